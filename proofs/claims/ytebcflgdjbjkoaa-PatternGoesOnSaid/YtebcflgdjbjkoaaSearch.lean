/- pattern.search, from machines in memory and a test that only looks at its two bools; no condition beyond those that stand there. -/
import Derived.Deep.DeepCutAuto
import Derived.Deep.RegionHeld3
import Derived.BigQuiet
import Derived.Test.YtebcflgdjbjkoaaSrM
namespace Go.Proofs.Ytebcflgdjbjkoaa
open Go.RowKit

/-- The test of a search. -/
def Wants (F : FuncId) (want : Bool → Bool → Bool) : Prop := (∀ (args : Array Value) (W : World), (callFunc F args).run Try.prog W = .ok (.enter F args) W) ∧ ∀ (a b : Bool) (W : World), Calls Try.prog F #[.bool a, .bool b] W fun e W' => e = .returned (.bool (want a b)) ∧ W' = W
def SearchPost (want : Bool → Bool → Bool) (c1 f1 c2 f2 : List Set4) (x1 x2 : Part) (w : World) (e : Ending) (w' : World) : Prop :=
  Below w.heap.size w w' ∧ ((∃ t : List UInt8, e = .returned (.tuple #[.string ⟨t.toArray⟩, .bool true]) ∧ t.length ≤ 160000 ∧ want (endsM x1 (runM c1 f1 t)) (endsM x2 (runM c2 f2 t)) = true ∧ ∀ u, want (endsM x1 (runM c1 f1 u)) (endsM x2 (runM c2 f2 u)) = true → sle t u) ∨
    (e = .returned (.tuple #[.string ⟨#[]⟩, .bool false]) ∧ ∀ u, want (endsM x1 (runM c1 f1 u)) (endsM x2 (runM c2 f2 u)) = false))
theorem search_none {want : Bool → Bool → Bool} {B0 : Nat} {c1 f1 c2 f2 : List Set4} {x1 x2 : Part} {s1 s2 : List Set4} {r1 r2 : List (List Nat)} {e1 e2 : List Bool} {nv1 ev1 nv2 ev2 : Value} {W : World} {L : List Nd}
    (h1 : MachAt B0 c1 f1 x1 s1 r1 e1 nv1 ev1 W) (h2 : MachAt B0 c2 f2 x2 s2 r2 e2 nv2 ev2 W) (hS : Srch (dM r1) (dM r2) L L.length 0) (hlow : ∀ (j : Nat) (m : Nd), j < L.length → L[j]? = some m → want (e1.getD m.a false) (e2.getD m.b false) = false) (u : List UInt8) :
    want (endsM x1 (runM c1 f1 u)) (endsM x2 (runM c2 f2 u)) = false := by
  have h := hS.none (fun a b => want (e1.getD a false) (e2.getD b false) = true) (fun j m hj => by rw [hlow j m (List.getElem?_eq_some_iff.1 hj).1 hj]; simp) u
  simp only [h1.dends, h2.dends] at h
  cases hw : want (endsM x1 (runM c1 f1 u)) (endsM x2 (runM c2 f2 u)) with
  | false => rfl
  | true => exact absurd hw h
theorem search_found {want : Bool → Bool → Bool} {B0 : Nat} {c1 f1 c2 f2 : List Set4} {x1 x2 : Part} {s1 s2 : List Set4} {r1 r2 : List (List Nat)} {e1 e2 : List Bool} {nv1 ev1 nv2 ev2 : Value} {W : World} {L : List Nd} {k : Nat} {n : Nd}
    (h1 : MachAt B0 c1 f1 x1 s1 r1 e1 nv1 ev1 W) (h2 : MachAt B0 c2 f2 x2 s2 r2 e2 nv2 ev2 W) (hS : Srch (dM r1) (dM r2) L k 0) (hk : L[k]? = some n) (hlow : ∀ (j : Nat) (m : Nd), j < k → L[j]? = some m → want (e1.getD m.a false) (e2.getD m.b false) = false)
    (hw : want (e1.getD n.a false) (e2.getD n.b false) = true) :
    want (endsM x1 (runM c1 f1 n.txt)) (endsM x2 (runM c2 f2 n.txt)) = true ∧ ∀ u, want (endsM x1 (runM c1 f1 u)) (endsM x2 (runM c2 f2 u)) = true → sle n.txt u := by
  obtain ⟨a1, a2⟩ := hS.at k n hk
  refine ⟨by rw [← h1.dends, ← h2.dends, ← a1, ← a2]; exact hw, fun u hu => ?_⟩
  exact hS.found (fun a b => want (e1.getD a false) (e2.getD b false) = true) hk (fun j m hj hm => by rw [hlow j m hj hm]; simp) u (by simp only [h1.dends, h2.dends]; exact hu)
/-- An exchange in a row of bytes. -/
def SwapAt (base q cap n : Nat) (ys : List Value) (w w' : World) : Prop := w'.ownsRow base 5 1 (.slice (some ⟨q, 0, none⟩) n cap) n ys ∧ One q w w'
theorem swap_one {base q i j cap n : Nat} {xs ys : List Value} {a b : Value} {w : World} (h : w.ownsRow base 5 1 (.slice (some ⟨q, 0, none⟩) n cap) n xs) (hy : ys = (xs.set i b).set j a) :
    SwapAt base q cap n ys w ((w.setCell ⟨q, i, none⟩ b).setCell ⟨q, j, none⟩ a).drew := by
  refine ⟨?_, ?_⟩
  · rw [hy]
    exact (World.ownsRow.stored (World.ownsRow.stored h i b).1 j a).1
  · exact (one_cell q i w b).trans (one_set q j _ a)
theorem swap_two {base q i j cap n : Nat} {xs ys : List Value} {a b : Value} {w : World} (hne : i ≠ j) (h : w.ownsRow base 5 1 (.slice (some ⟨q, 0, none⟩) n cap) n xs) (hy : ys = (xs.set i b).set j a) :
    SwapAt base q cap n ys w ((w.setCell ⟨q, j, none⟩ a).setCell ⟨q, i, none⟩ b).drew := by
  refine ⟨?_, ?_⟩
  · rw [hy, List.set_comm _ _ hne]
    exact (World.ownsRow.stored (World.ownsRow.stored h j a).1 i b).1
  · exact (one_cell q j w a).trans (one_set q i _ b)
set_option maxRecDepth 100000 in
set_option maxHeartbeats 4000000 in
theorem search_any (F : FuncId) (want : Bool → Bool → Bool) (hF : Wants F want) (B0 : Nat) (c1 f1 c2 f2 : List Set4) (x1 x2 : Part) (s1 s2 : List Set4) (r1 r2 : List (List Nat)) (e1 e2 : List Bool) (nv1 ev1 nv2 ev2 : Value) (w : World)
    (h1 : MachAt B0 c1 f1 x1 s1 r1 e1 nv1 ev1 w) (h2 : MachAt B0 c2 f2 x2 s2 r2 e2 nv2 ev2 w) :
    Calls Try.prog 30 #[.agg #[nv1, ev1], .agg #[nv2, ev2], .func (.func F) #[] #[]] w (SearchPost want c1 f1 c2 f2 x1 x2 w) := by
  obtain ⟨g1, k1, rfl, hg1, -⟩ := row_some h1.nrow h1.rpos
  obtain ⟨g2, k2, rfl, hg2, -⟩ := row_some h1.erow h1.epos
  obtain ⟨g3, k3, rfl, hg3, -⟩ := row_some h2.nrow h2.rpos
  obtain ⟨g4, k4, rfl, hg4, -⟩ := row_some h2.erow h2.epos
  have hab := ((Below.refl w.heap.size w).alloc (Nat.le_refl _) (.cells #[.slice (some ⟨g1, 0, none⟩) r1.length k1, .slice (some ⟨g2, 0, none⟩) e1.length k2] 58 (0, 0))).alloc (by simp) (.cells #[.slice (some ⟨g3, 0, none⟩) r2.length k3, .slice (some ⟨g4, 0, none⟩) e2.length k4] 58 (0, 0))
  have eA := pair1 w (.cells #[.slice (some ⟨g1, 0, none⟩) r1.length k1, .slice (some ⟨g2, 0, none⟩) e1.length k2] 58 (0, 0)) (.cells #[.slice (some ⟨g3, 0, none⟩) r2.length k3, .slice (some ⟨g4, 0, none⟩) e2.length k4] 58 (0, 0))
  have eB := pair2 w (.cells #[.slice (some ⟨g1, 0, none⟩) r1.length k1, .slice (some ⟨g2, 0, none⟩) e1.length k2] 58 (0, 0)) (.cells #[.slice (some ⟨g3, 0, none⟩) r2.length k3, .slice (some ⟨g4, 0, none⟩) e2.length k4] 58 (0, 0))
  have hsz : ((w.alloc (.cells #[.slice (some ⟨g1, 0, none⟩) r1.length k1, .slice (some ⟨g2, 0, none⟩) e1.length k2] 58 (0, 0))).alloc (.cells #[.slice (some ⟨g3, 0, none⟩) r2.length k3, .slice (some ⟨g4, 0, none⟩) e2.length k4] 58 (0, 0))).heap.size = w.heap.size + 1 + 1 := by simp
  have HI := Lib.hid (And.intro hab (And.intro eA (And.intro eB (And.intro hsz (And.intro h1 h2)))))
  have HF := Lib.hid hF.2
  have hcf := hF.1
  have hmm := @run_makeMap Try.prog
  clear hab eA eB hsz h1 h2 hF
  go_enter Try.func30, Try.ntmps30
  go_upto_region 1 with fail
  have hi := HI.out
  clear HI
  generalize (w.alloc (.cells #[.slice (some ⟨g1, 0, none⟩) r1.length k1, .slice (some ⟨g2, 0, none⟩) e1.length k2] 58 (0, 0))).alloc (.cells #[.slice (some ⟨g3, 0, none⟩) r2.length k3, .slice (some ⟨g4, 0, none⟩) e2.length k4] 58 (0, 0)) = W0 at *
  have HI := Lib.hid hi
  clear hi
  have hmd : ((W0.alloc (.cells #[.int .i16 0, .int .i16 0, .int .i64 (-1), .int .u8 0] 106 (0, 0))).alloc (.map #[] 0)).ownsMap Try.prog 104 (plainElem (H := Unit) Try.prog 4) (W0.heap.size + 1) 0 (.map []) := by
    have := World.ownsMap_made (H := Unit) (W0.alloc (.cells #[.int .i16 0, .int .i16 0, .int .i64 (-1), .int .u8 0] 106 (0, 0))) Try.prog 104 (plainElem Try.prog 4)
    rw [World.size_alloc] at this
    exact this
  have HM := Lib.hid hmd
  clear hmd
  go_upto_region 3 with (refine wpList_seen_ins _ rfl _ _ _ _ rfl (by kernel_rfl) (W0.heap.size + 1) (0, 0) rfl HM.out ⟨by decide, by decide⟩ rfl rfl ?_; intro w4 hn4 hg4; have HN := Lib.hid (And.intro hn4 hg4); clear hn4 hg4)
  clear hmm HM
  obtain ⟨hn4, hg4⟩ := HN.out
  obtain ⟨hab, eA, eB, hsz, h1, h2⟩ := HI.out
  clear HN HI
  have hb4 : Below W0.heap.size W0 w4 := (((Below.refl W0.heap.size W0).alloc (Nat.le_refl _) _).alloc (by simp) _).grown hg4 (by simp; omega) (fun k hk => by injection hk with hk; omega)
  have hsr : SrAt (w.heap.size + 2) (W0.heap.size + 1) w.heap.size (w.heap.size + 1) w (.slice (some ⟨g1, 0, none⟩) r1.length k1) (.slice (some ⟨g2, 0, none⟩) e1.length k2) (.slice (some ⟨g3, 0, none⟩) r2.length k3) (.slice (some ⟨g4, 0, none⟩) e2.length k4) [nd0] (.slice (some ⟨W0.heap.size, 0, none⟩) 1 1) w4 := by
    have hs4 := hb4.size
    have hrow : (W0.alloc (.cells #[.int .i16 0, .int .i16 0, .int .i64 (-1), .int .u8 0] 106 (0, 0))).ownsRow (w.heap.size + 2) 106 4 (.slice (some ⟨W0.heap.size, 0, none⟩) 1 1) 1 (nodesC [nd0]) :=
      ⟨rfl, Or.inr ⟨W0.heap.size, 1, #[.int .i16 0, .int .i16 0, .int .i64 (-1), .int .u8 0], rfl, by omega, heap_alloc_new .., Nat.le_refl _, by decide, rfl, rfl⟩⟩
    refine ⟨hab.trans (hb4.mono hab.size), ⟨by omega, by omega⟩, (hb4.block _ (lt_of_block eA)).trans eA, (hb4.block _ (lt_of_block eB)).trans eB, hn4, ?_⟩
    refine row_keepP (hrow.alloc (.map #[] 0)) fun q hq => hg4.block q ?_ ?_
    · have : W0.heap.size = q := by injection hq
      simp
      omega
    · have : W0.heap.size = q := by injection hq
      intro e
      injection e with e
      omega
  have HM := Lib.hid (And.intro h1 h2)
  have HB := Lib.hid hsr
  have hgM : w.heap.size + 1 < W0.heap.size := by omega
  generalize W0.heap.size = Z0 at *
  clear hab eA eB h1 h2 hn4 hg4 hb4 hsr hsz
  go_wp2_with fail
  go_loopw [8, 10] (fun lv kv wr => ∃ (k : Nat) (L : List Nd) (g cap : Nat), kv = .int .i64 k ∧ lv = .slice (some ⟨g, 0, none⟩) L.length cap ∧ k ≤ L.length ∧ SrAt (w.heap.size + 2) (Z0 + 1) w.heap.size (w.heap.size + 1) w (.slice (some ⟨g1, 0, none⟩) r1.length k1) (.slice (some ⟨g2, 0, none⟩) e1.length k2) (.slice (some ⟨g3, 0, none⟩) r2.length k3) (.slice (some ⟨g4, 0, none⟩) e2.length k4) L lv wr ∧
    Srch (dM r1) (dM r2) L k 0 ∧ ∀ (j : Nat) (m : Nd), j < k → L[j]? = some m → want (e1.getD m.a false) (e2.getD m.b false) = false) (fun _ kv _ => 160000 - (intOf kv).toNat)
  case atStart => exact ⟨0, [nd0], Z0, 1, rfl, rfl, Nat.zero_le _, HB.out, Srch.start _ _, fun j m h => by omega⟩
  case round =>
    clear HB
    obtain ⟨wo, rfl⟩ : ∃ wo, wo = wr := ⟨_, rfl⟩
    obtain ⟨k, L, g, cap, rfl, rfl, hk, hsr, hS, hlow⟩ := hrel
    have hM1 := HM.out.1.below hsr.bel
    have hM2 := HM.out.2.below hsr.bel
    obtain ⟨hall, hbd⟩ := hS.bound (N1 := s1.length) (N2 := s2.length) (fun a b ha hb => hM1.dlt ha hb) (fun a b ha hb => hM2.dlt ha hb) hM1.pos hM2.pos
    have hmul : s1.length * s2.length ≤ 400 * 400 := Nat.mul_le_mul hM1.half.len hM2.half.len
    have hLb : L.length ≤ 160000 := by omega
    by_cases hlt : k < L.length
    · have tk : (k : Int) < (L.length : Int) := by omega
      have hnk : ((k : Int)).toNat = k := by omega
      have wk : IntKind.i64.wrap ((k : Int) + 1) = (k : Int) + 1 := IntWalk.i64_in _ ⟨by omega, by omega⟩
      have hkn : L[k]? = some L[k] := List.getElem?_eq_getElem hlt
      generalize L[k] = n at *
      have hgl := (World.ownsRow.lt hsr.row g rfl).2
      have hcell := fun j (hj : j < 4) => (World.ownsRow.cellAt hsr.row (k * 4 + j) (by omega)).trans (nodesC_get L k n j hkn hj)
      have f0 : wo.cell? ⟨g, k * 4, none⟩ = some (.int .i16 (n.a : Nat)) := hcell 0 (by decide)
      have f1 : wo.cell? ⟨g, k * 4 + 1, none⟩ = some (.int .i16 (n.b : Nat)) := hcell 1 (by decide)
      have f2 : wo.cell? ⟨g, k * 4 + 2, none⟩ = some (.int .i64 (srcI n)) := hcell 2 (by decide)
      have f3 : wo.cell? ⟨g, k * 4 + 3, none⟩ = some (.int .u8 (n.byt : Nat)) := hcell 3 (by decide)
      have hal := (Below.refl wo.heap.size wo).alloc (Nat.le_refl _) (.cells #[.int .i16 (n.a : Nat), .int .i16 (n.b : Nat), .int .i64 (srcI n), .int .u8 (n.byt : Nat)] 106 (0, 0))
      have eX := heap_alloc_new wo (.cells #[.int .i16 (n.a : Nat), .int .i16 (n.b : Nat), .int .i64 (srcI n), .int .u8 (n.byt : Nat)] 106 (0, 0))
      have hna := hall n (List.mem_of_getElem? hkn)
      have HR := Lib.hid (And.intro (hsr.below hal) (And.intro (hM1.below hal) (And.intro (hM2.below hal) (And.intro eX (And.intro hna (And.intro hkn (And.intro hS (And.intro hlow hsr.bel.size))))))))
      clear hsr hM1 hM2 hal eX hna hkn hS hlow hall hcell
      go_upto_region 7 with fail
      have hr := HR.out
      clear HR f0 f1 f2 f3
      have hzo := hr.2.2.2.2.2.2.2.2
      generalize wo.alloc (.cells #[.int .i16 (n.a : Nat), .int .i16 (n.b : Nat), .int .i64 (srcI n), .int .u8 (n.byt : Nat)] 106 (0, 0)) = W1 at *
      generalize wo.heap.size = X at *
      obtain ⟨hsr, hM1, hM2, eX, ⟨hna, hnb⟩, hkn, hS, hlow, -⟩ := hr
      have hs1 := List.getElem?_eq_getElem hna
      have hs2 := List.getElem?_eq_getElem hnb
      have x0 : W1.cell? ⟨X, 0, none⟩ = some (.int .i16 (n.a : Nat)) := by rw [Lib.cell_of_heap eX]; rfl
      have x1' : W1.cell? ⟨X, 1, none⟩ = some (.int .i16 (n.b : Nat)) := by rw [Lib.cell_of_heap eX]; rfl
      have ma0 : W1.cell? ⟨w.heap.size, 0, none⟩ = some (.slice (some ⟨g1, 0, none⟩) r1.length k1) := by rw [Lib.cell_of_heap hsr.ma]; rfl
      have ma1 : W1.cell? ⟨w.heap.size, 1, none⟩ = some (.slice (some ⟨g2, 0, none⟩) e1.length k2) := by rw [Lib.cell_of_heap hsr.ma]; rfl
      have mb0 : W1.cell? ⟨w.heap.size + 1, 0, none⟩ = some (.slice (some ⟨g3, 0, none⟩) r2.length k3) := by rw [Lib.cell_of_heap hsr.mb]; rfl
      have mb1 : W1.cell? ⟨w.heap.size + 1, 1, none⟩ = some (.slice (some ⟨g4, 0, none⟩) e2.length k4) := by rw [Lib.cell_of_heap hsr.mb]; rfl
      obtain ⟨b1, hb1⟩ : ∃ b, b = e1.getD n.a false := ⟨_, rfl⟩
      obtain ⟨b2, hb2⟩ : ∃ b, b = e2.getD n.b false := ⟨_, rfl⟩
      have y1 : W1.cell? ⟨g2, n.a, none⟩ = some (.bool b1) := by rw [hb1]; exact (World.ownsRow.cellAt hM1.erow n.a (by have := hM1.half.el; omega)).trans (hM1.dend hs1).1
      have y2 : W1.cell? ⟨g4, n.b, none⟩ = some (.bool b2) := by rw [hb2]; exact (World.ownsRow.cellAt hM2.erow n.b (by have := hM2.half.el; omega)).trans (hM2.dend hs2).1
      have ta : (n.a : Int) < (e1.length : Int) := by have := hM1.half.el; omega
      have tb : (n.b : Int) < (e2.length : Int) := by have := hM2.half.el; omega
      have na : ((n.a : Int)).toNat = n.a := by omega
      have nb : ((n.b : Int)).toNat = n.b := by omega
      have HR := Lib.hid (And.intro hsr (And.intro hM1 (And.intro hM2 (And.intro eX (And.intro (And.intro hna hnb) (And.intro hkn (And.intro hS (And.intro hlow (And.intro hzo (And.intro hb1 hb2))))))))))
      clear hb1 hb2 hsr hM1 hM2 eX hna hnb hkn hS hlow hs1 hs2
      go_quiet (exact Calls.quiet_of_same (HF.out _ _ _))
      have hr := HR.out
      clear HR x0 x1' ma0 ma1 mb0 mb1 y1 y2 ta tb na nb
      have hdr : Below W1.heap.size W1 (W1.drewN nq) := ⟨rfl, rfl, rfl, Nat.le_refl _, fun _ _ => rfl⟩
      obtain ⟨hsr, hM1, hM2, eX, ⟨hna, hnb⟩, hkn, hS, hlow, hzo, hb1, hb2⟩ := hr
      replace hsr := hsr.below hdr
      replace hM1 := hM1.below hdr
      replace hM2 := hM2.below hdr
      replace eX := (hdr.block _ (lt_of_block eX)).trans eX
      clear hdr
      generalize W1.drewN nq = W2 at *
      cases hwb : want b1 b2 with
      | true =>
        rw [hb1, hb2] at hwb
        have hfd := search_found hM1 hM2 hS hkn hlow hwb
        have hsh := hS.short k n hkn
        have hnode := hS.node
        have hzero := hS.zero
        have HR := Lib.hid (And.intro hsr (And.intro hfd (And.intro hsh (And.intro hnode hzero))))
        have hkn' := Lib.hid hkn
        have hgw : g < W2.heap.size := (World.ownsRow.lt hsr.row g rfl).2
        clear hsr hM1 hM2 eX hkn hS hlow hb1 hb2 hwb hfd hsh hnode hzero
        go_wp2_with fail
        go_loopw [12, 10] (fun ov kv wr => ∃ (i : Nat) (m : Nd) (out : List UInt8), kv = .int .i64 i ∧ L[i]? = some m ∧ n.txt = m.txt ++ out.reverse ∧ wr.ownsRow W2.heap.size 5 1 ov out.length (bytC out) ∧ Below W2.heap.size W2 wr) (fun _ kv _ => (intOf kv).toNat)
        case atStart => exact ⟨k, n, [], rfl, hkn'.out, by simp, World.ownsRow_nil .., Below.refl _ _⟩
        case round =>
          clear hkn'
          obtain ⟨wq, rfl⟩ : ∃ wq, wq = wr := ⟨_, rfl⟩
          obtain ⟨i, m, out, rfl, him, htx, hrow, hbe⟩ := hrel
          obtain ⟨oa, oc, rfl, hoc⟩ := row_slice hrow
          have hil := (List.getElem?_eq_some_iff.1 him).1
          have hni : ((i : Int)).toNat = i := by omega
          have ti : (i : Int) < (L.length : Int) := by omega
          have f2 : wq.cell? ⟨g, i * 4 + 2, none⟩ = some (.int .i64 (srcI m)) := (World.ownsRow.cellAt (HR.out.1.below hbe).row (i * 4 + 2) (by omega)).trans (nodesC_get L i m 2 him (by decide))
          by_cases hm : m.txt = []
          · have hsi : srcI m = -1 := by unfold srcI; rw [if_pos hm]
            rw [hsi] at f2
            have hot : n.txt = out.reverse := by rw [htx, hm]; rfl
            have HO := Lib.hid (And.intro hrow (And.intro hbe hot))
            have hol : out.length ≤ 160000 := by
              have := HR.out.2.2.1
              rw [hot] at this
              simp at this
              omega
            have hol2 : (0 : Int) ≤ (out.length : Int) := by omega
            have wo2 : IntKind.i64.wrap ((out.length : Int) - 1) = (out.length : Int) - 1 := IntWalk.i64_in _ ⟨by omega, by omega⟩
            clear hrow hbe hot htx him hil hm hsi
            go_wp2_with fail
            clear wo2
            go_loopw [13, 14] (fun iv jv wr => ∃ (i : Nat) (z : Int), iv = .int .i64 i ∧ jv = .int .i64 z ∧ z = (out.length : Int) - 1 - (i : Int) ∧ 2 * i ≤ out.length ∧ wr.ownsRow W2.heap.size 5 1 (.slice oa out.length oc) out.length (bytC (swapN out i)) ∧ Below W2.heap.size W2 wr) (fun iv _ _ => out.length - (intOf iv).toNat)
            case atStart => exact ⟨0, _, rfl, rfl, by omega, by omega, HO.out.1, HO.out.2.1⟩
            case round =>
              have hot := Lib.hid HO.out.2.2
              clear HO f2
              obtain ⟨wz, rfl⟩ : ∃ wz, wz = wr := ⟨_, rfl⟩
              obtain ⟨i, z, rfl, rfl, hz, hi2, hrow, hbe⟩ := hrel
              by_cases hij : (i : Int) < z
              · obtain ⟨j, rfl⟩ : ∃ j : Nat, z = (j : Int) := ⟨z.toNat, by omega⟩
                have hj : j = out.length - 1 - i := by omega
                obtain ⟨q, qc, hq⟩ := ownsRow_formW hrow (by omega)
                injection hq with hq1 hq2 hq3
                subst hq1
                have hsl := swapN_len out i
                have c0 := (World.ownsRow.cellAt hrow i (by omega)).trans (bytC_get (l := swapN out i) (i := i) (by omega))
                have c1 := (World.ownsRow.cellAt hrow j (by omega)).trans (bytC_get (l := swapN out i) (i := j) (by omega))
                have z0 := World.ownsRow.frozenAt hrow i
                have z1 := World.ownsRow.frozenAt hrow j
                have hsw : (swapN out i).getD j 0 = (swapN out i).getD (out.length - 1 - i) 0 := by rw [hj]
                have hs1 : bytC (swapN out (i + 1)) = ((bytC (swapN out i)).set i (.int .u8 (((swapN out i).getD j 0).toNat : Nat))).set j (.int .u8 (((swapN out i).getD i 0).toNat : Nat)) := by
                  rw [bytC_set, bytC_set, hj]
                  rfl
                generalize ((swapN out i).getD i 0).toNat = a at *
                generalize ((swapN out i).getD j 0).toNat = b at *
                have ni : ((i : Int)).toNat = i := by omega
                have nj : ((j : Int)).toNat = j := by omega
                have til : (i : Int) < (out.length : Int) := by omega
                have tjl : (j : Int) < (out.length : Int) := by omega
                have wi : IntKind.i64.wrap ((i : Int) + 1) = (i : Int) + 1 := IntWalk.i64_in _ ⟨by omega, by omega⟩
                have wj : IntKind.i64.wrap ((j : Int) - 1) = (j : Int) - 1 := IntWalk.i64_in _ ⟨by omega, by omega⟩
                have hne : i ≠ j := by omega
                have HO := Lib.hid (And.intro hrow (And.intro hbe (And.intro hs1 (And.intro hz hi2))))
                clear hrow hbe hs1 hz hi2 hj hsl hsw hq2 hq3
                go_wp2_with fail
                go_region_law (fail)
                all_goals
                  have hsw := swap_one (a := Value.int .u8 (a : Nat)) (b := Value.int .u8 (b : Nat)) HO.out.1 HO.out.2.2.1
                  generalize ((wz.setCell ⟨q, i, none⟩ (Value.int .u8 (b : Nat))).setCell ⟨q, j, none⟩ (Value.int .u8 (a : Nat))).drew = w9 at *
                  have HN := Lib.hid (And.intro hsw.1 (HO.out.2.1.trans (hsw.2.below (World.ownsRow.lt HO.out.1 q rfl).1)))
                  clear c0 c1 z0 z1 hsw
                  go_wp2_with fail
                  have hz := HO.out.2.2.2
                  exact ⟨⟨i + 1, (j : Int) - 1, by simp, rfl, by omega, by omega, HN.out.1, HN.out.2⟩, by simp [intOf]; omega⟩
              · have tij : decide ((i : Int) < z) = false := decide_eq_false hij
                have hrev : swapN out i = n.txt := by rw [hot.out]; exact swapN_rev out i hi2 (by omega)
                have hcv := conv_row (l := swapN out i) (by rw [swapN_len]; exact hrow)
                rw [hrev] at hcv
                have HO := Lib.hid hbe
                clear hrow hbe hrev hz
                go_wp2_with fail
                go_returns
                exact ⟨HR.out.1.bel.trans (HO.out.mono HR.out.1.bel.size), Or.inl ⟨n.txt, rfl, by have := HR.out.2.2.1; omega, HR.out.2.1⟩⟩
          · have h0 : 0 < i := by
              rcases Nat.eq_zero_or_pos i with rfl | h
              · obtain ⟨z, hz, _, _, hz3⟩ := HR.out.2.2.2.2
                rw [hz] at him
                injection him with him
                subst him
                exact absurd hz3 hm
              · exact h
            obtain ⟨hsl, hbl, p, hp, hpt, -⟩ := HR.out.2.2.2.1 i m him h0
            have hsi : srcI m = (m.src : Int) := by unfold srcI; rw [if_neg hm]
            rw [hsi] at f2
            have f3 : wq.cell? ⟨g, i * 4 + 3, none⟩ = some (.int .u8 (m.byt : Nat)) := (World.ownsRow.cellAt (HR.out.1.below hbe).row (i * 4 + 3) (by omega)).trans (nodesC_get L i m 3 him (by decide))
            have hol : out.length ≤ 160000 := by
              have := HR.out.2.2.1
              rw [htx] at this
              simp at this
              omega
            have hge : (0 : Int) ≤ (m.src : Int) := by omega
            have HO := Lib.hid (And.intro hbe (And.intro htx (And.intro hp (And.intro hpt (And.intro hbl f2)))))
            have hbz := hbe.size
            clear hbe htx him hp hpt hm hsi
            go_wp2_with (at_builtin; refine append_big elem_u8 rfl _ _ _ rfl (by kernel_rfl) W2.heap.size _ out.length (bytC out) rfl (hrow.alloc _) (by omega) wq.heap.size 1 [.int .u8 (m.byt : Nat)] rfl rfl (heap_alloc_new ..) (one_int _ _) (by simp; omega) ?_; intro g5 cap5 w5 hrow5 hg5 hl5
                         have hb5 : Below W2.heap.size W2 w5 := HO.out.1.trans ((((Below.refl wq.heap.size wq).alloc (Nat.le_refl _) _).mono hbz).grown hg5 (by simp; omega) (fun q hq => (World.ownsRow.lt hrow q hq).1))
                         have f2 : w5.cell? ⟨g, i * 4 + 2, none⟩ = some (.int .i64 (m.src : Nat)) := (by rw [World.cell?_of_block (hb5.block g hgw), ← World.cell?_of_block (HO.out.1.block g hgw)]; exact HO.out.2.2.2.2.2)
                         have HP := Lib.hid (And.intro hrow5 hb5)
                         clear hrow5 hg5 hl5 hb5)
            refine ⟨⟨m.src, p, out ++ [UInt8.ofNat m.byt], rfl, HO.out.2.2.1, by rw [HO.out.2.1, HO.out.2.2.2.1]; simp, ?_, HP.out.2⟩, by simp [intOf]; omega⟩
            rw [bytC_app, List.length_append]
            have := HP.out.1
            rw [show (bytC [UInt8.ofNat m.byt]) = [.int .u8 (m.byt : Nat)] by simp only [bytC, List.map_cons, List.map_nil, ofNat_toNat8 HO.out.2.2.2.2.1]]
            exact this
      | false =>
        rw [hb1, hb2] at hwb
        have hgX : g ≠ X := fun e => by omega
        have hXl := lt_of_block eX
        have HR := Lib.hid (And.intro hsr (And.intro hM1 (And.intro hM2 (And.intro eX (And.intro hkn (And.intro hS hlow))))))
        have HW := Lib.hid (And.intro hwb hgX)
        have hna2 : (n.a : Int) < (r1.length : Int) := by have := hM1.half.rl; omega
        have hnb2 : (n.b : Int) < (r2.length : Int) := by have := hM2.half.rl; omega
        have na : ((n.a : Int)).toNat = n.a := by omega
        have nb : ((n.b : Int)).toNat = n.b := by omega
        have HE := Lib.hid (And.intro hb1 hb2)
        clear hsr hM1 hM2 eX hkn hS hlow hb1 hb2 hwb hgX tk hnk
        go_wp2_with fail
        go_loopw [8, 93] (fun lv bv wr => ∃ (b : Nat) (L' : List Nd) (g' cap' : Nat), bv = .int .i64 b ∧ lv = .slice (some ⟨g', 0, none⟩) L'.length cap' ∧ b ≤ 256 ∧ g' ≠ X ∧ SrAt (w.heap.size + 2) (Z0 + 1) w.heap.size (w.heap.size + 1) w (.slice (some ⟨g1, 0, none⟩) r1.length k1) (.slice (some ⟨g2, 0, none⟩) e1.length k2) (.slice (some ⟨g3, 0, none⟩) r2.length k3) (.slice (some ⟨g4, 0, none⟩) e2.length k4) L' lv wr ∧
          Srch (dM r1) (dM r2) L' k b ∧ L'[k]? = some n ∧ wr.heap[X]? = some (.cells #[.int .i16 (n.a : Nat), .int .i16 (n.b : Nat), .int .i64 (srcI n), .int .u8 (n.byt : Nat)] 106 (0, 0)) ∧ ∀ (j : Nat) (m : Nd), j < k → L'[j]? = some m → want (e1.getD m.a false) (e2.getD m.b false) = false) (fun _ bv _ => 256 - (intOf bv).toNat)
        case atStart => exact ⟨0, L, g, cap, rfl, rfl, Nat.zero_le _, HW.out.2, HR.out.1, HR.out.2.2.2.2.2.1, HR.out.2.2.2.2.1, HR.out.2.2.2.1, HR.out.2.2.2.2.2.2⟩
        case round =>
          have hM1b := HM.out.1
          clear HR
          obtain ⟨wq, rfl⟩ : ∃ wq, wq = wr := ⟨_, rfl⟩
          obtain ⟨b, L', g', cap', rfl, rfl, hb, hgX, hsr, hS, hkn, eX, hlow⟩ := hrel
          have hM1 := HM.out.1.below hsr.bel
          have hM2 := HM.out.2.below hsr.bel
          by_cases hlb : b < 256
          · have tb : (b : Int) < 256 := by omega
            have wb : IntKind.i64.wrap ((b : Int) + 1) = (b : Int) + 1 := IntWalk.i64_in _ ⟨by omega, by omega⟩
            have hnb8 : ((b : Int)).toNat = b := by omega
            have hs1 := List.getElem?_eq_getElem hna
            have hs2 := List.getElem?_eq_getElem hnb
            have q1 := (World.ownsRow.cellAt hM1.nrow (n.a * 256 + b) (by have := hM1.half.rl; omega)).trans (hM1.dstep hs1 hlb).1
            have q2 := (World.ownsRow.cellAt hM2.nrow (n.b * 256 + b) (by have := hM2.half.rl; omega)).trans (hM2.dstep hs2 hlb).1
            have d1 := hM1.dlt hna hlb
            have d2 := hM2.dlt hnb hlb
            have d3 := hM1.half.len
            have d4 := hM2.half.len
            obtain ⟨hall, hbd⟩ := hS.bound (N1 := s1.length) (N2 := s2.length) (fun a b ha hb => hM1.dlt ha hb) (fun a b ha hb => hM2.dlt ha hb) hM1.pos hM2.pos
            have hLb : L'.length ≤ 160000 := by omega
            obtain ⟨u1, hu1⟩ : ∃ u, u = dM r1 n.a b := ⟨_, rfl⟩
            obtain ⟨u2, hu2⟩ : ∃ u, u = dM r2 n.b b := ⟨_, rfl⟩
            rw [← hu1] at q1 d1
            rw [← hu2] at q2 d2
            have hpo : PairOk (u1, u2) := ⟨by simp only; omega, by simp only; omega⟩
            have hgl1 := (World.ownsRow.lt hM1.nrow g1 rfl).2
            have hgl3 := (World.ownsRow.lt hM2.nrow g3 rfl).2
            have hma := hsr.ma
            have hmb := hsr.mb
            have HSf : ∀ w' : World, (∀ k, k < wq.heap.size → w'.heap[k]? = wq.heap[k]?) → w'.cell? ⟨w.heap.size, 0, none⟩ = some (.slice (some ⟨g1, 0, none⟩) r1.length k1) ∧ w'.cell? ⟨w.heap.size + 1, 0, none⟩ = some (.slice (some ⟨g3, 0, none⟩) r2.length k3) ∧ w'.cell? ⟨X, 0, none⟩ = some (.int .i16 (n.a : Nat)) ∧ w'.cell? ⟨X, 1, none⟩ = some (.int .i16 (n.b : Nat)) ∧ w'.cell? ⟨g1, n.a * 256 + b, none⟩ = some (.int .i16 (u1 : Nat)) ∧ w'.cell? ⟨g3, n.b * 256 + b, none⟩ = some (.int .i16 (u2 : Nat)) := fun w' hw' => by
              refine ⟨?_, ?_, ?_, ?_, ?_, ?_⟩
              · rw [Lib.cell_of_heap ((hw' _ (lt_of_block hma)).trans hma)]; rfl
              · rw [Lib.cell_of_heap ((hw' _ (lt_of_block hmb)).trans hmb)]; rfl
              · rw [Lib.cell_of_heap ((hw' _ (lt_of_block eX)).trans eX)]; rfl
              · rw [Lib.cell_of_heap ((hw' _ (lt_of_block eX)).trans eX)]; rfl
              · rw [World.cell?_of_block (hw' _ hgl1)]; exact q1
              · rw [World.cell?_of_block (hw' _ hgl3)]; exact q2
            have HS := Lib.hid HSf
            have HQ := Lib.hid (And.intro hsr (And.intro hS (And.intro hkn (And.intro eX (And.intro hlow (And.intro hu1 hu2))))))
            clear hsr hS hkn eX hlow hu1 hu2 hM1 hM2 hs1 hs2 q1 q2 HSf hma hmb hall
            go_wp2_with fail
            go_region_held3 (fun w' => w'.cell? ⟨w.heap.size, 0, none⟩ = some (.slice (some ⟨g1, 0, none⟩) r1.length k1) ∧ w'.cell? ⟨w.heap.size + 1, 0, none⟩ = some (.slice (some ⟨g3, 0, none⟩) r2.length k3) ∧ w'.cell? ⟨X, 0, none⟩ = some (.int .i16 (n.a : Nat)) ∧ w'.cell? ⟨X, 1, none⟩ = some (.int .i16 (n.b : Nat)) ∧ w'.cell? ⟨g1, n.a * 256 + b, none⟩ = some (.int .i16 (u1 : Nat)) ∧ w'.cell? ⟨g3, n.b * 256 + b, none⟩ = some (.int .i16 (u2 : Nat)))
              (first | assumption | exact HS.out _ (fun _ _ => rfl) | exact HS.out _ (fun k hk => heap_alloc_old _ _ hk))
              (first | fail)
            have hal := (Below.refl wq.heap.size wq).alloc (Nat.le_refl _) (.cells #[.int .i16 (u1 : Nat), .int .i16 (u2 : Nat)] 104 (0, 0))
            have eY := heap_alloc_new wq (.cells #[.int .i16 (u1 : Nat), .int .i16 (u2 : Nat)] 104 (0, 0))
            replace hal : Below wq.heap.size wq (wq.alloc (.cells #[.int .i16 (u1 : Nat), .int .i16 (u2 : Nat)] 104 (0, 0))).drew := ⟨hal.os, hal.tape, hal.output, hal.size, hal.block⟩
            replace eY : (wq.alloc (.cells #[.int .i16 (u1 : Nat), .int .i16 (u2 : Nat)] 104 (0, 0))).drew.heap[wq.heap.size]? = some (.cells #[.int .i16 (u1 : Nat), .int .i16 (u2 : Nat)] 104 (0, 0)) := eY
            have hsY : (wq.alloc (.cells #[.int .i16 (u1 : Nat), .int .i16 (u2 : Nat)] 104 (0, 0))).drew.heap.size = wq.heap.size + 1 := by show (wq.alloc _).heap.size = _; simp
            obtain ⟨hsr, hS, hkn, eX, hlow, hu1, hu2⟩ := HQ.out
            have hsr8 := hsr.below hal
            have eX8 := (hal.block _ (lt_of_block eX)).trans eX
            have hwl := lt_of_block eX
            have hgl := (World.ownsRow.lt hsr.row g' rfl).2
            clear HQ HS hal hsr eX
            generalize (wq.alloc (.cells #[.int .i16 (u1 : Nat), .int .i16 (u2 : Nat)] 104 (0, 0))).drew = W8 at *
            generalize wq.heap.size = Y at *
            have hzz := run_zeroV (T := 4) (v := .bool false) (by kernel_rfl) W8
            have c0 : W8.cell? ⟨Y, 0, none⟩ = some (.int .i16 (u1 : Nat)) := by rw [Lib.cell_of_heap eY]; rfl
            have c1 : W8.cell? ⟨Y, 1, none⟩ = some (.int .i16 (u2 : Nat)) := by rw [Lib.cell_of_heap eY]; rfl
            by_cases hin : (u1, u2) ∈ L'.map fun n => (n.a, n.b)
            · have hS' := hS.old hlb hkn (by rw [← hu1, ← hu2]; exact hin)
              have hse := hsr8.seen
              have HQ := Lib.hid (And.intro hsr8 (And.intro hS' (And.intro hkn (And.intro eX8 (And.intro hlow (And.intro hse hin))))))
              clear hsr8 hS' hS hkn eX8 hlow hse hin hu1 hu2 eY hsY
              go_wp2_with (at_lookup; refine wpList_seen_look _ rfl _ _ _ rfl (by kernel_rfl) hzz (Z0 + 1) _ (u1, u2) rfl HQ.out.2.2.2.2.2.1 hpo rfl ?_; rw [decide_eq_true HQ.out.2.2.2.2.2.2])
              exact ⟨⟨b + 1, L', g', cap', by simp, rfl, by omega, hgX, HQ.out.1, HQ.out.2.1, HQ.out.2.2.1, HQ.out.2.2.2.1, HQ.out.2.2.2.2.1⟩, by simp [intOf]; omega⟩
            · have hS' := hS.new hlb hkn (by rw [← hu1, ← hu2]; exact hin)
              rw [← hu1, ← hu2] at hS'
              have hse := hsr8.seen
              have hrow := hsr8.row
              have hne1 : Y ≠ Z0 + 1 := seen_ne hse eY
              have hne2 : X ≠ Z0 + 1 := seen_ne hse eX8
              have hlo := hsr8.lo
              have hkb : k < L'.length := (List.getElem?_eq_some_iff.1 hkn).1
              have HQ := Lib.hid (And.intro hsr8 (And.intro hS' (And.intro hkn (And.intro eX8 (And.intro hlow (And.intro hse (And.intro hin (And.intro eY (And.intro hsY (And.intro hrow hlo))))))))))
              clear hsr8 hS' hS hkn eX8 hlow hse hin hu1 hu2 eY hsY hrow
              have hw8 : IntKind.u8.wrap (b : Int) = (b : Int) := by unfold IntKind.wrap; simp [IntKind.bits, IntKind.signed]; omega
              have hone : ∀ u ∈ [Value.int .i16 (u1 : Nat), Value.int .i16 (u2 : Nat), Value.int .i64 (k : Nat), Value.int .u8 (b : Nat)], u.oneCell' = true := fun u hu => by
                simp only [List.mem_cons, List.not_mem_nil, or_false] at hu
                rcases hu with rfl | rfl | rfl | rfl <;> rfl
              go_wp2_with (first
                | (at_lookup; refine wpList_seen_look _ rfl _ _ _ rfl (by kernel_rfl) hzz (Z0 + 1) _ (u1, u2) rfl HQ.out.2.2.2.2.2.1 hpo rfl ?_; rw [decide_eq_false HQ.out.2.2.2.2.2.2.1])
                | (at_mapUpdate; refine wpList_seen_put _ rfl _ _ _ _ rfl (by kernel_rfl) (Z0 + 1) _ (u1, u2) rfl HQ.out.2.2.2.2.2.1 hpo (by rw [List.length_map]; omega) rfl rfl ?_; intro wp hnp hgp
                   have eYp := (hgp.block Y (lt_of_block HQ.out.2.2.2.2.2.2.2.1) (fun e => hne1 (by injection e))).trans HQ.out.2.2.2.2.2.2.2.1
                   have c0 : wp.cell? ⟨Y, 0, none⟩ = some (.int .i16 (u1 : Nat)) := (by rw [Lib.cell_of_heap eYp]; rfl)
                   have c1 : wp.cell? ⟨Y, 1, none⟩ = some (.int .i16 (u2 : Nat)) := (by rw [Lib.cell_of_heap eYp]; rfl)
                   have hrow : wp.ownsRow (w.heap.size + 2) 106 4 (.slice (some ⟨g', 0, none⟩) L'.length cap') L'.length (nodesC L') := row_keepP HQ.out.2.2.2.2.2.2.2.2.2.1 fun q hq => hgp.block q (World.ownsRow.lt HQ.out.2.2.2.2.2.2.2.2.2.1 q hq).2 (fun e => (by obtain ⟨cu, hcu⟩ := row_cell HQ.out.2.2.2.2.2.2.2.2.2.1 hq; exact seen_ne HQ.out.2.2.2.2.2.1 hcu (by injection e)))
                   have hBp : w.heap.size + 2 ≤ wp.heap.size := Nat.le_trans hlo.2 hgp.size
                   have HP := Lib.hid (And.intro hnp hgp)
                   clear hnp hgp eYp)
                | (at_builtin; refine append_big elem_node rfl _ _ _ rfl (by kernel_rfl) (w.heap.size + 2) _ L'.length (nodesC L') rfl (hrow.alloc _) (by omega) wp.heap.size 1 [.int .i16 (u1 : Nat), .int .i16 (u2 : Nat), .int .i64 (k : Nat), .int .u8 (b : Nat)] rfl rfl (heap_alloc_new ..) hone (by simp; omega) ?_; intro g5 cap5 w5 hrow5 hg5 hl5
                   have HA := Lib.hid (And.intro hrow5 (And.intro hg5 hl5))
                   clear hrow5 hg5 hl5))
              have hG := HQ.out.1.grow (n := ⟨u1, u2, k, b, n.txt ++ [UInt8.ofNat b]⟩) HP.out.1 HP.out.2 (by omega) (b1 := (Below.refl wp.heap.size wp).alloc (Nat.le_refl _) _) HA.out.2.1 (lv2 := .slice (some ⟨g5, 0, none⟩) (L'.length + 1) cap5) (by
                have e : ndC ⟨u1, u2, k, b, n.txt ++ [UInt8.ofNat b]⟩ = [.int .i16 (u1 : Nat), .int .i16 (u2 : Nat), .int .i64 (k : Nat), .int .u8 (b : Nat)] := by
                  unfold ndC srcI
                  rw [if_neg (by simp)]
                rw [e]
                exact HA.out.1)
              have hpsz := HP.out.2.size
              have hg5X : g5 ≠ X := by
                rcases HA.out.2.2 with h | h
                · have : g' = g5 := by injection h
                  omega
                · rw [World.size_alloc] at h
                  have := HQ.out.2.2.2.2.2.2.2.2.1
                  omega
              refine ⟨⟨b + 1, _, g5, cap5, by simp, by simp, by omega, hg5X, hG.1, HQ.out.2.1, ?_, (hG.2 X (lt_of_block HQ.out.2.2.2.1) hne2 (fun e => hgX (by injection e))).trans HQ.out.2.2.2.1, fun j m hj hm => ?_⟩, by simp [intOf]; omega⟩
              · rw [List.getElem?_append_left hkb]; exact HQ.out.2.2.1
              · rw [List.getElem?_append_left (by omega)] at hm
                exact HQ.out.2.2.2.2.1 j m hj hm
          · have tb : decide ((b : Int) < 256) = false := decide_eq_false (by omega)
            obtain rfl : b = 256 := by omega
            have hlow2 : ∀ (j : Nat) (m : Nd), j < k + 1 → L'[j]? = some m → want (e1.getD m.a false) (e2.getD m.b false) = false := fun j m hj hm => by
              rcases Nat.lt_or_ge j k with h | h
              · exact hlow j m h hm
              · have e : j = k := by omega
                rw [e, hkn] at hm
                injection hm with hm
                rw [← hm, ← HE.out.1, ← HE.out.2]
                have := HW.out.1
                rw [← HE.out.1, ← HE.out.2] at this
                exact this
            have hkl := (List.getElem?_eq_some_iff.1 hkn).1
            have HQ := Lib.hid (And.intro hsr (And.intro hS.next hlow2))
            clear hsr hS hkn eX hlow hlow2 hM1 hM2
            go_wp2_with fail
            exact ⟨⟨k + 1, L', g', cap', by simp, rfl, by omega, HQ.out.1, HQ.out.2.1, HQ.out.2.2⟩, by simp [intOf]; omega⟩
    · have tk : decide ((k : Int) < (L.length : Int)) = false := decide_eq_false (by omega)
      have hkl : k = L.length := by omega
      subst hkl
      have HR := Lib.hid (And.intro hsr.bel (search_none hM1 hM2 hS hlow))
      clear hsr hS hlow hM1 hM2 hall
      go_wp2_with fail
      go_returns
      exact ⟨HR.out.1, Or.inr ⟨rfl, HR.out.2⟩⟩

end Go.Proofs.Ytebcflgdjbjkoaa
