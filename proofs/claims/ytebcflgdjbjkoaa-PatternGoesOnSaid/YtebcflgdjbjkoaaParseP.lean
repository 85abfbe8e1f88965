/- pattern.parse; no condition beyond those that stand there. -/
import Derived.Laws.OwnMore
import Derived.Laws.ResultCell
import Derived.Test.YtebcflgdjbjkoaaAltP
namespace Go.Proofs.Ytebcflgdjbjkoaa
open Go.RowKit

/-- The plan of a pattern: the rows of classes and of what follows, and the whole pattern as a part. -/
def planC (cv fv : Value) (x : Part) : Array Value := #[cv, fv, .bool x.em, .int .u64 (wd x.fst 0 : Nat), .int .u64 (wd x.fst 1 : Nat), .int .u64 (wd x.fst 2 : Nat), .int .u64 (wd x.fst 3 : Nat), .int .u64 (wd x.lst 0 : Nat), .int .u64 (wd x.lst 1 : Nat), .int .u64 (wd x.lst 2 : Nat), .int .u64 (wd x.lst 3 : Nat)]
structure PlanAt (B : Nat) (cls fol : List Set4) (cv fv : Value) (W : World) : Prop where
  crow : W.ownsRow B 114 4 cv cls.length (flatC cls)
  frow : W.ownsRow B 88 4 fv fol.length (flatC fol)
  cok : ∀ x ∈ cls, Words x
  fok : ∀ x ∈ fol, Words x
  len : cls.length = fol.length ∧ cls.length ≤ 256
theorem PlanAt.below {B : Nat} {cls fol : List Set4} {cv fv : Value} {W W' : World} (h : PlanAt B cls fol cv fv W) (hb : Below W.heap.size W W') : PlanAt B cls fol cv fv W' :=
  ⟨row_keepP h.crow fun g hg => hb.block g (World.ownsRow.lt h.crow g hg).2, row_keepP h.frow fun g hg => hb.block g (World.ownsRow.lt h.frow g hg).2, h.cok, h.fok, h.len⟩
def st0 : PSt := ⟨0, [e4], [e4], false⟩
/-- What parse answers of a pattern that it reads. -/
def ParsedTo (s : ByteArray) (cls fol : List Set4) (x : Part) : Prop := ∃ n st, readM s n .alt st0 = some (st, x) ∧ st.bad = false ∧ s.size ≤ st.pos ∧ cls = st.cls ∧ fol = st.fol.set 0 x.fst ∧ s.size ≤ 200
/-- The world behind a store of a part within a reader. -/
def putR (w : World) (g : Nat) (v0 v1 v2 v3 v4 v5 v6 v7 v8 : Value) : World := (((((((((w.setCell ⟨g, 4, none⟩ (v0)).setCell ⟨g, 5, none⟩ (v1)).setCell ⟨g, 6, none⟩ (v2)).setCell ⟨g, 7, none⟩ (v3)).setCell ⟨g, 8, none⟩ (v4)).setCell ⟨g, 9, none⟩ (v5)).setCell ⟨g, 10, none⟩ (v6)).setCell ⟨g, 11, none⟩ (v7)).setCell ⟨g, 12, none⟩ (v8))
theorem putR_at {w : World} {g : Nat} {c0 c1 c2 c3 c4 c5 c6 c7 c8 c9 c10 c11 c12 c13 : Value} {T : TypeId} {m : Nat × Nat} (h : w.heap[g]? = some (.cells #[c0, c1, c2, c3, c4, c5, c6, c7, c8, c9, c10, c11, c12, c13] T m)) (v0 v1 v2 v3 v4 v5 v6 v7 v8 : Value) :
    (putR w g v0 v1 v2 v3 v4 v5 v6 v7 v8).heap[g]? = some (.cells #[c0, c1, c2, c3, v0, v1, v2, v3, v4, v5, v6, v7, v8, c13] T m) := by
  have := (heap_setS (heap_setS (heap_setS (heap_setS (heap_setS (heap_setS (heap_setS (heap_setS (heap_setS h 4 (v0)) 5 (v1)) 6 (v2)) 7 (v3)) 8 (v4)) 9 (v5)) 10 (v6)) 11 (v7)) 12 (v8))
  unfold putR
  simpa only [List.setIfInBounds_toArray, List.set_cons_zero, List.set_cons_succ] using this
theorem one_putR (w : World) (g : Nat) (v0 v1 v2 v3 v4 v5 v6 v7 v8 : Value) : One g w (putR w g v0 v1 v2 v3 v4 v5 v6 v7 v8) :=
  (((((((((one_cell g 4 _ (v0)).trans (one_cell g 5 _ (v1))).trans (one_cell g 6 _ (v2))).trans (one_cell g 7 _ (v3))).trans (one_cell g 8 _ (v4))).trans (one_cell g 9 _ (v5))).trans (one_cell g 10 _ (v6))).trans (one_cell g 11 _ (v7))).trans (one_cell g 12 _ (v8)))
/-- The world behind a store of a plan. -/
def putP (w : World) (g : Nat) (v0 v1 v2 v3 v4 v5 v6 v7 v8 v9 v10 : Value) : World := (((((((((((w.setCell ⟨g, 0, none⟩ (v0)).setCell ⟨g, 1, none⟩ (v1)).setCell ⟨g, 2, none⟩ (v2)).setCell ⟨g, 3, none⟩ (v3)).setCell ⟨g, 4, none⟩ (v4)).setCell ⟨g, 5, none⟩ (v5)).setCell ⟨g, 6, none⟩ (v6)).setCell ⟨g, 7, none⟩ (v7)).setCell ⟨g, 8, none⟩ (v8)).setCell ⟨g, 9, none⟩ (v9)).setCell ⟨g, 10, none⟩ (v10))
theorem putP_at {w : World} {g : Nat} {c0 c1 c2 c3 c4 c5 c6 c7 c8 c9 c10 : Value} {T : TypeId} {m : Nat × Nat} (h : w.heap[g]? = some (.cells #[c0, c1, c2, c3, c4, c5, c6, c7, c8, c9, c10] T m)) (v0 v1 v2 v3 v4 v5 v6 v7 v8 v9 v10 : Value) :
    (putP w g v0 v1 v2 v3 v4 v5 v6 v7 v8 v9 v10).heap[g]? = some (.cells #[v0, v1, v2, v3, v4, v5, v6, v7, v8, v9, v10] T m) := by
  have := (heap_setS (heap_setS (heap_setS (heap_setS (heap_setS (heap_setS (heap_setS (heap_setS (heap_setS (heap_setS (heap_setS h 0 (v0)) 1 (v1)) 2 (v2)) 3 (v3)) 4 (v4)) 5 (v5)) 6 (v6)) 7 (v7)) 8 (v8)) 9 (v9)) 10 (v10))
  unfold putP
  simpa only [List.setIfInBounds_toArray, List.set_cons_zero, List.set_cons_succ] using this
theorem one_putP (w : World) (g : Nat) (v0 v1 v2 v3 v4 v5 v6 v7 v8 v9 v10 : Value) : One g w (putP w g v0 v1 v2 v3 v4 v5 v6 v7 v8 v9 v10) :=
  (((((((((((one_cell g 0 _ (v0)).trans (one_cell g 1 _ (v1))).trans (one_cell g 2 _ (v2))).trans (one_cell g 3 _ (v3))).trans (one_cell g 4 _ (v4))).trans (one_cell g 5 _ (v5))).trans (one_cell g 6 _ (v6))).trans (one_cell g 7 _ (v7))).trans (one_cell g 8 _ (v8))).trans (one_cell g 9 _ (v9))).trans (one_cell g 10 _ (v10)))
theorem results_row_tmp {P : Program} {fn : Func} {p u : Tmp} {ty : TypeId} (h : fn.results = #[.cell p ty, .tmp u]) (tmps : Array Value) (w : World) (g : Nat) (t : TypeId) (cs : Array Value) (fr : Nat × Nat) (d : TypeDesc)
    (hp : tmps.getD p undef = .pointer (some ⟨g, 0, none⟩)) (hg : w.heap[g]? = some (.cells cs t fr))
    (hu : P.underlying ty = some d) (hd : (match d with | .struct _ | .array _ _ => true | _ => false) = true) (hi : (P.info? ty).map (·.size) = some cs.size) :
    (results fn tmps).run P w = .ok (.tuple #[.agg cs, tmps.getD u undef]) w := by
  rw [results_cell_tmp h, hp]
  simp [asAddr, run_loadVar_row w g t ty cs fr d hg hu hd hi]
theorem row_set4 {B g c : Nat} {w : World} {l : List Set4} (h : w.ownsRow B 88 4 (.slice (some ⟨g, 0, none⟩) l.length c) l.length (flatC l)) (hl : 0 < l.length) (t : Set4) :
    (((((w.setCell ⟨g, 0, none⟩ (.int .u64 (wd t 0 : Nat))).setCell ⟨g, 1, none⟩ (.int .u64 (wd t 1 : Nat))).setCell ⟨g, 2, none⟩ (.int .u64 (wd t 2 : Nat))).setCell ⟨g, 3, none⟩ (.int .u64 (wd t 3 : Nat)))).ownsRow B 88 4 (.slice (some ⟨g, 0, none⟩) l.length c) (l.set 0 t).length (flatC (l.set 0 t)) := by
  have h4 := (World.ownsRow.stored (World.ownsRow.stored (World.ownsRow.stored (World.ownsRow.stored h 0 (.int .u64 (wd t 0 : Nat))).1 1 (.int .u64 (wd t 1 : Nat))).1 2 (.int .u64 (wd t 2 : Nat))).1 3 (.int .u64 (wd t 3 : Nat))).1
  have e := flat_set4 t l 0 hl
  simp only [Nat.zero_mul, Nat.zero_add] at e
  rw [e] at h4
  rw [List.length_set]
  exact h4
set_option maxRecDepth 100000 in
set_option maxHeartbeats 4000000 in
theorem parse_any (s : ByteArray) (cls fol : List Set4) (x : Part) (w : World) (h : ParsedTo s cls fol x) :
    Calls Try.prog 40 #[.string s] w fun e w' => (∃ cv fv, e = .returned (.tuple #[.agg (planC cv fv x), .int .i64 0]) ∧ PlanAt w.heap.size cls fol cv fv w' ∧ x.ok) ∧ Below w.heap.size w w' := by
  obtain ⟨n, st, hread, hbad, hpos, rfl, rfl, hsz⟩ := h
  have t0 : decide (200 < (s.size : Int)) = false := decide_eq_false (by omega)
  have HA := Lib.hid (fun B R W h => alternatives_any n B R s st0 _ W hread h)
  have HH := Lib.hid (And.intro hbad hpos)
  clear hread hbad hpos
  go_enter Try.func40, Try.ntmps40
  go_upto_region 4 with fail
  have hab : Below w.heap.size w ((((w.alloc (.cells #[.slice none 0 0, .slice none 0 0, .bool false, .int .u64 0, .int .u64 0, .int .u64 0, .int .u64 0, .int .u64 0, .int .u64 0, .int .u64 0, .int .u64 0] 92 (0, 0))).alloc (.cells #[.int .u64 0, .int .u64 0, .int .u64 0, .int .u64 0] 114 (0, 0))).alloc (.cells #[.int .u64 0, .int .u64 0, .int .u64 0, .int .u64 0] 88 (0, 0))).alloc (.cells #[.string s, .int .i64 0, .slice (some ⟨w.heap.size + 1, 0, none⟩) 1 1, .slice (some ⟨w.heap.size + 1 + 1, 0, none⟩) 1 1, .bool false, .int .u64 0, .int .u64 0, .int .u64 0, .int .u64 0, .int .u64 0, .int .u64 0, .int .u64 0, .int .u64 0, .bool false] 116 (0, 0))) := ((((Below.refl w.heap.size w).alloc (Nat.le_refl _) _).alloc (by simp) _).alloc (by simp; omega) _).alloc (by simp; omega) _
  have s1 : (w.alloc (.cells #[.slice none 0 0, .slice none 0 0, .bool false, .int .u64 0, .int .u64 0, .int .u64 0, .int .u64 0, .int .u64 0, .int .u64 0, .int .u64 0, .int .u64 0] 92 (0, 0))).heap.size = w.heap.size + 1 := by simp
  have s2 : ((w.alloc (.cells #[.slice none 0 0, .slice none 0 0, .bool false, .int .u64 0, .int .u64 0, .int .u64 0, .int .u64 0, .int .u64 0, .int .u64 0, .int .u64 0, .int .u64 0] 92 (0, 0))).alloc (.cells #[.int .u64 0, .int .u64 0, .int .u64 0, .int .u64 0] 114 (0, 0))).heap.size = w.heap.size + 1 + 1 := by simp
  have s3 : (((w.alloc (.cells #[.slice none 0 0, .slice none 0 0, .bool false, .int .u64 0, .int .u64 0, .int .u64 0, .int .u64 0, .int .u64 0, .int .u64 0, .int .u64 0, .int .u64 0] 92 (0, 0))).alloc (.cells #[.int .u64 0, .int .u64 0, .int .u64 0, .int .u64 0] 114 (0, 0))).alloc (.cells #[.int .u64 0, .int .u64 0, .int .u64 0, .int .u64 0] 88 (0, 0))).heap.size = w.heap.size + 1 + 1 + 1 := by simp
  have eR : ((((w.alloc (.cells #[.slice none 0 0, .slice none 0 0, .bool false, .int .u64 0, .int .u64 0, .int .u64 0, .int .u64 0, .int .u64 0, .int .u64 0, .int .u64 0, .int .u64 0] 92 (0, 0))).alloc (.cells #[.int .u64 0, .int .u64 0, .int .u64 0, .int .u64 0] 114 (0, 0))).alloc (.cells #[.int .u64 0, .int .u64 0, .int .u64 0, .int .u64 0] 88 (0, 0))).alloc (.cells #[.string s, .int .i64 0, .slice (some ⟨w.heap.size + 1, 0, none⟩) 1 1, .slice (some ⟨w.heap.size + 1 + 1, 0, none⟩) 1 1, .bool false, .int .u64 0, .int .u64 0, .int .u64 0, .int .u64 0, .int .u64 0, .int .u64 0, .int .u64 0, .int .u64 0, .bool false] 116 (0, 0))).heap[w.heap.size + 1 + 1 + 1]? = some (.cells (rdC s 0 (.slice (some ⟨w.heap.size + 1, 0, none⟩) 1 1) (.slice (some ⟨w.heap.size + 1 + 1, 0, none⟩) 1 1) false) 116 (0, 0)) := by
    rw [← s3]; exact heap_alloc_new _ _
  have c1 : ((((w.alloc (.cells #[.slice none 0 0, .slice none 0 0, .bool false, .int .u64 0, .int .u64 0, .int .u64 0, .int .u64 0, .int .u64 0, .int .u64 0, .int .u64 0, .int .u64 0] 92 (0, 0))).alloc (.cells #[.int .u64 0, .int .u64 0, .int .u64 0, .int .u64 0] 114 (0, 0))).alloc (.cells #[.int .u64 0, .int .u64 0, .int .u64 0, .int .u64 0] 88 (0, 0))).alloc (.cells #[.string s, .int .i64 0, .slice (some ⟨w.heap.size + 1, 0, none⟩) 1 1, .slice (some ⟨w.heap.size + 1 + 1, 0, none⟩) 1 1, .bool false, .int .u64 0, .int .u64 0, .int .u64 0, .int .u64 0, .int .u64 0, .int .u64 0, .int .u64 0, .int .u64 0, .bool false] 116 (0, 0))).ownsRow w.heap.size 114 4 (.slice (some ⟨w.heap.size + 1, 0, none⟩) 1 1) 1 (flatC [e4]) := by
    have h1 := World.ownsRow_lit (base := w.heap.size) (e := 114) (size := 4) (w.alloc (.cells #[.slice none 0 0, .slice none 0 0, .bool false, .int .u64 0, .int .u64 0, .int .u64 0, .int .u64 0, .int .u64 0, .int .u64 0, .int .u64 0, .int .u64 0] 92 (0, 0))) #[.int .u64 0, .int .u64 0, .int .u64 0, .int .u64 0] 1 (by simp) (by decide) rfl
    rw [s1] at h1
    exact (h1.alloc _).alloc _
  have f1 : ((((w.alloc (.cells #[.slice none 0 0, .slice none 0 0, .bool false, .int .u64 0, .int .u64 0, .int .u64 0, .int .u64 0, .int .u64 0, .int .u64 0, .int .u64 0, .int .u64 0] 92 (0, 0))).alloc (.cells #[.int .u64 0, .int .u64 0, .int .u64 0, .int .u64 0] 114 (0, 0))).alloc (.cells #[.int .u64 0, .int .u64 0, .int .u64 0, .int .u64 0] 88 (0, 0))).alloc (.cells #[.string s, .int .i64 0, .slice (some ⟨w.heap.size + 1, 0, none⟩) 1 1, .slice (some ⟨w.heap.size + 1 + 1, 0, none⟩) 1 1, .bool false, .int .u64 0, .int .u64 0, .int .u64 0, .int .u64 0, .int .u64 0, .int .u64 0, .int .u64 0, .int .u64 0, .bool false] 116 (0, 0))).ownsRow w.heap.size 88 4 (.slice (some ⟨w.heap.size + 1 + 1, 0, none⟩) 1 1) 1 (flatC [e4]) := by
    have h1 := World.ownsRow_lit (base := w.heap.size) (e := 88) (size := 4) ((w.alloc (.cells #[.slice none 0 0, .slice none 0 0, .bool false, .int .u64 0, .int .u64 0, .int .u64 0, .int .u64 0, .int .u64 0, .int .u64 0, .int .u64 0, .int .u64 0] 92 (0, 0))).alloc (.cells #[.int .u64 0, .int .u64 0, .int .u64 0, .int .u64 0] 114 (0, 0))) #[.int .u64 0, .int .u64 0, .int .u64 0, .int .u64 0] 1 (by simp; omega) (by decide) rfl
    rw [s2] at h1
    exact h1.alloc _
  have eP : ((((w.alloc (.cells #[.slice none 0 0, .slice none 0 0, .bool false, .int .u64 0, .int .u64 0, .int .u64 0, .int .u64 0, .int .u64 0, .int .u64 0, .int .u64 0, .int .u64 0] 92 (0, 0))).alloc (.cells #[.int .u64 0, .int .u64 0, .int .u64 0, .int .u64 0] 114 (0, 0))).alloc (.cells #[.int .u64 0, .int .u64 0, .int .u64 0, .int .u64 0] 88 (0, 0))).alloc (.cells #[.string s, .int .i64 0, .slice (some ⟨w.heap.size + 1, 0, none⟩) 1 1, .slice (some ⟨w.heap.size + 1 + 1, 0, none⟩) 1 1, .bool false, .int .u64 0, .int .u64 0, .int .u64 0, .int .u64 0, .int .u64 0, .int .u64 0, .int .u64 0, .int .u64 0, .bool false] 116 (0, 0))).heap[w.heap.size]? = some (.cells #[.slice none 0 0, .slice none 0 0, .bool false, .int .u64 0, .int .u64 0, .int .u64 0, .int .u64 0, .int .u64 0, .int .u64 0, .int .u64 0, .int .u64 0] 92 (0, 0)) := by
    rw [heap_alloc_old _ _ (by first | (simp; done) | (simp; omega)), heap_alloc_old _ _ (by first | (simp; done) | (simp; omega)), heap_alloc_old _ _ (by first | (simp; done) | (simp; omega))]
    exact heap_alloc_new _ _
  have hw4 : ∀ y ∈ [e4], Words y := fun y hy => (List.mem_singleton.1 hy) ▸ words_e4
  have hrd : RdAt w.heap.size (w.heap.size + 1 + 1 + 1) s st0 ((((w.alloc (.cells #[.slice none 0 0, .slice none 0 0, .bool false, .int .u64 0, .int .u64 0, .int .u64 0, .int .u64 0, .int .u64 0, .int .u64 0, .int .u64 0, .int .u64 0] 92 (0, 0))).alloc (.cells #[.int .u64 0, .int .u64 0, .int .u64 0, .int .u64 0] 114 (0, 0))).alloc (.cells #[.int .u64 0, .int .u64 0, .int .u64 0, .int .u64 0] 88 (0, 0))).alloc (.cells #[.string s, .int .i64 0, .slice (some ⟨w.heap.size + 1, 0, none⟩) 1 1, .slice (some ⟨w.heap.size + 1 + 1, 0, none⟩) 1 1, .bool false, .int .u64 0, .int .u64 0, .int .u64 0, .int .u64 0, .int .u64 0, .int .u64 0, .int .u64 0, .int .u64 0, .bool false] 116 (0, 0))) := ⟨_, _, ⟨by omega, eR, c1, f1, hw4, hw4, by decide⟩, rfl⟩
  have HI := Lib.hid (And.intro (HA.out _ _ _ hrd) (And.intro eP hab))
  clear hab s1 s2 s3 eR c1 f1 eP hw4 hrd HA
  go_wp2_with fail
  have hi := HI.out
  clear HI
  generalize (((w.alloc (.cells #[.slice none 0 0, .slice none 0 0, .bool false, .int .u64 0, .int .u64 0, .int .u64 0, .int .u64 0, .int .u64 0, .int .u64 0, .int .u64 0, .int .u64 0] 92 (0, 0))).alloc (.cells #[.int .u64 0, .int .u64 0, .int .u64 0, .int .u64 0] 114 (0, 0))).alloc (.cells #[.int .u64 0, .int .u64 0, .int .u64 0, .int .u64 0] 88 (0, 0))).alloc (.cells #[.string s, .int .i64 0, .slice (some ⟨w.heap.size + 1, 0, none⟩) 1 1, .slice (some ⟨w.heap.size + 1 + 1, 0, none⟩) 1 1, .bool false, .int .u64 0, .int .u64 0, .int .u64 0, .int .u64 0, .int .u64 0, .int .u64 0, .int .u64 0, .int .u64 0, .bool false] 116 (0, 0)) = W at *
  generalize w.heap.size + 1 + 1 + 1 = R at *
  obtain ⟨hcall, eP, hab⟩ := hi
  refine hcall.mono ?_
  rintro e w4 ⟨rfl, hrd4, hb4, hk4, hx4⟩
  have hal := (Below.refl w4.heap.size w4).alloc (Nat.le_refl _) (.cells (partC x) 90 (0, 0))
  have eP4 := hk4 _ _ _ _ eP (by decide) (by decide) (by decide)
  have eP5 := (hal.block _ (lt_of_block eP4)).trans eP4
  have hrd5 := hrd4.below hal
  have H5 := Lib.hid (And.intro hrd5 (And.intro (heap_alloc_new w4 (.cells (partC x) 90 (0, 0))) (And.intro eP5 (And.intro (hab.trans (hb4.trans (hal.mono (Nat.le_of_lt (lt_of_block eP4))))) hx4))))
  have hPX : w.heap.size < w4.heap.size := lt_of_block eP4
  clear hcall eP hab hrd4 hb4 hk4 hx4 hal eP4 eP5 hrd5
  unfold partC
  go_upto_region 5 with fail
  have h5 := H5.out
  unfold partC at h5
  clear H5
  generalize w4.alloc (.cells #[.bool x.em, .int .u64 (wd x.fst 0 : Nat), .int .u64 (wd x.fst 1 : Nat), .int .u64 (wd x.fst 2 : Nat), .int .u64 (wd x.fst 3 : Nat), .int .u64 (wd x.lst 0 : Nat), .int .u64 (wd x.lst 1 : Nat), .int .u64 (wd x.lst 2 : Nat), .int .u64 (wd x.lst 3 : Nat)] 90 (0, 0)) = W5 at *
  generalize w4.heap.size = X at *
  obtain ⟨⟨cv, fv, hr5, hl5⟩, eX, eP, hbw, hx⟩ := h5
  obtain ⟨fa, fc, rfl, hfc⟩ := row_slice hr5.frow
  obtain ⟨ca, cc, rfl, hcc⟩ := row_slice hr5.crow
  obtain ⟨⟨a0, a1, a2, a3, a4⟩, -⟩ := rd_cells hr5.cell
  have hbad := HH.out.1
  have hpos := HH.out.2
  rw [hbad] at a4
  have tp : decide ((st.pos : Int) < (s.size : Int)) = false := decide_eq_false (by omega)
  have tp2 : decide (st.pos < s.size) = false := decide_eq_false (by omega)
  have hRf := fun j => Lib.frozen_of_heap hr5.cell j
  have H5 := Lib.hid (And.intro hr5 (And.intro hl5 (And.intro eX (And.intro eP (And.intro hbw hx)))))
  have r4 : W5.cell? ⟨R, 4, none⟩ = some (.bool false) := by rw [Lib.cell_of_heap hr5.cell]; rfl
  have r5 : W5.cell? ⟨R, 5, none⟩ = some (.int .u64 0) := by rw [Lib.cell_of_heap hr5.cell]; rfl
  have r6 : W5.cell? ⟨R, 6, none⟩ = some (.int .u64 0) := by rw [Lib.cell_of_heap hr5.cell]; rfl
  have r7 : W5.cell? ⟨R, 7, none⟩ = some (.int .u64 0) := by rw [Lib.cell_of_heap hr5.cell]; rfl
  have r8 : W5.cell? ⟨R, 8, none⟩ = some (.int .u64 0) := by rw [Lib.cell_of_heap hr5.cell]; rfl
  have r9 : W5.cell? ⟨R, 9, none⟩ = some (.int .u64 0) := by rw [Lib.cell_of_heap hr5.cell]; rfl
  have r10 : W5.cell? ⟨R, 10, none⟩ = some (.int .u64 0) := by rw [Lib.cell_of_heap hr5.cell]; rfl
  have r11 : W5.cell? ⟨R, 11, none⟩ = some (.int .u64 0) := by rw [Lib.cell_of_heap hr5.cell]; rfl
  have r12 : W5.cell? ⟨R, 12, none⟩ = some (.int .u64 0) := by rw [Lib.cell_of_heap hr5.cell]; rfl
  obtain ⟨⟨x0, x1, x2, x3, x4, x5, x6, x7, x8⟩, -⟩ := part9 (x := x) eX
  clear hr5 hl5 eX eP hbw hx
  go_upto_region 8 with fail
  have o7 : One R W5 (((((((((W5.setCell ⟨R, 4, none⟩ (.bool x.em)).setCell ⟨R, 5, none⟩ (.int .u64 (wd x.fst 0 : Nat))).setCell ⟨R, 6, none⟩ (.int .u64 (wd x.fst 1 : Nat))).setCell ⟨R, 7, none⟩ (.int .u64 (wd x.fst 2 : Nat))).setCell ⟨R, 8, none⟩ (.int .u64 (wd x.fst 3 : Nat))).setCell ⟨R, 9, none⟩ (.int .u64 (wd x.lst 0 : Nat))).setCell ⟨R, 10, none⟩ (.int .u64 (wd x.lst 1 : Nat))).setCell ⟨R, 11, none⟩ (.int .u64 (wd x.lst 2 : Nat))).setCell ⟨R, 12, none⟩ (.int .u64 (wd x.lst 3 : Nat))) := one_putR W5 R (.bool x.em) (.int .u64 (wd x.fst 0 : Nat)) (.int .u64 (wd x.fst 1 : Nat)) (.int .u64 (wd x.fst 2 : Nat)) (.int .u64 (wd x.fst 3 : Nat)) (.int .u64 (wd x.lst 0 : Nat)) (.int .u64 (wd x.lst 1 : Nat)) (.int .u64 (wd x.lst 2 : Nat)) (.int .u64 (wd x.lst 3 : Nat))
  have eR7 : (((((((((W5.setCell ⟨R, 4, none⟩ (.bool x.em)).setCell ⟨R, 5, none⟩ (.int .u64 (wd x.fst 0 : Nat))).setCell ⟨R, 6, none⟩ (.int .u64 (wd x.fst 1 : Nat))).setCell ⟨R, 7, none⟩ (.int .u64 (wd x.fst 2 : Nat))).setCell ⟨R, 8, none⟩ (.int .u64 (wd x.fst 3 : Nat))).setCell ⟨R, 9, none⟩ (.int .u64 (wd x.lst 0 : Nat))).setCell ⟨R, 10, none⟩ (.int .u64 (wd x.lst 1 : Nat))).setCell ⟨R, 11, none⟩ (.int .u64 (wd x.lst 2 : Nat))).setCell ⟨R, 12, none⟩ (.int .u64 (wd x.lst 3 : Nat))).heap[R]? = some (.cells #[.string s, .int .i64 st.pos, .slice ca st.cls.length cc, .slice fa st.fol.length fc, .bool x.em, .int .u64 (wd x.fst 0 : Nat), .int .u64 (wd x.fst 1 : Nat), .int .u64 (wd x.fst 2 : Nat), .int .u64 (wd x.fst 3 : Nat), .int .u64 (wd x.lst 0 : Nat), .int .u64 (wd x.lst 1 : Nat), .int .u64 (wd x.lst 2 : Nat), .int .u64 (wd x.lst 3 : Nat), .bool st.bad] 116 (0, 0)) := putR_at H5.out.1.cell (.bool x.em) (.int .u64 (wd x.fst 0 : Nat)) (.int .u64 (wd x.fst 1 : Nat)) (.int .u64 (wd x.fst 2 : Nat)) (.int .u64 (wd x.fst 3 : Nat)) (.int .u64 (wd x.lst 0 : Nat)) (.int .u64 (wd x.lst 1 : Nat)) (.int .u64 (wd x.lst 2 : Nat)) (.int .u64 (wd x.lst 3 : Nat))
  have hXR : X ≠ R := fun e => by
    have h1 := H5.out.2.2.1
    have h2 := H5.out.1.cell
    rw [e, h2] at h1
    injection h1 with h1
    injection h1 with _ h1 _
    exact absurd h1 (by decide)
  have hPR : w.heap.size ≠ R := fun e => by
    have h1 := H5.out.2.2.2.1
    have h2 := H5.out.1.cell
    rw [e, h2] at h1
    injection h1 with h1
    injection h1 with _ h1 _
    exact absurd h1 (by decide)
  have frow7 := row_keepP H5.out.1.frow fun g hg => o7.other g fun e => row_ne H5.out.1.frow H5.out.1.cell (by decide) (e ▸ hg)
  have crow7 := row_keepP H5.out.1.crow fun g hg => o7.other g fun e => row_ne H5.out.1.crow H5.out.1.cell (by decide) (e ▸ hg)
  have eX7 := (o7.other _ hXR).trans H5.out.2.2.1
  have eP7 := (o7.other _ hPR).trans H5.out.2.2.2.1
  have hB7 := H5.out.2.2.2.2.1.trans (o7.below H5.out.1.low)
  have H7 := Lib.hid (And.intro eR7 (And.intro frow7 (And.intro crow7 (And.intro eX7 (And.intro eP7 (And.intro hB7 H5.out.2.2.2.2.2))))))
  have HL := Lib.hid (And.intro H5.out.1.low (And.intro H5.out.2.1 (And.intro H5.out.1.cok (And.intro H5.out.1.fok H5.out.1.len))))
  clear o7 eR7 frow7 crow7 eX7 eP7 hB7 H5 a0 a1 a2 a3 a4 hRf r4 r5 r6 r7 r8 r9 r10 r11 r12 x0 x1 x2 x3 x4 x5 x6 x7 x8 hXR hPR
  have h7 := H7.out
  clear H7
  generalize ((((((((W5.setCell ⟨R, 4, none⟩ (.bool x.em)).setCell ⟨R, 5, none⟩ (.int .u64 (wd x.fst 0 : Nat))).setCell ⟨R, 6, none⟩ (.int .u64 (wd x.fst 1 : Nat))).setCell ⟨R, 7, none⟩ (.int .u64 (wd x.fst 2 : Nat))).setCell ⟨R, 8, none⟩ (.int .u64 (wd x.fst 3 : Nat))).setCell ⟨R, 9, none⟩ (.int .u64 (wd x.lst 0 : Nat))).setCell ⟨R, 10, none⟩ (.int .u64 (wd x.lst 1 : Nat))).setCell ⟨R, 11, none⟩ (.int .u64 (wd x.lst 2 : Nat))).setCell ⟨R, 12, none⟩ (.int .u64 (wd x.lst 3 : Nat)) = W7 at *
  obtain ⟨eR7, frow7, crow7, eX7, eP7, hB7, hx⟩ := h7
  have hl0 : 0 < st.fol.length := HL.out.2.2.2.2.2.2.2
  obtain ⟨g, gc, hg⟩ := ownsRow_formW frow7 hl0
  simp only [Value.slice.injEq] at hg
  obtain ⟨rfl, -, rfl⟩ := hg
  obtain ⟨⟨x0, x1, x2, x3, x4, x5, x6, x7, x8⟩, -⟩ := part9 (x := x) eX7
  have a3 : W7.cell? ⟨R, 3, none⟩ = some (.slice (some ⟨g, 0, none⟩) st.fol.length fc) := by rw [Lib.cell_of_heap eR7]; rfl
  have gf0 := World.ownsRow.frozenAt frow7 0
  have gf1 := World.ownsRow.frozenAt frow7 1
  have gf2 := World.ownsRow.frozenAt frow7 2
  have gf3 := World.ownsRow.frozenAt frow7 3
  have gl := World.ownsRow.lt frow7 g rfl
  have fl := flat_get st.fol 0
  have g0 := (World.ownsRow.cellAt frow7 0 (by omega)).trans (flat_get st.fol 0 0 hl0 (by decide))
  have g1 := (World.ownsRow.cellAt frow7 1 (by omega)).trans (flat_get st.fol 0 1 hl0 (by decide))
  have g2 := (World.ownsRow.cellAt frow7 2 (by omega)).trans (flat_get st.fol 0 2 hl0 (by decide))
  have g3 := (World.ownsRow.cellAt frow7 3 (by omega)).trans (flat_get st.fol 0 3 hl0 (by decide))
  have tl0 : (0 : Int) < (st.fol.length : Int) := by omega
  have H7 := Lib.hid (And.intro eR7 (And.intro frow7 (And.intro crow7 (And.intro eX7 (And.intro eP7 (And.intro hB7 (And.intro hx gl)))))))
  clear eR7 frow7 crow7 eX7 eP7 hB7 hx fl gl
  go_region_law (fail)
  all_goals
    clear x0 x1 x2 x3 x4 x5 x6 x7 x8 a3 gf0 gf1 gf2 gf3 g0 g1 g2 g3 tl0
    have o8 : One g W7 (((((W7.setCell ⟨g, 0, none⟩ (.int .u64 (wd x.fst 0 : Nat))).setCell ⟨g, 1, none⟩ (.int .u64 (wd x.fst 1 : Nat))).setCell ⟨g, 2, none⟩ (.int .u64 (wd x.fst 2 : Nat))).setCell ⟨g, 3, none⟩ (.int .u64 (wd x.fst 3 : Nat)))).drew := (((one_cell g 0 W7 (.int .u64 (wd x.fst 0 : Nat))).trans (one_cell g 1 _ (.int .u64 (wd x.fst 1 : Nat)))).trans (one_cell g 2 _ (.int .u64 (wd x.fst 2 : Nat)))).trans (one_set g 3 _ (.int .u64 (wd x.fst 3 : Nat)))
    have hRg : R ≠ g := fun e => row_ne H7.out.2.1 H7.out.1 (by decide) (by rw [e]; rfl)
    have hPg : w.heap.size ≠ g := fun e => row_ne H7.out.2.1 H7.out.2.2.2.2.1 (by decide) (by rw [e]; rfl)
    have frow8 : ((((((W7.setCell ⟨g, 0, none⟩ (.int .u64 (wd x.fst 0 : Nat))).setCell ⟨g, 1, none⟩ (.int .u64 (wd x.fst 1 : Nat))).setCell ⟨g, 2, none⟩ (.int .u64 (wd x.fst 2 : Nat))).setCell ⟨g, 3, none⟩ (.int .u64 (wd x.fst 3 : Nat)))).drew).ownsRow w.heap.size 88 4 (.slice (some ⟨g, 0, none⟩) st.fol.length fc) (st.fol.set 0 x.fst).length (flatC (st.fol.set 0 x.fst)) := row_set4 H7.out.2.1 hl0 x.fst
    have crow8 := row_keepP H7.out.2.2.1 fun q hq => o8.other q fun e => by
      rcases H7.out.2.1.2 with ⟨h1, _⟩ | ⟨g2, c2, cur, h1, _, hg2, _⟩
      · cases h1
      · simp only [Value.slice.injEq, Option.some.injEq, Addr.mk.injEq, and_true] at h1
        obtain ⟨e1, _⟩ := h1
        rw [← e1, ← e] at hg2
        exact row_ne H7.out.2.2.1 hg2 (by decide) hq
    have H8 := Lib.hid (And.intro ((o8.other R hRg).trans H7.out.1) (And.intro frow8 (And.intro crow8 (And.intro ((o8.other _ hPg).trans H7.out.2.2.2.2.1) (And.intro (H7.out.2.2.2.2.2.1.trans (o8.below H7.out.2.2.2.2.2.2.2.1)) H7.out.2.2.2.2.2.2.1)))))
    clear o8 hRg hPg frow8 crow8 H7
    go_upto_region 9 with fail
    have h8 := H8.out
    clear H8
    generalize (((((W7.setCell ⟨g, 0, none⟩ (.int .u64 (wd x.fst 0 : Nat))).setCell ⟨g, 1, none⟩ (.int .u64 (wd x.fst 1 : Nat))).setCell ⟨g, 2, none⟩ (.int .u64 (wd x.fst 2 : Nat))).setCell ⟨g, 3, none⟩ (.int .u64 (wd x.fst 3 : Nat)))).drew = W8 at *
    have H8 := Lib.hid h8
    clear h8
    have k2 : W8.cell? ⟨R, 2, none⟩ = some (.slice ca st.cls.length cc) := by rw [Lib.cell_of_heap H8.out.1]; rfl
    have k3 : W8.cell? ⟨R, 3, none⟩ = some (.slice (some ⟨g, 0, none⟩) st.fol.length fc) := by rw [Lib.cell_of_heap H8.out.1]; rfl
    have k4 : W8.cell? ⟨R, 4, none⟩ = some (.bool x.em) := by rw [Lib.cell_of_heap H8.out.1]; rfl
    have k5 : W8.cell? ⟨R, 5, none⟩ = some (.int .u64 (wd x.fst 0 : Nat)) := by rw [Lib.cell_of_heap H8.out.1]; rfl
    have k6 : W8.cell? ⟨R, 6, none⟩ = some (.int .u64 (wd x.fst 1 : Nat)) := by rw [Lib.cell_of_heap H8.out.1]; rfl
    have k7 : W8.cell? ⟨R, 7, none⟩ = some (.int .u64 (wd x.fst 2 : Nat)) := by rw [Lib.cell_of_heap H8.out.1]; rfl
    have k8 : W8.cell? ⟨R, 8, none⟩ = some (.int .u64 (wd x.fst 3 : Nat)) := by rw [Lib.cell_of_heap H8.out.1]; rfl
    have k9 : W8.cell? ⟨R, 9, none⟩ = some (.int .u64 (wd x.lst 0 : Nat)) := by rw [Lib.cell_of_heap H8.out.1]; rfl
    have k10 : W8.cell? ⟨R, 10, none⟩ = some (.int .u64 (wd x.lst 1 : Nat)) := by rw [Lib.cell_of_heap H8.out.1]; rfl
    have k11 : W8.cell? ⟨R, 11, none⟩ = some (.int .u64 (wd x.lst 2 : Nat)) := by rw [Lib.cell_of_heap H8.out.1]; rfl
    have k12 : W8.cell? ⟨R, 12, none⟩ = some (.int .u64 (wd x.lst 3 : Nat)) := by rw [Lib.cell_of_heap H8.out.1]; rfl
    have m0 : W8.cell? ⟨w.heap.size, 0, none⟩ = some (.slice none 0 0) := by rw [Lib.cell_of_heap H8.out.2.2.2.1]; rfl
    have n0 := Lib.frozen_of_heap H8.out.2.2.2.1 0
    have m1 : W8.cell? ⟨w.heap.size, 1, none⟩ = some (.slice none 0 0) := by rw [Lib.cell_of_heap H8.out.2.2.2.1]; rfl
    have n1 := Lib.frozen_of_heap H8.out.2.2.2.1 1
    have m2 : W8.cell? ⟨w.heap.size, 2, none⟩ = some (.bool false) := by rw [Lib.cell_of_heap H8.out.2.2.2.1]; rfl
    have n2 := Lib.frozen_of_heap H8.out.2.2.2.1 2
    have m3 : W8.cell? ⟨w.heap.size, 3, none⟩ = some (.int .u64 0) := by rw [Lib.cell_of_heap H8.out.2.2.2.1]; rfl
    have n3 := Lib.frozen_of_heap H8.out.2.2.2.1 3
    have m4 : W8.cell? ⟨w.heap.size, 4, none⟩ = some (.int .u64 0) := by rw [Lib.cell_of_heap H8.out.2.2.2.1]; rfl
    have n4 := Lib.frozen_of_heap H8.out.2.2.2.1 4
    have m5 : W8.cell? ⟨w.heap.size, 5, none⟩ = some (.int .u64 0) := by rw [Lib.cell_of_heap H8.out.2.2.2.1]; rfl
    have n5 := Lib.frozen_of_heap H8.out.2.2.2.1 5
    have m6 : W8.cell? ⟨w.heap.size, 6, none⟩ = some (.int .u64 0) := by rw [Lib.cell_of_heap H8.out.2.2.2.1]; rfl
    have n6 := Lib.frozen_of_heap H8.out.2.2.2.1 6
    have m7 : W8.cell? ⟨w.heap.size, 7, none⟩ = some (.int .u64 0) := by rw [Lib.cell_of_heap H8.out.2.2.2.1]; rfl
    have n7 := Lib.frozen_of_heap H8.out.2.2.2.1 7
    have m8 : W8.cell? ⟨w.heap.size, 8, none⟩ = some (.int .u64 0) := by rw [Lib.cell_of_heap H8.out.2.2.2.1]; rfl
    have n8 := Lib.frozen_of_heap H8.out.2.2.2.1 8
    have m9 : W8.cell? ⟨w.heap.size, 9, none⟩ = some (.int .u64 0) := by rw [Lib.cell_of_heap H8.out.2.2.2.1]; rfl
    have n9 := Lib.frozen_of_heap H8.out.2.2.2.1 9
    have m10 : W8.cell? ⟨w.heap.size, 10, none⟩ = some (.int .u64 0) := by rw [Lib.cell_of_heap H8.out.2.2.2.1]; rfl
    have n10 := Lib.frozen_of_heap H8.out.2.2.2.1 10
    go_wp2_with fail
    refine bodyPost_ret (results_row_tmp rfl _ _ w.heap.size 92 (planC (.slice ca st.cls.length cc) (.slice (some ⟨g, 0, none⟩) st.fol.length fc) x) (0, 0) _ rfl (putP_at H8.out.2.2.2.1 _ _ _ _ _ _ _ _ _ _ _) Try.underlying92 rfl (by kernel_rfl)) rfl ?_
    have o9 := one_putP W8 w.heap.size (.slice ca st.cls.length cc) (.slice (some ⟨g, 0, none⟩) st.fol.length fc) (.bool x.em) (.int .u64 (wd x.fst 0 : Nat)) (.int .u64 (wd x.fst 1 : Nat)) (.int .u64 (wd x.fst 2 : Nat)) (.int .u64 (wd x.fst 3 : Nat)) (.int .u64 (wd x.lst 0 : Nat)) (.int .u64 (wd x.lst 1 : Nat)) (.int .u64 (wd x.lst 2 : Nat)) (.int .u64 (wd x.lst 3 : Nat))
    have hne : ∀ q, q = g ∨ (Value.slice ca st.cls.length cc).ownBlock = some q → q ≠ w.heap.size := fun q hq e => by
      rcases hq with hq | hq
      · exact row_ne H8.out.2.1 H8.out.2.2.2.1 (by decide) (by rw [← e, hq]; rfl)
      · exact row_ne H8.out.2.2.1 H8.out.2.2.2.1 (by decide) (e ▸ hq)
    refine ⟨⟨_, _, rfl, ⟨row_keepP H8.out.2.2.1 fun q hq => o9.other q (hne q (Or.inr hq)), row_keepP H8.out.2.1 fun q hq => o9.other q (hne q (Or.inl (by injection hq with hq; exact hq.symm))), HL.out.2.2.1, fun y hy => ?_, ?_⟩, H8.out.2.2.2.2.2⟩, H8.out.2.2.2.2.1.trans (o9.below (Nat.le_refl _))⟩
    · rcases List.mem_or_eq_of_mem_set hy with h1 | rfl
      · exact HL.out.2.2.2.1 y h1
      · exact H8.out.2.2.2.2.2.1
    · rw [List.length_set]
      exact ⟨HL.out.2.1, HL.out.2.2.2.2.1⟩

end Go.Proofs.Ytebcflgdjbjkoaa
