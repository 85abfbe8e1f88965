/- pattern.First, from what pattern.build does; no condition beyond those that stand there. -/
import Derived.Deep.DeepCutAuto
import Derived.BigQuiet
import Derived.Test.YtebcflgdjbjkoaaFst
namespace Go.Proofs.Ytebcflgdjbjkoaa
open Go.RowKit

/-- append([]bool(nil), s...). -/
theorem append_bools {ops : Array Oper} {rest : List Oper} {o : Oper} {a : Act} {w : World} {Q : Exit → Act → World → Prop} (hgd : o.guard = none) (s x : Operand) (t : TypeId)
    (ho : o.op = .call { callee := .builtin .append, args := #[s, x], argTypes := #[t, t] }) (ht : Try.prog.underlying t = some (.slice 4)) (hs : a.eval s = .slice none 0 0) (N c g2 : Nat) (hx : a.eval x = .slice (some ⟨g2, 0, none⟩) N c) (news : List Value) (hl : news.length = N)
    (hcell : ∀ j, j < N → w.cell? ⟨g2, j, none⟩ = news[j]?) (h1 : ∀ u ∈ news, u.oneCell' = true) (h0 : 0 < N) (hN : N ≤ 1000)
    (h : ∀ g cap w', w'.ownsRow w.heap.size 4 1 (.slice (some ⟨g, 0, none⟩) N cap) N news → Below w.heap.size w w' → wpList Try.prog ops Q rest (a.put o.dst (.slice (some ⟨g, 0, none⟩) N cap)) w') : wpList Try.prog ops Q (o :: rest) a w := by
  obtain ⟨i0, hi0, hz0, hz1, hz2⟩ := bool_info
  refine wpList_append_lies w hgd s x t ho w.heap.size 4 i0 (.bool false) 1 1 ht hi0 hz0 hz1 hz2 (by rfl) (by decide) _ 0 [] hs (World.ownsRow_nil ..) ⟨g2, 0, none⟩ N c news hx (by omega) ?_ h1 h0 (by unfold maxLen; omega) (by omega) (Nat.le_refl _) w.heap.size rfl ?_
  · intro j u hj
    have hadd : (⟨g2, 0, none⟩ : Addr).add j = ⟨g2, j, none⟩ := by unfold Addr.add; split <;> simp_all
    have hjl : j < N := by rw [← hl]; exact (List.getElem?_eq_some_iff.1 hj).1
    rw [hadd, hcell j hjl]
    exact hj
  · intro g cap w' h2 h3 h4 _
    simp only [Nat.zero_add, List.nil_append] at h2 ⊢
    exact h g cap w' h2 ⟨h3.os, h3.tape, h3.output, h3.size, fun k hk => h3.block k hk (by simp [Value.ownBlock])⟩
theorem ones_bool (l : List Bool) : ∀ u ∈ l.map Value.bool, u.oneCell' = true := fun u hu => by
  obtain ⟨b, _, rfl⟩ := List.mem_map.1 hu
  rfl
def FirstPost (cls fol : List Set4) (x : Part) (many : Nat) (w : World) (e : Ending) (w' : World) : Prop :=
  Below w.heap.size w w' ∧ ∃ (nx : Nat → Nat → Nat) (en : Nat → Bool) (N : Nat) (v : Value) (L : List (List UInt8)), (∀ u, en (runE nx 0 u) = endsM x (runM cls fol u)) ∧ (∀ k b, k < N → b < 256 → nx k b < N) ∧ 0 < N ∧ N ≤ 400 ∧ L = (firstW nx en 4001).take many ∧ e = .returned (.tuple #[v, .int .i64 0]) ∧ w'.ownsRow w.heap.size 9 1 v L.length (strC L)
theorem fs_done {w W W0 : World} {M B many n : Nat} {cls fol : List Set4} {x : Part} {sets : List Set4} {rows : List (List Nat)} {ends : List Bool} {nv ev nv0 ev0 : Value} {en : Nat → Bool} {out : List (List UInt8)} {ls : List Value} {lv ov : Value}
    (h : FsAt w M cls fol x sets rows ends nv ev en n out ls lv ov W) (hen : en = fun k => ends.getD k false) (hm : MachAt B cls fol x sets rows ends nv0 ev0 W0) (hout : out = (firstW (dM rows) en 4001).take many) : FirstPost cls fol x many w (.returned (.tuple #[ov, .int .i64 0])) W :=
  ⟨h.bel, dM rows, en, sets.length, ov, out, fun u => by rw [hen]; exact hm.dends u, fun k b hk hb => hm.dlt hk hb, hm.pos, hm.half.len, hout, rfl, h.orow⟩
set_option maxRecDepth 100000 in
set_option maxHeartbeats 4000000 in
theorem first_any (hbuild : BuildSaid) (p : ByteArray) (many : Nat) (hma : many ≤ 200) (hmp : 0 < many) (cls fol : List Set4) (x : Part) (w : World) (h : ParsedTo p cls fol x) (hL : ¬ Large cls fol) :
    Calls Try.prog 16 #[.string p, .int .i64 many] w (FirstPost cls fol x many w) := by
  have hBu := Lib.hid (hbuild p cls fol x w h)
  clear h hbuild
  have t1 : decide ((many : Int) < 0) = false := decide_eq_false (by omega)
  have t2 : decide ((200 : Int) < (many : Int)) = false := decide_eq_false (by omega)
  go_enter Try.func16, Try.ntmps16
  go_upto_region 6 with (go_at_call 23; refine hBu.out.mono ?_; rintro e w1 ⟨hb1, hor⟩; rcases hor with ⟨rfl, hLL⟩ | ⟨nv, ev, sets, rows, ends, rfl, hM⟩; exact absurd hLL hL; obtain ⟨g, gc, rfl, hg, -⟩ := row_some hM.nrow hM.rpos; obtain ⟨g2, gc2, rfl, hg2, -⟩ := row_some hM.erow hM.epos; have HM := Lib.hid (And.intro hM (And.intro hg (And.intro hg2 hb1))); clear hM hg hg2 hb1)
  clear t1 t2 hBu
  have hal := (Below.refl w1.heap.size w1).alloc (Nat.le_refl _) (.cells #[.slice (some ⟨g, 0, none⟩) rows.length gc, .slice (some ⟨g2, 0, none⟩) ends.length gc2] 58 (0, 0))
  have eM := heap_alloc_new w1 (.cells #[.slice (some ⟨g, 0, none⟩) rows.length gc, .slice (some ⟨g2, 0, none⟩) ends.length gc2] 58 (0, 0))
  have hM2 := HM.out.1.below hal
  have HN := Lib.hid (And.intro hM2 (And.intro eM ((HM.out.2.2.2).trans (hal.mono HM.out.2.2.2.size))))
  clear hal eM hM2 HM
  generalize w1.alloc (.cells #[.slice (some ⟨g, 0, none⟩) rows.length gc, .slice (some ⟨g2, 0, none⟩) ends.length gc2] 58 (0, 0)) = w2 at *
  have hel : ends.length ≤ 400 := by have := HN.out.1.half.el; have := HN.out.1.half.len; omega
  have hep : 0 < ends.length := HN.out.1.epos
  have m1 : w2.cell? ⟨w1.heap.size, 1, none⟩ = some (.slice (some ⟨g2, 0, none⟩) ends.length gc2) := by rw [Lib.cell_of_heap HN.out.2.1]; rfl
  have hcells := Lib.hid (fun j (hj : j < ends.length) => World.ownsRow.cellAt HN.out.1.erow j (by omega))
  go_upto_region 9 with (at_builtin; refine append_bools rfl _ _ _ rfl (by kernel_rfl) rfl ends.length gc2 g2 rfl (ends.map Value.bool) (by simp) hcells.out (ones_bool ends) hep (by omega) ?_; intro g3 c3 w3 hr3 hb3; have H3 := Lib.hid (And.intro hr3 hb3); clear hr3 hb3)
  obtain ⟨en, hen⟩ : ∃ en : Nat → Bool, en = fun k => ends.getD k false := ⟨_, rfl⟩
  have hfs : FsAt w w1.heap.size cls fol x sets rows ends (.slice (some ⟨g, 0, none⟩) rows.length gc) (.slice (some ⟨g2, 0, none⟩) ends.length gc2) en 0 [] [.slice (some ⟨g3, 0, none⟩) sets.length c3] (.slice (some ⟨w3.heap.size, 0, none⟩) 1 1) (.slice none 0 0) (w3.alloc (.cells #[.slice (some ⟨g3, 0, none⟩) ends.length c3] 56 (0, 0))) := by
    obtain ⟨hM, eM, hbw⟩ := HN.out
    obtain ⟨hr3, hb3⟩ := H3.out
    have hsz := hbw.size
    have hsz3 := hb3.size
    have e : ends.length = sets.length := hM.half.el
    have hal := (Below.refl w3.heap.size w3).alloc (Nat.le_refl _) (.cells #[.slice (some ⟨g3, 0, none⟩) ends.length c3] 56 (0, 0))
    have hb4 := hb3.trans (hal.mono hsz3)
    have hr4 := hr3.alloc (.cells #[.slice (some ⟨g3, 0, none⟩) ends.length c3] 56 (0, 0))
    have eL := heap_alloc_new w3 (.cells #[.slice (some ⟨g3, 0, none⟩) ends.length c3] 56 (0, 0))
    refine ⟨hbw.trans (hb4.mono hsz), (hb4.block _ (lt_of_block eM)).trans eM, hM.below hb4, ⟨rfl, Or.inr ⟨w3.heap.size, 1, _, rfl, by omega, eL, Nat.le_refl _, by decide, rfl, by rw [e]; rfl⟩⟩, ⟨rfl, fun j hj => ?_⟩, World.ownsRow_nil ..⟩
    obtain rfl : j = 0 := by omega
    obtain ⟨cu, hcu⟩ := row_cell hr4 rfl
    refine ⟨g3, c3, cu, _, rfl, hcu, fun k hk => ?_⟩
    have h1 := World.ownsRow.cellAt hr4 k (by omega)
    rw [Lib.cell_of_heap hcu] at h1
    rw [h1, List.getElem?_map, List.getElem?_eq_getElem (show k < ends.length by omega)]
    show some (Value.bool ends[k]) = some (.bool (en k))
    rw [hen]
    simp [List.getD, show k < ends.length by omega]
  have HF := Lib.hid hfs
  have HE := Lib.hid (And.intro hen HN.out.1)
  clear hfs hen HN H3 m1 hcells hel hep
  generalize w3.alloc (.cells #[.slice (some ⟨g3, 0, none⟩) ends.length c3] 56 (0, 0)) = W0 at *
  generalize w3.heap.size = Z at *
  go_wp2_with fail
  go_loopw [8, 9, 10] (fun ov lv nv wr => ∃ (n : Nat) (out : List (List UInt8)) (ls : List Value) (gl cl : Nat) (oa : Option Addr) (oc : Nat), nv = .int .i64 n ∧ ov = .slice oa out.length oc ∧ lv = .slice (some ⟨gl, 0, none⟩) (n + 1) cl ∧ n ≤ 4001 ∧ out = (firstW (dM rows) en n).take many ∧
    FsAt w w1.heap.size cls fol x sets rows ends (.slice (some ⟨g, 0, none⟩) rows.length gc) (.slice (some ⟨g2, 0, none⟩) ends.length gc2) en n out ls lv ov wr) (fun _ _ nv _ => 4001 - (intOf nv).toNat)
  case atStart => exact ⟨0, [], _, _, _, _, _, rfl, rfl, rfl, by decide, by simp [firstW], HF.out⟩
  case round =>
    clear HF
    obtain ⟨wo, rfl⟩ : ∃ wo, wo = wr := ⟨_, rfl⟩
    obtain ⟨n, out, ls, gl, cl, oa, oc, rfl, rfl, rfl, hn, hout, hfs⟩ := hrel
    by_cases hn4 : n ≤ 4000
    · have tn : (n : Int) ≤ 4000 := by omega
      have wn : IntKind.i64.wrap ((n : Int) + 1) = (n : Int) + 1 := IntWalk.i64_in _ ⟨by omega, by omega⟩
      have nn : ((n : Int)).toNat = n := by omega
      by_cases hfew : out.length < many
      · have tf : decide (out.length < many) = true := decide_eq_true hfew
        have tfI : (out.length : Int) < (many : Int) := by omega
        obtain ⟨e1, e2⟩ := out_next (dM rows) en hout hfew
        have hpos := hfs.mach.pos
        have hN4 := hfs.mach.half.len
        obtain ⟨gj, cj, z0, z1⟩ := hfs.left.at (Nat.le_refl n)
        have z2 := z1 0 hpos
        have tN : (0 : Int) < (sets.length : Int) := by omega
        have HO := Lib.hid (And.intro hfs (And.intro hout (And.intro e1 e2)))
        clear hfs hout e1 e2 z1 hfew
        go_upto_if 50 with (fail)
        go_cut [8] (fun ov wx => ∃ (out' : List (List UInt8)) (oa' : Option Addr) (oc' : Nat), ov = .slice oa' out'.length oc' ∧ out' = (firstW (dM rows) en (n + 1)).take many ∧ FsAt w w1.heap.size cls fol x sets rows ends (.slice (some ⟨g, 0, none⟩) rows.length gc) (.slice (some ⟨g2, 0, none⟩) ends.length gc2) en n out' ls (.slice (some ⟨gl, 0, none⟩) (n + 1) cl) ov wx)
        case first =>
          cases hx : exB (dM rows) en n 0 with
          | true =>
            have hfs := HO.out.1
            have hst := Lib.hid (strs_any w.heap.size w.heap.size cls fol x sets rows ends _ _ wo w1.heap.size gl cl n many out _ en hfs.mach hfs.mb hfs.left hfs.orow hfs.bel.size (by omega) hma (by omega) hx)
            have HX := Lib.hid hx
            rw [hx] at z2
            clear hfs hx
            go_wp2_with fail
            refine hst.out.mono ?_
            rintro e w5 ⟨v, rfl, h1, h2, h3, h4, hk, hr, -⟩
            rw [HO.out.2.2.2] at hr
            obtain ⟨out5, ho5⟩ : ∃ o, o = (firstW (dM rows) en (n + 1)).take many := ⟨_, rfl⟩
            rw [← ho5] at hr
            obtain ⟨oa', oc', rfl, -⟩ := row_slice hr
            have HF := Lib.hid (And.intro (HO.out.1.strs h1 h2 h3 h4 hk hr) ho5)
            clear h1 h2 h3 h4 hk hr ho5
            go_wp2_with fail
            go_meet
            case rel => exact ⟨out5, oa', oc', rfl, HF.out.2, HF.out.1⟩
          | false =>
            rw [hx] at z2
            have HX := Lib.hid hx
            clear hx
            go_wp2_with fail
            go_meet
            case rel => exact ⟨out, oa, oc, rfl, out_stay (dM rows) en HO.out.2.1 HX.out, HO.out.1⟩
        case rest =>
          clear HO z0 z2
          obtain ⟨out', oa', oc', rfl, hout, hfs⟩ := hcut
          obtain ⟨gj, cj, z0, z1⟩ := hfs.left.at (Nat.le_refl n)
          have hgj := World.block_lt_of_cell? wc _ (z1 0 hpos)
          have hEx := Lib.hid (exact_any w.heap.size cls fol x sets rows ends _ _ wc w1.heap.size hfs.mach hfs.mb (exB (dM rows) en n) gj cj hgj z1)
          have HO := Lib.hid (And.intro hfs hout)
          clear hfs hout z1 hgj
          go_wp2_with fail
          refine hEx.out.mono ?_
          rintro e w6 ⟨hb6, v, rfl, hr6⟩
          obtain ⟨gv, cv, rfl⟩ := ownsRow_formW hr6 hpos
          have hexs : ∀ k, (fun k => anyN (fun b => exB (dM rows) en n (dM rows k b)) 256) k = exB (dM rows) en (n + 1) k := fun k => rfl
          rw [boolC_ext (n := sets.length) fun k _ => hexs k] at hr6
          have HP := Lib.hid (And.intro (HO.out.1.below hb6) (And.intro hr6 HO.out.2))
          clear hEx HO hb6 hr6 hexs z0
          go_wp2_with fail
          go_loopw [62, 12] (fun iv av wr => ∃ i : Nat, iv = .int .i64 i ∧ i ≤ sets.length ∧ av = .bool (anyN (fun k => exB (dM rows) en (n + 1) k) i) ∧ wr = w6) (fun iv _ _ => sets.length - (intOf iv).toNat)
          case atStart => exact ⟨0, rfl, Nat.zero_le _, rfl, rfl⟩
          case round =>
            obtain ⟨i, rfl, hi, rfl, rfl⟩ := hrel
            by_cases hlt : i < sets.length
            · have ti : decide (i < sets.length) = true := decide_eq_true hlt
              have tiI : (i : Int) < (sets.length : Int) := by omega
              have wi : IntKind.i64.wrap ((i : Int) + 1) = (i : Int) + 1 := IntWalk.i64_in _ ⟨by omega, by omega⟩
              have hni : ((i : Int)).toNat = i := by omega
              have c0 := (World.ownsRow.cellAt HP.out.2.1 i (by omega)).trans (boolC_get hlt)
              have hsu := anyN_succ (fun k => exB (dM rows) en (n + 1) k) i
              have HS := Lib.hid hsu
              clear hsu
              cases ha : anyN (fun k => exB (dM rows) en (n + 1) k) i
              all_goals
                obtain ⟨bv, hbv⟩ : ∃ v, v = exB (dM rows) en (n + 1) i := ⟨_, rfl⟩
                rw [← hbv] at c0
                have HA := Lib.hid (And.intro ha hbv)
                clear ha hbv
                go_wp2_with fail
                refine ⟨⟨i + 1, by simp, by omega, ?_, trivial⟩, by simp [intOf]; omega⟩
                rw [HS.out, HA.out.1, ← HA.out.2]
                simp
            · have ti : decide (i < sets.length) = false := decide_eq_false hlt
              have hii : i = sets.length := by omega
              cases ha : anyN (fun k => exB (dM rows) en (n + 1) k) i with
              | false =>
                have hnone : ∀ k, k < sets.length → exB (dM rows) en (n + 1) k = false := fun k hk => by
                  cases hx : exB (dM rows) en (n + 1) k with
                  | false => rfl
                  | true =>
                    have := (anyN_true (p := fun k => exB (dM rows) en (n + 1) k) (n := i)).2 ⟨k, by omega, hx⟩
                    rw [ha] at this
                    cases this
                have hd := fs_done HP.out.1 HE.out.1 HE.out.2 (out_break (dM rows) en (N := sets.length) HP.out.2.2 hpos (fun k b hk hb => HE.out.2.dlt hk hb) hnone (show n + 1 ≤ 4001 by omega))
                have HD := Lib.hid hd
                have HA := Lib.hid ha
                clear hd ha hii hnone
                go_wp2_with fail
                go_returns
                exact HD.out
              | true =>
                have hrow := HP.out.1.lrow
                have hsz := HP.out.1.bel.size
                have hll := HP.out.1.ltab.1
                have HA := Lib.hid (And.intro ha (And.intro hii hll))
                clear ha hii hll
                go_wp2_with (at_builtin; refine append_big elem_bools rfl _ _ _ rfl (by kernel_rfl) w.heap.size _ (n + 1) ls rfl (hrow.alloc _) (by omega) wr.heap.size 1 [.slice (some ⟨gv, 0, none⟩) sets.length cv] rfl rfl (heap_alloc_new ..) (one_slice _ _ _) (by simp; omega) ?_; intro g5 c5 w5 hr5 hg5 hl5; have H5 := Lib.hid (And.intro hr5 hg5); clear hr5 hg5 hl5)
                have hal := (Below.refl wr.heap.size wr).alloc (Nat.le_refl _) (.cells #[.slice (some ⟨gv, 0, none⟩) sets.length cv] 56 (0, 0))
                have hfs := HP.out.1.below hal
                obtain ⟨cu, hcu⟩ := row_cell HP.out.2.1 rfl
                have hcu2 := (hal.block gv (lt_of_block hcu)).trans hcu
                have htab := hfs.tab (cj := cv) hcu2 (fun k hk => by
                  have h1 := World.ownsRow.cellAt HP.out.2.1 k (by omega)
                  rw [Lib.cell_of_heap hcu] at h1
                  exact h1.trans (boolC_get hk)) H5.out.2 H5.out.1
                exact ⟨⟨n + 1, out', _, g5, c5, oa', oc', by simp, rfl, rfl, by omega, HP.out.2.2, htab⟩, by simp [intOf]; omega⟩
      · have tf : decide (out.length < many) = false := decide_eq_false hfew
        have hd := fs_done hfs HE.out.1 HE.out.2 (out_full (dM rows) en hout (by omega) (by omega))
        have HD := Lib.hid hd
        clear hd hfs hout
        go_wp2_with fail
        go_returns
        exact HD.out
    · have tn : decide ((n : Int) ≤ 4000) = false := decide_eq_false (by omega)
      have hn1 : n = 4001 := by omega
      have hd := fs_done hfs HE.out.1 HE.out.2 (by rw [← hn1]; exact hout)
      have HD := Lib.hid hd
      clear hd hfs hout hn1
      go_wp2_with fail
      go_returns
      exact HD.out

end Go.Proofs.Ytebcflgdjbjkoaa
