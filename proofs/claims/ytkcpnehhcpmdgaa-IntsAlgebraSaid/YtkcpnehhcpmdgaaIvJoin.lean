/- ints.joined; no condition beyond those that stand there. -/
import Derived.Test.YtkcpnehhcpmdgaaIvSort
import Derived.Test.YtkcpnehhcpmdgaaIvOut
namespace Go.Proofs.Ytkcpnehhcpmdgaa
open Go.RowKit

theorem heap_setN {w : World} {g : Nat} {cur : Array Value} {e : TypeId} {fr : Nat × Nat} (h : w.heap[g]? = some (.cells cur e fr)) (i : Nat) (v : Value) : (w.setCell ⟨g, i, none⟩ v).heap[g]? = some (.cells (cur.setIfInBounds i v) e fr) := by
  rw [Go.Sort.setCell_eq]
  simp [Go.Sort.mapBlock, Array.getElem?_modify, h, Go.Sort.onCells]
theorem cellsR_set (o : List Rg) (a b c : Int) : (cellsR (o ++ [(a, b)])).set (o.length * 2 + 1) (.int .i64 c) = cellsR (o ++ [(a, c)]) := by
  rw [cellsR_append, cellsR_append, List.set_append_right _ _ (by rw [cellsR_length]; omega), cellsR_length, show o.length * 2 + 1 - o.length * 2 = 1 from by omega]
  rfl
theorem RowR.setHigh {b : Nat} {w : World} {g l cp : Nat} {o : List Rg} {x y : Int} (h : RowR b w (.slice (some ⟨g, 0, none⟩) l cp) (o ++ [(x, y)])) (z : Int) :
    RowR b (w.setCell ⟨g, o.length * 2 + 1, none⟩ (.int .i64 z)) (.slice (some ⟨g, 0, none⟩) l cp) (o ++ [(x, z)]) := by
  unfold RowR at h ⊢
  rw [List.length_append] at h ⊢
  refine ⟨by rw [cellsR_length]; simp, ?_⟩
  rcases h.2 with ⟨_, h0⟩ | ⟨g', cap, cur, hv, hg, hh, hl, hm, hs, ht⟩
  · simp at h0
  · simp only [Value.slice.injEq, Option.some.injEq, Addr.mk.injEq, and_true] at hv
    obtain ⟨rfl, rfl, rfl⟩ := hv
    refine Or.inr ⟨g, cp, _, rfl, hg, heap_setN hh _ _, hl, hm, by simp [hs], ?_⟩
    change List.take ((o.length + [(x, y)].length) * 2) (cur.setIfInBounds _ _).toList = _
    rw [Array.toList_setIfInBounds, List.take_set, ht, cellsR_set]
theorem below_set {b : Nat} {w w' : World} (h : Below b w w') {p : Addr} (hp : b ≤ p.block) (v : Value) : Below b w (w'.setCell p v) := h.setCell hp v

theorem RowR.frozen {b : Nat} {w : World} {q l c : Nat} {rs : List Rg} (h : RowR b w (.slice (some ⟨q, 0, none⟩) l c) rs) (i : Nat) : w.frozen? ⟨q, i, none⟩ = false := by
  rcases h.2 with ⟨hv, _⟩ | ⟨g', cap, cur, hv, hg, hh, _⟩
  · simp at hv
  · simp only [Value.slice.injEq, Option.some.injEq, Addr.mk.injEq, and_true] at hv
    obtain ⟨rfl, rfl, rfl⟩ := hv
    exact Lib.frozen_of_heap hh i
theorem undrew {w w6 : World} {o1 o2 : Obj} {n : Nat} {row : Option Nat} (h : (((w.alloc o1).drewN n).alloc o2).grownBy w6 row) : ((w.alloc o1).alloc o2).grownBy w6 row := ⟨h.os, h.tape, h.output, h.size, h.block⟩
theorem RowR.drewN {b : Nat} {w : World} {v : Value} {rs : List Rg} (h : RowR b w v rs) (n : Nat) : RowR b (w.drewN n) v rs := h
theorem two_newD (w : World) (o1 o2 : Obj) (n : Nat) : (((w.alloc o1).drewN n).alloc o2).heap[w.heap.size + 1]? = some o2 := two_new w o1 o2

set_option maxRecDepth 100000 in
set_option maxHeartbeats 4000000 in
theorem joined_any (b : Nat) (v : Value) (L : List Rg) (hL : ∀ r ∈ L, (-40 ≤ r.1 ∧ r.1 ≤ 40) ∧ (-40 ≤ r.2 ∧ r.2 ≤ 40)) (hok : ∀ r ∈ L, r.1 ≤ r.2) (hlen : L.length ≤ 200) (w : World) (h : RowR b w v L) (hbw : b ≤ w.heap.size) :
    Calls Try.prog 49 #[v] w fun e w' => ∃ p c out, e = .returned (.slice p (List.length out) c) ∧ RowR b w' (.slice p out.length c) out ∧ Below b w w' ∧ Ok out ∧ ∀ n, Mem n out ↔ Mem n L := by
  obtain ⟨p, c, rfl⟩ := h.slice
  have hsort := sort_any b _ L hL (by omega) w h
  go_enter Try.func49, Try.ntmps49
  go_wp2_with fail
  refine hsort.mono ?_; rintro e w1 ⟨rfl, D, hperm, hsorted, hrowD, k1⟩
  have hz1 := k1.size
  have hDl : D.length = L.length := hperm.length_eq
  have hDL : ∀ r ∈ D, (-40 ≤ r.1 ∧ r.1 ≤ 40) ∧ (-40 ≤ r.2 ∧ r.2 ≤ 40) := fun r hr => hL r (hperm.mem_iff.1 hr)
  have hDok : ∀ r ∈ D, r.1 ≤ r.2 := fun r hr => hok r (hperm.mem_iff.1 hr)
  have hfold := minv_fold D hDok hsorted
  have hmem : ∀ n, Mem n D ↔ Mem n L := fun n => by
    unfold Mem
    constructor
    · rintro ⟨r, hr, x⟩; exact ⟨r, hperm.mem_iff.1 hr, x⟩
    · rintro ⟨r, hr, x⟩; exact ⟨r, hperm.mem_iff.2 hr, x⟩
  rw [← hDl] at hrowD
  have HA := Lib.hid (And.intro hrowD (And.intro hfold (And.intro hmem (And.intro k1 (And.intro hDL hDok)))))
  clear hsort hrowD hfold hmem hDL hDok hsorted hperm k1 h
  have hDl' : D.length ≤ 200 := by omega
  rw [← hDl]
  clear hL hok hlen hDl
  go_wp2_with fail
  go_loopw [11, 3] (fun iv ov wr => ∃ (i : Nat), i ≤ D.length ∧ iv = .int .i64 i ∧ RowR w1.heap.size wr ov ((D.take i).foldl mstep []) ∧ Below w1.heap.size w1 wr) (fun iv _ _ => D.length - (intOf iv).toNat)
  case atStart => exact ⟨0, by omega, rfl, RowR.nil _ _, Below.refl _ _⟩
  case round =>
    obtain ⟨i, hi, rfl, hrow, hb⟩ := hrel
    have wi : IntKind.i64.wrap ((i : Int) + 1) = (i : Int) + 1 := IntWalk.i64_in _ ⟨by omega, by omega⟩
    have hsz := hb.size
    have hinv := HA.out.2.1 i hi
    have hol : ((D.take i).foldl mstep []).length ≤ 81 := by
      have hw : Within (-40) 40 ((D.take i).foldl mstep []) := within_of_mem hinv.ok fun n hm => by
        obtain ⟨r, hr, h1, h2⟩ := (hinv.mem n).1 hm
        have := HA.out.2.2.2.2.1 r (List.mem_of_mem_take hr)
        omega
      have := ok_length _ (-40) 40 hinv.ok hw (by decide)
      omega
    by_cases hlt : i < D.length
    · obtain ⟨q, rfl, c0, c1, hq, -, -, hcc⟩ := HA.out.1.cells i hlt
      rw [← hb.cell (show (⟨q, i * 2, none⟩ : Addr).block < w1.heap.size from hq)] at c0
      rw [← hb.cell (show (⟨q, i * 2 + 1, none⟩ : Addr).block < w1.heap.size from hq)] at c1
      have hni : ((i : Int)).toNat = i := by omega
      have ti : (i : Int) < (D.length : Int) := by omega
      have hg := HA.out.2.2.2.2.1 _ (List.getElem_mem hlt)
      have hstep : (D.take (i + 1)).foldl mstep [] = mstep ((D.take i).foldl mstep []) D[i] := by
        rw [List.take_succ_eq_append_getElem hlt, List.foldl_append]; rfl
      generalize (D.take i).foldl mstep [] = out at *
      generalize D[i] = r at *
      obtain ⟨x, y⟩ := r
      simp only [] at c0 c1 hg
      obtain ⟨⟨g1, g2⟩, g3, g4⟩ := hg
      have a1 : IntKind.i64.wrap (x - 1) = x - 1 := IntWalk.i64_in _ ⟨by omega, by omega⟩
      rcases List.eq_nil_or_concat out with rfl | ⟨o, ⟨a, bb⟩, he⟩
      · have HB := Lib.hid (And.intro hb (And.intro hrow hstep))
        obtain ⟨po, co, rfl⟩ := hrow.slice
        clear hb hrow hstep hinv
        go_wp2_with fail
        go_quiet (fail)
        go_wp2_with (at_builtin; refine append_one rfl _ _ 43 rfl Try.underlying43 w1.heap.size _ [] rfl (((HB.out.2.1.alloc _).drewN nq).alloc _) (by simp) (wr.heap.size + 1) 1 x y rfl (two_newD wr _ _ nq) ?q1 ?_)
        case q1 => first | omega | (simp; omega)
        intro fv w6 hown6 hg6
        have HO := Lib.hid (And.intro hown6 (undrew hg6))
        clear hown6 hg6
        go_wp2_with fail
        refine ⟨⟨i + 1, by omega, by simp, ?_, app_below HB.out.1 HB.out.2.1 hsz HO.out.2⟩, by simp [intOf]; omega⟩
        rw [HB.out.2.2]
        exact HO.out.1
      · obtain rfl : out = o ++ [(a, bb)] := by simpa using he
        clear he
        obtain ⟨po, co, rfl⟩ := hrow.slice
        obtain ⟨q2, rfl, -, d1, hq2, hb2, hl2, hcc2⟩ := hrow.cells o.length (by simp)
        rw [show (o ++ [(a, bb)])[o.length]'(by simp) = (a, bb) from by simp] at d1
        have HB := Lib.hid (And.intro hb (And.intro hrow (And.intro hstep hinv)))
        obtain ⟨m, hm⟩ : ∃ m, m = o.length := ⟨_, rfl⟩
        have hlm : (o ++ [(a, bb)]).length = m + 1 := by simp [hm]
        have hbb := hinv.ok.1 (a, bb) (List.mem_append.2 (Or.inr (List.mem_singleton.2 rfl)))
        have hbb2 : -40 ≤ a ∧ bb ≤ 40 := by
          have h1 := (hinv.mem a).1 ⟨(a, bb), List.mem_append.2 (Or.inr (List.mem_singleton.2 rfl)), Int.le_refl _, hbb⟩
          have h2 := (hinv.mem bb).1 ⟨(a, bb), List.mem_append.2 (Or.inr (List.mem_singleton.2 rfl)), hbb, Int.le_refl _⟩
          obtain ⟨r1, hr1, h3, h4⟩ := h1
          obtain ⟨r2, hr2, h5, h6⟩ := h2
          have := HA.out.2.2.2.2.1 r1 (List.mem_of_mem_take hr1)
          have := HA.out.2.2.2.2.1 r2 (List.mem_of_mem_take hr2)
          omega
        simp only [] at hbb d1
        rw [hlm] at hol hcc2
        rw [hlm]
        rw [← hm] at d1
        have f2 := (hrow.alloc (.cells #[.int .i64 x, .int .i64 y] 77 (0, 0))).frozen (m * 2 + 1)
        have HM := Lib.hid hm
        clear hb hrow hstep hinv hl2 hlm hm
        have hm81 : m + 1 ≤ 81 := hol
        have wk : IntKind.i64.wrap ((m : Int) + 1 - 1) = (m : Int) := by rw [IntWalk.i64_in _ ⟨by omega, by omega⟩]; omega
        have d2 : (wr.alloc (.cells #[.int .i64 x, .int .i64 y] 77 (0, 0))).cell? ⟨q2, m * 2 + 1, none⟩ = some (.int .i64 bb) := Lib.cell?_alloc_some _ d1
        by_cases ht : bb ≥ x - 1
        · have t1 : decide (bb ≥ x - 1) = true := decide_eq_true ht
          go_wp2_with fail
          go_quiet (fail)
          go_wp2_with fail
          go_region
          all_goals
            go_wp2_with fail
            refine ⟨⟨i + 1, by omega, by simp, ?_, (below_drewN (HB.out.1.alloc hsz _) _).setCell (p := ⟨q2, m * 2 + 1, none⟩) hb2 _⟩, by simp [intOf]; omega⟩
            rw [HB.out.2.2.1, mstep_join o a bb (x, y) (by show x - 1 ≤ bb; omega)]
            have h := ((HB.out.2.1.alloc (.cells #[.int .i64 x, .int .i64 y] 77 (0, 0))).drewN (nq + 1)).setHigh (max bb y)
            rw [← HM.out, show (o ++ [(a, bb)]).length = m + 1 from by rw [HM.out]; simp] at h
            exact h
        · have t1 : decide (bb ≥ x - 1) = false := decide_eq_false ht
          go_wp2_with fail
          go_quiet (fail)
          go_wp2_with (at_builtin; refine append_one rfl _ _ 43 rfl Try.underlying43 w1.heap.size _ (o ++ [(a, bb)]) rfl ?q2 ?q3 (wr.heap.size + 1) 1 x y rfl (two_newD wr _ _ nq) ?q1 ?_)
          case q1 => first | omega | (simp; omega)
          case q2 =>
            have := HB.out.2.1
            rw [show (o ++ [(a, bb)]).length = m + 1 from by rw [HM.out]; simp] at this
            exact ((this.alloc _).drewN nq).alloc _
          case q3 => rw [show (o ++ [(a, bb)]).length = m + 1 from by rw [HM.out]; simp]; omega
          intro fv w6 hown6 hg6
          have HO := Lib.hid (And.intro hown6 (undrew hg6))
          clear hown6 hg6
          go_wp2_with fail
          refine ⟨⟨i + 1, by omega, by simp, ?_, app_below HB.out.1 HB.out.2.1 hsz HO.out.2⟩, by simp [intOf]; omega⟩
          rw [HB.out.2.2.1, mstep_new o a bb (x, y) (by show ¬ x - 1 ≤ bb; omega)]
          have := HO.out.1
          simpa using this
    · have ti : decide ((i : Int) < (D.length : Int)) = false := decide_eq_false (by omega)
      have hi' : D.take i = D := List.take_of_length_le (by omega)
      rw [hi'] at hrow hinv
      have HB := Lib.hid (And.intro hb (And.intro hrow hinv))
      obtain ⟨po, co, rfl⟩ := hrow.slice
      clear hb hrow hinv hi' hol
      go_wp2_with fail
      go_ret
      exact ⟨po, co, _, rfl, HB.out.2.1.mono (by omega), HA.out.2.2.2.1.trans (HB.out.1.mono (by omega)), HB.out.2.2.ok, fun n => (HB.out.2.2.mem n).trans (HA.out.2.2.1 n)⟩

end Go.Proofs.Ytkcpnehhcpmdgaa
