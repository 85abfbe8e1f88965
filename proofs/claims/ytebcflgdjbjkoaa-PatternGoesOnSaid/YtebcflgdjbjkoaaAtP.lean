/- The plan of a pattern: behind, ends; no condition beyond those that stand there. -/
import Derived.Test.YtebcflgdjbjkoaaParseP
namespace Go.Proofs.Ytebcflgdjbjkoaa
open Go.RowKit

/-- The plan lies in block P. -/
structure PlanIn (B P : Nat) (cls fol : List Set4) (x : Part) (cv fv : Value) (W : World) : Prop where
  low : B ≤ P
  cell : W.heap[P]? = some (.cells (planC cv fv x) 92 (0, 0))
  rows : PlanAt B cls fol cv fv W
  ok : x.ok
theorem PlanIn.below {B P : Nat} {cls fol : List Set4} {x : Part} {cv fv : Value} {W W' : World} (h : PlanIn B P cls fol x cv fv W) (hb : Below W.heap.size W W') : PlanIn B P cls fol x cv fv W' :=
  ⟨h.low, (hb.block _ (lt_of_block h.cell)).trans h.cell, h.rows.below hb, h.ok⟩
/-- The positions that can follow those of a set. -/
def behindM (fol : List Set4) (s : Set4) (n : Nat) : Set4 := (List.range n).foldl (fun o i => if mem s i then sjoin o (fol.getD i []) else o) e4
theorem behindM_succ (fol : List Set4) (s : Set4) (n : Nat) : behindM fol s (n + 1) = if mem s n then sjoin (behindM fol s n) (fol.getD n []) else behindM fol s n := by
  unfold behindM
  rw [List.range_succ, List.foldl_append]
  rfl
theorem behindM_words {fol : List Set4} (h : ∀ x ∈ fol, Words x) (s : Set4) : ∀ n, n ≤ fol.length → Words (behindM fol s n)
  | 0, _ => words_e4
  | n + 1, hn => by
    rw [behindM_succ]
    split
    · exact sjoin_words (behindM_words h s n (by omega)) (h _ (getD_mem (by omega)))
    · exact behindM_words h s n (by omega)
theorem set4_cells {w : World} {P : Nat} {x : Set4} {T : TypeId} {m : Nat × Nat} (h : w.heap[P]? = some (.cells (setC x) T m)) :
    w.cell? ⟨P, 0, none⟩ = some (.int .u64 (wd x 0 : Nat)) ∧ w.cell? ⟨P, 1, none⟩ = some (.int .u64 (wd x 1 : Nat)) ∧ w.cell? ⟨P, 2, none⟩ = some (.int .u64 (wd x 2 : Nat)) ∧ w.cell? ⟨P, 3, none⟩ = some (.int .u64 (wd x 3 : Nat)) :=
  ⟨by rw [Lib.cell_of_heap h]; rfl, by rw [Lib.cell_of_heap h]; rfl, by rw [Lib.cell_of_heap h]; rfl, by rw [Lib.cell_of_heap h]; rfl⟩
theorem set_joinC {w : World} {P : Nat} {x : Set4} {T : TypeId} {m : Nat × Nat} (h : w.heap[P]? = some (.cells (setC x) T m)) (r : Set4) : (joinW w P 0 r 4).heap[P]? = some (.cells (setC r) T m) :=
  heap_setS (heap_setS (heap_setS (heap_setS h (0 + 0) (.int .u64 (wd r 0 : Nat))) (0 + 1) (.int .u64 (wd r 1 : Nat))) (0 + 2) (.int .u64 (wd r 2 : Nat))) (0 + 3) (.int .u64 (wd r 3 : Nat))
set_option maxRecDepth 100000 in
set_option maxHeartbeats 4000000 in
theorem behind_any {B P : Nat} {cls fol : List Set4} {x : Part} {cv fv : Value} {w : World} (h : PlanIn B P cls fol x cv fv w) (s : Set4) :
    Calls Try.prog 43 #[.pointer (some ⟨P, 0, none⟩), .agg (setC s)] w fun e w' => e = .returned (.agg (setC (behindM fol s fol.length))) ∧ Below w.heap.size w w' := by
  obtain ⟨fa, fc, rfl, hfc⟩ := row_slice h.rows.frow
  have hN := h.rows.len
  have hab : Below w.heap.size w (((w.alloc (.cells (setC s) 88 (0, 0))).alloc (.cells #[.int .u64 0, .int .u64 0, .int .u64 0, .int .u64 0] 88 (0, 0))).alloc (.cells #[.int .u64 0, .int .u64 0, .int .u64 0, .int .u64 0] 88 (0, 0))) := (((Below.refl w.heap.size w).alloc (Nat.le_refl _) _).alloc (by simp) _).alloc (by simp; omega) _
  have s2 : ((w.alloc (.cells (setC s) 88 (0, 0))).alloc (.cells #[.int .u64 0, .int .u64 0, .int .u64 0, .int .u64 0] 88 (0, 0))).heap.size = w.heap.size + 1 + 1 := by simp
  have eO : (((w.alloc (.cells (setC s) 88 (0, 0))).alloc (.cells #[.int .u64 0, .int .u64 0, .int .u64 0, .int .u64 0] 88 (0, 0))).alloc (.cells #[.int .u64 0, .int .u64 0, .int .u64 0, .int .u64 0] 88 (0, 0))).heap[w.heap.size + 1 + 1]? = some (.cells (setC e4) 88 (0, 0)) := by
    rw [← s2]; exact heap_alloc_new _ _
  have eS : (((w.alloc (.cells (setC s) 88 (0, 0))).alloc (.cells #[.int .u64 0, .int .u64 0, .int .u64 0, .int .u64 0] 88 (0, 0))).alloc (.cells #[.int .u64 0, .int .u64 0, .int .u64 0, .int .u64 0] 88 (0, 0))).heap[w.heap.size]? = some (.cells (setC s) 88 (0, 0)) := by
    rw [heap_alloc_old _ _ (by simp; omega)]; exact pair1 w _ _
  have eR : (((w.alloc (.cells (setC s) 88 (0, 0))).alloc (.cells #[.int .u64 0, .int .u64 0, .int .u64 0, .int .u64 0] 88 (0, 0))).alloc (.cells #[.int .u64 0, .int .u64 0, .int .u64 0, .int .u64 0] 88 (0, 0))).heap[w.heap.size + 1]? = some (.cells (setC e4) 88 (0, 0)) := by
    rw [heap_alloc_old _ _ (by simp)]; exact pair2 w _ _
  have hP := h.below hab
  have hlow : ∀ k, k < w.heap.size → k ≠ w.heap.size + 1 + 1 := fun k hk => by omega
  have HI := Lib.hid (And.intro h (And.intro hab (And.intro eO (And.intro eS eR))))
  obtain ⟨a1⟩ : ∃ _ : True, True := ⟨trivial, trivial⟩
  have a1 : (((w.alloc (.cells (setC s) 88 (0, 0))).alloc (.cells #[.int .u64 0, .int .u64 0, .int .u64 0, .int .u64 0] 88 (0, 0))).alloc (.cells #[.int .u64 0, .int .u64 0, .int .u64 0, .int .u64 0] 88 (0, 0))).cell? ⟨P, 1, none⟩ = some (.slice fa fol.length fc) := by rw [Lib.cell_of_heap hP.cell]; rfl
  clear h hab s2 eO eS eR hP
  go_enter Try.func43, Try.ntmps43
  go_wp2_with fail
  have hi := HI.out
  clear HI a1
  generalize ((w.alloc (.cells (setC s) 88 (0, 0))).alloc (.cells #[.int .u64 0, .int .u64 0, .int .u64 0, .int .u64 0] 88 (0, 0))).alloc (.cells #[.int .u64 0, .int .u64 0, .int .u64 0, .int .u64 0] 88 (0, 0)) = W at *
  obtain ⟨h, hab, eO, eS, eR⟩ := hi
  have HI := Lib.hid (And.intro h (And.intro hab (And.intro eO (And.intro eS eR))))
  clear h hab eO eS eR
  go_loopw [12] (fun iv wr => ∃ i : Nat, iv = .int .i64 i ∧ i ≤ fol.length ∧ Below w.heap.size w wr ∧ wr.heap[w.heap.size + 1 + 1]? = some (.cells (setC (behindM fol s i)) 88 (0, 0)) ∧ wr.heap[w.heap.size]? = some (.cells (setC s) 88 (0, 0)) ∧ wr.heap[w.heap.size + 1]? = some (.cells (setC e4) 88 (0, 0))) (fun iv _ => fol.length - (intOf iv).toNat)
  case atStart => exact ⟨0, rfl, Nat.zero_le _, HI.out.2.1, HI.out.2.2.1, HI.out.2.2.2.1, HI.out.2.2.2.2⟩
  case round =>
    obtain ⟨i, rfl, hi, hb, eO, eS, eR⟩ := hrel
    by_cases hlt : i < fol.length
    · have ti : (i : Int) < (fol.length : Int) := by omega
      have wi : IntKind.i64.wrap ((i : Int) + 1) = (i : Int) + 1 := IntWalk.i64_in _ ⟨by omega, by omega⟩
      have hni : ((i : Int)).toNat = i := by omega
      have hsucc := behindM_succ fol s i
      have hbw := behindM_words HI.out.1.rows.fok s i hi
      obtain ⟨g, cap, hg⟩ := ownsRow_formW HI.out.1.rows.frow (by omega)
      simp only [Value.slice.injEq] at hg
      obtain ⟨rfl, -, rfl⟩ := hg
      have hPw := HI.out.1.below hb
      have hHas := Lib.hid (set_has w.heap.size 0 s i (by omega) wr (setAt_of eS))
      generalize behindM fol s i = o at *
      have a1 : wr.cell? ⟨P, 1, none⟩ = some (.slice (some ⟨g, 0, none⟩) fol.length fc) := by rw [Lib.cell_of_heap hPw.cell]; rfl
      have hcell := fun j (hj : j < 4) => (World.ownsRow.cellAt hPw.rows.frow (i * 4 + j) (by omega)).trans (flat_get fol i j hlt hj)
      have f0 := hcell 0 (by decide)
      have f1 := hcell 1 (by decide)
      have f2 := hcell 2 (by decide)
      have f3 := hcell 3 (by decide)
      rw [Nat.add_zero] at f0
      have hw4 : Words (fol.getD i []) := HI.out.1.rows.fok _ (getD_mem hlt)
      generalize fol.getD i [] = t at *
      have HR := Lib.hid (And.intro hb (And.intro eO (And.intro eS (And.intro eR (And.intro hsucc (And.intro hbw hw4))))))
      clear hb eO eS eR hsucc hbw hw4 hcell hPw
      go_wp2_with fail
      refine hHas.out.mono ?_
      rintro e w3 ⟨rfl, rfl⟩
      clear hHas
      cases hm : mem s i
      · go_wp2_with fail
        refine ⟨⟨i + 1, by simp, by omega, HR.out.1, ?_, HR.out.2.2.1, HR.out.2.2.2.1⟩, by simp [intOf]; omega⟩
        rw [HR.out.2.2.2.2.1, hm]
        exact HR.out.2.1
      · have hJ := Lib.hid (set_join (w.heap.size + 1 + 1) 0 o t w3 HR.out.2.2.2.2.2.1 HR.out.2.2.2.2.2.2 (lt_of_block HR.out.2.1) (setAt_of HR.out.2.1) (fun j => Lib.frozen_of_heap HR.out.2.1 j))
        unfold setC at hJ
        go_wp2_with fail
        refine hJ.out.mono ?_
        rintro e w5 ⟨rfl, hw5⟩
        have hal := (Below.refl w3.heap.size w3).alloc (Nat.le_refl _) (.cells (setC t) 88 (0, 0))
        have hone := one_join (w.heap.size + 1 + 1) 0 (sjoin o t) (w3.alloc (.cells (setC t) 88 (0, 0))) 4
        have hO := set_joinC ((hal.block _ (lt_of_block HR.out.2.1)).trans HR.out.2.1) (sjoin o t)
        change w5 = joinW (w3.alloc (.cells (setC t) 88 (0, 0))) (w.heap.size + 1 + 1) 0 (sjoin o t) 4 at hw5
        rw [← hw5] at hone hO
        have H5 := Lib.hid (And.intro ((HR.out.1.trans (hal.mono HR.out.1.size)).trans (hone.below (by omega))) (And.intro hO (And.intro ((hone.other _ (by omega)).trans ((hal.block _ (lt_of_block HR.out.2.2.1)).trans HR.out.2.2.1)) ((hone.other _ (by omega)).trans ((hal.block _ (lt_of_block HR.out.2.2.2.1)).trans HR.out.2.2.2.1)))))
        clear hal hone hO hw5 hJ
        go_wp2_with fail
        refine ⟨⟨i + 1, by simp, by omega, H5.out.1, ?_, H5.out.2.2.1, H5.out.2.2.2⟩, by simp [intOf]; omega⟩
        rw [HR.out.2.2.2.2.1, hm]
        exact H5.out.2.1
    · have ti : decide ((i : Int) < (fol.length : Int)) = false := decide_eq_false (by omega)
      obtain rfl : i = fol.length := by omega
      obtain ⟨x0, x1, x2, x3⟩ := set4_cells eO
      obtain ⟨y0, y1, y2, y3⟩ := set4_cells eR
      have z0 := Lib.frozen_of_heap eR 0
      have z1 := Lib.frozen_of_heap eR 1
      have z2 := Lib.frozen_of_heap eR 2
      have z3 := Lib.frozen_of_heap eR 3
      have HR := Lib.hid (And.intro hb eR)
      clear hb eO eS eR
      generalize hoe : behindM fol s fol.length = o at *
      go_wp2_with fail
      refine bodyPost_ret (results_cell_row rfl _ _ (w.heap.size + 1) 88 (setC o) (0, 0) _ rfl (heap_setS (heap_setS (heap_setS (heap_setS HR.out.2 0 (.int .u64 (wd o 0 : Nat))) 1 (.int .u64 (wd o 1 : Nat))) 2 (.int .u64 (wd o 2 : Nat))) 3 (.int .u64 (wd o 3 : Nat))) Try.underlying88 rfl (by kernel_rfl)) rfl ?_
      have o9 := (((one_cell (w.heap.size + 1) 0 wr (.int .u64 (wd o 0 : Nat))).trans (one_cell _ 1 _ (.int .u64 (wd o 1 : Nat)))).trans (one_cell _ 2 _ (.int .u64 (wd o 2 : Nat)))).trans (one_cell _ 3 _ (.int .u64 (wd o 3 : Nat)))
      exact ⟨by rw [hoe], HR.out.1.trans (o9.below (Nat.le_succ _))⟩
/-- Does a string that leads to a set belong to the pattern? -/
def endsM (x : Part) (s : Set4) : Bool := (mem s 0 && x.em) || (List.range 4).any fun i => wd s i &&& wd x.lst i != 0
theorem any_range_succ (f : Nat → Bool) (n : Nat) : (List.range (n + 1)).any f = ((List.range n).any f || f n) := by
  rw [List.range_succ, List.any_append]
  simp
set_option maxRecDepth 100000 in
set_option maxHeartbeats 4000000 in
theorem ends_any {B P : Nat} {cls fol : List Set4} {x : Part} {cv fv : Value} {w : World} (h : PlanIn B P cls fol x cv fv w) (s : Set4) (hs : Words s) :
    Calls Try.prog 44 #[.pointer (some ⟨P, 0, none⟩), .agg (setC s)] w fun e w' => e = .returned (.bool (endsM x s)) ∧ Below w.heap.size w w' := by
  have hab : Below w.heap.size w (w.alloc (.cells (setC s) 88 (0, 0))) := (Below.refl w.heap.size w).alloc (Nat.le_refl _) _
  have eS : (w.alloc (.cells (setC s) 88 (0, 0))).heap[w.heap.size]? = some (.cells (setC s) 88 (0, 0)) := heap_alloc_new w _
  have hP := h.below hab
  have a2 : (w.alloc (.cells (setC s) 88 (0, 0))).cell? ⟨P, 2, none⟩ = some (.bool x.em) := by rw [Lib.cell_of_heap hP.cell]; rfl
  have hHas := Lib.hid (set_has w.heap.size 0 s 0 (by omega) _ (setAt_of eS))
  have hPl := lt_of_block h.cell
  have HI := Lib.hid (And.intro hab (And.intro eS hP.cell))
  have HX := Lib.hid (And.intro hs (And.intro hP.ok.2 (show endsM x s = ((mem s 0 && x.em) || (List.range 4).any fun i => wd s i &&& wd x.lst i != 0) from rfl)))
  generalize endsM x s = res at *
  clear hab eS hP h hs
  go_enter Try.func44, Try.ntmps44
  go_wp2_with fail
  have hi := HI.out
  clear HI
  have hHas2 := hHas
  clear hHas
  generalize w.alloc (.cells (setC s) 88 (0, 0)) = W at *
  have HI := Lib.hid hi
  clear hi
  refine hHas2.out.mono ?_
  rintro e w3 ⟨rfl, rfl⟩
  clear hHas2
  cases hm0 : mem s 0 <;> cases hem : x.em
  all_goals rw [hem] at a2
  · skip
    go_wp2_with fail
    go_loopw [14] (fun iv wr => ∃ i : Nat, iv = .int .i64 i ∧ i ≤ 4 ∧ Below w3.heap.size w3 wr ∧ ((List.range i).any fun j => wd s j &&& wd x.lst j != 0) = false) (fun iv _ => 4 - (intOf iv).toNat)
    case atStart => exact ⟨0, rfl, Nat.zero_le _, Below.refl _ _, rfl⟩
    case round =>
      obtain ⟨i, rfl, hi, hb, hany⟩ := hrel
      by_cases hlt : i < 4
      · have ti : (i : Int) < 4 := by omega
        have wi : IntKind.i64.wrap ((i : Int) + 1) = (i : Int) + 1 := IntWalk.i64_in _ ⟨by omega, by omega⟩
        have hni : ((i : Int)).toNat = i := by omega
        have hS := (hb.block _ (lt_of_block HI.out.2.1)).trans HI.out.2.1
        have hPc := (hb.block _ (lt_of_block HI.out.2.2)).trans HI.out.2.2
        have c0 : wr.cell? ⟨w.heap.size, i, none⟩ = some (.int .u64 (wd s i : Nat)) := by
          have := setAt_of hS i hlt
          rw [Nat.zero_add] at this
          exact this
        have c1 : wr.cell? ⟨P, 7 + i, none⟩ = some (.int .u64 (wd x.lst i : Nat)) := by
          rw [Lib.cell_of_heap hPc]
          rcases (show i = 0 ∨ i = 1 ∨ i = 2 ∨ i = 3 by omega) with rfl | rfl | rfl | rfl <;> rfl
        have hand := u64_and (wd s i) (wd x.lst i) (word_lt HX.out.1 i) (word_lt HX.out.2.1 i)
        have hsucc := any_range_succ (fun j => wd s j &&& wd x.lst j != 0) i
        rw [hany, Bool.false_or] at hsucc
        have HR := Lib.hid (And.intro hb hsucc)
        clear hb hS hPc hsucc hany
        go_upto_region 6 with fail
        go_region_held3 (fun w' => w' = wr.drew ∧ w'.cell? ⟨w.heap.size, i, none⟩ = some (.int .u64 (wd s i : Nat)) ∧ w'.cell? ⟨P, 7 + i, none⟩ = some (.int .u64 (wd x.lst i : Nat))) (exact ⟨rfl, by assumption, by assumption⟩) (fail)
        by_cases hz : wd s i &&& wd x.lst i = 0
        · have tz : (((wd s i &&& wd x.lst i : Nat) : Int) != 0) = false := by rw [hz]; rfl
          have hb2 := HR.out.1
          have HB := Lib.hid (show Below w3.heap.size w3 wr.drew from ⟨hb2.os, hb2.tape, hb2.output, hb2.size, hb2.block⟩)
          have HZ := Lib.hid (show ((List.range (i + 1)).any fun j => wd s j &&& wd x.lst j != 0) = false by rw [HR.out.2, hz]; rfl)
          clear hb2 hz
          go_wp2_with fail
          exact ⟨⟨i + 1, by simp, by omega, HB.out, HZ.out⟩, by simp [intOf]; omega⟩
        · have tz : (((wd s i &&& wd x.lst i : Nat) : Int) != 0) = true := bne_iff_ne.2 (by omega)
          have hb2 := HR.out.1
          have HB := Lib.hid (show Below w3.heap.size w3 wr.drew from ⟨hb2.os, hb2.tape, hb2.output, hb2.size, hb2.block⟩)
          have HZ := Lib.hid (show res = true by
            rw [HX.out.2.2, List.any_eq_true.2 ⟨i, List.mem_range.2 hlt, by simpa using hz⟩]
            exact Bool.or_true _)
          clear hb2 hz
          go_wp2_with fail
          go_ret
          exact ⟨by rw [HZ.out]; rfl, HI.out.1.trans (HB.out.mono HI.out.1.size)⟩
      · have ti : decide ((i : Int) < 4) = false := decide_eq_false (by omega)
        obtain rfl : i = 4 := by omega
        have HZ := Lib.hid (show res = false by rw [HX.out.2.2, hany, hm0, Bool.false_and]; rfl)
        have HB := Lib.hid hb
        clear hany hb
        go_wp2_with fail
        go_ret
        exact ⟨by rw [HZ.out]; rfl, HI.out.1.trans (HB.out.mono HI.out.1.size)⟩
  · skip
    go_wp2_with fail
    go_loopw [14] (fun iv wr => ∃ i : Nat, iv = .int .i64 i ∧ i ≤ 4 ∧ Below w3.heap.size w3 wr ∧ ((List.range i).any fun j => wd s j &&& wd x.lst j != 0) = false) (fun iv _ => 4 - (intOf iv).toNat)
    case atStart => exact ⟨0, rfl, Nat.zero_le _, Below.refl _ _, rfl⟩
    case round =>
      obtain ⟨i, rfl, hi, hb, hany⟩ := hrel
      by_cases hlt : i < 4
      · have ti : (i : Int) < 4 := by omega
        have wi : IntKind.i64.wrap ((i : Int) + 1) = (i : Int) + 1 := IntWalk.i64_in _ ⟨by omega, by omega⟩
        have hni : ((i : Int)).toNat = i := by omega
        have hS := (hb.block _ (lt_of_block HI.out.2.1)).trans HI.out.2.1
        have hPc := (hb.block _ (lt_of_block HI.out.2.2)).trans HI.out.2.2
        have c0 : wr.cell? ⟨w.heap.size, i, none⟩ = some (.int .u64 (wd s i : Nat)) := by
          have := setAt_of hS i hlt
          rw [Nat.zero_add] at this
          exact this
        have c1 : wr.cell? ⟨P, 7 + i, none⟩ = some (.int .u64 (wd x.lst i : Nat)) := by
          rw [Lib.cell_of_heap hPc]
          rcases (show i = 0 ∨ i = 1 ∨ i = 2 ∨ i = 3 by omega) with rfl | rfl | rfl | rfl <;> rfl
        have hand := u64_and (wd s i) (wd x.lst i) (word_lt HX.out.1 i) (word_lt HX.out.2.1 i)
        have hsucc := any_range_succ (fun j => wd s j &&& wd x.lst j != 0) i
        rw [hany, Bool.false_or] at hsucc
        have HR := Lib.hid (And.intro hb hsucc)
        clear hb hS hPc hsucc hany
        go_upto_region 6 with fail
        go_region_held3 (fun w' => w' = wr.drew ∧ w'.cell? ⟨w.heap.size, i, none⟩ = some (.int .u64 (wd s i : Nat)) ∧ w'.cell? ⟨P, 7 + i, none⟩ = some (.int .u64 (wd x.lst i : Nat))) (exact ⟨rfl, by assumption, by assumption⟩) (fail)
        by_cases hz : wd s i &&& wd x.lst i = 0
        · have tz : (((wd s i &&& wd x.lst i : Nat) : Int) != 0) = false := by rw [hz]; rfl
          have hb2 := HR.out.1
          have HB := Lib.hid (show Below w3.heap.size w3 wr.drew from ⟨hb2.os, hb2.tape, hb2.output, hb2.size, hb2.block⟩)
          have HZ := Lib.hid (show ((List.range (i + 1)).any fun j => wd s j &&& wd x.lst j != 0) = false by rw [HR.out.2, hz]; rfl)
          clear hb2 hz
          go_wp2_with fail
          exact ⟨⟨i + 1, by simp, by omega, HB.out, HZ.out⟩, by simp [intOf]; omega⟩
        · have tz : (((wd s i &&& wd x.lst i : Nat) : Int) != 0) = true := bne_iff_ne.2 (by omega)
          have hb2 := HR.out.1
          have HB := Lib.hid (show Below w3.heap.size w3 wr.drew from ⟨hb2.os, hb2.tape, hb2.output, hb2.size, hb2.block⟩)
          have HZ := Lib.hid (show res = true by
            rw [HX.out.2.2, List.any_eq_true.2 ⟨i, List.mem_range.2 hlt, by simpa using hz⟩]
            exact Bool.or_true _)
          clear hb2 hz
          go_wp2_with fail
          go_ret
          exact ⟨by rw [HZ.out]; rfl, HI.out.1.trans (HB.out.mono HI.out.1.size)⟩
      · have ti : decide ((i : Int) < 4) = false := decide_eq_false (by omega)
        obtain rfl : i = 4 := by omega
        have HZ := Lib.hid (show res = false by rw [HX.out.2.2, hany, hm0, Bool.false_and]; rfl)
        have HB := Lib.hid hb
        clear hany hb
        go_wp2_with fail
        go_ret
        exact ⟨by rw [HZ.out]; rfl, HI.out.1.trans (HB.out.mono HI.out.1.size)⟩
  · skip
    go_wp2_with fail
    go_loopw [14] (fun iv wr => ∃ i : Nat, iv = .int .i64 i ∧ i ≤ 4 ∧ Below w3.heap.size w3 wr ∧ ((List.range i).any fun j => wd s j &&& wd x.lst j != 0) = false) (fun iv _ => 4 - (intOf iv).toNat)
    case atStart => exact ⟨0, rfl, Nat.zero_le _, Below.refl _ _, rfl⟩
    case round =>
      obtain ⟨i, rfl, hi, hb, hany⟩ := hrel
      by_cases hlt : i < 4
      · have ti : (i : Int) < 4 := by omega
        have wi : IntKind.i64.wrap ((i : Int) + 1) = (i : Int) + 1 := IntWalk.i64_in _ ⟨by omega, by omega⟩
        have hni : ((i : Int)).toNat = i := by omega
        have hS := (hb.block _ (lt_of_block HI.out.2.1)).trans HI.out.2.1
        have hPc := (hb.block _ (lt_of_block HI.out.2.2)).trans HI.out.2.2
        have c0 : wr.cell? ⟨w.heap.size, i, none⟩ = some (.int .u64 (wd s i : Nat)) := by
          have := setAt_of hS i hlt
          rw [Nat.zero_add] at this
          exact this
        have c1 : wr.cell? ⟨P, 7 + i, none⟩ = some (.int .u64 (wd x.lst i : Nat)) := by
          rw [Lib.cell_of_heap hPc]
          rcases (show i = 0 ∨ i = 1 ∨ i = 2 ∨ i = 3 by omega) with rfl | rfl | rfl | rfl <;> rfl
        have hand := u64_and (wd s i) (wd x.lst i) (word_lt HX.out.1 i) (word_lt HX.out.2.1 i)
        have hsucc := any_range_succ (fun j => wd s j &&& wd x.lst j != 0) i
        rw [hany, Bool.false_or] at hsucc
        have HR := Lib.hid (And.intro hb hsucc)
        clear hb hS hPc hsucc hany
        go_upto_region 6 with fail
        go_region_held3 (fun w' => w' = wr.drew ∧ w'.cell? ⟨w.heap.size, i, none⟩ = some (.int .u64 (wd s i : Nat)) ∧ w'.cell? ⟨P, 7 + i, none⟩ = some (.int .u64 (wd x.lst i : Nat))) (exact ⟨rfl, by assumption, by assumption⟩) (fail)
        by_cases hz : wd s i &&& wd x.lst i = 0
        · have tz : (((wd s i &&& wd x.lst i : Nat) : Int) != 0) = false := by rw [hz]; rfl
          have hb2 := HR.out.1
          have HB := Lib.hid (show Below w3.heap.size w3 wr.drew from ⟨hb2.os, hb2.tape, hb2.output, hb2.size, hb2.block⟩)
          have HZ := Lib.hid (show ((List.range (i + 1)).any fun j => wd s j &&& wd x.lst j != 0) = false by rw [HR.out.2, hz]; rfl)
          clear hb2 hz
          go_wp2_with fail
          exact ⟨⟨i + 1, by simp, by omega, HB.out, HZ.out⟩, by simp [intOf]; omega⟩
        · have tz : (((wd s i &&& wd x.lst i : Nat) : Int) != 0) = true := bne_iff_ne.2 (by omega)
          have hb2 := HR.out.1
          have HB := Lib.hid (show Below w3.heap.size w3 wr.drew from ⟨hb2.os, hb2.tape, hb2.output, hb2.size, hb2.block⟩)
          have HZ := Lib.hid (show res = true by
            rw [HX.out.2.2, List.any_eq_true.2 ⟨i, List.mem_range.2 hlt, by simpa using hz⟩]
            exact Bool.or_true _)
          clear hb2 hz
          go_wp2_with fail
          go_ret
          exact ⟨by rw [HZ.out]; rfl, HI.out.1.trans (HB.out.mono HI.out.1.size)⟩
      · have ti : decide ((i : Int) < 4) = false := decide_eq_false (by omega)
        obtain rfl : i = 4 := by omega
        have HZ := Lib.hid (show res = false by rw [HX.out.2.2, hany, hem, Bool.and_false]; rfl)
        have HB := Lib.hid hb
        clear hany hb
        go_wp2_with fail
        go_ret
        exact ⟨by rw [HZ.out]; rfl, HI.out.1.trans (HB.out.mono HI.out.1.size)⟩
  · have HZ := Lib.hid (show res = true by rw [HX.out.2.2, hm0, hem]; rfl)
    go_wp2_with fail
    go_ret
    exact ⟨by rw [HZ.out]; rfl, HI.out.1⟩

end Go.Proofs.Ytebcflgdjbjkoaa
/- The plan of a pattern: the positions at which a byte can be; no condition beyond those that stand there. -/
namespace Go.Proofs.Ytebcflgdjbjkoaa
open Go.RowKit

/-- The zero value of a long array, not written out. -/
theorem run_zero_row {T : TypeId} {n : Nat} {v : Value} (h : (Try.prog.info? T).map (·.zero) = some (some (.agg (Array.replicate n v)))) (w : World) : (zeroValue T).run Try.prog w = .ok (.agg (Array.replicate n v)) w := by
  cases hi : Try.prog.info? T with
  | none => rw [hi] at h; simp at h
  | some i =>
    rw [hi] at h
    have hz : i.zero = some (.agg (Array.replicate n v)) := by simpa using h
    simp [zeroValue, typeInfo, hi, hz]
theorem flat_repl : ∀ n, flatC (List.replicate n e4) = List.replicate (n * 4) (.int .u64 0)
  | 0 => rfl
  | n + 1 => by
    rw [List.replicate_succ, show (n + 1) * 4 = n * 4 + 1 + 1 + 1 + 1 by omega]
    simp only [flatC, List.replicate_succ, flat_repl n]
    rfl
theorem repl_get (n j : Nat) (h : j < n) : (List.replicate n e4).getD j [] = e4 := by simp [List.getD, h]
theorem set_get4 (l : List Set4) (b j : Nat) (v : Set4) (hb : b < l.length) : (l.set b v).getD j [] = if j = b then v else l.getD j [] := by
  by_cases h : j = b
  · subst h; simp [List.getD, hb]
  · simp only [List.getD]
    rw [List.getElem?_set_ne (fun e => h e.symm), if_neg h]
/-- A number more in one of the sets. -/
theorem flat_add (i : Nat) (hi : i ≤ 255) : ∀ (l : List Set4) (b : Nat), b < l.length → (flatC l).set (b * 4 + i / 64) (.int .u64 (wd (sadd (l.getD b []) i) (i / 64) : Nat)) = flatC (l.set b (sadd (l.getD b []) i))
  | [], _, h => absurd h (Nat.not_lt_zero _)
  | a :: l, 0, _ => by
    have hk : ∀ j, j ≠ i / 64 → wd (sadd a i) j = wd a j := fun j hj => by
      simp only [wd, sadd, List.getD]
      rw [List.getElem?_set_ne (by omega)]
    have e0 : (a :: l).getD 0 [] = a := rfl
    rw [e0]
    rcases (show i / 64 = 0 ∨ i / 64 = 1 ∨ i / 64 = 2 ∨ i / 64 = 3 by omega) with e | e | e | e <;> rw [e] at hk ⊢ <;> simp [flatC, hk]
  | a :: l, b + 1, h => by
    have := flat_add i hi l b (by simpa using h)
    have e0 : (a :: l).getD (b + 1) [] = l.getD b [] := rfl
    rw [e0, show (b + 1) * 4 + i / 64 = (b * 4 + i / 64) + 4 by omega]
    simp only [flatC, List.set_cons_succ]
    rw [this]
/-- The positions at which a byte can be, of the first n. -/
def atM (cls : List Set4) (b n : Nat) : Set4 := (List.range n).foldl (fun o i => if mem (cls.getD i []) b then sadd o i else o) e4
theorem atM_succ (cls : List Set4) (b n : Nat) : atM cls b (n + 1) = if mem (cls.getD n []) b then sadd (atM cls b n) n else atM cls b n := by
  unfold atM
  rw [List.range_succ, List.foldl_append]
  rfl
theorem atM_words (cls : List Set4) (b : Nat) : ∀ n, Words (atM cls b n)
  | 0 => words_e4
  | n + 1 => by
    rw [atM_succ]
    split
    · exact sadd_words (atM_words cls b n) n
    · exact atM_words cls b n
/-- Block A has 256 sets. -/
structure TabAt (A : Nat) (l : List Set4) (W : World) : Prop where
  cell : W.heap[A]? = some (.cells (flatC l).toArray 120 (0, 0))
  len : l.length = 256
  ok : ∀ x ∈ l, Words x
theorem TabAt.below {A : Nat} {l : List Set4} {W W' : World} (h : TabAt A l W) (hb : Below W.heap.size W W') : TabAt A l W' := ⟨(hb.block _ (lt_of_block h.cell)).trans h.cell, h.len, h.ok⟩
theorem TabAt.set {A : Nat} {l : List Set4} {W : World} (h : TabAt A l W) (b : Nat) (hb : b < 256) : SetAt A (b * 4) (l.getD b []) W := fun j hj => by
  rw [Lib.cell_of_heap h.cell]
  have := flat_get l b j (by rw [h.len]; exact hb) hj
  simpa using this
theorem TabAt.add {A : Nat} {l : List Set4} {W : World} (h : TabAt A l W) (b i : Nat) (hb : b < 256) (hi : i ≤ 255) : TabAt A (l.set b (sadd (l.getD b []) i)) (W.setCell ⟨A, b * 4 + i / 64, none⟩ (.int .u64 (wd (sadd (l.getD b []) i) (i / 64) : Nat))).drew := by
  have hbl : b < l.length := by rw [h.len]; exact hb
  refine ⟨?_, by rw [List.length_set]; exact h.len, fun x hx => ?_⟩
  · have := heap_setS h.cell (b * 4 + i / 64) (.int .u64 (wd (sadd (l.getD b []) i) (i / 64) : Nat))
    rw [List.setIfInBounds_toArray, flat_add i hi l b hbl] at this
    exact this
  · rcases List.mem_or_eq_of_mem_set hx with h1 | rfl
    · exact h.ok x h1
    · exact sadd_words (h.ok _ (getD_mem hbl)) i
/-- The plan is where a block of another type is changed. -/
theorem PlanIn.other {B P A : Nat} {cls fol : List Set4} {x : Part} {cv fv : Value} {W W' : World} (h : PlanIn B P cls fol x cv fv W) {cs : Array Value} {T : TypeId} {m : Nat × Nat} (hA : W.heap[A]? = some (.cells cs T m)) (h1 : T ≠ 92) (h2 : T ≠ 114) (h3 : T ≠ 88) (ho : ∀ k, k ≠ A → W'.heap[k]? = W.heap[k]?) : PlanIn B P cls fol x cv fv W' := by
  refine ⟨h.low, (ho P fun e => ?_).trans h.cell, ⟨row_keepP h.rows.crow fun g hg => ho g fun e => row_ne h.rows.crow hA h2 (e ▸ hg), row_keepP h.rows.frow fun g hg => ho g fun e => row_ne h.rows.frow hA h3 (e ▸ hg), h.rows.cok, h.rows.fok, h.rows.len⟩, h.ok⟩
  rw [← e, h.cell] at hA
  injection hA with hA
  injection hA with _ e2 _
  exact h1 e2.symm
set_option maxRecDepth 100000 in
set_option maxHeartbeats 4000000 in
theorem at_any {B P : Nat} {cls fol : List Set4} {x : Part} {cv fv : Value} {w : World} (h : PlanIn B P cls fol x cv fv w) :
    Calls Try.prog 42 #[.pointer (some ⟨P, 0, none⟩)] w fun e w' => (∃ A l, e = .returned (.pointer (some ⟨A, 0, none⟩)) ∧ w.heap.size ≤ A ∧ TabAt A l w' ∧ ∀ b, b < 256 → l.getD b [] = atM cls b cls.length) ∧ Below w.heap.size w w' := by
  obtain ⟨ca, cc, rfl, hcc⟩ := row_slice h.rows.crow
  have hN := h.rows.len.2
  have hz := fun W => run_zero_row (T := 120) (n := 1024) (v := .int .u64 0) (by kernel_rfl) W
  have hab : Below w.heap.size w (w.alloc (.cells (Array.replicate 1024 (.int .u64 0)) 120 (0, 0))) := (Below.refl w.heap.size w).alloc (Nat.le_refl _) _
  have hT : TabAt w.heap.size (List.replicate 256 e4) (w.alloc (.cells (Array.replicate 1024 (.int .u64 0)) 120 (0, 0))) := by
    refine ⟨?_, by simp, fun y hy => by rw [(List.mem_replicate.1 hy).2]; exact words_e4⟩
    rw [heap_alloc_new, flat_repl, ← List.toArray_replicate]
  have HI := Lib.hid (And.intro hT (And.intro hab (h.below hab)))
  clear hT hab h
  generalize hZ : Array.replicate 1024 (Value.int .u64 0) = Z at *
  clear hZ
  go_enter Try.func42, Try.ntmps42
  go_wp2_with fail
  have hi := HI.out
  clear HI
  generalize w.alloc (.cells Z 120 (0, 0)) = W at *
  obtain ⟨hT, hab, hP⟩ := hi
  have HI := Lib.hid (And.intro hT (And.intro hab hP))
  clear hT hab hP hz
  go_loopw [6] (fun bv wr => ∃ (b : Nat) (l : List Set4), bv = .int .i64 b ∧ b ≤ 256 ∧ TabAt w.heap.size l wr ∧ Below w.heap.size w wr ∧ PlanIn B P cls fol x (.slice ca cls.length cc) fv wr ∧ (∀ j, j < b → l.getD j [] = atM cls j cls.length) ∧ ∀ j, b ≤ j → j < 256 → l.getD j [] = e4) (fun bv _ => 256 - (intOf bv).toNat)
  case atStart => exact ⟨0, _, rfl, Nat.zero_le _, HI.out.1, HI.out.2.1, HI.out.2.2, fun j hj => absurd hj (Nat.not_lt_zero _), fun j _ hj => repl_get 256 j hj⟩
  case round =>
    obtain ⟨b, l, rfl, hb, hT, hbw, hP, hd1, hd2⟩ := hrel
    by_cases hlt : b < 256
    · have tb : (b : Int) < 256 := by omega
      have wb : IntKind.i64.wrap ((b : Int) + 1) = (b : Int) + 1 := IntWalk.i64_in _ ⟨by omega, by omega⟩
      have w8 : IntKind.u8.wrap (b : Int) = (b : Int) := by unfold IntKind.wrap; simp [IntKind.bits, IntKind.signed]; omega
      have hnb : ((b : Int)).toNat = b := by omega
      have a0 : wr.cell? ⟨P, 0, none⟩ = some (.slice ca cls.length cc) := by rw [Lib.cell_of_heap hP.cell]; rfl
      have HB := Lib.hid (And.intro hT (And.intro hbw (And.intro hP (And.intro hd1 hd2))))
      clear hT hbw hP hd1 hd2
      go_wp2_with fail
      go_loopw [14] (fun iv wq => ∃ (i : Nat) (l : List Set4), iv = .int .i64 i ∧ i ≤ cls.length ∧ TabAt w.heap.size l wq ∧ Below w.heap.size w wq ∧ PlanIn B P cls fol x (.slice ca cls.length cc) fv wq ∧ (∀ j, j < b → l.getD j [] = atM cls j cls.length) ∧ l.getD b [] = atM cls b i ∧ ∀ j, b < j → j < 256 → l.getD j [] = e4) (fun iv _ => cls.length - (intOf iv).toNat)
      case atStart => exact ⟨0, l, rfl, Nat.zero_le _, HB.out.1, HB.out.2.1, HB.out.2.2.1, HB.out.2.2.2.1, HB.out.2.2.2.2 b (Nat.le_refl _) hlt, fun j hj h2 => HB.out.2.2.2.2 j (Nat.le_of_lt hj) h2⟩
      case round =>
        clear HB a0
        obtain ⟨i, l, rfl, hi, hT, hbw, hP, hd1, hd3, hd2⟩ := hrel
        have hPk := hP.cell
        have a0 : wr.cell? ⟨P, 0, none⟩ = some (.slice ca cls.length cc) := by rw [Lib.cell_of_heap hPk]; rfl
        by_cases hli : i < cls.length
        · have ti : (i : Int) < (cls.length : Int) := by omega
          have wi : IntKind.i64.wrap ((i : Int) + 1) = (i : Int) + 1 := IntWalk.i64_in _ ⟨by omega, by omega⟩
          have hni : ((i : Int)).toNat = i := by omega
          obtain ⟨g, cap, hg⟩ := ownsRow_formW hP.rows.crow (by omega)
          simp only [Value.slice.injEq] at hg
          obtain ⟨rfl, -, rfl⟩ := hg
          have hSA : SetAt g (i * 4) (cls.getD i []) wr := fun j hj => (World.ownsRow.cellAt hP.rows.crow (i * 4 + j) (by omega)).trans (flat_get cls i j hli hj)
          have hHas := Lib.hid (class_has g (i * 4) (cls.getD i []) b (by omega) wr hSA)
          have hAdd := Lib.hid (set_add w.heap.size (b * 4) (l.getD b []) i (by omega) wr (hT.ok _ (getD_mem (by rw [hT.len]; exact hlt))) (hT.set b hlt) (fun j => Lib.frozen_of_heap hT.cell j))
          have hsucc := atM_succ cls b i
          generalize hme : mem (cls.getD i []) b = mb at *
          have HB := Lib.hid (And.intro hT (And.intro hbw (And.intro hP (And.intro hd1 (And.intro hd3 (And.intro hd2 hsucc))))))
          clear hT hbw hP hd1 hd3 hd2 hsucc hSA hPk hme
          go_wp2_with fail
          refine hHas.out.mono ?_
          rintro e w3 ⟨rfl, rfl⟩
          clear hHas
          cases mb
          · clear hAdd
            go_wp2_with fail
            refine ⟨⟨i + 1, l, by simp, by omega, HB.out.1, HB.out.2.1, HB.out.2.2.1, HB.out.2.2.2.1, ?_, HB.out.2.2.2.2.2.1⟩, by simp [intOf]; omega⟩
            rw [HB.out.2.2.2.2.2.2]
            exact HB.out.2.2.2.2.1
          · go_wp2_with fail
            refine hAdd.out.mono ?_
            rintro e w4 ⟨rfl, hw4⟩
            have hT4 := HB.out.1.add b i hlt (by omega)
            have o4 : One w.heap.size w3 _ := one_set w.heap.size (b * 4 + i / 64) w3 (.int .u64 (wd (sadd (l.getD b []) i) (i / 64) : Nat))
            rw [← hw4] at hT4 o4
            have hPA : PlanIn B P cls fol x (.slice (some ⟨g, 0, none⟩) cls.length cc) fv w4 := HB.out.2.2.1.other HB.out.1.cell (by decide) (by decide) (by decide) o4.other
            have H4 := Lib.hid (And.intro hT4 (And.intro (HB.out.2.1.trans (o4.below (Nat.le_refl _))) hPA))
            clear hT4 o4 hPA hw4 hAdd
            go_wp2_with fail
            refine ⟨⟨i + 1, l.set b (sadd (l.getD b []) i), by simp, by omega, H4.out.1, H4.out.2.1, H4.out.2.2, fun j hj => ?_, ?_, fun j hj h2 => ?_⟩, by simp [intOf]; omega⟩
            · rw [set_get4 _ _ _ _ (by rw [HB.out.1.len]; exact hlt), if_neg (by omega)]
              exact HB.out.2.2.2.1 j hj
            · rw [set_get4 _ _ _ _ (by rw [HB.out.1.len]; exact hlt), if_pos rfl, HB.out.2.2.2.2.2.2, HB.out.2.2.2.2.1]
              rfl
            · rw [set_get4 _ _ _ _ (by rw [HB.out.1.len]; exact hlt), if_neg (by omega)]
              exact HB.out.2.2.2.2.2.1 j hj h2
        · have ti : decide ((i : Int) < (cls.length : Int)) = false := decide_eq_false (by omega)
          obtain rfl : i = cls.length := by omega
          have HB := Lib.hid (And.intro hT (And.intro hbw (And.intro hP (And.intro hd1 (And.intro hd3 hd2)))))
          clear hT hbw hP hd1 hd3 hd2 hPk
          go_wp2_with fail
          refine ⟨⟨b + 1, l, by simp, by omega, HB.out.1, HB.out.2.1, HB.out.2.2.1, fun j hj => ?_, fun j hj h2 => HB.out.2.2.2.2.2 j (by omega) h2⟩, by simp [intOf]; omega⟩
          rcases Nat.lt_or_ge j b with h1 | h1
          · exact HB.out.2.2.2.1 j h1
          · obtain rfl : j = b := by omega
            exact HB.out.2.2.2.2.1
    · have tb : decide ((b : Int) < 256) = false := decide_eq_false (by omega)
      obtain rfl : b = 256 := by omega
      go_wp2_with fail
      go_ret
      exact ⟨⟨w.heap.size, l, rfl, Nat.le_refl _, hT, hd1⟩, hbw⟩

end Go.Proofs.Ytebcflgdjbjkoaa
