/- The reader of patterns: alternatives; all patterns without classes in brackets that it reads without a fault. No condition beyond those that stand there. -/
import Derived.Test.YtebcflgdjbjkoaaSeqP
namespace Go.Proofs.Ytebcflgdjbjkoaa
open Go.RowKit

theorem altL_ways {s : ByteArray} {n : Nat} {st : PSt} {out : Part} {r : PSt × Part} (h : readM s n (.altL out) st = some r) : ∃ k, n = k + 1 ∧ st.pos ≤ 990 ∧
    ((moreM s st = false ∧ r = (st, out)) ∨ (moreM s st = true ∧ peekM s st.pos ≠ 124 ∧ r = (st, out)) ∨
     (moreM s st = true ∧ peekM s st.pos = 124 ∧ ∃ r1, readM s k .seq (pos1 st) = some r1 ∧
       readM s k (.altL ⟨out.em || r1.2.em, sjoin out.fst r1.2.fst, sjoin out.lst r1.2.lst⟩) r1.1 = some r)) := by
  cases n with
  | zero => cases h
  | succ k =>
    refine ⟨k, rfl, ?_⟩
    unfold readM at h
    split at h
    · cases h
    · rename_i hp
      refine ⟨by omega, ?_⟩
      split at h
      · rename_i hc
        cases ha : readM s k .seq (pos1 st) with
        | none => rw [ha] at h; cases h
        | some r1 =>
          rw [ha] at h
          exact Or.inr (Or.inr ⟨hc.1, hc.2, r1, rfl, h⟩)
      · rename_i hc
        injection h with h
        cases hm : moreM s st with
        | false => exact Or.inl ⟨rfl, h.symm⟩
        | true => exact Or.inr (Or.inl ⟨rfl, fun e => hc ⟨hm, e⟩, h.symm⟩)
set_option maxRecDepth 100000 in
set_option maxHeartbeats 4000000 in
theorem alt_succ (n : Nat) (ih : ∀ m, m ≤ n → SeqSaid m) : AltSaid (n + 1) := by
  intro B R s st0 r w hread h
  obtain ⟨⟨s1, x⟩, ha, hread0⟩ : ∃ r1, readM s n .seq st0 = some r1 ∧ readM s n (.altL r1.2) r1.1 = some r := by
    unfold readM at hread
    cases ha : readM s n .seq st0 with
    | none => rw [ha] at hread; cases hread
    | some r1 => rw [ha] at hread; exact ⟨r1, rfl, hread⟩
  have hBw : B ≤ w.heap.size := by
    obtain ⟨_, _, h1, _⟩ := h
    exact Nat.le_trans h1.low (Nat.le_of_lt (lt_of_block h1.cell))
  have hab : Below w.heap.size w (w.alloc (.cells #[.bool false, .int .u64 0, .int .u64 0, .int .u64 0, .int .u64 0, .int .u64 0, .int .u64 0, .int .u64 0, .int .u64 0] 90 (0, 0))) := (Below.refl w.heap.size w).alloc (Nat.le_refl _) _
  have eY : (w.alloc (.cells #[.bool false, .int .u64 0, .int .u64 0, .int .u64 0, .int .u64 0, .int .u64 0, .int .u64 0, .int .u64 0, .int .u64 0] 90 (0, 0))).heap[w.heap.size]? = some (.cells (partC ⟨false, e4, e4⟩) 90 (0, 0)) := heap_alloc_new w _
  have HA := Lib.hid (ih n (Nat.le_refl _) B R s st0 _ _ ha (h.below hab))
  have HI := Lib.hid (And.intro eY (And.intro hab hread0))
  have IH := Lib.hid ih
  clear h eY hab hread hread0 ih ha
  go_enter Try.func48, Try.ntmps48
  go_wp2_with fail
  refine HA.out.mono ?_
  rintro e w4 ⟨rfl, hrd4, hb4, hk4, hx4⟩
  have hal := (Below.refl w4.heap.size w4).alloc (Nat.le_refl _) (.cells (partC x) 90 (0, 0))
  have eX := heap_alloc_new w4 (.cells (partC x) 90 (0, 0))
  have eY4 := hk4 _ _ _ _ HI.out.1 (by decide) (by decide) (by decide)
  have hT : TwoAt B R s s1 x w w4.heap.size (w4.alloc (.cells (partC x) 90 (0, 0))) :=
    ⟨hrd4.below hal, eX, (hal.block _ (lt_of_block eY4)).trans eY4, (HI.out.2.1.mono hBw).trans (hb4.trans (hal.mono (Nat.le_trans hBw (Nat.le_of_lt (lt_of_block eY4))))), (KeepR.of_below HI.out.2.1).trans (hk4.trans (KeepR.of_below hal)), lt_of_block eY4, hx4⟩
  have HT := Lib.hid (And.intro hT HI.out.2.2)
  clear hrd4 hb4 hk4 hx4 hal eX eY4 hT HA HI
  unfold partC
  go_wp2_with fail
  have hT := HT.out
  unfold partC at hT
  clear HT
  generalize w4.alloc (.cells #[.bool x.em, .int .u64 (wd x.fst 0 : Nat), .int .u64 (wd x.fst 1 : Nat), .int .u64 (wd x.fst 2 : Nat), .int .u64 (wd x.fst 3 : Nat), .int .u64 (wd x.lst 0 : Nat), .int .u64 (wd x.lst 1 : Nat), .int .u64 (wd x.lst 2 : Nat), .int .u64 (wd x.lst 3 : Nat)] 90 (0, 0)) = W5 at *
  generalize w4.heap.size = X at *
  have HT := Lib.hid hT
  clear hT
  go_loopg [] n (fun k wr => ∃ (st : PSt) (out : Part), readM s k (.altL out) st = some r ∧ k ≤ n ∧ TwoAt B R s st out w X wr)
  case atStart => exact ⟨s1, x, HT.out.2, Nat.le_refl _, HT.out.1⟩
  case round =>
    clear HT
    obtain ⟨st, out, hrd, hkn, hT⟩ := hrel
    obtain ⟨k, rfl, hp9, hw⟩ := altL_ways hrd
    clear hrd
    have HM := Lib.hid (more_any hT.rd)
    have HT := Lib.hid hT
    have HW := Lib.hid hw
    clear hT hw
    go_wp2_with fail
    refine HM.out.mono ?_
    rintro e w6 ⟨rfl, hb6⟩
    have hT := HT.out.below hb6
    clear HT HM hb6
    rcases HW.out with ⟨hm, rfl⟩ | ⟨hm, hc, rfl⟩ | ⟨hm, hc, ⟨s2, x2⟩, hsq, hnext⟩
    all_goals
      rw [hm]
      clear hm HW
    · skip
      obtain ⟨⟨x0, x1, x2, x3, x4, x5, x6, x7, x8⟩, -⟩ := part9 hT.eX
      obtain ⟨⟨y0, y1, y2, y3, y4, y5, y6, y7, y8⟩, z0, z1, z2, z3, z4, z5, z6, z7, z8⟩ := part9 hT.eY
      have HT := Lib.hid hT
      clear hT
      go_wp2_with fail
      exact bodyPost_ret (results_cell_row rfl _ _ w.heap.size 90 (partC out) (0, 0) _ rfl (put9_at HT.out.eY _ _ _ _ _ _ _ _ _) Try.underlying90 rfl (by kernel_rfl)) rfl (HT.out.ret hBw)
    all_goals
      have HPk := Lib.hid (peek_any hT.rd)
      have HT := Lib.hid hT
      clear hT
      have hpl := peek_lt s st.pos
      generalize peekM s st.pos = c at *
      go_wp2_with fail
      refine HPk.out.mono ?_
      rintro e w7 ⟨rfl, hb7⟩
      have hT := HT.out.below hb7
      clear HT HPk hb7
    · have t1 : ((c : Int) == 124) = false := beq_eq_false_iff_ne.2 (by omega)
      clear hc
      obtain ⟨⟨x0, x1, x2, x3, x4, x5, x6, x7, x8⟩, -⟩ := part9 hT.eX
      obtain ⟨⟨y0, y1, y2, y3, y4, y5, y6, y7, y8⟩, z0, z1, z2, z3, z4, z5, z6, z7, z8⟩ := part9 hT.eY
      have HT := Lib.hid hT
      clear hT
      go_wp2_with fail
      exact bodyPost_ret (results_cell_row rfl _ _ w.heap.size 90 (partC out) (0, 0) _ rfl (put9_at HT.out.eY _ _ _ _ _ _ _ _ _) Try.underlying90 rfl (by kernel_rfl)) rfl (HT.out.ret hBw)
    · subst hc
      obtain ⟨cv, fv, h1, -⟩ := hT.rd
      obtain ⟨⟨a0, a1, a2, a3, a4⟩, a5, a6, a7, a8⟩ := rd_cells h1.cell
      have wp : IntKind.i64.wrap ((st.pos : Int) + 1) = (st.pos : Int) + 1 := IntWalk.i64_in _ ⟨by omega, by omega⟩
      have HT := Lib.hid (hT.bump hp9)
      clear hT h1
      go_upto_region 4 with fail
      have hT := HT.out
      clear HT a0 a1 a2 a3 a4 a5 a6 a7 a8 wp
      generalize w7.setCell ⟨R, 1, none⟩ (.int .i64 ((st.pos : Int) + 1)) = W8 at *
      have HIt := Lib.hid (IH.out k (by omega) B R s (pos1 st) _ W8 hsq hT.rd)
      have HT := Lib.hid hT
      clear hT hsq
      go_wp2_with fail
      refine HIt.out.mono ?_
      rintro e w9 ⟨rfl, hrd9, hb9, hk9, hx9⟩
      have hT9 := HT.out.step hrd9 hb9 hk9
      have hal := (Below.refl w9.heap.size w9).alloc (Nat.le_refl _) (.cells (partC x2) 90 (0, 0))
      have hS : SumAt B R s s2 out x2 w X w9.heap.size (w9.alloc (.cells (partC x2) 90 (0, 0))) :=
        ⟨hT9.below hal, heap_alloc_new w9 _, lt_of_block hT9.eX, hx9⟩
      have HS := Lib.hid hS
      clear hrd9 hb9 hk9 hx9 hT9 hal hS HIt HT
      unfold partC
      go_upto_region 5 with fail
      have hS := HS.out
      unfold partC at hS
      clear HS
      generalize w9.alloc (.cells #[.bool x2.em, .int .u64 (wd x2.fst 0 : Nat), .int .u64 (wd x2.fst 1 : Nat), .int .u64 (wd x2.fst 2 : Nat), .int .u64 (wd x2.fst 3 : Nat), .int .u64 (wd x2.lst 0 : Nat), .int .u64 (wd x2.lst 1 : Nat), .int .u64 (wd x2.lst 2 : Nat), .int .u64 (wd x2.lst 3 : Nat)] 90 (0, 0)) = W10 at *
      generalize w9.heap.size = X2 at *
      have HN := Lib.hid hnext
      clear hnext
      obtain ⟨em, f, l⟩ := out
      obtain ⟨em2, f2, l2⟩ := x2
      cases em <;> cases em2
      · obtain ⟨⟨x0, x1, x2, x3, x4, x5, x6, x7, x8⟩, q0, q1, q2, q3, q4, q5, q6, q7, q8⟩ := part9 hS.two.eX
        obtain ⟨⟨p0, p1, p2, p3, p4, p5, p6, p7, p8⟩, -⟩ := part9 hS.e2
        have hz := hS.setX hBw ⟨false, _, _⟩ hS.two.ok (one_cell _ 0 W10 (.bool false)) (heap_setS hS.two.eX 0 (.bool false))
        have HS := Lib.hid hz
        clear hS hz
        go_upto_region 6 with fail
        have hS := HS.out
        clear HS x0 x1 x2 x3 x4 x5 x6 x7 x8 p0 p1 p2 p3 p4 p5 p6 p7 p8 q0 q1 q2 q3 q4 q5 q6 q7 q8
        generalize W10.setCell ⟨X, 0, none⟩ (.bool false) = W11 at *
        obtain ⟨⟨x0, x1, x2, x3, x4, x5, x6, x7, x8⟩, q0, q1, q2, q3, q4, q5, q6, q7, q8⟩ := part9 hS.two.eX
        obtain ⟨⟨p0, p1, p2, p3, p4, p5, p6, p7, p8⟩, -⟩ := part9 hS.e2
        have HJ := Lib.hid (hS.join1 hBw)
        unfold setC at HJ
        have HS := Lib.hid hS
        clear hS
        go_wp2_with fail
        refine HJ.out.mono ?_
        rintro e w12 ⟨rfl, hS⟩
        clear HJ HS x0 x1 x2 x3 x4 x5 x6 x7 x8 p0 p1 p2 p3 p4 p5 p6 p7 p8 q0 q1 q2 q3 q4 q5 q6 q7 q8
        obtain ⟨⟨x0, x1, x2, x3, x4, x5, x6, x7, x8⟩, q0, q1, q2, q3, q4, q5, q6, q7, q8⟩ := part9 hS.two.eX
        obtain ⟨⟨p0, p1, p2, p3, p4, p5, p6, p7, p8⟩, -⟩ := part9 hS.e2
        have HJ := Lib.hid (hS.join5 hBw)
        unfold setC at HJ
        have HS := Lib.hid hS
        clear hS
        go_wp2_with fail
        refine HJ.out.mono ?_
        rintro e w13 ⟨rfl, hS⟩
        clear HJ HS x0 x1 x2 x3 x4 x5 x6 x7 x8 p0 p1 p2 p3 p4 p5 p6 p7 p8 q0 q1 q2 q3 q4 q5 q6 q7 q8
        have HS := Lib.hid hS
        clear hS
        go_wp2_with fail
        go_roundg k
        case measure => omega
        case rel => exact ⟨_, _, HN.out, by omega, HS.out.two⟩
      · obtain ⟨⟨x0, x1, x2, x3, x4, x5, x6, x7, x8⟩, q0, q1, q2, q3, q4, q5, q6, q7, q8⟩ := part9 hS.two.eX
        obtain ⟨⟨p0, p1, p2, p3, p4, p5, p6, p7, p8⟩, -⟩ := part9 hS.e2
        have hz := hS.setX hBw ⟨true, _, _⟩ hS.two.ok (one_cell _ 0 W10 (.bool true)) (heap_setS hS.two.eX 0 (.bool true))
        have HS := Lib.hid hz
        clear hS hz
        go_upto_region 6 with fail
        have hS := HS.out
        clear HS x0 x1 x2 x3 x4 x5 x6 x7 x8 p0 p1 p2 p3 p4 p5 p6 p7 p8 q0 q1 q2 q3 q4 q5 q6 q7 q8
        generalize W10.setCell ⟨X, 0, none⟩ (.bool true) = W11 at *
        obtain ⟨⟨x0, x1, x2, x3, x4, x5, x6, x7, x8⟩, q0, q1, q2, q3, q4, q5, q6, q7, q8⟩ := part9 hS.two.eX
        obtain ⟨⟨p0, p1, p2, p3, p4, p5, p6, p7, p8⟩, -⟩ := part9 hS.e2
        have HJ := Lib.hid (hS.join1 hBw)
        unfold setC at HJ
        have HS := Lib.hid hS
        clear hS
        go_wp2_with fail
        refine HJ.out.mono ?_
        rintro e w12 ⟨rfl, hS⟩
        clear HJ HS x0 x1 x2 x3 x4 x5 x6 x7 x8 p0 p1 p2 p3 p4 p5 p6 p7 p8 q0 q1 q2 q3 q4 q5 q6 q7 q8
        obtain ⟨⟨x0, x1, x2, x3, x4, x5, x6, x7, x8⟩, q0, q1, q2, q3, q4, q5, q6, q7, q8⟩ := part9 hS.two.eX
        obtain ⟨⟨p0, p1, p2, p3, p4, p5, p6, p7, p8⟩, -⟩ := part9 hS.e2
        have HJ := Lib.hid (hS.join5 hBw)
        unfold setC at HJ
        have HS := Lib.hid hS
        clear hS
        go_wp2_with fail
        refine HJ.out.mono ?_
        rintro e w13 ⟨rfl, hS⟩
        clear HJ HS x0 x1 x2 x3 x4 x5 x6 x7 x8 p0 p1 p2 p3 p4 p5 p6 p7 p8 q0 q1 q2 q3 q4 q5 q6 q7 q8
        have HS := Lib.hid hS
        clear hS
        go_wp2_with fail
        go_roundg k
        case measure => omega
        case rel => exact ⟨_, _, HN.out, by omega, HS.out.two⟩
      · obtain ⟨⟨x0, x1, x2, x3, x4, x5, x6, x7, x8⟩, q0, q1, q2, q3, q4, q5, q6, q7, q8⟩ := part9 hS.two.eX
        obtain ⟨⟨p0, p1, p2, p3, p4, p5, p6, p7, p8⟩, -⟩ := part9 hS.e2
        have hz := hS.setX hBw ⟨true, _, _⟩ hS.two.ok (one_cell _ 0 W10 (.bool true)) (heap_setS hS.two.eX 0 (.bool true))
        have HS := Lib.hid hz
        clear hS hz
        go_upto_region 6 with fail
        have hS := HS.out
        clear HS x0 x1 x2 x3 x4 x5 x6 x7 x8 p0 p1 p2 p3 p4 p5 p6 p7 p8 q0 q1 q2 q3 q4 q5 q6 q7 q8
        generalize W10.setCell ⟨X, 0, none⟩ (.bool true) = W11 at *
        obtain ⟨⟨x0, x1, x2, x3, x4, x5, x6, x7, x8⟩, q0, q1, q2, q3, q4, q5, q6, q7, q8⟩ := part9 hS.two.eX
        obtain ⟨⟨p0, p1, p2, p3, p4, p5, p6, p7, p8⟩, -⟩ := part9 hS.e2
        have HJ := Lib.hid (hS.join1 hBw)
        unfold setC at HJ
        have HS := Lib.hid hS
        clear hS
        go_wp2_with fail
        refine HJ.out.mono ?_
        rintro e w12 ⟨rfl, hS⟩
        clear HJ HS x0 x1 x2 x3 x4 x5 x6 x7 x8 p0 p1 p2 p3 p4 p5 p6 p7 p8 q0 q1 q2 q3 q4 q5 q6 q7 q8
        obtain ⟨⟨x0, x1, x2, x3, x4, x5, x6, x7, x8⟩, q0, q1, q2, q3, q4, q5, q6, q7, q8⟩ := part9 hS.two.eX
        obtain ⟨⟨p0, p1, p2, p3, p4, p5, p6, p7, p8⟩, -⟩ := part9 hS.e2
        have HJ := Lib.hid (hS.join5 hBw)
        unfold setC at HJ
        have HS := Lib.hid hS
        clear hS
        go_wp2_with fail
        refine HJ.out.mono ?_
        rintro e w13 ⟨rfl, hS⟩
        clear HJ HS x0 x1 x2 x3 x4 x5 x6 x7 x8 p0 p1 p2 p3 p4 p5 p6 p7 p8 q0 q1 q2 q3 q4 q5 q6 q7 q8
        have HS := Lib.hid hS
        clear hS
        go_wp2_with fail
        go_roundg k
        case measure => omega
        case rel => exact ⟨_, _, HN.out, by omega, HS.out.two⟩
      · obtain ⟨⟨x0, x1, x2, x3, x4, x5, x6, x7, x8⟩, q0, q1, q2, q3, q4, q5, q6, q7, q8⟩ := part9 hS.two.eX
        obtain ⟨⟨p0, p1, p2, p3, p4, p5, p6, p7, p8⟩, -⟩ := part9 hS.e2
        have hz := hS.setX hBw ⟨true, _, _⟩ hS.two.ok (one_cell _ 0 W10 (.bool true)) (heap_setS hS.two.eX 0 (.bool true))
        have HS := Lib.hid hz
        clear hS hz
        go_upto_region 6 with fail
        have hS := HS.out
        clear HS x0 x1 x2 x3 x4 x5 x6 x7 x8 p0 p1 p2 p3 p4 p5 p6 p7 p8 q0 q1 q2 q3 q4 q5 q6 q7 q8
        generalize W10.setCell ⟨X, 0, none⟩ (.bool true) = W11 at *
        obtain ⟨⟨x0, x1, x2, x3, x4, x5, x6, x7, x8⟩, q0, q1, q2, q3, q4, q5, q6, q7, q8⟩ := part9 hS.two.eX
        obtain ⟨⟨p0, p1, p2, p3, p4, p5, p6, p7, p8⟩, -⟩ := part9 hS.e2
        have HJ := Lib.hid (hS.join1 hBw)
        unfold setC at HJ
        have HS := Lib.hid hS
        clear hS
        go_wp2_with fail
        refine HJ.out.mono ?_
        rintro e w12 ⟨rfl, hS⟩
        clear HJ HS x0 x1 x2 x3 x4 x5 x6 x7 x8 p0 p1 p2 p3 p4 p5 p6 p7 p8 q0 q1 q2 q3 q4 q5 q6 q7 q8
        obtain ⟨⟨x0, x1, x2, x3, x4, x5, x6, x7, x8⟩, q0, q1, q2, q3, q4, q5, q6, q7, q8⟩ := part9 hS.two.eX
        obtain ⟨⟨p0, p1, p2, p3, p4, p5, p6, p7, p8⟩, -⟩ := part9 hS.e2
        have HJ := Lib.hid (hS.join5 hBw)
        unfold setC at HJ
        have HS := Lib.hid hS
        clear hS
        go_wp2_with fail
        refine HJ.out.mono ?_
        rintro e w13 ⟨rfl, hS⟩
        clear HJ HS x0 x1 x2 x3 x4 x5 x6 x7 x8 p0 p1 p2 p3 p4 p5 p6 p7 p8 q0 q1 q2 q3 q4 q5 q6 q7 q8
        have HS := Lib.hid hS
        clear hS
        go_wp2_with fail
        go_roundg k
        case measure => omega
        case rel => exact ⟨_, _, HN.out, by omega, HS.out.two⟩
theorem read_all : ∀ n m, m ≤ n → AltSaid m ∧ SeqSaid m ∧ ItemSaid m ∧ AtomSaid m
  | 0, m, h => by
    obtain rfl : m = 0 := by omega
    refine ⟨?_, ?_, ?_, ?_⟩ <;> (intro B R s st r w hr; cases hr)
  | n + 1, m, h => by
    have ih := read_all n
    rcases Nat.lt_or_ge m (n + 1) with h1 | h1
    · exact ih m (by omega)
    · obtain rfl : m = n + 1 := by omega
      exact ⟨alt_succ n fun k hk => (ih k hk).2.1, seq_succ n fun k hk => (ih k hk).2.2.1, item_succ n (ih n (Nat.le_refl _)).2.2.2, atom_succ n (ih n (Nat.le_refl _)).1⟩
theorem alternatives_any (n : Nat) : AltSaid n := (read_all n n (Nat.le_refl _)).1

end Go.Proofs.Ytebcflgdjbjkoaa
