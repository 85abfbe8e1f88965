/- The reader of patterns: sequences; no condition beyond those that stand there. -/
import Derived.Deep.LoopGhost
import Derived.Test.YtebcflgdjbjkoaaItemP
namespace Go.Proofs.Ytebcflgdjbjkoaa
open Go.RowKit

def SeqSaid (n : Nat) : Prop := ∀ (B R : Nat) (s : ByteArray) (st : PSt) (r : PSt × Part) (w : World), readM s n .seq st = some r → RdAt B R s st w →
  Calls Try.prog 52 #[.pointer (some ⟨R, 0, none⟩)] w (PartPost B R s r.1 r.2 w)
theorem seqL_ways {s : ByteArray} {n : Nat} {st : PSt} {out : Part} {r : PSt × Part} (h : readM s n (.seqL out) st = some r) : ∃ k, n = k + 1 ∧
    ((moreM s st = false ∧ r = (st, out)) ∨ (moreM s st = true ∧ peekM s st.pos = 124 ∧ r = (st, out)) ∨ (moreM s st = true ∧ peekM s st.pos = 41 ∧ r = (st, out)) ∨
     (moreM s st = true ∧ (peekM s st.pos ≠ 124 ∧ peekM s st.pos ≠ 41) ∧ ∃ r1, readM s k .item st = some r1 ∧
       readM s k (.seqL ⟨out.em && r1.2.em, if out.em then sjoin out.fst r1.2.fst else out.fst, sjoin (if r1.2.em then out.lst else e4) r1.2.lst⟩) (linkM r1.1 out.lst r1.2.fst) = some r)) := by
  cases n with
  | zero => cases h
  | succ k =>
    refine ⟨k, rfl, ?_⟩
    unfold readM at h
    split at h
    · rename_i hc
      cases ha : readM s k .item st with
      | none => rw [ha] at h; cases h
      | some r1 =>
        rw [ha] at h
        exact Or.inr (Or.inr (Or.inr ⟨hc.1, hc.2, r1, rfl, h⟩))
    · rename_i hc
      injection h with h
      cases hm : moreM s st with
      | false => exact Or.inl ⟨rfl, h.symm⟩
      | true =>
        by_cases h1 : peekM s st.pos = 124
        · exact Or.inr (Or.inl ⟨rfl, h1, h.symm⟩)
        · by_cases h2 : peekM s st.pos = 41
          · exact Or.inr (Or.inr (Or.inl ⟨rfl, h2, h.symm⟩))
          · exact absurd ⟨hm, h1, h2⟩ hc
theorem part_join1 {w : World} {P : Nat} {x : Part} (h : w.heap[P]? = some (.cells (partC x) 90 (0, 0))) (r : Set4) : (joinW w P 1 r 4).heap[P]? = some (.cells (partC ⟨x.em, r, x.lst⟩) 90 (0, 0)) :=
  heap_setS (heap_setS (heap_setS (heap_setS h (1 + 0) (.int .u64 (wd r 0 : Nat))) (1 + 1) (.int .u64 (wd r 1 : Nat))) (1 + 2) (.int .u64 (wd r 2 : Nat))) (1 + 3) (.int .u64 (wd r 3 : Nat))
theorem part_join5 {w : World} {P : Nat} {x : Part} (h : w.heap[P]? = some (.cells (partC x) 90 (0, 0))) (r : Set4) : (joinW w P 5 r 4).heap[P]? = some (.cells (partC ⟨x.em, x.fst, r⟩) 90 (0, 0)) :=
  heap_setS (heap_setS (heap_setS (heap_setS h (5 + 0) (.int .u64 (wd r 0 : Nat))) (5 + 1) (.int .u64 (wd r 1 : Nat))) (5 + 2) (.int .u64 (wd r 2 : Nat))) (5 + 3) (.int .u64 (wd r 3 : Nat))
/-- The state of a loop that adds parts: block X has what has been added, block X2 the part that was read. -/
structure SumAt (B R : Nat) (s : ByteArray) (st : PSt) (out x : Part) (w : World) (X X2 : Nat) (W : World) : Prop where
  two : TwoAt B R s st out w X W
  e2 : W.heap[X2]? = some (.cells (partC x) 90 (0, 0))
  lt2 : X < X2
  ok2 : x.ok
section
variable {B R : Nat} {s : ByteArray} {st : PSt} {out x : Part} {w : World} {X X2 : Nat} {W W' : World}
theorem SumAt.step (h : SumAt B R s st out x w X X2 W) {st' : PSt} (h1 : RdAt B R s st' W') (h2 : Below B W W') (h3 : KeepR W W') : SumAt B R s st' out x w X X2 W' :=
  ⟨h.two.step h1 h2 h3, h3 _ _ _ _ h.e2 (by decide) (by decide) (by decide), h.lt2, h.ok2⟩
theorem SumAt.below (h : SumAt B R s st out x w X X2 W) (hb : Below W.heap.size W W') : SumAt B R s st out x w X X2 W' :=
  ⟨h.two.below hb, (hb.block _ (lt_of_block h.e2)).trans h.e2, h.lt2, h.ok2⟩
theorem SumAt.setX (h : SumAt B R s st out x w X X2 W) (hBw : B ≤ w.heap.size) (out' : Part) (hx : out'.ok) (ho : One X W W') (he : W'.heap[X]? = some (.cells (partC out') 90 (0, 0))) : SumAt B R s st out' x w X X2 W' :=
  ⟨h.two.setX hBw out' hx ho he, (ho.other _ (by have := h.lt2; omega)).trans h.e2, h.lt2, h.ok2⟩
theorem SumAt.join1 (h : SumAt B R s st out x w X X2 W) (hBw : B ≤ w.heap.size) :
    Calls Try.prog 51 #[.pointer (some ⟨X, 1, none⟩), .agg (setC x.fst)] W fun e W' => e = .returned (.tuple #[]) ∧ SumAt B R s st ⟨out.em, sjoin out.fst x.fst, out.lst⟩ x w X X2 W' := by
  have hc := part_cells h.two.eX
  refine (set_join X 1 out.fst x.fst W h.two.ok.1 h.ok2.1 (lt_of_block h.two.eX) hc.1.2.1 hc.2).mono ?_
  rintro e W' ⟨rfl, rfl⟩
  have h1 := h.below ((Below.refl W.heap.size W).alloc (Nat.le_refl _) (.cells (setC x.fst) 88 (0, 0)))
  exact ⟨rfl, h1.setX hBw _ ⟨sjoin_words h.two.ok.1 h.ok2.1, h.two.ok.2⟩ (one_join X 1 _ _ 4) (part_join1 h1.two.eX _)⟩
theorem SumAt.join5 (h : SumAt B R s st out x w X X2 W) (hBw : B ≤ w.heap.size) :
    Calls Try.prog 51 #[.pointer (some ⟨X, 5, none⟩), .agg (setC x.lst)] W fun e W' => e = .returned (.tuple #[]) ∧ SumAt B R s st ⟨out.em, out.fst, sjoin out.lst x.lst⟩ x w X X2 W' := by
  have hc := part_cells h.two.eX
  refine (set_join X 5 out.lst x.lst W h.two.ok.2 h.ok2.2 (lt_of_block h.two.eX) hc.1.2.2 hc.2).mono ?_
  rintro e W' ⟨rfl, rfl⟩
  have h1 := h.below ((Below.refl W.heap.size W).alloc (Nat.le_refl _) (.cells (setC x.lst) 88 (0, 0)))
  exact ⟨rfl, h1.setX hBw _ ⟨h.two.ok.1, sjoin_words h.two.ok.2 h.ok2.2⟩ (one_join X 5 _ _ 4) (part_join5 h1.two.eX _)⟩
end
set_option maxRecDepth 100000 in
set_option maxHeartbeats 4000000 in
theorem seq_succ (n : Nat) (ih : ∀ m, m ≤ n → ItemSaid m) : SeqSaid (n + 1) := by
  intro B R s st0 r w hread h
  have hread0 : readM s n (.seqL ⟨true, e4, e4⟩) st0 = some r := hread
  have hBw : B ≤ w.heap.size := by
    obtain ⟨_, _, h1, _⟩ := h
    exact Nat.le_trans h1.low (Nat.le_of_lt (lt_of_block h1.cell))
  have hab : Below w.heap.size w ((w.alloc (.cells #[.bool false, .int .u64 0, .int .u64 0, .int .u64 0, .int .u64 0, .int .u64 0, .int .u64 0, .int .u64 0, .int .u64 0] 90 (0, 0))).alloc (.cells #[.bool true, .int .u64 0, .int .u64 0, .int .u64 0, .int .u64 0, .int .u64 0, .int .u64 0, .int .u64 0, .int .u64 0] 90 (0, 0))) := ((Below.refl w.heap.size w).alloc (Nat.le_refl _) _).alloc (by simp) _
  have eY : ((w.alloc (.cells #[.bool false, .int .u64 0, .int .u64 0, .int .u64 0, .int .u64 0, .int .u64 0, .int .u64 0, .int .u64 0, .int .u64 0] 90 (0, 0))).alloc (.cells #[.bool true, .int .u64 0, .int .u64 0, .int .u64 0, .int .u64 0, .int .u64 0, .int .u64 0, .int .u64 0, .int .u64 0] 90 (0, 0))).heap[w.heap.size]? = some (.cells (partC ⟨false, e4, e4⟩) 90 (0, 0)) := pair1 w _ _
  have eX : ((w.alloc (.cells #[.bool false, .int .u64 0, .int .u64 0, .int .u64 0, .int .u64 0, .int .u64 0, .int .u64 0, .int .u64 0, .int .u64 0] 90 (0, 0))).alloc (.cells #[.bool true, .int .u64 0, .int .u64 0, .int .u64 0, .int .u64 0, .int .u64 0, .int .u64 0, .int .u64 0, .int .u64 0] 90 (0, 0))).heap[w.heap.size + 1]? = some (.cells (partC ⟨true, e4, e4⟩) 90 (0, 0)) := pair2 w _ _
  have hT : TwoAt B R s st0 ⟨true, e4, e4⟩ w (w.heap.size + 1) ((w.alloc (.cells #[.bool false, .int .u64 0, .int .u64 0, .int .u64 0, .int .u64 0, .int .u64 0, .int .u64 0, .int .u64 0, .int .u64 0] 90 (0, 0))).alloc (.cells #[.bool true, .int .u64 0, .int .u64 0, .int .u64 0, .int .u64 0, .int .u64 0, .int .u64 0, .int .u64 0, .int .u64 0] 90 (0, 0))) :=
    ⟨h.below hab, eX, eY, hab.mono hBw, KeepR.of_below hab, Nat.lt_succ_self _, words_e4, words_e4⟩
  have HT := Lib.hid (And.intro hT (And.intro hread0 ih))
  clear h hab eY eX hT hread hread0 ih
  go_enter Try.func52, Try.ntmps52
  go_wp2_with fail
  have hT := HT.out
  clear HT
  generalize (w.alloc (.cells #[.bool false, .int .u64 0, .int .u64 0, .int .u64 0, .int .u64 0, .int .u64 0, .int .u64 0, .int .u64 0, .int .u64 0] 90 (0, 0))).alloc (.cells #[.bool true, .int .u64 0, .int .u64 0, .int .u64 0, .int .u64 0, .int .u64 0, .int .u64 0, .int .u64 0, .int .u64 0] 90 (0, 0)) = W at *
  obtain ⟨hT, hread0, ih⟩ := hT
  have IH := Lib.hid ih
  have HT := Lib.hid (And.intro hT hread0)
  clear hT hread0 ih
  go_loopg [] n (fun k wr => ∃ (st : PSt) (out : Part), readM s k (.seqL out) st = some r ∧ k ≤ n ∧ TwoAt B R s st out w (w.heap.size + 1) wr)
  case atStart => exact ⟨st0, _, HT.out.2, Nat.le_refl _, HT.out.1⟩
  case round =>
    obtain ⟨st, out, hrd, hkn, hT⟩ := hrel
    obtain ⟨k, rfl, hw⟩ := seqL_ways hrd
    clear hrd HT
    have HM := Lib.hid (more_any hT.rd)
    have HT := Lib.hid hT
    have HW := Lib.hid hw
    clear hT hw
    go_wp2_with fail
    refine HM.out.mono ?_
    rintro e w6 ⟨rfl, hb6⟩
    have hT := HT.out.below hb6
    clear HT HM hb6
    rcases HW.out with ⟨hm, rfl⟩ | ⟨hm, hc, rfl⟩ | ⟨hm, hc, rfl⟩ | ⟨hm, ⟨hc1, hc2⟩, ⟨s1, x⟩, hit, hnext⟩
    all_goals
      rw [hm]
      clear hm HW
    · skip
      obtain ⟨⟨x0, x1, x2, x3, x4, x5, x6, x7, x8⟩, -⟩ := part9 hT.eX
      obtain ⟨⟨y0, y1, y2, y3, y4, y5, y6, y7, y8⟩, z0, z1, z2, z3, z4, z5, z6, z7, z8⟩ := part9 hT.eY
      have HT := Lib.hid hT
      clear hT
      go_wp2_with fail
      exact bodyPost_ret (results_cell_row rfl _ _ w.heap.size 90 (partC out) (0, 0) _ rfl (put9_at HT.out.eY _ _ _ _ _ _ _ _ _) Try.underlying90 rfl (by kernel_rfl)) rfl (HT.out.ret hBw)
    all_goals
      have HPk := Lib.hid (peek_any hT.rd)
      have HT := Lib.hid hT
      clear hT
      have hpl := peek_lt s st.pos
      have HPk2 := Lib.hid (fun W h => peek_any (B := B) (R := R) (s := s) (st := st) (w := W) h)
      generalize peekM s st.pos = c at *
      go_wp2_with fail
      refine HPk.out.mono ?_
      rintro e w7 ⟨rfl, hb7⟩
      have hT := HT.out.below hb7
      clear HT HPk hb7
    · subst hc
      obtain ⟨⟨x0, x1, x2, x3, x4, x5, x6, x7, x8⟩, -⟩ := part9 hT.eX
      obtain ⟨⟨y0, y1, y2, y3, y4, y5, y6, y7, y8⟩, z0, z1, z2, z3, z4, z5, z6, z7, z8⟩ := part9 hT.eY
      have HT := Lib.hid hT
      clear hT
      go_wp2_with fail
      exact bodyPost_ret (results_cell_row rfl _ _ w.heap.size 90 (partC out) (0, 0) _ rfl (put9_at HT.out.eY _ _ _ _ _ _ _ _ _) Try.underlying90 rfl (by kernel_rfl)) rfl (HT.out.ret hBw)
    all_goals
      have HPk := Lib.hid (HPk2.out _ hT.rd)
      have HT := Lib.hid hT
      clear hT
    · subst hc
      go_wp2_with fail
      refine HPk.out.mono ?_
      rintro e w8 ⟨rfl, hb8⟩
      have hT := HT.out.below hb8
      clear HT HPk hb8
      obtain ⟨⟨x0, x1, x2, x3, x4, x5, x6, x7, x8⟩, -⟩ := part9 hT.eX
      obtain ⟨⟨y0, y1, y2, y3, y4, y5, y6, y7, y8⟩, z0, z1, z2, z3, z4, z5, z6, z7, z8⟩ := part9 hT.eY
      have HT := Lib.hid hT
      clear hT
      go_wp2_with fail
      exact bodyPost_ret (results_cell_row rfl _ _ w.heap.size 90 (partC out) (0, 0) _ rfl (put9_at HT.out.eY _ _ _ _ _ _ _ _ _) Try.underlying90 rfl (by kernel_rfl)) rfl (HT.out.ret hBw)
    · have t1 : ((c : Int) != 124) = true := bne_iff_ne.2 (by omega)
      have t2 : ((c : Int) != 41) = true := bne_iff_ne.2 (by omega)
      clear hc1 hc2
      go_wp2_with fail
      refine HPk.out.mono ?_
      rintro e w8 ⟨rfl, hb8⟩
      have hT := HT.out.below hb8
      clear HT HPk hb8 HPk2
      have HIt := Lib.hid (IH.out k (by omega) B R s st _ w8 hit hT.rd)
      have HT := Lib.hid hT
      clear hT hit
      go_wp2_with fail
      refine HIt.out.mono ?_
      rintro e w9 ⟨rfl, hrd9, hb9, hk9, hx9⟩
      have hT9 := HT.out.step hrd9 hb9 hk9
      have hal := (Below.refl w9.heap.size w9).alloc (Nat.le_refl _) (.cells (partC x) 90 (0, 0))
      have hS : SumAt B R s s1 out x w (w.heap.size + 1) w9.heap.size (w9.alloc (.cells (partC x) 90 (0, 0))) :=
        ⟨hT9.below hal, heap_alloc_new w9 _, lt_of_block hT9.eX, hx9⟩
      have HS := Lib.hid hS
      clear hrd9 hb9 hk9 hx9 hT9 hal hS HIt HT
      unfold partC
      go_upto_region 4 with fail
      have hS := HS.out
      unfold partC at hS
      clear HS
      generalize w9.alloc (.cells #[.bool x.em, .int .u64 (wd x.fst 0 : Nat), .int .u64 (wd x.fst 1 : Nat), .int .u64 (wd x.fst 2 : Nat), .int .u64 (wd x.fst 3 : Nat), .int .u64 (wd x.lst 0 : Nat), .int .u64 (wd x.lst 1 : Nat), .int .u64 (wd x.lst 2 : Nat), .int .u64 (wd x.lst 3 : Nat)] 90 (0, 0)) = W10 at *
      generalize w9.heap.size = X2 at *
      obtain ⟨⟨x0, x1, x2, x3, x4, x5, x6, x7, x8⟩, -⟩ := part9 hS.two.eX
      obtain ⟨⟨p0, p1, p2, p3, p4, p5, p6, p7, p8⟩, -⟩ := part9 (x := x) hS.e2
      have HL := Lib.hid (link_any hS.two.rd out.lst x.fst hS.ok2.1)
      unfold setC at HL
      have HS := Lib.hid hS
      clear hS
      go_wp2_with fail
      refine HL.out.mono ?_
      rintro e w11 ⟨rfl, hl1, hl2, hl3⟩
      have hS := HS.out.step hl1 hl2 hl3
      clear HS HL hl1 hl2 hl3 x0 x1 x2 x3 x4 x5 x6 x7 x8 p0 p1 p2 p3 p4 p5 p6 p7 p8
      have HN := Lib.hid hnext
      clear hnext
      obtain ⟨em, f, l⟩ := out
      obtain ⟨em2, f2, l2⟩ := x
      cases em <;> cases em2
      · obtain ⟨⟨x0, x1, x2, x3, x4, x5, x6, x7, x8⟩, q0, q1, q2, q3, q4, q5, q6, q7, q8⟩ := part9 hS.two.eX
        obtain ⟨⟨p0, p1, p2, p3, p4, p5, p6, p7, p8⟩, -⟩ := part9 hS.e2
        have hz := hS.setX (W' := ((((w11.setCell ⟨w.heap.size + 1, 5, none⟩ (.int .u64 0)).setCell ⟨w.heap.size + 1, 6, none⟩ (.int .u64 0)).setCell ⟨w.heap.size + 1, 7, none⟩ (.int .u64 0)).setCell ⟨w.heap.size + 1, 8, none⟩ (.int .u64 0))) hBw ⟨_, _, e4⟩ ⟨hS.two.ok.1, words_e4⟩ ((((one_cell _ 5 w11 (.int .u64 0)).trans (one_cell _ 6 _ (.int .u64 0))).trans (one_cell _ 7 _ (.int .u64 0))).trans (one_cell _ 8 _ (.int .u64 0))) (heap_setS (heap_setS (heap_setS (heap_setS hS.two.eX 5 (.int .u64 0)) 6 (.int .u64 0)) 7 (.int .u64 0)) 8 (.int .u64 0))
        have HS := Lib.hid hz
        clear hS hz
        go_upto_region 9 with fail
        have hS := HS.out
        clear HS x0 x1 x2 x3 x4 x5 x6 x7 x8 p0 p1 p2 p3 p4 p5 p6 p7 p8 q0 q1 q2 q3 q4 q5 q6 q7 q8
        generalize ((((w11.setCell ⟨w.heap.size + 1, 5, none⟩ (.int .u64 0)).setCell ⟨w.heap.size + 1, 6, none⟩ (.int .u64 0)).setCell ⟨w.heap.size + 1, 7, none⟩ (.int .u64 0)).setCell ⟨w.heap.size + 1, 8, none⟩ (.int .u64 0)) = w13 at *
        obtain ⟨⟨x0, x1, x2, x3, x4, x5, x6, x7, x8⟩, q0, q1, q2, q3, q4, q5, q6, q7, q8⟩ := part9 hS.two.eX
        obtain ⟨⟨p0, p1, p2, p3, p4, p5, p6, p7, p8⟩, -⟩ := part9 hS.e2
        have HJ := Lib.hid (hS.join5 hBw)
        unfold setC at HJ
        have HS := Lib.hid hS
        clear hS
        go_wp2_with fail
        refine HJ.out.mono ?_
        rintro e w14 ⟨rfl, hS⟩
        clear HJ HS x0 x1 x2 x3 x4 x5 x6 x7 x8 p0 p1 p2 p3 p4 p5 p6 p7 p8 q0 q1 q2 q3 q4 q5 q6 q7 q8
        obtain ⟨⟨x0, x1, x2, x3, x4, x5, x6, x7, x8⟩, q0, q1, q2, q3, q4, q5, q6, q7, q8⟩ := part9 hS.two.eX
        obtain ⟨⟨p0, p1, p2, p3, p4, p5, p6, p7, p8⟩, -⟩ := part9 hS.e2
        have hz := hS.setX hBw ⟨false, _, _⟩ hS.two.ok (one_cell _ 0 w14 (.bool false)) (heap_setS hS.two.eX 0 (.bool false))
        have HS := Lib.hid hz
        clear hS hz
        go_wp2_with fail
        go_roundg k
        case measure => omega
        case rel => exact ⟨_, _, HN.out, by omega, HS.out.two⟩
      · obtain ⟨⟨x0, x1, x2, x3, x4, x5, x6, x7, x8⟩, q0, q1, q2, q3, q4, q5, q6, q7, q8⟩ := part9 hS.two.eX
        obtain ⟨⟨p0, p1, p2, p3, p4, p5, p6, p7, p8⟩, -⟩ := part9 hS.e2
        have HJ := Lib.hid (hS.join5 hBw)
        unfold setC at HJ
        have HS := Lib.hid hS
        clear hS
        go_wp2_with fail
        refine HJ.out.mono ?_
        rintro e w14 ⟨rfl, hS⟩
        clear HJ HS x0 x1 x2 x3 x4 x5 x6 x7 x8 p0 p1 p2 p3 p4 p5 p6 p7 p8 q0 q1 q2 q3 q4 q5 q6 q7 q8
        obtain ⟨⟨x0, x1, x2, x3, x4, x5, x6, x7, x8⟩, q0, q1, q2, q3, q4, q5, q6, q7, q8⟩ := part9 hS.two.eX
        obtain ⟨⟨p0, p1, p2, p3, p4, p5, p6, p7, p8⟩, -⟩ := part9 hS.e2
        have hz := hS.setX hBw ⟨false, _, _⟩ hS.two.ok (one_cell _ 0 w14 (.bool false)) (heap_setS hS.two.eX 0 (.bool false))
        have HS := Lib.hid hz
        clear hS hz
        go_wp2_with fail
        go_roundg k
        case measure => omega
        case rel => exact ⟨_, _, HN.out, by omega, HS.out.two⟩
      · obtain ⟨⟨x0, x1, x2, x3, x4, x5, x6, x7, x8⟩, q0, q1, q2, q3, q4, q5, q6, q7, q8⟩ := part9 hS.two.eX
        obtain ⟨⟨p0, p1, p2, p3, p4, p5, p6, p7, p8⟩, -⟩ := part9 hS.e2
        have HJ := Lib.hid (hS.join1 hBw)
        unfold setC at HJ
        have HS := Lib.hid hS
        clear hS
        go_wp2_with fail
        refine HJ.out.mono ?_
        rintro e w12 ⟨rfl, hS⟩
        clear HJ HS x0 x1 x2 x3 x4 x5 x6 x7 x8 p0 p1 p2 p3 p4 p5 p6 p7 p8 q0 q1 q2 q3 q4 q5 q6 q7 q8
        obtain ⟨⟨x0, x1, x2, x3, x4, x5, x6, x7, x8⟩, q0, q1, q2, q3, q4, q5, q6, q7, q8⟩ := part9 hS.two.eX
        obtain ⟨⟨p0, p1, p2, p3, p4, p5, p6, p7, p8⟩, -⟩ := part9 hS.e2
        have hz := hS.setX (W' := ((((w12.setCell ⟨w.heap.size + 1, 5, none⟩ (.int .u64 0)).setCell ⟨w.heap.size + 1, 6, none⟩ (.int .u64 0)).setCell ⟨w.heap.size + 1, 7, none⟩ (.int .u64 0)).setCell ⟨w.heap.size + 1, 8, none⟩ (.int .u64 0))) hBw ⟨_, _, e4⟩ ⟨hS.two.ok.1, words_e4⟩ ((((one_cell _ 5 w12 (.int .u64 0)).trans (one_cell _ 6 _ (.int .u64 0))).trans (one_cell _ 7 _ (.int .u64 0))).trans (one_cell _ 8 _ (.int .u64 0))) (heap_setS (heap_setS (heap_setS (heap_setS hS.two.eX 5 (.int .u64 0)) 6 (.int .u64 0)) 7 (.int .u64 0)) 8 (.int .u64 0))
        have HS := Lib.hid hz
        clear hS hz
        go_upto_region 9 with fail
        have hS := HS.out
        clear HS x0 x1 x2 x3 x4 x5 x6 x7 x8 p0 p1 p2 p3 p4 p5 p6 p7 p8 q0 q1 q2 q3 q4 q5 q6 q7 q8
        generalize ((((w12.setCell ⟨w.heap.size + 1, 5, none⟩ (.int .u64 0)).setCell ⟨w.heap.size + 1, 6, none⟩ (.int .u64 0)).setCell ⟨w.heap.size + 1, 7, none⟩ (.int .u64 0)).setCell ⟨w.heap.size + 1, 8, none⟩ (.int .u64 0)) = w13 at *
        obtain ⟨⟨x0, x1, x2, x3, x4, x5, x6, x7, x8⟩, q0, q1, q2, q3, q4, q5, q6, q7, q8⟩ := part9 hS.two.eX
        obtain ⟨⟨p0, p1, p2, p3, p4, p5, p6, p7, p8⟩, -⟩ := part9 hS.e2
        have HJ := Lib.hid (hS.join5 hBw)
        unfold setC at HJ
        have HS := Lib.hid hS
        clear hS
        go_wp2_with fail
        refine HJ.out.mono ?_
        rintro e w14 ⟨rfl, hS⟩
        clear HJ HS x0 x1 x2 x3 x4 x5 x6 x7 x8 p0 p1 p2 p3 p4 p5 p6 p7 p8 q0 q1 q2 q3 q4 q5 q6 q7 q8
        obtain ⟨⟨x0, x1, x2, x3, x4, x5, x6, x7, x8⟩, q0, q1, q2, q3, q4, q5, q6, q7, q8⟩ := part9 hS.two.eX
        obtain ⟨⟨p0, p1, p2, p3, p4, p5, p6, p7, p8⟩, -⟩ := part9 hS.e2
        have hz := hS.setX hBw ⟨false, _, _⟩ hS.two.ok (one_cell _ 0 w14 (.bool false)) (heap_setS hS.two.eX 0 (.bool false))
        have HS := Lib.hid hz
        clear hS hz
        go_wp2_with fail
        go_roundg k
        case measure => omega
        case rel => exact ⟨_, _, HN.out, by omega, HS.out.two⟩
      · obtain ⟨⟨x0, x1, x2, x3, x4, x5, x6, x7, x8⟩, q0, q1, q2, q3, q4, q5, q6, q7, q8⟩ := part9 hS.two.eX
        obtain ⟨⟨p0, p1, p2, p3, p4, p5, p6, p7, p8⟩, -⟩ := part9 hS.e2
        have HJ := Lib.hid (hS.join1 hBw)
        unfold setC at HJ
        have HS := Lib.hid hS
        clear hS
        go_wp2_with fail
        refine HJ.out.mono ?_
        rintro e w12 ⟨rfl, hS⟩
        clear HJ HS x0 x1 x2 x3 x4 x5 x6 x7 x8 p0 p1 p2 p3 p4 p5 p6 p7 p8 q0 q1 q2 q3 q4 q5 q6 q7 q8
        obtain ⟨⟨x0, x1, x2, x3, x4, x5, x6, x7, x8⟩, q0, q1, q2, q3, q4, q5, q6, q7, q8⟩ := part9 hS.two.eX
        obtain ⟨⟨p0, p1, p2, p3, p4, p5, p6, p7, p8⟩, -⟩ := part9 hS.e2
        have HJ := Lib.hid (hS.join5 hBw)
        unfold setC at HJ
        have HS := Lib.hid hS
        clear hS
        go_wp2_with fail
        refine HJ.out.mono ?_
        rintro e w14 ⟨rfl, hS⟩
        clear HJ HS x0 x1 x2 x3 x4 x5 x6 x7 x8 p0 p1 p2 p3 p4 p5 p6 p7 p8 q0 q1 q2 q3 q4 q5 q6 q7 q8
        obtain ⟨⟨x0, x1, x2, x3, x4, x5, x6, x7, x8⟩, q0, q1, q2, q3, q4, q5, q6, q7, q8⟩ := part9 hS.two.eX
        obtain ⟨⟨p0, p1, p2, p3, p4, p5, p6, p7, p8⟩, -⟩ := part9 hS.e2
        have hz := hS.setX hBw ⟨true, _, _⟩ hS.two.ok (one_cell _ 0 w14 (.bool true)) (heap_setS hS.two.eX 0 (.bool true))
        have HS := Lib.hid hz
        clear hS hz
        go_wp2_with fail
        go_roundg k
        case measure => omega
        case rel => exact ⟨_, _, HN.out, by omega, HS.out.two⟩

end Go.Proofs.Ytebcflgdjbjkoaa
