/- The reader of patterns: items; no condition beyond those that stand there. -/
import Derived.Test.YtebcflgdjbjkoaaAtom
namespace Go.Proofs.Ytebcflgdjbjkoaa
open Go.RowKit

def ItemSaid (n : Nat) : Prop := ∀ (B R : Nat) (s : ByteArray) (st : PSt) (r : PSt × Part) (w : World), readM s n .item st = some r → RdAt B R s st w →
  Calls Try.prog 55 #[.pointer (some ⟨R, 0, none⟩)] w (PartPost B R s r.1 r.2 w)
theorem item_ways {s : ByteArray} {n : Nat} {st : PSt} {r : PSt × Part} (h : readM s (n + 1) .item st = some r) : ∃ r1, readM s n .atom st = some r1 ∧ r1.1.pos ≤ 990 ∧
    ((moreM s r1.1 = false ∧ r = r1) ∨
     (moreM s r1.1 = true ∧ (peekM s r1.1.pos ≠ 42 ∧ peekM s r1.1.pos ≠ 43 ∧ peekM s r1.1.pos ≠ 63) ∧ r = r1) ∨
     (moreM s r1.1 = true ∧ peekM s r1.1.pos = 63 ∧ r = (pos1 r1.1, ⟨true, r1.2.fst, r1.2.lst⟩)) ∨
     (moreM s r1.1 = true ∧ peekM s r1.1.pos = 42 ∧ r = (linkM (pos1 r1.1) r1.2.lst r1.2.fst, ⟨true, r1.2.fst, r1.2.lst⟩)) ∨
     (moreM s r1.1 = true ∧ peekM s r1.1.pos = 43 ∧ r = (linkM (pos1 r1.1) r1.2.lst r1.2.fst, ⟨r1.2.em, r1.2.fst, r1.2.lst⟩))) := by
  unfold readM at h
  cases ha : readM s n .atom st with
  | none => rw [ha] at h; cases h
  | some r1 =>
    rw [ha] at h
    simp only [Option.bind_some] at h
    split at h
    · cases h
    · rename_i hp
      refine ⟨r1, rfl, by omega, ?_⟩
      split at h
      · rename_i hq
        injection h with h
        obtain ⟨hm, hq | hq | hq⟩ := hq
        · refine Or.inr (Or.inr (Or.inr (Or.inl ⟨hm, hq, ?_⟩)))
          rw [← h, hq]
          simp
        · refine Or.inr (Or.inr (Or.inr (Or.inr ⟨hm, hq, ?_⟩)))
          rw [← h, hq]
          simp
        · refine Or.inr (Or.inr (Or.inl ⟨hm, hq, ?_⟩))
          rw [← h, hq]
          simp
      · rename_i hq
        injection h with h
        cases hm : moreM s r1.1 with
        | false => exact Or.inl ⟨rfl, h.symm⟩
        | true =>
          refine Or.inr (Or.inl ⟨rfl, ⟨fun e => hq ⟨hm, Or.inl e⟩, fun e => hq ⟨hm, Or.inr (Or.inl e)⟩, fun e => hq ⟨hm, Or.inr (Or.inr e)⟩⟩, h.symm⟩)
/-- What a function of the reader leaves that has two parts of its own: its result's block Y, a part's block X. -/
structure TwoAt (B R : Nat) (s : ByteArray) (st : PSt) (x : Part) (w : World) (X : Nat) (W : World) : Prop where
  rd : RdAt B R s st W
  eX : W.heap[X]? = some (.cells (partC x) 90 (0, 0))
  eY : W.heap[w.heap.size]? = some (.cells (partC ⟨false, e4, e4⟩) 90 (0, 0))
  bel : Below B w W
  keep : KeepR w W
  lt : w.heap.size < X
  ok : x.ok
section
variable {B R : Nat} {s : ByteArray} {st : PSt} {x : Part} {w : World} {X : Nat} {W W' : World}
theorem TwoAt.step (h : TwoAt B R s st x w X W) {st' : PSt} (h1 : RdAt B R s st' W') (h2 : Below B W W') (h3 : KeepR W W') : TwoAt B R s st' x w X W' :=
  ⟨h1, h3 _ _ _ _ h.eX (by decide) (by decide) (by decide), h3 _ _ _ _ h.eY (by decide) (by decide) (by decide), h.bel.trans h2, h.keep.trans h3, h.lt, h.ok⟩
theorem TwoAt.below (h : TwoAt B R s st x w X W) (hb : Below W.heap.size W W') : TwoAt B R s st x w X W' := by
  have hB : B ≤ W.heap.size := by
    obtain ⟨_, _, h1, _⟩ := h.rd
    exact Nat.le_trans h1.low (Nat.le_of_lt (lt_of_block h1.cell))
  exact h.step (h.rd.below hb) (hb.mono hB) (KeepR.of_below hb)
theorem TwoAt.bump (h : TwoAt B R s st x w X W) (hp : st.pos ≤ 990) : TwoAt B R s (pos1 st) x w X (W.setCell ⟨R, 1, none⟩ (.int .i64 ((st.pos : Int) + 1))) := by
  obtain ⟨cv, fv, h1, h2⟩ := h.rd
  have h3 := h1.bump hp
  exact h.step ⟨cv, fv, h3.1, h2⟩ h3.2.2 h3.2.1
theorem one_cell (X i : Nat) (w : World) (v : Value) : One X w (w.setCell ⟨X, i, none⟩ v) := ⟨rfl, rfl, rfl, by simp, fun k hk => Below.heap_setCell _ _ _ _ hk⟩
/-- A store into block X. -/
theorem TwoAt.setX (h : TwoAt B R s st x w X W) (hBw : B ≤ w.heap.size) (x' : Part) (hx : x'.ok) (ho : One X W W') (he : W'.heap[X]? = some (.cells (partC x') 90 (0, 0))) : TwoAt B R s st x' w X W' := by
  obtain ⟨cv, fv, h1, h2⟩ := h.rd
  have hl := h.lt
  refine ⟨⟨cv, fv, h1.at_other h.eX (by decide) (by decide) (by decide) ho.other, h2⟩, he, (ho.other _ (by omega)).trans h.eY, h.bel.trans (ho.below (by omega)), fun q cs T m h0 a1 a2 a3 => ?_, hl, hx⟩
  exact (ho.other q (by have := lt_of_block h0; omega)).trans (h.keep q cs T m h0 a1 a2 a3)
/-- The part is the result. -/
theorem TwoAt.ret (h : TwoAt B R s st x w X W) (hBw : B ≤ w.heap.size) : PartPost B R s st x w (.returned (.agg (partC x)))
    (put9 W w.heap.size (.bool x.em) (.int .u64 (wd x.fst 0 : Nat)) (.int .u64 (wd x.fst 1 : Nat)) (.int .u64 (wd x.fst 2 : Nat)) (.int .u64 (wd x.fst 3 : Nat)) (.int .u64 (wd x.lst 0 : Nat)) (.int .u64 (wd x.lst 1 : Nat)) (.int .u64 (wd x.lst 2 : Nat)) (.int .u64 (wd x.lst 3 : Nat))) := by
  have o9 := one_put9 W w.heap.size (.bool x.em) (.int .u64 (wd x.fst 0 : Nat)) (.int .u64 (wd x.fst 1 : Nat)) (.int .u64 (wd x.fst 2 : Nat)) (.int .u64 (wd x.fst 3 : Nat)) (.int .u64 (wd x.lst 0 : Nat)) (.int .u64 (wd x.lst 1 : Nat)) (.int .u64 (wd x.lst 2 : Nat)) (.int .u64 (wd x.lst 3 : Nat))
  obtain ⟨cv, fv, h1, h2⟩ := h.rd
  refine ⟨rfl, ⟨cv, fv, h1.at_other h.eY (by decide) (by decide) (by decide) o9.other, h2⟩, h.bel.trans (o9.below hBw), fun q cs T m h0 a1 a2 a3 => ?_, h.ok⟩
  exact (o9.other q (by have := lt_of_block h0; omega)).trans (h.keep q cs T m h0 a1 a2 a3)
end
set_option maxRecDepth 100000 in
set_option maxHeartbeats 4000000 in
theorem item_succ (n : Nat) (ih : AtomSaid n) : ItemSaid (n + 1) := by
  intro B R s st r w hread h
  obtain ⟨⟨s1, x⟩, ha, hp9, hways⟩ := item_ways hread
  have hBw : B ≤ w.heap.size := by
    obtain ⟨_, _, h1, _⟩ := h
    exact Nat.le_trans h1.low (Nat.le_of_lt (lt_of_block h1.cell))
  have hab : Below w.heap.size w (w.alloc (.cells #[.bool false, .int .u64 0, .int .u64 0, .int .u64 0, .int .u64 0, .int .u64 0, .int .u64 0, .int .u64 0, .int .u64 0] 90 (0, 0))) := (Below.refl w.heap.size w).alloc (Nat.le_refl _) _
  have eY : (w.alloc (.cells #[.bool false, .int .u64 0, .int .u64 0, .int .u64 0, .int .u64 0, .int .u64 0, .int .u64 0, .int .u64 0, .int .u64 0] 90 (0, 0))).heap[w.heap.size]? = some (.cells (partC ⟨false, e4, e4⟩) 90 (0, 0)) := heap_alloc_new w _
  have HA := Lib.hid (ih B R s st _ _ ha (h.below hab))
  have HI := Lib.hid (And.intro eY (And.intro hab hways))
  clear h eY hab hways hread ih ha
  simp only at hp9
  go_enter Try.func55, Try.ntmps55
  go_wp2_with fail
  refine HA.out.mono ?_
  rintro e w4 ⟨rfl, hrd4, hb4, hk4, hx4⟩
  have hal := (Below.refl w4.heap.size w4).alloc (Nat.le_refl _) (.cells (partC x) 90 (0, 0))
  have eX := heap_alloc_new w4 (.cells (partC x) 90 (0, 0))
  have eY4 := hk4 _ _ _ _ HI.out.1 (by decide) (by decide) (by decide)
  have hT : TwoAt B R s s1 x w w4.heap.size (w4.alloc (.cells (partC x) 90 (0, 0))) :=
    ⟨hrd4.below hal, eX, (hal.block _ (lt_of_block eY4)).trans eY4, (HI.out.2.1.mono hBw).trans (hb4.trans (hal.mono (Nat.le_trans hBw (Nat.le_of_lt (lt_of_block eY4))))), (KeepR.of_below HI.out.2.1).trans (hk4.trans (KeepR.of_below hal)), lt_of_block eY4, hx4⟩
  have HT := Lib.hid hT
  clear hrd4 hb4 hk4 hx4 hal eX eY4 hT HA
  unfold partC
  go_upto_region 2 with fail
  have hT := HT.out
  unfold partC at hT
  clear HT
  generalize w4.alloc (.cells #[.bool x.em, .int .u64 (wd x.fst 0 : Nat), .int .u64 (wd x.fst 1 : Nat), .int .u64 (wd x.fst 2 : Nat), .int .u64 (wd x.fst 3 : Nat), .int .u64 (wd x.lst 0 : Nat), .int .u64 (wd x.lst 1 : Nat), .int .u64 (wd x.lst 2 : Nat), .int .u64 (wd x.lst 3 : Nat)] 90 (0, 0)) = W5 at *
  generalize w4.heap.size = X at *
  have HM := Lib.hid (more_any hT.rd)
  have HT := Lib.hid hT
  clear hT
  go_wp2_with fail
  refine HM.out.mono ?_
  rintro e w6 ⟨rfl, hb6⟩
  have hT := HT.out.below hb6
  clear HT HM hb6
  rcases HI.out.2.2 with ⟨hm, rfl⟩ | ⟨hm, hc, rfl⟩ | ⟨hm, hc, rfl⟩ | ⟨hm, hc, rfl⟩ | ⟨hm, hc, rfl⟩
  all_goals
    rw [hm]
    clear hm HI
  case inl =>
    obtain ⟨⟨x0, x1, x2, x3, x4, x5, x6, x7, x8⟩, -⟩ := part9 hT.eX
    obtain ⟨⟨y0, y1, y2, y3, y4, y5, y6, y7, y8⟩, z0, z1, z2, z3, z4, z5, z6, z7, z8⟩ := part9 hT.eY
    have HT := Lib.hid hT
    clear hT
    go_wp2_with fail
    exact bodyPost_ret (results_cell_row rfl _ _ w.heap.size 90 (partC x) (0, 0) _ rfl (put9_at HT.out.eY _ _ _ _ _ _ _ _ _) Try.underlying90 rfl (by kernel_rfl)) rfl (HT.out.ret hBw)
  all_goals
    have HPk := Lib.hid (peek_any hT.rd)
    have HT := Lib.hid hT
    clear hT
    have hpl := peek_lt s s1.pos
    generalize peekM s s1.pos = c at *
    go_wp2_with fail
    refine HPk.out.mono ?_
    rintro e w7 ⟨rfl, hb7⟩
    have hT := HT.out.below hb7
    clear HT HPk hb7
  · obtain ⟨⟨x0, x1, x2, x3, x4, x5, x6, x7, x8⟩, -⟩ := part9 hT.eX
    obtain ⟨⟨y0, y1, y2, y3, y4, y5, y6, y7, y8⟩, z0, z1, z2, z3, z4, z5, z6, z7, z8⟩ := part9 hT.eY
    have t42 : ((c : Int) != 42) = true := bne_iff_ne.2 (by omega)
    have t43 : ((c : Int) != 43) = true := bne_iff_ne.2 (by omega)
    have t63 : ((c : Int) != 63) = true := bne_iff_ne.2 (by omega)
    clear hc
    have HT := Lib.hid hT
    clear hT
    go_wp2_with fail
    exact bodyPost_ret (results_cell_row rfl _ _ w.heap.size 90 (partC x) (0, 0) _ rfl (put9_at HT.out.eY _ _ _ _ _ _ _ _ _) Try.underlying90 rfl (by kernel_rfl)) rfl (HT.out.ret hBw)
  · subst hc
    obtain ⟨cv, fv, h1, -⟩ := hT.rd
    obtain ⟨⟨a0, a1, a2, a3, a4⟩, a5, a6, a7, a8⟩ := rd_cells h1.cell
    have wp : IntKind.i64.wrap ((s1.pos : Int) + 1) = (s1.pos : Int) + 1 := IntWalk.i64_in _ ⟨by omega, by omega⟩
    have HT := Lib.hid (hT.bump hp9)
    clear hT h1
    go_upto_region 10 with fail
    have hT := HT.out
    clear HT a0 a1 a2 a3 a4 a5 a6 a7 a8 wp
    generalize w7.setCell ⟨R, 1, none⟩ (.int .i64 ((s1.pos : Int) + 1)) = W8 at *
    obtain ⟨em, xf, xl⟩ := x
    simp only at *
    cases em
    all_goals
      obtain ⟨⟨x0, -⟩, q0, -⟩ := part9 hT.eX
      have hT9 := hT.setX hBw ⟨true, xf, xl⟩ hT.ok (one_cell X 0 W8 (.bool true)) (heap_setS hT.eX 0 (.bool true))
      have HT := Lib.hid hT9
      clear hT hT9
      go_upto_region 11 with fail
      have hT := HT.out
      clear HT x0 q0
      generalize W8.setCell ⟨X, 0, none⟩ (.bool true) = W9 at *
      obtain ⟨⟨x0, x1, x2, x3, x4, x5, x6, x7, x8⟩, -⟩ := part9 hT.eX
      obtain ⟨⟨y0, y1, y2, y3, y4, y5, y6, y7, y8⟩, z0, z1, z2, z3, z4, z5, z6, z7, z8⟩ := part9 hT.eY
      have HT := Lib.hid hT
      clear hT
      go_wp2_with fail
      exact bodyPost_ret (results_cell_row rfl _ _ w.heap.size 90 (partC ⟨true, xf, xl⟩) (0, 0) _ rfl (put9_at HT.out.eY _ _ _ _ _ _ _ _ _) Try.underlying90 rfl (by kernel_rfl)) rfl (HT.out.ret hBw)
  · subst hc
    obtain ⟨cv, fv, h1, -⟩ := hT.rd
    obtain ⟨⟨a0, a1, a2, a3, a4⟩, a5, a6, a7, a8⟩ := rd_cells h1.cell
    have wp : IntKind.i64.wrap ((s1.pos : Int) + 1) = (s1.pos : Int) + 1 := IntWalk.i64_in _ ⟨by omega, by omega⟩
    have HT := Lib.hid (hT.bump hp9)
    clear hT h1
    go_upto_region 9 with fail
    have hT := HT.out
    clear HT a0 a1 a2 a3 a4 a5 a6 a7 a8 wp
    generalize w7.setCell ⟨R, 1, none⟩ (.int .i64 ((s1.pos : Int) + 1)) = W8 at *
    obtain ⟨⟨x0, x1, x2, x3, x4, x5, x6, x7, x8⟩, -⟩ := part9 hT.eX
    have HL := Lib.hid (link_any hT.rd x.lst x.fst hT.ok.1)
    have HT := Lib.hid hT
    clear hT
    unfold setC at HL
    go_wp2_with fail
    refine HL.out.mono ?_
    rintro e W8' ⟨rfl, hl1, hl2, hl3⟩
    have hT := HT.out.step hl1 hl2 hl3
    clear HT HL hl1 hl2 hl3 x0 x1 x2 x3 x4 x5 x6 x7 x8
    obtain ⟨W8, rfl⟩ : ∃ W, W = W8' := ⟨_, rfl⟩
    obtain ⟨em, xf, xl⟩ := x
    simp only at *
    cases em
    all_goals
      obtain ⟨⟨x0, -⟩, q0, -⟩ := part9 hT.eX
      have hT9 := hT.setX hBw ⟨true, xf, xl⟩ hT.ok (one_cell X 0 W8 (.bool true)) (heap_setS hT.eX 0 (.bool true))
      have HT := Lib.hid hT9
      clear hT hT9
      go_upto_region 11 with fail
      have hT := HT.out
      clear HT x0 q0
      generalize W8.setCell ⟨X, 0, none⟩ (.bool true) = W9 at *
      obtain ⟨⟨x0, x1, x2, x3, x4, x5, x6, x7, x8⟩, -⟩ := part9 hT.eX
      obtain ⟨⟨y0, y1, y2, y3, y4, y5, y6, y7, y8⟩, z0, z1, z2, z3, z4, z5, z6, z7, z8⟩ := part9 hT.eY
      have HT := Lib.hid hT
      clear hT
      go_wp2_with fail
      exact bodyPost_ret (results_cell_row rfl _ _ w.heap.size 90 (partC ⟨true, xf, xl⟩) (0, 0) _ rfl (put9_at HT.out.eY _ _ _ _ _ _ _ _ _) Try.underlying90 rfl (by kernel_rfl)) rfl (HT.out.ret hBw)
  · subst hc
    obtain ⟨cv, fv, h1, -⟩ := hT.rd
    obtain ⟨⟨a0, a1, a2, a3, a4⟩, a5, a6, a7, a8⟩ := rd_cells h1.cell
    have wp : IntKind.i64.wrap ((s1.pos : Int) + 1) = (s1.pos : Int) + 1 := IntWalk.i64_in _ ⟨by omega, by omega⟩
    have HT := Lib.hid (hT.bump hp9)
    clear hT h1
    go_upto_region 9 with fail
    have hT := HT.out
    clear HT a0 a1 a2 a3 a4 a5 a6 a7 a8 wp
    generalize w7.setCell ⟨R, 1, none⟩ (.int .i64 ((s1.pos : Int) + 1)) = W8 at *
    obtain ⟨⟨x0, x1, x2, x3, x4, x5, x6, x7, x8⟩, -⟩ := part9 hT.eX
    have HL := Lib.hid (link_any hT.rd x.lst x.fst hT.ok.1)
    have HT := Lib.hid hT
    clear hT
    unfold setC at HL
    go_wp2_with fail
    refine HL.out.mono ?_
    rintro e W8' ⟨rfl, hl1, hl2, hl3⟩
    have hT := HT.out.step hl1 hl2 hl3
    clear HT HL hl1 hl2 hl3 x0 x1 x2 x3 x4 x5 x6 x7 x8
    obtain ⟨W8, rfl⟩ : ∃ W, W = W8' := ⟨_, rfl⟩
    obtain ⟨em, xf, xl⟩ := x
    simp only at *
    cases em
    · obtain ⟨⟨x0, -⟩, q0, -⟩ := part9 hT.eX
      have hT9 := hT.setX hBw ⟨false, xf, xl⟩ hT.ok (one_cell X 0 W8 (.bool false)) (heap_setS hT.eX 0 (.bool false))
      have HT := Lib.hid hT9
      clear hT hT9
      go_upto_region 11 with fail
      have hT := HT.out
      clear HT x0 q0
      generalize W8.setCell ⟨X, 0, none⟩ (.bool false) = W9 at *
      obtain ⟨⟨x0, x1, x2, x3, x4, x5, x6, x7, x8⟩, -⟩ := part9 hT.eX
      obtain ⟨⟨y0, y1, y2, y3, y4, y5, y6, y7, y8⟩, z0, z1, z2, z3, z4, z5, z6, z7, z8⟩ := part9 hT.eY
      have HT := Lib.hid hT
      clear hT
      go_wp2_with fail
      exact bodyPost_ret (results_cell_row rfl _ _ w.heap.size 90 (partC ⟨false, xf, xl⟩) (0, 0) _ rfl (put9_at HT.out.eY _ _ _ _ _ _ _ _ _) Try.underlying90 rfl (by kernel_rfl)) rfl (HT.out.ret hBw)
    · obtain ⟨⟨x0, -⟩, q0, -⟩ := part9 hT.eX
      have hT9 := hT.setX hBw ⟨true, xf, xl⟩ hT.ok (one_cell X 0 W8 (.bool true)) (heap_setS hT.eX 0 (.bool true))
      have HT := Lib.hid hT9
      clear hT hT9
      go_upto_region 11 with fail
      have hT := HT.out
      clear HT x0 q0
      generalize W8.setCell ⟨X, 0, none⟩ (.bool true) = W9 at *
      obtain ⟨⟨x0, x1, x2, x3, x4, x5, x6, x7, x8⟩, -⟩ := part9 hT.eX
      obtain ⟨⟨y0, y1, y2, y3, y4, y5, y6, y7, y8⟩, z0, z1, z2, z3, z4, z5, z6, z7, z8⟩ := part9 hT.eY
      have HT := Lib.hid hT
      clear hT
      go_wp2_with fail
      exact bodyPost_ret (results_cell_row rfl _ _ w.heap.size 90 (partC ⟨true, xf, xl⟩) (0, 0) _ rfl (put9_at HT.out.eY _ _ _ _ _ _ _ _ _) Try.underlying90 rfl (by kernel_rfl)) rfl (HT.out.ret hBw)

end Go.Proofs.Ytebcflgdjbjkoaa
