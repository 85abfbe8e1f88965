/- The reader of patterns: atoms; no condition beyond those that stand there. -/
import Derived.Test.YtebcflgdjbjkoaaBytes
namespace Go.Proofs.Ytebcflgdjbjkoaa
open Go.RowKit

def AltSaid (n : Nat) : Prop := ∀ (B R : Nat) (s : ByteArray) (st : PSt) (r : PSt × Part) (w : World), readM s n .alt st = some r → RdAt B R s st w →
  Calls Try.prog 48 #[.pointer (some ⟨R, 0, none⟩)] w (PartPost B R s r.1 r.2 w)
def AtomSaid (n : Nat) : Prop := ∀ (B R : Nat) (s : ByteArray) (st : PSt) (r : PSt × Part) (w : World), readM s n .atom st = some r → RdAt B R s st w →
  Calls Try.prog 57 #[.pointer (some ⟨R, 0, none⟩)] w (PartPost B R s r.1 r.2 w)
/-- What atom does, by its first byte. -/
theorem atom_ways {s : ByteArray} {n : Nat} {st : PSt} {r : PSt × Part} (h : readM s (n + 1) .atom st = some r) : st.pos ≤ 990 ∧
    ((peekM s st.pos = 40 ∧ ∃ r1, readM s n .alt (pos1 st) = some r1 ∧ (r1.1.bad = false ∧ peekM s r1.1.pos = 41 ∧ r1.1.pos < s.size ∧ r1.1.pos ≤ 990) ∧ r = (pos1 r1.1, r1.2)) ∨
     (peekM s st.pos = 46 ∧ posG (pos1 st) sfull = some r) ∨
     (peekM s st.pos = 91 ∧ ∃ r1, bytesM s (s.size + 1) (pos1 st) = some r1 ∧ posG r1.1 r1.2 = some r) ∨
     (peekM s st.pos = 92 ∧ st.pos + 1 < s.size ∧ posG (pos1 (pos1 st)) (sadd e4 (peekM s (st.pos + 1))) = some r) ∨
     ((peekM s st.pos ∉ quoted ∧ peekM s st.pos ≠ 46 ∧ peekM s st.pos ≠ 92) ∧ posG (pos1 st) (sadd e4 (peekM s st.pos)) = some r)) := by
  unfold readM at h
  split at h
  · cases h
  · rename_i hp
    refine ⟨by omega, ?_⟩
    split at h
    · rename_i hc
      refine Or.inl ⟨hc, ?_⟩
      cases ha : readM s n .alt (pos1 st) with
      | none => rw [ha] at h; cases h
      | some r1 =>
        rw [ha] at h
        simp only [Option.bind_some] at h
        split at h
        · rename_i hq
          injection h with h
          exact ⟨r1, rfl, hq, h.symm⟩
        · cases h
    · rename_i h40
      split at h
      · rename_i hc
        exact Or.inr (Or.inl ⟨hc, h⟩)
      · rename_i h46
        split at h
        · rename_i hc
          cases ha : bytesM s (s.size + 1) (pos1 st) with
          | none => rw [ha] at h; cases h
          | some r1 =>
            rw [ha] at h
            exact Or.inr (Or.inr (Or.inl ⟨hc, r1, rfl, h⟩))
        · split at h
          · rename_i hc
            split at h
            · rename_i hl
              exact Or.inr (Or.inr (Or.inr (Or.inl ⟨hc, hl, h⟩)))
            · cases h
          · rename_i h92
            split at h
            · cases h
            · rename_i hq
              exact Or.inr (Or.inr (Or.inr (Or.inr ⟨⟨hq, h46, h92⟩, h⟩)))
theorem posG_some {st : PSt} {k : Set4} {r : PSt × Part} (h : posG st k = some r) : st.cls.length ≤ 255 ∧ r = posM st k := by
  unfold posG at h
  split at h
  · rename_i hq
    injection h with h
    exact ⟨hq.1, h.symm⟩
  · cases h
theorem quoted_none {c : Nat} (h : c ∉ quoted) (hc : c < 256) : Lib.indexByte (⟨#[124, 42, 43, 63, 40, 41, 91, 93]⟩ : ByteArray).data.toList ((c : Int)).toNat.toUInt8 = -1 := by
  have : ∀ c, c < 256 → c ∉ quoted → Lib.indexByte (⟨#[124, 42, 43, 63, 40, 41, 91, 93]⟩ : ByteArray).data.toList c.toUInt8 = -1 := by decide +kernel
  exact this c hc h
set_option maxRecDepth 100000 in
set_option maxHeartbeats 4000000 in
theorem atom_succ (n : Nat) (ih : AltSaid n) : AtomSaid (n + 1) := by
  intro B R s st r w hread h
  obtain ⟨hp, hways⟩ := atom_ways hread
  obtain ⟨cv, fv, h, hlen⟩ := h
  have hRl := lt_of_block h.cell
  have hBw : B ≤ w.heap.size := Nat.le_trans h.low (Nat.le_of_lt hRl)
  have hab : Below w.heap.size w (w.alloc (.cells #[.bool false, .int .u64 0, .int .u64 0, .int .u64 0, .int .u64 0, .int .u64 0, .int .u64 0, .int .u64 0, .int .u64 0] 90 (0, 0))) := (Below.refl w.heap.size w).alloc (Nat.le_refl _) _
  have eY : (w.alloc (.cells #[.bool false, .int .u64 0, .int .u64 0, .int .u64 0, .int .u64 0, .int .u64 0, .int .u64 0, .int .u64 0, .int .u64 0] 90 (0, 0))).heap[w.heap.size]? = some (.cells (partC ⟨false, e4, e4⟩) 90 (0, 0)) := heap_alloc_new w _
  have hr := h.below hab
  have HPk := Lib.hid (peek_any (w := w.alloc (.cells #[.bool false, .int .u64 0, .int .u64 0, .int .u64 0, .int .u64 0, .int .u64 0, .int .u64 0, .int .u64 0, .int .u64 0] 90 (0, 0))) ⟨cv, fv, hr, hlen⟩)
  have HI := Lib.hid (And.intro hr (And.intro eY (And.intro hab (And.intro hlen (And.intro hways ih)))))
  clear h hr eY hab hlen hways hread ih
  have hpk := peek_lt s st.pos
  generalize peekM s st.pos = c at *
  go_enter Try.func57, Try.ntmps57
  go_wp2_with fail
  refine HPk.out.mono ?_
  rintro e w1 ⟨rfl, hb1⟩
  have hr1 := HI.out.1.below hb1
  have eY1 := (hb1.block _ (lt_of_block HI.out.2.1)).trans HI.out.2.1
  obtain ⟨⟨a0, a1, a2, a3, a4⟩, a5, a6, a7, a8⟩ := rd_cells hr1.cell
  have hbm := hr1.bump hp
  have wp : IntKind.i64.wrap ((st.pos : Int) + 1) = (st.pos : Int) + 1 := IntWalk.i64_in _ ⟨by omega, by omega⟩
  have hal := (Below.refl _ (w1.setCell ⟨R, 1, none⟩ (.int .i64 ((st.pos : Int) + 1)))).alloc (Nat.le_refl _) (.cells #[.int .u64 0, .int .u64 0, .int .u64 0, .int .u64 0] 114 (0, 0))
  have hC : ((w1.setCell ⟨R, 1, none⟩ (.int .i64 ((st.pos : Int) + 1))).alloc (.cells #[.int .u64 0, .int .u64 0, .int .u64 0, .int .u64 0] 114 (0, 0))).heap[w1.heap.size]? = some (.cells (setC e4) 114 (0, 0)) := by
    have := heap_alloc_new (w1.setCell ⟨R, 1, none⟩ (.int .i64 ((st.pos : Int) + 1))) (.cells (setC e4) 114 (0, 0))
    rw [World.size_setCell] at this
    exact this
  have hr3 := hbm.1.below hal
  have eY3 := (hal.block _ (lt_of_block (hbm.2.1 _ _ _ _ eY1 (by decide) (by decide) (by decide)))).trans (hbm.2.1 _ _ _ _ eY1 (by decide) (by decide) (by decide))
  have hR1 := lt_of_block hr1.cell
  have hown : ∀ k, (cv.ownBlock = some k ∨ fv.ownBlock = some k ∨ k = R) → k ≠ w1.heap.size := fun k hk e => by
    rcases hk with hk | hk | hk
    · have := (World.ownsRow.lt hr1.crow k hk).2; omega
    · have := (World.ownsRow.lt hr1.frow k hk).2; omega
    · omega
  have hbW : Below B w ((w1.setCell ⟨R, 1, none⟩ (.int .i64 ((st.pos : Int) + 1))).alloc (.cells #[.int .u64 0, .int .u64 0, .int .u64 0, .int .u64 0] 114 (0, 0))) := (HI.out.2.2.1.mono hBw).trans ((hb1.mono (Nat.le_trans hBw HI.out.2.2.1.size)).trans (hbm.2.2.trans (hal.mono (by rw [World.size_setCell]; exact Nat.le_trans hr1.low (Nat.le_of_lt hR1)))))
  have hkW : KeepR w ((w1.setCell ⟨R, 1, none⟩ (.int .i64 ((st.pos : Int) + 1))).alloc (.cells #[.int .u64 0, .int .u64 0, .int .u64 0, .int .u64 0] 114 (0, 0))) := (KeepR.of_below HI.out.2.2.1).trans ((KeepR.of_below hb1).trans (hbm.2.1.trans (KeepR.of_below hal)))
  have HW := Lib.hid (And.intro hr3 (And.intro hC (And.intro eY3 (And.intro hbW (And.intro hkW hown)))))
  have hCw : w.heap.size < w1.heap.size := Nat.lt_of_lt_of_le (lt_of_block HI.out.2.1) hb1.size
  clear hr1 eY1 hbm hal hC hr3 eY3 hR1 hown hbW hkW hb1
  go_upto_region 5 with fail
  have hw := HW.out
  clear HW a0 a1 a2 a3 a4 a5 a6 a7 a8
  generalize (w1.setCell ⟨R, 1, none⟩ (.int .i64 ((st.pos : Int) + 1))).alloc (.cells #[.int .u64 0, .int .u64 0, .int .u64 0, .int .u64 0] 114 (0, 0)) = W3 at *
  generalize w1.heap.size = C at *
  obtain ⟨hr3, hC, eY3, hbW, hkW, hown⟩ := hw
  obtain ⟨-, -, -, hlen, hways, ih⟩ := HI.out
  clear HI HPk
  rcases hways with ⟨rfl, r1, ha, hcond, rfl⟩ | ⟨rfl, hpg⟩ | ⟨rfl, r1, hby, hpg⟩ | ⟨rfl, hl, hpg⟩ | ⟨⟨hq, h46, h92⟩, hpg⟩
  case inr.inr.inr.inr =>
    have t40 : ((c : Int) == 40) = false := beq_eq_false_iff_ne.2 fun e => hq (by rw [show c = 40 by omega]; decide)
    have t91 : ((c : Int) == 91) = false := beq_eq_false_iff_ne.2 fun e => hq (by rw [show c = 91 by omega]; decide)
    have t46 : ((c : Int) == 46) = false := beq_eq_false_iff_ne.2 fun e => h46 (by omega)
    have t92 : ((c : Int) == 92) = false := beq_eq_false_iff_ne.2 fun e => h92 (by omega)
    have hIx := Lib.hid (Try.strings_IndexByte ⟨#[124, 42, 43, 63, 40, 41, 91, 93]⟩ (c : Int) W3)
    have hIq := quoted_none hq hpk
    have HA := Lib.hid (class_add C 0 e4 c (by omega) W3 words_e4 (setAt_of hC) (fun j => Lib.frozen_of_heap hC j))
    have hCk := class_first hC c (by omega)
    have o4 := one_set C (0 + c / 64) W3 (.int .u64 (wd (sadd e4 c) (c / 64) : Nat))
    have HT := Lib.hid (And.intro (hr3.at_class hown o4.other) (And.intro (show (W3.setCell ⟨C, 0 + c / 64, none⟩ (.int .u64 (wd (sadd e4 c) (c / 64) : Nat))).drew.heap[C]? = some (.cells (setC (sadd e4 c)) 114 (0, 0)) from hCk) (And.intro ((o4.other _ (by omega)).trans eY3) (And.intro (hbW.trans (o4.below (by have := hr3.low; omega))) (And.intro (show KeepR w (W3.setCell ⟨C, 0 + c / 64, none⟩ (.int .u64 (wd (sadd e4 c) (c / 64) : Nat))).drew from fun q cs T m h0 h1 h2 h3 => (o4.other q (by have := lt_of_block h0; omega)).trans (hkW q cs T m h0 h1 h2 h3)) (And.intro (sadd_words words_e4 c) (And.intro hpg hlen)))))))
    have hIq2 := Lib.hid hIq
    clear hr3 hC eY3 hbW hkW hown hlen ih hpg hCk o4 hq h46 h92 hIq
    go_wp2_with fail
    refine hIx.out.mono ?_
    rintro e w4 ⟨rfl, rfl⟩
    rw [hIq2.out]
    go_wp2_with fail
    refine HA.out.mono ?_
    rintro e w5 ⟨rfl, hw5⟩
    have ht := HT.out
    clear HT HA
    rw [← hw5] at ht
    clear hw5
    have HT := Lib.hid ht
    clear ht
    obtain ⟨hpl, rfl⟩ := posG_some HT.out.2.2.2.2.2.2.1
    have hCk := HT.out.2.1
    have c0 : w5.cell? ⟨C, 0, none⟩ = some (.int .u64 (wd (sadd e4 c) 0 : Nat)) := by rw [Lib.cell_of_heap hCk]; rfl
    have c1 : w5.cell? ⟨C, 1, none⟩ = some (.int .u64 (wd (sadd e4 c) 1 : Nat)) := by rw [Lib.cell_of_heap hCk]; rfl
    have c2 : w5.cell? ⟨C, 2, none⟩ = some (.int .u64 (wd (sadd e4 c) 2 : Nat)) := by rw [Lib.cell_of_heap hCk]; rfl
    have c3 : w5.cell? ⟨C, 3, none⟩ = some (.int .u64 (wd (sadd e4 c) 3 : Nat)) := by rw [Lib.cell_of_heap hCk]; rfl
    have HP := Lib.hid (position_any (B := B) (R := R) (s := s) (st := pos1 st) (w := w5) ⟨cv, fv, HT.out.1, HT.out.2.2.2.2.2.2.2⟩ (sadd e4 c) HT.out.2.2.2.2.2.1 hpl)
    clear hCk hpl
    go_wp2_with fail
    refine HP.out.mono ?_
    rintro e w6 ⟨rfl, hrd6, hb6, hk6, hx6⟩
    have eY6 := hk6 _ _ _ _ HT.out.2.2.1 (by decide) (by decide) (by decide)
    obtain ⟨⟨y0, y1, y2, y3, y4, y5, y6, y7, y8⟩, z0, z1, z2, z3, z4, z5, z6, z7, z8⟩ := part9 eY6
    have H6 := Lib.hid (And.intro hrd6 (And.intro hb6 (And.intro hk6 (And.intro hx6 eY6))))
    clear hrd6 hb6 hk6 hx6 eY6 HP c0 c1 c2 c3
    generalize hxx : (posM (pos1 st) (sadd e4 c)).2 = x at *
    generalize hss : (posM (pos1 st) (sadd e4 c)).1 = sx at *
    clear hxx hss
    unfold partC
    go_wp2_with fail
    refine bodyPost_ret (results_cell_row rfl _ _ w.heap.size 90 (partC x) (0, 0) _ rfl (put9_at H6.out.2.2.2.2 _ _ _ _ _ _ _ _ _) Try.underlying90 rfl (by kernel_rfl)) rfl ?_
    obtain ⟨cv6, fv6, hr6, hl6⟩ := H6.out.1
    have o7 := one_put9 w6 w.heap.size (.bool x.em) (.int .u64 (wd x.fst 0 : Nat)) (.int .u64 (wd x.fst 1 : Nat)) (.int .u64 (wd x.fst 2 : Nat)) (.int .u64 (wd x.fst 3 : Nat)) (.int .u64 (wd x.lst 0 : Nat)) (.int .u64 (wd x.lst 1 : Nat)) (.int .u64 (wd x.lst 2 : Nat)) (.int .u64 (wd x.lst 3 : Nat))
    refine ⟨rfl, ⟨_, _, hr6.at_other H6.out.2.2.2.2 (by decide) (by decide) (by decide) o7.other, hl6⟩, (HT.out.2.2.2.1.trans H6.out.2.1).trans (o7.below hBw), fun q cs T m h0 h1 h2 h3 => ?_, H6.out.2.2.2.1⟩
    exact (o7.other q (by have := lt_of_block h0; omega)).trans (H6.out.2.2.1 q cs T m (HT.out.2.2.2.2.1 q cs T m h0 h1 h2 h3) h1 h2 h3)
  case inr.inl =>
    rw [← sturn_e4] at hpg
    have HA := Lib.hid (class_turn C 0 e4 W3 words_e4 (setAt_of hC) (fun j => Lib.frozen_of_heap hC j))
    have o4 := one_join C 0 (sturn e4) W3 4
    have hCk := class_join hC (sturn e4)
    have HT := Lib.hid (And.intro (hr3.at_class hown o4.other) (And.intro hCk (And.intro ((o4.other _ (by omega)).trans eY3) (And.intro (hbW.trans (o4.below (by have := hr3.low; omega))) (And.intro (show KeepR w (joinW W3 C 0 (sturn e4) 4) from fun q cs T m h0 h1 h2 h3 => (o4.other q (by have := lt_of_block h0; omega)).trans (hkW q cs T m h0 h1 h2 h3)) (And.intro (sturn_words e4) (And.intro hpg hlen)))))))
    clear hr3 hC eY3 hbW hkW hown hlen ih hpg hCk o4
    go_wp2_with fail
    refine HA.out.mono ?_
    rintro e w5 ⟨rfl, hw5⟩
    have ht := HT.out
    clear HT HA
    rw [← hw5] at ht
    clear hw5
    have HT := Lib.hid ht
    clear ht
    obtain ⟨hpl, rfl⟩ := posG_some HT.out.2.2.2.2.2.2.1
    have hCk := HT.out.2.1
    have c0 : w5.cell? ⟨C, 0, none⟩ = some (.int .u64 (wd (sturn e4) 0 : Nat)) := by rw [Lib.cell_of_heap hCk]; rfl
    have c1 : w5.cell? ⟨C, 1, none⟩ = some (.int .u64 (wd (sturn e4) 1 : Nat)) := by rw [Lib.cell_of_heap hCk]; rfl
    have c2 : w5.cell? ⟨C, 2, none⟩ = some (.int .u64 (wd (sturn e4) 2 : Nat)) := by rw [Lib.cell_of_heap hCk]; rfl
    have c3 : w5.cell? ⟨C, 3, none⟩ = some (.int .u64 (wd (sturn e4) 3 : Nat)) := by rw [Lib.cell_of_heap hCk]; rfl
    have HP := Lib.hid (position_any (B := B) (R := R) (s := s) (st := pos1 st) (w := w5) ⟨cv, fv, HT.out.1, HT.out.2.2.2.2.2.2.2⟩ (sturn e4) HT.out.2.2.2.2.2.1 hpl)
    clear hCk hpl
    go_wp2_with fail
    refine HP.out.mono ?_
    rintro e w6 ⟨rfl, hrd6, hb6, hk6, hx6⟩
    have eY6 := hk6 _ _ _ _ HT.out.2.2.1 (by decide) (by decide) (by decide)
    obtain ⟨⟨y0, y1, y2, y3, y4, y5, y6, y7, y8⟩, z0, z1, z2, z3, z4, z5, z6, z7, z8⟩ := part9 eY6
    have H6 := Lib.hid (And.intro hrd6 (And.intro hb6 (And.intro hk6 (And.intro hx6 eY6))))
    clear hrd6 hb6 hk6 hx6 eY6 HP c0 c1 c2 c3
    generalize hxx : (posM (pos1 st) (sturn e4)).2 = x at *
    generalize hss : (posM (pos1 st) (sturn e4)).1 = sx at *
    clear hxx hss
    unfold partC
    go_wp2_with fail
    refine bodyPost_ret (results_cell_row rfl _ _ w.heap.size 90 (partC x) (0, 0) _ rfl (put9_at H6.out.2.2.2.2 _ _ _ _ _ _ _ _ _) Try.underlying90 rfl (by kernel_rfl)) rfl ?_
    obtain ⟨cv6, fv6, hr6, hl6⟩ := H6.out.1
    have o7 := one_put9 w6 w.heap.size (.bool x.em) (.int .u64 (wd x.fst 0 : Nat)) (.int .u64 (wd x.fst 1 : Nat)) (.int .u64 (wd x.fst 2 : Nat)) (.int .u64 (wd x.fst 3 : Nat)) (.int .u64 (wd x.lst 0 : Nat)) (.int .u64 (wd x.lst 1 : Nat)) (.int .u64 (wd x.lst 2 : Nat)) (.int .u64 (wd x.lst 3 : Nat))
    refine ⟨rfl, ⟨_, _, hr6.at_other H6.out.2.2.2.2 (by decide) (by decide) (by decide) o7.other, hl6⟩, (HT.out.2.2.2.1.trans H6.out.2.1).trans (o7.below hBw), fun q cs T m h0 h1 h2 h3 => ?_, H6.out.2.2.2.1⟩
    exact (o7.other q (by have := lt_of_block h0; omega)).trans (H6.out.2.2.1 q cs T m (HT.out.2.2.2.2.1 q cs T m h0 h1 h2 h3) h1 h2 h3)
  case inr.inr.inl =>
    obtain ⟨st1, K⟩ := r1
    have hst := bytes_st hby
    have hl1 : st1.cls.length = st1.fol.length := by rw [hst.1, hst.2.1]; exact hlen
    have HBy := Lib.hid (bytes_any hby hr3 hlen)
    have hCl := lt_of_block hC
    have hRC : R ≠ C := hown R (Or.inr (Or.inr rfl))
    have hYl := lt_of_block eY3
    have HT := Lib.hid (And.intro hr3 (And.intro hC (And.intro eY3 (And.intro hbW (And.intro hkW (And.intro hown (And.intro hpg hl1)))))))
    clear hr3 hC eY3 hbW hkW hown hlen ih hpg hby hst hl1
    go_wp2_with fail
    refine HBy.out.mono ?_
    rintro e w4 ⟨rfl, hr4, hb4, hk4, hwk⟩
    have eC4 := (hk4 C hCl (Ne.symm hRC)).trans HT.out.2.1
    have eY4 := (hk4 w.heap.size hYl (by omega)).trans HT.out.2.2.1
    have x0 : w4.cell? ⟨C, 0, none⟩ = some (.int .u64 0) := by rw [Lib.cell_of_heap eC4]; rfl
    have x1 : w4.cell? ⟨C, 1, none⟩ = some (.int .u64 0) := by rw [Lib.cell_of_heap eC4]; rfl
    have x2 : w4.cell? ⟨C, 2, none⟩ = some (.int .u64 0) := by rw [Lib.cell_of_heap eC4]; rfl
    have x3 : w4.cell? ⟨C, 3, none⟩ = some (.int .u64 0) := by rw [Lib.cell_of_heap eC4]; rfl
    have z0 := Lib.frozen_of_heap eC4 0
    have z1 := Lib.frozen_of_heap eC4 1
    have z2 := Lib.frozen_of_heap eC4 2
    have z3 := Lib.frozen_of_heap eC4 3
    have o4 : One C w4 ((((w4.setCell ⟨C, 0, none⟩ (.int .u64 (wd K 0 : Nat))).setCell ⟨C, 1, none⟩ (.int .u64 (wd K 1 : Nat))).setCell ⟨C, 2, none⟩ (.int .u64 (wd K 2 : Nat))).setCell ⟨C, 3, none⟩ (.int .u64 (wd K 3 : Nat))) :=
      ⟨rfl, rfl, rfl, by simp, fun k hk => by rw [Below.heap_setCell _ _ _ _ hk, Below.heap_setCell _ _ _ _ hk, Below.heap_setCell _ _ _ _ hk, Below.heap_setCell _ _ _ _ hk]⟩
    have hCk := heap_setS (heap_setS (heap_setS (heap_setS eC4 0 (.int .u64 (wd K 0 : Nat))) 1 (.int .u64 (wd K 1 : Nat))) 2 (.int .u64 (wd K 2 : Nat))) 3 (.int .u64 (wd K 3 : Nat))
    have hkk : KeepR w ((((w4.setCell ⟨C, 0, none⟩ (.int .u64 (wd K 0 : Nat))).setCell ⟨C, 1, none⟩ (.int .u64 (wd K 1 : Nat))).setCell ⟨C, 2, none⟩ (.int .u64 (wd K 2 : Nat))).setCell ⟨C, 3, none⟩ (.int .u64 (wd K 3 : Nat))) := fun q cs T m h0 h1 h2 h3 => by
      have a := HT.out.2.2.2.2.1 q cs T m h0 h1 h2 h3
      have hq := lt_of_block h0
      have hqR : q ≠ R := fun e => by
        subst e
        rw [HT.out.1.cell] at a
        injection a with a
        injection a with _ a2 _
        exact h1 a2.symm
      exact (o4.other q (by omega)).trans ((hk4 q (lt_of_block a) hqR).trans a)
    have hbb := (HT.out.2.2.2.1.trans hb4).trans (o4.below (n := B) (by have := HT.out.1.low; omega))
    have HT2 := Lib.hid (And.intro (hr4.at_class HT.out.2.2.2.2.2.1 o4.other) (And.intro hCk (And.intro ((o4.other _ (by omega)).trans eY4) (And.intro hbb (And.intro hkk (And.intro hwk HT.out.2.2.2.2.2.2))))))
    clear hr4 hb4 hk4 hwk eC4 eY4 o4 hCk hkk hbb HT HBy
    unfold setC
    go_upto_region 24 with fail
    have ht := HT2.out
    clear HT2 x0 x1 x2 x3 z0 z1 z2 z3
    generalize (((w4.setCell ⟨C, 0, none⟩ (.int .u64 (wd K 0 : Nat))).setCell ⟨C, 1, none⟩ (.int .u64 (wd K 1 : Nat))).setCell ⟨C, 2, none⟩ (.int .u64 (wd K 2 : Nat))).setCell ⟨C, 3, none⟩ (.int .u64 (wd K 3 : Nat)) = w5 at *
    have HT := Lib.hid ht
    clear ht
    obtain ⟨hpl, rfl⟩ := posG_some HT.out.2.2.2.2.2.2.1
    have hCk := HT.out.2.1
    have c0 : w5.cell? ⟨C, 0, none⟩ = some (.int .u64 (wd K 0 : Nat)) := by rw [Lib.cell_of_heap hCk]; rfl
    have c1 : w5.cell? ⟨C, 1, none⟩ = some (.int .u64 (wd K 1 : Nat)) := by rw [Lib.cell_of_heap hCk]; rfl
    have c2 : w5.cell? ⟨C, 2, none⟩ = some (.int .u64 (wd K 2 : Nat)) := by rw [Lib.cell_of_heap hCk]; rfl
    have c3 : w5.cell? ⟨C, 3, none⟩ = some (.int .u64 (wd K 3 : Nat)) := by rw [Lib.cell_of_heap hCk]; rfl
    have HP := Lib.hid (position_any (B := B) (R := R) (s := s) (st := st1) (w := w5) ⟨cv, fv, HT.out.1, HT.out.2.2.2.2.2.2.2⟩ K HT.out.2.2.2.2.2.1 hpl)
    clear hCk hpl
    go_wp2_with fail
    refine HP.out.mono ?_
    rintro e w6 ⟨rfl, hrd6, hb6, hk6, hx6⟩
    have eY6 := hk6 _ _ _ _ HT.out.2.2.1 (by decide) (by decide) (by decide)
    obtain ⟨⟨y0, y1, y2, y3, y4, y5, y6, y7, y8⟩, z0, z1, z2, z3, z4, z5, z6, z7, z8⟩ := part9 eY6
    have H6 := Lib.hid (And.intro hrd6 (And.intro hb6 (And.intro hk6 (And.intro hx6 eY6))))
    clear hrd6 hb6 hk6 hx6 eY6 HP c0 c1 c2 c3
    generalize hxx : (posM st1 K).2 = x at *
    generalize hss : (posM st1 K).1 = sx at *
    clear hxx hss
    unfold partC
    go_wp2_with fail
    refine bodyPost_ret (results_cell_row rfl _ _ w.heap.size 90 (partC x) (0, 0) _ rfl (put9_at H6.out.2.2.2.2 _ _ _ _ _ _ _ _ _) Try.underlying90 rfl (by kernel_rfl)) rfl ?_
    obtain ⟨cv6, fv6, hr6, hl6⟩ := H6.out.1
    have o7 := one_put9 w6 w.heap.size (.bool x.em) (.int .u64 (wd x.fst 0 : Nat)) (.int .u64 (wd x.fst 1 : Nat)) (.int .u64 (wd x.fst 2 : Nat)) (.int .u64 (wd x.fst 3 : Nat)) (.int .u64 (wd x.lst 0 : Nat)) (.int .u64 (wd x.lst 1 : Nat)) (.int .u64 (wd x.lst 2 : Nat)) (.int .u64 (wd x.lst 3 : Nat))
    refine ⟨rfl, ⟨_, _, hr6.at_other H6.out.2.2.2.2 (by decide) (by decide) (by decide) o7.other, hl6⟩, (HT.out.2.2.2.1.trans H6.out.2.1).trans (o7.below hBw), fun q cs T m h0 h1 h2 h3 => ?_, H6.out.2.2.2.1⟩
    exact (o7.other q (by have := lt_of_block h0; omega)).trans (H6.out.2.2.1 q cs T m (HT.out.2.2.2.2.1 q cs T m h0 h1 h2 h3) h1 h2 h3)
  case inr.inr.inr.inl =>
    obtain ⟨q, hq⟩ : ∃ q, q = st.pos + 1 := ⟨_, rfl⟩
    have hr3' : RdIn B R s ⟨q, st.cls, st.fol, st.bad⟩ cv fv W3 := by rw [hq]; exact hr3
    have hpg' : posG (pos1 ⟨q, st.cls, st.fol, st.bad⟩) (sadd e4 (peekM s q)) = some r := by rw [hq]; exact hpg
    have hql : q < s.size := by omega
    have hx := peek_in s q hql
    have hxl := peek_lt s q
    have wq : IntKind.i64.wrap ((q : Int) + 1) = (q : Int) + 1 := IntWalk.i64_in _ ⟨by omega, by omega⟩
    have hq9 : q ≤ 991 := by omega
    have hq9' : (⟨q, st.cls, st.fol, st.bad⟩ : PSt).pos ≤ 990 := by
      have := hpg'
      unfold posG at this
      split at this
      · rename_i hh; have := hh.2.2; show q ≤ 990; have e : (pos1 ⟨q, st.cls, st.fol, st.bad⟩ : PSt).pos = q + 1 := rfl; omega
      · cases this
    have tq : decide (s.size ≤ q) = false := decide_eq_false (by omega)
    have tq2 : decide ((q : Int) ≥ (s.size : Int)) = false := decide_eq_false (by omega)
    have tq3 : (q : Int) < (s.size : Int) := by omega
    have tq4 : ((q : Int)).toNat = q := by omega
    obtain ⟨⟨a0, a1, a2, a3, a4⟩, a5, a6, a7, a8⟩ := rd_cells hr3'.cell
    generalize peekM s q = yb at *
    have hC3 : W3.drew.drew.heap[C]? = some (.cells (setC e4) 114 (0, 0)) := hC
    have HA := Lib.hid (class_add C 0 e4 yb (by omega) W3.drew.drew words_e4 (setAt_of hC3) (fun j => Lib.frozen_of_heap hC3 j))
    have hCk := class_first hC3 yb (by omega)
    have o4 : One C W3 (W3.drew.drew.setCell ⟨C, 0 + yb / 64, none⟩ (.int .u64 (wd (sadd e4 yb) (yb / 64) : Nat))).drew := one_drew (one_drew (one_set C (0 + yb / 64) W3.drew.drew (.int .u64 (wd (sadd e4 yb) (yb / 64) : Nat))))
    have hr5 := hr3'.at_class hown o4.other
    have HT := Lib.hid (And.intro hr5 (And.intro (show (W3.drew.drew.setCell ⟨C, 0 + yb / 64, none⟩ (.int .u64 (wd (sadd e4 yb) (yb / 64) : Nat))).drew.heap[C]? = some (.cells (setC (sadd e4 yb)) 114 (0, 0)) from hCk) (And.intro ((o4.other _ (by omega)).trans eY3) (And.intro (hbW.trans (o4.below (by have := hr3.low; omega))) (And.intro (show KeepR w (W3.drew.drew.setCell ⟨C, 0 + yb / 64, none⟩ (.int .u64 (wd (sadd e4 yb) (yb / 64) : Nat))).drew from fun q cs T m h0 h1 h2 h3 => (o4.other q (by have := lt_of_block h0; omega)).trans (hkW q cs T m h0 h1 h2 h3)) (And.intro (sadd_words words_e4 yb) (And.intro hpg' (And.intro hlen hown))))))))
    clear hr3 hC eY3 hbW hkW hown hlen ih hpg hpg' hCk o4 hr3' hr5 hC3 hq hp wp
    go_upto_region 16 with fail
    go_region_held3 (fun w' => w' = W3.drew ∧ w'.cell? ⟨R, 0, none⟩ = some (.string s) ∧ w'.cell? ⟨R, 1, none⟩ = some (.int .i64 q)) (exact ⟨rfl, by assumption, by assumption⟩) (fail)
    go_upto_region 19 with fail
    go_region_held3 (fun w' => w'.cell? ⟨R, 0, none⟩ = some (.string s) ∧ w'.cell? ⟨R, 1, none⟩ = some (.int .i64 q)) (exact ⟨by assumption, by assumption⟩)
      (first
        | (go_at_call 60; refine HA.out.mono ?_
           rintro e w5 ⟨rfl, hw5⟩
           have ht := HT.out
           rw [← hw5] at ht
           obtain ⟨⟨b0, b1, b2, b3, b4⟩, b5, b6, b7, b8⟩ := rd_cells ht.1.cell
           have HT5 := Lib.hid ht
           clear ht hw5))
    all_goals
      have hbm := HT5.out.1.bump hq9'
      have hRC : C ≠ R := fun e => HT5.out.2.2.2.2.2.2.2.2 R (Or.inr (Or.inr rfl)) e.symm
      have ht : RdIn B R s (pos1 ⟨q, st.cls, st.fol, st.bad⟩) cv fv (w5.setCell ⟨R, 1, none⟩ (.int .i64 ((q : Int) + 1))) ∧ (w5.setCell ⟨R, 1, none⟩ (.int .i64 ((q : Int) + 1))).heap[C]? = some (.cells (setC (sadd e4 yb)) 114 (0, 0)) ∧ (w5.setCell ⟨R, 1, none⟩ (.int .i64 ((q : Int) + 1))).heap[w.heap.size]? = some (.cells (partC ⟨false, e4, e4⟩) 90 (0, 0)) ∧ Below B w (w5.setCell ⟨R, 1, none⟩ (.int .i64 ((q : Int) + 1))) ∧ KeepR w (w5.setCell ⟨R, 1, none⟩ (.int .i64 ((q : Int) + 1))) ∧ Words (sadd e4 yb) ∧ posG (pos1 ⟨q, st.cls, st.fol, st.bad⟩) (sadd e4 yb) = some r ∧ st.cls.length = st.fol.length :=
        ⟨hbm.1, (Below.heap_setCell _ _ _ _ hRC).trans HT5.out.2.1, hbm.2.1 _ _ _ _ HT5.out.2.2.1 (by decide) (by decide) (by decide), HT5.out.2.2.2.1.trans hbm.2.2, HT5.out.2.2.2.2.1.trans hbm.2.1, HT5.out.2.2.2.2.2.1, HT5.out.2.2.2.2.2.2.1, HT5.out.2.2.2.2.2.2.2.1⟩
      have HT7 := Lib.hid ht
      clear ht hbm hRC HT HA HT5
      go_upto_region 24 with fail
      have ht := HT7.out
      clear HT7 b0 b1 b2 b3 b4 b5 b6 b7 b8 a0 a1 a2 a3 a4 a5 a6 a7 a8 hx hxl hql hq9 tq tq2 tq3 tq4 wq
      generalize w5.setCell ⟨R, 1, none⟩ (.int .i64 ((q : Int) + 1)) = w7 at *
      have HT := Lib.hid ht
      clear ht
      obtain ⟨hpl, rfl⟩ := posG_some HT.out.2.2.2.2.2.2.1
      have hCk := HT.out.2.1
      have c0 : w7.cell? ⟨C, 0, none⟩ = some (.int .u64 (wd (sadd e4 yb) 0 : Nat)) := by rw [Lib.cell_of_heap hCk]; rfl
      have c1 : w7.cell? ⟨C, 1, none⟩ = some (.int .u64 (wd (sadd e4 yb) 1 : Nat)) := by rw [Lib.cell_of_heap hCk]; rfl
      have c2 : w7.cell? ⟨C, 2, none⟩ = some (.int .u64 (wd (sadd e4 yb) 2 : Nat)) := by rw [Lib.cell_of_heap hCk]; rfl
      have c3 : w7.cell? ⟨C, 3, none⟩ = some (.int .u64 (wd (sadd e4 yb) 3 : Nat)) := by rw [Lib.cell_of_heap hCk]; rfl
      have HP := Lib.hid (position_any (B := B) (R := R) (s := s) (st := pos1 ⟨q, st.cls, st.fol, st.bad⟩) (w := w7) ⟨cv, fv, HT.out.1, HT.out.2.2.2.2.2.2.2⟩ (sadd e4 yb) HT.out.2.2.2.2.2.1 hpl)
      clear hCk hpl
      go_wp2_with fail
      refine HP.out.mono ?_
      rintro e w6 ⟨rfl, hrd6, hb6, hk6, hx6⟩
      have eY6 := hk6 _ _ _ _ HT.out.2.2.1 (by decide) (by decide) (by decide)
      obtain ⟨⟨y0, y1, y2, y3, y4, y5, y6, y7, y8⟩, z0, z1, z2, z3, z4, z5, z6, z7, z8⟩ := part9 eY6
      have H6 := Lib.hid (And.intro hrd6 (And.intro hb6 (And.intro hk6 (And.intro hx6 eY6))))
      clear hrd6 hb6 hk6 hx6 eY6 HP c0 c1 c2 c3
      generalize hxx : (posM (pos1 ⟨q, st.cls, st.fol, st.bad⟩) (sadd e4 yb)).2 = x at *
      generalize hss : (posM (pos1 ⟨q, st.cls, st.fol, st.bad⟩) (sadd e4 yb)).1 = sx at *
      clear hxx hss
      unfold partC
      go_wp2_with fail
      refine bodyPost_ret (results_cell_row rfl _ _ w.heap.size 90 (partC x) (0, 0) _ rfl (put9_at H6.out.2.2.2.2 _ _ _ _ _ _ _ _ _) Try.underlying90 rfl (by kernel_rfl)) rfl ?_
      obtain ⟨cv6, fv6, hr6, hl6⟩ := H6.out.1
      have o7 := one_put9 w6 w.heap.size (.bool x.em) (.int .u64 (wd x.fst 0 : Nat)) (.int .u64 (wd x.fst 1 : Nat)) (.int .u64 (wd x.fst 2 : Nat)) (.int .u64 (wd x.fst 3 : Nat)) (.int .u64 (wd x.lst 0 : Nat)) (.int .u64 (wd x.lst 1 : Nat)) (.int .u64 (wd x.lst 2 : Nat)) (.int .u64 (wd x.lst 3 : Nat))
      refine ⟨rfl, ⟨_, _, hr6.at_other H6.out.2.2.2.2 (by decide) (by decide) (by decide) o7.other, hl6⟩, (HT.out.2.2.2.1.trans H6.out.2.1).trans (o7.below hBw), fun q cs T m h0 h1 h2 h3 => ?_, H6.out.2.2.2.1⟩
      exact (o7.other q (by have := lt_of_block h0; omega)).trans (H6.out.2.2.1 q cs T m (HT.out.2.2.2.2.1 q cs T m h0 h1 h2 h3) h1 h2 h3)
  case inl =>
    obtain ⟨⟨p1, cl1, fo1, bd1⟩, x⟩ := r1
    obtain ⟨hbd, h41, hps, hp9⟩ := hcond
    simp only at hbd h41 hps hp9
    subst hbd
    have HA := Lib.hid (ih B R s (pos1 st) _ W3 ha ⟨cv, fv, hr3, hlen⟩)
    have HT := Lib.hid (And.intro eY3 (And.intro hbW hkW))
    clear hr3 hC eY3 hbW hkW hown hlen ih ha
    go_wp2_with fail
    refine HA.out.mono ?_
    rintro e w4 ⟨rfl, hrd4, hb4, hk4, hx4⟩
    have hal := (Below.refl w4.heap.size w4).alloc (Nat.le_refl _) (.cells (partC x) 90 (0, 0))
    have eX := heap_alloc_new w4 (.cells (partC x) 90 (0, 0))
    have hk5 : KeepR w (w4.alloc (.cells (partC x) 90 (0, 0))) := HT.out.2.2.trans (hk4.trans (KeepR.of_below hal))
    have eY4 := hk4 _ _ _ _ HT.out.1 (by decide) (by decide) (by decide)
    have hB4 : B ≤ w4.heap.size := Nat.le_trans hBw (Nat.le_of_lt (lt_of_block eY4))
    have hb5 : Below B w (w4.alloc (.cells (partC x) 90 (0, 0))) := HT.out.2.1.trans (hb4.trans (hal.mono hB4))
    have eY5 := (hal.block _ (lt_of_block eY4)).trans eY4
    have hXY : w.heap.size < w4.heap.size := lt_of_block eY4
    have hrd5 := hrd4.below hal
    have H5 := Lib.hid (And.intro hrd5 (And.intro eX (And.intro eY5 (And.intro hb5 (And.intro hk5 hx4)))))
    clear hrd4 hb4 hk4 hx4 hal eX hk5 eY4 hb5 eY5 hrd5 HA HT
    unfold partC
    go_upto_region 7 with fail
    have h5 := H5.out
    unfold partC at h5
    clear H5
    generalize w4.alloc (.cells #[.bool x.em, .int .u64 (wd x.fst 0 : Nat), .int .u64 (wd x.fst 1 : Nat), .int .u64 (wd x.fst 2 : Nat), .int .u64 (wd x.fst 3 : Nat), .int .u64 (wd x.lst 0 : Nat), .int .u64 (wd x.lst 1 : Nat), .int .u64 (wd x.lst 2 : Nat), .int .u64 (wd x.lst 3 : Nat)] 90 (0, 0)) = W5 at *
    generalize w4.heap.size = X at *
    obtain ⟨hrd5, eX, eY5, hb5, hk5, hx4⟩ := h5
    have hrdD : RdAt B R s ⟨p1, cl1, fo1, false⟩ W5.drew := hrd5.below ⟨rfl, rfl, rfl, Nat.le_refl _, fun _ _ => rfl⟩
    have HP := Lib.hid (peek_any hrdD)
    obtain ⟨cv5, fv5, hr5, hl5⟩ := hrdD
    obtain ⟨⟨a0, a1, a2, a3, a4⟩, a5, a6, a7, a8⟩ := rd_cells hr5.cell
    have wq : IntKind.i64.wrap ((p1 : Int) + 1) = (p1 : Int) + 1 := IntWalk.i64_in _ ⟨by omega, by omega⟩
    have tq : decide (s.size ≤ p1) = false := decide_eq_false (by omega)
    have tq2 : decide ((p1 : Int) ≥ (s.size : Int)) = false := decide_eq_false (by omega)
    have h41i : ((peekM s p1 : Nat) : Int) = 41 := by rw [h41]; rfl
    have H5 := Lib.hid (And.intro hr5 (And.intro eX (And.intro eY5 (And.intro hb5 (And.intro hk5 (And.intro hx4 hl5))))))
    clear hrd5 eX eY5 hb5 hk5 hx4 hr5 hl5
    go_region_held3 (fun w' => w'.cell? ⟨R, 0, none⟩ = some (.string s) ∧ w'.cell? ⟨R, 1, none⟩ = some (.int .i64 p1) ∧ w'.cell? ⟨R, 13, none⟩ = some (.bool false)) (first | exact ⟨by assumption, by assumption, by assumption⟩ | exact HE)
      (first
        | (go_at_call 54; refine HP.out.mono ?_
           rintro e w6 ⟨rfl, hb6⟩
           rw [h41i]
           have hr6 := H5.out.1.below hb6
           obtain ⟨⟨b0, b1, b2, b3, b4⟩, b5, b6, b7, b8⟩ := rd_cells hr6.cell
           have hs6 := hr6.setR 13 (.bool false) ⟨p1, cl1, fo1, false⟩ rfl rfl rfl (by show p1 ≤ 1000; omega)
           obtain ⟨⟨d0, d1, d2, d3, d4⟩, d5, d6, d7, d8⟩ := rd_cells hs6.1.cell
           have HE := And.intro d0 (And.intro d1 d4)
           have H6 := Lib.hid (And.intro hs6 hb6)
           clear hr6 hs6 hb6 d2 d3))
    all_goals
      have k6 : KeepR W5 w6 := fun q cs T m h0 _ _ _ => (H6.out.2.block q (lt_of_block h0)).trans h0
      have b6' : Below B W5 w6 := by
        have h := H6.out.2.mono (Nat.le_trans H5.out.1.low (Nat.le_of_lt (lt_of_block H5.out.1.cell)))
        exact ⟨h.os, h.tape, h.output, h.size, h.block⟩
      have H7 := Lib.hid (And.intro H6.out.1.1 (And.intro (H5.out.2.2.2.2.1.trans (k6.trans H6.out.1.2.1)) (And.intro (H5.out.2.2.2.1.trans (b6'.trans H6.out.1.2.2)) (And.intro ((k6.trans H6.out.1.2.1) _ _ _ _ H5.out.2.1 (by decide) (by decide) (by decide)) ((k6.trans H6.out.1.2.1) _ _ _ _ H5.out.2.2.1 (by decide) (by decide) (by decide))))))
      have HL := Lib.hid (And.intro H5.out.2.2.2.2.2.2 H5.out.2.2.2.2.2.1)
      clear k6 b6' H6 H5 HE b0 b1 b2 b3 b4 b5 b6 b7 b8 a0 a1 a2 a3 a4 a5 a6 a7 a8 HP
      go_upto_region 8 with fail
      generalize w6.setCell ⟨R, 13, none⟩ (.bool false) = w7 at *
      have hbm := H7.out.1.bump hp9
      have H8 := Lib.hid (And.intro hbm.1 (And.intro (H7.out.2.1.trans hbm.2.1) (And.intro (H7.out.2.2.1.trans hbm.2.2) (And.intro (hbm.2.1 _ _ _ _ H7.out.2.2.2.1 (by decide) (by decide) (by decide)) (hbm.2.1 _ _ _ _ H7.out.2.2.2.2 (by decide) (by decide) (by decide))))))
      clear hbm H7
      go_upto_region 10 with fail
      have h8 := H8.out
      clear H8
      generalize w7.setCell ⟨R, 1, none⟩ (.int .i64 ((p1 : Int) + 1)) = w8 at *
      obtain ⟨hr8, hk8, hb8, eX8, eY8⟩ := h8
      obtain ⟨⟨x0, x1, x2, x3, x4, x5, x6, x7, x8⟩, -⟩ := part9 (x := x) eX8
      obtain ⟨⟨y0, y1, y2, y3, y4, y5, y6, y7, y8⟩, z0, z1, z2, z3, z4, z5, z6, z7, z8⟩ := part9 (x := ⟨false, e4, e4⟩) eY8
      have H8 := Lib.hid (And.intro hr8 (And.intro hk8 (And.intro hb8 eY8)))
      clear hr8 hk8 hb8 eX8 eY8
      go_wp2_with fail
      refine bodyPost_ret (results_cell_row rfl _ _ w.heap.size 90 (partC x) (0, 0) _ rfl (put9_at H8.out.2.2.2 _ _ _ _ _ _ _ _ _) Try.underlying90 rfl (by kernel_rfl)) rfl ?_
      have o9 := one_put9 w8 w.heap.size (.bool x.em) (.int .u64 (wd x.fst 0 : Nat)) (.int .u64 (wd x.fst 1 : Nat)) (.int .u64 (wd x.fst 2 : Nat)) (.int .u64 (wd x.fst 3 : Nat)) (.int .u64 (wd x.lst 0 : Nat)) (.int .u64 (wd x.lst 1 : Nat)) (.int .u64 (wd x.lst 2 : Nat)) (.int .u64 (wd x.lst 3 : Nat))
      refine ⟨rfl, ⟨_, _, H8.out.1.at_other H8.out.2.2.2 (by decide) (by decide) (by decide) o9.other, HL.out.1⟩, H8.out.2.2.1.trans (o9.below hBw), fun q cs T m h0 h1 h2 h3 => ?_, HL.out.2⟩
      exact (o9.other q (by have := lt_of_block h0; omega)).trans (H8.out.2.1 q cs T m h0 h1 h2 h3)

end Go.Proofs.Ytebcflgdjbjkoaa
