/- The contracts of bits.Read, Cut, Cat, Align and Same. -/
import Derived.Test.YtpoolbachhelgaaDoorBitsDig
import Derived.Lib.ConvBytes
namespace Go.Proofs.YtpoolbachhelgaaDoor
open Go.RowKit

theorem below_bytes (w : World) (e : TypeId) (s : ByteArray) : Below w.heap.size w (Lib.bytesWorld w e s) :=
  ⟨rfl, rfl, rfl, by rw [Lib.bytesWorld_size]; omega, fun k hk => Lib.bytesWorld_at_old w e s k hk⟩
theorem KeepM.trans {g : Nat} {a b c : World} (h : KeepM g a b) (k : KeepM g b c) : KeepM g a c := fun q cs T m hq hT hg => k q cs T m (h q cs T m hq hT hg) hT hg
theorem KeepM.refl (g : Nat) (a : World) : KeepM g a a := fun _ _ _ _ h _ _ => h
theorem KeepM.of_below {g B : Nat} {a b : World} (h : Below B a b) (hB : a.heap.size ≤ B) : KeepM g a b := by
  intro q cs T m hq hT hg
  rw [h.block q (by have := lt_of_block hq; omega)]
  exact hq

/-- The block in which the bytes of a conversion lie. -/
def Conv (g : Nat) (t : ByteArray) (w : World) : Prop := ∃ cs m, w.heap[g]? = some (.cells cs 5 m) ∧ m ≠ (0, 0) ∧ ∀ j, j < t.size → cs[j]? = some (.int .u8 (t.data.toList.getD j 0).toNat)
theorem Conv.cell {g : Nat} {t : ByteArray} {w : World} (h : Conv g t w) (j : Nat) (hj : j < t.size) : w.cell? ⟨g, j, none⟩ = some (.int .u8 (t.data.toList.getD j 0).toNat) := by
  obtain ⟨cs, m, h1, _, h2⟩ := h
  rw [Lib.cell_of_heap h1]
  exact h2 j hj
theorem Conv.new (w : World) (t : ByteArray) : Conv w.heap.size t (Lib.bytesWorld w 5 t) := by
  refine ⟨_, _, Lib.bytesWorld_at_new w 5 t, by simp, fun j hj => ?_⟩
  have := Lib.bytesWorld_cell w 5 t j hj
  rw [Lib.cell_of_heap (Lib.bytesWorld_at_new w 5 t)] at this
  exact this
theorem Conv.keep {g q : Nat} {t : ByteArray} {w w' : World} (h : Conv g t w) (hk : KeepM q w w') (hne : g ≠ q) : Conv g t w' := by
  obtain ⟨cs, m, h1, h2, h3⟩ := h
  exact ⟨cs, m, hk g cs _ m h1 (Or.inr h2) hne, h2, h3⟩

/-- A string of digits 0 and 1. -/
def strB (bs : List Nat) : ByteArray := ⟨(digitsOf bs).toArray⟩
theorem strB_size (bs : List Nat) : (strB bs).size = bs.length := by simp [strB, digitsOf, ByteArray.size]
theorem strB_get (bs : List Nat) (hbin : Bin bs) (i : Nat) (h : i < bs.length) : (((strB bs).data.toList.getD i 0).toNat : Int) = 48 + (bs.getD i 0 : Nat) := by
  have hx := hbin.get i
  have e : (strB bs).data.toList.getD i 0 = UInt8.ofNat (48 + bs.getD i 0) := by simp [strB, digitsOf, List.getD, h]
  rw [e]
  rcases (show bs.getD i 0 = 0 ∨ bs.getD i 0 = 1 by omega) with h | h <;> rw [h] <;> rfl

structure GrowRel (B g : Nat) (pre all : List Nat) (w : World) (i : Nat) (wr : World) : Prop where
  le : i ≤ all.length
  at_ : BitsAt B g (pre ++ all.take i) wr
  below : Below B w wr
  keep : KeepM g w wr
theorem GrowRel.go {B g : Nat} {pre all : List Nat} {w wr w1 : World} {i : Nat} (h : i < all.length) (b : BitsAt B g (pre ++ all.take i ++ [all.getD i 0]) w1) (h1 : Below B w wr) (h2 : Below B wr w1) (h3 : KeepM g w wr) (h4 : KeepM g wr w1) : GrowRel B g pre all w (i + 1) w1 := by
  refine ⟨h, ?_, h1.trans h2, h3.trans h4⟩
  have e : all.take (i + 1) = all.take i ++ [all.getD i 0] := by
    rw [List.take_succ_eq_append_getElem h]
    simp [List.getD, h]
  rw [e, ← List.append_assoc]
  exact b
theorem int_eq {k : IntKind} {a b : Int} (h : a = b) : Value.int k a = Value.int k b := by rw [h]

/-- What the last lines of these functions do: the result's cells are those of the string that was made. -/
theorem out_end {B r : Nat} {bs : List Nat} {p : Option Addr} {c : Nat} {w : World} (hr : w.heap[r]? = some (.cells #[.slice none 0 0, .int .i64 0] 34 (0, 0)))
    (hown : w.ownsRow B 5 1 (.slice p (pack bs).length c) (pack bs).length ((intsOf (pack bs)).map (Value.int .u8))) (hBr : B ≤ r) :
    ((w.setCell ⟨r, 0, none⟩ (.slice p (pack bs).length c)).setCell ⟨r, 1, none⟩ (.int .i64 bs.length)).heap[r]? = some (.cells #[.slice p (pack bs).length c, .int .i64 bs.length] 34 (0, 0)) ∧
    BitsV ((w.setCell ⟨r, 0, none⟩ (.slice p (pack bs).length c)).setCell ⟨r, 1, none⟩ (.int .i64 bs.length)) (.agg #[.slice p (pack bs).length c, .int .i64 bs.length]) bs ∧
    Below B w ((w.setCell ⟨r, 0, none⟩ (.slice p (pack bs).length c)).setCell ⟨r, 1, none⟩ (.int .i64 bs.length)) := by
  refine ⟨heap_set1 (heap_set0 hr), ?_, ((Below.refl _ _).setCell hBr _).setCell hBr _⟩
  have hne : (Value.slice p (pack bs).length c).ownBlock ≠ some r := by
    intro e
    rcases hown.2 with ⟨h, _⟩ | ⟨q, cap, cur, h, hBq, hq, _⟩
    · rw [h] at e; simp [Value.ownBlock] at e
    · rw [h] at e
      simp [Value.ownBlock] at e
      rw [e, hr] at hq
      simp only [Option.some.injEq, Obj.cells.injEq] at hq
      exact absurd hq.2.1 (by decide)
  have h1 := ownsRow_setCell_other (ownsRow_setCell_other hown (a := ⟨r, 0, none⟩) hne (.slice p (pack bs).length c)) (a := ⟨r, 1, none⟩) hne (.int .i64 bs.length)
  exact ⟨_, rfl, SlK.of_owns (by rw [intsOf_length]; exact h1)⟩

set_option maxRecDepth 100000 in
set_option maxHeartbeats 1000000 in
theorem read_any (bs : List Nat) (hbin : Bin bs) (hlen : bs.length ≤ 60) (w : World) :
    Calls Tryd.prog 10 #[.string (strB bs)] w fun e w' => ∃ v, e = .returned (.tuple #[v, .int .i64 0]) ∧ BitsV w' v bs ∧ Below w.heap.size w w' := by
  have hsz := strB_size bs
  have hg := strB_get bs hbin
  obtain ⟨t, ht⟩ : ∃ t, t = strB bs := ⟨_, rfl⟩
  rw [← ht] at hsz hg ⊢
  have hcv := fun W => Lib.run_convert_string_bytes (P := Tryd.prog) W 9 24 5 t Tryd.underlying9 Tryd.underlying24 Tryd.underlying5
  have HG := Lib.hid hg
  have HA := Lib.hid (fun (g : Nat) (cs : List Nat) (x : Nat) (hx : x ≤ 1) (hb : Bin cs) (hl : cs.length < 64000) (w1 : World) (ha : BitsAt w.heap.size g cs w1) => add_more w.heap.size g cs x hx hb hl w1 ha)
  have t0 : decide (64000 < t.size) = false := decide_eq_false (by omega)
  clear hg ht
  go_enter Tryd.func10, Tryd.ntmps10
  go_wp2_with fail
  obtain ⟨w2, hw2⟩ : ∃ w2, w2 = ((w.alloc (.cells #[.slice none 0 0, .int .i64 0] 34 (0, 0))).alloc (.cells #[.slice none 0 0, .int .i64 0] 34 (0, 0))) := ⟨_, rfl⟩
  rw [← hw2]
  have hb2 : Below w.heap.size w w2 := by rw [hw2]; go_grown
  have hs2 : w2.heap.size = w.heap.size + 2 := by rw [hw2]; simp
  have k0 : w2.heap[w.heap.size]? = some (.cells #[.slice none 0 0, .int .i64 0] 34 (0, 0)) := by rw [hw2]; exact one_new _ _ _
  have k1 : w2.heap[w.heap.size + 1]? = some (.cells #[.slice none 0 0, .int .i64 0] 34 (0, 0)) := by rw [hw2]; exact two_new _ _ _
  have hc3 := Conv.new w2 t
  have hb3 := below_bytes w2 5 t
  rw [hs2] at hc3 hb3
  generalize Lib.bytesWorld w2 5 t = w3 at *
  generalize grownCap w2 bs.length 0 5 = cp
  have k0' : w3.heap[w.heap.size]? = some (.cells #[.slice none 0 0, .int .i64 0] 34 (0, 0)) := by rw [hb3.block _ (by omega)]; exact k0
  have k1' : w3.heap[w.heap.size + 1]? = some (.cells #[.slice none 0 0, .int .i64 0] 34 (0, 0)) := by rw [hb3.block _ (by omega)]; exact k1
  have hbw : Below w.heap.size w w3 := hb2.trans (hb3.mono (by omega))
  clear k0 k1 hb2 hb3 hw2 hs2 hcv
  go_loopw [14] (fun iv wr => ∃ i : Nat, iv = .int .i64 i ∧ GrowRel w.heap.size (w.heap.size + 1) [] bs w3 i wr) (fun iv _ => bs.length - (intOf iv).toNat)
  case atStart => exact ⟨0, rfl, Nat.zero_le _, bitsAt_new (by omega) k1', Below.refl _ _, KeepM.refl _ _⟩
  case round =>
    obtain ⟨i, rfl, hi, ha, hb, hk⟩ := hrel
    have hc := hc3.keep hk (by omega)
    by_cases hlt : i < bs.length
    · have hcell := hc.cell i (by omega)
      rw [HG.out i hlt] at hcell
      have hx1 : bs.getD i 0 ≤ 1 := hbin.get i
      have HR := Lib.hid (fun w1 => GrowRel.go (B := w.heap.size) (g := w.heap.size + 1) (pre := []) (all := bs) (w := w3) (wr := wr) (w1 := w1) hlt)
      have HB := Lib.hid (And.intro ha (And.intro hb hk))
      generalize bs.getD i 0 = x at *
      clear ha hb hk
      rcases (show x = 0 ∨ x = 1 by omega) with rfl | rfl
      all_goals
        go_wp2_with fail
        refine (HA.out _ ([] ++ bs.take i) _ hx1 (by simpa using hbin.take i) (by simp; omega) wr HB.out.1).mono ?_; rintro e w4 ⟨rfl, a4, b4, k4⟩
        go_wp2_with fail
        exact ⟨⟨i + 1, rfl, HR.out w4 a4 HB.out.2.1 b4 HB.out.2.2 k4⟩, by simp [intOf]; omega⟩
    · obtain rfl : i = bs.length := by omega
      rw [List.nil_append, List.take_length] at ha
      obtain ⟨p3, c3, hbk, hown3⟩ := ha.out
      have kk : wr.heap[w.heap.size]? = some (.cells #[.slice none 0 0, .int .i64 0] 34 (0, 0)) := hk _ _ _ _ k0' (Or.inl (by decide)) (by omega)
      have e0 : wr.cell? ⟨w.heap.size + 1, 0, none⟩ = some (.slice p3 (pack bs).length c3) := by rw [Lib.cell_of_heap hbk]; rfl
      have e1 : wr.cell? ⟨w.heap.size + 1, 1, none⟩ = some (.int .i64 bs.length) := by rw [Lib.cell_of_heap hbk]; rfl
      have e2 : wr.cell? ⟨w.heap.size, 0, none⟩ = some (.slice none 0 0) := by rw [Lib.cell_of_heap kk]; rfl
      have e3 : wr.cell? ⟨w.heap.size, 1, none⟩ = some (.int .i64 0) := by rw [Lib.cell_of_heap kk]; rfl
      have e4 : wr.frozen? ⟨w.heap.size, 0, none⟩ = false := Lib.frozen_of_heap kk 0
      have e5 : wr.frozen? ⟨w.heap.size, 1, none⟩ = false := Lib.frozen_of_heap kk 1
      have HR := Lib.hid (And.intro hown3 (And.intro kk (And.intro hb hk)))
      clear hown3 kk hb hk hbk ha hc
      go_wp2_with fail
      obtain ⟨hown3, kk, hb, hk⟩ := HR
      obtain ⟨k5, v5, b5⟩ := out_end (c := c3) kk hown3 (Nat.le_refl _)
      exact bodyPost_ret (results_row_tmp rfl _ _ w.heap.size 34 #[.slice p3 (pack bs).length c3, .int .i64 bs.length] (0, 0) _ rfl k5 Tryd.underlying34 rfl (by kernel_rfl)) rfl ⟨_, rfl, v5, (hbw.trans hb).trans b5⟩

set_option maxRecDepth 100000 in
set_option maxHeartbeats 1000000 in
theorem cut_any (v : Value) (bs : List Nat) (hbin : Bin bs) (hlen : bs.length ≤ 64000) (a b : Nat) (hab : a ≤ b) (hbl : b ≤ bs.length) (w : World) (h : BitsV w v bs) :
    Calls Tryd.prog 12 #[v, .int .i64 a, .int .i64 b] w fun e w' => ∃ v', e = .returned (.tuple #[v', .int .i64 0]) ∧ BitsV w' v' ((bs.drop a).take (b - a)) ∧ Below w.heap.size w w' := by
  have HC := Lib.hid (fun w1 (hb : Below w.heap.size w w1) => check_any v bs hbin hlen w1 (h.below hb))
  have HB := Lib.hid (fun (i : Nat) (hi : i < bs.length) w1 (hb : Below w.heap.size w w1) => bit_any v bs hbin hlen i hi w1 (h.below hb))
  have HA := Lib.hid (fun (g : Nat) (cs : List Nat) (x : Nat) (hx : x ≤ 1) (hb : Bin cs) (hl : cs.length < 64000) (w1 : World) (ha : BitsAt w.heap.size g cs w1) => add_more w.heap.size g cs x hx hb hl w1 ha)
  obtain ⟨sv, rfl, h⟩ := h
  have hall : ((bs.drop a).take (b - a)).length = b - a := by simp; omega
  have hget : ∀ i, i < b - a → ((bs.drop a).take (b - a)).getD i 0 = bs.getD (a + i) 0 := by
    intro i hi
    simp [List.getD, hi]
  have hbina : Bin ((bs.drop a).take (b - a)) := fun x hx => hbin x (List.mem_of_mem_drop (List.mem_of_mem_take hx))
  generalize (bs.drop a).take (b - a) = all at *
  have HG := Lib.hid hget
  have t1 : decide ((a : Int) < 0) = false := decide_eq_false (by omega)
  have t2 : decide (b < a) = false := decide_eq_false (by omega)
  have t3 : decide (bs.length < b) = false := decide_eq_false (by omega)
  clear h hget
  go_enter Tryd.func12, Tryd.ntmps12
  go_wp2_with fail
  refine (HC.out _ (by go_grown)).mono ?_; rintro e w1 ⟨rfl, b1⟩
  have bw : Below w.heap.size w w1 := (show Below w.heap.size w _ from by go_grown).trans (b1.mono (by simp; omega))
  have hs1 : w.heap.size + 2 ≤ w1.heap.size := by have := b1.size; simpa using this
  have k0 : w1.heap[w.heap.size]? = some (.cells #[sv, .int .i64 bs.length] 34 (0, 0)) := (b1.block _ (by simp; omega)).trans (one_new _ _ _)
  have k1 : w1.heap[w.heap.size + 1]? = some (.cells #[.slice none 0 0, .int .i64 0] 34 (0, 0)) := (b1.block _ (by simp)).trans (two_new _ _ _)
  have c0 : w1.cell? ⟨w.heap.size, 0, none⟩ = some sv := by rw [Lib.cell_of_heap k0]; rfl
  have c1 : w1.cell? ⟨w.heap.size, 1, none⟩ = some (.int .i64 bs.length) := by rw [Lib.cell_of_heap k0]; rfl
  clear b1
  go_wp2_with fail
  obtain ⟨w2, hw2⟩ : ∃ w2, w2 = w1.alloc (.cells #[.slice none 0 0, .int .i64 0] 34 (0, 0)) := ⟨_, rfl⟩
  rw [← hw2]
  have hb2 : Below w1.heap.size w1 w2 := by rw [hw2]; go_grown
  have k2 : w2.heap[w1.heap.size]? = some (.cells #[.slice none 0 0, .int .i64 0] 34 (0, 0)) := by rw [hw2]; exact alloc_at _ _
  have k0' : w2.heap[w.heap.size]? = _ := (hb2.block _ (by omega)).trans k0
  have k1' : w2.heap[w.heap.size + 1]? = _ := (hb2.block _ (by omega)).trans k1
  have hbw : Below w.heap.size w w2 := bw.trans (hb2.mono (by omega))
  have hgl : w.heap.size + 2 ≤ w1.heap.size := hs1
  generalize w1.heap.size = g at *
  clear k0 k1 c0 c1 hw2 hb2 bw hs1
  go_loopw [10] (fun iv wr => ∃ i : Nat, iv = .int .i64 ((a : Int) + (i : Int)) ∧ GrowRel w.heap.size g [] all w2 i wr) (fun iv _ => b - (intOf iv).toNat)
  case atStart => exact ⟨0, by simp, Nat.zero_le _, bitsAt_new (by omega) k2, Below.refl _ _, KeepM.refl _ _⟩
  case round =>
    obtain ⟨i, rfl, hi, ha, hb, hk⟩ := hrel
    have k0r : wr.heap[w.heap.size]? = _ := hk _ _ _ _ k0' (Or.inl (by decide)) (by omega)
    have k1r : wr.heap[w.heap.size + 1]? = _ := hk _ _ _ _ k1' (Or.inl (by decide)) (by omega)
    have c0 : wr.cell? ⟨w.heap.size, 0, none⟩ = some sv := by rw [Lib.cell_of_heap k0r]; rfl
    have c1 : wr.cell? ⟨w.heap.size, 1, none⟩ = some (.int .i64 bs.length) := by rw [Lib.cell_of_heap k0r]; rfl
    by_cases hlt : i < b - a
    · have hlt' : i < all.length := by omega
      have hx1 : all.getD i 0 ≤ 1 := hbina.get i
      have hx := HG.out i hlt
      have HR := Lib.hid (fun w1 => GrowRel.go (B := w.heap.size) (g := g) (pre := []) (all := all) (w := w2) (wr := wr) (w1 := w1) hlt')
      have HI := Lib.hid (And.intro ha (And.intro hb hk))
      have HBi := HB.out (a + i) (by omega) wr (hbw.trans hb)
      rw [← hx] at HBi
      have ea : ((a + i : Nat) : Int) = (a : Int) + (i : Int) := by omega
      rw [ea] at HBi
      have HQ := Lib.hid HBi
      have ti : decide ((a : Int) + (i : Int) < (b : Int)) = true := decide_eq_true (by omega)
      have wi : IntKind.i64.wrap ((a : Int) + (i : Int) + 1) = (a : Int) + (i : Int) + 1 := IntWalk.i64_in _ ⟨by omega, by omega⟩
      generalize all.getD i 0 = x at *
      clear ha hb hk HBi ea hx
      go_wp2_with fail
      refine HQ.out.mono ?_; rintro e w4 ⟨rfl, b4⟩
      go_wp2_with fail
      refine (HA.out _ ([] ++ all.take i) _ hx1 (by simpa using hbina.take i) (by simp; omega) w4 (HI.out.1.below b4)).mono ?_; rintro e w5 ⟨rfl, a5, b5, k5⟩
      go_wp2_with fail
      have hsz := HI.out.2.1.size
      have hsz2 := hbw.size
      go_roundw
      case rel => exact ⟨i + 1, int_eq (by omega), HR.out w5 a5 HI.out.2.1 ((b4.mono (by omega)).trans b5) HI.out.2.2 ((KeepM.of_below b4 (Nat.le_refl _)).trans k5)⟩
      case measure => simp [intOf]; omega
    · obtain rfl : i = b - a := by omega
      rw [List.nil_append, List.take_of_length_le (by omega)] at ha
      obtain ⟨p3, c3, hbk, hown3⟩ := ha.out
      have ti : decide ((a : Int) + ((b - a : Nat) : Int) < (b : Int)) = false := decide_eq_false (by omega)
      have e0 : wr.cell? ⟨g, 0, none⟩ = some (.slice p3 (pack all).length c3) := by rw [Lib.cell_of_heap hbk]; rfl
      have e1 : wr.cell? ⟨g, 1, none⟩ = some (.int .i64 all.length) := by rw [Lib.cell_of_heap hbk]; rfl
      have e2 : wr.cell? ⟨w.heap.size + 1, 0, none⟩ = some (.slice none 0 0) := by rw [Lib.cell_of_heap k1r]; rfl
      have e3 : wr.cell? ⟨w.heap.size + 1, 1, none⟩ = some (.int .i64 0) := by rw [Lib.cell_of_heap k1r]; rfl
      have e4 : wr.frozen? ⟨w.heap.size + 1, 0, none⟩ = false := Lib.frozen_of_heap k1r 0
      have e5 : wr.frozen? ⟨w.heap.size + 1, 1, none⟩ = false := Lib.frozen_of_heap k1r 1
      have HR := Lib.hid (And.intro hown3 (And.intro k1r (And.intro hb hk)))
      have HL := Lib.hid hall
      clear hown3 k1r k0r hb hk hbk ha hall
      go_wp2_with fail
      obtain ⟨hown3, kk, hb, hk⟩ := HR
      obtain ⟨k5, v5, b5⟩ := out_end (c := c3) kk hown3 (by omega)
      exact bodyPost_ret (results_row_tmp rfl _ _ (w.heap.size + 1) 34 #[.slice p3 (pack all).length c3, .int .i64 all.length] (0, 0) _ rfl k5 Tryd.underlying34 rfl (by kernel_rfl)) rfl ⟨_, rfl, v5, (hbw.trans hb).trans b5⟩

theorem Bin.append' {a b : List Nat} (ha : Bin a) (hb : Bin b) : Bin (a ++ b) := fun x hx => (List.mem_append.1 hx).elim (ha x) (hb x)

set_option maxRecDepth 100000 in
set_option maxHeartbeats 2000000 in
theorem align_any (v : Value) (bs : List Nat) (hbin : Bin bs) (hlen : bs.length ≤ 60) (to : Nat) (h1 : 1 ≤ to) (h2 : to ≤ 40) (w : World) (h : BitsV w v bs) :
    Calls Tryd.prog 14 #[v, .int .i64 to] w fun e w' => ∃ v', e = .returned (.tuple #[v', .int .i64 0]) ∧ BitsV w' v' (bs ++ List.replicate ((to - bs.length % to) % to) 0) ∧ Below w.heap.size w w' := by
  have HC := Lib.hid (fun w1 (hb : Below w.heap.size w w1) => check_any v bs hbin (by omega) w1 (h.below hb))
  have HY := Lib.hid (fun w1 (hb : Below w.heap.size w w1) => copied_any v bs (by omega) w1 (h.below hb))
  have HA := Lib.hid (fun (g : Nat) (cs : List Nat) (x : Nat) (hx : x ≤ 1) (hb : Bin cs) (hl : cs.length < 64000) (w1 : World) (ha : BitsAt w.heap.size g cs w1) => add_more w.heap.size g cs x hx hb hl w1 ha)
  obtain ⟨sv, rfl, h⟩ := h
  obtain ⟨n, hn⟩ : ∃ n, n = (to - bs.length % to) % to := ⟨_, rfl⟩
  have hm : bs.length % to < to := Nat.mod_lt _ (by omega)
  have hnl : n < to := by rw [hn]; exact Nat.mod_lt _ (by omega)
  have m1 : Int.tmod (bs.length : Int) (to : Int) = ((bs.length % to : Nat) : Int) := by rw [Int.tmod_eq_emod_of_nonneg (by omega)]; rfl
  have e2 : (to : Int) - ((bs.length % to : Nat) : Int) = ((to - bs.length % to : Nat) : Int) := by omega
  have m2 : Int.tmod ((to : Int) - ((bs.length % to : Nat) : Int)) (to : Int) = (n : Int) := by rw [e2, Int.tmod_eq_emod_of_nonneg (by omega), hn]; rfl
  have m3 : Int.tmod ((to - bs.length % to : Nat) : Int) (to : Int) = (n : Int) := by rw [← e2]; exact m2
  have z0 : ((to : Int) == 0) = false := beq_eq_false_iff_ne.2 (by omega)
  have s1 : IntKind.i64.wrap ((to : Int) - ((bs.length % to : Nat) : Int)) = (to : Int) - ((bs.length % to : Nat) : Int) := IntWalk.i64_in _ ⟨by omega, by omega⟩
  have t1 : decide ((to : Int) < 1) = false := decide_eq_false (by omega)
  have t2 : decide (64000 < (to : Int)) = false := decide_eq_false (by omega)
  have t4 : decide (64000 < (bs.length : Int) + (n : Int)) = false := decide_eq_false (by omega)
  rw [← hn]
  clear h e2 hn
  generalize bs.length % to = r at *
  have hal : (List.replicate n 0).length = n := by simp
  have hba : Bin (List.replicate n 0) := fun x hx => by rw [List.eq_of_mem_replicate hx]; exact Nat.zero_le _
  have hga : ∀ i, (List.replicate n 0).getD i 0 = 0 := fun i => by
    simp only [List.getD, List.getElem?_replicate]; split <;> rfl
  obtain ⟨all, hall⟩ : ∃ all, all = List.replicate n 0 := ⟨_, rfl⟩
  rw [← hall] at hal hba hga ⊢
  obtain ⟨out, hout⟩ : ∃ out, out = bs ++ all := ⟨_, rfl⟩
  rw [← hout]
  have HO := Lib.hid hout
  have HGA := Lib.hid hga
  clear hall hout hga
  go_enter Tryd.func14, Tryd.ntmps14
  go_wp2_with fail
  refine (HC.out _ (by go_grown)).mono ?_; rintro e w1 ⟨rfl, b1⟩
  have bw : Below w.heap.size w w1 := (show Below w.heap.size w _ from by go_grown).trans (b1.mono (by simp; omega))
  have hs1 : w.heap.size + 2 ≤ w1.heap.size := by have := b1.size; simpa using this
  have k0 : w1.heap[w.heap.size]? = some (.cells #[sv, .int .i64 bs.length] 34 (0, 0)) := (b1.block _ (by simp; omega)).trans (one_new _ _ _)
  have k1 : w1.heap[w.heap.size + 1]? = some (.cells #[.slice none 0 0, .int .i64 0] 34 (0, 0)) := (b1.block _ (by simp)).trans (two_new _ _ _)
  have c0 : w1.cell? ⟨w.heap.size, 0, none⟩ = some sv := by rw [Lib.cell_of_heap k0]; rfl
  have c1 : w1.cell? ⟨w.heap.size, 1, none⟩ = some (.int .i64 bs.length) := by rw [Lib.cell_of_heap k0]; rfl
  have HK := Lib.hid (And.intro k0 (And.intro k1 (And.intro bw hs1)))
  clear k0 k1 b1 bw hs1
  go_wp2_with fail
  refine (HY.out w1 HK.out.2.2.1).mono ?_; rintro e w2 ⟨p2, cap2, rfl, hown2, b2⟩
  have d0 : w2.cell? ⟨w.heap.size, 0, none⟩ = some sv := by rw [b2.cell (by have := HK.out.2.2.2; show w.heap.size < _; omega)]; exact c0
  have d1 : w2.cell? ⟨w.heap.size, 1, none⟩ = some (.int .i64 bs.length) := by rw [b2.cell (by have := HK.out.2.2.2; show w.heap.size < _; omega)]; exact c1
  have d2 : (w2.alloc (.cells #[.slice p2 (pack bs).length cap2, .int .i64 bs.length] 34 (0, 0))).cell? ⟨w.heap.size, 1, none⟩ = some (.int .i64 bs.length) := Lib.cell?_alloc_some _ d1
  clear c0 c1
  go_wp2_with fail
  obtain ⟨w3, hw3⟩ : ∃ w3, w3 = w2.alloc (.cells #[.slice p2 (pack bs).length cap2, .int .i64 bs.length] 34 (0, 0)) := ⟨_, rfl⟩
  rw [← hw3]
  have hb3 : Below w2.heap.size w2 w3 := by rw [hw3]; go_grown
  have k3 : w3.heap[w2.heap.size]? = some (.cells #[.slice p2 (pack bs).length cap2, .int .i64 bs.length] 34 (0, 0)) := by rw [hw3]; exact alloc_at _ _
  have hz2 : w.heap.size + 2 ≤ w2.heap.size := by have := b2.size; have := HK.out.2.2.2; omega
  have hat : BitsAt w.heap.size w2.heap.size bs w3 := by
    refine ⟨by omega, _, k3, ?_⟩
    rw [hw3]
    exact row_lower (hown2.alloc _) (by have := HK.out.2.2.2; omega)
  have k1' : w3.heap[w.heap.size + 1]? = some (.cells #[.slice none 0 0, .int .i64 0] 34 (0, 0)) := (hb3.block _ (by omega)).trans ((b2.block _ (by have := HK.out.2.2.2; omega)).trans HK.out.2.1)
  have hbw : Below w.heap.size w w3 := (HK.out.2.2.1.trans (b2.mono (by have := HK.out.2.2.2; omega))).trans (hb3.mono (by omega))
  generalize w2.heap.size = g at *
  clear hb3 k3 hw3 hown2 b2 d0 d1 d2
  go_loopw [39] (fun iv wr => ∃ i : Nat, iv = .int .i64 i ∧ GrowRel w.heap.size g bs all w3 i wr) (fun iv _ => n - (intOf iv).toNat)
  case atStart => exact ⟨0, rfl, Nat.zero_le _, by rw [List.take_zero, List.append_nil]; exact hat, Below.refl _ _, KeepM.refl _ _⟩
  case round =>
    obtain ⟨i, rfl, hi, ha, hb, hk⟩ := hrel
    by_cases hlt : i < n
    · have HR := Lib.hid (fun w1 => GrowRel.go (B := w.heap.size) (g := g) (pre := bs) (all := all) (w := w3) (wr := wr) (w1 := w1) (show i < all.length by omega))
      rw [HGA.out i] at HR
      have HI := Lib.hid (And.intro ha (And.intro hb hk))
      have ti : decide ((i : Int) < (n : Int)) = true := decide_eq_true (by omega)
      clear ha hb hk
      go_wp2_with fail
      refine (HA.out _ (bs ++ all.take i) 0 (by omega) (hbin.append' (hba.take i)) (by simp; omega) wr HI.out.1).mono ?_; rintro e w5 ⟨rfl, a5, b5, k5⟩
      go_wp2_with fail
      exact ⟨⟨i + 1, rfl, HR.out w5 a5 HI.out.2.1 b5 HI.out.2.2 k5⟩, by simp [intOf]; omega⟩
    · obtain rfl : i = n := by omega
      rw [List.take_of_length_le (by omega), ← HO.out] at ha
      obtain ⟨p3, c3, hbk, hown3⟩ := ha.out
      have k1r : wr.heap[w.heap.size + 1]? = _ := hk _ _ _ _ k1' (Or.inl (by decide)) (by omega)
      have e0 : wr.cell? ⟨g, 0, none⟩ = some (.slice p3 (pack out).length c3) := by rw [Lib.cell_of_heap hbk]; rfl
      have e1 : wr.cell? ⟨g, 1, none⟩ = some (.int .i64 out.length) := by rw [Lib.cell_of_heap hbk]; rfl
      have e2 : wr.cell? ⟨w.heap.size + 1, 0, none⟩ = some (.slice none 0 0) := by rw [Lib.cell_of_heap k1r]; rfl
      have e3 : wr.cell? ⟨w.heap.size + 1, 1, none⟩ = some (.int .i64 0) := by rw [Lib.cell_of_heap k1r]; rfl
      have e4 : wr.frozen? ⟨w.heap.size + 1, 0, none⟩ = false := Lib.frozen_of_heap k1r 0
      have e5 : wr.frozen? ⟨w.heap.size + 1, 1, none⟩ = false := Lib.frozen_of_heap k1r 1
      have HR := Lib.hid (And.intro hown3 (And.intro k1r (And.intro hb hk)))
      clear hown3 k1r hb hk hbk ha hat
      go_wp2_with fail
      obtain ⟨hown3, kk, hb, hk⟩ := HR
      obtain ⟨k5, v5, b5⟩ := out_end (c := c3) kk hown3 (by omega)
      exact bodyPost_ret (results_row_tmp rfl _ _ (w.heap.size + 1) 34 #[.slice p3 (pack out).length c3, .int .i64 out.length] (0, 0) _ rfl k5 Tryd.underlying34 rfl (by kernel_rfl)) rfl ⟨_, rfl, v5, (hbw.trans hb).trans b5⟩

end Go.Proofs.YtpoolbachhelgaaDoor
