/- The contract of bits.Text. -/
import Derived.Test.YtpoolbachhelgaaDoorBitsDig
import Derived.Test.YtpoolbachhelgaaDoorBuildK
namespace Go.Proofs.YtpoolbachhelgaaDoor
open Go.RowKit

def TextRelB (bs : List Nat) (w : World) (iv : Value) (wr : World) : Prop :=
  ∃ k : Nat, k ≤ bs.length ∧ iv = .int .i64 k ∧ Bd w.heap.size w.heap.size (digitsOf (bs.take k)) wr ∧ Below w.heap.size w wr
theorem digits_take (bs : List Nat) (k : Nat) (h : k < bs.length) : digitsOf (bs.take (k + 1)) = digitsOf (bs.take k) ++ [UInt8.ofNat (48 + bs.getD k 0)] := by
  rw [List.take_succ_eq_append_getElem h]
  simp only [digitsOf, List.map_append, List.map_cons, List.map_nil, List.getD, List.getElem?_eq_getElem h, Option.getD_some]
theorem TextRelB.go {bs : List Nat} {w wr w1 w2 : World} {k : Nat} (h : k < bs.length) (b : Bd w.heap.size w.heap.size (digitsOf (bs.take k) ++ [UInt8.ofNat (48 + (bs.getD k 0 : Int)).toNat]) w2) (h1 : Below w.heap.size w wr) (h2 : Below wr.heap.size wr w1) (h3 : Below w.heap.size w1 w2) : TextRelB bs w (.int .i64 ((k : Int) + 1)) w2 :=
  ⟨k + 1, h, rfl, by rw [digits_take bs k h]; rw [show (48 + (bs.getD k 0 : Int)).toNat = 48 + bs.getD k 0 from by omega] at b; exact b, (h1.trans (h2.mono h1.size)).trans h3⟩
theorem builderAt_below {B b : Nat} {p : Value} {l : List Value} {w w' : World} (h : Lib.BuilderAt 26 5 B b p l w) (hb : Below w.heap.size w w') : Lib.BuilderAt 26 5 B b p l w' := by
  obtain ⟨hB, v, hh, hown, hne⟩ := h
  exact ⟨hB, v, by rw [hb.block b (lt_of_block hh)]; exact hh, row_below hown hb, hne⟩
theorem Bd.below {B b : Nat} {l : List UInt8} {w w' : World} (h : Bd B b l w) (hb : Below w.heap.size w w') : Bd B b l w' := by
  obtain ⟨h1, h2⟩ := h
  refine ⟨Nat.le_trans h1 hb.size, ?_⟩
  rcases h2 with h2 | h2
  · exact Or.inl (builderAt_below h2 hb)
  · exact Or.inr (builderAt_below h2 hb)

set_option maxRecDepth 100000 in
set_option maxHeartbeats 1000000 in
theorem text_any (v : Value) (bs : List Nat) (hbin : Bin bs) (hlen : bs.length ≤ 64000) (w : World) (h : BitsV w v bs) :
    Calls Tryd.prog 15 #[v] w fun e w' => e = .returned (.tuple #[.string ⟨(digitsOf bs).toArray⟩, .int .i64 0]) ∧ Below w.heap.size w w' := by
  have HC := Lib.hid (fun w1 (hb : Below w.heap.size w w1) => check_any v bs hbin (by omega) w1 (h.below hb))
  have HB := Lib.hid (fun (i : Nat) (hi : i < bs.length) w1 (hb : Below w.heap.size w w1) => bit_any v bs hbin hlen i hi w1 (h.below hb))
  obtain ⟨sv, rfl, h⟩ := h
  clear h
  go_enter Tryd.func15, Tryd.ntmps15
  go_wp2_with fail
  refine (HC.out _ (by go_grown)).mono ?_; rintro e w1 ⟨rfl, b1⟩
  have bw : Below w.heap.size w w1 := (show Below w.heap.size w _ from by go_grown).trans (b1.mono (by simp))
  have hs1 : w.heap.size + 1 ≤ w1.heap.size := by have := b1.size; simpa using this
  have k0 : w1.heap[w.heap.size]? = some (.cells #[sv, .int .i64 bs.length] 34 (0, 0)) := (b1.block _ (by simp)).trans (alloc_at _ _)
  have c0 : w1.cell? ⟨w.heap.size, 0, none⟩ = some sv := by rw [Lib.cell_of_heap k0]; rfl
  have c1 : w1.cell? ⟨w.heap.size, 1, none⟩ = some (.int .i64 bs.length) := by rw [Lib.cell_of_heap k0]; rfl
  have c1a : (w1.alloc (.cells #[.pointer none, .slice none 0 0] 26 (0, 0))).cell? ⟨w.heap.size, 1, none⟩ = some (.int .i64 bs.length) := Lib.cell?_alloc_some _ c1
  have HS := Lib.hid (fun b (wr : World) (hb : Bd w1.heap.size w1.heap.size b wr) => string_any _ _ b wr hb)
  have HW := Lib.hid (fun (b : List UInt8) (c : Int) (h0 : 0 ≤ c) (h1 : c < 256) (wr : World) (hb : Bd w1.heap.size w1.heap.size b wr) (hl : b.length + 1 ≤ 140737488355328) => writeByte_any _ _ b c h0 h1 wr hb hl)
  have HK := Lib.hid (And.intro bw hs1)
  have HQ := Lib.hid hbin
  clear k0 b1 bw hs1 hbin
  go_wp2_with fail
  go_loopw [14] (fun iv wr => TextRelB bs w1 iv wr) (fun iv _ => bs.length - (intOf iv).toNat)
  case atStart => exact ⟨0, by omega, rfl, Bd.new w1, by go_grown⟩
  case round =>
    obtain ⟨k, hk, rfl, hbd, hb⟩ := hrel
    have l0 : w.heap.size < w1.heap.size := HK.out.2
    have d0 : wr.cell? ⟨w.heap.size, 0, none⟩ = some sv := by rw [hb.cell l0]; exact c0
    have d1 : wr.cell? ⟨w.heap.size, 1, none⟩ = some (.int .i64 bs.length) := by rw [hb.cell l0]; exact c1
    have HBD := Lib.hid hbd
    have hbw : Below w.heap.size w wr := HK.out.1.trans (hb.mono (by omega))
    clear hbd
    by_cases hlt : k < bs.length
    · have hx := HQ.out.get k
      have HB1 := HB.out k hlt wr hbw
      have HG := Lib.hid (fun w1' w2' => TextRelB.go (w := w1) (wr := wr) (w1 := w1') (w2 := w2') hlt)
      have hln : (digitsOf (bs.take k)).length ≤ 64000 := by simp [digitsOf]; omega
      generalize bs.getD k 0 = x at *
      have hwx : IntKind.i64.wrap (48 + (x : Int)) = 48 + (x : Int) := IntWalk.i64_in _ ⟨by omega, by omega⟩
      have hwy : IntKind.u8.wrap (48 + (x : Int)) = 48 + (x : Int) := by
        rcases (show x = 0 ∨ x = 1 by omega) with rfl | rfl <;> decide
      go_wp2_with fail
      refine HB1.mono ?_; rintro e w3 ⟨rfl, b3⟩
      go_wp2_with fail
      refine (HW.out _ (48 + (x : Int)) (by omega) (by omega) w3 (HBD.out.below b3) (by omega)).mono ?_; rintro e w4 ⟨rfl, a4, b4⟩
      go_wp2_with fail
      exact ⟨HG.out _ _ a4 hb b3 b4, by simp [intOf]; omega⟩
    · obtain rfl : k = bs.length := by omega
      go_wp2_with fail
      rw [List.take_length] at HBD
      refine (HS.out _ wr HBD.out).mono ?_; rintro e w4 ⟨rfl, b4⟩
      go_wp2_with fail
      go_ret2
      exact ⟨rfl, hbw.trans (b4.mono (by omega))⟩

end Go.Proofs.YtpoolbachhelgaaDoor
