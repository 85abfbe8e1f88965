/- The contracts of decimal.right and decimal.Text at numbers of at most 2^53 and bases from 2 to 36; the fact of the base 16. -/
import Derived.Test.YtpoolbachhelgaaDoorDig
namespace Go.Proofs.YtpoolbachhelgaaDoor
open Go.RowKit

theorem right_any (z : Int) (h0 : -9007199254740992 ≤ z) (h1 : z ≤ 9007199254740992) (w : World) :
    Calls Tryd.prog 55 #[.int .i64 z] w fun e w' => e = .returned (.bool true) ∧ w = w' := by
  go_enter Tryd.func55, Tryd.ntmps55
  go_wp2
  go_ret
  exact ⟨rfl, rfl⟩

/-- The numeral of a number, in letters. -/
def numL (b : Nat) (z : Int) : List Nat := if z < 0 then 45 :: digs b (-z).toNat else digs b z.toNat

set_option maxRecDepth 100000 in
set_option maxHeartbeats 1000000 in
theorem text_any (z : Int) (b : Nat) (hb : 2 ≤ b) (hb' : b ≤ 36) (h0 : -9007199254740992 ≤ z) (h1 : z ≤ 9007199254740992) (w : World) :
    Calls Tryd.prog 32 #[.int .i64 z, .int .i64 b] w fun e w' => e = .returned (.tuple #[.string (strN (numL b z)), .int .i64 0]) ∧ Below w.heap.size w w' := by
  by_cases hz : z < 0
  · obtain ⟨n, rfl⟩ : ∃ n : Nat, z = -(n : Int) := ⟨(-z).toNat, by omega⟩
    have hn : n < 9223372036854775808 := by omega
    have hf := Lib.hid (show numL b (-(n : Int)) = 45 :: digs b n from by unfold numL; rw [if_pos hz]; congr 2; omega)
    have hsz : (strN (digs b n)).size ≤ 63 := by rw [strN_size]; exact digs_len b n hb hn
    go_enter Tryd.func32, Tryd.ntmps32
    go_wp2_with (first | (go_at_call 55; refine (right_any _ (by omega) (by omega) _).mono ?_; rintro e w' ⟨rfl, rfl⟩) | (go_at_call 56; refine (digits_any n b hb hb' hn _).mono ?_; rintro e w' ⟨rfl, hbel⟩))
    go_ret2
    exact ⟨by rw [hf.out, strN_cons 45]; rfl, hbel⟩
  · obtain ⟨n, rfl⟩ : ∃ n : Nat, z = (n : Int) := ⟨z.toNat, by omega⟩
    have hn : n < 9223372036854775808 := by omega
    have hf := Lib.hid (show numL b (n : Int) = digs b n from by unfold numL; rw [if_neg hz]; rfl)
    have hsz : (strN (digs b n)).size ≤ 63 := by rw [strN_size]; exact digs_len b n hb hn
    go_enter Tryd.func32, Tryd.ntmps32
    go_wp2_with (first | (go_at_call 55; refine (right_any _ (by omega) (by omega) _).mono ?_; rintro e w' ⟨rfl, rfl⟩) | (go_at_call 56; refine (digits_any n b hb hb' hn _).mono ?_; rintro e w' ⟨rfl, hbel⟩))
    go_ret2
    exact ⟨by rw [hf.out]; rfl, hbel⟩

theorem text_ff (w : World) : Calls Tryd.prog 32 #[.int .i64 255, .int .i64 16] w fun e w' => e = .returned (.tuple #[.string ⟨#[102, 102]⟩, .int .i64 0]) ∧ Below w.heap.size w w' := by
  have h := text_any 255 16 (by omega) (by omega) (by omega) (by omega) w
  rw [show strN (numL 16 255) = ⟨#[102, 102]⟩ from by decide +kernel] at h
  exact h

set_option maxHeartbeats 400000 in
theorem numbered_any (w : World) : Calls Tryd.prog 31 #[] w fun e w' => e = .returned (.bool true) ∧ Below w.heap.size w w' := by
  go_enter Tryd.func31, Tryd.ntmps31
  go_wp2_with (go_at_call 32; refine (text_ff _).mono ?_; rintro e w' ⟨rfl, hbel⟩)
  go_ret
  exact ⟨rfl, hbel⟩

end Go.Proofs.YtpoolbachhelgaaDoor
