/- The contracts of float.Parts, and of float.Make at parts that are held exactly; the fact of the bits of 1. -/
import Derived.Test.YtpoolbachhelgaaFloatNext
import Derived.Test.YtpoolbachhelgaaShelf
import Derived.Lib.ItoaNum
namespace Go.Proofs.Ytpoolbachhelgaa
open Go.RowKit

theorem or_bit52 (f : Int) (h0 : 0 ≤ f) (h1 : f < 4503599627370496) : Go.bits .or .i64 f 4503599627370496 = f + 4503599627370496 := by
  have hc : Go.bits .or .i64 f 4503599627370496 = Go.bits .or .i64 4503599627370496 f := by simp only [Go.bits, BitVec.or_comm]
  rw [hc, i64_join 4503599627370496 f 52 (by omega) (by omega) (by omega) (by decide) h0 (by omega)]
  omega

set_option maxHeartbeats 1000000 in
theorem parts_not (b : Int) (h : fE b = 2047) (w : World) :
    Calls Try.prog 13 #[.int .i64 b] w fun e w' => e = .returned (.tuple #[.bool false, .int .i64 0, .int .i64 0, .int .i64 11]) ∧ w = w' := by
  have hs := Lib.hid (split_any b w)
  have b1 : (fE b == 2047) = true := beq_iff_eq.2 h
  clear h
  go_enter Try.func13, Try.ntmps13
  go_wp2_with (go_at_call 41; refine hs.out.mono ?_; rintro e w' ⟨rfl, rfl⟩)
  exact bodyPost_ret (v := .tuple #[.bool false, .int .i64 0, .int .i64 0, .int .i64 11]) (by simp [results, Try.results13, go_sem]) rfl ⟨rfl, rfl⟩

set_option maxHeartbeats 1000000 in
theorem parts_small (b : Int) (h : fE b = 0) (w : World) :
    Calls Try.prog 13 #[.int .i64 b] w fun e w' => e = .returned (.tuple #[.bool (decide (b < 0)), .int .i64 (fF b), .int .i64 (-1074), .int .i64 0]) ∧ w = w' := by
  have hs := Lib.hid (split_any b w)
  have b1 : (fE b == 2047) = false := beq_eq_false_iff_ne.2 (by omega)
  have b2 : (fE b == 0) = true := beq_iff_eq.2 h
  clear h
  go_enter Try.func13, Try.ntmps13
  go_wp2_with (go_at_call 41; refine hs.out.mono ?_; rintro e w' ⟨rfl, rfl⟩)
  exact bodyPost_ret (v := .tuple #[.bool (decide (b < 0)), .int .i64 (fF b), .int .i64 (-1074), .int .i64 0]) (by simp [results, Try.results13, go_sem]) rfl ⟨rfl, rfl⟩

set_option maxHeartbeats 1000000 in
theorem parts_usual (b : Int) (h0 : 0 < fE b) (h1 : fE b < 2047) (w : World) :
    Calls Try.prog 13 #[.int .i64 b] w fun e w' => e = .returned (.tuple #[.bool (decide (b < 0)), .int .i64 (fF b + 4503599627370496), .int .i64 (fE b - 1075), .int .i64 0]) ∧ w = w' := by
  have hs := Lib.hid (split_any b w)
  have b1 : (fE b == 2047) = false := beq_eq_false_iff_ne.2 (by omega)
  have b2 : (fE b == 0) = false := beq_eq_false_iff_ne.2 (by omega)
  have hf := fF_bd b
  have ho := or_bit52 (fF b) hf.1 (by omega)
  clear hf
  go_enter Try.func13, Try.ntmps13
  go_wp2_with (go_at_call 41; refine hs.out.mono ?_; rintro e w' ⟨rfl, rfl⟩)
  refine bodyPost_ret (v := .tuple #[.bool (decide (b < 0)), .int .i64 (fF b + 4503599627370496), .int .i64 (fE b - 1075), .int .i64 0]) (by simp [results, Try.results13, go_sem]; try omega) rfl ⟨rfl, rfl⟩

/-- How long a mantissa with zeros behind it is. -/
theorem bitLen_of (x L : Nat) (h0 : x < 2 ^ 64) (h1 : 2 ^ L ≤ x) (h2 : x < 2 ^ (L + 1)) : Lib.bitLen x = L + 1 := by
  have hx : x ≠ 0 := by have := Nat.two_pow_pos L; omega
  obtain ⟨g1, g2, g3⟩ := Lib.bitLenAux_bounds 64 x h0 hx
  have e1 : Lib.bitLenAux 64 x - 1 < L + 1 := by
    rcases Nat.lt_or_ge (Lib.bitLenAux 64 x - 1) (L + 1) with h | h
    · exact h
    · have := Nat.pow_le_pow_right (show 0 < 2 by decide) h; omega
  have e2 : L < Lib.bitLenAux 64 x := by
    rcases Nat.lt_or_ge L (Lib.bitLenAux 64 x) with h | h
    · exact h
    · have := Nat.pow_le_pow_right (show 0 < 2 by decide) h; omega
  unfold Lib.bitLen
  omega
theorem bitLen_le (x L : Nat) (h0 : x < 2 ^ 64) (h2 : x < 2 ^ L) : Lib.bitLen x ≤ L := by
  rcases Nat.eq_zero_or_pos x with rfl | hx
  · unfold Lib.bitLen; rw [Lib.bitLenAux_zero]; omega
  · obtain ⟨g1, g2, g3⟩ := Lib.bitLenAux_bounds 64 x h0 (by omega)
    unfold Lib.bitLen
    rcases Nat.lt_or_ge (Lib.bitLenAux 64 x - 1) L with h | h
    · omega
    · have := Nat.pow_le_pow_right (show 0 < 2 by decide) h; omega

theorem len_usual (m : Int) (k : Nat) (h0 : 4503599627370496 ≤ m) (h1 : m < 9007199254740992) (hk : k ≤ 9) (w : World) :
    Calls Try.prog 42 #[.int .u64 (m * 2 ^ k)] w fun e w' => e = .returned (.int .i64 (53 + k : Nat)) ∧ w' = w := by
  obtain ⟨n, rfl⟩ := Int.eq_ofNat_of_zero_le (show 0 ≤ m by omega)
  have e : (n : Int) * 2 ^ k = ((n * 2 ^ k : Nat) : Int) := by simp
  have hk2 : (2 : Nat) ^ k ≤ 2 ^ 9 := Nat.pow_le_pow_right (by decide) hk
  have hb : n * 2 ^ k < 2 ^ 64 := by
    calc n * 2 ^ k ≤ n * 2 ^ 9 := Nat.mul_le_mul_left _ hk2
      _ < 2 ^ 64 := by omega
  have hp := Nat.two_pow_pos k
  have h := Try.bits_Len64 ((n : Int) * 2 ^ k) w (by rw [e]; omega) (by rw [e]; omega)
  rw [e, Int.toNat_natCast] at h
  rw [bitLen_of (n * 2 ^ k) (52 + k) hb (by rw [Nat.pow_add]; exact Nat.mul_le_mul_right _ (by omega)) (by rw [show 52 + k + 1 = 53 + k from by omega, Nat.pow_add]; exact Nat.mul_lt_mul_of_pos_right (by omega) hp)] at h
  rw [e, show 53 + k = 52 + k + 1 from by omega]
  exact h
theorem len_small (m : Int) (k : Nat) (h0 : 0 ≤ m) (h1 : m < 4503599627370496) (hk : k ≤ 9) (w : World) :
    ∃ n : Nat, n ≤ 52 + k ∧ Calls Try.prog 42 #[.int .u64 (m * 2 ^ k)] w fun e w' => e = .returned (.int .i64 n) ∧ w' = w := by
  obtain ⟨n, rfl⟩ := Int.eq_ofNat_of_zero_le h0
  have e : (n : Int) * 2 ^ k = ((n * 2 ^ k : Nat) : Int) := by simp
  have hk2 : (2 : Nat) ^ k ≤ 2 ^ 9 := Nat.pow_le_pow_right (by decide) hk
  have hb : n * 2 ^ k < 2 ^ 64 := by
    calc n * 2 ^ k ≤ n * 2 ^ 9 := Nat.mul_le_mul_left _ hk2
      _ < 2 ^ 64 := by omega
  have hp := Nat.two_pow_pos k
  have h := Try.bits_Len64 ((n : Int) * 2 ^ k) w (by rw [e]; omega) (by rw [e]; omega)
  rw [e, Int.toNat_natCast] at h
  refine ⟨Lib.bitLen (n * 2 ^ k), ?_, ?_⟩
  rotate_left
  · rw [e]; exact h
  · exact bitLen_le _ _ hb (by rw [Nat.pow_add]; exact Nat.mul_lt_mul_of_pos_right (by omega) hp)

end Go.Proofs.Ytpoolbachhelgaa
