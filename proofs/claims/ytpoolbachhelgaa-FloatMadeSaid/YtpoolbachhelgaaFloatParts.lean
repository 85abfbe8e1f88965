/- float.Make makes a finite number of its parts, also with k zeros behind the mantissa; the fact of the bits of 1. -/
import Derived.Test.YtpoolbachhelgaaFloatMk
namespace Go.Proofs.Ytpoolbachhelgaa
open Go.RowKit

def pM (b : Int) : Int := if fE b = 0 then fF b else fF b + 4503599627370496
def pX (b : Int) : Int := if fE b = 0 then -1074 else fE b - 1075

theorem whole_small (b : Int) (h0 : -9223372036854775808 ≤ b) (h1 : b < 9223372036854775808) (h : fE b = 0) : fS (fF b) (decide (b < 0)) = b := by
  unfold fS fF
  unfold fE at h
  by_cases hb : b < 0
  · rw [decide_eq_true hb]; simp; omega
  · rw [decide_eq_false hb]; simp; omega
theorem whole_usual (b : Int) (h0 : -9223372036854775808 ≤ b) (h1 : b < 9223372036854775808) : fS (fE b * 4503599627370496 + fF b) (decide (b < 0)) = b := by
  unfold fS fF fE
  by_cases hb : b < 0
  · rw [decide_eq_true hb]; simp; omega
  · rw [decide_eq_false hb]; simp; omega

theorem make_parts (b : Int) (K : Nat) (hK : K ≤ 9) (h0 : -9223372036854775808 ≤ b) (h1 : b < 9223372036854775808) (hf : fE b ≠ 2047) (w : World) :
    Calls Try.prog 16 #[.bool (decide (b < 0)), .int .i64 (pM b * 2 ^ K), .int .i64 (pX b - K)] w fun e w' => e = .returned (.tuple #[.int .i64 b, .int .i64 0]) ∧ ∃ d, w' = w.drewN d := by
  have hE := fE_bd b
  have hF := fF_bd b
  by_cases hz : fE b = 0
  · have eX : pX b = -1074 := by unfold pX; rw [if_pos hz]
    have eM : pM b = fF b := by unfold pM; rw [if_pos hz]
    have hb := whole_small b h0 h1 hz
    rw [eX, eM]
    generalize decide (b < 0) = neg at *
    by_cases hm : fF b = 0
    · rw [hm] at hb ⊢
      rw [Int.zero_mul]
      have hK' : K = 0 ∨ K = 1 ∨ K = 2 ∨ K = 3 ∨ K = 4 ∨ K = 5 ∨ K = 6 ∨ K = 7 ∨ K = 8 ∨ K = 9 := by omega
      rcases hK' with rfl | rfl | rfl | rfl | rfl | rfl | rfl | rfl | rfl | rfl
      · have h := make_zero_0 neg w
        rw [hb] at h
        exact h
      · have h := make_zero_1 neg w
        rw [hb] at h
        exact h
      · have h := make_zero_2 neg w
        rw [hb] at h
        exact h
      · have h := make_zero_3 neg w
        rw [hb] at h
        exact h
      · have h := make_zero_4 neg w
        rw [hb] at h
        exact h
      · have h := make_zero_5 neg w
        rw [hb] at h
        exact h
      · have h := make_zero_6 neg w
        rw [hb] at h
        exact h
      · have h := make_zero_7 neg w
        rw [hb] at h
        exact h
      · have h := make_zero_8 neg w
        rw [hb] at h
        exact h
      · have h := make_zero_9 neg w
        rw [hb] at h
        exact h
    · have hK' : K = 0 ∨ K = 1 ∨ K = 2 ∨ K = 3 ∨ K = 4 ∨ K = 5 ∨ K = 6 ∨ K = 7 ∨ K = 8 ∨ K = 9 := by omega
      rcases hK' with rfl | rfl | rfl | rfl | rfl | rfl | rfl | rfl | rfl | rfl
      · have h := make_small_0 neg (fF b) (by omega) (by omega) w
        rw [hb] at h
        rw [Int.pow_zero, Int.mul_one]
        exact h
      · have h := make_small_1 neg (fF b) (by omega) (by omega) w
        rw [hb] at h
        rw [show (2 : Int) ^ 1 = 2 from by decide]
        exact h
      · have h := make_small_2 neg (fF b) (by omega) (by omega) w
        rw [hb] at h
        rw [show (2 : Int) ^ 2 = 4 from by decide]
        exact h
      · have h := make_small_3 neg (fF b) (by omega) (by omega) w
        rw [hb] at h
        rw [show (2 : Int) ^ 3 = 8 from by decide]
        exact h
      · have h := make_small_4 neg (fF b) (by omega) (by omega) w
        rw [hb] at h
        rw [show (2 : Int) ^ 4 = 16 from by decide]
        exact h
      · have h := make_small_5 neg (fF b) (by omega) (by omega) w
        rw [hb] at h
        rw [show (2 : Int) ^ 5 = 32 from by decide]
        exact h
      · have h := make_small_6 neg (fF b) (by omega) (by omega) w
        rw [hb] at h
        rw [show (2 : Int) ^ 6 = 64 from by decide]
        exact h
      · have h := make_small_7 neg (fF b) (by omega) (by omega) w
        rw [hb] at h
        rw [show (2 : Int) ^ 7 = 128 from by decide]
        exact h
      · have h := make_small_8 neg (fF b) (by omega) (by omega) w
        rw [hb] at h
        rw [show (2 : Int) ^ 8 = 256 from by decide]
        exact h
      · have h := make_small_9 neg (fF b) (by omega) (by omega) w
        rw [hb] at h
        rw [show (2 : Int) ^ 9 = 512 from by decide]
        exact h
  · have eX : pX b = fE b - 1075 := by unfold pX; rw [if_neg hz]
    have eM : pM b = fF b + 4503599627370496 := by unfold pM; rw [if_neg hz]
    have hb := whole_usual b h0 h1
    rw [eX, eM]
    generalize decide (b < 0) = neg at *
    have hK' : K = 0 ∨ K = 1 ∨ K = 2 ∨ K = 3 ∨ K = 4 ∨ K = 5 ∨ K = 6 ∨ K = 7 ∨ K = 8 ∨ K = 9 := by omega
    rcases hK' with rfl | rfl | rfl | rfl | rfl | rfl | rfl | rfl | rfl | rfl
    · have h := make_usual_0 neg (fF b + 4503599627370496) (fE b - 1075 - (0 : Nat)) (by omega) (by omega) (by omega) (by omega) w
      rw [show (fE b - 1075 - ((0 : Nat) : Int) + 1075) * 4503599627370496 + (fF b + 4503599627370496 - 4503599627370496) = fE b * 4503599627370496 + fF b from by omega, hb] at h
      rw [Int.pow_zero, Int.mul_one]
      exact h
    · have h := make_usual_1 neg (fF b + 4503599627370496) (fE b - 1075 - (1 : Nat)) (by omega) (by omega) (by omega) (by omega) w
      rw [show (fE b - 1075 - ((1 : Nat) : Int) + 1076) * 4503599627370496 + (fF b + 4503599627370496 - 4503599627370496) = fE b * 4503599627370496 + fF b from by omega, hb] at h
      rw [show (2 : Int) ^ 1 = 2 from by decide]
      exact h
    · have h := make_usual_2 neg (fF b + 4503599627370496) (fE b - 1075 - (2 : Nat)) (by omega) (by omega) (by omega) (by omega) w
      rw [show (fE b - 1075 - ((2 : Nat) : Int) + 1077) * 4503599627370496 + (fF b + 4503599627370496 - 4503599627370496) = fE b * 4503599627370496 + fF b from by omega, hb] at h
      rw [show (2 : Int) ^ 2 = 4 from by decide]
      exact h
    · have h := make_usual_3 neg (fF b + 4503599627370496) (fE b - 1075 - (3 : Nat)) (by omega) (by omega) (by omega) (by omega) w
      rw [show (fE b - 1075 - ((3 : Nat) : Int) + 1078) * 4503599627370496 + (fF b + 4503599627370496 - 4503599627370496) = fE b * 4503599627370496 + fF b from by omega, hb] at h
      rw [show (2 : Int) ^ 3 = 8 from by decide]
      exact h
    · have h := make_usual_4 neg (fF b + 4503599627370496) (fE b - 1075 - (4 : Nat)) (by omega) (by omega) (by omega) (by omega) w
      rw [show (fE b - 1075 - ((4 : Nat) : Int) + 1079) * 4503599627370496 + (fF b + 4503599627370496 - 4503599627370496) = fE b * 4503599627370496 + fF b from by omega, hb] at h
      rw [show (2 : Int) ^ 4 = 16 from by decide]
      exact h
    · have h := make_usual_5 neg (fF b + 4503599627370496) (fE b - 1075 - (5 : Nat)) (by omega) (by omega) (by omega) (by omega) w
      rw [show (fE b - 1075 - ((5 : Nat) : Int) + 1080) * 4503599627370496 + (fF b + 4503599627370496 - 4503599627370496) = fE b * 4503599627370496 + fF b from by omega, hb] at h
      rw [show (2 : Int) ^ 5 = 32 from by decide]
      exact h
    · have h := make_usual_6 neg (fF b + 4503599627370496) (fE b - 1075 - (6 : Nat)) (by omega) (by omega) (by omega) (by omega) w
      rw [show (fE b - 1075 - ((6 : Nat) : Int) + 1081) * 4503599627370496 + (fF b + 4503599627370496 - 4503599627370496) = fE b * 4503599627370496 + fF b from by omega, hb] at h
      rw [show (2 : Int) ^ 6 = 64 from by decide]
      exact h
    · have h := make_usual_7 neg (fF b + 4503599627370496) (fE b - 1075 - (7 : Nat)) (by omega) (by omega) (by omega) (by omega) w
      rw [show (fE b - 1075 - ((7 : Nat) : Int) + 1082) * 4503599627370496 + (fF b + 4503599627370496 - 4503599627370496) = fE b * 4503599627370496 + fF b from by omega, hb] at h
      rw [show (2 : Int) ^ 7 = 128 from by decide]
      exact h
    · have h := make_usual_8 neg (fF b + 4503599627370496) (fE b - 1075 - (8 : Nat)) (by omega) (by omega) (by omega) (by omega) w
      rw [show (fE b - 1075 - ((8 : Nat) : Int) + 1083) * 4503599627370496 + (fF b + 4503599627370496 - 4503599627370496) = fE b * 4503599627370496 + fF b from by omega, hb] at h
      rw [show (2 : Int) ^ 8 = 256 from by decide]
      exact h
    · have h := make_usual_9 neg (fF b + 4503599627370496) (fE b - 1075 - (9 : Nat)) (by omega) (by omega) (by omega) (by omega) w
      rw [show (fE b - 1075 - ((9 : Nat) : Int) + 1084) * 4503599627370496 + (fF b + 4503599627370496 - 4503599627370496) = fE b * 4503599627370496 + fF b from by omega, hb] at h
      rw [show (2 : Int) ^ 9 = 512 from by decide]
      exact h

set_option maxRecDepth 100000 in
set_option maxHeartbeats 2000000 in
theorem make_one (w : World) :
    Calls Try.prog 16 #[.bool false, .int .i64 1, .int .i64 0] w fun e w' => e = .returned (.tuple #[.int .i64 4607182418800017408, .int .i64 0]) ∧ w = w' := by
  have hl := Try.bits_Len64 1 w (by omega) (by omega)
  rw [show ((Lib.bitLen (1 : Int).toNat : Nat) : Int) = 1 from by decide +kernel] at hl
  have m1 : min 0 (5000 : Int) = 0 := by omega
  have m2 : max (-5000 : Int) 0 = 0 := by omega
  have m3 : max (-52) (-1074 : Int) = -52 := by omega
  have m5 : Go.bits .or .i64 4607182418800017408 0 = 4607182418800017408 := by decide
  have HL := Lib.hid hl
  clear hl
  go_enter Try.func16, Try.ntmps16
  go_wp2_with (first | (go_at_call 42; refine HL.out.mono ?_; rintro e w' ⟨rfl, rfl⟩) | (go_at_call 43; refine (sign_any _ false (by omega) (by omega) _).mono ?_; rintro e w' ⟨rfl, rfl⟩))
  go_ret2
  exact ⟨rfl, rfl⟩

set_option maxHeartbeats 400000 in
theorem floats_any (w : World) : Calls Try.prog 14 #[] w fun e w' => e = .returned (.bool true) ∧ w = w' := by
  go_enter Try.func14, Try.ntmps14
  go_wp2_with (go_at_call 16; refine (make_one _).mono ?_; rintro e w' ⟨rfl, rfl⟩)
  go_ret
  exact ⟨rfl, rfl⟩

end Go.Proofs.Ytpoolbachhelgaa
