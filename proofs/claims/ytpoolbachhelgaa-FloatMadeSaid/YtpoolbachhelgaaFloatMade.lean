/- clapkeep1.FloatMade answers true at all ints. -/
import Derived.Test.YtpoolbachhelgaaFloatSteps
import Derived.Test.YtpoolbachhelgaaBelow
namespace Go.Proofs.Ytpoolbachhelgaa
open Go.RowKit

theorem parts_is (b : Int) (hf : fE b ≠ 2047) (w : World) :
    Calls Try.prog 13 #[.int .i64 b] w fun e w' => e = .returned (.tuple #[.bool (decide (b < 0)), .int .i64 (pM b), .int .i64 (pX b), .int .i64 0]) ∧ w = w' := by
  have hE := fE_bd b
  by_cases hz : fE b = 0
  · have h := parts_small b hz w
    rw [show fF b = pM b from by unfold pM; rw [if_pos hz], show (-1074 : Int) = pX b from by unfold pX; rw [if_pos hz]] at h
    exact h
  · have h := parts_usual b (by omega) (by omega) w
    rw [show fF b + 4503599627370496 = pM b from by unfold pM; rw [if_neg hz], show fE b - 1075 = pX b from by unfold pX; rw [if_neg hz]] at h
    exact h
theorem pM_bd (b : Int) : 0 ≤ pM b ∧ pM b < 9007199254740992 := by
  have := fF_bd b
  unfold pM; split <;> omega
theorem pX_bd (b : Int) : -1074 ≤ pX b ∧ pX b ≤ 972 := by
  have := fE_bd b
  unfold pX; split <;> omega
theorem shl_fits (m : Int) (K : Nat) (hK : K ≤ 9) (h0 : 0 ≤ m) (h1 : m < 9007199254740992) : IntKind.i64.wrap (m * 2 ^ K) = m * 2 ^ K := by
  have h2 : (2 : Int) ^ K ≤ 512 := by
    have h : (2 : Nat) ^ K ≤ 512 := Nat.pow_le_pow_right (n := 2) (by decide) hK
    have h' := Int.ofNat_le.mpr h
    rw [Int.natCast_pow] at h'
    exact h'
  have h3 : (0 : Int) < 2 ^ K := Int.pow_pos (by decide)
  have h4 : m * 2 ^ K ≤ m * 512 := Int.mul_le_mul_of_nonneg_left h2 h0
  have h5 : 0 ≤ m * 2 ^ K := Int.mul_nonneg h0 (by omega)
  rw [IntKind.wrap_i64]
  omega

set_option maxRecDepth 100000 in
set_option maxHeartbeats 1000000 in
theorem floatMade_walk (b k : Int) (h0 : -9223372036854775808 ≤ b) (h1 : b < 9223372036854775808) (w : World) :
    Calls Try.prog 4 #[.int .i64 b, .int .i64 k] w fun e w' => e = .returned (.bool true) ∧ ∃ d, w' = w.drewN d := by
  by_cases hb : fE b = 2047
  · have hk := fK_ge3 b hb
    have hp := Lib.hid (parts_not b hb w)
    clear hb
    go_enter Try.func4, Try.ntmps4
    go_wp2_with fail
    refine hp.out.mono ?_; rintro e w' ⟨rfl, rfl⟩
    go_wp2_with fail
    refine (floats_any _).mono ?_; rintro e w' ⟨rfl, rfl⟩
    go_wp2_with fail
    refine (kind_any _ _).mono ?_; rintro e w' ⟨rfl, rfl⟩
    go_wp2_with fail
    go_ret
    exact ⟨ret_bool (decide_eq_true (by omega)), 0, rfl⟩
  · obtain ⟨K, hK⟩ : ∃ K : Nat, (K : Int) = k % 10 := ⟨(k % 10).toNat, by omega⟩
    have K9 : K ≤ 9 := by omega
    have hB := below_any k 10 (by omega) (by omega) w
    rw [← hK] at hB
    have hP := parts_is b hb w
    have hM0 := fun w => make_parts b 0 (by omega) h0 h1 hb w
    rw [Int.pow_zero, Int.mul_one, show pX b - ((0 : Nat) : Int) = pX b from by simp] at hM0
    have hMK := fun w => make_parts b K K9 h0 h1 hb w
    obtain ⟨m0, m1⟩ := pM_bd b
    obtain ⟨x0, x1⟩ := pX_bd b
    have hS := shl_fits (pM b) K K9 m0 m1
    have C := Lib.hid (And.intro hB (And.intro hP (And.intro hM0 hMK)))
    generalize decide (b < 0) = neg at *
    clear hB hP hM0 hMK hb hK
    go_enter Try.func4, Try.ntmps4
    go_wp2_with fail
    refine C.out.2.1.mono ?_; rintro e w' ⟨rfl, rfl⟩
    go_wp2_with fail
    refine C.out.1.mono ?_; rintro e w' ⟨rfl, rfl⟩
    go_wp2_with fail
    refine (C.out.2.2.1 _).mono ?_; rintro e w' ⟨rfl, d1, rfl⟩
    go_wp2_with fail
    refine (C.out.2.2.2 _).mono ?_; rintro e w' ⟨rfl, d2, rfl⟩
    go_wp2_with fail
    refine (floats_any _).mono ?_; rintro e w' ⟨rfl, rfl⟩
    go_wp2_with fail
    go_ret
    refine ⟨rfl, d1 + d2, ?_⟩
    first | rfl | (rw [World.drewN_drewN])

theorem floatMade_law (b k : Int) (w : World) (h : (Lit.int .i64 b).wf = true) :
    Calls Try.prog 4 #[.int .i64 b, .int .i64 k] w fun e w' => e = .returned (.bool true) ∧ Below w.heap.size w w' := by
  have hb := bounds_i64 h
  refine (floatMade_walk b k hb.1 (by omega) w).mono ?_
  rintro e w' ⟨rfl, d, rfl⟩
  exact ⟨rfl, below_drewN (Below.refl _ _) d⟩

end Go.Proofs.Ytpoolbachhelgaa
