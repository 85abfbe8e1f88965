/- The contracts of bits.Sign and bits.Signed. -/
import Derived.Test.YtpoolbachhelgaaBits
namespace Go.Proofs.Ytpoolbachhelgaa
open Go.RowKit

theorem pow_pair (k : Nat) (h1 : 1 ≤ k) (h2 : k ≤ 63) : ∃ H : Int, (2 : Int) ^ (k - 1) = H ∧ (2 : Int) ^ k = 2 * H ∧ 1 ≤ H ∧ H ≤ 4611686018427387904 := by
  obtain ⟨j, rfl⟩ : ∃ j, k = j + 1 := ⟨k - 1, by omega⟩
  refine ⟨2 ^ j, by simp, by rw [Int.pow_succ, Int.mul_comm], ?_, ?_⟩
  · have := Int.pow_pos (n := 2) (m := j) (by decide); omega
  · have h : (2 : Nat) ^ j ≤ 2 ^ 62 := Nat.pow_le_pow_right (by decide) (by omega)
    have e : ((2 ^ j : Nat) : Int) = (2 : Int) ^ j := by simp
    omega

set_option maxRecDepth 100000 in
set_option maxHeartbeats 1000000 in
theorem sign_any (k : Nat) (h1 : 1 ≤ k) (h2 : k ≤ 63) (n : Int) (hlo : -(2 : Int) ^ (k - 1) ≤ n) (hhi : n < 2 ^ (k - 1)) (w : World) :
    Calls Try.prog 33 #[.int .i64 n, .int .i64 k] w fun e w' => e = .returned (.tuple #[.int .i64 (n % 2 ^ k), .int .i64 0]) ∧ Below w.heap.size w w' := by
  obtain ⟨H, e1, e2, hH1, hH2⟩ := pow_pair k h1 h2
  rw [e1] at hlo hhi
  have hm := i64_mask n k (by omega)
  have a1 : ((k : Int) - 1).toNat = k - 1 := by omega
  have a2 : IntKind.i64.wrap ((k : Int) - 1) = (k : Int) - 1 := IntWalk.i64_in _ ⟨by omega, by omega⟩
  have t1 : decide (n < IntKind.i64.wrap (-1 * H)) = false := by
    rw [IntWalk.i64_in _ ⟨by omega, by omega⟩]; exact decide_eq_false (by omega)
  go_enter Try.func33, Try.ntmps33
  go_wp2_with fail
  go_ret2
  refine ⟨ret2_int ?_, by go_grown⟩
  have e3 : wrap64 (wrap64 (2 * H) - 1) = 2 ^ k - 1 := by
    rw [e2]
    by_cases hH : H = 4611686018427387904
    · subst hH; decide +kernel
    · rw [IntWalk.wrap64_in (2 * H) ⟨by omega, by omega⟩, IntWalk.wrap64_in _ ⟨by omega, by omega⟩]
  rw [e3, hm]

set_option maxRecDepth 100000 in
set_option maxHeartbeats 1000000 in
theorem signed_any (k : Nat) (h1 : 1 ≤ k) (h2 : k ≤ 63) (n : Int) (hlo : -(2 : Int) ^ (k - 1) ≤ n) (hhi : n < 2 ^ (k - 1)) (w : World) :
    Calls Try.prog 36 #[.int .i64 (n % 2 ^ k), .int .i64 k] w fun e w' => e = .returned (.tuple #[.int .i64 n, .int .i64 0]) ∧ Below w.heap.size w w' := by
  obtain ⟨H, e1, e2, hH1, hH2⟩ := pow_pair k h1 h2
  rw [e1] at hlo hhi
  rw [e2]
  have a1 : ((k : Int) - 1).toNat = k - 1 := by omega
  have a2 : IntKind.i64.wrap ((k : Int) - 1) = (k : Int) - 1 := IntWalk.i64_in _ ⟨by omega, by omega⟩
  by_cases hn : 0 ≤ n
  · rw [Int.emod_eq_of_lt hn (by omega)]
    have d0 : n / (2 * H) = 0 := Int.ediv_eq_zero_of_lt hn (by omega)
    have d1 : n / H = 0 := Int.ediv_eq_zero_of_lt hn (by omega)
    have t0 : decide (n < 0) = false := decide_eq_false (by omega)
    go_enter Try.func36, Try.ntmps36
    go_wp2_with fail
    go_ret2
    refine ⟨ret2_int ?_, by go_grown⟩
    rfl
  · have em : n % (2 * H) = n + 2 * H := by rw [← Int.add_emod_right, Int.emod_eq_of_lt (by omega) (by omega)]
    rw [em]
    have d0 : (n + 2 * H) / (2 * H) = 0 := Int.ediv_eq_zero_of_lt (by omega) (by omega)
    have d1 : (n + 2 * H) / H = 1 := by
      rw [show n + 2 * H = (n + H) + 1 * H by omega, Int.add_mul_ediv_right _ _ (by omega), Int.ediv_eq_zero_of_lt (by omega) (by omega)]
      rfl
    have t0 : decide (n + 2 * H < 0) = false := decide_eq_false (by omega)
    go_enter Try.func36, Try.ntmps36
    go_wp2_with fail
    go_ret2
    refine ⟨ret2_int ?_, by go_grown⟩
    omega

end Go.Proofs.Ytpoolbachhelgaa
