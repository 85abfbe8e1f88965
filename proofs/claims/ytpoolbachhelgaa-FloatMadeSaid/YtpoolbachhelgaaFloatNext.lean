/- The contracts of float.Cmp and float.Next: every case of the sign, the kind and the direction. -/
import Derived.Test.YtpoolbachhelgaaFloat
namespace Go.Proofs.Ytpoolbachhelgaa
open Go.RowKit

def fC (a b : Int) : Int := if fO a < fO b then -1 else if fO b < fO a then 1 else 0
set_option maxHeartbeats 1000000 in
theorem cmp_any (a b : Int) (w : World) :
    Calls Try.prog 18 #[.int .i64 a, .int .i64 b] w fun e w' => e = .returned (.int .i64 (fC a b)) ∧ w = w' := by
  have ha := Lib.hid (order_any a w)
  have hb := Lib.hid (order_any b w)
  by_cases c1 : fO a < fO b
  · have hr := Lib.hid (show fC a b = -1 from by unfold fC; rw [if_pos c1])
    go_enter Try.func18, Try.ntmps18
    go_wp2_with fail
    refine ha.out.mono ?_; rintro e w' ⟨rfl, rfl⟩
    go_wp2_with fail
    refine hb.out.mono ?_; rintro e w' ⟨rfl, rfl⟩
    go_wp2_with fail
    go_ret
    exact ⟨ret_int hr.out.symm, rfl⟩
  · by_cases c2 : fO b < fO a
    · have hr := Lib.hid (show fC a b = 1 from by unfold fC; rw [if_neg c1, if_pos c2])
      go_enter Try.func18, Try.ntmps18
      go_wp2_with fail
      refine ha.out.mono ?_; rintro e w' ⟨rfl, rfl⟩
      go_wp2_with fail
      refine hb.out.mono ?_; rintro e w' ⟨rfl, rfl⟩
      go_wp2_with fail
      go_ret
      exact ⟨ret_int hr.out.symm, rfl⟩
    · have hr := Lib.hid (show fC a b = 0 from by unfold fC; rw [if_neg c1, if_neg c2])
      go_enter Try.func18, Try.ntmps18
      go_wp2_with fail
      refine ha.out.mono ?_; rintro e w' ⟨rfl, rfl⟩
      go_wp2_with fail
      refine hb.out.mono ?_; rintro e w' ⟨rfl, rfl⟩
      go_wp2_with fail
      go_ret
      exact ⟨ret_int hr.out.symm, rfl⟩

theorem kind_min : fK (-9223372036854775808) < 3 := by decide +kernel
theorem kind_zero : fK 0 < 3 := by decide +kernel

set_option maxHeartbeats 1000000 in
theorem next_not_true (b : Int) (hk : 3 ≤ fK b) (w : World) :
    Calls Try.prog 17 #[.int .i64 b, .bool true] w fun e w' => e = .returned (.tuple #[.int .i64 0, .int .i64 11]) ∧ w = w' := by
  go_enter Try.func17, Try.ntmps17
  go_wp2_with (first | (go_at_call 15; refine (kind_any _ _).mono ?_; rintro e w' ⟨rfl, rfl⟩) | (go_at_call 43; refine (sign_any 1 true (by omega) (by omega) _).mono ?_; rintro e w' ⟨rfl, rfl⟩))
  go_ret2
  exact ⟨rfl, rfl⟩

set_option maxHeartbeats 1000000 in
theorem next_not_false (b : Int) (hk : 3 ≤ fK b) (w : World) :
    Calls Try.prog 17 #[.int .i64 b, .bool false] w fun e w' => e = .returned (.tuple #[.int .i64 0, .int .i64 11]) ∧ w = w' := by
  go_enter Try.func17, Try.ntmps17
  go_wp2_with (first | (go_at_call 15; refine (kind_any _ _).mono ?_; rintro e w' ⟨rfl, rfl⟩) | (go_at_call 43; refine (sign_any 1 true (by omega) (by omega) _).mono ?_; rintro e w' ⟨rfl, rfl⟩))
  go_ret2
  exact ⟨rfl, rfl⟩

set_option maxHeartbeats 1000000 in
theorem next_min_true (w : World) :
    Calls Try.prog 17 #[.int .i64 (-9223372036854775808), .bool true] w fun e w' => e = .returned (.tuple #[.int .i64 1, .int .i64 0]) ∧ w = w' := by
  have hk := kind_min
  go_enter Try.func17, Try.ntmps17
  go_wp2_with (first | (go_at_call 15; refine (kind_any _ _).mono ?_; rintro e w' ⟨rfl, rfl⟩) | (go_at_call 43; refine (sign_any 1 true (by omega) (by omega) _).mono ?_; rintro e w' ⟨rfl, rfl⟩))
  go_ret2
  exact ⟨rfl, rfl⟩

set_option maxHeartbeats 1000000 in
theorem next_min_false (w : World) :
    Calls Try.prog 17 #[.int .i64 (-9223372036854775808), .bool false] w fun e w' => e = .returned (.tuple #[.int .i64 (-9223372036854775807), .int .i64 0]) ∧ w = w' := by
  have hk := kind_min
  go_enter Try.func17, Try.ntmps17
  go_wp2_with (first | (go_at_call 15; refine (kind_any _ _).mono ?_; rintro e w' ⟨rfl, rfl⟩) | (go_at_call 43; refine (sign_any 1 true (by omega) (by omega) _).mono ?_; rintro e w' ⟨rfl, rfl⟩))
  go_ret2
  exact ⟨rfl, rfl⟩

set_option maxHeartbeats 1000000 in
theorem next_zero_true (w : World) :
    Calls Try.prog 17 #[.int .i64 0, .bool true] w fun e w' => e = .returned (.tuple #[.int .i64 1, .int .i64 0]) ∧ w = w' := by
  have hk := kind_zero
  go_enter Try.func17, Try.ntmps17
  go_wp2_with (first | (go_at_call 15; refine (kind_any _ _).mono ?_; rintro e w' ⟨rfl, rfl⟩) | (go_at_call 43; refine (sign_any 1 true (by omega) (by omega) _).mono ?_; rintro e w' ⟨rfl, rfl⟩))
  go_ret2
  exact ⟨rfl, rfl⟩

set_option maxHeartbeats 1000000 in
theorem next_zero_false (w : World) :
    Calls Try.prog 17 #[.int .i64 0, .bool false] w fun e w' => e = .returned (.tuple #[.int .i64 (-9223372036854775807), .int .i64 0]) ∧ w = w' := by
  have hk := kind_zero
  go_enter Try.func17, Try.ntmps17
  go_wp2_with (first | (go_at_call 15; refine (kind_any _ _).mono ?_; rintro e w' ⟨rfl, rfl⟩) | (go_at_call 43; refine (sign_any 1 true (by omega) (by omega) _).mono ?_; rintro e w' ⟨rfl, rfl⟩))
  go_ret2
  exact ⟨rfl, rfl⟩

set_option maxHeartbeats 1000000 in
theorem next_pos_true (b : Int) (h0 : 0 < b) (h1 : b < 9223372036854775807) (hk : fK b < 3) (hc : fK (b + 1) < 3) (w : World) :
    Calls Try.prog 17 #[.int .i64 b, .bool true] w fun e w' => e = .returned (.tuple #[.int .i64 (b + 1), .int .i64 0]) ∧ w = w' := by
  have z : (b == 0) = false := beq_eq_false_iff_ne.2 (by omega)
  have m : (b == -9223372036854775808) = false := beq_eq_false_iff_ne.2 (by omega)
  have p : decide (0 < b) = true := decide_eq_true h0
  go_enter Try.func17, Try.ntmps17
  go_wp2_with (first | (go_at_call 15; refine (kind_any _ _).mono ?_; rintro e w' ⟨rfl, rfl⟩) | (go_at_call 43; refine (sign_any 1 true (by omega) (by omega) _).mono ?_; rintro e w' ⟨rfl, rfl⟩))
  go_ret2
  exact ⟨rfl, rfl⟩

set_option maxHeartbeats 1000000 in
theorem next_pos_true_end (b : Int) (h0 : 0 < b) (h1 : b < 9223372036854775807) (hk : fK b < 3) (hc : 3 ≤ fK (b + 1)) (w : World) :
    Calls Try.prog 17 #[.int .i64 b, .bool true] w fun e w' => e = .returned (.tuple #[.int .i64 0, .int .i64 11]) ∧ w = w' := by
  have z : (b == 0) = false := beq_eq_false_iff_ne.2 (by omega)
  have m : (b == -9223372036854775808) = false := beq_eq_false_iff_ne.2 (by omega)
  have p : decide (0 < b) = true := decide_eq_true h0
  go_enter Try.func17, Try.ntmps17
  go_wp2_with (first | (go_at_call 15; refine (kind_any _ _).mono ?_; rintro e w' ⟨rfl, rfl⟩) | (go_at_call 43; refine (sign_any 1 true (by omega) (by omega) _).mono ?_; rintro e w' ⟨rfl, rfl⟩))
  go_ret2
  exact ⟨rfl, rfl⟩

set_option maxHeartbeats 1000000 in
theorem next_pos_false (b : Int) (h0 : 0 < b) (h1 : b < 9223372036854775807) (hk : fK b < 3) (hc : fK (b - 1) < 3) (w : World) :
    Calls Try.prog 17 #[.int .i64 b, .bool false] w fun e w' => e = .returned (.tuple #[.int .i64 (b - 1), .int .i64 0]) ∧ w = w' := by
  have z : (b == 0) = false := beq_eq_false_iff_ne.2 (by omega)
  have m : (b == -9223372036854775808) = false := beq_eq_false_iff_ne.2 (by omega)
  have p : decide (0 < b) = true := decide_eq_true h0
  go_enter Try.func17, Try.ntmps17
  go_wp2_with (first | (go_at_call 15; refine (kind_any _ _).mono ?_; rintro e w' ⟨rfl, rfl⟩) | (go_at_call 43; refine (sign_any 1 true (by omega) (by omega) _).mono ?_; rintro e w' ⟨rfl, rfl⟩))
  go_ret2
  exact ⟨rfl, rfl⟩

set_option maxHeartbeats 1000000 in
theorem next_pos_false_end (b : Int) (h0 : 0 < b) (h1 : b < 9223372036854775807) (hk : fK b < 3) (hc : 3 ≤ fK (b - 1)) (w : World) :
    Calls Try.prog 17 #[.int .i64 b, .bool false] w fun e w' => e = .returned (.tuple #[.int .i64 0, .int .i64 11]) ∧ w = w' := by
  have z : (b == 0) = false := beq_eq_false_iff_ne.2 (by omega)
  have m : (b == -9223372036854775808) = false := beq_eq_false_iff_ne.2 (by omega)
  have p : decide (0 < b) = true := decide_eq_true h0
  go_enter Try.func17, Try.ntmps17
  go_wp2_with (first | (go_at_call 15; refine (kind_any _ _).mono ?_; rintro e w' ⟨rfl, rfl⟩) | (go_at_call 43; refine (sign_any 1 true (by omega) (by omega) _).mono ?_; rintro e w' ⟨rfl, rfl⟩))
  go_ret2
  exact ⟨rfl, rfl⟩

set_option maxHeartbeats 1000000 in
theorem next_neg_true (b : Int) (h0 : b < 0) (h1 : -9223372036854775808 < b) (hk : fK b < 3) (hc : fK (b - 1) < 3) (w : World) :
    Calls Try.prog 17 #[.int .i64 b, .bool true] w fun e w' => e = .returned (.tuple #[.int .i64 (b - 1), .int .i64 0]) ∧ w = w' := by
  have z : (b == 0) = false := beq_eq_false_iff_ne.2 (by omega)
  have m : (b == -9223372036854775808) = false := beq_eq_false_iff_ne.2 (by omega)
  have p : decide (0 < b) = false := decide_eq_false (by omega)
  go_enter Try.func17, Try.ntmps17
  go_wp2_with (first | (go_at_call 15; refine (kind_any _ _).mono ?_; rintro e w' ⟨rfl, rfl⟩) | (go_at_call 43; refine (sign_any 1 true (by omega) (by omega) _).mono ?_; rintro e w' ⟨rfl, rfl⟩))
  go_ret2
  exact ⟨rfl, rfl⟩

set_option maxHeartbeats 1000000 in
theorem next_neg_true_end (b : Int) (h0 : b < 0) (h1 : -9223372036854775808 < b) (hk : fK b < 3) (hc : 3 ≤ fK (b - 1)) (w : World) :
    Calls Try.prog 17 #[.int .i64 b, .bool true] w fun e w' => e = .returned (.tuple #[.int .i64 0, .int .i64 11]) ∧ w = w' := by
  have z : (b == 0) = false := beq_eq_false_iff_ne.2 (by omega)
  have m : (b == -9223372036854775808) = false := beq_eq_false_iff_ne.2 (by omega)
  have p : decide (0 < b) = false := decide_eq_false (by omega)
  go_enter Try.func17, Try.ntmps17
  go_wp2_with (first | (go_at_call 15; refine (kind_any _ _).mono ?_; rintro e w' ⟨rfl, rfl⟩) | (go_at_call 43; refine (sign_any 1 true (by omega) (by omega) _).mono ?_; rintro e w' ⟨rfl, rfl⟩))
  go_ret2
  exact ⟨rfl, rfl⟩

set_option maxHeartbeats 1000000 in
theorem next_neg_false (b : Int) (h0 : b < 0) (h1 : -9223372036854775808 < b) (hk : fK b < 3) (hc : fK (b + 1) < 3) (w : World) :
    Calls Try.prog 17 #[.int .i64 b, .bool false] w fun e w' => e = .returned (.tuple #[.int .i64 (b + 1), .int .i64 0]) ∧ w = w' := by
  have z : (b == 0) = false := beq_eq_false_iff_ne.2 (by omega)
  have m : (b == -9223372036854775808) = false := beq_eq_false_iff_ne.2 (by omega)
  have p : decide (0 < b) = false := decide_eq_false (by omega)
  go_enter Try.func17, Try.ntmps17
  go_wp2_with (first | (go_at_call 15; refine (kind_any _ _).mono ?_; rintro e w' ⟨rfl, rfl⟩) | (go_at_call 43; refine (sign_any 1 true (by omega) (by omega) _).mono ?_; rintro e w' ⟨rfl, rfl⟩))
  go_ret2
  exact ⟨rfl, rfl⟩

set_option maxHeartbeats 1000000 in
theorem next_neg_false_end (b : Int) (h0 : b < 0) (h1 : -9223372036854775808 < b) (hk : fK b < 3) (hc : 3 ≤ fK (b + 1)) (w : World) :
    Calls Try.prog 17 #[.int .i64 b, .bool false] w fun e w' => e = .returned (.tuple #[.int .i64 0, .int .i64 11]) ∧ w = w' := by
  have z : (b == 0) = false := beq_eq_false_iff_ne.2 (by omega)
  have m : (b == -9223372036854775808) = false := beq_eq_false_iff_ne.2 (by omega)
  have p : decide (0 < b) = false := decide_eq_false (by omega)
  go_enter Try.func17, Try.ntmps17
  go_wp2_with (first | (go_at_call 15; refine (kind_any _ _).mono ?_; rintro e w' ⟨rfl, rfl⟩) | (go_at_call 43; refine (sign_any 1 true (by omega) (by omega) _).mono ?_; rintro e w' ⟨rfl, rfl⟩))
  go_ret2
  exact ⟨rfl, rfl⟩

end Go.Proofs.Ytpoolbachhelgaa
