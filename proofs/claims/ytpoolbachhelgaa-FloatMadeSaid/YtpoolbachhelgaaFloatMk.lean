/- The contracts of float.Make at a mantissa with k zeros behind it (k from 0 to 9) whose number is held exactly. -/
import Derived.Test.YtpoolbachhelgaaFloatMake
namespace Go.Proofs.Ytpoolbachhelgaa
open Go.RowKit

set_option maxRecDepth 100000 in
set_option maxHeartbeats 2000000 in
theorem make_small_0 (neg : Bool) (m : Int) (h0 : 1 ≤ m) (h1 : m < 4503599627370496) (w : World) :
    Calls Try.prog 16 #[.bool neg, .int .i64 m, .int .i64 (-1074)] w fun e w' => e = .returned (.tuple #[.int .i64 (fS m neg), .int .i64 0]) ∧ ∃ d, w' = w.drewN d := by
  obtain ⟨n, hn, hl⟩ := len_small m 0 (by omega) h1 (by omega) w
  rw [Int.pow_zero, Int.mul_one] at hl
  have m1 : min (-1074) (5000 : Int) = (-1074) := by omega
  have m2 : max (-5000 : Int) (-1074) = (-1074) := by omega
  have m3 : max ((-1074) + (n : Int) - 53) (-1074) = -1074 := by omega
  have z1 : (m == 9007199254740992) = false := beq_eq_false_iff_ne.2 (by omega)
  have z2 : (m == 0) = false := beq_eq_false_iff_ne.2 (by omega)
  have HL := Lib.hid hl
  clear hl
  go_enter Try.func16, Try.ntmps16
  go_wp2_with (first | (go_at_call 42; refine HL.out.mono ?_; rintro e w' ⟨rfl, rfl⟩) | (go_at_call 43; refine (sign_any _ neg (by omega) (by omega) _).mono ?_; rintro e w' ⟨rfl, rfl⟩))
  all_goals
    go_ret2
    exact ⟨rfl, ⟨0, rfl⟩⟩

set_option maxRecDepth 100000 in
set_option maxHeartbeats 2000000 in
theorem make_zero_0 (neg : Bool) (w : World) :
    Calls Try.prog 16 #[.bool neg, .int .i64 0, .int .i64 (-1074)] w fun e w' => e = .returned (.tuple #[.int .i64 (fS 0 neg), .int .i64 0]) ∧ ∃ d, w' = w.drewN d := by
  have hl := Try.bits_Len64 0 w (by omega) (by omega)
  rw [show ((Lib.bitLen (0 : Int).toNat : Nat) : Int) = 0 from by decide +kernel] at hl
  have m1 : min (-1074) (5000 : Int) = (-1074) := by omega
  have m2 : max (-5000 : Int) (-1074) = (-1074) := by omega
  have m3 : max ((-1074) + 0 - 53) (-1074 : Int) = -1074 := by omega
  have m4 : max ((-1074) - 53) (-1074 : Int) = -1074 := by omega
  have m5 : max (-1127) (-1074 : Int) = -1074 := by omega
  have HL := Lib.hid hl
  clear hl
  go_enter Try.func16, Try.ntmps16
  go_wp2_with (first | (go_at_call 42; refine HL.out.mono ?_; rintro e w' ⟨rfl, rfl⟩) | (go_at_call 43; refine (sign_any _ neg (by omega) (by omega) _).mono ?_; rintro e w' ⟨rfl, rfl⟩))
  all_goals
    go_ret2
    exact ⟨rfl, ⟨0, rfl⟩⟩

set_option maxRecDepth 100000 in
set_option maxHeartbeats 2000000 in
theorem make_usual_0 (neg : Bool) (m X : Int) (h0 : 4503599627370496 ≤ m) (h1 : m < 9007199254740992) (x0 : -1074 ≤ X) (x1 : X ≤ 971) (w : World) :
    Calls Try.prog 16 #[.bool neg, .int .i64 m, .int .i64 X] w fun e w' => e = .returned (.tuple #[.int .i64 (fS ((X + 1075) * 4503599627370496 + (m - 4503599627370496)) neg), .int .i64 0]) ∧ ∃ d, w' = w.drewN d := by
  have hl := len_usual m 0 h0 h1 (by omega) w
  rw [Int.pow_zero, Int.mul_one] at hl
  rw [show ((53 + 0 : Nat) : Int) = 53 from rfl] at hl
  have m1 : min X (5000 : Int) = X := by omega
  have m2 : max (-5000 : Int) X = X := by omega
  have m3 : max (X + 53 - 53) (-1074) = X := by omega
  have m4 : max X (-1074) = X := by omega
  have m5 : Go.bits .or .i64 ((X + 1074 + 1) * 4503599627370496) (m - 4503599627370496) = (X + 1075) * 4503599627370496 + (m - 4503599627370496) := by
    rw [i64_join _ _ 52 (by omega) (by omega) (by omega) (by omega) (by omega) (by omega)]; omega
  have z1 : (m == 9007199254740992) = false := beq_eq_false_iff_ne.2 (by omega)
  have z2 : (m == 0) = false := beq_eq_false_iff_ne.2 (by omega)
  have HL := Lib.hid hl
  clear hl
  go_enter Try.func16, Try.ntmps16
  go_wp2_with (first | (go_at_call 42; refine HL.out.mono ?_; rintro e w' ⟨rfl, rfl⟩) | (go_at_call 43; refine (sign_any _ neg (by omega) (by omega) _).mono ?_; rintro e w' ⟨rfl, rfl⟩))
  all_goals
    go_ret2
    exact ⟨rfl, ⟨0, rfl⟩⟩

set_option maxRecDepth 100000 in
set_option maxHeartbeats 2000000 in
theorem make_small_1 (neg : Bool) (m : Int) (h0 : 1 ≤ m) (h1 : m < 4503599627370496) (w : World) :
    Calls Try.prog 16 #[.bool neg, .int .i64 (m * 2), .int .i64 (-1075)] w fun e w' => e = .returned (.tuple #[.int .i64 (fS m neg), .int .i64 0]) ∧ ∃ d, w' = w.drewN d := by
  obtain ⟨n, hn, hl⟩ := len_small m 1 (by omega) h1 (by omega) w
  rw [show (2 : Int) ^ 1 = 2 from by decide] at hl
  have m1 : min (-1075) (5000 : Int) = (-1075) := by omega
  have m2 : max (-5000 : Int) (-1075) = (-1075) := by omega
  have m3 : max ((-1075) + (n : Int) - 53) (-1074) = -1074 := by omega
  have f1 : Go.bits .and .u64 (m * 2) 1 = 0 := by
    have := u64_mask (m * 2) 1 (by omega)
    rw [show (2 : Int) ^ 1 - 1 = 1 from by decide] at this
    rw [this, show (2 : Int) ^ 1 = 2 from by decide]; omega
  have f2 : m * 2 / 2 = m := by omega
  have f3 : IntKind.u64.wrap 2 = 2 := by decide
  have f4 : IntKind.u64.wrap (2 - 1) = 1 := by decide
  have f5 : IntKind.i64.wrap (1 - 1) = 0 := by decide
  have f6 : IntKind.u64.wrap 1 = 1 := by decide
  have f7 : IntKind.u64.wrap 1 = 1 := by decide
  have f8 : IntKind.i64.wrap 0 = 0 := by decide
  have z1 : (m == 9007199254740992) = false := beq_eq_false_iff_ne.2 (by omega)
  have z2 : (m == 0) = false := beq_eq_false_iff_ne.2 (by omega)
  have HL := Lib.hid hl
  clear hl
  go_enter Try.func16, Try.ntmps16
  go_wp2_with (first | (go_at_call 42; refine HL.out.mono ?_; rintro e w' ⟨rfl, rfl⟩) | (go_at_call 43; refine (sign_any _ neg (by omega) (by omega) _).mono ?_; rintro e w' ⟨rfl, rfl⟩))
  go_quiet (fail)
  go_wp2_with (go_at_call 43; refine (sign_any _ neg (by omega) (by omega) _).mono ?_; rintro e w' ⟨rfl, rfl⟩)
  all_goals
    go_ret2
    exact ⟨rfl, ⟨_, rfl⟩⟩

set_option maxRecDepth 100000 in
set_option maxHeartbeats 2000000 in
theorem make_zero_1 (neg : Bool) (w : World) :
    Calls Try.prog 16 #[.bool neg, .int .i64 0, .int .i64 (-1075)] w fun e w' => e = .returned (.tuple #[.int .i64 (fS 0 neg), .int .i64 0]) ∧ ∃ d, w' = w.drewN d := by
  have hl := Try.bits_Len64 0 w (by omega) (by omega)
  rw [show ((Lib.bitLen (0 : Int).toNat : Nat) : Int) = 0 from by decide +kernel] at hl
  have m1 : min (-1075) (5000 : Int) = (-1075) := by omega
  have m2 : max (-5000 : Int) (-1075) = (-1075) := by omega
  have m3 : max ((-1075) + 0 - 53) (-1074 : Int) = -1074 := by omega
  have m4 : max ((-1075) - 53) (-1074 : Int) = -1074 := by omega
  have m5 : max (-1128) (-1074 : Int) = -1074 := by omega
  have f1 : Go.bits .and .u64 (0) 1 = 0 := by
    decide
  have f3 : IntKind.u64.wrap 2 = 2 := by decide
  have f4 : IntKind.u64.wrap (2 - 1) = 1 := by decide
  have f5 : IntKind.i64.wrap (1 - 1) = 0 := by decide
  have f6 : IntKind.u64.wrap 1 = 1 := by decide
  have f7 : IntKind.u64.wrap 1 = 1 := by decide
  have f8 : IntKind.i64.wrap 0 = 0 := by decide
  have HL := Lib.hid hl
  clear hl
  go_enter Try.func16, Try.ntmps16
  go_wp2_with (first | (go_at_call 42; refine HL.out.mono ?_; rintro e w' ⟨rfl, rfl⟩) | (go_at_call 43; refine (sign_any _ neg (by omega) (by omega) _).mono ?_; rintro e w' ⟨rfl, rfl⟩))
  go_quiet (fail)
  go_wp2_with (go_at_call 43; refine (sign_any _ neg (by omega) (by omega) _).mono ?_; rintro e w' ⟨rfl, rfl⟩)
  all_goals
    go_ret2
    exact ⟨rfl, ⟨_, rfl⟩⟩

set_option maxRecDepth 100000 in
set_option maxHeartbeats 2000000 in
theorem make_usual_1 (neg : Bool) (m X : Int) (h0 : 4503599627370496 ≤ m) (h1 : m < 9007199254740992) (x0 : -1075 ≤ X) (x1 : X ≤ 970) (w : World) :
    Calls Try.prog 16 #[.bool neg, .int .i64 (m * 2), .int .i64 X] w fun e w' => e = .returned (.tuple #[.int .i64 (fS ((X + 1076) * 4503599627370496 + (m - 4503599627370496)) neg), .int .i64 0]) ∧ ∃ d, w' = w.drewN d := by
  have hl := len_usual m 1 h0 h1 (by omega) w
  rw [show (2 : Int) ^ 1 = 2 from by decide] at hl
  rw [show ((53 + 1 : Nat) : Int) = 54 from rfl] at hl
  have m1 : min X (5000 : Int) = X := by omega
  have m2 : max (-5000 : Int) X = X := by omega
  have m3 : max (X + 54 - 53) (-1074) = X + 1 := by omega
  have m4 : X + 1 - X = 1 := by omega
  have f1 : Go.bits .and .u64 (m * 2) 1 = 0 := by
    have := u64_mask (m * 2) 1 (by omega)
    rw [show (2 : Int) ^ 1 - 1 = 1 from by decide] at this
    rw [this, show (2 : Int) ^ 1 = 2 from by decide]; omega
  have f2 : m * 2 / 2 = m := by omega
  have f3 : IntKind.u64.wrap 2 = 2 := by decide
  have f4 : IntKind.u64.wrap (2 - 1) = 1 := by decide
  have f5 : IntKind.i64.wrap (1 - 1) = 0 := by decide
  have f6 : IntKind.u64.wrap 1 = 1 := by decide
  have f7 : IntKind.u64.wrap 1 = 1 := by decide
  have f8 : IntKind.i64.wrap 0 = 0 := by decide
  have m5 : Go.bits .or .i64 ((X + 1 + 1074 + 1) * 4503599627370496) (m - 4503599627370496) = (X + 1076) * 4503599627370496 + (m - 4503599627370496) := by
    rw [i64_join _ _ 52 (by omega) (by omega) (by omega) (by omega) (by omega) (by omega)]; omega
  have z1 : (m == 9007199254740992) = false := beq_eq_false_iff_ne.2 (by omega)
  have z2 : (m == 0) = false := beq_eq_false_iff_ne.2 (by omega)
  have HL := Lib.hid hl
  clear hl
  go_enter Try.func16, Try.ntmps16
  go_wp2_with (first | (go_at_call 42; refine HL.out.mono ?_; rintro e w' ⟨rfl, rfl⟩) | (go_at_call 43; refine (sign_any _ neg (by omega) (by omega) _).mono ?_; rintro e w' ⟨rfl, rfl⟩))
  go_quiet (fail)
  go_wp2_with (go_at_call 43; refine (sign_any _ neg (by omega) (by omega) _).mono ?_; rintro e w' ⟨rfl, rfl⟩)
  all_goals
    go_ret2
    exact ⟨rfl, ⟨_, rfl⟩⟩

set_option maxRecDepth 100000 in
set_option maxHeartbeats 2000000 in
theorem make_small_2 (neg : Bool) (m : Int) (h0 : 1 ≤ m) (h1 : m < 4503599627370496) (w : World) :
    Calls Try.prog 16 #[.bool neg, .int .i64 (m * 4), .int .i64 (-1076)] w fun e w' => e = .returned (.tuple #[.int .i64 (fS m neg), .int .i64 0]) ∧ ∃ d, w' = w.drewN d := by
  obtain ⟨n, hn, hl⟩ := len_small m 2 (by omega) h1 (by omega) w
  rw [show (2 : Int) ^ 2 = 4 from by decide] at hl
  have m1 : min (-1076) (5000 : Int) = (-1076) := by omega
  have m2 : max (-5000 : Int) (-1076) = (-1076) := by omega
  have m3 : max ((-1076) + (n : Int) - 53) (-1074) = -1074 := by omega
  have f1 : Go.bits .and .u64 (m * 4) 3 = 0 := by
    have := u64_mask (m * 4) 2 (by omega)
    rw [show (2 : Int) ^ 2 - 1 = 3 from by decide] at this
    rw [this, show (2 : Int) ^ 2 = 4 from by decide]; omega
  have f2 : m * 4 / 4 = m := by omega
  have f3 : IntKind.u64.wrap 4 = 4 := by decide
  have f4 : IntKind.u64.wrap (4 - 1) = 3 := by decide
  have f5 : IntKind.i64.wrap (2 - 1) = 1 := by decide
  have f6 : IntKind.u64.wrap 2 = 2 := by decide
  have f7 : IntKind.u64.wrap 3 = 3 := by decide
  have f8 : IntKind.i64.wrap 1 = 1 := by decide
  have z1 : (m == 9007199254740992) = false := beq_eq_false_iff_ne.2 (by omega)
  have z2 : (m == 0) = false := beq_eq_false_iff_ne.2 (by omega)
  have HL := Lib.hid hl
  clear hl
  go_enter Try.func16, Try.ntmps16
  go_wp2_with (first | (go_at_call 42; refine HL.out.mono ?_; rintro e w' ⟨rfl, rfl⟩) | (go_at_call 43; refine (sign_any _ neg (by omega) (by omega) _).mono ?_; rintro e w' ⟨rfl, rfl⟩))
  go_quiet (fail)
  go_wp2_with (go_at_call 43; refine (sign_any _ neg (by omega) (by omega) _).mono ?_; rintro e w' ⟨rfl, rfl⟩)
  all_goals
    go_ret2
    exact ⟨rfl, ⟨_, rfl⟩⟩

set_option maxRecDepth 100000 in
set_option maxHeartbeats 2000000 in
theorem make_zero_2 (neg : Bool) (w : World) :
    Calls Try.prog 16 #[.bool neg, .int .i64 0, .int .i64 (-1076)] w fun e w' => e = .returned (.tuple #[.int .i64 (fS 0 neg), .int .i64 0]) ∧ ∃ d, w' = w.drewN d := by
  have hl := Try.bits_Len64 0 w (by omega) (by omega)
  rw [show ((Lib.bitLen (0 : Int).toNat : Nat) : Int) = 0 from by decide +kernel] at hl
  have m1 : min (-1076) (5000 : Int) = (-1076) := by omega
  have m2 : max (-5000 : Int) (-1076) = (-1076) := by omega
  have m3 : max ((-1076) + 0 - 53) (-1074 : Int) = -1074 := by omega
  have m4 : max ((-1076) - 53) (-1074 : Int) = -1074 := by omega
  have m5 : max (-1129) (-1074 : Int) = -1074 := by omega
  have f1 : Go.bits .and .u64 (0) 3 = 0 := by
    decide
  have f3 : IntKind.u64.wrap 4 = 4 := by decide
  have f4 : IntKind.u64.wrap (4 - 1) = 3 := by decide
  have f5 : IntKind.i64.wrap (2 - 1) = 1 := by decide
  have f6 : IntKind.u64.wrap 2 = 2 := by decide
  have f7 : IntKind.u64.wrap 3 = 3 := by decide
  have f8 : IntKind.i64.wrap 1 = 1 := by decide
  have HL := Lib.hid hl
  clear hl
  go_enter Try.func16, Try.ntmps16
  go_wp2_with (first | (go_at_call 42; refine HL.out.mono ?_; rintro e w' ⟨rfl, rfl⟩) | (go_at_call 43; refine (sign_any _ neg (by omega) (by omega) _).mono ?_; rintro e w' ⟨rfl, rfl⟩))
  go_quiet (fail)
  go_wp2_with (go_at_call 43; refine (sign_any _ neg (by omega) (by omega) _).mono ?_; rintro e w' ⟨rfl, rfl⟩)
  all_goals
    go_ret2
    exact ⟨rfl, ⟨_, rfl⟩⟩

set_option maxRecDepth 100000 in
set_option maxHeartbeats 2000000 in
theorem make_usual_2 (neg : Bool) (m X : Int) (h0 : 4503599627370496 ≤ m) (h1 : m < 9007199254740992) (x0 : -1076 ≤ X) (x1 : X ≤ 969) (w : World) :
    Calls Try.prog 16 #[.bool neg, .int .i64 (m * 4), .int .i64 X] w fun e w' => e = .returned (.tuple #[.int .i64 (fS ((X + 1077) * 4503599627370496 + (m - 4503599627370496)) neg), .int .i64 0]) ∧ ∃ d, w' = w.drewN d := by
  have hl := len_usual m 2 h0 h1 (by omega) w
  rw [show (2 : Int) ^ 2 = 4 from by decide] at hl
  rw [show ((53 + 2 : Nat) : Int) = 55 from rfl] at hl
  have m1 : min X (5000 : Int) = X := by omega
  have m2 : max (-5000 : Int) X = X := by omega
  have m3 : max (X + 55 - 53) (-1074) = X + 2 := by omega
  have m4 : X + 2 - X = 2 := by omega
  have f1 : Go.bits .and .u64 (m * 4) 3 = 0 := by
    have := u64_mask (m * 4) 2 (by omega)
    rw [show (2 : Int) ^ 2 - 1 = 3 from by decide] at this
    rw [this, show (2 : Int) ^ 2 = 4 from by decide]; omega
  have f2 : m * 4 / 4 = m := by omega
  have f3 : IntKind.u64.wrap 4 = 4 := by decide
  have f4 : IntKind.u64.wrap (4 - 1) = 3 := by decide
  have f5 : IntKind.i64.wrap (2 - 1) = 1 := by decide
  have f6 : IntKind.u64.wrap 2 = 2 := by decide
  have f7 : IntKind.u64.wrap 3 = 3 := by decide
  have f8 : IntKind.i64.wrap 1 = 1 := by decide
  have m5 : Go.bits .or .i64 ((X + 2 + 1074 + 1) * 4503599627370496) (m - 4503599627370496) = (X + 1077) * 4503599627370496 + (m - 4503599627370496) := by
    rw [i64_join _ _ 52 (by omega) (by omega) (by omega) (by omega) (by omega) (by omega)]; omega
  have z1 : (m == 9007199254740992) = false := beq_eq_false_iff_ne.2 (by omega)
  have z2 : (m == 0) = false := beq_eq_false_iff_ne.2 (by omega)
  have HL := Lib.hid hl
  clear hl
  go_enter Try.func16, Try.ntmps16
  go_wp2_with (first | (go_at_call 42; refine HL.out.mono ?_; rintro e w' ⟨rfl, rfl⟩) | (go_at_call 43; refine (sign_any _ neg (by omega) (by omega) _).mono ?_; rintro e w' ⟨rfl, rfl⟩))
  go_quiet (fail)
  go_wp2_with (go_at_call 43; refine (sign_any _ neg (by omega) (by omega) _).mono ?_; rintro e w' ⟨rfl, rfl⟩)
  all_goals
    go_ret2
    exact ⟨rfl, ⟨_, rfl⟩⟩

set_option maxRecDepth 100000 in
set_option maxHeartbeats 2000000 in
theorem make_small_3 (neg : Bool) (m : Int) (h0 : 1 ≤ m) (h1 : m < 4503599627370496) (w : World) :
    Calls Try.prog 16 #[.bool neg, .int .i64 (m * 8), .int .i64 (-1077)] w fun e w' => e = .returned (.tuple #[.int .i64 (fS m neg), .int .i64 0]) ∧ ∃ d, w' = w.drewN d := by
  obtain ⟨n, hn, hl⟩ := len_small m 3 (by omega) h1 (by omega) w
  rw [show (2 : Int) ^ 3 = 8 from by decide] at hl
  have m1 : min (-1077) (5000 : Int) = (-1077) := by omega
  have m2 : max (-5000 : Int) (-1077) = (-1077) := by omega
  have m3 : max ((-1077) + (n : Int) - 53) (-1074) = -1074 := by omega
  have f1 : Go.bits .and .u64 (m * 8) 7 = 0 := by
    have := u64_mask (m * 8) 3 (by omega)
    rw [show (2 : Int) ^ 3 - 1 = 7 from by decide] at this
    rw [this, show (2 : Int) ^ 3 = 8 from by decide]; omega
  have f2 : m * 8 / 8 = m := by omega
  have f3 : IntKind.u64.wrap 8 = 8 := by decide
  have f4 : IntKind.u64.wrap (8 - 1) = 7 := by decide
  have f5 : IntKind.i64.wrap (3 - 1) = 2 := by decide
  have f6 : IntKind.u64.wrap 4 = 4 := by decide
  have f7 : IntKind.u64.wrap 7 = 7 := by decide
  have f8 : IntKind.i64.wrap 2 = 2 := by decide
  have z1 : (m == 9007199254740992) = false := beq_eq_false_iff_ne.2 (by omega)
  have z2 : (m == 0) = false := beq_eq_false_iff_ne.2 (by omega)
  have HL := Lib.hid hl
  clear hl
  go_enter Try.func16, Try.ntmps16
  go_wp2_with (first | (go_at_call 42; refine HL.out.mono ?_; rintro e w' ⟨rfl, rfl⟩) | (go_at_call 43; refine (sign_any _ neg (by omega) (by omega) _).mono ?_; rintro e w' ⟨rfl, rfl⟩))
  go_quiet (fail)
  go_wp2_with (go_at_call 43; refine (sign_any _ neg (by omega) (by omega) _).mono ?_; rintro e w' ⟨rfl, rfl⟩)
  all_goals
    go_ret2
    exact ⟨rfl, ⟨_, rfl⟩⟩

set_option maxRecDepth 100000 in
set_option maxHeartbeats 2000000 in
theorem make_zero_3 (neg : Bool) (w : World) :
    Calls Try.prog 16 #[.bool neg, .int .i64 0, .int .i64 (-1077)] w fun e w' => e = .returned (.tuple #[.int .i64 (fS 0 neg), .int .i64 0]) ∧ ∃ d, w' = w.drewN d := by
  have hl := Try.bits_Len64 0 w (by omega) (by omega)
  rw [show ((Lib.bitLen (0 : Int).toNat : Nat) : Int) = 0 from by decide +kernel] at hl
  have m1 : min (-1077) (5000 : Int) = (-1077) := by omega
  have m2 : max (-5000 : Int) (-1077) = (-1077) := by omega
  have m3 : max ((-1077) + 0 - 53) (-1074 : Int) = -1074 := by omega
  have m4 : max ((-1077) - 53) (-1074 : Int) = -1074 := by omega
  have m5 : max (-1130) (-1074 : Int) = -1074 := by omega
  have f1 : Go.bits .and .u64 (0) 7 = 0 := by
    decide
  have f3 : IntKind.u64.wrap 8 = 8 := by decide
  have f4 : IntKind.u64.wrap (8 - 1) = 7 := by decide
  have f5 : IntKind.i64.wrap (3 - 1) = 2 := by decide
  have f6 : IntKind.u64.wrap 4 = 4 := by decide
  have f7 : IntKind.u64.wrap 7 = 7 := by decide
  have f8 : IntKind.i64.wrap 2 = 2 := by decide
  have HL := Lib.hid hl
  clear hl
  go_enter Try.func16, Try.ntmps16
  go_wp2_with (first | (go_at_call 42; refine HL.out.mono ?_; rintro e w' ⟨rfl, rfl⟩) | (go_at_call 43; refine (sign_any _ neg (by omega) (by omega) _).mono ?_; rintro e w' ⟨rfl, rfl⟩))
  go_quiet (fail)
  go_wp2_with (go_at_call 43; refine (sign_any _ neg (by omega) (by omega) _).mono ?_; rintro e w' ⟨rfl, rfl⟩)
  all_goals
    go_ret2
    exact ⟨rfl, ⟨_, rfl⟩⟩

set_option maxRecDepth 100000 in
set_option maxHeartbeats 2000000 in
theorem make_usual_3 (neg : Bool) (m X : Int) (h0 : 4503599627370496 ≤ m) (h1 : m < 9007199254740992) (x0 : -1077 ≤ X) (x1 : X ≤ 968) (w : World) :
    Calls Try.prog 16 #[.bool neg, .int .i64 (m * 8), .int .i64 X] w fun e w' => e = .returned (.tuple #[.int .i64 (fS ((X + 1078) * 4503599627370496 + (m - 4503599627370496)) neg), .int .i64 0]) ∧ ∃ d, w' = w.drewN d := by
  have hl := len_usual m 3 h0 h1 (by omega) w
  rw [show (2 : Int) ^ 3 = 8 from by decide] at hl
  rw [show ((53 + 3 : Nat) : Int) = 56 from rfl] at hl
  have m1 : min X (5000 : Int) = X := by omega
  have m2 : max (-5000 : Int) X = X := by omega
  have m3 : max (X + 56 - 53) (-1074) = X + 3 := by omega
  have m4 : X + 3 - X = 3 := by omega
  have f1 : Go.bits .and .u64 (m * 8) 7 = 0 := by
    have := u64_mask (m * 8) 3 (by omega)
    rw [show (2 : Int) ^ 3 - 1 = 7 from by decide] at this
    rw [this, show (2 : Int) ^ 3 = 8 from by decide]; omega
  have f2 : m * 8 / 8 = m := by omega
  have f3 : IntKind.u64.wrap 8 = 8 := by decide
  have f4 : IntKind.u64.wrap (8 - 1) = 7 := by decide
  have f5 : IntKind.i64.wrap (3 - 1) = 2 := by decide
  have f6 : IntKind.u64.wrap 4 = 4 := by decide
  have f7 : IntKind.u64.wrap 7 = 7 := by decide
  have f8 : IntKind.i64.wrap 2 = 2 := by decide
  have m5 : Go.bits .or .i64 ((X + 3 + 1074 + 1) * 4503599627370496) (m - 4503599627370496) = (X + 1078) * 4503599627370496 + (m - 4503599627370496) := by
    rw [i64_join _ _ 52 (by omega) (by omega) (by omega) (by omega) (by omega) (by omega)]; omega
  have z1 : (m == 9007199254740992) = false := beq_eq_false_iff_ne.2 (by omega)
  have z2 : (m == 0) = false := beq_eq_false_iff_ne.2 (by omega)
  have HL := Lib.hid hl
  clear hl
  go_enter Try.func16, Try.ntmps16
  go_wp2_with (first | (go_at_call 42; refine HL.out.mono ?_; rintro e w' ⟨rfl, rfl⟩) | (go_at_call 43; refine (sign_any _ neg (by omega) (by omega) _).mono ?_; rintro e w' ⟨rfl, rfl⟩))
  go_quiet (fail)
  go_wp2_with (go_at_call 43; refine (sign_any _ neg (by omega) (by omega) _).mono ?_; rintro e w' ⟨rfl, rfl⟩)
  all_goals
    go_ret2
    exact ⟨rfl, ⟨_, rfl⟩⟩

set_option maxRecDepth 100000 in
set_option maxHeartbeats 2000000 in
theorem make_small_4 (neg : Bool) (m : Int) (h0 : 1 ≤ m) (h1 : m < 4503599627370496) (w : World) :
    Calls Try.prog 16 #[.bool neg, .int .i64 (m * 16), .int .i64 (-1078)] w fun e w' => e = .returned (.tuple #[.int .i64 (fS m neg), .int .i64 0]) ∧ ∃ d, w' = w.drewN d := by
  obtain ⟨n, hn, hl⟩ := len_small m 4 (by omega) h1 (by omega) w
  rw [show (2 : Int) ^ 4 = 16 from by decide] at hl
  have m1 : min (-1078) (5000 : Int) = (-1078) := by omega
  have m2 : max (-5000 : Int) (-1078) = (-1078) := by omega
  have m3 : max ((-1078) + (n : Int) - 53) (-1074) = -1074 := by omega
  have f1 : Go.bits .and .u64 (m * 16) 15 = 0 := by
    have := u64_mask (m * 16) 4 (by omega)
    rw [show (2 : Int) ^ 4 - 1 = 15 from by decide] at this
    rw [this, show (2 : Int) ^ 4 = 16 from by decide]; omega
  have f2 : m * 16 / 16 = m := by omega
  have f3 : IntKind.u64.wrap 16 = 16 := by decide
  have f4 : IntKind.u64.wrap (16 - 1) = 15 := by decide
  have f5 : IntKind.i64.wrap (4 - 1) = 3 := by decide
  have f6 : IntKind.u64.wrap 8 = 8 := by decide
  have f7 : IntKind.u64.wrap 15 = 15 := by decide
  have f8 : IntKind.i64.wrap 3 = 3 := by decide
  have z1 : (m == 9007199254740992) = false := beq_eq_false_iff_ne.2 (by omega)
  have z2 : (m == 0) = false := beq_eq_false_iff_ne.2 (by omega)
  have HL := Lib.hid hl
  clear hl
  go_enter Try.func16, Try.ntmps16
  go_wp2_with (first | (go_at_call 42; refine HL.out.mono ?_; rintro e w' ⟨rfl, rfl⟩) | (go_at_call 43; refine (sign_any _ neg (by omega) (by omega) _).mono ?_; rintro e w' ⟨rfl, rfl⟩))
  go_quiet (fail)
  go_wp2_with (go_at_call 43; refine (sign_any _ neg (by omega) (by omega) _).mono ?_; rintro e w' ⟨rfl, rfl⟩)
  all_goals
    go_ret2
    exact ⟨rfl, ⟨_, rfl⟩⟩

set_option maxRecDepth 100000 in
set_option maxHeartbeats 2000000 in
theorem make_zero_4 (neg : Bool) (w : World) :
    Calls Try.prog 16 #[.bool neg, .int .i64 0, .int .i64 (-1078)] w fun e w' => e = .returned (.tuple #[.int .i64 (fS 0 neg), .int .i64 0]) ∧ ∃ d, w' = w.drewN d := by
  have hl := Try.bits_Len64 0 w (by omega) (by omega)
  rw [show ((Lib.bitLen (0 : Int).toNat : Nat) : Int) = 0 from by decide +kernel] at hl
  have m1 : min (-1078) (5000 : Int) = (-1078) := by omega
  have m2 : max (-5000 : Int) (-1078) = (-1078) := by omega
  have m3 : max ((-1078) + 0 - 53) (-1074 : Int) = -1074 := by omega
  have m4 : max ((-1078) - 53) (-1074 : Int) = -1074 := by omega
  have m5 : max (-1131) (-1074 : Int) = -1074 := by omega
  have f1 : Go.bits .and .u64 (0) 15 = 0 := by
    decide
  have f3 : IntKind.u64.wrap 16 = 16 := by decide
  have f4 : IntKind.u64.wrap (16 - 1) = 15 := by decide
  have f5 : IntKind.i64.wrap (4 - 1) = 3 := by decide
  have f6 : IntKind.u64.wrap 8 = 8 := by decide
  have f7 : IntKind.u64.wrap 15 = 15 := by decide
  have f8 : IntKind.i64.wrap 3 = 3 := by decide
  have HL := Lib.hid hl
  clear hl
  go_enter Try.func16, Try.ntmps16
  go_wp2_with (first | (go_at_call 42; refine HL.out.mono ?_; rintro e w' ⟨rfl, rfl⟩) | (go_at_call 43; refine (sign_any _ neg (by omega) (by omega) _).mono ?_; rintro e w' ⟨rfl, rfl⟩))
  go_quiet (fail)
  go_wp2_with (go_at_call 43; refine (sign_any _ neg (by omega) (by omega) _).mono ?_; rintro e w' ⟨rfl, rfl⟩)
  all_goals
    go_ret2
    exact ⟨rfl, ⟨_, rfl⟩⟩

set_option maxRecDepth 100000 in
set_option maxHeartbeats 2000000 in
theorem make_usual_4 (neg : Bool) (m X : Int) (h0 : 4503599627370496 ≤ m) (h1 : m < 9007199254740992) (x0 : -1078 ≤ X) (x1 : X ≤ 967) (w : World) :
    Calls Try.prog 16 #[.bool neg, .int .i64 (m * 16), .int .i64 X] w fun e w' => e = .returned (.tuple #[.int .i64 (fS ((X + 1079) * 4503599627370496 + (m - 4503599627370496)) neg), .int .i64 0]) ∧ ∃ d, w' = w.drewN d := by
  have hl := len_usual m 4 h0 h1 (by omega) w
  rw [show (2 : Int) ^ 4 = 16 from by decide] at hl
  rw [show ((53 + 4 : Nat) : Int) = 57 from rfl] at hl
  have m1 : min X (5000 : Int) = X := by omega
  have m2 : max (-5000 : Int) X = X := by omega
  have m3 : max (X + 57 - 53) (-1074) = X + 4 := by omega
  have m4 : X + 4 - X = 4 := by omega
  have f1 : Go.bits .and .u64 (m * 16) 15 = 0 := by
    have := u64_mask (m * 16) 4 (by omega)
    rw [show (2 : Int) ^ 4 - 1 = 15 from by decide] at this
    rw [this, show (2 : Int) ^ 4 = 16 from by decide]; omega
  have f2 : m * 16 / 16 = m := by omega
  have f3 : IntKind.u64.wrap 16 = 16 := by decide
  have f4 : IntKind.u64.wrap (16 - 1) = 15 := by decide
  have f5 : IntKind.i64.wrap (4 - 1) = 3 := by decide
  have f6 : IntKind.u64.wrap 8 = 8 := by decide
  have f7 : IntKind.u64.wrap 15 = 15 := by decide
  have f8 : IntKind.i64.wrap 3 = 3 := by decide
  have m5 : Go.bits .or .i64 ((X + 4 + 1074 + 1) * 4503599627370496) (m - 4503599627370496) = (X + 1079) * 4503599627370496 + (m - 4503599627370496) := by
    rw [i64_join _ _ 52 (by omega) (by omega) (by omega) (by omega) (by omega) (by omega)]; omega
  have z1 : (m == 9007199254740992) = false := beq_eq_false_iff_ne.2 (by omega)
  have z2 : (m == 0) = false := beq_eq_false_iff_ne.2 (by omega)
  have HL := Lib.hid hl
  clear hl
  go_enter Try.func16, Try.ntmps16
  go_wp2_with (first | (go_at_call 42; refine HL.out.mono ?_; rintro e w' ⟨rfl, rfl⟩) | (go_at_call 43; refine (sign_any _ neg (by omega) (by omega) _).mono ?_; rintro e w' ⟨rfl, rfl⟩))
  go_quiet (fail)
  go_wp2_with (go_at_call 43; refine (sign_any _ neg (by omega) (by omega) _).mono ?_; rintro e w' ⟨rfl, rfl⟩)
  all_goals
    go_ret2
    exact ⟨rfl, ⟨_, rfl⟩⟩

set_option maxRecDepth 100000 in
set_option maxHeartbeats 2000000 in
theorem make_small_5 (neg : Bool) (m : Int) (h0 : 1 ≤ m) (h1 : m < 4503599627370496) (w : World) :
    Calls Try.prog 16 #[.bool neg, .int .i64 (m * 32), .int .i64 (-1079)] w fun e w' => e = .returned (.tuple #[.int .i64 (fS m neg), .int .i64 0]) ∧ ∃ d, w' = w.drewN d := by
  obtain ⟨n, hn, hl⟩ := len_small m 5 (by omega) h1 (by omega) w
  rw [show (2 : Int) ^ 5 = 32 from by decide] at hl
  have m1 : min (-1079) (5000 : Int) = (-1079) := by omega
  have m2 : max (-5000 : Int) (-1079) = (-1079) := by omega
  have m3 : max ((-1079) + (n : Int) - 53) (-1074) = -1074 := by omega
  have f1 : Go.bits .and .u64 (m * 32) 31 = 0 := by
    have := u64_mask (m * 32) 5 (by omega)
    rw [show (2 : Int) ^ 5 - 1 = 31 from by decide] at this
    rw [this, show (2 : Int) ^ 5 = 32 from by decide]; omega
  have f2 : m * 32 / 32 = m := by omega
  have f3 : IntKind.u64.wrap 32 = 32 := by decide
  have f4 : IntKind.u64.wrap (32 - 1) = 31 := by decide
  have f5 : IntKind.i64.wrap (5 - 1) = 4 := by decide
  have f6 : IntKind.u64.wrap 16 = 16 := by decide
  have f7 : IntKind.u64.wrap 31 = 31 := by decide
  have f8 : IntKind.i64.wrap 4 = 4 := by decide
  have z1 : (m == 9007199254740992) = false := beq_eq_false_iff_ne.2 (by omega)
  have z2 : (m == 0) = false := beq_eq_false_iff_ne.2 (by omega)
  have HL := Lib.hid hl
  clear hl
  go_enter Try.func16, Try.ntmps16
  go_wp2_with (first | (go_at_call 42; refine HL.out.mono ?_; rintro e w' ⟨rfl, rfl⟩) | (go_at_call 43; refine (sign_any _ neg (by omega) (by omega) _).mono ?_; rintro e w' ⟨rfl, rfl⟩))
  go_quiet (fail)
  go_wp2_with (go_at_call 43; refine (sign_any _ neg (by omega) (by omega) _).mono ?_; rintro e w' ⟨rfl, rfl⟩)
  all_goals
    go_ret2
    exact ⟨rfl, ⟨_, rfl⟩⟩

set_option maxRecDepth 100000 in
set_option maxHeartbeats 2000000 in
theorem make_zero_5 (neg : Bool) (w : World) :
    Calls Try.prog 16 #[.bool neg, .int .i64 0, .int .i64 (-1079)] w fun e w' => e = .returned (.tuple #[.int .i64 (fS 0 neg), .int .i64 0]) ∧ ∃ d, w' = w.drewN d := by
  have hl := Try.bits_Len64 0 w (by omega) (by omega)
  rw [show ((Lib.bitLen (0 : Int).toNat : Nat) : Int) = 0 from by decide +kernel] at hl
  have m1 : min (-1079) (5000 : Int) = (-1079) := by omega
  have m2 : max (-5000 : Int) (-1079) = (-1079) := by omega
  have m3 : max ((-1079) + 0 - 53) (-1074 : Int) = -1074 := by omega
  have m4 : max ((-1079) - 53) (-1074 : Int) = -1074 := by omega
  have m5 : max (-1132) (-1074 : Int) = -1074 := by omega
  have f1 : Go.bits .and .u64 (0) 31 = 0 := by
    decide
  have f3 : IntKind.u64.wrap 32 = 32 := by decide
  have f4 : IntKind.u64.wrap (32 - 1) = 31 := by decide
  have f5 : IntKind.i64.wrap (5 - 1) = 4 := by decide
  have f6 : IntKind.u64.wrap 16 = 16 := by decide
  have f7 : IntKind.u64.wrap 31 = 31 := by decide
  have f8 : IntKind.i64.wrap 4 = 4 := by decide
  have HL := Lib.hid hl
  clear hl
  go_enter Try.func16, Try.ntmps16
  go_wp2_with (first | (go_at_call 42; refine HL.out.mono ?_; rintro e w' ⟨rfl, rfl⟩) | (go_at_call 43; refine (sign_any _ neg (by omega) (by omega) _).mono ?_; rintro e w' ⟨rfl, rfl⟩))
  go_quiet (fail)
  go_wp2_with (go_at_call 43; refine (sign_any _ neg (by omega) (by omega) _).mono ?_; rintro e w' ⟨rfl, rfl⟩)
  all_goals
    go_ret2
    exact ⟨rfl, ⟨_, rfl⟩⟩

set_option maxRecDepth 100000 in
set_option maxHeartbeats 2000000 in
theorem make_usual_5 (neg : Bool) (m X : Int) (h0 : 4503599627370496 ≤ m) (h1 : m < 9007199254740992) (x0 : -1079 ≤ X) (x1 : X ≤ 966) (w : World) :
    Calls Try.prog 16 #[.bool neg, .int .i64 (m * 32), .int .i64 X] w fun e w' => e = .returned (.tuple #[.int .i64 (fS ((X + 1080) * 4503599627370496 + (m - 4503599627370496)) neg), .int .i64 0]) ∧ ∃ d, w' = w.drewN d := by
  have hl := len_usual m 5 h0 h1 (by omega) w
  rw [show (2 : Int) ^ 5 = 32 from by decide] at hl
  rw [show ((53 + 5 : Nat) : Int) = 58 from rfl] at hl
  have m1 : min X (5000 : Int) = X := by omega
  have m2 : max (-5000 : Int) X = X := by omega
  have m3 : max (X + 58 - 53) (-1074) = X + 5 := by omega
  have m4 : X + 5 - X = 5 := by omega
  have f1 : Go.bits .and .u64 (m * 32) 31 = 0 := by
    have := u64_mask (m * 32) 5 (by omega)
    rw [show (2 : Int) ^ 5 - 1 = 31 from by decide] at this
    rw [this, show (2 : Int) ^ 5 = 32 from by decide]; omega
  have f2 : m * 32 / 32 = m := by omega
  have f3 : IntKind.u64.wrap 32 = 32 := by decide
  have f4 : IntKind.u64.wrap (32 - 1) = 31 := by decide
  have f5 : IntKind.i64.wrap (5 - 1) = 4 := by decide
  have f6 : IntKind.u64.wrap 16 = 16 := by decide
  have f7 : IntKind.u64.wrap 31 = 31 := by decide
  have f8 : IntKind.i64.wrap 4 = 4 := by decide
  have m5 : Go.bits .or .i64 ((X + 5 + 1074 + 1) * 4503599627370496) (m - 4503599627370496) = (X + 1080) * 4503599627370496 + (m - 4503599627370496) := by
    rw [i64_join _ _ 52 (by omega) (by omega) (by omega) (by omega) (by omega) (by omega)]; omega
  have z1 : (m == 9007199254740992) = false := beq_eq_false_iff_ne.2 (by omega)
  have z2 : (m == 0) = false := beq_eq_false_iff_ne.2 (by omega)
  have HL := Lib.hid hl
  clear hl
  go_enter Try.func16, Try.ntmps16
  go_wp2_with (first | (go_at_call 42; refine HL.out.mono ?_; rintro e w' ⟨rfl, rfl⟩) | (go_at_call 43; refine (sign_any _ neg (by omega) (by omega) _).mono ?_; rintro e w' ⟨rfl, rfl⟩))
  go_quiet (fail)
  go_wp2_with (go_at_call 43; refine (sign_any _ neg (by omega) (by omega) _).mono ?_; rintro e w' ⟨rfl, rfl⟩)
  all_goals
    go_ret2
    exact ⟨rfl, ⟨_, rfl⟩⟩

set_option maxRecDepth 100000 in
set_option maxHeartbeats 2000000 in
theorem make_small_6 (neg : Bool) (m : Int) (h0 : 1 ≤ m) (h1 : m < 4503599627370496) (w : World) :
    Calls Try.prog 16 #[.bool neg, .int .i64 (m * 64), .int .i64 (-1080)] w fun e w' => e = .returned (.tuple #[.int .i64 (fS m neg), .int .i64 0]) ∧ ∃ d, w' = w.drewN d := by
  obtain ⟨n, hn, hl⟩ := len_small m 6 (by omega) h1 (by omega) w
  rw [show (2 : Int) ^ 6 = 64 from by decide] at hl
  have m1 : min (-1080) (5000 : Int) = (-1080) := by omega
  have m2 : max (-5000 : Int) (-1080) = (-1080) := by omega
  have m3 : max ((-1080) + (n : Int) - 53) (-1074) = -1074 := by omega
  have f1 : Go.bits .and .u64 (m * 64) 63 = 0 := by
    have := u64_mask (m * 64) 6 (by omega)
    rw [show (2 : Int) ^ 6 - 1 = 63 from by decide] at this
    rw [this, show (2 : Int) ^ 6 = 64 from by decide]; omega
  have f2 : m * 64 / 64 = m := by omega
  have f3 : IntKind.u64.wrap 64 = 64 := by decide
  have f4 : IntKind.u64.wrap (64 - 1) = 63 := by decide
  have f5 : IntKind.i64.wrap (6 - 1) = 5 := by decide
  have f6 : IntKind.u64.wrap 32 = 32 := by decide
  have f7 : IntKind.u64.wrap 63 = 63 := by decide
  have f8 : IntKind.i64.wrap 5 = 5 := by decide
  have z1 : (m == 9007199254740992) = false := beq_eq_false_iff_ne.2 (by omega)
  have z2 : (m == 0) = false := beq_eq_false_iff_ne.2 (by omega)
  have HL := Lib.hid hl
  clear hl
  go_enter Try.func16, Try.ntmps16
  go_wp2_with (first | (go_at_call 42; refine HL.out.mono ?_; rintro e w' ⟨rfl, rfl⟩) | (go_at_call 43; refine (sign_any _ neg (by omega) (by omega) _).mono ?_; rintro e w' ⟨rfl, rfl⟩))
  go_quiet (fail)
  go_wp2_with (go_at_call 43; refine (sign_any _ neg (by omega) (by omega) _).mono ?_; rintro e w' ⟨rfl, rfl⟩)
  all_goals
    go_ret2
    exact ⟨rfl, ⟨_, rfl⟩⟩

set_option maxRecDepth 100000 in
set_option maxHeartbeats 2000000 in
theorem make_zero_6 (neg : Bool) (w : World) :
    Calls Try.prog 16 #[.bool neg, .int .i64 0, .int .i64 (-1080)] w fun e w' => e = .returned (.tuple #[.int .i64 (fS 0 neg), .int .i64 0]) ∧ ∃ d, w' = w.drewN d := by
  have hl := Try.bits_Len64 0 w (by omega) (by omega)
  rw [show ((Lib.bitLen (0 : Int).toNat : Nat) : Int) = 0 from by decide +kernel] at hl
  have m1 : min (-1080) (5000 : Int) = (-1080) := by omega
  have m2 : max (-5000 : Int) (-1080) = (-1080) := by omega
  have m3 : max ((-1080) + 0 - 53) (-1074 : Int) = -1074 := by omega
  have m4 : max ((-1080) - 53) (-1074 : Int) = -1074 := by omega
  have m5 : max (-1133) (-1074 : Int) = -1074 := by omega
  have f1 : Go.bits .and .u64 (0) 63 = 0 := by
    decide
  have f3 : IntKind.u64.wrap 64 = 64 := by decide
  have f4 : IntKind.u64.wrap (64 - 1) = 63 := by decide
  have f5 : IntKind.i64.wrap (6 - 1) = 5 := by decide
  have f6 : IntKind.u64.wrap 32 = 32 := by decide
  have f7 : IntKind.u64.wrap 63 = 63 := by decide
  have f8 : IntKind.i64.wrap 5 = 5 := by decide
  have HL := Lib.hid hl
  clear hl
  go_enter Try.func16, Try.ntmps16
  go_wp2_with (first | (go_at_call 42; refine HL.out.mono ?_; rintro e w' ⟨rfl, rfl⟩) | (go_at_call 43; refine (sign_any _ neg (by omega) (by omega) _).mono ?_; rintro e w' ⟨rfl, rfl⟩))
  go_quiet (fail)
  go_wp2_with (go_at_call 43; refine (sign_any _ neg (by omega) (by omega) _).mono ?_; rintro e w' ⟨rfl, rfl⟩)
  all_goals
    go_ret2
    exact ⟨rfl, ⟨_, rfl⟩⟩

set_option maxRecDepth 100000 in
set_option maxHeartbeats 2000000 in
theorem make_usual_6 (neg : Bool) (m X : Int) (h0 : 4503599627370496 ≤ m) (h1 : m < 9007199254740992) (x0 : -1080 ≤ X) (x1 : X ≤ 965) (w : World) :
    Calls Try.prog 16 #[.bool neg, .int .i64 (m * 64), .int .i64 X] w fun e w' => e = .returned (.tuple #[.int .i64 (fS ((X + 1081) * 4503599627370496 + (m - 4503599627370496)) neg), .int .i64 0]) ∧ ∃ d, w' = w.drewN d := by
  have hl := len_usual m 6 h0 h1 (by omega) w
  rw [show (2 : Int) ^ 6 = 64 from by decide] at hl
  rw [show ((53 + 6 : Nat) : Int) = 59 from rfl] at hl
  have m1 : min X (5000 : Int) = X := by omega
  have m2 : max (-5000 : Int) X = X := by omega
  have m3 : max (X + 59 - 53) (-1074) = X + 6 := by omega
  have m4 : X + 6 - X = 6 := by omega
  have f1 : Go.bits .and .u64 (m * 64) 63 = 0 := by
    have := u64_mask (m * 64) 6 (by omega)
    rw [show (2 : Int) ^ 6 - 1 = 63 from by decide] at this
    rw [this, show (2 : Int) ^ 6 = 64 from by decide]; omega
  have f2 : m * 64 / 64 = m := by omega
  have f3 : IntKind.u64.wrap 64 = 64 := by decide
  have f4 : IntKind.u64.wrap (64 - 1) = 63 := by decide
  have f5 : IntKind.i64.wrap (6 - 1) = 5 := by decide
  have f6 : IntKind.u64.wrap 32 = 32 := by decide
  have f7 : IntKind.u64.wrap 63 = 63 := by decide
  have f8 : IntKind.i64.wrap 5 = 5 := by decide
  have m5 : Go.bits .or .i64 ((X + 6 + 1074 + 1) * 4503599627370496) (m - 4503599627370496) = (X + 1081) * 4503599627370496 + (m - 4503599627370496) := by
    rw [i64_join _ _ 52 (by omega) (by omega) (by omega) (by omega) (by omega) (by omega)]; omega
  have z1 : (m == 9007199254740992) = false := beq_eq_false_iff_ne.2 (by omega)
  have z2 : (m == 0) = false := beq_eq_false_iff_ne.2 (by omega)
  have HL := Lib.hid hl
  clear hl
  go_enter Try.func16, Try.ntmps16
  go_wp2_with (first | (go_at_call 42; refine HL.out.mono ?_; rintro e w' ⟨rfl, rfl⟩) | (go_at_call 43; refine (sign_any _ neg (by omega) (by omega) _).mono ?_; rintro e w' ⟨rfl, rfl⟩))
  go_quiet (fail)
  go_wp2_with (go_at_call 43; refine (sign_any _ neg (by omega) (by omega) _).mono ?_; rintro e w' ⟨rfl, rfl⟩)
  all_goals
    go_ret2
    exact ⟨rfl, ⟨_, rfl⟩⟩

set_option maxRecDepth 100000 in
set_option maxHeartbeats 2000000 in
theorem make_small_7 (neg : Bool) (m : Int) (h0 : 1 ≤ m) (h1 : m < 4503599627370496) (w : World) :
    Calls Try.prog 16 #[.bool neg, .int .i64 (m * 128), .int .i64 (-1081)] w fun e w' => e = .returned (.tuple #[.int .i64 (fS m neg), .int .i64 0]) ∧ ∃ d, w' = w.drewN d := by
  obtain ⟨n, hn, hl⟩ := len_small m 7 (by omega) h1 (by omega) w
  rw [show (2 : Int) ^ 7 = 128 from by decide] at hl
  have m1 : min (-1081) (5000 : Int) = (-1081) := by omega
  have m2 : max (-5000 : Int) (-1081) = (-1081) := by omega
  have m3 : max ((-1081) + (n : Int) - 53) (-1074) = -1074 := by omega
  have f1 : Go.bits .and .u64 (m * 128) 127 = 0 := by
    have := u64_mask (m * 128) 7 (by omega)
    rw [show (2 : Int) ^ 7 - 1 = 127 from by decide] at this
    rw [this, show (2 : Int) ^ 7 = 128 from by decide]; omega
  have f2 : m * 128 / 128 = m := by omega
  have f3 : IntKind.u64.wrap 128 = 128 := by decide
  have f4 : IntKind.u64.wrap (128 - 1) = 127 := by decide
  have f5 : IntKind.i64.wrap (7 - 1) = 6 := by decide
  have f6 : IntKind.u64.wrap 64 = 64 := by decide
  have f7 : IntKind.u64.wrap 127 = 127 := by decide
  have f8 : IntKind.i64.wrap 6 = 6 := by decide
  have z1 : (m == 9007199254740992) = false := beq_eq_false_iff_ne.2 (by omega)
  have z2 : (m == 0) = false := beq_eq_false_iff_ne.2 (by omega)
  have HL := Lib.hid hl
  clear hl
  go_enter Try.func16, Try.ntmps16
  go_wp2_with (first | (go_at_call 42; refine HL.out.mono ?_; rintro e w' ⟨rfl, rfl⟩) | (go_at_call 43; refine (sign_any _ neg (by omega) (by omega) _).mono ?_; rintro e w' ⟨rfl, rfl⟩))
  go_quiet (fail)
  go_wp2_with (go_at_call 43; refine (sign_any _ neg (by omega) (by omega) _).mono ?_; rintro e w' ⟨rfl, rfl⟩)
  all_goals
    go_ret2
    exact ⟨rfl, ⟨_, rfl⟩⟩

set_option maxRecDepth 100000 in
set_option maxHeartbeats 2000000 in
theorem make_zero_7 (neg : Bool) (w : World) :
    Calls Try.prog 16 #[.bool neg, .int .i64 0, .int .i64 (-1081)] w fun e w' => e = .returned (.tuple #[.int .i64 (fS 0 neg), .int .i64 0]) ∧ ∃ d, w' = w.drewN d := by
  have hl := Try.bits_Len64 0 w (by omega) (by omega)
  rw [show ((Lib.bitLen (0 : Int).toNat : Nat) : Int) = 0 from by decide +kernel] at hl
  have m1 : min (-1081) (5000 : Int) = (-1081) := by omega
  have m2 : max (-5000 : Int) (-1081) = (-1081) := by omega
  have m3 : max ((-1081) + 0 - 53) (-1074 : Int) = -1074 := by omega
  have m4 : max ((-1081) - 53) (-1074 : Int) = -1074 := by omega
  have m5 : max (-1134) (-1074 : Int) = -1074 := by omega
  have f1 : Go.bits .and .u64 (0) 127 = 0 := by
    decide
  have f3 : IntKind.u64.wrap 128 = 128 := by decide
  have f4 : IntKind.u64.wrap (128 - 1) = 127 := by decide
  have f5 : IntKind.i64.wrap (7 - 1) = 6 := by decide
  have f6 : IntKind.u64.wrap 64 = 64 := by decide
  have f7 : IntKind.u64.wrap 127 = 127 := by decide
  have f8 : IntKind.i64.wrap 6 = 6 := by decide
  have HL := Lib.hid hl
  clear hl
  go_enter Try.func16, Try.ntmps16
  go_wp2_with (first | (go_at_call 42; refine HL.out.mono ?_; rintro e w' ⟨rfl, rfl⟩) | (go_at_call 43; refine (sign_any _ neg (by omega) (by omega) _).mono ?_; rintro e w' ⟨rfl, rfl⟩))
  go_quiet (fail)
  go_wp2_with (go_at_call 43; refine (sign_any _ neg (by omega) (by omega) _).mono ?_; rintro e w' ⟨rfl, rfl⟩)
  all_goals
    go_ret2
    exact ⟨rfl, ⟨_, rfl⟩⟩

set_option maxRecDepth 100000 in
set_option maxHeartbeats 2000000 in
theorem make_usual_7 (neg : Bool) (m X : Int) (h0 : 4503599627370496 ≤ m) (h1 : m < 9007199254740992) (x0 : -1081 ≤ X) (x1 : X ≤ 964) (w : World) :
    Calls Try.prog 16 #[.bool neg, .int .i64 (m * 128), .int .i64 X] w fun e w' => e = .returned (.tuple #[.int .i64 (fS ((X + 1082) * 4503599627370496 + (m - 4503599627370496)) neg), .int .i64 0]) ∧ ∃ d, w' = w.drewN d := by
  have hl := len_usual m 7 h0 h1 (by omega) w
  rw [show (2 : Int) ^ 7 = 128 from by decide] at hl
  rw [show ((53 + 7 : Nat) : Int) = 60 from rfl] at hl
  have m1 : min X (5000 : Int) = X := by omega
  have m2 : max (-5000 : Int) X = X := by omega
  have m3 : max (X + 60 - 53) (-1074) = X + 7 := by omega
  have m4 : X + 7 - X = 7 := by omega
  have f1 : Go.bits .and .u64 (m * 128) 127 = 0 := by
    have := u64_mask (m * 128) 7 (by omega)
    rw [show (2 : Int) ^ 7 - 1 = 127 from by decide] at this
    rw [this, show (2 : Int) ^ 7 = 128 from by decide]; omega
  have f2 : m * 128 / 128 = m := by omega
  have f3 : IntKind.u64.wrap 128 = 128 := by decide
  have f4 : IntKind.u64.wrap (128 - 1) = 127 := by decide
  have f5 : IntKind.i64.wrap (7 - 1) = 6 := by decide
  have f6 : IntKind.u64.wrap 64 = 64 := by decide
  have f7 : IntKind.u64.wrap 127 = 127 := by decide
  have f8 : IntKind.i64.wrap 6 = 6 := by decide
  have m5 : Go.bits .or .i64 ((X + 7 + 1074 + 1) * 4503599627370496) (m - 4503599627370496) = (X + 1082) * 4503599627370496 + (m - 4503599627370496) := by
    rw [i64_join _ _ 52 (by omega) (by omega) (by omega) (by omega) (by omega) (by omega)]; omega
  have z1 : (m == 9007199254740992) = false := beq_eq_false_iff_ne.2 (by omega)
  have z2 : (m == 0) = false := beq_eq_false_iff_ne.2 (by omega)
  have HL := Lib.hid hl
  clear hl
  go_enter Try.func16, Try.ntmps16
  go_wp2_with (first | (go_at_call 42; refine HL.out.mono ?_; rintro e w' ⟨rfl, rfl⟩) | (go_at_call 43; refine (sign_any _ neg (by omega) (by omega) _).mono ?_; rintro e w' ⟨rfl, rfl⟩))
  go_quiet (fail)
  go_wp2_with (go_at_call 43; refine (sign_any _ neg (by omega) (by omega) _).mono ?_; rintro e w' ⟨rfl, rfl⟩)
  all_goals
    go_ret2
    exact ⟨rfl, ⟨_, rfl⟩⟩

set_option maxRecDepth 100000 in
set_option maxHeartbeats 2000000 in
theorem make_small_8 (neg : Bool) (m : Int) (h0 : 1 ≤ m) (h1 : m < 4503599627370496) (w : World) :
    Calls Try.prog 16 #[.bool neg, .int .i64 (m * 256), .int .i64 (-1082)] w fun e w' => e = .returned (.tuple #[.int .i64 (fS m neg), .int .i64 0]) ∧ ∃ d, w' = w.drewN d := by
  obtain ⟨n, hn, hl⟩ := len_small m 8 (by omega) h1 (by omega) w
  rw [show (2 : Int) ^ 8 = 256 from by decide] at hl
  have m1 : min (-1082) (5000 : Int) = (-1082) := by omega
  have m2 : max (-5000 : Int) (-1082) = (-1082) := by omega
  have m3 : max ((-1082) + (n : Int) - 53) (-1074) = -1074 := by omega
  have f1 : Go.bits .and .u64 (m * 256) 255 = 0 := by
    have := u64_mask (m * 256) 8 (by omega)
    rw [show (2 : Int) ^ 8 - 1 = 255 from by decide] at this
    rw [this, show (2 : Int) ^ 8 = 256 from by decide]; omega
  have f2 : m * 256 / 256 = m := by omega
  have f3 : IntKind.u64.wrap 256 = 256 := by decide
  have f4 : IntKind.u64.wrap (256 - 1) = 255 := by decide
  have f5 : IntKind.i64.wrap (8 - 1) = 7 := by decide
  have f6 : IntKind.u64.wrap 128 = 128 := by decide
  have f7 : IntKind.u64.wrap 255 = 255 := by decide
  have f8 : IntKind.i64.wrap 7 = 7 := by decide
  have z1 : (m == 9007199254740992) = false := beq_eq_false_iff_ne.2 (by omega)
  have z2 : (m == 0) = false := beq_eq_false_iff_ne.2 (by omega)
  have HL := Lib.hid hl
  clear hl
  go_enter Try.func16, Try.ntmps16
  go_wp2_with (first | (go_at_call 42; refine HL.out.mono ?_; rintro e w' ⟨rfl, rfl⟩) | (go_at_call 43; refine (sign_any _ neg (by omega) (by omega) _).mono ?_; rintro e w' ⟨rfl, rfl⟩))
  go_quiet (fail)
  go_wp2_with (go_at_call 43; refine (sign_any _ neg (by omega) (by omega) _).mono ?_; rintro e w' ⟨rfl, rfl⟩)
  all_goals
    go_ret2
    exact ⟨rfl, ⟨_, rfl⟩⟩

set_option maxRecDepth 100000 in
set_option maxHeartbeats 2000000 in
theorem make_zero_8 (neg : Bool) (w : World) :
    Calls Try.prog 16 #[.bool neg, .int .i64 0, .int .i64 (-1082)] w fun e w' => e = .returned (.tuple #[.int .i64 (fS 0 neg), .int .i64 0]) ∧ ∃ d, w' = w.drewN d := by
  have hl := Try.bits_Len64 0 w (by omega) (by omega)
  rw [show ((Lib.bitLen (0 : Int).toNat : Nat) : Int) = 0 from by decide +kernel] at hl
  have m1 : min (-1082) (5000 : Int) = (-1082) := by omega
  have m2 : max (-5000 : Int) (-1082) = (-1082) := by omega
  have m3 : max ((-1082) + 0 - 53) (-1074 : Int) = -1074 := by omega
  have m4 : max ((-1082) - 53) (-1074 : Int) = -1074 := by omega
  have m5 : max (-1135) (-1074 : Int) = -1074 := by omega
  have f1 : Go.bits .and .u64 (0) 255 = 0 := by
    decide
  have f3 : IntKind.u64.wrap 256 = 256 := by decide
  have f4 : IntKind.u64.wrap (256 - 1) = 255 := by decide
  have f5 : IntKind.i64.wrap (8 - 1) = 7 := by decide
  have f6 : IntKind.u64.wrap 128 = 128 := by decide
  have f7 : IntKind.u64.wrap 255 = 255 := by decide
  have f8 : IntKind.i64.wrap 7 = 7 := by decide
  have HL := Lib.hid hl
  clear hl
  go_enter Try.func16, Try.ntmps16
  go_wp2_with (first | (go_at_call 42; refine HL.out.mono ?_; rintro e w' ⟨rfl, rfl⟩) | (go_at_call 43; refine (sign_any _ neg (by omega) (by omega) _).mono ?_; rintro e w' ⟨rfl, rfl⟩))
  go_quiet (fail)
  go_wp2_with (go_at_call 43; refine (sign_any _ neg (by omega) (by omega) _).mono ?_; rintro e w' ⟨rfl, rfl⟩)
  all_goals
    go_ret2
    exact ⟨rfl, ⟨_, rfl⟩⟩

set_option maxRecDepth 100000 in
set_option maxHeartbeats 2000000 in
theorem make_usual_8 (neg : Bool) (m X : Int) (h0 : 4503599627370496 ≤ m) (h1 : m < 9007199254740992) (x0 : -1082 ≤ X) (x1 : X ≤ 963) (w : World) :
    Calls Try.prog 16 #[.bool neg, .int .i64 (m * 256), .int .i64 X] w fun e w' => e = .returned (.tuple #[.int .i64 (fS ((X + 1083) * 4503599627370496 + (m - 4503599627370496)) neg), .int .i64 0]) ∧ ∃ d, w' = w.drewN d := by
  have hl := len_usual m 8 h0 h1 (by omega) w
  rw [show (2 : Int) ^ 8 = 256 from by decide] at hl
  rw [show ((53 + 8 : Nat) : Int) = 61 from rfl] at hl
  have m1 : min X (5000 : Int) = X := by omega
  have m2 : max (-5000 : Int) X = X := by omega
  have m3 : max (X + 61 - 53) (-1074) = X + 8 := by omega
  have m4 : X + 8 - X = 8 := by omega
  have f1 : Go.bits .and .u64 (m * 256) 255 = 0 := by
    have := u64_mask (m * 256) 8 (by omega)
    rw [show (2 : Int) ^ 8 - 1 = 255 from by decide] at this
    rw [this, show (2 : Int) ^ 8 = 256 from by decide]; omega
  have f2 : m * 256 / 256 = m := by omega
  have f3 : IntKind.u64.wrap 256 = 256 := by decide
  have f4 : IntKind.u64.wrap (256 - 1) = 255 := by decide
  have f5 : IntKind.i64.wrap (8 - 1) = 7 := by decide
  have f6 : IntKind.u64.wrap 128 = 128 := by decide
  have f7 : IntKind.u64.wrap 255 = 255 := by decide
  have f8 : IntKind.i64.wrap 7 = 7 := by decide
  have m5 : Go.bits .or .i64 ((X + 8 + 1074 + 1) * 4503599627370496) (m - 4503599627370496) = (X + 1083) * 4503599627370496 + (m - 4503599627370496) := by
    rw [i64_join _ _ 52 (by omega) (by omega) (by omega) (by omega) (by omega) (by omega)]; omega
  have z1 : (m == 9007199254740992) = false := beq_eq_false_iff_ne.2 (by omega)
  have z2 : (m == 0) = false := beq_eq_false_iff_ne.2 (by omega)
  have HL := Lib.hid hl
  clear hl
  go_enter Try.func16, Try.ntmps16
  go_wp2_with (first | (go_at_call 42; refine HL.out.mono ?_; rintro e w' ⟨rfl, rfl⟩) | (go_at_call 43; refine (sign_any _ neg (by omega) (by omega) _).mono ?_; rintro e w' ⟨rfl, rfl⟩))
  go_quiet (fail)
  go_wp2_with (go_at_call 43; refine (sign_any _ neg (by omega) (by omega) _).mono ?_; rintro e w' ⟨rfl, rfl⟩)
  all_goals
    go_ret2
    exact ⟨rfl, ⟨_, rfl⟩⟩

set_option maxRecDepth 100000 in
set_option maxHeartbeats 2000000 in
theorem make_small_9 (neg : Bool) (m : Int) (h0 : 1 ≤ m) (h1 : m < 4503599627370496) (w : World) :
    Calls Try.prog 16 #[.bool neg, .int .i64 (m * 512), .int .i64 (-1083)] w fun e w' => e = .returned (.tuple #[.int .i64 (fS m neg), .int .i64 0]) ∧ ∃ d, w' = w.drewN d := by
  obtain ⟨n, hn, hl⟩ := len_small m 9 (by omega) h1 (by omega) w
  rw [show (2 : Int) ^ 9 = 512 from by decide] at hl
  have m1 : min (-1083) (5000 : Int) = (-1083) := by omega
  have m2 : max (-5000 : Int) (-1083) = (-1083) := by omega
  have m3 : max ((-1083) + (n : Int) - 53) (-1074) = -1074 := by omega
  have f1 : Go.bits .and .u64 (m * 512) 511 = 0 := by
    have := u64_mask (m * 512) 9 (by omega)
    rw [show (2 : Int) ^ 9 - 1 = 511 from by decide] at this
    rw [this, show (2 : Int) ^ 9 = 512 from by decide]; omega
  have f2 : m * 512 / 512 = m := by omega
  have f3 : IntKind.u64.wrap 512 = 512 := by decide
  have f4 : IntKind.u64.wrap (512 - 1) = 511 := by decide
  have f5 : IntKind.i64.wrap (9 - 1) = 8 := by decide
  have f6 : IntKind.u64.wrap 256 = 256 := by decide
  have f7 : IntKind.u64.wrap 511 = 511 := by decide
  have f8 : IntKind.i64.wrap 8 = 8 := by decide
  have z1 : (m == 9007199254740992) = false := beq_eq_false_iff_ne.2 (by omega)
  have z2 : (m == 0) = false := beq_eq_false_iff_ne.2 (by omega)
  have HL := Lib.hid hl
  clear hl
  go_enter Try.func16, Try.ntmps16
  go_wp2_with (first | (go_at_call 42; refine HL.out.mono ?_; rintro e w' ⟨rfl, rfl⟩) | (go_at_call 43; refine (sign_any _ neg (by omega) (by omega) _).mono ?_; rintro e w' ⟨rfl, rfl⟩))
  go_quiet (fail)
  go_wp2_with (go_at_call 43; refine (sign_any _ neg (by omega) (by omega) _).mono ?_; rintro e w' ⟨rfl, rfl⟩)
  all_goals
    go_ret2
    exact ⟨rfl, ⟨_, rfl⟩⟩

set_option maxRecDepth 100000 in
set_option maxHeartbeats 2000000 in
theorem make_zero_9 (neg : Bool) (w : World) :
    Calls Try.prog 16 #[.bool neg, .int .i64 0, .int .i64 (-1083)] w fun e w' => e = .returned (.tuple #[.int .i64 (fS 0 neg), .int .i64 0]) ∧ ∃ d, w' = w.drewN d := by
  have hl := Try.bits_Len64 0 w (by omega) (by omega)
  rw [show ((Lib.bitLen (0 : Int).toNat : Nat) : Int) = 0 from by decide +kernel] at hl
  have m1 : min (-1083) (5000 : Int) = (-1083) := by omega
  have m2 : max (-5000 : Int) (-1083) = (-1083) := by omega
  have m3 : max ((-1083) + 0 - 53) (-1074 : Int) = -1074 := by omega
  have m4 : max ((-1083) - 53) (-1074 : Int) = -1074 := by omega
  have m5 : max (-1136) (-1074 : Int) = -1074 := by omega
  have f1 : Go.bits .and .u64 (0) 511 = 0 := by
    decide
  have f3 : IntKind.u64.wrap 512 = 512 := by decide
  have f4 : IntKind.u64.wrap (512 - 1) = 511 := by decide
  have f5 : IntKind.i64.wrap (9 - 1) = 8 := by decide
  have f6 : IntKind.u64.wrap 256 = 256 := by decide
  have f7 : IntKind.u64.wrap 511 = 511 := by decide
  have f8 : IntKind.i64.wrap 8 = 8 := by decide
  have HL := Lib.hid hl
  clear hl
  go_enter Try.func16, Try.ntmps16
  go_wp2_with (first | (go_at_call 42; refine HL.out.mono ?_; rintro e w' ⟨rfl, rfl⟩) | (go_at_call 43; refine (sign_any _ neg (by omega) (by omega) _).mono ?_; rintro e w' ⟨rfl, rfl⟩))
  go_quiet (fail)
  go_wp2_with (go_at_call 43; refine (sign_any _ neg (by omega) (by omega) _).mono ?_; rintro e w' ⟨rfl, rfl⟩)
  all_goals
    go_ret2
    exact ⟨rfl, ⟨_, rfl⟩⟩

set_option maxRecDepth 100000 in
set_option maxHeartbeats 2000000 in
theorem make_usual_9 (neg : Bool) (m X : Int) (h0 : 4503599627370496 ≤ m) (h1 : m < 9007199254740992) (x0 : -1083 ≤ X) (x1 : X ≤ 962) (w : World) :
    Calls Try.prog 16 #[.bool neg, .int .i64 (m * 512), .int .i64 X] w fun e w' => e = .returned (.tuple #[.int .i64 (fS ((X + 1084) * 4503599627370496 + (m - 4503599627370496)) neg), .int .i64 0]) ∧ ∃ d, w' = w.drewN d := by
  have hl := len_usual m 9 h0 h1 (by omega) w
  rw [show (2 : Int) ^ 9 = 512 from by decide] at hl
  rw [show ((53 + 9 : Nat) : Int) = 62 from rfl] at hl
  have m1 : min X (5000 : Int) = X := by omega
  have m2 : max (-5000 : Int) X = X := by omega
  have m3 : max (X + 62 - 53) (-1074) = X + 9 := by omega
  have m4 : X + 9 - X = 9 := by omega
  have f1 : Go.bits .and .u64 (m * 512) 511 = 0 := by
    have := u64_mask (m * 512) 9 (by omega)
    rw [show (2 : Int) ^ 9 - 1 = 511 from by decide] at this
    rw [this, show (2 : Int) ^ 9 = 512 from by decide]; omega
  have f2 : m * 512 / 512 = m := by omega
  have f3 : IntKind.u64.wrap 512 = 512 := by decide
  have f4 : IntKind.u64.wrap (512 - 1) = 511 := by decide
  have f5 : IntKind.i64.wrap (9 - 1) = 8 := by decide
  have f6 : IntKind.u64.wrap 256 = 256 := by decide
  have f7 : IntKind.u64.wrap 511 = 511 := by decide
  have f8 : IntKind.i64.wrap 8 = 8 := by decide
  have m5 : Go.bits .or .i64 ((X + 9 + 1074 + 1) * 4503599627370496) (m - 4503599627370496) = (X + 1084) * 4503599627370496 + (m - 4503599627370496) := by
    rw [i64_join _ _ 52 (by omega) (by omega) (by omega) (by omega) (by omega) (by omega)]; omega
  have z1 : (m == 9007199254740992) = false := beq_eq_false_iff_ne.2 (by omega)
  have z2 : (m == 0) = false := beq_eq_false_iff_ne.2 (by omega)
  have HL := Lib.hid hl
  clear hl
  go_enter Try.func16, Try.ntmps16
  go_wp2_with (first | (go_at_call 42; refine HL.out.mono ?_; rintro e w' ⟨rfl, rfl⟩) | (go_at_call 43; refine (sign_any _ neg (by omega) (by omega) _).mono ?_; rintro e w' ⟨rfl, rfl⟩))
  go_quiet (fail)
  go_wp2_with (go_at_call 43; refine (sign_any _ neg (by omega) (by omega) _).mono ?_; rintro e w' ⟨rfl, rfl⟩)
  all_goals
    go_ret2
    exact ⟨rfl, ⟨_, rfl⟩⟩

end Go.Proofs.Ytpoolbachhelgaa
