/- The contracts of package float's functions on the parts of a number: split, Kind, order, Cmp, sign, Next; a number is any int. -/
import Derived.Test.YtpoolbachhelgaaRows
import Derived.Test.YtpoolbachhelgaaBlk
import Derived.Test.YtpoolbachhelgaaBitw
import Derived.WalkKit
import Derived.WalkSpells
import Derived.WalkLawsBesides
import Derived.Handy
namespace Go.Proofs.Ytpoolbachhelgaa
open Go.RowKit

/-- The exponent's field and the fraction's field. -/
def fE (b : Int) : Int := b / 4503599627370496 % 2048
def fF (b : Int) : Int := b % 4503599627370496
/-- The kind. -/
def fK (b : Int) : Int := if fE b = 2047 then (if fF b = 0 then 3 else 4) else if 0 < fE b then 2 else if 0 < fF b then 1 else 0

theorem fE_bd (b : Int) : 0 ≤ fE b ∧ fE b ≤ 2047 := by unfold fE; omega
theorem fF_bd (b : Int) : 0 ≤ fF b ∧ fF b ≤ 4503599627370495 := by unfold fF; omega

set_option maxRecDepth 100000 in
set_option maxHeartbeats 400000 in
theorem split_any (b : Int) (w : World) :
    Calls Try.prog 41 #[.int .i64 b] w fun e w' => e = .returned (.tuple #[.bool (decide (b < 0)), .int .i64 (fE b), .int .i64 (fF b)]) ∧ w = w' := by
  have h1 : Go.bits .and .i64 (b / 4503599627370496) 2047 = fE b := i64_mask _ 11 (by omega)
  have h2 : Go.bits .and .i64 b 4503599627370495 = fF b := i64_mask b 52 (by omega)
  go_enter Try.func41, Try.ntmps41
  go_wp2
  go_ret3
  exact ⟨rfl, rfl⟩

theorem fK_3 (b : Int) (h1 : fE b = 2047) (h2 : fF b = 0) : fK b = 3 := by unfold fK; rw [if_pos h1, if_pos h2]
theorem fK_4 (b : Int) (h1 : fE b = 2047) (h2 : ¬ fF b = 0) : fK b = 4 := by unfold fK; rw [if_pos h1, if_neg h2]
theorem fK_2 (b : Int) (h1 : ¬ fE b = 2047) (h2 : 0 < fE b) : fK b = 2 := by unfold fK; rw [if_neg h1, if_pos h2]
theorem fK_1 (b : Int) (h1 : ¬ fE b = 2047) (h2 : ¬ 0 < fE b) (h3 : 0 < fF b) : fK b = 1 := by unfold fK; rw [if_neg h1, if_neg h2, if_pos h3]
theorem fK_0 (b : Int) (h1 : ¬ fE b = 2047) (h2 : ¬ 0 < fE b) (h3 : ¬ 0 < fF b) : fK b = 0 := by unfold fK; rw [if_neg h1, if_neg h2, if_neg h3]

set_option maxHeartbeats 1000000 in
theorem kind_any (b : Int) (w : World) :
    Calls Try.prog 15 #[.int .i64 b] w fun e w' => e = .returned (.int .i64 (fK b)) ∧ w = w' := by
  have hs := Lib.hid (split_any b w)
  obtain ⟨e0, e1⟩ := fE_bd b
  obtain ⟨f0, f1⟩ := fF_bd b
  by_cases c1 : fE b = 2047
  · have b1 : (fE b == 2047) = true := beq_iff_eq.2 c1
    by_cases c2 : fF b = 0
    · have b2 : (fF b == 0) = true := beq_iff_eq.2 c2
      have hr := Lib.hid (fK_3 b c1 c2)
      clear c1 c2
      go_enter Try.func15, Try.ntmps15
      go_wp2_with (go_at_call 41; refine hs.out.mono ?_; rintro e w' ⟨rfl, rfl⟩)
      go_ret
      exact ⟨ret_int hr.out.symm, rfl⟩
    · have b2 : (fF b == 0) = false := beq_eq_false_iff_ne.2 c2
      have hr := Lib.hid (fK_4 b c1 c2)
      clear c1 c2
      go_enter Try.func15, Try.ntmps15
      go_wp2_with (go_at_call 41; refine hs.out.mono ?_; rintro e w' ⟨rfl, rfl⟩)
      go_ret
      exact ⟨ret_int hr.out.symm, rfl⟩
  · have b1 : (fE b == 2047) = false := beq_eq_false_iff_ne.2 c1
    by_cases c2 : 0 < fE b
    · have hr := Lib.hid (fK_2 b c1 c2)
      clear c1
      go_enter Try.func15, Try.ntmps15
      go_wp2_with (go_at_call 41; refine hs.out.mono ?_; rintro e w' ⟨rfl, rfl⟩)
      go_ret
      exact ⟨ret_int hr.out.symm, rfl⟩
    · by_cases c3 : 0 < fF b
      · have hr := Lib.hid (fK_1 b c1 c2 c3)
        clear c1
        go_enter Try.func15, Try.ntmps15
        go_wp2_with (go_at_call 41; refine hs.out.mono ?_; rintro e w' ⟨rfl, rfl⟩)
        go_ret
        exact ⟨ret_int hr.out.symm, rfl⟩
      · have hr := Lib.hid (fK_0 b c1 c2 c3)
        clear c1
        go_enter Try.func15, Try.ntmps15
        go_wp2_with (go_at_call 41; refine hs.out.mono ?_; rintro e w' ⟨rfl, rfl⟩)
        go_ret
        exact ⟨ret_int hr.out.symm, rfl⟩

/-- A number's sign set. -/
def fS (b : Int) (m : Bool) : Int := if m then b - 9223372036854775808 else b
set_option maxHeartbeats 400000 in
theorem sign_any (b : Int) (m : Bool) (h0 : 0 ≤ b) (h1 : b < 9223372036854775808) (w : World) :
    Calls Try.prog 43 #[.int .i64 b, .bool m] w fun e w' => e = .returned (.int .i64 (fS b m)) ∧ w = w' := by
  cases m with
  | true =>
    have hj : Go.bits .or .i64 b (-9223372036854775808) = fS b true := by
      have hc : Go.bits .or .i64 b (-9223372036854775808) = Go.bits .or .i64 (-9223372036854775808) b := by simp only [Go.bits, BitVec.or_comm]
      rw [hc, i64_join (-9223372036854775808) b 63 (by omega) (by omega) (by omega) (by decide) h0 (by omega)]
      unfold fS; simp; omega
    go_enter Try.func43, Try.ntmps43
    go_wp2
    go_ret
    exact ⟨rfl, rfl⟩
  | false =>
    go_enter Try.func43, Try.ntmps43
    go_wp2
    go_ret
    exact ⟨rfl, rfl⟩

/-- What a number is ordered by. -/
def fO (b : Int) : Int := if b < 0 then -1 - b % 9223372036854775808 else b
set_option maxHeartbeats 400000 in
theorem order_any (b : Int) (w : World) :
    Calls Try.prog 44 #[.int .i64 b] w fun e w' => e = .returned (.int .i64 (fO b)) ∧ w = w' := by
  by_cases hb : b < 0
  · have hj : Go.bits .and .i64 b 9223372036854775807 = b % 9223372036854775808 := i64_mask b 63 (by omega)
    have hr := Lib.hid (show fO b = -1 - b % 9223372036854775808 from by unfold fO; rw [if_pos hb])
    have g0 : 0 ≤ b % 9223372036854775808 := by omega
    have g1 : b % 9223372036854775808 ≤ 9223372036854775807 := by omega
    go_enter Try.func44, Try.ntmps44
    go_wp2
    go_ret
    exact ⟨ret_int hr.out.symm, rfl⟩
  · have hr := Lib.hid (show fO b = b from by unfold fO; rw [if_neg hb])
    go_enter Try.func44, Try.ntmps44
    go_wp2
    go_ret
    exact ⟨ret_int hr.out.symm, rfl⟩

end Go.Proofs.Ytpoolbachhelgaa
