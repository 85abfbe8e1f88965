/- clapkeep1.FloatSteps answers true at every int. -/
import Derived.Test.YtpoolbachhelgaaFloatParts
import Derived.OpenShut
import Derived.WalkSmall
namespace Go.Proofs.Ytpoolbachhelgaa
open Go.RowKit

theorem fK_lt3 (x : Int) (h : fE x ≠ 2047) : fK x < 3 := by
  unfold fK
  rw [if_neg h]
  split
  · omega
  · split <;> omega
theorem fK_ge3 (x : Int) (h : fE x = 2047) : 3 ≤ fK x := by
  unfold fK
  rw [if_pos h]
  split <;> omega
theorem fC_less (a b : Int) (h : fO a < fO b) : fC a b = -1 := by unfold fC; rw [if_pos h]

def NextIs (b : Int) (up : Bool) (v e : Int) : Prop := ∀ w : World, Calls Try.prog 17 #[.int .i64 b, .bool up] w fun x w' => x = .returned (.tuple #[.int .i64 v, .int .i64 e]) ∧ w = w'

theorem next_up_down (b : Int) (h0 : -9223372036854775808 < b) (h1 : b < 9223372036854775808) (hb : fE b ≠ 2047) :
    (NextIs b true 0 11 ∧ b = 9218868437227405311) ∨ ∃ n : Int, NextIs b true n 0 ∧ NextIs n false b 0 ∧ fC b n = -1 := by
  have hk := fK_lt3 b hb
  rcases Int.lt_trichotomy b 0 with hneg | hz | hpos
  · right
    have hc : fE (b - 1) ≠ 2047 := by unfold fE at hb ⊢; omega
    refine ⟨b - 1, fun w => next_neg_true b hneg h0 hk (fK_lt3 _ hc) w, ?_, fC_less _ _ ?_⟩
    · by_cases hm : b = -9223372036854775807
      · subst hm
        exact fun w => next_min_false w
      · have h := fun w => next_neg_false (b - 1) (by omega) (by omega) (fK_lt3 _ hc) (by rw [show b - 1 + 1 = b from by omega]; exact hk) w
        rw [show b - 1 + 1 = b from by omega] at h
        exact h
    · unfold fO
      rw [if_pos hneg, if_pos (by omega)]
      omega
  · subst hz
    right
    refine ⟨1, fun w => next_zero_true w, fun w => next_pos_false 1 (by omega) (by omega) (by decide +kernel) (by decide +kernel) w, by decide +kernel⟩
  · by_cases hc : fE (b + 1) = 2047
    · left
      have hx : b = 9218868437227405311 := by unfold fE at hb hc; omega
      exact ⟨fun w => next_pos_true_end b hpos (by omega) hk (fK_ge3 _ hc) w, hx⟩
    · right
      refine ⟨b + 1, fun w => next_pos_true b hpos (by unfold fE at hb; omega) hk (fK_lt3 _ hc) w, ?_, fC_less _ _ ?_⟩
      · have h := fun w => next_pos_false (b + 1) (by omega) (by unfold fE at hb; omega) (fK_lt3 _ hc) (by rw [show b + 1 - 1 = b from by omega]; exact hk) w
        rw [show b + 1 - 1 = b from by omega] at h
        exact h
      · unfold fO
        rw [if_neg (by omega), if_neg (by omega)]
        omega

set_option maxRecDepth 100000 in
set_option maxHeartbeats 1000000 in
theorem floatSteps_walk (b : Int) (h0 : -9223372036854775808 ≤ b) (h1 : b < 9223372036854775808) (w : World) :
    Calls Try.prog 5 #[.int .i64 b] w fun e w' => e = .returned (.bool true) ∧ w = w' := by
  by_cases hb : fE b = 2047
  · have hk := fK_ge3 b hb
    go_enter Try.func5, Try.ntmps5
    go_wp2_with fail
    refine (next_not_true b hk _).mono ?_; rintro e w' ⟨rfl, rfl⟩
    go_wp2_with fail
    refine (floats_any _).mono ?_; rintro e w' ⟨rfl, rfl⟩
    go_wp2_with fail
    refine (kind_any _ _).mono ?_; rintro e w' ⟨rfl, rfl⟩
    go_wp2_with fail
    go_ret
    exact ⟨rfl, rfl⟩
  · by_cases hm : b = -9223372036854775808
    · subst hm
      go_enter Try.func5, Try.ntmps5
      go_wp2_with fail
      refine (next_min_true _).mono ?_; rintro e w' ⟨rfl, rfl⟩
      go_wp2_with fail
      refine (next_pos_false 1 (by omega) (by omega) (by decide +kernel) (by decide +kernel) _).mono ?_; rintro e w' ⟨rfl, rfl⟩
      go_wp2_with fail
      refine (floats_any _).mono ?_; rintro e w' ⟨rfl, rfl⟩
      go_wp2_with fail
      go_ret
      exact ⟨rfl, rfl⟩
    · rcases next_up_down b (by omega) h1 hb with ⟨hn, rfl⟩ | ⟨n, hn, hd, hc⟩
      · go_enter Try.func5, Try.ntmps5
        go_wp2_with fail
        refine (hn _).mono ?_; rintro e w' ⟨rfl, rfl⟩
        go_wp2_with fail
        refine (floats_any _).mono ?_; rintro e w' ⟨rfl, rfl⟩
        go_wp2_with fail
        refine (kind_any _ _).mono ?_; rintro e w' ⟨rfl, rfl⟩
        go_wp2_with fail
        all_goals
          go_ret
          exact ⟨rfl, rfl⟩
      · have hcm := fun w => cmp_any b n w
        rw [hc] at hcm
        have C := Lib.hid (And.intro hn (And.intro hd hcm))
        have b1 : (b == -9223372036854775808) = false := beq_eq_false_iff_ne.2 hm
        clear hn hd hc hcm hb hm
        by_cases hnm : n = -9223372036854775808
        · have b2 : (n == -9223372036854775808) = true := beq_iff_eq.2 hnm
          clear hnm
          go_enter Try.func5, Try.ntmps5
          go_wp2_with fail
          refine (C.out.1 _).mono ?_; rintro e w' ⟨rfl, rfl⟩
          go_wp2_with fail
          refine (C.out.2.1 _).mono ?_; rintro e w' ⟨rfl, rfl⟩
          go_wp2_with fail
          refine (floats_any _).mono ?_; rintro e w' ⟨rfl, rfl⟩
          go_wp2_with fail
          go_ret
          exact ⟨rfl, rfl⟩
        · have b2 : (n == -9223372036854775808) = false := beq_eq_false_iff_ne.2 hnm
          clear hnm
          go_enter Try.func5, Try.ntmps5
          go_wp2_with fail
          refine (C.out.1 _).mono ?_; rintro e w' ⟨rfl, rfl⟩
          go_wp2_with fail
          refine (C.out.2.1 _).mono ?_; rintro e w' ⟨rfl, rfl⟩
          go_wp2_with fail
          refine (floats_any _).mono ?_; rintro e w' ⟨rfl, rfl⟩
          go_wp2_with fail
          refine (C.out.2.2 _).mono ?_; rintro e w' ⟨rfl, rfl⟩
          go_wp2_with fail
          go_ret
          exact ⟨rfl, rfl⟩

theorem floatSteps_law (b : Int) (w : World) (h : (Lit.int .i64 b).wf = true) :
    Calls Try.prog 5 #[.int .i64 b] w fun e w' => e = .returned (.bool true) ∧ Below w.heap.size w w' := by
  have hb := bounds_i64 h
  refine (floatSteps_walk b hb.1 (by omega) w).mono ?_
  rintro e w' ⟨rfl, rfl⟩
  exact ⟨rfl, Below.refl _ _⟩

end Go.Proofs.Ytpoolbachhelgaa
