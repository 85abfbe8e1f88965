/- The contracts of package day's arithmetic. -/
import Derived.Test.YtpoolbachhelgaaDoorRows
import Derived.Test.YtpoolbachhelgaaDoorBlk
import Derived.WalkKit
import Derived.WalkSpells
import Derived.WalkLawsBesides
import Derived.Handy
import Derived.Deep.QuietTactic
import Derived.WalkSmall
namespace Go.Proofs.YtpoolbachhelgaaDoor
open Go.RowKit

def leapI (y : Int) : Bool := (y % 4 == 0 && y % 100 != 0) || y % 400 == 0
def monthsI (y m : Int) : Int := if m < 1 ∨ m > 12 then 0 else if m = 2 then (if leapI y then 29 else 28) else if m = 4 ∨ m = 6 ∨ m = 9 ∨ m = 11 then 30 else 31
def beforeI (y : Int) : Int := 365 * (y - 1) + (y - 1) / 4 - (y - 1) / 100 + (y - 1) / 400

set_option maxRecDepth 100000 in
theorem leap_any (y : Int) (h0 : 0 ≤ y) (h1 : y ≤ 100000) (w : World) :
    Calls Tryd.prog 54 #[.int .i64 y] w fun e w' => e = .returned (.bool (leapI y)) ∧ w = w' := by
  have t4 : Int.tmod y 4 = y % 4 := Int.tmod_eq_emod_of_nonneg h0
  have t100 : Int.tmod y 100 = y % 100 := Int.tmod_eq_emod_of_nonneg h0
  have t400 : Int.tmod y 400 = y % 400 := Int.tmod_eq_emod_of_nonneg h0
  unfold leapI
  cases e4 : (y % 4 == 0) <;> cases e100 : (y % 100 != 0) <;> cases e400 : (y % 400 == 0)
  all_goals
    go_enter Tryd.func54, Tryd.ntmps54
    go_wp2_with fail
    go_ret
    exact ⟨rfl, rfl⟩

set_option maxRecDepth 100000 in
theorem before_any (y : Int) (h0 : 1 ≤ y) (h1 : y ≤ 100000) (w : World) :
    Calls Tryd.prog 53 #[.int .i64 y] w fun e w' => e = .returned (.int .i64 (beforeI y)) ∧ w = w' := by
  go_enter Tryd.func53, Tryd.ntmps53
  go_wp2_with fail
  go_ret
  exact ⟨ret_int (by unfold beforeI; omega), rfl⟩

set_option maxRecDepth 100000 in
set_option maxHeartbeats 1000000 in
theorem months_any (y m : Int) (h0 : 0 ≤ y) (h1 : y ≤ 100000) (w : World) :
    Calls Tryd.prog 20 #[.int .i64 y, .int .i64 m] w fun e w' => e = .returned (.int .i64 (monthsI y m)) ∧ w = w' := by
  have hl := fun w => leap_any y h0 h1 w
  unfold monthsI
  by_cases a1 : m < 1
  · rw [if_pos (Or.inl a1)]
    have t1 : decide (m < 1) = true := decide_eq_true a1
    go_enter Tryd.func20, Tryd.ntmps20
    go_wp2_with fail
    go_ret
    exact ⟨rfl, rfl⟩
  by_cases a2 : 12 < m
  · rw [if_pos (Or.inr a2)]
    have t1 : decide (m < 1) = false := decide_eq_false a1
    have t2 : decide (12 < m) = true := decide_eq_true a2
    go_enter Tryd.func20, Tryd.ntmps20
    go_wp2_with fail
    go_ret
    exact ⟨rfl, rfl⟩
  rw [if_neg (by omega)]
  cases hy : leapI y <;> rw [hy] at hl
  all_goals
    have HL := Lib.hid hl
    clear hl hy
    obtain h | h | h | h | h | h | h | h | h | h | h | h : m = 1 ∨ m = 2 ∨ m = 3 ∨ m = 4 ∨ m = 5 ∨ m = 6 ∨ m = 7 ∨ m = 8 ∨ m = 9 ∨ m = 10 ∨ m = 11 ∨ m = 12 := by omega
    all_goals
      subst h
      go_enter Tryd.func20, Tryd.ntmps20
      go_wp2_with (go_at_call 54; refine (HL.out _).mono ?_; rintro e w' ⟨rfl, rfl⟩)
      go_ret
      exact ⟨rfl, rfl⟩

theorem fit_any (d : Int) (h0 : 0 ≤ d) (h1 : d ≤ 4194304) (w : World) :
    Calls Tryd.prog 51 #[.int .i64 d] w fun e w' => e = .returned (.int .i64 d) ∧ w = w' := by
  have m1 : min d 4194304 = d := by omega
  have m2 : max 0 d = d := by omega
  go_enter Tryd.func51, Tryd.ntmps51
  go_wp2_with fail
  all_goals go_ret
  all_goals exact ⟨ret_int (by omega), rfl⟩

/-- The year of a day. -/
def IsYear (d y : Int) : Prop := 1 ≤ y ∧ beforeI y ≤ d ∧ d < beforeI (y + 1)
theorem year_small {d y : Int} (h : 1 ≤ y) (hb : beforeI y ≤ d) (hd : d ≤ 4194400) : y ≤ 11492 := by
  unfold beforeI at hb
  omega
def YearRel (d : Int) (w : World) (yv : Value) (wr : World) : Prop := ∃ y : Int, yv = .int .i64 y ∧ 1 ≤ y ∧ beforeI y ≤ d ∧ w = wr
set_option maxRecDepth 100000 in
set_option maxHeartbeats 1000000 in
theorem year_any (d : Int) (h0 : 0 ≤ d) (h1 : d ≤ 4194400) (w : World) :
    Calls Tryd.prog 52 #[.int .i64 d] w fun e w' => (∃ y, IsYear d y ∧ e = .returned (.int .i64 y)) ∧ w = w' := by
  have hb := fun y a b w => before_any y a b w
  have HB := Lib.hid hb
  clear hb
  go_enter Tryd.func52, Tryd.ntmps52
  go_wp2_with fail
  go_loopw [3] (fun yv wr => YearRel d w yv wr) (fun yv _ => 20000 - (intOf yv).toNat)
  case atStart => exact ⟨d / 366 + 1, rfl, by omega, by unfold beforeI; omega, rfl⟩
  case round =>
    obtain ⟨y, rfl, y1, y2, rfl⟩ := hrel
    have y3 := year_small y1 y2 h1
    have ws : IntKind.i64.wrap (y + 1) = y + 1 := IntWalk.i64_in _ ⟨by omega, by omega⟩
    have HC := HB.out (y + 1) (by omega) (by omega)
    obtain ⟨b, hb⟩ : ∃ b, b = beforeI (y + 1) := ⟨_, rfl⟩
    rw [← hb] at HC
    have HD := Lib.hid hb
    have HY := Lib.hid y2
    clear hb y2
    by_cases hle : b ≤ d
    · have t1 : decide (b ≤ d) = true := decide_eq_true hle
      go_wp2_with fail
      refine (HC _).mono ?_; rintro e w' ⟨rfl, rfl⟩
      go_wp2_with fail
      exact ⟨⟨y + 1, rfl, by omega, by rw [← HD.out]; exact hle, rfl⟩, by simp [intOf]; omega⟩
    · have t1 : decide (b ≤ d) = false := decide_eq_false hle
      go_wp2_with fail
      refine (HC _).mono ?_; rintro e w' ⟨rfl, rfl⟩
      go_wp2_with fail
      go_ret
      exact ⟨⟨y, ⟨y1, HY.out, by rw [← HD.out]; omega⟩, rfl⟩, rfl⟩

end Go.Proofs.YtpoolbachhelgaaDoor
