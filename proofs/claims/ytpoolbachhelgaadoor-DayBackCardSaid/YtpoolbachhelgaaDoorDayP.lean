/- The contracts of day.Parts, Weekday and Week. -/
import Derived.Test.YtpoolbachhelgaaDoorDay
import Derived.OwnWalk
namespace Go.Proofs.YtpoolbachhelgaaDoor
open Go.RowKit

def lp (y : Int) : Int := if leapI y then 1 else 0
/-- The days of a year ahead of a month (13: of the whole year). -/
def cumI (y m : Int) : Int :=
  if m = 1 then 0 else if m = 2 then 31 else if m = 3 then 59 + lp y else if m = 4 then 90 + lp y else if m = 5 then 120 + lp y else if m = 6 then 151 + lp y else if m = 7 then 181 + lp y else
  if m = 8 then 212 + lp y else if m = 9 then 243 + lp y else if m = 10 then 273 + lp y else if m = 11 then 304 + lp y else if m = 12 then 334 + lp y else 365 + lp y
theorem cum_next (y m : Int) (h1 : 1 ≤ m) (h2 : m ≤ 12) : cumI y (m + 1) = cumI y m + monthsI y m := by
  obtain h | h | h | h | h | h | h | h | h | h | h | h : m = 1 ∨ m = 2 ∨ m = 3 ∨ m = 4 ∨ m = 5 ∨ m = 6 ∨ m = 7 ∨ m = 8 ∨ m = 9 ∨ m = 10 ∨ m = 11 ∨ m = 12 := by omega
  all_goals
    subst h
    unfold cumI monthsI lp
    cases leapI y <;> decide
theorem months_pos (y m : Int) (h1 : 1 ≤ m) (h2 : m ≤ 12) : 28 ≤ monthsI y m ∧ monthsI y m ≤ 31 := by
  obtain h | h | h | h | h | h | h | h | h | h | h | h : m = 1 ∨ m = 2 ∨ m = 3 ∨ m = 4 ∨ m = 5 ∨ m = 6 ∨ m = 7 ∨ m = 8 ∨ m = 9 ∨ m = 10 ∨ m = 11 ∨ m = 12 := by omega
  all_goals
    subst h
    unfold monthsI
    cases leapI y <;> decide
theorem year_len (y : Int) (h : 1 ≤ y) : beforeI (y + 1) = beforeI y + 365 + lp y := by
  unfold beforeI lp leapI
  cases e4 : (y % 4 == 0) <;> cases e100 : (y % 100 != 0) <;> cases e400 : (y % 400 == 0) <;> simp at e4 e100 e400 ⊢ <;> omega

theorem cum_nonneg (y m : Int) (h1 : 1 ≤ m) (h2 : m ≤ 12) : 0 ≤ cumI y m := by
  obtain h | h | h | h | h | h | h | h | h | h | h | h : m = 1 ∨ m = 2 ∨ m = 3 ∨ m = 4 ∨ m = 5 ∨ m = 6 ∨ m = 7 ∨ m = 8 ∨ m = 9 ∨ m = 10 ∨ m = 11 ∨ m = 12 := by omega
  all_goals
    subst h
    unfold cumI lp
    cases leapI y <;> decide
structure IsDate (d y m n : Int) : Prop where
  year : IsYear d y
  m1 : 1 ≤ m
  m2 : m ≤ 12
  n1 : 1 ≤ n
  n2 : n ≤ monthsI y m
  eq : d = beforeI y + cumI y m + n - 1
def PartsRel (d y : Int) (w : World) (dv mv : Value) (wr : World) : Prop := ∃ k m : Int, dv = .int .i64 k ∧ mv = .int .i64 m ∧ 1 ≤ m ∧ m ≤ 12 ∧ 0 ≤ k ∧ d = beforeI y + cumI y m + k ∧ w = wr

set_option maxRecDepth 100000 in
set_option maxHeartbeats 1000000 in
theorem parts_any (d : Int) (h0 : 0 ≤ d) (h1 : d ≤ 4194304) (w : World) :
    Calls Tryd.prog 19 #[.int .i64 d] w fun e w' => (∃ y m n, IsDate d y m n ∧ e = .returned (.tuple #[.int .i64 y, .int .i64 m, .int .i64 n])) ∧ w = w' := by
  have HF := Lib.hid (fit_any d h0 h1 w)
  have HY := Lib.hid (year_any d h0 (by omega) w)
  have HB := Lib.hid (fun y a b => before_any y a b w)
  have HM := Lib.hid (fun y m a b => months_any y m a b w)
  go_enter Tryd.func19, Tryd.ntmps19
  go_wp2_with fail
  refine HF.out.mono ?_; rintro e w' ⟨rfl, rfl⟩
  go_wp2_with fail
  refine HY.out.mono ?_; rintro e w' ⟨⟨y, hy, rfl⟩, rfl⟩
  have hys := year_small hy.1 hy.2.1 (show d ≤ 4194400 by omega)
  have hy1 := hy.1
  have hbb : 0 ≤ beforeI y ∧ beforeI y ≤ d := ⟨by unfold beforeI; omega, hy.2.1⟩
  have HI := Lib.hid hy
  clear hy
  go_wp2_with fail
  refine (HB.out y hy1 (by omega)).mono ?_; rintro e w' ⟨rfl, rfl⟩
  obtain ⟨b, hb⟩ : ∃ b, b = beforeI y := ⟨_, rfl⟩
  rw [← hb] at hbb ⊢
  have HE := Lib.hid hb
  clear hb
  obtain ⟨hb0, hb1⟩ := hbb
  go_wp2_with fail
  go_loopw [0, 6] (fun dv mv wr => PartsRel d y w dv mv wr) (fun _ mv _ => 13 - (intOf mv).toNat)
  case atStart => exact ⟨d - b, 1, rfl, rfl, by omega, by omega, by omega, by have := HE.out; unfold cumI; simp; omega, rfl⟩
  case round =>
    obtain ⟨k, m, rfl, rfl, m1, m2, hk0, heq, rfl⟩ := hrel
    have hk1 : k ≤ d := by
      have hc : 0 ≤ cumI y m := cum_nonneg y m m1 m2
      have := HE.out
      omega
    have HC := HM.out y m (by omega) (by omega)
    have hp := months_pos y m m1 m2
    have hx := cum_next y m m1 m2
    have HQ := Lib.hid (And.intro heq hx)
    clear heq hx
    obtain ⟨q, hq⟩ : ∃ q, q = monthsI y m := ⟨_, rfl⟩
    rw [← hq] at HC hp
    have HW := Lib.hid hq
    clear hq
    obtain ⟨q1, q2⟩ := hp
    by_cases hle : q ≤ k
    · have t1 : decide (q ≤ k) = true := decide_eq_true hle
      have hm12 : m ≤ 11 := by
        have h := HI.out.2.2
        rw [year_len y hy1] at h
        have e := HQ.out
        have e13 : m = 12 → cumI y (m + 1) = 365 + lp y := by rintro rfl; unfold cumI; simp
        rw [← HW.out] at e
        rcases Int.lt_or_le m 12 with h' | h'
        · omega
        · have := e13 (by omega)
          omega
      have ws : IntKind.i64.wrap (m + 1) = m + 1 := IntWalk.i64_in _ ⟨by omega, by omega⟩
      have ws2 : IntKind.i64.wrap (k - q) = k - q := IntWalk.i64_in _ ⟨by omega, by omega⟩
      go_wp2_with fail
      refine HC.mono ?_; rintro e w' ⟨rfl, rfl⟩
      go_wp2_with fail
      refine HC.mono ?_; rintro e w' ⟨rfl, rfl⟩
      go_wp2_with fail
      exact ⟨⟨k - q, m + 1, rfl, rfl, by omega, by omega, by omega, by have := HQ.out; have := HW.out; omega, rfl⟩, by simp [intOf]; omega⟩
    · have t1 : decide (q ≤ k) = false := decide_eq_false hle
      have ws : IntKind.i64.wrap (k + 1) = k + 1 := IntWalk.i64_in _ ⟨by omega, by omega⟩
      go_wp2_with fail
      refine HC.mono ?_; rintro e w' ⟨rfl, rfl⟩
      go_wp2_with fail
      go_ret3
      exact ⟨⟨y, m, k + 1, ⟨HI.out, m1, m2, by omega, by rw [← HW.out]; omega, by have := HQ.out; omega⟩, rfl⟩, rfl⟩

end Go.Proofs.YtpoolbachhelgaaDoor
