/- The contracts of day.Weekday and day.Week. -/
import Derived.Test.YtpoolbachhelgaaDoorDayP
namespace Go.Proofs.YtpoolbachhelgaaDoor
open Go.RowKit

set_option maxRecDepth 100000 in
theorem weekday_any (d : Int) (h0 : 0 ≤ d) (h1 : d ≤ 4194304) (w : World) :
    Calls Tryd.prog 22 #[.int .i64 d] w fun e w' => e = .returned (.int .i64 (d % 7 + 1)) ∧ w = w' := by
  have HF := Lib.hid (fit_any d h0 h1 w)
  have t7 : Int.tmod d 7 = d % 7 := Int.tmod_eq_emod_of_nonneg h0
  have ws : IntKind.i64.wrap (d % 7 + 1) = d % 7 + 1 := IntWalk.i64_in _ ⟨by omega, by omega⟩
  go_enter Tryd.func22, Tryd.ntmps22
  go_wp2_with fail
  refine HF.out.mono ?_; rintro e w' ⟨rfl, rfl⟩
  go_wp2_with fail
  go_ret
  exact ⟨rfl, rfl⟩

/-- The week of a day. -/
def IsWeek (d a b : Int) : Prop := IsYear (d - d % 7 + 3) a ∧ b = (d - d % 7 + 3 - beforeI a) / 7 + 1
set_option maxRecDepth 100000 in
set_option maxHeartbeats 1000000 in
theorem week_any (d : Int) (h0 : 0 ≤ d) (h1 : d ≤ 4194304) (w : World) :
    Calls Tryd.prog 21 #[.int .i64 d] w fun e w' => (∃ a b, IsWeek d a b ∧ e = .returned (.tuple #[.int .i64 a, .int .i64 b])) ∧ w = w' := by
  have HF := Lib.hid (fun w => fit_any d h0 h1 w)
  have HY := Lib.hid (fun w => year_any (d - d % 7 + 3) (by omega) (by omega) w)
  have HB := Lib.hid (fun y a b w => before_any y a b w)
  have t7 : Int.tmod d 7 = d % 7 := Int.tmod_eq_emod_of_nonneg h0
  have w1 : IntKind.i64.wrap (d - d % 7) = d - d % 7 := IntWalk.i64_in _ ⟨by omega, by omega⟩
  have w2 : IntKind.i64.wrap (d - d % 7 + 3) = d - d % 7 + 3 := IntWalk.i64_in _ ⟨by omega, by omega⟩
  go_enter Tryd.func21, Tryd.ntmps21
  go_wp2_with fail
  refine (HF.out _).mono ?_; rintro e w' ⟨rfl, rfl⟩
  go_wp2_with fail
  refine (HF.out _).mono ?_; rintro e w' ⟨rfl, rfl⟩
  go_wp2_with fail
  refine (HY.out _).mono ?_; rintro e w' ⟨⟨y, hy, rfl⟩, rfl⟩
  have hys := year_small hy.1 hy.2.1 (show d - d % 7 + 3 ≤ 4194400 by omega)
  have hy1 := hy.1
  have hbb : 0 ≤ beforeI y ∧ beforeI y ≤ d - d % 7 + 3 := ⟨by unfold beforeI; omega, hy.2.1⟩
  have HI := Lib.hid hy
  clear hy
  go_wp2_with fail
  refine (HB.out y hy1 (by omega) _).mono ?_; rintro e w' ⟨rfl, rfl⟩
  obtain ⟨b, hb⟩ : ∃ b, b = beforeI y := ⟨_, rfl⟩
  rw [← hb] at hbb ⊢
  have HE := Lib.hid hb
  clear hb
  obtain ⟨hb0, hb1⟩ := hbb
  have w3 : IntKind.i64.wrap (d - d % 7 + 3 - b) = d - d % 7 + 3 - b := IntWalk.i64_in _ ⟨by omega, by omega⟩
  have w4 : IntKind.i64.wrap ((d - d % 7 + 3 - b) / 7) = (d - d % 7 + 3 - b) / 7 := IntWalk.i64_in _ ⟨by omega, by omega⟩
  have w5 : IntKind.i64.wrap ((d - d % 7 + 3 - b) / 7 + 1) = (d - d % 7 + 3 - b) / 7 + 1 := IntWalk.i64_in _ ⟨by omega, by omega⟩
  go_wp2_with fail
  go_ret2
  exact ⟨⟨y, _, ⟨HI.out, rfl⟩, by rw [← HE.out]; rfl⟩, rfl⟩

end Go.Proofs.YtpoolbachhelgaaDoor
