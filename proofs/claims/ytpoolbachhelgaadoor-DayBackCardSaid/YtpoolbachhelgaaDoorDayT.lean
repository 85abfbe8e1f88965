/- The fact dated: a day as text. -/
import Derived.Test.YtpoolbachhelgaaDoorDayL
import Derived.Test.YtpoolbachhelgaaDoorShelf
import Derived.Lib.AppendIntMem
namespace Go.Proofs.YtpoolbachhelgaaDoor
open Go.RowKit

def pow10Ok (w : World) : Prop := Lib.TabIs Tryd.prog w "internal/strconv.uint64pow10" .u64 Lib.pow10Tab

set_option maxRecDepth 100000 in
set_option maxHeartbeats 1000000 in
theorem padded4 (w : World) (h : pow10Ok w) :
    Calls Tryd.prog 67 #[.int .i64 2024, .int .i64 4] w fun e w' => e = .returned (.string ⟨#[50, 48, 50, 52]⟩) ∧ Below w.heap.size w w' := by
  have HI := Lib.hid (Tryd.strconv_Itoa 2024 (by decide) (by decide) w h)
  have hd : (Lib.itoa 2024) = [50, 48, 50, 52] := by decide +kernel
  rw [hd] at HI
  have m1 : max (0 : Int) (4 - 4) = 0 := by decide
  go_enter Tryd.func67, Tryd.ntmps67
  go_wp2_with fail
  refine HI.out.mono ?_; rintro e w1 ⟨rfl, k, os, rfl⟩
  go_wp2_with fail
  refine (Tryd.strings_Repeat_zero _ _).mono ?_; rintro e w2 ⟨rfl, rfl⟩
  go_wp2_with fail
  go_ret
  exact ⟨rfl, Lib.below_grow _ _ (Nat.le_refl _) k os⟩

set_option maxRecDepth 100000 in
set_option maxHeartbeats 1000000 in
theorem padded3 (w : World) :
    Calls Tryd.prog 67 #[.int .i64 60, .int .i64 3] w fun e w' => e = .returned (.string ⟨#[48, 54, 48]⟩) ∧ Below w.heap.size w w' := by
  have HI := Lib.hid (Tryd.strconv_Itoa_small 60 (by decide) w)
  have hd : (Lib.decDigits 60) = [54, 48] := by decide +kernel
  rw [hd] at HI
  have m1 : max (0 : Int) (3 - 2) = 1 := by decide
  have m2 : max (0 : Int) 1 = 1 := by decide
  go_enter Tryd.func67, Tryd.ntmps67
  go_wp2_with fail
  refine HI.out.mono ?_; rintro e w1 ⟨rfl, rfl⟩
  go_wp2_with fail
  refine (Tryd.strings_Repeat_one _ _).mono ?_; rintro e w2 ⟨rfl, rfl⟩
  go_wp2_with fail
  go_ret
  exact ⟨rfl, Below.refl _ _⟩

def OfRel (w : World) (nv mv : Value) (wr : World) : Prop := w = wr ∧ ((nv = .int .i64 738913 ∧ mv = .int .i64 1) ∨ (nv = .int .i64 738944 ∧ mv = .int .i64 2))
set_option maxRecDepth 100000 in
set_option maxHeartbeats 1000000 in
theorem of_fact (w : World) :
    Calls Tryd.prog 36 #[.int .i64 2024, .int .i64 2, .int .i64 29] w fun e w' => e = .returned (.tuple #[.int .i64 738944, .int .i64 0]) ∧ w = w' := by
  have HB := Lib.hid (fun y a b w => before_any y a b w)
  have HM := Lib.hid (fun y m a b w => months_any y m a b w)
  go_enter Tryd.func36, Tryd.ntmps36
  go_wp2_with fail
  refine (HM.out 2024 2 (by decide) (by decide) w).mono ?_; rintro e w1 ⟨rfl, rfl⟩
  rw [show monthsI 2024 2 = 29 from by decide]
  go_wp2_with fail
  refine (HB.out 2024 (by decide) (by decide) _).mono ?_; rintro e w1 ⟨rfl, rfl⟩
  rw [show beforeI 2024 = 738885 from by decide]
  go_wp2_with fail
  have hm1 : monthsI 2024 1 = 31 := by decide
  go_loopw [8, 9] (fun nv mv wr => OfRel w nv mv wr) (fun _ mv _ => 2 - (intOf mv).toNat)
  case atStart => exact ⟨rfl, Or.inl ⟨rfl, rfl⟩⟩
  case round =>
    obtain ⟨rfl, h⟩ := hrel
    rcases h with ⟨rfl, rfl⟩ | ⟨rfl, rfl⟩
    · go_wp2_with fail
      refine (HM.out 2024 1 (by decide) (by decide) _).mono ?_; rintro e w1 ⟨rfl, rfl⟩
      rw [hm1]
      go_wp2_with fail
      exact ⟨⟨rfl, Or.inr ⟨rfl, rfl⟩⟩, by decide⟩
    · go_wp2_with fail
      go_ret2
      exact ⟨rfl, rfl⟩

theorem date_fact : IsDate 738944 2024 2 29 := ⟨⟨by decide, by decide, by decide⟩, by decide, by decide, by decide, by decide, by decide⟩
set_option maxRecDepth 100000 in
set_option maxHeartbeats 1000000 in
theorem ordinal_fact (w : World) (h : pow10Ok w) :
    Calls Tryd.prog 37 #[.int .i64 738944, .int .i64 1] w fun e w' => e = .returned (.tuple #[.string ⟨#[50, 48, 50, 52, 45, 48, 54, 48]⟩, .int .i64 0]) ∧ Below w.heap.size w w' := by
  have HP := Lib.hid (parts_any 738944 (by decide) (by decide) w)
  have H4 := Lib.hid (padded4 w h)
  have HB := Lib.hid (fun y a b w => before_any y a b w)
  have hb : beforeI 2024 = 738885 := by decide
  go_enter Tryd.func37, Tryd.ntmps37
  go_wp2_with fail
  refine HP.out.mono ?_; rintro e w1 ⟨⟨y, m, n, hd, rfl⟩, rfl⟩
  obtain ⟨rfl, rfl, rfl⟩ := date_unique date_fact hd
  clear hd
  go_wp2_with fail
  refine H4.out.mono ?_; rintro e w1 ⟨rfl, k1⟩
  go_wp2_with fail
  refine (HB.out 2024 (by decide) (by decide) _).mono ?_; rintro e w2 ⟨rfl, rfl⟩
  rw [hb]
  go_wp2_with fail
  refine (padded3 _).mono ?_; rintro e w2 ⟨rfl, k2⟩
  go_wp2_with fail
  go_ret2
  exact ⟨rfl, k1.trans (k2.mono k1.size)⟩

set_option maxRecDepth 100000 in
theorem dated_any (w : World) (h : pow10Ok w) :
    Calls Tryd.prog 23 #[] w fun e w' => e = .returned (.bool true) ∧ Below w.heap.size w w' := by
  have HO := Lib.hid (of_fact w)
  have HT := Lib.hid (ordinal_fact w h)
  go_enter Tryd.func23, Tryd.ntmps23
  go_wp2_with fail
  refine HO.out.mono ?_; rintro e w1 ⟨rfl, rfl⟩
  go_wp2_with fail
  refine HT.out.mono ?_; rintro e w1 ⟨rfl, k1⟩
  go_wp2_with fail
  go_ret
  exact ⟨rfl, k1⟩
end Go.Proofs.YtpoolbachhelgaaDoor
