/- clapkeep1.DayGoes answers true. -/
import Derived.Test.YtpoolbachhelgaaDoorDayT
import Derived.Test.YtpoolbachhelgaaDoorBelow
namespace Go.Proofs.YtpoolbachhelgaaDoor
open Go.RowKit

set_option maxRecDepth 100000 in
set_option maxHeartbeats 2000000 in
theorem dayGoes_walk (d0 : Int) (w : World) (h : pow10Ok w) :
    Calls Tryd.prog 4 #[.int .i64 d0] w fun e w' => e = .returned (.bool true) ∧ Below w.heap.size w w' := by
  have HD := Lib.hid (dated_any w h)
  have HBl := Lib.hid (below_any d0 4194304 (by decide) (by decide) w)
  go_enter Tryd.func4, Tryd.ntmps4
  go_wp2_with fail
  refine HBl.out.mono ?_; rintro e w1 ⟨rfl, rfl⟩
  have d1 : 0 ≤ d0 % 4194304 := by omega
  have d2 : d0 % 4194304 < 4194304 := by omega
  generalize d0 % 4194304 = d at *
  have ws : IntKind.i64.wrap (d + 1) = d + 1 := IntWalk.i64_in _ ⟨by omega, by omega⟩
  have HP1 := Lib.hid (parts_any d (by omega) (by omega) w)
  have HP2 := Lib.hid (parts_any (d + 1) (by omega) (by omega) w)
  have HW1 := Lib.hid (week_any d (by omega) (by omega) w)
  have HW2 := Lib.hid (week_any (d + 1) (by omega) (by omega) w)
  have HE1 := Lib.hid (fun w => weekday_any d (by omega) (by omega) w)
  have HE2 := Lib.hid (fun w => weekday_any (d + 1) (by omega) (by omega) w)
  go_wp2_with fail
  refine HP1.out.mono ?_; rintro e w1 ⟨⟨y, m, n, hd1, rfl⟩, rfl⟩
  go_wp2_with fail
  refine HP2.out.mono ?_; rintro e w1 ⟨⟨z, o, k, hd2, rfl⟩, rfl⟩
  have hy := hd1.year.1
  have hys := year_small hy hd1.year.2.1 (show d ≤ 4194400 by omega)
  have hnx := date_next hd1 hd2
  have hM := fun w => months_any y m (by omega) (by omega) w
  have hmp := months_pos y m hd1.m1 hd1.m2
  have hn1 := hd1.n1
  have hn2 := hd1.n2
  have hm1 := hd1.m1
  have hm2 := hd1.m2
  clear hd1 hd2
  generalize monthsI y m = M at *
  have HM := Lib.hid hM
  clear hM
  have hwd : ((d + 1) % 7 + 1 == (d % 7 + 1) % 7 + 1) = true := beq_iff_eq.2 (by omega)
  have ht7 : Int.tmod (d % 7 + 1) 7 = (d % 7 + 1) % 7 := Int.tmod_eq_emod_of_nonneg (by omega)
  have wm : IntKind.i64.wrap (m + 1) = m + 1 := IntWalk.i64_in _ ⟨by omega, by omega⟩
  have wn : IntKind.i64.wrap (n + 1) = n + 1 := IntWalk.i64_in _ ⟨by omega, by omega⟩
  have wy : IntKind.i64.wrap (y + 1) = y + 1 := IntWalk.i64_in _ ⟨by omega, by omega⟩
  have bn : (n + 1 == 1) = false := beq_eq_false_iff_ne.2 (by omega)
  have bm : (m + 1 == m) = false := beq_eq_false_iff_ne.2 (by omega)
  have by' : (y + 1 == y) = false := beq_eq_false_iff_ne.2 (by omega)
  have hcase : (z = y ∧ o = m ∧ k = n + 1 ∧ decide (n + 1 ≤ M) = true) ∨ (k = 1 ∧ n = M ∧ z = y ∧ o = m + 1) ∨ (k = 1 ∧ n = M ∧ z = y + 1 ∧ o = 1 ∧ m = 12) := by
    rcases hnx with ⟨a1, a2, a3, a4⟩ | ⟨a1, a2, ⟨a3, a4⟩ | ⟨a3, a4, a5⟩⟩
    · exact Or.inl ⟨a1, a2, a3, decide_eq_true (by omega)⟩
    · exact Or.inr (Or.inl ⟨a1, a2, a3, a4⟩)
    · exact Or.inr (Or.inr ⟨a1, a2, a3, a4, a5⟩)
  clear hnx
  rcases hcase with ⟨rfl, rfl, rfl, hk⟩ | ⟨rfl, rfl, rfl, rfl⟩ | ⟨rfl, rfl, rfl, rfl, rfl⟩
  all_goals
    go_wp2_with (go_at_call 20; refine (HM.out _).mono ?_; rintro e w' ⟨rfl, rfl⟩)
    refine HW1.out.mono ?_; rintro e w' ⟨⟨a, b, hw1, rfl⟩, rfl⟩
    go_wp2_with fail
    refine HW2.out.mono ?_; rintro e w' ⟨⟨p, q, hw2, rfl⟩, rfl⟩
    have hnw := week_next hw1 hw2
    have hb1 : 1 ≤ b ∧ b ≤ 1000000 := by
      obtain ⟨⟨i1, i2, i3⟩, i4⟩ := hw1
      have : 0 ≤ beforeI a := by unfold beforeI; omega
      omega
    have ha1 : 1 ≤ a ∧ a ≤ 20000 := by
      obtain ⟨⟨i1, i2, i3⟩, i4⟩ := hw1
      have := year_small i1 i2 (by omega)
      omega
    clear hw1 hw2
    obtain ⟨hb1, hb2⟩ := hb1
    obtain ⟨ha1, ha2⟩ := ha1
    have wb : IntKind.i64.wrap (b + 1) = b + 1 := IntWalk.i64_in _ ⟨by omega, by omega⟩
    have wa : IntKind.i64.wrap (a + 1) = a + 1 := IntWalk.i64_in _ ⟨by omega, by omega⟩
    have ba : (a != a + 1) = true := bne_iff_ne.2 (by omega)
    have bb : (b != b + 1) = true := bne_iff_ne.2 (by omega)
    have bq : (1 != b + 1) = true := bne_iff_ne.2 (by omega)
    have hcw : ((d + 1) % 7 + 1 == 1) = false ∧ a = p ∧ b = q ∨ ((d + 1) % 7 + 1 == 1) = true ∧ ((q = b + 1 ∧ p = a) ∨ (q = 1 ∧ p = a + 1 ∧ decide (b < 52) = false)) := by
      by_cases hmon : (d + 1) % 7 = 0
      · rcases hnw.2 hmon with ⟨h1, h2⟩ | ⟨h1, h2, h3⟩
        · exact Or.inr ⟨beq_iff_eq.2 (by omega), Or.inl ⟨h1, h2⟩⟩
        · exact Or.inr ⟨beq_iff_eq.2 (by omega), Or.inr ⟨h1, h2, decide_eq_false (by omega)⟩⟩
      · exact Or.inl ⟨beq_eq_false_iff_ne.2 (by omega), hnw.1 hmon⟩
    clear hnw
    rcases hcw with ⟨tm, rfl, rfl⟩ | ⟨tm, ⟨rfl, rfl⟩ | ⟨rfl, rfl, t52⟩⟩
    all_goals
      go_wp2_with (first | (go_at_call 22; refine (HE2.out _).mono ?_; rintro e w' ⟨rfl, rfl⟩))
      refine HD.out.mono ?_; rintro e w1 ⟨rfl, k1⟩
      go_wp2_with (first | (go_at_call 22; refine (HE2.out _).mono ?_; rintro e w' ⟨rfl, rfl⟩) | (go_at_call 22; refine (HE1.out _).mono ?_; rintro e w' ⟨rfl, rfl⟩) | (go_at_call 20; refine (HM.out _).mono ?_; rintro e w' ⟨rfl, rfl⟩))
      go_ret
      exact ⟨rfl, k1⟩

end Go.Proofs.YtpoolbachhelgaaDoor
