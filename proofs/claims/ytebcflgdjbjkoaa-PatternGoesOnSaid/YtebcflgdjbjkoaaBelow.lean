/- The contract of clapmake.Below: the rest of a number by a number above 0. -/
import Derived.Test.YtebcflgdjbjkoaaRows
import Derived.Test.YtebcflgdjbjkoaaBlk
import Derived.WalkKit
import Derived.WalkSpells
import Derived.WalkLawsBesides
import Derived.Handy
namespace Go.Proofs.Ytebcflgdjbjkoaa
open Go.RowKit

theorem tmod_emod (x n : Int) (hn : 0 < n) : (Int.tmod x n < 0 → Int.tmod x n + n = x % n) ∧ (0 ≤ Int.tmod x n → Int.tmod x n = x % n) := by
  have h := Int.emod_nonneg x (show n ≠ 0 by omega)
  have h2 := Int.emod_lt_of_pos x hn
  rcases Int.le_total 0 x with hx | hx
  · rw [Int.tmod_eq_emod_of_nonneg hx]
    exact ⟨fun h3 => by omega, fun _ => rfl⟩
  · obtain ⟨y, rfl⟩ : ∃ y, x = -y := ⟨-x, by omega⟩
    rw [Int.neg_tmod, Int.tmod_eq_emod_of_nonneg (by omega)]
    have h3 := Int.emod_nonneg y (show n ≠ 0 by omega)
    have h4 := Int.emod_lt_of_pos y hn
    have h5 : (-y) % n = if y % n = 0 then 0 else n - y % n := by
      split
      · rename_i h0
        exact Int.emod_eq_zero_of_dvd (Int.dvd_neg.mpr (Int.dvd_of_emod_eq_zero h0))
      · rename_i h0
        have e : (-y) % n = (n - y % n) % n := by
          have := Int.emod_add_mul_ediv y n
          rw [show -y = (n - y % n) + n * (-(y / n) - 1) from by rw [Int.mul_sub, Int.mul_neg]; omega]
          exact Int.add_mul_emod_self_left ..
        rw [e]
        exact Int.emod_eq_of_lt (by omega) (by omega)
    rw [h5]
    split <;> constructor <;> intro h6 <;> omega

theorem below_any (x n : Int) (hn : 0 < n) (hn' : n ≤ 9223372036854775807) (w : World) :
    Calls Try.prog 18 #[.int .i64 x, .int .i64 n] w fun e w' => e = .returned (.int .i64 (x % n)) ∧ w = w' := by
  obtain ⟨h1, h2⟩ := tmod_emod x n hn
  have hz : (n == 0) = false := by rw [beq_eq_false_iff_ne]; omega
  have h3 := Int.emod_nonneg x (show n ≠ 0 by omega)
  have h4 := Int.emod_lt_of_pos x hn
  by_cases h : Int.tmod x n < 0
  · have H := Lib.hid (h1 h)
    have hb1 : -9223372036854775808 ≤ Int.tmod x n + n := by rw [H.out]; omega
    have hb2 : Int.tmod x n + n ≤ 9223372036854775807 := by rw [H.out]; omega
    clear h1 h2
    go_enter Try.func18, Try.ntmps18
    go_wp2
    go_ret
    exact ⟨ret_int H.out, rfl⟩
  · have H := Lib.hid (h2 (by omega))
    clear h1 h2
    go_enter Try.func18, Try.ntmps18
    go_wp2
    go_ret
    exact ⟨ret_int H.out, rfl⟩

end Go.Proofs.Ytebcflgdjbjkoaa
