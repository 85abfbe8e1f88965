/- The contract of decimal.Round at small numbers and places. -/
import Derived.Test.YtpoolbachhelgaaText
namespace Go.Proofs.Ytpoolbachhelgaa
open Go.RowKit

/-- What Round answers. -/
def rnd (n : Int) (a b : Nat) : Int :=
  if a ≤ b then n * 10 ^ (b - a) else if n < 0 then -((-n + 10 ^ (a - b) / 2) / 10 ^ (a - b)) else (n + 10 ^ (a - b) / 2) / 10 ^ (a - b)

def UpRel (n : Int) (a b : Nat) (nv iv : Value) : Prop := ∃ (k : Nat) (x : Int), a ≤ k ∧ k ≤ b ∧ iv = .int .i64 k ∧ nv = .int .i64 x ∧ x = n * 10 ^ (k - a)
def DownRel (a b : Nat) (iv yv : Value) : Prop := ∃ (k : Nat) (y : Int), b ≤ k ∧ k ≤ a ∧ iv = .int .i64 k ∧ yv = .int .i64 y ∧ y = 10 ^ (a - k)

set_option maxRecDepth 100000 in
set_option maxHeartbeats 1000000 in
theorem round_up (n : Int) (a b : Nat) (hab : a ≤ b) (hb : b ≤ 15) (hn : ∀ d, d ≤ b - a → -9007199254740992 ≤ n * 10 ^ d ∧ n * 10 ^ d ≤ 9007199254740992) (w : World) :
    Calls Try.prog 11 #[.int .i64 n, .int .i64 a, .int .i64 b] w fun e w' => e = .returned (.tuple #[.int .i64 (rnd n a b), .int .i64 0]) ∧ w = w' := by
  have hn0 := hn 0 (by omega)
  rw [Int.pow_zero, Int.mul_one] at hn0
  obtain ⟨hn1, hn2⟩ := hn0
  have hfin := Lib.hid (show rnd n a b = n * 10 ^ (b - a) from by unfold rnd; rw [if_pos hab])
  have HN := Lib.hid hn
  clear hn
  have hd1 : decide (b < a) = false := by simp; omega
  go_enter Try.func11, Try.ntmps11
  go_wp2_with (first | (go_at_call 39; refine (right_any _ (by omega) (by omega) _).mono ?_; rintro e w' ⟨rfl, rfl⟩))
  go_loop [0, 1] (fun nv iv => UpRel n a b nv iv) (fun _ iv => b - (intOf iv).toNat)
  case atStart => exact ⟨a, n, by omega, by omega, rfl, rfl, by simp⟩
  case round =>
    obtain ⟨k, x, hk1, hk2, rfl, rfl, hx⟩ := hrel
    by_cases hlt : k < b
    · have hx1 := HN.out (k + 1 - a) (by omega)
      have e : k + 1 - a = (k - a) + 1 := by omega
      rw [e, Int.pow_succ, ← Int.mul_assoc, ← hx] at hx1
      obtain ⟨hx1, hx2⟩ := hx1
      have H := Lib.hid (show UpRel n a b (.int .i64 (x * 10)) (.int .i64 ((k : Int) + 1)) from ⟨k + 1, x * 10, by omega, by omega, by congr 1, rfl, by rw [e, Int.pow_succ, ← Int.mul_assoc, ← hx]⟩)
      clear hx e
      go_wp2_with (first | (go_at_call 39; refine (right_any _ (by omega) (by omega) _).mono ?_; rintro e w' ⟨rfl, rfl⟩))
      exact ⟨H.out, by simp [intOf]; omega⟩
    · obtain rfl : k = b := by omega
      have hfin2 := hfin.out
      rw [← hx] at hfin2
      have hx1 := HN.out (k - a) (by omega)
      rw [← hx] at hx1
      obtain ⟨hx1, hx2⟩ := hx1
      have HF := Lib.hid hfin2
      clear hfin2 hfin hx HN
      go_wp2_with fail
      go_loop [1, 8] (fun iv yv => iv = .int .i64 k ∧ yv = .int .i64 1) (fun _ _ => 0)
      case atStart => exact ⟨rfl, rfl⟩
      case round =>
        obtain ⟨rfl, rfl⟩ := hrel
        go_wp2
        all_goals
          go_ret2
          refine ⟨ret2_int ?_, rfl⟩
          rw [HF.out]

theorem quo_bd (m y : Int) (h0 : 0 ≤ m) (h1 : 1 ≤ y) : 0 ≤ m / y ∧ m / y ≤ m := ⟨Int.ediv_nonneg h0 (by omega), Int.ediv_le_self _ h0⟩
theorem ten_le (d : Nat) (hd : d ≤ 15) : (1 : Int) ≤ 10 ^ d ∧ (10 : Int) ^ d ≤ 1000000000000000 := by
  have h : ∀ d : Fin 16, (1 : Int) ≤ 10 ^ d.1 ∧ (10 : Int) ^ d.1 ≤ 1000000000000000 := by decide +kernel
  exact h ⟨d, by omega⟩

set_option maxRecDepth 100000 in
set_option maxHeartbeats 1000000 in
theorem round_down (n : Int) (a b : Nat) (hab : b < a) (ha : a ≤ 15) (hn1 : -9007199254740992 ≤ n) (hn2 : n ≤ 9007199254740992) (w : World) :
    Calls Try.prog 11 #[.int .i64 n, .int .i64 a, .int .i64 b] w fun e w' => e = .returned (.tuple #[.int .i64 (rnd n a b), .int .i64 0]) ∧ w = w' := by
  have hd1 : decide (a < b) = false := by simp; omega
  go_enter Try.func11, Try.ntmps11
  go_wp2_with (first | (go_at_call 39; refine (right_any _ (by omega) (by omega) _).mono ?_; rintro e w' ⟨rfl, rfl⟩))
  go_loop [0, 1] (fun nv iv => nv = .int .i64 n ∧ iv = .int .i64 a) (fun _ _ => 0)
  case atStart => exact ⟨rfl, rfl⟩
  case round =>
    obtain ⟨rfl, rfl⟩ := hrel
    go_wp2_with fail
    go_loop [1, 8] (fun iv yv => DownRel a b iv yv) (fun iv _ => (intOf iv).toNat)
    case atStart => exact ⟨a, 1, by omega, by omega, rfl, rfl, by simp⟩
    case round =>
      obtain ⟨k, y, hk1, hk2, rfl, rfl, hy⟩ := hrel
      have hy0 := ten_le (a - k) (by omega)
      rw [← hy] at hy0
      obtain ⟨hy1, hy2⟩ := hy0
      by_cases hlt : b < k
      · have e : a - (k - 1) = (a - k) + 1 := by omega
        have hz := ten_le (a - (k - 1)) (by omega)
        rw [e, Int.pow_succ, ← hy] at hz
        obtain ⟨hz1, hz2⟩ := hz
        have H := Lib.hid (show DownRel a b (.int .i64 ((k : Int) - 1)) (.int .i64 (y * 10)) from ⟨k - 1, y * 10, by omega, by omega, by congr 1; omega, rfl, by rw [e, Int.pow_succ, ← hy]⟩)
        clear hy e
        go_wp2
        exact ⟨H.out, by simp [intOf]; omega⟩
      · obtain rfl : k = b := by omega
        by_cases hneg : n < 0
        · have HF := Lib.hid (show rnd n a k = -((-n + y / 2) / y) from by unfold rnd; rw [if_neg (by omega), if_pos hneg, ← hy])
          clear hy
          go_wp2
          go_ret2
          refine ⟨ret2_int ?_, rfl⟩
          rw [HF.out]
          have hq := quo_bd (-n + y / 2) y (by omega) hy1
          exact IntWalk.wrap64_in _ ⟨by omega, by omega⟩
        · have HF := Lib.hid (show rnd n a k = (n + y / 2) / y from by unfold rnd; rw [if_neg (by omega), if_neg hneg, ← hy])
          clear hy
          go_wp2
          go_ret2
          refine ⟨ret2_int ?_, rfl⟩
          rw [HF.out]
          have hq := quo_bd (n + y / 2) y (by omega) hy1
          exact IntWalk.wrap64_in _ ⟨by omega, by omega⟩

theorem round_any (n : Int) (a b : Nat) (ha : a ≤ 15) (hb : b ≤ 15) (hn : ∀ d, d ≤ b - a → -9007199254740992 ≤ n * 10 ^ d ∧ n * 10 ^ d ≤ 9007199254740992) (w : World) :
    Calls Try.prog 11 #[.int .i64 n, .int .i64 a, .int .i64 b] w fun e w' => e = .returned (.tuple #[.int .i64 (rnd n a b), .int .i64 0]) ∧ w = w' := by
  by_cases hab : a ≤ b
  · exact round_up n a b hab hb hn w
  · have := hn 0 (by omega)
    rw [Int.pow_zero, Int.mul_one] at this
    exact round_down n a b (by omega) ha this.1 this.2 w

end Go.Proofs.Ytpoolbachhelgaa
