/- clapkeep1.DecimalRounded answers true at all inputs: the plain law on rounding, and the walk through the statement. -/
import Derived.Test.YtpoolbachhelgaaRound
import Derived.Test.YtpoolbachhelgaaBelow
namespace Go.Proofs.Ytpoolbachhelgaa
open Go.RowKit

theorem ten_pos (d : Nat) : (1 : Int) ≤ 10 ^ d := by
  induction d with
  | zero => simp
  | succ d ih => rw [Int.pow_succ]; omega
theorem ten_small (d : Nat) (h : d ≤ 5) : (10 : Int) ^ d ≤ 100000 := by
  have h' : ∀ d : Fin 6, (10 : Int) ^ d.1 ≤ 100000 := by decide
  exact h' ⟨d, by omega⟩
theorem mul_small (n p : Int) (h1 : -1073741824 ≤ n) (h2 : n ≤ 1073741824) (hp : 1 ≤ p) (hp2 : p ≤ 100000) : -107374182400000 ≤ n * p ∧ n * p ≤ 107374182400000 := by
  constructor
  · calc (-107374182400000 : Int) = -1073741824 * 100000 := by decide
      _ ≤ -1073741824 * p := Int.mul_le_mul_of_nonpos_left (by omega) hp2
      _ ≤ n * p := Int.mul_le_mul_of_nonneg_right h1 (by omega)
  · calc n * p ≤ 1073741824 * p := Int.mul_le_mul_of_nonneg_right h2 (by omega)
      _ ≤ 1073741824 * 100000 := Int.mul_le_mul_of_nonneg_left hp2 (by omega)
      _ = 107374182400000 := by decide
theorem up_small (n : Int) (h1 : -1073741824 ≤ n) (h2 : n ≤ 1073741824) (d : Nat) (hd : d ≤ 5) : -9007199254740992 ≤ n * 10 ^ d ∧ n * 10 ^ d ≤ 9007199254740992 := by
  have := mul_small n _ h1 h2 (ten_pos d) (ten_small d hd)
  omega

theorem rnd_bd (n : Int) (a b : Nat) (hb : b ≤ 5) (h1 : -1073741824 ≤ n) (h2 : n ≤ 1073741824) : -9007199254740992 ≤ rnd n a b ∧ rnd n a b ≤ 9007199254740992 := by
  unfold rnd
  split
  · exact up_small n h1 h2 _ (by omega)
  · have hp := ten_pos (a - b)
    have hm : ∀ m : Int, 0 ≤ m → m ≤ 1073741824 → 0 ≤ (m + 10 ^ (a - b) / 2) / 10 ^ (a - b) ∧ (m + 10 ^ (a - b) / 2) / 10 ^ (a - b) ≤ 1073741825 := by
      intro m h3 h4
      generalize (10 : Int) ^ (a - b) = p at hp
      refine ⟨Int.ediv_nonneg (by omega) (by omega), ?_⟩
      have : (m + p / 2) / p < 1073741826 := by
        rw [Int.ediv_lt_iff_lt_mul (by omega)]
        have : 1073741825 * 1 ≤ 1073741825 * p := Int.mul_le_mul_of_nonneg_left hp (by omega)
        omega
      omega
    split
    · have := hm (-n) (by omega) (by omega); omega
    · have := hm n (by omega) (by omega); omega

theorem rnd_neg (n : Int) (a b : Nat) : rnd (-n) a b = -rnd n a b := by
  unfold rnd
  split
  · rw [Int.neg_mul]
  · have hp := ten_pos (a - b)
    generalize (10 : Int) ^ (a - b) = p at hp
    rcases Int.lt_trichotomy n 0 with h | h | h
    · rw [if_neg (by omega), if_pos h]; omega
    · subst h
      simp
      rw [Int.ediv_eq_zero_of_lt (a := p / 2) (b := p) (by omega) (by omega)]; rfl
    · rw [if_pos (by omega), if_neg (by omega), Int.neg_neg]

theorem rnd_mono (n m : Int) (a b : Nat) (h : n ≤ m) : rnd n a b ≤ rnd m a b := by
  unfold rnd
  have hp := ten_pos (a - b)
  have hq := ten_pos (b - a)
  split
  · exact Int.mul_le_mul_of_nonneg_right h (by omega)
  · generalize (10 : Int) ^ (a - b) = p at hp
    have hd : ∀ x y : Int, x ≤ y → x / p ≤ y / p := fun x y hxy => Int.ediv_le_ediv (by omega) hxy
    have h0 : ∀ x : Int, 0 ≤ x → 0 ≤ (x + p / 2) / p := fun x hx => Int.ediv_nonneg (by omega) (by omega)
    split <;> split
    · have := hd (-m + p / 2) (-n + p / 2) (by omega); omega
    · have := h0 (-n) (by omega); have := h0 m (by omega); omega
    · omega
    · exact hd _ _ (by omega)

theorem rnd_back (n : Int) (b : Nat) (h : 0 ≤ n) : rnd (rnd n 0 b) b 0 = n := by
  have e : rnd n 0 b = n * 10 ^ b := by unfold rnd; rw [if_pos (by omega)]; rfl
  rw [e]
  have hp := ten_pos b
  unfold rnd
  split
  · have : b = 0 := by omega
    subst this; simp
  · rw [Nat.sub_zero]
    generalize (10 : Int) ^ b = p at hp
    have hnn : 0 ≤ n * p := Int.mul_nonneg h (by omega)
    rw [if_neg (by omega)]
    rw [Int.add_comm, Int.add_mul_ediv_right _ _ (by omega), Int.ediv_eq_zero_of_lt (by omega) (by omega)]
    omega

set_option maxRecDepth 100000 in
set_option maxHeartbeats 2000000 in
theorem decimalRounded_walk (n m k to : Int) (w : World) :
    Calls Try.prog 3 #[.int .i64 n, .int .i64 m, .int .i64 k, .int .i64 to] w fun e w' => e = .returned (.bool true) ∧ Below w.heap.size w w' := by
  have hB := fun x : Int => below_any x 1073741824 (by omega) (by omega) w
  have hS := fun x : Int => below_any x 6 (by omega) (by omega) w
  obtain ⟨N, hN⟩ : ∃ N, N = n % 1073741824 := ⟨_, rfl⟩
  obtain ⟨M, hM⟩ : ∃ M, M = m % 1073741824 := ⟨_, rfl⟩
  obtain ⟨T, hT⟩ : ∃ T : Nat, (T : Int) = to % 6 := ⟨(to % 6).toNat, by omega⟩
  obtain ⟨K, hK⟩ : ∃ K : Nat, (K : Int) = k % 6 := ⟨(k % 6).toNat, by omega⟩
  have cN := hB n
  have cM := hB m
  have cT := hS to
  have cK := hS k
  rw [← hN] at cN
  rw [← hM] at cM
  rw [← hT] at cT
  rw [← hK] at cK
  have n0 : 0 ≤ N := by omega
  have n1 : N ≤ 1073741824 := by omega
  have m0 : 0 ≤ M := by omega
  have m1 : M ≤ 1073741824 := by omega
  have T5 : T ≤ 5 := by omega
  have K5 : K ≤ 5 := by omega
  clear hB hS hN hM hT hK
  have r1 := round_any N 0 T (by omega) (by omega) (fun d hd => up_small N (by omega) n1 d (by omega)) w
  have r2 := round_any (rnd N 0 T) T 0 (by omega) (by omega) (fun d hd => by
    obtain rfl : d = 0 := by omega
    rw [Int.pow_zero, Int.mul_one]
    exact rnd_bd N 0 T T5 (by omega) n1) w
  rw [rnd_back N T n0] at r2
  have r3 := round_any N K T (by omega) (by omega) (fun d hd => up_small N (by omega) n1 d (by omega)) w
  have r4 := round_any (-N) K T (by omega) (by omega) (fun d hd => up_small (-N) (by omega) (by omega) d (by omega)) w
  rw [rnd_neg] at r4
  have r5 := round_any M K T (by omega) (by omega) (fun d hd => up_small M (by omega) m1 d (by omega)) w
  obtain ⟨x1, x2⟩ := rnd_bd N K T T5 (by omega) n1
  have hmono : N ≤ M → rnd N K T ≤ rnd M K T := rnd_mono N M K T
  generalize rnd N 0 T = A at *
  generalize rnd N K T = X at *
  generalize rnd M K T = Z at *
  have C := Lib.hid (And.intro cN (And.intro cM (And.intro cT (And.intro cK (And.intro r1 (And.intro r2 (And.intro r3 (And.intro r4 r5))))))))
  clear cN cM cT cK r1 r2 r3 r4 r5
  by_cases hNM : M < N
  · clear hmono
    go_enter Try.func3, Try.ntmps3
    go_wp2_with fail
    refine C.out.1.mono ?_; rintro e w' ⟨rfl, rfl⟩
    go_wp2_with fail
    refine C.out.2.1.mono ?_; rintro e w' ⟨rfl, rfl⟩
    go_wp2_with fail
    refine C.out.2.2.1.mono ?_; rintro e w' ⟨rfl, rfl⟩
    go_wp2_with fail
    refine C.out.2.2.2.1.mono ?_; rintro e w' ⟨rfl, rfl⟩
    go_wp2_with fail
    refine C.out.2.2.2.2.1.mono ?_; rintro e w' ⟨rfl, rfl⟩
    go_wp2_with fail
    refine C.out.2.2.2.2.2.1.mono ?_; rintro e w' ⟨rfl, rfl⟩
    go_wp2_with fail
    refine C.out.2.2.2.2.2.2.1.mono ?_; rintro e w' ⟨rfl, rfl⟩
    go_wp2_with fail
    refine C.out.2.2.2.2.2.2.2.1.mono ?_; rintro e w' ⟨rfl, rfl⟩
    go_wp2_with fail
    refine C.out.2.2.2.2.2.2.2.2.mono ?_; rintro e w' ⟨rfl, rfl⟩
    go_wp2_with fail
    refine (numbered_any _).mono ?_; rintro e w' ⟨rfl, hb⟩
    go_wp2_with fail
    go_ret
    exact ⟨rfl, hb⟩
  · have hXZ : X ≤ Z := hmono (by omega)
    clear hmono
    go_enter Try.func3, Try.ntmps3
    go_wp2_with fail
    refine C.out.1.mono ?_; rintro e w' ⟨rfl, rfl⟩
    go_wp2_with fail
    refine C.out.2.1.mono ?_; rintro e w' ⟨rfl, rfl⟩
    go_wp2_with fail
    refine C.out.2.2.1.mono ?_; rintro e w' ⟨rfl, rfl⟩
    go_wp2_with fail
    refine C.out.2.2.2.1.mono ?_; rintro e w' ⟨rfl, rfl⟩
    go_wp2_with fail
    refine C.out.2.2.2.2.1.mono ?_; rintro e w' ⟨rfl, rfl⟩
    go_wp2_with fail
    refine C.out.2.2.2.2.2.1.mono ?_; rintro e w' ⟨rfl, rfl⟩
    go_wp2_with fail
    refine C.out.2.2.2.2.2.2.1.mono ?_; rintro e w' ⟨rfl, rfl⟩
    go_wp2_with fail
    refine C.out.2.2.2.2.2.2.2.1.mono ?_; rintro e w' ⟨rfl, rfl⟩
    go_wp2_with fail
    refine C.out.2.2.2.2.2.2.2.2.mono ?_; rintro e w' ⟨rfl, rfl⟩
    go_wp2_with fail
    refine (numbered_any _).mono ?_; rintro e w' ⟨rfl, hb⟩
    go_wp2_with fail
    go_ret
    exact ⟨rfl, hb⟩

end Go.Proofs.Ytpoolbachhelgaa
