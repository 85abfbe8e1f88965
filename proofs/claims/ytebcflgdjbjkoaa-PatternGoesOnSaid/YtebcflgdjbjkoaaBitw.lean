/- Small facts on the bits of whole numbers of 64 bits: a mask of the last bits is a rest, the or of parts that lie apart is their sum; no condition beyond the bounds that stand there. -/
import Derived.WalkKit
import Derived.Laws.BitsLemmas
import Derived.Lib.Hide
namespace Go.Proofs.Ytebcflgdjbjkoaa
open Go.RowKit

theorem mask_nat (k : Nat) (hk : k ≤ 64) : (BitVec.ofInt 64 (2 ^ k - 1)).toNat = 2 ^ k - 1 := by
  have h1 : ((2 : Int) ^ k - 1) = ((2 ^ k - 1 : Nat) : Int) := by
    have := Nat.two_pow_pos k
    rw [Int.natCast_sub this]; simp
  rw [h1, BitVec.ofInt_natCast, BitVec.toNat_ofNat]
  apply Nat.mod_eq_of_lt
  have h2 : 2 ^ k ≤ 2 ^ 64 := Nat.pow_le_pow_right (by decide) hk
  have := Nat.two_pow_pos k
  omega

theorem mod_toNat (n : Int) (k : Nat) (hk : k ≤ 64) : (((n % ((2 ^ 64 : Nat) : Int)).toNat % 2 ^ k : Nat) : Int) = n % 2 ^ k := by
  have h0 : 0 ≤ n % ((2 ^ 64 : Nat) : Int) := Int.emod_nonneg _ (by decide)
  rw [Int.natCast_emod, Int.toNat_of_nonneg h0]
  have hd : ((2 : Int) ^ k) ∣ (((2 ^ 64 : Nat) : Int)) := by
    have h := Int.natCast_dvd_natCast.mpr (Nat.pow_dvd_pow 2 hk)
    rw [Int.natCast_pow] at h
    exact h
  have : ((2 ^ k : Nat) : Int) = 2 ^ k := by simp
  rw [this]
  exact Int.emod_emod_of_dvd n hd

theorem i64_mask (n : Int) (k : Nat) (hk : k ≤ 63) : Go.bits .and .i64 n (2 ^ k - 1) = n % 2 ^ k := by
  have key : (BitVec.ofInt 64 n &&& BitVec.ofInt 64 (2 ^ k - 1)).toNat = (n % ((2 ^ 64 : Nat) : Int)).toNat % 2 ^ k := by
    rw [BitVec.toNat_and, BitVec.toNat_ofInt, mask_nat k (by omega), Nat.and_two_pow_sub_one_eq_mod]
  show IntKind.i64.wrap ((BitVec.ofInt 64 n &&& BitVec.ofInt 64 (2 ^ k - 1)).toNat : Nat) = n % 2 ^ k
  rw [key, IntKind.wrap_i64, mod_toNat n k (by omega)]
  have hp : (0 : Int) < 2 ^ k := Int.pow_pos (by decide)
  have h0 := Int.emod_nonneg n (show (2 : Int) ^ k ≠ 0 by omega)
  have h1 := Int.emod_lt_of_pos n hp
  have h2 : (2 : Int) ^ k ≤ 2 ^ 63 := by
    have : (2 : Nat) ^ k ≤ 2 ^ 63 := Nat.pow_le_pow_right (by decide) hk
    exact_mod_cast this
  omega

theorem u64_mask (n : Int) (k : Nat) (hk : k ≤ 63) : Go.bits .and .u64 n (2 ^ k - 1) = n % 2 ^ k := by
  have key : (BitVec.ofInt 64 n &&& BitVec.ofInt 64 (2 ^ k - 1)).toNat = (n % ((2 ^ 64 : Nat) : Int)).toNat % 2 ^ k := by
    rw [BitVec.toNat_and, BitVec.toNat_ofInt, mask_nat k (by omega), Nat.and_two_pow_sub_one_eq_mod]
  show IntKind.u64.wrap ((BitVec.ofInt 64 n &&& BitVec.ofInt 64 (2 ^ k - 1)).toNat : Nat) = n % 2 ^ k
  rw [key, mod_toNat n k (by omega)]
  have hp : (0 : Int) < 2 ^ k := Int.pow_pos (by decide)
  have h0 := Int.emod_nonneg n (show (2 : Int) ^ k ≠ 0 by omega)
  have h1 := Int.emod_lt_of_pos n hp
  have h2 : (2 : Int) ^ k ≤ 2 ^ 63 := by
    have : (2 : Nat) ^ k ≤ 2 ^ 63 := Nat.pow_le_pow_right (by decide) hk
    exact_mod_cast this
  simp [IntKind.wrap, IntKind.bits, IntKind.signed]
  omega

/-- Parts that lie apart: the or is the sum. -/
theorem i64_join (x y : Int) (i : Nat) (hi : i ≤ 63) (hx : -9223372036854775808 ≤ x) (hx1 : x < 9223372036854775808) (hd : x % 2 ^ i = 0) (h0 : 0 ≤ y) (h1 : y < 2 ^ i) : Go.bits .or .i64 x y = x + y := by
  obtain ⟨b, rfl⟩ := Int.eq_ofNat_of_zero_le h0
  have hb : b < 2 ^ i := by exact_mod_cast h1
  have hi64 : 2 ^ i ≤ 2 ^ 63 := Nat.pow_le_pow_right (by decide) hi
  have ha0 : 0 ≤ x % ((2 ^ 64 : Nat) : Int) := Int.emod_nonneg _ (by decide)
  obtain ⟨a, ha⟩ := Int.eq_ofNat_of_zero_le ha0
  have hal : a < 2 ^ 64 := by
    have := Int.emod_lt_of_pos x (show (0 : Int) < ((2 ^ 64 : Nat) : Int) by decide)
    rw [ha] at this
    exact_mod_cast this
  have had : a % 2 ^ i = 0 := by
    have h := mod_toNat x i (by omega)
    rw [hd, ha, Int.toNat_natCast] at h
    exact_mod_cast h
  have hq : a = 2 ^ i * (a / 2 ^ i) := by
    have := Nat.div_add_mod a (2 ^ i)
    omega
  have key : (BitVec.ofInt 64 x ||| BitVec.ofInt 64 (b : Int)).toNat = a + b := by
    rw [BitVec.toNat_or, BitVec.toNat_ofInt, ha, Int.toNat_natCast, BitVec.ofInt_natCast, BitVec.toNat_ofNat, Nat.mod_eq_of_lt (by omega)]
    conv => lhs; rw [hq]
    rw [← Nat.two_pow_add_eq_or_of_lt hb (a / 2 ^ i), ← hq]
  show IntKind.i64.wrap ((BitVec.ofInt 64 x ||| BitVec.ofInt 64 (b : Int)).toNat : Nat) = x + b
  rw [key, IntKind.wrap_i64]
  have hs : a + b < 2 ^ 64 := by
    have : a / 2 ^ i < 2 ^ (64 - i) := by
      rw [Nat.div_lt_iff_lt_mul (Nat.two_pow_pos i), ← Nat.pow_add]
      rw [show 64 - i + i = 64 from by omega]; exact hal
    have h2 : (a / 2 ^ i + 1) * 2 ^ i ≤ 2 ^ (64 - i) * 2 ^ i := Nat.mul_le_mul_right _ this
    rw [← Nat.pow_add, show 64 - i + i = 64 from by omega, Nat.add_mul, Nat.one_mul, Nat.mul_comm] at h2
    omega
  have e64 : ((2 ^ 64 : Nat) : Int) = 18446744073709551616 := by decide
  rw [e64] at ha
  have hs' : (a : Int) + b < 18446744073709551616 := by
    have : ((a + b : Nat) : Int) < ((2 ^ 64 : Nat) : Int) := by exact_mod_cast hs
    rw [e64] at this; omega
  rw [Int.natCast_add]
  rcases Int.lt_or_le x 0 with hx0 | hx0
  · have : (a : Int) = x + 18446744073709551616 := by omega
    omega
  · have : (a : Int) = x := by omega
    have hs2 : x + b < 9223372036854775808 := by
      -- x is a multiple of 2^i below 2^63
      have : x / 2 ^ i < 2 ^ (63 - i) := by
        rw [Int.ediv_lt_iff_lt_mul (Int.pow_pos (by decide)), ← Int.pow_add, show 63 - i + i = 63 from by omega]; exact hx1
      have h2 : (x / 2 ^ i + 1) * 2 ^ i ≤ 2 ^ (63 - i) * 2 ^ i := Int.mul_le_mul_of_nonneg_right this (Int.le_of_lt (Int.pow_pos (by decide)))
      rw [← Int.pow_add, show 63 - i + i = 63 from by omega, Int.add_mul, Int.one_mul] at h2
      have h3 := Int.mul_ediv_add_emod x (2 ^ i)
      rw [hd, Int.add_zero, Int.mul_comm] at h3
      omega
    omega

end Go.Proofs.Ytebcflgdjbjkoaa
