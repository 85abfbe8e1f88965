/- clapkeep1.whole: a number of at most 2^53. -/
import Derived.Test.YtpoolbachhelgaaDoorBelow
namespace Go.Proofs.YtpoolbachhelgaaDoor
open Go.RowKit

theorem and2 (x : Int) : Go.bits .and .i64 x 2 = 0 ∨ Go.bits .and .i64 x 2 = 2 := by
  show IntKind.i64.wrap ((BitVec.ofInt 64 x &&& BitVec.ofInt 64 2).toNat : Nat) = 0 ∨ IntKind.i64.wrap ((BitVec.ofInt 64 x &&& BitVec.ofInt 64 2).toNat : Nat) = 2
  have h : BitVec.ofInt 64 2 = BitVec.twoPow 64 1 := by decide
  rw [h, BitVec.and_twoPow]
  split
  · exact Or.inr (by decide)
  · exact Or.inl (by decide)

set_option maxRecDepth 100000 in
set_option maxHeartbeats 1000000 in
theorem whole_any (n k : Int) (w : World) :
    Calls Tryd.prog 25 #[.int .i64 n, .int .i64 k] w fun e w' => (∃ z : Int, e = .returned (.int .i64 z) ∧ -9007199254740992 ≤ z ∧ z ≤ 9007199254740992) ∧ w = w' := by
  have H1 := Lib.hid (below_any n 9007199254740992 (by decide) (by decide) w)
  have H2 := Lib.hid (below_any k 54 (by decide) (by decide) w)
  have a0 : 0 ≤ n % 9007199254740992 := by omega
  have a1 : n % 9007199254740992 < 9007199254740992 := by omega
  have b0 : 0 ≤ k % 54 := by omega
  have b1 : k % 54 < 54 := by omega
  generalize n % 9007199254740992 = x at *
  generalize k % 54 = c at *
  have hd : 0 ≤ x / 2 ^ c.toNat ∧ x / 2 ^ c.toNat ≤ 9007199254740992 := by
    have hp : (0 : Int) < 2 ^ c.toNat := Int.pow_pos (by decide)
    exact ⟨Int.ediv_nonneg a0 (by omega), Int.le_trans (Int.ediv_le_self _ a0) (by omega)⟩
  obtain ⟨d0, d1⟩ := hd
  have h2 := and2 k
  generalize hq : x / 2 ^ c.toNat = q at *
  go_enter Tryd.func25, Tryd.ntmps25
  rcases h2 with h2 | h2
  all_goals
    go_wp2_with fail
    refine H1.out.mono ?_; rintro e w1 ⟨rfl, rfl⟩
    go_wp2_with fail
    refine H2.out.mono ?_; rintro e w1 ⟨rfl, rfl⟩
    go_wp2_with fail
    go_ret
    exact ⟨⟨_, rfl, by omega, by omega⟩, rfl⟩

end Go.Proofs.YtpoolbachhelgaaDoor
