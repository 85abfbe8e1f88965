/- A class turned into the other bytes; no condition beyond those that stand there. -/
import Derived.Test.YtebcflgdjbjkoaaPset
namespace Go.Proofs.Ytebcflgdjbjkoaa
open Go.RowKit

theorem u64_not (x : Nat) (hx : x < 18446744073709551616) : bits .xor .u64 (if IntKind.u64.signed = true then -1 else IntKind.u64.max) (x : Int) = ((18446744073709551615 - x : Nat) : Int) := by
  have e0 : (if IntKind.u64.signed = true then (-1 : Int) else IntKind.u64.max) = 18446744073709551615 := by decide
  rw [e0]
  show IntKind.u64.wrap ((BitVec.ofInt 64 18446744073709551615 ^^^ BitVec.ofInt 64 (x : Int)).toNat : Nat) = _
  have e1 : BitVec.ofInt 64 18446744073709551615 = BitVec.allOnes 64 := by decide
  rw [e1, BitVec.allOnes_xor, BitVec.toNat_not, BitVec.ofInt_natCast, BitVec.toNat_ofNat, Nat.mod_eq_of_lt (by omega)]
  simp [IntKind.wrap, IntKind.bits, IntKind.signed]
  omega
def sturn (s : Set4) : Set4 := [18446744073709551615 - wd s 0, 18446744073709551615 - wd s 1, 18446744073709551615 - wd s 2, 18446744073709551615 - wd s 3]
theorem sturn_words (s : Set4) : Words (sturn s) := by
  refine ⟨rfl, fun x hx => ?_⟩
  simp only [sturn, List.mem_cons, List.not_mem_nil, or_false] at hx
  omega
theorem sturn_wd (s : Set4) (i : Nat) (hi : i < 4) : wd (sturn s) i = 18446744073709551615 - wd s i := by
  rcases (show i = 0 ∨ i = 1 ∨ i = 2 ∨ i = 3 by omega) with rfl | rfl | rfl | rfl <;> rfl
set_option maxRecDepth 100000 in
set_option maxHeartbeats 2000000 in
theorem class_turn (b o : Nat) (s : Set4) (w : World) (hs : Words s) (h : SetAt b o s w) (hf : ∀ j, w.frozen? ⟨b, j, none⟩ = false) :
    Calls Try.prog 58 #[.pointer (some ⟨b, o, none⟩)] w fun e w' => e = .returned (.tuple #[]) ∧ w' = joinW w b o (sturn s) 4 := by
  have HI := Lib.hid (And.intro h (And.intro hf hs))
  clear h hf hs
  go_enter Try.func58, Try.ntmps58
  go_wp2_with fail
  go_loopw [3] (fun iv wr => ∃ i : Nat, iv = .int .i64 i ∧ i ≤ 4 ∧ wr = joinW w b o (sturn s) i) (fun iv _ => 4 - (intOf iv).toNat)
  case atStart => exact ⟨0, rfl, Nat.zero_le _, rfl⟩
  case round =>
    obtain ⟨i, rfl, hi, rfl⟩ := hrel
    by_cases hlt : i < 4
    · have ti : (i : Int) < 4 := by omega
      have wi : IntKind.i64.wrap ((i : Int) + 1) = (i : Int) + 1 := IntWalk.i64_in _ ⟨by omega, by omega⟩
      have hni : ((i : Int)).toNat = i := by omega
      have x1 := (joinW_old w b o (sturn s) i i (Nat.le_refl _) hlt).trans (HI.out.1 i hlt)
      have x3 := (joinW_frozen w b o (sturn s) ⟨b, o + i, none⟩ i).trans (HI.out.2.1 (o + i))
      have hst : joinW w b o (sturn s) (i + 1) = ((joinW w b o (sturn s) i).setCell ⟨b, o + i, none⟩ (.int .u64 (wd (sturn s) i : Nat))).drew := rfl
      have hsw := sturn_wd s i hlt
      have hlt2 := word_lt HI.out.2.2 i
      have HS := Lib.hid (And.intro hst hsw)
      clear hst hsw
      generalize joinW w b o (sturn s) i = wr at *
      generalize wd s i = si at *
      generalize wd (sturn s) i = ri at *
      go_upto_region 3 with fail
      go_region_law (fail)
      all_goals
        go_wp2_with fail
        refine ⟨⟨i + 1, by simp, by omega, ?_⟩, by simp [intOf]; omega⟩
        rw [HS.out.1, HS.out.2, u64_not si hlt2]
    · obtain rfl : i = 4 := by omega
      go_wp2_with fail
      go_returns
      exact ⟨rfl, rfl⟩

end Go.Proofs.Ytebcflgdjbjkoaa
