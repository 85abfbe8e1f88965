/- strings.Cut at a separator of one byte that is there, or not; no condition beyond those that stand there. -/
import Derived.Test.YtpoolbachhelgaaDoorNum
import Derived.Test.YtpoolbachhelgaaDoorRows
import Derived.Test.YtpoolbachhelgaaDoorShelf
import Derived.WalkKit
import Derived.WalkSpells
import Derived.WalkLawsBesides
import Derived.Handy
import Derived.WalkSmall
import Derived.Deep.QuietTactic
import Derived.BigQuiet
namespace Go.Proofs.YtpoolbachhelgaaDoor
open Go.RowKit

theorem indexByte_at (x y : List UInt8) (c : UInt8) (h : ∀ b ∈ x, b ≠ c) : Lib.indexByte (x ++ c :: y) c = x.length := by
  induction x with
  | nil => simp [Lib.indexByte]
  | cons a x ih =>
    have h1 := h a (List.mem_cons_self ..)
    have ih := ih (fun b hb => h b (List.mem_cons_of_mem _ hb))
    rw [List.cons_append, Lib.indexByte, ih]
    have e : (a == c) = false := beq_eq_false_iff_ne.2 h1
    simp [e]
theorem indexByte_none (x : List UInt8) (c : UInt8) (h : ∀ b ∈ x, b ≠ c) : Lib.indexByte x c = -1 := by
  induction x with
  | nil => rfl
  | cons a x ih =>
    have h1 := h a (List.mem_cons_self ..)
    have ih := ih (fun b hb => h b (List.mem_cons_of_mem _ hb))
    rw [Lib.indexByte, ih]
    have e : (a == c) = false := beq_eq_false_iff_ne.2 h1
    simp [e]

set_option maxRecDepth 100000 in
set_option maxHeartbeats 1000000 in
theorem liteCut_at (s : ByteArray) (c : UInt8) (i : Nat) (h : Lib.indexByte s.data.toList c = (i : Int)) (hi : i < s.size) (hs : s.size ≤ 1000000) (w : World) :
    Calls Tryd.prog 61 #[.string s, .string ⟨#[c]⟩] w fun e w' => e = .returned (.tuple #[.string (s.extract 0 i), .string (s.extract (i + 1) s.size), .bool true]) ∧ Below w.heap.size w w' := by
  have hI := Tryd.stringslite_Index_one s c w
  rw [h] at hI
  have HI := Lib.hid hI
  have s1 : IntKind.i64.wrap ((i : Int) + 1) = (i : Int) + 1 := IntWalk.i64_in _ ⟨by omega, by omega⟩
  have s2 : ((i : Int) + 1).toNat = i + 1 := by omega
  have s3 : 0 ≤ (i : Int) + 1 := by omega
  have s4 : (i : Int) + 1 ≤ (s.size : Int) := by omega
  clear h hI
  go_enter Tryd.func61, Tryd.ntmps61
  go_wp2_with fail
  refine HI.out.mono ?_; rintro e w1 ⟨rfl, rfl⟩
  go_wp2_with fail
  go_quiet (fail)
  go_wp2_with fail
  go_ret3
  exact ⟨rfl, below_drewN (Below.refl _ _) _⟩

set_option maxHeartbeats 400000 in
theorem cutOne_at (s : ByteArray) (c : UInt8) (i : Nat) (h : Lib.indexByte s.data.toList c = (i : Int)) (hi : i < s.size) (hs : s.size ≤ 1000000) (w : World) :
    Calls Tryd.prog 28 #[.string s, .string ⟨#[c]⟩] w fun e w' => e = .returned (.tuple #[.string (s.extract 0 i), .string (s.extract (i + 1) s.size), .bool true]) ∧ Below w.heap.size w w' := by
  have H := Lib.hid (liteCut_at s c i h hi hs w)
  clear h hi hs
  go_enter Tryd.func28, Tryd.ntmps28
  go_wp2_with fail
  refine H.out.mono ?_; rintro e w1 ⟨rfl, b1⟩
  go_wp2_with fail
  go_ret3
  exact ⟨rfl, b1⟩

set_option maxHeartbeats 400000 in
theorem cutOne_none (s : ByteArray) (c : UInt8) (h : Lib.indexByte s.data.toList c = -1) (w : World) :
    Calls Tryd.prog 28 #[.string s, .string ⟨#[c]⟩] w fun e w' => e = .returned (.tuple #[.string s, .string ⟨#[]⟩, .bool false]) ∧ w = w' := by
  have hI := Tryd.stringslite_Index_one s c w
  rw [h] at hI
  have HI := Lib.hid hI
  have H : Calls Tryd.prog 61 #[.string s, .string ⟨#[c]⟩] w fun e w' => e = .returned (.tuple #[.string s, .string ⟨#[]⟩, .bool false]) ∧ w = w' := by
    clear h hI
    go_enter Tryd.func61, Tryd.ntmps61
    go_wp2_with fail
    refine HI.out.mono ?_; rintro e w1 ⟨rfl, rfl⟩
    go_wp2_with fail
    go_ret3
    exact ⟨rfl, rfl⟩
  have H := Lib.hid H
  clear h hI
  go_enter Tryd.func28, Tryd.ntmps28
  go_wp2_with fail
  refine H.out.mono ?_; rintro e w1 ⟨rfl, rfl⟩
  go_wp2_with fail
  go_ret3
  exact ⟨rfl, rfl⟩

end Go.Proofs.YtpoolbachhelgaaDoor
