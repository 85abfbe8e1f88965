/- The fact strung: 5 in 4 bits. -/
import Derived.Test.YtpoolbachhelgaaDoorBitsText
namespace Go.Proofs.YtpoolbachhelgaaDoor
open Go.RowKit

theorem field_fact : field 5 4 false = [0, 1, 0, 1] := by decide
theorem pack_nil : pack [] = [] := rfl

theorem put_fact (w : World) :
    Calls Tryd.prog 45 #[.agg #[.slice none 0 0, .int .i64 0], .int .i64 5, .int .i64 4, .bool false] w fun e w' => ∃ p c, e = .returned (.tuple #[.agg #[.slice p 1 c, .int .i64 4], .int .i64 0]) ∧ BitsV w' (.agg #[.slice p 1 c, .int .i64 4]) [0, 1, 0, 1] ∧ Below w.heap.size w w' := by
  refine (put_any (.agg #[.slice none 0 0, .int .i64 (([] : List Nat).length : Nat)]) [] Bin.nil 5 4 false (by decide) (by decide) (by decide) (by decide) w ⟨_, rfl, Or.inl ⟨rfl, rfl⟩⟩).mono ?_
  rintro e w1 ⟨p, c, rfl, hown, b1⟩
  rw [List.nil_append, field_fact] at *
  exact ⟨p, c, rfl, ⟨_, rfl, SlK.of_owns (by rw [intsOf_length]; exact hown)⟩, b1⟩

set_option maxRecDepth 100000 in
set_option maxHeartbeats 1000000 in
theorem strung_any (w : World) :
    Calls Tryd.prog 16 #[] w fun e w' => e = .returned (.bool true) ∧ Below w.heap.size w w' := by
  have HT := Lib.hid (fun (v : Value) (w1 : World) (h : BitsV w1 v [0, 1, 0, 1]) => text_any v [0, 1, 0, 1] (by intro x hx; simp at hx; omega) (by decide) w1 h)
  have hd : digitsOf [0, 1, 0, 1] = [48, 49, 48, 49] := by decide
  rw [hd] at HT
  go_enter Tryd.func16, Tryd.ntmps16
  go_wp2_with fail
  refine (put_fact _).mono ?_; rintro e w1 ⟨p, c, rfl, hown, b1⟩
  have HO := Lib.hid hown
  clear hown
  go_wp2_with fail
  refine (HT.out _ _ (HO.out.below (by go_grown))).mono ?_; rintro e w2 ⟨rfl, b2⟩
  go_wp2_with fail
  go_ret
  exact ⟨rfl, b1.trans (((Below.refl w1.heap.size w1).alloc (Nat.le_refl _) _ |>.trans (b2.mono (by simp))).mono b1.size)⟩

end Go.Proofs.YtpoolbachhelgaaDoor
