/- clapkeep1.matched, from what pattern.build does; no condition beyond those that stand there. -/
import Derived.Test.YtebcflgdjbjkoaaMatch
import Derived.Test.YtebcflgdjbjkoaaPatQ
namespace Go.Proofs.Ytebcflgdjbjkoaa
open Go.RowKit

theorem match_ok (hbuild : BuildSaid) (p s : ByteArray) (cls fol : List Set4) (x : Part) (hs : s.size ≤ 140737488355328) (w : World) (h : ParsedTo p cls fol x) (hL : ¬ Large cls fol) :
    Calls Try.prog 8 #[.string p, .string s] w fun e w' => e = .returned (.tuple #[.bool (endsM x (runM cls fol s.data.toList)), .int .i64 0]) ∧ Below w.heap.size w w' := by
  refine (match_any hbuild p s cls fol x hs w h).mono ?_
  rintro e w' ⟨hb, h | h⟩
  · exact absurd h.2 hL
  · exact ⟨h, hb⟩
def clsA : List Set4 := [e4, oneS 97]
def folA : List Set4 := [oneS 1, oneS 1]
def outA : Part := ⟨false, oneS 1, oneS 1⟩
theorem parsed_a : ParsedTo ⟨#[97, 43]⟩ clsA folA outA := by
  refine ⟨20, ⟨2, clsA, [e4, oneS 1], false⟩, ?_, rfl, ?_, rfl, rfl, ?_⟩
  · kernel_rfl
  · decide
  · decide
theorem small_a : ¬ Large clsA folA := by
  refine not_large [oneS 0, oneS 1, e4] (by decide) fun s hs => ?_
  have h1 : ∀ b, b < 256 → ∀ s ∈ [oneS 0, oneS 1, e4], stepM clsA folA s b ∈ [oneS 0, oneS 1, e4] := by decide +kernel
  induction hs with
  | start => exact List.mem_cons_self
  | @step s b hb _ ih => exact h1 b hb s ih
set_option maxRecDepth 100000 in
set_option maxHeartbeats 1000000 in
theorem matched_any (hbuild : BuildSaid) (w : World) : Calls Try.prog 10 #[] w fun e w' => e = .returned (.bool true) ∧ Below w.heap.size w w' := by
  have e1 : endsM outA (runM clsA folA (⟨#[97, 97]⟩ : ByteArray).data.toList) = true := by decide +kernel
  have e2 : endsM outA (runM clsA folA (⟨#[98]⟩ : ByteArray).data.toList) = false := by decide +kernel
  have hM1 := Lib.hid (match_ok hbuild ⟨#[97, 43]⟩ ⟨#[97, 97]⟩ clsA folA outA (by decide) w parsed_a small_a)
  have hM2 := Lib.hid (fun w => match_ok hbuild ⟨#[97, 43]⟩ ⟨#[98]⟩ clsA folA outA (by decide) w parsed_a small_a)
  rw [e1] at hM1
  clear e1 hbuild
  have HE := Lib.hid e2
  clear e2
  go_enter Try.func10, Try.ntmps10
  go_upto_region 2 with (go_at_call 8; refine hM1.out.mono ?_; rintro e w1 ⟨rfl, hb1⟩)
  have hM3 := hM2.out w1
  rw [HE.out] at hM3
  have hM4 := Lib.hid hM3
  clear hM3 hM2 hM1 HE
  go_wp2_with (go_at_call 8; refine hM4.out.mono ?_; rintro e w2 ⟨rfl, hb2⟩)
  go_ret
  exact ⟨rfl, hb1.trans (hb2.mono hb1.size)⟩

end Go.Proofs.Ytebcflgdjbjkoaa
