/- The machine of a quoted text takes this text alone. No program; no condition beyond those that stand there. -/
import Derived.Test.YtebcflgdjbjkoaaCnt
import Derived.Test.YtebcflgdjbjkoaaQuoted
import Derived.Test.YtebcflgdjbjkoaaMatch
namespace Go.Proofs.Ytebcflgdjbjkoaa
open Go.RowKit

theorem folQ_get : ∀ (m i : Nat), 0 < i → i ≤ m → (folQ m).getD i [] = if i < m then oneS (i + 1) else e4
  | 0, i, h0, h => by omega
  | m + 1, i, h0, h => by
    have hl := folQ_len m
    unfold folQ
    by_cases hm : m = 0
    · subst hm
      have : i = 1 := by omega
      subst this
      rfl
    · rw [if_neg hm]
      by_cases e : i = m
      · subst e
        rw [if_pos (by omega), List.getD_eq_getElem?_getD, List.getElem?_set_self (by simp [hl]; omega)]
        rfl
      · by_cases e2 : i = m + 1
        · subst e2
          rw [if_neg (by omega)]
          simp [List.getD, hl]
        · have ih := folQ_get m i h0 (by omega)
          rw [if_pos (by omega)]
          rw [if_pos (by omega)] at ih
          rw [← ih]
          have h1 : i < (folQ m).length := by omega
          simp [List.getD, Ne.symm e, List.getElem?_append_left h1]
/-- What follows in the plan of a quoted text. -/
def folF (m : Nat) : List Set4 := (folQ m).set 0 (outQ m).fst
theorem folF_len (m : Nat) : (folF m).length = m + 1 := by rw [folF, List.length_set, folQ_len]
theorem folF_get (m i : Nat) (h : i ≤ m) : (folF m).getD i [] = if i < m then oneS (i + 1) else e4 := by
  have hl := folQ_len m
  unfold folF
  rcases Nat.eq_zero_or_pos i with rfl | hi
  · have : ((folQ m).set 0 (outQ m).fst).getD 0 [] = (outQ m).fst := by simp [List.getD, hl]
    rw [this]
    unfold outQ
    by_cases e : m = 0
    · subst e; rfl
    · rw [if_neg e, if_pos (by omega)]
  · have : ((folQ m).set 0 (outQ m).fst).getD i [] = (folQ m).getD i [] := by simp [List.getD, show 0 ≠ i by omega]
    rw [this, folQ_get m i hi h]
theorem clsQ_get (l : List UInt8) (i : Nat) (h : i < l.length) : (clsQ l).getD (i + 1) [] = oneS l[i].toNat := by
  simp [clsQ, List.getD, h]
theorem quoted_ok (l : List UInt8) (hl : l.length ≤ 100) : PlanOk (clsQ l) (folF l.length) (outQ l.length) := by
  refine ⟨fun y hy => ?_, by simp [clsQ]; omega, by rw [folF_len]; simp [clsQ], ?_⟩
  · obtain ⟨i, hi, rfl⟩ := List.getElem_of_mem hy
    have h1 := folF_get l.length i (by rw [folF_len] at hi; omega)
    have h2 : (folF l.length).getD i [] = (folF l.length)[i] := by simp [List.getD, hi]
    rw [← h2, h1]
    split
    · exact one_words _
    · exact words_e4
  · unfold outQ
    split
    · exact ⟨words_e4, words_e4⟩
    · exact ⟨one_words _, one_words _⟩
theorem step_one (l : List UInt8) (hl : l.length ≤ 100) (i : Nat) (hi : i ≤ l.length) (b : UInt8) :
    stepM (clsQ l) (folF l.length) (oneS i) b.toNat = if l[i]? = some b then oneS (i + 1) else e4 := by
  have hp := quoted_ok l hl
  have hw : Words (if l[i]? = some b then oneS (i + 1) else e4) := by
    split
    · exact one_words _
    · exact words_e4
  refine set_ext (stepM_words hp _ _) hw fun j hj => ?_
  rw [Bool.eq_iff_iff, stepM_mem hp _ _ hj]
  constructor
  · rintro ⟨⟨k, hk, hk1, hk2⟩, hj1, hj2⟩
    rw [mem_one i k (by omega)] at hk1
    have : k = i := by simpa using hk1
    subst this
    rw [folF_get l.length k hi] at hk2
    by_cases hkl : k < l.length
    · rw [if_pos hkl, mem_one (k + 1) j (by omega)] at hk2
      have : j = k + 1 := by simpa using hk2
      subst this
      rw [clsQ_get l k hkl, mem_one _ _ (by have := l[k].toNat_lt; omega)] at hj2
      have h3 : b = l[k] := UInt8.toNat_inj.1 (by simpa using hj2)
      rw [if_pos (by rw [h3]; simp [hkl]), mem_one (k + 1) (k + 1) (by omega)]
      simp
    · rw [if_neg hkl, mem_e4] at hk2
      cases hk2
  · intro h
    by_cases hb : l[i]? = some b
    · rw [if_pos hb, mem_one (i + 1) j (by omega)] at h
      have : j = i + 1 := by simpa using h
      subst this
      obtain ⟨hil, hib⟩ := List.getElem?_eq_some_iff.1 hb
      refine ⟨⟨i, by rw [folF_len]; omega, by rw [mem_one i i (by omega)]; simp, ?_⟩, by simp [clsQ]; omega, ?_⟩
      · rw [folF_get l.length i hi, if_pos hil, mem_one (i + 1) (i + 1) (by omega)]
        simp
      · rw [clsQ_get l i hil, hib, mem_one _ _ (by have := b.toNat_lt; omega)]
        simp
    · rw [if_neg hb, mem_e4] at h
      cases h
theorem step_none (l : List UInt8) (hl : l.length ≤ 100) (b : Nat) : stepM (clsQ l) (folF l.length) e4 b = e4 := by
  have hp := quoted_ok l hl
  refine set_ext (stepM_words hp _ _) words_e4 fun j hj => ?_
  rw [Bool.eq_iff_iff, stepM_mem hp _ _ hj]
  constructor
  · rintro ⟨⟨k, _, hk1, _⟩, _⟩
    rw [mem_e4] at hk1
    cases hk1
  · intro h
    rw [mem_e4] at h
    cases h
theorem from_none (l : List UInt8) (hl : l.length ≤ 100) : ∀ u, fromM (clsQ l) (folF l.length) e4 u = e4
  | [] => rfl
  | c :: u => by rw [fromM_cons, step_none l hl]; exact from_none l hl u
theorem from_one (l : List UInt8) (hl : l.length ≤ 100) : ∀ (u : List UInt8) (i : Nat), i ≤ l.length → fromM (clsQ l) (folF l.length) (oneS i) u = if u.isPrefixOf (l.drop i) then oneS (i + u.length) else e4
  | [], i, _ => by simp [fromM]
  | c :: u, i, hi => by
    rw [fromM_cons, step_one l hl i hi c]
    by_cases hc : l[i]? = some c
    · obtain ⟨hil, hic⟩ := List.getElem?_eq_some_iff.1 hc
      rw [if_pos hc, from_one l hl u (i + 1) (by omega)]
      have h1 : l.drop i = c :: l.drop (i + 1) := by rw [← hic]; exact List.drop_eq_getElem_cons hil
      rw [h1]
      simp only [List.isPrefixOf, beq_self_eq_true, Bool.true_and, List.length_cons]
      rw [show i + 1 + u.length = i + (u.length + 1) by omega]
    · rw [if_neg hc, from_none l hl u]
      have h1 : (c :: u).isPrefixOf (l.drop i) = false := by
        cases hd : l.drop i with
        | nil => rfl
        | cons a r =>
          have h2 : l[i]? = some a := by
            have := congrArg (fun l => l[0]?) hd
            simpa using this
          have h3 : c ≠ a := fun e => hc (by rw [e]; exact h2)
          simp [List.isPrefixOf, h3]
      rw [h1]
      simp
theorem end_one (m i : Nat) (hm : m ≤ 100) (hi : i ≤ m) : endsM (outQ m) (oneS i) = (i == m) := by
  rw [Bool.eq_iff_iff, endsM_iff (one_words i), mem_one i 0 (by omega)]
  unfold outQ
  by_cases e : m = 0
  · subst e
    have : i = 0 := by omega
    subst this
    simp
  · rw [if_neg e]
    constructor
    · rintro (⟨_, h⟩ | ⟨j, _, h1, h2⟩)
      · cases h
      · rw [mem_one i j (by omega)] at h1
        rw [mem_one m j (by omega)] at h2
        have h3 : j = i := by simpa using h1
        have h4 : j = m := by simpa using h2
        rw [← h3, ← h4]
        simp
    · intro h
      have : i = m := by simpa using h
      subst this
      refine Or.inr ⟨i, by omega, ?_, ?_⟩ <;> rw [mem_one i i (by omega)] <;> simp
theorem end_none (m : Nat) : endsM (outQ m) e4 = false := by
  rw [Bool.eq_false_iff]
  intro h
  rw [endsM_iff words_e4] at h
  rcases h with ⟨h, _⟩ | ⟨j, _, h, _⟩ <;> rw [mem_e4] at h <;> cases h
/-- A quoted text's machine takes this text alone. -/
theorem quoted_takes (l : List UInt8) (hl : l.length ≤ 100) (u : List UInt8) : endsM (outQ l.length) (runM (clsQ l) (folF l.length) u) = (u == l) := by
  rw [runM_from]
  have h0 := from_one l hl u 0 (Nat.zero_le _)
  rw [show oneS 0 = sadd e4 0 from rfl] at h0
  rw [h0, List.drop_zero, Nat.zero_add]
  rw [Bool.eq_iff_iff]
  by_cases hp : u.isPrefixOf l = true
  · have h2 : u <+: l := List.isPrefixOf_iff_prefix.1 hp
    rw [if_pos hp, end_one l.length u.length hl h2.length_le]
    simp only [beq_iff_eq]
    exact ⟨fun h => h2.eq_of_length h, fun h => by rw [h]⟩
  · rw [if_neg hp, end_none]
    constructor
    · intro h; cases h
    · intro h
      have : u = l := by simpa using h
      subst this
      exact absurd (List.isPrefixOf_iff_prefix.2 List.prefix_rfl) hp
theorem quoted_small (l : List UInt8) (hl : l.length ≤ 100) : ¬ Large (clsQ l) (folF l.length) := by
  refine not_large (e4 :: (List.range (l.length + 1)).map oneS) (by simp; omega) fun s hs => ?_
  have h1 : ∀ i, i ≤ l.length → oneS i ∈ e4 :: (List.range (l.length + 1)).map oneS := fun i hi => List.mem_cons_of_mem _ (List.mem_map.2 ⟨i, by simp; omega, rfl⟩)
  induction hs with
  | start => exact h1 0 (Nat.zero_le _)
  | @step s b hb _ ih =>
    rcases List.mem_cons.1 ih with rfl | h
    · rw [step_none l hl]; simp
    · obtain ⟨i, hi, rfl⟩ := List.mem_map.1 h
      have hi2 : i < l.length + 1 := by simpa using hi
      have := step_one l hl i (by omega) (UInt8.ofNat b)
      rw [show (UInt8.ofNat b).toNat = b by simp; omega] at this
      rw [this]
      split
      · rename_i hb2
        exact h1 (i + 1) (List.getElem?_eq_some_iff.1 hb2).1
      · simp

end Go.Proofs.Ytebcflgdjbjkoaa
/- clapkeep1.matched, from what pattern.build does; no condition beyond those that stand there. -/
namespace Go.Proofs.Ytebcflgdjbjkoaa
open Go.RowKit

theorem match_ok (hbuild : BuildSaid) (p s : ByteArray) (cls fol : List Set4) (x : Part) (hs : s.size ≤ 140737488355328) (w : World) (h : ParsedTo p cls fol x) (hL : ¬ Large cls fol) :
    Calls Try.prog 8 #[.string p, .string s] w fun e w' => e = .returned (.tuple #[.bool (endsM x (runM cls fol s.data.toList)), .int .i64 0]) ∧ Below w.heap.size w w' := by
  refine (match_any hbuild p s cls fol x hs w h).mono ?_
  rintro e w' ⟨hb, h | h⟩
  · exact absurd h.2 hL
  · exact ⟨h, hb⟩
def clsA : List Set4 := [e4, oneS 97]
def folA : List Set4 := [oneS 1, oneS 1]
def outA : Part := ⟨false, oneS 1, oneS 1⟩
theorem parsed_a : ParsedTo ⟨#[97, 43]⟩ clsA folA outA := by
  refine ⟨20, ⟨2, clsA, [e4, oneS 1], false⟩, ?_, rfl, ?_, rfl, rfl, ?_⟩
  · kernel_rfl
  · decide
  · decide
theorem small_a : ¬ Large clsA folA := by
  refine not_large [oneS 0, oneS 1, e4] (by decide) fun s hs => ?_
  have h1 : ∀ b, b < 256 → ∀ s ∈ [oneS 0, oneS 1, e4], stepM clsA folA s b ∈ [oneS 0, oneS 1, e4] := by decide +kernel
  induction hs with
  | start => exact List.mem_cons_self
  | @step s b hb _ ih => exact h1 b hb s ih
set_option maxRecDepth 100000 in
set_option maxHeartbeats 1000000 in
theorem matched_any (hbuild : BuildSaid) (w : World) : Calls Try.prog 10 #[] w fun e w' => e = .returned (.bool true) ∧ Below w.heap.size w w' := by
  have e1 : endsM outA (runM clsA folA (⟨#[97, 97]⟩ : ByteArray).data.toList) = true := by decide +kernel
  have e2 : endsM outA (runM clsA folA (⟨#[98]⟩ : ByteArray).data.toList) = false := by decide +kernel
  have hM1 := Lib.hid (match_ok hbuild ⟨#[97, 43]⟩ ⟨#[97, 97]⟩ clsA folA outA (by decide) w parsed_a small_a)
  have hM2 := Lib.hid (fun w => match_ok hbuild ⟨#[97, 43]⟩ ⟨#[98]⟩ clsA folA outA (by decide) w parsed_a small_a)
  rw [e1] at hM1
  clear e1 hbuild
  have HE := Lib.hid e2
  clear e2
  go_enter Try.func10, Try.ntmps10
  go_upto_region 2 with (go_at_call 8; refine hM1.out.mono ?_; rintro e w1 ⟨rfl, hb1⟩)
  have hM3 := hM2.out w1
  rw [HE.out] at hM3
  have hM4 := Lib.hid hM3
  clear hM3 hM2 hM1 HE
  go_wp2_with (go_at_call 8; refine hM4.out.mono ?_; rintro e w2 ⟨rfl, hb2⟩)
  go_ret
  exact ⟨rfl, hb1.trans (hb2.mono hb1.size)⟩

end Go.Proofs.Ytebcflgdjbjkoaa
