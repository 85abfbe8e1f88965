/- The sets of a machine by their members: where a byte leads, what ends; texts that are read from a set. No program; no condition beyond those that stand there. -/
import Derived.Test.YtebcflgdjbjkoaaHalf
namespace Go.Proofs.Ytebcflgdjbjkoaa
open Go.RowKit

theorem mem_big {s : Set4} (hs : Words s) {j : Nat} (hj : 256 ≤ j) : mem s j = false := by
  unfold mem wd
  have : s[j / 64]? = none := List.getElem?_eq_none (by rw [hs.1]; omega)
  simp [List.getD, this]
theorem set_ext {s t : Set4} (hs : Words s) (ht : Words t) (h : ∀ j, j < 256 → mem s j = mem t j) : s = t := by
  refine List.ext_getElem (by rw [hs.1, ht.1]) fun i h1 h2 => ?_
  have hi : i < 4 := by rw [hs.1] at h1; exact h1
  have e1 : s[i] = wd s i := by simp [wd, List.getD, h1]
  have e2 : t[i] = wd t i := by simp [wd, List.getD, h2]
  rw [e1, e2]
  refine Nat.eq_of_testBit_eq fun k => ?_
  by_cases hk : k < 64
  · have := h (i * 64 + k) (by omega)
    unfold mem at this
    rwa [show (i * 64 + k) / 64 = i by omega, show (i * 64 + k) % 64 = k by omega] at this
  · have p : ∀ x, x < 18446744073709551616 → x.testBit k = false := fun x hx => Nat.testBit_lt_two_pow (Nat.lt_of_lt_of_le hx (show 2 ^ 64 ≤ 2 ^ k from Nat.pow_le_pow_right (by decide) (by omega)))
    rw [p _ (word_lt hs i), p _ (word_lt ht i)]
theorem wd_lt4 (s : Set4) {j : Nat} (hj : ¬ j < 4) (hs : s.length = 4) : wd s j = 0 := by
  have : s[j]? = none := List.getElem?_eq_none (by omega)
  simp [wd, List.getD, this]
theorem smeet_mem (s t : Set4) {j : Nat} (hj : j < 256) : mem (smeet s t) j = (mem s j && mem t j) := by
  unfold mem
  have h : wd (smeet s t) (j / 64) = wd s (j / 64) &&& wd t (j / 64) := by
    rcases (show j / 64 = 0 ∨ j / 64 = 1 ∨ j / 64 = 2 ∨ j / 64 = 3 by omega) with e | e | e | e <;> rw [e] <;> rfl
  rw [h, Nat.testBit_and]
theorem sjoin_mem {s t : Set4} (hs : Words s) (ht : Words t) (j : Nat) : mem (sjoin s t) j = (mem s j || mem t j) := by
  obtain ⟨h1, _⟩ := hs
  obtain ⟨h2, _⟩ := ht
  match s, h1, t, h2 with
  | [a, b, c, d], _, [a', b', c', d'], _ =>
    unfold mem wd
    by_cases h : j < 256
    · rcases (show j / 64 = 0 ∨ j / 64 = 1 ∨ j / 64 = 2 ∨ j / 64 = 3 by omega) with e | e | e | e <;> rw [e] <;> simp [sjoin, List.getD]
    · have e : ∀ l : List Nat, l.length = 4 → l[j / 64]? = none := fun l hl => List.getElem?_eq_none (by omega)
      simp [sjoin, List.getD, e]
theorem mem_e4' (j : Nat) : mem e4 j = false := by
  unfold mem wd e4
  have : ([0, 0, 0, 0] : List Nat).getD (j / 64) 0 = 0 := by
    rcases (show j / 64 = 0 ∨ j / 64 = 1 ∨ j / 64 = 2 ∨ j / 64 = 3 ∨ 4 ≤ j / 64 by omega) with e | e | e | e | e
    · rw [e]; rfl
    · rw [e]; rfl
    · rw [e]; rfl
    · rw [e]; rfl
    · simp [List.getD, e]
  rw [this]
  simp
theorem behindM_mem {fol : List Set4} (hf : ∀ y ∈ fol, Words y) (s : Set4) (j : Nat) : ∀ n, n ≤ fol.length → (mem (behindM fol s n) j = true ↔ ∃ i, i < n ∧ mem s i = true ∧ mem (fol.getD i []) j = true)
  | 0, _ => by
    refine ⟨fun h => ?_, fun ⟨i, h, _⟩ => absurd h (Nat.not_lt_zero _)⟩
    have : behindM fol s 0 = e4 := rfl
    rw [this, mem_e4'] at h
    cases h
  | n + 1, hn => by
    have ih := behindM_mem hf s j n (by omega)
    have hw := behindM_words hf s n (by omega)
    have hwn : Words (fol.getD n []) := hf _ (by simp [List.getD, show n < fol.length by omega])
    rw [behindM_succ]
    split
    · rename_i hm
      rw [sjoin_mem hw hwn, Bool.or_eq_true, ih]
      constructor
      · rintro (⟨i, h1, h2, h3⟩ | h)
        · exact ⟨i, by omega, h2, h3⟩
        · exact ⟨n, by omega, hm, h⟩
      · rintro ⟨i, h1, h2, h3⟩
        rcases Nat.lt_or_ge i n with h4 | h4
        · exact Or.inl ⟨i, h4, h2, h3⟩
        · rw [show i = n by omega] at h3
          exact Or.inr h3
    · rename_i hm
      rw [ih]
      constructor
      · rintro ⟨i, h1, h2, h3⟩
        exact ⟨i, by omega, h2, h3⟩
      · rintro ⟨i, h1, h2, h3⟩
        rcases Nat.lt_or_ge i n with h4 | h4
        · exact ⟨i, h4, h2, h3⟩
        · rw [show i = n by omega] at h2
          exact absurd h2 hm
theorem atM_mem (cls : List Set4) (b j : Nat) : ∀ n, n ≤ 256 → mem (atM cls b n) j = (decide (j < n) && mem (cls.getD j []) b)
  | 0, _ => by
    have : atM cls b 0 = e4 := rfl
    rw [this, mem_e4']
    simp
  | n + 1, hn => by
    have ih := atM_mem cls b j n (by omega)
    rw [atM_succ]
    split
    · rename_i hm
      rw [sadd_mem (atM_words cls b n) n (by omega), ih]
      by_cases e : j = n
      · subst e; rw [hm]; simp
      · have e2 : (j == n) = false := beq_eq_false_iff_ne.2 e
        have e3 : decide (j < n + 1) = decide (j < n) := by
          by_cases h : j < n
          · rw [decide_eq_true h, decide_eq_true (by omega)]
          · rw [decide_eq_false h, decide_eq_false (by omega)]
        rw [e2, e3, Bool.false_or]
    · rename_i hm
      rw [ih]
      by_cases e : j = n
      · subst e
        have hm2 : mem (cls.getD j []) b = false := by simpa using hm
        rw [hm2]; simp
      · have e3 : decide (j < n + 1) = decide (j < n) := by
          by_cases h : j < n
          · rw [decide_eq_true h, decide_eq_true (by omega)]
          · rw [decide_eq_false h, decide_eq_false (by omega)]
        rw [e3]
/-- A plan whose sets are well formed. -/
structure PlanOk (cls fol : List Set4) (x : Part) : Prop where
  fok : ∀ y ∈ fol, Words y
  len : cls.length ≤ 256
  flen : fol.length = cls.length
  xok : x.ok
theorem stepM_words {cls fol : List Set4} {x : Part} (h : PlanOk cls fol x) (s : Set4) (b : Nat) : Words (stepM cls fol s b) := smeet_words (behindM_words h.fok s _ (Nat.le_refl _))
theorem stepM_mem {cls fol : List Set4} {x : Part} (h : PlanOk cls fol x) (s : Set4) (b : Nat) {j : Nat} (hj : j < 256) :
    mem (stepM cls fol s b) j = true ↔ (∃ i, i < fol.length ∧ mem s i = true ∧ mem (fol.getD i []) j = true) ∧ j < cls.length ∧ mem (cls.getD j []) b = true := by
  unfold stepM
  rw [smeet_mem _ _ hj, Bool.and_eq_true, behindM_mem h.fok s j _ (Nat.le_refl _), atM_mem cls b j _ h.len, Bool.and_eq_true, decide_eq_true_iff]
theorem any_mem {s : Set4} (hs : Words s) (t : Set4) : ((List.range 4).any fun i => wd s i &&& wd t i != 0) = true ↔ ∃ j, j < 256 ∧ mem s j = true ∧ mem t j = true := by
  rw [List.any_eq_true]
  constructor
  · rintro ⟨i, hi, hn⟩
    have hi4 : i < 4 := by simpa using hi
    have hne : wd s i &&& wd t i ≠ 0 := by simpa using hn
    obtain ⟨k, hk⟩ := Nat.exists_testBit_of_ne_zero hne
    rw [Nat.testBit_and, Bool.and_eq_true] at hk
    have hk64 : k < 64 := by
      refine Nat.lt_of_not_le fun h => ?_
      have := Nat.testBit_lt_two_pow (Nat.lt_of_lt_of_le (word_lt hs i) (show 2 ^ 64 ≤ 2 ^ k from Nat.pow_le_pow_right (by decide) h))
      rw [this] at hk
      exact absurd hk.1 (by simp)
    refine ⟨i * 64 + k, by omega, ?_, ?_⟩ <;> unfold mem <;> rw [show (i * 64 + k) / 64 = i by omega, show (i * 64 + k) % 64 = k by omega]
    · exact hk.1
    · exact hk.2
  · rintro ⟨j, hj, h1, h2⟩
    refine ⟨j / 64, by simp; omega, ?_⟩
    have h3 : (wd s (j / 64) &&& wd t (j / 64)).testBit (j % 64) = true := by
      rw [Nat.testBit_and]; unfold mem at h1 h2; rw [h1, h2]; rfl
    have : wd s (j / 64) &&& wd t (j / 64) ≠ 0 := fun e => by rw [e] at h3; simp at h3
    simpa using this
theorem endsM_iff {x : Part} {s : Set4} (hs : Words s) : endsM x s = true ↔ (mem s 0 = true ∧ x.em = true) ∨ ∃ j, j < 256 ∧ mem s j = true ∧ mem x.lst j = true := by
  unfold endsM
  rw [Bool.or_eq_true, Bool.and_eq_true, any_mem hs]
theorem reach_words {cls fol : List Set4} {x : Part} (h : PlanOk cls fol x) {s : Set4} (hr : Reach cls fol s) : Words s := by
  cases hr with
  | start => exact sadd_words words_e4 0
  | step b _ _ => exact stepM_words h _ b
/-- A text read from a set. -/
def fromM (cls fol : List Set4) (s : Set4) (l : List UInt8) : Set4 := l.foldl (fun s c => stepM cls fol s c.toNat) s
theorem runM_from (cls fol : List Set4) (l : List UInt8) : runM cls fol l = fromM cls fol (sadd e4 0) l := rfl
theorem fromM_cons (cls fol : List Set4) (s : Set4) (c : UInt8) (l : List UInt8) : fromM cls fol s (c :: l) = fromM cls fol (stepM cls fol s c.toNat) l := rfl
theorem runM_reach (cls fol : List Set4) (l : List UInt8) : Reach cls fol (runM cls fol l) := by
  have : ∀ (l : List UInt8) (s : Set4), Reach cls fol s → Reach cls fol (fromM cls fol s l) := fun l => by
    induction l with
    | nil => exact fun s h => h
    | cons c l ih => exact fun s h => ih _ (Reach.step c.toNat c.toNat_lt h)
  exact this l _ Reach.start
/-- Where few sets are reached, the machine is not too large. -/
theorem not_large {cls fol : List Set4} (L : List Set4) (hL : L.length ≤ 400) (h : ∀ s, Reach cls fol s → s ∈ L) : ¬ Large cls fol := by
  rintro ⟨l, hn, hl, hr⟩
  have := List.Nodup.length_le_of_subset hn (fun s hs => h s (hr s hs))
  omega

end Go.Proofs.Ytebcflgdjbjkoaa
