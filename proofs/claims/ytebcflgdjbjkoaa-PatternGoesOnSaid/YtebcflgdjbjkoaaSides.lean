/- The texts of a pattern, by its parts: a part of a plan takes the texts of its expression. No program; no condition beyond those that stand there. -/
import Derived.Test.YtebcflgdjbjkoaaNfa
namespace Go.Proofs.Ytebcflgdjbjkoaa
open Go.RowKit

/-- Expressions. -/
inductive Rx where
  | eps
  | chr (k : Set4)
  | seq (a b : Rx)
  | alt (a b : Rx)
  | plus (a : Rx)
  | opt (a : Rx)
/-- One or more texts of a kind, one after the other. -/
inductive Many (L : List UInt8 → Prop) : List UInt8 → Prop where
  | one {w : List UInt8} : L w → Many L w
  | more {u v : List UInt8} : L u → Many L v → Many L (u ++ v)
/-- The texts of an expression. -/
def Rx.Has : Rx → List UInt8 → Prop
  | .eps, w => w = []
  | .chr k, w => ∃ c : UInt8, w = [c] ∧ mem k c.toNat = true
  | .seq a b, w => ∃ u v, w = u ++ v ∧ a.Has u ∧ b.Has v
  | .alt a b, w => a.Has w ∨ b.Has w
  | .plus a, w => Many a.Has w
  | .opt a, w => w = [] ∨ a.Has w
/-- From position p a text leads to position q. -/
def Path (cls fol : List Set4) : Nat → List UInt8 → Nat → Prop
  | p, [], q => p = q
  | p, c :: w, q => ∃ r, mem (fol.getD p []) r = true ∧ mem (cls.getD r []) c.toNat = true ∧ Path cls fol r w q
/-- A part takes a text. -/
def Takes (cls fol : List Set4) (x : Part) (w : List UInt8) : Prop :=
  (w = [] ∧ x.em = true) ∨ ∃ c v p q, w = c :: v ∧ mem x.fst p = true ∧ mem (cls.getD p []) c.toNat = true ∧ Path cls fol p v q ∧ mem x.lst q = true
theorem path_app {cls fol : List Set4} : ∀ {p : Nat} {u v : List UInt8} {q : Nat}, Path cls fol p (u ++ v) q ↔ ∃ r, Path cls fol p u r ∧ Path cls fol r v q
  | p, [], v, q => ⟨fun h => ⟨p, rfl, h⟩, fun ⟨r, h1, h2⟩ => by have : p = r := h1; subst this; exact h2⟩
  | p, c :: u, v, q => by
    constructor
    · rintro ⟨r, h1, h2, h3⟩
      obtain ⟨r2, h4, h5⟩ := path_app.1 h3
      exact ⟨r2, ⟨r, h1, h2, h4⟩, h5⟩
    · rintro ⟨r2, ⟨r, h1, h2, h4⟩, h5⟩
      exact ⟨r, h1, h2, path_app.2 ⟨r2, h4, h5⟩⟩
/-- The positions of a plan from n on are kept apart from those ahead of them; what a part of them takes. -/
structure Glu (n : Nat) (st : PSt) (x : Part) (e : Rx) : Prop where
  cok : ∀ y ∈ st.cls, Words y
  fok : ∀ y ∈ st.fol, Words y
  len : st.cls.length = st.fol.length ∧ st.cls.length ≤ 256
  low : n ≤ st.cls.length
  xok : x.ok
  fst : ∀ p, mem x.fst p = true → n ≤ p ∧ p < st.cls.length
  lst : ∀ p, mem x.lst p = true → n ≤ p ∧ p < st.cls.length
  fol : ∀ p q, n ≤ p → mem (st.fol.getD p []) q = true → n ≤ q ∧ q < st.cls.length
  has : ∀ w, Takes st.cls st.fol x w ↔ e.Has w
/-- Where a path begins at a position from n on, it stays there; and it does not see what lies outside. -/
theorem path_in {cls fol cls' fol' : List Set4} {n m : Nat} (hc : ∀ p, n ≤ p → p < m → cls'.getD p [] = cls.getD p []) (hf : ∀ p, n ≤ p → p < m → fol'.getD p [] = fol.getD p []) (hin : ∀ p q, n ≤ p → p < m → mem (fol.getD p []) q = true → n ≤ q ∧ q < m) :
    ∀ (w : List UInt8) (p q : Nat), n ≤ p → p < m → (Path cls' fol' p w q ↔ Path cls fol p w q)
  | [], _, _, _, _ => Iff.rfl
  | c :: w, p, q, h1, h2 => by
    constructor
    · rintro ⟨r, a, b, d⟩
      rw [hf p h1 h2] at a
      have hr := hin p r h1 h2 a
      rw [hc r hr.1 hr.2] at b
      exact ⟨r, a, b, (path_in hc hf hin w r q hr.1 hr.2).1 d⟩
    · rintro ⟨r, a, b, d⟩
      have hr := hin p r h1 h2 a
      exact ⟨r, by rw [hf p h1 h2]; exact a, by rw [hc r hr.1 hr.2]; exact b, (path_in hc hf hin w r q hr.1 hr.2).2 d⟩
theorem path_end {cls fol : List Set4} {n m : Nat} (hin : ∀ p q, n ≤ p → p < m → mem (fol.getD p []) q = true → n ≤ q ∧ q < m) : ∀ (w : List UInt8) (p q : Nat), n ≤ p → p < m → Path cls fol p w q → n ≤ q ∧ q < m
  | [], p, q, h1, h2, h => by have : p = q := h; subst this; exact ⟨h1, h2⟩
  | c :: w, p, q, h1, h2, ⟨r, a, _, d⟩ => by
    have hr := hin p r h1 h2 a
    exact path_end hin w r q hr.1 hr.2 d
/-- A plan in which the part's positions and what follows on them stand as before: the part takes the same. -/
theorem Takes.congr {cls fol cls' fol' : List Set4} {n m : Nat} {x : Part} (hx : ∀ p, mem x.fst p = true → n ≤ p ∧ p < m) (hc : ∀ p, n ≤ p → p < m → cls'.getD p [] = cls.getD p []) (hf : ∀ p, n ≤ p → p < m → fol'.getD p [] = fol.getD p []) (hin : ∀ p q, n ≤ p → p < m → mem (fol.getD p []) q = true → n ≤ q ∧ q < m) (w : List UInt8) :
    Takes cls' fol' x w ↔ Takes cls fol x w := by
  unfold Takes
  refine or_congr Iff.rfl ?_
  constructor
  · rintro ⟨c, v, p, q, hw, h1, h2, h3, h4⟩
    have hp := hx p h1
    rw [hc p hp.1 hp.2] at h2
    exact ⟨c, v, p, q, hw, h1, h2, (path_in hc hf hin v p q hp.1 hp.2).1 h3, h4⟩
  · rintro ⟨c, v, p, q, hw, h1, h2, h3, h4⟩
    have hp := hx p h1
    exact ⟨c, v, p, q, hw, h1, by rw [hc p hp.1 hp.2]; exact h2, (path_in hc hf hin v p q hp.1 hp.2).2 h3, h4⟩
theorem mem_nil (q : Nat) : mem [] q = false := by simp [mem, wd]
theorem getD_out {l : List Set4} {p : Nat} (h : l.length ≤ p) : l.getD p [] = [] := by simp [List.getD, h]
theorem linkF_mem {f t : Set4} (ht : Words t) {l : List Set4} (hl : ∀ y ∈ l, Words y) {i : Nat} (hi : i < l.length) (q : Nat) : ∀ n, n ≤ l.length → (mem ((linkF f t l n).getD i []) q = true ↔ mem (l.getD i []) q = true ∨ (i < n ∧ mem f i = true ∧ mem t q = true))
  | 0, _ => by simp [linkF]
  | n + 1, hn => by
    have ih := linkF_mem (f := f) ht hl hi q n (by omega)
    have hw : ∀ m, m ≤ l.length → ∀ y ∈ linkF f t l m, Words y := fun m => by
      induction m with
      | zero => intro _ y hy; exact hl y hy
      | succ m ihm =>
        intro hm y hy
        rw [linkF_succ] at hy
        split at hy
        · rcases List.mem_or_eq_of_mem_set hy with h | h
          · exact ihm (by omega) y h
          · rw [h]
            refine sjoin_words ?_ ht
            have hml : m < (linkF f t l m).length := by rw [linkF_len]; omega
            have : (linkF f t l m).getD m [] = (linkF f t l m)[m] := by simp [List.getD, hml]
            rw [this]
            exact ihm (by omega) _ (List.getElem_mem hml)
        · exact ihm (by omega) y hy
    have hlen : (linkF f t l n).length = l.length := linkF_len f t l n
    rw [linkF_succ]
    split
    · rename_i hf
      by_cases e : n = i
      · subst e
        have h1 : ((linkF f t l n).set n (sjoin ((linkF f t l n).getD n []) t)).getD n [] = sjoin ((linkF f t l n).getD n []) t := by
          rw [List.getD_eq_getElem?_getD, List.getElem?_set_self (by rw [hlen]; exact hi)]
          rfl
        have hwn : Words ((linkF f t l n).getD n []) := by
          have hml : n < (linkF f t l n).length := by rw [hlen]; exact hi
          have : (linkF f t l n).getD n [] = (linkF f t l n)[n] := by simp [List.getD, hml]
          rw [this]
          exact hw n (by omega) _ (List.getElem_mem hml)
        rw [h1, sjoin_mem hwn ht, Bool.or_eq_true, ih]
        constructor
        · rintro ((h | h) | h)
          · exact Or.inl h
          · exact absurd h.1 (Nat.lt_irrefl _)
          · exact Or.inr ⟨by omega, hf, h⟩
        · rintro (h | h)
          · exact Or.inl (Or.inl h)
          · exact Or.inr h.2.2
      · have h1 : ((linkF f t l n).set n (sjoin ((linkF f t l n).getD n []) t)).getD i [] = (linkF f t l n).getD i [] := by
          rw [List.getD_eq_getElem?_getD, List.getElem?_set_ne e, ← List.getD_eq_getElem?_getD]
        rw [h1, ih]
        constructor
        · rintro (h | h)
          · exact Or.inl h
          · exact Or.inr ⟨by omega, h.2⟩
        · rintro (h | h)
          · exact Or.inl h
          · exact Or.inr ⟨by omega, h.2⟩
    · rename_i hf
      rw [ih]
      constructor
      · rintro (h | h)
        · exact Or.inl h
        · exact Or.inr ⟨by omega, h.2⟩
      · rintro (h | h)
        · exact Or.inl h
        · refine Or.inr ⟨?_, h.2⟩
          rcases Nat.lt_or_ge i n with h2 | h2
          · exact h2
          · have : i = n := by omega
            subst this
            exact absurd h.2.1 hf
/-- Nothing is read. -/
theorem Glu.eps {st : PSt} (hc : ∀ y ∈ st.cls, Words y) (hf : ∀ y ∈ st.fol, Words y) (hl : st.cls.length = st.fol.length ∧ st.cls.length ≤ 256) : Glu st.cls.length st ⟨true, e4, e4⟩ .eps := by
  refine ⟨hc, hf, hl, Nat.le_refl _, ⟨words_e4, words_e4⟩, fun p h => ?_, fun p h => ?_, fun p q hp h => ?_, fun w => ?_⟩
  · rw [mem_e4'] at h; cases h
  · rw [mem_e4'] at h; cases h
  · rw [getD_out (by omega), mem_nil] at h; cases h
  · constructor
    · rintro (⟨h, _⟩ | ⟨_, _, p, _, _, h, _⟩)
      · exact h
      · rw [mem_e4'] at h; cases h
    · intro h
      exact Or.inl ⟨h, rfl⟩
/-- What is behind the positions of a state stands as it did. -/
structure Keeps (st st' : PSt) : Prop where
  le : st.cls.length ≤ st'.cls.length
  cls : ∀ p, p < st.cls.length → st'.cls.getD p [] = st.cls.getD p []
  fol : ∀ p, p < st.cls.length → st'.fol.getD p [] = st.fol.getD p []
theorem Keeps.refl (st : PSt) : Keeps st st := ⟨Nat.le_refl _, fun _ _ => rfl, fun _ _ => rfl⟩
theorem Keeps.trans {a b c : PSt} (h : Keeps a b) (k : Keeps b c) : Keeps a c :=
  ⟨Nat.le_trans h.le k.le, fun p hp => (k.cls p (Nat.lt_of_lt_of_le hp h.le)).trans (h.cls p hp), fun p hp => (k.fol p (Nat.lt_of_lt_of_le hp h.le)).trans (h.fol p hp)⟩
section
variable {n : Nat} {st st1 st2 : PSt} {x x1 x2 : Part} {e e1 e2 : Rx}
/-- A part in a later state. -/
theorem Glu.later (h : Glu n st1 x e) (hk : Keeps st1 st2) :
    (∀ w, Takes st2.cls st2.fol x w ↔ e.Has w) ∧ ∀ p q, n ≤ p → p < st1.cls.length → mem (st2.fol.getD p []) q = true → n ≤ q ∧ q < st1.cls.length := by
  refine ⟨fun w => ?_, fun p q h1 h2 h3 => ?_⟩
  · rw [← h.has w]
    exact Takes.congr h.fst (fun p _ hp => hk.cls p hp) (fun p _ hp => hk.fol p hp) (fun p q a _ c => h.fol p q a c) w
  · rw [hk.fol p h2] at h3
    exact h.fol p q h1 h3
/-- Either of two parts. -/
theorem Glu.alt (h1 : Glu n st1 x1 e1) (h2 : Glu st1.cls.length st2 x2 e2) (hk : Keeps st1 st2) :
    Glu n st2 ⟨x1.em || x2.em, sjoin x1.fst x2.fst, sjoin x1.lst x2.lst⟩ (.alt e1 e2) := by
  obtain ⟨hh, hin⟩ := h1.later hk
  have hlow := h1.low
  refine ⟨h2.cok, h2.fok, h2.len, Nat.le_trans h1.low hk.le, ⟨sjoin_words h1.xok.1 h2.xok.1, sjoin_words h1.xok.2 h2.xok.2⟩, fun p hp => ?_, fun p hp => ?_, fun p q hp hq => ?_, fun w => ?_⟩
  · rw [sjoin_mem h1.xok.1 h2.xok.1, Bool.or_eq_true] at hp
    rcases hp with hp | hp
    · have := h1.fst p hp; have := hk.le; omega
    · have := h2.fst p hp; omega
  · rw [sjoin_mem h1.xok.2 h2.xok.2, Bool.or_eq_true] at hp
    rcases hp with hp | hp
    · have := h1.lst p hp; have := hk.le; omega
    · have := h2.lst p hp; omega
  · rcases Nat.lt_or_ge p st1.cls.length with hl | hl
    · have := hin p q hp hl hq; have := hk.le; omega
    · have := h2.fol p q hl hq; omega
  · show _ ↔ e1.Has w ∨ e2.Has w
    rw [← hh w, ← h2.has w]
    constructor
    · rintro (⟨hw, he⟩ | ⟨c, v, p, q, hw, hp, hc, hpath, hq⟩)
      · rcases Bool.or_eq_true_iff.1 he with he | he
        · exact Or.inl (Or.inl ⟨hw, he⟩)
        · exact Or.inr (Or.inl ⟨hw, he⟩)
      · rw [sjoin_mem h1.xok.1 h2.xok.1, Bool.or_eq_true] at hp
        rw [sjoin_mem h1.xok.2 h2.xok.2, Bool.or_eq_true] at hq
        rcases hp with hp | hp
        · have a := h1.fst p hp
          have b := path_end hin v p q a.1 a.2 hpath
          rcases hq with hq | hq
          · exact Or.inl (Or.inr ⟨c, v, p, q, hw, hp, hc, hpath, hq⟩)
          · have := h2.lst q hq; omega
        · have a := h2.fst p hp
          have b := path_end (m := st2.cls.length) (fun p q a _ c => h2.fol p q a c) v p q a.1 a.2 hpath
          rcases hq with hq | hq
          · have := h1.lst q hq; omega
          · exact Or.inr (Or.inr ⟨c, v, p, q, hw, hp, hc, hpath, hq⟩)
    · rintro ((⟨hw, he⟩ | ⟨c, v, p, q, hw, hp, hc, hpath, hq⟩) | (⟨hw, he⟩ | ⟨c, v, p, q, hw, hp, hc, hpath, hq⟩))
      · exact Or.inl ⟨hw, by rw [Bool.or_eq_true]; exact Or.inl he⟩
      · exact Or.inr ⟨c, v, p, q, hw, by rw [sjoin_mem h1.xok.1 h2.xok.1, hp]; rfl, hc, hpath, by rw [sjoin_mem h1.xok.2 h2.xok.2, hq]; rfl⟩
      · exact Or.inl ⟨hw, by rw [Bool.or_eq_true]; exact Or.inr he⟩
      · exact Or.inr ⟨c, v, p, q, hw, by rw [sjoin_mem h1.xok.1 h2.xok.1, hp, Bool.or_true], hc, hpath, by rw [sjoin_mem h1.xok.2 h2.xok.2, hq, Bool.or_true]⟩
/-- What follows after a link. -/
theorem link_mem (hf : ∀ y ∈ st.fol, Words y) (hl : st.cls.length = st.fol.length) {f t : Set4} (ht : Words t) (hfl : ∀ p, mem f p = true → p < st.cls.length) (p q : Nat) :
    mem ((linkM st f t).fol.getD p []) q = true ↔ mem (st.fol.getD p []) q = true ∨ (mem f p = true ∧ mem t q = true) := by
  have hlen : (linkF f t st.fol st.fol.length).length = st.fol.length := linkF_len f t st.fol _
  by_cases h : p < st.fol.length
  · show mem ((linkF f t st.fol st.fol.length).getD p []) q = true ↔ _
    rw [linkF_mem ht hf h q _ (Nat.le_refl _)]
    constructor
    · rintro (a | a)
      · exact Or.inl a
      · exact Or.inr a.2
    · rintro (a | a)
      · exact Or.inl a
      · exact Or.inr ⟨h, a⟩
  · have e1 : (linkM st f t).fol.getD p [] = [] := getD_out (by show (linkF f t st.fol st.fol.length).length ≤ p; omega)
    have e2 : st.fol.getD p [] = [] := getD_out (by omega)
    rw [e1, e2, mem_nil]
    constructor
    · intro a; cases a
    · rintro (a | a)
      · cases a
      · have := hfl p a.1; omega
theorem link_words (hf : ∀ y ∈ st.fol, Words y) {f t : Set4} (ht : Words t) : ∀ y ∈ (linkM st f t).fol, Words y := by
  have : ∀ m, m ≤ st.fol.length → ∀ y ∈ linkF f t st.fol m, Words y := fun m => by
    induction m with
    | zero => intro _ y hy; exact hf y hy
    | succ m ihm =>
      intro hm y hy
      rw [linkF_succ] at hy
      split at hy
      · rcases List.mem_or_eq_of_mem_set hy with h | h
        · exact ihm (by omega) y h
        · rw [h]
          refine sjoin_words ?_ ht
          have hml : m < (linkF f t st.fol m).length := by rw [linkF_len]; omega
          have : (linkF f t st.fol m).getD m [] = (linkF f t st.fol m)[m] := by simp [List.getD, hml]
          rw [this]
          exact ihm (by omega) _ (List.getElem_mem hml)
      · exact ihm (by omega) y hy
  exact this _ (Nat.le_refl _)
/-- Two parts, one behind the other. -/
theorem Glu.seq (h1 : Glu n st1 x1 e1) (h2 : Glu st1.cls.length st2 x2 e2) (hk : Keeps st1 st2) :
    Glu n (linkM st2 x1.lst x2.fst) ⟨x1.em && x2.em, if x1.em then sjoin x1.fst x2.fst else x1.fst, sjoin (if x2.em then x1.lst else e4) x2.lst⟩ (.seq e1 e2) := by
  obtain ⟨hh, hin⟩ := h1.later hk
  have hlow := h1.low
  have hle := hk.le
  have hfl : ∀ p, mem x1.lst p = true → p < st2.cls.length := fun p hp => by have := h1.lst p hp; omega
  have hlm := fun p q => link_mem (f := x1.lst) (t := x2.fst) h2.fok h2.len.1 h2.xok.1 hfl p q
  have hfst : ∀ p, mem (if x1.em then sjoin x1.fst x2.fst else x1.fst) p = true ↔ mem x1.fst p = true ∨ (x1.em = true ∧ mem x2.fst p = true) := fun p => by
    cases x1.em
    · simp
    · rw [if_pos rfl, sjoin_mem h1.xok.1 h2.xok.1, Bool.or_eq_true]; simp
  have hlst : ∀ p, mem (sjoin (if x2.em then x1.lst else e4) x2.lst) p = true ↔ (x2.em = true ∧ mem x1.lst p = true) ∨ mem x2.lst p = true := fun p => by
    cases x2.em
    · rw [if_neg (by simp), sjoin_mem words_e4 h2.xok.2, Bool.or_eq_true, mem_e4']; simp
    · rw [if_pos rfl, sjoin_mem h1.xok.2 h2.xok.2, Bool.or_eq_true]; simp
  -- behind the first part's positions a path is as it was
  have hin2 : ∀ p q, st1.cls.length ≤ p → p < st2.cls.length → mem (st2.fol.getD p []) q = true → st1.cls.length ≤ q ∧ q < st2.cls.length := fun p q a _ c => h2.fol p q a c
  have hp2 : ∀ (w : List UInt8) (p q : Nat), st1.cls.length ≤ p → p < st2.cls.length → (Path (linkM st2 x1.lst x2.fst).cls (linkM st2 x1.lst x2.fst).fol p w q ↔ Path st2.cls st2.fol p w q) := by
    intro w
    induction w with
    | nil => exact fun _ _ _ _ => Iff.rfl
    | cons c w ih =>
      intro p q a b
      constructor
      · rintro ⟨r, k1, k2, k3⟩
        rcases (hlm p r).1 k1 with k | ⟨k, _⟩
        · have hr := h2.fol p r a k
          exact ⟨r, k, k2, (ih r q hr.1 hr.2).1 k3⟩
        · have := h1.lst p k; omega
      · rintro ⟨r, k1, k2, k3⟩
        have hr := h2.fol p r a k1
        exact ⟨r, (hlm p r).2 (Or.inl k1), k2, (ih r q hr.1 hr.2).2 k3⟩
  have hp1 : ∀ (w : List UInt8) (p q : Nat), Path st2.cls st2.fol p w q → Path (linkM st2 x1.lst x2.fst).cls (linkM st2 x1.lst x2.fst).fol p w q := by
    intro w
    induction w with
    | nil => exact fun _ _ h => h
    | cons c w ih =>
      rintro p q ⟨r, k1, k2, k3⟩
      exact ⟨r, (hlm p r).2 (Or.inl k1), k2, ih r q k3⟩
  have hcross : ∀ (w : List UInt8) (p q : Nat), n ≤ p → p < st1.cls.length → Path (linkM st2 x1.lst x2.fst).cls (linkM st2 x1.lst x2.fst).fol p w q →
      Path st2.cls st2.fol p w q ∨ ∃ u c v q1 p2, w = u ++ c :: v ∧ Path st2.cls st2.fol p u q1 ∧ mem x1.lst q1 = true ∧ mem x2.fst p2 = true ∧ mem (st2.cls.getD p2 []) c.toNat = true ∧ Path st2.cls st2.fol p2 v q := by
    intro w
    induction w with
    | nil => exact fun _ _ _ _ h => Or.inl h
    | cons c w ih =>
      rintro p q a b ⟨r, k1, k2, k3⟩
      rcases (hlm p r).1 k1 with k | ⟨k, kt⟩
      · have hr := hin p r a b k
        rcases ih r q hr.1 hr.2 k3 with h | ⟨u, c2, v, q1, p2, hw, m1, m2, m3, m4, m5⟩
        · exact Or.inl ⟨r, k, k2, h⟩
        · exact Or.inr ⟨c :: u, c2, v, q1, p2, by rw [hw]; rfl, ⟨r, k, k2, m1⟩, m2, m3, m4, m5⟩
      · have hr := h2.fst r kt
        exact Or.inr ⟨[], c, w, p, r, rfl, rfl, k, kt, k2, (hp2 w r q hr.1 hr.2).1 k3⟩
  refine ⟨h2.cok, link_words h2.fok h2.xok.1, ⟨?_, h2.len.2⟩, Nat.le_trans h1.low hk.le, ⟨?_, ?_⟩, fun p hp => ?_, fun p hp => ?_, fun p q hp hq => ?_, fun w => ?_⟩
  · show st2.cls.length = (linkF x1.lst x2.fst st2.fol st2.fol.length).length
    rw [linkF_len]; exact h2.len.1
  · show Words (if x1.em then sjoin x1.fst x2.fst else x1.fst)
    split
    · exact sjoin_words h1.xok.1 h2.xok.1
    · exact h1.xok.1
  · show Words (sjoin (if x2.em then x1.lst else e4) x2.lst)
    refine sjoin_words ?_ h2.xok.2
    split
    · exact h1.xok.2
    · exact words_e4
  · show n ≤ p ∧ p < st2.cls.length
    rcases (hfst p).1 hp with k | ⟨_, k⟩
    · have := h1.fst p k; omega
    · have := h2.fst p k; omega
  · show n ≤ p ∧ p < st2.cls.length
    rcases (hlst p).1 hp with ⟨_, k⟩ | k
    · have := h1.lst p k; omega
    · have := h2.lst p k; omega
  · show n ≤ q ∧ q < st2.cls.length
    rcases (hlm p q).1 hq with k | ⟨_, k⟩
    · rcases Nat.lt_or_ge p st1.cls.length with hl | hl
      · have := hin p q hp hl k; omega
      · have := h2.fol p q hl k; omega
    · have := h2.fst q k; omega
  · constructor
    · rintro (⟨hw, he⟩ | ⟨c, v, p, q, hw, hp, hc, hpath, hq⟩)
      · have he2 := Bool.and_eq_true_iff.1 he
        exact ⟨[], [], by simp [hw], (hh []).1 (Or.inl ⟨rfl, he2.1⟩), (h2.has []).1 (Or.inl ⟨rfl, he2.2⟩)⟩
      · rcases (hfst p).1 hp with k | ⟨hem, k⟩
        · have a := h1.fst p k
          rcases hcross v p q a.1 a.2 hpath with hin1 | ⟨u, c2, v2, q1, p2, hv, m1, m2, m3, m4, m5⟩
          · have b := path_end hin v p q a.1 a.2 hin1
            rcases (hlst q).1 hq with ⟨hem, kq⟩ | kq
            · exact ⟨w, [], by simp, (hh w).1 (Or.inr ⟨c, v, p, q, hw, k, hc, hin1, kq⟩), (h2.has []).1 (Or.inl ⟨rfl, hem⟩)⟩
            · have := h2.lst q kq; omega
          · have hr := h2.fst p2 m3
            have b := path_end hin2 v2 p2 q hr.1 hr.2 m5
            have kq : mem x2.lst q = true := by
              rcases (hlst q).1 hq with ⟨_, kq⟩ | kq
              · have := h1.lst q kq; omega
              · exact kq
            exact ⟨c :: u, c2 :: v2, by rw [hw, hv]; rfl, (hh _).1 (Or.inr ⟨c, u, p, q1, rfl, k, hc, m1, m2⟩), (h2.has _).1 (Or.inr ⟨c2, v2, p2, q, rfl, m3, m4, m5, kq⟩)⟩
        · have a := h2.fst p k
          have hp' := (hp2 v p q a.1 a.2).1 hpath
          have b := path_end hin2 v p q a.1 a.2 hp'
          have kq : mem x2.lst q = true := by
            rcases (hlst q).1 hq with ⟨_, kq⟩ | kq
            · have := h1.lst q kq; omega
            · exact kq
          exact ⟨[], w, rfl, (hh []).1 (Or.inl ⟨rfl, hem⟩), (h2.has w).1 (Or.inr ⟨c, v, p, q, hw, k, hc, hp', kq⟩)⟩
    · rintro ⟨u, v, hw, hu, hv⟩
      rcases (hh u).2 hu with ⟨hu0, hem1⟩ | ⟨c, u2, p, q, hu2, hp, hc, hpath, hq⟩
      · rcases (h2.has v).2 hv with ⟨hv0, hem2⟩ | ⟨c, v2, p, q, hv2, hp, hc, hpath, hq⟩
        · exact Or.inl ⟨by rw [hw, hu0, hv0]; rfl, Bool.and_eq_true_iff.2 ⟨hem1, hem2⟩⟩
        · exact Or.inr ⟨c, v2, p, q, by rw [hw, hu0, hv2]; rfl, (hfst p).2 (Or.inr ⟨hem1, hp⟩), hc, hp1 v2 p q hpath, (hlst q).2 (Or.inr hq)⟩
      · rcases (h2.has v).2 hv with ⟨hv0, hem2⟩ | ⟨c2, v2, p2, q2, hv2, hp2', hc2, hpath2, hq2⟩
        · exact Or.inr ⟨c, u2, p, q, by rw [hw, hu2, hv0]; simp, (hfst p).2 (Or.inl hp), hc, hp1 u2 p q hpath, (hlst q).2 (Or.inl ⟨hem2, hq⟩)⟩
        · refine Or.inr ⟨c, u2 ++ c2 :: v2, p, q2, by rw [hw, hu2, hv2]; rfl, (hfst p).2 (Or.inl hp), hc, path_app.2 ⟨q, hp1 u2 p q hpath, ?_⟩, (hlst q2).2 (Or.inr hq2)⟩
          exact ⟨p2, (hlm q p2).2 (Or.inr ⟨hq, hp2'⟩), hc2, hp1 v2 p2 q2 hpath2⟩
/-- A part that may be empty. -/
theorem Glu.opt {em : Bool} {f l : Set4} (h : Glu n st ⟨em, f, l⟩ e) : Glu n st ⟨true, f, l⟩ (.opt e) := by
  refine ⟨h.cok, h.fok, h.len, h.low, h.xok, h.fst, h.lst, h.fol, fun w => ?_⟩
  show _ ↔ w = [] ∨ e.Has w
  rw [← h.has w]
  constructor
  · rintro (⟨hw, _⟩ | k)
    · exact Or.inl hw
    · exact Or.inr (Or.inr k)
  · rintro (hw | ⟨hw, _⟩ | k)
    · exact Or.inl ⟨hw, rfl⟩
    · exact Or.inl ⟨hw, rfl⟩
    · exact Or.inr k
/-- A part once or more. -/
theorem Glu.plus (h : Glu n st x e) : Glu n (linkM st x.lst x.fst) x (.plus e) := by
  have hfl : ∀ p, mem x.lst p = true → p < st.cls.length := fun p hp => (h.lst p hp).2
  have hlm := fun p q => link_mem (f := x.lst) (t := x.fst) h.fok h.len.1 h.xok.1 hfl p q
  have hp1 : ∀ (w : List UInt8) (p q : Nat), Path st.cls st.fol p w q → Path (linkM st x.lst x.fst).cls (linkM st x.lst x.fst).fol p w q := by
    intro w
    induction w with
    | nil => exact fun _ _ h => h
    | cons c w ih =>
      rintro p q ⟨r, k1, k2, k3⟩
      exact ⟨r, (hlm p r).2 (Or.inl k1), k2, ih r q k3⟩
  have hcross : ∀ (w : List UInt8) (p q : Nat), Path (linkM st x.lst x.fst).cls (linkM st x.lst x.fst).fol p w q →
      Path st.cls st.fol p w q ∨ ∃ u c v q1 p2, w = u ++ c :: v ∧ Path st.cls st.fol p u q1 ∧ mem x.lst q1 = true ∧ mem x.fst p2 = true ∧ mem (st.cls.getD p2 []) c.toNat = true ∧ Path (linkM st x.lst x.fst).cls (linkM st x.lst x.fst).fol p2 v q := by
    intro w
    induction w with
    | nil => exact fun _ _ h => Or.inl h
    | cons c w ih =>
      rintro p q ⟨r, k1, k2, k3⟩
      rcases (hlm p r).1 k1 with k | ⟨k, kt⟩
      · rcases ih r q k3 with h | ⟨u, c2, v, q1, p2, hw, m1, m2, m3, m4, m5⟩
        · exact Or.inl ⟨r, k, k2, h⟩
        · exact Or.inr ⟨c :: u, c2, v, q1, p2, by rw [hw]; rfl, ⟨r, k, k2, m1⟩, m2, m3, m4, m5⟩
      · exact Or.inr ⟨[], c, w, p, r, rfl, rfl, k, kt, k2, k3⟩
  have hmany : ∀ (m : Nat) (w : List UInt8), w.length ≤ m → Takes (linkM st x.lst x.fst).cls (linkM st x.lst x.fst).fol x w → Many e.Has w := by
    intro m
    induction m with
    | zero =>
      intro w hw ht
      have hw0 : w = [] := List.length_eq_zero_iff.1 (by omega)
      rcases ht with ⟨_, he⟩ | ⟨c, v, _, _, hcv, _⟩
      · exact Many.one ((h.has w).1 (Or.inl ⟨hw0, he⟩))
      · rw [hw0] at hcv; cases hcv
    | succ m ih =>
      intro w hw ht
      rcases ht with ⟨hw0, he⟩ | ⟨c, v, p, q, hcv, hp, hc, hpath, hq⟩
      · exact Many.one ((h.has w).1 (Or.inl ⟨hw0, he⟩))
      · rcases hcross v p q hpath with hin | ⟨u, c2, v2, q1, p2, hv, m1, m2, m3, m4, m5⟩
        · exact Many.one ((h.has w).1 (Or.inr ⟨c, v, p, q, hcv, hp, hc, hin, hq⟩))
        · have hrest : Takes (linkM st x.lst x.fst).cls (linkM st x.lst x.fst).fol x (c2 :: v2) := Or.inr ⟨c2, v2, p2, q, rfl, m3, m4, m5, hq⟩
          have hl : (c2 :: v2).length ≤ m := by
            rw [hcv, hv] at hw
            simp at hw ⊢
            omega
          have h1 : e.Has (c :: u) := (h.has _).1 (Or.inr ⟨c, u, p, q1, rfl, hp, hc, m1, m2⟩)
          have := Many.more h1 (ih (c2 :: v2) hl hrest)
          rw [hcv, hv]
          exact this
  refine ⟨h.cok, link_words h.fok h.xok.1, ⟨?_, h.len.2⟩, h.low, h.xok, h.fst, h.lst, fun p q hp hq => ?_, fun w => ⟨fun ht => hmany w.length w (Nat.le_refl _) ht, fun hm => ?_⟩⟩
  · show st.cls.length = (linkF x.lst x.fst st.fol st.fol.length).length
    rw [linkF_len]; exact h.len.1
  · rcases (hlm p q).1 hq with k | ⟨_, k⟩
    · exact h.fol p q hp k
    · exact h.fst q k
  · replace hm : Many e.Has w := hm
    induction hm with
    | one hw =>
      rcases (h.has _).2 hw with ⟨hw0, he⟩ | ⟨c, v, p, q, hcv, hp, hc, hpath, hq⟩
      · exact Or.inl ⟨hw0, he⟩
      · exact Or.inr ⟨c, v, p, q, hcv, hp, hc, hp1 v p q hpath, hq⟩
    | @more u v hu _ ih =>
      rcases (h.has _).2 hu with ⟨hu0, he⟩ | ⟨c, u2, p, q, hu2, hp, hc, hpath, hq⟩
      · rw [hu0, List.nil_append]
        exact ih
      · rcases ih with ⟨hv0, _⟩ | ⟨c2, v2, p2, q2, hv2, hp2, hc2, hpath2, hq2⟩
        · exact Or.inr ⟨c, u2, p, q, by rw [hu2, hv0]; simp, hp, hc, hp1 u2 p q hpath, hq⟩
        · refine Or.inr ⟨c, u2 ++ c2 :: v2, p, q2, by rw [hu2, hv2]; rfl, hp, hc, path_app.2 ⟨q, hp1 u2 p q hpath, ?_⟩, hq2⟩
          exact ⟨p2, (hlm q p2).2 (Or.inr ⟨hq, hp2⟩), hc2, hpath2⟩
/-- One position. -/
theorem Glu.chr (hc : ∀ y ∈ st.cls, Words y) (hf : ∀ y ∈ st.fol, Words y) (hl : st.cls.length = st.fol.length) (h255 : st.cls.length ≤ 255) {k : Set4} (hk : Words k) :
    Glu st.cls.length (posM st k).1 (posM st k).2 (.chr k) ∧ Keeps st (posM st k).1 := by
  have hone : ∀ p, mem (sadd e4 st.cls.length) p = true ↔ p = st.cls.length := fun p => by
    rw [sadd_mem words_e4 _ h255, mem_e4', Bool.or_false, beq_iff_eq]
  have hcl : ∀ p, p < st.cls.length → (st.cls ++ [k]).getD p [] = st.cls.getD p [] := fun p hp => by
    rw [List.getD_eq_getElem?_getD, List.getElem?_append_left hp, ← List.getD_eq_getElem?_getD]
  have hfo : ∀ p, p < st.cls.length → (st.fol ++ [e4]).getD p [] = st.fol.getD p [] := fun p hp => by
    rw [List.getD_eq_getElem?_getD, List.getElem?_append_left (by omega), ← List.getD_eq_getElem?_getD]
  have hnew : (st.cls ++ [k]).getD st.cls.length [] = k := by simp [List.getD]
  have hfnew : ∀ p, st.cls.length ≤ p → ∀ q, mem ((st.fol ++ [e4]).getD p []) q = false := fun p hp q => by
    by_cases e : p = st.cls.length
    · have : (st.fol ++ [e4]).getD p [] = e4 := by rw [e, hl]; simp [List.getD]
      rw [this, mem_e4']
    · rw [getD_out (by simp; omega), mem_nil]
  refine ⟨⟨fun y hy => ?_, fun y hy => ?_, ⟨by simp [posM, hl], by simp [posM]; omega⟩, by simp [posM], ⟨sadd_words words_e4 _, sadd_words words_e4 _⟩, fun p hp => ?_, fun p hp => ?_, fun p q hp hq => ?_, fun w => ?_⟩, ⟨by simp [posM], hcl, hfo⟩⟩
  · rcases List.mem_append.1 hy with h | h
    · exact hc y h
    · have : y = k := by simpa using h
      rw [this]; exact hk
  · rcases List.mem_append.1 hy with h | h
    · exact hf y h
    · have : y = e4 := by simpa using h
      rw [this]; exact words_e4
  · have := (hone p).1 hp
    refine ⟨by omega, ?_⟩
    show p < (st.cls ++ [k]).length
    simp; omega
  · have := (hone p).1 hp
    refine ⟨by omega, ?_⟩
    show p < (st.cls ++ [k]).length
    simp; omega
  · have hq2 : mem ((st.fol ++ [e4]).getD p []) q = true := hq
    rw [hfnew p hp q] at hq2
    cases hq2
  · constructor
    · rintro (⟨_, he⟩ | ⟨c, v, p, q, hw, hp, hcc, hpath, hq⟩)
      · cases he
      · have e1 := (hone p).1 hp
        have e2 := (hone q).1 hq
        subst e1
        cases v with
        | nil =>
          refine ⟨c, hw, ?_⟩
          have : (posM st k).1.cls.getD st.cls.length [] = k := hnew
          rw [this] at hcc
          exact hcc
        | cons c2 v =>
          obtain ⟨r, k1, _⟩ := hpath
          have k2 : mem ((st.fol ++ [e4]).getD st.cls.length []) r = true := k1
          rw [hfnew _ (Nat.le_refl _) r] at k2
          cases k2
    · rintro ⟨c, hw, hcc⟩
      refine Or.inr ⟨c, [], st.cls.length, st.cls.length, hw, (hone _).2 rfl, ?_, rfl, (hone _).2 rfl⟩
      have : (posM st k).1.cls.getD st.cls.length [] = k := hnew
      rw [this]
      exact hcc
end

end Go.Proofs.Ytebcflgdjbjkoaa
/- What the reader makes of a text takes the texts of the expression that the text spells. No program; no condition beyond those that stand there. -/
namespace Go.Proofs.Ytebcflgdjbjkoaa
open Go.RowKit

inductive Rq where
  | alt
  | altL (e : Rx)
  | seq
  | seqL (e : Rx)
  | item
  | atom
/-- The expression that is spelt from a place on, and where it ends. -/
def rxM (s : ByteArray) : Nat → Rq → Nat → Option (Nat × Rx)
  | 0, _, _ => none
  | n + 1, .alt, p => (rxM s n .seq p).bind fun r => rxM s n (.altL r.2) r.1
  | n + 1, .altL e, p => if p < s.size ∧ peekM s p = 124 then (rxM s n .seq (p + 1)).bind fun r => rxM s n (.altL (.alt e r.2)) r.1 else some (p, e)
  | n + 1, .seq, p => rxM s n (.seqL .eps) p
  | n + 1, .seqL e, p => if p < s.size ∧ peekM s p ≠ 124 ∧ peekM s p ≠ 41 then (rxM s n .item p).bind fun r => rxM s n (.seqL (.seq e r.2)) r.1 else some (p, e)
  | n + 1, .item, p => (rxM s n .atom p).bind fun r =>
    if r.1 < s.size ∧ (peekM s r.1 = 42 ∨ peekM s r.1 = 43 ∨ peekM s r.1 = 63) then
      some (r.1 + 1, if peekM s r.1 = 63 then .opt r.2 else if peekM s r.1 = 42 then .opt (.plus r.2) else .plus r.2)
    else some r
  | n + 1, .atom, p =>
    if peekM s p = 40 then (rxM s n .alt (p + 1)).bind fun r => if peekM s r.1 = 41 ∧ r.1 < s.size then some (r.1 + 1, r.2) else none
    else if peekM s p = 46 then some (p + 1, .chr sfull)
    else if peekM s p = 91 then (bytesM s (s.size + 1) ⟨p + 1, [], [], false⟩).map fun r => (r.1.pos, .chr r.2)
    else if peekM s p = 92 then if p + 1 < s.size then some (p + 2, .chr (sadd e4 (peekM s (p + 1)))) else none
    else if peekM s p ∈ quoted then none
    else some (p + 1, .chr (sadd e4 (peekM s p)))
/-- A state as it should be. -/
structure StOk (st : PSt) : Prop where
  cok : ∀ y ∈ st.cls, Words y
  fok : ∀ y ∈ st.fol, Words y
  len : st.cls.length = st.fol.length ∧ st.cls.length ≤ 256
  good : st.bad = false
/-- What is behind the first m positions stands as it did. -/
structure KeepsTo (m : Nat) (st st' : PSt) : Prop where
  le : st.cls.length ≤ st'.cls.length
  cls : ∀ p, p < m → st'.cls.getD p [] = st.cls.getD p []
  fol : ∀ p, p < m → st'.fol.getD p [] = st.fol.getD p []
theorem KeepsTo.refl (m : Nat) (st : PSt) : KeepsTo m st st := ⟨Nat.le_refl _, fun _ _ => rfl, fun _ _ => rfl⟩
theorem KeepsTo.trans {m : Nat} {a b c : PSt} (h : KeepsTo m a b) (k : KeepsTo m b c) : KeepsTo m a c :=
  ⟨Nat.le_trans h.le k.le, fun p hp => (k.cls p hp).trans (h.cls p hp), fun p hp => (k.fol p hp).trans (h.fol p hp)⟩
theorem KeepsTo.mono {m k : Nat} {a b : PSt} (h : KeepsTo m a b) (hk : k ≤ m) : KeepsTo k a b := ⟨h.le, fun p hp => h.cls p (by omega), fun p hp => h.fol p (by omega)⟩
theorem KeepsTo.keeps {a b : PSt} (h : KeepsTo a.cls.length a b) : Keeps a b := ⟨h.le, h.cls, h.fol⟩
theorem Keeps.to {a b : PSt} (h : Keeps a b) : KeepsTo a.cls.length a b := ⟨h.le, h.cls, h.fol⟩
theorem Glu.move {n : Nat} {st st' : PSt} {x : Part} {e : Rx} (h : Glu n st x e) (hc : st'.cls = st.cls) (hf : st'.fol = st.fol) : Glu n st' x e := by
  obtain ⟨p, c, f, b⟩ := st
  obtain ⟨p', c', f', b'⟩ := st'
  simp only at hc hf
  subst hc
  subst hf
  exact ⟨h.cok, h.fok, h.len, h.low, h.xok, h.fst, h.lst, h.fol, h.has⟩
theorem linkF_other {f t : Set4} {l : List Set4} {i : Nat} (hi : mem f i = false) : ∀ n, (linkF f t l n).getD i [] = l.getD i []
  | 0 => rfl
  | n + 1 => by
    rw [linkF_succ]
    split
    · rename_i h
      have hne : n ≠ i := fun e => by rw [e, hi] at h; cases h
      rw [List.getD_eq_getElem?_getD, List.getElem?_set_ne hne, ← List.getD_eq_getElem?_getD]
      exact linkF_other hi n
    · exact linkF_other hi n
/-- A link on positions from m on. -/
theorem link_keeps {m : Nat} {st : PSt} {f t : Set4} (hf : ∀ p, mem f p = true → m ≤ p) : KeepsTo m st (linkM st f t) :=
  ⟨Nat.le_refl _, fun _ _ => rfl, fun p hp => by
    show (linkF f t st.fol st.fol.length).getD p [] = _
    refine linkF_other ?_ _
    cases h : mem f p with
    | false => rfl
    | true => have := hf p h; omega⟩
theorem link_ok {st : PSt} {f t : Set4} (h : StOk st) (ht : Words t) : StOk (linkM st f t) :=
  ⟨h.cok, link_words h.fok ht, ⟨by show st.cls.length = (linkF f t st.fol st.fol.length).length; rw [linkF_len]; exact h.len.1, h.len.2⟩, h.good⟩
theorem pos_ok {st : PSt} (h : StOk st) : StOk (pos1 st) := ⟨h.cok, h.fok, h.len, h.good⟩
theorem more_good {s : ByteArray} {st : PSt} (h : st.bad = false) : moreM s st = true ↔ st.pos < s.size := by
  unfold moreM
  rw [h]
  simp
theorem full_words : Words sfull := ⟨rfl, fun x hx => by simp [sfull] at hx; omega⟩
theorem posG_read {st : PSt} {k : Set4} {r : PSt × Part} (hs : StOk st) (hk : Words k) (h : posG st k = some r) : StOk r.1 ∧ Keeps st r.1 ∧ Glu st.cls.length r.1 r.2 (.chr k) ∧ r.1.pos = st.pos := by
  unfold posG at h
  split at h
  · rename_i hq
    injection h with h
    subst h
    have hg := Glu.chr hs.cok hs.fok hs.len.1 hq.1 hk
    exact ⟨⟨hg.1.cok, hg.1.fok, hg.1.len, hs.good⟩, hg.2, hg.1, rfl⟩
  · cases h
/-- A class does not look at the positions that are there. -/
theorem single_free {s : ByteArray} {st : PSt} (c f : List Set4) : singleM s ⟨st.pos, c, f, st.bad⟩ = (singleM s st).map fun r => (⟨r.1.pos, c, f, r.1.bad⟩, r.2) := by
  unfold singleM
  simp only
  split
  · split
    · rfl
    · split
      · split
        · rfl
        · rfl
      · rfl
  · rfl
theorem cls_free {s : ByteArray} (c f : List Set4) : ∀ (n : Nat) (st : PSt) (k : Set4), clsM s n ⟨st.pos, c, f, st.bad⟩ k = (clsM s n st k).map fun r => (⟨r.1.pos, c, f, r.1.bad⟩, r.2)
  | 0, _, _ => rfl
  | n + 1, st, k => by
    unfold clsM
    have hm : ∀ st : PSt, moreM s ⟨st.pos, c, f, st.bad⟩ = moreM s st := fun _ => rfl
    have hp : ∀ st : PSt, (⟨st.pos, c, f, st.bad⟩ : PSt).pos = st.pos := fun _ => rfl
    rw [hm, hp]
    split
    · rw [single_free c f]
      cases singleM s st with
      | none => rfl
      | some a =>
        simp only [Option.map_some, Option.bind_some, hm]
        have fin : ∀ b : PSt × Nat, (if b.2 < a.2 then none else clsM s n ⟨b.1.pos, c, f, b.1.bad⟩ (addR k a.2 (b.2 + 1 - a.2))) = (if b.2 < a.2 then none else clsM s n b.1 (addR k a.2 (b.2 + 1 - a.2))).map fun r => (⟨r.1.pos, c, f, r.1.bad⟩, r.2) := fun b => by
          split
          · rfl
          · exact cls_free c f n b.1 _
        split
        · split
          · have h1 : pos1 ⟨a.1.pos, c, f, a.1.bad⟩ = ⟨(pos1 a.1).pos, c, f, (pos1 a.1).bad⟩ := rfl
            rw [h1, single_free c f]
            cases singleM s (pos1 a.1) with
            | none => rfl
            | some b =>
              simp only [Option.map_some, Option.bind_some]
              exact fin b
          · rfl
        · simp only [Option.bind_some]
          exact fin a
    · rfl
theorem bytes_free {s : ByteArray} {st : PSt} (n : Nat) {r : PSt × Set4} (h : bytesM s n st = some r) : bytesM s n ⟨st.pos, [], [], false⟩ = some (⟨r.1.pos, [], [], false⟩, r.2) := by
  obtain ⟨hb, hp, hw⟩ := bytes_ways h
  have hnot : ¬ ((⟨st.pos, [], [], false⟩ : PSt).bad = true ∨ 990 < (⟨st.pos, [], [], false⟩ : PSt).pos) := by
    rintro (h1 | h1)
    · cases h1
    · have : 990 < st.pos := h1; omega
  unfold bytesM
  rw [if_neg hnot]
  rcases hw with ⟨h94, r0, hc, h1, h2, h3, rfl⟩ | ⟨h94, r0, hc, h1, h2, h3, rfl⟩
  · have hcl := cls_free (s := s) [] [] n (pos1 st) e4
    rw [hc] at hcl
    have hbd : r0.1.bad = false := (cls_st hc).2.2.1.trans hb
    have e0 : (pos1 ⟨st.pos, [], [], false⟩ : PSt) = ⟨(pos1 st).pos, [], [], (pos1 st).bad⟩ := by
      show (⟨st.pos + 1, [], [], false⟩ : PSt) = ⟨st.pos + 1, [], [], st.bad⟩
      rw [hb]
    simp only [h94, if_true]
    rw [e0, hcl]
    simp only [Option.map_some, Option.bind_some]
    rw [if_pos ⟨h1, h2, h3⟩, hbd]
    rfl
  · have hcl := cls_free (s := s) [] [] n st e4
    rw [hc] at hcl
    have hbd : r0.1.bad = false := (cls_st hc).2.2.1.trans hb
    have e0 : (⟨st.pos, [], [], false⟩ : PSt) = ⟨st.pos, [], [], st.bad⟩ := by rw [hb]
    simp only [h94, if_false]
    rw [e0, hcl]
    simp only [Option.map_some, Option.bind_some]
    rw [if_pos ⟨h1, h2, h3⟩, hbd]
    rfl
theorem bytes_words {s : ByteArray} {n : Nat} {st : PSt} {r : PSt × Set4} (h : bytesM s n st = some r) : Words r.2 := by
  obtain ⟨_, _, ⟨_, r0, hc, _, _, _, rfl⟩ | ⟨_, r0, hc, _, _, _, rfl⟩⟩ := bytes_ways h
  · exact sturn_words _
  · exact (cls_st hc).2.2.2 words_e4
/-- What the reader makes from one place on. -/
def ReadT (s : ByteArray) (n : Nat) (md : Rd) (mq : Rq) : Prop := ∀ (st : PSt) (r : PSt × Part), StOk st → readM s n md st = some r →
  ∃ e, rxM s n mq st.pos = some (r.1.pos, e) ∧ StOk r.1 ∧ Keeps st r.1 ∧ Glu st.cls.length r.1 r.2 e
/-- The same behind what is read already. -/
def ReadL (s : ByteArray) (n : Nat) (md : Part → Rd) (mq : Rx → Rq) : Prop := ∀ (m : Nat) (st : PSt) (out : Part) (e0 : Rx) (r : PSt × Part), StOk st → Glu m st out e0 → readM s n (md out) st = some r →
  ∃ e, rxM s n (mq e0) st.pos = some (r.1.pos, e) ∧ StOk r.1 ∧ KeepsTo m st r.1 ∧ Glu m r.1 r.2 e
theorem atom_rx {s : ByteArray} (n : Nat) (ih : ReadT s n .alt .alt) : ReadT s (n + 1) .atom .atom := by
  intro st r hs h
  unfold readM at h
  unfold rxM
  split at h
  · cases h
  split at h
  · rename_i h40
    rw [if_pos h40]
    cases ha : readM s n .alt (pos1 st) with
    | none => rw [ha] at h; cases h
    | some r1 =>
      rw [ha] at h
      simp only [Option.bind_some] at h
      split at h
      · rename_i hq
        injection h with h
        subst h
        obtain ⟨e, h1, h2, h3, h4⟩ := ih (pos1 st) r1 (pos_ok hs) ha
        refine ⟨e, ?_, pos_ok h2, ⟨h3.le, h3.cls, h3.fol⟩, h4.move rfl rfl⟩
        have h1' : rxM s n .alt (st.pos + 1) = some (r1.1.pos, e) := h1
        rw [h1']
        simp only [Option.bind_some]
        rw [if_pos ⟨hq.2.1, hq.2.2.1⟩]
        rfl
      · cases h
  rename_i h40
  rw [if_neg h40]
  split at h
  · rename_i h46
    rw [if_pos h46]
    obtain ⟨h1, h2, h3, h4⟩ := posG_read (pos_ok hs) full_words h
    exact ⟨_, by rw [h4]; rfl, h1, ⟨h2.le, h2.cls, h2.fol⟩, h3⟩
  rename_i h46
  rw [if_neg h46]
  split at h
  · rename_i h91
    rw [if_pos h91]
    cases ha : bytesM s (s.size + 1) (pos1 st) with
    | none => rw [ha] at h; cases h
    | some r1 =>
      rw [ha] at h
      simp only [Option.bind_some] at h
      have hst := bytes_st ha
      have hok : StOk r1.1 := ⟨by rw [hst.1]; exact hs.cok, by rw [hst.2.1]; exact hs.fok, by rw [hst.1, hst.2.1]; exact hs.len, hst.2.2.trans hs.good⟩
      obtain ⟨h1, h2, h3, h4⟩ := posG_read hok (bytes_words ha) h
      have hf := bytes_free (s.size + 1) ha
      have e1 : r1.1.cls = st.cls := hst.1
      have e2 : r1.1.fol = st.fol := hst.2.1
      rw [e1] at h3
      refine ⟨.chr r1.2, ?_, h1, ⟨?_, fun p hp => ?_, fun p hp => ?_⟩, h3⟩
      · have hf' : bytesM s (s.size + 1) ⟨st.pos + 1, [], [], false⟩ = some (⟨r1.1.pos, [], [], false⟩, r1.2) := hf
        rw [hf', h4]
        rfl
      · have := h2.le; rw [e1] at this; exact this
      · rw [h2.cls p (by rw [e1]; exact hp), e1]
      · rw [h2.fol p (by rw [e1]; exact hp), e2]
  rename_i h91
  rw [if_neg h91]
  split at h
  · rename_i h92
    rw [if_pos h92]
    split at h
    · rename_i hl
      rw [if_pos hl]
      obtain ⟨h1, h2, h3, h4⟩ := posG_read (pos_ok (pos_ok hs)) (sadd_words words_e4 _) h
      exact ⟨_, by rw [h4]; rfl, h1, ⟨h2.le, h2.cls, h2.fol⟩, h3⟩
    · cases h
  rename_i h92
  rw [if_neg h92]
  split at h
  · cases h
  rename_i hq
  rw [if_neg hq]
  obtain ⟨h1, h2, h3, h4⟩ := posG_read (pos_ok hs) (sadd_words words_e4 _) h
  exact ⟨_, by rw [h4]; rfl, h1, ⟨h2.le, h2.cls, h2.fol⟩, h3⟩
theorem item_rx {s : ByteArray} (n : Nat) (ih : ReadT s n .atom .atom) : ReadT s (n + 1) .item .item := by
  intro st r hs h
  unfold readM at h
  unfold rxM
  cases ha : readM s n .atom st with
  | none => rw [ha] at h; cases h
  | some r1 =>
    rw [ha] at h
    simp only [Option.bind_some] at h
    obtain ⟨e, h1, h2, h3, h4⟩ := ih st r1 hs ha
    rw [h1]
    simp only [Option.bind_some]
    split at h
    · cases h
    split at h
    · rename_i hq
      injection h with h
      subst h
      rw [more_good h2.good] at hq
      rw [if_pos hq]
      obtain ⟨sa, xa⟩ := r1
      obtain ⟨em, f, l⟩ := xa
      simp only at hq h1 h2 h3 h4 ⊢
      by_cases h63 : peekM s sa.pos = 63
      · have hn : ¬ (peekM s sa.pos ≠ 63) := fun a => a h63
        have e1 : (em || decide (peekM s sa.pos ≠ 43)) = true := by rw [h63]; simp
        rw [if_pos h63, e1]
        simp only [if_neg hn]
        exact ⟨.opt e, rfl, pos_ok h2, ⟨h3.le, h3.cls, h3.fol⟩, (h4.opt).move (st' := pos1 sa) rfl rfl⟩
      · rw [if_pos h63]
        have hl : StOk (linkM (pos1 sa) l f) := link_ok (pos_ok h2) h4.xok.1
        have hk : KeepsTo st.cls.length sa (linkM (pos1 sa) l f) := by
          have := link_keeps (m := st.cls.length) (st := pos1 sa) (f := l) (t := f) fun p hp => (h4.lst p hp).1
          exact ⟨this.le, this.cls, this.fol⟩
        have hkk : Keeps st (linkM (pos1 sa) l f) := (h3.to.trans hk).keeps
        have hp : Glu st.cls.length (linkM (pos1 sa) l f) ⟨em, f, l⟩ (.plus e) := (h4.move (st' := pos1 sa) rfl rfl).plus
        by_cases h42 : peekM s sa.pos = 42
        · refine ⟨.opt (.plus e), ?_, hl, hkk, ?_⟩
          · rw [if_neg h63, if_pos h42]
            rfl
          · have e1 : (em || decide (peekM s sa.pos ≠ 43)) = true := by rw [h42]; simp
            rw [e1]
            exact hp.opt
        · have h43 : peekM s sa.pos = 43 := by
            rcases hq.2 with a | a | a
            · exact absurd a h42
            · exact a
            · exact absurd a h63
          refine ⟨.plus e, ?_, hl, hkk, ?_⟩
          · rw [if_neg h63, if_neg h42]
            rfl
          · have e1 : (em || decide (peekM s sa.pos ≠ 43)) = em := by rw [h43]; simp
            rw [e1]
            exact hp
    · rename_i hq
      injection h with h
      subst h
      rw [more_good h2.good] at hq
      rw [if_neg hq]
      exact ⟨e, rfl, h2, h3, h4⟩
theorem seqL_rx {s : ByteArray} (n : Nat) (ih : ReadT s n .item .item) (ihL : ReadL s n .seqL .seqL) : ReadL s (n + 1) .seqL .seqL := by
  intro m st out e0 r hs hg h
  unfold readM at h
  unfold rxM
  have hlow := hg.low
  split at h
  · rename_i hq
    rw [more_good hs.good] at hq
    rw [if_pos hq]
    cases ha : readM s n .item st with
    | none => rw [ha] at h; cases h
    | some r1 =>
      rw [ha] at h
      simp only [Option.bind_some] at h
      obtain ⟨e, h1, h2, h3, h4⟩ := ih st r1 hs ha
      rw [h1]
      simp only [Option.bind_some]
      have hg2 := Glu.seq hg h4 h3
      have hk := link_keeps (m := m) (st := r1.1) (f := out.lst) (t := r1.2.fst) fun p hp => (hg.lst p hp).1
      obtain ⟨e', k1, k2, k3, k4⟩ := ihL m (linkM r1.1 out.lst r1.2.fst) _ (.seq e0 e) r (link_ok h2 h4.xok.1) hg2 h
      exact ⟨e', k1, k2, (h3.to.mono hlow).trans (hk.trans k3), k4⟩
  · rename_i hq
    injection h with h
    subst h
    rw [more_good hs.good] at hq
    rw [if_neg hq]
    exact ⟨e0, rfl, hs, KeepsTo.refl m st, hg⟩
theorem seq_rx {s : ByteArray} (n : Nat) (ihL : ReadL s n .seqL .seqL) : ReadT s (n + 1) .seq .seq := by
  intro st r hs h
  unfold readM at h
  unfold rxM
  obtain ⟨e, h1, h2, h3, h4⟩ := ihL st.cls.length st ⟨true, e4, e4⟩ .eps r hs (Glu.eps hs.cok hs.fok hs.len) h
  exact ⟨e, h1, h2, h3.keeps, h4⟩
theorem altL_rx {s : ByteArray} (n : Nat) (ih : ReadT s n .seq .seq) (ihL : ReadL s n .altL .altL) : ReadL s (n + 1) .altL .altL := by
  intro m st out e0 r hs hg h
  unfold readM at h
  unfold rxM
  have hlow := hg.low
  split at h
  · cases h
  split at h
  · rename_i hq
    rw [more_good hs.good] at hq
    rw [if_pos hq]
    cases ha : readM s n .seq (pos1 st) with
    | none => rw [ha] at h; cases h
    | some r1 =>
      rw [ha] at h
      simp only [Option.bind_some] at h
      obtain ⟨e, h1, h2, h3, h4⟩ := ih (pos1 st) r1 (pos_ok hs) ha
      have h1' : rxM s n .seq (st.pos + 1) = some (r1.1.pos, e) := h1
      rw [h1']
      simp only [Option.bind_some]
      have hg2 := Glu.alt (hg.move (st' := pos1 st) rfl rfl) h4 h3
      obtain ⟨e', k1, k2, k3, k4⟩ := ihL m r1.1 _ (.alt e0 e) r h2 hg2 h
      have hk : KeepsTo st.cls.length st r1.1 := ⟨h3.le, h3.cls, h3.fol⟩
      exact ⟨e', k1, k2, (hk.mono hlow).trans k3, k4⟩
  · rename_i hq
    injection h with h
    subst h
    rw [more_good hs.good] at hq
    rw [if_neg hq]
    exact ⟨e0, rfl, hs, KeepsTo.refl m st, hg⟩
theorem alt_rx {s : ByteArray} (n : Nat) (ih : ReadT s n .seq .seq) (ihL : ReadL s n .altL .altL) : ReadT s (n + 1) .alt .alt := by
  intro st r hs h
  unfold readM at h
  unfold rxM
  cases ha : readM s n .seq st with
  | none => rw [ha] at h; cases h
  | some r1 =>
    rw [ha] at h
    simp only [Option.bind_some] at h
    obtain ⟨e, h1, h2, h3, h4⟩ := ih st r1 hs ha
    rw [h1]
    simp only [Option.bind_some]
    obtain ⟨e', k1, k2, k3, k4⟩ := ihL st.cls.length r1.1 r1.2 e r h2 h4 h
    exact ⟨e', k1, k2, (h3.to.trans k3).keeps, k4⟩
theorem read_rx (s : ByteArray) : ∀ n, ReadT s n .alt .alt ∧ ReadL s n .altL .altL ∧ ReadT s n .seq .seq ∧ ReadL s n .seqL .seqL ∧ ReadT s n .item .item ∧ ReadT s n .atom .atom
  | 0 => by
    refine ⟨?_, ?_, ?_, ?_, ?_, ?_⟩
    · intro _ _ _ h; cases h
    · intro _ _ _ _ _ _ _ h; cases h
    · intro _ _ _ h; cases h
    · intro _ _ _ _ _ _ _ h; cases h
    · intro _ _ _ h; cases h
    · intro _ _ _ h; cases h
  | n + 1 => by
    obtain ⟨i1, i2, i3, i4, i5, i6⟩ := read_rx s n
    exact ⟨alt_rx n i3 i2, altL_rx n i3 i2, seq_rx n i4, seqL_rx n i5 i4, item_rx n i6, atom_rx n i1⟩

end Go.Proofs.Ytebcflgdjbjkoaa
/- The machine of a pattern takes the texts of the expression that the pattern spells. No program; no condition beyond those that stand there. -/
namespace Go.Proofs.Ytebcflgdjbjkoaa
open Go.RowKit

theorem step_path {cls fol : List Set4} {x : Part} (h : PlanOk cls fol x) (s : Set4) (b j : Nat) :
    mem (stepM cls fol s b) j = true ↔ ∃ i, mem s i = true ∧ mem (fol.getD i []) j = true ∧ mem (cls.getD j []) b = true := by
  by_cases hj : j < 256
  · rw [stepM_mem h s b hj]
    constructor
    · rintro ⟨⟨i, _, k1, k2⟩, _, k3⟩
      exact ⟨i, k1, k2, k3⟩
    · rintro ⟨i, k1, k2, k3⟩
      refine ⟨⟨i, ?_, k1, k2⟩, ?_, k3⟩
      · rcases Nat.lt_or_ge i fol.length with hi | hi
        · exact hi
        · rw [getD_out hi, mem_nil] at k2; cases k2
      · rcases Nat.lt_or_ge j cls.length with hi | hi
        · exact hi
        · rw [getD_out hi, mem_nil] at k3; cases k3
  · rw [mem_big (stepM_words h s b) (by omega)]
    constructor
    · intro k; cases k
    · rintro ⟨i, _, _, k3⟩
      rw [getD_out (by have := h.len; omega), mem_nil] at k3
      cases k3
theorem from_path {cls fol : List Set4} {x : Part} (h : PlanOk cls fol x) : ∀ (w : List UInt8) (s : Set4) (j : Nat), mem (fromM cls fol s w) j = true ↔ ∃ p, mem s p = true ∧ Path cls fol p w j
  | [], s, j => ⟨fun k => ⟨j, k, rfl⟩, fun ⟨p, k, e⟩ => by have : p = j := e; subst this; exact k⟩
  | c :: w, s, j => by
    rw [fromM_cons, from_path h w]
    constructor
    · rintro ⟨r, k1, k2⟩
      obtain ⟨i, a, b, d⟩ := (step_path h s c.toNat r).1 k1
      exact ⟨i, a, r, b, d, k2⟩
    · rintro ⟨i, a, r, b, d, k2⟩
      exact ⟨r, (step_path h s c.toNat r).2 ⟨i, a, b, d⟩, k2⟩
theorem st0_ok : StOk st0 := by
  refine ⟨fun y hy => ?_, fun y hy => ?_, by decide, rfl⟩
  · have : y = e4 := by simpa [st0] using hy
    rw [this]; exact words_e4
  · have : y = e4 := by simpa [st0] using hy
    rw [this]; exact words_e4
/-- What a parsed pattern takes. -/
theorem parsed_takes {s : ByteArray} {cls fol : List Set4} {x : Part} (h : ParsedTo s cls fol x) :
    PlanOk cls fol x ∧ ∃ n p e, rxM s n .alt 0 = some (p, e) ∧ s.size ≤ p ∧ ∀ u, endsM x (runM cls fol u) = true ↔ e.Has u := by
  obtain ⟨n, st, hr, _, hpos, rfl, rfl, _⟩ := h
  obtain ⟨e, h1, h2, h3, h4⟩ := (read_rx s n).1 st0 (st, x) st0_ok hr
  simp only at h1 h2 h3 h4
  have hn : st0.cls.length = 1 := rfl
  rw [hn] at h4
  have hlow := h4.low
  have hpl : PlanOk st.cls (st.fol.set 0 x.fst) x := by
    refine ⟨fun y hy => ?_, h2.len.2, by rw [List.length_set]; exact h2.len.1.symm, h4.xok⟩
    rcases List.mem_or_eq_of_mem_set hy with k | k
    · exact h2.fok y k
    · rw [k]; exact h4.xok.1
  refine ⟨hpl, n, st.pos, e, h1, hpos, fun u => ?_⟩
  have hf0 : (st.fol.set 0 x.fst).getD 0 [] = x.fst := by
    rw [List.getD_eq_getElem?_getD, List.getElem?_set_self (by have := h2.len.1; omega)]
    rfl
  have hf : ∀ p, 1 ≤ p → p < st.cls.length → (st.fol.set 0 x.fst).getD p [] = st.fol.getD p [] := fun p hp _ => by
    rw [List.getD_eq_getElem?_getD, List.getElem?_set_ne (by omega), ← List.getD_eq_getElem?_getD]
  have hin : ∀ p q, 1 ≤ p → p < st.cls.length → mem (st.fol.getD p []) q = true → 1 ≤ q ∧ q < st.cls.length := fun p q a _ c => h4.fol p q a c
  have hpi := fun (w : List UInt8) (p q : Nat) (a : 1 ≤ p) (b : p < st.cls.length) => path_in (cls := st.cls) (cls' := st.cls) (fol' := st.fol.set 0 x.fst) (fun _ _ _ => rfl) hf hin w p q a b
  have hw : Words (runM st.cls (st.fol.set 0 x.fst) u) := reach_words hpl (runM_reach _ _ u)
  rw [← h4.has u, endsM_iff hw]
  have hrun : ∀ j, mem (runM st.cls (st.fol.set 0 x.fst) u) j = true ↔ Path st.cls (st.fol.set 0 x.fst) 0 u j := fun j => by
    rw [runM_from, from_path hpl]
    constructor
    · rintro ⟨p, k1, k2⟩
      rw [sadd_mem words_e4 0 (by omega), mem_e4', Bool.or_false, beq_iff_eq] at k1
      subst k1
      exact k2
    · intro k
      exact ⟨0, by rw [sadd_mem words_e4 0 (by omega)]; simp, k⟩
  have hl1 : ∀ p, mem x.lst p = true → 1 ≤ p ∧ p < st.cls.length := h4.lst
  constructor
  · rintro (⟨k1, k2⟩ | ⟨j, _, k1, k2⟩)
    · have k := (hrun 0).1 k1
      cases u with
      | nil => exact Or.inl ⟨rfl, k2⟩
      | cons c v =>
        obtain ⟨r, m1, m2, m3⟩ := k
        rw [hf0] at m1
        have hr2 := h4.fst r m1
        have := path_end hin v r 0 hr2.1 hr2.2 ((hpi v r 0 hr2.1 hr2.2).1 m3)
        omega
    · have k := (hrun j).1 k1
      have hj := hl1 j k2
      cases u with
      | nil =>
        have : 0 = j := k
        omega
      | cons c v =>
        obtain ⟨r, m1, m2, m3⟩ := k
        rw [hf0] at m1
        have hr2 := h4.fst r m1
        exact Or.inr ⟨c, v, r, j, rfl, m1, m2, (hpi v r j hr2.1 hr2.2).1 m3, k2⟩
  · rintro (⟨k1, k2⟩ | ⟨c, v, p, q, k1, m1, m2, m3, m4⟩)
    · subst k1
      exact Or.inl ⟨(hrun 0).2 rfl, k2⟩
    · subst k1
      have hr2 := h4.fst p m1
      have hq := hl1 q m4
      refine Or.inr ⟨q, by have := h2.len.2; omega, (hrun q).2 ⟨p, by rw [hf0]; exact m1, m2, (hpi v p q hr2.1 hr2.2).2 m3⟩, m4⟩

end Go.Proofs.Ytebcflgdjbjkoaa
/- The expression that a text spells: more fuel changes nothing; where it ends; what is ahead of alternatives. No program; no condition beyond those that stand there. -/
namespace Go.Proofs.Ytebcflgdjbjkoaa
open Go.RowKit

/-- More fuel changes nothing. -/
theorem rx_more (s : ByteArray) : ∀ (n : Nat) (md : Rq) (p : Nat) (r : Nat × Rx), rxM s n md p = some r → rxM s (n + 1) md p = some r
  | 0, _, _, _, h => by cases h
  | n + 1, .alt, p, r, h => by
    unfold rxM at h ⊢
    cases ha : rxM s n .seq p with
    | none => rw [ha] at h; cases h
    | some a =>
      rw [ha] at h
      rw [rx_more s n _ _ _ ha]
      exact rx_more s n _ _ _ h
  | n + 1, .altL e, p, r, h => by
    unfold rxM at h ⊢
    split at h
    · rename_i hq
      rw [if_pos hq]
      cases ha : rxM s n .seq (p + 1) with
      | none => rw [ha] at h; cases h
      | some a =>
        rw [ha] at h
        rw [rx_more s n _ _ _ ha]
        exact rx_more s n _ _ _ h
    · rename_i hq
      rw [if_neg hq]
      exact h
  | n + 1, .seq, p, r, h => by
    unfold rxM at h ⊢
    exact rx_more s n _ _ _ h
  | n + 1, .seqL e, p, r, h => by
    unfold rxM at h ⊢
    split at h
    · rename_i hq
      rw [if_pos hq]
      cases ha : rxM s n .item p with
      | none => rw [ha] at h; cases h
      | some a =>
        rw [ha] at h
        rw [rx_more s n _ _ _ ha]
        exact rx_more s n _ _ _ h
    · rename_i hq
      rw [if_neg hq]
      exact h
  | n + 1, .item, p, r, h => by
    unfold rxM at h ⊢
    cases ha : rxM s n .atom p with
    | none => rw [ha] at h; cases h
    | some a =>
      rw [ha] at h
      rw [rx_more s n _ _ _ ha]
      exact h
  | n + 1, .atom, p, r, h => by
    unfold rxM at h ⊢
    split at h
    · rename_i hq
      rw [if_pos hq]
      cases ha : rxM s n .alt (p + 1) with
      | none => rw [ha] at h; cases h
      | some a =>
        rw [ha] at h
        rw [rx_more s n _ _ _ ha]
        exact h
    · rename_i hq
      rw [if_neg hq]
      exact h
theorem rx_mono (s : ByteArray) {n m : Nat} (h : n ≤ m) {md : Rq} {p : Nat} {r : Nat × Rx} (hr : rxM s n md p = some r) : rxM s m md p = some r := by
  induction m with
  | zero => have : n = 0 := by omega
            subst this; exact hr
  | succ m ih =>
    rcases Nat.lt_or_ge m n with h1 | h1
    · have : n = m + 1 := by omega
      subst this; exact hr
    · exact rx_more s m _ _ _ (ih h1)
/-- Two readings of one place agree. -/
theorem rx_same (s : ByteArray) {n m : Nat} {md : Rq} {p : Nat} {r r' : Nat × Rx} (h : rxM s n md p = some r) (h' : rxM s m md p = some r') : r = r' := by
  have h1 := rx_mono s (show n ≤ n + m by omega) h
  have h2 := rx_mono s (show m ≤ n + m by omega) h'
  rw [h1] at h2
  injection h2
/-- What stands ahead of alternatives is one of them. -/
theorem altL_acc (s : ByteArray) : ∀ (n : Nat) (a : Rx) (p : Nat) (r : Nat × Rx), rxM s n (.altL a) p = some r → ∃ L : List UInt8 → Prop, (∀ w, r.2.Has w ↔ a.Has w ∨ L w) ∧ ∀ b, ∃ e, rxM s n (.altL b) p = some (r.1, e) ∧ ∀ w, e.Has w ↔ b.Has w ∨ L w
  | 0, _, _, _, h => by cases h
  | n + 1, a, p, r, h => by
    unfold rxM at h
    split at h
    · rename_i hq
      cases ha : rxM s n .seq (p + 1) with
      | none => rw [ha] at h; cases h
      | some x =>
        rw [ha] at h
        simp only [Option.bind_some] at h
        obtain ⟨L, h1, h2⟩ := altL_acc s n _ _ _ h
        refine ⟨fun w => x.2.Has w ∨ L w, fun w => ?_, fun b => ?_⟩
        · rw [h1 w]
          exact or_assoc
        · obtain ⟨e, h3, h4⟩ := h2 (.alt b x.2)
          refine ⟨e, ?_, fun w => ?_⟩
          · unfold rxM
            rw [if_pos hq, ha]
            exact h3
          · rw [h4 w]
            exact or_assoc
    · rename_i hq
      injection h with h
      subst h
      refine ⟨fun _ => False, fun w => by simp, fun b => ⟨b, ?_, fun w => by simp⟩⟩
      unfold rxM
      rw [if_neg hq]

end Go.Proofs.Ytebcflgdjbjkoaa
/- The expression that a text spells: where a text goes on with a bar behind it. No program; no condition beyond those that stand there. -/
namespace Go.Proofs.Ytebcflgdjbjkoaa
open Go.RowKit

theorem single_pos {s : ByteArray} {st : PSt} {r : PSt × Nat} (h : singleM s st = some r) : st.pos < r.1.pos ∧ r.1.pos ≤ s.size := by
  obtain ⟨hp, _, _, ⟨_, h2, _, rfl⟩ | ⟨_, rfl⟩⟩ := single_ways h
  · exact ⟨by show st.pos < st.pos + 1 + 1; omega, by show st.pos + 1 + 1 ≤ s.size; omega⟩
  · exact ⟨by show st.pos < st.pos + 1; omega, by show st.pos + 1 ≤ s.size; omega⟩
theorem cls_pos {s : ByteArray} : ∀ {n : Nat} {st : PSt} {k : Set4} {r : PSt × Set4}, clsM s n st k = some r → st.pos ≤ r.1.pos
  | 0, _, _, _, h => by cases h
  | n + 1, st, k, r, h => by
    obtain ⟨m, hm, h1 | h1 | ⟨_, _, a, ha, b, _, _, hn, hw⟩⟩ := cls_ways h
    · rw [h1.2]; exact Nat.le_refl _
    · rw [h1.2.2]; exact Nat.le_refl _
    · have : m = n := by omega
      subst this
      have e1 := (single_pos ha).1
      have e2 := cls_pos hn
      rcases hw with ⟨_, _, _, hw⟩ | ⟨_, rfl⟩ | ⟨_, _, rfl⟩
      · have e3 := (single_pos hw).1
        have : (pos1 a.1).pos = a.1.pos + 1 := rfl
        omega
      · omega
      · omega
theorem bytes_pos {s : ByteArray} {n : Nat} {st : PSt} {r : PSt × Set4} (h : bytesM s n st = some r) : st.pos < r.1.pos ∧ r.1.pos ≤ s.size := by
  obtain ⟨_, _, ⟨_, r0, hc, h1, _, _, rfl⟩ | ⟨_, r0, hc, h1, _, _, rfl⟩⟩ := bytes_ways h
  · have := cls_pos hc
    have e1 : (pos1 st).pos = st.pos + 1 := rfl
    have e2 : (pos1 r0.1).pos = r0.1.pos + 1 := rfl
    show st.pos < (pos1 r0.1).pos ∧ (pos1 r0.1).pos ≤ s.size
    omega
  · have := cls_pos hc
    have e2 : (pos1 r0.1).pos = r0.1.pos + 1 := rfl
    show st.pos < (pos1 r0.1).pos ∧ (pos1 r0.1).pos ≤ s.size
    omega
/-- Where the expression of a part ends. -/
theorem rx_pos (s : ByteArray) : ∀ (n : Nat) (md : Rq) (p : Nat) (r : Nat × Rx), rxM s n md p = some r → p ≤ s.size → (match md with | .item => p < s.size → p < r.1 | .atom => p < s.size → p < r.1 | _ => p ≤ r.1) ∧ ((match md with | .item => p < s.size | .atom => p < s.size | _ => True) → r.1 ≤ s.size)
  | 0, _, _, _, h, _ => by cases h
  | n + 1, .alt, p, r, h, hp => by
    unfold rxM at h
    cases ha : rxM s n .seq p with
    | none => rw [ha] at h; cases h
    | some a =>
      rw [ha] at h
      have k1 := rx_pos s n .seq p a ha hp
      have k2 := rx_pos s n (.altL a.2) a.1 r h (k1.2 trivial)
      exact ⟨Nat.le_trans k1.1 k2.1, fun _ => k2.2 trivial⟩
  | n + 1, .altL e, p, r, h, hp => by
    unfold rxM at h
    split at h
    · rename_i hq
      cases ha : rxM s n .seq (p + 1) with
      | none => rw [ha] at h; cases h
      | some a =>
        rw [ha] at h
        have k1 := rx_pos s n .seq (p + 1) a ha hq.1
        have k2 := rx_pos s n (.altL (.alt e a.2)) a.1 r h (k1.2 trivial)
        have k3 := k1.1
        have k4 := k2.1
        exact ⟨by show p ≤ r.1; simp only at k3 k4; omega, fun _ => k2.2 trivial⟩
    · injection h with h
      subst h
      exact ⟨Nat.le_refl _, fun _ => hp⟩
  | n + 1, .seq, p, r, h, hp => by
    unfold rxM at h
    have k := rx_pos s n (.seqL .eps) p r h hp
    exact ⟨k.1, fun _ => k.2 trivial⟩
  | n + 1, .seqL e, p, r, h, hp => by
    unfold rxM at h
    split at h
    · rename_i hq
      cases ha : rxM s n .item p with
      | none => rw [ha] at h; cases h
      | some a =>
        rw [ha] at h
        have k1 := rx_pos s n .item p a ha hp
        have k2 := rx_pos s n (.seqL (.seq e a.2)) a.1 r h (k1.2 hq.1)
        have k3 := k1.1 hq.1
        have k4 := k2.1
        exact ⟨by show p ≤ r.1; simp only at k3 k4; omega, fun _ => k2.2 trivial⟩
    · injection h with h
      subst h
      exact ⟨Nat.le_refl _, fun _ => hp⟩
  | n + 1, .item, p, r, h, hp => by
    unfold rxM at h
    cases ha : rxM s n .atom p with
    | none => rw [ha] at h; cases h
    | some a =>
      rw [ha] at h
      have k1 := rx_pos s n .atom p a ha hp
      simp only [Option.bind_some] at h
      split at h
      · rename_i hq
        injection h with h
        subst h
        exact ⟨fun hps => by have := k1.1 hps; show p < a.1 + 1; omega, fun _ => by show a.1 + 1 ≤ s.size; omega⟩
      · injection h with h
        subst h
        exact k1
  | n + 1, .atom, p, r, h, hp => by
    unfold rxM at h
    split at h
    · cases ha : rxM s n .alt (p + 1) with
      | none => rw [ha] at h; cases h
      | some a =>
        rw [ha] at h
        simp only [Option.bind_some] at h
        split at h
        · rename_i hq
          injection h with h
          subst h
          refine ⟨fun hps => ?_, fun _ => by show a.1 + 1 ≤ s.size; omega⟩
          have k1 := (rx_pos s n .alt (p + 1) a ha hps).1
          simp only at k1
          show p < a.1 + 1
          omega
        · cases h
    split at h
    · injection h with h
      subst h
      exact ⟨fun _ => by show p < p + 1; omega, fun hps => hps⟩
    split at h
    · cases ha : bytesM s (s.size + 1) ⟨p + 1, [], [], false⟩ with
      | none => rw [ha] at h; cases h
      | some a =>
        rw [ha] at h
        injection h with h
        subst h
        have k := bytes_pos ha
        exact ⟨fun _ => by show p < a.1.pos; have : p + 1 < a.1.pos := k.1; omega, fun _ => k.2⟩
    split at h
    · split at h
      · rename_i hl
        injection h with h
        subst h
        exact ⟨fun _ => by show p < p + 2; omega, fun _ => by show p + 2 ≤ s.size; omega⟩
      · cases h
    split at h
    · cases h
    · injection h with h
      subst h
      exact ⟨fun _ => by show p < p + 1; omega, fun hps => hps⟩
/-- t goes on behind s with a bar. -/
structure Pre (s t : ByteArray) : Prop where
  lt : s.size < t.size
  same : ∀ p, p < s.size → peekM t p = peekM s p
  bar : peekM t s.size = 124
theorem single_pre {s t : ByteArray} (hp : Pre s t) {st : PSt} {r : PSt × Nat} (h : singleM s st = some r) : singleM t st = some r := by
  have hlt := hp.lt
  obtain ⟨h1, h2, ⟨h3, h4, h5⟩, h6⟩ := single_ways h
  unfold singleM
  rw [if_pos ⟨by omega, h2⟩, hp.same _ h1, if_neg (by rintro (a | a | a) <;> contradiction)]
  rcases h6 with ⟨k1, k2, k3, rfl⟩ | ⟨k1, rfl⟩
  · rw [if_pos k1, if_pos ⟨by omega, k3⟩, hp.same _ k2]
  · rw [if_neg k1]
theorem more_pre {s t : ByteArray} (hp : Pre s t) {st : PSt} (h : moreM s st = true) : moreM t st = true ∧ st.pos < s.size := by
  have hlt := hp.lt
  unfold moreM at h ⊢
  rw [Bool.and_eq_true, decide_eq_true_iff] at h ⊢
  exact ⟨⟨h.1, by omega⟩, h.2⟩
theorem more_out {s : ByteArray} {st : PSt} (hb : st.bad = false) (h : moreM s st = false) : s.size ≤ st.pos := by
  unfold moreM at h
  rw [hb] at h
  simpa using h
theorem cls_pre {s t : ByteArray} (hp : Pre s t) : ∀ {n : Nat} {st : PSt} {k : Set4} {r : PSt × Set4}, clsM s n st k = some r → st.bad = false → r.1.pos < s.size → clsM t n st k = some r
  | 0, _, _, _, h, _, _ => by cases h
  | n + 1, st, k, r, h, hb, hr => by
    obtain ⟨m, hm, h1 | h1 | ⟨hmo, h93, a, ha, b, hba, hb256, hn, hw⟩⟩ := cls_ways h
    · have := more_out hb h1.1
      rw [h1.2] at hr
      have : st.pos < s.size := hr
      omega
    · obtain ⟨k1, k2⟩ := more_pre hp h1.1
      unfold clsM
      rw [if_neg (by rintro ⟨_, k3⟩; exact k3 ((hp.same _ k2).trans h1.2.1)), h1.2.2]
    · have : m = n := by omega
      subst this
      obtain ⟨k1, k2⟩ := more_pre hp hmo
      have hab := (single_st ha).2.2.1.trans hb
      have e2 := cls_pos hn
      unfold clsM
      rw [if_pos ⟨k1, by rw [hp.same _ k2]; exact h93⟩, single_pre hp ha]
      simp only [Option.bind_some]
      have hnot : ¬ b.2 < a.2 := by omega
      rcases hw with ⟨m1, m2, m3, m4⟩ | ⟨m1, rfl⟩ | ⟨m1, m2, rfl⟩
      · obtain ⟨k3, k4⟩ := more_pre hp m1
        rw [if_pos ⟨k3, by rw [hp.same _ k4]; exact m2⟩, if_pos m3, single_pre hp m4]
        simp only [Option.bind_some]
        rw [if_neg hnot]
        exact cls_pre hp hn ((single_st m4).2.2.1.trans hab) hr
      · have := more_out hab m1
        omega
      · obtain ⟨k3, k4⟩ := more_pre hp m1
        rw [if_neg (by rintro ⟨_, k5⟩; rw [hp.same _ k4] at k5; exact m2 k5)]
        simp only [Option.bind_some]
        rw [if_neg (Nat.lt_irrefl _)]
        exact cls_pre hp hn hab hr
theorem cls_more {s : ByteArray} : ∀ {n : Nat} {st : PSt} {k : Set4} {r : PSt × Set4}, clsM s n st k = some r → clsM s (n + 1) st k = some r
  | 0, _, _, _, h => by cases h
  | n + 1, st, k, r, h => by
    unfold clsM at h ⊢
    split at h
    · rename_i hq
      rw [if_pos hq]
      cases ha : singleM s st with
      | none => rw [ha] at h; cases h
      | some a =>
        rw [ha] at h
        simp only [Option.bind_some] at h ⊢
        have fin : ∀ b : PSt × Nat, (if b.2 < a.2 then none else clsM s n b.1 (addR k a.2 (b.2 + 1 - a.2))) = some r → (if b.2 < a.2 then none else clsM s (n + 1) b.1 (addR k a.2 (b.2 + 1 - a.2))) = some r := fun b hb => by
          split at hb
          · cases hb
          · rename_i hlt
            rw [if_neg hlt]
            exact cls_more hb
        split at h
        · rename_i hd
          rw [if_pos hd]
          split at h
          · rename_i h9
            rw [if_pos h9]
            cases hb : singleM s (pos1 a.1) with
            | none => rw [hb] at h; cases h
            | some b =>
              rw [hb] at h
              simp only [Option.bind_some] at h ⊢
              exact fin b h
          · cases h
        · rename_i hd
          rw [if_neg hd]
          simp only [Option.bind_some] at h ⊢
          exact fin a h
    · rename_i hq
      rw [if_neg hq]
      exact h
theorem cls_mono {s : ByteArray} {n m : Nat} (hnm : n ≤ m) {st : PSt} {k : Set4} {r : PSt × Set4} (h : clsM s n st k = some r) : clsM s m st k = some r := by
  induction m with
  | zero => have : n = 0 := by omega
            subst this; exact h
  | succ m ih =>
    rcases Nat.lt_or_ge m n with h1 | h1
    · have : n = m + 1 := by omega
      subst this; exact h
    · exact cls_more (ih h1)
theorem bytes_pre {s t : ByteArray} (hp : Pre s t) {st : PSt} {r : PSt × Set4} (h : bytesM s (s.size + 1) st = some r) : bytesM t (t.size + 1) st = some r := by
  have hlt := hp.lt
  obtain ⟨hb, hp9, hw⟩ := bytes_ways h
  have hnot : ¬ (st.bad = true ∨ 990 < st.pos) := by
    rintro (a | a)
    · rw [hb] at a; cases a
    · omega
  unfold bytesM
  rw [if_neg hnot]
  rcases hw with ⟨h94, r0, hc, h1, h2, h3, rfl⟩ | ⟨h94, r0, hc, h1, h2, h3, rfl⟩
  · have hps : st.pos < s.size := by
      rcases Nat.lt_or_ge st.pos s.size with k | k
      · exact k
      · rw [peek_out s st.pos k] at h94; cases h94
    have e : peekM t st.pos = 94 := (hp.same _ hps).trans h94
    simp only [e, if_true]
    rw [cls_mono (show s.size + 1 ≤ t.size + 1 by omega) (cls_pre hp hc hb h1)]
    simp only [Option.bind_some]
    rw [if_pos ⟨by omega, h2, h3⟩]
  · have hps : st.pos < s.size := Nat.lt_of_le_of_lt (cls_pos hc) h1
    have e : peekM t st.pos ≠ 94 := by rw [hp.same _ hps]; exact h94
    simp only [e, if_false]
    rw [cls_mono (show s.size + 1 ≤ t.size + 1 by omega) (cls_pre hp hc hb h1)]
    simp only [Option.bind_some]
    rw [if_pos ⟨by omega, h2, h3⟩]
/-- What s spells ahead of its end, t spells too. -/
theorem rx_pre {s t : ByteArray} (hp : Pre s t) : ∀ (n : Nat) (md : Rq) (p : Nat) (r : Nat × Rx), rxM s n md p = some r → p ≤ s.size →
    (match md with | .item => p < s.size | .atom => p < s.size | .alt => r.1 < s.size | .altL _ => r.1 < s.size | _ => True) → rxM t n md p = some r
  | 0, _, _, _, h, _, _ => by cases h
  | n + 1, .alt, p, r, h, hps, hr => by
    unfold rxM at h ⊢
    cases ha : rxM s n .seq p with
    | none => rw [ha] at h; cases h
    | some a =>
      rw [ha] at h
      have k1 := (rx_pos s n .seq p a ha hps).2 trivial
      rw [rx_pre hp n .seq p a ha hps trivial]
      exact rx_pre hp n (.altL a.2) a.1 r h k1 hr
  | n + 1, .altL e, p, r, h, hps, hr => by
    have hlt := hp.lt
    unfold rxM at h ⊢
    split at h
    · rename_i hq
      rw [if_pos ⟨by omega, (hp.same _ hq.1).trans hq.2⟩]
      cases ha : rxM s n .seq (p + 1) with
      | none => rw [ha] at h; cases h
      | some a =>
        rw [ha] at h
        have k1 := (rx_pos s n .seq (p + 1) a ha hq.1).2 trivial
        rw [rx_pre hp n .seq (p + 1) a ha hq.1 trivial]
        exact rx_pre hp n (.altL (.alt e a.2)) a.1 r h k1 hr
    · rename_i hq
      injection h with h
      subst h
      have hr2 : p < s.size := hr
      rw [if_neg (by rintro ⟨_, k⟩; exact hq ⟨hr2, by rw [← hp.same _ hr2]; exact k⟩)]
  | n + 1, .seq, p, r, h, hps, _ => by
    unfold rxM at h ⊢
    exact rx_pre hp n (.seqL .eps) p r h hps trivial
  | n + 1, .seqL e, p, r, h, hps, _ => by
    have hlt := hp.lt
    unfold rxM at h ⊢
    split at h
    · rename_i hq
      rw [if_pos ⟨by omega, by rw [hp.same _ hq.1]; exact hq.2⟩]
      cases ha : rxM s n .item p with
      | none => rw [ha] at h; cases h
      | some a =>
        rw [ha] at h
        have k1 := (rx_pos s n .item p a ha hps).2 hq.1
        rw [rx_pre hp n .item p a ha hps hq.1]
        exact rx_pre hp n (.seqL (.seq e a.2)) a.1 r h k1 trivial
    · rename_i hq
      rw [if_neg ?_]
      · exact h
      · rintro ⟨_, k1, k2⟩
        rcases Nat.lt_or_ge p s.size with hl | hl
        · rw [hp.same _ hl] at k1 k2
          exact hq ⟨hl, k1, k2⟩
        · have : p = s.size := by omega
          rw [this, hp.bar] at k1
          exact k1 rfl
  | n + 1, .item, p, r, h, hps, hl => by
    have hlt := hp.lt
    unfold rxM at h ⊢
    cases ha : rxM s n .atom p with
    | none => rw [ha] at h; cases h
    | some a =>
      rw [ha] at h
      have k1 := (rx_pos s n .atom p a ha hps).2 hl
      rw [rx_pre hp n .atom p a ha hps hl]
      simp only [Option.bind_some] at h ⊢
      split at h
      · rename_i hq
        rw [hp.same _ hq.1, if_pos ⟨by omega, hq.2⟩]
        exact h
      · rename_i hq
        rw [if_neg ?_]
        · exact h
        · rintro ⟨_, k2⟩
          rcases Nat.lt_or_ge a.1 s.size with hl2 | hl2
          · rw [hp.same _ hl2] at k2
            exact hq ⟨hl2, k2⟩
          · have : a.1 = s.size := by omega
            rw [this, hp.bar] at k2
            rcases k2 with k2 | k2 | k2 <;> cases k2
  | n + 1, .atom, p, r, h, hps, hl => by
    have hlt := hp.lt
    have hl' : p < s.size := hl
    unfold rxM at h ⊢
    rw [hp.same _ hl']
    split at h
    · rename_i hq
      rw [if_pos hq]
      cases ha : rxM s n .alt (p + 1) with
      | none => rw [ha] at h; cases h
      | some a =>
        rw [ha] at h
        simp only [Option.bind_some] at h
        split at h
        · rename_i hc
          rw [rx_pre hp n .alt (p + 1) a ha hl' hc.2]
          simp only [Option.bind_some]
          rw [hp.same _ hc.2, if_pos ⟨hc.1, by omega⟩]
          exact h
        · cases h
    rename_i hq
    rw [if_neg hq]
    split at h
    · rename_i hq
      rw [if_pos hq]
      exact h
    rename_i hq
    rw [if_neg hq]
    split at h
    · rename_i hq
      rw [if_pos hq]
      cases ha : bytesM s (s.size + 1) ⟨p + 1, [], [], false⟩ with
      | none => rw [ha] at h; cases h
      | some a =>
        rw [ha] at h
        rw [bytes_pre hp ha]
        exact h
    rename_i hq
    rw [if_neg hq]
    split at h
    · rename_i hq
      rw [if_pos hq]
      split at h
      · rename_i hc
        rw [if_pos (by omega), hp.same _ hc]
        exact h
      · cases h
    rename_i hq
    rw [if_neg hq]
    split at h
    · cases h
    · rename_i hq
      rw [if_neg hq]
      exact h

end Go.Proofs.Ytebcflgdjbjkoaa
/- The expression that a text spells behind another text. No program; no condition beyond those that stand there. -/
namespace Go.Proofs.Ytebcflgdjbjkoaa
open Go.RowKit

/-- q stands in t from place d on, up to the end. -/
structure Suf (d : Nat) (q t : ByteArray) : Prop where
  size : t.size = q.size + d
  same : ∀ p, peekM t (p + d) = peekM q p
  small : t.size ≤ 900
def sh (d : Nat) (st : PSt) : PSt := ⟨st.pos + d, st.cls, st.fol, st.bad⟩
section
variable {d : Nat} {q t : ByteArray}
theorem more_sh (hs : Suf d q t) (st : PSt) : moreM t (sh d st) = moreM q st := by
  unfold moreM sh
  simp only
  rw [hs.size]
  by_cases h : st.pos < q.size
  · rw [decide_eq_true h, decide_eq_true (by omega)]
  · rw [decide_eq_false h, decide_eq_false (by omega)]
theorem single_sh (hs : Suf d q t) {st : PSt} {r : PSt × Nat} (h : singleM q st = some r) : singleM t (sh d st) = some (sh d r.1, r.2) := by
  have hz := hs.size
  have hm := hs.small
  obtain ⟨h1, h2, ⟨h3, h4, h5⟩, h6⟩ := single_ways h
  have hp : (sh d st).pos = st.pos + d := rfl
  unfold singleM
  rw [hp, if_pos ⟨by omega, by omega⟩, hs.same, if_neg (by rintro (a | a | a) <;> contradiction)]
  rcases h6 with ⟨k1, k2, k3, rfl⟩ | ⟨k1, rfl⟩
  · rw [if_pos k1, if_pos ⟨by omega, by omega⟩, show st.pos + d + 1 = (st.pos + 1) + d by omega, hs.same]
    simp only [sh, pos1]
    rw [show st.pos + d + 1 + 1 = st.pos + 1 + 1 + d by omega]
  · rw [if_neg k1]
    simp only [sh, pos1]
    rw [show st.pos + d + 1 = st.pos + 1 + d by omega]
theorem sh_pos1 (st : PSt) : sh d (pos1 st) = pos1 (sh d st) := by
  simp only [sh, pos1]
  rw [show st.pos + 1 + d = st.pos + d + 1 by omega]
theorem cls_sh (hs : Suf d q t) : ∀ {n : Nat} {st : PSt} {k : Set4} {r : PSt × Set4}, clsM q n st k = some r → clsM t n (sh d st) k = some (sh d r.1, r.2)
  | 0, _, _, _, h => by cases h
  | n + 1, st, k, r, h => by
    have hz := hs.size
    have hm := hs.small
    have hpk : ∀ st : PSt, peekM t (sh d st).pos = peekM q st.pos := fun st => hs.same st.pos
    unfold clsM at h ⊢
    rw [more_sh hs, hpk]
    split at h
    · rename_i hq
      rw [if_pos hq]
      cases ha : singleM q st with
      | none => rw [ha] at h; cases h
      | some a =>
        rw [ha] at h
        rw [single_sh hs ha]
        simp only [Option.bind_some] at h ⊢
        rw [more_sh hs, hpk]
        have fin : ∀ b : PSt × Nat, (if b.2 < a.2 then none else clsM q n b.1 (addR k a.2 (b.2 + 1 - a.2))) = some r → (if b.2 < a.2 then none else clsM t n (sh d b.1) (addR k a.2 (b.2 + 1 - a.2))) = some (sh d r.1, r.2) := fun b hb => by
          split at hb
          · cases hb
          · rename_i hlt
            rw [if_neg hlt]
            exact cls_sh hs hb
        split at h
        · rename_i hd
          rw [if_pos hd]
          split at h
          · rename_i h9
            have hlt : a.1.pos < q.size := by
              have := hd.1
              unfold moreM at this
              rw [Bool.and_eq_true, decide_eq_true_iff] at this
              exact this.2
            rw [if_pos (show (sh d a.1).pos ≤ 990 by show a.1.pos + d ≤ 990; omega), ← sh_pos1]
            cases hb : singleM q (pos1 a.1) with
            | none => rw [hb] at h; cases h
            | some b =>
              rw [hb] at h
              rw [single_sh hs hb]
              simp only [Option.bind_some] at h ⊢
              exact fin b h
          · cases h
        · rename_i hd
          rw [if_neg hd]
          simp only [Option.bind_some] at h ⊢
          exact fin a h
    · rename_i hq
      rw [if_neg hq]
      injection h with h
      subst h
      rfl
theorem bytes_sh (hs : Suf d q t) {st : PSt} {r : PSt × Set4} (h : bytesM q (q.size + 1) st = some r) : bytesM t (t.size + 1) (sh d st) = some (sh d r.1, r.2) := by
  have hz := hs.size
  have hm := hs.small
  have hpos := bytes_pos h
  obtain ⟨hb, hp9, hw⟩ := bytes_ways h
  have hnot : ¬ ((sh d st).bad = true ∨ 990 < (sh d st).pos) := by
    rintro (a | a)
    · have : st.bad = true := a
      rw [hb] at this; cases this
    · have : 990 < st.pos + d := a
      omega
  have hpk : peekM t (sh d st).pos = peekM q st.pos := hs.same st.pos
  unfold bytesM
  rw [if_neg hnot, hpk]
  rcases hw with ⟨h94, r0, hc, h1, h2, h3, rfl⟩ | ⟨h94, r0, hc, h1, h2, h3, rfl⟩
  · simp only [h94, if_true]
    rw [← sh_pos1, cls_mono (show q.size + 1 ≤ t.size + 1 by omega) (cls_sh hs hc)]
    simp only [Option.bind_some]
    rw [if_pos ⟨show r0.1.pos + d < t.size by omega, show r0.1.pos + d ≤ 990 by omega, h3⟩, ← sh_pos1]
  · simp only [h94, if_false]
    rw [cls_mono (show q.size + 1 ≤ t.size + 1 by omega) (cls_sh hs hc)]
    simp only [Option.bind_some]
    rw [if_pos ⟨show r0.1.pos + d < t.size by omega, show r0.1.pos + d ≤ 990 by omega, h3⟩, ← sh_pos1]
/-- What q spells, t spells from place d on. -/
theorem rx_sh (hs : Suf d q t) : ∀ (n : Nat) (md : Rq) (p : Nat) (r : Nat × Rx), rxM q n md p = some r → rxM t n md (p + d) = some (r.1 + d, r.2)
  | 0, _, _, _, h => by cases h
  | n + 1, .alt, p, r, h => by
    unfold rxM at h ⊢
    cases ha : rxM q n .seq p with
    | none => rw [ha] at h; cases h
    | some a =>
      rw [ha] at h
      rw [rx_sh hs n _ _ _ ha]
      exact rx_sh hs n _ _ _ h
  | n + 1, .altL e, p, r, h => by
    have hz := hs.size
    unfold rxM at h ⊢
    rw [hs.same]
    split at h
    · rename_i hq
      rw [if_pos ⟨by omega, hq.2⟩]
      cases ha : rxM q n .seq (p + 1) with
      | none => rw [ha] at h; cases h
      | some a =>
        rw [ha] at h
        rw [show p + d + 1 = p + 1 + d by omega, rx_sh hs n _ _ _ ha]
        exact rx_sh hs n _ _ _ h
    · rename_i hq
      rw [if_neg (by rintro ⟨a, b⟩; exact hq ⟨by omega, b⟩)]
      injection h with h
      subst h
      rfl
  | n + 1, .seq, p, r, h => by
    unfold rxM at h ⊢
    exact rx_sh hs n _ _ _ h
  | n + 1, .seqL e, p, r, h => by
    have hz := hs.size
    unfold rxM at h ⊢
    rw [hs.same]
    split at h
    · rename_i hq
      rw [if_pos ⟨by omega, hq.2⟩]
      cases ha : rxM q n .item p with
      | none => rw [ha] at h; cases h
      | some a =>
        rw [ha] at h
        rw [rx_sh hs n _ _ _ ha]
        exact rx_sh hs n _ _ _ h
    · rename_i hq
      rw [if_neg (by rintro ⟨a, b⟩; exact hq ⟨by omega, b⟩)]
      injection h with h
      subst h
      rfl
  | n + 1, .item, p, r, h => by
    have hz := hs.size
    unfold rxM at h ⊢
    cases ha : rxM q n .atom p with
    | none => rw [ha] at h; cases h
    | some a =>
      rw [ha] at h
      rw [rx_sh hs n _ _ _ ha]
      simp only [Option.bind_some] at h ⊢
      rw [hs.same]
      split at h
      · rename_i hq
        rw [if_pos ⟨by omega, hq.2⟩]
        injection h with h
        subst h
        rw [show a.1 + d + 1 = a.1 + 1 + d by omega]
      · rename_i hq
        rw [if_neg (by rintro ⟨x, y⟩; exact hq ⟨by omega, y⟩)]
        injection h with h
        subst h
        rfl
  | n + 1, .atom, p, r, h => by
    have hz := hs.size
    unfold rxM at h ⊢
    rw [hs.same]
    split at h
    · rename_i hq
      rw [if_pos hq, show p + d + 1 = p + 1 + d by omega]
      cases ha : rxM q n .alt (p + 1) with
      | none => rw [ha] at h; cases h
      | some a =>
        rw [ha] at h
        rw [rx_sh hs n _ _ _ ha]
        simp only [Option.bind_some] at h ⊢
        rw [hs.same]
        split at h
        · rename_i hc
          rw [if_pos ⟨hc.1, by omega⟩]
          injection h with h
          subst h
          rw [show a.1 + d + 1 = a.1 + 1 + d by omega]
        · cases h
    rename_i hq
    rw [if_neg hq]
    split at h
    · rename_i hq
      rw [if_pos hq]
      injection h with h
      subst h
      rw [show p + d + 1 = p + 1 + d by omega]
    rename_i hq
    rw [if_neg hq]
    split at h
    · rename_i hq
      rw [if_pos hq]
      cases ha : bytesM q (q.size + 1) ⟨p + 1, [], [], false⟩ with
      | none => rw [ha] at h; cases h
      | some a =>
        rw [ha] at h
        have hb := bytes_sh hs ha
        have e : sh d ⟨p + 1, [], [], false⟩ = ⟨p + d + 1, [], [], false⟩ := by
          simp only [sh]
          rw [show p + 1 + d = p + d + 1 by omega]
        rw [e] at hb
        rw [hb]
        injection h with h
        subst h
        rfl
    rename_i hq
    rw [if_neg hq]
    split at h
    · rename_i hq
      rw [if_pos hq]
      split at h
      · rename_i hc
        rw [if_pos (by omega), show p + d + 1 = (p + 1) + d by omega, hs.same]
        injection h with h
        subst h
        rw [show p + d + 2 = p + 2 + d by omega]
      · cases h
    rename_i hq
    rw [if_neg hq]
    split at h
    · cases h
    · rename_i hq
      rw [if_neg hq]
      injection h with h
      subst h
      rw [show p + d + 1 = p + 1 + d by omega]
end

end Go.Proofs.Ytebcflgdjbjkoaa
/- The pattern of two patterns with a bar between them takes the texts of both. No program; no condition beyond those that stand there. -/
namespace Go.Proofs.Ytebcflgdjbjkoaa
open Go.RowKit

theorem altL_top {s t : ByteArray} (hp : Pre s t) {e : Rx} {m : Nat} {R : Nat × Rx} (hR : rxM t m (.altL e) s.size = some R) : ∀ (n : Nat) (e0 : Rx) (p : Nat), p ≤ s.size → rxM s n (.altL e0) p = some (s.size, e) → ∃ k, rxM t k (.altL e0) p = some R
  | 0, _, _, _, h => by cases h
  | n + 1, e0, p, hps, h => by
    have hlt := hp.lt
    unfold rxM at h
    split at h
    · rename_i hq
      cases ha : rxM s n .seq (p + 1) with
      | none => rw [ha] at h; cases h
      | some a =>
        rw [ha] at h
        simp only [Option.bind_some] at h
        have k1 := (rx_pos s n .seq (p + 1) a ha hq.1).2 trivial
        obtain ⟨k, hk⟩ := altL_top hp hR n (.alt e0 a.2) a.1 k1 h
        refine ⟨n + k + 1, ?_⟩
        unfold rxM
        rw [if_pos ⟨by omega, (hp.same _ hq.1).trans hq.2⟩, rx_mono t (show n ≤ n + k by omega) (rx_pre hp n .seq (p + 1) a ha hq.1 trivial)]
        exact rx_mono t (show k ≤ n + k by omega) hk
    · injection h with h
      injection h with h1 h2
      subst h1
      subst h2
      exact ⟨m, hR⟩
theorem alt_top {s t : ByteArray} (hp : Pre s t) {e : Rx} {m n : Nat} {R : Nat × Rx} (h : rxM s n .alt 0 = some (s.size, e)) (hR : rxM t m (.altL e) s.size = some R) : ∃ k, rxM t k .alt 0 = some R := by
  cases n with
  | zero => cases h
  | succ n =>
    unfold rxM at h
    cases ha : rxM s n .seq 0 with
    | none => rw [ha] at h; cases h
    | some a =>
      rw [ha] at h
      simp only [Option.bind_some] at h
      have k1 := (rx_pos s n .seq 0 a ha (Nat.zero_le _)).2 trivial
      obtain ⟨k, hk⟩ := altL_top hp hR n a.2 a.1 k1 h
      refine ⟨n + k + 1, ?_⟩
      unfold rxM
      rw [rx_mono t (show n ≤ n + k by omega) (rx_pre hp n .seq 0 a ha (Nat.zero_le _) trivial)]
      exact rx_mono t (show k ≤ n + k by omega) hk
theorem parsed_expr {s : ByteArray} {cls fol : List Set4} {x : Part} (h : ParsedTo s cls fol x) : ∃ n e, rxM s n .alt 0 = some (s.size, e) ∧ ∀ u, endsM x (runM cls fol u) = true ↔ e.Has u := by
  obtain ⟨_, n, p, e, h1, h2, h3⟩ := parsed_takes h
  have := (rx_pos s n .alt 0 (p, e) h1 (Nat.zero_le _)).2 trivial
  have hp : p = s.size := by simp only at this; omega
  subst hp
  exact ⟨n, e, h1, h3⟩
/-- The texts of two patterns with a bar between them. -/
theorem sides {s q t : ByteArray} (hp : Pre s t) (hs : Suf (s.size + 1) q t) {c1 f1 c2 f2 c3 f3 : List Set4} {x1 x2 x3 : Part} (h1 : ParsedTo s c1 f1 x1) (h2 : ParsedTo q c2 f2 x2) (h3 : ParsedTo t c3 f3 x3) (w : List UInt8) :
    endsM x3 (runM c3 f3 w) = (endsM x1 (runM c1 f1 w) || endsM x2 (runM c2 f2 w)) := by
  have hlt := hp.lt
  obtain ⟨n1, e1, a1, b1⟩ := parsed_expr h1
  obtain ⟨n2, e2, a2, b2⟩ := parsed_expr h2
  obtain ⟨n3, e3, a3, b3⟩ := parsed_expr h3
  have main : ∃ m e, rxM t m (.altL e1) s.size = some (q.size + (s.size + 1), e) ∧ ∀ w, e.Has w ↔ e1.Has w ∨ e2.Has w := by
    cases n2 with
    | zero => cases a2
    | succ k =>
      unfold rxM at a2
      cases ha : rxM q k .seq 0 with
      | none => rw [ha] at a2; cases a2
      | some a =>
        rw [ha] at a2
        simp only [Option.bind_some] at a2
        have k1 := rx_sh hs k _ _ _ ha
        have k2 := rx_sh hs k _ _ _ a2
        obtain ⟨L, l1, l2⟩ := altL_acc t k _ _ _ k2
        obtain ⟨e, l3, l4⟩ := l2 (.alt e1 a.2)
        refine ⟨k + 1, e, ?_, fun w => ?_⟩
        · unfold rxM
          rw [Nat.zero_add] at k1
          rw [if_pos ⟨hlt, hp.bar⟩, k1]
          exact l3
        · rw [l4 w]
          have := l1 w
          simp only at this
          rw [this]
          exact or_assoc
  obtain ⟨m, e, hm, hl⟩ := main
  obtain ⟨k, hk⟩ := alt_top hp a1 hm
  have := rx_same t a3 hk
  injection this with _ he
  subst he
  rw [Bool.eq_iff_iff, Bool.or_eq_true, b3 w, hl w, b1 w, b2 w]

end Go.Proofs.Ytebcflgdjbjkoaa
