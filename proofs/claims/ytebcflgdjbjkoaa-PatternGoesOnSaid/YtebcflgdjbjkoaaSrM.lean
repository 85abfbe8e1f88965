/- The order of texts (the shorter ones first, equally long ones by bytes), and a search through the pairs of two machines in this order. No program; no condition beyond those that stand there. -/
import Derived.Test.YtebcflgdjbjkoaaBelow
import Derived.Maps.OwnSet
import Derived.DeepKeys4
import Derived.Test.YtebcflgdjbjkoaaPset
import Derived.Laws.BytesArg
import Derived.Test.YtebcflgdjbjkoaaMach
import Derived.Test.YtebcflgdjbjkoaaMatch
namespace Go.Proofs.Ytebcflgdjbjkoaa
open Go.RowKit

theorem less_irr : ∀ u : List UInt8, Op.bytesLess u u = false
  | [] => rfl
  | a :: u => by
    have h : (a < a) = False := by simp
    simp [Op.bytesLess, less_irr u]
theorem less_app : ∀ {u v : List UInt8}, u.length = v.length → Op.bytesLess u v = true → ∀ x y, Op.bytesLess (u ++ x) (v ++ y) = true
  | [], [], _, h, _, _ => by simp [Op.bytesLess] at h
  | [], _ :: _, h, _, _, _ => by simp at h
  | _ :: _, [], h, _, _, _ => by simp at h
  | a :: u, b :: v, hl, h, x, y => by
    simp only [List.cons_append, Op.bytesLess, Bool.or_eq_true, Bool.and_eq_true] at h ⊢
    rcases h with h | ⟨h1, h2⟩
    · exact Or.inl h
    · exact Or.inr ⟨h1, less_app (by simpa using hl) h2 x y⟩
theorem less_same : ∀ (u x y : List UInt8), Op.bytesLess (u ++ x) (u ++ y) = Op.bytesLess x y
  | [], _, _ => rfl
  | a :: u, x, y => by
    simp [Op.bytesLess, less_same u x y]
theorem less_trans : ∀ {u v w : List UInt8}, Op.bytesLess u v = true → Op.bytesLess v w = true → Op.bytesLess u w = true
  | _, [], [], _, h => by simp [Op.bytesLess] at h
  | [], [], _ :: _, h, _ => by simp [Op.bytesLess] at h
  | _ :: _, [], _ :: _, h, _ => by simp [Op.bytesLess] at h
  | [], _ :: _, [], _, h => by simp [Op.bytesLess] at h
  | _ :: _, _ :: _, [], _, h => by simp [Op.bytesLess] at h
  | [], _ :: _, _ :: _, _, _ => by simp [Op.bytesLess]
  | a :: u, b :: v, c :: w, h, k => by
    simp only [Op.bytesLess, Bool.or_eq_true, Bool.and_eq_true, decide_eq_true_eq, beq_iff_eq, UInt8.lt_iff_toNat_lt] at h k ⊢
    rcases h with h | ⟨rfl, h⟩
    · rcases k with k | ⟨rfl, k⟩
      · exact Or.inl (by omega)
      · exact Or.inl h
    · rcases k with k | ⟨rfl, k⟩
      · exact Or.inl k
      · exact Or.inr ⟨rfl, less_trans h k⟩
theorem less_tri : ∀ {u v : List UInt8}, u.length = v.length → Op.bytesLess u v = true ∨ u = v ∨ Op.bytesLess v u = true
  | [], [], _ => Or.inr (Or.inl rfl)
  | [], _ :: _, h => by simp at h
  | _ :: _, [], h => by simp at h
  | a :: u, b :: v, h => by
    simp only [Op.bytesLess, Bool.or_eq_true, Bool.and_eq_true, decide_eq_true_eq, beq_iff_eq, UInt8.lt_iff_toNat_lt, List.cons.injEq]
    rcases Nat.lt_trichotomy a.toNat b.toNat with h1 | h1 | h1
    · exact Or.inl (Or.inl h1)
    · have e : a = b := UInt8.toNat_inj.1 h1
      subst e
      rcases less_tri (u := u) (v := v) (by simpa using h) with h2 | h2 | h2
      · exact Or.inl (Or.inr ⟨rfl, h2⟩)
      · exact Or.inr (Or.inl ⟨rfl, h2⟩)
      · exact Or.inr (Or.inr (Or.inr ⟨rfl, h2⟩))
    · exact Or.inr (Or.inr (Or.inl h1))
/-- Shorter, or equally long and less by bytes. -/
def slt (u v : List UInt8) : Prop := u.length < v.length ∨ (u.length = v.length ∧ Op.bytesLess u v = true)
def sle (u v : List UInt8) : Prop := u = v ∨ slt u v
theorem slt_irr (u : List UInt8) : ¬ slt u u := by
  rintro (h | ⟨_, h⟩)
  · omega
  · rw [less_irr] at h; cases h
theorem slt_trans {u v w : List UInt8} (h : slt u v) (k : slt v w) : slt u w := by
  rcases h with h | ⟨h1, h2⟩ <;> rcases k with k | ⟨k1, k2⟩
  · exact Or.inl (by omega)
  · exact Or.inl (by omega)
  · exact Or.inl (by omega)
  · exact Or.inr ⟨by omega, less_trans h2 k2⟩
theorem slt_tri (u v : List UInt8) : slt u v ∨ u = v ∨ slt v u := by
  rcases Nat.lt_trichotomy u.length v.length with h | h | h
  · exact Or.inl (Or.inl h)
  · rcases less_tri h with k | k | k
    · exact Or.inl (Or.inr ⟨h, k⟩)
    · exact Or.inr (Or.inl k)
    · exact Or.inr (Or.inr (Or.inr ⟨h.symm, k⟩))
  · exact Or.inr (Or.inr (Or.inl h))
theorem sle.refl (u : List UInt8) : sle u u := Or.inl rfl
theorem sle_trans {u v w : List UInt8} (h : sle u v) (k : sle v w) : sle u w := by
  rcases h with rfl | h
  · exact k
  · rcases k with rfl | k
    · exact Or.inr h
    · exact Or.inr (slt_trans h k)
theorem slt_of_sle {u v w : List UInt8} (h : sle u v) (k : slt v w) : slt u w := by
  rcases h with rfl | h
  · exact k
  · exact slt_trans h k
theorem sle_anti {u v : List UInt8} (h : sle u v) (k : sle v u) : u = v := by
  rcases h with h | h
  · exact h
  · exact absurd (slt_of_sle k h) (slt_irr _)
theorem slt_not {u v : List UInt8} (h : slt u v) (k : sle v u) : False := slt_irr _ (slt_of_sle k h)
theorem sle_or (u v : List UInt8) : sle u v ∨ slt v u := by
  rcases slt_tri u v with h | h | h
  · exact Or.inl (Or.inr h)
  · exact Or.inl (Or.inl h)
  · exact Or.inr h
theorem slt_snoc {u v : List UInt8} (h : slt u v) (a b : UInt8) : slt (u ++ [a]) (v ++ [b]) := by
  rcases h with h | ⟨h1, h2⟩
  · exact Or.inl (by simpa using h)
  · exact Or.inr ⟨by simpa using h1, less_app h1 h2 _ _⟩
theorem slt_same (u : List UInt8) {a b : UInt8} (h : a.toNat < b.toNat) : slt (u ++ [a]) (u ++ [b]) := by
  refine Or.inr ⟨by simp, ?_⟩
  rw [less_same]
  simp only [Op.bytesLess, Bool.or_eq_true, decide_eq_true_eq, UInt8.lt_iff_toNat_lt]
  exact Or.inl h
theorem sle_snoc {u v : List UInt8} (h : sle u v) (a : UInt8) : sle (u ++ [a]) (v ++ [a]) := by
  rcases h with rfl | h
  · exact Or.inl rfl
  · exact Or.inr (slt_snoc h a a)
theorem slt_one (u : List UInt8) (a : UInt8) : slt u (u ++ [a]) := Or.inl (by simp)
theorem nil_sle (u : List UInt8) : sle [] u := by
  cases u with
  | nil => exact Or.inl rfl
  | cons a u => exact Or.inr (Or.inl (by simp))
theorem snoc_le {u v : List UInt8} {a b : UInt8} (h : slt u v ∨ (u = v ∧ a.toNat < b.toNat)) : slt (u ++ [a]) (v ++ [b]) := by
  rcases h with h | ⟨rfl, h⟩
  · exact slt_snoc h a b
  · exact slt_same u h

/-- A node of the search: its two states, the node from which it was come to, the byte, and its text. -/
structure Nd where
  a : Nat
  b : Nat
  src : Nat
  byt : Nat
  txt : List UInt8
/-- The search stands at node k, byte c. -/
structure Srch (d1 d2 : Nat → Nat → Nat) (L : List Nd) (k c : Nat) : Prop where
  zero : ∃ n, L[0]? = some n ∧ n.a = 0 ∧ n.b = 0 ∧ n.txt = []
  node : ∀ i n, L[i]? = some n → 0 < i → n.src < i ∧ n.byt < 256 ∧ ∃ m, L[n.src]? = some m ∧ n.txt = m.txt ++ [UInt8.ofNat n.byt] ∧ n.a = d1 m.a n.byt ∧ n.b = d2 m.b n.byt
  ord : ∀ i n, L[i]? = some n → 0 < i → n.src < k ∨ (n.src = k ∧ n.byt < c)
  asc : ∀ (i j : Nat) (n m : Nd), i < j → L[i]? = some n → L[j]? = some m → slt n.txt m.txt
  nodup : (L.map fun n => (n.a, n.b)).Nodup
  seen : ∀ j n b, L[j]? = some n → b < 256 → (j < k ∨ (j = k ∧ b < c)) → ∃ m ∈ L, m.a = d1 n.a b ∧ m.b = d2 n.b b ∧ sle m.txt (n.txt ++ [UInt8.ofNat b])
def nd0 : Nd := ⟨0, 0, 0, 0, []⟩
theorem Srch.start (d1 d2 : Nat → Nat → Nat) : Srch d1 d2 [nd0] 0 0 := by
  refine ⟨⟨nd0, rfl, rfl, rfl, rfl⟩, fun i n h h1 => ?_, fun i n h h1 => ?_, fun i j n m hij h1 h2 => ?_, by simp, fun j n b _ _ h => by omega⟩
  · rw [List.getElem?_eq_none (by simp; omega)] at h; cases h
  · rw [List.getElem?_eq_none (by simp; omega)] at h; cases h
  · rw [List.getElem?_eq_none (by simp; omega)] at h2; cases h2
theorem Srch.next {d1 d2 : Nat → Nat → Nat} {L : List Nd} {k : Nat} (h : Srch d1 d2 L k 256) : Srch d1 d2 L (k + 1) 0 := by
  refine ⟨h.zero, h.node, fun i n hi h0 => ?_, h.asc, h.nodup, fun j n b hj hb hor => ?_⟩
  · rcases h.ord i n hi h0 with h1 | ⟨h1, _⟩
    · exact Or.inl (by omega)
    · exact Or.inl (by omega)
  · refine h.seen j n b hj hb ?_
    rcases hor with h1 | ⟨h1, h2⟩
    · rcases Nat.lt_or_ge j k with h3 | h3
      · exact Or.inl h3
      · exact Or.inr ⟨by omega, hb⟩
    · omega
theorem ofNat_toNat8 {c : Nat} (h : c < 256) : (UInt8.ofNat c).toNat = c := by
  simp [UInt8.toNat_ofNat', Nat.mod_eq_of_lt h]
/-- All nodes' texts are less than the next one. -/
theorem Srch.below {d1 d2 : Nat → Nat → Nat} {L : List Nd} {k c : Nat} (h : Srch d1 d2 L k c) (hc : c < 256) {n m : Nd} (hk : L[k]? = some n) {i : Nat} (hi : L[i]? = some m) : slt m.txt (n.txt ++ [UInt8.ofNat c]) := by
  rcases Nat.eq_zero_or_pos i with rfl | h0
  · obtain ⟨z, hz, _, _, hz3⟩ := h.zero
    rw [hz] at hi
    injection hi with hi
    subst hi
    rw [hz3]
    exact Or.inl (by simp)
  · obtain ⟨_, hb, p, hp, ht, _⟩ := h.node i m hi h0
    rw [ht]
    refine snoc_le ?_
    rw [ofNat_toNat8 hc, ofNat_toNat8 hb]
    rcases h.ord i m hi h0 with h1 | ⟨h1, h2⟩
    · exact Or.inl (h.asc _ _ _ _ h1 hp hk)
    · rw [h1, hk] at hp
      injection hp with hp
      subst hp
      exact Or.inr ⟨rfl, h2⟩
theorem Srch.old {d1 d2 : Nat → Nat → Nat} {L : List Nd} {k c : Nat} (h : Srch d1 d2 L k c) (hc : c < 256) {n : Nd} (hk : L[k]? = some n) (hin : (d1 n.a c, d2 n.b c) ∈ L.map fun n => (n.a, n.b)) : Srch d1 d2 L k (c + 1) := by
  refine ⟨h.zero, h.node, fun i m hi h0 => (h.ord i m hi h0).imp id fun e => ⟨e.1, by omega⟩, h.asc, h.nodup, fun j m b hj hb hor => ?_⟩
  by_cases e : j = k ∧ b = c
  · obtain ⟨rfl, rfl⟩ := e
    rw [hk] at hj
    injection hj with hj
    subst hj
    obtain ⟨q, hq, he⟩ := List.mem_map.1 hin
    injection he with e1 e2
    obtain ⟨i, hi⟩ := List.getElem?_of_mem hq
    exact ⟨q, hq, e1, e2, Or.inr (h.below hc hk hi)⟩
  · exact h.seen j m b hj hb (hor.imp id fun e' => ⟨e'.1, by omega⟩)
theorem Srch.new {d1 d2 : Nat → Nat → Nat} {L : List Nd} {k c : Nat} (h : Srch d1 d2 L k c) (hc : c < 256) {n : Nd} (hk : L[k]? = some n) (hnot : (d1 n.a c, d2 n.b c) ∉ L.map fun n => (n.a, n.b)) :
    Srch d1 d2 (L ++ [⟨d1 n.a c, d2 n.b c, k, c, n.txt ++ [UInt8.ofNat c]⟩]) k (c + 1) := by
  have hkl := (List.getElem?_eq_some_iff.1 hk).1
  have old : ∀ {i m}, L[i]? = some m → (L ++ [(⟨d1 n.a c, d2 n.b c, k, c, n.txt ++ [UInt8.ofNat c]⟩ : Nd)])[i]? = some m := fun {i m} hi => by
    rw [List.getElem?_append_left (List.getElem?_eq_some_iff.1 hi).1]; exact hi
  have inv : ∀ {i m}, (L ++ [(⟨d1 n.a c, d2 n.b c, k, c, n.txt ++ [UInt8.ofNat c]⟩ : Nd)])[i]? = some m → L[i]? = some m ∨ (i = L.length ∧ m = ⟨d1 n.a c, d2 n.b c, k, c, n.txt ++ [UInt8.ofNat c]⟩) := fun {i m} hi => by
    rcases Nat.lt_or_ge i L.length with h1 | h1
    · rw [List.getElem?_append_left h1] at hi
      exact Or.inl hi
    · rw [List.getElem?_append_right h1] at hi
      have h2 : i - L.length = 0 := by
        have := (List.getElem?_eq_some_iff.1 hi).1
        simp at this; omega
      rw [h2] at hi
      simp at hi
      exact Or.inr ⟨by omega, hi.symm⟩
  have lastm : (⟨d1 n.a c, d2 n.b c, k, c, n.txt ++ [UInt8.ofNat c]⟩ : Nd) ∈ L ++ [(⟨d1 n.a c, d2 n.b c, k, c, n.txt ++ [UInt8.ofNat c]⟩ : Nd)] := by simp
  obtain ⟨z, hz, hz2⟩ := h.zero
  refine ⟨⟨z, old hz, hz2⟩, fun i m hi h0 => ?_, fun i m hi h0 => ?_, fun i j m q hij hi hj => ?_, ?_, fun j m b hj hb hor => ?_⟩
  · rcases inv hi with h1 | ⟨h1, rfl⟩
    · obtain ⟨a1, a2, p, a3, a4⟩ := h.node i m h1 h0
      exact ⟨a1, a2, p, old a3, a4⟩
    · exact ⟨by simp only; omega, hc, n, old hk, rfl, rfl, rfl⟩
  · rcases inv hi with h1 | ⟨h1, rfl⟩
    · exact (h.ord i m h1 h0).imp id fun e => ⟨e.1, by omega⟩
    · exact Or.inr ⟨rfl, by simp only; omega⟩
  · rcases inv hi with h1 | ⟨h1, rfl⟩
    · rcases inv hj with h2 | ⟨h2, rfl⟩
      · exact h.asc i j m q hij h1 h2
      · exact h.below hc hk h1
    · rcases inv hj with h2 | ⟨h2, rfl⟩
      · have := (List.getElem?_eq_some_iff.1 h2).1; omega
      · omega
  · rw [List.map_append, List.nodup_append]
    refine ⟨h.nodup, by simp, fun x hx y hy => ?_⟩
    have : y = (d1 n.a c, d2 n.b c) := by simpa using hy
    subst this
    exact fun e => hnot (e ▸ hx)
  · rcases inv hj with h1 | ⟨h1, rfl⟩
    · by_cases e : j = k ∧ b = c
      · obtain ⟨rfl, rfl⟩ := e
        rw [hk] at h1
        injection h1 with h1
        subst h1
        exact ⟨_, lastm, rfl, rfl, sle.refl _⟩
      · obtain ⟨q, hq, hq2⟩ := h.seen j m b h1 hb (hor.imp id fun e' => ⟨e'.1, by omega⟩)
        exact ⟨q, List.mem_append_left _ hq, hq2⟩
    · omega
/-- Where a text leads. -/
def runD (d : Nat → Nat → Nat) (u : List UInt8) : Nat := u.foldl (fun s c => d s c.toNat) 0
theorem runD_app (d : Nat → Nat → Nat) (u : List UInt8) (c : UInt8) : runD d (u ++ [c]) = d (runD d u) c.toNat := by simp [runD, List.foldl_append]
theorem Srch.at {d1 d2 : Nat → Nat → Nat} {L : List Nd} {k c : Nat} (h : Srch d1 d2 L k c) : ∀ (i : Nat) (n : Nd), L[i]? = some n → n.a = runD d1 n.txt ∧ n.b = runD d2 n.txt := by
  intro i
  induction i using Nat.strongRecOn with
  | _ i ih =>
    intro n hn
    rcases Nat.eq_zero_or_pos i with rfl | h0
    · obtain ⟨z, hz, z1, z2, z3⟩ := h.zero
      rw [hz] at hn
      injection hn with hn
      subst hn
      rw [z3, z1, z2]
      exact ⟨rfl, rfl⟩
    · obtain ⟨a1, a2, m, a3, a4, a5, a6⟩ := h.node i n hn h0
      obtain ⟨b1, b2⟩ := ih n.src a1 m a3
      rw [a4, runD_app, runD_app, ofNat_toNat8 a2, a5, a6, b1, b2]
      exact ⟨rfl, rfl⟩
/-- Each text is behind node k, or its states are those of a node that is not behind it. -/
theorem Srch.all {d1 d2 : Nat → Nat → Nat} {L : List Nd} {k : Nat} (h : Srch d1 d2 L k 0) (u : List UInt8) : (∃ n : Nd, L[k]? = some n ∧ sle n.txt u) ∨ ∃ (i : Nat) (m : Nd), L[i]? = some m ∧ m.a = runD d1 u ∧ m.b = runD d2 u ∧ sle m.txt u := by
  generalize hl : u.length = l
  induction l generalizing u with
  | zero =>
    have : u = [] := List.eq_nil_of_length_eq_zero hl
    subst this
    obtain ⟨z, hz, z1, z2, z3⟩ := h.zero
    exact Or.inr ⟨0, z, hz, by rw [z1]; rfl, by rw [z2]; rfl, by rw [z3]; exact sle.refl _⟩
  | succ l ih =>
    obtain ⟨v, c, rfl⟩ : ∃ v c, u = v ++ [c] := by
      have hne : u ≠ [] := by intro e; rw [e] at hl; cases hl
      exact ⟨u.dropLast, u.getLast hne, (List.dropLast_concat_getLast hne).symm⟩
    rcases ih v (by simpa using hl) with ⟨n, h1, h2⟩ | ⟨j, m, h1, h2, h3, h4⟩
    · exact Or.inl ⟨n, h1, sle_trans h2 (Or.inr (slt_one _ _))⟩
    · rcases Nat.lt_or_ge j k with h5 | h5
      · obtain ⟨q, q1, q2, q3, q4⟩ := h.seen j m c.toNat h1 c.toNat_lt (Or.inl h5)
        obtain ⟨i, hi⟩ := List.getElem?_of_mem q1
        refine Or.inr ⟨i, q, hi, by rw [runD_app, ← h2]; exact q2, by rw [runD_app, ← h3]; exact q3, sle_trans q4 ?_⟩
        rw [UInt8.ofNat_toNat]
        exact sle_snoc h4 c
      · have hk : k < L.length := Nat.lt_of_le_of_lt h5 (List.getElem?_eq_some_iff.1 h1).1
        refine Or.inl ⟨L[k], by simp [hk], ?_⟩
        refine sle_trans ?_ (sle_trans h4 (Or.inr (slt_one _ _)))
        rcases Nat.eq_or_lt_of_le h5 with h6 | h6
        · subst h6
          have : L[k] = m := by
            have h7 : L[k]? = some L[k] := by simp [hk]
            rw [h1] at h7
            injection h7 with h7
            exact h7.symm
          rw [this]
          exact sle.refl _
        · exact Or.inr (h.asc k j _ m h6 (by simp [hk]) h1)
/-- What the search finds is the least text that is wanted. -/
theorem Srch.found {d1 d2 : Nat → Nat → Nat} {L : List Nd} {k : Nat} (h : Srch d1 d2 L k 0) (W : Nat → Nat → Prop) {n : Nd} (hk : L[k]? = some n) (hlow : ∀ (j : Nat) (m : Nd), j < k → L[j]? = some m → ¬ W m.a m.b) (u : List UInt8) (hu : W (runD d1 u) (runD d2 u)) : sle n.txt u := by
  rcases h.all u with ⟨m, h1, h2⟩ | ⟨i, m, h1, h2, h3, h4⟩
  · rw [hk] at h1
    injection h1 with h1
    subst h1
    exact h2
  · rcases Nat.lt_trichotomy i k with h5 | h5 | h5
    · exact absurd (by rw [h2, h3]; exact hu) (hlow i m h5 h1)
    · rw [h5, hk] at h1
      injection h1 with h1
      subst h1
      exact h4
    · exact sle_trans (Or.inr (h.asc k i n m h5 hk h1)) h4
theorem Srch.none {d1 d2 : Nat → Nat → Nat} {L : List Nd} (h : Srch d1 d2 L L.length 0) (W : Nat → Nat → Prop) (hlow : ∀ (j : Nat) (m : Nd), L[j]? = some m → ¬ W m.a m.b) (u : List UInt8) : ¬ W (runD d1 u) (runD d2 u) := by
  rcases h.all u with ⟨m, h1, h2⟩ | ⟨i, m, h1, h2, h3, h4⟩
  · rw [List.getElem?_eq_none (Nat.le_refl _)] at h1
    cases h1
  · rw [← h2, ← h3]
    exact hlow i m h1
/-- There are not more nodes than pairs. -/
theorem pairs_le (N1 N2 : Nat) (l : List (Nat × Nat)) (hn : l.Nodup) (h : ∀ p ∈ l, p.1 < N1 ∧ p.2 < N2) : l.length ≤ N1 * N2 := by
  have hs : l ⊆ (List.range N1).flatMap fun a => (List.range N2).map fun b => (a, b) := fun p hp => by
    simp only [List.mem_flatMap, List.mem_range, List.mem_map]
    exact ⟨p.1, (h p hp).1, p.2, (h p hp).2, rfl⟩
  have := List.Nodup.length_le_of_subset hn hs
  have hl : ((List.range N1).flatMap fun a => (List.range N2).map fun b => (a, b)).length = N1 * N2 := by
    rw [List.length_flatMap]
    simp only [List.length_map, List.length_range, List.map_const']
    rw [List.sum_replicate_nat]
  omega
theorem Srch.bound {d1 d2 : Nat → Nat → Nat} {L : List Nd} {k c N1 N2 : Nat} (h : Srch d1 d2 L k c) (hd1 : ∀ a b, a < N1 → b < 256 → d1 a b < N1) (hd2 : ∀ a b, a < N2 → b < 256 → d2 a b < N2) (h1 : 0 < N1) (h2 : 0 < N2) :
    (∀ n ∈ L, n.a < N1 ∧ n.b < N2) ∧ L.length ≤ N1 * N2 := by
  have all : ∀ (i : Nat) (n : Nd), L[i]? = some n → n.a < N1 ∧ n.b < N2 := by
    intro i
    induction i using Nat.strongRecOn with
    | _ i ih =>
      intro n hn
      rcases Nat.eq_zero_or_pos i with rfl | h0
      · obtain ⟨z, hz, z1, z2, z3⟩ := h.zero
        rw [hz] at hn
        injection hn with hn
        subst hn
        rw [z1, z2]
        exact ⟨h1, h2⟩
      · obtain ⟨a1, a2, m, a3, a4, a5, a6⟩ := h.node i n hn h0
        obtain ⟨b1, b2⟩ := ih n.src a1 m a3
        rw [a5, a6]
        exact ⟨hd1 _ _ b1 a2, hd2 _ _ b2 a2⟩
  have all2 : ∀ n ∈ L, n.a < N1 ∧ n.b < N2 := fun n hn => by
    obtain ⟨i, hi⟩ := List.getElem?_of_mem hn
    exact all i n hi
  refine ⟨all2, ?_⟩
  have := pairs_le N1 N2 (L.map fun n => (n.a, n.b)) h.nodup fun p hp => by
    obtain ⟨n, hn, rfl⟩ := List.mem_map.1 hp
    exact all2 n hn
  simpa using this
/-- A node's text is not longer than its place. -/
theorem Srch.short {d1 d2 : Nat → Nat → Nat} {L : List Nd} {k c : Nat} (h : Srch d1 d2 L k c) : ∀ (i : Nat) (n : Nd), L[i]? = some n → n.txt.length ≤ i := by
  intro i
  induction i using Nat.strongRecOn with
  | _ i ih =>
    intro n hn
    rcases Nat.eq_zero_or_pos i with rfl | h0
    · obtain ⟨z, hz, z1, z2, z3⟩ := h.zero
      rw [hz] at hn
      injection hn with hn
      subst hn
      rw [z3]
      exact Nat.le_refl _
    · obtain ⟨a1, a2, m, a3, a4, a5, a6⟩ := h.node i n hn h0
      have := ih n.src a1 m a3
      rw [a4]
      simp
      omega

end Go.Proofs.Ytebcflgdjbjkoaa
/- The pairs of states that a search has seen: a map whose keys are pairs of numbers; no condition beyond those that stand there. -/
namespace Go.Proofs.Ytebcflgdjbjkoaa
open Go.RowKit
open Go.Maps (Keyed)

theorem pair_keyed : Keyed Try.prog 104 := Keyed.of_law (deep_law_laid (m := Try.prog.types.size) (by kernel_rfl) (by decide +kernel) (by decide +kernel) (by kernel_rfl) (by kernel_rfl))
def pairC (p : Nat × Nat) : Array Value := #[.int .i16 (p.1 : Nat), .int .i16 (p.2 : Nat)]
def PairOk (p : Nat × Nat) : Prop := p.1 ≤ 1000 ∧ p.2 ≤ 1000
theorem wf_i16 (x : Nat) (h : x ≤ 1000) : (Lit.int .i16 (x : Int)).wf = true := by
  show (decide ((-32768 : Int) ≤ (x : Int)) && decide ((x : Int) ≤ 32767)) = true
  rw [decide_eq_true (by omega), decide_eq_true (by omega)]
  rfl
theorem pair_key {p : Nat × Nat} (hp : PairOk p) : ∃ l, keyOf Try.prog 104 (.agg (pairC p)) = some l := by
  have h0 := wf_i16 _ hp.1
  have h1 := wf_i16 _ hp.2
  have hk : Try.prog.keyType 104 = true := by kernel_rfl
  have hc : Try.prog.cellsOf 104 = 2 := by kernel_rfl
  have hc1 : Try.prog.cellsOf 61 = 1 := by kernel_rfl
  have hf : Value.formed Try.prog 104 (.agg (pairC p)) = true := by
    unfold Value.formed
    simp only [Try.underlying104, hc]
    rfl
  obtain ⟨k, hsz⟩ : ∃ k, Try.prog.types.size = k + 1 := Nat.exists_eq_succ_of_ne_zero (by decide +kernel)
  have hone : ∀ v : Nat, (Lit.int .i16 (v : Int)).wf = true → Try.prog.keyLits (k + 1) 61 [.int .i16 (v : Int)] = some [.int .i16 v] := fun v hv => by
    unfold Program.keyLits
    simp only [Try.underlying61]
    rw [if_pos ⟨trivial, hv⟩]
  have hl : Try.prog.keyLits (k + 1 + 1) 104 (pairC p).toList = some [.int .i16 (p.1 : Nat), .int .i16 (p.2 : Nat)] := by
    unfold Program.keyLits
    simp only [Try.underlying104]
    rw [if_pos ⟨by rw [hc]; rfl, by decide +kernel⟩]
    simp only [pairC, List.mapM_cons, List.mapM_nil, hc1, List.drop_zero, List.drop_succ_cons, List.take_succ_cons, List.take_zero]
    simp [hone, h0, h1]
  unfold keyOf
  simp only [Try.underlying104, hk, hf, Bool.and_self, if_true, hsz]
  exact ⟨_, by rw [show (Value.agg (pairC p)).cells.toList = (pairC p).toList from rfl, hl]; rfl⟩

theorem pairC_inj {p q : Nat × Nat} (h : pairC p = pairC q) : p = q := by
  have h0 := congrArg (fun a => a[0]?) h
  have h1 := congrArg (fun a => a[1]?) h
  simp [pairC] at h0 h1
  exact Prod.ext (by omega) (by omega)
theorem pkeys_ne {s t : Nat × Nat} {k k' : Lit} (h1 : keyOf Try.prog 104 (.agg (pairC s)) = some k) (h2 : keyOf Try.prog 104 (.agg (pairC t)) = some k') (hne : s ≠ t) : k ≠ k' := by
  rintro rfl
  have := pair_keyed.inj h1 h2
  injection this with this
  exact hne (pairC_inj this)
theorem plainElem_bool_inv {P : Program} {e : TypeId} (he : P.underlying e = some .bool) {v : Value} {x : Bool} {ps : List MemPlace} (h : plainElem (H := Unit) P e v = some (.lit (.bool x), ps)) : v = .bool x := by
  unfold plainElem at h
  rw [he] at h
  cases v <;> simp_all
/-- The map in block b knows the pairs of a list, and no other one. -/
def SeenAt (b : Nat) (l : List (Nat × Nat)) (W : World) : Prop := ∃ D : DataW Unit, W.ownsMap Try.prog 104 (plainElem Try.prog 4) b l.length D ∧ ∀ s k, PairOk s → keyOf Try.prog 104 (.agg (pairC s)) = some k →
  D.atKey k (.lit (.bool false)) = .lit (.bool (decide (s ∈ l)))
theorem SeenAt.keep {b : Nat} {l : List (Nat × Nat)} {W W' : World} (h : SeenAt b l W) (hb : W'.heap[b]? = W.heap[b]?) : SeenAt b l W' := by
  obtain ⟨D, ⟨es, clock, h1, h2, h3, h4⟩, h5⟩ := h
  exact ⟨D, ⟨es, clock, hb.trans h1, h2, h3, h4⟩, h5⟩
theorem SeenAt.lt {b : Nat} {l : List (Nat × Nat)} {W : World} (h : SeenAt b l W) : b < W.heap.size := by
  obtain ⟨D, h1, _⟩ := h
  exact h1.lt
/-- What is put behind the last one. -/
theorem SeenAt.put_facts {l : List (Nat × Nat)} {D : DataW Unit} {s : Nat × Nat} {k : Lit} (hD : Maps.IsMap D) (hk : keyOf Try.prog 104 (.agg (pairC s)) = some k)
    (h : ∀ s k, PairOk s → keyOf Try.prog 104 (.agg (pairC s)) = some k → D.atKey k (.lit (.bool false)) = .lit (.bool (decide (s ∈ l)))) :
    ∀ t k', PairOk t → keyOf Try.prog 104 (.agg (pairC t)) = some k' → (D.put k (.lit (.bool true))).atKey k' (.lit (.bool false)) = .lit (.bool (decide (t ∈ l ++ [s]))) := by
  intro t k' ht hk'
  by_cases e : t = s
  · subst e
    have e3 : k' = k := Option.some.inj (hk'.symm.trans hk)
    rw [e3]
    rw [Maps.atKey_put_same hD (pair_keyed.key hk), decide_eq_true (List.mem_append_right l (List.mem_cons_self ..))]
  · have hne := pkeys_ne hk' hk e
    rw [Maps.atKey_put_other hne, h t k' ht hk']
    have e2 : (t ∈ l ++ [s]) ↔ t ∈ l := by simp [e]
    simp only [e2]
section
variable (w : World) {ops : Array Oper} {rest : List Oper} {o : Oper} {a : Act} {Q : Exit → Act → World → Prop}
set_option maxRecDepth 100000 in
/-- 'seen[y]'. -/
theorem wpList_seen_look (hg : o.guard = none) (m x : Operand) (t : TypeId) (hop : o.op = Op.lookup t m x false) (ht : Try.prog.underlying t = some (.map 104 4)) (hz : (zeroValue 4).run Try.prog w = .ok (.bool false) w)
    (b : Nat) (l : List (Nat × Nat)) (s : Nat × Nat) (hm : a.eval m = .map (some b)) (hown : SeenAt b l w) (hs : PairOk s) (hx : a.eval x = .agg (pairC s))
    (hK : wpList Try.prog ops Q rest (a.put o.dst (.bool (decide (s ∈ l)))) w) :
    wpList Try.prog ops Q (o :: rest) a w := by
  obtain ⟨D, h1, h2⟩ := hown
  obtain ⟨k, hk⟩ := pair_key hs
  refine wpList_plain hg fun K' hK' => ?_
  obtain ⟨v, ps, hrun, hat⟩ := h1.lookup pair_keyed ht hz (plainElem_bool (H := Unit) Try.underlying4 false) hk
  rw [h2 s k hs hk] at hat
  have hv := plainElem_bool_inv Try.underlying4 hat
  subst hv
  unfold Oper.wp
  simp [execOp, hop, hm, hx, hrun, Result.andThen]
  exact hK' _ _ hK
set_option maxRecDepth 100000 in
/-- 'seen[y] = true'. -/
theorem wpList_seen_put (hg : o.guard = none) (m x v : Operand) (t : TypeId) (hop : o.op = Op.mapUpdate t m x v) (ht : Try.prog.underlying t = some (.map 104 4))
    (b : Nat) (l : List (Nat × Nat)) (s : Nat × Nat) (hm : a.eval m = .map (some b)) (hown : SeenAt b l w) (hs : PairOk s) (hl : l.length ≤ 1000000) (hx : a.eval x = .agg (pairC s)) (hv : a.eval v = .bool true)
    (hK : ∀ w', SeenAt b (l ++ [s]) w' → w.grownBy w' (some b) → wpList Try.prog ops Q rest (a.put o.dst undef) w') :
    wpList Try.prog ops Q (o :: rest) a w := by
  obtain ⟨D, h1, h2⟩ := hown
  obtain ⟨k, hk⟩ := pair_key hs
  refine wpList_mapUpdate_own w hg m x v t hop 104 4 pair_keyed ht _ b _ D hm h1 (by unfold maxLen; omega) _ _ k hx hv hk _ [] (plainElem_bool Try.underlying4 true) ?_
  intro w' hown' hgr
  refine hK w' ⟨_, ?_, SeenAt.put_facts h1.isMap hk h2⟩ hgr
  rw [List.length_append]
  exact hown'
set_option maxRecDepth 100000 in
/-- The same, of a map that is written out. -/
theorem wpList_seen_ins (hg : o.guard = none) (m x v : Operand) (t : TypeId) (hop : o.op = Op.insert t m x v) (ht : Try.prog.underlying t = some (.map 104 4))
    (b : Nat) (s : Nat × Nat) (hm : a.eval m = .map (some b)) (h1 : w.ownsMap Try.prog 104 (plainElem (H := Unit) Try.prog 4) b 0 (.map [])) (hs : PairOk s) (hx : a.eval x = .agg (pairC s)) (hv : a.eval v = .bool true)
    (hK : ∀ w', SeenAt b [s] w' → w.grownBy w' (some b) → wpList Try.prog ops Q rest (a.put o.dst undef) w') :
    wpList Try.prog ops Q (o :: rest) a w := by
  obtain ⟨k, hk⟩ := pair_key hs
  refine wpList_plain hg fun K' hK' => ?_
  obtain ⟨w', hrun, r1, r2⟩ := h1.update pair_keyed ht (by decide) hk (plainElem_bool Try.underlying4 true)
  unfold Oper.wp
  simp [execOp, hop, hm, hx, hv, hrun, Result.andThen]
  refine hK' _ _ (hK w' ⟨_, r1, ?_⟩ r2)
  have := SeenAt.put_facts (l := []) (D := .map []) (s := s) (k := k) h1.isMap hk fun t k' _ _ => rfl
  simpa using this
end

end Go.Proofs.Ytebcflgdjbjkoaa
/- append at rows of up to a million elements; rows of bytes, their strings, their reversal; rows of nodes; no condition beyond those that stand there. -/
namespace Go.Proofs.Ytebcflgdjbjkoaa
open Go.RowKit

theorem elem_node : Elem 106 4 := elem_of (b := 24) (z := .agg #[.int .i16 0, .int .i16 0, .int .i64 0, .int .u8 0]) (by kernel_rfl) (by kernel_rfl) (by decide) (by decide)
theorem elem_u8 : Elem 5 1 := elem_of (b := 1) (z := .int .u8 0) (by kernel_rfl) (by kernel_rfl) (by decide) (by decide)
theorem one_int (k : IntKind) (x : Int) : ∀ u ∈ [Value.int k x], u.oneCell' = true := fun u hu => by
  simp only [List.mem_cons, List.not_mem_nil, or_false] at hu
  subst hu
  rfl
/-- append at rows of elements; where the row lies then. -/
theorem append_big {e : TypeId} {k : Nat} (he : Elem e k) {ops : Array Oper} {rest : List Oper} {o : Oper} {a : Act} {w : World} {Q : Exit → Act → World → Prop} (hgd : o.guard = none) (s x : Operand) (t : TypeId)
    (ho : o.op = .call { callee := .builtin .append, args := #[s, x], argTypes := #[t, t] }) (ht : Try.prog.underlying t = some (.slice e)) (base : Nat)
    (v : Value) (n : Nat) (xs : List Value) (hs : a.eval s = v) (hrow : w.ownsRow base e k v n xs) (hl : n ≤ 1000000)
    (q c : Nat) (news : List Value) (hx : a.eval x = .slice (some ⟨q, 0, none⟩) 1 c) (hm : news.length = k) (hq : w.heap[q]? = some (.cells news.toArray e (0, 0))) (h1 : ∀ u ∈ news, u.oneCell' = true) (hbase : base ≤ w.heap.size)
    (h : ∀ g cap w', w'.ownsRow base e k (.slice (some ⟨g, 0, none⟩) (n + 1) cap) (n + 1) (xs ++ news) → w.grownBy w' v.ownBlock → (v.ownBlock = some g ∨ g = w.heap.size) → wpList Try.prog ops Q rest (a.put o.dst (.slice (some ⟨g, 0, none⟩) (n + 1) cap)) w') : wpList Try.prog ops Q (o :: rest) a w := by
  obtain ⟨i0, z, b, hi0, hz0, hz1, hz2, hz3, hk, hb⟩ := he
  refine wpList_append_lies w hgd s x t ho base e i0 _ k b ht hi0 hz0 hz1 hz2 hz3 hk v n xs hs hrow ⟨q, 0, none⟩ 1 c news hx (by omega) ?_ h1 (by decide) (by unfold maxLen; omega) ?_ hbase w.heap.size rfl ?_
  · intro j u hj
    have hadd : (⟨q, 0, none⟩ : Addr).add j = ⟨q, j, none⟩ := by unfold Addr.add; split <;> simp_all
    rw [hadd, Lib.cell_of_heap hq]
    simpa using hj
  · have : (n + 1) * b ≤ 1000001 * 1000 := Nat.mul_le_mul (by omega) hb
    omega
  · intro g cap w' h2 h3 h4 _
    exact h g cap w' h2 h3 h4
/-- The cells of a text. -/
def bytC (l : List UInt8) : List Value := l.map fun c => Value.int .u8 (c.toNat : Nat)
theorem bytC_len (l : List UInt8) : (bytC l).length = l.length := by simp [bytC]
theorem bytC_get {l : List UInt8} {i : Nat} (h : i < l.length) : (bytC l)[i]? = some (.int .u8 ((l.getD i 0).toNat : Nat)) := by simp [bytC, List.getD, h]
theorem bytC_set (l : List UInt8) (i : Nat) (c : UInt8) : (bytC l).set i (.int .u8 (c.toNat : Nat)) = bytC (l.set i c) := by simp [bytC, List.map_set]
theorem bytC_app (l m : List UInt8) : bytC (l ++ m) = bytC l ++ bytC m := by simp [bytC]
theorem strOf_byt (l : List UInt8) : strOfNums (l.map fun c => ((c.toNat : Nat) : Int)) = ⟨l.toArray⟩ := by
  unfold strOfNums
  rw [List.map_map]
  congr 1
  congr 1
  have : ((fun n : Int => UInt8.ofNat n.toNat) ∘ fun c : UInt8 => ((c.toNat : Nat) : Int)) = id := by
    funext c
    simp
  rw [this, List.map_id]
/-- A row of bytes as a string. -/
theorem conv_row {w : World} {base : Nat} {v : Value} {l : List UInt8} (h : w.ownsRow base 5 1 v l.length (bytC l)) : (convert 46 9 v).run Try.prog w = .ok (.string ⟨l.toArray⟩) w := by
  rcases h.2 with ⟨rfl, h0⟩ | ⟨g, cap, cur, rfl, h1, h2, h3, h4, h5, h6⟩
  · have : l = [] := List.eq_nil_of_length_eq_zero h0
    subst this
    exact run_convert_bytes_nil w 46 5 Try.underlying46 Try.underlying5 0 0 9 Try.underlying9
  · rw [← strOf_byt]
    refine run_convert_bytes_arg w 46 5 Try.underlying46 Try.underlying5 g 0 l.length cap _ (by simp) (fun i hi => ?_) 9 Try.underlying9
    have h := (World.ownsRow.cellAt h i (by omega)).trans (bytC_get hi)
    rw [Nat.zero_add, h]
    simp [List.getD, hi]
/-- i exchanges from both ends. -/
def swapN (l : List UInt8) : Nat → List UInt8
  | 0 => l
  | i + 1 => ((swapN l i).set i ((swapN l i).getD (l.length - 1 - i) 0)).set (l.length - 1 - i) ((swapN l i).getD i 0)
theorem swapN_len (l : List UInt8) : ∀ i, (swapN l i).length = l.length
  | 0 => rfl
  | i + 1 => by simp [swapN, swapN_len l i]
theorem swapN_get (l : List UInt8) : ∀ i, 2 * i ≤ l.length → ∀ p, p < l.length → (swapN l i).getD p 0 = if p < i ∨ l.length - i ≤ p then l.getD (l.length - 1 - p) 0 else l.getD p 0
  | 0, _, p, hp => by rw [if_neg (by omega)]; rfl
  | i + 1, hi, p, hp => by
    have hl := swapN_len l i
    have a1 := swapN_get l i (by omega) (l.length - 1 - i) (by omega)
    have a2 := swapN_get l i (by omega) i (by omega)
    have a3 := swapN_get l i (by omega) p hp
    rw [if_neg (by omega)] at a1 a2
    unfold swapN
    by_cases e1 : p = l.length - 1 - i
    · subst e1
      rw [List.getD, List.getElem?_set_self (by simp [hl]; omega), Option.getD_some, a2, if_pos (by omega)]
      congr 1
      omega
    · by_cases e2 : p = i
      · subst e2
        rw [List.getD, List.getElem?_set_ne (Ne.symm e1), List.getElem?_set_self (by omega), Option.getD_some, a1, if_pos (by omega)]
      · rw [List.getD, List.getElem?_set_ne (Ne.symm e1), List.getElem?_set_ne (Ne.symm e2)]
        refine a3.trans ?_
        by_cases e3 : p < i ∨ l.length - i ≤ p
        · rw [if_pos e3, if_pos (by omega)]
        · rw [if_neg e3, if_neg (by omega)]
theorem swapN_rev (l : List UInt8) (i : Nat) (h1 : 2 * i ≤ l.length) (h2 : l.length ≤ 2 * i + 1) : swapN l i = l.reverse := by
  refine List.ext_getElem (by simp [swapN_len]) fun p hp hq => ?_
  have hpl : p < l.length := by rw [swapN_len] at hp; exact hp
  have := swapN_get l i h1 p hpl
  rw [List.getD, List.getElem?_eq_getElem hp, Option.getD_some] at this
  rw [this, List.getElem_reverse]
  by_cases e : p < i ∨ l.length - i ≤ p
  · rw [if_pos e]
    simp [List.getD, show l.length - 1 - p < l.length by omega]
  · rw [if_neg e]
    have e2 : l.length - 1 - p = p := by omega
    simp [List.getD, hpl, e2]
/-- The cells of a row of nodes. -/
def srcI (n : Nd) : Int := if n.txt = [] then -1 else (n.src : Int)
def ndC (n : Nd) : List Value := [.int .i16 (n.a : Nat), .int .i16 (n.b : Nat), .int .i64 (srcI n), .int .u8 (n.byt : Nat)]
def nodesC : List Nd → List Value
  | [] => []
  | n :: r => ndC n ++ nodesC r
theorem nodesC_app : ∀ (l : List Nd) (n : Nd), nodesC (l ++ [n]) = nodesC l ++ ndC n
  | [], n => by simp [nodesC]
  | m :: l, n => by simp [nodesC, nodesC_app l n]
theorem nodesC_get : ∀ (l : List Nd) (k : Nat) (n : Nd) (j : Nat), l[k]? = some n → j < 4 → (nodesC l)[k * 4 + j]? = (ndC n)[j]?
  | [], k, n, j, h, _ => by simp at h
  | m :: l, 0, n, j, h, hj => by
    have : m = n := by simpa using h
    subst this
    rw [Nat.zero_mul, Nat.zero_add]
    simp only [nodesC]
    rw [List.getElem?_append_left (by simp [ndC]; omega)]
  | m :: l, k + 1, n, j, h, hj => by
    simp only [nodesC]
    rw [List.getElem?_append_right (by simp [ndC]; omega)]
    have e : (k + 1) * 4 + j - (ndC m).length = k * 4 + j := by simp [ndC]; omega
    rw [e]
    exact nodesC_get l k n j (by simpa using h) hj

end Go.Proofs.Ytebcflgdjbjkoaa
/- A machine's rows as steps of numbers; what lies in memory while a search goes on; no condition beyond those that stand there. -/
namespace Go.Proofs.Ytebcflgdjbjkoaa
open Go.RowKit

/-- Where byte b leads from state k. -/
def dM (rows : List (List Nat)) (k b : Nat) : Nat := (rows.getD k []).getD b 0
section
variable {B : Nat} {cls fol : List Set4} {x : Part} {sets : List Set4} {rows : List (List Nat)} {ends : List Bool} {nv ev : Value} {W : World}
theorem MachAt.dstep (h : MachAt B cls fol x sets rows ends nv ev W) {k b : Nat} {s : Set4} (hk : sets[k]? = some s) (hb : b < 256) :
    (rowsC rows)[k * 256 + b]? = some (.int .i16 (dM rows k b : Nat)) ∧ sets[dM rows k b]? = some (stepM cls fol s b) := by
  obtain ⟨n, h1, h2, r, h3, h4⟩ := h.step hk hb
  have e : dM rows k b = n := by simp [dM, List.getD, h3, h4]
  rw [e]
  exact ⟨h1, h2⟩
theorem MachAt.dlt (h : MachAt B cls fol x sets rows ends nv ev W) {k b : Nat} (hk : k < sets.length) (hb : b < 256) : dM rows k b < sets.length :=
  (List.getElem?_eq_some_iff.1 (h.dstep (List.getElem?_eq_getElem hk) hb).2).1
theorem MachAt.drun (h : MachAt B cls fol x sets rows ends nv ev W) (u : List UInt8) : sets[runD (dM rows) u]? = some (runM cls fol u) := by
  generalize hl : u.length = l
  induction l generalizing u with
  | zero =>
    have : u = [] := List.eq_nil_of_length_eq_zero hl
    subst this
    exact h.half.first
  | succ l ih =>
    obtain ⟨v, c, rfl⟩ : ∃ v c, u = v ++ [c] := by
      have hne : u ≠ [] := by intro e; rw [e] at hl; cases hl
      exact ⟨u.dropLast, u.getLast hne, (List.dropLast_concat_getLast hne).symm⟩
    rw [runD_app, runM_app]
    exact (h.dstep (ih v (by simpa using hl)) c.toNat_lt).2
theorem MachAt.dend (h : MachAt B cls fol x sets rows ends nv ev W) {k : Nat} {s : Set4} (hk : sets[k]? = some s) : (ends.map Value.bool)[k]? = some (.bool (ends.getD k false)) ∧ ends.getD k false = endsM x s := by
  have hkl : k < ends.length := by rw [h.half.el]; exact (List.getElem?_eq_some_iff.1 hk).1
  have he : ends[k]? = some ends[k] := by simp [hkl]
  have h2 := h.half.re k s ends[k] hk he
  have h3 : ends.getD k false = ends[k] := by simp [List.getD, hkl]
  exact ⟨by rw [List.getElem?_map, he, h3]; rfl, by rw [h3, h2]⟩
theorem MachAt.dends (h : MachAt B cls fol x sets rows ends nv ev W) (u : List UInt8) : ends.getD (runD (dM rows) u) false = endsM x (runM cls fol u) := (h.dend (h.drun u)).2
theorem MachAt.pos (h : MachAt B cls fol x sets rows ends nv ev W) : 0 < sets.length := (List.getElem?_eq_some_iff.1 h.half.first).1
end
theorem pair_mem {L : List Nd} {p : Nat × Nat} : p ∈ (L.map fun n => (n.a, n.b)) ↔ ∃ n ∈ L, (n.a, n.b) = p := List.mem_map
/-- What lies in memory while the search goes on. -/
structure SrAt (B SB MA MB : Nat) (w : World) (n1 e1 n2 e2 : Value) (L : List Nd) (lv : Value) (W : World) : Prop where
  bel : Below w.heap.size w W
  lo : w.heap.size ≤ B ∧ B ≤ W.heap.size
  ma : W.heap[MA]? = some (.cells #[n1, e1] 58 (0, 0))
  mb : W.heap[MB]? = some (.cells #[n2, e2] 58 (0, 0))
  seen : SeenAt SB (L.map fun n => (n.a, n.b)) W
  row : W.ownsRow B 106 4 lv L.length (nodesC L)
theorem seen_ne {NB : Nat} {l : List (Nat × Nat)} {W : World} (h : SeenAt NB l W) {k : Nat} {cs : Array Value} {T : TypeId} {m : Nat × Nat} (hk : W.heap[k]? = some (.cells cs T m)) : k ≠ NB := fun e => by
  obtain ⟨D, ⟨es, clock, h1, _⟩, _⟩ := h
  rw [e, h1] at hk
  cases hk
section
variable {B SB MA MB : Nat} {w : World} {n1 e1 n2 e2 : Value} {L : List Nd} {lv : Value} {W W' : World}
theorem SrAt.below (h : SrAt B SB MA MB w n1 e1 n2 e2 L lv W) (hb : Below W.heap.size W W') : SrAt B SB MA MB w n1 e1 n2 e2 L lv W' :=
  ⟨h.bel.trans (hb.mono h.bel.size), ⟨h.lo.1, Nat.le_trans h.lo.2 hb.size⟩, (hb.block _ (lt_of_block h.ma)).trans h.ma, (hb.block _ (lt_of_block h.mb)).trans h.mb, h.seen.keep (hb.block _ h.seen.lt), row_keepP h.row fun q hq => hb.block q (World.ownsRow.lt h.row q hq).2⟩
/-- A pair is put into the map, and a node behind the last one. -/
theorem SrAt.grow (h : SrAt B SB MA MB w n1 e1 n2 e2 L lv W) {n : Nd} {W1 W2 : World} {lv2 : Value} (h1 : SeenAt SB ((L.map fun n => (n.a, n.b)) ++ [(n.a, n.b)]) W1) (g1 : W.grownBy W1 (some SB)) (hS : w.heap.size ≤ SB)
    {b1 : Below W1.heap.size W1 W2} {W3 : World} (g2 : W2.grownBy W3 lv.ownBlock) (h2 : W3.ownsRow B 106 4 lv2 (L.length + 1) (nodesC L ++ ndC n)) :
    SrAt B SB MA MB w n1 e1 n2 e2 (L ++ [n]) lv2 W3 ∧ ∀ k, k < W.heap.size → k ≠ SB → lv.ownBlock ≠ some k → W3.heap[k]? = W.heap[k]? := by
  have hall : ∀ k, k < W.heap.size → k ≠ SB → lv.ownBlock ≠ some k → W3.heap[k]? = W.heap[k]? := fun k hk hs hr => by
    have s1 := g1.size
    have s2 := b1.size
    rw [g2.block k (by omega) (fun e => hr e.symm), b1.block k (by omega), g1.block k hk (fun e => hs (by injection e))]
  have hsz : W.heap.size ≤ W3.heap.size := Nat.le_trans g1.size (Nat.le_trans b1.size g2.size)
  have hrl : ∀ k, lv.ownBlock = some k → B ≤ k := fun k hk => (World.ownsRow.lt h.row k hk).1
  have hl := h.lo
  have hbz := h.bel.size
  refine ⟨⟨⟨g2.os.trans (b1.os.trans (g1.os.trans h.bel.os)), g2.tape.trans (b1.tape.trans (g1.tape.trans h.bel.tape)), g2.output.trans (b1.output.trans (g1.output.trans h.bel.output)), Nat.le_trans h.bel.size hsz, fun k hk => ?_⟩, ⟨h.lo.1, Nat.le_trans h.lo.2 hsz⟩, ?_, ?_, ?_, ?_⟩, hall⟩
  · rw [hall k (by omega) (by omega) (fun e => by have := hrl k e; omega)]
    exact h.bel.block k hk
  · rw [hall MA (lt_of_block h.ma) (seen_ne h.seen h.ma) (row_ne h.row h.ma (by decide))]
    exact h.ma
  · rw [hall MB (lt_of_block h.mb) (seen_ne h.seen h.mb) (row_ne h.row h.mb (by decide))]
    exact h.mb
  · have e : ((L ++ [n]).map fun n => (n.a, n.b)) = (L.map fun n => (n.a, n.b)) ++ [(n.a, n.b)] := by simp
    rw [e]
    have s1 := h1.lt
    have s2 := b1.size
    refine h1.keep ?_
    rw [g2.block SB (by omega) (fun e => ?_), b1.block SB s1]
    obtain ⟨cu, hcu⟩ := row_cell h.row e.symm
    exact seen_ne h.seen hcu rfl
  · rw [nodesC_app, List.length_append]
    exact h2
end

end Go.Proofs.Ytebcflgdjbjkoaa
