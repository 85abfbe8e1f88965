/- The texts of a machine in order, and how they are gone through with a stack. No program; no condition beyond those that stand there. -/
import Derived.Test.YtebcflgdjbjkoaaExact
namespace Go.Proofs.Ytebcflgdjbjkoaa
open Go.RowKit

section
variable (nx : Nat → Nat → Nat) (en : Nat → Bool)
/-- From state k some text of n bytes leads to an end. -/
def exB : Nat → Nat → Bool
  | 0, k => en k
  | n + 1, k => anyN (fun b => exB n (nx k b)) 256
/-- The texts of n bytes that lead from state k to an end, in order. -/
def allW : Nat → Nat → List (List UInt8)
  | 0, k => if en k then [[]] else []
  | n + 1, k => (List.range 256).flatMap fun b => (allW n (nx k b)).map (UInt8.ofNat b :: ·)
/-- The same, those whose first byte is not less than f. -/
def cur : Nat → Nat → Nat → List (List UInt8)
  | 0, k, f => if f = 0 ∧ en k = true then [[]] else []
  | n + 1, k, f => ((List.range 256).drop f).flatMap fun b => (allW nx en n (nx k b)).map (UInt8.ofNat b :: ·)
def stkT (st : List (Nat × Nat)) : List UInt8 := (st.map fun p => UInt8.ofNat p.2).reverse
def remS : List (Nat × Nat) → Nat → List (List UInt8)
  | [], _ => []
  | (k, b) :: st, r => (cur nx en (r + 1) k (b + 1)).map (stkT st ++ ·) ++ remS st (r + 1)
/-- What is still to come. -/
def remA (st : List (Nat × Nat)) (r k f : Nat) : List (List UInt8) := (cur nx en r k f).map (stkT st ++ ·) ++ remS nx en st r
theorem cur_z (k f : Nat) : cur nx en 0 k f = if f = 0 ∧ en k = true then [[]] else [] := rfl
theorem cur_s (n k f : Nat) : cur nx en (n + 1) k f = ((List.range 256).drop f).flatMap fun b => (allW nx en n (nx k b)).map (UInt8.ofNat b :: ·) := rfl
theorem cur_zero (n k : Nat) : cur nx en n k 0 = allW nx en n k := by
  cases n with
  | zero =>
    unfold cur allW
    by_cases h : en k = true <;> simp [h]
  | succ n => rfl
theorem allW_nil : ∀ (n k : Nat), exB nx en n k = false → allW nx en n k = []
  | 0, k, h => by
    unfold exB at h
    unfold allW
    rw [h]
    rfl
  | n + 1, k, h => by
    unfold exB at h
    unfold allW
    rw [List.flatMap_eq_nil_iff]
    intro b hb
    have hb' := List.mem_range.1 hb
    have h2 : exB nx en n (nx k b) = false := by
      cases hx : exB nx en n (nx k b) with
      | false => rfl
      | true =>
        have := (anyN_true (p := fun b => exB nx en n (nx k b))).2 ⟨b, hb', hx⟩
        rw [h] at this
        cases this
    rw [allW_nil n _ h2]
    rfl
theorem cur_step {n k b : Nat} (hb : b < 256) : cur nx en (n + 1) k b = (allW nx en n (nx k b)).map (UInt8.ofNat b :: ·) ++ cur nx en (n + 1) k (b + 1) := by
  rw [cur_s, cur_s, List.drop_eq_getElem_cons (by simpa using hb), List.flatMap_cons]
  simp
theorem cur_skip {n k b : Nat} (hb : b < 256) (h : exB nx en n (nx k b) = false) : cur nx en (n + 1) k b = cur nx en (n + 1) k (b + 1) := by
  rw [cur_step nx en hb, allW_nil nx en _ _ h]
  rfl
theorem cur_end (n k : Nat) : cur nx en n k 256 = [] := by
  cases n with
  | zero => rw [cur_z, if_neg (by omega)]
  | succ n =>
    rw [cur_s, List.drop_eq_nil_of_le (by simp)]
    rfl
theorem stkT_cons (k b : Nat) (st : List (Nat × Nat)) : stkT ((k, b) :: st) = stkT st ++ [UInt8.ofNat b] := by simp [stkT]
theorem rem_push {st : List (Nat × Nat)} {r k b : Nat} (hb : b < 256) : remA nx en st (r + 1) k b = remA nx en ((k, b) :: st) r (nx k b) 0 := by
  unfold remA
  rw [cur_step nx en hb, cur_zero, List.map_append, List.map_map, stkT_cons]
  simp only [remS]
  rw [List.append_assoc]
  congr 1
  refine List.map_congr_left fun u _ => ?_
  simp
theorem rem_pop (st : List (Nat × Nat)) (r k k' b' : Nat) : remA nx en ((k', b') :: st) r k 256 = remA nx en st (r + 1) k' (b' + 1) := by
  unfold remA
  rw [cur_end]
  rfl
theorem rem_end (r k : Nat) : remA nx en [] r k 256 = [] := by
  unfold remA
  rw [cur_end]
  rfl
theorem rem_word (st : List (Nat × Nat)) (k : Nat) (h : en k = true) : remA nx en st 0 k 0 = stkT st :: remA nx en st 0 k 256 := by
  unfold remA
  rw [cur_end]
  rw [cur_z, if_pos ⟨rfl, h⟩]
  simp
theorem rem_start (n : Nat) : remA nx en [] n 0 0 = allW nx en n 0 := by
  unfold remA
  rw [cur_zero]
  simp [stkT, remS]
/-- How long it may still take. -/
def costC : Nat → Nat → Nat
  | 0, _ => 1
  | r + 1, f => 1 + (256 - f) * (costC r 0 + 1)
def costS : List (Nat × Nat) → Nat → Nat
  | [], _ => 0
  | (_, b) :: st, r => costC (r + 1) (b + 1) + costS st (r + 1)
theorem costC_s (r f : Nat) : costC (r + 1) f = 1 + (256 - f) * (costC r 0 + 1) := rfl
theorem cost_mono (r : Nat) {f g : Nat} (h : f ≤ g) : costC r g ≤ costC r f := by
  cases r with
  | zero => exact Nat.le_refl _
  | succ r =>
    rw [costC_s, costC_s]
    have := Nat.mul_le_mul_right (costC r 0 + 1) (show 256 - g ≤ 256 - f by omega)
    omega
theorem cost_push {st : List (Nat × Nat)} {r k f b : Nat} (hf : f ≤ b) (hb : b < 256) : costC r 0 + costS ((k, b) :: st) r < costC (r + 1) f + costS st (r + 1) := by
  have h1 := cost_mono (r + 1) hf
  simp only [costS]
  have h2 : costC (r + 1) b = costC (r + 1) (b + 1) + (costC r 0 + 1) := by
    rw [costC_s, costC_s, show 256 - b = (256 - (b + 1)) + 1 by omega, Nat.succ_mul]
    generalize (256 - (b + 1)) * (costC r 0 + 1) = x
    generalize costC r 0 = y
    omega
  generalize costC (r + 1) (b + 1) = x at *
  generalize costC r 0 = y at *
  generalize costC (r + 1) b = z at *
  generalize costC (r + 1) f = t at *
  omega
theorem cost_pop (st : List (Nat × Nat)) (r k' b' f : Nat) : costC (r + 1) (b' + 1) + costS st (r + 1) < costC r f + costS ((k', b') :: st) r := by
  simp only [costS]
  have : 0 < costC r f := by
    cases r with
    | zero => exact Nat.one_pos
    | succ r => unfold costC; omega
  omega
/-- The texts of at most n - 1 bytes, in order. -/
def firstW (n : Nat) : List (List UInt8) := (List.range n).flatMap fun j => allW nx en j 0
theorem firstW_succ (n : Nat) : firstW nx en (n + 1) = firstW nx en n ++ allW nx en n 0 := by
  unfold firstW
  rw [List.range_succ, List.flatMap_append]
  simp
theorem firstW_le {n m : Nat} (h : n ≤ m) : ∃ t, firstW nx en m = firstW nx en n ++ t := by
  induction m with
  | zero => exact ⟨[], by rw [show n = 0 by omega]; simp⟩
  | succ m ih =>
    rcases Nat.lt_or_ge m n with h1 | h1
    · exact ⟨[], by rw [show n = m + 1 by omega]; simp⟩
    · obtain ⟨t, ht⟩ := ih h1
      exact ⟨t ++ allW nx en m 0, by rw [firstW_succ, ht, List.append_assoc]⟩
/-- Where no text of n bytes is left from any state, none of more bytes is. -/
theorem exB_none {N : Nat} (hN : ∀ k b, k < N → b < 256 → nx k b < N) {n : Nat} (h : ∀ k, k < N → exB nx en n k = false) : ∀ m, n ≤ m → ∀ k, k < N → exB nx en m k = false := by
  intro m
  induction m with
  | zero => intro hm k hk; rw [show n = 0 by omega] at h; exact h k hk
  | succ m ih =>
    intro hm k hk
    rcases Nat.lt_or_ge m n with h1 | h1
    · rw [show m + 1 = n by omega]; exact h k hk
    · unfold exB
      cases hx : anyN (fun b => exB nx en m (nx k b)) 256 with
      | false => rfl
      | true =>
        obtain ⟨b, hb, h2⟩ := anyN_true.1 hx
        rw [ih h1 _ (hN k b hk hb)] at h2
        cases h2
theorem firstW_none {n : Nat} (h : ∀ m, n ≤ m → exB nx en m 0 = false) : ∀ m, n ≤ m → firstW nx en m = firstW nx en n := by
  intro m
  induction m with
  | zero => intro hm; rw [show n = 0 by omega]
  | succ m ih =>
    intro hm
    rcases Nat.lt_or_ge m n with h1 | h1
    · rw [show m + 1 = n by omega]
    · rw [firstW_succ, ih h1, allW_nil nx en _ _ (h m h1), List.append_nil]
theorem allW_len : ∀ (n k : Nat) (u : List UInt8), u ∈ allW nx en n k → u.length = n
  | 0, k, u, h => by
    unfold allW at h
    split at h
    · have : u = [] := by simpa using h
      rw [this]; rfl
    · simp at h
  | n + 1, k, u, h => by
    unfold allW at h
    obtain ⟨b, _, hb⟩ := List.mem_flatMap.1 h
    obtain ⟨v, hv, rfl⟩ := List.mem_map.1 hb
    simp [allW_len n _ v hv]
def runE (k : Nat) (u : List UInt8) : Nat := u.foldl (fun s c => nx s c.toNat) k
theorem allW_mem : ∀ (n k : Nat) (u : List UInt8), u ∈ allW nx en n k ↔ u.length = n ∧ en (runE nx k u) = true
  | 0, k, u => by
    unfold allW
    constructor
    · intro h
      split at h
      · have : u = [] := by simpa using h
        subst this
        exact ⟨rfl, by assumption⟩
      · simp at h
    · rintro ⟨h1, h2⟩
      have : u = [] := List.eq_nil_of_length_eq_zero h1
      subst this
      have h3 : en k = true := h2
      rw [if_pos h3]
      simp
  | n + 1, k, u => by
    unfold allW
    constructor
    · intro h
      obtain ⟨b, hb, hm⟩ := List.mem_flatMap.1 h
      obtain ⟨v, hv, rfl⟩ := List.mem_map.1 hm
      obtain ⟨h1, h2⟩ := (allW_mem n _ v).1 hv
      refine ⟨by simp [h1], ?_⟩
      have h3 : runE nx k (UInt8.ofNat b :: v) = runE nx (nx k b) v := by
        unfold runE
        rw [List.foldl_cons, ofNat_toNat8 (List.mem_range.1 hb)]
      rw [h3]
      exact h2
    · rintro ⟨h1, h2⟩
      cases u with
      | nil => simp at h1
      | cons c v =>
        refine List.mem_flatMap.2 ⟨c.toNat, List.mem_range.2 c.toNat_lt, List.mem_map.2 ⟨v, (allW_mem n _ v).2 ⟨by simpa using h1, h2⟩, ?_⟩⟩
        rw [UInt8.ofNat_toNat]
theorem allW_sorted : ∀ (n k : Nat), (allW nx en n k).Pairwise slt
  | 0, k => by
    unfold allW
    split <;> simp
  | n + 1, k => by
    unfold allW
    rw [List.pairwise_flatMap]
    refine ⟨fun b hb => ?_, ?_⟩
    · rw [List.pairwise_map]
      refine (allW_sorted n (nx k b)).imp fun {u v} h => ?_
      rcases h with h | ⟨h1, h2⟩
      · exact Or.inl (by simpa using h)
      · refine Or.inr ⟨by simpa using h1, ?_⟩
        have := less_same [UInt8.ofNat b] u v
        simp only [List.cons_append, List.nil_append] at this
        rw [this]
        exact h2
    · rw [List.pairwise_iff_getElem]
      intro i j hi hj hij u hu v hv
      rw [List.getElem_range] at hu hv
      obtain ⟨u', hu', rfl⟩ := List.mem_map.1 hu
      obtain ⟨v', hv', rfl⟩ := List.mem_map.1 hv
      refine Or.inr ⟨by simp [allW_len nx en _ _ _ hu', allW_len nx en _ _ _ hv'], ?_⟩
      have hi' : i < 256 := by simpa using hi
      have hj' : j < 256 := by simpa using hj
      simp only [Op.bytesLess, Bool.or_eq_true, decide_eq_true_eq, UInt8.lt_iff_toNat_lt, ofNat_toNat8 hi', ofNat_toNat8 hj']
      exact Or.inl hij
theorem firstW_mem (n : Nat) (u : List UInt8) : u ∈ firstW nx en n ↔ u.length < n ∧ en (runE nx 0 u) = true := by
  unfold firstW
  rw [List.mem_flatMap]
  constructor
  · rintro ⟨j, hj, hu⟩
    obtain ⟨h1, h2⟩ := (allW_mem nx en j 0 u).1 hu
    exact ⟨by rw [h1]; exact List.mem_range.1 hj, h2⟩
  · rintro ⟨h1, h2⟩
    exact ⟨u.length, List.mem_range.2 h1, (allW_mem nx en _ 0 u).2 ⟨rfl, h2⟩⟩
theorem firstW_sorted (n : Nat) : (firstW nx en n).Pairwise slt := by
  unfold firstW
  rw [List.pairwise_flatMap]
  refine ⟨fun j _ => allW_sorted nx en j 0, ?_⟩
  rw [List.pairwise_iff_getElem]
  intro i j hi hj hij u hu v hv
  rw [List.getElem_range] at hu hv
  exact Or.inl (by rw [allW_len nx en _ _ _ hu, allW_len nx en _ _ _ hv]; exact hij)
end

end Go.Proofs.Ytebcflgdjbjkoaa
