/- Texts that are joined by a byte, and groups of digits: a plain law; no condition beyond those that stand there. -/
import Derived.Test.YtpoolbachhelgaaDoorNum
import Derived.Lib.Split
import Derived.Lib.Replace
import Derived.Lib.IndexBytes
namespace Go.Proofs.YtpoolbachhelgaaDoor

/-- Pieces with a sign between them. -/
def joinC {α : Type} (c : α) : List (List α) → List α
  | [] => []
  | [x] => x
  | x :: y :: r => x ++ c :: joinC c (y :: r)
theorem joinC_map {α β : Type} (f : α → β) (c : α) : ∀ cs : List (List α), (joinC c cs).map f = joinC (f c) (cs.map (List.map f))
  | [] => rfl
  | [x] => rfl
  | x :: y :: r => by
    rw [joinC, List.map_append, List.map_cons, joinC_map f c (y :: r)]
    rfl
theorem index_byte_at (x y : List UInt8) (c : UInt8) (h : ∀ b ∈ x, b ≠ c) : Lib.index (x ++ c :: y) [c] = (x.length : Nat) := by
  rw [Lib.index_one]
  induction x with
  | nil => simp [Lib.indexByte]
  | cons a x ih =>
    have h1 := h a (List.mem_cons_self ..)
    have ih := ih (fun b hb => h b (List.mem_cons_of_mem _ hb))
    rw [List.cons_append, Lib.indexByte, ih]
    have e : (a == c) = false := beq_eq_false_iff_ne.2 h1
    simp [e]
theorem index_byte_none (x : List UInt8) (c : UInt8) (h : ∀ b ∈ x, b ≠ c) : Lib.index x [c] = -1 := by
  rw [Lib.index_one]
  induction x with
  | nil => rfl
  | cons a x ih =>
    have h1 := h a (List.mem_cons_self ..)
    have ih := ih (fun b hb => h b (List.mem_cons_of_mem _ hb))
    rw [Lib.indexByte, ih]
    have e : (a == c) = false := beq_eq_false_iff_ne.2 h1
    simp [e]
theorem count_join (c : UInt8) : ∀ (x : List UInt8) (r : List (List UInt8)), (∀ p ∈ x :: r, ∀ b ∈ p, b ≠ c) → Lib.count (joinC c (x :: r)) [c] = r.length
  | x, [], h => Lib.count_miss (index_byte_none x c (h x (List.mem_cons_self ..)))
  | x, y :: r, h => by
    have hi := index_byte_at x (joinC c (y :: r)) c (h x (List.mem_cons_self ..))
    rw [joinC, Lib.count_hit (by simp) hi]
    rw [show [c].length = 1 from rfl, show (x ++ c :: joinC c (y :: r)).drop (x.length + 1) = joinC c (y :: r) from by
      rw [show x ++ c :: joinC c (y :: r) = (x ++ [c]) ++ joinC c (y :: r) from by simp, List.drop_left' (by simp)]]
    rw [count_join c y r (fun p hp => h p (List.mem_cons_of_mem _ hp)), List.length_cons]
    omega
theorem splitK_join (c : UInt8) : ∀ (x : List UInt8) (r : List (List UInt8)), (∀ p ∈ x :: r, ∀ b ∈ p, b ≠ c) → Lib.splitK [c] 0 r.length (joinC c (x :: r)) = x :: r
  | x, [], h => rfl
  | x, y :: r, h => by
    have hi := index_byte_at x (joinC c (y :: r)) c (h x (List.mem_cons_self ..))
    rw [joinC, List.length_cons, Lib.splitK, hi, if_neg (by simp)]
    rw [show ((x.length : Nat) : Int).toNat = x.length from rfl, Nat.add_zero, List.take_left, show [c].length = 1 from rfl, show (x ++ c :: joinC c (y :: r)).drop (x.length + 1) = joinC c (y :: r) from by
      rw [show x ++ c :: joinC c (y :: r) = (x ++ [c]) ++ joinC c (y :: r) from by simp, List.drop_left' (by simp)]]
    rw [splitK_join c y r (fun p hp => h p (List.mem_cons_of_mem _ hp))]
theorem replaceK_join (c : UInt8) : ∀ (x : List UInt8) (r : List (List UInt8)), (∀ p ∈ x :: r, ∀ b ∈ p, b ≠ c) → Lib.replaceK [c] [] r.length (joinC c (x :: r)) = (x :: r).flatten
  | x, [], h => by simp [joinC, Lib.replaceK]
  | x, y :: r, h => by
    have hi := index_byte_at x (joinC c (y :: r)) c (h x (List.mem_cons_self ..))
    rw [joinC, List.length_cons, Lib.replaceK_hit [c] [] r.length _ x.length hi]
    rw [List.take_left, List.append_nil, show [c].length = 1 from rfl, show (x ++ c :: joinC c (y :: r)).drop (x.length + 1) = joinC c (y :: r) from by
      rw [show x ++ c :: joinC c (y :: r) = (x ++ [c]) ++ joinC c (y :: r) from by simp, List.drop_left' (by simp)]]
    rw [replaceK_join c y r (fun p hp => h p (List.mem_cons_of_mem _ hp))]
    simp
theorem replaceAll_join (c : UInt8) (x : List UInt8) (r : List (List UInt8)) (h : ∀ p ∈ x :: r, ∀ b ∈ p, b ≠ c) : Lib.replaceAll (joinC c (x :: r)) [c] [] = (x :: r).flatten := by
  unfold Lib.replaceAll Lib.replace Lib.replaceNum
  rw [if_neg (by simp), if_pos (Or.inl (by decide)), count_join c x r h]
  exact replaceK_join c x r h

/-- The length of the first group. -/
def firstLen (size n : Nat) : Nat := if n % size = 0 then size else n % size
/-- Digits in groups of one size; the first may be shorter. -/
def chunks (size : Nat) : Nat → List Nat → List (List Nat)
  | 0, l => [l]
  | f + 1, l => if l.length ≤ size then [l] else l.take (firstLen size l.length) :: chunks size f (l.drop (firstLen size l.length))
/-- What is written at place i. -/
def putAt (size : Nat) (l : List Nat) (i : Nat) : List Nat := (if 0 < i ∧ (l.length - i) % size = 0 then [44] else []) ++ [l.getD i 0]
def outTo (size : Nat) (l : List Nat) (i : Nat) : List Nat := (List.range i).flatMap (putAt size l)
theorem outTo_succ (size : Nat) (l : List Nat) (i : Nat) : outTo size l (i + 1) = outTo size l i ++ putAt size l i := by
  simp [outTo, List.range_succ]
theorem firstLen_pos {size : Nat} (hs : 1 ≤ size) (n : Nat) : 1 ≤ firstLen size n ∧ firstLen size n ≤ size := by
  unfold firstLen
  have := Nat.mod_lt n (show 0 < size by omega)
  split <;> omega
theorem range_plain (size : Nat) (l : List Nat) (p : Nat) (hp : p ≤ l.length) (h : ∀ i, 0 < i → i < p → (l.length - i) % size ≠ 0) : (List.range p).flatMap (putAt size l) = l.take p := by
  induction p with
  | zero => rfl
  | succ p ih =>
    rw [List.range_succ, List.flatMap_append, ih (by omega) (fun i h1 h2 => h i h1 (by omega)), List.take_succ_eq_append_getElem (by omega)]
    congr 1
    simp only [List.flatMap_cons, List.flatMap_nil, List.append_nil]
    unfold putAt
    rw [if_neg]
    · simp [List.getD, show p < l.length by omega]
    · rintro ⟨h1, h2⟩
      exact h p h1 (by omega) h2
theorem first_mod {size : Nat} (hs : 1 ≤ size) (n i : Nat) (hn : size < n) (h1 : 0 < i) (h2 : i < firstLen size n) : (n - i) % size ≠ 0 := by
  unfold firstLen at h2
  have hd := Nat.div_add_mod n size
  have hm := Nat.mod_lt n (show 0 < size by omega)
  intro h0
  obtain ⟨q, hq⟩ := Nat.dvd_of_mod_eq_zero h0
  by_cases hz : n % size = 0
  · rw [if_pos hz] at h2
    -- n = size * (n / size), n - i = size * q
    have e : n = size * (n / size) := by omega
    have h3 : size * q < size * (n / size) := by omega
    have h4 : size * (n / size) < size * q + size := by omega
    have h5 := Nat.lt_of_mul_lt_mul_left h3
    have h6 : size * (n / size) < size * (q + 1) := by rw [Nat.mul_add]; omega
    have h7 := Nat.lt_of_mul_lt_mul_left h6
    omega
  · rw [if_neg hz] at h2
    have h3 : size * (n / size) < size * q := by omega
    have h4 : size * q < size * (n / size) + size := by omega
    have h5 := Nat.lt_of_mul_lt_mul_left h3
    have h6 : size * q < size * (n / size + 1) := by rw [Nat.mul_add]; omega
    have h7 := Nat.lt_of_mul_lt_mul_left h6
    omega
theorem rest_mod {size : Nat} (n : Nat) (hn : size < n) : (n - firstLen size n) % size = 0 := by
  unfold firstLen
  have hd := Nat.div_add_mod n size
  split
  · rename_i h
    rw [Nat.mod_eq_sub_mod (by omega)] at h
    exact h
  · rw [show n - n % size = size * (n / size) from by omega]
    exact Nat.mul_mod_right _ _
theorem firstLen_le {size : Nat} (hs : 1 ≤ size) (n : Nat) (hn : size < n) : firstLen size n < n := by
  have := firstLen_pos hs n
  omega
theorem chunks_ne (size f : Nat) (l : List Nat) : ∃ x r, chunks size f l = x :: r := by
  cases f with
  | zero => exact ⟨_, _, rfl⟩
  | succ f => rw [chunks]; split <;> exact ⟨_, _, rfl⟩
theorem out_chunks {size : Nat} (hs : 1 ≤ size) : ∀ (f : Nat) (l : List Nat), l.length ≤ f → outTo size l l.length = joinC 44 (chunks size f l)
  | 0, l, h => by
    have : l = [] := List.eq_nil_of_length_eq_zero (by omega)
    subst this
    rfl
  | f + 1, l, h => by
    rw [chunks]
    by_cases hl : l.length ≤ size
    · rw [if_pos hl]
      unfold outTo
      rw [range_plain size l l.length (Nat.le_refl _) (fun i h1 h2 => by rw [Nat.mod_eq_of_lt (by omega)]; omega), List.take_length]
      rfl
    · rw [if_neg hl]
      have hn : size < l.length := by omega
      have hp := firstLen_pos hs l.length
      have hp2 := firstLen_le hs l.length hn
      have hr := rest_mod l.length hn
      have hfm := fun i h1 h2 => first_mod hs l.length i hn h1 h2
      generalize firstLen size l.length = p at *
      have hlen : (l.drop p).length = l.length - p := by simp
      have ih := out_chunks hs f (l.drop p) (by omega)
      obtain ⟨x, r, hx⟩ := chunks_ne size f (l.drop p)
      rw [hx] at ih ⊢
      rw [joinC, ← ih]
      unfold outTo
      rw [show l.length = p + (l.length - p) from by omega, List.range_add, List.flatMap_append]
      rw [range_plain size l p (by omega) hfm]
      congr 1
      rw [List.flatMap_map, hlen]
      obtain ⟨m, hm⟩ : ∃ m, l.length - p = m + 1 := ⟨l.length - p - 1, by omega⟩
      rw [hm, List.range_succ_eq_map, List.flatMap_cons, List.flatMap_cons, ← List.cons_append]
      congr 1
      · unfold putAt
        rw [if_pos ⟨by omega, by rw [Nat.add_zero]; exact hr⟩, if_neg (by omega)]
        simp [List.getD]
      · rw [List.flatMap_map, List.flatMap_map]
        congr 1
        funext j
        unfold putAt
        rw [hlen]
        have e1 : (0 < p + j.succ ∧ (l.length - (p + j.succ)) % size = 0) ↔ (0 < j.succ ∧ (l.length - p - j.succ) % size = 0) := by
          rw [Nat.sub_sub]
          constructor
          · rintro ⟨_, h2⟩; exact ⟨by omega, h2⟩
          · rintro ⟨_, h2⟩; exact ⟨by omega, h2⟩
        simp only [e1]
        congr 2
        simp [List.getD, List.getElem?_drop]
theorem chunks_flatten (size : Nat) : ∀ (f : Nat) (l : List Nat), (chunks size f l).flatten = l
  | 0, l => by simp [chunks]
  | f + 1, l => by
    rw [chunks]
    split
    · simp
    · rw [List.flatten_cons, chunks_flatten size f, List.take_append_drop]
/-- No group is longer than it should be; all but the first are as long as they should be. -/
theorem chunks_len {size : Nat} (hs : 1 ≤ size) : ∀ (f : Nat) (l : List Nat), l.length ≤ f → 1 ≤ l.length → (∀ x r, chunks size f l = x :: r → x.length ≤ size ∧ (l.length % size = 0 → x.length = size) ∧ ∀ y ∈ r, y.length = size)
  | 0, l, h, h1 => by omega
  | f + 1, l, h, h1 => by
    intro x r e
    rw [chunks] at e
    split at e
    · rename_i hl
      simp only [List.cons.injEq] at e
      obtain ⟨rfl, rfl⟩ := e
      refine ⟨hl, fun hm => ?_, fun y hy => by cases hy⟩
      rcases Nat.lt_or_ge l.length size with h2 | h2
      · rw [Nat.mod_eq_of_lt h2] at hm; omega
      · omega
    · rename_i hl
      simp only [List.cons.injEq] at e
      obtain ⟨rfl, rfl⟩ := e
      have hn : size < l.length := by omega
      have hp := firstLen_pos hs l.length
      have hp2 := firstLen_le hs l.length hn
      have hr := rest_mod l.length hn
      have hlen : (l.drop (firstLen size l.length)).length = l.length - firstLen size l.length := by simp
      obtain ⟨x, r, hx⟩ := chunks_ne size f (l.drop (firstLen size l.length))
      have ih := chunks_len hs f (l.drop (firstLen size l.length)) (by omega) (by omega) x r hx
      refine ⟨by simp; omega, fun hm => ?_, ?_⟩
      · rw [List.length_take]
        unfold firstLen
        rw [if_pos hm]
        omega
      · intro y hy
        rw [hx] at hy
        rcases List.mem_cons.1 hy with rfl | hy
        · exact ih.2.1 (by rw [hlen]; exact hr)
        · exact ih.2.2 y hy

end Go.Proofs.YtpoolbachhelgaaDoor
