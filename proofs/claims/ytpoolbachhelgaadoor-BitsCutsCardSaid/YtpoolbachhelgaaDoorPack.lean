/- Strings of bits in bytes: a plain law; no condition. -/
import Derived.Test.YtpoolbachhelgaaDoorBlk
namespace Go.Proofs.YtpoolbachhelgaaDoor

/-- Byte j of a string of bits. -/
def pbyte (bs : List Nat) (j : Nat) : Nat :=
  bs.getD (8 * j) 0 * 128 + bs.getD (8 * j + 1) 0 * 64 + bs.getD (8 * j + 2) 0 * 32 + bs.getD (8 * j + 3) 0 * 16 + bs.getD (8 * j + 4) 0 * 8 + bs.getD (8 * j + 5) 0 * 4 + bs.getD (8 * j + 6) 0 * 2 + bs.getD (8 * j + 7) 0
def pack (bs : List Nat) : List Nat := (List.range ((bs.length + 7) / 8)).map (pbyte bs)
/-- All digits are 0 or 1. -/
def Bin (bs : List Nat) : Prop := ∀ x ∈ bs, x ≤ 1
theorem Bin.get {bs : List Nat} (h : Bin bs) (i : Nat) : bs.getD i 0 ≤ 1 := by
  rw [List.getD]
  rcases Nat.lt_or_ge i bs.length with hi | hi
  · rw [List.getElem?_eq_getElem hi]; exact h _ (List.getElem_mem hi)
  · rw [List.getElem?_eq_none hi]; exact Nat.zero_le _
theorem Bin.nil : Bin [] := by intro x h; cases h
theorem Bin.snoc {bs : List Nat} (h : Bin bs) {x : Nat} (hx : x ≤ 1) : Bin (bs ++ [x]) := by
  intro y hy
  rcases List.mem_append.mp hy with h1 | h1
  · exact h y h1
  · rw [List.mem_singleton.mp h1]; exact hx
theorem pack_length (bs : List Nat) : (pack bs).length = (bs.length + 7) / 8 := by simp [pack]
theorem pack_get (bs : List Nat) (j : Nat) (h : j < (bs.length + 7) / 8) : (pack bs).getD j 0 = pbyte bs j := by simp [pack, List.getD, h]
theorem pbyte_lt {bs : List Nat} (h : Bin bs) (j : Nat) : pbyte bs j < 256 := by
  have g := fun i => h.get i
  unfold pbyte
  have h0 := g (8 * j); have h1 := g (8 * j + 1); have h2 := g (8 * j + 2); have h3 := g (8 * j + 3); have h4 := g (8 * j + 4); have h5 := g (8 * j + 5); have h6 := g (8 * j + 6); have h7 := g (8 * j + 7)
  omega
theorem getD_ge (bs : List Nat) (i : Nat) (h : bs.length ≤ i) : bs.getD i 0 = 0 := by simp [List.getD, List.getElem?_eq_none h]

theorem pbyte_bit {bs : List Nat} (h : Bin bs) (i : Nat) : pbyte bs (i / 8) / 2 ^ (7 - i % 8) % 2 = bs.getD i 0 := by
  have g := fun i => h.get i
  have hm : i % 8 = 0 ∨ i % 8 = 1 ∨ i % 8 = 2 ∨ i % 8 = 3 ∨ i % 8 = 4 ∨ i % 8 = 5 ∨ i % 8 = 6 ∨ i % 8 = 7 := by omega
  have hi : i = 8 * (i / 8) + i % 8 := by omega
  generalize hj : i / 8 = j at *
  have h0 := g (8 * j); have h1 := g (8 * j + 1); have h2 := g (8 * j + 2); have h3 := g (8 * j + 3); have h4 := g (8 * j + 4); have h5 := g (8 * j + 5); have h6 := g (8 * j + 6); have h7 := g (8 * j + 7)
  unfold pbyte
  rcases hm with e | e | e | e | e | e | e | e <;> (rw [e] at hi ⊢; rw [hi]; (try simp only [Nat.add_zero, Nat.reduceSub, Nat.reducePow]); omega)

/-- Behind the last bit the last byte has zeros. -/
theorem pbyte_tail {bs : List Nat} (h : Bin bs) (hm : 0 < bs.length % 8) : pbyte bs (bs.length / 8) * 2 ^ (bs.length % 8) % 256 = 0 := by
  have g := fun i => h.get i
  have z := fun i => getD_ge bs i
  have hc : bs.length % 8 = 1 ∨ bs.length % 8 = 2 ∨ bs.length % 8 = 3 ∨ bs.length % 8 = 4 ∨ bs.length % 8 = 5 ∨ bs.length % 8 = 6 ∨ bs.length % 8 = 7 := by omega
  generalize hj : bs.length / 8 = j at *
  have h0 := g (8 * j); have h1 := g (8 * j + 1); have h2 := g (8 * j + 2); have h3 := g (8 * j + 3); have h4 := g (8 * j + 4); have h5 := g (8 * j + 5); have h6 := g (8 * j + 6); have h7 := g (8 * j + 7)
  have z7 := z (8 * j + 7) (by omega)
  unfold pbyte
  rcases hc with e | e | e | e | e | e | e
  · rw [e, z7, z (8 * j + 1) (by omega), z (8 * j + 2) (by omega), z (8 * j + 3) (by omega), z (8 * j + 4) (by omega), z (8 * j + 5) (by omega), z (8 * j + 6) (by omega)]; omega
  · rw [e, z7, z (8 * j + 2) (by omega), z (8 * j + 3) (by omega), z (8 * j + 4) (by omega), z (8 * j + 5) (by omega), z (8 * j + 6) (by omega)]; omega
  · rw [e, z7, z (8 * j + 3) (by omega), z (8 * j + 4) (by omega), z (8 * j + 5) (by omega), z (8 * j + 6) (by omega)]; omega
  · rw [e, z7, z (8 * j + 4) (by omega), z (8 * j + 5) (by omega), z (8 * j + 6) (by omega)]; omega
  · rw [e, z7, z (8 * j + 5) (by omega), z (8 * j + 6) (by omega)]; omega
  · rw [e, z7, z (8 * j + 6) (by omega)]; omega
  · rw [e, z7]; omega

theorem getD_snoc (bs : List Nat) (x i : Nat) : (bs ++ [x]).getD i 0 = if i < bs.length then bs.getD i 0 else if i = bs.length then x else 0 := by
  simp only [List.getD]
  split
  · rename_i h; rw [List.getElem?_append_left h]
  · rename_i h
    split
    · rename_i h2; subst h2; simp
    · rename_i h2; rw [List.getElem?_eq_none (by simp; omega)]; rfl
theorem pbyte_other (bs : List Nat) (x j : Nat) (h : j ≠ bs.length / 8) : pbyte (bs ++ [x]) j = pbyte bs j := by
  have g : ∀ t, t < 8 → (bs ++ [x]).getD (8 * j + t) 0 = bs.getD (8 * j + t) 0 := by
    intro t ht
    rw [getD_snoc]
    split
    · rfl
    · rw [if_neg (by omega), getD_ge bs _ (by omega)]
  unfold pbyte
  rw [show 8 * j = 8 * j + 0 from rfl, g 0 (by omega), show 8 * j + 0 + 1 = 8 * j + 1 from rfl, g 1 (by omega), show 8 * j + 0 + 2 = 8 * j + 2 from rfl, g 2 (by omega), show 8 * j + 0 + 3 = 8 * j + 3 from rfl, g 3 (by omega), show 8 * j + 0 + 4 = 8 * j + 4 from rfl, g 4 (by omega), show 8 * j + 0 + 5 = 8 * j + 5 from rfl, g 5 (by omega), show 8 * j + 0 + 6 = 8 * j + 6 from rfl, g 6 (by omega), show 8 * j + 0 + 7 = 8 * j + 7 from rfl, g 7 (by omega)]
theorem pbyte_here (bs : List Nat) (x : Nat) : pbyte (bs ++ [x]) (bs.length / 8) = pbyte bs (bs.length / 8) + x * 2 ^ (7 - bs.length % 8) := by
  have hc : bs.length % 8 = 0 ∨ bs.length % 8 = 1 ∨ bs.length % 8 = 2 ∨ bs.length % 8 = 3 ∨ bs.length % 8 = 4 ∨ bs.length % 8 = 5 ∨ bs.length % 8 = 6 ∨ bs.length % 8 = 7 := by omega
  generalize hj : bs.length / 8 = j at *
  have g : ∀ t, t < 8 → (bs ++ [x]).getD (8 * j + t) 0 = if t = bs.length % 8 then x else bs.getD (8 * j + t) 0 := by
    intro t ht
    rw [getD_snoc]
    split
    · rw [if_neg (by omega)]
    · split
      · rw [if_pos (by omega)]
      · rw [if_neg (by omega), getD_ge bs _ (by omega)]
  have z := fun (t : Nat) (h : bs.length % 8 = t) => getD_ge bs (8 * j + t) (by omega)
  unfold pbyte
  rw [show 8 * j = 8 * j + 0 from rfl, g 0 (by omega), show 8 * j + 0 + 1 = 8 * j + 1 from rfl, g 1 (by omega), show 8 * j + 0 + 2 = 8 * j + 2 from rfl, g 2 (by omega), show 8 * j + 0 + 3 = 8 * j + 3 from rfl, g 3 (by omega), show 8 * j + 0 + 4 = 8 * j + 4 from rfl, g 4 (by omega), show 8 * j + 0 + 5 = 8 * j + 5 from rfl, g 5 (by omega), show 8 * j + 0 + 6 = 8 * j + 6 from rfl, g 6 (by omega), show 8 * j + 0 + 7 = 8 * j + 7 from rfl, g 7 (by omega)]
  rcases hc with e | e | e | e | e | e | e | e <;> (have zz := z _ e; rw [e]; simp only [reduceIte, Nat.reduceEqDiff, Nat.reduceSub, Nat.reducePow, Nat.zero_ne_one, Nat.one_ne_zero]; simp only [zz] at *; omega)

/-- A bit more: a byte more, with this bit first; or this bit in the last byte. -/
theorem pack_snoc_new (bs : List Nat) (x : Nat) (h : bs.length % 8 = 0) : pack (bs ++ [x]) = (pack bs ++ [0]).set (bs.length / 8) (pbyte bs (bs.length / 8) + x * 2 ^ (7 - bs.length % 8)) := by
  apply List.ext_getElem
  · simp [pack_length]; omega
  · intro j h1 h2
    rw [pack_length, List.length_append] at h1
    simp only [List.length_singleton] at h1
    rw [List.getElem_set]
    split
    · rename_i e
      subst e
      simp only [pack, List.getElem_map, List.getElem_range]
      exact pbyte_here bs x
    · rename_i e
      rw [List.getElem_append_left (by rw [pack_length]; omega)]
      simp only [pack, List.getElem_map, List.getElem_range]
      exact pbyte_other bs x j (fun h => e h.symm)
theorem pack_snoc_old (bs : List Nat) (x : Nat) (h : bs.length % 8 ≠ 0) : pack (bs ++ [x]) = (pack bs).set (bs.length / 8) (pbyte bs (bs.length / 8) + x * 2 ^ (7 - bs.length % 8)) := by
  apply List.ext_getElem
  · simp [pack_length]; omega
  · intro j h1 h2
    rw [List.getElem_set]
    split
    · rename_i e
      subst e
      simp only [pack, List.getElem_map, List.getElem_range]
      exact pbyte_here bs x
    · rename_i e
      simp only [pack, List.getElem_map, List.getElem_range]
      exact pbyte_other bs x j (fun h => e h.symm)
theorem pbyte_zero (bs : List Nat) (h : bs.length % 8 = 0) : pbyte bs (bs.length / 8) = 0 := by
  have z := fun i => getD_ge bs i
  unfold pbyte
  rw [z _ (by omega), z (8 * (bs.length / 8) + 1) (by omega), z (8 * (bs.length / 8) + 2) (by omega), z (8 * (bs.length / 8) + 3) (by omega), z (8 * (bs.length / 8) + 4) (by omega), z (8 * (bs.length / 8) + 5) (by omega), z (8 * (bs.length / 8) + 6) (by omega), z (8 * (bs.length / 8) + 7) (by omega)]

end Go.Proofs.YtpoolbachhelgaaDoor
