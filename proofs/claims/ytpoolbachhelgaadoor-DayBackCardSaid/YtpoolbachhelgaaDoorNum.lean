/- Digits of a number and back: a plain law; no condition beyond those that stand there. -/
import Derived.Test.YtpoolbachhelgaaDoorBlk
import Derived.Lib.IndexBytes
import Derived.Lib.Repeat
namespace Go.Proofs.YtpoolbachhelgaaDoor

def dsA (b : Nat) : Nat → Nat → List Nat → List Nat
  | 0, _, acc => acc
  | f + 1, n, acc => if n / b = 0 then n % b :: acc else dsA b f (n / b) (n % b :: acc)
/-- The digits of a number, the highest first. -/
def ds (b n : Nat) : List Nat := dsA b (n + 1) n []
theorem digsA_dsA (b : Nat) : ∀ (f n : Nat) (acc : List Nat), digsA b f n (acc.map digC) = (dsA b f n acc).map digC
  | 0, _, _ => rfl
  | f + 1, n, acc => by
    simp only [digsA, dsA]
    split
    · rfl
    · rw [← List.map_cons]; exact digsA_dsA b f (n / b) (n % b :: acc)
theorem digs_ds (b n : Nat) : digs b n = (ds b n).map digC := digsA_dsA b (n + 1) n []

/-- The number of digits. -/
def ev (b : Nat) (l : List Nat) : Nat := l.foldl (fun a d => a * b + d) 0
theorem ev_snoc (b : Nat) (l : List Nat) (d : Nat) : ev b (l ++ [d]) = ev b l * b + d := by simp [ev]
theorem fold_ge (b : Nat) (hb : 1 ≤ b) : ∀ (l : List Nat) (a : Nat), a ≤ l.foldl (fun a d => a * b + d) a
  | [], a => Nat.le_refl _
  | d :: l, a => by
    rw [List.foldl_cons]
    exact Nat.le_trans (Nat.le_trans (Nat.le_mul_of_pos_right a hb) (Nat.le_add_right _ _)) (fold_ge b hb l _)
theorem ev_take_le (b : Nat) (hb : 1 ≤ b) (l : List Nat) (k : Nat) : ev b (l.take k) ≤ ev b l := by
  conv => rhs; rw [← List.take_append_drop k l]
  rw [ev, ev, List.foldl_append]
  exact fold_ge b hb _ _
theorem dsA_fold (b : Nat) (hb : 2 ≤ b) : ∀ (f n : Nat) (acc : List Nat), n < f → (dsA b f n acc).foldl (fun a d => a * b + d) 0 = acc.foldl (fun a d => a * b + d) n
  | 0, n, acc, h => by omega
  | f + 1, n, acc, h => by
    simp only [dsA]
    split
    · rename_i hz
      have hlt : n < b := by
        rcases (Nat.div_eq_zero_iff).1 hz with h | h
        · omega
        · exact h
      rw [List.foldl_cons, Nat.mod_eq_of_lt hlt]
      simp
    · rename_i hz
      have : n / b < n := Nat.div_lt_self (by rcases Nat.eq_zero_or_pos n with h0 | h0; · subst h0; simp at hz
                                              · exact h0) (by omega)
      rw [dsA_fold b hb f (n / b) _ (by omega), List.foldl_cons]
      have e : n / b * b + n % b = n := by rw [Nat.mul_comm]; exact Nat.div_add_mod n b
      rw [e]
theorem ev_ds (b n : Nat) (hb : 2 ≤ b) : ev b (ds b n) = n := dsA_fold b hb (n + 1) n [] (by omega)
theorem dsA_lt (b : Nat) (hb : 2 ≤ b) : ∀ (f n : Nat) (acc : List Nat), (∀ d ∈ acc, d < b) → ∀ d ∈ dsA b f n acc, d < b
  | 0, _, acc, h => h
  | f + 1, n, acc, h => by
    have h' : ∀ d ∈ n % b :: acc, d < b := by
      intro d hd
      rcases List.mem_cons.1 hd with rfl | hd
      · exact Nat.mod_lt _ (by omega)
      · exact h d hd
    simp only [dsA]
    split
    · exact h'
    · exact dsA_lt b hb f (n / b) _ h'
theorem ds_lt (b n : Nat) (hb : 2 ≤ b) : ∀ d ∈ ds b n, d < b := dsA_lt b hb (n + 1) n [] (by intro d hd; cases hd)
theorem dsA_head (b : Nat) (hb : 2 ≤ b) : ∀ (f n : Nat) (acc : List Nat), n < f → 1 ≤ n → ∃ h t, dsA b f n acc = h :: t ∧ h ≠ 0
  | 0, n, acc, h, _ => by omega
  | f + 1, n, acc, h, h1 => by
    simp only [dsA]
    split
    · rename_i hz
      have hlt : n < b := by
        rcases (Nat.div_eq_zero_iff).1 hz with h | h
        · omega
        · exact h
      exact ⟨n % b, acc, rfl, by rw [Nat.mod_eq_of_lt hlt]; omega⟩
    · rename_i hz
      have : n / b < n := Nat.div_lt_self (by omega) (by omega)
      exact dsA_head b hb f (n / b) _ (by omega) (Nat.one_le_iff_ne_zero.2 hz)
theorem ds_head (b n : Nat) (hb : 2 ≤ b) (h : 1 ≤ n) : ∃ x t, ds b n = x :: t ∧ x ≠ 0 := dsA_head b hb (n + 1) n [] (by omega) h
theorem ds_zero (b : Nat) : ds b 0 = [0] := by simp [ds, dsA]
theorem ds_length_pos (b n : Nat) (hb : 2 ≤ b) : 1 ≤ (ds b n).length := by
  rcases Nat.eq_zero_or_pos n with h | h
  · rw [h, ds_zero]; exact Nat.le_refl _
  · obtain ⟨x, t, e, _⟩ := ds_head b n hb h
    rw [e]; simp
theorem ds_length_le (b n k : Nat) (hb : 2 ≤ b) (h : n < 2 ^ (k + 1)) : (ds b n).length ≤ k + 1 := by
  have := digsA_len b hb (n + 1) n [] k h
  have e : (digsA b (n + 1) n []).length = (ds b n).length := by
    have := digs_ds b n
    unfold digs at this
    rw [this, List.length_map]
  rw [e] at this
  simpa using this

/-- A letter's value as a digit. -/
def valC (c : Int) : Int := if 48 ≤ c ∧ c ≤ 57 then c - 48 else if 97 ≤ c ∧ c ≤ 122 then c - 87 else -1
theorem valC_digC (d : Nat) (h : d < 36) : valC (digC d : Int) = d := by
  unfold valC digC
  split
  · rw [if_pos (by omega)]; omega
  · rw [if_neg (by omega), if_pos (by omega)]; omega
/-- A numeral: a sign, and digits. -/
def signed (neg : Bool) (L : List Nat) : List Nat := if neg then 45 :: L else L
theorem digC_ne (d : Nat) : 48 ≤ digC d := by unfold digC; split <;> omega
theorem strN_append (a b : List Nat) : strN (a ++ b) = strN a ++ strN b := by
  apply ByteArray.ext
  simp [strN]
theorem strN_data (l : List Nat) : (strN l).data.toList = l.map UInt8.ofNat := by simp [strN]
theorem strN_getD (l : List Nat) (h : ∀ c ∈ l, c < 256) (i : Nat) (hi : i < l.length) : (((strN l).data.toList.getD i 0).toNat) = l.getD i 0 := by
  have e : (strN l).data.toList.getD i 0 = UInt8.ofNat (l.getD i 0) := by simp [strN, List.getD, hi]
  rw [e]
  have hm : l.getD i 0 ∈ l := by
    have : l.getD i 0 = l[i] := by simp [List.getD, hi]
    rw [this]; exact List.getElem_mem hi
  exact UInt8.toNat_ofNat_of_lt' (show l.getD i 0 < UInt8.size from h _ hm)

theorem toList_nonempty (s : ByteArray) (h : 1 ≤ s.size) : s.toList.isEmpty = false := by
  rw [ByteArray.toList_eq]
  cases hl : s.data.toList with
  | nil =>
    have : s.data.toList.length = s.size := rfl
    rw [hl] at this
    exact absurd this (by simp; omega)
  | cons _ _ => rfl

theorem strN_take (L : List Nat) (k : Nat) : (strN L).extract 0 k = strN (L.take k) := by
  apply ByteArray.ext
  apply Array.toList_inj.1
  rw [Lib.extract_data]
  simp [strN]
theorem strN_drop (L : List Nat) (k : Nat) : (strN L).extract k L.length = strN (L.drop k) := by
  apply ByteArray.ext
  apply Array.toList_inj.1
  rw [show L.length = (strN L).size from (strN_size L).symm, Lib.extract_to_end]
  simp [strN]

theorem repeatL_zero (n : Nat) : (⟨(Lib.repeatL [48] n).toArray⟩ : ByteArray) = strN ((List.replicate n 0).map digC) := by
  have e : Lib.repeatL [48] n = List.replicate n 48 := by
    induction n with
    | zero => rfl
    | succ n ih => simp [Lib.repeatL, List.replicate_succ]; exact ih
  rw [e]
  simp [strN, digC]

def u8s (L : List Nat) : List UInt8 := L.map UInt8.ofNat

end Go.Proofs.YtpoolbachhelgaaDoor
