/- What the reader of patterns makes of a quoted text: one class for each byte, each position followed by the next one. No condition beyond those that stand there. -/
import Derived.Test.YtebcflgdjbjkoaaParseP
namespace Go.Proofs.Ytebcflgdjbjkoaa
open Go.RowKit

def special : List Nat := [124, 42, 43, 63, 40, 41, 91, 93, 46, 92]
/-- The text of Quote. -/
def quoteL : List UInt8 → List UInt8
  | [] => []
  | c :: r => if c.toNat ∈ special then 92 :: c :: quoteL r else c :: quoteL r
def oneS (i : Nat) : Set4 := sadd e4 i
theorem mem_e4 (j : Nat) : mem e4 j = false := by
  unfold mem wd e4
  have : ([0, 0, 0, 0] : List Nat).getD (j / 64) 0 = 0 := by
    rcases (show j / 64 = 0 ∨ j / 64 = 1 ∨ j / 64 = 2 ∨ j / 64 = 3 ∨ 4 ≤ j / 64 by omega) with e | e | e | e | e
    · rw [e]; rfl
    · rw [e]; rfl
    · rw [e]; rfl
    · rw [e]; rfl
    · simp [List.getD, e]
  rw [this]
  simp
theorem mem_one (i j : Nat) (hi : i ≤ 255) : mem (oneS i) j = (j == i) := by
  unfold oneS
  rw [sadd_mem words_e4 i hi, mem_e4, Bool.or_false]
theorem sjoin_e4 {s : Set4} (hs : Words s) : sjoin e4 s = s := by
  obtain ⟨h, _⟩ := hs
  match s, h with
  | [a, b, c, d], _ => simp [sjoin, e4]
theorem one_words (i : Nat) : Words (oneS i) := sadd_words words_e4 i
theorem linkF_e4 (t : Set4) (l : List Set4) : ∀ n, linkF e4 t l n = l
  | 0 => rfl
  | n + 1 => by rw [linkF_succ, mem_e4]; simp [linkF_e4 t l n]
theorem linkF_one (i : Nat) (hi : i ≤ 255) (t : Set4) (l : List Set4) : ∀ n, linkF (oneS i) t l n = if i < n then l.set i (sjoin (l.getD i []) t) else l
  | 0 => by simp [linkF]
  | n + 1 => by
    rw [linkF_succ, mem_one i n hi, linkF_one i hi t l n]
    by_cases h : n = i
    · subst h
      simp
    · have e : (n == i) = false := beq_eq_false_iff_ne.2 h
      rw [e]
      by_cases h2 : i < n
      · simp [h2, show i < n + 1 by omega]
      · simp [h2, show ¬ i < n + 1 by omega]
/-- What follows behind i bytes. -/
def folQ : Nat → List Set4
  | 0 => [e4]
  | i + 1 => if i = 0 then [e4, e4] else (folQ i ++ [e4]).set i (oneS (i + 1))
theorem folQ_len : ∀ i, (folQ i).length = i + 1
  | 0 => rfl
  | i + 1 => by
    unfold folQ
    split
    · rename_i h; subst h; rfl
    · rw [List.length_set, List.length_append, folQ_len i]; rfl
theorem folQ_last (i : Nat) : (folQ i).getD i [] = e4 := by
  cases i with
  | zero => rfl
  | succ i =>
    unfold folQ
    split
    · rename_i h; subst h; rfl
    · have hl := folQ_len i
      simp only [List.getD]
      rw [List.getElem?_set_ne (by omega), List.getElem?_append_right (by omega), hl]
      simp
def outQ (i : Nat) : Part := if i = 0 then ⟨true, e4, e4⟩ else ⟨false, oneS 1, oneS i⟩
theorem peek_cons {P : ByteArray} {p : Nat} {c : UInt8} {r : List UInt8} (h : P.data.toList.drop p = c :: r) : peekM P p = c.toNat ∧ P.data.toList.drop (p + 1) = r ∧ p < P.size := by
  have h1 : P.data.toList[p]? = some c := by
    have := congrArg (fun l => l[0]?) h
    simpa using this
  refine ⟨?_, ?_, ?_⟩
  · unfold peekM
    simp [List.getD, h1]
  · rw [← List.tail_drop, h]
    rfl
  · have := (List.getElem?_eq_some_iff.1 h1).1
    simpa using this
theorem special_not {c : Nat} (h : c ∉ special) : c ≠ 40 ∧ c ≠ 46 ∧ c ≠ 91 ∧ c ≠ 92 ∧ c ∉ quoted ∧ c ≠ 42 ∧ c ≠ 43 ∧ c ≠ 63 ∧ c ≠ 124 ∧ c ≠ 41 := by
  simp only [special, List.mem_cons, List.not_mem_nil, or_false, not_or] at h
  obtain ⟨h1, h2, h3, h4, h5, h6, h7, h8, h9, h10⟩ := h
  refine ⟨h5, h9, h7, h10, ?_, h2, h3, h4, h1, h6⟩
  simp only [quoted, List.mem_cons, List.not_mem_nil, or_false, not_or]
  exact ⟨h1, h2, h3, h4, h5, h6, h7, h8⟩
/-- The first byte of a quoted text is no sign. -/
theorem quote_head {rest : List UInt8} {c : UInt8} {r : List UInt8} (h : quoteL rest = c :: r) : c.toNat = 92 ∨ c.toNat ∉ special := by
  cases rest with
  | nil => cases h
  | cons a l =>
    unfold quoteL at h
    split at h
    · injection h with h1 _
      rw [← h1]
      exact Or.inl rfl
    · rename_i hn
      injection h with h1 _
      rw [← h1]
      exact Or.inr hn
theorem head_plain {c : Nat} (h : c = 92 ∨ c ∉ special) : c ≠ 42 ∧ c ≠ 43 ∧ c ≠ 63 ∧ c ≠ 124 ∧ c ≠ 41 := by
  rcases h with rfl | h
  · decide
  · exact (special_not h).2.2.2.2.2
/-- One atom of a quoted text. -/
theorem atom_quoted {P : ByteArray} {a : UInt8} {l : List UInt8} {pos n i : Nat} {cls fol : List Set4} (hd : P.data.toList.drop pos = quoteL (a :: l)) (hs : P.size ≤ 900) (hc : cls.length = i + 1) (hf : fol.length = i + 1) (hi : i ≤ 200) :
    ∃ p, readM P (n + 1) .atom ⟨pos, cls, fol, false⟩ = some (⟨p, cls ++ [oneS a.toNat], fol ++ [e4], false⟩, ⟨false, oneS (i + 1), oneS (i + 1)⟩) ∧ P.data.toList.drop p = quoteL l ∧ pos < p ∧ p ≤ P.size := by
  unfold quoteL at hd
  split at hd
  · rename_i hsp
    obtain ⟨h1, h2, h3⟩ := peek_cons hd
    obtain ⟨h4, h5, h6⟩ := peek_cons h2
    refine ⟨pos + 1 + 1, ?_, h5, by omega, by omega⟩
    unfold readM
    simp only [h1]
    rw [if_neg (by omega), if_neg (by decide), if_neg (by decide), if_neg (by decide), if_pos (by decide), if_pos h6]
    unfold posG
    rw [if_pos ⟨by show cls.length ≤ 255; omega, by show fol.length ≤ 255; omega, by show pos + 1 + 1 ≤ 990; omega⟩, h4]
    simp only [posM, pos1, hc]
    rfl
  · rename_i hsp
    obtain ⟨h1, h2, h3⟩ := peek_cons hd
    obtain ⟨n1, n2, n3, n4, n5, _⟩ := special_not hsp
    refine ⟨pos + 1, ?_, h2, by omega, by omega⟩
    unfold readM
    simp only [h1]
    rw [if_neg (by omega), if_neg n1, if_neg n2, if_neg n3, if_neg n4, if_neg n5]
    unfold posG
    rw [if_pos ⟨by show cls.length ≤ 255; omega, by show fol.length ≤ 255; omega, by show pos + 1 ≤ 990; omega⟩]
    simp only [posM, pos1, hc]
    rfl

theorem item_quoted {P : ByteArray} {a : UInt8} {l : List UInt8} {pos n i : Nat} {cls fol : List Set4} (hd : P.data.toList.drop pos = quoteL (a :: l)) (hs : P.size ≤ 900) (hc : cls.length = i + 1) (hf : fol.length = i + 1) (hi : i ≤ 200) :
    ∃ p, readM P (n + 2) .item ⟨pos, cls, fol, false⟩ = some (⟨p, cls ++ [oneS a.toNat], fol ++ [e4], false⟩, ⟨false, oneS (i + 1), oneS (i + 1)⟩) ∧ P.data.toList.drop p = quoteL l ∧ pos < p ∧ p ≤ P.size := by
  obtain ⟨p, h1, h2, h3, h4⟩ := atom_quoted (n := n) hd hs hc hf hi
  refine ⟨p, ?_, h2, h3, h4⟩
  unfold readM
  rw [h1]
  simp only [Option.bind_some]
  rw [if_neg (by omega)]
  refine if_neg fun hq => ?_
  have hlt : p < P.size := by
    have := hq.1
    simp [moreM] at this
    exact this
  cases hl : quoteL l with
  | nil =>
    rw [hl, List.drop_eq_nil_iff] at h2
    have : P.data.toList.length = P.size := by simp
    omega
  | cons c r =>
    rw [hl] at h2
    obtain ⟨k1, _, _⟩ := peek_cons h2
    obtain ⟨m1, m2, m3, _, _⟩ := head_plain (quote_head hl)
    rw [k1] at hq
    rcases hq.2 with e | e | e
    · exact m1 e
    · exact m2 e
    · exact m3 e
theorem folQ_succ (i : Nat) (hi : i ≤ 200) : linkF (outQ i).lst (oneS (i + 1)) (folQ i ++ [e4]) (folQ i ++ [e4]).length = folQ (i + 1) := by
  unfold outQ
  by_cases h : i = 0
  · subst h
    rw [if_pos rfl, linkF_e4]
    rfl
  · rw [if_neg h, linkF_one i (by omega), if_pos (by rw [List.length_append, folQ_len]; omega)]
    have e : (folQ i ++ [e4]).getD i [] = e4 := by
      simp only [List.getD]
      rw [List.getElem?_append_left (by rw [folQ_len]; omega)]
      exact folQ_last i
    rw [e, sjoin_e4 (one_words _)]
    conv => rhs; unfold folQ
    rw [if_neg h]
theorem outQ_succ (i : Nat) : (⟨(outQ i).em && false, if (outQ i).em then sjoin (outQ i).fst (oneS (i + 1)) else (outQ i).fst, sjoin (if false = true then (outQ i).lst else e4) (oneS (i + 1))⟩ : Part) = outQ (i + 1) := by
  have h1 : (if false = true then (outQ i).lst else e4) = e4 := rfl
  rw [h1, sjoin_e4 (one_words _), Bool.and_false]
  unfold outQ
  by_cases h : i = 0
  · subst h
    simp only [if_true]
    rw [sjoin_e4 (one_words _)]
    simp
  · simp [h]
theorem seqL_quoted {P : ByteArray} (hs : P.size ≤ 900) : ∀ (rest : List UInt8) (i pos : Nat) (cls : List Set4), P.data.toList.drop pos = quoteL rest → pos ≤ P.size → cls.length = i + 1 → i + rest.length ≤ 200 → ∀ n, rest.length + 3 ≤ n →
    readM P n (.seqL (outQ i)) ⟨pos, cls, folQ i, false⟩ = some (⟨P.size, cls ++ rest.map (fun a => oneS a.toNat), folQ (i + rest.length), false⟩, outQ (i + rest.length))
  | [], i, pos, cls, hd, hp, hc, hi, n, hn => by
    obtain ⟨m, rfl⟩ : ∃ m, n = m + 1 := ⟨n - 1, by omega⟩
    have he : pos = P.size := by
      have h1 : P.data.toList.drop pos = [] := hd
      rw [List.drop_eq_nil_iff] at h1
      have : P.data.toList.length = P.size := by simp
      omega
    unfold readM
    rw [if_neg (by simp [moreM, he])]
    simp [he]
  | a :: l, i, pos, cls, hd, hp, hc, hi, n, hn => by
    simp only [List.length_cons] at hi hn
    obtain ⟨m, rfl⟩ : ∃ m, n = (m + 2) + 1 := ⟨n - 3, by omega⟩
    obtain ⟨p, h1, h2, h3, h4⟩ := item_quoted (n := m) hd hs hc (folQ_len i) (by omega)
    have hq : ∃ c r, quoteL (a :: l) = c :: r := by
      unfold quoteL
      split
      · exact ⟨_, _, rfl⟩
      · exact ⟨_, _, rfl⟩
    obtain ⟨c, r, hq⟩ := hq
    have hd2 := hd
    rw [hq] at hd2
    obtain ⟨k1, _, k3⟩ := peek_cons hd2
    obtain ⟨_, _, _, m4, m5⟩ := head_plain (quote_head hq)
    unfold readM
    rw [if_pos ⟨by simp [moreM, k3], by rw [k1]; exact m4, by rw [k1]; exact m5⟩, h1]
    simp only [Option.bind_some]
    have hl : linkM ⟨p, cls ++ [oneS a.toNat], folQ i ++ [e4], false⟩ (outQ i).lst (oneS (i + 1)) = ⟨p, cls ++ [oneS a.toNat], folQ (i + 1), false⟩ := by
      unfold linkM
      simp only [folQ_succ i (by omega)]
    rw [hl, outQ_succ i]
    have ih := seqL_quoted hs l (i + 1) p (cls ++ [oneS a.toNat]) h2 h4 (by simp [hc]) (by omega) (m + 2) (by omega)
    rw [ih]
    simp [Nat.add_assoc, Nat.add_comm 1]
/-- The whole pattern of a quoted text. -/
theorem read_quoted (l : List UInt8) (hl : l.length ≤ 100) (P : ByteArray) (hP : P.data.toList = quoteL l) (hs : P.size ≤ 900) :
    readM P (l.length + 5) .alt st0 = some (⟨P.size, [e4] ++ l.map (fun a => oneS a.toNat), folQ l.length, false⟩, outQ l.length) := by
  have h := seqL_quoted hs l 0 0 [e4] (by rw [List.drop_zero, hP]) (Nat.zero_le _) rfl (by omega) (l.length + 3) (Nat.le_refl _)
  rw [Nat.zero_add] at h
  unfold readM
  have h2 : readM P (l.length + 4) .seq st0 = some (⟨P.size, [e4] ++ l.map (fun a => oneS a.toNat), folQ l.length, false⟩, outQ l.length) := by
    unfold readM
    exact h
  rw [h2]
  simp only [Option.bind_some]
  unfold readM
  rw [if_neg (by show ¬ 990 < P.size; omega), if_neg (by simp [moreM])]
theorem quote_len (l : List UInt8) : l.length ≤ (quoteL l).length ∧ (quoteL l).length ≤ 2 * l.length := by
  induction l with
  | nil => exact ⟨Nat.le_refl _, Nat.le_refl _⟩
  | cons a l ih =>
    unfold quoteL
    split <;> (simp only [List.length_cons]; omega)
/-- A quoted text is read: its classes, and what follows. -/
def clsQ (l : List UInt8) : List Set4 := e4 :: l.map fun a => oneS a.toNat
theorem parsed_quoted (l : List UInt8) (hl : l.length ≤ 100) (P : ByteArray) (hP : P.data.toList = quoteL l) : ParsedTo P (clsQ l) ((folQ l.length).set 0 (outQ l.length).fst) (outQ l.length) := by
  have hz : P.size ≤ 200 := by
    have h1 : P.data.toList.length = P.size := by simp
    have h2 := (quote_len l).2
    rw [← hP, h1] at h2
    omega
  exact ⟨_, _, read_quoted l hl P hP (by omega), rfl, Nat.le_refl _, rfl, rfl, hz⟩

end Go.Proofs.Ytebcflgdjbjkoaa
