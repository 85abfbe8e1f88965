/- Sets of whole numbers as ranges in order: a plain law; no condition beyond those that stand there. -/
namespace Go.Proofs.Ytkcpnehhcpmdgaa

abbrev Rg := Int × Int
def Mem (n : Int) (rs : List Rg) : Prop := ∃ r ∈ rs, r.1 ≤ n ∧ n ≤ r.2
/-- The ranges are not empty, in order, and between any two of them a number is missing. -/
def Ok (rs : List Rg) : Prop := (∀ r ∈ rs, r.1 ≤ r.2) ∧ rs.Pairwise (fun x y => x.2 + 1 < y.1)
theorem Mem.nil (n : Int) : ¬ Mem n [] := by rintro ⟨r, h, _⟩; cases h
theorem mem_cons (n : Int) (r : Rg) (rs : List Rg) : Mem n (r :: rs) ↔ (r.1 ≤ n ∧ n ≤ r.2) ∨ Mem n rs := by
  unfold Mem
  constructor
  · rintro ⟨x, hx, h⟩
    rcases List.mem_cons.1 hx with rfl | hx
    · exact Or.inl h
    · exact Or.inr ⟨x, hx, h⟩
  · rintro (h | ⟨x, hx, h⟩)
    · exact ⟨r, List.mem_cons_self .., h⟩
    · exact ⟨x, List.mem_cons_of_mem _ hx, h⟩
theorem mem_append (n : Int) (a b : List Rg) : Mem n (a ++ b) ↔ Mem n a ∨ Mem n b := by
  unfold Mem
  constructor
  · rintro ⟨x, hx, h⟩
    rcases List.mem_append.1 hx with hx | hx
    · exact Or.inl ⟨x, hx, h⟩
    · exact Or.inr ⟨x, hx, h⟩
  · rintro (⟨x, hx, h⟩ | ⟨x, hx, h⟩)
    · exact ⟨x, List.mem_append.2 (Or.inl hx), h⟩
    · exact ⟨x, List.mem_append.2 (Or.inr hx), h⟩
theorem mem_one (n : Int) (r : Rg) : Mem n [r] ↔ r.1 ≤ n ∧ n ≤ r.2 := by
  rw [mem_cons]
  constructor
  · rintro (h | h)
    · exact h
    · exact absurd h (Mem.nil n)
  · exact Or.inl
theorem Ok.nil : Ok [] := ⟨fun r h => (by cases h), List.Pairwise.nil⟩
theorem ok_cons (r : Rg) (rs : List Rg) : Ok (r :: rs) ↔ r.1 ≤ r.2 ∧ (∀ x ∈ rs, r.2 + 1 < x.1) ∧ Ok rs := by
  unfold Ok
  rw [List.pairwise_cons]
  constructor
  · rintro ⟨h1, h2, h3⟩
    exact ⟨h1 r (List.mem_cons_self ..), h2, fun x hx => h1 x (List.mem_cons_of_mem _ hx), h3⟩
  · rintro ⟨h1, h2, h3, h4⟩
    refine ⟨fun x hx => ?_, h2, h4⟩
    rcases List.mem_cons.1 hx with rfl | hx
    · exact h1
    · exact h3 x hx
theorem ok_snoc (rs : List Rg) (r : Rg) : Ok (rs ++ [r]) ↔ Ok rs ∧ (∀ x ∈ rs, x.2 + 1 < r.1) ∧ r.1 ≤ r.2 := by
  unfold Ok
  rw [List.pairwise_append]
  constructor
  · rintro ⟨h1, h2, _, h4⟩
    exact ⟨⟨fun x hx => h1 x (List.mem_append.2 (Or.inl hx)), h2⟩, fun x hx => h4 x hx r (List.mem_singleton.2 rfl), h1 r (List.mem_append.2 (Or.inr (List.mem_singleton.2 rfl)))⟩
  · rintro ⟨⟨h1, h2⟩, h3, h4⟩
    refine ⟨fun x hx => ?_, h2, List.pairwise_singleton .., fun x hx y hy => ?_⟩
    · rcases List.mem_append.1 hx with hx | hx
      · exact h1 x hx
      · rw [List.mem_singleton.1 hx]; exact h4
    · rw [List.mem_singleton.1 hy]; exact h3 x hx
theorem mem_tail {n : Int} {r : Rg} {rs : List Rg} (h : Ok (r :: rs)) (hm : Mem n rs) : r.2 + 1 < n := by
  obtain ⟨x, hx, h1, _⟩ := hm
  have := ((ok_cons r rs).1 h).2.1 x hx
  omega
/-- Equal numbers: equal ranges. -/
theorem ok_unique : ∀ (a b : List Rg), Ok a → Ok b → (∀ n, Mem n a ↔ Mem n b) → a = b
  | [], [], _, _, _ => rfl
  | [], s :: b, _, hb, h => by
    have := (h s.1).2 ((mem_cons _ _ _).2 (Or.inl ⟨Int.le_refl _, ((ok_cons s b).1 hb).1⟩))
    exact absurd this (Mem.nil _)
  | r :: a, [], ha, _, h => by
    have := (h r.1).1 ((mem_cons _ _ _).2 (Or.inl ⟨Int.le_refl _, ((ok_cons r a).1 ha).1⟩))
    exact absurd this (Mem.nil _)
  | r :: a, s :: b, ha, hb, h => by
    have ra := (ok_cons r a).1 ha
    have sb := (ok_cons s b).1 hb
    have low : ∀ {n : Int} {r : Rg} {a : List Rg}, Ok (r :: a) → Mem n (r :: a) → r.1 ≤ n := by
      intro n r a ha hm
      rcases (mem_cons _ _ _).1 hm with h | h
      · exact h.1
      · have := mem_tail ha h; have := ((ok_cons r a).1 ha).1; omega
    have inn : ∀ {n : Int} {r : Rg} {a : List Rg}, Ok (r :: a) → Mem n (r :: a) → n ≤ r.2 + 1 → n ≤ r.2 := by
      intro n r a ha hm hn
      rcases (mem_cons _ _ _).1 hm with h | h
      · exact h.2
      · have := mem_tail ha h; omega
    have e1 : r.1 = s.1 := by
      have h1 := low hb ((h r.1).1 ((mem_cons _ _ _).2 (Or.inl ⟨Int.le_refl _, ra.1⟩)))
      have h2 := low ha ((h s.1).2 ((mem_cons _ _ _).2 (Or.inl ⟨Int.le_refl _, sb.1⟩)))
      omega
    have e2 : r.2 = s.2 := by
      rcases Int.lt_trichotomy r.2 s.2 with hl | hl | hl
      · have := inn ha ((h (r.2 + 1)).2 ((mem_cons _ _ _).2 (Or.inl ⟨by omega, by omega⟩))) (Int.le_refl _)
        omega
      · exact hl
      · have := inn hb ((h (s.2 + 1)).1 ((mem_cons _ _ _).2 (Or.inl ⟨by omega, by omega⟩))) (Int.le_refl _)
        omega
    have e : r = s := Prod.ext e1 e2
    subst e
    congr 1
    refine ok_unique a b ra.2.2 sb.2.2 fun n => ?_
    constructor
    · intro hm
      have hn := mem_tail ha hm
      rcases (mem_cons _ _ _).1 ((h n).1 ((mem_cons _ _ _).2 (Or.inr hm))) with h' | h'
      · omega
      · exact h'
    · intro hm
      have hn := mem_tail hb hm
      rcases (mem_cons _ _ _).1 ((h n).2 ((mem_cons _ _ _).2 (Or.inr hm))) with h' | h'
      · omega
      · exact h'

/-- All numbers are within two bounds. -/
def Within (lo hi : Int) (rs : List Rg) : Prop := ∀ r ∈ rs, lo ≤ r.1 ∧ r.2 ≤ hi
theorem within_of_mem {lo hi : Int} {rs : List Rg} (h : Ok rs) (hm : ∀ n, Mem n rs → lo ≤ n ∧ n ≤ hi) : Within lo hi rs := fun r hr =>
  ⟨(hm r.1 ⟨r, hr, Int.le_refl _, h.1 r hr⟩).1, (hm r.2 ⟨r, hr, h.1 r hr, Int.le_refl _⟩).2⟩
theorem Within.mem {lo hi n : Int} {rs : List Rg} (h : Within lo hi rs) (hm : Mem n rs) : lo ≤ n ∧ n ≤ hi := by
  obtain ⟨r, hr, h1, h2⟩ := hm
  have := h r hr
  omega
theorem ok_length : ∀ (rs : List Rg) (lo hi : Int), Ok rs → Within lo hi rs → lo ≤ hi + 1 → (rs.length : Int) ≤ hi - lo + 1
  | [], lo, hi, _, _, h => by simp; omega
  | r :: rs, lo, hi, h, hw, hl => by
    have hr := (ok_cons r rs).1 h
    have h1 := hw r (List.mem_cons_self ..)
    by_cases he : rs = []
    · subst he; simp; omega
    · have h2 : Within (r.2 + 2) hi rs := fun x hx => ⟨by have := hr.2.1 x hx; omega, (hw x (List.mem_cons_of_mem _ hx)).2⟩
      obtain ⟨x, hx⟩ := List.exists_mem_of_ne_nil rs he
      have h3 := h2 x hx
      have h4 := hr.2.2.1 x hx
      have := ok_length rs (r.2 + 2) hi hr.2.2 h2 (by omega)
      simp only [List.length_cons]; omega

/-- Ranges in the order of their least numbers are joined. -/
def mstep (out : List Rg) (r : Rg) : List Rg :=
  match out.getLast? with
  | some (a, b) => if r.1 - 1 ≤ b then out.dropLast ++ [(a, max b r.2)] else out ++ [r]
  | none => out ++ [r]
theorem mstep_nil (r : Rg) : mstep [] r = [r] := rfl
theorem mstep_join (o : List Rg) (a b : Int) (r : Rg) (h : r.1 - 1 ≤ b) : mstep (o ++ [(a, b)]) r = o ++ [(a, max b r.2)] := by simp [mstep, h]
theorem mstep_new (o : List Rg) (a b : Int) (r : Rg) (h : ¬ r.1 - 1 ≤ b) : mstep (o ++ [(a, b)]) r = o ++ [(a, b)] ++ [r] := by simp [mstep, h]
structure MInv (L out : List Rg) : Prop where
  ok : Ok out
  mem : ∀ n, Mem n out ↔ Mem n L
  low : ∀ x ∈ out, ∃ r ∈ L, x.1 = r.1
theorem MInv.nil : MInv [] [] := ⟨Ok.nil, fun _ => Iff.rfl, fun x h => (by cases h)⟩
theorem MInv.step {L out : List Rg} {r : Rg} (h : MInv L out) (hr : r.1 ≤ r.2) (hs : ∀ x ∈ L, x.1 ≤ r.1) : MInv (L ++ [r]) (mstep out r) := by
  have hlow : ∀ x ∈ out, x.1 ≤ r.1 := fun x hx => by obtain ⟨y, hy, e⟩ := h.low x hx; rw [e]; exact hs y hy
  have hlow2 : ∀ x ∈ out, ∃ y ∈ L ++ [r], x.1 = y.1 := fun x hx => by obtain ⟨y, hy, e⟩ := h.low x hx; exact ⟨y, List.mem_append.2 (Or.inl hy), e⟩
  rcases List.eq_nil_or_concat out with rfl | ⟨o, ⟨a, b⟩, he⟩
  · rw [mstep_nil]
    refine ⟨(ok_cons r []).2 ⟨hr, (fun x hx => by cases hx), Ok.nil⟩, fun n => ?_, fun x hx => ⟨r, List.mem_append.2 (Or.inr (List.mem_singleton.2 rfl)), by rw [List.mem_singleton.1 hx]⟩⟩
    rw [mem_append, mem_one, show Mem n L ↔ Mem n [] from (h.mem n).symm]
    exact ⟨Or.inr, fun h => h.elim (fun h => absurd h (Mem.nil _)) id⟩
  · have he' : out = o ++ [(a, b)] := by simpa using he
    subst he'
    have hok := (ok_snoc o (a, b)).1 h.ok
    have hla : a ≤ r.1 := hlow (a, b) (List.mem_append.2 (Or.inr (List.mem_singleton.2 rfl)))
    by_cases hj : r.1 - 1 ≤ b
    · rw [mstep_join o a b r hj]
      refine ⟨(ok_snoc _ _).2 ⟨hok.1, hok.2.1, by show a ≤ max b r.2; have : a ≤ b := hok.2.2; omega⟩, fun n => ?_, fun x hx => ?_⟩
      · rw [mem_append, mem_one, mem_append, mem_one, show Mem n L ↔ Mem n (o ++ [(a, b)]) from (h.mem n).symm, mem_append, mem_one]
        show Mem n o ∨ (a ≤ n ∧ n ≤ max b r.2) ↔ (Mem n o ∨ (a ≤ n ∧ n ≤ b)) ∨ (r.1 ≤ n ∧ n ≤ r.2)
        constructor
        · rintro (h1 | h1)
          · exact Or.inl (Or.inl h1)
          · by_cases hb : n ≤ b
            · exact Or.inl (Or.inr ⟨h1.1, hb⟩)
            · exact Or.inr ⟨by omega, by omega⟩
        · rintro ((h1 | h1) | h1)
          · exact Or.inl h1
          · exact Or.inr ⟨h1.1, by omega⟩
          · exact Or.inr ⟨by omega, by omega⟩
      · rcases List.mem_append.1 hx with hx | hx
        · exact hlow2 x (List.mem_append.2 (Or.inl hx))
        · rw [List.mem_singleton.1 hx]
          exact hlow2 (a, b) (List.mem_append.2 (Or.inr (List.mem_singleton.2 rfl)))
    · rw [mstep_new o a b r hj]
      refine ⟨(ok_snoc _ _).2 ⟨h.ok, fun x hx => ?_, hr⟩, fun n => ?_, fun x hx => ?_⟩
      · rcases List.mem_append.1 hx with hx | hx
        · have h1 : x.2 + 1 < a := hok.2.1 x hx
          have h2 : a ≤ b := hok.2.2
          omega
        · rw [List.mem_singleton.1 hx]; show b + 1 < r.1; omega
      · rw [mem_append, mem_append n L, show Mem n L ↔ Mem n (o ++ [(a, b)]) from (h.mem n).symm]
      · rcases List.mem_append.1 hx with hx | hx
        · exact hlow2 x hx
        · exact ⟨r, List.mem_append.2 (Or.inr (List.mem_singleton.2 rfl)), by rw [List.mem_singleton.1 hx]⟩
/-- All of a sorted list. -/
theorem minv_fold (L : List Rg) (hr : ∀ r ∈ L, r.1 ≤ r.2) (hs : L.Pairwise (fun x y => x.1 ≤ y.1)) : ∀ k, k ≤ L.length → MInv (L.take k) ((L.take k).foldl mstep []) := by
  intro k
  induction k with
  | zero => intro _; exact MInv.nil
  | succ k ih =>
    intro hk
    have hk' : k < L.length := hk
    rw [List.take_succ_eq_append_getElem hk', List.foldl_append]
    refine (ih (by omega)).step (hr _ (List.getElem_mem hk')) fun x hx => ?_
    obtain ⟨i, hi, rfl⟩ := List.getElem_of_mem hx
    rw [List.getElem_take]
    rw [List.length_take] at hi
    exact List.pairwise_iff_getElem.1 hs i k (by omega) hk' (by omega)

end Go.Proofs.Ytkcpnehhcpmdgaa
