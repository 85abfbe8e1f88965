/- Mended strings, whole beginnings, places of lines: plain facts on lists of code points, and what utf.Cut and utf.Place answer at their bytes. -/
import Derived.Test.YtpoolbachhelgaaUtfR
namespace Go.Proofs.Ytpoolbachhelgaa
open Go.RowKit Go.Proofs.Ytpoolbachhelgaa.PUtfMended Go.Proofs.YtpoolbachhelgaaW.PrintWords Go.Proofs.YtpoolbachhelgaaW.PrintLast Go.Proofs.YtpoolbachhelgaaW.PrintMore

/-- The code points of a mended string. -/
def mpF : Nat → List UInt8 → List Nat
  | 0, _ => []
  | _ + 1, [] => []
  | f + 1, c :: t => if (nx (c :: t)).2 = 0 then 65533 :: mpF f t else (nx (c :: t)).1 :: mpF f ((c :: t).drop (nx (c :: t)).2)
def mp (l : List UInt8) : List Nat := mpF l.length l
theorem mpF_fuel (f : Nat) : ∀ (l : List UInt8) (g : Nat), l.length ≤ f → l.length ≤ g → mpF f l = mpF g l := by
  induction f with
  | zero =>
    intro l g h _
    cases l with
    | nil => cases g <;> rfl
    | cons c t => simp at h
  | succ f ih =>
    intro l g h hg
    cases l with
    | nil => cases g <;> rfl
    | cons c t =>
      simp only [List.length_cons] at h hg
      obtain ⟨g, rfl⟩ : ∃ m, g = m + 1 := ⟨g - 1, by omega⟩
      simp only [mpF]
      split
      · rw [ih t g (by omega) (by omega)]
      · rename_i hz
        rw [ih _ g (by rw [List.length_drop, List.length_cons]; omega) (by rw [List.length_drop, List.length_cons]; omega)]
theorem mp_nil : mp [] = [] := rfl
theorem mp_bad (l : List UInt8) (h0 : l ≠ []) (h : (nx l).2 = 0) : mp l = 65533 :: mp (l.drop 1) := by
  cases l with
  | nil => exact absurd rfl h0
  | cons c t =>
    show mpF (t.length + 1) (c :: t) = _
    simp only [mpF]
    rw [if_pos h]
    rfl
theorem mp_good (l : List UInt8) (h0 : l ≠ []) (h : (nx l).2 ≠ 0) : mp l = (nx l).1 :: mp (l.drop (nx l).2) := by
  cases l with
  | nil => exact absurd rfl h0
  | cons c t =>
    show mpF (t.length + 1) (c :: t) = _
    simp only [mpF]
    rw [if_neg h]
    congr 1
    exact mpF_fuel _ _ _ (by rw [List.length_drop, List.length_cons]; omega) (Nat.le_refl _)
theorem nx_len (l : List UInt8) (h : (nx l).2 ≠ 0) : (nx l).2 ≤ l.length ∧ (nx l).2 ≤ 4 := by
  obtain ⟨_, t, ht, hn⟩ := nx_spec l h
  have he := enc_len (nx l).1
  rw [hn]
  constructor
  · conv => rhs; rw [ht]
    rw [List.length_append]; omega
  · omega
theorem mp_spec (n : Nat) : ∀ l : List UInt8, l.length ≤ n → (mp l).length ≤ l.length ∧ ∀ r ∈ mp l, okR r = true := by
  induction n with
  | zero =>
    intro l h
    have : l = [] := List.eq_nil_of_length_eq_zero (by omega)
    subst this
    exact ⟨by simp [mp_nil], by simp [mp_nil]⟩
  | succ n ih =>
    intro l h
    by_cases h0 : l = []
    · subst h0; exact ⟨by simp [mp_nil], by simp [mp_nil]⟩
    · have hp : 0 < l.length := List.length_pos_iff.mpr h0
      by_cases hz : (nx l).2 = 0
      · rw [mp_bad l h0 hz]
        obtain ⟨i1, i2⟩ := ih (l.drop 1) (by rw [List.length_drop]; omega)
        rw [List.length_drop] at i1
        refine ⟨by rw [List.length_cons]; omega, fun r hr => ?_⟩
        rcases List.mem_cons.mp hr with rfl | hr
        · decide
        · exact i2 r hr
      · rw [mp_good l h0 hz]
        have hl := nx_len l hz
        obtain ⟨i1, i2⟩ := ih (l.drop (nx l).2) (by rw [List.length_drop]; omega)
        rw [List.length_drop] at i1
        refine ⟨by rw [List.length_cons]; omega, fun r hr => ?_⟩
        rcases List.mem_cons.mp hr with rfl | hr
        · exact (nx_spec l hz).1
        · exact i2 r hr
theorem enc_ne (r : Nat) : enc r ≠ [] := by
  intro h
  have := enc_len r
  rw [h] at this
  simp at this
theorem mp_cps (ps : List Nat) (hok : ∀ r ∈ ps, okR r = true) : mp (cps ps) = ps := by
  induction ps with
  | nil => rfl
  | cons r ps ih =>
    rw [cps_cons]
    have hn := nx_enc r (hok r (List.mem_cons_self ..)) (cps ps)
    have he := enc_len r
    rw [mp_good _ (by simp [enc_ne]) (by rw [hn]; show (enc r).length ≠ 0; omega), hn]
    simp only [List.drop_left]
    rw [ih (fun x hx => hok x (List.mem_cons_of_mem _ hx))]

/-- The points behind the last line feed. -/
def aft : List Nat → List Nat
  | [] => []
  | p :: t => if 10 ∈ t then aft t else if p = 10 then t else p :: t
theorem aft_spec (l : List Nat) : (10 ∉ l ∧ aft l = l) ∨ ∃ pre, l = pre ++ 10 :: aft l ∧ 10 ∉ aft l := by
  induction l with
  | nil => exact Or.inl ⟨by simp, rfl⟩
  | cons p t ih =>
    simp only [aft]
    by_cases h1 : 10 ∈ t
    · rw [if_pos h1]
      rcases ih with ⟨h, _⟩ | ⟨pre, h2, h3⟩
      · exact absurd h1 h
      · exact Or.inr ⟨p :: pre, by rw [List.cons_append, ← h2], h3⟩
    · rw [if_neg h1]
      by_cases h2 : p = 10
      · rw [if_pos h2]
        exact Or.inr ⟨[], by rw [h2]; rfl, h1⟩
      · rw [if_neg h2]
        exact Or.inl ⟨by simp [h1]; exact fun h => h2 h.symm, rfl⟩
def colF (l : List Nat) : Nat := l.foldl (fun c p => if p = 10 then 1 else c + 1) 1
theorem colF_snoc (l : List Nat) (p : Nat) : colF (l ++ [p]) = if p = 10 then 1 else colF l + 1 := by simp [colF]
theorem fold_none (l : List Nat) (h : 10 ∉ l) : ∀ c, l.foldl (fun c p => if p = 10 then 1 else c + 1) c = c + l.length := by
  induction l with
  | nil => intro c; rfl
  | cons p t ih =>
    intro c
    have hp : p ≠ 10 := fun e => h (by simp [e])
    rw [List.foldl_cons, if_neg hp, ih (fun e => h (List.mem_cons_of_mem _ e)), List.length_cons]
    omega
theorem colF_aft (l : List Nat) : colF l = 1 + (aft l).length := by
  unfold colF
  rcases aft_spec l with ⟨h1, h2⟩ | ⟨pre, h1, h2⟩
  · rw [h2, fold_none l h1]
  · conv => lhs; rw [h1]
    rw [List.foldl_append, List.foldl_cons, if_pos rfl, fold_none _ h2]

theorem enc_head (r : Nat) (hr : r ≤ 1114111) : ∃ c t, enc r = c :: t ∧ (c.toNat = 10 ↔ r = 10) := by
  unfold enc
  by_cases h1 : r < 128
  · rw [if_pos h1]; exact ⟨_, _, rfl, by rw [u8_toNat r (by omega)]⟩
  · rw [if_neg h1]
    by_cases h2 : r < 2048
    · rw [if_pos h2]; exact ⟨_, _, rfl, by rw [u8_toNat _ (by omega)]; omega⟩
    · rw [if_neg h2]
      by_cases h3 : r < 65536
      · rw [if_pos h3]; exact ⟨_, _, rfl, by rw [u8_toNat _ (by omega)]; omega⟩
      · rw [if_neg h3]; exact ⟨_, _, rfl, by rw [u8_toNat _ (by omega)]; omega⟩
theorem enc_no10 (r : Nat) (hr : r ≤ 1114111) (h : r ≠ 10) : ∀ c ∈ enc r, c.toNat ≠ 10 := by
  unfold enc
  by_cases h1 : r < 128
  · rw [if_pos h1]; intro c hc; rw [List.mem_singleton.mp hc, u8_toNat r (by omega)]; exact h
  · rw [if_neg h1]
    by_cases h2 : r < 2048
    · rw [if_pos h2]; intro c hc
      simp only [List.mem_cons, List.not_mem_nil, or_false] at hc
      rcases hc with rfl | rfl <;> rw [u8_toNat _ (by omega)] <;> omega
    · rw [if_neg h2]
      by_cases h3 : r < 65536
      · rw [if_pos h3]; intro c hc
        simp only [List.mem_cons, List.not_mem_nil, or_false] at hc
        rcases hc with rfl | rfl | rfl <;> rw [u8_toNat _ (by omega)] <;> omega
      · rw [if_neg h3]; intro c hc
        simp only [List.mem_cons, List.not_mem_nil, or_false] at hc
        rcases hc with rfl | rfl | rfl | rfl <;> rw [u8_toNat _ (by omega)] <;> omega
theorem okR_le (r : Nat) (h : okR r = true) : r ≤ 1114111 := by unfold okR at h; simp at h; exact h.1
theorem cps_no10 (l : List Nat) (hok : ∀ r ∈ l, okR r = true) (h : 10 ∉ l) : ∀ c ∈ cps l, c.toNat ≠ 10 := by
  induction l with
  | nil => intro c hc; cases hc
  | cons p t ih =>
    intro c hc
    rw [cps_cons, List.mem_append] at hc
    rcases hc with hc | hc
    · exact enc_no10 p (okR_le p (hok p (List.mem_cons_self ..))) (fun e => h (by simp [e])) c hc
    · exact ih (fun x hx => hok x (List.mem_cons_of_mem _ hx)) (fun e => h (List.mem_cons_of_mem _ e)) c hc

theorem place_l0 (rest : List Nat) : ∀ (done : List Nat) (k : Nat) (x7 : Int), (∀ r ∈ rest, okR r = true) → (cps (done ++ rest)).length < 1099511627776 → colF done < 1099511627776 - rest.length → rest.length + 10 ≤ k →
    ∃ ln, utf_Place.l0 k (sL (cps (done ++ rest))) ((cps (done ++ rest)).length : Nat) x7 (colF done : Nat) ((cps done).length : Nat) = some (ln, ((colF (done ++ rest) : Nat) : Int), 0) := by
  induction rest with
  | nil =>
    intro done k x7 _ _ _ hk
    obtain ⟨k, rfl⟩ : ∃ m, k = m + 1 := ⟨k - 1, by omega⟩
    simp only [utf_Place.l0, List.append_nil]
    rw [if_neg (by omega)]
    exact ⟨_, rfl⟩
  | cons r rest ih =>
    intro done k x7 hok hlen hcol hk
    obtain ⟨k, rfl⟩ : ∃ m, k = m + 1 := ⟨k - 1, by omega⟩
    have hr := hok r (List.mem_cons_self ..)
    have he := enc_len r
    have hl : (cps (done ++ r :: rest)).length = (cps done).length + (enc r).length + (cps rest).length := by
      rw [cps_append, cps_cons, List.length_append, List.length_append]; omega
    have hd : (cps (done ++ r :: rest)).drop (cps done).length = enc r ++ cps rest := by
      rw [cps_append, cps_cons, List.drop_left]
    have hn := next_f (enc r ++ cps rest) (by simp [enc_ne]) (by rw [List.length_append]; omega) k (by simp at hk; omega)
    rw [nx_enc r hr] at hn
    obtain ⟨c, t, hct, hc10⟩ := enc_head r (okR_le r hr)
    have hb : bt (sL (cps (done ++ r :: rest))) ((cps done).length : Nat) = (c.toNat : Int) := by
      rw [bt_sL, cps_append, cps_cons, hct]
      simp [List.getD]
    have e1 : wrap64 (((cps done).length : Int) + mx ((enc r).length : Int) 1) = ((cps (done ++ [r])).length : Int) := by
      rw [cps_append, List.length_append]
      have e : (cps [r]).length = (enc r).length := by simp [cps]
      rw [e]
      unfold mx
      rw [if_neg (by omega)]
      unfold wrap64; omega
    have e3 : (cps (done ++ [r])).length = (cps done).length + (enc r).length := by
      rw [cps_append, List.length_append]; simp [cps]
    simp only [utf_Place.l0]
    simp only [List.length_cons] at hcol hk
    rw [if_pos (by omega), if_pos (by omega), if_pos (by rw [sL_size]; omega), Int.toNat_natCast, sL_drop, hd, hn]
    simp only [Option.bind_some]
    rw [e1, if_neg (by rw [e3]; omega), if_pos (by rw [sL_size]; omega), hb]
    by_cases h10 : r = 10
    · rw [if_pos (by have := hc10.mpr h10; omega)]
      have := ih (done ++ [r]) k (wrap64 (x7 + 1)) (fun x hx => hok x (List.mem_cons_of_mem _ hx)) (by rw [List.append_assoc]; exact hlen) (by rw [colF_snoc, if_pos h10]; omega) (by omega)
      rw [colF_snoc, if_pos h10, List.append_assoc, List.singleton_append] at this
      exact this
    · rw [if_neg (by intro h; exact h10 (hc10.mp (by omega)))]
      have := ih (done ++ [r]) k x7 (fun x hx => hok x (List.mem_cons_of_mem _ hx)) (by rw [List.append_assoc]; exact hlen) (by rw [colF_snoc, if_neg h10]; omega) (by omega)
      rw [colF_snoc, if_neg h10, List.append_assoc, List.singleton_append] at this
      rw [show wrap64 ((colF done : Int) + 1) = ((colF done + 1 : Nat) : Int) from by unfold wrap64; omega]
      exact this

theorem cut_l0 (n : Nat) (rest : List Nat) : ∀ (done : List Nat) (k : Nat), (∀ r ∈ rest, okR r = true) → (cps (done ++ rest)).length < 1099511627776 → (cps done).length ≤ n → n ≤ (cps (done ++ rest)).length → rest.length + 10 ≤ k →
    ∃ a b, done ++ rest = a ++ b ∧ (cps a).length ≤ n ∧ n < (cps a).length + 4 ∧ utf_Cut.l0 k (sL (cps (done ++ rest))) (n : Int) ((cps done).length : Nat) = some (sL (cps a)) := by
  induction rest with
  | nil =>
    intro done k _ _ h1 h2 hk
    obtain ⟨k, rfl⟩ : ∃ m, k = m + 1 := ⟨k - 1, by omega⟩
    rw [List.append_nil] at h2
    refine ⟨done, [], rfl, h1, by omega, ?_⟩
    simp only [utf_Cut.l0, List.append_nil]
    rw [if_neg (by omega), if_pos (by omega), if_pos (by rw [sL_size]; omega), Int.toNat_natCast, sL_take, List.take_length]
  | cons r rest ih =>
    intro done k hok hlen h1 h2 hk
    obtain ⟨k, rfl⟩ : ∃ m, k = m + 1 := ⟨k - 1, by omega⟩
    have hr := hok r (List.mem_cons_self ..)
    have he := enc_len r
    have hl : (cps (done ++ r :: rest)).length = (cps done).length + (enc r).length + (cps rest).length := by
      rw [cps_append, cps_cons, List.length_append, List.length_append]; omega
    have hd : (cps (done ++ r :: rest)).drop (cps done).length = enc r ++ cps rest := by
      rw [cps_append, cps_cons, List.drop_left]
    have ht : (cps (done ++ r :: rest)).take (cps done).length = cps done := by rw [cps_append, List.take_left]
    have hn := next_f (enc r ++ cps rest) (by simp [enc_ne]) (by rw [List.length_append]; omega) k (by simp at hk; omega)
    rw [nx_enc r hr] at hn
    have e1 : wrap64 (((cps done).length : Int) + mx ((enc r).length : Int) 1) = ((cps (done ++ [r])).length : Int) := by
      rw [cps_append, List.length_append]
      have e : (cps [r]).length = (enc r).length := by simp [cps]
      rw [e]
      unfold mx
      rw [if_neg (by omega)]
      unfold wrap64; omega
    have e3 : (cps (done ++ [r])).length = (cps done).length + (enc r).length := by
      rw [cps_append, List.length_append]; simp [cps]
    simp only [utf_Cut.l0]
    by_cases hlt : (cps done).length < n
    · rw [if_pos (by omega), if_pos (by omega), if_pos (by rw [sL_size]; omega), Int.toNat_natCast, sL_drop, hd, hn]
      simp only [Option.bind_some]
      rw [e1]
      by_cases hgt : n < (cps (done ++ [r])).length
      · refine ⟨done, r :: rest, rfl, h1, by omega, ?_⟩
        rw [if_pos (by omega), sL_take, ht]
      · rw [if_neg (by omega)]
        have := ih (done ++ [r]) k (fun x hx => hok x (List.mem_cons_of_mem _ hx)) (by rw [List.append_assoc]; exact hlen) (by omega) (by rw [List.append_assoc]; exact h2) (by simp at hk; omega)
        rw [List.append_assoc, List.singleton_append] at this
        exact this
    · refine ⟨done, r :: rest, rfl, h1, by omega, ?_⟩
      rw [if_neg (by omega), if_pos (by omega), if_pos (by rw [sL_size]; omega), Int.toNat_natCast, sL_take, ht]

end Go.Proofs.Ytpoolbachhelgaa
