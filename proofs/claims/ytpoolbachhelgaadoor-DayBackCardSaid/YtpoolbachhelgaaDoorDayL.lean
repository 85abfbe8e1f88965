/- The plain law of dates: from one day to the next. -/
import Derived.Test.YtpoolbachhelgaaDoorDayW
namespace Go.Proofs.YtpoolbachhelgaaDoor
open Go.RowKit

theorem before_mono {a b : Int} (h1 : 1 ≤ a) (h : a ≤ b) : beforeI a ≤ beforeI b := by
  unfold beforeI
  omega
theorem year_unique {d y z : Int} (h : IsYear d y) (k : IsYear d z) : y = z := by
  obtain ⟨h1, h2, h3⟩ := h
  obtain ⟨k1, k2, k3⟩ := k
  rcases Int.lt_trichotomy y z with hl | hl | hl
  · have := before_mono (show 1 ≤ y + 1 by omega) (show y + 1 ≤ z by omega)
    omega
  · exact hl
  · have := before_mono (show 1 ≤ z + 1 by omega) (show z + 1 ≤ y by omega)
    omega
theorem cum_mono (y : Int) (t : Nat) : ∀ m : Int, 1 ≤ m → m + t ≤ 13 → cumI y m ≤ cumI y (m + t) := by
  induction t with
  | zero => intro m _ _; simp
  | succ t ih =>
    intro m h1 h2
    have e := ih m h1 (by omega)
    have n := cum_next y (m + t) (by omega) (by omega)
    have p := months_pos y (m + t) (by omega) (by omega)
    rw [show m + ((t + 1 : Nat) : Int) = m + t + 1 from by omega]
    omega
theorem cum_le {y a b : Int} (h1 : 1 ≤ a) (h : a ≤ b) (h2 : b ≤ 13) : cumI y a ≤ cumI y b := by
  have := cum_mono y (b - a).toNat a h1 (by omega)
  rwa [show a + ((b - a).toNat : Int) = b from by omega] at this
theorem cum13 (y : Int) : cumI y 13 = 365 + lp y := by unfold cumI; simp
theorem date_unique {d y m n y' m' n' : Int} (h : IsDate d y m n) (k : IsDate d y' m' n') : y = y' ∧ m = m' ∧ n = n' := by
  obtain rfl := year_unique h.year k.year
  have e1 := h.eq
  have e2 := k.eq
  have a1 := h.n1
  have a2 := h.n2
  have b1 := k.n1
  have b2 := k.n2
  have c1 := cum_next y m h.m1 h.m2
  have c2 := cum_next y m' k.m1 k.m2
  have hm1 := h.m1
  have hm2 := h.m2
  have km1 := k.m1
  have km2 := k.m2
  rcases Int.lt_trichotomy m m' with hl | rfl | hl
  · have := cum_le (y := y) (a := m + 1) (b := m') (by omega) (by omega) (by omega)
    omega
  · exact ⟨rfl, rfl, by omega⟩
  · have := cum_le (y := y) (a := m' + 1) (b := m) (by omega) (by omega) (by omega)
    omega
theorem date_next {d y m n z o k : Int} (h : IsDate d y m n) (h' : IsDate (d + 1) z o k) :
    (z = y ∧ o = m ∧ k = n + 1 ∧ k ≤ monthsI y m) ∨ (k = 1 ∧ n = monthsI y m ∧ ((z = y ∧ o = m + 1) ∨ (z = y + 1 ∧ o = 1 ∧ m = 12))) := by
  have e1 := h.eq
  have a1 := h.n1
  have a2 := h.n2
  have c1 := cum_next y m h.m1 h.m2
  have hm1 := h.m1
  have hm2 := h.m2
  obtain ⟨y1, y2, y3⟩ := h.year
  have yl := year_len y y1
  have c13 := cum_le (y := y) (a := m + 1) (b := 13) (by omega) (by omega) (by omega)
  rw [cum13] at c13
  by_cases hn : n < monthsI y m
  · have hd : IsDate (d + 1) y m (n + 1) := ⟨⟨y1, by omega, by omega⟩, hm1, hm2, by omega, by omega, by omega⟩
    obtain ⟨rfl, rfl, rfl⟩ := date_unique hd h'
    exact Or.inl ⟨rfl, rfl, rfl, by omega⟩
  · by_cases hm : m < 12
    · have p := months_pos y (m + 1) (by omega) (by omega)
      have c2 := cum_next y (m + 1) (by omega) (by omega)
      have c14 := cum_le (y := y) (a := m + 1 + 1) (b := 13) (by omega) (by omega) (by omega)
      rw [cum13] at c14
      have hd : IsDate (d + 1) y (m + 1) 1 := ⟨⟨y1, by omega, by omega⟩, by omega, by omega, by omega, by omega, by omega⟩
      obtain ⟨rfl, rfl, rfl⟩ := date_unique hd h'
      exact Or.inr ⟨rfl, by omega, Or.inl ⟨rfl, rfl⟩⟩
    · have hm' : m = 12 := by omega
      subst hm'
      have e13 := cum13 y
      have yl2 := year_len (y + 1) (by omega)
      have p := months_pos (y + 1) 1 (by omega) (by omega)
      have c0 : cumI (y + 1) 1 = 0 := by unfold cumI; simp
      have hlp : 0 ≤ lp (y + 1) := by unfold lp; split <;> omega
      rw [show (12 : Int) + 1 = 13 from rfl, e13] at c1
      have hd : IsDate (d + 1) (y + 1) 1 1 := ⟨⟨by omega, by omega, by omega⟩, by omega, by omega, by omega, by omega, by omega⟩
      obtain ⟨rfl, rfl, rfl⟩ := date_unique hd h'
      exact Or.inr ⟨rfl, by omega, Or.inr ⟨rfl, rfl, rfl⟩⟩

/-- The weeks of two days, one after the other. -/
theorem week_next {d a b p q : Int} (h : IsWeek d a b) (k : IsWeek (d + 1) p q) :
    ((d + 1) % 7 ≠ 0 → a = p ∧ b = q) ∧ ((d + 1) % 7 = 0 → (q = b + 1 ∧ p = a) ∨ (q = 1 ∧ p = a + 1 ∧ 52 ≤ b)) := by
  obtain ⟨ha, hb⟩ := h
  obtain ⟨hp, hq⟩ := k
  constructor
  · intro hne
    have e : d + 1 - (d + 1) % 7 + 3 = d - d % 7 + 3 := by omega
    rw [e] at hp hq
    obtain rfl := year_unique ha hp
    exact ⟨rfl, by omega⟩
  · intro h0
    have e : d + 1 - (d + 1) % 7 + 3 = d - d % 7 + 3 + 7 := by omega
    rw [e] at hp hq
    obtain ⟨a1, a2, a3⟩ := ha
    have yl := year_len a a1
    have hlp : 0 ≤ lp a ∧ lp a ≤ 1 := by unfold lp; split <;> omega
    generalize hT : d - d % 7 + 3 = T at *
    by_cases hin : T + 7 < beforeI (a + 1)
    · obtain rfl := year_unique (show IsYear (T + 7) a from ⟨a1, by omega, hin⟩) hp
      exact Or.inl ⟨by omega, rfl⟩
    · have yl2 := year_len (a + 1) (by omega)
      have hlp2 : 0 ≤ lp (a + 1) := by unfold lp; split <;> omega
      obtain rfl := year_unique (show IsYear (T + 7) (a + 1) from ⟨by omega, by omega, by omega⟩) hp
      exact Or.inr ⟨by omega, rfl, by omega⟩

end Go.Proofs.YtpoolbachhelgaaDoor
