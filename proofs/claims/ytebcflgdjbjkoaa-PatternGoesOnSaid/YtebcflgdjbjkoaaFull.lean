/- Each pattern that is read has a text. No program; no condition beyond those that stand there. -/
import Derived.Test.YtebcflgdjbjkoaaSides
namespace Go.Proofs.Ytebcflgdjbjkoaa
open Go.RowKit

/-- Each class of an expression has a byte. -/
def Rx.full : Rx → Prop
  | .eps => True
  | .chr k => ∃ c : UInt8, mem k c.toNat = true
  | .seq a b => a.full ∧ b.full
  | .alt a b => a.full ∧ b.full
  | .plus a => a.full
  | .opt a => a.full
theorem Rx.full.some : ∀ {e : Rx}, e.full → ∃ w, e.Has w
  | .eps, _ => ⟨[], rfl⟩
  | .chr _, ⟨c, h⟩ => ⟨[c], c, rfl, h⟩
  | .seq _ _, ⟨h1, h2⟩ => by
    obtain ⟨u, hu⟩ := h1.some
    obtain ⟨v, hv⟩ := h2.some
    exact ⟨u ++ v, u, v, rfl, hu, hv⟩
  | .alt _ _, ⟨h1, _⟩ => by
    obtain ⟨u, hu⟩ := h1.some
    exact ⟨u, Or.inl hu⟩
  | .plus a, h => by
    obtain ⟨u, hu⟩ := Rx.full.some (e := a) h
    exact ⟨u, Many.one hu⟩
  | .opt _, _ => ⟨[], Or.inl rfl⟩
theorem mem_some {k : Set4} (hk : Words k) (h : k ≠ e4) : ∃ c : UInt8, mem k c.toNat = true := by
  refine Classical.byContradiction fun hn => h (set_ext hk words_e4 fun j hj => ?_)
  rw [mem_e4']
  cases hm : mem k j with
  | false => rfl
  | true =>
    refine absurd ⟨UInt8.ofNat j, ?_⟩ hn
    rw [show (UInt8.ofNat j).toNat = j by simp; omega]
    exact hm
theorem add_some (c : Nat) (hc : c < 256) : ∃ b : UInt8, mem (sadd e4 c) b.toNat = true :=
  ⟨UInt8.ofNat c, by rw [show (UInt8.ofNat c).toNat = c by simp; omega, sadd_mem words_e4 c (by omega)]; simp⟩
theorem full_some : ∃ b : UInt8, mem sfull b.toNat = true := ⟨0, by decide⟩
theorem bytes_some {s : ByteArray} {n : Nat} {st : PSt} {r : PSt × Set4} (h : bytesM s n st = some r) : ∃ c : UInt8, mem r.2 c.toNat = true := by
  have hw := bytes_words h
  obtain ⟨_, _, ⟨_, r0, _, _, _, h3, rfl⟩ | ⟨_, r0, _, _, _, h3, rfl⟩⟩ := bytes_ways h
  · exact mem_some hw h3
  · exact mem_some hw h3
def FullT (s : ByteArray) (n : Nat) (mq : Rq) : Prop := ∀ p r, rxM s n mq p = some r → r.2.full
def FullL (s : ByteArray) (n : Nat) (mq : Rx → Rq) : Prop := ∀ e0 p r, e0.full → rxM s n (mq e0) p = some r → r.2.full
theorem rx_full (s : ByteArray) : ∀ n, FullT s n .alt ∧ FullL s n .altL ∧ FullT s n .seq ∧ FullL s n .seqL ∧ FullT s n .item ∧ FullT s n .atom
  | 0 => by
    refine ⟨?_, ?_, ?_, ?_, ?_, ?_⟩
    · intro _ _ h; cases h
    · intro _ _ _ _ h; cases h
    · intro _ _ h; cases h
    · intro _ _ _ _ h; cases h
    · intro _ _ h; cases h
    · intro _ _ h; cases h
  | n + 1 => by
    obtain ⟨i1, i2, i3, i4, i5, i6⟩ := rx_full s n
    refine ⟨?_, ?_, ?_, ?_, ?_, ?_⟩
    · intro p r h
      unfold rxM at h
      cases ha : rxM s n .seq p with
      | none => rw [ha] at h; cases h
      | some a =>
        rw [ha] at h
        exact i2 _ _ _ (i3 _ _ ha) h
    · intro e0 p r h0 h
      unfold rxM at h
      split at h
      · cases ha : rxM s n .seq (p + 1) with
        | none => rw [ha] at h; cases h
        | some a =>
          rw [ha] at h
          have k : (Rx.alt e0 a.2).full := ⟨h0, i3 _ _ ha⟩
          exact i2 _ _ _ k h
      · injection h with h
        subst h
        exact h0
    · intro p r h
      unfold rxM at h
      exact i4 .eps _ _ trivial h
    · intro e0 p r h0 h
      unfold rxM at h
      split at h
      · cases ha : rxM s n .item p with
        | none => rw [ha] at h; cases h
        | some a =>
          rw [ha] at h
          have k : (Rx.seq e0 a.2).full := ⟨h0, i5 _ _ ha⟩
          exact i4 _ _ _ k h
      · injection h with h
        subst h
        exact h0
    · intro p r h
      unfold rxM at h
      cases ha : rxM s n .atom p with
      | none => rw [ha] at h; cases h
      | some a =>
        rw [ha] at h
        simp only [Option.bind_some] at h
        have hf := i6 _ _ ha
        split at h
        · injection h with h
          subst h
          show Rx.full (if _ then _ else if _ then _ else _)
          split
          · exact hf
          · split
            · exact hf
            · exact hf
        · injection h with h
          subst h
          exact hf
    · intro p r h
      unfold rxM at h
      split at h
      · cases ha : rxM s n .alt (p + 1) with
        | none => rw [ha] at h; cases h
        | some a =>
          rw [ha] at h
          simp only [Option.bind_some] at h
          split at h
          · injection h with h
            subst h
            have k : a.2.full := i1 _ _ ha
            exact k
          · cases h
      split at h
      · injection h with h
        subst h
        exact full_some
      split at h
      · cases ha : bytesM s (s.size + 1) ⟨p + 1, [], [], false⟩ with
        | none => rw [ha] at h; cases h
        | some a =>
          rw [ha] at h
          injection h with h
          subst h
          exact bytes_some ha
      split at h
      · split at h
        · injection h with h
          subst h
          exact add_some _ (peek_lt _ _)
        · cases h
      split at h
      · cases h
      · injection h with h
        subst h
        exact add_some _ (peek_lt _ _)
/-- Each parsed pattern takes a text. -/
theorem parsed_some {s : ByteArray} {cls fol : List Set4} {x : Part} (h : ParsedTo s cls fol x) : ∃ u, endsM x (runM cls fol u) = true := by
  obtain ⟨_, n, p, e, h1, _, h2⟩ := parsed_takes h
  obtain ⟨u, hu⟩ := ((rx_full s n).1 0 _ h1).some
  exact ⟨u, (h2 u).2 hu⟩

end Go.Proofs.Ytebcflgdjbjkoaa
