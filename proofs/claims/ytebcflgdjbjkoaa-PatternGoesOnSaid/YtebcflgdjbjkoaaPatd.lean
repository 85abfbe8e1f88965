/- A text that spells an expression is read. No program; no condition beyond those that stand there. -/
import Derived.Test.YtebcflgdjbjkoaaSides
namespace Go.Proofs.Ytebcflgdjbjkoaa
open Go.RowKit

def ReadE (s : ByteArray) (n : Nat) (md : Rd) (mq : Rq) (low : Bool) : Prop := ∀ (st : PSt) (j : Nat) (e : Rx), StOk st → rxM s n mq st.pos = some (j, e) → st.pos ≤ s.size → (low = true → st.pos < s.size) → st.cls.length + (j - st.pos) ≤ 256 →
  ∃ r, readM s n md st = some r ∧ r.1.pos = j ∧ r.1.cls.length ≤ st.cls.length + (j - st.pos)
def ReadEL (s : ByteArray) (n : Nat) (md : Part → Rd) (mq : Rx → Rq) : Prop := ∀ (m : Nat) (st : PSt) (out : Part) (e0 : Rx) (j : Nat) (e : Rx), StOk st → Glu m st out e0 → rxM s n (mq e0) st.pos = some (j, e) → st.pos ≤ s.size → st.cls.length + (j - st.pos) ≤ 256 →
  ∃ r, readM s n (md out) st = some r ∧ r.1.pos = j ∧ r.1.cls.length ≤ st.cls.length + (j - st.pos)
theorem posG_ok {st : PSt} (k : Set4) (h : StOk st) (h1 : st.cls.length ≤ 255) (h2 : st.pos ≤ 990) : posG st k = some (posM st k) := by
  unfold posG
  rw [if_pos ⟨h1, by have := h.len.1; omega, h2⟩]
theorem bytes_back {s : ByteArray} {st : PSt} {n : Nat} {r : PSt × Set4} (hb : st.bad = false) (h : bytesM s n ⟨st.pos, [], [], false⟩ = some r) : bytesM s n st = some (⟨r.1.pos, st.cls, st.fol, false⟩, r.2) := by
  obtain ⟨_, hp, hw⟩ := bytes_ways h
  have hp' : st.pos ≤ 990 := hp
  have hnot : ¬ (st.bad = true ∨ 990 < st.pos) := by
    rintro (a | a)
    · rw [hb] at a; cases a
    · omega
  unfold bytesM
  rw [if_neg hnot]
  rcases hw with ⟨h94, r0, hc, h1, h2, h3, rfl⟩ | ⟨h94, r0, hc, h1, h2, h3, rfl⟩
  · have h94' : peekM s st.pos = 94 := h94
    have hcl := cls_free (s := s) st.cls st.fol n (pos1 ⟨st.pos, [], [], false⟩) e4
    rw [hc] at hcl
    have hbd : r0.1.bad = false := (cls_st hc).2.2.1
    have e0 : (⟨(pos1 ⟨st.pos, [], [], false⟩ : PSt).pos, st.cls, st.fol, (pos1 ⟨st.pos, [], [], false⟩ : PSt).bad⟩ : PSt) = pos1 st := by
      show (⟨st.pos + 1, st.cls, st.fol, false⟩ : PSt) = ⟨st.pos + 1, st.cls, st.fol, st.bad⟩
      rw [hb]
    rw [e0] at hcl
    simp only [h94', if_true]
    rw [hcl]
    simp only [Option.map_some, Option.bind_some]
    rw [if_pos ⟨h1, h2, h3⟩, hbd]
    rfl
  · have h94' : peekM s st.pos ≠ 94 := h94
    have hcl := cls_free (s := s) st.cls st.fol n ⟨st.pos, [], [], false⟩ e4
    rw [hc] at hcl
    have hbd : r0.1.bad = false := (cls_st hc).2.2.1
    have e0 : (⟨(⟨st.pos, [], [], false⟩ : PSt).pos, st.cls, st.fol, (⟨st.pos, [], [], false⟩ : PSt).bad⟩ : PSt) = st := by
      show (⟨st.pos, st.cls, st.fol, false⟩ : PSt) = st
      rw [← hb]
    rw [e0] at hcl
    simp only [h94', if_false]
    rw [hcl]
    simp only [Option.map_some, Option.bind_some]
    rw [if_pos ⟨h1, h2, h3⟩, hbd]
    rfl
theorem atom_reads {s : ByteArray} (hz : s.size ≤ 900) (n : Nat) (ih : ReadE s n .alt .alt false) : ReadE s (n + 1) .atom .atom true := by
  intro st j e hs h hps hlt hroom
  have hl := hlt rfl
  have hpos := rx_pos s (n + 1) .atom st.pos (j, e) h hps
  have hj := hpos.1 hl
  simp only at hj
  have hcl : st.cls.length ≤ 255 := by omega
  unfold rxM at h
  unfold readM
  rw [if_neg (show ¬ 990 < st.pos by omega)]
  split at h
  · rename_i hq
    rw [if_pos hq]
    cases ha : rxM s n .alt (st.pos + 1) with
    | none => rw [ha] at h; cases h
    | some a =>
      rw [ha] at h
      simp only [Option.bind_some] at h
      split at h
      · rename_i hc
        injection h with h
        injection h with h1 h2
        have ka := (rx_pos s n .alt (st.pos + 1) a ha hl).1
        simp only at ka
        obtain ⟨r, k1, k2, k3⟩ := ih (pos1 st) a.1 a.2 (pos_ok hs) ha (show st.pos + 1 ≤ s.size from hl) (fun k => by cases k) (show st.cls.length + (a.1 - (st.pos + 1)) ≤ 256 by omega)
        have hb := ((read_rx s n).1 (pos1 st) r (pos_ok hs) k1).choose_spec.2.1.good
        rw [k1]
        simp only [Option.bind_some]
        rw [if_pos ⟨hb, by rw [k2]; exact hc.1, by rw [k2]; exact hc.2, by rw [k2]; omega⟩]
        have k3' : r.1.cls.length ≤ st.cls.length + (a.1 - (st.pos + 1)) := k3
        exact ⟨_, rfl, by show r.1.pos + 1 = j; omega, by show r.1.cls.length ≤ _; omega⟩
      · cases h
  rename_i hq
  rw [if_neg hq]
  have fin : ∀ (sx : PSt) (k : Set4), StOk sx → sx.cls = st.cls → sx.pos = j → ∃ r, posG sx k = some r ∧ r.1.pos = j ∧ r.1.cls.length ≤ st.cls.length + (j - st.pos) := fun sx k h1 h2 h3 => by
    have hjz : j ≤ s.size := hpos.2 hl
    refine ⟨posM sx k, posG_ok k h1 (by rw [h2]; exact hcl) (by omega), h3, ?_⟩
    show (sx.cls ++ [k]).length ≤ _
    rw [List.length_append, h2]
    simp
    omega
  split at h
  · rename_i hq
    rw [if_pos hq]
    injection h with h
    injection h with h1 _
    exact fin (pos1 st) sfull (pos_ok hs) rfl h1
  rename_i hq
  rw [if_neg hq]
  split at h
  · rename_i hq
    rw [if_pos hq]
    cases ha : bytesM s (s.size + 1) ⟨st.pos + 1, [], [], false⟩ with
    | none => rw [ha] at h; cases h
    | some a =>
      rw [ha] at h
      injection h with h
      injection h with h1 _
      have hb := bytes_back (st := pos1 st) hs.good ha
      rw [hb]
      exact fin ⟨a.1.pos, (pos1 st).cls, (pos1 st).fol, false⟩ a.2 ⟨hs.cok, hs.fok, hs.len, rfl⟩ rfl h1
  rename_i hq
  rw [if_neg hq]
  split at h
  · rename_i hq
    rw [if_pos hq]
    split at h
    · rename_i hc
      rw [if_pos hc]
      injection h with h
      injection h with h1 _
      exact fin (pos1 (pos1 st)) _ (pos_ok (pos_ok hs)) rfl h1
    · cases h
  rename_i hq
  rw [if_neg hq]
  split at h
  · cases h
  rename_i hq
  rw [if_neg hq]
  injection h with h
  injection h with h1 _
  exact fin (pos1 st) _ (pos_ok hs) rfl h1
theorem item_reads {s : ByteArray} (hz : s.size ≤ 900) (n : Nat) (ih : ReadE s n .atom .atom true) : ReadE s (n + 1) .item .item true := by
  intro st j e hs h hps hlt hroom
  have hl := hlt rfl
  unfold rxM at h
  unfold readM
  cases ha : rxM s n .atom st.pos with
  | none => rw [ha] at h; cases h
  | some a =>
    rw [ha] at h
    simp only [Option.bind_some] at h
    have haz := (rx_pos s n .atom st.pos a ha hps).2 hl
    have haj : a.1 ≤ j := by
      split at h
      · injection h with h; injection h with h1 _; omega
      · injection h with h; rw [h]; exact Nat.le_refl _
    obtain ⟨r, k1, k2, k3⟩ := ih st a.1 a.2 hs ha hps hlt (by omega)
    have hok := ((read_rx s n).2.2.2.2.2 st r hs k1).choose_spec.2.1
    rw [k1]
    simp only [Option.bind_some]
    rw [if_neg (show ¬ 990 < r.1.pos by omega)]
    split at h
    · rename_i hq
      injection h with h
      injection h with h1 _
      rw [if_pos ⟨(more_good hok.good).2 (by rw [k2]; exact hq.1), by rw [k2]; exact hq.2⟩]
      refine ⟨_, rfl, ?_, ?_⟩
      · show (if peekM s r.1.pos ≠ 63 then linkM (pos1 r.1) r.2.lst r.2.fst else pos1 r.1).pos = j
        split
        · show r.1.pos + 1 = j; omega
        · show r.1.pos + 1 = j; omega
      · show (if peekM s r.1.pos ≠ 63 then linkM (pos1 r.1) r.2.lst r.2.fst else pos1 r.1).cls.length ≤ _
        split
        · show r.1.cls.length ≤ _; omega
        · show r.1.cls.length ≤ _; omega
    · rename_i hq
      injection h with h
      rw [h] at k2 k3 hq
      rw [if_neg (by rintro ⟨x, y⟩; exact hq ⟨by have := (more_good hok.good).1 x; rw [← k2]; exact this, by rw [← k2]; exact y⟩)]
      exact ⟨r, rfl, k2, k3⟩
theorem seqL_reads {s : ByteArray} (n : Nat) (ih : ReadE s n .item .item true) (ihL : ReadEL s n .seqL .seqL) : ReadEL s (n + 1) .seqL .seqL := by
  intro m st out e0 j e hs hg h hps hroom
  unfold rxM at h
  unfold readM
  split at h
  · rename_i hq
    cases ha : rxM s n .item st.pos with
    | none => rw [ha] at h; cases h
    | some a =>
      rw [ha] at h
      simp only [Option.bind_some] at h
      have p1 := rx_pos s n .item st.pos a ha hps
      have p2 := p1.1 hq.1
      have p3 := p1.2 hq.1
      have p4 := (rx_pos s n (.seqL (.seq e0 a.2)) a.1 (j, e) h p3).1
      simp only at p4
      obtain ⟨r, k1, k2, k3⟩ := ih st a.1 a.2 hs ha hps (fun _ => hq.1) (by omega)
      obtain ⟨e1, q1, q2, q3, q4⟩ := (read_rx s n).2.2.2.2.1 st r hs k1
      rw [ha] at q1
      injection q1 with q1
      have he : a.2 = e1 := by rw [q1]
      subst he
      rw [if_pos ⟨(more_good hs.good).2 hq.1, hq.2⟩, k1]
      simp only [Option.bind_some]
      have hg2 := Glu.seq hg q4 q3
      obtain ⟨r', w1, w2, w3⟩ := ihL m (linkM r.1 out.lst r.2.fst) _ (.seq e0 a.2) j e (link_ok q2 q4.xok.1) hg2 (by show rxM s n _ r.1.pos = _; rw [k2]; exact h) (by show r.1.pos ≤ s.size; omega) (by show r.1.cls.length + (j - r.1.pos) ≤ 256; omega)
      have w3' : r'.1.cls.length ≤ r.1.cls.length + (j - r.1.pos) := w3
      exact ⟨r', w1, w2, by omega⟩
  · rename_i hq
    injection h with h
    injection h with h1 _
    rw [if_neg (by rintro ⟨x, y⟩; exact hq ⟨(more_good hs.good).1 x, y⟩)]
    exact ⟨_, rfl, h1, Nat.le_add_right _ _⟩
theorem seq_reads {s : ByteArray} (n : Nat) (ihL : ReadEL s n .seqL .seqL) : ReadE s (n + 1) .seq .seq false := by
  intro st j e hs h hps _ hroom
  unfold rxM at h
  unfold readM
  exact ihL st.cls.length st ⟨true, e4, e4⟩ .eps j e hs (Glu.eps hs.cok hs.fok hs.len) h hps hroom
theorem altL_reads {s : ByteArray} (hz : s.size ≤ 900) (n : Nat) (ih : ReadE s n .seq .seq false) (ihL : ReadEL s n .altL .altL) : ReadEL s (n + 1) .altL .altL := by
  intro m st out e0 j e hs hg h hps hroom
  unfold rxM at h
  unfold readM
  rw [if_neg (show ¬ 990 < st.pos by omega)]
  split at h
  · rename_i hq
    cases ha : rxM s n .seq (st.pos + 1) with
    | none => rw [ha] at h; cases h
    | some a =>
      rw [ha] at h
      simp only [Option.bind_some] at h
      have p1 := rx_pos s n .seq (st.pos + 1) a ha hq.1
      have p2 := p1.1
      have p3 := p1.2 trivial
      have p4 := (rx_pos s n (.altL (.alt e0 a.2)) a.1 (j, e) h p3).1
      simp only at p2 p4
      obtain ⟨r, k1, k2, k3⟩ := ih (pos1 st) a.1 a.2 (pos_ok hs) ha (show st.pos + 1 ≤ s.size from hq.1) (fun k => by cases k) (show st.cls.length + (a.1 - (st.pos + 1)) ≤ 256 by omega)
      have k3' : r.1.cls.length ≤ st.cls.length + (a.1 - (st.pos + 1)) := k3
      obtain ⟨e1, q1, q2, q3, q4⟩ := (read_rx s n).2.2.1 (pos1 st) r (pos_ok hs) k1
      have q1' : rxM s n .seq (st.pos + 1) = some (r.1.pos, e1) := q1
      rw [ha] at q1'
      injection q1' with q1'
      have he : a.2 = e1 := by rw [q1']
      subst he
      rw [if_pos ⟨(more_good hs.good).2 hq.1, hq.2⟩, k1]
      simp only [Option.bind_some]
      have hg2 := Glu.alt (hg.move (st' := pos1 st) rfl rfl) q4 q3
      obtain ⟨r', w1, w2, w3⟩ := ihL m r.1 _ (.alt e0 a.2) j e q2 hg2 (by rw [k2]; exact h) (by omega) (by omega)
      exact ⟨r', w1, w2, by omega⟩
  · rename_i hq
    injection h with h
    injection h with h1 _
    rw [if_neg (by rintro ⟨x, y⟩; exact hq ⟨(more_good hs.good).1 x, y⟩)]
    exact ⟨_, rfl, h1, Nat.le_add_right _ _⟩
theorem alt_reads {s : ByteArray} (n : Nat) (ih : ReadE s n .seq .seq false) (ihL : ReadEL s n .altL .altL) : ReadE s (n + 1) .alt .alt false := by
  intro st j e hs h hps _ hroom
  unfold rxM at h
  unfold readM
  cases ha : rxM s n .seq st.pos with
  | none => rw [ha] at h; cases h
  | some a =>
    rw [ha] at h
    simp only [Option.bind_some] at h
    have p1 := rx_pos s n .seq st.pos a ha hps
    have p2 := p1.1
    have p3 := p1.2 trivial
    have p4 := (rx_pos s n (.altL a.2) a.1 (j, e) h p3).1
    simp only at p2 p4
    obtain ⟨r, k1, k2, k3⟩ := ih st a.1 a.2 hs ha hps (fun k => by cases k) (by omega)
    obtain ⟨e1, q1, q2, q3, q4⟩ := (read_rx s n).2.2.1 st r hs k1
    rw [ha] at q1
    injection q1 with q1
    have he : a.2 = e1 := by rw [q1]
    subst he
    rw [k1]
    simp only [Option.bind_some]
    obtain ⟨r', w1, w2, w3⟩ := ihL st.cls.length r.1 r.2 a.2 j e q2 q4 (by rw [k2]; exact h) (by omega) (by omega)
    exact ⟨r', w1, w2, by omega⟩
theorem rx_reads {s : ByteArray} (hz : s.size ≤ 900) : ∀ n, ReadE s n .alt .alt false ∧ ReadEL s n .altL .altL ∧ ReadE s n .seq .seq false ∧ ReadEL s n .seqL .seqL ∧ ReadE s n .item .item true ∧ ReadE s n .atom .atom true
  | 0 => by
    refine ⟨?_, ?_, ?_, ?_, ?_, ?_⟩
    · intro _ _ _ _ h; cases h
    · intro _ _ _ _ _ _ _ _ h; cases h
    · intro _ _ _ _ h; cases h
    · intro _ _ _ _ _ _ _ _ h; cases h
    · intro _ _ _ _ h; cases h
    · intro _ _ _ _ h; cases h
  | n + 1 => by
    obtain ⟨i1, i2, i3, i4, i5, i6⟩ := rx_reads hz n
    exact ⟨alt_reads n i3 i2, altL_reads hz n i3 i2, seq_reads n i4, seqL_reads n i5 i4, item_reads hz n i6, atom_reads hz n i1⟩
/-- A text that spells an expression, and is not too long, is parsed. -/
theorem parsed_of {s : ByteArray} (hz : s.size ≤ 200) {n : Nat} {e : Rx} (h : rxM s n .alt 0 = some (s.size, e)) : ∃ cls fol x, ParsedTo s cls fol x := by
  obtain ⟨r, k1, k2, _⟩ := (rx_reads (s := s) (by omega) n).1 st0 s.size e st0_ok h (Nat.zero_le _) (fun k => by cases k) (by show 1 + (s.size - 0) ≤ 256; omega)
  have hb := ((read_rx s n).1 st0 r st0_ok k1).choose_spec.2.1.good
  exact ⟨r.1.cls, r.1.fol.set 0 r.2.fst, r.2, n, r.1, k1, hb, by rw [k2]; exact Nat.le_refl _, rfl, rfl, hz⟩

end Go.Proofs.Ytebcflgdjbjkoaa
/- The expression that a text spells ahead of its end, whatever stands behind it. No program; no condition beyond those that stand there. -/
namespace Go.Proofs.Ytebcflgdjbjkoaa
open Go.RowKit

/-- t goes on behind s. -/
structure Pre0 (s t : ByteArray) : Prop where
  lt : s.size ≤ t.size
  same : ∀ p, p < s.size → peekM t p = peekM s p
/-- An atom's end is not ahead of its beginning. -/
theorem atom_ge (s : ByteArray) : ∀ (n : Nat) (p : Nat) (r : Nat × Rx), rxM s n .atom p = some r → p ≤ s.size → p ≤ r.1
  | 0, _, _, h, _ => by cases h
  | n + 1, p, r, h, hps => by
    rcases Nat.lt_or_ge p s.size with k | k
    · exact Nat.le_of_lt ((rx_pos s (n + 1) .atom p r h hps).1 k)
    · unfold rxM at h
      rw [peek_out s p k] at h
      simp [quoted] at h
      rw [← h]
      show p ≤ p + 1
      omega
theorem single_pre0 {s t : ByteArray} (hp : Pre0 s t) {st : PSt} {r : PSt × Nat} (h : singleM s st = some r) : singleM t st = some r := by
  have hlt := hp.lt
  obtain ⟨h1, h2, ⟨h3, h4, h5⟩, h6⟩ := single_ways h
  unfold singleM
  rw [if_pos ⟨by omega, h2⟩, hp.same _ h1, if_neg (by rintro (a | a | a) <;> contradiction)]
  rcases h6 with ⟨k1, k2, k3, rfl⟩ | ⟨k1, rfl⟩
  · rw [if_pos k1, if_pos ⟨by omega, k3⟩, hp.same _ k2]
  · rw [if_neg k1]
theorem more_pre0 {s t : ByteArray} (hp : Pre0 s t) {st : PSt} (h : moreM s st = true) : moreM t st = true ∧ st.pos < s.size := by
  have hlt := hp.lt
  unfold moreM at h ⊢
  rw [Bool.and_eq_true, decide_eq_true_iff] at h ⊢
  exact ⟨⟨h.1, by omega⟩, h.2⟩
theorem cls_pre0 {s t : ByteArray} (hp : Pre0 s t) : ∀ {n : Nat} {st : PSt} {k : Set4} {r : PSt × Set4}, clsM s n st k = some r → st.bad = false → r.1.pos < s.size → clsM t n st k = some r
  | 0, _, _, _, h, _, _ => by cases h
  | n + 1, st, k, r, h, hb, hr => by
    obtain ⟨m, hm, h1 | h1 | ⟨hmo, h93, a, ha, b, hba, hb256, hn, hw⟩⟩ := cls_ways h
    · have := more_out hb h1.1
      rw [h1.2] at hr
      have : st.pos < s.size := hr
      omega
    · obtain ⟨k1, k2⟩ := more_pre0 hp h1.1
      unfold clsM
      rw [if_neg (by rintro ⟨_, k3⟩; exact k3 ((hp.same _ k2).trans h1.2.1)), h1.2.2]
    · have : m = n := by omega
      subst this
      obtain ⟨k1, k2⟩ := more_pre0 hp hmo
      have hab := (single_st ha).2.2.1.trans hb
      have e2 := cls_pos hn
      unfold clsM
      rw [if_pos ⟨k1, by rw [hp.same _ k2]; exact h93⟩, single_pre0 hp ha]
      simp only [Option.bind_some]
      have hnot : ¬ b.2 < a.2 := by omega
      rcases hw with ⟨m1, m2, m3, m4⟩ | ⟨m1, rfl⟩ | ⟨m1, m2, rfl⟩
      · obtain ⟨k3, k4⟩ := more_pre0 hp m1
        rw [if_pos ⟨k3, by rw [hp.same _ k4]; exact m2⟩, if_pos m3, single_pre0 hp m4]
        simp only [Option.bind_some]
        rw [if_neg hnot]
        exact cls_pre0 hp hn ((single_st m4).2.2.1.trans hab) hr
      · have := more_out hab m1
        omega
      · obtain ⟨k3, k4⟩ := more_pre0 hp m1
        rw [if_neg (by rintro ⟨_, k5⟩; rw [hp.same _ k4] at k5; exact m2 k5)]
        simp only [Option.bind_some]
        rw [if_neg (Nat.lt_irrefl _)]
        exact cls_pre0 hp hn hab hr
theorem bytes_pre0 {s t : ByteArray} (hp : Pre0 s t) {st : PSt} {r : PSt × Set4} (h : bytesM s (s.size + 1) st = some r) : bytesM t (t.size + 1) st = some r := by
  have hlt := hp.lt
  obtain ⟨hb, hp9, hw⟩ := bytes_ways h
  have hnot : ¬ (st.bad = true ∨ 990 < st.pos) := by
    rintro (a | a)
    · rw [hb] at a; cases a
    · omega
  unfold bytesM
  rw [if_neg hnot]
  rcases hw with ⟨h94, r0, hc, h1, h2, h3, rfl⟩ | ⟨h94, r0, hc, h1, h2, h3, rfl⟩
  · have hps : st.pos < s.size := by
      rcases Nat.lt_or_ge st.pos s.size with k | k
      · exact k
      · rw [peek_out s st.pos k] at h94; cases h94
    have e : peekM t st.pos = 94 := (hp.same _ hps).trans h94
    simp only [e, if_true]
    rw [cls_mono (show s.size + 1 ≤ t.size + 1 by omega) (cls_pre0 hp hc hb h1)]
    simp only [Option.bind_some]
    rw [if_pos ⟨by omega, h2, h3⟩]
  · have hps : st.pos < s.size := Nat.lt_of_le_of_lt (cls_pos hc) h1
    have e : peekM t st.pos ≠ 94 := by rw [hp.same _ hps]; exact h94
    simp only [e, if_false]
    rw [cls_mono (show s.size + 1 ≤ t.size + 1 by omega) (cls_pre0 hp hc hb h1)]
    simp only [Option.bind_some]
    rw [if_pos ⟨by omega, h2, h3⟩]
/-- What s spells ahead of its end, t spells too. -/
theorem rx_pre0 {s t : ByteArray} (hp : Pre0 s t) : ∀ (n : Nat) (md : Rq) (p : Nat) (r : Nat × Rx), rxM s n md p = some r → p ≤ s.size →
    (match md with | .atom => p < s.size | _ => r.1 < s.size) → rxM t n md p = some r
  | 0, _, _, _, h, _, _ => by cases h
  | n + 1, .alt, p, r, h, hps, hr => by
    unfold rxM at h ⊢
    cases ha : rxM s n .seq p with
    | none => rw [ha] at h; cases h
    | some a =>
      rw [ha] at h
      have k1 := (rx_pos s n .seq p a ha hps).2 trivial
      have k2 := (rx_pos s n (.altL a.2) a.1 r h k1).1
      have hr2 : r.1 < s.size := hr
      simp only at k2
      rw [rx_pre0 hp n .seq p a ha hps (show a.1 < s.size by omega)]
      exact rx_pre0 hp n (.altL a.2) a.1 r h k1 hr
  | n + 1, .altL e, p, r, h, hps, hr => by
    have hlt := hp.lt
    unfold rxM at h ⊢
    split at h
    · rename_i hq
      rw [if_pos ⟨by omega, (hp.same _ hq.1).trans hq.2⟩]
      cases ha : rxM s n .seq (p + 1) with
      | none => rw [ha] at h; cases h
      | some a =>
        rw [ha] at h
        have k1 := (rx_pos s n .seq (p + 1) a ha hq.1).2 trivial
        have k2 := (rx_pos s n (.altL (.alt e a.2)) a.1 r h k1).1
        have hr2 : r.1 < s.size := hr
        simp only at k2
        rw [rx_pre0 hp n .seq (p + 1) a ha hq.1 (show a.1 < s.size by omega)]
        exact rx_pre0 hp n (.altL (.alt e a.2)) a.1 r h k1 hr
    · rename_i hq
      injection h with h
      subst h
      have hr2 : p < s.size := hr
      rw [if_neg (by rintro ⟨_, k⟩; exact hq ⟨hr2, by rw [← hp.same _ hr2]; exact k⟩)]
  | n + 1, .seq, p, r, h, hps, hr => by
    unfold rxM at h ⊢
    exact rx_pre0 hp n (.seqL .eps) p r h hps hr
  | n + 1, .seqL e, p, r, h, hps, hr => by
    have hlt := hp.lt
    unfold rxM at h ⊢
    split at h
    · rename_i hq
      rw [if_pos ⟨by omega, by rw [hp.same _ hq.1]; exact hq.2⟩]
      cases ha : rxM s n .item p with
      | none => rw [ha] at h; cases h
      | some a =>
        rw [ha] at h
        have k1 := (rx_pos s n .item p a ha hps).2 hq.1
        have k2 := (rx_pos s n (.seqL (.seq e a.2)) a.1 r h k1).1
        have hr2 : r.1 < s.size := hr
        simp only at k2
        rw [rx_pre0 hp n .item p a ha hps (show a.1 < s.size by omega)]
        exact rx_pre0 hp n (.seqL (.seq e a.2)) a.1 r h k1 hr
    · rename_i hq
      injection h with h
      subst h
      have hr2 : p < s.size := hr
      rw [if_neg (by rintro ⟨_, k1, k2⟩; rw [hp.same _ hr2] at k1 k2; exact hq ⟨hr2, k1, k2⟩)]
  | n + 1, .item, p, r, h, hps, hr => by
    have hlt := hp.lt
    have hr2 : r.1 < s.size := hr
    unfold rxM at h ⊢
    cases ha : rxM s n .atom p with
    | none => rw [ha] at h; cases h
    | some a =>
      rw [ha] at h
      have haj : a.1 ≤ r.1 := by
        simp only [Option.bind_some] at h
        split at h
        · injection h with h; subst h; show a.1 ≤ a.1 + 1; omega
        · injection h with h; rw [h]; exact Nat.le_refl _
      have hl : p < s.size := by
        rcases Nat.lt_or_ge p s.size with k | k
        · exact k
        · have : p = s.size := by omega
          subst this
          exfalso
          exact absurd (atom_ge s n _ _ ha (Nat.le_refl _)) (by omega)
      rw [rx_pre0 hp n .atom p a ha hps hl]
      simp only [Option.bind_some] at h ⊢
      rw [hp.same _ (show a.1 < s.size by omega)]
      split at h
      · rename_i hq
        rw [if_pos ⟨by omega, hq.2⟩]
        exact h
      · rename_i hq
        rw [if_neg (by rintro ⟨_, k2⟩; exact hq ⟨by omega, k2⟩)]
        exact h
  | n + 1, .atom, p, r, h, hps, hl => by
    have hlt := hp.lt
    have hl' : p < s.size := hl
    unfold rxM at h ⊢
    rw [hp.same _ hl']
    split at h
    · rename_i hq
      rw [if_pos hq]
      cases ha : rxM s n .alt (p + 1) with
      | none => rw [ha] at h; cases h
      | some a =>
        rw [ha] at h
        simp only [Option.bind_some] at h
        split at h
        · rename_i hc
          rw [rx_pre0 hp n .alt (p + 1) a ha hl' hc.2]
          simp only [Option.bind_some]
          rw [hp.same _ hc.2, if_pos ⟨hc.1, by omega⟩]
          exact h
        · cases h
    rename_i hq
    rw [if_neg hq]
    split at h
    · rename_i hq
      rw [if_pos hq]
      exact h
    rename_i hq
    rw [if_neg hq]
    split at h
    · rename_i hq
      rw [if_pos hq]
      cases ha : bytesM s (s.size + 1) ⟨p + 1, [], [], false⟩ with
      | none => rw [ha] at h; cases h
      | some a =>
        rw [ha] at h
        rw [bytes_pre0 hp ha]
        exact h
    rename_i hq
    rw [if_neg hq]
    split at h
    · rename_i hq
      rw [if_pos hq]
      split at h
      · rename_i hc
        rw [if_pos (by omega), hp.same _ hc]
        exact h
      · cases h
    rename_i hq
    rw [if_neg hq]
    split at h
    · cases h
    · rename_i hq
      rw [if_neg hq]
      exact h


end Go.Proofs.Ytebcflgdjbjkoaa
/- A text made of atoms, each with a star, a plus, a question mark or nothing behind it, and bars, is parsed. No program; no condition beyond those that stand there. -/
namespace Go.Proofs.Ytebcflgdjbjkoaa
open Go.RowKit

def baL (l : List UInt8) : ByteArray := ⟨l.toArray⟩
theorem baL_size (l : List UInt8) : (baL l).size = l.length := by simp [baL, ByteArray.size]
theorem baL_peek (l : List UInt8) (p : Nat) : peekM (baL l) p = (l.getD p 0).toNat := rfl
/-- An atom in the middle of a text. -/
theorem atom_at {t : ByteArray} {d : Nat} {A post : List UInt8} (hd : t.data.toList.drop d = A ++ post) (hA : A ≠ []) (hz : t.size ≤ 900) {n : Nat} {e : Rx} (h : rxM (baL A) n .atom 0 = some (A.length, e)) :
    rxM t n .atom d = some (d + A.length, e) := by
  have hlen : t.data.toList.length = t.size := by simp
  have hAl : 0 < A.length := List.length_pos_iff.2 hA
  have hl : t.size - d = A.length + post.length := by
    have := congrArg List.length hd
    rw [List.length_drop, hlen, List.length_append] at this
    exact this
  have hp : Pre0 (baL A) (baL (A ++ post)) := by
    refine ⟨by rw [baL_size, baL_size, List.length_append]; omega, fun p hp => ?_⟩
    rw [baL_size] at hp
    rw [baL_peek, baL_peek, List.getD_eq_getElem?_getD, List.getElem?_append_left hp, ← List.getD_eq_getElem?_getD]
  have hs : Suf d (baL (A ++ post)) t := by
    refine ⟨by rw [baL_size, List.length_append]; omega, fun p => ?_, hz⟩
    rw [baL_peek, ← hd]
    unfold peekM
    rw [List.getD_eq_getElem?_getD, List.getD_eq_getElem?_getD, List.getElem?_drop, Nat.add_comm d p]
  have h1 := rx_pre0 hp n .atom 0 _ h (Nat.zero_le _) (by show 0 < (baL A).size; rw [baL_size]; exact hAl)
  have h2 := rx_sh hs n _ _ _ h1
  rw [Nat.zero_add] at h2
  rw [h2, Nat.add_comm]
/-- A piece of a pattern: an atom's letters, what stands behind it, a bar or none. -/
structure Piece where
  atom : List UInt8
  suf : Option UInt8
  bar : Bool
def Piece.text (x : Piece) : List UInt8 := x.atom ++ (x.suf.toList ++ if x.bar then [124] else [])
def pieces : List Piece → List UInt8
  | [] => []
  | x :: l => x.text ++ pieces l
/-- A piece as it should be. -/
structure Piece.ok (x : Piece) : Prop where
  ne : x.atom ≠ []
  read : ∃ n e, rxM (baL x.atom) n .atom 0 = some (x.atom.length, e)
  head : ∀ c r, x.atom = c :: r → c.toNat ∉ [124, 41, 42, 43, 63]
  suf : ∀ c, x.suf = some c → c.toNat = 42 ∨ c.toNat = 43 ∨ c.toNat = 63
theorem peek_drop {t : ByteArray} {d : Nat} {c : UInt8} {r : List UInt8} (hd : t.data.toList.drop d = c :: r) : peekM t d = c.toNat ∧ d < t.size ∧ t.data.toList.drop (d + 1) = r := by
  have h1 : t.data.toList[d]? = some c := by
    have := congrArg (fun l => l[0]?) hd
    simpa using this
  have hl := (List.getElem?_eq_some_iff.1 h1).1
  refine ⟨?_, by simpa using hl, ?_⟩
  · unfold peekM
    simp [List.getD, h1]
  · have := congrArg (fun l => l.drop 1) hd
    simpa [List.drop_drop] using this
theorem drop_nil {t : ByteArray} {d : Nat} (hd : t.data.toList.drop d = []) : t.size ≤ d := by
  have := List.drop_eq_nil_iff.1 hd
  simpa using this
/-- What stands behind pieces' beginnings is no star, plus or question mark. -/
theorem pieces_head {l : List Piece} (h : ∀ x ∈ l, x.ok) {c : UInt8} {r : List UInt8} (hl : pieces l = c :: r) : c.toNat ∉ [124, 41, 42, 43, 63] := by
  cases l with
  | nil => cases hl
  | cons x l =>
    have hx := h x (by simp)
    cases ha : x.atom with
    | nil => exact absurd ha hx.ne
    | cons c' r' =>
      have : c' = c := by
        simp only [pieces, Piece.text, ha, List.cons_append] at hl
        injection hl
      subst this
      exact hx.head c' r' ha
/-- One item in the middle of a text. -/
theorem item_at {t : ByteArray} (hz : t.size ≤ 900) {d : Nat} {x : Piece} (hx : x.ok) {rest : List UInt8} (hd : t.data.toList.drop d = x.atom ++ (x.suf.toList ++ rest)) (hr : x.suf = none → ∀ c r, rest = c :: r → c.toNat ∉ [42, 43, 63]) :
    ∃ n e, rxM t n .item d = some (d + x.atom.length + x.suf.toList.length, e) := by
  obtain ⟨n, e, h⟩ := hx.read
  have ha := atom_at hd hx.ne hz h
  have hd2 : t.data.toList.drop (d + x.atom.length) = x.suf.toList ++ rest := by
    have := congrArg (fun l => l.drop x.atom.length) hd
    simpa [List.drop_drop] using this
  refine ⟨n + 1, ?_⟩
  cases hsf : x.suf with
  | none =>
    rw [hsf] at hd2
    refine ⟨e, ?_⟩
    unfold rxM
    rw [ha]
    simp only [Option.bind_some]
    rw [if_neg ?_]
    · simp
    · rintro ⟨h1, h2⟩
      cases hrest : rest with
      | nil =>
        rw [hrest] at hd2
        have := drop_nil hd2
        omega
      | cons c r =>
        rw [hrest] at hd2
        have hp := (peek_drop hd2).1
        have hn := hr hsf c r hrest
        rw [hp] at h2
        simp only [List.mem_cons, List.not_mem_nil, or_false, not_or] at hn
        rcases h2 with k | k | k
        · exact hn.1 k
        · exact hn.2.1 k
        · exact hn.2.2 k
  | some c =>
    rw [hsf] at hd2
    have hp := peek_drop (show t.data.toList.drop (d + x.atom.length) = c :: rest from hd2)
    refine ⟨if peekM t (d + x.atom.length) = 63 then .opt e else if peekM t (d + x.atom.length) = 42 then .opt (.plus e) else .plus e, ?_⟩
    · unfold rxM
      rw [ha]
      simp only [Option.bind_some]
      rw [if_pos ⟨hp.2.1, by rw [hp.1]; exact hx.suf c hsf⟩]
      rfl
/-- Pieces are spelt, up to the end. -/
theorem pieces_at {t : ByteArray} (hz : t.size ≤ 900) : ∀ (l : List Piece), (∀ x ∈ l, x.ok) → ∀ (d : Nat), t.data.toList.drop d = pieces l → d ≤ t.size →
    ∀ e0, ∃ n j e1, rxM t n (.seqL e0) d = some (j, e1) ∧ ∀ a, ∃ m e2, rxM t m (.altL a) j = some (t.size, e2)
  | [], _, d, hd, hdt, e0 => by
    have hdz := drop_nil (show t.data.toList.drop d = [] from hd)
    have hde : d = t.size := by omega
    refine ⟨1, d, e0, ?_, fun a => ⟨1, a, ?_⟩⟩
    · unfold rxM
      rw [if_neg (by rintro ⟨h, _⟩; omega)]
    · unfold rxM
      rw [if_neg (by rintro ⟨h, _⟩; omega), hde]
  | x :: l, hok, d, hd, hdt, e0 => by
    have hx := hok x (by simp)
    have hl : ∀ y ∈ l, y.ok := fun y hy => hok y (by simp [hy])
    have hd1 : t.data.toList.drop d = x.atom ++ (x.suf.toList ++ ((if x.bar then [124] else []) ++ pieces l)) := by
      rw [hd]
      simp only [pieces, Piece.text, List.append_assoc]
    obtain ⟨n1, e1, h1⟩ := item_at hz hx hd1 (fun _ c r hc => by
      cases hb : x.bar with
      | true =>
        rw [hb] at hc
        simp only [if_true, List.cons_append, List.nil_append] at hc
        injection hc with hc _
        rw [← hc]
        decide
      | false =>
        rw [hb] at hc
        have := pieces_head hl (show pieces l = c :: r by simpa using hc)
        simp only [List.mem_cons, List.not_mem_nil, or_false, not_or] at this ⊢
        exact ⟨this.2.2.1, this.2.2.2.1, this.2.2.2.2⟩)
    have hfirst : d < t.size ∧ peekM t d ≠ 124 ∧ peekM t d ≠ 41 := by
      cases ha : x.atom with
      | nil => exact absurd ha hx.ne
      | cons c r =>
        rw [ha] at hd1
        have hp := peek_drop (show t.data.toList.drop d = c :: (r ++ _) from hd1)
        have hh := hx.head c r ha
        simp only [List.mem_cons, List.not_mem_nil, or_false, not_or] at hh
        exact ⟨hp.2.1, by rw [hp.1]; exact hh.1, by rw [hp.1]; exact hh.2.1⟩
    have hd2 : t.data.toList.drop (d + x.atom.length + x.suf.toList.length) = (if x.bar then [124] else []) ++ pieces l := by
      have := congrArg (fun l => l.drop (x.atom.length + x.suf.toList.length)) hd1
      simp only [List.drop_drop] at this
      rw [show d + x.atom.length + x.suf.toList.length = d + (x.atom.length + x.suf.toList.length) by omega, this, ← List.append_assoc, List.drop_left' (by simp)]
    have hd2t : d + x.atom.length + x.suf.toList.length ≤ t.size := by
      have := congrArg List.length hd1
      have hlen : t.data.toList.length = t.size := by simp
      simp only [List.length_drop, hlen, List.length_append] at this
      omega
    cases hb : x.bar with
    | false =>
      rw [hb] at hd2
      obtain ⟨n2, j, e2, h2, h3⟩ := pieces_at hz l hl _ (by simpa using hd2) hd2t (.seq e0 e1)
      refine ⟨n1 + n2 + 1, j, e2, ?_, h3⟩
      unfold rxM
      rw [if_pos hfirst, rx_mono t (show n1 ≤ n1 + n2 by omega) h1]
      exact rx_mono t (show n2 ≤ n1 + n2 by omega) h2
    | true =>
      rw [hb] at hd2
      have hp := peek_drop (show t.data.toList.drop (d + x.atom.length + x.suf.toList.length) = 124 :: pieces l from hd2)
      have hp124 : peekM t (d + x.atom.length + x.suf.toList.length) = 124 := hp.1
      obtain ⟨n2, j, e2, h2, h3⟩ := pieces_at hz l hl (d + x.atom.length + x.suf.toList.length + 1) hp.2.2 hp.2.1 .eps
      refine ⟨n1 + 1 + 1, d + x.atom.length + x.suf.toList.length, .seq e0 e1, ?_, fun a => ?_⟩
      · unfold rxM
        rw [if_pos hfirst, rx_mono t (show n1 ≤ n1 + 1 by omega) h1]
        simp only [Option.bind_some]
        unfold rxM
        rw [if_neg (by rintro ⟨_, k, _⟩; exact k hp124)]
      · obtain ⟨m, e3, h4⟩ := h3 (.alt a e2)
        refine ⟨n2 + 1 + m + 1, e3, ?_⟩
        unfold rxM
        rw [if_pos ⟨hp.2.1, hp124⟩]
        have hseq : rxM t (n2 + 1) .seq (d + x.atom.length + x.suf.toList.length + 1) = some (j, e2) := by
          unfold rxM
          exact h2
        rw [rx_mono t (show n2 + 1 ≤ n2 + 1 + m by omega) hseq]
        exact rx_mono t (show m ≤ n2 + 1 + m by omega) h4
/-- A text of pieces is parsed. -/
theorem pieces_parsed {l : List Piece} (h : ∀ x ∈ l, x.ok) {s : ByteArray} (hs : s.data.toList = pieces l) (hz : s.size ≤ 200) : ∃ cls fol x, ParsedTo s cls fol x := by
  obtain ⟨n, j, e1, h1, h2⟩ := pieces_at (t := s) (by omega) l h 0 (by simpa using hs) (Nat.zero_le _) .eps
  obtain ⟨m, e2, h3⟩ := h2 e1
  refine parsed_of hz (n := n + 1 + m + 1) (e := e2) ?_
  unfold rxM
  have hseq : rxM s (n + 1) .seq 0 = some (j, e1) := by
    unfold rxM
    exact h1
  rw [rx_mono s (show n + 1 ≤ n + 1 + m by omega) hseq]
  exact rx_mono s (show m ≤ n + 1 + m by omega) h3

end Go.Proofs.Ytebcflgdjbjkoaa
/- The pieces of clapkeep1's patterns. No program; no condition beyond those that stand there. -/
namespace Go.Proofs.Ytebcflgdjbjkoaa
open Go.RowKit

theorem piece_read {A : List UInt8} (n : Nat) (h : (rxM (baL A) n .atom 0).map (·.1) = some A.length) : ∃ n e, rxM (baL A) n .atom 0 = some (A.length, e) := by
  cases hr : rxM (baL A) n .atom 0 with
  | none => rw [hr] at h; cases h
  | some r =>
    rw [hr] at h
    have : r.1 = A.length := by simpa using h
    exact ⟨n, r.2, by rw [hr, ← this]⟩
/-- The ten atoms: a, b, [ab], (a|bc), (b?c), [^a], a point, (ab|b), a plus behind a backslash, (|c). -/
def atomsL : List (List UInt8) := [[97], [98], [91, 97, 98, 93], [40, 97, 124, 98, 99, 41], [40, 98, 63, 99, 41], [91, 94, 97, 93], [46], [40, 97, 98, 124, 98, 41], [92, 43], [40, 124, 99, 41]]
def sufsL : List (Option UInt8) := [none, none, some 42, some 43, some 63]
theorem patd_ok {x : Piece} (h1 : x.atom ∈ atomsL) (h2 : x.suf ∈ sufsL) : x.ok := by
  have hall : ∀ A ∈ atomsL, A ≠ [] ∧ (rxM (baL A) 20 .atom 0).map (·.1) = some A.length ∧ (A.headD 0).toNat ∉ [124, 41, 42, 43, 63] := by decide +kernel
  obtain ⟨k1, k2, k3⟩ := hall x.atom h1
  refine ⟨k1, piece_read 20 k2, fun c r hc => ?_, fun c hc => ?_⟩
  · rw [hc] at k3
    exact k3
  · have hs : ∀ s ∈ sufsL, ∀ c, s = some c → c.toNat = 42 ∨ c.toNat = 43 ∨ c.toNat = 63 := by
      intro s hs c hc
      subst hc
      simp only [sufsL, List.mem_cons, List.not_mem_nil, or_false, Option.some.injEq, reduceCtorEq, false_or] at hs
      rcases hs with rfl | rfl | rfl
      · exact Or.inl rfl
      · exact Or.inr (Or.inl rfl)
      · exact Or.inr (Or.inr rfl)
    exact hs x.suf h2 c hc

end Go.Proofs.Ytebcflgdjbjkoaa
