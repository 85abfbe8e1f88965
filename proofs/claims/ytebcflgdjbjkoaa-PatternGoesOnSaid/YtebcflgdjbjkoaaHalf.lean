/- The machine that pattern.build makes: what holds of its rows; no condition beyond those that stand there. -/
import Derived.Deep.MidRow
import Derived.Carry
import Derived.Test.YtebcflgdjbjkoaaMach
namespace Go.Proofs.Ytebcflgdjbjkoaa
open Go.RowKit

/-- The sets to which bytes lead. -/
inductive Reach (cls fol : List Set4) : Set4 → Prop where
  | start : Reach cls fol (sadd e4 0)
  | step {s : Set4} (b : Nat) : b < 256 → Reach cls fol s → Reach cls fol (stepM cls fol s b)
/-- The first k rows of the machine are made. -/
structure Half (cls fol : List Set4) (x : Part) (sets : List Set4) (rows : List (List Nat)) (ends : List Bool) (k : Nat) : Prop where
  nodup : sets.Nodup
  first : sets[0]? = some (sadd e4 0)
  len : sets.length ≤ 400
  reach : ∀ s ∈ sets, Reach cls fol s
  rl : rows.length = k
  el : ends.length = k
  le : k ≤ sets.length
  rr : ∀ (i : Nat) (s : Set4) (r : List Nat), sets[i]? = some s → rows[i]? = some r → r.length = 256 ∧ ∀ (b n : Nat), r[b]? = some n → sets[n]? = some (stepM cls fol s b)
  re : ∀ (i : Nat) (s : Set4) (e : Bool), sets[i]? = some s → ends[i]? = some e → e = endsM x s
/-- The first b bytes of a row are done. -/
structure Inner (cls fol : List Set4) (sets st : List Set4) (s : Set4) (l : List Nat) (b : Nat) : Prop where
  ext : ∃ m, st = sets ++ m
  nodup : st.Nodup
  len : st.length ≤ 400
  reach : ∀ s ∈ st, Reach cls fol s
  ll : l.length = b
  ln : ∀ j n, l[j]? = some n → st[n]? = some (stepM cls fol s j)
theorem Inner.old {cls fol sets st : List Set4} {s : Set4} {l : List Nat} {b n : Nat} (h : Inner cls fol sets st s l b) (hn : st[n]? = some (stepM cls fol s b)) : Inner cls fol sets st s (l ++ [n]) (b + 1) := by
  refine ⟨h.ext, h.nodup, h.len, h.reach, by simp [h.ll], fun j m hm => ?_⟩
  rcases Nat.lt_or_ge j l.length with h1 | h1
  · rw [List.getElem?_append_left h1] at hm
    exact h.ln j m hm
  · rw [List.getElem?_append_right h1] at hm
    have h2 : j - l.length = 0 := by
      have := (List.getElem?_eq_some_iff.1 hm).1
      simp at this
      omega
    rw [h2] at hm
    have h3 : n = m := by simpa using hm
    have h4 : j = b := by rw [← h.ll]; omega
    rw [← h3, h4]
    exact hn
theorem Inner.new {cls fol sets st : List Set4} {s : Set4} {l : List Nat} {b : Nat} (h : Inner cls fol sets st s l b) (hn : stepM cls fol s b ∉ st) (hl : st.length < 400) (hr : Reach cls fol (stepM cls fol s b)) : Inner cls fol sets (st ++ [stepM cls fol s b]) s (l ++ [st.length]) (b + 1) := by
  obtain ⟨m, hm⟩ := h.ext
  have h2 : Inner cls fol sets (st ++ [stepM cls fol s b]) s l b := by
    refine ⟨⟨m ++ [stepM cls fol s b], by rw [hm, List.append_assoc]⟩, ?_, by simp; omega, ?_, h.ll, fun j n hj => ?_⟩
    · rw [List.nodup_append]
      refine ⟨h.nodup, by simp, fun a ha c hc => ?_⟩
      have : c = stepM cls fol s b := by simpa using hc
      rw [this]
      exact fun e => hn (e ▸ ha)
    · intro t ht
      rcases List.mem_append.1 ht with h5 | h5
      · exact h.reach t h5
      · have : t = stepM cls fol s b := by simpa using h5
        rw [this]; exact hr
    · have h6 := h.ln j n hj
      rw [List.getElem?_append_left (List.getElem?_eq_some_iff.1 h6).1]
      exact h6
  refine h2.old ?_
  simp
theorem Half.next {cls fol : List Set4} {x : Part} {sets st : List Set4} {rows : List (List Nat)} {ends : List Bool} {k : Nat} {t : Set4} {l : List Nat} (h : Half cls fol x sets rows ends k) (hi : Inner cls fol sets st t l 256) (ht : sets[k]? = some t) :
    Half cls fol x st (rows ++ [l]) (ends ++ [endsM x t]) (k + 1) := by
  obtain ⟨m, hm⟩ := hi.ext
  have hk := (List.getElem?_eq_some_iff.1 ht).1
  have hpre : ∀ i s, sets[i]? = some s → st[i]? = some s := fun i s hs => by
    rw [hm, List.getElem?_append_left (List.getElem?_eq_some_iff.1 hs).1]
    exact hs
  have hbk : ∀ i s, i ≤ k → st[i]? = some s → sets[i]? = some s := fun i s hi hs => by
    rw [hm, List.getElem?_append_left (by omega)] at hs
    exact hs
  refine ⟨hi.nodup, hpre 0 _ h.first, hi.len, hi.reach, by simp [h.rl], by simp [h.el], ?_, fun i s r hs hr => ?_, fun i s e hs hr => ?_⟩
  · rw [hm, List.length_append]; omega
  · rcases Nat.lt_or_ge i rows.length with h1 | h1
    · rw [List.getElem?_append_left h1] at hr
      have h2 := h.rr i s r (hbk i s (by rw [h.rl] at h1; omega) hs) hr
      exact ⟨h2.1, fun b n hb => hpre n _ (h2.2 b n hb)⟩
    · rw [List.getElem?_append_right h1] at hr
      have h2 : i - rows.length = 0 := by
        have := (List.getElem?_eq_some_iff.1 hr).1
        simp at this
        omega
      rw [h2] at hr
      have h3 : l = r := by simpa using hr
      have h4 : i = k := by rw [← h.rl]; omega
      rw [h4] at hs
      have h5 : t = s := by
        have := hbk k s (Nat.le_refl _) hs
        rw [ht] at this
        exact Option.some.inj this
      rw [← h3, ← h5]
      exact ⟨hi.ll, hi.ln⟩
  · rcases Nat.lt_or_ge i ends.length with h1 | h1
    · rw [List.getElem?_append_left h1] at hr
      exact h.re i s e (hbk i s (by rw [h.el] at h1; omega) hs) hr
    · rw [List.getElem?_append_right h1] at hr
      have h2 : i - ends.length = 0 := by
        have := (List.getElem?_eq_some_iff.1 hr).1
        simp at this
        omega
      rw [h2] at hr
      have h3 : endsM x t = e := by simpa using hr
      have h4 : i = k := by rw [← h.el]; omega
      rw [h4] at hs
      have h5 : t = s := by
        have := hbk k s (Nat.le_refl _) hs
        rw [ht] at this
        exact Option.some.inj this
      rw [← h3, ← h5]
theorem run_zeroV {T : TypeId} {v : Value} (h : (Try.prog.info? T).map (·.zero) = some (some v)) (w : World) : (zeroValue T).run Try.prog w = .ok v w := by
  cases hi : Try.prog.info? T with
  | none => rw [hi] at h; simp at h
  | some i =>
    rw [hi] at h
    have hz : i.zero = some v := by simpa using h
    simp [zeroValue, typeInfo, hi, hz]
/-- A machine lies in memory. -/
structure MachAt (B : Nat) (cls fol : List Set4) (x : Part) (sets : List Set4) (rows : List (List Nat)) (ends : List Bool) (nv ev : Value) (W : World) : Prop where
  half : Half cls fol x sets rows ends sets.length
  nrow : W.ownsRow B 62 256 nv rows.length (rowsC rows)
  erow : W.ownsRow B 4 1 ev ends.length (ends.map Value.bool)
theorem ownsRow_mono {w : World} {base base' : Nat} {e : TypeId} {size : Nat} {v : Value} {n : Nat} {xs : List Value} (h : w.ownsRow base e size v n xs) (hb : base' ≤ base) : w.ownsRow base' e size v n xs := by
  refine ⟨h.1, h.2.imp id ?_⟩
  rintro ⟨g, cap, cur, h1, h2, h3⟩
  exact ⟨g, cap, cur, h1, by omega, h3⟩
/-- More than 400 sets are reached. -/
def Large (cls fol : List Set4) : Prop := ∃ l : List Set4, l.Nodup ∧ 400 < l.length ∧ ∀ s ∈ l, Reach cls fol s
/-- What pattern.build does. -/
def BuildSaid : Prop := ∀ (s : ByteArray) (cls fol : List Set4) (x : Part) (w : World), ParsedTo s cls fol x →
    Calls Try.prog 23 #[.string s] w fun e w' => Below w.heap.size w w' ∧ ((e = .returned (.tuple #[.agg #[.slice none 0 0, .slice none 0 0], .int .i64 2]) ∧ Large cls fol) ∨
      ∃ nv ev sets rows ends, e = .returned (.tuple #[.agg #[nv, ev], .int .i64 0]) ∧ MachAt w.heap.size cls fol x sets rows ends nv ev w')
/-- Where a text leads. -/
def runM (cls fol : List Set4) (l : List UInt8) : Set4 := l.foldl (fun s c => stepM cls fol s c.toNat) (sadd e4 0)
theorem runM_app (cls fol : List Set4) (l : List UInt8) (c : UInt8) : runM cls fol (l ++ [c]) = stepM cls fol (runM cls fol l) c.toNat := by
  simp [runM, List.foldl_append]
theorem rowsC_len : ∀ (l : List (List Nat)), (∀ r ∈ l, r.length = 256) → (rowsC l).length = l.length * 256
  | [], _ => rfl
  | r :: l, h => by
    simp only [rowsC, List.length_append, List.length_map, List.length_cons, h r (by simp), rowsC_len l fun y hy => h y (by simp [hy])]
    omega
theorem rowsC_get : ∀ (l : List (List Nat)), (∀ r ∈ l, r.length = 256) → ∀ (i : Nat) (r : List Nat) (b n : Nat), l[i]? = some r → r[b]? = some n → (rowsC l)[i * 256 + b]? = some (.int .i16 (n : Nat))
  | [], _, i, r, b, n, hi, _ => by simp at hi
  | r0 :: l, h, 0, r, b, n, hi, hb => by
    have : r0 = r := by simpa using hi
    subst this
    rw [Nat.zero_mul, Nat.zero_add]
    simp only [rowsC]
    have hbl := (List.getElem?_eq_some_iff.1 hb).1
    rw [List.getElem?_append_left (by simpa using hbl)]
    simp [hb]
  | r0 :: l, h, i + 1, r, b, n, hi, hb => by
    have h0 : (r0.map fun n => Value.int .i16 (n : Nat)).length = 256 := by simpa using h r0 (by simp)
    simp only [rowsC]
    rw [List.getElem?_append_right (by omega), h0, show (i + 1) * 256 + b - 256 = i * 256 + b by omega]
    exact rowsC_get l (fun y hy => h y (by simp [hy])) i r b n (by simpa using hi) hb
theorem row_some {w : World} {base : Nat} {e : TypeId} {size : Nat} {v : Value} {n : Nat} {xs : List Value} (h : w.ownsRow base e size v n xs) (hn : 0 < n) : ∃ g c, v = .slice (some ⟨g, 0, none⟩) n c ∧ g < w.heap.size ∧ base ≤ g := by
  rcases h.2 with ⟨h1, h2⟩ | ⟨g, cap, cur, h1, h2, h3, h4, h5, _⟩
  · omega
  · exact ⟨g, cap, h1, lt_of_block h3, h2⟩
theorem MachAt.rpos {B : Nat} {cls fol : List Set4} {x : Part} {sets : List Set4} {rows : List (List Nat)} {ends : List Bool} {nv ev : Value} {W : World} (h : MachAt B cls fol x sets rows ends nv ev W) : 0 < rows.length := by
  rw [h.half.rl]
  exact (List.getElem?_eq_some_iff.1 h.half.first).1
theorem MachAt.epos {B : Nat} {cls fol : List Set4} {x : Part} {sets : List Set4} {rows : List (List Nat)} {ends : List Bool} {nv ev : Value} {W : World} (h : MachAt B cls fol x sets rows ends nv ev W) : 0 < ends.length := by
  rw [h.half.el]
  exact (List.getElem?_eq_some_iff.1 h.half.first).1
/-- What a machine says of one set and one byte. -/
theorem MachAt.step {B : Nat} {cls fol : List Set4} {x : Part} {sets : List Set4} {rows : List (List Nat)} {ends : List Bool} {nv ev : Value} {W : World} (h : MachAt B cls fol x sets rows ends nv ev W) {k b : Nat} {s : Set4} (hk : sets[k]? = some s) (hb : b < 256) :
    ∃ n, (rowsC rows)[k * 256 + b]? = some (.int .i16 (n : Nat)) ∧ sets[n]? = some (stepM cls fol s b) ∧ ∃ r, rows[k]? = some r ∧ r[b]? = some n := by
  have hkl := (List.getElem?_eq_some_iff.1 hk).1
  have hall : ∀ r ∈ rows, r.length = 256 := fun r hr => by
    obtain ⟨i, hi, rfl⟩ := List.getElem_of_mem hr
    have h1 : i < sets.length := by rw [← h.half.rl]; exact hi
    exact (h.half.rr i sets[i] rows[i] (by simp [h1]) (by simp [hi])).1
  have hkr : k < rows.length := by rw [h.half.rl]; exact hkl
  have hr : rows[k]? = some rows[k] := by simp [hkr]
  have h2 := h.half.rr k s rows[k] hk hr
  have hbl : b < rows[k].length := by rw [h2.1]; exact hb
  have hn : rows[k][b]? = some rows[k][b] := by simp [hbl]
  exact ⟨rows[k][b], rowsC_get rows hall k rows[k] b _ hr hn, h2.2 b _ hn, rows[k], hr, hn⟩
theorem MachAt.endAt {B : Nat} {cls fol : List Set4} {x : Part} {sets : List Set4} {rows : List (List Nat)} {ends : List Bool} {nv ev : Value} {W : World} (h : MachAt B cls fol x sets rows ends nv ev W) {k : Nat} {s : Set4} (hk : sets[k]? = some s) :
    (ends.map Value.bool)[k]? = some (.bool (endsM x s)) := by
  have hkl : k < ends.length := by rw [h.half.el]; exact (List.getElem?_eq_some_iff.1 hk).1
  have he : ends[k]? = some ends[k] := by simp [hkl]
  rw [List.getElem?_map, he, h.half.re k s ends[k] hk he]
  rfl

end Go.Proofs.Ytebcflgdjbjkoaa
