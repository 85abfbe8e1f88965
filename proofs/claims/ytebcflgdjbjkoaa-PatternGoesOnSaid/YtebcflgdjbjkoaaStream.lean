/- clapmake's stream of raw numbers; no condition beyond those that stand there. -/
import Derived.WalkKit
import Derived.WalkSpells
import Derived.WalkLawsBesides
import Derived.Deep.QuietTactic
import Derived.BigQuiet
import Derived.WalkSmall
import Derived.Handy
import Derived.Laws.Slices
import Derived.Test.YtebcflgdjbjkoaaRows
import Derived.Test.YtebcflgdjbjkoaaBelow
namespace Go.Proofs.Ytebcflgdjbjkoaa
open Go.RowKit

/-- All blocks below n but block s are as they were. -/
structure KeepS (n s : Nat) (w w' : World) : Prop where
  os : w'.os = w.os
  tape : w'.tape = w.tape
  output : w'.output = w.output
  size : w.heap.size ≤ w'.heap.size
  block : ∀ k, k < n → k ≠ s → w'.heap[k]? = w.heap[k]?
theorem KeepS.refl (n s : Nat) (w : World) : KeepS n s w w := ⟨rfl, rfl, rfl, Nat.le_refl _, fun _ _ _ => rfl⟩
theorem KeepS.trans {n s : Nat} {a b c : World} (h : KeepS n s a b) (k : KeepS n s b c) : KeepS n s a c :=
  ⟨k.os.trans h.os, k.tape.trans h.tape, k.output.trans h.output, Nat.le_trans h.size k.size, fun j h1 h2 => (k.block j h1 h2).trans (h.block j h1 h2)⟩
theorem KeepS.mono {n m s : Nat} {w w' : World} (h : KeepS n s w w') (hm : m ≤ n) : KeepS m s w w' := ⟨h.os, h.tape, h.output, h.size, fun k h1 h2 => h.block k (by omega) h2⟩
theorem KeepS.of_below {n s : Nat} {w w' : World} (h : Below n w w') : KeepS n s w w' := ⟨h.os, h.tape, h.output, h.size, fun k h1 _ => h.block k h1⟩
theorem KeepS.below {n s m : Nat} {w w' : World} (h : KeepS n s w w') (hm : m ≤ n) (hs : m ≤ s) : Below m w w' := ⟨h.os, h.tape, h.output, h.size, fun k h1 => h.block k (by omega) (by omega)⟩
/-- A row of raw numbers that lies below block B. -/
def RawAt (B : Nat) (w : World) (p : Option Addr) (len : Nat) : Prop :=
  len = 0 ∨ ∃ b off, p = some ⟨b, off, none⟩ ∧ b < B ∧ ∀ i, i < len → ∃ x, w.cell? ⟨b, off + i, none⟩ = some (.int .i64 x)
/-- Block s holds a stream. -/
def StAt (B s : Nat) (w : World) : Prop :=
  B ≤ s ∧ ∃ p len cap, w.heap[s]? = some (.cells #[.slice p len cap] 65 (0, 0)) ∧ len ≤ cap ∧ cap ≤ 9223372036854775807 ∧ RawAt B w p len
theorem RawAt.keep {B s : Nat} {w w' : World} {p : Option Addr} {len : Nat} (h : RawAt B w p len) (hs : B ≤ s) (hk : KeepS B s w w') : RawAt B w' p len := by
  rcases h with h | ⟨b, off, rfl, hb, hx⟩
  · exact Or.inl h
  · refine Or.inr ⟨b, off, rfl, hb, fun i hi => ?_⟩
    obtain ⟨x, hx⟩ := hx i hi
    exact ⟨x, by rw [World.cell?_of_block (hk.block b hb (by omega))]; exact hx⟩
theorem StAt.lt {B s : Nat} {w : World} (h : StAt B s w) : s < w.heap.size := by
  obtain ⟨_, p, len, cap, hh, _⟩ := h
  exact lt_of_block hh
/-- A stream lies where no block below is changed. -/
theorem StAt.below {B s n : Nat} {w w' : World} (h : StAt B s w) (hb : Below n w w') (hn : s < n) : StAt B s w' := by
  obtain ⟨hB, p, len, cap, hh, h1, h2, h3⟩ := h
  exact ⟨hB, p, len, cap, by rw [hb.block s hn]; exact hh, h1, h2, h3.keep hB (KeepS.of_below (hb.mono (by omega)))⟩
theorem run_drop1 {P : Program} (w : World) (t : TypeId) (ht : P.underlying t = some (.slice (P.elem t))) (hs : ∀ w, (sizeOf (P.elem t)).run P w = .ok 1 w) (b off len cap : Nat) (hn : 1 ≤ len) (hc : len ≤ cap) :
    ∃ p, (Instr.slice t (.slice (some ⟨b, off, none⟩) len cap) (some (.int .i64 1)) none none).run P w = .ok (.slice p (len - 1) (cap - 1)) w ∧ (2 ≤ len → p = some ⟨b, off + 1, none⟩) := by
  refine ⟨if cap = 1 then some ⟨b, off, none⟩ else some ⟨b, off + 1, none⟩, ?_, fun h => by rw [if_neg (by omega)]⟩
  rw [run_slice_l w t _ len cap ht .i64 1 (by omega) (by omega), hs]
  simp only [Result.andThen, sliced]
  congr 2

/-- What Next may return. -/
def NextOut (n x : Int) : Prop := 0 ≤ x ∧ (1 ≤ n → x < n) ∧ (n < 1 → x = 0)
theorem NextOut.zero (n : Int) : NextOut n 0 := ⟨Int.le_refl _, fun h => by omega, fun _ => rfl⟩

set_option maxRecDepth 100000 in
set_option maxHeartbeats 4000000 in
theorem next_any (B s : Nat) (n : Int) (hn : n ≤ 9223372036854775807) (w : World) (h : StAt B s w) :
    Calls Try.prog 24 #[.pointer (some ⟨s, 0, none⟩), .int .i64 n] w fun e w' => (∃ x : Int, e = .returned (.int .i64 x) ∧ NextOut n x) ∧ StAt B s w' ∧ KeepS w.heap.size s w w' ∧ w'.heap.size = w.heap.size := by
  have hst := h
  obtain ⟨hB, p, len, cap, hh, hlc, hcm, hraw⟩ := h
  have c0 : w.cell? ⟨s, 0, none⟩ = some (.slice p len cap) := by rw [Lib.cell_of_heap hh]; rfl
  have f0 : w.frozen? ⟨s, 0, none⟩ = false := Lib.frozen_of_heap hh 0
  by_cases h1 : n < 1
  · have d1 : decide (n < 1) = true := decide_eq_true h1
    have HS := Lib.hid hst
    clear hst hraw hh
    go_enter Try.func24, Try.ntmps24
    go_wp2_with fail
    go_ret
    exact ⟨⟨0, rfl, NextOut.zero n⟩, HS.out, KeepS.refl _ _ _, rfl⟩
  · have d1 : decide (n < 1) = false := decide_eq_false h1
    by_cases h2 : len = 0
    · subst h2
      have HS := Lib.hid hst
      clear hst hraw hh
      go_enter Try.func24, Try.ntmps24
      go_wp2_with fail
      go_ret
      exact ⟨⟨0, rfl, NextOut.zero n⟩, HS.out, KeepS.refl _ _ _, rfl⟩
    · rcases hraw with h0 | ⟨b, off, rfl, hb, hx⟩
      · exact absurd h0 h2
      obtain ⟨x, hx0⟩ := hx 0 (by omega)
      rw [Nat.add_zero] at hx0
      obtain ⟨q, hq, hq2⟩ := run_drop1 (P := Try.prog) w 30 Try.underlying30 (fun w => by kernel_rfl) b off len cap (by omega) hlc
      have d2 : (len == 0) = false := by rw [beq_eq_false_iff_ne]; exact h2
      have l1 : 0 < len := by omega
      have hres := below_any x n (by omega) (by omega)
      have hx1 := Int.emod_nonneg x (show n ≠ 0 by omega)
      have hx2 := Int.emod_lt_of_pos x (show 0 < n by omega)
      have HS := Lib.hid (And.intro hst (And.intro hx (And.intro hq2 (And.intro hh hB))))
      have HR := Lib.hid hres
      clear hst hx hq2 hres
      go_enter Try.func24, Try.ntmps24
      go_wp2_with fail
      refine (HR.out _).mono ?_; rintro e w2 ⟨rfl, rfl⟩
      go_wp2_with fail
      go_ret
      have hst := HS.out.1
      refine ⟨⟨_, rfl, hx1, fun _ => hx2, fun h => by omega⟩, ⟨HS.out.2.2.2.2, q, len - 1, cap - 1, ?_, by omega, by omega, ?_⟩, ⟨rfl, rfl, rfl, by simp, fun k _ hk => Below.heap_setCell _ _ _ _ hk⟩, by simp⟩
      · simp [World.setCell, Array.getElem?_modify, HS.out.2.2.2.1]
      · rcases (show len = 1 ∨ 2 ≤ len by omega) with h3 | h3
        · exact Or.inl (by omega)
        · refine Or.inr ⟨b, off + 1, HS.out.2.2.1 h3, hb, fun i hi => ?_⟩
          obtain ⟨y, hy⟩ := HS.out.2.1 (i + 1) (by omega)
          refine ⟨y, ?_⟩
          rw [World.cell?_of_block (Below.heap_setCell _ _ _ _ (show b ≠ s by have := HS.out.2.2.2.2; omega)), Nat.add_assoc, Nat.add_comm 1 i]
          exact hy

end Go.Proofs.Ytebcflgdjbjkoaa
