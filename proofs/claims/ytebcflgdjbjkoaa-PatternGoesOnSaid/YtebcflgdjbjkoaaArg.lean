/- A slice of whole numbers that came in: what is known of it; no condition. -/
import Derived.WalkKit
import Derived.OpenShut
import Derived.OneCell
namespace Go.Proofs.Ytebcflgdjbjkoaa
open Go.RowKit

/-- A slice's row: none, or its numbers up to the capacity. -/
def IsRow (k : IntKind) (w : World) (a : Option Addr) (len cap : Nat) (zs : List Int) : Prop :=
  (a = none ∧ len = 0 ∧ cap = 0 ∧ zs = []) ∨
  ∃ x, a = some x ∧ len ≤ cap ∧ cap ≤ maxLen ∧ zs.length = cap ∧ (∀ i, i < zs.length → w.cell? (x.add i) = some (.int k (zs.getD i 0))) ∧ ∀ n ∈ zs, (Lit.int k n).wf = true

theorem cell_lt {w : World} {b o : Nat} {v : Value} (h : w.cell? ⟨b, o, none⟩ = some v) : b < w.heap.size := by
  rcases Nat.lt_or_ge b w.heap.size with h' | h'
  · exact h'
  · simp [World.cell?, Array.getElem?_eq_none h'] at h

theorem IsRow.cases {k : IntKind} {w : World} {a : Option Addr} {len cap : Nat} {zs : List Int} (h : IsRow k w a len cap zs) :
    (len = 0 ∧ cap = 0) ∨ ∃ b off, a = some ⟨b, off, none⟩ ∧ len ≤ cap ∧ cap ≤ maxLen ∧ ∀ i, i < cap → b < w.heap.size ∧ w.cell? ⟨b, off + i, none⟩ = some (.int k (zs.getD i 0)) := by
  rcases h with ⟨_, rfl, rfl, _⟩ | ⟨x, rfl, hl, hm, hz, hc, _⟩
  · exact Or.inl ⟨rfl, rfl⟩
  · rcases Nat.eq_zero_or_pos cap with h0 | h0
    · exact Or.inl ⟨by omega, h0⟩
    · obtain ⟨b, off, rfl, h⟩ := ints_at hc (by omega)
      exact Or.inr ⟨b, off, rfl, hl, hm, fun i hi => ⟨cell_lt (h i (by omega)), h i (by omega)⟩⟩

end Go.Proofs.Ytebcflgdjbjkoaa
