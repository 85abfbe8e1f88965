/- A slice of whole numbers that reads as a list; no condition. -/
import Derived.WalkKit
import Derived.OneCell
import Derived.Test.YtkcpnehhcpmdgaaBlk
namespace Go.Proofs.Ytkcpnehhcpmdgaa
open Go.RowKit

def SlK (k : IntKind) (w : World) (v : Value) (xs : List Int) : Prop :=
  (v = .slice none 0 0 ∧ xs = []) ∨ ∃ b off cap, v = .slice (some ⟨b, off, none⟩) xs.length cap ∧ xs.length ≤ cap ∧ cap ≤ 9223372036854775807 ∧ ∀ i, i < xs.length → b < w.heap.size ∧ w.cell? ⟨b, off + i, none⟩ = some (.int k (xs.getD i 0))
theorem SlK.below {k : IntKind} {w w' : World} {v : Value} {xs : List Int} (h : SlK k w v xs) (hb : Below w.heap.size w w') : SlK k w' v xs := by
  rcases h with h | ⟨b, off, cap, rfl, hc, hm, h⟩
  · exact Or.inl h
  · exact Or.inr ⟨b, off, cap, rfl, hc, hm, fun i hi => ⟨Nat.lt_of_lt_of_le (h i hi).1 hb.size, by rw [hb.cell (h i hi).1]; exact (h i hi).2⟩⟩
theorem SlK.of_owns {k : IntKind} {w : World} {base e : Nat} {v : Value} {xs : List Int} (h : w.ownsRow base e 1 v xs.length (xs.map (Value.int k))) : SlK k w v xs := by
  rcases h.2 with ⟨rfl, h0⟩ | ⟨g, cap, cur, rfl, hg, hh, r⟩
  · exact Or.inl ⟨rfl, List.eq_nil_of_length_eq_zero h0⟩
  · have hlt := lt_of_block hh
    refine Or.inr ⟨g, 0, cap, rfl, r.1, r.2.1, fun i hi => ⟨hlt, ?_⟩⟩
    rw [Nat.zero_add, h.cellAt i (by omega)]
    simp [List.getD, hi]
theorem SlK.slice {k : IntKind} {w : World} {v : Value} {xs : List Int} (h : SlK k w v xs) : ∃ p c, v = .slice p xs.length c := by
  rcases h with ⟨rfl, rfl⟩ | ⟨b, off, cap, rfl, _⟩
  · exact ⟨none, 0, rfl⟩
  · exact ⟨_, _, rfl⟩
theorem intsOf_getD (l : List Nat) (i : Nat) : (intsOf l).getD i 0 = ((l.getD i 0 : Nat) : Int) := by
  simp only [intsOf, List.getD, List.getElem?_map]
  cases l[i]? <;> rfl

end Go.Proofs.Ytkcpnehhcpmdgaa
