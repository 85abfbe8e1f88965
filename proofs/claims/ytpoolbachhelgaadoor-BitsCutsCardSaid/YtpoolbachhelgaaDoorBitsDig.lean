/- Small facts on strings of bits in memory. -/
import Derived.Test.YtpoolbachhelgaaDoorBitsPut
namespace Go.Proofs.YtpoolbachhelgaaDoor
open Go.RowKit

def digitsOf (bs : List Nat) : List UInt8 := bs.map fun x => UInt8.ofNat (48 + x)
theorem row_below {w w' : World} {base size n : Nat} {e : TypeId} {v : Value} {xs : List Value} (h : w.ownsRow base e size v n xs) (hb : Below w.heap.size w w') : w'.ownsRow base e size v n xs := by
  obtain ⟨h1, h2⟩ := h
  refine ⟨h1, ?_⟩
  rcases h2 with h2 | ⟨g, cap, cur, hv, hg, hh, r⟩
  · exact Or.inl h2
  · exact Or.inr ⟨g, cap, cur, hv, hg, by rw [hb.block g (lt_of_block hh)]; exact hh, r⟩
theorem BitsAt.below {B g : Nat} {bs : List Nat} {w w' : World} (h : BitsAt B g bs w) (hb : Below w.heap.size w w') : BitsAt B g bs w' := by
  obtain ⟨h1, sv, h2, h3⟩ := h
  exact ⟨h1, sv, by rw [hb.block g (lt_of_block h2)]; exact h2, row_below h3 hb⟩
theorem bitsAt_new {B g : Nat} {w : World} (hB : B ≤ g) (h : w.heap[g]? = some (.cells #[.slice none 0 0, .int .i64 0] 34 (0, 0))) : BitsAt B g [] w :=
  ⟨hB, .slice none 0 0, h, by rw [show pack [] = [] from rfl]; exact World.ownsRow_nil _ _ _ _⟩

end Go.Proofs.YtpoolbachhelgaaDoor
