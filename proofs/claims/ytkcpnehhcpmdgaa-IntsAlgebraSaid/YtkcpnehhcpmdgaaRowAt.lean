/- A slice of whole numbers that came in, with its bounds; a slice's beginning; no condition. -/
import Derived.Test.YtkcpnehhcpmdgaaArg
import Derived.Test.YtkcpnehhcpmdgaaRows
import Derived.Laws.Slices
namespace Go.Proofs.Ytkcpnehhcpmdgaa
open Go.RowKit

def RowAt (w : World) (p : Option Addr) (len cap : Nat) (xs : List Int) : Prop :=
  len = 0 ∨ ∃ b off, p = some ⟨b, off, none⟩ ∧ len ≤ cap ∧ cap ≤ maxLen ∧ ∀ i, i < cap → b < w.heap.size ∧ w.cell? ⟨b, off + i, none⟩ = some (.int .i64 (xs.getD i 0)) ∧ -9223372036854775808 ≤ xs.getD i 0 ∧ xs.getD i 0 < 9223372036854775808

theorem wf_bounds (x : Int) (h : (Lit.int IntKind.i64 x).wf = true) : -9223372036854775808 ≤ x ∧ x < 9223372036854775808 := by
  have m1 : IntKind.i64.min = -9223372036854775808 := by rfl
  simp [Lit.wf, m1] at h
  omega
theorem IsRow.at_ {w : World} {a : Option Addr} {len cap : Nat} {zs : List Int} (h : IsRow .i64 w a len cap zs) : RowAt w a len cap zs := by
  rcases h with ⟨_, rfl, rfl, _⟩ | ⟨x, rfl, hl, hm, hz, hc, hw⟩
  · exact Or.inl rfl
  · rcases Nat.eq_zero_or_pos cap with h0 | h0
    · exact Or.inl (by omega)
    · obtain ⟨b, off, rfl, h⟩ := ints_at hc (by omega)
      refine Or.inr ⟨b, off, rfl, hl, hm, fun i hi => ⟨cell_lt (h i (by omega)), h i (by omega), ?_⟩⟩
      have hmem : zs.getD i 0 ∈ zs := by
        have hlt : i < zs.length := by omega
        simp [List.getD, hlt]
      exact wf_bounds _ (hw _ hmem)

theorem RowAt.get {w : World} {p : Option Addr} {len cap : Nat} {xs : List Int} (h : RowAt w p len cap xs) {i : Nat} (hi : i < len) :
    ∃ b off, p = some ⟨b, off, none⟩ ∧ b < w.heap.size ∧ w.cell? ⟨b, off + i, none⟩ = some (.int .i64 (xs.getD i 0)) ∧ -9223372036854775808 ≤ xs.getD i 0 ∧ xs.getD i 0 < 9223372036854775808 := by
  rcases h with h0 | ⟨b, off, rfl, hl, _, h⟩
  · omega
  · exact ⟨b, off, rfl, h i (by omega)⟩
theorem IsRow.le {k : IntKind} {w : World} {a : Option Addr} {len cap : Nat} {zs : List Int} (h : IsRow k w a len cap zs) : len ≤ cap ∧ cap ≤ 9223372036854775807 := by
  rcases h with ⟨_, rfl, rfl, _⟩ | ⟨x, rfl, hl, hm, _⟩
  · exact ⟨Nat.le_refl _, by decide⟩
  · unfold maxLen at hm; exact ⟨hl, by omega⟩
/-- xs[:n] has the same address. -/
theorem run_take {P : Program} (w : World) (t : TypeId) (ht : P.underlying t = some (.slice (P.elem t))) {s : Nat} (hs : ∀ w, (sizeOf (P.elem t)).run P w = .ok s w) (p : Option Addr) (len cap n : Nat) (hn : n ≤ cap) :
    (Instr.slice t (.slice p len cap) none (some (.int .i64 n)) none).run P w = .ok (.slice p n cap) w := by
  rw [run_slice_h w t p len cap ht .i64 n (by omega) (by omega), hs]
  simp only [Result.andThen, sliced]
  congr 2
  have e : (if cap = 0 then p else p.map (·.add (0 * s))) = p := by
    split
    · rfl
    · cases p <;> simp [Addr.add]
  rw [e]

end Go.Proofs.Ytkcpnehhcpmdgaa
