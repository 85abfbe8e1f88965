/- clapmake.pick at ints and strings; no condition beyond those that stand there. -/
import Derived.Test.YtkcpnehhcpmdgaaStream
namespace Go.Proofs.Ytkcpnehhcpmdgaa
open Go.RowKit

set_option maxRecDepth 100000 in
set_option maxHeartbeats 4000000 in
theorem pick_int (B s g : Nat) (xs : List Int) (h1 : 1 ≤ xs.length) (h2 : xs.length ≤ 100) (w : World) (h : StAt B s w) (hg : w.heap[g]? = some (.cells (xs.map (Value.int .i64)).toArray 3 (0, 0))) :
    Calls Try.prog 55 #[.pointer (some ⟨s, 0, none⟩), .slice (some ⟨g, 0, none⟩) xs.length xs.length] w fun e w' => (∃ x ∈ xs, e = .returned (.int .i64 x)) ∧ StAt B s w' ∧ KeepS w.heap.size s w w' := by
  have hgs : g ≠ s := by
    rintro rfl
    obtain ⟨_, p, len, cap, hh, _⟩ := h
    rw [hg] at hh
    simp at hh
  have hgl := lt_of_block hg
  have hnx := next_any B s xs.length (by omega) w h
  have HG := Lib.hid hg
  clear h hg
  go_enter Try.func55, Try.ntmps55
  go_wp2_with fail
  refine hnx.mono ?_; rintro e w1 ⟨⟨x, rfl, x0, x1, -⟩, hs1, k1, z1⟩
  have x1' := x1 (by omega)
  obtain ⟨i, rfl⟩ : ∃ i : Nat, x = i := ⟨x.toNat, by omega⟩
  have hi : i < xs.length := by omega
  have c0 : w1.cell? ⟨g, i, none⟩ = some (.int .i64 xs[i]) := by
    have e : w1.heap[g]? = _ := (k1.block g hgl hgs).trans HG.out
    rw [Lib.cell_of_heap e]
    simp [hi]
  have ti : (i : Int) < (xs.length : Int) := by omega
  have hni : ((i : Int)).toNat = i := by omega
  have hm := List.getElem_mem hi
  generalize xs[i] = v at c0 hm
  have HS := Lib.hid (And.intro hs1 k1)
  clear hs1 k1 x1
  go_wp2_with fail
  go_ret
  exact ⟨⟨v, hm, rfl⟩, HS.out.1, HS.out.2⟩
set_option maxRecDepth 100000 in
set_option maxHeartbeats 4000000 in
theorem pick_str (B s g : Nat) (xs : List ByteArray) (h1 : 1 ≤ xs.length) (h2 : xs.length ≤ 100) (w : World) (h : StAt B s w) (hg : w.heap[g]? = some (.cells (xs.map Value.string).toArray 9 (0, 0))) :
    Calls Try.prog 57 #[.pointer (some ⟨s, 0, none⟩), .slice (some ⟨g, 0, none⟩) xs.length xs.length] w fun e w' => (∃ x ∈ xs, e = .returned (.string x)) ∧ StAt B s w' ∧ KeepS w.heap.size s w w' := by
  have hgs : g ≠ s := by
    rintro rfl
    obtain ⟨_, p, len, cap, hh, _⟩ := h
    rw [hg] at hh
    simp at hh
  have hgl := lt_of_block hg
  have hnx := next_any B s xs.length (by omega) w h
  have HG := Lib.hid hg
  clear h hg
  go_enter Try.func57, Try.ntmps57
  go_wp2_with fail
  refine hnx.mono ?_; rintro e w1 ⟨⟨x, rfl, x0, x1, -⟩, hs1, k1, z1⟩
  have x1' := x1 (by omega)
  obtain ⟨i, rfl⟩ : ∃ i : Nat, x = i := ⟨x.toNat, by omega⟩
  have hi : i < xs.length := by omega
  have c0 : w1.cell? ⟨g, i, none⟩ = some (.string xs[i]) := by
    have e : w1.heap[g]? = _ := (k1.block g hgl hgs).trans HG.out
    rw [Lib.cell_of_heap e]
    simp [hi]
  have ti : (i : Int) < (xs.length : Int) := by omega
  have hni : ((i : Int)).toNat = i := by omega
  have hm := List.getElem_mem hi
  generalize xs[i] = v at c0 hm
  have HS := Lib.hid (And.intro hs1 k1)
  clear hs1 k1 x1
  go_wp2_with fail
  go_ret
  exact ⟨⟨v, hm, rfl⟩, HS.out.1, HS.out.2⟩

end Go.Proofs.Ytkcpnehhcpmdgaa
