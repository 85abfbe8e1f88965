/- clapmake.scalar at floats; no condition beyond those that stand there. -/
import Derived.Test.YtkcpnehhcpmdgaaPick
namespace Go.Proofs.Ytkcpnehhcpmdgaa
open Go.RowKit

theorem heap_setS {w : World} {g : Nat} {cur : Array Value} {e : TypeId} {fr : Nat × Nat} (h : w.heap[g]? = some (.cells cur e fr)) (i : Nat) (v : Value) : (w.setCell ⟨g, i, none⟩ v).heap[g]? = some (.cells (cur.setIfInBounds i v) e fr) := by
  simp [World.setCell, Array.getElem?_modify, h]
theorem three1 (w : World) (a b c : Obj) : (((w.alloc a).alloc b).alloc c).heap[w.heap.size]? = some a := by
  show (((w.heap.push a).push b).push c)[w.heap.size]? = some a
  rw [Array.getElem?_push_lt (by simp <;> omega), Array.getElem_push_lt (by simp), Array.getElem_push_eq]
theorem three2 (w : World) (a b c : Obj) : (((w.alloc a).alloc b).alloc c).heap[w.heap.size + 1]? = some b := by
  show (((w.heap.push a).push b).push c)[w.heap.size + 1]? = some b
  simp [Array.getElem_push]
theorem three3 (w : World) (a b c : Obj) : (((w.alloc a).alloc b).alloc c).heap[w.heap.size + 1 + 1]? = some c := by
  show (((w.heap.push a).push b).push c)[w.heap.size + 1 + 1]? = some c
  simp [Array.getElem_push]
def floatBits : List Int := [0, 1, -1, 4607182418800017408, -4616189618054758400]
set_option maxRecDepth 100000 in
set_option maxHeartbeats 4000000 in
theorem scalar_float (B s : Nat) (w : World) (h : StAt B s w) :
    Calls Try.prog 53 #[.int .i64 3, .pointer (some ⟨s, 0, none⟩)] w fun e w' => (∃ x ∈ floatBits, e = .returned (.agg #[.int .i64 3, .int .i64 x, .string ByteArray.empty, .slice none 0 0])) ∧ StAt B s w' ∧ KeepS w.heap.size s w w' := by
  have hsl := h.lt
  have HS := Lib.hid h
  clear h
  go_enter Try.func53, Try.ntmps53
  go_wp2_with fail
  have hst := HS.out.below (((((Below.refl w.heap.size w).alloc (Nat.le_refl _) (.cells #[.int .i64 0, .int .i64 0, .string ⟨#[]⟩, .slice none 0 0] 25 (0, 0))).alloc (by simp) (.cells #[.int .i64 3, .int .i64 0, .string ⟨#[]⟩, .slice none 0 0] 25 (0, 0))).alloc (by simp <;> omega) (.cells #[.int .i64 0, .int .i64 1, .int .i64 (-1), .int .i64 4607182418800017408, .int .i64 (-4616189618054758400)] 3 (0, 0)))) hsl
  have hp := pick_int B s (w.heap.size + 1 + 1) floatBits (by decide) (by decide) _ hst (three3 w _ _ _)
  refine hp.mono ?_; rintro e w4 ⟨⟨x, hx, rfl⟩, hs4, k4⟩
  have e1 := (k4.block w.heap.size (by simp <;> omega) (by omega)).trans (three1 w _ _ _)
  have e2 := (k4.block (w.heap.size + 1) (by simp <;> omega) (by omega)).trans (three2 w _ _ _)
  have z4 := k4.size
  have c0 : w4.cell? ⟨w.heap.size + 1, 0, none⟩ = some (.int .i64 3) := by rw [Lib.cell_of_heap e2]; rfl
  have c2 : w4.cell? ⟨w.heap.size + 1, 2, none⟩ = some (.string ⟨#[]⟩) := by rw [Lib.cell_of_heap e2]; rfl
  have c3 : w4.cell? ⟨w.heap.size + 1, 3, none⟩ = some (.slice none 0 0) := by rw [Lib.cell_of_heap e2]; rfl
  have c1 : w4.cell? ⟨w.heap.size + 1, 1, none⟩ = some (.int .i64 0) := by rw [Lib.cell_of_heap e2]; rfl
  have f1 : w4.frozen? ⟨w.heap.size + 1, 1, none⟩ = false := Lib.frozen_of_heap e2 1
  have a0 : w4.cell? ⟨w.heap.size, 0, none⟩ = some (.int .i64 0) := by rw [Lib.cell_of_heap e1]; rfl
  have a1 : w4.cell? ⟨w.heap.size, 1, none⟩ = some (.int .i64 0) := by rw [Lib.cell_of_heap e1]; rfl
  have a2 : w4.cell? ⟨w.heap.size, 2, none⟩ = some (.string ⟨#[]⟩) := by rw [Lib.cell_of_heap e1]; rfl
  have a3 : w4.cell? ⟨w.heap.size, 3, none⟩ = some (.slice none 0 0) := by rw [Lib.cell_of_heap e1]; rfl
  have g0 : w4.frozen? ⟨w.heap.size, 0, none⟩ = false := Lib.frozen_of_heap e1 0
  have g1 : w4.frozen? ⟨w.heap.size, 1, none⟩ = false := Lib.frozen_of_heap e1 1
  have g2 : w4.frozen? ⟨w.heap.size, 2, none⟩ = false := Lib.frozen_of_heap e1 2
  have g3 : w4.frozen? ⟨w.heap.size, 3, none⟩ = false := Lib.frozen_of_heap e1 3
  have HK := Lib.hid (And.intro hs4 (And.intro k4 (And.intro hx (And.intro e1 e2))))
  clear hs4 k4 hx e1 e2 hp hst
  go_wp2_with fail
  have hb4 : ∀ u v1 v2 v3 v4 : Value, Below w.heap.size w4 (((((w4.setCell ⟨w.heap.size + 1, 1, none⟩ u).setCell ⟨w.heap.size, 0, none⟩ v1).setCell ⟨w.heap.size, 1, none⟩ v2).setCell ⟨w.heap.size, 2, none⟩ v3).setCell ⟨w.heap.size, 3, none⟩ v4) := fun u v1 v2 v3 v4 =>
    (((((Below.refl w.heap.size w4).setCell (p := ⟨w.heap.size + 1, 1, none⟩) (Nat.le_succ _) u).setCell (p := ⟨w.heap.size, 0, none⟩) (Nat.le_refl _) v1).setCell (p := ⟨w.heap.size, 1, none⟩) (Nat.le_refl _) v2).setCell (p := ⟨w.heap.size, 2, none⟩) (Nat.le_refl _) v3).setCell (p := ⟨w.heap.size, 3, none⟩) (Nat.le_refl _) v4
  have r1 : (w4.setCell ⟨w.heap.size + 1, 1, none⟩ (.int .i64 x)).heap[w.heap.size]? = _ := (Below.heap_setCell _ _ _ _ (show w.heap.size ≠ w.heap.size + 1 by omega)).trans HK.out.2.2.2.1
  have r2 := heap_setS (heap_setS (heap_setS (heap_setS r1 0 (.int .i64 3)) 1 (.int .i64 x)) 2 (.string ⟨#[]⟩)) 3 (.slice none 0 0)
  refine bodyPost_ret (results_cell_row rfl _ _ w.heap.size 25 #[.int .i64 3, .int .i64 x, .string ⟨#[]⟩, .slice none 0 0] (0, 0) _ rfl r2 Try.underlying25 rfl (by kernel_rfl)) rfl ?_
  refine ⟨⟨x, HK.out.2.2.1, rfl⟩, HK.out.1.below (hb4 _ _ _ _ _) hsl, ?_⟩
  refine KeepS.trans (KeepS.of_below ?_) (KeepS.trans (HK.out.2.1.mono (by simp <;> omega)) (KeepS.of_below (hb4 _ _ _ _ _)))
  exact (((Below.refl w.heap.size w).alloc (Nat.le_refl _) _).alloc (by simp) _).alloc (by simp <;> omega) _

end Go.Proofs.Ytkcpnehhcpmdgaa
