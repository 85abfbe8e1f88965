/- clapmake.Resolve at a type that has a kind of its own, without definitions; no condition beyond those that stand there. -/
import Derived.Test.YtkcpnehhcpmdgaaScalar
namespace Go.Proofs.Ytkcpnehhcpmdgaa
open Go.RowKit

theorem pair1 (w : World) (a b : Obj) : ((w.alloc a).alloc b).heap[w.heap.size]? = some a := by
  show ((w.heap.push a).push b)[w.heap.size]? = some a
  rw [Array.getElem?_push_lt (by simp), Array.getElem_push_eq]
theorem pair2 (w : World) (a b : Obj) : ((w.alloc a).alloc b).heap[w.heap.size + 1]? = some b := by
  show ((w.heap.push a).push b)[w.heap.size + 1]? = some b
  simp [Array.getElem_push]
set_option maxRecDepth 100000 in
set_option maxHeartbeats 4000000 in
theorem resolve_nil (kd lo hi : Int) (nm pat : ByteArray) (p : Option Addr) (l c : Nat) (hk : kd ≠ 10) (w : World) :
    Calls Try.prog 51 #[.slice none 0 0, .agg #[.int .i64 kd, .string nm, .int .i64 lo, .int .i64 hi, .string pat, .slice p l c]] w fun e w' => e = .returned (.agg #[.int .i64 kd, .string nm, .int .i64 lo, .int .i64 hi, .string pat, .slice p l c]) ∧ Below w.heap.size w w' := by
  have hk' : (kd == 10) = false := by rw [beq_eq_false_iff_ne]; exact hk
  go_enter Try.func51, Try.ntmps51
  go_wp2_with fail
  refine wp_loop_rounds 1 ?_
  rw [rounds_succ]
  go_wp2_with fail
  refine bodyPost_ret (results_cell_row rfl _ _ (w.heap.size + 1) 63 #[.int .i64 kd, .string nm, .int .i64 lo, .int .i64 hi, .string pat, .slice p l c] (0, 0) _ rfl (pair2 w _ _) Try.underlying63 rfl (by kernel_rfl)) rfl ?_
  exact ⟨rfl, ((Below.refl w.heap.size w).alloc (Nat.le_refl _) _).alloc (by simp) _⟩

end Go.Proofs.Ytkcpnehhcpmdgaa
