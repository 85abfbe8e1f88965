/- cmp.Or, value.order; no condition beyond those that stand there. -/
import Derived.Test.YtkcpnehhcpmdgaaCmpLaw
namespace Go.Proofs.Ytkcpnehhcpmdgaa
open Go.RowKit

theorem b_ne {x : Int} (h : x ≠ 0) : (x != 0) = true := by rw [bne_iff_ne]; exact h
theorem b_eq {x : Int} (h : x = 0) : (x != 0) = false := by subst h; rfl
set_option maxRecDepth 100000 in
set_option maxHeartbeats 4000000 in
theorem or_any3 (g : Nat) (x y z : Int) (w : World) (h : w.heap[g]? = some (.cells #[.int .i64 x, .int .i64 y, .int .i64 z] 3 (0, 0))) :
    Calls Try.prog 34 #[.slice (some ⟨g, 0, none⟩) 3 3] w fun e w' => e = .returned (.int .i64 (or2 x (or2 y z))) ∧ w = w' := by
  have c0 : w.cell? ⟨g, 0, none⟩ = some (.int .i64 x) := by rw [Lib.cell_of_heap h]; rfl
  have c1 : w.cell? ⟨g, 1, none⟩ = some (.int .i64 y) := by rw [Lib.cell_of_heap h]; rfl
  have c2 : w.cell? ⟨g, 2, none⟩ = some (.int .i64 z) := by rw [Lib.cell_of_heap h]; rfl
  clear h
  by_cases hx : x = 0
  · have tx := b_eq hx
    by_cases hy : y = 0
    · have ty := b_eq hy
      have hr : or2 x (or2 y z) = z := by simp [or2, hx, hy]
      by_cases hz : z = 0
      · have tz := b_eq hz
        have HR := Lib.hid (And.intro hr hz)
        clear hx hy hz hr
        go_enter Try.func34, Try.ntmps34
        go_wp2_with fail
        refine wp_loop_rounds 4 ?_
        rw [rounds_succ]
        go_wp2_with fail
        rw [rounds_succ]
        go_wp2_with fail
        rw [rounds_succ]
        go_wp2_with fail
        rw [rounds_succ]
        go_wp2_with fail
        go_ret
        exact ⟨ret_int (HR.out.1.trans HR.out.2).symm, rfl⟩
      · have tz := b_ne hz
        have HR := Lib.hid hr
        clear hx hy hz hr
        go_enter Try.func34, Try.ntmps34
        go_wp2_with fail
        refine wp_loop_rounds 3 ?_
        rw [rounds_succ]
        go_wp2_with fail
        rw [rounds_succ]
        go_wp2_with fail
        rw [rounds_succ]
        go_wp2_with fail
        go_ret
        exact ⟨ret_int HR.out.symm, rfl⟩
    · have ty := b_ne hy
      have HR := Lib.hid (show or2 x (or2 y z) = y by simp [or2, hx, hy])
      clear hx hy
      go_enter Try.func34, Try.ntmps34
      go_wp2_with fail
      refine wp_loop_rounds 2 ?_
      rw [rounds_succ]
      go_wp2_with fail
      rw [rounds_succ]
      go_wp2_with fail
      go_ret
      exact ⟨ret_int HR.out.symm, rfl⟩
  · have tx := b_ne hx
    have HR := Lib.hid (show or2 x (or2 y z) = x by simp [or2, hx])
    clear hx
    go_enter Try.func34, Try.ntmps34
    go_wp2_with fail
    refine wp_loop_rounds 1 ?_
    rw [rounds_succ]
    go_wp2_with fail
    go_ret
    exact ⟨ret_int HR.out.symm, rfl⟩
set_option maxRecDepth 100000 in
set_option maxHeartbeats 4000000 in
theorem or_any2 (g : Nat) (x y : Int) (w : World) (h : w.heap[g]? = some (.cells #[.int .i64 x, .int .i64 y] 3 (0, 0))) :
    Calls Try.prog 34 #[.slice (some ⟨g, 0, none⟩) 2 2] w fun e w' => e = .returned (.int .i64 (or2 x y)) ∧ w = w' := by
  have c0 : w.cell? ⟨g, 0, none⟩ = some (.int .i64 x) := by rw [Lib.cell_of_heap h]; rfl
  have c1 : w.cell? ⟨g, 1, none⟩ = some (.int .i64 y) := by rw [Lib.cell_of_heap h]; rfl
  clear h
  by_cases hx : x = 0
  · have tx := b_eq hx
    have hr : or2 x y = y := by simp [or2, hx]
    by_cases hy : y = 0
    · have ty := b_eq hy
      have HR := Lib.hid (And.intro hr hy)
      clear hx hy hr
      go_enter Try.func34, Try.ntmps34
      go_wp2_with fail
      refine wp_loop_rounds 3 ?_
      rw [rounds_succ]
      go_wp2_with fail
      rw [rounds_succ]
      go_wp2_with fail
      rw [rounds_succ]
      go_wp2_with fail
      go_ret
      exact ⟨ret_int (HR.out.1.trans HR.out.2).symm, rfl⟩
    · have ty := b_ne hy
      have HR := Lib.hid hr
      clear hx hy hr
      go_enter Try.func34, Try.ntmps34
      go_wp2_with fail
      refine wp_loop_rounds 2 ?_
      rw [rounds_succ]
      go_wp2_with fail
      rw [rounds_succ]
      go_wp2_with fail
      go_ret
      exact ⟨ret_int HR.out.symm, rfl⟩
  · have tx := b_ne hx
    have HR := Lib.hid (show or2 x y = x by simp [or2, hx])
    clear hx
    go_enter Try.func34, Try.ntmps34
    go_wp2_with fail
    refine wp_loop_rounds 1 ?_
    rw [rounds_succ]
    go_wp2_with fail
    go_ret
    exact ⟨ret_int HR.out.symm, rfl⟩
set_option maxRecDepth 100000 in
set_option maxHeartbeats 4000000 in
theorem order_any (n : Int) (w : World) :
    Calls Try.prog 33 #[.int .i64 n] w fun e w' => e = .returned (.int .i64 (ordF n)) ∧ w = w' := by
  by_cases h : n < 0
  · have HR := Lib.hid (show ordF n = wrap64 (-1 - bits BinOp.and IntKind.i64 n 9223372036854775807) from if_pos h)
    go_enter Try.func33, Try.ntmps33
    go_wp2_with fail
    go_ret
    exact ⟨ret_int HR.out.symm, rfl⟩
  · have HR := Lib.hid (show ordF n = n from if_neg h)
    go_enter Try.func33, Try.ntmps33
    go_wp2_with fail
    go_ret
    exact ⟨ret_int HR.out.symm, rfl⟩

end Go.Proofs.Ytkcpnehhcpmdgaa
