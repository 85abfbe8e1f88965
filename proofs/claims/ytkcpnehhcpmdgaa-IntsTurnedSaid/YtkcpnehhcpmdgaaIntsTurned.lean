/- clapkeep1.IntsTurned answers true. -/
import Derived.Test.YtkcpnehhcpmdgaaIvSet
import Derived.Test.YtkcpnehhcpmdgaaIvCom
namespace Go.Proofs.Ytkcpnehhcpmdgaa
open Go.RowKit

theorem turned_back (a : List Rg) (ha : Small a) : outF (outF a (-40) 40) (-40) 40 = a := by
  have h1 := out_law a (-40) 40 ha.1
  have h2 := out_law (outF a (-40) 40) (-40) 40 h1.1
  refine ok_unique _ _ h2.1 ha.1 fun n => ?_
  rw [h2.2 n, h1.2 n]
  constructor
  · rintro ⟨x, y, z⟩
    exact Classical.byContradiction fun h => z ⟨x, y, h⟩
  · intro h
    have := ha.2.mem h
    exact ⟨this.1, this.2, fun hc => hc.2.2 h⟩

set_option maxRecDepth 100000 in
set_option maxHeartbeats 4000000 in
theorem intsTurned_walk (p : Option Addr) (len cap : Nat) (xs : List Int) (k0 : Int) (w : World) (h : IsRow .i64 w p len cap xs) :
    Calls Try.prog 6 #[.slice p len cap, .int .i64 k0] w fun e w' => e = .returned (.bool true) ∧ Below w.heap.size w w' := by
  go_enter Try.func6, Try.ntmps6
  go_wp2_with fail
  refine (set_any p len cap xs w h).mono ?_; rintro e w1 ⟨q1, c1, a, rfl, ra, k1, ha⟩
  obtain ⟨n1, hn1⟩ : ∃ n, n = a.length := ⟨_, rfl⟩
  have hcn := ha.cnt
  have K1 := Lib.hid (And.intro ra (And.intro k1 (And.intro ha hn1)))
  have z1 := k1.size
  rw [← hn1]
  clear h ra k1 ha hn1
  go_wp2_with fail
  have hwo := without_any w.heap.size _ a K1.out.2.2.1 (-40) 40 (by decide) (by decide) (by decide) w1 K1.out.1
  rw [← K1.out.2.2.2] at hwo
  refine hwo.mono ?_; rintro e w2 ⟨q2, c2, rfl, ro, k2⟩
  clear hwo
  have hso := small_out K1.out.2.2.1 (-40) 40 (by decide) (by decide)
  have hback := turned_back a K1.out.2.2.1
  generalize outF a (-40) 40 = o at *
  obtain ⟨n2, hn2⟩ : ∃ n, n = o.length := ⟨_, rfl⟩
  have z2 := k2.size
  have K2 := Lib.hid (And.intro ro (And.intro (K1.out.2.1.trans (k2.mono z1)) (And.intro hso (And.intro hn2 (And.intro hback (K1.out.1.below k2))))))
  rw [← hn2]
  clear ro k2 hso hn2 hback
  go_wp2_with fail
  have hwo := without_any w1.heap.size _ o K2.out.2.2.1 (-40) 40 (by decide) (by decide) (by decide) w2 K2.out.1
  rw [← K2.out.2.2.2.1, K2.out.2.2.2.2.1, ← K1.out.2.2.2] at hwo
  refine hwo.mono ?_; rintro e w3 ⟨q3, c3, rfl, rb, k3⟩
  clear hwo
  have z3 := k3.size
  have K3 := Lib.hid (And.intro rb (And.intro (K2.out.2.1.trans (k3.mono (by omega))) (K2.out.2.2.2.2.2.below k3)))
  clear rb k3
  go_wp2_with fail
  have hwo := count_any w.heap.size _ a K1.out.2.2.1 w3 K3.out.2.2
  rw [← K1.out.2.2.2] at hwo
  refine hwo.mono ?_; rintro e w4 ⟨rfl, k4⟩
  clear hwo
  have z4 := k4.size
  have K4 := Lib.hid (And.intro (K3.out.1.below k4) (And.intro (K3.out.2.1.trans (k4.mono (by omega))) (K3.out.2.2.below k4)))
  clear k4
  obtain ⟨m, hm⟩ : ∃ m, m = cnt a := ⟨_, rfl⟩
  rw [← hm] at hcn ⊢
  have HM := Lib.hid hm
  clear hm
  obtain ⟨m0, m1⟩ := hcn
  have wm : IntKind.i64.wrap (m + 1) = m + 1 := IntWalk.i64_in _ ⟨by omega, by omega⟩
  go_wp2_with fail
  refine (ranged_any w4).mono ?_; rintro e w5 ⟨rfl, k5⟩
  have z5 := k5.size
  have K5 := Lib.hid (And.intro (K4.out.1.below k5) (And.intro (K4.out.2.1.trans (k5.mono (by omega))) (K4.out.2.2.below k5)))
  clear k5
  go_wp2_with fail
  have hwo := same_any w2.heap.size w.heap.size (.slice q3 n1 c3) (.slice q1 n1 c1) a (by have := K1.out.2.2.1.length; omega) w5 K5.out.1 (by have := K5.out.2.2; rw [← K1.out.2.2.2] at this; exact this)
  refine hwo.mono ?_; rintro e w6 ⟨rfl, k6⟩
  clear hwo
  have z6 := k6.size
  have K6 := Lib.hid (And.intro (K5.out.2.1.trans (k6.mono (by omega))) (K5.out.2.2.below k6))
  clear k6
  go_wp2_with fail
  refine (below_any k0 (m + 1) (by omega) (by omega) _).mono ?_; rintro e w7 ⟨rfl, rfl⟩
  have y0 : 0 ≤ k0 % (m + 1) := Int.emod_nonneg _ (by omega)
  have y1 : k0 % (m + 1) < m + 1 := Int.emod_lt_of_pos _ (by omega)
  generalize k0 % (m + 1) = k at *
  by_cases hk : k = m
  · subst hk
    have hat := at_any w.heap.size _ a K1.out.2.2.1 k y0 (by omega) none (atF_none a k K1.out.2.2.1.1.1 (by rw [← HM.out]; exact Int.le_refl _)) w6 K6.out.2
    rw [← K1.out.2.2.2] at hat
    have hat2 := hat.mono (R' := fun e w' => e = .returned (.tuple #[.int .i64 0, .int .i64 4]) ∧ Below w6.heap.size w6 w') (fun _ _ h => h)
    clear hat
    go_wp2_with fail
    refine hat2.mono ?_; rintro e w8 ⟨rfl, k8⟩
    clear hat2
    go_wp2_with fail
    go_ret
    exact ⟨rfl, K6.out.1.trans (k8.mono (by omega))⟩
  · obtain ⟨n, hn⟩ := atF_some a k y0 (by rw [← HM.out]; omega)
    have hpl := at_place a k n K1.out.2.2.1.1 y0 hn
    have hnb := K1.out.2.2.1.2.mem hpl.1
    have hat := at_any w.heap.size _ a K1.out.2.2.1 k y0 (by omega) (some n) hn w6 K6.out.2
    rw [← K1.out.2.2.2] at hat
    have hat2 := hat.mono (R' := fun e w' => e = .returned (.tuple #[.int .i64 n, .int .i64 0]) ∧ Below w6.heap.size w6 w') (fun _ _ h => h)
    have hkm : (k == m) = false := by rw [beq_eq_false_iff_ne]; exact hk
    have HP := Lib.hid hpl
    clear hat hpl hn
    go_wp2_with fail
    refine hat2.mono ?_; rintro e w8 ⟨rfl, k8⟩
    clear hat2
    have z8 := k8.size
    have K8 := Lib.hid (And.intro (K6.out.1.trans (k8.mono (by omega))) (K6.out.2.below k8))
    clear k8
    have hpc := place_any w.heap.size _ a K1.out.2.2.1 n hnb.1 hnb.2 (some k) (by rw [HP.out.2]; congr 1; omega) w8 K8.out.2
    rw [← K1.out.2.2.2] at hpc
    have hpc2 := hpc.mono (R' := fun e w' => e = .returned (.tuple #[.int .i64 k, .int .i64 0]) ∧ Below w8.heap.size w8 w') (fun _ _ h => h)
    clear hpc
    go_wp2_with fail
    refine hpc2.mono ?_; rintro e w9 ⟨rfl, k9⟩
    clear hpc2
    have z9 := k9.size
    have K9 := Lib.hid (And.intro (K8.out.1.trans (k9.mono (by omega))) (K8.out.2.below k9))
    clear k9
    have hhas := has_any w.heap.size _ a K1.out.2.2.1 n w9 K9.out.2
    rw [← K1.out.2.2.2, (hasF_iff a n).2 HP.out.1] at hhas
    go_wp2_with fail
    refine hhas.mono ?_; rintro e w10 ⟨rfl, k10⟩
    clear hhas
    go_wp2_with fail
    go_ret
    exact ⟨rfl, K9.out.1.trans (k10.mono (by omega))⟩

end Go.Proofs.Ytkcpnehhcpmdgaa
