/- value.Same, value.Size at a leaf, clapkeep1.values; no condition beyond those that stand there. -/
import Derived.Deep.Cut
import Derived.Test.YtkcpnehhcpmdgaaCmpV
namespace Go.Proofs.Ytkcpnehhcpmdgaa
open Go.RowKit

set_option maxRecDepth 100000 in
set_option maxHeartbeats 4000000 in
theorem same_any (d : Nat) (S1 S2 : Nat → Prop) (w : World) (k1 n1 : Int) (s1 : ByteArray) (p1 : Value) (t1 : TVal d) (k2 n2 : Int) (s2 : ByteArray) (p2 : Value) (t2 : TVal d) (h1 : IsV d S1 w k1 n1 s1 p1 t1) (h2 : IsV d S2 w k2 n2 s2 p2 t2) :
    Calls Try.prog 10 #[.agg #[.int .i64 k1, .int .i64 n1, .string s1, p1], .agg #[.int .i64 k2, .int .i64 n2, .string s2, p2]] w fun e w' => e = .returned (.bool (tcmp d t1 t2 == 0)) ∧ Below w.heap.size w w' := by
  have hb2 := ((Below.refl w.heap.size w).alloc (Nat.le_refl _) (.cells #[.int .i64 k1, .int .i64 n1, .string s1, p1] 25 (0, 0))).alloc (by simp) (.cells #[.int .i64 k2, .int .i64 n2, .string s2, p2] 25 (0, 0))
  have hc := cmp_any d S1 S2 _ k1 n1 s1 p1 t1 k2 n2 s2 p2 t2 (h1.below (Nat.le_refl _) hb2) (h2.below (Nat.le_refl _) hb2)
  have HC := Lib.hid (And.intro hc hb2)
  clear hc hb2 h1 h2
  go_enter Try.func10, Try.ntmps10
  go_wp2_with fail
  refine HC.out.1.mono ?_
  rintro e w3 ⟨rfl, hb3⟩
  have HB := Lib.hid (HC.out.2.trans (hb3.mono HC.out.2.size))
  clear hb3
  go_wp2_with fail
  go_ret
  exact ⟨rfl, HB.out⟩
/-- The number of nodes. -/
def tsize : (d : Nat) → TVal d → Nat
  | 0, _ => 0
  | d + 1, t => 1 + (t.fs.map fun f => tsize d f.2).sum
set_option maxRecDepth 100000 in
set_option maxHeartbeats 4000000 in
theorem size_leaf (k n : Int) (s : ByteArray) (w : World) : Calls Try.prog 12 #[.agg #[.int .i64 k, .int .i64 n, .string s, .slice none 0 0]] w fun e w' => e = .returned (.int .i64 1) ∧ Below w.heap.size w w' := by
  go_enter Try.func12, Try.ntmps12
  go_wp2_with fail
  refine wp_loop_rounds 1 ?_
  rw [rounds_succ]
  go_wp2_with fail
  go_ret
  exact ⟨rfl, (Below.refl w.heap.size w).alloc (Nat.le_refl _) _⟩
set_option maxRecDepth 100000 in
set_option maxHeartbeats 4000000 in
theorem values_any (w : World) : Calls Try.prog 11 #[] w fun e w' => e = .returned (.bool true) ∧ Below w.heap.size w w' := by
  have hb2 := ((Below.refl w.heap.size w).alloc (Nat.le_refl _) (.cells #[.int .i64 2, .int .i64 1, .string ⟨#[]⟩, .slice none 0 0] 25 (0, 0))).alloc (by simp) (.cells #[.int .i64 2, .int .i64 2, .string ⟨#[]⟩, .slice none 0 0] 25 (0, 0))
  have e1 := pair1 w (.cells #[.int .i64 2, .int .i64 1, .string ⟨#[]⟩, .slice none 0 0] 25 (0, 0)) (.cells #[.int .i64 2, .int .i64 2, .string ⟨#[]⟩, .slice none 0 0] 25 (0, 0))
  have e2 := pair2 w (.cells #[.int .i64 2, .int .i64 1, .string ⟨#[]⟩, .slice none 0 0] 25 (0, 0)) (.cells #[.int .i64 2, .int .i64 2, .string ⟨#[]⟩, .slice none 0 0] 25 (0, 0))
  have HS := Lib.hid (And.intro hb2 (And.intro e1 e2))
  have HC := Lib.hid (fun (x y : Int) W => cmp_any 1 (fun _ => True) (fun _ => True) W 2 x ⟨#[]⟩ (.slice none 0 0) (mkT 2 x ⟨#[]⟩ []) 2 y ⟨#[]⟩ (.slice none 0 0) (mkT 2 y ⟨#[]⟩ []) (v_leaf 2 x ⟨#[]⟩) (v_leaf 2 y ⟨#[]⟩))
  clear hb2 e1 e2
  go_enter Try.func11, Try.ntmps11
  go_upto_region 2 with fail
  have hs := HS.out
  clear HS
  generalize (w.alloc (.cells #[.int .i64 2, .int .i64 1, .string ⟨#[]⟩, .slice none 0 0] 25 (0, 0))).alloc (.cells #[.int .i64 2, .int .i64 2, .string ⟨#[]⟩, .slice none 0 0] 25 (0, 0)) = W at *
  obtain ⟨hb, e1, e2⟩ := hs
  obtain ⟨⟨a0, a1, a2, a3⟩, -⟩ := cells4 e1
  obtain ⟨⟨b0, b1, b2, b3⟩, -⟩ := cells4 e2
  have h12 : tcmp 1 (mkT 2 1 ⟨#[]⟩ []) (mkT 2 2 ⟨#[]⟩ []) = -1 := by decide
  have h21 : tcmp 1 (mkT 2 2 ⟨#[]⟩ []) (mkT 2 1 ⟨#[]⟩ []) = 1 := by decide
  go_wp2_with fail
  refine (HC.out 1 2 W).mono ?_
  rintro e w3 ⟨rfl, hb3⟩
  rw [h12]
  obtain ⟨⟨c0, c1, c2, c3⟩, -⟩ := cells4 ((hb3.block _ (lt_of_block e1)).trans e1)
  obtain ⟨⟨d0, d1, d2, d3⟩, -⟩ := cells4 ((hb3.block _ (lt_of_block e2)).trans e2)
  go_wp2_with fail
  refine (HC.out 2 1 w3).mono ?_
  rintro e w4 ⟨rfl, hb4⟩
  rw [h21]
  have hb34 := hb3.trans (hb4.mono hb3.size)
  obtain ⟨⟨f0, f1, f2, f3⟩, -⟩ := cells4 ((hb34.block _ (lt_of_block e1)).trans e1)
  go_wp2_with fail
  refine (size_leaf 2 1 ⟨#[]⟩ w4).mono ?_
  rintro e w5 ⟨rfl, hb5⟩
  have HB := Lib.hid (hb.trans ((hb34.trans (hb5.mono hb34.size)).mono hb.size))
  clear hb3 hb4 hb34 hb5
  go_wp2_with fail
  go_ret
  exact ⟨rfl, HB.out⟩

end Go.Proofs.Ytkcpnehhcpmdgaa
