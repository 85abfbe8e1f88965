/- value.unused, number, Scalar; no condition beyond those that stand there. -/
import Derived.Test.YtkcpnehhcpmdgaaName
namespace Go.Proofs.Ytkcpnehhcpmdgaa
open Go.RowKit

theorem kind_cases {k : Int} {ns : List ByteArray} (h : NamesOk k ns) : (k = 0 ∨ k = 1 ∨ k = 2 ∨ k = 3 ∨ k = 4 ∨ k = 5) ∧ ns = [] ∨ k = 6 ∨ k = 7 ∨ k = 8 ∨ k = 9 := by
  rcases h with ⟨h0, h5, h⟩ | ⟨rfl, _⟩ | ⟨rfl, _⟩ | ⟨rfl, _⟩ | ⟨rfl, _⟩
  · exact Or.inl ⟨by omega, h⟩
  · simp
  · simp
  · simp
  · simp
set_option maxRecDepth 100000 in
set_option maxHeartbeats 1000000 in
theorem scalar_yes (k : Int) (h : k = 0 ∨ k = 1 ∨ k = 2 ∨ k = 3 ∨ k = 4 ∨ k = 5) (w : World) : Calls Try.prog 71 #[.int .i64 k] w fun e w' => e = .returned (.bool true) ∧ w' = w := by
  rcases h with rfl | rfl | rfl | rfl | rfl | rfl
  all_goals
    go_enter Try.func71, Try.ntmps71
    go_wp2_with fail
    go_ret
    exact ⟨rfl, rfl⟩
set_option maxRecDepth 100000 in
set_option maxHeartbeats 1000000 in
theorem scalar_no (k : Int) (h : k = 6 ∨ k = 7 ∨ k = 8 ∨ k = 9) (w : World) : Calls Try.prog 71 #[.int .i64 k] w fun e w' => e = .returned (.bool false) ∧ w' = w := by
  rcases h with rfl | rfl | rfl | rfl
  all_goals
    go_enter Try.func71, Try.ntmps71
    go_wp2_with fail
    go_ret
    exact ⟨rfl, rfl⟩
set_option maxRecDepth 100000 in
set_option maxHeartbeats 2000000 in
theorem unused_any (k n : Int) (s : ByteArray) (a : Option Addr) (c : Nat) (ns : List ByteArray) (hn : NumOk k n) (hs : k = 5 ∨ s = ⟨#[]⟩) (hk : NamesOk k ns) (w : World) :
    Calls Try.prog 62 #[.agg #[.int .i64 k, .int .i64 n, .string s, .slice a ns.length c]] w fun e w' => e = .returned (.bool false) ∧ Below w.heap.size w w' := by
  have hb := (Below.refl w.heap.size w).alloc (Nat.le_refl _) (.cells #[.int .i64 k, .int .i64 n, .string s, .slice a ns.length c] 25 (0, 0))
  have hkc := kind_cases hk
  have HS := Lib.hid (And.intro scalar_yes scalar_no)
  have hz : (k = 0 ∨ 5 ≤ k) → n = 0 := fun h => by unfold NumOk at hn; omega
  clear hk
  rcases hkc with ⟨rfl | rfl | rfl | rfl | rfl | rfl, rfl⟩ | rfl | rfl | rfl | rfl
  all_goals
    have hs1 := hs.resolve_left
    have hn1 := hz
    first | replace hs1 := hs1 (by decide) | skip
    first | replace hn1 := hn1 (by decide) | skip
    first | subst hs1 | skip
    first | subst hn1 | skip
    have HB := Lib.hid hb
    clear hb hn hs hz
    first | clear hs1 | skip
    first | clear hn1 | skip
    go_enter Try.func62, Try.ntmps62
    go_wp2_with fail
    refine (by first | exact HS.out.1 _ (by decide) _ | exact HS.out.2 _ (by decide) _ : Calls _ _ _ _ _).mono ?_
    rintro e w3 ⟨rfl, rfl⟩
    go_wp2_with fail
    go_ret
    exact ⟨rfl, HB.out⟩
set_option maxRecDepth 100000 in
set_option maxHeartbeats 2000000 in
theorem number_any (k n : Int) (s : ByteArray) (a : Option Addr) (l c : Nat) (ns : List ByteArray) (hn : NumOk k n) (hk : NamesOk k ns) (w : World) :
    Calls Try.prog 63 #[.agg #[.int .i64 k, .int .i64 n, .string s, .slice a l c]] w fun e w' => e = .returned (.bool true) ∧ Below w.heap.size w w' := by
  have hb := (Below.refl w.heap.size w).alloc (Nat.le_refl _) (.cells #[.int .i64 k, .int .i64 n, .string s, .slice a l c] 25 (0, 0))
  have hkc := kind_cases hk
  clear hk
  rcases hkc with ⟨rfl | rfl | rfl | rfl | rfl | rfl, rfl⟩ | rfl | rfl | rfl | rfl
  all_goals
    unfold NumOk at hn
    have HB := Lib.hid hb
    clear hb
  case inl.inr.inl =>
    rcases (show n = 0 ∨ n = 1 by omega) with rfl | rfl
    all_goals
      clear hn
      go_enter Try.func63, Try.ntmps63
      go_wp2_with fail
      go_ret
      exact ⟨rfl, HB.out⟩
  all_goals
    first
    | (have t1 : (-9007199254740992 : Int) ≤ n := by omega
       have t2 : n ≤ (9007199254740992 : Int) := by omega
       have t3 : n ≤ (4194304 : Int) := by omega
       have t4 : 0 ≤ n := by omega)
    | (have t1 : (-9007199254740992 : Int) ≤ n := by omega
       have t2 : n ≤ (9007199254740992 : Int) := by omega)
    | skip
    clear hn
    go_enter Try.func63, Try.ntmps63
    go_wp2_with fail
    go_ret
    exact ⟨rfl, HB.out⟩

end Go.Proofs.Ytkcpnehhcpmdgaa
