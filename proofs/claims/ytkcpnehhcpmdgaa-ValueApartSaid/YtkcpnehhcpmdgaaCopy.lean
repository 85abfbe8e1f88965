/- slices.Clone at rows of fields, value.Copy; no condition beyond those that stand there. -/
import Derived.Laws.OwnMore
import Derived.Lib.SliceRun
import Derived.Deep.RegionHeld3
import Derived.Deep.Cut
import Derived.Test.YtkcpnehhcpmdgaaDeep
import Derived.Test.YtkcpnehhcpmdgaaVRow
namespace Go.Proofs.Ytkcpnehhcpmdgaa
open Go.RowKit

/-- The cells of a row of n fields at an address. -/
def rowCells (w : World) (ad : Addr) (n : Nat) : List Value := (List.range (n * 5)).map fun j => (w.cell? (ad.add j)).getD undef
theorem rowCells_length (w : World) (ad : Addr) (n : Nat) : (rowCells w ad n).length = n * 5 := by simp [rowCells]
set_option maxRecDepth 100000 in
set_option maxHeartbeats 4000000 in
theorem clone_any (a : Option Addr) (n c : Nat) (hn : n ≤ 1000) (w : World) (ha : a = none → n = 0) (hc : ∀ ad, a = some ad → ∀ j, j < n * 5 → ∃ u, w.cell? (ad.add j) = some u ∧ u.oneCell' = true) :
    Calls Try.prog 39 #[.slice a n c] w fun e w' => (∃ q cc xs, e = .returned (.slice q n cc) ∧ w'.ownsRow w.heap.size 33 5 (.slice q n cc) n xs ∧ ∀ ad, a = some ad → xs = rowCells w ad n) ∧ Below w.heap.size w w' := by
  have qe : ∀ (w : World) (a : Option Addr) (n c n' c' : Nat), (binOp .eql 23 (.slice a n c) (.slice none n' c')).run Try.prog w = .ok (.bool a.isNone) w := fun w a n c n' c' => Lib.run_eql_slice_nil w _ _ a n c n' c' Try.underlying23
  cases a with
  | none =>
    obtain rfl := ha rfl
    have key : Calls Try.prog 39 #[.slice none 0 c] w fun e w' => e = .returned (.slice none 0 0) ∧ Below w.heap.size w w' := by
      clear hc
      go_enter Try.func39, Try.ntmps39
      go_wp2_with fail
      go_ret
      exact ⟨rfl, Below.refl _ _⟩
    refine key.mono ?_
    rintro e w' ⟨rfl, hb⟩
    exact ⟨⟨none, 0, [], rfl, World.ownsRow_nil _ _ _ _, fun ad h => by cases h⟩, hb⟩
  | some ad =>
    have hnews : ∀ j u, (rowCells w ad n)[j]? = some u → w.cell? (ad.add j) = some u := fun j u hj => by
      have hl := (List.getElem?_eq_some_iff.1 hj).1
      rw [rowCells_length] at hl
      obtain ⟨v, hv, _⟩ := hc ad rfl j hl
      simp [rowCells, hl, hv] at hj
      rw [hv, hj]
    have hone : ∀ u ∈ rowCells w ad n, u.oneCell' = true := fun u hu => by
      obtain ⟨j, hj, rfl⟩ := List.mem_map.1 hu
      rw [List.mem_range] at hj
      obtain ⟨v, hv, h1⟩ := hc ad rfl j hj
      rw [hv]
      exact h1
    have HI := Lib.hid (And.intro hnews hone)
    clear hnews hone hc ha
    go_enter Try.func39, Try.ntmps39
    obtain ⟨i0, z, b, hi0, hz0, hz1, hz2, hz3, hk, hb5⟩ := elem_field
    go_wp2_with (at_builtin; refine wpList_append_own _ rfl _ _ 23 rfl w.heap.size 33 i0 _ 5 b Try.underlying23 hi0 hz0 hz1 hz2 hz3 hk _ _ _ rfl (World.ownsRow_made w #[] 0 (Nat.le_refl _) (Nat.zero_le _) rfl) ad n c (rowCells w ad n) rfl ?qc1 ?qc2 ?qc3 ?qc4 ?qc5 ?qc6 ?_)
    case qc1 => exact rowCells_length w ad n
    case qc2 => exact fun j u hj => Lib.cell?_alloc_some _ (HI.out.1 j u hj)
    case qc3 => exact HI.out.2
    case qc4 => unfold maxLen; omega
    case qc5 =>
      have : (0 + n) * b ≤ 1000 * 1000 := Nat.mul_le_mul (by omega) hb5
      omega
    case qc6 => simp
    intro v' w1 hown hgrow _
    have hown : w1.ownsRow w.heap.size 33 5 v' n (rowCells w ad n) := by simpa using hown
    have hv : ∃ q cc, v' = .slice q n cc := by
      rcases hown.2 with ⟨rfl, h0⟩ | ⟨g, cap, cur, rfl, _⟩
      · exact ⟨none, 0, by rw [h0]⟩
      · exact ⟨_, _, rfl⟩
    obtain ⟨q, cc, rfl⟩ := hv
    have hbl : Below w.heap.size w w1 := ((Below.refl _ w).alloc (Nat.le_refl _) _).grown hgrow (by simp) (by intro k hk; simp [Value.ownBlock] at hk; omega)
    have HO := Lib.hid (And.intro hown hbl)
    clear hown hgrow hbl
    go_wp2_with fail
    go_ret
    exact ⟨⟨q, cc, _, rfl, HO.out.1, fun ad' h => by injection h with h; subst h; rfl⟩, HO.out.2⟩

end Go.Proofs.Ytkcpnehhcpmdgaa
