/- A row of ranges, and the checks of ints; no condition beyond those that stand there. -/
import Derived.WalkKit
import Derived.Deep.QuietTactic
import Derived.BigQuiet
import Derived.WalkSmall
import Derived.Handy
import Derived.WalkSpells
import Derived.WalkLawsBesides
import Derived.Test.YtkcpnehhcpmdgaaRows
import Derived.Test.YtkcpnehhcpmdgaaBlk
import Derived.Test.YtkcpnehhcpmdgaaRng
namespace Go.Proofs.Ytkcpnehhcpmdgaa
open Go.RowKit

theorem below_drewN {n : Nat} {w w' : World} (h : Below n w w') (q : Nat) : Below n w (w'.drewN q) := ⟨h.os, h.tape, h.output, h.size, h.block⟩

def rgCells (r : Rg) : List Value := [.int .i64 r.1, .int .i64 r.2]
def cellsR (rs : List Rg) : List Value := rs.flatMap rgCells
theorem cellsR_length (rs : List Rg) : (cellsR rs).length = rs.length * 2 := by
  induction rs with
  | nil => rfl
  | cons r rs ih => simp only [cellsR, List.flatMap_cons, List.length_append, List.length_cons] at ih ⊢; rw [ih]; simp [rgCells]; omega
theorem cellsR_append (a b : List Rg) : cellsR (a ++ b) = cellsR a ++ cellsR b := by simp [cellsR]
theorem cellsR_get (rs : List Rg) (j : Nat) (h : j < rs.length) (t : Nat) (ht : t < 2) : (cellsR rs)[j * 2 + t]? = (rgCells rs[j])[t]? := by
  induction rs generalizing j with
  | nil => simp at h
  | cons f rs ih =>
    have hl : (rgCells f).length = 2 := rfl
    rw [cellsR, List.flatMap_cons]
    rcases j with _ | j
    · rw [List.getElem?_append_left (by omega)]
      simp
    · rw [List.getElem?_append_right (by omega), hl, show (j + 1) * 2 + t - 2 = j * 2 + t from by omega]
      simpa [cellsR] using ih j (by simpa using h)
def RowR (base : Nat) (w : World) (v : Value) (rs : List Rg) : Prop := w.ownsRow base 77 2 v rs.length (cellsR rs)
theorem RowR.nil (base : Nat) (w : World) : RowR base w (.slice none 0 0) [] := World.ownsRow_nil _ _ _ _
theorem RowR.slice {base : Nat} {w : World} {v : Value} {rs : List Rg} (h : RowR base w v rs) : ∃ p c, v = .slice p rs.length c := by
  rcases h.2 with ⟨rfl, h0⟩ | ⟨g, cap, cur, rfl, _⟩
  · exact ⟨none, 0, by rw [h0]⟩
  · exact ⟨_, _, rfl⟩
theorem RowR.mono {b b' : Nat} {w : World} {v : Value} {rs : List Rg} (h : RowR b w v rs) (hb : b' ≤ b) : RowR b' w v rs := by
  refine ⟨h.1, ?_⟩
  rcases h.2 with h0 | ⟨g, cap, cur, hv, hg, r⟩
  · exact Or.inl h0
  · exact Or.inr ⟨g, cap, cur, hv, by omega, r⟩
theorem RowR.kept {b : Nat} {w w' : World} {v : Value} {rs : List Rg} (h : RowR b w v rs) (hk : ∀ k, v.ownBlock = some k → w'.heap[k]? = w.heap[k]?) : RowR b w' v rs := by
  refine ⟨h.1, ?_⟩
  rcases h.2 with h2 | ⟨g, cap, cur, hv, hg, hh, r⟩
  · exact Or.inl h2
  · exact Or.inr ⟨g, cap, cur, hv, hg, by rw [hk g (by rw [hv]; rfl)]; exact hh, r⟩
theorem RowR.below {b : Nat} {w w' : World} {v : Value} {rs : List Rg} (h : RowR b w v rs) (hb : Below w.heap.size w w') : RowR b w' v rs :=
  h.kept fun k hk => hb.block k (World.ownsRow.lt h k hk).2
theorem RowR.cells {b : Nat} {w : World} {p : Option Addr} {l c : Nat} {rs : List Rg} (h : RowR b w (.slice p l c) rs) (j : Nat) (hj : j < rs.length) :
    ∃ q, p = some ⟨q, 0, none⟩ ∧ w.cell? ⟨q, j * 2, none⟩ = some (.int .i64 rs[j].1) ∧ w.cell? ⟨q, j * 2 + 1, none⟩ = some (.int .i64 rs[j].2) ∧ q < w.heap.size ∧ b ≤ q ∧ l = rs.length ∧ l ≤ c := by
  have h' := h
  rcases h.2 with ⟨_, h0⟩ | ⟨q, cap, cur, hv, hq, hh, hl, _⟩
  · omega
  · simp only [Value.slice.injEq] at hv
    obtain ⟨rfl, rfl, rfl⟩ := hv
    refine ⟨q, rfl, ?_, ?_, lt_of_block hh, hq, rfl, hl⟩
    · have := World.ownsRow.cellAt h' (j * 2) (by omega)
      rw [this, show j * 2 = j * 2 + 0 from rfl, cellsR_get rs j hj 0 (by decide)]; rfl
    · have := World.ownsRow.cellAt h' (j * 2 + 1) (by omega)
      rw [this, cellsR_get rs j hj 1 (by decide)]; rfl
/-- Ranges in order between -40 and 40. -/
def Small (rs : List Rg) : Prop := Ok rs ∧ Within (-40) 40 rs
theorem Small.length {rs : List Rg} (h : Small rs) : rs.length ≤ 81 := by
  have := ok_length rs (-40) 40 h.1 h.2 (by decide)
  omega
theorem Small.get {rs : List Rg} (h : Small rs) (i : Nat) (hi : i < rs.length) : -40 ≤ rs[i].1 ∧ rs[i].1 ≤ rs[i].2 ∧ rs[i].2 ≤ 40 := by
  have := h.2 _ (List.getElem_mem hi)
  have := h.1.1 _ (List.getElem_mem hi)
  omega
theorem Small.before {rs : List Rg} (h : Small rs) (i : Nat) (hi : i + 1 < rs.length) : rs[i].2 + 1 < rs[i + 1].1 :=
  List.pairwise_iff_getElem.1 h.1.2 i (i + 1) (by omega) hi (by omega)

set_option maxRecDepth 100000 in
set_option maxHeartbeats 4000000 in
theorem check_any (b : Nat) (v : Value) (rs : List Rg) (hs : Small rs) (w : World) (h : RowR b w v rs) :
    Calls Try.prog 42 #[v] w fun e w' => e = .returned (.int .i64 0) ∧ Below w.heap.size w w' := by
  obtain ⟨p, c, rfl⟩ := h.slice
  have hl := hs.length
  have t0 : decide ((rs.length : Int) > 500) = false := decide_eq_false (by omega)
  go_enter Try.func42, Try.ntmps42
  go_wp2_with fail
  go_loopw [10] (fun iv wr => ∃ i : Nat, i ≤ rs.length ∧ iv = .int .i64 i ∧ Below w.heap.size w wr) (fun iv _ => rs.length - (intOf iv).toNat)
  case atStart => exact ⟨0, by omega, rfl, Below.refl _ _⟩
  case round =>
    obtain ⟨i, hi, rfl, hb⟩ := hrel
    have wi : IntKind.i64.wrap ((i : Int) + 1) = (i : Int) + 1 := IntWalk.i64_in _ ⟨by omega, by omega⟩
    by_cases hlt : i < rs.length
    · obtain ⟨q, rfl, c0, c1, hq, -, -, hcc⟩ := h.cells i hlt
      have hg := hs.get i hlt
      rw [← hb.cell (show (⟨q, i * 2, none⟩ : Addr).block < w.heap.size from hq)] at c0
      rw [← hb.cell (show (⟨q, i * 2 + 1, none⟩ : Addr).block < w.heap.size from hq)] at c1
      have hni : ((i : Int)).toNat = i := by omega
      have ti : (i : Int) < (rs.length : Int) := by omega
      have prev : 0 < i → ∃ y : Int, wr.cell? ⟨q, (i - 1) * 2 + 1, none⟩ = some (.int .i64 y) ∧ -40 ≤ y ∧ y ≤ 40 ∧ y + 1 < rs[i].1 := by
        intro h0
        obtain ⟨j, rfl⟩ : ∃ j, i = j + 1 := ⟨i - 1, by omega⟩
        obtain ⟨q', e, d0, d1, _⟩ := h.cells j (by omega)
        simp only [Option.some.injEq, Addr.mk.injEq, and_true] at e
        subst e
        rw [← hb.cell (show (⟨q, j * 2 + 1, none⟩ : Addr).block < w.heap.size from hq)] at d1
        exact ⟨_, d1, by have := hs.get j (by omega); omega, by have := hs.get j (by omega); omega, hs.before j hlt⟩
      generalize rs[i].1 = x at *
      generalize rs[i].2 = y at *
      obtain ⟨g1, g2, g3⟩ := hg
      have a1 : decide (x < -9007199254740992) = false := decide_eq_false (by omega)
      have a2 : decide (y > 9007199254740992) = false := decide_eq_false (by omega)
      have a3 : decide (x > y) = false := decide_eq_false (by omega)
      have a4 : IntKind.i64.wrap (x - 1) = x - 1 := IntWalk.i64_in _ ⟨by omega, by omega⟩
      have H := Lib.hid (And.intro h (And.intro hs hb))
      clear h hs hb
      by_cases hz : i = 0
      · subst hz
        go_wp2_with fail
        go_quiet (fail)
        go_wp2_with fail
        refine ⟨⟨1, by omega, by simp, below_drewN (H.out.2.2.alloc (by have := H.out.2.2.size; omega) _) _⟩, by simp [intOf]; omega⟩
      · obtain ⟨y', c2, y1, y2, y3⟩ := prev (by omega)
        have a5 : IntKind.i64.wrap ((i : Int) - 1) = (i : Int) - 1 := IntWalk.i64_in _ ⟨by omega, by omega⟩
        have a6 : 0 < i := by omega
        have a7 : decide (y' ≥ x - 1) = false := decide_eq_false (by omega)
        have a8 : ((i : Int) - 1).toNat = i - 1 := by omega
        have a9 : (0 : Int) ≤ (i : Int) - 1 := by omega
        have c3 : (wr.alloc (.cells #[.int .i64 x, .int .i64 y] 77 (0, 0))).cell? ⟨q, (i - 1) * 2 + 1, none⟩ = some (.int .i64 y') := Lib.cell?_alloc_some _ c2
        clear prev
        go_wp2_with fail
        go_quiet (fail)
        go_wp2_with fail
        refine ⟨⟨i + 1, by omega, by simp, below_drewN (H.out.2.2.alloc (by have := H.out.2.2.size; omega) _) _⟩, by simp [intOf]; omega⟩
    · have ti : decide ((i : Int) < (rs.length : Int)) = false := decide_eq_false (by omega)
      go_wp2_with fail
      go_ret
      exact ⟨rfl, hb⟩

end Go.Proofs.Ytkcpnehhcpmdgaa
