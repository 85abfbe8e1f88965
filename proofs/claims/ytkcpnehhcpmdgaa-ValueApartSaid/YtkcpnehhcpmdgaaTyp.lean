/- clapmake.typ without definitions; no condition beyond those that stand there. -/
import Derived.Test.YtkcpnehhcpmdgaaTypRow
namespace Go.Proofs.Ytkcpnehhcpmdgaa
open Go.RowKit

def tyInts : List (Int × Int) := [(0, 9), (3, 3), (-1, 3), (-9007199254740992, 9007199254740992)]
theorem ty_cells (W : World) (g : Nat) (h : W.heap[g]? = some (.cells #[.int .i64 2, .string ⟨#[]⟩, .int .i64 0, .int .i64 9, .string ⟨#[]⟩, .slice none 0 0, .int .i64 2, .string ⟨#[]⟩, .int .i64 3, .int .i64 3, .string ⟨#[]⟩, .slice none 0 0, .int .i64 2, .string ⟨#[]⟩, .int .i64 (-1), .int .i64 3, .string ⟨#[]⟩, .slice none 0 0, .int .i64 2, .string ⟨#[]⟩, .int .i64 (-9007199254740992), .int .i64 9007199254740992, .string ⟨#[]⟩, .slice none 0 0] 63 (0, 0))) : ∀ j x, tyInts[j]? = some x → W.cell? ⟨g, j * 6, none⟩ = some (.int .i64 2) ∧ W.cell? ⟨g, j * 6 + 1, none⟩ = some (.string ⟨#[]⟩) ∧ W.cell? ⟨g, j * 6 + 2, none⟩ = some (.int .i64 x.1) ∧ W.cell? ⟨g, j * 6 + 3, none⟩ = some (.int .i64 x.2) ∧ W.cell? ⟨g, j * 6 + 4, none⟩ = some (.string ⟨#[]⟩) ∧ W.cell? ⟨g, j * 6 + 5, none⟩ = some (.slice none 0 0) := by
  intro j x hj
  have hl := (List.getElem?_eq_some_iff.1 hj).1
  simp only [Lib.cell_of_heap h]
  have hl' : j < 4 := hl
  rcases (show j = 0 ∨ j = 1 ∨ j = 2 ∨ j = 3 by omega) with rfl | rfl | rfl | rfl <;> (simp [tyInts] at hj; subst hj; exact ⟨rfl, rfl, rfl, rfl, rfl, rfl⟩)
set_option maxRecDepth 100000 in
set_option maxHeartbeats 4000000 in
theorem typ_zero : TypSaid 0 := by
  intro B s w h
  have hsl := h.lt
  have h0 : TypAt B s w (w.alloc (.cells #[.int .i64 0, .string ⟨#[]⟩, .int .i64 0, .int .i64 0, .string ⟨#[]⟩, .slice none 0 0] 63 (0, 0))) := ⟨h.below ((Below.refl w.heap.size w).alloc (Nat.le_refl _) _) hsl, KeepS.of_below ((Below.refl w.heap.size w).alloc (Nat.le_refl _) _), heap_alloc_new w _⟩
  have hnx := next_any B s 14 (by decide) _ h0.st
  have H0 := Lib.hid (And.intro h0 hnx)
  clear h h0 hnx
  go_enter Try.func32, Try.ntmps32
  go_wp2_with fail
  refine H0.out.2.mono ?_
  rintro e w1 ⟨⟨x, rfl, x0, x1, -⟩, t1, k1, -⟩
  have x14 := x1 (by decide)
  have h1 := H0.out.1.step hsl t1 k1
  obtain ⟨⟨a0, a1, a2, a3, a4, a5⟩, a6, a7, a8, a9, aa, ab⟩ := cells6 h1.cell
  have H1 := Lib.hid h1
  clear t1 k1 h1 x1
  rcases (show x = 0 ∨ x = 1 ∨ x = 2 ∨ x = 3 ∨ x = 4 ∨ x = 5 ∨ x = 6 ∨ x = 7 ∨ x = 8 ∨ x = 9 ∨ x = 10 ∨ x = 11 ∨ x = 12 ∨ x = 13 by omega) with rfl | rfl | rfl | rfl | rfl | rfl | rfl | rfl | rfl | rfl | rfl | rfl | rfl | rfl
  · go_wp2_with fail
    refine bodyPost_ret (results_cell_row rfl _ _ w.heap.size 63 #[.int .i64 0, .string ⟨#[]⟩, .int .i64 (0), .int .i64 (0), .string ⟨#[]⟩, .slice none 0 0] (0, 0) _ rfl (set6 H1.out.cell _ _ _ _ _ _) Try.underlying63 rfl (by kernel_rfl)) rfl ?_
    exact typ_post H1.out hsl 0 ⟨#[]⟩ (0) (0) ⟨#[]⟩ none 0 0 (TyOk.leaf (by unfold LeafOk; omega))
  · go_wp2_with fail
    have h2 := H1.out.below ((Below.refl _ w1).alloc (Nat.le_refl _) (.cells #[.int .i64 0, .int .i64 0, .int .i64 1] 3 (0, 0)))
    refine (pick_int B s w1.heap.size [0, 0, 1] (by decide) (by decide) _ h2.st (heap_alloc_new w1 _)).mono ?_
    rintro e w3 ⟨⟨x, hx, rfl⟩, t3, k3⟩
    have h3 := h2.step hsl t3 k3
    obtain ⟨⟨b0, b1, b2, b3, b4, b5⟩, b6, b7, b8, b9, ba, bb⟩ := cells6 h3.cell
    have H3 := Lib.hid h3
    clear h2 t3 k3 h3
    simp only [List.mem_cons, List.not_mem_nil, or_false] at hx
    go_wp2_with fail
    refine bodyPost_ret (results_cell_row rfl _ _ w.heap.size 63 #[.int .i64 1, .string ⟨#[]⟩, .int .i64 (x), .int .i64 (1), .string ⟨#[]⟩, .slice none 0 0] (0, 0) _ rfl (set6 H3.out.cell _ _ _ _ _ _) Try.underlying63 rfl (by kernel_rfl)) rfl ?_
    exact typ_post H3.out hsl 1 ⟨#[]⟩ (x) (1) ⟨#[]⟩ none 0 0 (TyOk.leaf (by unfold LeafOk; omega))
  · go_wp2_with fail
    have h2 := H1.out.below ((Below.refl _ w1).alloc (Nat.le_refl _) (.cells #[.int .i64 2, .string ⟨#[]⟩, .int .i64 0, .int .i64 9, .string ⟨#[]⟩, .slice none 0 0, .int .i64 2, .string ⟨#[]⟩, .int .i64 3, .int .i64 3, .string ⟨#[]⟩, .slice none 0 0, .int .i64 2, .string ⟨#[]⟩, .int .i64 (-1), .int .i64 3, .string ⟨#[]⟩, .slice none 0 0, .int .i64 2, .string ⟨#[]⟩, .int .i64 (-9007199254740992), .int .i64 9007199254740992, .string ⟨#[]⟩, .slice none 0 0] 63 (0, 0)))
    refine (pick_ty B s w1.heap.size tyInts (by decide) (by decide) _ h2.st (ty_cells _ _ (heap_alloc_new w1 _)) (by simp) (by have := H1.out.lt; omega)).mono ?_
    rintro e w3 ⟨⟨x, hx, rfl⟩, t3, k3⟩
    have h3 := h2.step hsl t3 k3
    obtain ⟨⟨b0, b1, b2, b3, b4, b5⟩, b6, b7, b8, b9, ba, bb⟩ := cells6 h3.cell
    have H3 := Lib.hid h3
    clear h2 t3 k3 h3
    obtain ⟨x, y⟩ := x
    unfold tyV
    have hxy : x ≤ y ∧ -9007199254740992 ≤ x ∧ y ≤ 9007199254740992 := by simp [tyInts] at hx; omega
    go_wp2_with fail
    refine bodyPost_ret (results_cell_row rfl _ _ w.heap.size 63 #[.int .i64 2, .string ⟨#[]⟩, .int .i64 (x), .int .i64 (y), .string ⟨#[]⟩, .slice none 0 0] (0, 0) _ rfl (set6 H3.out.cell _ _ _ _ _ _) Try.underlying63 rfl (by kernel_rfl)) rfl ?_
    exact typ_post H3.out hsl 2 ⟨#[]⟩ (x) (y) ⟨#[]⟩ none 0 0 (TyOk.leaf (by unfold LeafOk; omega))
  · go_wp2_with fail
    have h2 := H1.out.below ((Below.refl _ w1).alloc (Nat.le_refl _) (.cells #[.int .i64 730000, .int .i64 730003, .int .i64 730005] 3 (0, 0)))
    refine (pick_int B s w1.heap.size [730000, 730003, 730005] (by decide) (by decide) _ h2.st (heap_alloc_new w1 _)).mono ?_
    rintro e w3 ⟨⟨x, hx, rfl⟩, t3, k3⟩
    have h3 := h2.step hsl t3 k3
    obtain ⟨⟨b0, b1, b2, b3, b4, b5⟩, b6, b7, b8, b9, ba, bb⟩ := cells6 h3.cell
    have H3 := Lib.hid h3
    clear h2 t3 k3 h3
    simp only [List.mem_cons, List.not_mem_nil, or_false] at hx
    go_wp2_with fail
    refine bodyPost_ret (results_cell_row rfl _ _ w.heap.size 63 #[.int .i64 4, .string ⟨#[]⟩, .int .i64 (730000), .int .i64 (x), .string ⟨#[]⟩, .slice none 0 0] (0, 0) _ rfl (set6 H3.out.cell _ _ _ _ _ _) Try.underlying63 rfl (by kernel_rfl)) rfl ?_
    exact typ_post H3.out hsl 4 ⟨#[]⟩ (730000) (x) ⟨#[]⟩ none 0 0 (TyOk.leaf (by unfold LeafOk; omega))
  · go_wp2_with fail
    have h2 := H1.out.below ((Below.refl _ w1).alloc (Nat.le_refl _) (.cells #[.string ⟨#[46, 42]⟩, .string ⟨#[91, 97, 45, 99, 93, 42]⟩, .string ⟨#[40, 91, 97, 45, 99, 93, 42, 41, 45, 40, 91, 48, 45, 57, 93, 42, 41]⟩, .string ⟨#[91, 48, 45, 57, 93]⟩, .string ⟨#[97, 124, 98, 124, 99]⟩, .string ⟨#[91, 97, 45, 99, 93, 42]⟩] 9 (0, 0)))
    refine (pick_str B s w1.heap.size pats (by decide) (by decide) _ h2.st (heap_alloc_new w1 _)).mono ?_
    rintro e w3 ⟨⟨x, hx, rfl⟩, t3, k3⟩
    have h3 := h2.step hsl t3 k3
    obtain ⟨⟨b0, b1, b2, b3, b4, b5⟩, b6, b7, b8, b9, ba, bb⟩ := cells6 h3.cell
    have H3 := Lib.hid (And.intro h3 hx)
    clear h2 t3 k3 h3 hx
    go_wp2_with fail
    refine bodyPost_ret (results_cell_row rfl _ _ w.heap.size 63 #[.int .i64 5, .string ⟨#[]⟩, .int .i64 (0), .int .i64 (0), .string x, .slice none 0 0] (0, 0) _ rfl (set6 H3.out.1.cell _ _ _ _ _ _) Try.underlying63 rfl (by kernel_rfl)) rfl ?_
    exact typ_post H3.out.1 hsl 5 ⟨#[]⟩ (0) (0) x none 0 0 (TyOk.leaf (Or.inr (Or.inr (Or.inr (Or.inr (Or.inr ⟨rfl, H3.out.2⟩))))))
  · go_wp2_with fail
    have h2 := H1.out.below ((Below.refl _ w1).alloc (Nat.le_refl _) (.cells #[.string ⟨#[46, 42]⟩, .string ⟨#[91, 97, 45, 99, 93, 42]⟩, .string ⟨#[40, 91, 97, 45, 99, 93, 42, 41, 45, 40, 91, 48, 45, 57, 93, 42, 41]⟩, .string ⟨#[91, 48, 45, 57, 93]⟩, .string ⟨#[97, 124, 98, 124, 99]⟩, .string ⟨#[91, 97, 45, 99, 93, 42]⟩] 9 (0, 0)))
    refine (pick_str B s w1.heap.size pats (by decide) (by decide) _ h2.st (heap_alloc_new w1 _)).mono ?_
    rintro e w3 ⟨⟨x, hx, rfl⟩, t3, k3⟩
    have h3 := h2.step hsl t3 k3
    obtain ⟨⟨b0, b1, b2, b3, b4, b5⟩, b6, b7, b8, b9, ba, bb⟩ := cells6 h3.cell
    have H3 := Lib.hid (And.intro h3 hx)
    clear h2 t3 k3 h3 hx
    go_wp2_with fail
    refine bodyPost_ret (results_cell_row rfl _ _ w.heap.size 63 #[.int .i64 5, .string ⟨#[]⟩, .int .i64 (0), .int .i64 (0), .string x, .slice none 0 0] (0, 0) _ rfl (set6 H3.out.1.cell _ _ _ _ _ _) Try.underlying63 rfl (by kernel_rfl)) rfl ?_
    exact typ_post H3.out.1 hsl 5 ⟨#[]⟩ (0) (0) x none 0 0 (TyOk.leaf (Or.inr (Or.inr (Or.inr (Or.inr (Or.inr ⟨rfl, H3.out.2⟩))))))
  · go_wp2_with fail
    refine bodyPost_ret (results_cell_row rfl _ _ w.heap.size 63 #[.int .i64 3, .string ⟨#[]⟩, .int .i64 (0), .int .i64 (0), .string ⟨#[]⟩, .slice none 0 0] (0, 0) _ rfl (set6 H1.out.cell _ _ _ _ _ _) Try.underlying63 rfl (by kernel_rfl)) rfl ?_
    exact typ_post H1.out hsl 3 ⟨#[]⟩ (0) (0) ⟨#[]⟩ none 0 0 (TyOk.leaf (by unfold LeafOk; omega))
  · go_wp2_with fail
    refine bodyPost_ret (results_cell_row rfl _ _ w.heap.size 63 #[.int .i64 0, .string ⟨#[]⟩, .int .i64 (0), .int .i64 (0), .string ⟨#[]⟩, .slice none 0 0] (0, 0) _ rfl (set6 H1.out.cell _ _ _ _ _ _) Try.underlying63 rfl (by kernel_rfl)) rfl ?_
    exact typ_post H1.out hsl 0 ⟨#[]⟩ (0) (0) ⟨#[]⟩ none 0 0 (TyOk.leaf (by unfold LeafOk; omega))
  · go_wp2_with fail
    have h2 := H1.out.below ((Below.refl _ w1).alloc (Nat.le_refl _) (.cells #[.int .i64 0, .int .i64 0, .int .i64 1] 3 (0, 0)))
    refine (pick_int B s w1.heap.size [0, 0, 1] (by decide) (by decide) _ h2.st (heap_alloc_new w1 _)).mono ?_
    rintro e w3 ⟨⟨x, hx, rfl⟩, t3, k3⟩
    have h3 := h2.step hsl t3 k3
    obtain ⟨⟨b0, b1, b2, b3, b4, b5⟩, b6, b7, b8, b9, ba, bb⟩ := cells6 h3.cell
    have H3 := Lib.hid h3
    clear h2 t3 k3 h3
    simp only [List.mem_cons, List.not_mem_nil, or_false] at hx
    go_wp2_with fail
    refine bodyPost_ret (results_cell_row rfl _ _ w.heap.size 63 #[.int .i64 1, .string ⟨#[]⟩, .int .i64 (x), .int .i64 (1), .string ⟨#[]⟩, .slice none 0 0] (0, 0) _ rfl (set6 H3.out.cell _ _ _ _ _ _) Try.underlying63 rfl (by kernel_rfl)) rfl ?_
    exact typ_post H3.out hsl 1 ⟨#[]⟩ (x) (1) ⟨#[]⟩ none 0 0 (TyOk.leaf (by unfold LeafOk; omega))
  · go_wp2_with fail
    have h2 := H1.out.below ((Below.refl _ w1).alloc (Nat.le_refl _) (.cells #[.int .i64 2, .string ⟨#[]⟩, .int .i64 0, .int .i64 9, .string ⟨#[]⟩, .slice none 0 0, .int .i64 2, .string ⟨#[]⟩, .int .i64 3, .int .i64 3, .string ⟨#[]⟩, .slice none 0 0, .int .i64 2, .string ⟨#[]⟩, .int .i64 (-1), .int .i64 3, .string ⟨#[]⟩, .slice none 0 0, .int .i64 2, .string ⟨#[]⟩, .int .i64 (-9007199254740992), .int .i64 9007199254740992, .string ⟨#[]⟩, .slice none 0 0] 63 (0, 0)))
    refine (pick_ty B s w1.heap.size tyInts (by decide) (by decide) _ h2.st (ty_cells _ _ (heap_alloc_new w1 _)) (by simp) (by have := H1.out.lt; omega)).mono ?_
    rintro e w3 ⟨⟨x, hx, rfl⟩, t3, k3⟩
    have h3 := h2.step hsl t3 k3
    obtain ⟨⟨b0, b1, b2, b3, b4, b5⟩, b6, b7, b8, b9, ba, bb⟩ := cells6 h3.cell
    have H3 := Lib.hid h3
    clear h2 t3 k3 h3
    obtain ⟨x, y⟩ := x
    unfold tyV
    have hxy : x ≤ y ∧ -9007199254740992 ≤ x ∧ y ≤ 9007199254740992 := by simp [tyInts] at hx; omega
    go_wp2_with fail
    refine bodyPost_ret (results_cell_row rfl _ _ w.heap.size 63 #[.int .i64 2, .string ⟨#[]⟩, .int .i64 (x), .int .i64 (y), .string ⟨#[]⟩, .slice none 0 0] (0, 0) _ rfl (set6 H3.out.cell _ _ _ _ _ _) Try.underlying63 rfl (by kernel_rfl)) rfl ?_
    exact typ_post H3.out hsl 2 ⟨#[]⟩ (x) (y) ⟨#[]⟩ none 0 0 (TyOk.leaf (by unfold LeafOk; omega))
  · go_wp2_with fail
    have h2 := H1.out.below ((Below.refl _ w1).alloc (Nat.le_refl _) (.cells #[.int .i64 730000, .int .i64 730003, .int .i64 730005] 3 (0, 0)))
    refine (pick_int B s w1.heap.size [730000, 730003, 730005] (by decide) (by decide) _ h2.st (heap_alloc_new w1 _)).mono ?_
    rintro e w3 ⟨⟨x, hx, rfl⟩, t3, k3⟩
    have h3 := h2.step hsl t3 k3
    obtain ⟨⟨b0, b1, b2, b3, b4, b5⟩, b6, b7, b8, b9, ba, bb⟩ := cells6 h3.cell
    have H3 := Lib.hid h3
    clear h2 t3 k3 h3
    simp only [List.mem_cons, List.not_mem_nil, or_false] at hx
    go_wp2_with fail
    refine bodyPost_ret (results_cell_row rfl _ _ w.heap.size 63 #[.int .i64 4, .string ⟨#[]⟩, .int .i64 (730000), .int .i64 (x), .string ⟨#[]⟩, .slice none 0 0] (0, 0) _ rfl (set6 H3.out.cell _ _ _ _ _ _) Try.underlying63 rfl (by kernel_rfl)) rfl ?_
    exact typ_post H3.out hsl 4 ⟨#[]⟩ (730000) (x) ⟨#[]⟩ none 0 0 (TyOk.leaf (by unfold LeafOk; omega))
  · go_wp2_with fail
    have h2 := H1.out.below ((Below.refl _ w1).alloc (Nat.le_refl _) (.cells #[.string ⟨#[46, 42]⟩, .string ⟨#[91, 97, 45, 99, 93, 42]⟩, .string ⟨#[40, 91, 97, 45, 99, 93, 42, 41, 45, 40, 91, 48, 45, 57, 93, 42, 41]⟩, .string ⟨#[91, 48, 45, 57, 93]⟩, .string ⟨#[97, 124, 98, 124, 99]⟩, .string ⟨#[91, 97, 45, 99, 93, 42]⟩] 9 (0, 0)))
    refine (pick_str B s w1.heap.size pats (by decide) (by decide) _ h2.st (heap_alloc_new w1 _)).mono ?_
    rintro e w3 ⟨⟨x, hx, rfl⟩, t3, k3⟩
    have h3 := h2.step hsl t3 k3
    obtain ⟨⟨b0, b1, b2, b3, b4, b5⟩, b6, b7, b8, b9, ba, bb⟩ := cells6 h3.cell
    have H3 := Lib.hid (And.intro h3 hx)
    clear h2 t3 k3 h3 hx
    go_wp2_with fail
    refine bodyPost_ret (results_cell_row rfl _ _ w.heap.size 63 #[.int .i64 5, .string ⟨#[]⟩, .int .i64 (0), .int .i64 (0), .string x, .slice none 0 0] (0, 0) _ rfl (set6 H3.out.1.cell _ _ _ _ _ _) Try.underlying63 rfl (by kernel_rfl)) rfl ?_
    exact typ_post H3.out.1 hsl 5 ⟨#[]⟩ (0) (0) x none 0 0 (TyOk.leaf (Or.inr (Or.inr (Or.inr (Or.inr (Or.inr ⟨rfl, H3.out.2⟩))))))
  · go_wp2_with fail
    have h2 := H1.out.below ((Below.refl _ w1).alloc (Nat.le_refl _) (.cells #[.string ⟨#[46, 42]⟩, .string ⟨#[91, 97, 45, 99, 93, 42]⟩, .string ⟨#[40, 91, 97, 45, 99, 93, 42, 41, 45, 40, 91, 48, 45, 57, 93, 42, 41]⟩, .string ⟨#[91, 48, 45, 57, 93]⟩, .string ⟨#[97, 124, 98, 124, 99]⟩, .string ⟨#[91, 97, 45, 99, 93, 42]⟩] 9 (0, 0)))
    refine (pick_str B s w1.heap.size pats (by decide) (by decide) _ h2.st (heap_alloc_new w1 _)).mono ?_
    rintro e w3 ⟨⟨x, hx, rfl⟩, t3, k3⟩
    have h3 := h2.step hsl t3 k3
    obtain ⟨⟨b0, b1, b2, b3, b4, b5⟩, b6, b7, b8, b9, ba, bb⟩ := cells6 h3.cell
    have H3 := Lib.hid (And.intro h3 hx)
    clear h2 t3 k3 h3 hx
    go_wp2_with fail
    refine bodyPost_ret (results_cell_row rfl _ _ w.heap.size 63 #[.int .i64 5, .string ⟨#[]⟩, .int .i64 (0), .int .i64 (0), .string x, .slice none 0 0] (0, 0) _ rfl (set6 H3.out.1.cell _ _ _ _ _ _) Try.underlying63 rfl (by kernel_rfl)) rfl ?_
    exact typ_post H3.out.1 hsl 5 ⟨#[]⟩ (0) (0) x none 0 0 (TyOk.leaf (Or.inr (Or.inr (Or.inr (Or.inr (Or.inr ⟨rfl, H3.out.2⟩))))))
  · go_wp2_with fail
    refine bodyPost_ret (results_cell_row rfl _ _ w.heap.size 63 #[.int .i64 3, .string ⟨#[]⟩, .int .i64 (0), .int .i64 (0), .string ⟨#[]⟩, .slice none 0 0] (0, 0) _ rfl (set6 H1.out.cell _ _ _ _ _ _) Try.underlying63 rfl (by kernel_rfl)) rfl ?_
    exact typ_post H1.out hsl 3 ⟨#[]⟩ (0) (0) ⟨#[]⟩ none 0 0 (TyOk.leaf (by unfold LeafOk; omega))
set_option maxRecDepth 100000 in
set_option maxHeartbeats 4000000 in
theorem typ_succ (d : Nat) (hd : d < 10) (ih : TypSaid d) : TypSaid (d + 1) := by
  intro B s w h
  have hsl := h.lt
  have h0 : TypAt B s w (w.alloc (.cells #[.int .i64 0, .string ⟨#[]⟩, .int .i64 0, .int .i64 0, .string ⟨#[]⟩, .slice none 0 0] 63 (0, 0))) := ⟨h.below ((Below.refl w.heap.size w).alloc (Nat.le_refl _) _) hsl, KeepS.of_below ((Below.refl w.heap.size w).alloc (Nat.le_refl _) _), heap_alloc_new w _⟩
  have hnx := next_any B s 14 (by decide) _ h0.st
  have H0 := Lib.hid (And.intro h0 hnx)
  clear h h0 hnx
  have IH := Lib.hid ih
  clear ih
  have wd : IntKind.i64.wrap ((d : Int) + 1 - 1) = (d : Int) := by rw [IntWalk.i64_in _ ⟨by omega, by omega⟩]; omega
  have wd2 : IntKind.i64.wrap (d : Int) = (d : Int) := IntWalk.i64_in _ ⟨by omega, by omega⟩
  have td : ((d : Int) + 1 == 0) = false := by rw [beq_eq_false_iff_ne]; omega
  rw [show (((d + 1 : Nat)) : Int) = (d : Int) + 1 from rfl]
  go_enter Try.func32, Try.ntmps32
  go_wp2_with fail
  refine H0.out.2.mono ?_
  rintro e w1 ⟨⟨x, rfl, x0, x1, -⟩, t1, k1, -⟩
  have x14 := x1 (by decide)
  have h1 := H0.out.1.step hsl t1 k1
  obtain ⟨⟨a0, a1, a2, a3, a4, a5⟩, a6, a7, a8, a9, aa, ab⟩ := cells6 h1.cell
  have H1 := Lib.hid h1
  clear t1 k1 h1 x1
  rcases (show x = 0 ∨ x = 1 ∨ x = 2 ∨ x = 3 ∨ x = 4 ∨ x = 5 ∨ x = 6 ∨ x = 7 ∨ x = 8 ∨ x = 9 ∨ x = 10 ∨ 11 ≤ x by omega) with rfl | rfl | rfl | rfl | rfl | rfl | rfl | rfl | rfl | rfl | rfl | hx11
  · go_wp2_with fail
    refine bodyPost_ret (results_cell_row rfl _ _ w.heap.size 63 #[.int .i64 0, .string ⟨#[]⟩, .int .i64 (0), .int .i64 (0), .string ⟨#[]⟩, .slice none 0 0] (0, 0) _ rfl (set6 H1.out.cell _ _ _ _ _ _) Try.underlying63 rfl (by kernel_rfl)) rfl ?_
    exact typ_post H1.out hsl 0 ⟨#[]⟩ (0) (0) ⟨#[]⟩ none 0 0 (TyOk.leaf (by unfold LeafOk; omega))
  · go_wp2_with fail
    have h2 := H1.out.below ((Below.refl _ w1).alloc (Nat.le_refl _) (.cells #[.int .i64 0, .int .i64 0, .int .i64 1] 3 (0, 0)))
    refine (pick_int B s w1.heap.size [0, 0, 1] (by decide) (by decide) _ h2.st (heap_alloc_new w1 _)).mono ?_
    rintro e w3 ⟨⟨x, hx, rfl⟩, t3, k3⟩
    have h3 := h2.step hsl t3 k3
    obtain ⟨⟨b0, b1, b2, b3, b4, b5⟩, b6, b7, b8, b9, ba, bb⟩ := cells6 h3.cell
    have H3 := Lib.hid h3
    clear h2 t3 k3 h3
    simp only [List.mem_cons, List.not_mem_nil, or_false] at hx
    go_wp2_with fail
    refine bodyPost_ret (results_cell_row rfl _ _ w.heap.size 63 #[.int .i64 1, .string ⟨#[]⟩, .int .i64 (x), .int .i64 (1), .string ⟨#[]⟩, .slice none 0 0] (0, 0) _ rfl (set6 H3.out.cell _ _ _ _ _ _) Try.underlying63 rfl (by kernel_rfl)) rfl ?_
    exact typ_post H3.out hsl 1 ⟨#[]⟩ (x) (1) ⟨#[]⟩ none 0 0 (TyOk.leaf (by unfold LeafOk; omega))
  · go_wp2_with fail
    have h2 := H1.out.below ((Below.refl _ w1).alloc (Nat.le_refl _) (.cells #[.int .i64 2, .string ⟨#[]⟩, .int .i64 0, .int .i64 9, .string ⟨#[]⟩, .slice none 0 0, .int .i64 2, .string ⟨#[]⟩, .int .i64 3, .int .i64 3, .string ⟨#[]⟩, .slice none 0 0, .int .i64 2, .string ⟨#[]⟩, .int .i64 (-1), .int .i64 3, .string ⟨#[]⟩, .slice none 0 0, .int .i64 2, .string ⟨#[]⟩, .int .i64 (-9007199254740992), .int .i64 9007199254740992, .string ⟨#[]⟩, .slice none 0 0] 63 (0, 0)))
    refine (pick_ty B s w1.heap.size tyInts (by decide) (by decide) _ h2.st (ty_cells _ _ (heap_alloc_new w1 _)) (by simp) (by have := H1.out.lt; omega)).mono ?_
    rintro e w3 ⟨⟨x, hx, rfl⟩, t3, k3⟩
    have h3 := h2.step hsl t3 k3
    obtain ⟨⟨b0, b1, b2, b3, b4, b5⟩, b6, b7, b8, b9, ba, bb⟩ := cells6 h3.cell
    have H3 := Lib.hid h3
    clear h2 t3 k3 h3
    obtain ⟨x, y⟩ := x
    unfold tyV
    have hxy : x ≤ y ∧ -9007199254740992 ≤ x ∧ y ≤ 9007199254740992 := by simp [tyInts] at hx; omega
    go_wp2_with fail
    refine bodyPost_ret (results_cell_row rfl _ _ w.heap.size 63 #[.int .i64 2, .string ⟨#[]⟩, .int .i64 (x), .int .i64 (y), .string ⟨#[]⟩, .slice none 0 0] (0, 0) _ rfl (set6 H3.out.cell _ _ _ _ _ _) Try.underlying63 rfl (by kernel_rfl)) rfl ?_
    exact typ_post H3.out hsl 2 ⟨#[]⟩ (x) (y) ⟨#[]⟩ none 0 0 (TyOk.leaf (by unfold LeafOk; omega))
  · go_wp2_with fail
    have h2 := H1.out.below ((Below.refl _ w1).alloc (Nat.le_refl _) (.cells #[.int .i64 730000, .int .i64 730003, .int .i64 730005] 3 (0, 0)))
    refine (pick_int B s w1.heap.size [730000, 730003, 730005] (by decide) (by decide) _ h2.st (heap_alloc_new w1 _)).mono ?_
    rintro e w3 ⟨⟨x, hx, rfl⟩, t3, k3⟩
    have h3 := h2.step hsl t3 k3
    obtain ⟨⟨b0, b1, b2, b3, b4, b5⟩, b6, b7, b8, b9, ba, bb⟩ := cells6 h3.cell
    have H3 := Lib.hid h3
    clear h2 t3 k3 h3
    simp only [List.mem_cons, List.not_mem_nil, or_false] at hx
    go_wp2_with fail
    refine bodyPost_ret (results_cell_row rfl _ _ w.heap.size 63 #[.int .i64 4, .string ⟨#[]⟩, .int .i64 (730000), .int .i64 (x), .string ⟨#[]⟩, .slice none 0 0] (0, 0) _ rfl (set6 H3.out.cell _ _ _ _ _ _) Try.underlying63 rfl (by kernel_rfl)) rfl ?_
    exact typ_post H3.out hsl 4 ⟨#[]⟩ (730000) (x) ⟨#[]⟩ none 0 0 (TyOk.leaf (by unfold LeafOk; omega))
  · go_wp2_with fail
    have h2 := H1.out.below ((Below.refl _ w1).alloc (Nat.le_refl _) (.cells #[.string ⟨#[46, 42]⟩, .string ⟨#[91, 97, 45, 99, 93, 42]⟩, .string ⟨#[40, 91, 97, 45, 99, 93, 42, 41, 45, 40, 91, 48, 45, 57, 93, 42, 41]⟩, .string ⟨#[91, 48, 45, 57, 93]⟩, .string ⟨#[97, 124, 98, 124, 99]⟩, .string ⟨#[91, 97, 45, 99, 93, 42]⟩] 9 (0, 0)))
    refine (pick_str B s w1.heap.size pats (by decide) (by decide) _ h2.st (heap_alloc_new w1 _)).mono ?_
    rintro e w3 ⟨⟨x, hx, rfl⟩, t3, k3⟩
    have h3 := h2.step hsl t3 k3
    obtain ⟨⟨b0, b1, b2, b3, b4, b5⟩, b6, b7, b8, b9, ba, bb⟩ := cells6 h3.cell
    have H3 := Lib.hid (And.intro h3 hx)
    clear h2 t3 k3 h3 hx
    go_wp2_with fail
    refine bodyPost_ret (results_cell_row rfl _ _ w.heap.size 63 #[.int .i64 5, .string ⟨#[]⟩, .int .i64 (0), .int .i64 (0), .string x, .slice none 0 0] (0, 0) _ rfl (set6 H3.out.1.cell _ _ _ _ _ _) Try.underlying63 rfl (by kernel_rfl)) rfl ?_
    exact typ_post H3.out.1 hsl 5 ⟨#[]⟩ (0) (0) x none 0 0 (TyOk.leaf (Or.inr (Or.inr (Or.inr (Or.inr (Or.inr ⟨rfl, H3.out.2⟩))))))
  · go_wp2_with fail
    have h2 := H1.out.below ((Below.refl _ w1).alloc (Nat.le_refl _) (.cells #[.string ⟨#[46, 42]⟩, .string ⟨#[91, 97, 45, 99, 93, 42]⟩, .string ⟨#[40, 91, 97, 45, 99, 93, 42, 41, 45, 40, 91, 48, 45, 57, 93, 42, 41]⟩, .string ⟨#[91, 48, 45, 57, 93]⟩, .string ⟨#[97, 124, 98, 124, 99]⟩, .string ⟨#[91, 97, 45, 99, 93, 42]⟩] 9 (0, 0)))
    refine (pick_str B s w1.heap.size pats (by decide) (by decide) _ h2.st (heap_alloc_new w1 _)).mono ?_
    rintro e w3 ⟨⟨x, hx, rfl⟩, t3, k3⟩
    have h3 := h2.step hsl t3 k3
    obtain ⟨⟨b0, b1, b2, b3, b4, b5⟩, b6, b7, b8, b9, ba, bb⟩ := cells6 h3.cell
    have H3 := Lib.hid (And.intro h3 hx)
    clear h2 t3 k3 h3 hx
    go_wp2_with fail
    refine bodyPost_ret (results_cell_row rfl _ _ w.heap.size 63 #[.int .i64 5, .string ⟨#[]⟩, .int .i64 (0), .int .i64 (0), .string x, .slice none 0 0] (0, 0) _ rfl (set6 H3.out.1.cell _ _ _ _ _ _) Try.underlying63 rfl (by kernel_rfl)) rfl ?_
    exact typ_post H3.out.1 hsl 5 ⟨#[]⟩ (0) (0) x none 0 0 (TyOk.leaf (Or.inr (Or.inr (Or.inr (Or.inr (Or.inr ⟨rfl, H3.out.2⟩))))))
  · go_wp2_with fail
    refine bodyPost_ret (results_cell_row rfl _ _ w.heap.size 63 #[.int .i64 3, .string ⟨#[]⟩, .int .i64 (0), .int .i64 (0), .string ⟨#[]⟩, .slice none 0 0] (0, 0) _ rfl (set6 H1.out.cell _ _ _ _ _ _) Try.underlying63 rfl (by kernel_rfl)) rfl ?_
    exact typ_post H1.out hsl 3 ⟨#[]⟩ (0) (0) ⟨#[]⟩ none 0 0 (TyOk.leaf (by unfold LeafOk; omega))
  · go_wp2_with fail
    refine (next_any B s 3 (by decide) _ H1.out.st).mono ?_
    rintro e w2 ⟨⟨y, rfl, y0, y1, -⟩, tw2, kw2, -⟩
    have y2 := y1 (by decide)
    have H2h := H1.out.step hsl tw2 kw2
    have H2 := Lib.hid H2h
    clear tw2 kw2 H2h y1
    go_wp2_with fail
    refine (next_any B s 3 (by decide) _ H2.out.st).mono ?_
    rintro e w3 ⟨⟨z, rfl, z0, z1, -⟩, tw3, kw3, -⟩
    have z2 := z1 (by decide)
    have H4h := H2.out.step hsl tw3 kw3
    have H4 := Lib.hid H4h
    clear tw3 kw3 H4h z1
    have wyz : IntKind.i64.wrap (y + z) = y + z := IntWalk.i64_in _ ⟨by omega, by omega⟩
    go_wp2_with fail
    refine (IH.out B s _ H4.out.st).mono ?_
    rintro e w5 ⟨⟨kd, nm, lj, hj, pt, a, l, c, rfl, ht⟩, tt, kt⟩
    have h5 := H4.out.step hsl tt kt
    have hlt := H4.out.lt
    have hal := (Below.refl w5.heap.size w5).alloc (Nat.le_refl _) (.cells #[.string ⟨#[]⟩, .int .i64 kd, .string nm, .int .i64 lj, .int .i64 hj, .string pt, .slice a l c] 89 (0, 0))
    have h6 := h5.below hal
    have ht6 : TyOk (d + 1) (w.heap.size + 1) (w5.alloc (.cells #[.string ⟨#[]⟩, .int .i64 kd, .string nm, .int .i64 lj, .int .i64 hj, .string pt, .slice a l c] 89 (0, 0))) 8 y (y + z) ⟨#[]⟩ (.slice (some ⟨w5.heap.size, 0, none⟩) 1 1) := by
      have hrow := World.ownsRow_lit (base := w.heap.size + 1) (e := 89) (size := 7) w5 (partCells ⟨#[]⟩ kd nm lj hj pt (.slice a l c)).toArray 1 (by have := h5.lt; omega) (by decide) rfl
      refine ty_of_row hrow (Nat.le_refl _) (by unfold KindOk; omega) fun i hin => ?_
      obtain rfl : i = 0 := by omega
      have hkd := ht.kind
      exact PartOk.last (xs := []) rfl ⟨#[]⟩ kd nm lj hj pt (.slice a l c) ⟨fun h => by omega, fun h => by omega⟩ (by omega) ((ht.mono (by omega)).keep hal.size fun k _ h2 => hal.block k h2)
    obtain ⟨⟨b0, b1, b2, b3, b4, b5⟩, b6, b7, b8, b9, ba, bb⟩ := cells6 h6.cell
    have H6 := Lib.hid (And.intro h6 ht6)
    clear tt kt ht h5 h6 hal ht6
    unfold tyV
    go_wp2_with fail
    refine bodyPost_ret (results_cell_row rfl _ _ w.heap.size 63 #[.int .i64 8, .string ⟨#[]⟩, .int .i64 (y), .int .i64 (y + z), .string ⟨#[]⟩, .slice (some ⟨w5.heap.size, 0, none⟩) 1 1] (0, 0) _ rfl (set6 H6.out.1.cell _ _ _ _ _ _) Try.underlying63 rfl (by kernel_rfl)) rfl ?_
    exact typ_post H6.out.1 hsl 8 ⟨#[]⟩ (y) (y + z) ⟨#[]⟩ (some ⟨w5.heap.size, 0, none⟩) 1 1 (H6.out.2)
  · go_wp2_with fail
    refine (next_any B s 2 (by decide) _ H1.out.st).mono ?_
    rintro e w2 ⟨⟨y, rfl, y0, y1, -⟩, tw2, kw2, -⟩
    have y2 := y1 (by decide)
    have H2h := H1.out.step hsl tw2 kw2
    have H2 := Lib.hid H2h
    clear tw2 kw2 H2h y1
    go_wp2_with fail
    refine (next_any B s 2 (by decide) _ H2.out.st).mono ?_
    rintro e w3 ⟨⟨z, rfl, z0, z1, -⟩, tw3, kw3, -⟩
    have z2 := z1 (by decide)
    have H4h := H2.out.step hsl tw3 kw3
    have H4 := Lib.hid H4h
    clear tw3 kw3 H4h z1
    have wyz : IntKind.i64.wrap (2 + z) = 2 + z := IntWalk.i64_in _ ⟨by omega, by omega⟩
    go_wp2_with fail
    refine (IH.out B s _ H4.out.st).mono ?_
    rintro e w5 ⟨⟨kd, nm, lj, hj, pt, a, l, c, rfl, ht⟩, tt, kt⟩
    have h5 := H4.out.step hsl tt kt
    have hlt := H4.out.lt
    have hal := (Below.refl w5.heap.size w5).alloc (Nat.le_refl _) (.cells #[.string ⟨#[]⟩, .int .i64 kd, .string nm, .int .i64 lj, .int .i64 hj, .string pt, .slice a l c] 89 (0, 0))
    have h6 := h5.below hal
    have ht6 : TyOk (d + 1) (w.heap.size + 1) (w5.alloc (.cells #[.string ⟨#[]⟩, .int .i64 kd, .string nm, .int .i64 lj, .int .i64 hj, .string pt, .slice a l c] 89 (0, 0))) 9 y (2 + z) ⟨#[91, 97, 45, 101, 93]⟩ (.slice (some ⟨w5.heap.size, 0, none⟩) 1 1) := by
      have hrow := World.ownsRow_lit (base := w.heap.size + 1) (e := 89) (size := 7) w5 (partCells ⟨#[]⟩ kd nm lj hj pt (.slice a l c)).toArray 1 (by have := h5.lt; omega) (by decide) rfl
      refine ty_of_row hrow (Nat.le_refl _) (by unfold KindOk; omega) fun i hin => ?_
      obtain rfl : i = 0 := by omega
      have hkd := ht.kind
      exact PartOk.last (xs := []) rfl ⟨#[]⟩ kd nm lj hj pt (.slice a l c) ⟨fun h => by omega, fun h => by omega⟩ (by omega) ((ht.mono (by omega)).keep hal.size fun k _ h2 => hal.block k h2)
    obtain ⟨⟨b0, b1, b2, b3, b4, b5⟩, b6, b7, b8, b9, ba, bb⟩ := cells6 h6.cell
    have H6 := Lib.hid (And.intro h6 ht6)
    clear tt kt ht h5 h6 hal ht6
    unfold tyV
    go_wp2_with fail
    refine bodyPost_ret (results_cell_row rfl _ _ w.heap.size 63 #[.int .i64 9, .string ⟨#[]⟩, .int .i64 (y), .int .i64 (2 + z), .string ⟨#[91, 97, 45, 101, 93]⟩, .slice (some ⟨w5.heap.size, 0, none⟩) 1 1] (0, 0) _ rfl (set6 H6.out.1.cell _ _ _ _ _ _) Try.underlying63 rfl (by kernel_rfl)) rfl ?_
    exact typ_post H6.out.1 hsl 9 ⟨#[]⟩ (y) (2 + z) ⟨#[91, 97, 45, 101, 93]⟩ (some ⟨w5.heap.size, 0, none⟩) 1 1 (H6.out.2)
  · go_wp2_with fail
    refine (IH.out B s _ H1.out.st).mono ?_
    rintro e w5 ⟨⟨kd, nm, lo, hi, pat, a, l, c, rfl, ht⟩, tt, kt⟩
    have h5 := H1.out.step hsl tt kt
    have hlt := H1.out.lt
    have hlt5 := h5.lt
    have hop := option_any d (w.heap.size + 1) kd lo hi nm pat a l c w5 (by omega) (ht.mono (by omega))
    have H5 := Lib.hid (And.intro h5 hop)
    clear tt kt ht h5 hop
    go_wp2_with fail
    refine H5.out.2.mono ?_
    rintro e w6 ⟨⟨q, rfl, ⟨a6, l6, c6, rfl⟩, ht6⟩, hb6⟩
    have h6 := H5.out.1.below hb6
    obtain ⟨⟨b0, b1, b2, b3, b4, b5⟩, b6, b7, b8, b9, ba, bb⟩ := cells6 h6.cell
    have H6 := Lib.hid (And.intro h6 ht6)
    clear hb6 h6 ht6
    unfold tyV
    go_wp2_with fail
    refine bodyPost_ret (results_cell_row rfl _ _ w.heap.size 63 #[.int .i64 7, .string ⟨#[]⟩, .int .i64 (0), .int .i64 (0), .string ⟨#[]⟩, .slice a6 l6 c6] (0, 0) _ rfl (set6 H6.out.1.cell _ _ _ _ _ _) Try.underlying63 rfl (by kernel_rfl)) rfl ?_
    exact typ_post H6.out.1 hsl 7 ⟨#[]⟩ (0) (0) ⟨#[]⟩ a6 l6 c6 (H6.out.2)
  · go_wp2_with fail
    have h2 : TyRow B s w1.heap.size d 7 w 0 (.slice none 0 0) [] (w1.alloc (.cells #[.int .i64 7, .string ⟨#[]⟩, .int .i64 0, .int .i64 0, .string ⟨#[]⟩, .slice none 0 0] 63 (0, 0))) :=
      ⟨H1.out.below ((Below.refl _ w1).alloc (Nat.le_refl _) _), H1.out.lt, heap_alloc_new w1 _, World.ownsRow_nil _ _ _ _, fun j hj => absurd hj (Nat.not_lt_zero j)⟩
    refine (next_any B s 3 (by decide) _ h2.at_.st).mono ?_
    rintro e w2 ⟨⟨y, rfl, y0, y1, -⟩, tw2, kw2, -⟩
    have y2 := y1 (by decide)
    have h3 := h2.step hsl tw2 kw2
    have H3 := Lib.hid h3
    clear tw2 kw2 h2 h3 y1
    have wy : IntKind.i64.wrap (1 + y) = 1 + y := IntWalk.i64_in _ ⟨by omega, by omega⟩
    go_wp2_with fail
    go_loopw [112] (fun iv wr => ∃ (i : Nat) (a : Option Addr) (c : Nat) (xs : List Value), iv = .int .i64 i ∧ (i : Int) ≤ 1 + y ∧ TyRow B s w1.heap.size d 7 w i (.slice a i c) xs wr) (fun iv _ => 5 - (intOf iv).toNat)
    case atStart => exact ⟨0, none, 0, [], rfl, by omega, H3.out⟩
    case round =>
      obtain ⟨i, a, c, xs, rfl, hiy, hrow⟩ := hrel
      have wi : IntKind.i64.wrap ((i : Int) + 1) = (i : Int) + 1 := IntWalk.i64_in _ ⟨by omega, by omega⟩
      obtain ⟨⟨b0, b1, b2, b3, b4, b5⟩, b6, b7, b8, b9, ba, bb⟩ := cells6 hrow.cell
      obtain ⟨⟨d0, d1, d2, d3, d4, d5⟩, d6, d7, d8, d9, da, db⟩ := cells6 hrow.at_.cell
      have hTl := hrow.lt
      by_cases hlt : (i : Int) < 1 + y
      · have hown : ∀ k, (Value.slice a i c).ownBlock = some k → k < wr.heap.size := fun k hk => (World.ownsRow.lt hrow.row k hk).2
        have HR := Lib.hid (And.intro hrow.drew hown)
        have HF := Lib.hid (fun W => fieldName_any i (by omega) W)
        clear hrow hown
        go_wp2_with fail
        go_region_law (first
          | (refine step_append_el elem_part rfl _ _ 61 rfl Try.underlying61 (w1.heap.size + 1) _ i xs rfl (H5.out.1.row.alloc _) (by omega) w5.heap.size 1 (partCells nm kd nn lj hj pt (.slice a5 l5 c5)) rfl rfl (heap_alloc_new w5 _) (by simp [partCells, Value.oneCell']) (by have := H5.out.1.lt; simp; omega) ?_
             intro g cap w7 hrow7 hg7 hv7
             have hb7 := ((Below.refl (w1.heap.size + 1) w5).alloc (by have := H5.out.1.lt; omega) _).grown hg7 (by have := H5.out.1.lt; simp; omega) (fun k hk => (World.ownsRow.lt (H5.out.1.row.alloc (.cells (partCells nm kd nn lj hj pt (.slice a5 l5 c5)).toArray 89 (0, 0))) k hk).1)
             obtain ⟨⟨f0, f1, f2, f3, f4, f5⟩, f6, f7, f8, f9, fa, fb⟩ := cells6 ((hb7.block _ (Nat.lt_succ_self _)).trans H5.out.1.cell)
             have h8 := H5.out.1.app hsl _ nm kd nn lj hj pt (.slice a5 l5 c5) ⟨_, _, _, rfl⟩ g cap (⟨fun h => by omega, fun _ => letter_in hnm (by omega)⟩) wr.heap.size hTl HR.out.2 H5.out.2 hrow7 hg7 (hv7.imp id (fun h => by simp at h; omega))
             have H8 := Lib.hid h8
             clear hb7 h8 hrow7 hg7 hv7)
          | (go_simp; go_at_call 59; refine (HF.out _).mono ?_; rintro e wf ⟨⟨nm, hnm, rfl⟩, rfl⟩)
          | (go_simp; go_at_call 32; (try rw [wd2]); refine (IH.out B s _ HR.out.1.at_.st).mono ?_
             rintro e w5 ⟨⟨kd, nn, lj, hj, pt, a5, l5, c5, rfl, ht⟩, tt, kt⟩
             have h5 := HR.out.1.step hsl tt kt
             obtain ⟨⟨e0, e1, e2, e3, e4, e5⟩, e6, e7, e8, e9, ea, eb⟩ := cells6 h5.cell
             have ey := fun o => Lib.cell?_alloc_some (W := w5) o e5
             have H5 := Lib.hid (And.intro h5 ht)
             clear tt kt h5 ht
             unfold tyV))
        all_goals
          go_wp2_with fail
          exact ⟨⟨i + 1, _, _, _, by simp, by omega, H8.out⟩, by simp [intOf]; omega⟩
      · have hl2 : decide ((i : Int) < 1 + y) = false := decide_eq_false hlt
        have hey : (i : Int) = 1 + y := by omega
        have hty : TyOk (d + 1) (w.heap.size + 1) wr 7 0 0 ⟨#[]⟩ (.slice a i c) := ty_of_row hrow.row (by have := hrow.low; omega) (by unfold KindOk; omega) fun j hj => (hrow.parts j hj).imp fun k h1 _ => by have := hrow.low; have := h1.1; omega
        have HR := Lib.hid (And.intro hrow.at_ hty)
        clear hrow hty
        go_wp2_with fail
        refine bodyPost_ret (results_cell_row rfl _ _ w.heap.size 63 #[.int .i64 7, .string ⟨#[]⟩, .int .i64 (0), .int .i64 (0), .string ⟨#[]⟩, .slice a i c] (0, 0) _ rfl (set6 HR.out.1.cell _ _ _ _ _ _) Try.underlying63 rfl (by kernel_rfl)) rfl ?_
        exact typ_post HR.out.1 hsl 7 ⟨#[]⟩ (0) (0) ⟨#[]⟩ a i c (HR.out.2)
  · have q0 : (x == 0) = false := by rw [beq_eq_false_iff_ne]; omega
    have q1 : (x == 1) = false := by rw [beq_eq_false_iff_ne]; omega
    have q2 : (x == 2) = false := by rw [beq_eq_false_iff_ne]; omega
    have q3 : (x == 3) = false := by rw [beq_eq_false_iff_ne]; omega
    have q4 : (x == 4) = false := by rw [beq_eq_false_iff_ne]; omega
    have q5 : (x == 5) = false := by rw [beq_eq_false_iff_ne]; omega
    have q6 : (x == 6) = false := by rw [beq_eq_false_iff_ne]; omega
    have q7 : (x == 7) = false := by rw [beq_eq_false_iff_ne]; omega
    have q8 : (x == 8) = false := by rw [beq_eq_false_iff_ne]; omega
    have q9 : (x == 9) = false := by rw [beq_eq_false_iff_ne]; omega
    have q10 : (x == 10) = false := by rw [beq_eq_false_iff_ne]; omega
    go_wp2_with fail
    have h2 : TyRow B s w1.heap.size d 6 w 0 (.slice none 0 0) [] (w1.alloc (.cells #[.int .i64 6, .string ⟨#[]⟩, .int .i64 0, .int .i64 0, .string ⟨#[]⟩, .slice none 0 0] 63 (0, 0))) :=
      ⟨H1.out.below ((Below.refl _ w1).alloc (Nat.le_refl _) _), H1.out.lt, heap_alloc_new w1 _, World.ownsRow_nil _ _ _ _, fun j hj => absurd hj (Nat.not_lt_zero j)⟩
    refine (next_any B s 5 (by decide) _ h2.at_.st).mono ?_
    rintro e w2 ⟨⟨y, rfl, y0, y1, -⟩, tw2, kw2, -⟩
    have y2 := y1 (by decide)
    have h3 := h2.step hsl tw2 kw2
    have H3 := Lib.hid h3
    clear tw2 kw2 h2 h3 y1
    go_wp2_with fail
    go_loopw [133] (fun iv wr => ∃ (i : Nat) (a : Option Addr) (c : Nat) (xs : List Value), iv = .int .i64 i ∧ (i : Int) ≤ y ∧ TyRow B s w1.heap.size d 6 w i (.slice a i c) xs wr) (fun iv _ => 5 - (intOf iv).toNat)
    case atStart => exact ⟨0, none, 0, [], rfl, by omega, H3.out⟩
    case round =>
      obtain ⟨i, a, c, xs, rfl, hiy, hrow⟩ := hrel
      have wi : IntKind.i64.wrap ((i : Int) + 1) = (i : Int) + 1 := IntWalk.i64_in _ ⟨by omega, by omega⟩
      obtain ⟨⟨b0, b1, b2, b3, b4, b5⟩, b6, b7, b8, b9, ba, bb⟩ := cells6 hrow.cell
      obtain ⟨⟨d0, d1, d2, d3, d4, d5⟩, d6, d7, d8, d9, da, db⟩ := cells6 hrow.at_.cell
      have hTl := hrow.lt
      by_cases hlt : (i : Int) < y
      · have hown : ∀ k, (Value.slice a i c).ownBlock = some k → k < wr.heap.size := fun k hk => (World.ownsRow.lt hrow.row k hk).2
        have HR := Lib.hid (And.intro hrow.drew hown)
        have HF := Lib.hid (fun W => fieldName_any i (by omega) W)
        clear hrow hown
        go_wp2_with fail
        go_region_law (first
          | (refine step_append_el elem_part rfl _ _ 61 rfl Try.underlying61 (w1.heap.size + 1) _ i xs rfl (H5.out.1.row.alloc _) (by omega) w5.heap.size 1 (partCells nm kd nn lj hj pt (.slice a5 l5 c5)) rfl rfl (heap_alloc_new w5 _) (by simp [partCells, Value.oneCell']) (by have := H5.out.1.lt; simp; omega) ?_
             intro g cap w7 hrow7 hg7 hv7
             have hb7 := ((Below.refl (w1.heap.size + 1) w5).alloc (by have := H5.out.1.lt; omega) _).grown hg7 (by have := H5.out.1.lt; simp; omega) (fun k hk => (World.ownsRow.lt (H5.out.1.row.alloc (.cells (partCells nm kd nn lj hj pt (.slice a5 l5 c5)).toArray 89 (0, 0))) k hk).1)
             obtain ⟨⟨f0, f1, f2, f3, f4, f5⟩, f6, f7, f8, f9, fa, fb⟩ := cells6 ((hb7.block _ (Nat.lt_succ_self _)).trans H5.out.1.cell)
             have h8 := H5.out.1.app hsl _ nm kd nn lj hj pt (.slice a5 l5 c5) ⟨_, _, _, rfl⟩ g cap (⟨fun _ => hnm, fun h => by omega⟩) wr.heap.size hTl HR.out.2 H5.out.2 hrow7 hg7 (hv7.imp id (fun h => by simp at h; omega))
             have H8 := Lib.hid h8
             clear hb7 h8 hrow7 hg7 hv7)
          | (go_simp; go_at_call 59; refine (HF.out _).mono ?_; rintro e wf ⟨⟨nm, hnm, rfl⟩, rfl⟩)
          | (go_simp; go_at_call 32; (try rw [wd2]); refine (IH.out B s _ HR.out.1.at_.st).mono ?_
             rintro e w5 ⟨⟨kd, nn, lj, hj, pt, a5, l5, c5, rfl, ht⟩, tt, kt⟩
             have h5 := HR.out.1.step hsl tt kt
             obtain ⟨⟨e0, e1, e2, e3, e4, e5⟩, e6, e7, e8, e9, ea, eb⟩ := cells6 h5.cell
             have ey := fun o => Lib.cell?_alloc_some (W := w5) o e5
             have H5 := Lib.hid (And.intro h5 ht)
             clear tt kt h5 ht
             unfold tyV))
        all_goals
          go_wp2_with fail
          exact ⟨⟨i + 1, _, _, _, by simp, by omega, H8.out⟩, by simp [intOf]; omega⟩
      · have hl2 : decide ((i : Int) < y) = false := decide_eq_false hlt
        have hey : (i : Int) = y := by omega
        have hty : TyOk (d + 1) (w.heap.size + 1) wr 6 0 0 ⟨#[]⟩ (.slice a i c) := ty_of_row hrow.row (by have := hrow.low; omega) (by unfold KindOk; omega) fun j hj => (hrow.parts j hj).imp fun k h1 _ => by have := hrow.low; have := h1.1; omega
        have HR := Lib.hid (And.intro hrow.at_ hty)
        clear hrow hty
        go_wp2_with fail
        refine bodyPost_ret (results_cell_row rfl _ _ w.heap.size 63 #[.int .i64 6, .string ⟨#[]⟩, .int .i64 (0), .int .i64 (0), .string ⟨#[]⟩, .slice a i c] (0, 0) _ rfl (set6 HR.out.1.cell _ _ _ _ _ _) Try.underlying63 rfl (by kernel_rfl)) rfl ?_
        exact typ_post HR.out.1 hsl 6 ⟨#[]⟩ (0) (0) ⟨#[]⟩ a i c (HR.out.2)
theorem typ_any : ∀ d, d ≤ 10 → TypSaid d
  | 0, _ => typ_zero
  | d + 1, h => typ_succ d (by omega) (typ_any d (by omega))

end Go.Proofs.Ytkcpnehhcpmdgaa
