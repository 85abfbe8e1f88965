/- The contract of bits.copied. -/
import Derived.Test.YtpoolbachhelgaaDoorBitsAdd
import Derived.Lib.OwnBridge
import Derived.Deep.RegionHeld3
import Derived.Laws.Rows
namespace Go.Proofs.YtpoolbachhelgaaDoor
open Go.RowKit

set_option maxRecDepth 100000 in
set_option maxHeartbeats 1000000 in
theorem clone_any (v : Value) (xs : List Int) (hlen : xs.length ≤ 64000) (w : World) (h : SlK .u8 w v xs) :
    Calls Tryd.prog 71 #[v] w fun e w' => ∃ v', e = .returned v' ∧ w'.ownsRow w.heap.size 5 1 v' xs.length (xs.map (Value.int .u8)) ∧ Below w.heap.size w w' := by
  obtain ⟨i0, hi, hz0, hz1, hz2⟩ := info_parts info_byte
  have qe : ∀ (w : World) (a : Option Addr) (n c n' c' : Nat), (binOp .eql 24 (.slice a n c) (.slice none n' c')).run Tryd.prog w = .ok (.bool a.isNone) w := fun w a n c n' c' => Lib.run_eql_slice_nil w _ _ a n c n' c' Tryd.underlying24
  rcases h with ⟨rfl, rfl⟩ | ⟨b, off, cap, rfl, hcap, hmax, hc⟩
  · go_enter Tryd.func71, Tryd.ntmps71
    go_wp2_with fail
    go_ret
    exact ⟨_, rfl, World.ownsRow_nil _ _ _ _, by go_grown⟩
  · have A := Lib.hid hc
    clear hc
    go_enter Tryd.func71, Tryd.ntmps71
    go_wp2_with (at_builtin; refine wpList_append_own _ rfl _ _ 24 rfl w.heap.size 5 i0 (.int .u8 0) 1 1 Tryd.underlying24 hi hz0 hz1 hz2 rfl (by decide) _ _ _ rfl (World.ownsRow_made w #[] 0 (Nat.le_refl _) (Nat.zero_le _) rfl) ⟨b, off, none⟩ xs.length cap (xs.map (Value.int .u8)) rfl ?qc1 ?qc2 ?qc3 ?qc4 ?qc5 ?qc6 ?_)
    case qc1 => simp
    case qc2 =>
      intro j u hj
      have hjn : j < xs.length := by
        have := (List.getElem?_eq_some_iff.1 hj).1
        simpa using this
      rw [Addr.add_lit]
      refine Lib.cell?_alloc_some _ ?_
      rw [(A.out j hjn).2]
      have e : (xs.map (Value.int .u8))[j]? = some (Value.int .u8 (xs.getD j 0)) := by simp [List.getD, hjn]
      rw [e] at hj
      exact hj
    case qc3 => intro u hu; obtain ⟨x, _, rfl⟩ := List.mem_map.1 hu; rfl
    case qc4 => unfold maxLen; omega
    case qc5 => omega
    case qc6 => simp
    intro v' w1 hown hgrow hnil
    go_wp2
    go_ret
    refine ⟨v', rfl, by simpa using hown, ?_⟩
    exact ((Below.refl _ w).alloc (Nat.le_refl _) _).grown hgrow (by simp) (by intro k hk; simp [Value.ownBlock] at hk; omega)

theorem clone_sl (v : Value) (xs : List Int) (hlen : xs.length ≤ 64000) (w : World) (h : SlK .u8 w v xs) :
    Calls Tryd.prog 71 #[v] w fun e w' => ∃ p c, e = .returned (.slice p xs.length c) ∧ w'.ownsRow w.heap.size 5 1 (.slice p xs.length c) xs.length (xs.map (Value.int .u8)) ∧ Below w.heap.size w w' := by
  refine (clone_any v xs hlen w h).mono ?_
  rintro e w' ⟨v', rfl, hown, hb⟩
  rcases hown.2 with ⟨rfl, h0⟩ | ⟨g, cap, cur, rfl, _⟩
  · exact ⟨none, 0, by rw [h0], by rw [h0] at hown ⊢; exact hown, hb⟩
  · exact ⟨_, _, rfl, hown, hb⟩

theorem row_lower {w : World} {base base' size n : Nat} {e : TypeId} {v : Value} {xs : List Value} (h : w.ownsRow base e size v n xs) (hb : base' ≤ base) : w.ownsRow base' e size v n xs := by
  obtain ⟨h1, h2⟩ := h
  refine ⟨h1, ?_⟩
  rcases h2 with h2 | ⟨g, cap, cur, hv, hg, r⟩
  · exact Or.inl h2
  · exact Or.inr ⟨g, cap, cur, hv, Nat.le_trans hb hg, r⟩
theorem two_new (w : World) (o1 o2 : Obj) : ((w.alloc o1).alloc o2).heap[w.heap.size + 1]? = some o2 := by
  rw [show w.heap.size + 1 = (w.alloc o1).heap.size from by simp]
  generalize w.alloc o1 = w
  show (w.heap.push o2)[w.heap.size]? = some o2
  simp
theorem one_new (w : World) (o1 o2 : Obj) : ((w.alloc o1).alloc o2).heap[w.heap.size]? = some o1 := by
  rw [Below.heap_alloc _ _ _ (by simp)]
  show (w.heap.push o1)[w.heap.size]? = some o1
  simp
/-- What the region of copied keeps: the two cells that it reads, and all that is older. -/
theorem copy_step {w : World} {a0 a1 : Addr} {sv u : Value} {w1 w2 : World} (h : w1.cell? a0 = some sv ∧ w1.cell? a1 = some u ∧ Below w.heap.size w w1) (l0 : a0.block < w1.heap.size) (l1 : a1.block < w1.heap.size) (hb : Below w1.heap.size w1 w2) :
    w2.cell? a0 = some sv ∧ w2.cell? a1 = some u ∧ Below w.heap.size w w2 := by
  obtain ⟨h1, h2, h3⟩ := h
  have := h3.size
  exact ⟨by rw [hb.cell (by omega)]; exact h1, by rw [hb.cell (by omega)]; exact h2, h3.trans (hb.mono (by omega))⟩
theorem copy_set {w : World} {sv u x y : Value} {w1 : World} (h : w1.cell? ⟨w.heap.size, 0, none⟩ = some sv ∧ w1.cell? ⟨w.heap.size, 1, none⟩ = some u ∧ Below w.heap.size w w1) :
    ((w1.setCell ⟨w.heap.size + 1, 0, none⟩ x).setCell ⟨w.heap.size + 1, 1, none⟩ y).cell? ⟨w.heap.size, 0, none⟩ = some sv ∧ ((w1.setCell ⟨w.heap.size + 1, 0, none⟩ x).setCell ⟨w.heap.size + 1, 1, none⟩ y).cell? ⟨w.heap.size, 1, none⟩ = some u ∧ Below w.heap.size w ((w1.setCell ⟨w.heap.size + 1, 0, none⟩ x).setCell ⟨w.heap.size + 1, 1, none⟩ y) := by
  obtain ⟨h1, h2, h3⟩ := h
  have e : ∀ k, k ≠ w.heap.size + 1 → ((w1.setCell ⟨w.heap.size + 1, 0, none⟩ x).setCell ⟨w.heap.size + 1, 1, none⟩ y).heap[k]? = w1.heap[k]? := by
    intro k hk
    rw [Below.heap_setCell _ _ _ _ hk, Below.heap_setCell _ _ _ _ hk]
  refine ⟨?_, ?_, (h3.setCell (p := ⟨w.heap.size + 1, 0, none⟩) (by simp) _).setCell (p := ⟨w.heap.size + 1, 1, none⟩) (by simp) _⟩
  · rw [World.cell?_of_block (w := w1) (e _ (by simp))]; exact h1
  · rw [World.cell?_of_block (w := w1) (e _ (by simp))]; exact h2

set_option maxRecDepth 100000 in
set_option maxHeartbeats 1000000 in
theorem copied_any (v : Value) (bs : List Nat) (hlen : bs.length ≤ 64000) (w : World) (h : BitsV w v bs) :
    Calls Tryd.prog 43 #[v] w fun e w' => ∃ p c, e = .returned (.agg #[.slice p (pack bs).length c, .int .i64 bs.length]) ∧ w'.ownsRow w.heap.size 5 1 (.slice p (pack bs).length c) (pack bs).length ((intsOf (pack bs)).map (Value.int .u8)) ∧ Below w.heap.size w w' := by
  obtain ⟨sv, rfl, h⟩ := h
  have hpl := pack_length bs
  have hl : (intsOf (pack bs)).length ≤ 64000 := by rw [intsOf_length, hpl]; omega
  have HC := fun (w1 : World) (hb : Below w.heap.size w w1) => clone_sl sv (intsOf (pack bs)) hl w1 (h.below hb)
  have HH := Lib.hid (And.intro h HC)
  clear h HC
  go_enter Tryd.func43, Tryd.ntmps43
  go_wp2_with fail
  generalize hW : (w.alloc (.cells #[sv, .int .i64 bs.length] 34 (0, 0))).alloc (.cells #[.slice none 0 0, .int .i64 0] 34 (0, 0)) = W
  have hsz : W.heap.size = w.heap.size + 2 := by rw [← hW]; simp
  have hWb : Below w.heap.size w W := by rw [← hW]; go_grown
  have k0 : W.cell? ⟨w.heap.size, 0, none⟩ = some sv := by rw [← hW]; simp
  have k1 : W.cell? ⟨w.heap.size, 1, none⟩ = some (.int .i64 bs.length) := by rw [← hW]; simp
  have k2 : W.heap[w.heap.size + 1]? = some (.cells #[.slice none 0 0, .int .i64 0] 34 (0, 0)) := by rw [← hW]; exact two_new _ _ _
  have l0 : w.heap.size < W.drew.heap.size := by show w.heap.size < W.heap.size; omega
  clear hW
  go_region_held3 (fun w' => w'.cell? ⟨w.heap.size, 0, none⟩ = some sv ∧ w'.cell? ⟨w.heap.size, 1, none⟩ = some (.int .i64 bs.length) ∧ Below w.heap.size w w') (first | assumption | exact ⟨k0, k1, hWb.drew⟩ | exact copy_step (by assumption) l0 l0 (by assumption) | exact copy_set (by assumption))
    (first | (go_at_call 71; refine (HH.2 _ hWb.drew).mono ?_; rintro e w2 ⟨p2, c2, rfl, hown2, hbel2⟩
              have kk : w2.heap[w.heap.size + 1]? = some (.cells #[.slice none 0 0, .int .i64 0] 34 (0, 0)) := (hbel2.block _ (show w.heap.size + 1 < W.drew.heap.size from by show _ < W.heap.size; omega)).trans k2
              have kc0 : w2.cell? ⟨w.heap.size + 1, 0, none⟩ = some (.slice none 0 0) := by rw [Lib.cell_of_heap kk]; rfl
              have kc1 : w2.cell? ⟨w.heap.size + 1, 1, none⟩ = some (.int .i64 0) := by rw [Lib.cell_of_heap kk]; rfl
              have kf0 : w2.frozen? ⟨w.heap.size + 1, 0, none⟩ = false := Lib.frozen_of_heap kk 0
              have kf1 : w2.frozen? ⟨w.heap.size + 1, 1, none⟩ = false := Lib.frozen_of_heap kk 1
              have HK := Lib.hid (And.intro kk (And.intro hown2 hbel2))
              clear kk hown2 k2 k0 k1 hWb))
  go_wp2
  try simp only [Exit.inBlock, Exit.then]
  obtain ⟨kk, hown, hb2⟩ := HK
  have k3 := heap_set1 (v := .int .i64 bs.length) (heap_set0 (v := .slice p2 (intsOf (pack bs)).length c2) kk)
  refine bodyPost_ret (results_cell_row rfl _ _ (w.heap.size + 1) 34 #[.slice p2 (intsOf (pack bs)).length c2, .int .i64 bs.length] (0, 0) _ rfl k3 Tryd.underlying34 rfl (by kernel_rfl)) rfl ?_
  have hH : Below w.heap.size w ((w2.setCell ⟨w.heap.size + 1, 0, none⟩ (.slice p2 (intsOf (pack bs)).length c2)).setCell ⟨w.heap.size + 1, 1, none⟩ (.int .i64 bs.length)) := by
    rename_i hHeld
    exact hHeld.2.2
  have hsz' : w.heap.size + 2 = W.drew.heap.size := hsz.symm
  have hne : (Value.slice p2 (intsOf (pack bs)).length c2).ownBlock ≠ some (w.heap.size + 1) := by
    intro e
    have := (hown.lt _ e).1
    omega
  have h1 := ownsRow_setCell_other (ownsRow_setCell_other hown (a := ⟨w.heap.size + 1, 0, none⟩) hne (.slice p2 (intsOf (pack bs)).length c2)) (a := ⟨w.heap.size + 1, 1, none⟩) hne (.int .i64 bs.length)
  have e : (intsOf (pack bs)).length = (pack bs).length := intsOf_length _
  refine ⟨p2, c2, by rw [e], ?_, hH⟩
  have h2 := row_lower h1 (show w.heap.size ≤ W.drew.heap.size by omega)
  rw [e] at h2 ⊢
  exact h2


end Go.Proofs.YtpoolbachhelgaaDoor
