/- apart: a value in memory of its own; no condition beyond those that stand there. -/
import Derived.Deep.RegionLaw
import Derived.Test.YtkcpnehhcpmdgaaCopyW
namespace Go.Proofs.Ytkcpnehhcpmdgaa
open Go.RowKit

def ApartSaid (d : Nat) : Prop := ∀ (S : Nat → Prop) (w : World) (k n : Int) (s : ByteArray) (p : Value) (t : TVal d), IsV d S w k n s p t → OkT d t →
  Calls Try.prog 15 #[.agg #[.int .i64 k, .int .i64 n, .string s, p]] w fun e w' => (∃ a l c, e = .returned (.agg #[.int .i64 k, .int .i64 n, .string s, .slice a l c]) ∧ IsV d (w.heap.size ≤ ·) w' k n s (.slice a l c) t) ∧ Below w.heap.size w w'
/-- The state of apart: the value's box, the result's block, the row of fields. -/
structure ApAt (d : Nat) (w : World) (k n : Int) (s : ByteArray) (p v : Value) (fs : List (ByteArray × TVal d)) (i : Nat) (ys : List Value) (W : World) : Prop where
  bel : Below w.heap.size w W
  c1 : W.heap[w.heap.size]? = some (.cells #[.int .i64 k, .int .i64 n, .string s, p] 25 (0, 0))
  c2 : W.heap[w.heap.size + 1]? = some (.cells #[.int .i64 0, .int .i64 0, .string ⟨#[]⟩, .slice none 0 0] 25 (0, 0))
  row : W.ownsRow (w.heap.size + 2) 33 5 v i ys
  done : ∀ j f, fs[j]? = some f → j < i → FieldOk d (fun b => w.heap.size + 2 ≤ b ∧ v.ownBlock ≠ some b) W j ys f
section
variable {d : Nat} {w : World} {k n : Int} {s : ByteArray} {p v : Value} {fs : List (ByteArray × TVal d)} {i : Nat} {ys : List Value} {W W' : World}
theorem ApAt.lt (h : ApAt d w k n s p v fs i ys W) : w.heap.size + 1 < W.heap.size := lt_of_block h.c2
theorem ApAt.below (h : ApAt d w k n s p v fs i ys W) (hb : Below W.heap.size W W') : ApAt d w k n s p v fs i ys W' := by
  have hl := h.lt
  exact ⟨h.bel.trans (hb.mono (by omega)), (hb.block _ (by omega)).trans h.c1, (hb.block _ hl).trans h.c2, row_keep h.row fun g hg => hb.block g (World.ownsRow.lt h.row g hg).2,
    fun j f h1 h2 => (h.done j f h1 h2).keep hb.size fun b _ h3 => hb.block b h3⟩
theorem ApAt.drew (h : ApAt d w k n s p v fs i ys W) : ApAt d w k n s p v fs i ys W.drew :=
  ⟨⟨h.bel.os, h.bel.tape, h.bel.output, h.bel.size, h.bel.block⟩, h.c1, h.c2, h.row, fun j f h1 h2 => (h.done j f h1 h2).keep (Nat.le_refl _) fun _ _ _ => rfl⟩
theorem ApAt.app {W7 : World} (h : ApAt d w k n s p v fs i ys W) (o : Obj) (nf : ByteArray) (k' n' : Int) (str : ByteArray) (q : Value) (t : TVal d) (g cap : Nat) (C : Nat) (hC : w.heap.size + 1 < C) (hvC : ∀ k, v.ownBlock = some k → k < C) (ht : IsV d (C ≤ ·) W k' n' str q t) (hi : fs[i]? = some (nf, t))
    (hrow : W7.ownsRow (w.heap.size + 2) 33 5 (.slice (some ⟨g, 0, none⟩) (i + 1) cap) (i + 1) (ys ++ fieldCells nf k' n' str q)) (hg : (W.alloc o).grownBy W7 v.ownBlock) (hv : v.ownBlock = some g ∨ W.heap.size ≤ g) :
    ApAt d w k n s p (.slice (some ⟨g, 0, none⟩) (i + 1) cap) fs (i + 1) (ys ++ fieldCells nf k' n' str q) W7 := by
  obtain ⟨v', hv'⟩ : ∃ v', v' = Value.slice (some ⟨g, 0, none⟩) (i + 1) cap := ⟨_, rfl⟩
  have hvb : v'.ownBlock = some g := by rw [hv']; rfl
  rw [← hv'] at hrow ⊢
  have hl := h.lt
  have hbT : Below (w.heap.size + 2) W W7 := ((Below.refl _ W).alloc (by omega) o).grown hg (by simp; omega) (fun k hk => (World.ownsRow.lt (h.row.alloc o) k hk).1)
  have hblk : ∀ k, k < W.heap.size → v.ownBlock ≠ some k → W7.heap[k]? = W.heap[k]? := fun k h1 h2 => by
    rw [hg.block k (by simp; omega) (fun e => h2 e.symm), heap_alloc_old W o h1]
  have hz7 := hbT.size
  have hS : ∀ k, w.heap.size + 2 ≤ k → k < W.heap.size → v.ownBlock ≠ some k → v'.ownBlock ≠ some k := fun k h1 h2 h3 => by
    rw [hvb]
    rcases hv with e | e
    · rw [← e]; exact h3
    · intro e2; injection e2; omega
  refine ⟨h.bel.trans (hbT.mono (by omega)), (hbT.block _ (by omega)).trans h.c1, (hbT.block _ (by omega)).trans h.c2, hrow, fun j f hj hji => ?_⟩
  rcases Nat.lt_or_ge j i with h1 | h1
  · exact (((h.done j f hj h1).imp (S' := fun k => (w.heap.size + 2 ≤ k ∧ v'.ownBlock ≠ some k) ∧ v.ownBlock ≠ some k ∧ k < W.heap.size) fun k e1 e2 => ⟨⟨e1.1, hS k e1.1 e2 e1.2⟩, e1.2, e2⟩).keep hz7 fun k e1 e2 => hblk k e2 e1.2.1).imp (fun k e1 _ => e1.1) |>.app
  · obtain rfl : j = i := by omega
    rw [hi] at hj
    injection hj with hj
    subst hj
    refine FieldOk.last (by have := h.row.1; omega) nf k' n' str q t ?_
    refine ((ht.imp (S' := fun k => (w.heap.size + 2 ≤ k ∧ v'.ownBlock ≠ some k) ∧ v.ownBlock ≠ some k) fun k e1 e2 => ?_).keep hz7 fun k e1 e2 => hblk k e2 e1.2).imp (fun k e1 _ => e1.1)
    have e3 : v.ownBlock ≠ some k := fun e => by have := hvC k e; omega
    exact ⟨⟨by omega, hS k (by omega) e2 e3⟩, e3⟩
end

set_option maxRecDepth 100000 in
set_option maxHeartbeats 4000000 in
theorem apart_succ (d : Nat) (ih : ApartSaid d) : ApartSaid (d + 1) := by
  intro S w k n s p t h hok
  have hlen := okT_len hok
  have hoks : ∀ f ∈ t.fs, OkT d f.2 := hok.2.2.2.2
  obtain ⟨q1, q2, q3, c1, a1, rfl, hc1, hf1⟩ := h
  have ht : t = mkT k n s t.fs := by rw [← q1, ← q2, ← q3]; rfl
  generalize hfs : t.fs = fs at *
  subst ht
  have hab := ((Below.refl w.heap.size w).alloc (Nat.le_refl _) (.cells #[.int .i64 k, .int .i64 n, .string s, .slice a1 fs.length c1] 25 (0, 0))).alloc (by simp) (.cells #[.int .i64 0, .int .i64 0, .string ⟨#[]⟩, .slice none 0 0] 25 (0, 0))
  have e1 := pair1 w (.cells #[.int .i64 k, .int .i64 n, .string s, .slice a1 fs.length c1] 25 (0, 0)) (.cells #[.int .i64 0, .int .i64 0, .string ⟨#[]⟩, .slice none 0 0] 25 (0, 0))
  have e2 := pair2 w (.cells #[.int .i64 k, .int .i64 n, .string s, .slice a1 fs.length c1] 25 (0, 0)) (.cells #[.int .i64 0, .int .i64 0, .string ⟨#[]⟩, .slice none 0 0] 25 (0, 0))
  have HI := Lib.hid (And.intro ih (And.intro hoks (And.intro hf1 (And.intro hab (And.intro e1 e2)))))
  clear ih hoks hf1 hab e1 e2 hok q1 q2 q3 hfs
  go_enter Try.func15, Try.ntmps15
  go_upto_region 1 with fail
  have hi := HI.out
  clear HI
  generalize (w.alloc (.cells #[.int .i64 k, .int .i64 n, .string s, .slice a1 fs.length c1] 25 (0, 0))).alloc (.cells #[.int .i64 0, .int .i64 0, .string ⟨#[]⟩, .slice none 0 0] 25 (0, 0)) = W at *
  obtain ⟨ih, hoks, hf1, hab, e1, e2⟩ := hi
  obtain ⟨⟨a0, a1', a2, a3⟩, -⟩ := cells4 e1
  have HI := Lib.hid (And.intro ih (And.intro hoks (And.intro hf1 (And.intro hab (And.intro e1 e2)))))
  clear ih hoks hf1 hab e1 e2
  go_wp2_with fail
  go_loopw [3, 9] (fun sv iv wr => ∃ (i : Nat) (av : Option Addr) (cv : Nat) (ys : List Value), iv = .int .i64 i ∧ i ≤ fs.length ∧ sv = .slice av i cv ∧ ApAt d w k n s (.slice a1 fs.length c1) sv fs i ys wr) (fun _ iv _ => fs.length - (intOf iv).toNat)
  case atStart => exact ⟨0, none, 0, [], rfl, Nat.zero_le _, rfl, HI.out.2.2.2.1, HI.out.2.2.2.2.1, HI.out.2.2.2.2.2, World.ownsRow_nil _ _ _ _, fun j f _ h => absurd h (Nat.not_lt_zero j)⟩
  case round =>
    obtain ⟨i, av, cv, ys, rfl, hi, rfl, hap⟩ := hrel
    have wi : IntKind.i64.wrap ((i : Int) + 1) = (i : Int) + 1 := IntWalk.i64_in _ ⟨by omega, by omega⟩
    by_cases hlt : i < fs.length
    · have ti : (i : Int) < (fs.length : Int) := by omega
      have hni : ((i : Int)).toNat = i := by omega
      have hf : fs[i]? = some fs[i] := List.getElem?_eq_getElem hlt
      have hm := HI.out.2.1 _ (List.getElem_mem hlt)
      generalize fs[i] = f at hf hm
      obtain ⟨nm, tf⟩ := f
      obtain ⟨b1, kk, nn, ss, pp, rfl, -, hl1, y0, y1, y2, y3, y4, hv⟩ := HI.out.2.2.1 i _ hf
      obtain ⟨pa, pl, pc, rfl⟩ := hv.isSlice
      have hb := hap.bel
      rw [← hb.cell (show (⟨b1, i * 5, none⟩ : Addr).block < w.heap.size from hl1)] at y0
      rw [← hb.cell (show (⟨b1, i * 5 + 1, none⟩ : Addr).block < w.heap.size from hl1)] at y1
      rw [← hb.cell (show (⟨b1, i * 5 + 2, none⟩ : Addr).block < w.heap.size from hl1)] at y2
      rw [← hb.cell (show (⟨b1, i * 5 + 3, none⟩ : Addr).block < w.heap.size from hl1)] at y3
      rw [← hb.cell (show (⟨b1, i * 5 + 4, none⟩ : Addr).block < w.heap.size from hl1)] at y4
      have hA := (hap.below ((Below.refl wr.heap.size wr).alloc (Nat.le_refl _) (.cells #[.string nm, .int .i64 kk, .int .i64 nn, .string ss, .slice pa pl pc] 33 (0, 0)))).drew
      have hR : (wr.alloc (.cells #[.string nm, .int .i64 kk, .int .i64 nn, .string ss, .slice pa pl pc] 33 (0, 0))).drew.heap[wr.heap.size]? = some (.cells #[.string nm, .int .i64 kk, .int .i64 nn, .string ss, .slice pa pl pc] 33 (0, 0)) := heap_alloc_new wr _
      obtain ⟨x0, x1, x2, x3, x4⟩ := cells5 hR
      have hRl : wr.heap.size < (wr.alloc (.cells #[.string nm, .int .i64 kk, .int .i64 nn, .string ss, .slice pa pl pc] 33 (0, 0))).drew.heap.size := lt_of_block hR
      have hca := HI.out.1 S _ kk nn ss _ tf ((hv.below (Nat.le_refl _) hA.bel)) hm
      have hAl := hA.lt
      have hvC : ∀ g, (Value.slice av i cv).ownBlock = some g → g < wr.heap.size := fun g hg => (World.ownsRow.lt hap.row g hg).2
      have HR := Lib.hid (And.intro hA (And.intro hca (And.intro hR (And.intro hf hvC))))
      clear hap hb hv hm hA hR hca hf hvC
      go_upto_region 5 with fail
      go_region_law (first
        | (refine step_append_el elem_field rfl _ _ 23 rfl Try.underlying23 (w.heap.size + 2) _ i ys rfl (H5.out.1.row.alloc _) (by omega) w5.heap.size 1 (fieldCells nm kk nn ss (.slice pa5 pl5 pc5)) rfl rfl (heap_alloc_new w5 _) (by simp [fieldCells, Value.oneCell']) (by have := H5.out.1.lt; simp; omega) ?_
           intro g cap w7 hrow7 hg7 hv7
           have h8 := H5.out.1.app _ nm kk nn ss (.slice pa5 pl5 pc5) tf g cap _ hAl (fun g hg => Nat.lt_trans (HR.out.2.2.2.2 g hg) hRl) H5.out.2 HR.out.2.2.2.1 hrow7 hg7 (hv7.imp id (fun h => by simp at h; omega))
           have H8 := Lib.hid h8
           clear h8 hrow7 hg7 hv7)
        | (go_simp; go_at_call 15; refine HR.out.2.1.mono ?_
           rintro e w5 ⟨⟨pa5, pl5, pc5, rfl, hv5⟩, hb5⟩
           have h5 := HR.out.1.below hb5
           obtain ⟨z0, z1, z2, z3, z4⟩ := cells5 ((hb5.block _ hRl).trans HR.out.2.2.1)
           have H5 := Lib.hid (And.intro h5 hv5)
           clear h5 hv5 hb5))
      all_goals
        go_wp2_with fail
        exact ⟨⟨i + 1, some ⟨g, 0, none⟩, cap, _, by simp, by omega, rfl, H8.out⟩, by simp [intOf]; omega⟩
    · have ti : decide ((i : Int) < (fs.length : Int)) = false := decide_eq_false (by omega)
      obtain rfl : i = fs.length := by omega
      obtain ⟨⟨b0, b1, b2, b3⟩, b4, b5, b6, b7⟩ := cells4 hap.c1
      obtain ⟨⟨d0, d1, d2, d3⟩, d4, d5, d6, d7⟩ := cells4 hap.c2
      have hk1 : ∀ b, b ≠ w.heap.size → (wr.setCell ⟨w.heap.size, 3, none⟩ (.slice av fs.length cv)).heap[b]? = wr.heap[b]? := fun b hb => Below.heap_setCell _ _ _ _ hb
      have c1' := heap_setS hap.c1 3 (.slice av fs.length cv)
      simp only [List.setIfInBounds_toArray, List.set_cons_zero, List.set_cons_succ] at c1'
      have c2' := (hk1 _ (by omega)).trans hap.c2
      obtain ⟨⟨f0, f1, f2, f3⟩, f4, f5, f6, f7⟩ := cells4 c1'
      obtain ⟨⟨g0, g1, g2, g3⟩, g4, g5, g6, g7⟩ := cells4 c2'
      have HP := Lib.hid (And.intro hap (And.intro c2' hk1))
      clear hap c1' c2' hk1
      go_wp2_with fail
      refine bodyPost_ret (results_cell_row rfl _ _ (w.heap.size + 1) 25 #[.int .i64 k, .int .i64 n, .string s, .slice av fs.length cv] (0, 0) _ rfl (set4 HP.out.2.1 _ _ _ _) Try.underlying25 rfl (by kernel_rfl)) rfl ?_
      have hb4 := below4 (n := w.heap.size) (wr.setCell ⟨w.heap.size, 3, none⟩ (.slice av fs.length cv)) (Nat.le_succ _) (.int .i64 k) (.int .i64 n) (.string s) (.slice av fs.length cv)
      have hk4 := keep4 (n := wr.heap.size) (g := w.heap.size + 1) (wr.setCell ⟨w.heap.size, 3, none⟩ (.slice av fs.length cv)) (.int .i64 k) (.int .i64 n) (.string s) (.slice av fs.length cv)
      have hv : IsV (d + 1) (fun b => w.heap.size + 2 ≤ b) wr k n s (.slice av fs.length cv) (mkT k n s fs) := v_of_row HP.out.1.row (fun b h1 _ _ => h1) fun j f hf => (HP.out.1.done j f hf (List.getElem?_eq_some_iff.1 hf).1).imp fun b h1 _ => h1.1
      have hv1 : IsV (d + 1) (fun b => w.heap.size + 2 ≤ b) (wr.setCell ⟨w.heap.size, 3, none⟩ (.slice av fs.length cv)) k n s (.slice av fs.length cv) (mkT k n s fs) := hv.keep (by simp) fun b h1 _ => HP.out.2.2 b (by have : w.heap.size + 2 ≤ b := h1; omega)
      exact ⟨⟨av, _, cv, rfl, (hv1.keep hk4.size fun b h1 h2 => hk4.block b (by simpa using h2) (by have : w.heap.size + 2 ≤ b := h1; omega)).imp fun b h1 _ => by have : w.heap.size + 2 ≤ b := h1; show w.heap.size ≤ b; omega⟩, (HP.out.1.bel.setCell (p := ⟨w.heap.size, 3, none⟩) (Nat.le_refl _) _).trans hb4⟩
theorem apart_any : ∀ d, ApartSaid d
  | 0 => fun _ _ _ _ _ _ _ h => h.elim
  | d + 1 => apart_succ d (apart_any d)

end Go.Proofs.Ytkcpnehhcpmdgaa
