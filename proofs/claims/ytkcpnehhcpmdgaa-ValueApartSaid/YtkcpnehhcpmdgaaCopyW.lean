/- value.Copy; no condition beyond those that stand there. -/
import Derived.Deep.RegionLaw
import Derived.Test.YtkcpnehhcpmdgaaCopy
namespace Go.Proofs.Ytkcpnehhcpmdgaa
open Go.RowKit

def CopySaid (d : Nat) : Prop := ∀ (S : Nat → Prop) (w : World) (k n : Int) (s : ByteArray) (p : Value) (t : TVal d), IsV d S w k n s p t → OkT d t →
  Calls Try.prog 16 #[.agg #[.int .i64 k, .int .i64 n, .string s, p]] w fun e w' => (∃ a l c, e = .returned (.agg #[.int .i64 k, .int .i64 n, .string s, .slice a l c]) ∧ IsV d (w.heap.size ≤ ·) w' k n s (.slice a l c) t) ∧ Below w.heap.size w w'
theorem okT_len {d : Nat} {t : TVal (d + 1)} (h : OkT (d + 1) t) : t.fs.length ≤ 4 := by
  obtain ⟨_, _, _, h, _⟩ := h
  have e : (t.fs.map Prod.fst).length = t.fs.length := List.length_map ..
  rcases h with ⟨_, _, h⟩ | ⟨_, h, _⟩ | ⟨_, x, h, _⟩ | ⟨_, h, _⟩ | ⟨_, h, _⟩
  · rw [h] at e; simp at e; omega
  · omega
  · rw [h] at e; simp at e; omega
  · omega
  · omega
/-- The state of Copy: the value's box, the result's block, the row of copies. -/
structure CpAt (d : Nat) (S : Nat → Prop) (w : World) (k n : Int) (s : ByteArray) (q : Option Addr) (m cc : Nat) (fs : List (ByteArray × TVal d)) (i : Nat) (ys : List Value) (W : World) : Prop where
  bel : Below w.heap.size w W
  c1 : W.heap[w.heap.size]? = some (.cells #[.int .i64 k, .int .i64 n, .string s, .slice q m cc] 25 (0, 0))
  c2 : W.heap[w.heap.size + 1]? = some (.cells #[.int .i64 0, .int .i64 0, .string ⟨#[]⟩, .slice none 0 0] 25 (0, 0))
  row : W.ownsRow (w.heap.size + 2) 33 5 (.slice q m cc) m ys
  done : ∀ j f, fs[j]? = some f → j < i → FieldOk d (fun b => w.heap.size + 2 ≤ b ∧ (Value.slice q m cc).ownBlock ≠ some b) W j ys f
  todo : ∀ j f, fs[j]? = some f → i ≤ j → FieldOk d (fun b => S b ∧ b < w.heap.size) W j ys f
section
variable {d : Nat} {S : Nat → Prop} {w : World} {k n : Int} {s : ByteArray} {q : Option Addr} {m cc : Nat} {fs : List (ByteArray × TVal d)} {i : Nat} {ys : List Value} {W W' : World}
theorem CpAt.lt (h : CpAt d S w k n s q m cc fs i ys W) : w.heap.size + 1 < W.heap.size := lt_of_block h.c2
theorem CpAt.below (h : CpAt d S w k n s q m cc fs i ys W) (hb : Below W.heap.size W W') : CpAt d S w k n s q m cc fs i ys W' := by
  have hl := h.lt
  exact ⟨h.bel.trans (hb.mono (by omega)), (hb.block _ (by omega)).trans h.c1, (hb.block _ hl).trans h.c2, row_keep h.row fun g hg => hb.block g (World.ownsRow.lt h.row g hg).2,
    fun j f h1 h2 => (h.done j f h1 h2).keep hb.size fun b _ h3 => hb.block b h3, fun j f h1 h2 => (h.todo j f h1 h2).keep hb.size fun b _ h3 => hb.block b h3⟩
theorem CpAt.drew (h : CpAt d S w k n s q m cc fs i ys W) : CpAt d S w k n s q m cc fs i ys W.drew :=
  ⟨⟨h.bel.os, h.bel.tape, h.bel.output, h.bel.size, h.bel.block⟩, h.c1, h.c2, h.row, fun j f h1 h2 => (h.done j f h1 h2).keep (Nat.le_refl _) fun _ _ _ => rfl, fun j f h1 h2 => (h.todo j f h1 h2).keep (Nat.le_refl _) fun _ _ _ => rfl⟩
theorem set_get (ys : List Value) (a b : Nat) (v : Value) (h : a ≠ b) : (ys.set a v)[b]? = ys[b]? := by rw [List.getElem?_set_ne h]
/-- One field more is copied. -/
theorem CpAt.put {G C : Nat} {nm : ByteArray} {t : TVal d} {kk nn : Int} {ss : ByteArray} {pp : Value} (h : CpAt d S w k n s (some ⟨G, 0, none⟩) m cc fs i ys W) (hi : fs[i]? = some (nm, t)) (him : i < m) (hv : IsV d (C ≤ ·) W kk nn ss pp t) (hC : w.heap.size + 2 ≤ C) (hG : G < C) :
    CpAt d S w k n s (some ⟨G, 0, none⟩) m cc fs (i + 1) ((((ys.set (i * 5 + 1) (.int .i64 kk)).set (i * 5 + 2) (.int .i64 nn)).set (i * 5 + 3) (.string ss)).set (i * 5 + 4) pp)
      ((((W.setCell ⟨G, i * 5 + 1, none⟩ (.int .i64 kk)).setCell ⟨G, i * 5 + 2, none⟩ (.int .i64 nn)).setCell ⟨G, i * 5 + 3, none⟩ (.string ss)).setCell ⟨G, i * 5 + 4, none⟩ pp) := by
  have hGl := World.ownsRow.lt h.row G rfl
  have r1 := (World.ownsRow.stored h.row (i * 5 + 1) (.int .i64 kk)).1
  have r2 := (World.ownsRow.stored r1 (i * 5 + 2) (.int .i64 nn)).1
  have r3 := (World.ownsRow.stored r2 (i * 5 + 3) (.string ss)).1
  have r4 := (World.ownsRow.stored r3 (i * 5 + 4) pp).1
  have hk : ∀ b, b ≠ G → ((((W.setCell ⟨G, i * 5 + 1, none⟩ (.int .i64 kk)).setCell ⟨G, i * 5 + 2, none⟩ (.int .i64 nn)).setCell ⟨G, i * 5 + 3, none⟩ (.string ss)).setCell ⟨G, i * 5 + 4, none⟩ pp).heap[b]? = W.heap[b]? := fun b hb => by
    rw [Below.heap_setCell _ _ _ _ hb, Below.heap_setCell _ _ _ _ hb, Below.heap_setCell _ _ _ _ hb, Below.heap_setCell _ _ _ _ hb]
  have hz : ((((W.setCell ⟨G, i * 5 + 1, none⟩ (.int .i64 kk)).setCell ⟨G, i * 5 + 2, none⟩ (.int .i64 nn)).setCell ⟨G, i * 5 + 3, none⟩ (.string ss)).setCell ⟨G, i * 5 + 4, none⟩ pp).heap.size = W.heap.size := by simp
  have hB : Below w.heap.size W ((((W.setCell ⟨G, i * 5 + 1, none⟩ (.int .i64 kk)).setCell ⟨G, i * 5 + 2, none⟩ (.int .i64 nn)).setCell ⟨G, i * 5 + 3, none⟩ (.string ss)).setCell ⟨G, i * 5 + 4, none⟩ pp) :=
    ((((Below.refl _ W).setCell (p := ⟨G, i * 5 + 1, none⟩) (by show w.heap.size ≤ G; omega) _).setCell (p := ⟨G, i * 5 + 2, none⟩) (by show w.heap.size ≤ G; omega) _).setCell (p := ⟨G, i * 5 + 3, none⟩) (by show w.heap.size ≤ G; omega) _).setCell (p := ⟨G, i * 5 + 4, none⟩) (by show w.heap.size ≤ G; omega) _
  have hlen := h.row.1
  generalize ((((W.setCell ⟨G, i * 5 + 1, none⟩ (.int .i64 kk)).setCell ⟨G, i * 5 + 2, none⟩ (.int .i64 nn)).setCell ⟨G, i * 5 + 3, none⟩ (.string ss)).setCell ⟨G, i * 5 + 4, none⟩ pp) = W2 at *
  have hoth : ∀ (S' : Nat → Prop) j f, j ≠ i → (∀ b, S' b → b ≠ G) → FieldOk d S' W j ys f → FieldOk d S' W2 j ((((ys.set (i * 5 + 1) (.int .i64 kk)).set (i * 5 + 2) (.int .i64 nn)).set (i * 5 + 3) (.string ss)).set (i * 5 + 4) pp) f := fun S' j f hj hS' hf => by
    obtain ⟨k2, n2, s2, p2, e0, e1, e2, e3, e4, e5⟩ := hf.keep (w' := W2) (by omega) fun b h1 _ => hk b (hS' b h1)
    refine ⟨k2, n2, s2, p2, ?_, ?_, ?_, ?_, ?_, e5⟩ <;> (rw [set_get _ _ _ _ (by omega), set_get _ _ _ _ (by omega), set_get _ _ _ _ (by omega), set_get _ _ _ _ (by omega)]; assumption)
  refine ⟨h.bel.trans hB, (hk _ (by omega)).trans h.c1, (hk _ (by omega)).trans h.c2, r4, fun j f h1 h2 => ?_, fun j f h1 h2 => ?_⟩
  · by_cases hj : j = i
    · subst hj
      rw [hi] at h1
      injection h1 with h1
      subst h1
      obtain ⟨k2, n2, s2, p2, e0, _⟩ := h.todo j _ hi (Nat.le_refl _)
      refine ⟨kk, nn, ss, pp, ?_, ?_, ?_, ?_, ?_, ((hv.imp (S' := fun b => w.heap.size + 2 ≤ b ∧ (Value.slice (some ⟨G, 0, none⟩) m cc).ownBlock ≠ some b) fun b e1 _ => ⟨Nat.le_trans hC e1, fun e => ?_⟩).keep (by omega) fun b e1 _ => hk b fun e => e1.2 (by rw [e]; rfl))⟩
      · rw [set_get _ _ _ _ (by omega), set_get _ _ _ _ (by omega), set_get _ _ _ _ (by omega), set_get _ _ _ _ (by omega)]; exact e0
      · rw [set_get _ _ _ _ (by omega), set_get _ _ _ _ (by omega), set_get _ _ _ _ (by omega), List.getElem?_set_self (by omega)]
      · rw [set_get _ _ _ _ (by omega), set_get _ _ _ _ (by omega), List.getElem?_set_self (by simp; omega)]
      · rw [set_get _ _ _ _ (by omega), List.getElem?_set_self (by simp; omega)]
      · rw [List.getElem?_set_self (by simp; omega)]
      · have e1' : C ≤ b := e1
        have : G = b := by injection e
        omega
    · exact hoth _ j f hj (fun b e1 e => e1.2 (by rw [e]; rfl)) (h.done j f h1 (by omega))
  · exact hoth _ j f (by omega) (fun b e1 e => by omega) (h.todo j f h1 (by omega))
end

theorem rowCells_get (w : World) (b n j : Nat) (u : Value) (hj : j < n * 5) (h : w.cell? ⟨b, j, none⟩ = some u) : (rowCells w ⟨b, 0, none⟩ n)[j]? = some u := by
  have e : (⟨b, 0, none⟩ : Addr).add j = ⟨b, j, none⟩ := by unfold Addr.add; split <;> simp_all
  simp [rowCells, hj, e, h]
set_option maxRecDepth 100000 in
set_option maxHeartbeats 4000000 in
theorem copy_succ (d : Nat) (ih : CopySaid d) : CopySaid (d + 1) := by
  intro S w k n s p t h hok
  have hlen := okT_len hok
  have hoks : ∀ f ∈ t.fs, OkT d f.2 := hok.2.2.2.2
  obtain ⟨q1, q2, q3, c1, a1, rfl, hc1, hf1⟩ := h
  have ha : a1 = none → t.fs.length = 0 := fun e => by
    rcases Nat.eq_zero_or_pos t.fs.length with h0 | h0
    · exact h0
    · obtain ⟨b, _, _, _, _, hb, _⟩ := hf1 0 t.fs[0] (List.getElem?_eq_getElem h0)
      rw [e] at hb
      cases hb
  have ht : t = mkT k n s t.fs := by rw [← q1, ← q2, ← q3]; rfl
  generalize hfs : t.fs = fs at *
  subst ht
  have hab := ((Below.refl w.heap.size w).alloc (Nat.le_refl _) (.cells #[.int .i64 k, .int .i64 n, .string s, .slice a1 fs.length c1] 25 (0, 0))).alloc (by simp) (.cells #[.int .i64 0, .int .i64 0, .string ⟨#[]⟩, .slice none 0 0] 25 (0, 0))
  have e1 := pair1 w (.cells #[.int .i64 k, .int .i64 n, .string s, .slice a1 fs.length c1] 25 (0, 0)) (.cells #[.int .i64 0, .int .i64 0, .string ⟨#[]⟩, .slice none 0 0] 25 (0, 0))
  have e2 := pair2 w (.cells #[.int .i64 k, .int .i64 n, .string s, .slice a1 fs.length c1] 25 (0, 0)) (.cells #[.int .i64 0, .int .i64 0, .string ⟨#[]⟩, .slice none 0 0] 25 (0, 0))
  have HI := Lib.hid (And.intro ih (And.intro hoks (And.intro hf1 (And.intro ha (And.intro hab (And.intro e1 e2))))))
  clear ih hoks hf1 ha hab e1 e2 hok q1 q2 q3 hfs
  go_enter Try.func16, Try.ntmps16
  go_upto_region 1 with fail
  have hi := HI.out
  clear HI
  have hsz : ((w.alloc (.cells #[.int .i64 k, .int .i64 n, .string s, .slice a1 fs.length c1] 25 (0, 0))).alloc (.cells #[.int .i64 0, .int .i64 0, .string ⟨#[]⟩, .slice none 0 0] 25 (0, 0))).heap.size = w.heap.size + 2 := by simp
  generalize (w.alloc (.cells #[.int .i64 k, .int .i64 n, .string s, .slice a1 fs.length c1] 25 (0, 0))).alloc (.cells #[.int .i64 0, .int .i64 0, .string ⟨#[]⟩, .slice none 0 0] 25 (0, 0)) = W at *
  obtain ⟨ih, hoks, hf1, ha, hab, e1, e2⟩ := hi
  have hfW : ∀ (j : Nat) f, fs[j]? = some f → ∃ b kk nn ss pp, a1 = some ⟨b, 0, none⟩ ∧ S b ∧ b < w.heap.size ∧ W.cell? ⟨b, j * 5, none⟩ = some (.string f.1) ∧ W.cell? ⟨b, j * 5 + 1, none⟩ = some (.int .i64 kk) ∧ W.cell? ⟨b, j * 5 + 2, none⟩ = some (.int .i64 nn) ∧
      W.cell? ⟨b, j * 5 + 3, none⟩ = some (.string ss) ∧ W.cell? ⟨b, j * 5 + 4, none⟩ = some pp ∧ IsV d (fun b => S b ∧ b < w.heap.size) W kk nn ss pp f.2 := fun j f hf => by
    obtain ⟨b, kk, nn, ss, pp, r1, ⟨r2, -⟩, r3, r4, r5, r6, r7, r8, r9⟩ := hf1 j f hf
    have hb := hab.block b r3
    refine ⟨b, kk, nn, ss, pp, r1, r2, r3, ?_, ?_, ?_, ?_, ?_, (r9.imp (S' := fun b => S b ∧ b < w.heap.size) fun b h1 h2 => ⟨h1, h2⟩).below (Nat.le_refl _) hab⟩ <;> (rw [World.cell?_of_block hb]; assumption)
  have hcl := clone_any a1 fs.length c1 (by omega) W ha (fun ad e j hj => by
    obtain ⟨b, kk, nn, ss, pp, r1, _, _, r4, r5, r6, r7, r8, r9⟩ := hfW (j / 5) fs[j / 5] (List.getElem?_eq_getElem (by omega))
    obtain ⟨pa, pl, pc, rfl⟩ := r9.isSlice
    rw [e] at r1
    injection r1 with r1
    subst r1
    have ea : ∀ x, (⟨b, 0, none⟩ : Addr).add x = ⟨b, x, none⟩ := fun x => by unfold Addr.add; split <;> simp_all
    rw [ea]
    rcases (show j = j / 5 * 5 ∨ j = j / 5 * 5 + 1 ∨ j = j / 5 * 5 + 2 ∨ j = j / 5 * 5 + 3 ∨ j = j / 5 * 5 + 4 by omega) with h | h | h | h | h <;> rw [h]
    · exact ⟨_, r4, rfl⟩
    · exact ⟨_, r5, rfl⟩
    · exact ⟨_, r6, rfl⟩
    · exact ⟨_, r7, rfl⟩
    · exact ⟨_, r8, rfl⟩)
  obtain ⟨⟨a0, a1', a2, a3⟩, a4, a5, a6, a7⟩ := cells4 e1
  have HC := Lib.hid (And.intro hcl (And.intro hfW (And.intro ih (And.intro hoks (And.intro hab (And.intro e1 (And.intro e2 hsz)))))))
  clear hcl hfW ih hoks hab e1 e2 hf1 ha hsz
  go_wp2_with fail
  refine HC.out.1.mono ?_
  rintro e w1 ⟨⟨q, cc, xs, rfl, hrow, hxs⟩, hb1⟩
  have hsz := HC.out.2.2.2.2.2.2.2
  have hz1 := hb1.size
  have f1 : w1.heap[w.heap.size]? = _ := (hb1.block _ (by omega)).trans HC.out.2.2.2.2.2.1
  have f2 : w1.heap[w.heap.size + 1]? = _ := (hb1.block _ (by omega)).trans HC.out.2.2.2.2.2.2.1
  obtain ⟨⟨g0, g1, g2, g3⟩, g4, g5, g6, g7⟩ := cells4 f1
  have hk1 : ∀ b, b ≠ w.heap.size → (w1.setCell ⟨w.heap.size, 3, none⟩ (.slice q fs.length cc)).heap[b]? = w1.heap[b]? := fun b hb => Below.heap_setCell _ _ _ _ hb
  have hcp : CpAt d S w k n s q fs.length cc fs 0 xs (w1.setCell ⟨w.heap.size, 3, none⟩ (.slice q fs.length cc)) := by
    have hrow' : w1.ownsRow (w.heap.size + 2) 33 5 (.slice q fs.length cc) fs.length xs := by rw [← hsz]; exact hrow
    refine ⟨(HC.out.2.2.2.2.1.trans (hb1.mono (by omega))).setCell (p := ⟨w.heap.size, 3, none⟩) (Nat.le_refl _) _, ?_, (hk1 _ (by omega)).trans f2, row_keep hrow' fun g hg => hk1 g (by have := (World.ownsRow.lt hrow' g hg).1; omega), fun j f _ h => absurd h (Nat.not_lt_zero j), fun j f hf _ => ?_⟩
    · have := heap_setS f1 3 (.slice q fs.length cc)
      simpa only [List.setIfInBounds_toArray, List.set_cons_zero, List.set_cons_succ] using this
    · obtain ⟨b, kk, nn, ss, pp, r1, r2, r3, r4, r5, r6, r7, r8, r9⟩ := HC.out.2.1 j f hf
      have hx := hxs _ r1
      have hjl : j < fs.length := (List.getElem?_eq_some_iff.1 hf).1
      subst hx
      refine ⟨kk, nn, ss, pp, rowCells_get W b _ _ _ (by omega) r4, rowCells_get W b _ _ _ (by omega) r5, rowCells_get W b _ _ _ (by omega) r6, rowCells_get W b _ _ _ (by omega) r7, rowCells_get W b _ _ _ (by omega) r8, (r9.below (Nat.le_refl _) hb1).keep (by simp) fun b h1 _ => hk1 b (by have := h1.2; omega)⟩
  have H1 := Lib.hid hcp
  clear hcp hrow hxs hb1 f1 f2 hk1
  go_wp2_with fail
  go_loopw [11] (fun iv wr => ∃ (i : Nat) (ys : List Value), iv = .int .i64 i ∧ i ≤ fs.length ∧ CpAt d S w k n s q fs.length cc fs i ys wr) (fun iv _ => fs.length - (intOf iv).toNat)
  case atStart => exact ⟨0, xs, rfl, Nat.zero_le _, H1.out⟩
  case round =>
    obtain ⟨i, ys, rfl, hi, hcp⟩ := hrel
    have wi : IntKind.i64.wrap ((i : Int) + 1) = (i : Int) + 1 := IntWalk.i64_in _ ⟨by omega, by omega⟩
    by_cases hlt : i < fs.length
    · have ti : (i : Int) < (fs.length : Int) := by omega
      have hni : ((i : Int)).toNat = i := by omega
      obtain ⟨G, cc', hq⟩ := ownsRow_formW hcp.row (show 0 < fs.length by omega)
      simp only [Value.slice.injEq] at hq
      obtain ⟨rfl, _, rfl⟩ := hq
      have hGl := World.ownsRow.lt hcp.row G rfl
      have hf : fs[i]? = some fs[i] := List.getElem?_eq_getElem hlt
      have hm := List.getElem_mem hlt
      generalize fs[i] = f at hf hm
      obtain ⟨nm, tf⟩ := f
      obtain ⟨kk, nn, ss, pp, y0, y1, y2, y3, y4, hv⟩ := hcp.todo i _ hf (Nat.le_refl _)
      obtain ⟨pa, pl, pc, rfl⟩ := hv.isSlice
      have hd := hcp.drew
      have x1 := (World.ownsRow.cellAt hd.row (i * 5 + 1) (by omega)).trans y1
      have x2 := (World.ownsRow.cellAt hd.row (i * 5 + 2) (by omega)).trans y2
      have x3 := (World.ownsRow.cellAt hd.row (i * 5 + 3) (by omega)).trans y3
      have x4 := (World.ownsRow.cellAt hd.row (i * 5 + 4) (by omega)).trans y4
      obtain ⟨⟨b0, b1, b2, b3⟩, -⟩ := cells4 hd.c1
      have hca := HC.out.2.2.1 _ wr.drew kk nn ss _ tf (hv.keep (w' := wr.drew) (Nat.le_refl _) fun _ _ _ => rfl) (HC.out.2.2.2.1 _ hm)
      have hdl := hd.lt
      have HR := Lib.hid (And.intro hd (And.intro hca (And.intro y1 (And.intro y2 (And.intro y3 y4)))))
      clear hcp hd hca hv y0 y1 y2 y3 y4 hm
      go_upto_region 5 with fail
      go_region_law (first
        | (go_simp; go_at_call 16; refine HR.out.2.1.mono ?_
           rintro e w5 ⟨⟨pa5, pl5, pc5, rfl, hv5⟩, hb5⟩
           have h5 := HR.out.1.below hb5
           have z1 := (World.ownsRow.cellAt h5.row (i * 5 + 1) (by omega)).trans HR.out.2.2.1
           have z2 := (World.ownsRow.cellAt h5.row (i * 5 + 2) (by omega)).trans HR.out.2.2.2.1
           have z3 := (World.ownsRow.cellAt h5.row (i * 5 + 3) (by omega)).trans HR.out.2.2.2.2.1
           have z4 := (World.ownsRow.cellAt h5.row (i * 5 + 4) (by omega)).trans HR.out.2.2.2.2.2
           have v1 := World.ownsRow.frozenAt h5.row (i * 5 + 1)
           have v2 := World.ownsRow.frozenAt h5.row (i * 5 + 2)
           have v3 := World.ownsRow.frozenAt h5.row (i * 5 + 3)
           have v4 := World.ownsRow.frozenAt h5.row (i * 5 + 4)
           obtain ⟨⟨g0', g1', g2', g3'⟩, -⟩ := cells4 h5.c1
           have H5 := Lib.hid (h5.put hf hlt hv5 hdl hGl.2)
           clear h5 hv5 hb5))
      all_goals
        go_wp2_with fail
        exact ⟨⟨i + 1, _, by simp, by omega, H5.out⟩, by simp [intOf]; omega⟩
    · have ti : decide ((i : Int) < (fs.length : Int)) = false := decide_eq_false (by omega)
      obtain rfl : i = fs.length := by omega
      obtain ⟨⟨b0, b1, b2, b3⟩, -⟩ := cells4 hcp.c1
      obtain ⟨⟨d0, d1, d2, d3⟩, d4, d5, d6, d7⟩ := cells4 hcp.c2
      have HP := Lib.hid hcp
      clear hcp
      go_wp2_with fail
      refine bodyPost_ret (results_cell_row rfl _ _ (w.heap.size + 1) 25 #[.int .i64 k, .int .i64 n, .string s, .slice q fs.length cc] (0, 0) _ rfl (set4 HP.out.c2 _ _ _ _) Try.underlying25 rfl (by kernel_rfl)) rfl ?_
      have hb4 := below4 (n := w.heap.size) wr (Nat.le_succ _) (.int .i64 k) (.int .i64 n) (.string s) (.slice q fs.length cc)
      have hk4 := keep4 (n := wr.heap.size) (g := w.heap.size + 1) wr (.int .i64 k) (.int .i64 n) (.string s) (.slice q fs.length cc)
      have hv : IsV (d + 1) (fun b => w.heap.size + 2 ≤ b) wr k n s (.slice q fs.length cc) (mkT k n s fs) := v_of_row HP.out.row (fun b h1 _ _ => h1) fun j f hf => (HP.out.done j f hf (List.getElem?_eq_some_iff.1 hf).1).imp fun b h1 _ => h1.1
      exact ⟨⟨q, _, cc, rfl, (hv.keep hk4.size fun b h1 h2 => hk4.block b h2 (by have : w.heap.size + 2 ≤ b := h1; omega)).imp fun b h1 _ => by have : w.heap.size + 2 ≤ b := h1; show w.heap.size ≤ b; omega⟩, HP.out.bel.trans hb4⟩
theorem copy_any : ∀ d, CopySaid d
  | 0 => fun _ _ _ _ _ _ _ h => h.elim
  | d + 1 => copy_succ d (copy_any d)

end Go.Proofs.Ytkcpnehhcpmdgaa
