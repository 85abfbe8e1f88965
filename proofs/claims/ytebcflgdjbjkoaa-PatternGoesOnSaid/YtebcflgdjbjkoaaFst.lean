/- What lies in memory while pattern.First goes through the numbers of bytes; no condition beyond those that stand there. -/
import Derived.Test.YtebcflgdjbjkoaaStrs
namespace Go.Proofs.Ytebcflgdjbjkoaa
open Go.RowKit

theorem elem_bools : Elem 56 1 := elem_of (b := 24) (z := .slice none 0 0) (by kernel_rfl) (by kernel_rfl) (by decide) (by decide)
theorem one_slice (p : Option Addr) (l c : Nat) : ∀ u ∈ [Value.slice p l c], u.oneCell' = true := fun u hu => by
  simp only [List.mem_cons, List.not_mem_nil, or_false] at hu
  subst hu
  rfl
/-- A row of tables of bools. -/
def TabsOk (nx : Nat → Nat → Nat) (en : Nat → Bool) (N n : Nat) (ls : List Value) (W : World) : Prop :=
  ls.length = n ∧ ∀ j, j < n → ∃ gj cj cs mj, ls[j]? = some (.slice (some ⟨gj, 0, none⟩) N cj) ∧ W.heap[gj]? = some (.cells cs 4 mj) ∧ ∀ k, k < N → cs[k]? = some (.bool (exB nx en j k))
theorem TabsOk.keep {nx : Nat → Nat → Nat} {en : Nat → Bool} {N n : Nat} {ls : List Value} {W W' : World} (h : TabsOk nx en N n ls W) (hk : ∀ (q : Nat) (cs : Array Value) (m : Nat × Nat), W.heap[q]? = some (Obj.cells cs 4 m) → W'.heap[q]? = W.heap[q]?) : TabsOk nx en N n ls W' :=
  ⟨h.1, fun j hj => by
    obtain ⟨gj, cj, cs, mj, h3, h4, h5⟩ := h.2 j hj
    exact ⟨gj, cj, cs, mj, h3, (hk gj cs mj h4).trans h4, h5⟩⟩
structure FsAt (w : World) (M : Nat) (cls fol : List Set4) (x : Part) (sets : List Set4) (rows : List (List Nat)) (ends : List Bool) (nv ev : Value) (en : Nat → Bool) (n : Nat) (out : List (List UInt8)) (ls : List Value) (lv ov : Value) (W : World) : Prop where
  bel : Below w.heap.size w W
  mb : W.heap[M]? = some (.cells #[nv, ev] 58 (0, 0))
  mach : MachAt w.heap.size cls fol x sets rows ends nv ev W
  lrow : W.ownsRow w.heap.size 56 1 lv (n + 1) ls
  ltab : TabsOk (dM rows) en sets.length (n + 1) ls W
  orow : W.ownsRow w.heap.size 9 1 ov out.length (strC out)
section
variable {w : World} {M : Nat} {cls fol : List Set4} {x : Part} {sets : List Set4} {rows : List (List Nat)} {ends : List Bool} {nv ev : Value} {en : Nat → Bool} {n : Nat} {out : List (List UInt8)} {ls : List Value} {lv ov : Value} {W W' : World}
theorem FsAt.left {g c : Nat} (h : FsAt w M cls fol x sets rows ends nv ev en n out ls (.slice (some ⟨g, 0, none⟩) (n + 1) c) ov W) : LeftT (dM rows) en sets.length g n W := by
  obtain ⟨h1, h2⟩ := h.lrow
  rcases h2 with ⟨h0, _⟩ | ⟨g', c', cur, hv, hb, hg, hn, hc, hs, ht⟩
  · cases h0
  · injection hv with hv1 hv2 hv3
    injection hv1 with hv1
    injection hv1 with hv1
    subst hv1
    refine ⟨cur, _, _, hg, rfl, fun j hj => ?_⟩
    obtain ⟨gj, cj, cs, mj, h3, h4, h5⟩ := h.ltab.2 j (by omega)
    refine ⟨gj, cj, cs, mj, ?_, h4, h5⟩
    rw [← ht, List.getElem?_take, if_pos (by omega)] at h3
    simpa using h3
theorem FsAt.below (h : FsAt w M cls fol x sets rows ends nv ev en n out ls lv ov W) (hb : Below W.heap.size W W') : FsAt w M cls fol x sets rows ends nv ev en n out ls lv ov W' :=
  ⟨h.bel.trans (hb.mono h.bel.size), (hb.block _ (lt_of_block h.mb)).trans h.mb, h.mach.below hb, row_keepP h.lrow fun q hq => hb.block q (World.ownsRow.lt h.lrow q hq).2, h.ltab.keep fun q _ _ hq => hb.block q (lt_of_block hq), row_keepP h.orow fun q hq => hb.block q (World.ownsRow.lt h.orow q hq).2⟩
/-- Texts were appended. -/
theorem FsAt.strs (h : FsAt w M cls fol x sets rows ends nv ev en n out ls lv ov W) {out' : List (List UInt8)} {v : Value} (h1 : W'.os = W.os) (h2 : W'.tape = W.tape) (h3 : W'.output = W.output) (h4 : W.heap.size ≤ W'.heap.size) (hk : ∀ q, q < W.heap.size → ov.ownBlock ≠ some q → W'.heap[q]? = W.heap[q]?)
    (hr : W'.ownsRow w.heap.size 9 1 v out'.length (strC out')) : FsAt w M cls fol x sets rows ends nv ev en n out' ls lv v W' := by
  have hs := h.bel.size
  refine ⟨⟨h1.trans h.bel.os, h2.trans h.bel.tape, h3.trans h.bel.output, Nat.le_trans hs h4, fun q hq => (hk q (by omega) (fun e => ?_)).trans (h.bel.block q hq)⟩, (hk M (lt_of_block h.mb) (row_ne h.orow h.mb (by decide))).trans h.mb, ⟨h.mach.half, ?_, ?_⟩, ?_, h.ltab.keep fun q _ _ hq => hk q (lt_of_block hq) (row_ne h.orow hq (by decide)), hr⟩
  · have := (World.ownsRow.lt h.orow q e).1
    omega
  · exact row_keepP h.mach.nrow fun q hq => hk q (World.ownsRow.lt h.mach.nrow q hq).2 (rows_ne h.mach.nrow h.orow (by decide) hq)
  · exact row_keepP h.mach.erow fun q hq => hk q (World.ownsRow.lt h.mach.erow q hq).2 (rows_ne h.mach.erow h.orow (by decide) hq)
  · exact row_keepP h.lrow fun q hq => hk q (World.ownsRow.lt h.lrow q hq).2 (rows_ne h.lrow h.orow (by decide) hq)
/-- A table was appended. -/
theorem FsAt.tab (h : FsAt w M cls fol x sets rows ends nv ev en n out ls lv ov W) {g c gj cj : Nat} {cs : Array Value} {mj : Nat × Nat} (hj : W.heap[gj]? = some (.cells cs 4 mj)) (hc : ∀ k, k < sets.length → cs[k]? = some (.bool (exB (dM rows) en (n + 1) k)))
    (hg : W.grownBy W' lv.ownBlock) (hr : W'.ownsRow w.heap.size 56 1 (.slice (some ⟨g, 0, none⟩) (n + 1 + 1) c) (n + 1 + 1) (ls ++ [.slice (some ⟨gj, 0, none⟩) sets.length cj])) :
    FsAt w M cls fol x sets rows ends nv ev en (n + 1) out (ls ++ [.slice (some ⟨gj, 0, none⟩) sets.length cj]) (.slice (some ⟨g, 0, none⟩) (n + 1 + 1) c) ov W' := by
  have hs := h.bel.size
  have hk : ∀ q, q < W.heap.size → lv.ownBlock ≠ some q → W'.heap[q]? = W.heap[q]? := fun q hq hne => hg.block q hq fun e => hne e.symm
  refine ⟨⟨hg.os.trans h.bel.os, hg.tape.trans h.bel.tape, hg.output.trans h.bel.output, Nat.le_trans hs hg.size, fun q hq => (hk q (by omega) (fun e => ?_)).trans (h.bel.block q hq)⟩, (hk M (lt_of_block h.mb) (row_ne h.lrow h.mb (by decide))).trans h.mb, ⟨h.mach.half, ?_, ?_⟩, hr, ⟨by rw [List.length_append, h.ltab.1]; rfl, fun j hj' => ?_⟩, ?_⟩
  · have := (World.ownsRow.lt h.lrow q e).1
    omega
  · exact row_keepP h.mach.nrow fun q hq => hk q (World.ownsRow.lt h.mach.nrow q hq).2 (rows_ne h.mach.nrow h.lrow (by decide) hq)
  · exact row_keepP h.mach.erow fun q hq => hk q (World.ownsRow.lt h.mach.erow q hq).2 (rows_ne h.mach.erow h.lrow (by decide) hq)
  · rcases Nat.lt_or_ge j (n + 1) with h1 | h1
    · obtain ⟨gj', cj', cs', mj', h3, h4, h5⟩ := h.ltab.2 j h1
      exact ⟨gj', cj', cs', mj', by rw [List.getElem?_append_left (by rw [h.ltab.1]; exact h1)]; exact h3, (hk gj' (lt_of_block h4) (row_ne h.lrow h4 (by decide))).trans h4, h5⟩
    · have e : j = n + 1 := by omega
      subst e
      refine ⟨gj, cj, cs, mj, ?_, (hk gj (lt_of_block hj) (row_ne h.lrow hj (by decide))).trans hj, hc⟩
      rw [List.getElem?_append_right (by rw [h.ltab.1]; exact Nat.le_refl _), h.ltab.1, Nat.sub_self]
      rfl
  · exact row_keepP h.orow fun q hq => hk q (World.ownsRow.lt h.orow q hq).2 (rows_ne h.orow h.lrow (by decide) hq)
end
/-- What First hands on from one number of bytes to the next. -/
theorem out_next (nx : Nat → Nat → Nat) (en : Nat → Bool) {n many : Nat} {out : List (List UInt8)} (h : out = (firstW nx en n).take many) (hl : out.length < many) : out = firstW nx en n ∧ (out ++ allW nx en n 0).take many = (firstW nx en (n + 1)).take many := by
  have e : out = firstW nx en n := by
    rw [h, List.length_take] at hl
    rw [h, List.take_of_length_le (by omega)]
  exact ⟨e, by rw [e, firstW_succ]⟩
theorem out_stay (nx : Nat → Nat → Nat) (en : Nat → Bool) {n many : Nat} {out : List (List UInt8)} (h : out = (firstW nx en n).take many) (hx : exB nx en n 0 = false) : out = (firstW nx en (n + 1)).take many := by
  rw [firstW_succ, allW_nil nx en n 0 hx, List.append_nil]
  exact h
theorem out_full (nx : Nat → Nat → Nat) (en : Nat → Bool) {n m many : Nat} {out : List (List UInt8)} (h : out = (firstW nx en n).take many) (hl : many ≤ out.length) (hm : n ≤ m) : out = (firstW nx en m).take many := by
  obtain ⟨t, ht⟩ := firstW_le nx en hm
  rw [ht, List.take_append_of_le_length (by rw [h, List.length_take] at hl; omega)]
  exact h
theorem out_break (nx : Nat → Nat → Nat) (en : Nat → Bool) {N n m many : Nat} {out : List (List UInt8)} (h : out = (firstW nx en (n + 1)).take many) (h0 : 0 < N) (hN : ∀ k b, k < N → b < 256 → nx k b < N) (hx : ∀ k, k < N → exB nx en (n + 1) k = false) (hm : n + 1 ≤ m) : out = (firstW nx en m).take many := by
  rw [firstW_none nx en (fun j hj => exB_none nx en hN hx j hj 0 h0) m hm]
  exact h

end Go.Proofs.Ytebcflgdjbjkoaa
