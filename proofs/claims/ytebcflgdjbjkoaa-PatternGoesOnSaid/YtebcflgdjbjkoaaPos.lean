/- The reader of patterns: a position more; positions that follow others. No condition beyond those that stand there. -/
import Derived.Laws.ResultCell
import Derived.Test.YtebcflgdjbjkoaaElem
namespace Go.Proofs.Ytebcflgdjbjkoaa
open Go.RowKit

theorem flat_len (l : List Set4) : (flatC l).length = l.length * 4 := by
  induction l with
  | nil => rfl
  | cons a l ih => simp only [flatC, List.length_cons, ih]; omega
theorem flat_app (l m : List Set4) : flatC (l ++ m) = flatC l ++ flatC m := by
  induction l with
  | nil => rfl
  | cons a l ih => simp only [flatC, List.cons_append, ih]
theorem flat_one (k : Set4) : flatC [k] = (setC k).toList := rfl
theorem flat_get : ∀ (l : List Set4) (i j : Nat), i < l.length → j < 4 → (flatC l)[i * 4 + j]? = some (.int .u64 (wd (l.getD i []) j : Nat))
  | [], _, _, h, _ => absurd h (Nat.not_lt_zero _)
  | a :: l, 0, j, _, hj => by
    rcases (show j = 0 ∨ j = 1 ∨ j = 2 ∨ j = 3 by omega) with rfl | rfl | rfl | rfl <;> rfl
  | a :: l, i + 1, j, h, hj => by
    have := flat_get l i j (by simpa using h) hj
    rw [show (i + 1) * 4 + j = (i * 4 + j) + 4 by omega]
    simpa [flatC] using this
/-- A part with a number more. -/
theorem part_first {w : World} {P : Nat} {x : Part} (h : w.heap[P]? = some (.cells (partC x) 90 (0, 0))) (i : Nat) (hi : i ≤ 255) :
    (w.setCell ⟨P, 1 + i / 64, none⟩ (.int .u64 (wd (sadd x.fst i) (i / 64) : Nat))).heap[P]? = some (.cells (partC ⟨x.em, sadd x.fst i, x.lst⟩) 90 (0, 0)) := by
  have h1 := heap_setS h (1 + i / 64) (.int .u64 (wd (sadd x.fst i) (i / 64) : Nat))
  rw [h1]
  have hk : ∀ j, j ≠ i / 64 → wd (sadd x.fst i) j = wd x.fst j := fun j hj => by
    simp only [wd, sadd, List.getD]
    rw [List.getElem?_set_ne (by omega)]
  congr 2
  unfold partC
  rcases (show i / 64 = 0 ∨ i / 64 = 1 ∨ i / 64 = 2 ∨ i / 64 = 3 by omega) with e | e | e | e <;> rw [e] at hk ⊢ <;> simp [hk]
theorem part_last {w : World} {P : Nat} {x : Part} (h : w.heap[P]? = some (.cells (partC x) 90 (0, 0))) (i : Nat) (hi : i ≤ 255) :
    (w.setCell ⟨P, 5 + i / 64, none⟩ (.int .u64 (wd (sadd x.lst i) (i / 64) : Nat))).heap[P]? = some (.cells (partC ⟨x.em, x.fst, sadd x.lst i⟩) 90 (0, 0)) := by
  have h1 := heap_setS h (5 + i / 64) (.int .u64 (wd (sadd x.lst i) (i / 64) : Nat))
  rw [h1]
  have hk : ∀ j, j ≠ i / 64 → wd (sadd x.lst i) j = wd x.lst j := fun j hj => by
    simp only [wd, sadd, List.getD]
    rw [List.getElem?_set_ne (by omega)]
  congr 2
  unfold partC
  rcases (show i / 64 = 0 ∨ i / 64 = 1 ∨ i / 64 = 2 ∨ i / 64 = 3 by omega) with e | e | e | e <;> rw [e] at hk ⊢ <;> simp [hk]
theorem part_cells {w : World} {P : Nat} {x : Part} (h : w.heap[P]? = some (.cells (partC x) 90 (0, 0))) :
    (w.cell? ⟨P, 0, none⟩ = some (.bool x.em) ∧ SetAt P 1 x.fst w ∧ SetAt P 5 x.lst w) ∧ ∀ j, w.frozen? ⟨P, j, none⟩ = false := by
  refine ⟨⟨by rw [Lib.cell_of_heap h]; rfl, fun j hj => ?_, fun j hj => ?_⟩, fun j => Lib.frozen_of_heap h j⟩ <;>
    (rw [Lib.cell_of_heap h]; rcases (show j = 0 ∨ j = 1 ∨ j = 2 ∨ j = 3 by omega) with rfl | rfl | rfl | rfl <;> rfl)
theorem row_slice {w : World} {base : Nat} {e : TypeId} {size : Nat} {v : Value} {n : Nat} {xs : List Value} (h : w.ownsRow base e size v n xs) : ∃ a c, v = .slice a n c ∧ n ≤ c ∧ c ≤ 9223372036854775807 := by
  rcases h.2 with ⟨h1, h2⟩ | ⟨g, cap, cur, h1, _, _, h2, h3, _⟩
  · exact ⟨none, 0, by rw [h1, h2], by omega, by omega⟩
  · exact ⟨_, cap, h1, h2, by unfold maxLen at h3; omega⟩
/-- What position makes of the state. -/
def posM (st : PSt) (k : Set4) : PSt × Part := (⟨st.pos, st.cls ++ [k], st.fol ++ [e4], st.bad⟩, ⟨false, sadd e4 st.cls.length, sadd e4 st.cls.length⟩)
def PartPost (B R : Nat) (s : ByteArray) (st : PSt) (x : Part) (w : World) (e : Ending) (w' : World) : Prop := e = .returned (.agg (partC x)) ∧ RdAt B R s st w' ∧ Below B w w' ∧ KeepR w w' ∧ x.ok
theorem row_ne {w : World} {base : Nat} {e : TypeId} {size : Nat} {v : Value} {n : Nat} {xs : List Value} (h : w.ownsRow base e size v n xs) {k : Nat} {cs : Array Value} {T : TypeId} {m : Nat × Nat} (hk : w.heap[k]? = some (.cells cs T m)) (hT : T ≠ e) : v.ownBlock ≠ some k := by
  rcases h.2 with ⟨h1, _⟩ | ⟨g, cap, cur, h1, _, hg, _⟩
  · rw [h1]; intro e; cases e
  · rw [h1]
    intro e
    injection e with e
    have e' : g = k := e
    subst e'
    rw [hg] at hk
    injection hk with hk
    injection hk with _ e2 _
    exact hT e2.symm
section
variable {B R : Nat} {s : ByteArray} {st : PSt} {cv fv : Value} {W1 w7 : World} {o : Obj} {g cap : Nat}
theorem grown_below (hbase : B ≤ W1.heap.size) {v : Value} {e : TypeId} {size n : Nat} {xs : List Value} (h : W1.ownsRow B e size v n xs) (hg : (W1.alloc o).grownBy w7 v.ownBlock) : Below B W1 w7 :=
  ((Below.refl B W1).alloc hbase o).grown hg (by simp; omega) fun k hk => (World.ownsRow.lt h k hk).1
theorem grown_block {v : Value} (hg : (W1.alloc o).grownBy w7 v.ownBlock) (k : Nat) (hk : k < W1.heap.size) (hne : v.ownBlock ≠ some k) : w7.heap[k]? = W1.heap[k]? := by
  rw [hg.block k (by simp; omega) (fun e => hne e.symm), heap_alloc_old W1 o hk]
theorem RdIn.app_cls (h : RdIn B R s st cv fv W1) (k : Set4) (hk : Words k) (hn : st.cls.length ≤ 255)
    (hrow : w7.ownsRow B 114 4 (.slice (some ⟨g, 0, none⟩) (st.cls.length + 1) cap) (st.cls.length + 1) (flatC st.cls ++ (setC k).toList)) (hg : (W1.alloc o).grownBy w7 cv.ownBlock) :
    RdIn B R s ⟨st.pos, st.cls ++ [k], st.fol, st.bad⟩ (.slice (some ⟨g, 0, none⟩) (st.cls.length + 1) cap) fv (w7.setCell ⟨R, 2, none⟩ (.slice (some ⟨g, 0, none⟩) (st.cls.length + 1) cap)) ∧
    w7.heap[R]? = some (.cells (rdC s st.pos cv fv st.bad) 116 (0, 0)) ∧ KeepR W1 (w7.setCell ⟨R, 2, none⟩ (.slice (some ⟨g, 0, none⟩) (st.cls.length + 1) cap)) ∧ Below B W1 (w7.setCell ⟨R, 2, none⟩ (.slice (some ⟨g, 0, none⟩) (st.cls.length + 1) cap)) := by
  have hRl := lt_of_block h.cell
  have hB : B ≤ W1.heap.size := Nat.le_trans h.low (Nat.le_of_lt hRl)
  have hb7 := grown_below hB h.crow hg
  have hblk := fun k hk hne => grown_block hg k hk hne
  have hR7 := (hblk R hRl (row_ne h.crow h.cell (by decide))).trans h.cell
  have hne : ∀ k, k ≠ R → (w7.setCell ⟨R, 2, none⟩ (.slice (some ⟨g, 0, none⟩) (st.cls.length + 1) cap)).heap[k]? = w7.heap[k]? := fun k hk => Below.heap_setCell _ _ _ _ hk
  refine ⟨⟨h.low, heap_setS hR7 2 _, ?_, ?_, ?_, h.fok, ?_⟩, hR7, ?_, hb7.setCell (p := ⟨R, 2, none⟩) h.low _⟩
  · rw [show (st.cls ++ [k]).length = st.cls.length + 1 by simp, flat_app]
    exact row_keepP hrow fun q hq => hne q fun e => row_ne hrow hR7 (by decide) (e ▸ hq)
  · refine row_keepP h.frow fun q hq => ?_
    have hql := World.ownsRow.lt h.frow q hq
    have hqR : q ≠ R := fun e => row_ne h.frow h.cell (by decide) (e ▸ hq)
    refine (hne q hqR).trans (hblk q hql.2 ?_)
    intro e
    rcases h.frow.2 with ⟨h1, _⟩ | ⟨g2, c2, cur, h1, _, hg2, _⟩
    · rw [h1] at hq; cases hq
    · rw [h1] at hq
      have : g2 = q := by injection hq
      subst this
      exact row_ne h.crow hg2 (by decide) e
  · intro x hx
    rcases List.mem_append.1 hx with h1 | h1
    · exact h.cok x h1
    · have : x = k := by simpa using h1
      rw [this]; exact hk
  · have := h.len
    simp
    omega
  · intro q cs T m hq h1 h2 h3
    have hqR : q ≠ R := fun e => by
      rw [e, h.cell] at hq
      injection hq with hq
      injection hq with _ e2 _
      exact h1 e2.symm
    exact (hne q hqR).trans ((hblk q (lt_of_block hq) (row_ne h.crow hq h2)).trans hq)
theorem RdIn.app_fol (h : RdIn B R s st cv fv W1) (k : Set4) (hk : Words k) (hn : st.fol.length ≤ 255)
    (hrow : w7.ownsRow B 88 4 (.slice (some ⟨g, 0, none⟩) (st.fol.length + 1) cap) (st.fol.length + 1) (flatC st.fol ++ (setC k).toList)) (hg : (W1.alloc o).grownBy w7 fv.ownBlock) :
    RdIn B R s ⟨st.pos, st.cls, st.fol ++ [k], st.bad⟩ cv (.slice (some ⟨g, 0, none⟩) (st.fol.length + 1) cap) (w7.setCell ⟨R, 3, none⟩ (.slice (some ⟨g, 0, none⟩) (st.fol.length + 1) cap)) ∧
    w7.heap[R]? = some (.cells (rdC s st.pos cv fv st.bad) 116 (0, 0)) ∧ KeepR W1 (w7.setCell ⟨R, 3, none⟩ (.slice (some ⟨g, 0, none⟩) (st.fol.length + 1) cap)) ∧ Below B W1 (w7.setCell ⟨R, 3, none⟩ (.slice (some ⟨g, 0, none⟩) (st.fol.length + 1) cap)) := by
  have hRl := lt_of_block h.cell
  have hB : B ≤ W1.heap.size := Nat.le_trans h.low (Nat.le_of_lt hRl)
  have hb7 := grown_below hB h.frow hg
  have hblk := fun k hk hne => grown_block hg k hk hne
  have hR7 := (hblk R hRl (row_ne h.frow h.cell (by decide))).trans h.cell
  have hne : ∀ k, k ≠ R → (w7.setCell ⟨R, 3, none⟩ (.slice (some ⟨g, 0, none⟩) (st.fol.length + 1) cap)).heap[k]? = w7.heap[k]? := fun k hk => Below.heap_setCell _ _ _ _ hk
  refine ⟨⟨h.low, heap_setS hR7 3 _, ?_, ?_, h.cok, ?_, ?_⟩, hR7, ?_, hb7.setCell (p := ⟨R, 3, none⟩) h.low _⟩
  · refine row_keepP h.crow fun q hq => ?_
    have hql := World.ownsRow.lt h.crow q hq
    have hqR : q ≠ R := fun e => row_ne h.crow h.cell (by decide) (e ▸ hq)
    refine (hne q hqR).trans (hblk q hql.2 ?_)
    intro e
    rcases h.crow.2 with ⟨h1, _⟩ | ⟨g2, c2, cur, h1, _, hg2, _⟩
    · rw [h1] at hq; cases hq
    · rw [h1] at hq
      have : g2 = q := by injection hq
      subst this
      exact row_ne h.frow hg2 (by decide) e
  · rw [show (st.fol ++ [k]).length = st.fol.length + 1 by simp, flat_app]
    exact row_keepP hrow fun q hq => hne q fun e => row_ne hrow hR7 (by decide) (e ▸ hq)
  · intro x hx
    rcases List.mem_append.1 hx with h1 | h1
    · exact h.fok x h1
    · have : x = k := by simpa using h1
      rw [this]; exact hk
  · have := h.len
    simp
    omega
  · intro q cs T m hq h1 h2 h3
    have hqR : q ≠ R := fun e => by
      rw [e, h.cell] at hq
      injection hq with hq
      injection hq with _ e2 _
      exact h1 e2.symm
    exact (hne q hqR).trans ((hblk q (lt_of_block hq) (row_ne h.frow hq h3)).trans hq)
end
/-- The cells of a part. -/
theorem part9 {w : World} {P : Nat} {x : Part} (h : w.heap[P]? = some (.cells (partC x) 90 (0, 0))) :
    (w.cell? ⟨P, 0, none⟩ = some (.bool x.em) ∧ w.cell? ⟨P, 1, none⟩ = some (.int .u64 (wd x.fst 0 : Nat)) ∧ w.cell? ⟨P, 2, none⟩ = some (.int .u64 (wd x.fst 1 : Nat)) ∧ w.cell? ⟨P, 3, none⟩ = some (.int .u64 (wd x.fst 2 : Nat)) ∧ w.cell? ⟨P, 4, none⟩ = some (.int .u64 (wd x.fst 3 : Nat)) ∧
    w.cell? ⟨P, 5, none⟩ = some (.int .u64 (wd x.lst 0 : Nat)) ∧ w.cell? ⟨P, 6, none⟩ = some (.int .u64 (wd x.lst 1 : Nat)) ∧ w.cell? ⟨P, 7, none⟩ = some (.int .u64 (wd x.lst 2 : Nat)) ∧ w.cell? ⟨P, 8, none⟩ = some (.int .u64 (wd x.lst 3 : Nat))) ∧
    w.frozen? ⟨P, 0, none⟩ = false ∧ w.frozen? ⟨P, 1, none⟩ = false ∧ w.frozen? ⟨P, 2, none⟩ = false ∧ w.frozen? ⟨P, 3, none⟩ = false ∧ w.frozen? ⟨P, 4, none⟩ = false ∧ w.frozen? ⟨P, 5, none⟩ = false ∧ w.frozen? ⟨P, 6, none⟩ = false ∧ w.frozen? ⟨P, 7, none⟩ = false ∧ w.frozen? ⟨P, 8, none⟩ = false := by
  refine ⟨⟨?_, ?_, ?_, ?_, ?_, ?_, ?_, ?_, ?_⟩, Lib.frozen_of_heap h _, Lib.frozen_of_heap h _, Lib.frozen_of_heap h _, Lib.frozen_of_heap h _, Lib.frozen_of_heap h _, Lib.frozen_of_heap h _, Lib.frozen_of_heap h _, Lib.frozen_of_heap h _, Lib.frozen_of_heap h _⟩ <;> (rw [Lib.cell_of_heap h]; rfl)
/-- The world behind a store of a part. -/
def put9 (w : World) (g : Nat) (v0 v1 v2 v3 v4 v5 v6 v7 v8 : Value) : World := (((((((((w.setCell ⟨g, 0, none⟩ v0).setCell ⟨g, 1, none⟩ v1).setCell ⟨g, 2, none⟩ v2).setCell ⟨g, 3, none⟩ v3).setCell ⟨g, 4, none⟩ v4).setCell ⟨g, 5, none⟩ v5).setCell ⟨g, 6, none⟩ v6).setCell ⟨g, 7, none⟩ v7).setCell ⟨g, 8, none⟩ v8)
theorem put9_at {w : World} {g : Nat} {c0 c1 c2 c3 c4 c5 c6 c7 c8 : Value} {T : TypeId} {m : Nat × Nat} (h : w.heap[g]? = some (.cells #[c0, c1, c2, c3, c4, c5, c6, c7, c8] T m)) (v0 v1 v2 v3 v4 v5 v6 v7 v8 : Value) :
    (put9 w g v0 v1 v2 v3 v4 v5 v6 v7 v8).heap[g]? = some (.cells #[v0, v1, v2, v3, v4, v5, v6, v7, v8] T m) := by
  have := heap_setS (heap_setS (heap_setS (heap_setS (heap_setS (heap_setS (heap_setS (heap_setS (heap_setS h 0 v0) 1 v1) 2 v2) 3 v3) 4 v4) 5 v5) 6 v6) 7 v7) 8 v8
  unfold put9
  simpa only [List.setIfInBounds_toArray, List.set_cons_zero, List.set_cons_succ] using this
theorem put9_below (w : World) (g n : Nat) (hn : n ≤ g) (v0 v1 v2 v3 v4 v5 v6 v7 v8 : Value) : Below n w (put9 w g v0 v1 v2 v3 v4 v5 v6 v7 v8) :=
  ((((((((Below.refl n w).setCell (p := ⟨g, 0, none⟩) hn v0).setCell (p := ⟨g, 1, none⟩) hn v1).setCell (p := ⟨g, 2, none⟩) hn v2).setCell (p := ⟨g, 3, none⟩) hn v3).setCell (p := ⟨g, 4, none⟩) hn v4).setCell (p := ⟨g, 5, none⟩) hn v5).setCell (p := ⟨g, 6, none⟩) hn v6).setCell (p := ⟨g, 7, none⟩) hn v7 |>.setCell (p := ⟨g, 8, none⟩) hn v8
theorem put9_other (w : World) (g k : Nat) (hk : k ≠ g) (v0 v1 v2 v3 v4 v5 v6 v7 v8 : Value) : (put9 w g v0 v1 v2 v3 v4 v5 v6 v7 v8).heap[k]? = w.heap[k]? := by
  unfold put9
  rw [Below.heap_setCell _ _ _ _ hk, Below.heap_setCell _ _ _ _ hk, Below.heap_setCell _ _ _ _ hk, Below.heap_setCell _ _ _ _ hk, Below.heap_setCell _ _ _ _ hk, Below.heap_setCell _ _ _ _ hk, Below.heap_setCell _ _ _ _ hk, Below.heap_setCell _ _ _ _ hk, Below.heap_setCell _ _ _ _ hk]
theorem put9_size (w : World) (g : Nat) (v0 v1 v2 v3 v4 v5 v6 v7 v8 : Value) : (put9 w g v0 v1 v2 v3 v4 v5 v6 v7 v8).heap.size = w.heap.size := by simp [put9]
/-- One block alone is changed. -/
structure One (X : Nat) (w w' : World) : Prop where
  os : w'.os = w.os
  tape : w'.tape = w.tape
  output : w'.output = w.output
  size : w'.heap.size = w.heap.size
  other : ∀ k, k ≠ X → w'.heap[k]? = w.heap[k]?
theorem One.trans {X : Nat} {a b c : World} (h : One X a b) (k : One X b c) : One X a c := ⟨k.os.trans h.os, k.tape.trans h.tape, k.output.trans h.output, k.size.trans h.size, fun q hq => (k.other q hq).trans (h.other q hq)⟩
theorem One.below {X n : Nat} {w w' : World} (h : One X w w') (hn : n ≤ X) : Below n w w' := ⟨h.os, h.tape, h.output, by rw [h.size]; exact Nat.le_refl _, fun k hk => h.other k (by omega)⟩
theorem one_set (X i : Nat) (w : World) (v : Value) : One X w (w.setCell ⟨X, i, none⟩ v).drew := ⟨rfl, rfl, rfl, by simp, fun k hk => Below.heap_setCell _ _ _ _ hk⟩
theorem one_put9 (w : World) (g : Nat) (v0 v1 v2 v3 v4 v5 v6 v7 v8 : Value) : One g w (put9 w g v0 v1 v2 v3 v4 v5 v6 v7 v8) := by
  have h := put9_below w g 0 (Nat.zero_le _) v0 v1 v2 v3 v4 v5 v6 v7 v8
  exact ⟨h.os, h.tape, h.output, put9_size .., fun k hk => put9_other _ _ _ hk ..⟩
theorem one_join (X o : Nat) (r : Set4) (w : World) (i : Nat) : One X w (joinW w X o r i) := by
  have h := joinW_below w X o r 0 (Nat.zero_le _) i
  exact ⟨h.os, h.tape, h.output, joinW_size .., fun k hk => joinW_block w X o r k hk i⟩
/-- The reader is where other blocks than its own are changed. -/
theorem RdIn.other {B R : Nat} {s : ByteArray} {st : PSt} {cv fv : Value} {W W' : World} (h : RdIn B R s st cv fv W) (hR : W'.heap[R]? = W.heap[R]?) (hk : ∀ k, cv.ownBlock = some k ∨ fv.ownBlock = some k → W'.heap[k]? = W.heap[k]?) : RdIn B R s st cv fv W' :=
  ⟨h.low, hR.trans h.cell, row_keepP h.crow fun g hg => hk g (Or.inl hg), row_keepP h.frow fun g hg => hk g (Or.inr hg), h.cok, h.fok, h.len⟩
/-- A block of another type may be changed. -/
theorem RdIn.at_other {B R g : Nat} {s : ByteArray} {st : PSt} {cv fv : Value} {W W' : World} (h : RdIn B R s st cv fv W) {cs : Array Value} {T : TypeId} {m : Nat × Nat} (hg : W.heap[g]? = some (.cells cs T m)) (h1 : T ≠ 116) (h2 : T ≠ 114) (h3 : T ≠ 88) (hk : ∀ k, k ≠ g → W'.heap[k]? = W.heap[k]?) : RdIn B R s st cv fv W' := by
  refine h.other (hk R fun e => ?_) fun k hk2 => hk k fun e => ?_
  · rw [← e, h.cell] at hg
    injection hg with hg
    injection hg with _ e2 _
    exact h1 e2.symm
  · rw [← e] at hg
    rcases hk2 with hk2 | hk2
    · exact row_ne h.crow hg h2 hk2
    · exact row_ne h.frow hg h3 hk2
set_option maxRecDepth 100000 in
set_option maxHeartbeats 4000000 in
theorem position_any {B R : Nat} {s : ByteArray} {st : PSt} {w : World} (h : RdAt B R s st w) (k : Set4) (hk : Words k) (hn : st.cls.length ≤ 255) :
    Calls Try.prog 61 #[.pointer (some ⟨R, 0, none⟩), .agg (setC k)] w (PartPost B R s (posM st k).1 (posM st k).2 w) := by
  obtain ⟨cv, fv, h, hlen⟩ := h
  obtain ⟨ca, cc, rfl, hcc⟩ := row_slice h.crow
  obtain ⟨fa, fc, rfl, hfc⟩ := row_slice h.frow
  have hRl := lt_of_block h.cell
  have hBw : B ≤ w.heap.size := Nat.le_trans h.low (Nat.le_of_lt hRl)
  have hab : Below w.heap.size w ((w.alloc (.cells (setC k) 114 (0, 0))).alloc (.cells #[.bool false, .int .u64 0, .int .u64 0, .int .u64 0, .int .u64 0, .int .u64 0, .int .u64 0, .int .u64 0, .int .u64 0] 90 (0, 0))) := ((Below.refl w.heap.size w).alloc (Nat.le_refl _) _).alloc (by simp) _
  have e1 : ((w.alloc (.cells (setC k) 114 (0, 0))).alloc (.cells #[.bool false, .int .u64 0, .int .u64 0, .int .u64 0, .int .u64 0, .int .u64 0, .int .u64 0, .int .u64 0, .int .u64 0] 90 (0, 0))).heap[w.heap.size]? = some (.cells (setC k) 114 (0, 0)) := pair1 w _ _
  have e2 : ((w.alloc (.cells (setC k) 114 (0, 0))).alloc (.cells #[.bool false, .int .u64 0, .int .u64 0, .int .u64 0, .int .u64 0, .int .u64 0, .int .u64 0, .int .u64 0, .int .u64 0] 90 (0, 0))).heap[w.heap.size + 1]? = some (.cells #[.bool false, .int .u64 0, .int .u64 0, .int .u64 0, .int .u64 0, .int .u64 0, .int .u64 0, .int .u64 0, .int .u64 0] 90 (0, 0)) := pair2 w _ _
  have hr := h.below hab
  have hsz : ((w.alloc (.cells (setC k) 114 (0, 0))).alloc (.cells #[.bool false, .int .u64 0, .int .u64 0, .int .u64 0, .int .u64 0, .int .u64 0, .int .u64 0, .int .u64 0, .int .u64 0] 90 (0, 0))).heap.size = w.heap.size + 2 := by simp
  have HI := Lib.hid (And.intro hr (And.intro e1 (And.intro e2 (And.intro hab (And.intro hk (And.intro hBw (And.intro hRl (And.intro hsz hlen))))))))
  generalize hn' : st.cls.length = n at *
  have tn : decide (255 < (n : Int)) = false := decide_eq_false (by omega)
  clear h hr e1 e2 hab hk hsz hlen
  go_enter Try.func61, Try.ntmps61
  go_upto_region 1 with fail
  have hi := HI.out
  clear HI
  generalize (w.alloc (.cells (setC k) 114 (0, 0))).alloc (.cells #[.bool false, .int .u64 0, .int .u64 0, .int .u64 0, .int .u64 0, .int .u64 0, .int .u64 0, .int .u64 0, .int .u64 0] 90 (0, 0)) = W at *
  obtain ⟨hr, e1, e2, hab, hk, hBw, hRl, hsz, hlen⟩ := hi
  obtain ⟨⟨a0, a1, a2, a3, a4⟩, a5, a6, a7, a8⟩ := rd_cells hr.cell
  have x1 := setAt_of e1
  have hKr : w.heap.size ≠ R := by omega
  have hrd : W.drew.heap[w.heap.size]? = some (.cells (setC k) 114 (0, 0)) := e1
  have HI := Lib.hid (And.intro hr (And.intro e1 (And.intro e2 (And.intro hab (And.intro hk (And.intro hBw (And.intro hRl (And.intro hsz hlen))))))))
  have g2 := fun o => Lib.cell?_alloc_some (W := W) o a2
  have hcr : W.ownsRow B 114 4 (.slice ca n cc) n (flatC st.cls) := by have := hr.crow; rw [hn'] at this; exact this
  have k0 : W.drew.cell? ⟨w.heap.size, 0, none⟩ = some (.int .u64 (wd k 0 : Nat)) := by rw [Lib.cell_of_heap hrd]; rfl
  have k1 : W.drew.cell? ⟨w.heap.size, 1, none⟩ = some (.int .u64 (wd k 1 : Nat)) := by rw [Lib.cell_of_heap hrd]; rfl
  have k2 : W.drew.cell? ⟨w.heap.size, 2, none⟩ = some (.int .u64 (wd k 2 : Nat)) := by rw [Lib.cell_of_heap hrd]; rfl
  have k3 : W.drew.cell? ⟨w.heap.size, 3, none⟩ = some (.int .u64 (wd k 3 : Nat)) := by rw [Lib.cell_of_heap hrd]; rfl
  have hrD : RdIn B R s st (.slice ca n cc) (.slice fa st.fol.length fc) W.drew := ⟨hr.low, hr.cell, hr.crow, hr.frow, hr.cok, hr.fok, hr.len⟩
  have HD := Lib.hid (And.intro hrD hcr)
  clear hr e1 e2 hab hk hsz hlen hrD hrd x1 hcr
  go_upto_region 5 with fail
  go_region_law (first
    | (refine step_append_el elem_class rfl _ _ 84 rfl Try.underlying84 B _ n (flatC st.cls) rfl (HD.out.2.alloc (.cells (setC k) 114 (0, 0))) (by omega) W.heap.size 1 (setC k).toList rfl rfl (heap_alloc_new W _) (by simp [setC, Value.oneCell']) (by have := HI.out.2.2.2.2.2.2.2.1; simp; omega) ?_
       intro g cap w7 hrow7 hg7 hv7
       have h7 := HD.out.1.app_cls (g := g) (cap := cap) (w7 := w7) (o := .cells (setC k) 114 (0, 0)) k HI.out.2.2.2.2.1 (by omega) (by rw [hn']; exact hrow7) hg7
       rw [hn'] at h7
       obtain ⟨⟨b0, b1, b2, b3, b4⟩, b5, b6, b7, b8⟩ := rd_cells h7.2.1
       have H7 := Lib.hid h7
       clear h7 hrow7 hg7 hv7))
  all_goals
    clear b0 b1 b2 b3 b4 b5 b6 b7 b8 a0 a1 a2 a3 a4 a5 a6 a7 a8 k0 k1 k2 k3 g2
    have hbd := H7.out.2.2.2.size
    go_upto_region 6 with fail
    have h7 := H7.out
    clear H7 HD
    generalize w7.setCell ⟨R, 2, none⟩ (.slice (some ⟨g, 0, none⟩) (n + 1) cap) = W8 at *
    obtain ⟨hr8, -, hk8, hb8⟩ := h7
    obtain ⟨⟨a0, a1, a2, a3, a4⟩, a5, a6, a7, a8⟩ := rd_cells hr8.cell
    have hfr := hr8.frow
    have hR8 := lt_of_block hr8.cell
    have H8 := Lib.hid (And.intro hr8 (And.intro hk8 (And.intro hb8 hfr)))
    clear hr8 hk8 hb8 hfr
    go_wp2_with (first
      | (at_builtin; refine append_el elem_set rfl _ _ 85 rfl Try.underlying85 B _ st.fol.length (flatC st.fol) rfl (H8.out.2.2.2.alloc (.cells (setC e4) 88 (0, 0))) (by have := HI.out.2.2.2.2.2.2.2.2; omega) W8.heap.size 1 (setC e4).toList rfl rfl (heap_alloc_new W8 _) (by simp [setC, Value.oneCell']) (by have := H8.out.1.low; simp; omega) ?_
         intro v9 w9 hrow9 hg9
         obtain ⟨g9, cap9, rfl⟩ := ownsRow_formW hrow9 (by omega)
         have h9 := H8.out.1.app_fol (g := g9) (cap := cap9) (w7 := w9) (o := .cells (setC e4) 88 (0, 0)) e4 words_e4 (by have := HI.out.2.2.2.2.2.2.2.2; show st.fol.length ≤ 255; omega) hrow9 hg9
         obtain ⟨⟨b0, b1, b2, b3, b4⟩, b5, b6, b7, b8⟩ := rd_cells h9.2.1
         have H9 := Lib.hid h9
         clear h9 hrow9 hg9)
      | fail)
    obtain ⟨hr10, -, hk10, hb10⟩ := H9.out
    have hXs : (w9.setCell ⟨R, 3, none⟩ (.slice (some ⟨g9, 0, none⟩) (st.fol.length + 1) cap9)).heap.size = w9.heap.size := by simp
    have hZ : (#[.bool false, .int .u64 0, .int .u64 0, .int .u64 0, .int .u64 0, .int .u64 0, .int .u64 0, .int .u64 0, .int .u64 0] : Array Value) = partC ⟨false, e4, e4⟩ := rfl
    have eX : ((w9.setCell ⟨R, 3, none⟩ (.slice (some ⟨g9, 0, none⟩) (st.fol.length + 1) cap9)).alloc (.cells #[.bool false, .int .u64 0, .int .u64 0, .int .u64 0, .int .u64 0, .int .u64 0, .int .u64 0, .int .u64 0, .int .u64 0] 90 (0, 0))).heap[w9.heap.size]? = some (.cells (partC ⟨false, e4, e4⟩) 90 (0, 0)) := by
      rw [← hXs, hZ]; exact heap_alloc_new _ _
    have hal := (Below.refl _ (w9.setCell ⟨R, 3, none⟩ (.slice (some ⟨g9, 0, none⟩) (st.fol.length + 1) cap9))).alloc (Nat.le_refl _) (.cells #[.bool false, .int .u64 0, .int .u64 0, .int .u64 0, .int .u64 0, .int .u64 0, .int .u64 0, .int .u64 0, .int .u64 0] 90 (0, 0))
    have hYX : w.heap.size + 1 < w9.heap.size := by
      have h1 := hb10.size
      have h2 := HI.out.2.2.2.2.2.2.2.1
      have h3 : W.heap.size ≤ W8.heap.size := hbd
      omega
    have hBX : B ≤ w9.heap.size := by have := HI.out.2.2.2.2.2.1; omega
    have hr11 := hr10.below hal
    have eY8 := H8.out.2.1 (w.heap.size + 1) _ _ _ HI.out.2.2.1 (by decide) (by decide) (by decide)
    have eY10 := hk10 (w.heap.size + 1) _ _ _ eY8 (by decide) (by decide) (by decide)
    have eY11 := (hal.block _ (lt_of_block eY10)).trans eY10
    have hk11 : KeepR w ((w9.setCell ⟨R, 3, none⟩ (.slice (some ⟨g9, 0, none⟩) (st.fol.length + 1) cap9)).alloc (.cells #[.bool false, .int .u64 0, .int .u64 0, .int .u64 0, .int .u64 0, .int .u64 0, .int .u64 0, .int .u64 0, .int .u64 0] 90 (0, 0))) :=
      (KeepR.of_below HI.out.2.2.2.1).trans (KeepR.trans (fun q cs T m h1 => H8.out.2.1 q cs T m h1) (hk10.trans (KeepR.of_below hal)))
    have hb11 : Below B w ((w9.setCell ⟨R, 3, none⟩ (.slice (some ⟨g9, 0, none⟩) (st.fol.length + 1) cap9)).alloc (.cells #[.bool false, .int .u64 0, .int .u64 0, .int .u64 0, .int .u64 0, .int .u64 0, .int .u64 0, .int .u64 0, .int .u64 0] 90 (0, 0))) := by
      have h1 := HI.out.2.2.2.1.mono HI.out.2.2.2.2.2.1
      have h2 := H8.out.2.2.1
      have h3 : Below B W W8 := ⟨h2.os, h2.tape, h2.output, h2.size, h2.block⟩
      exact h1.trans (h3.trans (hb10.trans (hal.mono (by rw [hXs]; exact hBX))))
    have HX := Lib.hid (And.intro hr11 (And.intro eX (And.intro eY11 (And.intro hk11 hb11))))
    clear hr10 hk10 hb10 hr11 eX eY8 eY10 eY11 hk11 hb11 hal hXs H9 H8 b0 b1 b2 b3 b4 b5 b6 b7 b8 a0 a1 a2 a3 a4 a5 a6 a7 a8
    generalize (w9.setCell ⟨R, 3, none⟩ (.slice (some ⟨g9, 0, none⟩) (st.fol.length + 1) cap9)).alloc (.cells #[.bool false, .int .u64 0, .int .u64 0, .int .u64 0, .int .u64 0, .int .u64 0, .int .u64 0, .int .u64 0, .int .u64 0] 90 (0, 0)) = W11 at *
    generalize w9.heap.size = X at *
    refine (set_add X 1 e4 n hn W11 words_e4 (part_cells HX.out.2.1).1.2.1 (part_cells HX.out.2.1).2).mono ?_
    rintro e w12 ⟨rfl, hw12⟩
    have e12 : w12.heap[X]? = some (.cells (partC ⟨false, sadd e4 n, e4⟩) 90 (0, 0)) := by rw [hw12]; exact part_first HX.out.2.1 n hn
    have o12 : One X W11 w12 := by rw [hw12]; exact one_set _ _ _ _
    have HS := Lib.hid (set_add X 5 e4 n hn w12 words_e4 (part_cells e12).1.2.2 (part_cells e12).2)
    clear hw12
    have H12 := Lib.hid (And.intro e12 o12)
    clear e12 o12
    go_wp2_with fail
    refine HS.out.mono ?_
    rintro e w13 ⟨rfl, hw13⟩
    have e13 : w13.heap[X]? = some (.cells (partC ⟨false, sadd e4 n, sadd e4 n⟩) 90 (0, 0)) := by rw [hw13]; exact part_last H12.out.1 n hn
    have o13 : One X W11 w13 := H12.out.2.trans (by rw [hw13]; exact one_set _ _ _ _)
    clear hw13 HS
    have eY : w13.heap[w.heap.size + 1]? = some (.cells (partC ⟨false, e4, e4⟩) 90 (0, 0)) := (o13.other _ (by omega)).trans HX.out.2.2.1
    obtain ⟨⟨x0, x1, x2, x3, x4, x5, x6, x7, x8⟩, -⟩ := part9 e13
    obtain ⟨⟨y0, y1, y2, y3, y4, y5, y6, y7, y8⟩, z0, z1, z2, z3, z4, z5, z6, z7, z8⟩ := part9 eY
    have hwS := sadd_words words_e4 n
    have HE := Lib.hid (And.intro o13 (And.intro eY (And.intro e13 hwS)))
    clear o13 eY e13 hwS H12
    have hpx : (posM st k).2 = ⟨false, sadd e4 n, sadd e4 n⟩ := by rw [← hn']; rfl
    have hps : (posM st k).1 = ⟨st.pos, st.cls ++ [k], st.fol ++ [e4], st.bad⟩ := rfl
    generalize sadd e4 n = sn at *
    go_wp2_with fail
    refine bodyPost_ret (results_cell_row rfl _ _ (w.heap.size + 1) 90 (partC ⟨false, sn, sn⟩) (0, 0) _ rfl (put9_at HE.out.2.1 _ _ _ _ _ _ _ _ _) Try.underlying90 rfl (by kernel_rfl)) rfl ?_
    have o14 := one_put9 w13 (w.heap.size + 1) (.bool false) (.int .u64 (wd sn 0 : Nat)) (.int .u64 (wd sn 1 : Nat)) (.int .u64 (wd sn 2 : Nat)) (.int .u64 (wd sn 3 : Nat)) (.int .u64 (wd sn 0 : Nat)) (.int .u64 (wd sn 1 : Nat)) (.int .u64 (wd sn 2 : Nat)) (.int .u64 (wd sn 3 : Nat))
    have hr13 := HX.out.1.at_other (W' := w13) HX.out.2.1 (by decide) (by decide) (by decide) HE.out.1.other
    have hr14 := hr13.at_other HE.out.2.1 (by decide) (by decide) (by decide) o14.other
    show PartPost B R s (posM st k).1 (posM st k).2 w _ _
    rw [hpx, hps]
    refine ⟨rfl, ⟨_, _, hr14, by have := HI.out.2.2.2.2.2.2.2.2; simp; omega⟩, HX.out.2.2.2.2.trans ((HE.out.1.below hBX).trans (o14.below (by have := HI.out.2.2.2.2.2.1; omega))), fun q cs T m h0 h1 h2 h3 => ?_, HE.out.2.2.2, HE.out.2.2.2⟩
    have hq := lt_of_block h0
    exact (o14.other q (by omega)).trans ((HE.out.1.other q (by omega)).trans (HX.out.2.2.2.1 q cs T m h0 h1 h2 h3))

end Go.Proofs.Ytebcflgdjbjkoaa
