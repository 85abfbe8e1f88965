/- What lies in memory while the texts of one length are gone through; no condition beyond those that stand there. -/
import Derived.WalkSmall
import Derived.Test.YtebcflgdjbjkoaaEnum
namespace Go.Proofs.Ytebcflgdjbjkoaa
open Go.RowKit

theorem elem_str : Elem 9 1 := elem_of (b := 16) (z := .string ⟨#[]⟩) (by kernel_rfl) (by kernel_rfl) (by decide) (by decide)
theorem elem_i16 : Elem 61 1 := elem_of (b := 2) (z := .int .i16 0) (by kernel_rfl) (by kernel_rfl) (by decide) (by decide)
theorem one_str (s : ByteArray) : ∀ u ∈ [Value.string s], u.oneCell' = true := fun u hu => by
  simp only [List.mem_cons, List.not_mem_nil, or_false] at hu
  subst hu
  rfl
/-- A step of append in a region that draws. -/
theorem step_append_big {e : TypeId} {k : Nat} (he : Elem e k) {ops : Array Oper} {o : Oper} {a : Act} {w : World} {K : Act → World → Prop} {Q : Exit → Act → World → Prop} {E : Prop} (hgd : o.guard = none) (s x : Operand) (t : TypeId)
    (ho : o.op = .call { callee := .builtin .append, args := #[s, x], argTypes := #[t, t] }) (ht : Try.prog.underlying t = some (.slice e)) (base : Nat)
    (v : Value) (n : Nat) (xs : List Value) (hs : a.eval s = v) (hrow : w.ownsRow base e k v n xs) (hl : n ≤ 1000000)
    (q c : Nat) (news : List Value) (hx : a.eval x = .slice (some ⟨q, 0, none⟩) 1 c) (hm : news.length = k) (hq : w.heap[q]? = some (.cells news.toArray e (0, 0))) (h1 : ∀ u ∈ news, u.oneCell' = true) (hbase : base ≤ w.heap.size)
    (h : ∀ g cap w', w'.ownsRow base e k (.slice (some ⟨g, 0, none⟩) (n + 1) cap) (n + 1) (xs ++ news) → w.grownBy w' v.ownBlock → (v.ownBlock = some g ∨ g = w.heap.size) → K (a.put o.dst (.slice (some ⟨g, 0, none⟩) (n + 1) cap)) w') : if Region.wanted o (yielded ops a.tmps) = true then Oper.wp Try.prog o a w K Q else E := by
  obtain ⟨i0, z, b, hi0, hz0, hz1, hz2, hz3, hk, hb⟩ := he
  refine step_append_lies _ hgd s x t ho base e i0 _ k b ht hi0 hz0 hz1 hz2 hz3 hk v n xs hs hrow ⟨q, 0, none⟩ 1 c news hx (by omega) ?_ h1 (by decide) (by unfold maxLen; omega) ?_ hbase w.heap.size rfl ?_
  · intro j u hj
    have hadd : (⟨q, 0, none⟩ : Addr).add j = ⟨q, j, none⟩ := by unfold Addr.add; split <;> simp_all
    rw [hadd, Lib.cell_of_heap hq]
    simpa using hj
  · have : (n + 1) * b ≤ 1000001 * 1000 := Nat.mul_le_mul (by omega) hb
    omega
  · intro g cap w' h2 h3 h4 _
    exact h g cap w' h2 h3 h4
/-- The cells of a list of texts; of a list of states. -/
def strC (l : List (List UInt8)) : List Value := l.map fun t => Value.string ⟨t.toArray⟩
theorem strC_len (l : List (List UInt8)) : (strC l).length = l.length := by simp [strC]
theorem strC_app (l : List (List UInt8)) (t : List UInt8) : strC (l ++ [t]) = strC l ++ [.string ⟨t.toArray⟩] := by simp [strC]
theorem strC_get {l : List (List UInt8)} {i : Nat} (h : i < l.length) : (strC l)[i]? = some (.string ⟨(l.getD i []).toArray⟩) := by simp [strC, List.getD, h]
def i16C (l : List Nat) : List Value := l.map fun n => Value.int .i16 (n : Nat)
theorem i16C_len (l : List Nat) : (i16C l).length = l.length := by simp [i16C]
theorem i16C_app (l : List Nat) (n : Nat) : i16C (l ++ [n]) = i16C l ++ [.int .i16 (n : Nat)] := by simp [i16C]
theorem i16C_get {l : List Nat} {i : Nat} (h : i < l.length) : (i16C l)[i]? = some (.int .i16 (l.getD i 0 : Nat)) := by simp [i16C, List.getD, h]
/-- The states on the way. -/
def pathS (st : List (Nat × Nat)) (k : Nat) : List Nat := (st.map fun p => p.1).reverse ++ [k]
theorem pathS_len (st : List (Nat × Nat)) (k : Nat) : (pathS st k).length = st.length + 1 := by simp [pathS]
theorem pathS_last (st : List (Nat × Nat)) (k : Nat) : (pathS st k).getD st.length 0 = k := by simp [pathS, List.getD]
theorem pathS_cons (k b k' : Nat) (st : List (Nat × Nat)) : pathS ((k, b) :: st) k' = pathS st k ++ [k'] := by simp [pathS]
theorem stkT_len (st : List (Nat × Nat)) : (stkT st).length = st.length := by simp [stkT]
/-- s[:n], at[:n]. -/
theorem run_takeN {P : Program} (w : World) (t : TypeId) (p : Option Addr) (len cap n : Nat) (ht : P.underlying t = some (.slice (P.elem t))) (hs : ∀ w, (sizeOf (P.elem t)).run P w = .ok 1 w) (hn : n ≤ cap) :
    (Instr.slice t (.slice p len cap) none (some (.int .i64 n)) none).run P w = .ok (.slice p n cap) w := by
  rw [run_slice_h w t p len cap ht .i64 n (by omega) (by omega), hs]
  simp only [Result.andThen, sliced]
  congr 2
  have e : (if cap = 0 then p else p.map (·.add (0 * 1))) = p := by
    split
    · rfl
    · cases p <;> simp [Addr.add]
  exact e
/-- The tables of bools, one for each number of bytes. -/
def LeftT (nx : Nat → Nat → Nat) (en : Nat → Bool) (N gl n : Nat) (w : World) : Prop :=
  ∃ ls T m, w.heap[gl]? = some (.cells ls T m) ∧ T = 56 ∧ ∀ j, j ≤ n → ∃ gj cj cs mj, ls[j]? = some (.slice (some ⟨gj, 0, none⟩) N cj) ∧ w.heap[gj]? = some (.cells cs 4 mj) ∧ ∀ k, k < N → cs[k]? = some (.bool (exB nx en j k))
theorem LeftT.keep {nx : Nat → Nat → Nat} {en : Nat → Bool} {N gl n : Nat} {w w' : World} {v : Value} {xs : List Value} {B m : Nat} (h : LeftT nx en N gl n w) (hr : w.ownsRow B 9 1 v m xs) (hk : ∀ q, q < w.heap.size → v.ownBlock ≠ some q → w'.heap[q]? = w.heap[q]?) : LeftT nx en N gl n w' := by
  obtain ⟨ls, T, mm, h1, rfl, h2⟩ := h
  refine ⟨ls, _, mm, (hk gl (lt_of_block h1) (row_ne hr h1 (by decide))).trans h1, rfl, fun j hj => ?_⟩
  obtain ⟨gj, cj, cs, mj, h3, h4, h5⟩ := h2 j hj
  exact ⟨gj, cj, cs, mj, h3, (hk gj (lt_of_block h4) (row_ne hr h4 (by decide))).trans h4, h5⟩
theorem LeftT.at {nx : Nat → Nat → Nat} {en : Nat → Bool} {N gl n : Nat} {w : World} (h : LeftT nx en N gl n w) {j : Nat} (hj : j ≤ n) : ∃ gj cj, w.cell? ⟨gl, j, none⟩ = some (.slice (some ⟨gj, 0, none⟩) N cj) ∧ ∀ k, k < N → w.cell? ⟨gj, k, none⟩ = some (.bool (exB nx en j k)) := by
  obtain ⟨ls, T, mm, h1, rfl, h2⟩ := h
  obtain ⟨gj, cj, cs, mj, h3, h4, h5⟩ := h2 j hj
  exact ⟨gj, cj, (Lib.cell_of_heap h1 j).trans h3, fun k hk => (Lib.cell_of_heap h4 k).trans (h5 k hk)⟩
/-- What lies in memory. -/
structure StrAt (w : World) (lv0 : Value) (B : Nat) (lst : List (List UInt8)) (sl : List UInt8) (al : List Nat) (lv sv av : Value) (W : World) : Prop where
  os : W.os = w.os
  tape : W.tape = w.tape
  output : W.output = w.output
  size : w.heap.size ≤ W.heap.size
  keep : ∀ q, q < w.heap.size → lv0.ownBlock ≠ some q → W.heap[q]? = w.heap[q]?
  lrow : W.ownsRow B 9 1 lv lst.length (strC lst)
  lown : lv.ownBlock = lv0.ownBlock ∨ ∀ q, lv.ownBlock = some q → w.heap.size ≤ q
  srow : W.ownsRow w.heap.size 5 1 sv sl.length (bytC sl)
  arow : W.ownsRow w.heap.size 61 1 av al.length (i16C al)
theorem rows_ne {w : World} {b b' : Nat} {e e' : TypeId} {s s' : Nat} {v v' : Value} {n n' : Nat} {xs xs' : List Value} (h : w.ownsRow b e s v n xs) (h' : w.ownsRow b' e' s' v' n' xs') (hT : e ≠ e') {q : Nat} (hq : v.ownBlock = some q) : v'.ownBlock ≠ some q := by
  obtain ⟨cu, hcu⟩ := row_cell h hq
  exact row_ne h' hcu hT
section
variable {w : World} {lv0 : Value} {B : Nat} {lst : List (List UInt8)} {sl : List UInt8} {al : List Nat} {lv sv av : Value} {W W' : World}
theorem StrAt.below (h : StrAt w lv0 B lst sl al lv sv av W) (hb : Below W.heap.size W W') : StrAt w lv0 B lst sl al lv sv av W' :=
  ⟨hb.os.trans h.os, hb.tape.trans h.tape, hb.output.trans h.output, Nat.le_trans h.size hb.size, fun q hq hne => (hb.block q (Nat.lt_of_lt_of_le hq h.size)).trans (h.keep q hq hne), row_keepP h.lrow fun q hq => hb.block q (World.ownsRow.lt h.lrow q hq).2, h.lown, row_keepP h.srow fun q hq => hb.block q (World.ownsRow.lt h.srow q hq).2, row_keepP h.arow fun q hq => hb.block q (World.ownsRow.lt h.arow q hq).2⟩
/-- A text is appended to the list. -/
theorem StrAt.putL (h : StrAt w lv0 B lst sl al lv sv av W) {t : List UInt8} {g c : Nat} (hg : W.grownBy W' lv.ownBlock) (hr : W'.ownsRow B 9 1 (.slice (some ⟨g, 0, none⟩) (lst.length + 1) c) (lst.length + 1) (strC lst ++ [.string ⟨t.toArray⟩])) (hl : lv.ownBlock = some g ∨ g = W.heap.size) :
    StrAt w lv0 B (lst ++ [t]) sl al (.slice (some ⟨g, 0, none⟩) (lst.length + 1) c) sv av W' := by
  refine ⟨hg.os.trans h.os, hg.tape.trans h.tape, hg.output.trans h.output, Nat.le_trans h.size hg.size, fun q hq hne => ?_, ?_, ?_, ?_, ?_⟩
  · rw [hg.block q (Nat.lt_of_lt_of_le hq h.size) (fun e => ?_)]
    · exact h.keep q hq hne
    · rcases h.lown with h1 | h1
      · rw [h1] at e; exact hne e.symm
      · have := h1 q e.symm; omega
  · rw [List.length_append, strC_app]
    exact hr
  · rcases hl with h1 | h1
    · rcases h.lown with h2 | h2
      · exact Or.inl ((show (Value.slice (some ⟨g, 0, none⟩) (lst.length + 1) c).ownBlock = some g from rfl).trans (h1.symm.trans h2))
      · refine Or.inr fun q hq => h2 q (h1.trans ?_)
        exact hq
    · refine Or.inr fun q hq => ?_
      have : g = q := by injection hq
      have := h.size
      omega
  · exact row_keepP h.srow fun q hq => hg.block q (World.ownsRow.lt h.srow q hq).2 fun e => rows_ne h.srow h.lrow (by decide) hq e.symm
  · exact row_keepP h.arow fun q hq => hg.block q (World.ownsRow.lt h.arow q hq).2 fun e => rows_ne h.arow h.lrow (by decide) hq e.symm
/-- A byte is appended to the text. -/
theorem StrAt.putS (h : StrAt w lv0 B lst sl al lv sv av W) {t : UInt8} {v : Value} (hg : W.grownBy W' sv.ownBlock) (hr : W'.ownsRow w.heap.size 5 1 v (sl.length + 1) (bytC sl ++ bytC [t])) :
    StrAt w lv0 B lst (sl ++ [t]) al lv v av W' := by
  refine ⟨hg.os.trans h.os, hg.tape.trans h.tape, hg.output.trans h.output, Nat.le_trans h.size hg.size, fun q hq hne => ?_, ?_, h.lown, ?_, ?_⟩
  · rw [hg.block q (Nat.lt_of_lt_of_le hq h.size) (fun e => ?_)]
    · exact h.keep q hq hne
    · have := (World.ownsRow.lt h.srow q e.symm).1
      omega
  · exact row_keepP h.lrow fun q hq => hg.block q (World.ownsRow.lt h.lrow q hq).2 fun e => rows_ne h.lrow h.srow (by decide) hq e.symm
  · rw [List.length_append, bytC_app]
    exact hr
  · exact row_keepP h.arow fun q hq => hg.block q (World.ownsRow.lt h.arow q hq).2 fun e => rows_ne h.arow h.srow (by decide) hq e.symm
/-- A state is appended to the way. -/
theorem StrAt.putA (h : StrAt w lv0 B lst sl al lv sv av W) {k : Nat} {v : Value} (hg : W.grownBy W' av.ownBlock) (hr : W'.ownsRow w.heap.size 61 1 v (al.length + 1) (i16C al ++ [.int .i16 (k : Nat)])) :
    StrAt w lv0 B lst sl (al ++ [k]) lv sv v W' := by
  refine ⟨hg.os.trans h.os, hg.tape.trans h.tape, hg.output.trans h.output, Nat.le_trans h.size hg.size, fun q hq hne => ?_, ?_, h.lown, ?_, ?_⟩
  · rw [hg.block q (Nat.lt_of_lt_of_le hq h.size) (fun e => ?_)]
    · exact h.keep q hq hne
    · have := (World.ownsRow.lt h.arow q e.symm).1
      omega
  · exact row_keepP h.lrow fun q hq => hg.block q (World.ownsRow.lt h.lrow q hq).2 fun e => rows_ne h.lrow h.arow (by decide) hq e.symm
  · exact row_keepP h.srow fun q hq => hg.block q (World.ownsRow.lt h.srow q hq).2 fun e => rows_ne h.srow h.arow (by decide) hq e.symm
  · rw [List.length_append, i16C_app]
    exact hr
/-- The last byte and the last state are taken away. -/
theorem StrAt.pop {t : UInt8} {k gs cs ga ca : Nat} (h : StrAt w lv0 B lst (sl ++ [t]) (al ++ [k]) lv (.slice (some ⟨gs, 0, none⟩) (sl.length + 1) cs) (.slice (some ⟨ga, 0, none⟩) (al.length + 1) ca) W) :
    StrAt w lv0 B lst sl al lv (.slice (some ⟨gs, 0, none⟩) sl.length cs) (.slice (some ⟨ga, 0, none⟩) al.length ca) W := by
  have hs := h.srow
  have ha := h.arow
  rw [List.length_append, bytC_app] at hs
  rw [List.length_append, i16C_app] at ha
  exact ⟨h.os, h.tape, h.output, h.size, h.keep, h.lrow, h.lown, ownsRow_pop (by rw [bytC_len]; omega) hs, ownsRow_pop (by rw [i16C_len]; omega) ha⟩
end

end Go.Proofs.Ytebcflgdjbjkoaa
