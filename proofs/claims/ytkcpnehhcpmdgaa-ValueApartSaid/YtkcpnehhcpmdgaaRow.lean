/- append at rows of elements of several cells; no condition beyond those that stand there. -/
import Derived.Laws.AppendOwnNone
import Derived.Test.YtkcpnehhcpmdgaaSampler
namespace Go.Proofs.Ytkcpnehhcpmdgaa
open Go.RowKit

/-- A type of k cells of which rows are made. -/
def Elem (e : TypeId) (k : Nat) : Prop := ∃ i z b, Try.prog.info? e = some i ∧ i.zero = some z ∧ i.size = k ∧ i.bytes = b ∧ z.cells.size = k ∧ 0 < k ∧ b ≤ 1000
theorem elem_of {e : TypeId} {k b : Nat} {z : Value} (h : (Try.prog.info? e).map (fun i => (i.zero, i.size, i.bytes)) = some (some z, k, b)) (hz : z.cells.size = k) (hk : 0 < k) (hb : b ≤ 1000) : Elem e k := by
  cases hi : Try.prog.info? e with
  | none => rw [hi] at h; simp at h
  | some i => rw [hi] at h; simp at h; exact ⟨i, z, b, hi, h.1, h.2.1, h.2.2, hz, hk, hb⟩
theorem elem_u8 : Elem 5 1 := elem_of (b := 1) (z := .int .u8 0) (by kernel_rfl) (by decide) (by decide) (by decide)
theorem elem_str : Elem 9 1 := elem_of (b := 16) (z := .string ⟨#[]⟩) (by kernel_rfl) (by decide) (by decide) (by decide)
theorem elem_part : Elem 89 7 := elem_of (b := 96) (z := .agg #[.string ⟨#[]⟩, .int .i64 0, .string ⟨#[]⟩, .int .i64 0, .int .i64 0, .string ⟨#[]⟩, .slice none 0 0]) (by kernel_rfl) (by kernel_rfl) (by decide) (by decide)
theorem elem_field : Elem 33 5 := elem_of (b := 72) (z := .agg #[.string ⟨#[]⟩, .int .i64 0, .int .i64 0, .string ⟨#[]⟩, .slice none 0 0]) (by kernel_rfl) (by kernel_rfl) (by decide) (by decide)
theorem append_el {e : TypeId} {k : Nat} (he : Elem e k) {ops : Array Oper} {rest : List Oper} {o : Oper} {a : Act} {w : World} {Q : Exit → Act → World → Prop} (hgd : o.guard = none) (s x : Operand) (t : TypeId)
    (ho : o.op = .call { callee := .builtin .append, args := #[s, x], argTypes := #[t, t] }) (ht : Try.prog.underlying t = some (.slice e)) (base : Nat)
    (v : Value) (n : Nat) (xs : List Value) (hs : a.eval s = v) (hrow : w.ownsRow base e k v n xs) (hl : n ≤ 1000)
    (q c : Nat) (news : List Value) (hx : a.eval x = .slice (some ⟨q, 0, none⟩) 1 c) (hm : news.length = k) (hq : w.heap[q]? = some (.cells news.toArray e (0, 0))) (h1 : ∀ u ∈ news, u.oneCell' = true) (hbase : base ≤ w.heap.size)
    (h : ∀ v' w', w'.ownsRow base e k v' (n + 1) (xs ++ news) → w.grownBy w' v.ownBlock → wpList Try.prog ops Q rest (a.put o.dst v') w') : wpList Try.prog ops Q (o :: rest) a w := by
  obtain ⟨i0, z, b, hi0, hz0, hz1, hz2, hz3, hk, hb⟩ := he
  refine wpList_append_own _ hgd s x t ho base e i0 _ k b ht hi0 hz0 hz1 hz2 hz3 hk v n xs hs hrow ⟨q, 0, none⟩ 1 c news hx (by omega) ?_ h1 (by unfold maxLen; omega) ?_ hbase ?_
  · intro j u hj
    have hadd : (⟨q, 0, none⟩ : Addr).add j = ⟨q, j, none⟩ := by unfold Addr.add; split <;> simp_all
    rw [hadd, Lib.cell_of_heap hq]
    simpa using hj
  · have : (n + 1) * b ≤ 1001 * 1000 := Nat.mul_le_mul (by omega) hb
    omega
  · intro v' w' h2 h3 _
    exact h v' w' h2 h3

theorem ownsRow_formW {w : World} {base : Nat} {e : TypeId} {size : Nat} {v : Value} {n : Nat} {xs : List Value} (h : w.ownsRow base e size v n xs) (hn : 0 < n) : ∃ g cap, v = .slice (some ⟨g, 0, none⟩) n cap := by
  rcases h.2 with ⟨_, h0⟩ | ⟨g, cap, cur, hv, hb, hg, _⟩
  · omega
  · exact ⟨g, cap, hv⟩
/-- All blocks below n but blocks x and s are as they were. -/
structure KeepXS (n x s : Nat) (w w' : World) : Prop where
  os : w'.os = w.os
  tape : w'.tape = w.tape
  output : w'.output = w.output
  size : w.heap.size ≤ w'.heap.size
  block : ∀ k, k < n → k ≠ x → k ≠ s → w'.heap[k]? = w.heap[k]?
theorem KeepXS.refl (n x s : Nat) (w : World) : KeepXS n x s w w := ⟨rfl, rfl, rfl, Nat.le_refl _, fun _ _ _ _ => rfl⟩
theorem KeepXS.trans {n x s : Nat} {a b c : World} (h : KeepXS n x s a b) (k : KeepXS n x s b c) : KeepXS n x s a c :=
  ⟨k.os.trans h.os, k.tape.trans h.tape, k.output.trans h.output, Nat.le_trans h.size k.size, fun j h1 h2 h3 => (k.block j h1 h2 h3).trans (h.block j h1 h2 h3)⟩
theorem KeepXS.mono {n m x s : Nat} {w w' : World} (h : KeepXS n x s w w') (hm : m ≤ n) : KeepXS m x s w w' := ⟨h.os, h.tape, h.output, h.size, fun k h1 => h.block k (by omega)⟩
theorem KeepXS.of_below {n x s : Nat} {w w' : World} (h : Below n w w') : KeepXS n x s w w' := ⟨h.os, h.tape, h.output, h.size, fun k h1 _ _ => h.block k h1⟩
theorem KeepS.xs_right {n x s : Nat} {w w' : World} (h : KeepS n s w w') : KeepXS n x s w w' := ⟨h.os, h.tape, h.output, h.size, fun k h1 _ h3 => h.block k h1 h3⟩
theorem KeepS.xs_left {n x s : Nat} {w w' : World} (h : KeepS n x w w') : KeepXS n x s w w' := ⟨h.os, h.tape, h.output, h.size, fun k h1 h2 _ => h.block k h1 h2⟩
theorem KeepXS.keepS {n x s m : Nat} {w w' : World} (h : KeepXS n x s w w') (hm : m ≤ n) (hx : m ≤ x) : KeepS m s w w' := ⟨h.os, h.tape, h.output, h.size, fun k h1 h2 => h.block k (by omega) (by omega) h2⟩
theorem KeepXS.setx (n x s i : Nat) (w : World) (v : Value) : KeepXS n x s w (w.setCell ⟨x, i, none⟩ v) := ⟨rfl, rfl, rfl, by simp, fun k _ hk _ => Below.heap_setCell _ _ _ _ hk⟩
theorem KeepXS.drewN {n x s : Nat} {w w' : World} (h : KeepXS n x s w w') (q : Nat) : KeepXS n x s w (w'.drewN q) := ⟨h.os, h.tape, h.output, h.size, h.block⟩
theorem KeepXS.undrewN {n x s : Nat} {w w' : World} {q : Nat} (h : KeepXS n x s (w.drewN q) w') : KeepXS n x s w w' := ⟨h.os, h.tape, h.output, h.size, h.block⟩
theorem KeepXS.below {n x s m : Nat} {w w' : World} (h : KeepXS n x s w w') (hm : m ≤ n) (hx : m ≤ x) (hs : m ≤ s) : Below m w w' := ⟨h.os, h.tape, h.output, h.size, fun k h1 => h.block k (by omega) (by omega) (by omega)⟩
/-- A stream lies where block s and those below B are not changed. -/
theorem StAt.keep {B s : Nat} {w w' : World} (h : StAt B s w) (hs : w'.heap[s]? = w.heap[s]?) (hb : ∀ k, k < B → w'.heap[k]? = w.heap[k]?) : StAt B s w' := by
  obtain ⟨hB, p, len, cap, hh, h1, h2, h3⟩ := h
  refine ⟨hB, p, len, cap, hs.trans hh, h1, h2, ?_⟩
  rcases h3 with h3 | ⟨b, off, rfl, hb', hx⟩
  · exact Or.inl h3
  · refine Or.inr ⟨b, off, rfl, hb', fun i hi => ?_⟩
    obtain ⟨x, hx⟩ := hx i hi
    exact ⟨x, by rw [World.cell?_of_block (hb b hb')]; exact hx⟩

end Go.Proofs.Ytkcpnehhcpmdgaa
