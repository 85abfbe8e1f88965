/- append at rows of elements of several cells (the same as in the texts of another seat); no condition beyond those that stand there. -/
import Derived.Laws.AppendOwnNone
import Derived.Deep.RegionLaw
import Derived.Deep.AppendLies
import Derived.Test.YtebcflgdjbjkoaaPrd
namespace Go.Proofs.Ytebcflgdjbjkoaa
open Go.RowKit

/-- A type of k cells of which rows are made. -/
def Elem (e : TypeId) (k : Nat) : Prop := ∃ i z b, Try.prog.info? e = some i ∧ i.zero = some z ∧ i.size = k ∧ i.bytes = b ∧ z.cells.size = k ∧ 0 < k ∧ b ≤ 1000
theorem elem_of {e : TypeId} {k b : Nat} {z : Value} (h : (Try.prog.info? e).map (fun i => (i.zero, i.size, i.bytes)) = some (some z, k, b)) (hz : z.cells.size = k) (hk : 0 < k) (hb : b ≤ 1000) : Elem e k := by
  cases hi : Try.prog.info? e with
  | none => rw [hi] at h; simp at h
  | some i => rw [hi] at h; simp at h; exact ⟨i, z, b, hi, h.1, h.2.1, h.2.2, hz, hk, hb⟩
theorem elem_class : Elem 114 4 := elem_of (b := 32) (z := .agg #[.int .u64 0, .int .u64 0, .int .u64 0, .int .u64 0]) (by kernel_rfl) (by kernel_rfl) (by decide) (by decide)
theorem elem_set : Elem 88 4 := elem_of (b := 32) (z := .agg #[.int .u64 0, .int .u64 0, .int .u64 0, .int .u64 0]) (by kernel_rfl) (by kernel_rfl) (by decide) (by decide)
theorem append_el {e : TypeId} {k : Nat} (he : Elem e k) {ops : Array Oper} {rest : List Oper} {o : Oper} {a : Act} {w : World} {Q : Exit → Act → World → Prop} (hgd : o.guard = none) (s x : Operand) (t : TypeId)
    (ho : o.op = .call { callee := .builtin .append, args := #[s, x], argTypes := #[t, t] }) (ht : Try.prog.underlying t = some (.slice e)) (base : Nat)
    (v : Value) (n : Nat) (xs : List Value) (hs : a.eval s = v) (hrow : w.ownsRow base e k v n xs) (hl : n ≤ 1000)
    (q c : Nat) (news : List Value) (hx : a.eval x = .slice (some ⟨q, 0, none⟩) 1 c) (hm : news.length = k) (hq : w.heap[q]? = some (.cells news.toArray e (0, 0))) (h1 : ∀ u ∈ news, u.oneCell' = true) (hbase : base ≤ w.heap.size)
    (h : ∀ v' w', w'.ownsRow base e k v' (n + 1) (xs ++ news) → w.grownBy w' v.ownBlock → wpList Try.prog ops Q rest (a.put o.dst v') w') : wpList Try.prog ops Q (o :: rest) a w := by
  obtain ⟨i0, z, b, hi0, hz0, hz1, hz2, hz3, hk, hb⟩ := he
  refine wpList_append_own _ hgd s x t ho base e i0 _ k b ht hi0 hz0 hz1 hz2 hz3 hk v n xs hs hrow ⟨q, 0, none⟩ 1 c news hx (by omega) ?_ h1 (by unfold maxLen; omega) ?_ hbase ?_
  · intro j u hj
    have hadd : (⟨q, 0, none⟩ : Addr).add j = ⟨q, j, none⟩ := by unfold Addr.add; split <;> simp_all
    rw [hadd, Lib.cell_of_heap hq]
    simpa using hj
  · have : (n + 1) * b ≤ 1001 * 1000 := Nat.mul_le_mul (by omega) hb
    omega
  · intro v' w' h2 h3 _
    exact h v' w' h2 h3

theorem ownsRow_formW {w : World} {base : Nat} {e : TypeId} {size : Nat} {v : Value} {n : Nat} {xs : List Value} (h : w.ownsRow base e size v n xs) (hn : 0 < n) : ∃ g cap, v = .slice (some ⟨g, 0, none⟩) n cap := by
  rcases h.2 with ⟨_, h0⟩ | ⟨g, cap, cur, hv, hb, hg, _⟩
  · omega
  · exact ⟨g, cap, hv⟩
/-- A step of append in a region that draws. -/
theorem step_append_el {e : TypeId} {k : Nat} (he : Elem e k) {ops : Array Oper} {o : Oper} {a : Act} {w : World} {K : Act → World → Prop} {Q : Exit → Act → World → Prop} {E : Prop} (hgd : o.guard = none) (s x : Operand) (t : TypeId)
    (ho : o.op = .call { callee := .builtin .append, args := #[s, x], argTypes := #[t, t] }) (ht : Try.prog.underlying t = some (.slice e)) (base : Nat)
    (v : Value) (n : Nat) (xs : List Value) (hs : a.eval s = v) (hrow : w.ownsRow base e k v n xs) (hl : n ≤ 1000)
    (q c : Nat) (news : List Value) (hx : a.eval x = .slice (some ⟨q, 0, none⟩) 1 c) (hm : news.length = k) (hq : w.heap[q]? = some (.cells news.toArray e (0, 0))) (h1 : ∀ u ∈ news, u.oneCell' = true) (hbase : base ≤ w.heap.size)
    (h : ∀ g cap w', w'.ownsRow base e k (.slice (some ⟨g, 0, none⟩) (n + 1) cap) (n + 1) (xs ++ news) → w.grownBy w' v.ownBlock → (v.ownBlock = some g ∨ g = w.heap.size) → K (a.put o.dst (.slice (some ⟨g, 0, none⟩) (n + 1) cap)) w') : if Region.wanted o (yielded ops a.tmps) = true then Oper.wp Try.prog o a w K Q else E := by
  obtain ⟨i0, z, b, hi0, hz0, hz1, hz2, hz3, hk, hb⟩ := he
  refine step_append_lies _ hgd s x t ho base e i0 _ k b ht hi0 hz0 hz1 hz2 hz3 hk v n xs hs hrow ⟨q, 0, none⟩ 1 c news hx (by omega) ?_ h1 (by decide) (by unfold maxLen; omega) ?_ hbase w.heap.size rfl ?_
  · intro j u hj
    have hadd : (⟨q, 0, none⟩ : Addr).add j = ⟨q, j, none⟩ := by unfold Addr.add; split <;> simp_all
    rw [hadd, Lib.cell_of_heap hq]
    simpa using hj
  · have : (n + 1) * b ≤ 1001 * 1000 := Nat.mul_le_mul (by omega) hb
    omega
  · intro g cap w' h2 h3 h4 _
    exact h g cap w' h2 h3 h4
theorem pair1 (w : World) (a b : Obj) : ((w.alloc a).alloc b).heap[w.heap.size]? = some a := by
  show ((w.heap.push a).push b)[w.heap.size]? = some a
  rw [Array.getElem?_push_lt (by simp), Array.getElem_push_eq]
theorem pair2 (w : World) (a b : Obj) : ((w.alloc a).alloc b).heap[w.heap.size + 1]? = some b := by
  show ((w.heap.push a).push b)[w.heap.size + 1]? = some b
  simp [Array.getElem_push]
theorem heap_setS {w : World} {g : Nat} {cur : Array Value} {e : TypeId} {fr : Nat × Nat} (h : w.heap[g]? = some (.cells cur e fr)) (i : Nat) (v : Value) : (w.setCell ⟨g, i, none⟩ v).heap[g]? = some (.cells (cur.setIfInBounds i v) e fr) := by
  simp [World.setCell, Array.getElem?_modify, h]

end Go.Proofs.Ytebcflgdjbjkoaa
