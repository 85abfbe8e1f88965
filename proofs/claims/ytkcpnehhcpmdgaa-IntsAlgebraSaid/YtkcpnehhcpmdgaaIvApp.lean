/- append at a row of ranges, and the plain laws of outside, Common and Minus; no condition beyond those that stand there. -/
import Derived.Test.YtkcpnehhcpmdgaaIv
namespace Go.Proofs.Ytkcpnehhcpmdgaa
open Go.RowKit

theorem info_rg : (Try.prog.info? 77).map (fun i => (i.zero, i.size, i.bytes)) = some (some (.agg #[.int .i64 0, .int .i64 0]), 2, 16) := by kernel_rfl
theorem rg_info : ∃ i0, Try.prog.info? 77 = some i0 ∧ i0.zero = some (.agg #[.int .i64 0, .int .i64 0]) ∧ i0.size = 2 ∧ i0.bytes = 16 := by
  have h := info_rg
  cases hi : Try.prog.info? 77 with
  | none => rw [hi] at h; simp at h
  | some i => rw [hi] at h; simp at h; exact ⟨i, rfl, h.1, h.2.1, h.2.2⟩
theorem cellsR_one (rs : List Rg) : ∀ u ∈ cellsR rs, u.oneCell' = true := by
  intro u hu
  simp only [cellsR, List.mem_flatMap, rgCells] at hu
  obtain ⟨r, _, hr⟩ := hu
  simp at hr
  rcases hr with rfl | rfl <;> rfl
theorem append_rg {ops : Array Oper} {rest : List Oper} {o : Oper} {a : Act} {w : World} {Q : Exit → Act → World → Prop} (hgd : o.guard = none) (s x : Operand) (t : TypeId)
    (ho : o.op = .call { callee := .builtin .append, args := #[s, x], argTypes := #[t, t] }) (ht : Try.prog.underlying t = some (.slice 77)) (base : Nat)
    (v : Value) (rs : List Rg) (hs : a.eval s = v) (hrow : RowR base w v rs) (hl : rs.length ≤ 200)
    (ad : Addr) (m c : Nat) (news : List Rg) (hx : a.eval x = .slice (some ad) m c) (hm : news.length = m) (hm2 : m ≤ 200) (hnews : ∀ j u, (cellsR news)[j]? = some u → w.cell? (ad.add j) = some u) (hbase : base ≤ w.heap.size)
    (h : ∀ v' w', RowR base w' v' (rs ++ news) → w.grownBy w' v.ownBlock → wpList Try.prog ops Q rest (a.put o.dst v') w') : wpList Try.prog ops Q (o :: rest) a w := by
  obtain ⟨i0, hi0, hz0, hz1, hz2⟩ := rg_info
  refine wpList_append_own _ hgd s x t ho base 77 i0 _ 2 16 ht hi0 hz0 hz1 hz2 rfl (by decide) v rs.length (cellsR rs) hs hrow ad m c (cellsR news) hx (by rw [cellsR_length, hm]) hnews (cellsR_one news) (by unfold maxLen; omega) (by omega) hbase ?_
  intro v' w' h1 h2 _
  refine h v' w' ?_ h2
  unfold RowR
  rw [List.length_append, cellsR_append, hm]
  exact h1
theorem append_one {ops : Array Oper} {rest : List Oper} {o : Oper} {a : Act} {w : World} {Q : Exit → Act → World → Prop} (hgd : o.guard = none) (s x : Operand) (t : TypeId)
    (ho : o.op = .call { callee := .builtin .append, args := #[s, x], argTypes := #[t, t] }) (ht : Try.prog.underlying t = some (.slice 77)) (base : Nat)
    (v : Value) (rs : List Rg) (hs : a.eval s = v) (hrow : RowR base w v rs) (hl : rs.length ≤ 200)
    (q c : Nat) (y z : Int) (hx : a.eval x = .slice (some ⟨q, 0, none⟩) 1 c) (hq : w.heap[q]? = some (.cells #[.int .i64 y, .int .i64 z] 77 (0, 0))) (hbase : base ≤ w.heap.size)
    (h : ∀ v' w', RowR base w' v' (rs ++ [(y, z)]) → w.grownBy w' v.ownBlock → wpList Try.prog ops Q rest (a.put o.dst v') w') : wpList Try.prog ops Q (o :: rest) a w := by
  refine append_rg hgd s x t ho ht base v rs hs hrow hl ⟨q, 0, none⟩ 1 c [(y, z)] hx rfl (by decide) ?_ hbase h
  intro j u hj
  match j, hj with
  | 0, hj => simp [cellsR, rgCells] at hj; subst hj; show World.cell? _ ⟨q, 0, none⟩ = _; rw [Lib.cell_of_heap hq]; rfl
  | 1, hj => simp [cellsR, rgCells] at hj; subst hj; show World.cell? _ ⟨q, 1, none⟩ = _; rw [Lib.cell_of_heap hq]; rfl
theorem RowR.alloc {b : Nat} {w : World} {v : Value} {rs : List Rg} (h : RowR b w v rs) (o : Obj) : RowR b (w.alloc o) v rs := World.ownsRow.alloc h o
theorem RowR.lt {b : Nat} {w : World} {v : Value} {rs : List Rg} (h : RowR b w v rs) (k : Nat) (hk : some k = v.ownBlock) : b ≤ k := (World.ownsRow.lt h k hk.symm).1

theorem ok_append {a b : List Rg} (ha : Ok a) (hb : Ok b) (h : ∀ x ∈ a, ∀ y ∈ b, x.2 + 1 < y.1) : Ok (a ++ b) :=
  ⟨fun r hr => (List.mem_append.1 hr).elim (ha.1 r) (hb.1 r), List.pairwise_append.2 ⟨ha.2, hb.2, h⟩⟩
theorem ok_one (x y : Int) (h : x ≤ y) : Ok [(x, y)] := (ok_cons _ _).2 ⟨h, fun _ hx => (by cases hx), Ok.nil⟩
theorem mem_low {rs : List Rg} (h : Ok rs) {x : Rg} (hx : x ∈ rs) : Mem x.1 rs := ⟨x, hx, Int.le_refl _, h.1 x hx⟩
theorem mem_high {rs : List Rg} (h : Ok rs) {x : Rg} (hx : x ∈ rs) : Mem x.2 rs := ⟨x, hx, h.1 x hx, Int.le_refl _⟩

def outF : List Rg → Int → Int → List Rg
  | [], lo, hi => if lo ≤ hi then [(lo, hi)] else []
  | r :: rs, lo, hi => if r.2 < lo then outF rs lo hi else if r.1 > hi then (if lo ≤ hi then [(lo, hi)] else []) else if r.1 > lo then (lo, r.1 - 1) :: outF rs (r.2 + 1) hi else outF rs (r.2 + 1) hi
theorem out_one (lo hi : Int) : Ok (if lo ≤ hi then [(lo, hi)] else []) ∧ ∀ n, Mem n (if lo ≤ hi then [(lo, hi)] else []) ↔ lo ≤ n ∧ n ≤ hi := by
  by_cases h : lo ≤ hi
  · rw [if_pos h]
    exact ⟨ok_one _ _ h, fun n => mem_one n _⟩
  · rw [if_neg h]
    refine ⟨Ok.nil, fun n => ⟨fun hm => absurd hm (Mem.nil n), fun hm => ?_⟩⟩
    omega
theorem out_law : ∀ (rs : List Rg) (lo hi : Int), Ok rs → Ok (outF rs lo hi) ∧ ∀ n, Mem n (outF rs lo hi) ↔ lo ≤ n ∧ n ≤ hi ∧ ¬ Mem n rs
  | [], lo, hi, _ => by
    have := out_one lo hi
    rw [outF]
    refine ⟨this.1, fun n => ?_⟩
    rw [this.2 n]
    have := Mem.nil n
    constructor
    · rintro ⟨h1, h2⟩; exact ⟨h1, h2, this⟩
    · rintro ⟨h1, h2, _⟩; exact ⟨h1, h2⟩
  | r :: rs, lo, hi, h => by
    have hr := (ok_cons r rs).1 h
    have ht : ∀ n, Mem n rs → r.2 + 1 < n := fun n hm => mem_tail h hm
    rw [outF]
    by_cases h1 : r.2 < lo
    · rw [if_pos h1]
      have ih := out_law rs lo hi hr.2.2
      refine ⟨ih.1, fun n => ?_⟩
      rw [ih.2 n, mem_cons]
      constructor
      · rintro ⟨a, b, c⟩; exact ⟨a, b, fun d => d.elim (fun d => by omega) c⟩
      · rintro ⟨a, b, c⟩; exact ⟨a, b, fun d => c (Or.inr d)⟩
    · rw [if_neg h1]
      by_cases h2 : r.1 > hi
      · rw [if_pos h2]
        have := out_one lo hi
        refine ⟨this.1, fun n => ?_⟩
        rw [this.2 n, mem_cons]
        constructor
        · rintro ⟨a, b⟩; exact ⟨a, b, fun d => d.elim (fun d => by omega) (fun d => by have := ht n d; omega)⟩
        · rintro ⟨a, b, c⟩; exact ⟨a, b⟩
      · rw [if_neg h2]
        have ih := out_law rs (r.2 + 1) hi hr.2.2
        by_cases h3 : r.1 > lo
        · rw [if_pos h3]
          refine ⟨(ok_cons _ _).2 ⟨by show lo ≤ r.1 - 1; omega, fun x hx => ?_, ih.1⟩, fun n => ?_⟩
          · have := ((ih.2 x.1).1 (mem_low ih.1 hx)).1
            show r.1 - 1 + 1 < x.1
            omega
          · rw [mem_cons, ih.2 n, mem_cons]
            show (lo ≤ n ∧ n ≤ r.1 - 1) ∨ (r.2 + 1 ≤ n ∧ n ≤ hi ∧ ¬ Mem n rs) ↔ _
            constructor
            · rintro (⟨a, b⟩ | ⟨a, b, c⟩)
              · exact ⟨a, by omega, fun d => d.elim (fun d => by omega) (fun d => by have := ht n d; omega)⟩
              · exact ⟨by omega, b, fun d => d.elim (fun d => by omega) c⟩
            · rintro ⟨a, b, c⟩
              by_cases hn : n ≤ r.1 - 1
              · exact Or.inl ⟨a, hn⟩
              · refine Or.inr ⟨?_, b, fun d => c (Or.inr d)⟩
                have : ¬ (r.1 ≤ n ∧ n ≤ r.2) := fun d => c (Or.inl d)
                omega
        · rw [if_neg h3]
          refine ⟨ih.1, fun n => ?_⟩
          rw [ih.2 n, mem_cons]
          constructor
          · rintro ⟨a, b, c⟩; exact ⟨by omega, b, fun d => d.elim (fun d => by omega) c⟩
          · rintro ⟨a, b, c⟩
            refine ⟨?_, b, fun d => c (Or.inr d)⟩
            have : ¬ (r.1 ≤ n ∧ n ≤ r.2) := fun d => c (Or.inl d)
            omega
def comF : List Rg → List Rg → List Rg
  | [], _ => []
  | _ :: _, [] => []
  | r :: a, s :: b => (if max r.1 s.1 ≤ min r.2 s.2 then [(max r.1 s.1, min r.2 s.2)] else []) ++ (if r.2 < s.2 then comF a (s :: b) else comF (r :: a) b)
termination_by a b => a.length + b.length
theorem com_law : ∀ (k : Nat) (a b : List Rg), a.length + b.length ≤ k → Ok a → Ok b → Ok (comF a b) ∧ ∀ n, Mem n (comF a b) ↔ Mem n a ∧ Mem n b
  | _, [], b, _, _, _ => by
    rw [comF]
    exact ⟨Ok.nil, fun n => ⟨fun h => absurd h (Mem.nil n), fun h => h.1⟩⟩
  | _, r :: a, [], _, _, _ => by
    rw [comF]
    exact ⟨Ok.nil, fun n => ⟨fun h => absurd h (Mem.nil n), fun h => h.2⟩⟩
  | 0, r :: a, s :: b, h, _, _ => by simp at h
  | k + 1, r :: a, s :: b, h, ha, hb => by
    have hr := (ok_cons r a).1 ha
    have hs := (ok_cons s b).1 hb
    have ta : ∀ n, Mem n a → r.2 + 1 < n := fun n hm => mem_tail ha hm
    have tb : ∀ n, Mem n b → s.2 + 1 < n := fun n hm => mem_tail hb hm
    have h1 := out_one (max r.1 s.1) (min r.2 s.2)
    rw [comF]
    simp only [List.length_cons] at h
    have e : ∀ x ∈ (if max r.1 s.1 ≤ min r.2 s.2 then [(max r.1 s.1, min r.2 s.2)] else []), x.2 = min r.2 s.2 := by
      intro x hx
      split at hx
      · rw [List.mem_singleton.1 hx]
      · cases hx
    by_cases hlt : r.2 < s.2
    · rw [if_pos hlt]
      have ih := com_law k a (s :: b) (by simp only [List.length_cons]; omega) hr.2.2 hb
      refine ⟨ok_append h1.1 ih.1 fun x hx y hy => ?_, fun n => ?_⟩
      · have := ta _ ((ih.2 y.1).1 (mem_low ih.1 hy)).1
        rw [e x hx]; omega
      · rw [mem_append, h1.2 n, ih.2 n, mem_cons n r a, mem_cons n s b]
        constructor
        · rintro (⟨c, d⟩ | ⟨c, d⟩)
          · exact ⟨Or.inl ⟨by omega, by omega⟩, Or.inl ⟨by omega, by omega⟩⟩
          · exact ⟨Or.inr c, d⟩
        · rintro ⟨c | c, d | d⟩
          · exact Or.inl ⟨by omega, by omega⟩
          · exact absurd (tb n d) (by omega)
          · exact Or.inr ⟨c, Or.inl d⟩
          · exact Or.inr ⟨c, Or.inr d⟩
    · rw [if_neg hlt]
      have ih := com_law k (r :: a) b (by simp only [List.length_cons]; omega) ha hs.2.2
      refine ⟨ok_append h1.1 ih.1 fun x hx y hy => ?_, fun n => ?_⟩
      · have := tb _ ((ih.2 y.1).1 (mem_low ih.1 hy)).2
        rw [e x hx]; omega
      · rw [mem_append, h1.2 n, ih.2 n, mem_cons n r a, mem_cons n s b]
        constructor
        · rintro (⟨c, d⟩ | ⟨c, d⟩)
          · exact ⟨Or.inl ⟨by omega, by omega⟩, Or.inl ⟨by omega, by omega⟩⟩
          · exact ⟨c, Or.inr d⟩
        · rintro ⟨c | c, d | d⟩
          · exact Or.inl ⟨by omega, by omega⟩
          · exact Or.inr ⟨Or.inl c, d⟩
          · exact absurd (ta n c) (by omega)
          · exact Or.inr ⟨Or.inr c, d⟩
def minF (a b : List Rg) : List Rg := a.flatMap fun r => outF b r.1 r.2
theorem min_law (b : List Rg) (hb : Ok b) : ∀ a : List Rg, Ok a → Ok (minF a b) ∧ ∀ n, Mem n (minF a b) ↔ Mem n a ∧ ¬ Mem n b
  | [], _ => ⟨Ok.nil, fun n => ⟨fun h => absurd h (Mem.nil n), fun h => h.1⟩⟩
  | r :: a, ha => by
    have hr := (ok_cons r a).1 ha
    have ih := min_law b hb a hr.2.2
    have h1 := out_law b r.1 r.2 hb
    have e : minF (r :: a) b = outF b r.1 r.2 ++ minF a b := rfl
    rw [e]
    refine ⟨ok_append h1.1 ih.1 fun x hx y hy => ?_, fun n => ?_⟩
    · have h2 := ((h1.2 x.2).1 (mem_high h1.1 hx)).2.1
      have h3 := mem_tail ha ((ih.2 y.1).1 (mem_low ih.1 hy)).1
      omega
    · rw [mem_append, h1.2 n, ih.2 n, mem_cons]
      constructor
      · rintro (⟨c, d, f⟩ | ⟨c, d⟩)
        · exact ⟨Or.inl ⟨c, d⟩, f⟩
        · exact ⟨Or.inr c, d⟩
      · rintro ⟨⟨c, d⟩ | c, f⟩
        · exact Or.inl ⟨c, d, f⟩
        · exact Or.inr ⟨c, f⟩

end Go.Proofs.Ytkcpnehhcpmdgaa
