/- The reader of patterns: its state; peek, more; no condition beyond those that stand there. -/
import Derived.Test.YtebcflgdjbjkoaaPset
import Derived.Laws.AppendOwnNone
import Derived.Deep.RegionLaw
import Derived.Deep.AppendLies
namespace Go.Proofs.Ytebcflgdjbjkoaa
open Go.RowKit

theorem take_at {P : Program} {md : Region.Mode} {ops : Array Oper} {Q : Exit → Act → World → Prop} {S : World → Prop} (i d : Nat) (v : Value) {oi : Oper} {fuel : Nat} {listed : Array Bool} {a : Act} {w : World} (hi : ops[i]? = some oi) (hd : oi.dst = some d)
    (hs : Region.noSelect ops = true) (hf : Region.free md ops listed i = true) (hr : (Region.ready md ops listed).contains i = true)
    (hQ : ∀ c a w, Q (.panic c) (a.put (some d) v) w → Q (.panic c) a w) (hy : YieldsIf P ops S oi v a) (hS : S w)
    (h : wpAnyH P md ops Q S fuel (listed.setIfInBounds i true) (a.put (some d) v) w) : wpAnyH P md ops Q S (fuel + 1) listed a w :=
  wpAnyH_take hi hs hf hr (hd ▸ hQ) hy hS (hd ▸ h)
/-- What the reader has read: the place, the classes, what follows, whether it has failed. -/
structure PSt where
  pos : Nat
  cls : List Set4
  fol : List Set4
  bad : Bool
/-- What is known of a part of a pattern. -/
structure Part where
  em : Bool
  fst : Set4
  lst : Set4
def partC (x : Part) : Array Value := #[.bool x.em, .int .u64 (wd x.fst 0 : Nat), .int .u64 (wd x.fst 1 : Nat), .int .u64 (wd x.fst 2 : Nat), .int .u64 (wd x.fst 3 : Nat), .int .u64 (wd x.lst 0 : Nat), .int .u64 (wd x.lst 1 : Nat), .int .u64 (wd x.lst 2 : Nat), .int .u64 (wd x.lst 3 : Nat)]
def Part.ok (x : Part) : Prop := Words x.fst ∧ Words x.lst
def e4 : Set4 := [0, 0, 0, 0]
theorem words_e4 : Words e4 := ⟨rfl, fun x hx => by simp [e4] at hx; omega⟩
/-- The cells of a row of sets. -/
def flatC : List Set4 → List Value
  | [] => []
  | s :: r => .int .u64 (wd s 0 : Nat) :: .int .u64 (wd s 1 : Nat) :: .int .u64 (wd s 2 : Nat) :: .int .u64 (wd s 3 : Nat) :: flatC r
def rdC (s : ByteArray) (p : Nat) (cv fv : Value) (bad : Bool) : Array Value := #[.string s, .int .i64 p, cv, fv, .bool false, .int .u64 0, .int .u64 0, .int .u64 0, .int .u64 0, .int .u64 0, .int .u64 0, .int .u64 0, .int .u64 0, .bool bad]
/-- The reader lies in block R; its rows lie in blocks from B on. -/
structure RdIn (B R : Nat) (s : ByteArray) (st : PSt) (cv fv : Value) (W : World) : Prop where
  low : B ≤ R
  cell : W.heap[R]? = some (.cells (rdC s st.pos cv fv st.bad) 116 (0, 0))
  crow : W.ownsRow B 114 4 cv st.cls.length (flatC st.cls)
  frow : W.ownsRow B 88 4 fv st.fol.length (flatC st.fol)
  cok : ∀ x ∈ st.cls, Words x
  fok : ∀ x ∈ st.fol, Words x
  len : st.cls.length ≤ 256 ∧ st.fol.length ≤ 256 ∧ st.pos ≤ 1000 ∧ 0 < st.fol.length
def RdAt (B R : Nat) (s : ByteArray) (st : PSt) (W : World) : Prop := ∃ cv fv, RdIn B R s st cv fv W ∧ st.cls.length = st.fol.length
/-- The places of locals are kept: blocks of other types than the reader's own. -/
def KeepR (w w' : World) : Prop := ∀ (k : Nat) cs T m, w.heap[k]? = some (.cells cs T m) → T ≠ 116 → T ≠ 114 → T ≠ 88 → w'.heap[k]? = some (.cells cs T m)
theorem KeepR.refl (w : World) : KeepR w w := fun _ _ _ _ h _ _ _ => h
theorem KeepR.trans {a b c : World} (h : KeepR a b) (k : KeepR b c) : KeepR a c := fun q cs T m h0 h1 h2 h3 => k q cs T m (h q cs T m h0 h1 h2 h3) h1 h2 h3
theorem KeepR.of_below {w w' : World} (h : Below w.heap.size w w') : KeepR w w' := fun k _ _ _ h0 _ _ _ => (h.block k (lt_of_block h0)).trans h0
theorem RdIn.below {B R : Nat} {s : ByteArray} {st : PSt} {cv fv : Value} {W W' : World} (h : RdIn B R s st cv fv W) (hb : Below W.heap.size W W') : RdIn B R s st cv fv W' :=
  ⟨h.low, (hb.block _ (lt_of_block h.cell)).trans h.cell, row_keepP h.crow fun g hg => hb.block g (World.ownsRow.lt h.crow g hg).2, row_keepP h.frow fun g hg => hb.block g (World.ownsRow.lt h.frow g hg).2, h.cok, h.fok, h.len⟩
theorem RdAt.below {B R : Nat} {s : ByteArray} {st : PSt} {W W' : World} (h : RdAt B R s st W) (hb : Below W.heap.size W W') : RdAt B R s st W' := by
  obtain ⟨cv, fv, h, hl⟩ := h
  exact ⟨cv, fv, h.below hb, hl⟩
theorem rd_cells {w : World} {R : Nat} {s : ByteArray} {p : Nat} {cv fv : Value} {bad : Bool} (h : w.heap[R]? = some (.cells (rdC s p cv fv bad) 116 (0, 0))) :
    (w.cell? ⟨R, 0, none⟩ = some (.string s) ∧ w.cell? ⟨R, 1, none⟩ = some (.int .i64 p) ∧ w.cell? ⟨R, 2, none⟩ = some cv ∧ w.cell? ⟨R, 3, none⟩ = some fv ∧ w.cell? ⟨R, 13, none⟩ = some (.bool bad)) ∧ w.frozen? ⟨R, 1, none⟩ = false ∧ w.frozen? ⟨R, 2, none⟩ = false ∧ w.frozen? ⟨R, 3, none⟩ = false ∧ w.frozen? ⟨R, 13, none⟩ = false :=
  ⟨⟨by rw [Lib.cell_of_heap h]; rfl, by rw [Lib.cell_of_heap h]; rfl, by rw [Lib.cell_of_heap h]; rfl, by rw [Lib.cell_of_heap h]; rfl, by rw [Lib.cell_of_heap h]; rfl⟩, Lib.frozen_of_heap h 1, Lib.frozen_of_heap h 2, Lib.frozen_of_heap h 3, Lib.frozen_of_heap h 13⟩
def peekM (s : ByteArray) (p : Nat) : Nat := (s.data.toList.getD p 0).toNat
theorem peek_lt (s : ByteArray) (p : Nat) : peekM s p < 256 := UInt8.toNat_lt _
theorem peek_in (s : ByteArray) (p : Nat) (h : p < s.size) : (s[p]'h).toNat = peekM s p := by
  have h3 : s.data.toList.getD p 0 = s[p]'h := by simp [List.getD, h]; rfl
  unfold peekM
  rw [h3]
theorem peek_out (s : ByteArray) (p : Nat) (h : s.size ≤ p) : peekM s p = 0 := by
  unfold peekM
  have : s.data.toList[p]? = none := by simp [h]
  simp [List.getD, this]
set_option maxRecDepth 100000 in
set_option maxHeartbeats 2000000 in
theorem peek_any {B R : Nat} {s : ByteArray} {st : PSt} {w : World} (h : RdAt B R s st w) :
    Calls Try.prog 54 #[.pointer (some ⟨R, 0, none⟩)] w fun e w' => e = .returned (.int .u8 (peekM s st.pos : Nat)) ∧ Below w.heap.size w w' := by
  obtain ⟨cv, fv, h, -⟩ := h
  obtain ⟨⟨a0, a1, a2, a3, a4⟩, -⟩ := rd_cells h.cell
  generalize st.pos = p at *
  clear h a2 a3 a4
  by_cases hlt : p < s.size
  · have ti : decide ((p : Int) ≥ (s.size : Int)) = false := decide_eq_false (by omega)
    have ti2 : (p : Int) < (s.size : Int) := by omega
    have hni : ((p : Int)).toNat = p := by omega
    have hx := peek_in s p hlt
    generalize peekM s p = x at *
    go_enter Try.func54, Try.ntmps54
    go_upto_region 1 with fail
    go_region_held3 (fun w' => w' = w.drew ∧ w'.cell? ⟨R, 0, none⟩ = some (.string s) ∧ w'.cell? ⟨R, 1, none⟩ = some (.int .i64 p)) (exact ⟨rfl, by assumption, by assumption⟩) (fail)
    go_upto_region 3 with fail
    go_region_held3 (fun w' => w' = w.drew.drew ∧ w'.cell? ⟨R, 0, none⟩ = some (.string s) ∧ w'.cell? ⟨R, 1, none⟩ = some (.int .i64 p)) (exact ⟨rfl, by assumption, by assumption⟩) (fail)
    go_wp2_with fail
    go_ret
    exact ⟨rfl, rfl, rfl, rfl, Nat.le_refl _, fun _ _ => rfl⟩
  · have ti : decide (s.size ≤ p) = true := decide_eq_true (by omega)
    have ti2 : decide ((p : Int) ≥ (s.size : Int)) = true := decide_eq_true (by omega)
    have hx := peek_out s p (by omega)
    go_enter Try.func54, Try.ntmps54
    go_upto_region 1 with fail
    go_region_held3 (fun w' => w' = w.drew ∧ w'.cell? ⟨R, 0, none⟩ = some (.string s) ∧ w'.cell? ⟨R, 1, none⟩ = some (.int .i64 p)) (exact ⟨rfl, by assumption, by assumption⟩) (fail)
    go_wp2_with fail
    go_ret
    exact ⟨rfl, rfl, rfl, rfl, Nat.le_refl _, fun _ _ => rfl⟩
def moreM (s : ByteArray) (st : PSt) : Bool := !st.bad && decide (st.pos < s.size)
set_option maxRecDepth 100000 in
set_option maxHeartbeats 2000000 in
theorem more_any {B R : Nat} {s : ByteArray} {st : PSt} {w : World} (h : RdAt B R s st w) :
    Calls Try.prog 53 #[.pointer (some ⟨R, 0, none⟩)] w fun e w' => e = .returned (.bool (moreM s st)) ∧ Below w.heap.size w w' := by
  obtain ⟨cv, fv, h, -⟩ := h
  obtain ⟨⟨a0, a1, a2, a3, a4⟩, -⟩ := rd_cells h.cell
  unfold moreM
  generalize st.pos = p at *
  generalize st.bad = f at *
  clear h a2 a3
  cases f
  · go_enter Try.func53, Try.ntmps53
    go_upto_region 1 with fail
    go_region_held3 (fun w' => w' = w.drew ∧ w'.cell? ⟨R, 0, none⟩ = some (.string s) ∧ w'.cell? ⟨R, 1, none⟩ = some (.int .i64 p) ∧ w'.cell? ⟨R, 13, none⟩ = some (.bool false)) (exact ⟨rfl, by assumption, by assumption, by assumption⟩) (fail)
    go_wp2_with fail
    go_ret
    exact ⟨by simp, rfl, rfl, rfl, Nat.le_refl _, fun _ _ => rfl⟩
  · go_enter Try.func53, Try.ntmps53
    go_upto_region 1 with fail
    refine wp_region_noPanic ?_
    refine wp_region_held_drew (S := fun w' => w'.cell? ⟨R, 13, none⟩ = some (.bool true)) (by kernel_rfl) (by assumption) (fun hHeld => ?_)
    refine take_at 0 3 ?_ rfl rfl (by decide +kernel) (by decide +kernel) (by decide +kernel) (fun _ _ _ h => h) (Or.inl ⟨by rfl, ?hy⟩) (by assumption) ?_
    case hy => ((intro w hSw; (try dsimp only at hSw); go_simp); (try with_reducible rfl))
    simp only [Act.put, List.setIfInBounds_toArray, List.set_cons_zero, List.set_cons_succ]
    refine take_at 1 4 ?_ rfl rfl (by decide +kernel) (by decide +kernel) (by decide +kernel) (fun _ _ _ h => h) (Or.inl ⟨by rfl, ?hy⟩) (by assumption) ?_
    case hy => ((intro w hSw; (try dsimp only at hSw); go_simp); (try with_reducible rfl))
    simp only [Act.put, List.setIfInBounds_toArray, List.set_cons_zero, List.set_cons_succ]
    refine take_at 2 5 ?_ rfl rfl (by decide +kernel) (by decide +kernel) (by decide +kernel) (fun _ _ _ h => h) (Or.inl ⟨by rfl, ?hy⟩) (by assumption) ?_
    case hy => ((intro w hSw; (try dsimp only at hSw); go_simp); (try with_reducible rfl))
    simp only [Act.put, List.setIfInBounds_toArray, List.set_cons_zero, List.set_cons_succ]
    refine take_at 3 6 ?_ rfl rfl (by decide +kernel) (by decide +kernel) (by decide +kernel) (fun _ _ _ h => h) (Or.inl ⟨by rfl, ?hy⟩) (by assumption) ?_
    case hy => ((intro w hSw; (try dsimp only at hSw); go_simp); (try with_reducible rfl))
    simp only [Act.put, List.setIfInBounds_toArray, List.set_cons_zero, List.set_cons_succ]
    refine take_at 4 7 ?_ rfl rfl (by decide +kernel) (by decide +kernel) (by decide +kernel) (fun _ _ _ h => h) (Or.inl ⟨by rfl, ?hy⟩) (by assumption) ?_
    case hy => ((intro w hSw; (try dsimp only at hSw); go_simp); (try with_reducible rfl))
    simp only [Act.put, List.setIfInBounds_toArray, List.set_cons_zero, List.set_cons_succ]
    refine take_at 5 8 ?_ rfl rfl (by decide +kernel) (by decide +kernel) (by decide +kernel) (fun _ _ _ h => h) (Or.inl ⟨by rfl, ?hy⟩) (by assumption) ?_
    case hy => ((intro w hSw; (try dsimp only at hSw); go_simp); (try with_reducible rfl))
    simp only [Act.put, List.setIfInBounds_toArray, List.set_cons_zero, List.set_cons_succ]
    refine take_at 6 9 undef rfl rfl (by decide +kernel) (by decide +kernel) (by decide +kernel) (fun _ _ _ h => h) (Or.inr ⟨by rfl, rfl⟩) (by assumption) ?_
    simp only [Act.put, List.setIfInBounds_toArray, List.set_cons_zero, List.set_cons_succ]
    refine take_at 7 10 undef rfl rfl (by decide +kernel) (by decide +kernel) (by decide +kernel) (fun _ _ _ h => h) (Or.inr ⟨by rfl, rfl⟩) (by assumption) ?_
    simp only [Act.put, List.setIfInBounds_toArray, List.set_cons_zero, List.set_cons_succ]
    refine take_at 8 11 undef rfl rfl (by decide +kernel) (by decide +kernel) (by decide +kernel) (fun _ _ _ h => h) (Or.inr ⟨by rfl, rfl⟩) (by assumption) ?_
    simp only [Act.put, List.setIfInBounds_toArray, List.set_cons_zero, List.set_cons_succ]
    refine take_at 9 12 undef rfl rfl (by decide +kernel) (by decide +kernel) (by decide +kernel) (fun _ _ _ h => h) (Or.inr ⟨by rfl, rfl⟩) (by assumption) ?_
    simp only [Act.put, List.setIfInBounds_toArray, List.set_cons_zero, List.set_cons_succ]
    refine take_at 10 13 undef rfl rfl (by decide +kernel) (by decide +kernel) (by decide +kernel) (fun _ _ _ h => h) (Or.inr ⟨by rfl, rfl⟩) (by assumption) ?_
    simp only [Act.put, List.setIfInBounds_toArray, List.set_cons_zero, List.set_cons_succ]
    refine take_at 11 14 undef rfl rfl (by decide +kernel) (by decide +kernel) (by decide +kernel) (fun _ _ _ h => h) (Or.inr ⟨by rfl, rfl⟩) (by assumption) ?_
    simp only [Act.put, List.setIfInBounds_toArray, List.set_cons_zero, List.set_cons_succ]
    refine take_at 12 15 undef rfl rfl (by decide +kernel) (by decide +kernel) (by decide +kernel) (fun _ _ _ h => h) (Or.inr ⟨by rfl, rfl⟩) (by assumption) ?_
    simp only [Act.put, List.setIfInBounds_toArray, List.set_cons_zero, List.set_cons_succ]
    refine take_at 13 16 undef rfl rfl (by decide +kernel) (by decide +kernel) (by decide +kernel) (fun _ _ _ h => h) (Or.inr ⟨by rfl, rfl⟩) (by assumption) ?_
    simp only [Act.put, List.setIfInBounds_toArray, List.set_cons_zero, List.set_cons_succ]
    refine take_at 14 17 undef rfl rfl (by decide +kernel) (by decide +kernel) (by decide +kernel) (fun _ _ _ h => h) (Or.inr ⟨by rfl, rfl⟩) (by assumption) ?_
    simp only [Act.put, List.setIfInBounds_toArray, List.set_cons_zero, List.set_cons_succ]
    refine take_at 15 18 undef rfl rfl (by decide +kernel) (by decide +kernel) (by decide +kernel) (fun _ _ _ h => h) (Or.inr ⟨by rfl, rfl⟩) (by assumption) ?_
    simp only [Act.put, List.setIfInBounds_toArray, List.set_cons_zero, List.set_cons_succ]
    refine take_at 16 19 ?_ rfl rfl (by decide +kernel) (by decide +kernel) (by decide +kernel) (fun _ _ _ h => h) (Or.inl ⟨by rfl, ?hy⟩) (by assumption) ?_
    case hy => ((intro w hSw; (try dsimp only at hSw); go_simp); (try with_reducible rfl))
    simp only [Act.put, List.setIfInBounds_toArray, List.set_cons_zero, List.set_cons_succ]
    refine take_at 17 2 ?_ rfl rfl (by decide +kernel) (by decide +kernel) (by decide +kernel) (fun _ _ _ h => h) (Or.inl ⟨by rfl, ?hy⟩) (by assumption) ?_
    case hy => ((intro w hSw; (try dsimp only at hSw); go_simp); (try with_reducible rfl))
    simp only [Act.put, List.setIfInBounds_toArray, List.set_cons_zero, List.set_cons_succ]
    refine wpAnyH_done (by decide +kernel) ?_ _
    refine NoPanic.normal ?_
    go_wp2_with fail
    go_ret
    exact ⟨by simp, rfl, rfl, rfl, Nat.le_refl _, fun _ _ => rfl⟩

end Go.Proofs.Ytebcflgdjbjkoaa
/- append at rows of elements of several cells (the same as in the texts of another seat); no condition beyond those that stand there. -/
namespace Go.Proofs.Ytebcflgdjbjkoaa
open Go.RowKit

/-- A type of k cells of which rows are made. -/
def Elem (e : TypeId) (k : Nat) : Prop := ∃ i z b, Try.prog.info? e = some i ∧ i.zero = some z ∧ i.size = k ∧ i.bytes = b ∧ z.cells.size = k ∧ 0 < k ∧ b ≤ 1000
theorem elem_of {e : TypeId} {k b : Nat} {z : Value} (h : (Try.prog.info? e).map (fun i => (i.zero, i.size, i.bytes)) = some (some z, k, b)) (hz : z.cells.size = k) (hk : 0 < k) (hb : b ≤ 1000) : Elem e k := by
  cases hi : Try.prog.info? e with
  | none => rw [hi] at h; simp at h
  | some i => rw [hi] at h; simp at h; exact ⟨i, z, b, hi, h.1, h.2.1, h.2.2, hz, hk, hb⟩
theorem elem_class : Elem 114 4 := elem_of (b := 32) (z := .agg #[.int .u64 0, .int .u64 0, .int .u64 0, .int .u64 0]) (by kernel_rfl) (by kernel_rfl) (by decide) (by decide)
theorem elem_set : Elem 88 4 := elem_of (b := 32) (z := .agg #[.int .u64 0, .int .u64 0, .int .u64 0, .int .u64 0]) (by kernel_rfl) (by kernel_rfl) (by decide) (by decide)
theorem append_el {e : TypeId} {k : Nat} (he : Elem e k) {ops : Array Oper} {rest : List Oper} {o : Oper} {a : Act} {w : World} {Q : Exit → Act → World → Prop} (hgd : o.guard = none) (s x : Operand) (t : TypeId)
    (ho : o.op = .call { callee := .builtin .append, args := #[s, x], argTypes := #[t, t] }) (ht : Try.prog.underlying t = some (.slice e)) (base : Nat)
    (v : Value) (n : Nat) (xs : List Value) (hs : a.eval s = v) (hrow : w.ownsRow base e k v n xs) (hl : n ≤ 1000)
    (q c : Nat) (news : List Value) (hx : a.eval x = .slice (some ⟨q, 0, none⟩) 1 c) (hm : news.length = k) (hq : w.heap[q]? = some (.cells news.toArray e (0, 0))) (h1 : ∀ u ∈ news, u.oneCell' = true) (hbase : base ≤ w.heap.size)
    (h : ∀ v' w', w'.ownsRow base e k v' (n + 1) (xs ++ news) → w.grownBy w' v.ownBlock → wpList Try.prog ops Q rest (a.put o.dst v') w') : wpList Try.prog ops Q (o :: rest) a w := by
  obtain ⟨i0, z, b, hi0, hz0, hz1, hz2, hz3, hk, hb⟩ := he
  refine wpList_append_own _ hgd s x t ho base e i0 _ k b ht hi0 hz0 hz1 hz2 hz3 hk v n xs hs hrow ⟨q, 0, none⟩ 1 c news hx (by omega) ?_ h1 (by unfold maxLen; omega) ?_ hbase ?_
  · intro j u hj
    have hadd : (⟨q, 0, none⟩ : Addr).add j = ⟨q, j, none⟩ := by unfold Addr.add; split <;> simp_all
    rw [hadd, Lib.cell_of_heap hq]
    simpa using hj
  · have : (n + 1) * b ≤ 1001 * 1000 := Nat.mul_le_mul (by omega) hb
    omega
  · intro v' w' h2 h3 _
    exact h v' w' h2 h3

theorem ownsRow_formW {w : World} {base : Nat} {e : TypeId} {size : Nat} {v : Value} {n : Nat} {xs : List Value} (h : w.ownsRow base e size v n xs) (hn : 0 < n) : ∃ g cap, v = .slice (some ⟨g, 0, none⟩) n cap := by
  rcases h.2 with ⟨_, h0⟩ | ⟨g, cap, cur, hv, hb, hg, _⟩
  · omega
  · exact ⟨g, cap, hv⟩
/-- A step of append in a region that draws. -/
theorem step_append_el {e : TypeId} {k : Nat} (he : Elem e k) {ops : Array Oper} {o : Oper} {a : Act} {w : World} {K : Act → World → Prop} {Q : Exit → Act → World → Prop} {E : Prop} (hgd : o.guard = none) (s x : Operand) (t : TypeId)
    (ho : o.op = .call { callee := .builtin .append, args := #[s, x], argTypes := #[t, t] }) (ht : Try.prog.underlying t = some (.slice e)) (base : Nat)
    (v : Value) (n : Nat) (xs : List Value) (hs : a.eval s = v) (hrow : w.ownsRow base e k v n xs) (hl : n ≤ 1000)
    (q c : Nat) (news : List Value) (hx : a.eval x = .slice (some ⟨q, 0, none⟩) 1 c) (hm : news.length = k) (hq : w.heap[q]? = some (.cells news.toArray e (0, 0))) (h1 : ∀ u ∈ news, u.oneCell' = true) (hbase : base ≤ w.heap.size)
    (h : ∀ g cap w', w'.ownsRow base e k (.slice (some ⟨g, 0, none⟩) (n + 1) cap) (n + 1) (xs ++ news) → w.grownBy w' v.ownBlock → (v.ownBlock = some g ∨ g = w.heap.size) → K (a.put o.dst (.slice (some ⟨g, 0, none⟩) (n + 1) cap)) w') : if Region.wanted o (yielded ops a.tmps) = true then Oper.wp Try.prog o a w K Q else E := by
  obtain ⟨i0, z, b, hi0, hz0, hz1, hz2, hz3, hk, hb⟩ := he
  refine step_append_lies _ hgd s x t ho base e i0 _ k b ht hi0 hz0 hz1 hz2 hz3 hk v n xs hs hrow ⟨q, 0, none⟩ 1 c news hx (by omega) ?_ h1 (by decide) (by unfold maxLen; omega) ?_ hbase w.heap.size rfl ?_
  · intro j u hj
    have hadd : (⟨q, 0, none⟩ : Addr).add j = ⟨q, j, none⟩ := by unfold Addr.add; split <;> simp_all
    rw [hadd, Lib.cell_of_heap hq]
    simpa using hj
  · have : (n + 1) * b ≤ 1001 * 1000 := Nat.mul_le_mul (by omega) hb
    omega
  · intro g cap w' h2 h3 h4 _
    exact h g cap w' h2 h3 h4
theorem pair1 (w : World) (a b : Obj) : ((w.alloc a).alloc b).heap[w.heap.size]? = some a := by
  show ((w.heap.push a).push b)[w.heap.size]? = some a
  rw [Array.getElem?_push_lt (by simp), Array.getElem_push_eq]
theorem pair2 (w : World) (a b : Obj) : ((w.alloc a).alloc b).heap[w.heap.size + 1]? = some b := by
  show ((w.heap.push a).push b)[w.heap.size + 1]? = some b
  simp [Array.getElem_push]
theorem heap_setS {w : World} {g : Nat} {cur : Array Value} {e : TypeId} {fr : Nat × Nat} (h : w.heap[g]? = some (.cells cur e fr)) (i : Nat) (v : Value) : (w.setCell ⟨g, i, none⟩ v).heap[g]? = some (.cells (cur.setIfInBounds i v) e fr) := by
  simp [World.setCell, Array.getElem?_modify, h]

end Go.Proofs.Ytebcflgdjbjkoaa
