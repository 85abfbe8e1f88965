/- The reader of patterns: its state; peek, more; no condition beyond those that stand there. -/
import Derived.Test.YtebcflgdjbjkoaaPset
namespace Go.Proofs.Ytebcflgdjbjkoaa
open Go.RowKit

theorem take_at {P : Program} {md : Region.Mode} {ops : Array Oper} {Q : Exit → Act → World → Prop} {S : World → Prop} (i d : Nat) (v : Value) {oi : Oper} {fuel : Nat} {listed : Array Bool} {a : Act} {w : World} (hi : ops[i]? = some oi) (hd : oi.dst = some d)
    (hs : Region.noSelect ops = true) (hf : Region.free md ops listed i = true) (hr : (Region.ready md ops listed).contains i = true)
    (hQ : ∀ c a w, Q (.panic c) (a.put (some d) v) w → Q (.panic c) a w) (hy : YieldsIf P ops S oi v a) (hS : S w)
    (h : wpAnyH P md ops Q S fuel (listed.setIfInBounds i true) (a.put (some d) v) w) : wpAnyH P md ops Q S (fuel + 1) listed a w :=
  wpAnyH_take hi hs hf hr (hd ▸ hQ) hy hS (hd ▸ h)
/-- What the reader has read: the place, the classes, what follows, whether it has failed. -/
structure PSt where
  pos : Nat
  cls : List Set4
  fol : List Set4
  bad : Bool
/-- What is known of a part of a pattern. -/
structure Part where
  em : Bool
  fst : Set4
  lst : Set4
def partC (x : Part) : Array Value := #[.bool x.em, .int .u64 (wd x.fst 0 : Nat), .int .u64 (wd x.fst 1 : Nat), .int .u64 (wd x.fst 2 : Nat), .int .u64 (wd x.fst 3 : Nat), .int .u64 (wd x.lst 0 : Nat), .int .u64 (wd x.lst 1 : Nat), .int .u64 (wd x.lst 2 : Nat), .int .u64 (wd x.lst 3 : Nat)]
def Part.ok (x : Part) : Prop := Words x.fst ∧ Words x.lst
def e4 : Set4 := [0, 0, 0, 0]
theorem words_e4 : Words e4 := ⟨rfl, fun x hx => by simp [e4] at hx; omega⟩
/-- The cells of a row of sets. -/
def flatC : List Set4 → List Value
  | [] => []
  | s :: r => .int .u64 (wd s 0 : Nat) :: .int .u64 (wd s 1 : Nat) :: .int .u64 (wd s 2 : Nat) :: .int .u64 (wd s 3 : Nat) :: flatC r
def rdC (s : ByteArray) (p : Nat) (cv fv : Value) (bad : Bool) : Array Value := #[.string s, .int .i64 p, cv, fv, .bool false, .int .u64 0, .int .u64 0, .int .u64 0, .int .u64 0, .int .u64 0, .int .u64 0, .int .u64 0, .int .u64 0, .bool bad]
/-- The reader lies in block R; its rows lie in blocks from B on. -/
structure RdIn (B R : Nat) (s : ByteArray) (st : PSt) (cv fv : Value) (W : World) : Prop where
  low : B ≤ R
  cell : W.heap[R]? = some (.cells (rdC s st.pos cv fv st.bad) 116 (0, 0))
  crow : W.ownsRow B 114 4 cv st.cls.length (flatC st.cls)
  frow : W.ownsRow B 88 4 fv st.fol.length (flatC st.fol)
  cok : ∀ x ∈ st.cls, Words x
  fok : ∀ x ∈ st.fol, Words x
  len : st.cls.length ≤ 256 ∧ st.fol.length ≤ 256 ∧ st.pos ≤ 1000 ∧ 0 < st.fol.length
def RdAt (B R : Nat) (s : ByteArray) (st : PSt) (W : World) : Prop := ∃ cv fv, RdIn B R s st cv fv W ∧ st.cls.length = st.fol.length
/-- The places of locals are kept: blocks of other types than the reader's own. -/
def KeepR (w w' : World) : Prop := ∀ (k : Nat) cs T m, w.heap[k]? = some (.cells cs T m) → T ≠ 116 → T ≠ 114 → T ≠ 88 → w'.heap[k]? = some (.cells cs T m)
theorem KeepR.refl (w : World) : KeepR w w := fun _ _ _ _ h _ _ _ => h
theorem KeepR.trans {a b c : World} (h : KeepR a b) (k : KeepR b c) : KeepR a c := fun q cs T m h0 h1 h2 h3 => k q cs T m (h q cs T m h0 h1 h2 h3) h1 h2 h3
theorem KeepR.of_below {w w' : World} (h : Below w.heap.size w w') : KeepR w w' := fun k _ _ _ h0 _ _ _ => (h.block k (lt_of_block h0)).trans h0
theorem RdIn.below {B R : Nat} {s : ByteArray} {st : PSt} {cv fv : Value} {W W' : World} (h : RdIn B R s st cv fv W) (hb : Below W.heap.size W W') : RdIn B R s st cv fv W' :=
  ⟨h.low, (hb.block _ (lt_of_block h.cell)).trans h.cell, row_keepP h.crow fun g hg => hb.block g (World.ownsRow.lt h.crow g hg).2, row_keepP h.frow fun g hg => hb.block g (World.ownsRow.lt h.frow g hg).2, h.cok, h.fok, h.len⟩
theorem RdAt.below {B R : Nat} {s : ByteArray} {st : PSt} {W W' : World} (h : RdAt B R s st W) (hb : Below W.heap.size W W') : RdAt B R s st W' := by
  obtain ⟨cv, fv, h, hl⟩ := h
  exact ⟨cv, fv, h.below hb, hl⟩
theorem rd_cells {w : World} {R : Nat} {s : ByteArray} {p : Nat} {cv fv : Value} {bad : Bool} (h : w.heap[R]? = some (.cells (rdC s p cv fv bad) 116 (0, 0))) :
    (w.cell? ⟨R, 0, none⟩ = some (.string s) ∧ w.cell? ⟨R, 1, none⟩ = some (.int .i64 p) ∧ w.cell? ⟨R, 2, none⟩ = some cv ∧ w.cell? ⟨R, 3, none⟩ = some fv ∧ w.cell? ⟨R, 13, none⟩ = some (.bool bad)) ∧ w.frozen? ⟨R, 1, none⟩ = false ∧ w.frozen? ⟨R, 2, none⟩ = false ∧ w.frozen? ⟨R, 3, none⟩ = false ∧ w.frozen? ⟨R, 13, none⟩ = false :=
  ⟨⟨by rw [Lib.cell_of_heap h]; rfl, by rw [Lib.cell_of_heap h]; rfl, by rw [Lib.cell_of_heap h]; rfl, by rw [Lib.cell_of_heap h]; rfl, by rw [Lib.cell_of_heap h]; rfl⟩, Lib.frozen_of_heap h 1, Lib.frozen_of_heap h 2, Lib.frozen_of_heap h 3, Lib.frozen_of_heap h 13⟩
def peekM (s : ByteArray) (p : Nat) : Nat := (s.data.toList.getD p 0).toNat
theorem peek_lt (s : ByteArray) (p : Nat) : peekM s p < 256 := UInt8.toNat_lt _
theorem peek_in (s : ByteArray) (p : Nat) (h : p < s.size) : (s[p]'h).toNat = peekM s p := by
  have h3 : s.data.toList.getD p 0 = s[p]'h := by simp [List.getD, h]; rfl
  unfold peekM
  rw [h3]
theorem peek_out (s : ByteArray) (p : Nat) (h : s.size ≤ p) : peekM s p = 0 := by
  unfold peekM
  have : s.data.toList[p]? = none := by simp [h]
  simp [List.getD, this]
set_option maxRecDepth 100000 in
set_option maxHeartbeats 2000000 in
theorem peek_any {B R : Nat} {s : ByteArray} {st : PSt} {w : World} (h : RdAt B R s st w) :
    Calls Try.prog 54 #[.pointer (some ⟨R, 0, none⟩)] w fun e w' => e = .returned (.int .u8 (peekM s st.pos : Nat)) ∧ Below w.heap.size w w' := by
  obtain ⟨cv, fv, h, -⟩ := h
  obtain ⟨⟨a0, a1, a2, a3, a4⟩, -⟩ := rd_cells h.cell
  generalize st.pos = p at *
  clear h a2 a3 a4
  by_cases hlt : p < s.size
  · have ti : decide ((p : Int) ≥ (s.size : Int)) = false := decide_eq_false (by omega)
    have ti2 : (p : Int) < (s.size : Int) := by omega
    have hni : ((p : Int)).toNat = p := by omega
    have hx := peek_in s p hlt
    generalize peekM s p = x at *
    go_enter Try.func54, Try.ntmps54
    go_upto_region 1 with fail
    go_region_held3 (fun w' => w' = w.drew ∧ w'.cell? ⟨R, 0, none⟩ = some (.string s) ∧ w'.cell? ⟨R, 1, none⟩ = some (.int .i64 p)) (exact ⟨rfl, by assumption, by assumption⟩) (fail)
    go_upto_region 3 with fail
    go_region_held3 (fun w' => w' = w.drew.drew ∧ w'.cell? ⟨R, 0, none⟩ = some (.string s) ∧ w'.cell? ⟨R, 1, none⟩ = some (.int .i64 p)) (exact ⟨rfl, by assumption, by assumption⟩) (fail)
    go_wp2_with fail
    go_ret
    exact ⟨rfl, rfl, rfl, rfl, Nat.le_refl _, fun _ _ => rfl⟩
  · have ti : decide (s.size ≤ p) = true := decide_eq_true (by omega)
    have ti2 : decide ((p : Int) ≥ (s.size : Int)) = true := decide_eq_true (by omega)
    have hx := peek_out s p (by omega)
    go_enter Try.func54, Try.ntmps54
    go_upto_region 1 with fail
    go_region_held3 (fun w' => w' = w.drew ∧ w'.cell? ⟨R, 0, none⟩ = some (.string s) ∧ w'.cell? ⟨R, 1, none⟩ = some (.int .i64 p)) (exact ⟨rfl, by assumption, by assumption⟩) (fail)
    go_wp2_with fail
    go_ret
    exact ⟨rfl, rfl, rfl, rfl, Nat.le_refl _, fun _ _ => rfl⟩
def moreM (s : ByteArray) (st : PSt) : Bool := !st.bad && decide (st.pos < s.size)
set_option maxRecDepth 100000 in
set_option maxHeartbeats 2000000 in
theorem more_any {B R : Nat} {s : ByteArray} {st : PSt} {w : World} (h : RdAt B R s st w) :
    Calls Try.prog 53 #[.pointer (some ⟨R, 0, none⟩)] w fun e w' => e = .returned (.bool (moreM s st)) ∧ Below w.heap.size w w' := by
  obtain ⟨cv, fv, h, -⟩ := h
  obtain ⟨⟨a0, a1, a2, a3, a4⟩, -⟩ := rd_cells h.cell
  unfold moreM
  generalize st.pos = p at *
  generalize st.bad = f at *
  clear h a2 a3
  cases f
  · go_enter Try.func53, Try.ntmps53
    go_upto_region 1 with fail
    go_region_held3 (fun w' => w' = w.drew ∧ w'.cell? ⟨R, 0, none⟩ = some (.string s) ∧ w'.cell? ⟨R, 1, none⟩ = some (.int .i64 p) ∧ w'.cell? ⟨R, 13, none⟩ = some (.bool false)) (exact ⟨rfl, by assumption, by assumption, by assumption⟩) (fail)
    go_wp2_with fail
    go_ret
    exact ⟨by simp, rfl, rfl, rfl, Nat.le_refl _, fun _ _ => rfl⟩
  · go_enter Try.func53, Try.ntmps53
    go_upto_region 1 with fail
    refine wp_region_noPanic ?_
    refine wp_region_held_drew (S := fun w' => w'.cell? ⟨R, 13, none⟩ = some (.bool true)) (by kernel_rfl) (by assumption) (fun hHeld => ?_)
    refine take_at 0 3 ?_ rfl rfl (by decide +kernel) (by decide +kernel) (by decide +kernel) (fun _ _ _ h => h) (Or.inl ⟨by rfl, ?hy⟩) (by assumption) ?_
    case hy => ((intro w hSw; (try dsimp only at hSw); go_simp); (try with_reducible rfl))
    simp only [Act.put, List.setIfInBounds_toArray, List.set_cons_zero, List.set_cons_succ]
    refine take_at 1 4 ?_ rfl rfl (by decide +kernel) (by decide +kernel) (by decide +kernel) (fun _ _ _ h => h) (Or.inl ⟨by rfl, ?hy⟩) (by assumption) ?_
    case hy => ((intro w hSw; (try dsimp only at hSw); go_simp); (try with_reducible rfl))
    simp only [Act.put, List.setIfInBounds_toArray, List.set_cons_zero, List.set_cons_succ]
    refine take_at 2 5 ?_ rfl rfl (by decide +kernel) (by decide +kernel) (by decide +kernel) (fun _ _ _ h => h) (Or.inl ⟨by rfl, ?hy⟩) (by assumption) ?_
    case hy => ((intro w hSw; (try dsimp only at hSw); go_simp); (try with_reducible rfl))
    simp only [Act.put, List.setIfInBounds_toArray, List.set_cons_zero, List.set_cons_succ]
    refine take_at 3 6 ?_ rfl rfl (by decide +kernel) (by decide +kernel) (by decide +kernel) (fun _ _ _ h => h) (Or.inl ⟨by rfl, ?hy⟩) (by assumption) ?_
    case hy => ((intro w hSw; (try dsimp only at hSw); go_simp); (try with_reducible rfl))
    simp only [Act.put, List.setIfInBounds_toArray, List.set_cons_zero, List.set_cons_succ]
    refine take_at 4 7 ?_ rfl rfl (by decide +kernel) (by decide +kernel) (by decide +kernel) (fun _ _ _ h => h) (Or.inl ⟨by rfl, ?hy⟩) (by assumption) ?_
    case hy => ((intro w hSw; (try dsimp only at hSw); go_simp); (try with_reducible rfl))
    simp only [Act.put, List.setIfInBounds_toArray, List.set_cons_zero, List.set_cons_succ]
    refine take_at 5 8 ?_ rfl rfl (by decide +kernel) (by decide +kernel) (by decide +kernel) (fun _ _ _ h => h) (Or.inl ⟨by rfl, ?hy⟩) (by assumption) ?_
    case hy => ((intro w hSw; (try dsimp only at hSw); go_simp); (try with_reducible rfl))
    simp only [Act.put, List.setIfInBounds_toArray, List.set_cons_zero, List.set_cons_succ]
    refine take_at 6 9 undef rfl rfl (by decide +kernel) (by decide +kernel) (by decide +kernel) (fun _ _ _ h => h) (Or.inr ⟨by rfl, rfl⟩) (by assumption) ?_
    simp only [Act.put, List.setIfInBounds_toArray, List.set_cons_zero, List.set_cons_succ]
    refine take_at 7 10 undef rfl rfl (by decide +kernel) (by decide +kernel) (by decide +kernel) (fun _ _ _ h => h) (Or.inr ⟨by rfl, rfl⟩) (by assumption) ?_
    simp only [Act.put, List.setIfInBounds_toArray, List.set_cons_zero, List.set_cons_succ]
    refine take_at 8 11 undef rfl rfl (by decide +kernel) (by decide +kernel) (by decide +kernel) (fun _ _ _ h => h) (Or.inr ⟨by rfl, rfl⟩) (by assumption) ?_
    simp only [Act.put, List.setIfInBounds_toArray, List.set_cons_zero, List.set_cons_succ]
    refine take_at 9 12 undef rfl rfl (by decide +kernel) (by decide +kernel) (by decide +kernel) (fun _ _ _ h => h) (Or.inr ⟨by rfl, rfl⟩) (by assumption) ?_
    simp only [Act.put, List.setIfInBounds_toArray, List.set_cons_zero, List.set_cons_succ]
    refine take_at 10 13 undef rfl rfl (by decide +kernel) (by decide +kernel) (by decide +kernel) (fun _ _ _ h => h) (Or.inr ⟨by rfl, rfl⟩) (by assumption) ?_
    simp only [Act.put, List.setIfInBounds_toArray, List.set_cons_zero, List.set_cons_succ]
    refine take_at 11 14 undef rfl rfl (by decide +kernel) (by decide +kernel) (by decide +kernel) (fun _ _ _ h => h) (Or.inr ⟨by rfl, rfl⟩) (by assumption) ?_
    simp only [Act.put, List.setIfInBounds_toArray, List.set_cons_zero, List.set_cons_succ]
    refine take_at 12 15 undef rfl rfl (by decide +kernel) (by decide +kernel) (by decide +kernel) (fun _ _ _ h => h) (Or.inr ⟨by rfl, rfl⟩) (by assumption) ?_
    simp only [Act.put, List.setIfInBounds_toArray, List.set_cons_zero, List.set_cons_succ]
    refine take_at 13 16 undef rfl rfl (by decide +kernel) (by decide +kernel) (by decide +kernel) (fun _ _ _ h => h) (Or.inr ⟨by rfl, rfl⟩) (by assumption) ?_
    simp only [Act.put, List.setIfInBounds_toArray, List.set_cons_zero, List.set_cons_succ]
    refine take_at 14 17 undef rfl rfl (by decide +kernel) (by decide +kernel) (by decide +kernel) (fun _ _ _ h => h) (Or.inr ⟨by rfl, rfl⟩) (by assumption) ?_
    simp only [Act.put, List.setIfInBounds_toArray, List.set_cons_zero, List.set_cons_succ]
    refine take_at 15 18 undef rfl rfl (by decide +kernel) (by decide +kernel) (by decide +kernel) (fun _ _ _ h => h) (Or.inr ⟨by rfl, rfl⟩) (by assumption) ?_
    simp only [Act.put, List.setIfInBounds_toArray, List.set_cons_zero, List.set_cons_succ]
    refine take_at 16 19 ?_ rfl rfl (by decide +kernel) (by decide +kernel) (by decide +kernel) (fun _ _ _ h => h) (Or.inl ⟨by rfl, ?hy⟩) (by assumption) ?_
    case hy => ((intro w hSw; (try dsimp only at hSw); go_simp); (try with_reducible rfl))
    simp only [Act.put, List.setIfInBounds_toArray, List.set_cons_zero, List.set_cons_succ]
    refine take_at 17 2 ?_ rfl rfl (by decide +kernel) (by decide +kernel) (by decide +kernel) (fun _ _ _ h => h) (Or.inl ⟨by rfl, ?hy⟩) (by assumption) ?_
    case hy => ((intro w hSw; (try dsimp only at hSw); go_simp); (try with_reducible rfl))
    simp only [Act.put, List.setIfInBounds_toArray, List.set_cons_zero, List.set_cons_succ]
    refine wpAnyH_done (by decide +kernel) ?_ _
    refine NoPanic.normal ?_
    go_wp2_with fail
    go_ret
    exact ⟨by simp, rfl, rfl, rfl, Nat.le_refl _, fun _ _ => rfl⟩

end Go.Proofs.Ytebcflgdjbjkoaa
