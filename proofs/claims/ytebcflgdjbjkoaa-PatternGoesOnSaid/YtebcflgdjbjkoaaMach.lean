/- The state of pattern.build; no condition beyond those that stand there. -/
import Derived.Great.BuildSlice
import Derived.Test.YtebcflgdjbjkoaaAtP
import Derived.Test.YtebcflgdjbjkoaaPmap
namespace Go.Proofs.Ytebcflgdjbjkoaa
open Go.RowKit

/-- What two sets have in common. -/
def smeet (s t : Set4) : Set4 := [wd s 0 &&& wd t 0, wd s 1 &&& wd t 1, wd s 2 &&& wd t 2, wd s 3 &&& wd t 3]
/-- The same, of the first words. -/
def smeetN (s t : Set4) (i : Nat) : Set4 := (List.range 4).map fun j => if j < i then wd s j &&& wd t j else wd s j
theorem wd_lit (a b c d : Nat) : wd [a, b, c, d] 0 = a ∧ wd [a, b, c, d] 1 = b ∧ wd [a, b, c, d] 2 = c ∧ wd [a, b, c, d] 3 = d := ⟨rfl, rfl, rfl, rfl⟩
theorem smeetN_zero (s t : Set4) : setC (smeetN s t 0) = setC s := rfl
theorem smeetN_four (s t : Set4) : smeetN s t 4 = smeet s t := rfl
theorem smeetN_wd (s t : Set4) (i j : Nat) (hj : j < 4) : wd (smeetN s t i) j = if j < i then wd s j &&& wd t j else wd s j := by
  rcases (show j = 0 ∨ j = 1 ∨ j = 2 ∨ j = 3 by omega) with rfl | rfl | rfl | rfl <;> rfl
theorem smeetN_set (s t : Set4) (i : Nat) (hi : i < 4) : (setC (smeetN s t i)).setIfInBounds (0 + i) (.int .u64 ((wd s i &&& wd t i : Nat) : Int)) = setC (smeetN s t (i + 1)) := by
  rcases (show i = 0 ∨ i = 1 ∨ i = 2 ∨ i = 3 by omega) with rfl | rfl | rfl | rfl <;> rfl
theorem smeet_words {s t : Set4} (hs : Words s) : Words (smeet s t) := by
  have h : ∀ j, wd s j &&& wd t j < 18446744073709551616 := fun j => Nat.lt_of_le_of_lt Nat.and_le_left (word_lt hs j)
  refine ⟨rfl, fun x hx => ?_⟩
  simp only [smeet, List.mem_cons, List.not_mem_nil, or_false] at hx
  rcases hx with rfl | rfl | rfl | rfl <;> exact h _
/-- Where a byte leads from a set of positions. -/
def stepM (cls fol : List Set4) (s : Set4) (b : Nat) : Set4 := smeet (behindM fol s fol.length) (atM cls b cls.length)
/-- The cells of the rows of next. -/
def rowsC : List (List Nat) → List Value
  | [] => []
  | r :: l => (r.map fun n => Value.int .i16 (n : Nat)) ++ rowsC l
theorem rowsC_app (l : List (List Nat)) (r : List Nat) : rowsC (l ++ [r]) = rowsC l ++ r.map fun n => Value.int .i16 (n : Nat) := by
  induction l with
  | nil => simp [rowsC]
  | cons a l ih => simp only [rowsC, List.cons_append, ih, List.append_assoc]
/-- A row of 256 cells of which the first ones are filled. -/
def rowA (l : List Nat) : Array Value := ((l.map fun n => Value.int .i16 (n : Nat)) ++ List.replicate (256 - l.length) (Value.int .i16 0)).toArray
theorem rowA_nil : Array.replicate 256 (Value.int .i16 0) = rowA [] := by
  unfold rowA
  rw [List.map_nil, List.nil_append, List.length_nil, Nat.sub_zero, List.toArray_replicate]
theorem rowA_full {l : List Nat} (h : l.length = 256) : (rowA l).toList = l.map fun n => Value.int .i16 (n : Nat) := by simp [rowA, h]
theorem rowA_size {l : List Nat} (h : l.length ≤ 256) : (rowA l).size = 256 := by
  simp [rowA]
  omega
theorem rowA_set {l : List Nat} (h : l.length < 256) (n : Nat) : (rowA l).setIfInBounds l.length (.int .i16 (n : Nat)) = rowA (l ++ [n]) := by
  unfold rowA
  rw [List.setIfInBounds_toArray]
  obtain ⟨m, hm⟩ : ∃ m, 256 - l.length = m + 1 := ⟨255 - l.length, by omega⟩
  have h2 : 256 - (l ++ [n]).length = m := by simp; omega
  rw [h2, hm, List.set_append_right _ _ (by simp)]
  simp [List.replicate_succ]
theorem rowA_at {l : List Nat} (h : l.length < 256) : (rowA l)[l.length]? = some (.int .i16 0) := by
  obtain ⟨m, hm⟩ : ∃ m, 256 - l.length = m + 1 := ⟨255 - l.length, by omega⟩
  unfold rowA
  rw [hm]
  simp [List.replicate_succ]
theorem elem_row : Elem 62 256 := by
  refine elem_of (b := 512) (z := .agg (Array.replicate 256 (.int .i16 0))) (by kernel_rfl) ?_ (by decide) (by decide)
  show (Array.replicate 256 (Value.int .i16 0)).size = 256
  simp
theorem elem_bool : Elem 4 1 := elem_of (b := 1) (z := .bool false) (by kernel_rfl) (by decide) (by decide) (by decide)
/-- Memory in pattern.build: the result's block, the plan P, the map NB, the machine MB, the table A; the rows lie in blocks from B on. -/
structure BldAt (B P NB MB A : Nat) (w : World) (cls fol : List Set4) (x : Part) (cv fv : Value) (sets : List Set4) (sv : Value) (rows : List (List Nat)) (ends : List Bool) (nv ev : Value) (W : World) : Prop where
  bel : Below w.heap.size w W
  low : w.heap.size < P ∧ w.heap.size < NB ∧ w.heap.size < MB ∧ w.heap.size < A ∧ w.heap.size < B
  res : W.heap[w.heap.size]? = some (.cells #[.slice none 0 0, .slice none 0 0] 58 (0, 0))
  plan : PlanIn (w.heap.size + 1) P cls fol x cv fv W
  num : NumAt NB sets W
  srow : W.ownsRow B 88 4 sv sets.length (flatC sets)
  sok : ∀ s ∈ sets, Words s
  tab : ∃ l, TabAt A l W ∧ ∀ b, b < 256 → l.getD b [] = atM cls b cls.length
  mach : W.heap[MB]? = some (.cells #[nv, ev] 58 (0, 0))
  nrow : W.ownsRow B 62 256 nv rows.length (rowsC rows)
  erow : W.ownsRow B 4 1 ev ends.length (ends.map Value.bool)
  fB : ∀ g, fv.ownBlock = some g → g < B
theorem row_cell {w : World} {base : Nat} {e : TypeId} {size : Nat} {v : Value} {n g : Nat} {xs : List Value} (h : w.ownsRow base e size v n xs) (hg : v.ownBlock = some g) : ∃ cur, w.heap[g]? = some (.cells cur e (0, 0)) := by
  rcases h.2 with ⟨h1, _⟩ | ⟨g2, cap, cur, h1, _, h2, _⟩
  · rw [h1] at hg; cases hg
  · rw [h1] at hg
    have : g2 = g := by injection hg
    exact ⟨cur, this ▸ h2⟩
theorem num_ne {NB : Nat} {l : List Set4} {W : World} (h : NumAt NB l W) {k : Nat} {cs : Array Value} {T : TypeId} {m : Nat × Nat} (hk : W.heap[k]? = some (.cells cs T m)) : k ≠ NB := fun e => by
  obtain ⟨D, ⟨es, clock, h1, _⟩, _⟩ := h
  rw [e, h1] at hk
  cases hk
theorem cells_ne {W : World} {k k' : Nat} {cs cs' : Array Value} {T T' : TypeId} {m m' : Nat × Nat} (hk : W.heap[k]? = some (.cells cs T m)) (hk' : W.heap[k']? = some (.cells cs' T' m')) (hT : T ≠ T') : k ≠ k' := fun e => by
  rw [e, hk'] at hk
  injection hk with hk
  injection hk with _ e2 _
  exact hT e2.symm
section
variable {B P NB MB A : Nat} {w : World} {cls fol : List Set4} {x : Part} {cv fv : Value} {sets : List Set4} {sv : Value} {rows : List (List Nat)} {ends : List Bool} {nv ev : Value} {W W' : World}
/-- Where the blocks of the state are as they were, and nothing old is changed, the state is as it was. -/
theorem BldAt.keep (h : BldAt B P NB MB A w cls fol x cv fv sets sv rows ends nv ev W) (hb : Below w.heap.size W W') (h0 : W'.heap[w.heap.size]? = W.heap[w.heap.size]?) (hp : PlanIn (w.heap.size + 1) P cls fol x cv fv W') (hn : W'.heap[NB]? = W.heap[NB]?) (hA : W'.heap[A]? = W.heap[A]?) (hM : W'.heap[MB]? = W.heap[MB]?)
    (hs : ∀ g, sv.ownBlock = some g → W'.heap[g]? = W.heap[g]?) (hnv : ∀ g, nv.ownBlock = some g → W'.heap[g]? = W.heap[g]?) (hev : ∀ g, ev.ownBlock = some g → W'.heap[g]? = W.heap[g]?) : BldAt B P NB MB A w cls fol x cv fv sets sv rows ends nv ev W' := by
  obtain ⟨l, ht, hl⟩ := h.tab
  exact ⟨h.bel.trans hb, h.low, h0.trans h.res, hp, h.num.keep hn, row_keepP h.srow hs, h.sok, ⟨l, ⟨hA.trans ht.cell, ht.len, ht.ok⟩, hl⟩, hM.trans h.mach, row_keepP h.nrow hnv, row_keepP h.erow hev, h.fB⟩
theorem BldAt.below (h : BldAt B P NB MB A w cls fol x cv fv sets sv rows ends nv ev W) (hb : Below W.heap.size W W') : BldAt B P NB MB A w cls fol x cv fv sets sv rows ends nv ev W' := by
  obtain ⟨l, ht, _⟩ := h.tab
  exact h.keep (hb.mono h.bel.size) (hb.block _ (lt_of_block h.res)) (h.plan.below hb) (hb.block _ h.num.lt) (hb.block _ (lt_of_block ht.cell)) (hb.block _ (lt_of_block h.mach)) (fun g hg => hb.block g (World.ownsRow.lt h.srow g hg).2) (fun g hg => hb.block g (World.ownsRow.lt h.nrow g hg).2) (fun g hg => hb.block g (World.ownsRow.lt h.erow g hg).2)
/-- A block of the call's own, of another type than all of the state's, is changed. -/
theorem BldAt.one (h : BldAt B P NB MB A w cls fol x cv fv sets sv rows ends nv ev W) {X : Nat} (hX : w.heap.size < X) (ho : One X W W') {cs : Array Value} {m : Nat × Nat} (hc : W.heap[X]? = some (.cells cs 62 m)) (hne : nv.ownBlock ≠ some X) : BldAt B P NB MB A w cls fol x cv fv sets sv rows ends nv ev W' := by
  obtain ⟨l, ht, _⟩ := h.tab
  have hcell : ∀ k T cs' m', W.heap[k]? = some (.cells cs' T m') → T ≠ 62 → k ≠ X := fun k T cs' m' hk hT e => by
    rw [e, hc] at hk
    injection hk with hk
    injection hk with _ e2 _
    exact hT e2.symm
  have hNB : NB ≠ X := fun e => by
    obtain ⟨D, ⟨es, clock, h1, _⟩, _⟩ := h.num
    rw [e, hc] at h1
    cases h1
  refine h.keep (ho.below (by omega)) (ho.other _ (by omega)) (h.plan.other hc (by decide) (by decide) (by decide) ho.other) (ho.other _ hNB) (ho.other _ (hcell A _ _ _ ht.cell (by decide))) (ho.other _ (hcell MB _ _ _ h.mach (by decide)))
    (fun g hg => ho.other g fun e => row_ne h.srow hc (by decide) (e ▸ hg)) (fun g hg => ho.other g fun e => hne (e ▸ hg)) (fun g hg => ho.other g fun e => row_ne h.erow hc (by decide) (e ▸ hg))
/-- The state, where its own rows, its map and its machine are turned. -/
theorem BldAt.to (h : BldAt B P NB MB A w cls fol x cv fv sets sv rows ends nv ev W) (hb : Below w.heap.size W W') (hk : ∀ k, k < W.heap.size → k ≠ NB → k ≠ MB → sv.ownBlock ≠ some k → nv.ownBlock ≠ some k → ev.ownBlock ≠ some k → W'.heap[k]? = W.heap[k]?)
    {sets' : List Set4} {sv' nv' ev' : Value} {rows' : List (List Nat)} {ends' : List Bool} (hn : NumAt NB sets' W') (hs : W'.ownsRow B 88 4 sv' sets'.length (flatC sets')) (hok : ∀ s ∈ sets', Words s)
    (hm : W'.heap[MB]? = some (.cells #[nv', ev'] 58 (0, 0))) (hnr : W'.ownsRow B 62 256 nv' rows'.length (rowsC rows')) (her : W'.ownsRow B 4 1 ev' ends'.length (ends'.map Value.bool)) :
    BldAt B P NB MB A w cls fol x cv fv sets' sv' rows' ends' nv' ev' W' := by
  obtain ⟨l, ht, hl⟩ := h.tab
  have hlow := h.low
  have hany : ∀ k cs T m, W.heap[k]? = some (.cells cs T m) → T ≠ 58 → T ≠ 62 → T ≠ 4 → sv.ownBlock ≠ some k → W'.heap[k]? = W.heap[k]? := fun k cs T m h0 h1 h2 h3 h4 =>
    hk k (lt_of_block h0) (num_ne h.num h0) (cells_ne h0 h.mach h1) h4 (row_ne h.nrow h0 h2) (row_ne h.erow h0 h3)
  refine ⟨h.bel.trans hb, hlow, ?_, ⟨h.plan.low, (hany P _ _ _ h.plan.cell (by decide) (by decide) (by decide) (row_ne h.srow h.plan.cell (by decide))).trans h.plan.cell, ⟨?_, ?_, h.plan.rows.cok, h.plan.rows.fok, h.plan.rows.len⟩, h.plan.ok⟩, hn, hs, hok,
    ⟨l, ⟨(hany A _ _ _ ht.cell (by decide) (by decide) (by decide) (row_ne h.srow ht.cell (by decide))).trans ht.cell, ht.len, ht.ok⟩, hl⟩, hm, hnr, her, h.fB⟩
  · refine (hk _ (lt_of_block h.res) (by omega) (by omega) (row_ne h.srow h.res (by decide)) (row_ne h.nrow h.res (by decide)) (row_ne h.erow h.res (by decide))).trans h.res
  · refine row_keepP h.plan.rows.crow fun g hg => ?_
    obtain ⟨cur, hc⟩ := row_cell h.plan.rows.crow hg
    exact hany g _ _ _ hc (by decide) (by decide) (by decide) (row_ne h.srow hc (by decide))
  · refine row_keepP h.plan.rows.frow fun g hg => ?_
    obtain ⟨cur, hc⟩ := row_cell h.plan.rows.frow hg
    refine hany g _ _ _ hc (by decide) (by decide) (by decide) fun e => ?_
    have h1 := (World.ownsRow.lt h.srow g e).1
    have h2 := h.fB g hg
    omega
/-- A set more is numbered, and stands last. -/
theorem BldAt.grow (h : BldAt B P NB MB A w cls fol x cv fv sets sv rows ends nv ev W) {s : Set4} (hs : Words s) {W1 W3 : World} {o : Obj} {sv' : Value} (h1 : W.grownBy W1 (some NB)) (hn : NumAt NB (sets ++ [s]) W1) (h3 : (W1.alloc o).grownBy W3 sv.ownBlock)
    (hrow : W3.ownsRow B 88 4 sv' (sets.length + 1) (flatC sets ++ (setC s).toList)) :
    BldAt B P NB MB A w cls fol x cv fv (sets ++ [s]) sv' rows ends nv ev W3 ∧ ∀ k, k < W.heap.size → k ≠ NB → sv.ownBlock ≠ some k → W3.heap[k]? = W.heap[k]? := by
  have hlow := h.low
  have hsz := h.bel.size
  have hs1 := h1.size
  have hs3 := h3.size
  have hsa : (W1.alloc o).heap.size = W1.heap.size + 1 := by simp
  have hblk : ∀ k, k < W.heap.size → k ≠ NB → sv.ownBlock ≠ some k → W3.heap[k]? = W.heap[k]? := fun k a1 a2 a3 => by
    rw [h3.block k (by omega) (fun e => a3 e.symm), heap_alloc_old W1 o (by omega), h1.block k a1 (fun e => a2 (by injection e))]
  have hb : Below w.heap.size W W3 := ⟨(h3.os.trans h1.os), (h3.tape.trans h1.tape), (h3.output.trans h1.output), by omega, fun k hk => hblk k (by omega) (by omega) (fun e => by have := (World.ownsRow.lt h.srow k e).1; omega)⟩
  refine ⟨h.to hb (fun k a1 a2 _ a4 _ _ => hblk k a1 a2 a4) (hn.keep ?_) ?_ ?_ ?_ ?_ ?_, hblk⟩
  · have hN := hn.lt
    rw [h3.block NB (by omega) ?_, heap_alloc_old W1 o hN]
    intro e
    obtain ⟨cur, hc⟩ := row_cell h.srow e.symm
    exact num_ne h.num hc rfl
  · rw [List.length_append, flat_app]
    exact hrow
  · intro t ht
    rcases List.mem_append.1 ht with h5 | h5
    · exact h.sok t h5
    · have : t = s := by simpa using h5
      rw [this]; exact hs
  · exact (hblk MB (lt_of_block h.mach) (num_ne h.num h.mach) (row_ne h.srow h.mach (by decide))).trans h.mach
  · refine row_keepP h.nrow fun g hg => ?_
    obtain ⟨cur, hc⟩ := row_cell h.nrow hg
    exact hblk g (lt_of_block hc) (num_ne h.num hc) (row_ne h.srow hc (by decide))
  · refine row_keepP h.erow fun g hg => ?_
    obtain ⟨cur, hc⟩ := row_cell h.erow hg
    exact hblk g (lt_of_block hc) (num_ne h.num hc) (row_ne h.srow hc (by decide))
/-- A row more of the machine. -/
theorem BldAt.next (h : BldAt B P NB MB A w cls fol x cv fv sets sv rows ends nv ev W) {r : List Nat} {W3 : World} {o : Obj} {g cap : Nat} (h3 : (W.alloc o).grownBy W3 nv.ownBlock)
    (hrow : W3.ownsRow B 62 256 (.slice (some ⟨g, 0, none⟩) (rows.length + 1) cap) (rows.length + 1) (rowsC rows ++ r.map fun n => Value.int .i16 (n : Nat))) :
    BldAt B P NB MB A w cls fol x cv fv sets sv (rows ++ [r]) ends (.slice (some ⟨g, 0, none⟩) (rows.length + 1) cap) ev (W3.setCell ⟨MB, 0, none⟩ (.slice (some ⟨g, 0, none⟩) (rows.length + 1) cap)) ∧ W3.heap[MB]? = some (.cells #[nv, ev] 58 (0, 0)) := by
  have hlow := h.low
  have hsz := h.bel.size
  have hs3 := h3.size
  have hsa : (W.alloc o).heap.size = W.heap.size + 1 := by simp
  have hblk : ∀ k, k < W.heap.size → nv.ownBlock ≠ some k → W3.heap[k]? = W.heap[k]? := fun k a1 a3 => by
    rw [h3.block k (by omega) (fun e => a3 e.symm), heap_alloc_old W o (by omega)]
  have hM := (hblk MB (lt_of_block h.mach) (row_ne h.nrow h.mach (by decide))).trans h.mach
  have hset : ∀ k, k ≠ MB → (W3.setCell ⟨MB, 0, none⟩ (.slice (some ⟨g, 0, none⟩) (rows.length + 1) cap)).heap[k]? = W3.heap[k]? := fun k hk => Below.heap_setCell _ _ _ _ hk
  have hb : Below w.heap.size W (W3.setCell ⟨MB, 0, none⟩ (.slice (some ⟨g, 0, none⟩) (rows.length + 1) cap)) := ⟨h3.os, h3.tape, h3.output, by simp; omega, fun k hk => (hset k (by omega)).trans (hblk k (by omega) (fun e => by have := (World.ownsRow.lt h.nrow k e).1; omega))⟩
  refine ⟨h.to hb (fun k a1 _ a3 _ a5 _ => (hset k a3).trans (hblk k a1 a5)) ?_ ?_ h.sok (heap_setS hM 0 _) ?_ ?_, hM⟩
  · refine h.num.keep ((hset NB fun e => num_ne h.num h.mach e.symm).trans (hblk NB h.num.lt ?_))
    intro e
    obtain ⟨cur, hc⟩ := row_cell h.nrow e
    exact num_ne h.num hc rfl
  · refine row_keepP h.srow fun q hq => ?_
    obtain ⟨cur, hc⟩ := row_cell h.srow hq
    exact (hset q (cells_ne hc h.mach (by decide))).trans (hblk q (lt_of_block hc) (row_ne h.nrow hc (by decide)))
  · rw [List.length_append, rowsC_app]
    refine row_keepP hrow fun q hq => hset q ?_
    obtain ⟨cur, hc⟩ := row_cell hrow hq
    exact cells_ne hc hM (by decide)
  · refine row_keepP h.erow fun q hq => ?_
    obtain ⟨cur, hc⟩ := row_cell h.erow hq
    exact (hset q (cells_ne hc h.mach (by decide))).trans (hblk q (lt_of_block hc) (row_ne h.nrow hc (by decide)))
/-- An answer more of the machine. -/
theorem BldAt.endOf (h : BldAt B P NB MB A w cls fol x cv fv sets sv rows ends nv ev W) {r : Bool} {W3 : World} {o : Obj} {g cap : Nat} (h3 : (W.alloc o).grownBy W3 ev.ownBlock)
    (hrow : W3.ownsRow B 4 1 (.slice (some ⟨g, 0, none⟩) (ends.length + 1) cap) (ends.length + 1) (ends.map Value.bool ++ [Value.bool r])) :
    BldAt B P NB MB A w cls fol x cv fv sets sv rows (ends ++ [r]) nv (.slice (some ⟨g, 0, none⟩) (ends.length + 1) cap) (W3.setCell ⟨MB, 1, none⟩ (.slice (some ⟨g, 0, none⟩) (ends.length + 1) cap)) ∧ W3.heap[MB]? = some (.cells #[nv, ev] 58 (0, 0)) := by
  have hlow := h.low
  have hsz := h.bel.size
  have hs3 := h3.size
  have hsa : (W.alloc o).heap.size = W.heap.size + 1 := by simp
  have hblk : ∀ k, k < W.heap.size → ev.ownBlock ≠ some k → W3.heap[k]? = W.heap[k]? := fun k a1 a3 => by
    rw [h3.block k (by omega) (fun e => a3 e.symm), heap_alloc_old W o (by omega)]
  have hM := (hblk MB (lt_of_block h.mach) (row_ne h.erow h.mach (by decide))).trans h.mach
  have hset : ∀ k, k ≠ MB → (W3.setCell ⟨MB, 1, none⟩ (.slice (some ⟨g, 0, none⟩) (ends.length + 1) cap)).heap[k]? = W3.heap[k]? := fun k hk => Below.heap_setCell _ _ _ _ hk
  have hb : Below w.heap.size W (W3.setCell ⟨MB, 1, none⟩ (.slice (some ⟨g, 0, none⟩) (ends.length + 1) cap)) := ⟨h3.os, h3.tape, h3.output, by simp; omega, fun k hk => (hset k (by omega)).trans (hblk k (by omega) (fun e => by have := (World.ownsRow.lt h.erow k e).1; omega))⟩
  refine ⟨h.to hb (fun k a1 _ a3 _ _ a6 => (hset k a3).trans (hblk k a1 a6)) ?_ ?_ h.sok (heap_setS hM 1 _) ?_ ?_, hM⟩
  · refine h.num.keep ((hset NB fun e => num_ne h.num h.mach e.symm).trans (hblk NB h.num.lt ?_))
    intro e
    obtain ⟨cur, hc⟩ := row_cell h.erow e
    exact num_ne h.num hc rfl
  · refine row_keepP h.srow fun q hq => ?_
    obtain ⟨cur, hc⟩ := row_cell h.srow hq
    exact (hset q (cells_ne hc h.mach (by decide))).trans (hblk q (lt_of_block hc) (row_ne h.erow hc (by decide)))
  · refine row_keepP h.nrow fun q hq => ?_
    obtain ⟨cur, hc⟩ := row_cell h.nrow hq
    exact (hset q (cells_ne hc h.mach (by decide))).trans (hblk q (lt_of_block hc) (row_ne h.erow hc (by decide)))
  · rw [List.length_append, List.map_append]
    refine row_keepP hrow fun q hq => hset q ?_
    obtain ⟨cur, hc⟩ := row_cell hrow hq
    exact cells_ne hc hM (by decide)
end
/-- A slice of one element, of however many cells. -/
theorem wpList_buildOne {e : TypeId} {k : Nat} (he : Elem e k) {ops : Array Oper} {rest : List Oper} {o : Oper} {a : Act} {w : World} {Q : Exit → Act → World → Prop} (hg : o.guard = none) (t : TypeId) (x : Operand) (ho : o.op = .buildSlice t 1 #[(0, x)])
    (hu : Try.prog.underlying t = some (.slice e)) (vs : List Value) (hk : vs.length = k) (hsm : k ≤ 1000) (hx : a.eval x = .agg vs.toArray)
    (h : wpList Try.prog ops Q rest (a.put o.dst (.slice (some ⟨w.heap.size, 0, none⟩) 1 1)) (w.alloc (.cells vs.toArray e))) : wpList Try.prog ops Q (o :: rest) a w := by
  obtain ⟨i0, z, b, hi0, hz0, hz1, hz2, hz3, hk0, hb⟩ := he
  refine wpList_buildSlice hg t e 1 _ ho vs.toArray i0 z hu hi0 hz0 (by rw [hz1]; omega) (by rw [hz1]; omega) ?_ h
  have h1 := Great.fill_whole (s := k) hk0 [.agg vs.toArray] ((Array.range (1 * k)).map (z.cells[· % z.cells.size]!)) (fun v hv => by
    have : v = .agg vs.toArray := by simpa using hv
    rw [this]
    show vs.toArray.size = k
    simpa using hk) (by simp)
  have h2 : ([Value.agg vs.toArray].flatMap fun v => v.cells.toList).toArray = vs.toArray := by
    show (vs.toArray.toList ++ []).toArray = vs.toArray
    simp
  rw [h2] at h1
  have h3 : (#[(0, x)].map fun y : Nat × Operand => (y.1, a.eval y.2)).toList = [(0, Value.agg vs.toArray)] := by simp [hx]
  rw [hz1]
  exact (congrArg (Instr.fill (fun i => some (i * k, k)) ((Array.range (1 * k)).map (z.cells[· % z.cells.size]!))) h3).trans h1
/-- append at rows of elements; where the row lies then. -/
theorem append_lies_el {e : TypeId} {k : Nat} (he : Elem e k) {ops : Array Oper} {rest : List Oper} {o : Oper} {a : Act} {w : World} {Q : Exit → Act → World → Prop} (hgd : o.guard = none) (s x : Operand) (t : TypeId)
    (ho : o.op = .call { callee := .builtin .append, args := #[s, x], argTypes := #[t, t] }) (ht : Try.prog.underlying t = some (.slice e)) (base : Nat)
    (v : Value) (n : Nat) (xs : List Value) (hs : a.eval s = v) (hrow : w.ownsRow base e k v n xs) (hl : n ≤ 1000)
    (q c : Nat) (news : List Value) (hx : a.eval x = .slice (some ⟨q, 0, none⟩) 1 c) (hm : news.length = k) (hq : w.heap[q]? = some (.cells news.toArray e (0, 0))) (h1 : ∀ u ∈ news, u.oneCell' = true) (hbase : base ≤ w.heap.size)
    (h : ∀ g cap w', w'.ownsRow base e k (.slice (some ⟨g, 0, none⟩) (n + 1) cap) (n + 1) (xs ++ news) → w.grownBy w' v.ownBlock → (v.ownBlock = some g ∨ g = w.heap.size) → wpList Try.prog ops Q rest (a.put o.dst (.slice (some ⟨g, 0, none⟩) (n + 1) cap)) w') : wpList Try.prog ops Q (o :: rest) a w := by
  obtain ⟨i0, z, b, hi0, hz0, hz1, hz2, hz3, hk, hb⟩ := he
  refine wpList_append_lies w hgd s x t ho base e i0 _ k b ht hi0 hz0 hz1 hz2 hz3 hk v n xs hs hrow ⟨q, 0, none⟩ 1 c news hx (by omega) ?_ h1 (by decide) (by unfold maxLen; omega) ?_ hbase w.heap.size rfl ?_
  · intro j u hj
    have hadd : (⟨q, 0, none⟩ : Addr).add j = ⟨q, j, none⟩ := by unfold Addr.add; split <;> simp_all
    rw [hadd, Lib.cell_of_heap hq]
    simpa using hj
  · have : (n + 1) * b ≤ 1001 * 1000 := Nat.mul_le_mul (by omega) hb
    omega
  · intro g cap w' h2 h3 h4 _
    exact h g cap w' h2 h3 h4

end Go.Proofs.Ytebcflgdjbjkoaa
