/- The types that clapmake makes, and its small functions for them; no condition beyond those that stand there. -/
import Derived.Test.YtkcpnehhcpmdgaaSample
namespace Go.Proofs.Ytkcpnehhcpmdgaa
open Go.RowKit

/-- A type of the six parts. -/
def tyV (kd : Int) (nm : ByteArray) (lo hi : Int) (pat : ByteArray) (p : Value) : Value := .agg #[.int .i64 kd, .string nm, .int .i64 lo, .int .i64 hi, .string pat, p]
def letters : List ByteArray := [⟨#[97]⟩, ⟨#[98]⟩, ⟨#[99]⟩, ⟨#[100]⟩, ⟨#[101]⟩, ⟨#[102]⟩, ⟨#[103]⟩, ⟨#[104]⟩]
def sNone : ByteArray := ⟨#[110, 111, 110, 101]⟩
def sSome : ByteArray := ⟨#[115, 111, 109, 101]⟩
/-- A type without parts. -/
def LeafOk (kd lo hi : Int) (pat : ByteArray) : Prop :=
  kd = 0 ∨ (kd = 1 ∧ 0 ≤ lo ∧ lo ≤ hi ∧ hi ≤ 1) ∨ (kd = 2 ∧ -9007199254740992 ≤ lo ∧ lo ≤ hi ∧ hi ≤ 9007199254740992) ∨ kd = 3 ∨ (kd = 4 ∧ 0 ≤ lo ∧ lo ≤ hi ∧ hi ≤ 1000000) ∨ (kd = 5 ∧ pat ∈ pats)
/-- The bounds of a type with n parts. -/
def KindOk (kd lo hi : Int) (n : Nat) : Prop :=
  (kd = 6 ∧ n ≤ 4) ∨ (kd = 7 ∧ 1 ≤ n ∧ n ≤ 3) ∨ (kd = 8 ∧ n = 1 ∧ 0 ≤ lo ∧ lo ≤ 2 ∧ lo ≤ hi ∧ hi ≤ lo + 2) ∨ (kd = 9 ∧ n = 1 ∧ 0 ≤ lo ∧ lo ≤ 1 ∧ 2 ≤ hi ∧ hi ≤ 3)
def NameOk (kd : Int) (i : Nat) (nm : ByteArray) : Prop :=
  (kd = 6 → letters[i]? = some nm) ∧ (kd = 7 → nm ∈ [sNone, sSome, ⟨#[97]⟩, ⟨#[98]⟩, ⟨#[99]⟩])
/-- A type of at most d levels of parts; its parts lie in blocks of S. -/
def TyIn : Nat → (Nat → Prop) → World → Int → Int → Int → ByteArray → Value → Prop
  | 0, _, _, kd, lo, hi, pat, _ => LeafOk kd lo hi pat
  | d + 1, S, w, kd, lo, hi, pat, p => LeafOk kd lo hi pat ∨ ∃ (n cap : Nat) (a : Option Addr), p = .slice a n cap ∧ n ≤ cap ∧ KindOk kd lo hi n ∧ ∀ i, i < n → ∃ b nm kd' nm' lo' hi' pat' p',
      a = some ⟨b, 0, none⟩ ∧ S b ∧ b < w.heap.size ∧ NameOk kd i nm ∧ (kd' ≠ 10 ∧ ∃ a' l' c', p' = Value.slice a' l' c') ∧
      w.cell? ⟨b, i * 7, none⟩ = some (.string nm) ∧ w.cell? ⟨b, i * 7 + 1, none⟩ = some (.int .i64 kd') ∧ w.cell? ⟨b, i * 7 + 2, none⟩ = some (.string nm') ∧ w.cell? ⟨b, i * 7 + 3, none⟩ = some (.int .i64 lo') ∧
      w.cell? ⟨b, i * 7 + 4, none⟩ = some (.int .i64 hi') ∧ w.cell? ⟨b, i * 7 + 5, none⟩ = some (.string pat') ∧ w.cell? ⟨b, i * 7 + 6, none⟩ = some p' ∧ TyIn d S w kd' lo' hi' pat' p'
theorem TyIn.kind {d : Nat} {S : Nat → Prop} {w : World} {kd lo hi : Int} {pat : ByteArray} {p : Value} (h : TyIn d S w kd lo hi pat p) : 0 ≤ kd ∧ kd ≤ 9 := by
  cases d with
  | zero => unfold TyIn LeafOk at h; omega
  | succ d =>
    rcases h with h | ⟨n, cap, a, _, _, h, _⟩
    · unfold LeafOk at h; omega
    · unfold KindOk at h; omega
theorem TyIn.leaf {d : Nat} {S : Nat → Prop} {w : World} {kd lo hi : Int} {pat : ByteArray} {p : Value} (h : LeafOk kd lo hi pat) : TyIn d S w kd lo hi pat p := by
  cases d with
  | zero => exact h
  | succ d => exact Or.inl h
theorem TyIn.imp {d : Nat} : ∀ {S S' : Nat → Prop} {w : World} {kd lo hi : Int} {pat : ByteArray} {p : Value}, TyIn d S w kd lo hi pat p → (∀ k, S k → k < w.heap.size → S' k) → TyIn d S' w kd lo hi pat p := by
  induction d with
  | zero => intro S S' w kd lo hi pat p h _; exact h
  | succ d ih =>
    intro S S' w kd lo hi pat p h hB
    rcases h with h | ⟨n, cap, a, h1, h2, h3, h4⟩
    · exact Or.inl h
    · refine Or.inr ⟨n, cap, a, h1, h2, h3, fun i hi => ?_⟩
      obtain ⟨b, nm, kd', nm', lo', hi', pat', p', e1, e2, e3, e4, e5, e6, e7, e8, e9, e10, e11, e12, e13⟩ := h4 i hi
      exact ⟨b, nm, kd', nm', lo', hi', pat', p', e1, hB b e2 e3, e3, e4, e5, e6, e7, e8, e9, e10, e11, e12, ih e13 hB⟩
theorem TyIn.keep {d : Nat} : ∀ {S : Nat → Prop} {w w' : World} {kd lo hi : Int} {pat : ByteArray} {p : Value}, TyIn d S w kd lo hi pat p → w.heap.size ≤ w'.heap.size → (∀ k, S k → k < w.heap.size → w'.heap[k]? = w.heap[k]?) → TyIn d S w' kd lo hi pat p := by
  induction d with
  | zero => intro S w w' kd lo hi pat p h _ _; exact h
  | succ d ih =>
    intro S w w' kd lo hi pat p h hz hk
    rcases h with h | ⟨n, cap, a, h1, h2, h3, h4⟩
    · exact Or.inl h
    · refine Or.inr ⟨n, cap, a, h1, h2, h3, fun i hi => ?_⟩
      obtain ⟨b, nm, kd', nm', lo', hi', pat', p', e1, e2, e3, e4, e5, e6, e7, e8, e9, e10, e11, e12, e13⟩ := h4 i hi
      have hb := hk b e2 e3
      refine ⟨b, nm, kd', nm', lo', hi', pat', p', e1, e2, by omega, e4, e5, ?_, ?_, ?_, ?_, ?_, ?_, ?_, ih e13 hz hk⟩ <;> (rw [World.cell?_of_block hb]; assumption)
/-- .. in blocks from B on. -/
abbrev TyOk (d B : Nat) (w : World) (kd lo hi : Int) (pat : ByteArray) (p : Value) : Prop := TyIn d (B ≤ ·) w kd lo hi pat p
theorem TyOk.kind {d B : Nat} {w : World} {kd lo hi : Int} {pat : ByteArray} {p : Value} (h : TyOk d B w kd lo hi pat p) : 0 ≤ kd ∧ kd ≤ 9 := TyIn.kind h
theorem TyOk.leaf {d B : Nat} {w : World} {kd lo hi : Int} {pat : ByteArray} {p : Value} (h : LeafOk kd lo hi pat) : TyOk d B w kd lo hi pat p := TyIn.leaf h
theorem TyOk.mono {d B B' : Nat} {w : World} {kd lo hi : Int} {pat : ByteArray} {p : Value} (h : TyOk d B w kd lo hi pat p) (hB : B' ≤ B) : TyOk d B' w kd lo hi pat p := TyIn.imp h fun _ h1 _ => Nat.le_trans hB h1
theorem TyOk.keep {d B : Nat} {w w' : World} {kd lo hi : Int} {pat : ByteArray} {p : Value} (h : TyOk d B w kd lo hi pat p) (hz : w.heap.size ≤ w'.heap.size) (hk : ∀ k, B ≤ k → k < w.heap.size → w'.heap[k]? = w.heap[k]?) : TyOk d B w' kd lo hi pat p := TyIn.keep h hz hk
theorem TyOk.keepS {d n s B : Nat} {w w' : World} {kd lo hi : Int} {pat : ByteArray} {p : Value} (h : TyOk d B w kd lo hi pat p) (hs : s < B) (hn : w.heap.size ≤ n) (hk : KeepS n s w w') : TyOk d B w' kd lo hi pat p :=
  h.keep hk.size fun k h1 h2 => hk.block k (by omega) (by omega)
/-- Part i of a row of parts. -/
def PartOk (d : Nat) (S : Nat → Prop) (w : World) (kd : Int) (i : Nat) (xs : List Value) : Prop := ∃ nm kd' nm' lo' hi' pat' p', NameOk kd i nm ∧ (kd' ≠ 10 ∧ ∃ a' l' c', p' = Value.slice a' l' c') ∧
  xs[i * 7]? = some (.string nm) ∧ xs[i * 7 + 1]? = some (.int .i64 kd') ∧ xs[i * 7 + 2]? = some (.string nm') ∧ xs[i * 7 + 3]? = some (.int .i64 lo') ∧ xs[i * 7 + 4]? = some (.int .i64 hi') ∧ xs[i * 7 + 5]? = some (.string pat') ∧ xs[i * 7 + 6]? = some p' ∧ TyIn d S w kd' lo' hi' pat' p'
def partCells (nm : ByteArray) (kd : Int) (nm' : ByteArray) (lo hi : Int) (pat : ByteArray) (p : Value) : List Value := [.string nm, .int .i64 kd, .string nm', .int .i64 lo, .int .i64 hi, .string pat, p]
theorem PartOk.app {d : Nat} {S : Nat → Prop} {w : World} {kd : Int} {i : Nat} {xs ys : List Value} (h : PartOk d S w kd i xs) : PartOk d S w kd i (xs ++ ys) := by
  obtain ⟨nm, kd', nm', lo', hi', pat', p', e4, e5, e6, e7, e8, e9, e10, e11, e12, e13⟩ := h
  have g : ∀ j v, xs[j]? = some v → (xs ++ ys)[j]? = some v := fun j v hj => by
    rw [List.getElem?_append_left (List.getElem?_eq_some_iff.1 hj).1, hj]
  exact ⟨nm, kd', nm', lo', hi', pat', p', e4, e5, g _ _ e6, g _ _ e7, g _ _ e8, g _ _ e9, g _ _ e10, g _ _ e11, g _ _ e12, e13⟩
theorem PartOk.last {d : Nat} {S : Nat → Prop} {w : World} {kd : Int} {i : Nat} {xs : List Value} (hl : xs.length = i * 7) (nm : ByteArray) (kd' : Int) (nm' : ByteArray) (lo hi : Int) (pat : ByteArray) (p : Value) (hn : NameOk kd i nm) (hk : kd' ≠ 10) (ht : TyIn d S w kd' lo hi pat p) (hp : ∃ a l c, p = Value.slice a l c := by exact ⟨_, _, _, rfl⟩) : PartOk d S w kd i (xs ++ partCells nm kd' nm' lo hi pat p) := by
  refine ⟨nm, kd', nm', lo, hi, pat, p, hn, ⟨hk, hp⟩, ?_, ?_, ?_, ?_, ?_, ?_, ?_, ht⟩ <;> (rw [List.getElem?_append_right (by omega), ← hl]; simp [partCells])
theorem PartOk.keep {d : Nat} {S : Nat → Prop} {w w' : World} {kd : Int} {i : Nat} {xs : List Value} (h : PartOk d S w kd i xs) (hz : w.heap.size ≤ w'.heap.size) (hk : ∀ k, S k → k < w.heap.size → w'.heap[k]? = w.heap[k]?) : PartOk d S w' kd i xs := by
  obtain ⟨nm, kd', nm', lo', hi', pat', p', e4, e5, e6, e7, e8, e9, e10, e11, e12, e13⟩ := h
  exact ⟨nm, kd', nm', lo', hi', pat', p', e4, e5, e6, e7, e8, e9, e10, e11, e12, TyIn.keep e13 hz hk⟩
theorem PartOk.imp {d : Nat} {S S' : Nat → Prop} {w : World} {kd : Int} {i : Nat} {xs : List Value} (h : PartOk d S w kd i xs) (hs : ∀ k, S k → k < w.heap.size → S' k) : PartOk d S' w kd i xs := by
  obtain ⟨nm, kd', nm', lo', hi', pat', p', e4, e5, e6, e7, e8, e9, e10, e11, e12, e13⟩ := h
  exact ⟨nm, kd', nm', lo', hi', pat', p', e4, e5, e6, e7, e8, e9, e10, e11, e12, TyIn.imp e13 hs⟩
theorem ty_of_row {d B base : Nat} {w : World} {kd lo hi : Int} {pat : ByteArray} {a : Option Addr} {n cap : Nat} {xs : List Value} (hr : w.ownsRow base 89 7 (.slice a n cap) n xs) (hB : B ≤ base) (hk : KindOk kd lo hi n) (hp : ∀ i, i < n → PartOk d (B ≤ ·) w kd i xs) : TyOk (d + 1) B w kd lo hi pat (.slice a n cap) := by
  refine Or.inr ⟨n, cap, a, rfl, ?_, hk, fun i hi => ?_⟩
  · rcases hr.2 with ⟨h, h0⟩ | ⟨g, c, cur, h, _, _, h1, _⟩
    · omega
    · simp only [Value.slice.injEq] at h
      omega
  · obtain ⟨nm, kd', nm', lo', hi', pat', p', e4, e5, e6, e7, e8, e9, e10, e11, e12, e13⟩ := hp i hi
    obtain ⟨g, c, hg⟩ := ownsRow_formW hr (by omega)
    simp only [Value.slice.injEq] at hg
    obtain ⟨rfl, _, rfl⟩ := hg
    have hgl := World.ownsRow.lt hr g rfl
    have hc := fun j (hj : j < n * 7) => World.ownsRow.cellAt hr j hj
    refine ⟨g, nm, kd', nm', lo', hi', pat', p', rfl, Nat.le_trans hB hgl.1, hgl.2, e4, e5, ?_, ?_, ?_, ?_, ?_, ?_, ?_, e13⟩ <;> (rw [hc _ (by omega)]; assumption)
theorem set6 {w : World} {g : Nat} {c0 c1 c2 c3 c4 c5 : Value} (h : w.heap[g]? = some (.cells #[c0, c1, c2, c3, c4, c5] 63 (0, 0))) (v0 v1 v2 v3 v4 v5 : Value) : ((((((w.setCell ⟨g, 0, none⟩ v0).setCell ⟨g, 1, none⟩ v1).setCell ⟨g, 2, none⟩ v2).setCell ⟨g, 3, none⟩ v3).setCell ⟨g, 4, none⟩ v4).setCell ⟨g, 5, none⟩ v5).heap[g]? = some (.cells #[v0, v1, v2, v3, v4, v5] 63 (0, 0)) := by
  have := heap_setS (heap_setS (heap_setS (heap_setS (heap_setS (heap_setS h 0 v0) 1 v1) 2 v2) 3 v3) 4 v4) 5 v5
  simpa only [List.setIfInBounds_toArray, List.set_cons_zero, List.set_cons_succ] using this
theorem below6 {n g : Nat} (w : World) (hn : n ≤ g) (v0 v1 v2 v3 v4 v5 : Value) : Below n w ((((((w.setCell ⟨g, 0, none⟩ v0).setCell ⟨g, 1, none⟩ v1).setCell ⟨g, 2, none⟩ v2).setCell ⟨g, 3, none⟩ v3).setCell ⟨g, 4, none⟩ v4).setCell ⟨g, 5, none⟩ v5) :=
  ((((((Below.refl n w).setCell (p := ⟨g, 0, none⟩) hn v0).setCell (p := ⟨g, 1, none⟩) hn v1).setCell (p := ⟨g, 2, none⟩) hn v2).setCell (p := ⟨g, 3, none⟩) hn v3).setCell (p := ⟨g, 4, none⟩) hn v4).setCell (p := ⟨g, 5, none⟩) hn v5
theorem keep6 {n g : Nat} (w : World) (v0 v1 v2 v3 v4 v5 : Value) : KeepS n g w ((((((w.setCell ⟨g, 0, none⟩ v0).setCell ⟨g, 1, none⟩ v1).setCell ⟨g, 2, none⟩ v2).setCell ⟨g, 3, none⟩ v3).setCell ⟨g, 4, none⟩ v4).setCell ⟨g, 5, none⟩ v5) := by
  have one : ∀ (w : World) (i : Nat) (v : Value), KeepS n g w (w.setCell ⟨g, i, none⟩ v) := fun w i v => ⟨rfl, rfl, rfl, by simp, fun k _ hk => Below.heap_setCell _ _ _ _ hk⟩
  exact (one _ 0 v0).trans ((one _ 1 v1).trans ((one _ 2 v2).trans ((one _ 3 v3).trans ((one _ 4 v4).trans (one _ 5 v5)))))
theorem cells6 {w : World} {g : Nat} {c0 c1 c2 c3 c4 c5 : Value} (h : w.heap[g]? = some (.cells #[c0, c1, c2, c3, c4, c5] 63 (0, 0))) :
    (w.cell? ⟨g, 0, none⟩ = some c0 ∧ w.cell? ⟨g, 1, none⟩ = some c1 ∧ w.cell? ⟨g, 2, none⟩ = some c2 ∧ w.cell? ⟨g, 3, none⟩ = some c3 ∧ w.cell? ⟨g, 4, none⟩ = some c4 ∧ w.cell? ⟨g, 5, none⟩ = some c5) ∧
    (w.frozen? ⟨g, 0, none⟩ = false ∧ w.frozen? ⟨g, 1, none⟩ = false ∧ w.frozen? ⟨g, 2, none⟩ = false ∧ w.frozen? ⟨g, 3, none⟩ = false ∧ w.frozen? ⟨g, 4, none⟩ = false ∧ w.frozen? ⟨g, 5, none⟩ = false) := by
  refine ⟨⟨?_, ?_, ?_, ?_, ?_, ?_⟩, Lib.frozen_of_heap h 0, Lib.frozen_of_heap h 1, Lib.frozen_of_heap h 2, Lib.frozen_of_heap h 3, Lib.frozen_of_heap h 4, Lib.frozen_of_heap h 5⟩ <;> (rw [Lib.cell_of_heap h]; rfl)
theorem letter_get (i : Nat) (h : i < 8) : ∃ nm, letters[i]? = some nm := ⟨letters[i], List.getElem?_eq_getElem h⟩
theorem idx8 (w : World) (cs : Array Value) (i : Int) (v : Value) (h0 : 0 ≤ i) (h8 : i < 8) (hv : cs[i.toNat]? = some v) : (Instr.index 110 (.agg cs) (.int .i64 i)).run Try.prog w = .ok v w := by
  have h : Try.prog.underlying 110 = some (.array 8 9) := by kernel_rfl
  have hn : (0 ≤ i ∧ i < (8 : Int)) := by omega
  simp [Instr.index, run_underlying h, asIntOf, hn, go_sem]
  rw [hv]
  rfl
def letterCells : Array Value := #[.string ⟨#[97]⟩, .string ⟨#[98]⟩, .string ⟨#[99]⟩, .string ⟨#[100]⟩, .string ⟨#[101]⟩, .string ⟨#[102]⟩, .string ⟨#[103]⟩, .string ⟨#[104]⟩]
theorem letter_cell (i : Nat) (h : i < 5) : ∃ nm, letters[i]? = some nm ∧ letterCells[i]? = some (.string nm) := by
  rcases (show i = 0 ∨ i = 1 ∨ i = 2 ∨ i = 3 ∨ i = 4 by omega) with rfl | rfl | rfl | rfl | rfl <;> exact ⟨_, rfl, rfl⟩
set_option maxRecDepth 100000 in
set_option maxHeartbeats 4000000 in
theorem fieldName_int (k : Int) (h0 : 0 ≤ k) (h5 : k < 5) (w : World) : Calls Try.prog 59 #[.int .i64 k] w fun e w' => (∃ nm, letters[k.toNat]? = some nm ∧ e = .returned (.string nm)) ∧ w = w' := by
  have hb := below_any k 8 (by decide) (by decide)
  rw [show k % 8 = k by omega] at hb
  obtain ⟨nm, hn1, hn2⟩ := letter_cell k.toNat (by omega)
  have hix : ∀ W : World, (Instr.index 110 (.agg #[.string ⟨#[97]⟩, .string ⟨#[98]⟩, .string ⟨#[99]⟩, .string ⟨#[100]⟩, .string ⟨#[101]⟩, .string ⟨#[102]⟩, .string ⟨#[103]⟩, .string ⟨#[104]⟩]) (.int .i64 k)).run Try.prog W = .ok (.string nm) W := fun W => idx8 W letterCells k _ h0 (by omega) hn2
  have HB := Lib.hid (And.intro hb hn1)
  clear hb hn1 hn2
  go_enter Try.func59, Try.ntmps59
  go_wp2_with fail
  refine (HB.out.1 w).mono ?_
  rintro e w' ⟨rfl, rfl⟩
  go_wp2_with fail
  go_ret
  exact ⟨⟨_, HB.out.2, rfl⟩, rfl⟩
theorem fieldName_any (i : Nat) (hi : i < 5) (w : World) : Calls Try.prog 59 #[.int .i64 i] w fun e w' => (∃ nm, letters[i]? = some nm ∧ e = .returned (.string nm)) ∧ w = w' :=
  fieldName_int i (by omega) (by omega) w
set_option maxRecDepth 100000 in
set_option maxHeartbeats 4000000 in
theorem option_any (d B : Nat) (kd lo hi : Int) (nm pat : ByteArray) (p : Option Addr) (l c : Nat) (w : World) (hB : B ≤ w.heap.size) (h : TyOk d B w kd lo hi pat (.slice p l c)) :
    Calls Try.prog 58 #[tyV kd nm lo hi pat (.slice p l c)] w fun e w' => (∃ q, e = .returned (tyV 7 ⟨#[]⟩ 0 0 ⟨#[]⟩ q) ∧ (∃ a l c, q = .slice a l c) ∧ TyOk (d + 1) B w' 7 0 0 ⟨#[]⟩ q) ∧ Below w.heap.size w w' := by
  have HT := Lib.hid h
  clear h
  unfold tyV
  go_enter Try.func58, Try.ntmps58
  go_wp2_with fail
  refine bodyPost_ret (results_cell_row rfl _ _ (w.heap.size + 1) 63 #[.int .i64 7, .string ⟨#[]⟩, .int .i64 0, .int .i64 0, .string ⟨#[]⟩, .slice (some ⟨w.heap.size + 1 + 1, 0, none⟩) 2 2] (0, 0) _ rfl (three2 w _ _ _) Try.underlying63 rfl (by kernel_rfl)) rfl ?_
  have hb2 := ((Below.refl w.heap.size w).alloc (Nat.le_refl _) (.cells #[.int .i64 kd, .string nm, .int .i64 lo, .int .i64 hi, .string pat, .slice p l c] 63 (0, 0))).alloc (by simp) (.cells #[.int .i64 7, .string ⟨#[]⟩, .int .i64 0, .int .i64 0, .string ⟨#[]⟩, .slice (some ⟨w.heap.size + 1 + 1, 0, none⟩) 2 2] 63 (0, 0))
  have hb3 := hb2.alloc (by simp <;> omega) (.cells ((partCells sNone 0 ⟨#[]⟩ 0 0 ⟨#[]⟩ (.slice none 0 0)) ++ partCells sSome kd nm lo hi pat (.slice p l c)).toArray 89 (0, 0))
  have hrow := World.ownsRow_lit (base := B) (e := 89) (size := 7) ((w.alloc (.cells #[.int .i64 kd, .string nm, .int .i64 lo, .int .i64 hi, .string pat, .slice p l c] 63 (0, 0))).alloc (.cells #[.int .i64 7, .string ⟨#[]⟩, .int .i64 0, .int .i64 0, .string ⟨#[]⟩, .slice (some ⟨w.heap.size + 1 + 1, 0, none⟩) 2 2] 63 (0, 0))) ((partCells sNone 0 ⟨#[]⟩ 0 0 ⟨#[]⟩ (.slice none 0 0)) ++ partCells sSome kd nm lo hi pat (.slice p l c)).toArray 2 (by simp <;> omega) (by decide) rfl
  have hz : ((w.alloc (.cells #[.int .i64 kd, .string nm, .int .i64 lo, .int .i64 hi, .string pat, .slice p l c] 63 (0, 0))).alloc (.cells #[.int .i64 7, .string ⟨#[]⟩, .int .i64 0, .int .i64 0, .string ⟨#[]⟩, .slice (some ⟨w.heap.size + 1 + 1, 0, none⟩) 2 2] 63 (0, 0))).heap.size = w.heap.size + 1 + 1 := by simp
  rw [hz] at hrow
  refine ⟨⟨_, rfl, ⟨_, _, _, rfl⟩, ty_of_row hrow (Nat.le_refl _) (by unfold KindOk; omega) fun i hin => ?_⟩, hb3⟩
  have hk := HT.out.kind
  rcases (show i = 0 ∨ i = 1 by omega) with rfl | rfl
  · exact (PartOk.last (xs := []) (i := 0) rfl sNone 0 ⟨#[]⟩ 0 0 ⟨#[]⟩ (.slice none 0 0) ⟨fun h => by omega, fun _ => by simp⟩ (by decide) (TyOk.leaf (Or.inl rfl))).app
  · exact PartOk.last (xs := partCells sNone 0 ⟨#[]⟩ 0 0 ⟨#[]⟩ (.slice none 0 0)) (i := 1) rfl sSome kd nm lo hi pat (.slice p l c) ⟨fun h => by omega, fun _ => by simp⟩ (by omega) (HT.out.keep hb3.size fun k _ h2 => hb3.block k h2)

set_option maxRecDepth 100000 in
set_option maxHeartbeats 4000000 in
theorem pick_ty (B s g : Nat) (xs : List (Int × Int)) (h1 : 1 ≤ xs.length) (h2 : xs.length ≤ 100) (w : World) (h : StAt B s w)
    (hg : ∀ j x, xs[j]? = some x → w.cell? ⟨g, j * 6, none⟩ = some (.int .i64 2) ∧ w.cell? ⟨g, j * 6 + 1, none⟩ = some (.string ⟨#[]⟩) ∧ w.cell? ⟨g, j * 6 + 2, none⟩ = some (.int .i64 x.1) ∧ w.cell? ⟨g, j * 6 + 3, none⟩ = some (.int .i64 x.2) ∧ w.cell? ⟨g, j * 6 + 4, none⟩ = some (.string ⟨#[]⟩) ∧ w.cell? ⟨g, j * 6 + 5, none⟩ = some (.slice none 0 0)) (hgl : g < w.heap.size) (hgs : g ≠ s) :
    Calls Try.prog 56 #[.pointer (some ⟨s, 0, none⟩), .slice (some ⟨g, 0, none⟩) xs.length xs.length] w fun e w' => (∃ x ∈ xs, e = .returned (tyV 2 ⟨#[]⟩ x.1 x.2 ⟨#[]⟩ (.slice none 0 0))) ∧ StAt B s w' ∧ KeepS w.heap.size s w w' := by
  have hsl := h.lt
  have hst := h.below ((Below.refl w.heap.size w).alloc (Nat.le_refl _) (.cells #[.int .i64 0, .string ⟨#[]⟩, .int .i64 0, .int .i64 0, .string ⟨#[]⟩, .slice none 0 0] 63 (0, 0))) hsl
  have hnx := next_any B s xs.length (by omega) _ hst
  have HG := Lib.hid (And.intro hg hst)
  clear h hg hst
  go_enter Try.func56, Try.ntmps56
  go_wp2_with fail
  refine hnx.mono ?_; rintro e w1 ⟨⟨x, rfl, x0, x1, -⟩, hs1, k1, z1⟩
  have x1' := x1 (by omega)
  obtain ⟨i, rfl⟩ : ∃ i : Nat, x = i := ⟨x.toNat, by omega⟩
  have hi : i < xs.length := by omega
  have hm := List.getElem_mem hi
  have cc : ∀ k v, w.cell? ⟨g, k, none⟩ = some v → w1.cell? ⟨g, k, none⟩ = some v := fun k v hv => by
    rw [World.cell?_of_block ((k1.block g (by simp; omega) hgs).trans (heap_alloc_old w _ hgl))]; exact hv
  obtain ⟨q0, q1, q2, q3, q4, q5⟩ := HG.out.1 i _ (List.getElem?_eq_getElem hi)
  have c0 := cc _ _ q0
  have c1 := cc _ _ q1
  have c2 := cc _ _ q2
  have c3 := cc _ _ q3
  have c4 := cc _ _ q4
  have c5 := cc _ _ q5
  have e1 : w1.heap[w.heap.size]? = some (.cells #[.int .i64 0, .string ⟨#[]⟩, .int .i64 0, .int .i64 0, .string ⟨#[]⟩, .slice none 0 0] 63 (0, 0)) := (k1.block _ (by simp) (by omega)).trans (heap_alloc_new w _)
  clear q0 q1 q2 q3 q4 q5 cc hnx z1 x1
  generalize xs[i] = v at *
  have ti : (i : Int) < (xs.length : Int) := by omega
  have hni : ((i : Int)).toNat = i := by omega
  have z1 := k1.size
  obtain ⟨⟨a0, a1, a2, a3, a4, a5⟩, g0, g1, g2, g3, g4, g5⟩ := cells6 e1
  have HS := Lib.hid (And.intro hs1 (And.intro k1 (And.intro hm e1)))
  clear hs1 k1 hm e1
  go_wp2_with fail
  obtain ⟨x, y⟩ := v
  refine bodyPost_ret (results_cell_row rfl _ _ w.heap.size 63 #[.int .i64 2, .string ⟨#[]⟩, .int .i64 x, .int .i64 y, .string ⟨#[]⟩, .slice none 0 0] (0, 0) _ rfl (set6 HS.out.2.2.2 _ _ _ _ _ _) Try.underlying63 rfl (by kernel_rfl)) rfl ?_
  have hb := below6 (n := w.heap.size) w1 (Nat.le_refl _) (.int .i64 2) (.string ⟨#[]⟩) (.int .i64 x) (.int .i64 y) (.string ⟨#[]⟩) (.slice none 0 0)
  refine ⟨⟨(x, y), HS.out.2.2.1, rfl⟩, HS.out.1.below hb hsl, ?_⟩
  exact (KeepS.of_below ((Below.refl w.heap.size w).alloc (Nat.le_refl _) _)).trans ((HS.out.2.1.mono (by simp)).trans (KeepS.of_below hb))

end Go.Proofs.Ytkcpnehhcpmdgaa
