/- What is known within clapmake.val; no condition beyond those that stand there. -/
import Derived.Deep.RegionHeld3
import Derived.Test.YtkcpnehhcpmdgaaTree
namespace Go.Proofs.Ytkcpnehhcpmdgaa
open Go.RowKit

def ValPost (d B s : Nat) (w : World) (e : Ending) (w' : World) : Prop := (∃ (t : TVal (d + 1)) (k n : Int) (str : ByteArray) (p : Value), e = .returned (vV k n str p) ∧ IsV (d + 1) (w.heap.size ≤ ·) w' k n str p t ∧ OkT (d + 1) t) ∧ StAt B s w' ∧ KeepS w.heap.size s w w'
def ValSaid (d : Nat) : Prop := ∀ (B s : Nat) (S : Nat → Prop) (w : World) (kd : Int) (nm : ByteArray) (lo hi : Int) (pat : ByteArray) (a : Option Addr) (l c dp : Nat), StAt B s w → TyIn d S w kd lo hi pat (.slice a l c) → (∀ k, S k → k ≠ s) → dp + d ≤ 3 →
  Calls Try.prog 31 #[.slice none 0 0, tyV kd nm lo hi pat (.slice a l c), .pointer (some ⟨s, 0, none⟩), .int .i64 dp] w (ValPost d B s w)
theorem set4 {w : World} {g : Nat} {c0 c1 c2 c3 : Value} (h : w.heap[g]? = some (.cells #[c0, c1, c2, c3] 25 (0, 0))) (v0 v1 v2 v3 : Value) : ((((w.setCell ⟨g, 0, none⟩ v0).setCell ⟨g, 1, none⟩ v1).setCell ⟨g, 2, none⟩ v2).setCell ⟨g, 3, none⟩ v3).heap[g]? = some (.cells #[v0, v1, v2, v3] 25 (0, 0)) := by
  have := heap_setS (heap_setS (heap_setS (heap_setS h 0 v0) 1 v1) 2 v2) 3 v3
  simpa only [List.setIfInBounds_toArray, List.set_cons_zero, List.set_cons_succ] using this
theorem below4 {n g : Nat} (w : World) (hn : n ≤ g) (v0 v1 v2 v3 : Value) : Below n w ((((w.setCell ⟨g, 0, none⟩ v0).setCell ⟨g, 1, none⟩ v1).setCell ⟨g, 2, none⟩ v2).setCell ⟨g, 3, none⟩ v3) :=
  ((((Below.refl n w).setCell (p := ⟨g, 0, none⟩) hn v0).setCell (p := ⟨g, 1, none⟩) hn v1).setCell (p := ⟨g, 2, none⟩) hn v2).setCell (p := ⟨g, 3, none⟩) hn v3
theorem keep4 {n g : Nat} (w : World) (v0 v1 v2 v3 : Value) : KeepS n g w ((((w.setCell ⟨g, 0, none⟩ v0).setCell ⟨g, 1, none⟩ v1).setCell ⟨g, 2, none⟩ v2).setCell ⟨g, 3, none⟩ v3) := by
  have one : ∀ (w : World) (i : Nat) (v : Value), KeepS n g w (w.setCell ⟨g, i, none⟩ v) := fun w i v => ⟨rfl, rfl, rfl, by simp, fun k _ hk => Below.heap_setCell _ _ _ _ hk⟩
  exact (one _ 0 v0).trans ((one _ 1 v1).trans ((one _ 2 v2).trans (one _ 3 v3)))
theorem cells4 {w : World} {g : Nat} {c0 c1 c2 c3 : Value} (h : w.heap[g]? = some (.cells #[c0, c1, c2, c3] 25 (0, 0))) :
    (w.cell? ⟨g, 0, none⟩ = some c0 ∧ w.cell? ⟨g, 1, none⟩ = some c1 ∧ w.cell? ⟨g, 2, none⟩ = some c2 ∧ w.cell? ⟨g, 3, none⟩ = some c3) ∧
    (w.frozen? ⟨g, 0, none⟩ = false ∧ w.frozen? ⟨g, 1, none⟩ = false ∧ w.frozen? ⟨g, 2, none⟩ = false ∧ w.frozen? ⟨g, 3, none⟩ = false) := by
  refine ⟨⟨?_, ?_, ?_, ?_⟩, Lib.frozen_of_heap h 0, Lib.frozen_of_heap h 1, Lib.frozen_of_heap h 2, Lib.frozen_of_heap h 3⟩ <;> (rw [Lib.cell_of_heap h]; rfl)
/-- The blocks of val: the type, the result, the value that is made. -/
structure ValAt (B s : Nat) (w : World) (kd : Int) (nm : ByteArray) (lo hi : Int) (pat : ByteArray) (p : Value) (T : Nat) (n : Int) (str : ByteArray) (v : Value) (W : World) : Prop where
  st : StAt B s W
  keep : KeepS w.heap.size s w W
  low : w.heap.size + 1 < T
  c5 : W.heap[w.heap.size]? = some (.cells #[.int .i64 kd, .string nm, .int .i64 lo, .int .i64 hi, .string pat, p] 63 (0, 0))
  c8 : W.heap[w.heap.size + 1]? = some (.cells #[.int .i64 0, .int .i64 0, .string ⟨#[]⟩, .slice none 0 0] 25 (0, 0))
  c9 : W.heap[T]? = some (.cells #[.int .i64 kd, .int .i64 n, .string str, v] 25 (0, 0))
section
variable {B s : Nat} {w : World} {kd : Int} {nm : ByteArray} {lo hi : Int} {pat : ByteArray} {p : Value} {T : Nat} {n : Int} {str : ByteArray} {v : Value} {W W' : World}
theorem ValAt.lt (h : ValAt B s w kd nm lo hi pat p T n str v W) : T < W.heap.size := lt_of_block h.c9
theorem ValAt.step (h : ValAt B s w kd nm lo hi pat p T n str v W) (hs : s < w.heap.size) (st : StAt B s W') (k : KeepS W.heap.size s W W') : ValAt B s w kd nm lo hi pat p T n str v W' := by
  have h1 := h.lt
  have h2 := h.low
  exact ⟨st, h.keep.trans (k.mono h.keep.size), h.low, (k.block _ (by omega) (by omega)).trans h.c5, (k.block _ (by omega) (by omega)).trans h.c8, (k.block _ h1 (by omega)).trans h.c9⟩
theorem ValAt.drew (h : ValAt B s w kd nm lo hi pat p T n str v W) : ValAt B s w kd nm lo hi pat p T n str v W.drew :=
  ⟨h.st.keep rfl fun _ _ => rfl, ⟨h.keep.os, h.keep.tape, h.keep.output, h.keep.size, h.keep.block⟩, h.low, h.c5, h.c8, h.c9⟩
theorem ValAt.below (h : ValAt B s w kd nm lo hi pat p T n str v W) (hs : s < w.heap.size) {m : Nat} (hm : T < m) (hb : Below m W W') : ValAt B s w kd nm lo hi pat p T n str v W' := by
  have h2 := h.low
  exact ⟨h.st.below hb (by omega), h.keep.trans (KeepS.of_below (hb.mono (by omega))), h.low, (hb.block _ (by omega)).trans h.c5, (hb.block _ (by omega)).trans h.c8, (hb.block _ hm).trans h.c9⟩
theorem ValAt.setOther (_h : ValAt B s w kd nm lo hi pat p T n str v W) (_hs : s < w.heap.size) (i : Nat) (u : Value) : Below T W (W.setCell ⟨T, i, none⟩ u) := (Below.refl T W).setCell (p := ⟨T, i, none⟩) (Nat.le_refl _) u
theorem ValAt.set (h : ValAt B s w kd nm lo hi pat p T n str v W) (hs : s < w.heap.size) (i : Nat) (u : Value) {n' : Int} {str' : ByteArray} {v' : Value} (hc : (#[Value.int .i64 kd, .int .i64 n, .string str, v] : Array Value).setIfInBounds i u = #[.int .i64 kd, .int .i64 n', .string str', v']) : ValAt B s w kd nm lo hi pat p T n' str' v' (W.setCell ⟨T, i, none⟩ u) := by
  have h2 := h.low
  have hb := h.setOther hs i u
  exact ⟨h.st.below hb (by omega), h.keep.trans (KeepS.of_below (hb.mono (by omega))), h.low, (hb.block _ (by omega)).trans h.c5, (hb.block _ (by omega)).trans h.c8, by rw [heap_setS h.c9 i u, hc]⟩
theorem val_post {d : Nat} (h : ValAt B s w kd nm lo hi pat p T n str v W) (hs : s < w.heap.size) (t : TVal (d + 1)) (ht : IsV (d + 1) (fun k => w.heap.size + 1 < k) W kd n str v t) (hok : OkT (d + 1) t) :
    ValPost d B s w (.returned (.agg #[.int .i64 kd, .int .i64 n, .string str, v])) ((((W.setCell ⟨w.heap.size + 1, 0, none⟩ (.int .i64 kd)).setCell ⟨w.heap.size + 1, 1, none⟩ (.int .i64 n)).setCell ⟨w.heap.size + 1, 2, none⟩ (.string str)).setCell ⟨w.heap.size + 1, 3, none⟩ v) := by
  have hb := below4 (n := w.heap.size + 1) W (Nat.le_refl _) (.int .i64 kd) (.int .i64 n) (.string str) v
  have hk := keep4 (n := W.heap.size) (g := w.heap.size + 1) W (.int .i64 kd) (.int .i64 n) (.string str) v
  refine ⟨⟨t, kd, n, str, v, rfl, (ht.keep hk.size fun k h1 h2 => hk.block k h2 ?_).imp fun k h1 _ => ?_, hok⟩, h.st.below hb (by omega), h.keep.trans (KeepS.of_below (hb.mono (by omega)))⟩
  · have : w.heap.size + 1 < k := h1
    omega
  · have : w.heap.size + 1 < k := h1
    show w.heap.size ≤ k
    omega
theorem val_start (h : StAt B s w) (hb : Below ((w.alloc (.cells #[.int .i64 kd, .string nm, .int .i64 lo, .int .i64 hi, .string pat, p] 63 (0, 0))).alloc (.cells #[.int .i64 0, .int .i64 0, .string ⟨#[]⟩, .slice none 0 0] 25 (0, 0))).heap.size ((w.alloc (.cells #[.int .i64 kd, .string nm, .int .i64 lo, .int .i64 hi, .string pat, p] 63 (0, 0))).alloc (.cells #[.int .i64 0, .int .i64 0, .string ⟨#[]⟩, .slice none 0 0] 25 (0, 0))) W) :
    W.heap[w.heap.size]? = some (.cells #[.int .i64 kd, .string nm, .int .i64 lo, .int .i64 hi, .string pat, p] 63 (0, 0)) ∧
    ValAt B s w kd nm lo hi pat p W.heap.size 0 ⟨#[]⟩ (.slice none 0 0) (((((((W.setCell ⟨w.heap.size, 0, none⟩ (.int .i64 kd)).setCell ⟨w.heap.size, 1, none⟩ (.string nm)).setCell ⟨w.heap.size, 2, none⟩ (.int .i64 lo)).setCell ⟨w.heap.size, 3, none⟩ (.int .i64 hi)).setCell ⟨w.heap.size, 4, none⟩ (.string pat)).setCell ⟨w.heap.size, 5, none⟩ p).alloc (.cells #[.int .i64 kd, .int .i64 0, .string ⟨#[]⟩, .slice none 0 0] 25 (0, 0))) := by
  have hz := hb.size
  simp only [World.size_alloc] at hz
  have e5 : W.heap[w.heap.size]? = some (.cells #[.int .i64 kd, .string nm, .int .i64 lo, .int .i64 hi, .string pat, p] 63 (0, 0)) := (hb.block _ (by simp; omega)).trans (pair1 w _ _)
  have e8 : W.heap[w.heap.size + 1]? = some (.cells #[.int .i64 0, .int .i64 0, .string ⟨#[]⟩, .slice none 0 0] 25 (0, 0)) := (hb.block _ (by simp)).trans (pair2 w _ _)
  have s6 := set6 e5 (.int .i64 kd) (.string nm) (.int .i64 lo) (.int .i64 hi) (.string pat) p
  have b6 := below6 (n := w.heap.size) W (Nat.le_refl _) (.int .i64 kd) (.string nm) (.int .i64 lo) (.int .i64 hi) (.string pat) p
  have k6 := keep6 (n := W.heap.size) (g := w.heap.size) W (.int .i64 kd) (.string nm) (.int .i64 lo) (.int .i64 hi) (.string pat) p
  have hsz : ((((((W.setCell ⟨w.heap.size, 0, none⟩ (.int .i64 kd)).setCell ⟨w.heap.size, 1, none⟩ (.string nm)).setCell ⟨w.heap.size, 2, none⟩ (.int .i64 lo)).setCell ⟨w.heap.size, 3, none⟩ (.int .i64 hi)).setCell ⟨w.heap.size, 4, none⟩ (.string pat)).setCell ⟨w.heap.size, 5, none⟩ p).heap.size = W.heap.size := by simp
  generalize ((((((W.setCell ⟨w.heap.size, 0, none⟩ (.int .i64 kd)).setCell ⟨w.heap.size, 1, none⟩ (.string nm)).setCell ⟨w.heap.size, 2, none⟩ (.int .i64 lo)).setCell ⟨w.heap.size, 3, none⟩ (.int .i64 hi)).setCell ⟨w.heap.size, 4, none⟩ (.string pat)).setCell ⟨w.heap.size, 5, none⟩ p) = W2 at *
  have hsl := h.lt
  have bw : Below w.heap.size w W := (((Below.refl w.heap.size w).alloc (Nat.le_refl _) _).alloc (by simp) _).trans (hb.mono (by simp; omega))
  have bal := (Below.refl W2.heap.size W2).alloc (Nat.le_refl _) (.cells #[.int .i64 kd, .int .i64 0, .string ⟨#[]⟩, .slice none 0 0] 25 (0, 0))
  have b8 : Below w.heap.size w (W2.alloc (.cells #[.int .i64 kd, .int .i64 0, .string ⟨#[]⟩, .slice none 0 0] 25 (0, 0))) := (bw.trans b6).trans (bal.mono (by omega))
  refine ⟨e5, ⟨h.below b8 hsl, KeepS.of_below b8, by omega, (bal.block _ (by omega)).trans s6, (bal.block _ (by omega)).trans ((k6.block _ (by omega) (by omega)).trans e8), ?_⟩⟩
  rw [← hsz]
  exact heap_alloc_new W2 _
end

end Go.Proofs.Ytkcpnehhcpmdgaa
