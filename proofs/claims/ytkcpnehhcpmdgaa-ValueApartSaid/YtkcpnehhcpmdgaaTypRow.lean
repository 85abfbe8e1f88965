/- The rows of parts that clapmake.typ makes; no condition beyond those that stand there. -/
import Derived.Deep.RegionLaw
import Derived.Deep.AppendLies
import Derived.Test.YtkcpnehhcpmdgaaType
namespace Go.Proofs.Ytkcpnehhcpmdgaa
open Go.RowKit

def TypPost (d B s : Nat) (w : World) (e : Ending) (w' : World) : Prop := (∃ kd nm lo hi pat a l c, e = .returned (tyV kd nm lo hi pat (.slice a l c)) ∧ TyOk d w.heap.size w' kd lo hi pat (.slice a l c)) ∧ StAt B s w' ∧ KeepS w.heap.size s w w'
def TypSaid (d : Nat) : Prop := ∀ (B s : Nat) (w : World), StAt B s w → Calls Try.prog 32 #[.slice none 0 0, .pointer (some ⟨s, 0, none⟩), .int .i64 d] w (TypPost d B s w)
/-- What is known within typ. -/
structure TypAt (B s : Nat) (w W : World) : Prop where
  st : StAt B s W
  keep : KeepS w.heap.size s w W
  cell : W.heap[w.heap.size]? = some (.cells #[.int .i64 0, .string ⟨#[]⟩, .int .i64 0, .int .i64 0, .string ⟨#[]⟩, .slice none 0 0] 63 (0, 0))
theorem TypAt.step {B s : Nat} {w W W' : World} (h : TypAt B s w W) (hs : s < w.heap.size) (st : StAt B s W') (k : KeepS W.heap.size s W W') : TypAt B s w W' :=
  ⟨st, h.keep.trans (k.mono h.keep.size), (k.block _ (lt_of_block h.cell) (by omega)).trans h.cell⟩
theorem TypAt.below {B s : Nat} {w W W' : World} (h : TypAt B s w W) (hb : Below W.heap.size W W') : TypAt B s w W' :=
  ⟨h.st.below hb h.st.lt, h.keep.trans (KeepS.of_below (hb.mono h.keep.size)), (hb.block _ (lt_of_block h.cell)).trans h.cell⟩
theorem TypAt.below2 {B s n : Nat} {w W W' : World} (h : TypAt B s w W) (hn : w.heap.size < n) (hb : Below n W W') (hs : s < w.heap.size) : TypAt B s w W' :=
  ⟨h.st.below hb (by omega), h.keep.trans (KeepS.of_below (hb.mono (by omega))), (hb.block _ hn).trans h.cell⟩
theorem TypAt.lt {B s : Nat} {w W : World} (h : TypAt B s w W) : w.heap.size < W.heap.size := lt_of_block h.cell
theorem TypAt.drewN {B s : Nat} {w W : World} (h : TypAt B s w W) (q : Nat) : TypAt B s w (W.drewN q) := ⟨h.st.keep rfl fun _ _ => rfl, ⟨h.keep.os, h.keep.tape, h.keep.output, h.keep.size, h.keep.block⟩, h.cell⟩
theorem typ_post {d B s : Nat} {w W : World} (h : TypAt B s w W) (hs : s < w.heap.size) (kd : Int) (nm : ByteArray) (lo hi : Int) (pat : ByteArray) (a : Option Addr) (l c : Nat) (ht : TyOk d (w.heap.size + 1) W kd lo hi pat (.slice a l c)) :
    TypPost d B s w (.returned (.agg #[.int .i64 kd, .string nm, .int .i64 lo, .int .i64 hi, .string pat, .slice a l c])) ((((((W.setCell ⟨w.heap.size, 0, none⟩ (.int .i64 kd)).setCell ⟨w.heap.size, 1, none⟩ (.string nm)).setCell ⟨w.heap.size, 2, none⟩ (.int .i64 lo)).setCell ⟨w.heap.size, 3, none⟩ (.int .i64 hi)).setCell ⟨w.heap.size, 4, none⟩ (.string pat)).setCell ⟨w.heap.size, 5, none⟩ (.slice a l c)) := by
  have hb := below6 (n := w.heap.size) W (Nat.le_refl _) (.int .i64 kd) (.string nm) (.int .i64 lo) (.int .i64 hi) (.string pat) (.slice a l c)
  have hk := keep6 (n := W.heap.size) (g := w.heap.size) W (.int .i64 kd) (.string nm) (.int .i64 lo) (.int .i64 hi) (.string pat) (.slice a l c)
  exact ⟨⟨kd, nm, lo, hi, pat, a, l, c, rfl, (ht.keepS (Nat.lt_succ_self _) (Nat.le_refl _) hk).mono (Nat.le_succ _)⟩, h.st.below hb hs, h.keep.trans (KeepS.of_below hb)⟩
/-- A step of append in a region that draws. -/
theorem step_append_el {e : TypeId} {k : Nat} (he : Elem e k) {ops : Array Oper} {o : Oper} {a : Act} {w : World} {K : Act → World → Prop} {Q : Exit → Act → World → Prop} {E : Prop} (hgd : o.guard = none) (s x : Operand) (t : TypeId)
    (ho : o.op = .call { callee := .builtin .append, args := #[s, x], argTypes := #[t, t] }) (ht : Try.prog.underlying t = some (.slice e)) (base : Nat)
    (v : Value) (n : Nat) (xs : List Value) (hs : a.eval s = v) (hrow : w.ownsRow base e k v n xs) (hl : n ≤ 1000)
    (q c : Nat) (news : List Value) (hx : a.eval x = .slice (some ⟨q, 0, none⟩) 1 c) (hm : news.length = k) (hq : w.heap[q]? = some (.cells news.toArray e (0, 0))) (h1 : ∀ u ∈ news, u.oneCell' = true) (hbase : base ≤ w.heap.size)
    (h : ∀ g cap w', w'.ownsRow base e k (.slice (some ⟨g, 0, none⟩) (n + 1) cap) (n + 1) (xs ++ news) → w.grownBy w' v.ownBlock → (v.ownBlock = some g ∨ g = w.heap.size) → K (a.put o.dst (.slice (some ⟨g, 0, none⟩) (n + 1) cap)) w') : if Region.wanted o (yielded ops a.tmps) = true then Oper.wp Try.prog o a w K Q else E := by
  obtain ⟨i0, z, b, hi0, hz0, hz1, hz2, hz3, hk, hb⟩ := he
  refine step_append_lies _ hgd s x t ho base e i0 _ k b ht hi0 hz0 hz1 hz2 hz3 hk v n xs hs hrow ⟨q, 0, none⟩ 1 c news hx (by omega) ?_ h1 (by decide) (by unfold maxLen; omega) ?_ hbase w.heap.size rfl ?_
  · intro j u hj
    have hadd : (⟨q, 0, none⟩ : Addr).add j = ⟨q, j, none⟩ := by unfold Addr.add; split <;> simp_all
    rw [hadd, Lib.cell_of_heap hq]
    simpa using hj
  · have : (n + 1) * b ≤ 1001 * 1000 := Nat.mul_le_mul (by omega) hb
    omega
  · intro g cap w' h2 h3 h4 _
    exact h g cap w' h2 h3 h4
theorem letter_in {i : Nat} {nm : ByteArray} (h : letters[i]? = some nm) (hi : i < 3) : nm ∈ [sNone, sSome, ⟨#[97]⟩, ⟨#[98]⟩, ⟨#[99]⟩] := by
  rcases (show i = 0 ∨ i = 1 ∨ i = 2 by omega) with rfl | rfl | rfl <;> (simp [letters] at h; subst h; simp)
/-- Block T holds a type whose parts are being made. -/
structure TyRow (B s T d : Nat) (kd : Int) (w : World) (i : Nat) (v : Value) (xs : List Value) (W : World) : Prop where
  at_ : TypAt B s w W
  low : w.heap.size < T
  cell : W.heap[T]? = some (.cells #[.int .i64 kd, .string ⟨#[]⟩, .int .i64 0, .int .i64 0, .string ⟨#[]⟩, v] 63 (0, 0))
  row : W.ownsRow (T + 1) 89 7 v i xs
  parts : ∀ j, j < i → PartOk d (fun k => T + 1 ≤ k ∧ v.ownBlock ≠ some k) W kd j xs
theorem TyRow.lt {B s T d : Nat} {kd : Int} {w : World} {i : Nat} {v : Value} {xs : List Value} {W : World} (h : TyRow B s T d kd w i v xs W) : T < W.heap.size := lt_of_block h.cell
theorem TyRow.drewN {B s T d : Nat} {kd : Int} {w : World} {i : Nat} {v : Value} {xs : List Value} {W : World} (h : TyRow B s T d kd w i v xs W) (q : Nat) : TyRow B s T d kd w i v xs (W.drewN q) :=
  ⟨h.at_.drewN q, h.low, h.cell, h.row, fun j hj => (h.parts j hj).keep (Nat.le_refl _) fun _ _ _ => rfl⟩
theorem TyRow.drew {B s T d : Nat} {kd : Int} {w : World} {i : Nat} {v : Value} {xs : List Value} {W : World} (h : TyRow B s T d kd w i v xs W) : TyRow B s T d kd w i v xs W.drew :=
  ⟨⟨h.at_.st.keep rfl fun _ _ => rfl, ⟨h.at_.keep.os, h.at_.keep.tape, h.at_.keep.output, h.at_.keep.size, h.at_.keep.block⟩, h.at_.cell⟩, h.low, h.cell, h.row, fun j hj => (h.parts j hj).keep (Nat.le_refl _) fun _ _ _ => rfl⟩
theorem TyRow.step {B s T d : Nat} {kd : Int} {w : World} {i : Nat} {v : Value} {xs : List Value} {W W' : World} (h : TyRow B s T d kd w i v xs W) (hs : s < w.heap.size) (st : StAt B s W') (k : KeepS W.heap.size s W W') : TyRow B s T d kd w i v xs W' := by
  have hl := h.lt
  have hw := h.low
  refine ⟨h.at_.step hs st k, h.low, (k.block _ hl (by omega)).trans h.cell, row_keep h.row fun g hg => ?_, fun j hj => (h.parts j hj).keep k.size fun q h1 h2 => k.block q h2 (by omega)⟩
  have := World.ownsRow.lt h.row g hg
  exact k.block g this.2 (by omega)
theorem TyRow.app {B s T d : Nat} {kd : Int} {w : World} {i : Nat} {v : Value} {xs : List Value} {W W7 : World} (h : TyRow B s T d kd w i v xs W) (hs : s < w.heap.size) (o : Obj) (nm : ByteArray) (kd' : Int) (nm' : ByteArray) (lo hi : Int) (pat : ByteArray) (p : Value) (hps : ∃ a l c, p = Value.slice a l c) (g cap : Nat) (hnm : NameOk kd i nm) (C : Nat) (hC : T < C) (hvC : ∀ k, v.ownBlock = some k → k < C) (ht : TyOk d C W kd' lo hi pat p)
    (hrow : W7.ownsRow (T + 1) 89 7 (.slice (some ⟨g, 0, none⟩) (i + 1) cap) (i + 1) (xs ++ partCells nm kd' nm' lo hi pat p)) (hg : (W.alloc o).grownBy W7 v.ownBlock) (hv : v.ownBlock = some g ∨ W.heap.size ≤ g) :
    TyRow B s T d kd w (i + 1) (.slice (some ⟨g, 0, none⟩) (i + 1) cap) (xs ++ partCells nm kd' nm' lo hi pat p) (W7.setCell ⟨T, 5, none⟩ (.slice (some ⟨g, 0, none⟩) (i + 1) cap)) := by
  obtain ⟨v', hv'⟩ : ∃ v', v' = Value.slice (some ⟨g, 0, none⟩) (i + 1) cap := ⟨_, rfl⟩
  have hvb : v'.ownBlock = some g := by rw [hv']; rfl
  rw [← hv'] at hrow ⊢
  have hl := h.lt
  have hlo := h.low
  have hbT : Below (T + 1) W W7 := ((Below.refl _ W).alloc (by omega) o).grown hg (by simp; omega) (fun k hk => (World.ownsRow.lt (h.row.alloc o) k hk).1)
  have hb6 : Below T W (W7.setCell ⟨T, 5, none⟩ v') := (hbT.mono (Nat.le_succ T)).setCell (p := ⟨T, 5, none⟩) (Nat.le_refl _) v'
  have hcell := heap_setS ((hbT.block T (by omega)).trans h.cell) 5 v'
  have hblk : ∀ k, k < W.heap.size → v.ownBlock ≠ some k → W7.heap[k]? = W.heap[k]? := fun k h1 h2 => by
    rw [hg.block k (by simp; omega) (fun e => h2 e.symm), heap_alloc_old W o h1]
  have hz7 := hbT.size
  have hpw : ∀ k, T + 1 ≤ k → k < W.heap.size → v.ownBlock ≠ some k → (W7.setCell ⟨T, 5, none⟩ v').heap[k]? = W.heap[k]? := fun k h1 h2 h3 => by
    rw [Below.heap_setCell _ _ _ _ (show k ≠ T by omega), hblk k h2 h3]
  have hS : ∀ k, T + 1 ≤ k → k < W.heap.size → v.ownBlock ≠ some k → v'.ownBlock ≠ some k := fun k h1 h2 h3 => by
    rw [hvb]
    rcases hv with e | e
    · rw [← e]; exact h3
    · intro e2; injection e2; omega
  refine ⟨h.at_.below2 hlo hb6 hs, hlo, ?_, row_keep hrow fun g hg2 => ?_, fun j hj => ?_⟩
  · simpa only [List.setIfInBounds_toArray, List.set_cons_zero, List.set_cons_succ] using hcell
  · have := World.ownsRow.lt hrow g hg2
    exact Below.heap_setCell _ _ _ _ (show g ≠ T by omega)
  · have hkd := TyIn.kind ht
    rcases Nat.lt_or_ge j i with h1 | h1
    · refine (((h.parts j h1).imp (S' := fun k => (T + 1 ≤ k ∧ v'.ownBlock ≠ some k) ∧ v.ownBlock ≠ some k ∧ k < W.heap.size) fun k e1 e2 => ⟨⟨e1.1, hS k e1.1 e2 e1.2⟩, e1.2, e2⟩).keep (by simpa using hz7) fun k e1 e2 => hpw k e1.1.1 e2 e1.2.1).imp (fun k e1 _ => e1.1) |>.app
    · obtain rfl : j = i := by omega
      refine PartOk.last (by have := h.row.1; omega) nm kd' nm' lo hi pat p hnm (by omega) ?_ hps
      refine ((TyIn.imp (S' := fun k => (T + 1 ≤ k ∧ v'.ownBlock ≠ some k) ∧ v.ownBlock ≠ some k) ht fun k e1 e2 => ?_).keep (by simpa using hz7) fun k e1 e2 => hpw k e1.1.1 e2 e1.2).imp (fun k e1 _ => e1.1)
      have e3 : v.ownBlock ≠ some k := fun e => by have := hvC k e; omega
      exact ⟨⟨by omega, hS k (by omega) e2 e3⟩, e3⟩

end Go.Proofs.Ytkcpnehhcpmdgaa
