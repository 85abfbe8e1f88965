/- clapmake's sampler of a pattern: its state, and its byte; no condition beyond those that stand there. -/
import Derived.Test.YtkcpnehhcpmdgaaResolve
namespace Go.Proofs.Ytkcpnehhcpmdgaa
open Go.RowKit

/-- Block x holds a sampler of the pattern P that stands at i, with the stream s. -/
structure SmAt (B s x : Nat) (P : ByteArray) (i : Nat) (w : World) : Prop where
  low : B ≤ x
  ne : x ≠ s
  heap : w.heap[x]? = some (.cells #[.string P, .int .i64 i, .pointer (some ⟨s, 0, none⟩)] 106 (0, 0))
theorem SmAt.cells {B s x : Nat} {P : ByteArray} {i : Nat} {w : World} (h : SmAt B s x P i w) : w.cell? ⟨x, 0, none⟩ = some (.string P) ∧ w.cell? ⟨x, 1, none⟩ = some (.int .i64 i) ∧ w.cell? ⟨x, 2, none⟩ = some (.pointer (some ⟨s, 0, none⟩)) ∧ ∀ k, w.frozen? ⟨x, k, none⟩ = false :=
  ⟨by rw [Lib.cell_of_heap h.heap]; rfl, by rw [Lib.cell_of_heap h.heap]; rfl, by rw [Lib.cell_of_heap h.heap]; rfl, fun k => Lib.frozen_of_heap h.heap k⟩
theorem SmAt.set {B s x : Nat} {P : ByteArray} {i : Nat} {w : World} (h : SmAt B s x P i w) (j : Nat) : SmAt B s x P j (w.setCell ⟨x, 1, none⟩ (.int .i64 j)) :=
  ⟨h.low, h.ne, heap_setS h.heap 1 (.int .i64 j)⟩
theorem SmAt.lt {B s x : Nat} {P : ByteArray} {i : Nat} {w : World} (h : SmAt B s x P i w) : x < w.heap.size := lt_of_block h.heap
theorem KeepS.setx {n x : Nat} {w : World} (v : Value) : KeepS n x w (w.setCell ⟨x, 1, none⟩ v) := ⟨rfl, rfl, rfl, by simp, fun k _ hk => Below.heap_setCell _ _ _ _ hk⟩

set_option maxRecDepth 100000 in
set_option maxHeartbeats 4000000 in
theorem smbyte_any (B s x : Nat) (P : ByteArray) (i : Nat) (hi : i < P.size) (hP : P.size ≤ 1000) (c : UInt8) (hc : P[i] = c) (hne : c.toNat ≠ 92) (w : World) (h : SmAt B s x P i w) :
    Calls Try.prog 99 #[.pointer (some ⟨x, 0, none⟩)] w fun e w' => e = .returned (.int .u8 c.toNat) ∧ SmAt B s x P (i + 1) w' ∧ KeepS w.heap.size x w w' := by
  obtain ⟨c0, c1, c2, f⟩ := h.cells
  have f1 := f 1
  have wi : IntKind.i64.wrap ((i : Int) + 1) = (i : Int) + 1 := IntWalk.i64_in _ ⟨by omega, by omega⟩
  have wk : IntKind.i64.wrap ((i : Int) + 1 - 1) = (i : Int) := by rw [IntWalk.i64_in _ ⟨by omega, by omega⟩]; omega
  have hq : ((P[i].toNat : Int) == 92) = false := by rw [hc, beq_eq_false_iff_ne]; omega
  have HC := Lib.hid hc
  have HS := Lib.hid h
  clear f h hc
  go_enter Try.func99, Try.ntmps99
  go_wp2_with fail
  go_quiet (fail)
  go_wp2_with fail
  go_quiet (fail)
  go_wp2_with fail
  go_ret
  have hs := HS.out.set (i + 1)
  rw [show (((i + 1 : Nat)) : Int) = (i : Int) + 1 from rfl] at hs
  exact ⟨by rw [← HC.out]; rfl, ⟨hs.low, hs.ne, hs.heap⟩, ⟨rfl, rfl, rfl, by simp, fun k h1 h2 => (KeepS.setx (n := w.heap.size) (x := x) (w := w) (.int .i64 ((i : Int) + 1))).block k h1 h2⟩⟩

end Go.Proofs.Ytkcpnehhcpmdgaa
