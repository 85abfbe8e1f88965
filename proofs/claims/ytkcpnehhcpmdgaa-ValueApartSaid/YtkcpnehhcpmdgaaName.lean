/- value.Name of names of small letters; no condition beyond those that stand there. -/
import Derived.Lib.ConvBytes
import Derived.Test.YtkcpnehhcpmdgaaSpoil
namespace Go.Proofs.Ytkcpnehhcpmdgaa
open Go.RowKit

theorem below_bytesW (w : World) (e : TypeId) (s : ByteArray) : Below w.heap.size w (Lib.bytesWorld w e s) :=
  ⟨rfl, rfl, rfl, by rw [Lib.bytesWorld_size]; omega, fun k hk => Lib.bytesWorld_at_old w e s k hk⟩
set_option maxRecDepth 100000 in
set_option maxHeartbeats 1000000 in
theorem name_any (t : ByteArray) (h1 : 1 ≤ t.size) (h16 : t.size ≤ 16) (hb : ∀ i, i < t.size → 97 ≤ (t.data.toList.getD i 0).toNat ∧ (t.data.toList.getD i 0).toNat ≤ 122) (w : World) :
    Calls Try.prog 77 #[.string t] w fun e w' => e = .returned (.bool true) ∧ Below w.heap.size w w' := by
  have hcv := fun W => Lib.run_convert_string_bytes (P := Try.prog) W 9 90 5 t Try.underlying9 Try.underlying90 Try.underlying5
  have te : t.toList.isEmpty = false := by
    rw [ByteArray.toList_eq]
    cases hl : t.data.toList with
    | nil =>
      have : t.data.toList.length = t.size := by simp
      rw [hl] at this
      exact absurd this (by simp; omega)
    | cons _ _ => rfl
  have tb : ∀ h : 0 < t.size, 97 ≤ ((t[0]'h).toNat : Int) ∧ ((t[0]'h).toNat : Int) ≤ 122 := fun h => by
    have h3 : t.data.toList.getD 0 0 = t[0]'h := by simp [List.getD, h]; rfl
    have := hb 0 h
    rw [h3] at this
    omega
  have t0 : decide (16 < (t.size : Int)) = false := decide_eq_false (by omega)
  have t1 : decide (((t[0]'(by omega)).toNat : Int) < 97) = false := decide_eq_false (by have := tb (by omega); omega)
  have t2 : decide (122 < ((t[0]'(by omega)).toNat : Int)) = false := decide_eq_false (by have := tb (by omega); omega)
  have h0 : 0 < t.size := by omega
  have t3 : ((t[0]'(by omega)).toNat : Int) ≤ 122 := (tb h0).2
  have HB := Lib.hid hb
  clear hb tb
  go_enter Try.func77, Try.ntmps77
  go_wp2_with fail
  have hcell := fun (k : Nat) (hk : k < t.size) => Lib.bytesWorld_cell w 5 t k hk
  have hbb := below_bytesW w 5 t
  generalize Lib.bytesWorld w 5 t = w2 at *
  generalize grownCap w t.size 0 5 = cp
  have HC := Lib.hid (And.intro hcell hbb)
  have hz2 : w.heap.size < w2.heap.size := by
    obtain ⟨o, h⟩ : ∃ o, w2.heap[w.heap.size]? = some o := by
      have := hcell 0 h0
      unfold World.cell? at this
      split at this
      · exact ⟨_, by assumption⟩
      · cases this
    exact lt_of_block h
  clear hcell hbb hcv t0 t1 t2 t3 te
  go_loopw [25] (fun iv wr => ∃ i : Nat, iv = .int .i64 i ∧ i ≤ t.size ∧ wr = w2) (fun iv _ => t.size - (intOf iv).toNat)
  case atStart => exact ⟨0, rfl, Nat.zero_le _, rfl⟩
  case round =>
    obtain ⟨i, rfl, hi, rfl⟩ := hrel
    by_cases hlt : i < t.size
    · have ti : (i : Int) < (t.size : Int) := by omega
      have wi : IntKind.i64.wrap ((i : Int) + 1) = (i : Int) + 1 := IntWalk.i64_in _ ⟨by omega, by omega⟩
      have hc := HC.out.1 i hlt
      obtain ⟨hx1, hx2⟩ := HB.out i hlt
      generalize (t.data.toList.getD i 0).toNat = x at *
      have tx1 : (97 : Int) ≤ (x : Int) := by omega
      have tx2 : (x : Int) ≤ 122 := by omega
      have tx3 : decide ((97 : Int) ≤ (x : Int)) = true := decide_eq_true tx1
      have tx4 : decide ((x : Int) ≤ 122) = true := decide_eq_true tx2
      go_wp2_with fail
      exact ⟨⟨i + 1, by simp, by omega, by simp⟩, by simp [intOf]; omega⟩
    · have ti : decide ((i : Int) < (t.size : Int)) = false := decide_eq_false (by omega)
      go_wp2_with fail
      go_ret
      exact ⟨rfl, HC.out.2⟩

end Go.Proofs.Ytkcpnehhcpmdgaa
