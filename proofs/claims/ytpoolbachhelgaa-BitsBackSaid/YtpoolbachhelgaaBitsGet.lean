/- The contract of bits.Get. -/
import Derived.Test.YtpoolbachhelgaaBitsPut
namespace Go.Proofs.Ytpoolbachhelgaa
open Go.RowKit

/-- What is read of a field of u in i steps. -/
def got (u width : Nat) (low : Bool) (i : Nat) : Nat := if low then u % 2 ^ i else u / 2 ^ (width - i)
theorem got_low (u width i : Nat) : got u width true (i + 1) = got u width true i + fbit u width true i * 2 ^ i := by
  unfold got fbit
  simp only [if_true]
  rw [Nat.pow_succ, Nat.mod_mul, Nat.mul_comm]
theorem got_high (u width i : Nat) (h : i < width) : got u width false (i + 1) = 2 * got u width false i + fbit u width false i := by
  unfold got fbit
  simp only [Bool.false_eq_true, if_false]
  have e : width - i = (width - 1 - i) + 1 := by omega
  rw [e, show width - (i + 1) = width - 1 - i from by omega, Nat.pow_succ, ← Nat.div_div_eq_div_mul]
  omega
theorem got_zero (u width : Nat) (low : Bool) (hu : u < 2 ^ width) : got u width low 0 = 0 := by
  unfold got
  cases low
  · simp; exact hu
  · simp; omega
theorem got_all (u width : Nat) (low : Bool) (hu : u < 2 ^ width) : got u width low width = u := by
  unfold got
  cases low
  · simp
  · simp; exact Nat.mod_eq_of_lt hu
theorem got_low_lt (u width i : Nat) : got u width true i < 2 ^ i := by
  unfold got
  simp only [if_true]
  exact Nat.mod_lt _ (Nat.two_pow_pos i)
theorem got_high_lt (u width i : Nat) (hu : u < 2 ^ width) (h : i ≤ width) : got u width false i < 2 ^ i := by
  unfold got
  simp only [Bool.false_eq_true, if_false]
  rw [Nat.div_lt_iff_lt_mul (Nat.two_pow_pos _), ← Nat.pow_add]
  rw [show i + (width - i) = width from by omega]; exact hu
theorem or_comm (x y : Int) : Go.bits .or .i64 x y = Go.bits .or .i64 y x := by
  show IntKind.i64.wrap ((BitVec.ofInt 64 x ||| BitVec.ofInt 64 y).toNat : Nat) = IntKind.i64.wrap ((BitVec.ofInt 64 y ||| BitVec.ofInt 64 x).toNat : Nat)
  rw [BitVec.or_comm]
theorem low_word (n b i : Nat) (hb : b ≤ 1) (hi : i ≤ 62) (hn : n < 2 ^ i) : IntKind.i64.wrap ((b : Int) * 2 ^ i) = ((b * 2 ^ i : Nat) : Int) ∧ Go.bits .or .i64 (n : Int) ((b * 2 ^ i : Nat) : Int) = ((n + b * 2 ^ i : Nat) : Int) := by
  have hp : ((2 ^ i : Nat) : Int) = (2 : Int) ^ i := by simp
  have hle : 2 ^ i ≤ 2 ^ 62 := Nat.pow_le_pow_right (by decide) hi
  have e1 : (b : Int) * 2 ^ i = ((b * 2 ^ i : Nat) : Int) := by rw [← hp]; simp
  have hm : b * 2 ^ i ≤ 2 ^ i := by
    rcases (show b = 0 ∨ b = 1 by omega) with rfl | rfl <;> simp
  have hd : ((b * 2 ^ i : Nat) : Int) % 2 ^ i = 0 := by rw [← e1]; exact Int.mul_emod_left _ _
  refine ⟨?_, ?_⟩
  · rw [e1]; exact IntWalk.i64_in _ ⟨by omega, by omega⟩
  · rw [or_comm, i64_join _ _ i (by omega) (by omega) (by omega) hd (by omega) (by rw [← hp]; exact Int.ofNat_lt.mpr hn)]
    omega
theorem high_word (n b i : Nat) (hb : b ≤ 1) (hi : i ≤ 62) (hn : n < 2 ^ i) : IntKind.i64.wrap ((n : Int) * 2) = ((2 * n : Nat) : Int) ∧ Go.bits .or .i64 ((2 * n : Nat) : Int) (b : Int) = ((2 * n + b : Nat) : Int) := by
  have hle : 2 ^ i ≤ 2 ^ 62 := Nat.pow_le_pow_right (by decide) hi
  refine ⟨?_, ?_⟩
  · rw [IntWalk.i64_in _ ⟨by omega, by omega⟩]; omega
  · rw [i64_join _ _ 1 (by omega) (by omega) (by omega) (by omega) (by omega) (by omega)]
    omega

def GetRel (u width : Nat) (low : Bool) (w : World) (nv iv : Value) (wr : World) : Prop :=
  ∃ i : Nat, i ≤ width ∧ iv = .int .i64 i ∧ nv = .int .i64 (got u width low i : Nat) ∧ Below w.heap.size w wr
theorem GetRel.low {u width : Nat} {w wr w1 : World} {i : Nat} (h : i < width) (h1 : Below w.heap.size w wr) (h2 : Below wr.heap.size wr w1) : GetRel u width true w (.int .i64 (got u width true i + fbit u width true i * 2 ^ i : Nat)) (.int .i64 ((i : Int) + 1)) w1 :=
  ⟨i + 1, h, rfl, by rw [got_low], h1.trans (h2.mono h1.size)⟩
theorem GetRel.high {u width : Nat} {w wr w1 : World} {i : Nat} (h : i < width) (h1 : Below w.heap.size w wr) (h2 : Below wr.heap.size wr w1) : GetRel u width false w (.int .i64 (2 * got u width false i + fbit u width false i : Nat)) (.int .i64 ((i : Int) + 1)) w1 :=
  ⟨i + 1, h, rfl, by rw [got_high _ _ _ h], h1.trans (h2.mono h1.size)⟩

set_option maxRecDepth 100000 in
set_option maxHeartbeats 1000000 in
theorem get_any (v : Value) (bs : List Nat) (hbin : Bin bs) (a u width : Nat) (low : Bool) (h1 : 1 ≤ width) (h2 : width ≤ 63) (hu : u < 2 ^ width) (hlen : bs.length ≤ 64000) (hat : a + width ≤ bs.length) (hf : ∀ i, i < width → bs.getD (a + i) 0 = fbit u width low i) (w : World) (h : BitsV w v bs) :
    Calls Try.prog 35 #[v, .int .i64 a, .int .i64 width, .bool low] w fun e w' => e = .returned (.tuple #[.int .i64 u, .int .i64 0]) ∧ Below w.heap.size w w' := by
  have HC := Lib.hid (fun w1 (hb : Below w.heap.size w w1) => check_any v bs hbin (by omega) w1 (h.below hb))
  have HB := Lib.hid (fun (i : Nat) (hi : i < width) w1 (hb : Below w.heap.size w w1) => bit_any v bs hbin hlen (a + i) (by omega) w1 (h.below hb))
  have HF := Lib.hid hf
  have HU := Lib.hid hu
  obtain ⟨sv, rfl, h⟩ := h
  have tw1 : decide ((width : Int) < 1) = false := decide_eq_false (by omega)
  have tw2 : decide (63 < (width : Int)) = false := decide_eq_false (by omega)
  have tw3 : decide ((a : Int) < 0) = false := decide_eq_false (by omega)
  have tw4 : decide ((bs.length : Int) - (width : Int) < (a : Int)) = false := decide_eq_false (by omega)
  have hwr : IntKind.i64.wrap ((bs.length : Int) - (width : Int)) = (bs.length : Int) - (width : Int) := IntWalk.i64_in _ ⟨by omega, by omega⟩
  clear h hf hu
  go_enter Try.func35, Try.ntmps35
  go_wp2_with fail
  refine (HC.out _ (by go_grown)).mono ?_; rintro e w1 ⟨rfl, b1⟩
  have bw : Below w.heap.size w w1 := (show Below w.heap.size w _ from by go_grown).trans (b1.mono (by simp))
  have hs1 : w.heap.size + 1 ≤ w1.heap.size := by have := b1.size; simpa using this
  have k0 : w1.heap[w.heap.size]? = some (.cells #[sv, .int .i64 bs.length] 54 (0, 0)) := (b1.block _ (by simp)).trans (alloc_at _ _)
  have c0 : w1.cell? ⟨w.heap.size, 0, none⟩ = some sv := by rw [Lib.cell_of_heap k0]; rfl
  have c1 : w1.cell? ⟨w.heap.size, 1, none⟩ = some (.int .i64 bs.length) := by rw [Lib.cell_of_heap k0]; rfl
  have HK := Lib.hid (And.intro bw hs1)
  clear k0 b1 bw hs1
  go_wp2_with fail
  go_loopw [11, 37] (fun nv iv wr => GetRel u width low w1 nv iv wr) (fun _ iv _ => width - (intOf iv).toNat)
  case atStart => exact ⟨0, by omega, rfl, by rw [got_zero u width low HU.out]; rfl, Below.refl _ _⟩
  case round =>
    obtain ⟨i, hi, rfl, rfl, hb⟩ := hrel
    have l0 : w.heap.size < w1.heap.size := HK.out.2
    have d0 : wr.cell? ⟨w.heap.size, 0, none⟩ = some sv := by rw [hb.cell l0]; exact c0
    have d1 : wr.cell? ⟨w.heap.size, 1, none⟩ = some (.int .i64 bs.length) := by rw [hb.cell l0]; exact c1
    by_cases hlt : i < width
    · have hx1 : fbit u width low i ≤ 1 := by unfold fbit; omega
      have ti : (i : Int) < (width : Int) := by omega
      have ws : IntKind.i64.wrap ((a : Int) + (i : Int)) = ((a + i : Nat) : Int) := by rw [IntWalk.i64_in _ ⟨by omega, by omega⟩]; omega
      have hbw : Below w.heap.size w wr := HK.out.1.trans (hb.mono (by omega))
      cases hlow : low
      · subst hlow
        obtain ⟨w6, w7⟩ := high_word (got u width false i) (fbit u width false i) i hx1 (by omega) (got_high_lt u width i HU.out hi)
        have HG := Lib.hid (fun wr' w' (k1 : Below w1.heap.size w1 wr') (k2 : Below wr'.heap.size wr' w') => GetRel.high (u := u) hlt k1 k2)
        have HB1 := HB.out i hlt wr hbw
        rw [HF.out i hlt] at HB1
        generalize got u width false i = n at *
        generalize fbit u width false i = fb at *
        go_wp2_with fail
        refine HB1.mono ?_; rintro e w3 ⟨rfl, b3⟩
        go_wp2_with fail
        exact ⟨by have hg := HG.out _ _ hb b3; rw [← w7] at hg; push_cast at hg; exact hg, by simp [intOf]; omega⟩
      · subst hlow
        obtain ⟨w6, w7⟩ := low_word (got u width true i) (fbit u width true i) i hx1 (by omega) (got_low_lt u width i)
        have HG := Lib.hid (fun wr' w' (k1 : Below w1.heap.size w1 wr') (k2 : Below wr'.heap.size wr' w') => GetRel.low (u := u) hlt k1 k2)
        have HB1 := HB.out i hlt wr hbw
        rw [HF.out i hlt] at HB1
        generalize got u width true i = n at *
        generalize fbit u width true i = fb at *
        go_wp2_with fail
        refine HB1.mono ?_; rintro e w3 ⟨rfl, b3⟩
        go_wp2_with fail
        exact ⟨by have hg := HG.out _ _ hb b3; rw [← w7] at hg; push_cast at hg; exact hg, by simp [intOf]; omega⟩
    · obtain rfl : i = width := by omega
      rw [got_all u i low HU.out]
      go_wp2_with fail
      go_ret2
      exact ⟨rfl, HK.out.1.trans (hb.mono (by omega))⟩

end Go.Proofs.Ytpoolbachhelgaa
