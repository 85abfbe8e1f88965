/- The contracts of decimal.digit and decimal.digits: the numeral of a number below 2^63 to a base from 2 to 36. -/
import Derived.Test.YtpoolbachhelgaaDoorRows
import Derived.Test.YtpoolbachhelgaaDoorBlk
import Derived.WalkKit
import Derived.WalkSpells
import Derived.WalkLawsBesides
import Derived.Handy
namespace Go.Proofs.YtpoolbachhelgaaDoor
open Go.RowKit

set_option maxHeartbeats 400000 in
theorem digit_any (z : Int) (h0 : 0 ≤ z) (hz : z < 36) (w : World) :
    Calls Tryd.prog 75 #[.int .i64 z] w fun e w' => e = .returned (.int .u8 (digC z.toNat)) ∧ w = w' := by
  obtain ⟨n, rfl⟩ := Int.eq_ofNat_of_zero_le h0
  have hn : n < 36 := by omega
  clear h0 hz
  have hd := Lib.hid (digC_table ⟨n, hn⟩)
  go_enter Tryd.func75, Tryd.ntmps75
  go_wp2
  go_ret
  exact ⟨ret_int (congrArg Int.ofNat hd.out), rfl⟩

theorem slice_digits (g j : Nat) (h1 : 1 ≤ j) (h2 : j ≤ 64) (w : World) : (Instr.sliceAt 102 (.pointer (some ⟨g, 0, none⟩)) (some (.int .i64 ((j : Int) - 1))) none none).run Tryd.prog w = .ok (.slice (some ⟨g, j - 1, none⟩) (65 - j) (65 - j)) w := by
  have e64 : Tryd.prog.arrayLen 102 = 64 := by kernel_rfl
  rw [run_sliceAt_array_l w 102 _ (by kernel_rfl) .i64 _ (by omega) (by rw [e64]; omega), e64]
  have e : ((j : Int) - 1).toNat = j - 1 := by omega
  rw [e]
  have e2 : ¬ 64 = j - 1 := by omega
  have e3 : 64 - (j - 1) = 65 - j := by omega
  simp [slicedAt, go_sem, e2, e3]

def DigRel (n b : Nat) (w : World) (g : Nat) (nv iv : Value) (wr : World) : Prop :=
  ∃ (j m : Nat) (acc : List Nat) (cs : List Int), nv = .int .i64 m ∧ iv = .int .i64 j ∧ acc.length + j = 64 ∧ cs.length = 64 ∧ cs.drop j = intsOf acc ∧ digs b n = digsA b (m + 1) m acc ∧
    m * 2 ^ (64 - j) < 9223372036854775808 ∧ (j < 64 → 1 ≤ m) ∧ (∀ x ∈ acc, x < 256) ∧ Blk wr g .u8 102 cs ∧ Below g w wr

set_option maxRecDepth 100000 in
set_option maxHeartbeats 1000000 in
theorem digits_any (n b : Nat) (hb : 2 ≤ b) (hb' : b ≤ 36) (hn : n < 9223372036854775808) (w : World) :
    Calls Tryd.prog 56 #[.int .i64 n, .int .i64 b] w fun e w' => e = .returned (.string (strN (digs b n))) ∧ Below w.heap.size w w' := by
  go_enter Tryd.func56, Tryd.ntmps56
  go_wp2
  go_loopw [0, 6] (fun nv iv wr => DigRel n b w w.heap.size nv iv wr) (fun _ iv _ => (intOf iv).toNat)
  case atStart =>
    exact ⟨64, n, [], List.replicate 64 0, rfl, rfl, rfl, by simp, by simp [intsOf], rfl, by simpa using hn, by omega, by simp, Blk.new w .u8 102 (List.replicate 64 0), by go_grown⟩
  case round =>
    obtain ⟨j, m, acc, cs, rfl, rfl, hl, hcl, hd, hdig, hm, hm1, h256, hblk, hbel⟩ := hrel
    have h36 : (m : Int) % (b : Int) < 36 := by have := Int.emod_lt_of_pos (m : Int) (show (0 : Int) < b by omega); omega
    have h0 : 0 ≤ (m : Int) % (b : Int) := Int.emod_nonneg _ (by omega)
    have h63 : m < 9223372036854775808 := Nat.lt_of_le_of_lt (Nat.le_mul_of_pos_right m (Nat.two_pow_pos _)) hm
    have hq0 : 0 ≤ (m : Int) / (b : Int) := Int.ediv_nonneg (by omega) (by omega)
    have hq1 : (m : Int) / (b : Int) ≤ 9223372036854775807 := Int.le_trans (Int.ediv_le_self _ (by omega)) (by omega)
    have hj : 1 ≤ j := by
      rcases Nat.eq_zero_or_pos j with rfl | h
      · have := hm1 (by omega)
        have h2 : 1 * 2 ^ 64 ≤ m * 2 ^ (64 - 0) := Nat.mul_le_mul_right _ this
        omega
      · exact h
    have hj64 : j ≤ 64 := by omega
    have hc := hblk.cell (j - 1) (by omega)
    have hf := hblk.free (j - 1)
    by_cases hz : m / b = 0
    · have hzb : ((m : Int) / (b : Int) == 0) = true := by
        rw [beq_iff_eq]
        have : ((m / b : Nat) : Int) = 0 := by omega
        rw [← this]; rfl
      have hset := hblk.set (j - 1) (digC (m % b) : Nat)
      have hsl := slice_digits w.heap.size j (by omega) (by omega) (wr.setCell { block := w.heap.size, off := j - 1 } (Value.int IntKind.u8 ↑(digC (m % b))))
      have hfin : digs b n = digC (m % b) :: acc := by rw [hdig, digsA_last b m acc _ (Nat.lt_succ_self m) hz]
      have hcv := run_convert_bytes_arg (P := Tryd.prog) (wr.setCell { block := w.heap.size, off := j - 1 } (Value.int IntKind.u8 ↑(digC (m % b)))) 24 5 Tryd.underlying24 Tryd.underlying5 w.heap.size (j - 1) (65 - j) (65 - j) (intsOf (digs b n))
        (by rw [hfin, intsOf_length, List.length_cons]; omega)
        (fun i hi => by
          rw [hset.cell (j - 1 + i) (by simp; omega)]
          congr 2
          have hdr := set_drop_eq cs (j - 1) (digC (m % b) : Int) (by omega)
          rw [show j - 1 + 1 = j from by omega, hd, ← intsOf_cons, ← hfin] at hdr
          rw [← hdr]
          simp [List.getD, List.getElem?_drop]) 9 Tryd.underlying9
      rw [strOfNums_intsOf] at hcv
      have Hb : Below w.heap.size w (wr.setCell { block := w.heap.size, off := j - 1 } (Value.int IntKind.u8 ↑(digC (m % b)))) := hbel.setCell (by simp) _
      have HB := Lib.hid Hb
      clear hfin hset hd hdig hm hm1 h256 hl hcl hz Hb
      go_wp2_with (go_at_call 75; refine (digit_any _ (by assumption) (by assumption) _).mono ?_; rintro e w' ⟨rfl, rfl⟩)
      go_ret
      exact ⟨rfl, HB.out⟩
    · have hzb : ((m : Int) / (b : Int) == 0) = false := by
        rw [beq_eq_false_iff_ne]
        intro h
        apply hz
        have : ((m / b : Nat) : Int) = 0 := by rw [← h]; rfl
        omega
      have H := Lib.hid (show DigRel n b w w.heap.size (.int .i64 ((m : Int) / (b : Int))) (.int .i64 ((j : Int) - 1)) (wr.setCell { block := w.heap.size, off := j - 1 } (Value.int IntKind.u8 ↑(digC (m % b)))) from by
        refine ⟨j - 1, m / b, digC (m % b) :: acc, cs.set (j - 1) (digC (m % b) : Nat), rfl, by congr 1; omega, by simp; omega, by simp [hcl], ?_, ?_, ?_, ?_, ?_, hblk.set _ _, hbel.setCell (by simp) _⟩
        · rw [set_drop_eq cs (j - 1) _ (by omega), show j - 1 + 1 = j from by omega, hd, intsOf_cons]
        · rw [hdig, digsA_step b m hb acc _ (Nat.lt_succ_self m) hz]
        · have e : 64 - (j - 1) = (64 - j) + 1 := by omega
          rw [e, Nat.pow_succ]
          have h2 : m / b * 2 ≤ m := Nat.le_trans (Nat.mul_le_mul_left _ hb) (Nat.div_mul_le_self m b)
          calc m / b * (2 ^ (64 - j) * 2) = (m / b * 2) * 2 ^ (64 - j) := by rw [Nat.mul_comm (2 ^ (64 - j)) 2, Nat.mul_assoc]
            _ ≤ m * 2 ^ (64 - j) := Nat.mul_le_mul_right _ h2
            _ < _ := hm
        · intro _; exact Nat.one_le_iff_ne_zero.mpr hz
        · intro x hx
          rcases List.mem_cons.mp hx with rfl | hx
          · exact digC_lt _ (by have := Nat.mod_lt m (show 0 < b by omega); omega)
          · exact h256 x hx)
      clear hd hdig hm hm1 h256 hl hcl hz
      go_wp2_with (go_at_call 75; refine (digit_any _ (by assumption) (by assumption) _).mono ?_; rintro e w' ⟨rfl, rfl⟩)
      exact ⟨H.out, by simp [intOf]; omega⟩

end Go.Proofs.YtpoolbachhelgaaDoor
