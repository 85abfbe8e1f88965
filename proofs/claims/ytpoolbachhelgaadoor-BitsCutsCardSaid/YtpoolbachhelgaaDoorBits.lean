/- The contracts of package bits at strings of bits that are right. -/
import Derived.Test.YtpoolbachhelgaaDoorRows
import Derived.Test.YtpoolbachhelgaaDoorSl
import Derived.Test.YtpoolbachhelgaaDoorPack
import Derived.Test.YtpoolbachhelgaaDoorBitw
import Derived.WalkKit
import Derived.WalkSpells
import Derived.WalkLawsBesides
import Derived.Handy
import Derived.Deep.QuietTactic
import Derived.BigQuiet
import Derived.WalkSmall
namespace Go.Proofs.YtpoolbachhelgaaDoor
open Go.RowKit

/-- A value that is a string of bits. -/
def BitsV (w : World) (v : Value) (bs : List Nat) : Prop := ∃ sv, v = .agg #[sv, .int .i64 bs.length] ∧ SlK .u8 w sv (intsOf (pack bs))
theorem BitsV.below {w w' : World} {v : Value} {bs : List Nat} (h : BitsV w v bs) (hb : Below w.heap.size w w') : BitsV w' v bs := by
  obtain ⟨sv, rfl, h⟩ := h
  exact ⟨sv, rfl, h.below hb⟩

set_option maxRecDepth 100000 in
set_option maxHeartbeats 1000000 in
theorem check_any (v : Value) (bs : List Nat) (hbin : Bin bs) (hlen : bs.length ≤ 64000) (w : World) (h : BitsV w v bs) :
    Calls Tryd.prog 41 #[v] w fun e w' => e = .returned (.int .i64 0) ∧ Below w.heap.size w w' := by
  obtain ⟨sv, rfl, h⟩ := h
  have hpl := pack_length bs
  rcases h with ⟨rfl, h0⟩ | ⟨b, off, cap, rfl, hcap, hmax, hc⟩
  · have hz : bs = [] := by
      have := congrArg List.length h0
      rw [intsOf_length, hpl] at this
      exact List.eq_nil_of_length_eq_zero (by simp at this; omega)
    subst hz
    clear h0 hpl hbin hlen
    go_enter Tryd.func41, Tryd.ntmps41
    go_wp2_with fail
    go_quiet (fail)
    go_wp2
    go_ret
    exact ⟨rfl, below_drewN ((Below.refl _ _).alloc (Nat.le_refl _) _) _⟩
  · rw [intsOf_length, hpl] at *
    have t1 : ((((bs.length + 7) / 8 : Nat) : Int) != ((bs.length : Int) + 7) / 8) = false := by rw [bne_eq_false_iff_eq]; omega
    have t0 : (bs.length : Int) ≤ 64000 := by omega
    by_cases hm : 0 < bs.length % 8
    · have g1 : decide (0 < (bs.length : Int) % 8) = true := decide_eq_true (by omega)
      obtain ⟨c1, c2⟩ := hc (bs.length / 8) (by omega)
      rw [intsOf_getD, pack_get bs _ (by omega)] at c2
      have ht := pbyte_tail hbin hm
      have hlt := pbyte_lt hbin (bs.length / 8)
      generalize pbyte bs (bs.length / 8) = p at c2 ht hlt
      have g2 : ((p : Int) * 2 ^ (bs.length % 8) % 256 != 0) = false := by
        rw [bne_eq_false_iff_eq]
        have : ((p * 2 ^ (bs.length % 8) % 256 : Nat) : Int) = 0 := by rw [ht]; rfl
        rw [← this]
        simp
      clear ht hc
      go_enter Tryd.func41, Tryd.ntmps41
      go_wp2_with fail
      go_quiet (fail)
      go_wp2
      go_ret
      exact ⟨rfl, below_drewN ((Below.refl _ _).alloc (Nat.le_refl _) _) _⟩
    · have g1 : decide (0 < (bs.length : Int) % 8) = false := decide_eq_false (by omega)
      clear hc
      go_enter Tryd.func41, Tryd.ntmps41
      go_wp2_with fail
      go_quiet (fail)
      go_wp2
      go_ret
      exact ⟨rfl, below_drewN ((Below.refl _ _).alloc (Nat.le_refl _) _) _⟩

theorem bit_word (p k : Nat) (hp : p < 256) : Go.bits .and .i64 (wrap64 ((p : Int) / 2 ^ k)) 1 = ((p / 2 ^ k % 2 : Nat) : Int) := by
  have e : (p : Int) / 2 ^ k = ((p / 2 ^ k : Nat) : Int) := by simp
  have hle : p / 2 ^ k ≤ p := Nat.div_le_self _ _
  rw [e]
  generalize p / 2 ^ k = q at hle
  have hm := i64_mask (q : Int) 1 (by omega)
  rw [show (2 : Int) ^ 1 - 1 = 1 from by decide, show (2 : Int) ^ 1 = 2 from by decide] at hm
  rw [IntWalk.wrap64_in _ ⟨by omega, by omega⟩, hm]
  omega

set_option maxRecDepth 100000 in
set_option maxHeartbeats 1000000 in
theorem bit_any (v : Value) (bs : List Nat) (hbin : Bin bs) (hlen : bs.length ≤ 64000) (i : Nat) (hi : i < bs.length) (w : World) (h : BitsV w v bs) :
    Calls Tryd.prog 42 #[v, .int .i64 i] w fun e w' => e = .returned (.int .i64 (bs.getD i 0 : Nat)) ∧ Below w.heap.size w w' := by
  obtain ⟨sv, rfl, h⟩ := h
  have hpl := pack_length bs
  rcases h with ⟨rfl, h0⟩ | ⟨b, off, cap, rfl, hcap, hmax, hc⟩
  · have := congrArg List.length h0
    rw [intsOf_length, hpl] at this
    simp at this
    omega
  · rw [intsOf_length, hpl] at *
    obtain ⟨c1, c2⟩ := hc (i / 8) (by omega)
    rw [intsOf_getD, pack_get bs _ (by omega)] at c2
    have hb := pbyte_bit hbin i
    have hlt := pbyte_lt hbin (i / 8)
    generalize pbyte bs (i / 8) = p at c2 hb hlt
    have t0 : (i : Int) ≤ 64000 := by omega
    have hix : i / 8 < (bs.length + 7) / 8 := by omega
    have hs : 7 - (i : Int) % 8 = ((7 - i % 8 : Nat) : Int) := by omega
    have hsn : (7 - (i : Int) % 8).toNat = 7 - i % 8 := by omega
    clear hc
    go_enter Tryd.func42, Tryd.ntmps42
    go_wp2_with fail
    go_ret
    refine ⟨ret_int ?_, by go_grown⟩
    rw [bit_word p (7 - i % 8) hlt, hb]
    simp [List.getD, hi]

end Go.Proofs.YtpoolbachhelgaaDoor
