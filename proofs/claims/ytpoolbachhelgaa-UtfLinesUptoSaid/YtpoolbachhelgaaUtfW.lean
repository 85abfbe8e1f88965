/- The contract of utf.bytes: a code point is written behind the bytes of a builder. -/
import Derived.Test.YtpoolbachhelgaaBuild
import Derived.Test.YtpoolbachhelgaaBitw
namespace Go.Proofs.Ytpoolbachhelgaa
open Go.RowKit

def u8 (n : Nat) : UInt8 := UInt8.ofNat n
/-- The bytes of a code point. -/
def enc (r : Nat) : List UInt8 :=
  if r < 128 then [u8 r] else if r < 2048 then [u8 (192 + r / 64), u8 (128 + r % 64)]
  else if r < 65536 then [u8 (224 + r / 4096), u8 (128 + r / 64 % 64), u8 (128 + r % 64)]
  else [u8 (240 + r / 262144), u8 (128 + r / 4096 % 64), u8 (128 + r / 64 % 64), u8 (128 + r % 64)]

theorem enc_len (r : Nat) : 1 ≤ (enc r).length ∧ (enc r).length ≤ 4 := by
  unfold enc
  split
  · simp
  · split
    · simp
    · split <;> simp

theorem and63 (x : Int) : Go.bits .and .i64 x 63 = x % 64 := i64_mask x 6 (by omega)
theorem or128 (x : Int) (h0 : 0 ≤ x) (h1 : x < 64) : Go.bits .or .i64 128 x = 128 + x := i64_join 128 x 6 (by omega) (by omega) (by omega) (by decide) h0 (by omega)

set_option maxRecDepth 100000 in
set_option maxHeartbeats 2000000 in
theorem bytes_any (B b : Nat) (l : List UInt8) (z : Int) (h0 : 0 ≤ z) (hr : z ≤ 1114111) (w : World) (h : Bd B b l w) (hlen : l.length + 4 ≤ 140737488355328) :
    Calls Try.prog 45 #[.pointer (some ⟨b, 0, none⟩), .int .i64 z] w fun e w' => e = .returned (.tuple #[]) ∧ (Bd B b (l ++ enc z.toNat) w' ∧ Below B w w') := by
  have W := fun (l' : List UInt8) (c : Int) (hc0 : 0 ≤ c) (h1 : c < 256) (hl : l'.length + 1 ≤ 140737488355328) (v : World) (hb : Bd B b l' v) => writeByte_any B b l' c hc0 h1 v hb hl
  have HW := Lib.hid W
  clear W
  have a1 := and63 z
  have a2 := and63 (z / 64)
  have a3 := and63 (z / 4096)
  have o1 := or128 (z % 64) (by omega) (by omega)
  have o2 := or128 (z / 64 % 64) (by omega) (by omega)
  have o3 := or128 (z / 4096 % 64) (by omega) (by omega)
  have e0 := Lib.hid (show UInt8.ofNat (z).toNat = u8 z.toNat from rfl)
  have e1 := Lib.hid (show UInt8.ofNat (128 + z % 64).toNat = u8 (128 + z.toNat % 64) from by unfold u8; congr 1; omega)
  have e2 := Lib.hid (show UInt8.ofNat (128 + z / 64 % 64).toNat = u8 (128 + z.toNat / 64 % 64) from by unfold u8; congr 1; omega)
  have e3 := Lib.hid (show UInt8.ofNat (128 + z / 4096 % 64).toNat = u8 (128 + z.toNat / 4096 % 64) from by unfold u8; congr 1; omega)
  have e4 := Lib.hid (show UInt8.ofNat (192 + z / 64).toNat = u8 (192 + z.toNat / 64) from by unfold u8; congr 1; omega)
  have e5 := Lib.hid (show UInt8.ofNat (224 + z / 4096).toNat = u8 (224 + z.toNat / 4096) from by unfold u8; congr 1; omega)
  have e6 := Lib.hid (show UInt8.ofNat (240 + z / 262144).toNat = u8 (240 + z.toNat / 262144) from by unfold u8; congr 1; omega)
  by_cases c1 : z.toNat < 128
  · have hf := Lib.hid (show enc z.toNat = [u8 z.toNat] from by unfold enc; rw [if_pos c1])
    have i1 : z < 128 := by omega
    clear c1
    go_enter Try.func45, Try.ntmps45
    go_wp2_with fail
    refine (HW.out _ _ (by omega) (by omega) (by simp; omega) _ h).mono ?_; rintro e w1 ⟨rfl, hb1, k1⟩
    go_wp2_with fail
    go_returns
    refine ⟨rfl, ?_, k1⟩
    rw [hf.out]
    rw [e0.out] at hb1
    exact hb1
  · by_cases c2 : z.toNat < 2048
    · have hf := Lib.hid (show enc z.toNat = [u8 (192 + z.toNat / 64), u8 (128 + z.toNat % 64)] from by unfold enc; rw [if_neg c1, if_pos c2])
      have o0 : Go.bits .or .i64 192 (z / 64) = 192 + z / 64 := i64_join 192 _ 5 (by omega) (by omega) (by omega) (by decide) (by omega) (by omega)
      have i1 : 128 ≤ z := by omega
      have i2 : z < 2048 := by omega
      clear c1 c2
      go_enter Try.func45, Try.ntmps45
      go_wp2_with fail
      refine (HW.out _ _ (by omega) (by omega) (by simp; omega) _ h).mono ?_; rintro e w1 ⟨rfl, hb1, k1⟩
      go_wp2_with fail
      refine (HW.out _ _ (by omega) (by omega) (by simp; omega) _ hb1).mono ?_; rintro e w2 ⟨rfl, hb2, k2⟩
      go_wp2_with fail
      go_returns
      refine ⟨rfl, ?_, (k1).trans k2⟩
      rw [hf.out]
      rw [e4.out, e1.out] at hb2
      simpa using hb2
    · by_cases c3 : z.toNat < 65536
      · have hf := Lib.hid (show enc z.toNat = [u8 (224 + z.toNat / 4096), u8 (128 + z.toNat / 64 % 64), u8 (128 + z.toNat % 64)] from by unfold enc; rw [if_neg c1, if_neg c2, if_pos c3])
        have o0 : Go.bits .or .i64 224 (z / 4096) = 224 + z / 4096 := i64_join 224 _ 4 (by omega) (by omega) (by omega) (by decide) (by omega) (by omega)
        have i1 : 2048 ≤ z := by omega
        have i2 : z < 65536 := by omega
        clear c1 c2 c3
        go_enter Try.func45, Try.ntmps45
        go_wp2_with fail
        refine (HW.out _ _ (by omega) (by omega) (by simp; omega) _ h).mono ?_; rintro e w1 ⟨rfl, hb1, k1⟩
        go_wp2_with fail
        refine (HW.out _ _ (by omega) (by omega) (by simp; omega) _ hb1).mono ?_; rintro e w2 ⟨rfl, hb2, k2⟩
        go_wp2_with fail
        refine (HW.out _ _ (by omega) (by omega) (by simp; omega) _ hb2).mono ?_; rintro e w3 ⟨rfl, hb3, k3⟩
        go_wp2_with fail
        go_returns
        refine ⟨rfl, ?_, ((k1).trans k2).trans k3⟩
        rw [hf.out]
        rw [e5.out, e2.out, e1.out] at hb3
        simpa using hb3
      · have hf := Lib.hid (show enc z.toNat = [u8 (240 + z.toNat / 262144), u8 (128 + z.toNat / 4096 % 64), u8 (128 + z.toNat / 64 % 64), u8 (128 + z.toNat % 64)] from by unfold enc; rw [if_neg c1, if_neg c2, if_neg c3])
        have o0 : Go.bits .or .i64 240 (z / 262144) = 240 + z / 262144 := i64_join 240 _ 3 (by omega) (by omega) (by omega) (by decide) (by omega) (by omega)
        have i1 : 65536 ≤ z := by omega
        clear c1 c2 c3
        go_enter Try.func45, Try.ntmps45
        go_wp2_with fail
        refine (HW.out _ _ (by omega) (by omega) (by simp; omega) _ h).mono ?_; rintro e w1 ⟨rfl, hb1, k1⟩
        go_wp2_with fail
        refine (HW.out _ _ (by omega) (by omega) (by simp; omega) _ hb1).mono ?_; rintro e w2 ⟨rfl, hb2, k2⟩
        go_wp2_with fail
        refine (HW.out _ _ (by omega) (by omega) (by simp; omega) _ hb2).mono ?_; rintro e w3 ⟨rfl, hb3, k3⟩
        go_wp2_with fail
        refine (HW.out _ _ (by omega) (by omega) (by simp; omega) _ hb3).mono ?_; rintro e w4 ⟨rfl, hb4, k4⟩
        go_wp2_with fail
        go_returns
        refine ⟨rfl, ?_, (((k1).trans k2).trans k3).trans k4⟩
        rw [hf.out]
        rw [e6.out, e3.out, e2.out, e1.out] at hb4
        simpa using hb4

end Go.Proofs.Ytpoolbachhelgaa
