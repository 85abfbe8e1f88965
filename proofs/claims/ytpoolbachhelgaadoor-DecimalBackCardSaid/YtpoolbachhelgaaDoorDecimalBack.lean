/- clapkeep1.DecimalBack answers true. -/
import Derived.Test.YtpoolbachhelgaaDoorWhole
import Derived.Test.YtpoolbachhelgaaDoorReadFixed
namespace Go.Proofs.YtpoolbachhelgaaDoor
open Go.RowKit

theorem int_sign (z : Int) : ∃ (neg : Bool) (m : Nat), z = (if neg then -(m : Int) else m) ∧ (neg = true → 1 ≤ m) ∧ m = z.natAbs ∧ neg = decide (z < 0) := by
  by_cases h : z < 0
  · exact ⟨true, z.natAbs, by simp; omega, fun _ => by omega, rfl, by simp [h]⟩
  · exact ⟨false, z.natAbs, by simp; omega, fun h => by (cases h), rfl, by simp [h]⟩
theorem numL_signed (b : Nat) (neg : Bool) (m : Nat) (h : neg = true → 1 ≤ m) : numL b (if neg then -(m : Int) else m) = signed neg ((ds b m).map digC) := by
  unfold numL signed
  cases neg
  · rw [if_neg (by simp)]
    simp [digs_ds]
  · have := h rfl
    rw [if_pos (by simp; omega)]
    simp [digs_ds]
/-- There is a point just if there are places. -/
theorem point_there (neg : Bool) (places : Nat) (D : List Nat) (hD : ∀ d ∈ D, d < 10) : decide (0 ≤ Lib.indexByte (strN (fixL neg places D)).data.toList 46) = !decide (places = 0) := by
  have hne : ∀ L : List Nat, (∀ d ∈ L, d < 10) → ∀ b ∈ (L.map digC).map UInt8.ofNat, b ≠ 46 := by
    intro L hL b hb
    obtain ⟨c, hc, rfl⟩ := List.mem_map.1 hb
    have := letters_ok hL c hc
    exact ofNat_ne (a := c) (b := 46) (by omega) (by omega) (by omega)
  by_cases hp : places = 0
  · have e : Lib.indexByte (strN (fixL neg places D)).data.toList 46 = -1 := by
      rw [strN_data]
      unfold fixL
      rw [if_pos hp]
      apply indexByte_none
      cases neg
      · exact hne D hD
      · intro b hb
        rcases List.mem_cons.1 hb with rfl | hb
        · decide
        · exact hne D hD b hb
    rw [e]; simp [hp]
  · have hPd : ∀ d ∈ padD places D, d < 10 := by
      intro d hd
      rcases List.mem_append.1 hd with hd | hd
      · rw [List.eq_of_mem_replicate hd]; decide
      · exact hD d hd
    have hk : ∀ b ∈ (((padD places D).map digC).take (((padD places D).map digC).length - places)).map UInt8.ofNat, b ≠ 46 := by
      intro b hb
      rw [List.map_take] at hb
      exact hne _ hPd b (List.mem_of_mem_take hb)
    have e : 0 ≤ Lib.indexByte (strN (fixL neg places D)).data.toList 46 := by
      rw [strN_data]
      unfold fixL
      rw [if_neg hp]
      unfold pointed
      cases neg
      · show 0 ≤ Lib.indexByte ((((padD places D).map digC).take (((padD places D).map digC).length - places) ++ 46 :: ((padD places D).map digC).drop (((padD places D).map digC).length - places)).map UInt8.ofNat) 46
        rw [List.map_append, List.map_cons, show UInt8.ofNat 46 = 46 from rfl, indexByte_at _ _ 46 hk]
        omega
      · show 0 ≤ Lib.indexByte ((45 :: (((padD places D).map digC).take (((padD places D).map digC).length - places) ++ 46 :: ((padD places D).map digC).drop (((padD places D).map digC).length - places))).map UInt8.ofNat) 46
        rw [List.map_cons, List.map_append, List.map_cons, show UInt8.ofNat 46 = 46 from rfl, ← List.cons_append, indexByte_at _ _ 46 (by
          intro b hb
          rcases List.mem_cons.1 hb with rfl | hb
          · decide
          · exact hk b hb)]
        omega
    simp [hp, e]

set_option maxRecDepth 100000 in
set_option maxHeartbeats 2000000 in
theorem decimalBack_walk (n k base places : Int) (w : World) :
    Calls Tryd.prog 6 #[.int .i64 n, .int .i64 k, .int .i64 base, .int .i64 places] w fun e w' => e = .returned (.bool true) ∧ Below w.heap.size w w' := by
  have H1 := Lib.hid (whole_any n k)
  have H2 := Lib.hid (below_any base 35 (by decide) (by decide))
  have H3 := Lib.hid (below_any places 16 (by decide) (by decide))
  obtain ⟨b, hb⟩ : ∃ b : Nat, 2 + base % 35 = (b : Int) := ⟨(2 + base % 35).toNat, by omega⟩
  obtain ⟨p, hp⟩ : ∃ p : Nat, places % 16 = (p : Int) := ⟨(places % 16).toNat, by omega⟩
  have b1 : 2 ≤ b := by omega
  have b2 : b ≤ 36 := by omega
  have p1 : p ≤ 15 := by omega
  have e1 : IntKind.i64.wrap (2 + base % 35) = (b : Int) := by rw [IntWalk.i64_in _ ⟨by omega, by omega⟩]; exact hb
  rw [hp] at H3
  clear hb hp
  go_enter Tryd.func6, Tryd.ntmps6
  go_wp2_with fail
  refine (H1.out _).mono ?_; rintro e w1 ⟨⟨z, rfl, z1, z2⟩, rfl⟩
  obtain ⟨neg, m, rfl, hneg, hmz, hnz⟩ := int_sign z
  have hm : m ≤ 9007199254740992 := by omega
  have hT := text_any (if neg then -(m : Int) else m) b b1 b2 z1 z2
  rw [numL_signed b neg m hneg] at hT
  have hDlt := ds_lt b m b1
  have hDlen := ds_length_le b m 53 b1 (by omega)
  have hDpos := ds_length_pos b m b1
  have hDev := ev_ds b m b1
  have hDhead : 2 ≤ (ds b m).length → (ds b m).getD 0 0 ≠ 0 := by
    intro h
    rcases Nat.eq_zero_or_pos m with h0 | h0
    · rw [h0, ds_zero] at h; simp at h
    · obtain ⟨x, t, e, hx⟩ := ds_head b m b1 h0
      rw [e]; exact hx
  have hdne : neg = true → ds b m ≠ [0] := by
    intro h e
    obtain ⟨x, t, e', hx⟩ := ds_head b m b1 (hneg h)
    rw [e] at e'
    simp only [List.cons.injEq] at e'
    exact hx e'.1.symm
  have hR := read_any neg (ds b m) b b1 b2 hDlt hDpos (by omega) hDhead hdne (by rw [hDev]; exact hm)
  rw [hDev] at hR
  have hF := fixed_any neg m p p1 hm hneg
  have hRF := readFixed_any neg m p p1 hm hneg
  have hC := fun w => Tryd.strings_Contains_one (strN (fixL neg p (ds 10 m))) 46 w
  rw [point_there neg p _ (ds_lt 10 m (by decide))] at hC
  generalize strN (signed neg ((ds b m).map digC)) = s at *
  generalize strN (fixL neg p (ds 10 m)) = t at *
  generalize (if neg then -(m : Int) else m) = z at *
  have HT := Lib.hid hT
  have HR := Lib.hid hR
  have HF := Lib.hid hF
  have HRF := Lib.hid hRF
  have HC := Lib.hid hC
  have hpp : ((p : Int) == 0) = decide (p = 0) := by
    by_cases h : p = 0
    · subst h; rfl
    · rw [decide_eq_false h]; exact beq_eq_false_iff_ne.2 (by omega)
  clear hT hR hF hRF hC hDlt hDlen hDpos hDev hDhead hdne hnz hmz hneg
  go_wp2_with fail
  refine (H2.out _).mono ?_; rintro e w2 ⟨rfl, rfl⟩
  go_wp2_with fail
  refine (H3.out _).mono ?_; rintro e w2 ⟨rfl, rfl⟩
  go_wp2_with fail
  ((with_reducible refine (HT.out _).mono ?_); rintro e w2 ⟨rfl, k2⟩)
  go_wp2_with fail
  ((with_reducible refine (HR.out _).mono ?_); rintro e w3 ⟨rfl, k3⟩)
  go_wp2_with fail
  ((with_reducible refine (HF.out _).mono ?_); rintro e w4 ⟨rfl, k4⟩)
  go_wp2_with fail
  ((with_reducible refine (HRF.out _).mono ?_); rintro e w5 ⟨rfl, k5⟩)
  have kk : Below w.heap.size w w5 := ((k2.trans (k3.mono k2.size)).trans (k4.mono (Nat.le_trans k2.size k3.size))).trans (k5.mono (Nat.le_trans (Nat.le_trans k2.size k3.size) k4.size))
  have K := Lib.hid kk
  clear k2 k3 k4 k5 kk
  go_wp2_with fail
  refine (numbered_any _).mono ?_; rintro e w6 ⟨rfl, k6⟩
  have K6 := Lib.hid (K.out.trans (k6.mono K.out.size))
  clear k6
  go_wp2_with fail
  refine (HC.out _).mono ?_; rintro e w7 ⟨rfl, rfl⟩
  go_wp2_with fail
  go_ret
  exact ⟨rfl, K6.out⟩

end Go.Proofs.YtpoolbachhelgaaDoor
