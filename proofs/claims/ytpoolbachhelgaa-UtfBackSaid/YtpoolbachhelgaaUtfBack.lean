/- clapkeep1.UtfBack answers true at all lists and ints. -/
import Derived.Test.YtpoolbachhelgaaUtfR
import Derived.Test.YtpoolbachhelgaaBelow
import Derived.Test.YtpoolbachhelgaaArg
import Derived.OpenShut
import Derived.WalkSmall
namespace Go.Proofs.Ytpoolbachhelgaa
open Go.RowKit

/-- A slice that came in: the ints up to its length. -/
def BackRel (xs : List Int) (w : World) (iv pv : Value) (wr : World) : Prop :=
  ∃ (k : Nat) (ps : List Nat), k ≤ xs.length ∧ iv = .int .i64 k ∧ ps.length ≤ k ∧ (∀ r ∈ ps, okR r = true) ∧ wr.ownsRow w.heap.size 3 1 pv ps.length ((intsOf ps).map (Value.int .i64)) ∧ Below w.heap.size w wr

theorem info_int : (Try.prog.info? 3).map (fun i => (i.zero, i.size, i.bytes)) = some (some (.int .i64 0), 1, 8) := by kernel_rfl

theorem and3 (x : Int) : ∃ j : Nat, j < 4 ∧ Go.bits .and .i64 x 3 = (j : Int) := by
  refine ⟨(x % 4).toNat, by omega, ?_⟩
  have := i64_mask x 2 (by omega)
  rw [show (2 : Int) ^ 2 - 1 = 3 from by decide, show (2 : Int) ^ 2 = 4 from by decide] at this
  rw [this]; omega

theorem below_point (x d : Int) (h0 : 0 < d) (h1 : d ≤ 1114112) (w : World) :
    Calls Try.prog 10 #[.int .i64 x, .int .i64 d] w fun e w' => ∃ z : Int, 0 ≤ z ∧ z ≤ 1114111 ∧ e = .returned (.int .i64 z) ∧ w = w' := by
  refine (below_any x d h0 (by omega) w).mono ?_
  rintro e w' ⟨rfl, rfl⟩
  have := Int.emod_nonneg x (show d ≠ 0 by omega)
  have := Int.emod_lt_of_pos x h0
  exact ⟨x % d, by omega, by omega, rfl, rfl⟩

theorem less_cons (a b : Nat) (ha : a < 256) (hb : b < 256) (x y : List UInt8) : Op.bytesLess (u8 a :: x) (u8 b :: y) = (decide (a < b) || (decide (a = b) && Op.bytesLess x y)) := by
  have e1 : (u8 a).toNat = a := UInt8.toNat_ofNat_of_lt' (show a < UInt8.size from ha)
  have e2 : (u8 b).toNat = b := UInt8.toNat_ofNat_of_lt' (show b < UInt8.size from hb)
  have h1 : decide (u8 a < u8 b) = decide (a < b) := by rw [decide_eq_decide, UInt8.lt_iff_toNat_lt, e1, e2]
  have h2 : (u8 a == u8 b) = decide (a = b) := by
    rw [Bool.eq_iff_iff, beq_iff_eq, decide_eq_true_iff]
    constructor
    · intro h; rw [← e1, ← e2, h]
    · intro h; rw [h]
  simp only [Op.bytesLess, h1, h2]
theorem less_nil (x : List UInt8) : Op.bytesLess x [] = false := by cases x <;> rfl

theorem enc_less (a b : Nat) (ha : a < 55000) (hb : b < 55000) : Op.bytesLess (enc a) (enc b) = decide (a < b) := by
  by_cases a1 : a < 128
  · have ea : enc a = [u8 a] := by unfold enc; rw [if_pos a1]
    by_cases b1 : b < 128
    · have eb : enc b = [u8 b] := by unfold enc; rw [if_pos b1]
      rw [ea, eb, less_cons _ _ (by omega) (by omega), less_nil]; simp
    · by_cases b2 : b < 2048
      · have eb : enc b = [u8 (192 + b / 64), u8 (128 + b % 64)] := by unfold enc; rw [if_neg b1, if_pos b2]
        rw [ea, eb, less_cons _ _ (by omega) (by omega), Bool.eq_iff_iff]; simp [Op.bytesLess]; omega
      · have eb : enc b = [u8 (224 + b / 4096), u8 (128 + b / 64 % 64), u8 (128 + b % 64)] := by unfold enc; rw [if_neg b1, if_neg b2, if_pos (by omega)]
        rw [ea, eb, less_cons _ _ (by omega) (by omega), Bool.eq_iff_iff]; simp [Op.bytesLess]; omega
  · by_cases a2 : a < 2048
    · have ea : enc a = [u8 (192 + a / 64), u8 (128 + a % 64)] := by unfold enc; rw [if_neg a1, if_pos a2]
      by_cases b1 : b < 128
      · have eb : enc b = [u8 b] := by unfold enc; rw [if_pos b1]
        rw [ea, eb, less_cons _ _ (by omega) (by omega), less_nil, Bool.eq_iff_iff]; simp; omega
      · by_cases b2 : b < 2048
        · have eb : enc b = [u8 (192 + b / 64), u8 (128 + b % 64)] := by unfold enc; rw [if_neg b1, if_pos b2]
          rw [ea, eb, less_cons _ _ (by omega) (by omega), less_cons _ _ (by omega) (by omega), less_nil, Bool.eq_iff_iff]; simp; omega
        · have eb : enc b = [u8 (224 + b / 4096), u8 (128 + b / 64 % 64), u8 (128 + b % 64)] := by unfold enc; rw [if_neg b1, if_neg b2, if_pos (by omega)]
          rw [ea, eb, less_cons _ _ (by omega) (by omega), Bool.eq_iff_iff]; simp; omega
    · have ea : enc a = [u8 (224 + a / 4096), u8 (128 + a / 64 % 64), u8 (128 + a % 64)] := by unfold enc; rw [if_neg a1, if_neg a2, if_pos (by omega)]
      by_cases b1 : b < 128
      · have eb : enc b = [u8 b] := by unfold enc; rw [if_pos b1]
        rw [ea, eb, less_cons _ _ (by omega) (by omega), less_nil, Bool.eq_iff_iff]; simp; omega
      · by_cases b2 : b < 2048
        · have eb : enc b = [u8 (192 + b / 64), u8 (128 + b % 64)] := by unfold enc; rw [if_neg b1, if_pos b2]
          rw [ea, eb, less_cons _ _ (by omega) (by omega), Bool.eq_iff_iff]; simp; omega
        · have eb : enc b = [u8 (224 + b / 4096), u8 (128 + b / 64 % 64), u8 (128 + b % 64)] := by unfold enc; rw [if_neg b1, if_neg b2, if_pos (by omega)]
          rw [ea, eb, less_cons _ _ (by omega) (by omega), less_cons _ _ (by omega) (by omega), less_cons _ _ (by omega) (by omega), less_nil, Bool.eq_iff_iff]; simp; omega

theorem Sl.slice {w : World} {v : Value} {xs : List Int} (h : Sl w v xs) : ∃ p c, v = .slice p xs.length c := by
  rcases h with ⟨rfl, rfl⟩ | ⟨b, off, cap, rfl, _⟩
  · exact ⟨none, 0, rfl⟩
  · exact ⟨_, _, rfl⟩
theorem equal_any (v1 v2 : Value) (xs : List Int) (w : World) (h1 : Sl w v1 xs) (h2 : Sl w v2 xs) :
    Calls Try.prog 23 #[v1, v2] w fun e w' => e = .returned (.bool true) ∧ ∃ q, w' = w.drewN q := by
  rcases h1 with ⟨rfl, rfl⟩ | ⟨b1, o1, c1, rfl, hc1, hm1, h1⟩
  · obtain ⟨p, c, rfl⟩ := h2.slice
    refine (Try.slices_Equal_int_empty none p 0 0 c w (by simp)).mono ?_
    rintro e w' ⟨rfl, rfl⟩
    exact ⟨rfl, 0, rfl⟩
  · rcases h2 with ⟨rfl, rfl⟩ | ⟨b2, o2, c2, rfl, hc2, hm2, h2⟩
    · refine (Try.slices_Equal_int_empty _ none c1 0 0 w (by simp)).mono ?_
      rintro e w' ⟨rfl, rfl⟩
      exact ⟨rfl, 0, rfl⟩
    · refine (Try.slices_Equal_int b1 o1 xs.length c1 b2 o2 xs.length c2 xs xs w (Nat.le_refl _) (Nat.le_refl _) (by omega) (by omega) (fun j hj => (h1 j hj).2) (fun j hj => (h2 j hj).2)).mono ?_
      rintro e w' ⟨rfl, hq⟩
      exact ⟨ret_bool (by simp), hq⟩

theorem below55 (x : Int) (w : World) :
    Calls Try.prog 10 #[.int .i64 x, .int .i64 55000] w fun e w' => ∃ z : Int, 0 ≤ z ∧ z < 55000 ∧ e = .returned (.int .i64 z) ∧ w = w' := by
  refine (below_any x 55000 (by omega) (by omega) w).mono ?_
  rintro e w' ⟨rfl, rfl⟩
  exact ⟨x % 55000, by omega, by omega, rfl, rfl⟩

theorem text_one (z : Int) (h0 : 0 ≤ z) (h1 : z < 55000) (w : World) :
    Calls Try.prog 20 #[.slice (some ⟨w.heap.size, 0, none⟩) 1 1] (w.alloc (.cells #[.int .i64 z] 3 (0, 0))) fun e w' => e = .returned (.tuple #[.string ⟨(enc z.toNat).toArray⟩, .int .i64 0]) ∧ Below w.heap.size w w' := by
  obtain ⟨n, rfl⟩ := Int.eq_ofNat_of_zero_le h0
  have h := utfText_any [n] _ (by intro r hr; rw [List.mem_singleton.mp hr]; unfold okR; simp; omega) _ (Sl.one w (n : Int)) (by simp)
  rw [show cps [n] = enc n from by simp [cps]] at h
  refine h.mono ?_
  rintro e w' ⟨rfl, k⟩
  exact ⟨rfl, ((Below.refl _ _).alloc (Nat.le_refl _) _).trans (k.mono (by simp))⟩

set_option maxRecDepth 100000 in
set_option maxHeartbeats 4000000 in
theorem utfBack_walk (b0 off n0 cap L : Nat) (xs : List Int) (a b : Int) (w : World) (hL : min (n0 : Int) 40 = (L : Int)) (hL40 : L ≤ 40) (hn : xs.length = L) (hcap : n0 ≤ cap) (hm : cap ≤ 9223372036854775807) (hc : ∀ i, i < L → b0 < w.heap.size ∧ w.cell? ⟨b0, off + i, none⟩ = some (.int .i64 (xs.getD i 0))) :
    Calls Try.prog 6 #[.slice (some ⟨b0, off, none⟩) n0 cap, .int .i64 a, .int .i64 b] w fun e w' => e = .returned (.bool true) ∧ Below w.heap.size w w' := by
  obtain ⟨i0, hi, hz0, hz1, hz2⟩ := info_parts info_int
  have HC := Lib.hid hc
  have HN := Lib.hid hn
  clear hc hn
  go_enter Try.func6, Try.ntmps6
  go_wp2_with fail
  go_loopw [26, 7] (fun iv pv wr => BackRel xs w iv pv wr) (fun iv _ _ => L - (intOf iv).toNat)
  case atStart => exact ⟨0, [], by omega, rfl, by simp, by simp, World.ownsRow_nil _ _ _ _, Below.refl _ _⟩
  case round =>
    obtain ⟨k, ps, hk, rfl, hpl, hok, hown, hbel⟩ := hrel
    rw [HN.out] at hk
    by_cases hlt : k < L
    · have hcell : wr.cell? ⟨b0, off + k, none⟩ = some (.int .i64 (xs.getD k 0)) := by
        obtain ⟨hb, hx⟩ := HC.out k hlt
        rw [hbel.cell hb, hx]
      generalize xs.getD k 0 = x at hcell
      obtain ⟨j, hj, hj3⟩ := and3 x
      have HO := Lib.hid hok
      have HB := Lib.hid hbel
      have HW := Lib.hid hown
      have HP := Lib.hid hpl
      have hsz : w.heap.size ≤ wr.heap.size := hbel.size
      clear hok hbel hown hpl
      have hj4 : j = 0 ∨ j = 1 ∨ j = 2 ∨ j = 3 := by omega
      clear hj
      rcases hj4 with rfl | rfl | rfl | rfl
      all_goals
        go_wp2_with fail
        refine (below_point _ _ (by omega) (by omega) _).mono ?_
        rintro e w1 ⟨z, z0, z1, rfl, rfl⟩
        cases hv : okR z.toNat with
        | true =>
          have hV := valid_any z z0
          rw [hv] at hV
          have HV := Lib.hid hV
          have Hv := Lib.hid hv
          clear hV hv
          go_wp2_with fail
          refine (HV.out _).mono ?_; rintro e w1 ⟨rfl, rfl⟩
          have hlen : ps.length + 1 ≤ 41 := by have := HP.out; omega
          go_wp2_with (at_builtin; refine wpList_append_own _ rfl _ _ 35 rfl w.heap.size 3 i0 (.int .i64 0) 1 8 Try.underlying35 hi hz0 hz1 hz2 rfl (by decide) _ _ _ rfl ((HW.out.alloc _).alloc _) ⟨wr.heap.size + 1, 0, none⟩ 1 1 [.int .i64 z] rfl rfl ?c1 ?c2 ?c3 ?c4 ?c5 ?_)
          case c1 =>
            intro j u hj
            match j, hj with
            | 0, hj => simp at hj; subst hj; simp [Addr.add]
          case c2 => intro u hu; simp at hu; subst hu; rfl
          case c3 => unfold maxLen; omega
          case c4 => omega
          case c5 => simp; omega
          intro v' w2 hown' hgrow _
          have hez : z = ((z.toNat : Nat) : Int) := by omega
          have H2 : w2.ownsRow w.heap.size 3 1 v' (ps ++ [z.toNat]).length ((intsOf (ps ++ [z.toNat])).map (Value.int .i64)) := by
            have e : (intsOf (ps ++ [z.toNat])).map (Value.int .i64) = (intsOf ps).map (Value.int .i64) ++ [.int .i64 z] := by
              rw [hez]; simp [intsOf]
            rw [e, List.length_append]
            exact hown'
          have HG : Below w.heap.size w w2 := ((HB.out.alloc hsz _).alloc (by simp; omega) _).grown hgrow (by simp; omega) (fun k hk => (HW.out.lt k hk).1)
          have HH := Lib.hid (And.intro H2 HG)
          clear H2 HG hown' hgrow hez
          go_wp2_with fail
          refine ⟨⟨k + 1, ps ++ [z.toNat], by rw [HN.out]; omega, rfl, by have := HP.out; simp; omega, ?_, HH.out.1, HH.out.2⟩, by simp [intOf]; omega⟩
          intro r hr
          rcases List.mem_append.mp hr with h | h
          · exact HO.out r h
          · rw [List.mem_singleton.mp h]; exact Hv.out
        | false =>
          have hV := valid_any z z0
          rw [hv] at hV
          have HV := Lib.hid hV
          clear hV hv
          go_wp2_with fail
          refine (HV.out _).mono ?_; rintro e w1 ⟨rfl, rfl⟩
          go_wp2_with fail
          refine ⟨⟨k + 1, ps, by rw [HN.out]; omega, rfl, by have := HP.out; omega, HO.out, HW.out.alloc _, HB.out.alloc hsz _⟩, by simp [intOf]; omega⟩
    · have hS := Sl.of_owns (by rw [intsOf_length]; exact hown : wr.ownsRow w.heap.size 3 1 u7 (intsOf ps).length ((intsOf ps).map (Value.int .i64)))
      have hpl' : ps.length ≤ 40 := by omega
      have HT := Lib.hid (utfText_any ps u7 hok wr hS (by omega))
      have hR := fun w1 => runes_any ps hok (by omega) w1
      unfold sL at hR
      have HR := Lib.hid hR
      have HS := Lib.hid hS
      have HB := Lib.hid hbel
      have hsz : w.heap.size ≤ wr.heap.size := hbel.size
      clear hS hok hR hown hbel hpl
      obtain ⟨pp, pc, rfl⟩ := HS.out.slice
      go_wp2_with fail
      refine HT.out.mono ?_; rintro e w1 ⟨rfl, k1⟩
      have hz1 := k1.size
      have K1 := Lib.hid k1
      clear k1
      go_wp2_with fail
      refine (HR.out w1).mono ?_; rintro e w2 ⟨v2, rfl, o2, k2⟩
      have hS2 := Sl.of_owns (by rw [intsOf_length]; exact o2 : w2.ownsRow w1.heap.size 3 1 v2 (intsOf ps).length ((intsOf ps).map (Value.int .i64)))
      obtain ⟨p2, c2, rfl⟩ := hS2.slice
      have hz2 := k2.size
      have K2 := Lib.hid k2
      have HS2 := Lib.hid hS2
      clear k2 o2 hS2
      go_wp2_with fail
      refine (below55 _ _).mono ?_; rintro e w3 ⟨A, A0, A1, rfl, rfl⟩
      go_wp2_with fail
      refine (below55 _ _).mono ?_; rintro e w3 ⟨B, B0, B1, rfl, rfl⟩
      go_wp2_with fail
      refine (text_one A A0 A1 _).mono ?_; rintro e w3 ⟨rfl, k3⟩
      have K3 := Lib.hid k3
      clear k3
      go_wp2_with fail
      refine (text_one B B0 B1 _).mono ?_; rintro e w4 ⟨rfl, k4⟩
      have K4 := Lib.hid k4
      clear k4
      go_wp2_with fail
      refine (coded_any _).mono ?_; rintro e w5 ⟨rfl, k5⟩
      have K5 := Lib.hid k5
      clear k5
      go_wp2_with fail
      refine (equal_any _ _ _ _ ((((HS2.out.below K3.out).below K4.out).below K5.out)) (((((HS.out.below K1.out).below K2.out).below K3.out).below K4.out).below K5.out)).mono ?_
      rintro e w6 ⟨rfl, q, rfl⟩
      go_wp2_with fail
      go_ret
      refine ⟨ret_bool ?_, ?_⟩
      · rw [enc_less A.toNat B.toNat (by omega) (by omega)]
        simp only [beq_iff_eq, decide_eq_decide]
        omega
      · have hz3 := K3.out.size
        have hz4 := K4.out.size
        exact below_drewN (((((HB.out.trans (K1.out.mono hsz)).trans (K2.out.mono (by omega))).trans (K3.out.mono (by omega))).trans (K4.out.mono (by omega))).trans (K5.out.mono (by omega))) q

set_option maxRecDepth 100000 in
set_option maxHeartbeats 4000000 in
theorem utfBack_nil (p : Option Addr) (a b : Int) (w : World) :
    Calls Try.prog 6 #[.slice p 0 0, .int .i64 a, .int .i64 b] w fun e w' => e = .returned (.bool true) ∧ Below w.heap.size w w' := by
  have hL : min (0 : Int) 40 = 0 := by omega
  go_enter Try.func6, Try.ntmps6
  go_wp2_with fail
  go_loopw [26, 7] (fun iv pv wr => BackRel [] w iv pv wr) (fun _ _ _ => 0)
  case atStart => exact ⟨0, [], by omega, rfl, by simp, by simp, World.ownsRow_nil _ _ _ _, Below.refl _ _⟩
  case round =>
    obtain ⟨k, ps, hk, rfl, hpl, hok, hown, hbel⟩ := hrel
    obtain rfl : k = 0 := by simpa using hk
    clear hk
    have hS := Sl.of_owns (by rw [intsOf_length]; exact hown : wr.ownsRow w.heap.size 3 1 u7 (intsOf ps).length ((intsOf ps).map (Value.int .i64)))
    have hpl' : ps.length ≤ 40 := by omega
    have HT := Lib.hid (utfText_any ps u7 hok wr hS (by omega))
    have hR := fun w1 => runes_any ps hok (by omega) w1
    unfold sL at hR
    have HR := Lib.hid hR
    have HS := Lib.hid hS
    have HB := Lib.hid hbel
    have hsz : w.heap.size ≤ wr.heap.size := hbel.size
    clear hS hok hR hown hbel hpl
    obtain ⟨pp, pc, rfl⟩ := HS.out.slice
    go_wp2_with fail
    refine HT.out.mono ?_; rintro e w1 ⟨rfl, k1⟩
    have hz1 := k1.size
    have K1 := Lib.hid k1
    clear k1
    go_wp2_with fail
    refine (HR.out w1).mono ?_; rintro e w2 ⟨v2, rfl, o2, k2⟩
    have hS2 := Sl.of_owns (by rw [intsOf_length]; exact o2 : w2.ownsRow w1.heap.size 3 1 v2 (intsOf ps).length ((intsOf ps).map (Value.int .i64)))
    obtain ⟨p2, c2, rfl⟩ := hS2.slice
    have hz2 := k2.size
    have K2 := Lib.hid k2
    have HS2 := Lib.hid hS2
    clear k2 o2 hS2
    go_wp2_with fail
    refine (below55 _ _).mono ?_; rintro e w3 ⟨A, A0, A1, rfl, rfl⟩
    go_wp2_with fail
    refine (below55 _ _).mono ?_; rintro e w3 ⟨B, B0, B1, rfl, rfl⟩
    go_wp2_with fail
    refine (text_one A A0 A1 _).mono ?_; rintro e w3 ⟨rfl, k3⟩
    have K3 := Lib.hid k3
    clear k3
    go_wp2_with fail
    refine (text_one B B0 B1 _).mono ?_; rintro e w4 ⟨rfl, k4⟩
    have K4 := Lib.hid k4
    clear k4
    go_wp2_with fail
    refine (coded_any _).mono ?_; rintro e w5 ⟨rfl, k5⟩
    have K5 := Lib.hid k5
    clear k5
    go_wp2_with fail
    refine (equal_any _ _ _ _ ((((HS2.out.below K3.out).below K4.out).below K5.out)) (((((HS.out.below K1.out).below K2.out).below K3.out).below K4.out).below K5.out)).mono ?_
    rintro e w6 ⟨rfl, q, rfl⟩
    go_wp2_with fail
    go_ret
    refine ⟨ret_bool ?_, ?_⟩
    · rw [enc_less A.toNat B.toNat (by omega) (by omega)]
      simp only [beq_iff_eq, decide_eq_decide]
      omega
    · have hz3 := K3.out.size
      have hz4 := K4.out.size
      exact below_drewN (((((HB.out.trans (K1.out.mono hsz)).trans (K2.out.mono (by omega))).trans (K3.out.mono (by omega))).trans (K4.out.mono (by omega))).trans (K5.out.mono (by omega))) q


theorem utfBack_law (p : Option Addr) (len cap : Nat) (zs : List Int) (a b : Int) (w : World) (h : IsRow .i64 w p len cap zs) :
    Calls Try.prog 6 #[.slice p len cap, .int .i64 a, .int .i64 b] w fun e w' => e = .returned (.bool true) ∧ Below w.heap.size w w' := by
  rcases h.cases with ⟨rfl, rfl⟩ | ⟨b0, off, rfl, hl, hm, hc⟩
  · exact utfBack_nil p a b w
  · refine utfBack_walk b0 off len cap (min len 40) ((List.range (min len 40)).map fun i => zs.getD i 0) a b w (by omega) (by omega) (by simp) hl (by unfold maxLen at hm; omega) (fun i hi => ?_)
    obtain ⟨h1, h2⟩ := hc i (by omega)
    refine ⟨h1, ?_⟩
    rw [h2]
    simp [List.getD, hi]

end Go.Proofs.Ytpoolbachhelgaa
