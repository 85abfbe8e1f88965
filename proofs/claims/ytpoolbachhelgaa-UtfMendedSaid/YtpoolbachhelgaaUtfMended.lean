/- clapkeep1.UtfMended answers true at all strings and ints. -/
import Derived.Test.YtpoolbachhelgaaUtfM
namespace Go.Proofs.Ytpoolbachhelgaa
open Go.RowKit Go.Proofs.Ytpoolbachhelgaa.PUtfMended

theorem cut_any (ps : List Nat) (hok : ∀ r ∈ ps, okR r = true) (hlen : ps.length ≤ 1000000) (n : Nat) (hn : n ≤ (cps ps).length) :
    ∃ a b, ps = a ++ b ∧ (cps a).length ≤ n ∧ n < (cps a).length + 4 ∧ ∀ w : World, Calls Try.prog 25 #[.string (sL (cps ps)), .int .i64 n] w fun e w' => e = .returned (.string (sL (cps a))) ∧ Below w.heap.size w w' := by
  have hl := (cps_len ps).2
  by_cases hge : (cps ps).length ≤ n
  · refine ⟨ps, [], by simp, by omega, by omega, fun w => ?_⟩
    refine utf_Cut.calls 0 _ _ _ w ?_
    unfold utf_Cut.f
    rw [if_pos (by rw [sL_size]; omega)]
  · obtain ⟨a, b, h1, h2, h3, h4⟩ := cut_l0 n ps [] (ps.length + 10) hok (by rw [List.nil_append]; omega) (by simp [cps]) (by rw [List.nil_append]; exact hn) (Nat.le_refl _)
    rw [List.nil_append] at h1 h4
    refine ⟨a, b, h1, h2, h3, fun w => ?_⟩
    refine utf_Cut.calls (ps.length + 10) _ _ _ w ?_
    unfold utf_Cut.f
    rw [if_neg (by rw [sL_size]; omega)]
    exact h4

theorem place_any (ps : List Nat) (hok : ∀ r ∈ ps, okR r = true) (hlen : ps.length ≤ 1000000) :
    ∃ ln : Int, ∀ w : World, Calls Try.prog 26 #[.string (sL (cps ps)), .int .i64 (cps ps).length] w fun e w' => e = .returned (.tuple #[.int .i64 ln, .int .i64 ((1 + (aft ps).length : Nat) : Int), .int .i64 0]) ∧ Below w.heap.size w w' := by
  have hl := (cps_len ps).2
  obtain ⟨ln, h⟩ := place_l0 ps [] (ps.length + 10) 1 hok (by rw [List.nil_append]; omega) (by simp [colF]; omega) (Nat.le_refl _)
  rw [List.nil_append, colF_aft ps] at h
  have hf : utf_Place.f (ps.length + 11) (sL (cps ps)) ((cps ps).length : Int) = some (ln, ((1 + (aft ps).length : Nat) : Int), 0) := by
    unfold utf_Place.f
    rw [if_neg (by omega), show decide (((cps ps).length : Int) > ((sL (cps ps)).size : Int)) = false from decide_eq_false (by rw [sL_size]; omega)]
    simp only [utf_Place.j0]
    rw [if_neg (by simp)]
    exact h
  exact ⟨ln, fun w => utf_Place.calls _ _ _ _ _ _ w hf⟩

theorem get_sL (l : List UInt8) (j : Nat) (h : j < l.length) : (sL l).data[j]! = l[j] := by
  simp [sL, h]

theorem last_is (ps : List Nat) (hok : ∀ r ∈ ps, okR r = true) : ∃ j : Nat, Lib.lastIndexByte (sL (cps ps)) 10 = (j : Int) - 1 ∧ j ≤ (cps ps).length ∧ (cps ps).drop j = cps (aft ps) := by
  have hs := Lib.lastIdx_spec (sL (cps ps)) 10 (sL (cps ps)).size
  rw [sL_size] at hs
  unfold Lib.lastIndexByte
  rw [sL_size]
  rcases aft_spec ps with ⟨h1, h2⟩ | ⟨pre, h1, h2⟩
  · have hno := cps_no10 ps hok h1
    rcases hs with ⟨h, _⟩ | ⟨i, hi, _, h, _⟩
    · exact ⟨0, by rw [h]; rfl, by omega, by rw [h2]; rfl⟩
    · rw [get_sL _ i hi] at h
      exact absurd (by omega) (hno _ (List.getElem_mem hi))
  · have hc : cps ps = cps pre ++ 10 :: cps (aft ps) := by
      conv => lhs; rw [h1]
      rw [cps_append, cps_cons]
      rfl
    have hno := cps_no10 (aft ps) (fun r hr => hok r (by rw [h1]; simp [hr])) h2
    have hl : (cps ps).length = (cps pre).length + 1 + (cps (aft ps)).length := by rw [hc]; simp; omega
    have h10 : (cps ps)[(cps pre).length]'(by omega) = 10 := by simp [hc]
    rcases hs with ⟨_, h⟩ | ⟨i, hi, he, h, h'⟩
    · exact absurd (by rw [get_sL _ _ (by omega), h10]; rfl) (h (cps pre).length (by omega))
    · have : i = (cps pre).length := by
        rcases Nat.lt_trichotomy i (cps pre).length with hlt | heq | hgt
        · exact absurd (by rw [get_sL _ _ (by omega), h10]; rfl) (h' (cps pre).length hlt (by omega))
        · exact heq
        · exfalso
          rw [get_sL _ i hi] at h
          have hg : (cps ps)[i] ∈ cps (aft ps) := by
            have e : (cps ps)[i]? = (cps (aft ps))[i - (cps pre).length - 1]? := by
              conv => lhs; rw [hc]
              rw [List.getElem?_append_right (by omega)]
              obtain ⟨q, hq⟩ : ∃ q, i - (cps pre).length = q + 1 := ⟨i - (cps pre).length - 1, by omega⟩
              rw [hq]; simp
            rw [List.getElem?_eq_getElem hi] at e
            exact List.mem_of_getElem? e.symm
          exact hno _ hg (by omega)
      subst this
      refine ⟨(cps pre).length + 1, by rw [he]; omega, by omega, ?_⟩
      conv => lhs; rw [hc]
      rw [show cps pre ++ 10 :: cps (aft ps) = (cps pre ++ [10]) ++ cps (aft ps) from by simp]
      rw [show (cps pre).length + 1 = (cps pre ++ [10]).length from by simp, List.drop_left]

theorem prefix_is (a b : List Nat) : Lib.hasPrefix (cps (a ++ b)) (cps a) = true := by
  rw [cps_append]
  unfold Lib.hasPrefix
  simp

theorem sL_drop' (l : List UInt8) (n : Nat) : (sL l).extract n l.length = sL (l.drop n) := by
  have := sL_drop l n
  rw [sL_size] at this
  exact this
theorem slice_of_owns {w : World} {B e n : Nat} {v : Value} {xs : List Value} (h : w.ownsRow B e 1 v n xs) : ∃ p c, v = .slice p n c := by
  rcases h.2 with ⟨rfl, rfl⟩ | ⟨g, cap, cur, rfl, _⟩
  · exact ⟨none, 0, rfl⟩
  · exact ⟨_, _, rfl⟩

set_option maxRecDepth 100000 in
set_option maxHeartbeats 4000000 in
theorem utfMended_walk (l : List UInt8) (n : Int) (L : Nat) (hL : min (l.length : Int) 200 = (L : Int)) (w : World) :
    Calls Try.prog 7 #[.string (sL l), .int .i64 n] w fun e w' => e = .returned (.bool true) ∧ Below w.heap.size w w' := by
  have hLl : L ≤ l.length := by omega
  have hL2 : L ≤ 200 := by omega
  obtain ⟨hm1, hm2⟩ := mp_spec _ (l.take L) (Nat.le_refl _)
  rw [List.length_take] at hm1
  have hM := fun v => mend_any (l.take L) (by rw [List.length_take]; omega) v
  generalize hps : mp (l.take L) = ps at hm1 hm2 hM
  have hpL : ps.length ≤ L := by omega
  have hcl := (cps_len ps).2
  obtain ⟨N, hN⟩ : ∃ N : Nat, (N : Int) = n % (((cps ps).length : Int) + 1) := ⟨(n % (((cps ps).length : Int) + 1)).toNat, by have := Int.emod_nonneg n (show ((cps ps).length : Int) + 1 ≠ 0 by omega); omega⟩
  have hNle : N ≤ (cps ps).length := by have := Int.emod_lt_of_pos n (show 0 < ((cps ps).length : Int) + 1 by omega); omega
  have hB := fun v => below_any n (((cps ps).length : Int) + 1) (by omega) (by omega) v
  rw [← hN] at hB
  obtain ⟨a, b, hab, hc1, hc2, hcut⟩ := cut_any ps hm2 (by omega) N hNle
  obtain ⟨ln, hplace⟩ := place_any ps hm2 (by omega)
  obtain ⟨j, hj, hjle, hjd⟩ := last_is ps hm2
  have hlast := fun v => Try.strings_LastIndexByte (sL (cps ps)) 10 (by rw [sL_size]; omega) v
  rw [hj] at hlast
  have hoa : ∀ r ∈ a, okR r = true := fun r hr => hm2 r (by rw [hab]; simp [hr])
  have haL : a.length ≤ L := by rw [hab, List.length_append] at hpL; omega
  have haft : (aft ps).length ≤ ps.length ∧ ∀ r ∈ aft ps, okR r = true := by
    rcases aft_spec ps with ⟨_, h⟩ | ⟨pre, h, _⟩
    · rw [h]; exact ⟨Nat.le_refl _, hm2⟩
    · constructor
      · conv => rhs; rw [h]
        simp; omega
      · intro r hr; exact hm2 r (by rw [h]; simp [hr])
  have hR1 := fun v => runes_any ps hm2 (by omega) v
  have hR2 := fun v => runes_any a hoa (by omega) v
  have hR3 := fun v => runes_any (aft ps) haft.2 (by omega) v
  have hMM := fun v => mend_any (cps ps) (by omega) v
  rw [mp_cps ps hm2] at hMM
  have hpre := fun v => Try.strings_HasPrefix (sL (cps ps)) (sL (cps a)) v
  rw [show (sL (cps ps)).data.toList = cps ps from rfl, show (sL (cps a)).data.toList = cps a from rfl, show Lib.hasPrefix (cps ps) (cps a) = true from by rw [hab]; exact prefix_is a b] at hpre
  have hca := (cps_len a).2
  have hA := haft.1
  generalize (aft ps).length = A at *
  have s1 := sL_size l
  have s2 := sL_size (cps ps)
  have s3 := sL_size (cps a)
  have C := Lib.hid (And.intro hM (And.intro hB (And.intro hcut (And.intro hplace (And.intro hlast (And.intro hR1 (And.intro hR2 (And.intro hR3 (And.intro hMM hpre)))))))))
  have HJ := Lib.hid hjd
  have HP := Lib.hid s2
  clear hM hB hcut hplace hlast hR1 hR2 hR3 hMM hpre hj hjd hm2 hoa haft hps hab hN
  go_enter Try.func7, Try.ntmps7
  go_wp2_with fail
  rw [sL_take]
  refine (C.out.1 _).mono ?_; rintro e w1 ⟨rfl, k1⟩
  have K1 := Lib.hid k1
  clear k1
  go_wp2_with fail
  refine (C.out.2.2.2.2.2.1 _).mono ?_; rintro e w2 ⟨v1, rfl, o1, k2⟩
  obtain ⟨p1, c1, rfl⟩ := slice_of_owns o1
  have K2 := Lib.hid k2
  clear k2 o1
  go_wp2_with fail
  refine (C.out.2.1 _).mono ?_; rintro e w3 ⟨rfl, rfl⟩
  go_wp2_with fail
  refine (C.out.2.2.1 _).mono ?_; rintro e w3 ⟨rfl, k3⟩
  have K3 := Lib.hid k3
  clear k3
  go_wp2_with fail
  refine (C.out.2.2.2.2.2.2.1 _).mono ?_; rintro e w4 ⟨v2, rfl, o2, k4⟩
  obtain ⟨p2, c2, rfl⟩ := slice_of_owns o2
  have K4 := Lib.hid k4
  clear k4 o2
  go_wp2_with fail
  refine (C.out.2.2.2.1 _).mono ?_; rintro e w5 ⟨rfl, k5⟩
  have K5 := Lib.hid k5
  clear k5
  go_wp2_with fail
  refine (C.out.2.2.2.2.1 _).mono ?_; rintro e w6 ⟨rfl, rfl⟩
  go_wp2_with fail
  rw [sL_drop', HJ.out]
  refine (C.out.2.2.2.2.2.2.2.1 _).mono ?_; rintro e w7 ⟨v3, rfl, o3, k7⟩
  obtain ⟨p3, c3, rfl⟩ := slice_of_owns o3
  have K7 := Lib.hid k7
  clear k7 o3
  go_wp2_with fail
  refine (coded_any _).mono ?_; rintro e w8 ⟨rfl, k8⟩
  have K8 := Lib.hid k8
  clear k8
  go_wp2_with fail
  refine (C.out.2.2.2.2.2.2.2.2.1 _).mono ?_; rintro e w9 ⟨rfl, k9⟩
  have K9 := Lib.hid k9
  clear k9
  go_wp2_with fail
  refine (C.out.2.2.2.2.2.2.2.2.2 _).mono ?_; rintro e w10 ⟨rfl, rfl⟩
  go_wp2_with fail
  go_ret
  have z1 := K1.out.size
  have z2 := K2.out.size
  have z3 := K3.out.size
  have z4 := K4.out.size
  have z5 := K5.out.size
  have z7 := K7.out.size
  have z8 := K8.out.size
  refine ⟨ret_bool ?_, ?_⟩
  · rw [sL_size, List.length_take]
    exact decide_eq_true hm1
  · exact ((((((K1.out.trans (K2.out.mono z1)).trans (K3.out.mono (by omega))).trans (K4.out.mono (by omega))).trans (K5.out.mono (by omega))).trans (K7.out.mono (by omega))).trans (K8.out.mono (by omega))).trans (K9.out.mono (by omega))

theorem utfMended_law (s : ByteArray) (n : Int) (w : World) :
    Calls Try.prog 7 #[.string s, .int .i64 n] w fun e w' => e = .returned (.bool true) ∧ Below w.heap.size w w' := by
  have h := utfMended_walk s.data.toList n (min s.data.toList.length 200) (by omega) w
  rw [sL_data] at h
  exact h

end Go.Proofs.Ytpoolbachhelgaa
