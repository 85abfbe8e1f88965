/- clapkeep1.DayBack answers true. -/
import Derived.Test.YtpoolbachhelgaaDoorDayRead
import Derived.Test.YtpoolbachhelgaaDoorBelow
namespace Go.Proofs.YtpoolbachhelgaaDoor
open Go.RowKit

def dayOk (w : World) : Prop := pow10Ok w ∧ maxOk w ∧ errOk w
theorem dayOk.below {w w' : World} (h : dayOk w) (hb : Below w.heap.size w w') : dayOk w' := ⟨h.1.below hb, h.2.1.below hb, h.2.2.below hb⟩
theorem year_exists (d : Nat) : ∃ y : Nat, IsYear (d : Int) y := by
  induction d with
  | zero => exact ⟨1, by unfold IsYear beforeI; decide⟩
  | succ d ih =>
    obtain ⟨y, h1, h2, h3⟩ := ih
    by_cases h : ((d + 1 : Nat) : Int) < beforeI ((y : Int) + 1)
    · exact ⟨y, h1, by omega, h⟩
    · have e := year_len ((y : Int) + 1) (by omega)
      have hlp : 0 ≤ lp ((y : Int) + 1) := by unfold lp; split <;> omega
      exact ⟨y + 1, by omega, by rw [show ((y + 1 : Nat) : Int) = (y : Int) + 1 by omega]; omega, by rw [show ((y + 1 : Nat) : Int) = (y : Int) + 1 by omega]; omega⟩
theorem week_exists (d : Int) (h : 0 ≤ d) : ∃ y k : Nat, IsWeek d y k := by
  obtain ⟨y, hy⟩ := year_exists (d - d % 7 + 3).toNat
  rw [show (((d - d % 7 + 3).toNat : Nat) : Int) = d - d % 7 + 3 by omega] at hy
  have h2 := hy.2.1
  refine ⟨y, ((d - d % 7 + 3 - beforeI y) / 7 + 1).toNat, hy, ?_⟩
  omega
theorem month_exists (y r : Int) (h0 : 0 ≤ r) : ∀ t : Nat, t ≤ 12 → r < cumI y ((t : Int) + 1) → ∃ m : Nat, 1 ≤ m ∧ m ≤ t ∧ cumI y m ≤ r ∧ r < cumI y ((m : Int) + 1)
  | 0, _, h => by
    have : cumI y (((0 : Nat) : Int) + 1) = 0 := by unfold cumI; simp
    omega
  | t + 1, ht, h => by
    by_cases hlt : r < cumI y ((t : Int) + 1)
    · obtain ⟨m, a, b, c, e⟩ := month_exists y r h0 t (by omega) hlt
      exact ⟨m, a, by omega, c, e⟩
    · exact ⟨t + 1, by omega, Nat.le_refl _, by rw [show ((t + 1 : Nat) : Int) = (t : Int) + 1 by omega]; omega, h⟩
theorem date_exists (d : Int) (h : 0 ≤ d) : ∃ y m n : Nat, IsDate d y m n := by
  obtain ⟨y, hy⟩ := year_exists d.toNat
  rw [show ((d.toNat : Nat) : Int) = d by omega] at hy
  have e := year_len (y : Int) hy.1
  have h2 := hy.2.1
  have h3 := hy.2.2
  obtain ⟨m, a, b, c, f⟩ := month_exists (y : Int) (d - beforeI y) (by omega) 12 (by omega) (by rw [show ((12 : Nat) : Int) + 1 = 13 from rfl, cum13]; omega)
  have g := cum_next (y : Int) (m : Int) (by omega) (by omega)
  exact ⟨y, m, (d - beforeI y - cumI y m + 1).toNat, hy, by omega, by omega, by omega, by omega, by omega⟩
theorem small_str (L : List Nat) (h : L.length ≤ 1000) : (strN L).size ≤ 1000 := by rw [strN_size]; exact h

def BackRel (w : World) (iv : Value) (wr : World) : Prop := ∃ i : Nat, i ≤ 3 ∧ iv = .int .i64 i ∧ Below w.heap.size w wr

set_option maxRecDepth 100000 in
set_option maxHeartbeats 4000000 in
theorem dayBack_walk (d0 k0 : Int) (w : World) (hw : dayOk w) :
    Calls Tryd.prog 7 #[.int .i64 d0, .int .i64 k0] w fun e w' => e = .returned (.bool true) ∧ Below w.heap.size w w' := by
  have H1 := Lib.hid (below_any d0 4194305 (by decide) (by decide))
  have H2 := Lib.hid (below_any k0 4194305 (by decide) (by decide))
  have d1 : 0 ≤ d0 % 4194305 := by omega
  have d2 : d0 % 4194305 ≤ 4194304 := by omega
  have e1 : 0 ≤ k0 % 4194305 := by omega
  have e2 : k0 % 4194305 ≤ 4194304 := by omega
  generalize d0 % 4194305 = d at *
  generalize k0 % 4194305 = k at *
  have HP := Lib.hid (parts_any d d1 d2)
  have HPk := Lib.hid (parts_any k e1 e2)
  have HDt := Lib.hid (fun w h => dated_any w h)
  have HQ := Lib.hid hw
  clear hw
  go_enter Tryd.func7, Tryd.ntmps7
  go_wp2_with fail
  refine (H1.out _).mono ?_; rintro e w1 ⟨rfl, rfl⟩
  go_wp2_with fail
  refine (H2.out _).mono ?_; rintro e w1 ⟨rfl, rfl⟩
  go_wp2_with fail
  refine (HP.out _).mono ?_; rintro e w1 ⟨⟨y, m, n, hd, rfl⟩, rfl⟩
  obtain ⟨y, m, n, rfl, rfl, rfl⟩ := date_nats hd
  have HOf := Lib.hid (of_any d y m n hd d1 d2)
  have HD := Lib.hid hd
  clear hd
  go_wp2_with fail
  refine (HOf.out _).mono ?_; rintro e w1 ⟨rfl, rfl⟩
  go_wp2_with fail
  refine (HDt.out w HQ.out.1).mono ?_; rintro e w1 ⟨rfl, b1⟩
  have HB1 := Lib.hid b1
  clear b1
  go_wp2_with fail
  obtain ⟨wy, wk, hwk⟩ := week_exists d d1
  obtain ⟨j, hj⟩ : ∃ j : Nat, d % 7 + 1 = (j : Int) := ⟨(d % 7 + 1).toNat, by omega⟩
  obtain ⟨q, hq⟩ : ∃ q : Nat, d - beforeI y + 1 = (q : Int) := ⟨(d - beforeI y + 1).toNat, by have := HD.out.year.2.1; omega⟩
  have hy := year_small HD.out.year.1 HD.out.year.2.1 (show d ≤ 4194400 by omega)
  have hwy := year_small hwk.1.1 hwk.1.2.1 (show d - d % 7 + 3 ≤ 4194400 by omega)
  have hwb := week_bounds hwk
  have hm2 := HD.out.m2
  have hmp := months_pos (y : Int) (m : Int) HD.out.m1 HD.out.m2
  have hn2 := HD.out.n2
  have hq1 : q < 1000000 := by
    have := HD.out.year.2.2
    have e := year_len (y : Int) HD.out.year.1
    have : lp (y : Int) ≤ 1 := by unfold lp; split <;> omega
    omega
  have T0 := fun w (h : dayOk w) => textDate_any d y m n HD.out d1 d2 w h.1
  have T1 := fun w (h : dayOk w) => textOrd_any d y q HD.out.year hq d1 d2 w h.1
  have T2 := fun w (h : dayOk w) => textWeek_any d wy wk hwk j hj d1 d2 w h.1
  have l0 := small_str (dateL y m n) (by have := padL_length 4 y (by omega) (by omega); have := padL_length 2 m (by omega) (by omega); have := padL_length 2 n (by omega) (by omega); simp [dateL]; omega)
  have l1 := small_str (ordL y q) (by have := padL_length 4 y (by omega) (by omega); have := padL_length 3 q (by omega) (by omega); simp [ordL]; omega)
  have l2 := small_str (weekL wy wk j) (by rw [weekL_join]; exact week_len wy wk j (by omega) (by omega) (by omega))
  have R0 := fun w (h : dayOk w) => dayRead_any (strN (dateL y m n)) l0 d 0 (by decide) dayOk (fun _ _ h b => h.below b) (fun i _ hi => by omega) (fun w h => guessDate_any d y m n HD.out d1 d2 w h.2.1) T0 w h
  have R1 := fun w (h : dayOk w) => dayRead_any (strN (ordL y q)) l1 d 1 (by decide) dayOk (fun _ _ h b => h.below b) (fun i w hi h => by
    obtain rfl : i = 0 := by omega
    have g := guessShort_any (padL 4 y) [padL 3 q] (by
      intro p hp
      simp only [List.mem_cons, List.mem_nil_iff, or_false] at hp
      rcases hp with rfl | rfl <;> exact digC_minus (padV_lt _ _)) (by
      have := padL_length 4 y (by omega) (by omega); have := padL_length 3 q (by omega) (by omega)
      rw [joinC2]; simp; omega) 0 (Or.inl ⟨rfl, rfl⟩) w h.2.1
    exact g) (fun w h => guessOrd_any d y q HD.out.year hq d1 d2 w h.2.1) T1 w h
  have R2 := fun w (h : dayOk w) => dayRead_any (strN (weekL wy wk j)) l2 d 2 (by decide) dayOk (fun _ _ h b => h.below b) (fun i w hi h => by
    rcases (show i = 0 ∨ i = 1 by omega) with rfl | rfl
    · exact guessWeek0_any wy wk j (by omega) (by omega) (by omega) w h.2.1 h.2.2
    · have g := guessShort_any (padL 4 wy) [87 :: padL 2 wk, (ds 10 j).map digC] (week_pieces wy wk j) (week_len wy wk j (by omega) (by omega) (by omega)) 1 (Or.inr ⟨rfl, rfl⟩) w h.2.1
      rw [← weekL_join] at g
      exact g) (fun w h => guessWeek2_any d wy wk hwk j hj d1 d2 w h.2.1) T2 w h
  obtain ⟨ky, km, kn, hk⟩ := date_exists k e1
  have hky := year_small hk.year.1 hk.year.2.1 (show k ≤ 4194400 by omega)
  have hkm := hk.m2
  have hkp := months_pos (ky : Int) (km : Int) hk.m1 hk.m2
  have hkn := hk.n2
  have K0 := fun w (h : dayOk w) => textDate_any k ky km kn hk e1 e2 w h.1
  have hord : (strN (dateL y m n)).size = (strN (dateL ky km kn)).size → Op.bytesLess (strN (dateL y m n)).data.toList (strN (dateL ky km kn)).data.toList = decide (d < k) := fun h => by
    rw [dateL_less y m n ky km kn (by omega) (by omega) (by omega) (by omega) h]
    exact decide_eq_decide.2 (date_order HD.out hk)
  generalize strN (dateL y m n) = s0 at *
  generalize strN (ordL y q) = s1 at *
  generalize strN (weekL wy wk j) = s2 at *
  generalize strN (dateL ky km kn) = s3 at *
  have HT0 := Lib.hid T0
  have HT1 := Lib.hid T1
  have HT2 := Lib.hid T2
  have HR0 := Lib.hid R0
  have HR1 := Lib.hid R1
  have HR2 := Lib.hid R2
  have HK0 := Lib.hid K0
  have HO := Lib.hid hord
  clear T0 T1 T2 R0 R1 R2 K0 hord hk hwk hj hq hwb hmp hn2 hkp hkn hq1
  go_loopw [48] (fun iv wr => BackRel w iv wr) (fun iv _ => 3 - (intOf iv).toNat)
  case atStart => exact ⟨0, by omega, rfl, HB1.out⟩
  case round =>
    obtain ⟨i, hi, rfl, hb⟩ := hrel
    have HB := Lib.hid hb
    have hq := HQ.out.below hb
    have HQr := Lib.hid hq
    clear hb hq
    rcases (show i = 0 ∨ i = 1 ∨ i = 2 ∨ i = 3 by omega) with rfl | rfl | rfl | rfl
    · go_wp2_with fail
      refine (HT0.out wr HQr.out).mono ?_; rintro e w2 ⟨rfl, b2⟩
      have HB2 := Lib.hid (HB.out.trans (b2.mono HB.out.size))
      clear b2
      go_wp2_with fail
      refine (HR0.out w2 (HQ.out.below HB2.out)).mono ?_; rintro e w3 ⟨rfl, b3⟩
      go_wp2_with fail
      exact ⟨⟨1, by omega, rfl, HB2.out.trans (b3.mono HB2.out.size)⟩, by simp [intOf]⟩
    · go_wp2_with fail
      refine (HT1.out wr HQr.out).mono ?_; rintro e w2 ⟨rfl, b2⟩
      have HB2 := Lib.hid (HB.out.trans (b2.mono HB.out.size))
      clear b2
      go_wp2_with fail
      refine (HR1.out w2 (HQ.out.below HB2.out)).mono ?_; rintro e w3 ⟨rfl, b3⟩
      go_wp2_with fail
      exact ⟨⟨2, by omega, rfl, HB2.out.trans (b3.mono HB2.out.size)⟩, by simp [intOf]⟩
    · go_wp2_with fail
      refine (HT2.out wr HQr.out).mono ?_; rintro e w2 ⟨rfl, b2⟩
      have HB2 := Lib.hid (HB.out.trans (b2.mono HB.out.size))
      clear b2
      go_wp2_with fail
      refine (HR2.out w2 (HQ.out.below HB2.out)).mono ?_; rintro e w3 ⟨rfl, b3⟩
      go_wp2_with fail
      exact ⟨⟨3, by omega, rfl, HB2.out.trans (b3.mono HB2.out.size)⟩, by simp [intOf]⟩
    · go_wp2_with fail
      refine (HT0.out wr HQr.out).mono ?_; rintro e w2 ⟨rfl, b2⟩
      have HB2 := Lib.hid (HB.out.trans (b2.mono HB.out.size))
      clear b2
      go_wp2_with fail
      refine (HK0.out w2 (HQ.out.below HB2.out)).mono ?_; rintro e w3 ⟨rfl, b3⟩
      have HB3 := Lib.hid (HB2.out.trans (b3.mono HB2.out.size))
      clear b3
      go_wp2_with fail
      · have hsz : (s0.size : Int) = s3.size := by assumption
        go_ret
        refine ⟨ret_bool ?_, HB3.out⟩
        rw [ByteArray.toList_eq, ByteArray.toList_eq, HO.out (by omega)]
        simp
      · go_ret
        exact ⟨rfl, HB3.out⟩

end Go.Proofs.YtpoolbachhelgaaDoor
