/- The contracts of day.padded and day.Text. -/
import Derived.Test.YtpoolbachhelgaaDoorDayT
import Derived.Test.YtpoolbachhelgaaDoorNum
namespace Go.Proofs.YtpoolbachhelgaaDoor
open Go.RowKit

theorem dsA_acc (b : Nat) : ∀ (f n : Nat) (acc : List Nat), dsA b f n acc = dsA b f n [] ++ acc
  | 0, _, _ => rfl
  | f + 1, n, acc => by
    simp only [dsA]
    split
    · rfl
    · rw [dsA_acc b f (n / b) (n % b :: acc), dsA_acc b f (n / b) [n % b], List.append_assoc]; rfl
theorem dsA_fuel (b : Nat) (hb : 2 ≤ b) : ∀ (f n : Nat) (acc : List Nat), n < f → ∀ f', n < f' → dsA b f n acc = dsA b f' n acc
  | 0, n, acc, h => by omega
  | f + 1, n, acc, h => fun f' h' => by
    obtain ⟨f', rfl⟩ : ∃ m, f' = m + 1 := ⟨f' - 1, by omega⟩
    simp only [dsA]
    split
    · rfl
    · rename_i hz
      have : n / b < n := Nat.div_lt_self (by rcases Nat.eq_zero_or_pos n with h0 | h0; · subst h0; simp at hz
                                              · exact h0) (by omega)
      exact dsA_fuel b hb f (n / b) _ (by omega) f' (by omega)
theorem ds_step (n : Nat) (h : 10 ≤ n) : ds 10 n = ds 10 (n / 10) ++ [n % 10] := by
  unfold ds
  rw [dsA, if_neg (by omega), dsA_acc, dsA_fuel 10 (by decide) n (n / 10) [] (by omega) (n / 10 + 1) (by omega)]
theorem ds_small (n : Nat) (h : n < 10) : ds 10 n = [n] := by
  unfold ds
  rw [dsA, if_pos (by omega), Nat.mod_eq_of_lt h]
theorem decDigits_ds (n : Nat) : Lib.decDigits n = u8s ((ds 10 n).map digC) := by
  induction n using Nat.strongRecOn with
  | ind n ih =>
    rw [Lib.decDigits]
    by_cases h : n < 10
    · rw [dif_pos h, ds_small n h]
      simp [u8s, digC, h]
    · rw [dif_neg h, ih (n / 10) (by omega), ds_step n (by omega)]
      have : n % 10 < 10 := by omega
      simp [u8s, digC, this]
theorem itoa_ds (n : Nat) : (⟨(Lib.itoa (n : Int)).toArray⟩ : ByteArray) = strN ((ds 10 n).map digC) := by
  unfold Lib.itoa
  rw [if_neg (by omega), Int.toNat_natCast, decDigits_ds]
  rfl

/-- The digits of a number, with zeros ahead of them. -/
def padV (width n : Nat) : List Nat := List.replicate (width - (ds 10 n).length) 0 ++ ds 10 n
def padL (width n : Nat) : List Nat := (padV width n).map digC
theorem padL_length (width n : Nat) (h : n < 1000000) (hw : width ≤ 4) : (padL width n).length ≤ 24 := by
  have := ds_length_le 10 n 19 (by decide) (by omega)
  simp [padL, padV]; omega

set_option maxRecDepth 100000 in
set_option maxHeartbeats 1000000 in
theorem padded_any (n width : Nat) (hn : n < 1000000) (hw : width ≤ 4) (w : World) (h : pow10Ok w) :
    Calls Tryd.prog 67 #[.int .i64 n, .int .i64 width] w fun e w' => e = .returned (.string (strN (padL width n))) ∧ Below w.heap.size w w' := by
  have HI := Tryd.strconv_Itoa n (by omega) (by omega) w h
  rw [itoa_ds] at HI
  have hl := ds_length_le 10 n 19 (by decide) (by omega)
  have hsz : (strN ((ds 10 n).map digC)).size = (ds 10 n).length := by rw [strN_size, List.length_map]
  obtain ⟨z, hz⟩ : ∃ z, z = width - (ds 10 n).length := ⟨_, rfl⟩
  have hr := fun w => Tryd.strings_Repeat ⟨#[48]⟩ z w (by omega) (by show 1 * z ≤ _; omega)
  rw [show (⟨#[48]⟩ : ByteArray).data.toList = [48] from rfl, show ∀ k, (⟨(Lib.repeatL [48] k).toArray⟩ : ByteArray) = strN ((List.replicate k 0).map digC) from repeatL_zero] at hr
  have hzs : (strN ((List.replicate z 0).map digC)).size = z := by rw [strN_size]; simp
  have hsp : strN (padL width n) = strN ((List.replicate z 0).map digC) ++ strN ((ds 10 n).map digC) := by
    rw [hz, ← strN_append, ← List.map_append]; rfl
  have m1 : max (0 : Int) ((width : Int) - ((ds 10 n).length : Int)) = (z : Int) := by omega
  have s1 : IntKind.i64.wrap ((width : Int) - ((ds 10 n).length : Int)) = (width : Int) - ((ds 10 n).length : Int) := IntWalk.i64_in _ ⟨by omega, by omega⟩
  have zb : z ≤ 4 := by omega
  rw [hsp]
  generalize strN ((List.replicate z 0).map digC) = X at *
  generalize strN ((ds 10 n).map digC) = Y at *
  generalize (ds 10 n).length = L at *
  have HIt := Lib.hid HI
  have HR := Lib.hid hr
  clear HI hr hsp hz
  go_enter Tryd.func67, Tryd.ntmps67
  go_wp2_with fail
  refine HIt.out.mono ?_; rintro e w1 ⟨rfl, k, os, rfl⟩
  go_wp2_with fail
  refine (HR.out _).mono ?_; rintro e w2 ⟨rfl, b2⟩
  go_wp2_with fail
  go_ret
  exact ⟨rfl, (Lib.below_grow _ _ (Nat.le_refl _) k os).trans (b2.mono (Lib.below_grow _ _ (Nat.le_refl _) k os).size)⟩

theorem pow10Ok.below {w w' : World} (h : pow10Ok w) (hb : Below w.heap.size w w') : pow10Ok w' := by
  unfold pow10Ok Lib.TabIs World.var? at *
  cases hg : Tryd.prog.globalNamed "internal/strconv.uint64pow10" with
  | none => simp [hg] at h
  | some g =>
    simp only [hg, Option.bind_some] at h ⊢
    have hlt : g < w.heap.size := by
      rcases Nat.lt_or_ge g w.heap.size with h' | h'
      · exact h'
      · simp [Array.getElem?_eq_none h'] at h
    rw [hb.block g hlt]
    exact h

def dateL (y m n : Nat) : List Nat := padL 4 y ++ 45 :: (padL 2 m ++ 45 :: padL 2 n)
def ordL (y k : Nat) : List Nat := padL 4 y ++ 45 :: padL 3 k
def weekL (y w k : Nat) : List Nat := padL 4 y ++ 45 :: 87 :: (padL 2 w ++ 45 :: (ds 10 k).map digC)
theorem dateL_str (y m n : Nat) : strN (padL 4 y) ++ ⟨#[45]⟩ ++ strN (padL 2 m) ++ ⟨#[45]⟩ ++ strN (padL 2 n) = strN (dateL y m n) := by
  unfold dateL
  rw [strN_append, strN_cons 45, strN_append, strN_cons 45]
  apply ByteArray.ext
  simp [strN]
theorem ordL_str (y k : Nat) : strN (padL 4 y) ++ ⟨#[45]⟩ ++ strN (padL 3 k) = strN (ordL y k) := by
  unfold ordL
  rw [strN_append, strN_cons 45]
  apply ByteArray.ext
  simp [strN]
theorem weekL_str (y w k : Nat) : strN (padL 4 y) ++ ⟨#[45, 87]⟩ ++ strN (padL 2 w) ++ ⟨#[45]⟩ ++ strN ((ds 10 k).map digC) = strN (weekL y w k) := by
  unfold weekL
  rw [strN_append, strN_cons 45, strN_cons 87, strN_append, strN_cons 45]
  apply ByteArray.ext
  simp [strN]
theorem ret2s {a b : ByteArray} {v : Value} (h : a = b) : Ending.returned (.tuple #[.string a, v]) = .returned (.tuple #[.string b, v]) := by rw [h]

set_option maxRecDepth 100000 in
set_option maxHeartbeats 2000000 in
theorem textDate_any (d : Int) (y m n : Nat) (hd : IsDate d y m n) (h0 : 0 ≤ d) (h1 : d ≤ 4194304) (w : World) (h : pow10Ok w) :
    Calls Tryd.prog 37 #[.int .i64 d, .int .i64 0] w fun e w' => e = .returned (.tuple #[.string (strN (dateL y m n)), .int .i64 0]) ∧ Below w.heap.size w w' := by
  have HP := Lib.hid (parts_any d h0 h1 w)
  have hy := year_small hd.year.1 hd.year.2.1 (show d ≤ 4194400 by omega)
  have hm := hd.m2
  have hn := months_pos (y : Int) (m : Int) hd.m1 hd.m2
  have hn2 := hd.n2
  have P1 := fun w hw => padded_any y 4 (by omega) (by omega) w hw
  have P2 := fun w hw => padded_any m 2 (by omega) (by omega) w hw
  have P3 := fun w hw => padded_any n 2 (by omega) (by omega) w hw
  have l1 := padL_length 4 y (by omega) (by omega)
  have l2 := padL_length 2 m (by omega) (by omega)
  have l3 := padL_length 2 n (by omega) (by omega)
  rw [← strN_size] at l1 l2 l3
  have hs := dateL_str y m n
  generalize strN (dateL y m n) = out at *
  generalize strN (padL 4 y) = A at *
  generalize strN (padL 2 m) = B at *
  generalize strN (padL 2 n) = C at *
  have H1 := Lib.hid P1
  have H2 := Lib.hid P2
  have H3 := Lib.hid P3
  have HS := Lib.hid hs
  have HD := Lib.hid hd
  have HT := Lib.hid h
  clear P1 P2 P3 hs hd hn hn2 h
  go_enter Tryd.func37, Tryd.ntmps37
  go_wp2_with fail
  refine HP.out.mono ?_; rintro e w1 ⟨⟨y', m', n', hd', rfl⟩, rfl⟩
  obtain ⟨e1, e2, e3⟩ := date_unique HD.out hd'
  subst e1; subst e2; subst e3
  clear hd'
  go_wp2_with fail
  refine (H1.out w HT.out).mono ?_; rintro e w1 ⟨rfl, k1⟩
  go_wp2_with fail
  refine (H2.out w1 (HT.out.below k1)).mono ?_; rintro e w2 ⟨rfl, k2⟩
  have K2 := Lib.hid (k1.trans (k2.mono k1.size))
  clear k1 k2
  go_wp2_with fail
  refine (H3.out w2 (HT.out.below K2.out)).mono ?_; rintro e w3 ⟨rfl, k3⟩
  go_wp2_with fail
  go_ret2
  exact ⟨ret2s HS.out, K2.out.trans (k3.mono K2.out.size)⟩

set_option maxRecDepth 100000 in
set_option maxHeartbeats 2000000 in
theorem textOrd_any (d : Int) (y k : Nat) (hy0 : IsYear d y) (hk : d - beforeI y + 1 = (k : Int)) (h0 : 0 ≤ d) (h1 : d ≤ 4194304) (w : World) (h : pow10Ok w) :
    Calls Tryd.prog 37 #[.int .i64 d, .int .i64 1] w fun e w' => e = .returned (.tuple #[.string (strN (ordL y k)), .int .i64 0]) ∧ Below w.heap.size w w' := by
  have HP := Lib.hid (parts_any d h0 h1 w)
  have hy := year_small hy0.1 hy0.2.1 (show d ≤ 4194400 by omega)
  have hy1 := hy0.1
  have hb0 : 0 ≤ beforeI y ∧ beforeI y ≤ d := ⟨by unfold beforeI; omega, hy0.2.1⟩
  have hk1 : k < 1000000 := by
    have := hy0.2.2
    have e := year_len (y : Int) hy1
    have : lp (y : Int) ≤ 1 := by unfold lp; split <;> omega
    omega
  have HB := Lib.hid (before_any (y : Int) hy1 (by omega))
  have P1 := fun w hw => padded_any y 4 (by omega) (by omega) w hw
  have P2 := fun w hw => padded_any k 3 (by omega) (by omega) w hw
  have l1 := padL_length 4 y (by omega) (by omega)
  have l2 := padL_length 3 k (by omega) (by omega)
  rw [← strN_size] at l1 l2
  have hs := ordL_str y k
  generalize strN (ordL y k) = out at *
  generalize strN (padL 4 y) = A at *
  generalize strN (padL 3 k) = B at *
  obtain ⟨b0, b1⟩ := hb0
  generalize beforeI y = b at *
  have s1 : IntKind.i64.wrap (d - b) = d - b := IntWalk.i64_in _ ⟨by omega, by omega⟩
  have s2 : IntKind.i64.wrap (d - b + 1) = (k : Int) := by rw [IntWalk.i64_in _ ⟨by omega, by omega⟩]; exact hk
  have H1 := Lib.hid P1
  have H2 := Lib.hid P2
  have HS := Lib.hid hs
  have HD := Lib.hid hy0
  have HT := Lib.hid h
  clear P1 P2 hs hy0 hk h
  go_enter Tryd.func37, Tryd.ntmps37
  go_wp2_with fail
  refine HP.out.mono ?_; rintro e w1 ⟨⟨y', m', n', hd', rfl⟩, rfl⟩
  have e1 := year_unique HD.out hd'.year
  subst e1
  clear hd'
  go_wp2_with fail
  refine (H1.out w HT.out).mono ?_; rintro e w1 ⟨rfl, k1⟩
  go_wp2_with fail
  refine (HB.out _).mono ?_; rintro e w2 ⟨rfl, rfl⟩
  go_wp2_with fail
  refine (H2.out w1 (HT.out.below k1)).mono ?_; rintro e w2 ⟨rfl, k2⟩
  go_wp2_with fail
  go_ret2
  exact ⟨ret2s HS.out, k1.trans (k2.mono k1.size)⟩

theorem week_unique {d a b p q : Int} (h : IsWeek d a b) (k : IsWeek d p q) : a = p ∧ b = q := by
  obtain ⟨h1, h2⟩ := h
  obtain ⟨k1, k2⟩ := k
  obtain rfl := year_unique h1 k1
  exact ⟨rfl, h2.trans k2.symm⟩
theorem week_bounds {d a b : Int} (h : IsWeek d a b) : 1 ≤ b ∧ b ≤ 53 := by
  obtain ⟨⟨h1, h2, h3⟩, rfl⟩ := h
  have e := year_len a h1
  have : lp a ≤ 1 := by unfold lp; split <;> omega
  omega

set_option maxRecDepth 100000 in
set_option maxHeartbeats 2000000 in
theorem textWeek_any (d : Int) (y k : Nat) (hw : IsWeek d y k) (j : Nat) (hj : d % 7 + 1 = (j : Int)) (h0 : 0 ≤ d) (h1 : d ≤ 4194304) (w : World) (h : pow10Ok w) :
    Calls Tryd.prog 37 #[.int .i64 d, .int .i64 2] w fun e w' => e = .returned (.tuple #[.string (strN (weekL y k j)), .int .i64 0]) ∧ Below w.heap.size w w' := by
  have HP := Lib.hid (parts_any d h0 h1 w)
  have HWk := Lib.hid (week_any d h0 h1 w)
  have HWd := weekday_any d h0 h1
  rw [hj] at HWd
  have HWd := Lib.hid HWd
  have hy := year_small hw.1.1 hw.1.2.1 (show d - d % 7 + 3 ≤ 4194400 by omega)
  have hy1 := hw.1.1
  have hk := week_bounds hw
  have P1 := fun w hw => padded_any y 4 (by omega) (by omega) w hw
  have P2 := fun w hw => padded_any k 2 (by omega) (by omega) w hw
  have P3 := fun w hw => Tryd.strconv_Itoa j (by omega) (by omega) w hw
  rw [itoa_ds] at P3
  have l1 := padL_length 4 y (by omega) (by omega)
  have l2 := padL_length 2 k (by omega) (by omega)
  have l3 : ((ds 10 j).map digC).length ≤ 24 := by rw [List.length_map]; have := ds_length_le 10 j 19 (by decide) (by omega); omega
  rw [← strN_size] at l1 l2 l3
  have hs := weekL_str y k j
  generalize strN (weekL y k j) = out at *
  generalize strN (padL 4 y) = A at *
  generalize strN (padL 2 k) = B at *
  generalize strN ((ds 10 j).map digC) = C at *
  have H1 := Lib.hid P1
  have H2 := Lib.hid P2
  have H3 := Lib.hid P3
  have HS := Lib.hid hs
  have HD := Lib.hid hw
  have HT := Lib.hid h
  clear P1 P2 P3 hs hw hk h hj
  go_enter Tryd.func37, Tryd.ntmps37
  go_wp2_with fail
  refine HP.out.mono ?_; rintro e w1 ⟨⟨y', m', n', hd', rfl⟩, rfl⟩
  clear hd'
  go_wp2_with fail
  refine HWk.out.mono ?_; rintro e w1 ⟨⟨a, b, hw', rfl⟩, rfl⟩
  obtain ⟨e1, e2⟩ := week_unique HD.out hw'
  subst e1; subst e2
  clear hw'
  go_wp2_with fail
  refine (H1.out w HT.out).mono ?_; rintro e w1 ⟨rfl, k1⟩
  go_wp2_with fail
  refine (H2.out w1 (HT.out.below k1)).mono ?_; rintro e w2 ⟨rfl, k2⟩
  have K2 := Lib.hid (k1.trans (k2.mono k1.size))
  clear k1 k2
  go_wp2_with fail
  refine (HWd.out _).mono ?_; rintro e w3 ⟨rfl, rfl⟩
  go_wp2_with fail
  refine (H3.out w2 (HT.out.below K2.out)).mono ?_; rintro e w3 ⟨rfl, q, os, rfl⟩
  go_wp2_with fail
  go_ret2
  exact ⟨ret2s HS.out, K2.out.trans ((Lib.below_grow _ _ (Nat.le_refl _) q os).mono K2.out.size)⟩

end Go.Proofs.YtpoolbachhelgaaDoor
