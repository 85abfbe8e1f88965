/- The contract of decimal.ReadFixed at the numerals of decimal.Fixed. -/
import Derived.Test.YtpoolbachhelgaaDoorRead
import Derived.Test.YtpoolbachhelgaaDoorFixed
import Derived.Test.YtpoolbachhelgaaDoorCutOne
import Derived.Shelf.Strings.SlTrimAscii
namespace Go.Proofs.YtpoolbachhelgaaDoor
open Go.RowKit

theorem trimDigits_any (s : ByteArray) (hs : s.size ≤ 1000000) (hd : ∀ b ∈ s.data.toList, (48 : UInt8) ≤ b ∧ b ≤ 57) (w : World) :
    Calls Tryd.prog 65 #[.string s, .string ⟨#[48, 49, 50, 51, 52, 53, 54, 55, 56, 57]⟩] w fun e w' => e = .returned (.string ⟨#[]⟩) ∧ Below w.heap.size w w' := by
  have hcon := Any.strings_Trim_laid Tryd.lays160 (by kernel_rfl) s ⟨#[48, 49, 50, 51, 52, 53, 54, 55, 56, 57]⟩ w (by omega) (by decide) (ascii_of_all (by decide))
  have e : Lib.trimS s.data.toList [48, 49, 50, 51, 52, 53, 54, 55, 56, 57] = [] := by
    have key0 : ∀ n : Fin 256, ((48 : UInt8) ≤ UInt8.ofNat n.1 ∧ UInt8.ofNat n.1 ≤ 57) → ([48, 49, 50, 51, 52, 53, 54, 55, 56, 57] : List UInt8).contains (UInt8.ofNat n.1) = true := by decide +kernel
    have key : ∀ b : UInt8, 48 ≤ b ∧ b ≤ 57 → ([48, 49, 50, 51, 52, 53, 54, 55, 56, 57] : List UInt8).contains b = true := by
      intro b hb
      have := key0 ⟨b.toNat, b.toNat_lt⟩
      simp only [UInt8.ofNat_toNat] at this
      exact this hb
    have h1 : ∀ l : List UInt8, (∀ b ∈ l, (48 : UInt8) ≤ b ∧ b ≤ 57) → l.dropWhile (([48, 49, 50, 51, 52, 53, 54, 55, 56, 57] : List UInt8).contains ·) = [] := by
      intro l hl
      induction l with
      | nil => rfl
      | cons a l ih =>
        rw [List.dropWhile_cons_of_pos (key a (hl a (List.mem_cons_self ..)))]
        exact ih (fun b hb => hl b (List.mem_cons_of_mem _ hb))
    unfold Lib.trimS Lib.trimLeftS Lib.trimRightS
    rw [h1 s.data.toList.reverse (fun b hb => hd b (List.mem_reverse.1 hb))]
    rfl
  refine hcon.mono fun e' w' ⟨he, hb⟩ => ⟨?_, hb⟩
  rw [he]
  show Ending.returned (.string ⟨(Lib.trimS s.data.toList [48, 49, 50, 51, 52, 53, 54, 55, 56, 57]).toArray⟩) = _
  rw [e]

theorem trimLeft_zeros (z : Nat) (l : List UInt8) (h : ∀ b t, l = b :: t → b ≠ 48) : Lib.trimLeftB (List.replicate z 48 ++ l) 48 = l := by
  unfold Lib.trimLeftB
  induction z with
  | zero =>
    cases l with
    | nil => rfl
    | cons b t =>
      have e : (b == (48 : UInt8)) = false := beq_eq_false_iff_ne.2 (h b t rfl)
      simp [e]
  | succ z ih => rw [List.replicate_succ, List.cons_append, List.dropWhile_cons_of_pos (by rfl)]; exact ih

theorem letters_ok {D : List Nat} (h : ∀ d ∈ D, d < 10) : ∀ c ∈ D.map digC, 48 ≤ c ∧ c ≤ 57 := by
  intro c hc
  obtain ⟨d, hd, rfl⟩ := List.mem_map.1 hc
  have := h d hd
  unfold digC
  rw [if_pos this]
  omega
theorem u8_bounds (c : Nat) (h1 : 48 ≤ c) (h2 : c ≤ 57) : (48 : UInt8) ≤ UInt8.ofNat c ∧ UInt8.ofNat c ≤ 57 := by
  have e : (UInt8.ofNat c).toNat = c := UInt8.toNat_ofNat_of_lt' (show c < UInt8.size by show c < 256; omega)
  exact ⟨UInt8.le_iff_toNat_le.2 (by rw [e]; exact h1), UInt8.le_iff_toNat_le.2 (by rw [e]; exact h2)⟩
theorem getD_map_digC (L : List Nat) (h : 1 ≤ L.length) : (L.map digC).getD 0 0 = digC (L.getD 0 0) := by
  cases L with
  | nil => simp at h
  | cons a t => rfl

set_option maxRecDepth 100000 in
set_option maxHeartbeats 2000000 in
theorem readFixed_any (neg : Bool) (n places : Nat) (hp : places ≤ 15) (hn : n ≤ 9007199254740992) (hneg : neg = true → 1 ≤ n) (w : World) :
    Calls Tryd.prog 34 #[.string (strN (fixL neg places (ds 10 n))), .int .i64 places] w fun e w' => e = .returned (.tuple #[.int .i64 (if neg then -(n : Int) else n), .int .i64 0]) ∧ Below w.heap.size w w' := by
  have hDlt := ds_lt 10 n (by decide)
  have hDlen := ds_length_le 10 n 53 (by decide) (by omega)
  have hDpos := ds_length_pos 10 n (by decide)
  have hDev := ev_ds 10 n (by decide)
  have hDhead : 1 ≤ n → (ds 10 n).getD 0 0 ≠ 0 := by
    intro h
    obtain ⟨x, t, e, hx⟩ := ds_head 10 n (by decide) h
    rw [e]; exact hx
  have hD0 : n = 0 → ds 10 n = [0] := by rintro rfl; exact ds_zero 10
  have hone : 2 ≤ (ds 10 n).length → 1 ≤ n := by
    intro h
    rcases Nat.eq_zero_or_pos n with h0 | h0
    · rw [hD0 h0] at h; simp at h
    · exact h0
  have hdne : neg = true → ds 10 n ≠ [0] := by
    intro h e
    have := hDhead (hneg h)
    rw [e] at this
    exact this rfl
  have HR := read_any neg (ds 10 n) 10 (by decide) (by decide) hDlt hDpos (by omega) (fun h => hDhead (hone h)) hdne (by rw [hDev]; exact hn)
  have HR1 := read_any false (ds 10 n) 10 (by decide) (by decide) hDlt hDpos (by omega) (fun h => hDhead (hone h)) (fun h => by cases h) (by rw [hDev]; exact hn)
  rw [hDev] at HR HR1
  obtain ⟨vz, hvz⟩ : ∃ vz : Int, vz = (if neg then -(n : Int) else n) := ⟨_, rfl⟩
  rw [← hvz] at HR ⊢
  have HVz := Lib.hid hvz
  clear hvz
  have hfix : fixL neg places (ds 10 n) = signed neg (if places = 0 then (ds 10 n).map digC else pointed places ((padD places (ds 10 n)).map digC)) := rfl
  rw [hfix]
  have t1 : decide ((places : Int) < 0) = false := decide_eq_false (by omega)
  have t2 : decide (15 < (places : Int)) = false := decide_eq_false (by omega)
  by_cases hp0 : places = 0
  · subst hp0
    rw [if_pos rfl]
    have hsz : (strN (signed neg ((ds 10 n).map digC))).size ≤ 80 := by rw [strN_size]; cases neg <;> simp [signed] <;> omega
    generalize strN (signed neg ((ds 10 n).map digC)) = s at *
    have H := Lib.hid HR
    have t3 : decide (80 < (s.size : Int)) = false := decide_eq_false (by omega)
    have t4 : decide (80 < s.size) = false := decide_eq_false (by omega)
    clear HR HR1 hDhead hD0 hone hdne hDlt hDev
    go_enter Tryd.func34, Tryd.ntmps34
    go_wp2_with fail
    refine (H.out _).mono ?_; rintro e w1 ⟨rfl, b1⟩
    go_wp2_with fail
    go_ret2
    exact ⟨rfl, b1⟩
  · rw [if_neg hp0]
    clear HR hfix
    obtain ⟨z, hz⟩ : ∃ z, z = places + 1 - (ds 10 n).length := ⟨_, rfl⟩
    have hpad : padD places (ds 10 n) = List.replicate z 0 ++ ds 10 n := by rw [hz]; rfl
    have hdig : ∀ d ∈ padD places (ds 10 n), d < 10 := by
      rw [hpad]
      intro d hd
      rcases List.mem_append.1 hd with hd | hd
      · rw [List.eq_of_mem_replicate hd]; decide
      · exact hDlt d hd
    have hlet := letters_ok hdig
    obtain ⟨PL, hPL⟩ : ∃ PL, PL = (padD places (ds 10 n)).map digC := ⟨_, rfl⟩
    rw [← hPL] at hlet ⊢
    have hml : PL.length = z + (ds 10 n).length := by rw [hPL, hpad]; simp
    obtain ⟨k, hk⟩ : ∃ k, k = PL.length - places := ⟨_, rfl⟩
    have hpt : pointed places PL = PL.take k ++ 46 :: PL.drop k := by rw [hk]; rfl
    have hk1 : 1 ≤ k := by omega
    have hkm : k ≤ PL.length := by omega
    have hkp : PL.length - k = places := by omega
    have hmem : ∀ c ∈ pointed places PL, c < 256 ∧ c ≠ 45 := by
      rw [hpt]
      intro c hc
      rcases List.mem_append.1 hc with hc | hc
      · have := hlet c (List.mem_of_mem_take hc); omega
      · rcases List.mem_cons.1 hc with rfl | hc
        · decide
        · have := hlet c (List.mem_of_mem_drop hc); omega
    obtain ⟨hc1, hc2⟩ := cut_sign neg (pointed places PL) hmem
    have hcut := Tryd.strings_CutPrefix (strN (signed neg (pointed places PL))) ⟨#[45]⟩ w
    rw [show (⟨#[45]⟩ : ByteArray).data.toList = [45] from rfl, hc1, hc2, show (⟨(strN (pointed places PL)).data.toList.toArray⟩ : ByteArray) = strN (pointed places PL) from rfl] at hcut
    have hlp : (pointed places PL).length = PL.length + 1 := by rw [hpt]; simp; omega
    have hsz : (strN (signed neg (pointed places PL))).size ≤ 80 := by rw [strN_size]; cases neg <;> simp [signed, hlp] <;> omega
    have hbs : (strN (pointed places PL)).size = PL.length + 1 := by rw [strN_size, hlp]
    have hix : Lib.indexByte (strN (pointed places PL)).data.toList 46 = (k : Int) := by
      rw [strN_data, hpt, List.map_append, List.map_cons]
      have := indexByte_at ((PL.take k).map UInt8.ofNat) ((PL.drop k).map UInt8.ofNat) 46 (by
        intro b hb
        obtain ⟨c, hc, rfl⟩ := List.mem_map.1 hb
        have := hlet c (List.mem_of_mem_take hc)
        exact ofNat_ne (a := c) (b := 46) (by omega) (by omega) (by omega))
      rw [show UInt8.ofNat 46 = 46 from rfl, this]
      simp; omega
    have hc := fun w => cutOne_at (strN (pointed places PL)) 46 k hix (by omega) (by omega) w
    have e1 : (strN (pointed places PL)).extract 0 k = strN (PL.take k) := by
      rw [strN_take, hpt, List.take_append_of_le_length (by simp; omega), List.take_take, Nat.min_self]
    have e2 : (strN (pointed places PL)).extract (k + 1) (strN (pointed places PL)).size = strN (PL.drop k) := by
      rw [strN_size, strN_drop, hpt]
      rw [show PL.take k ++ 46 :: PL.drop k = (PL.take k ++ [46]) ++ PL.drop k from by simp, List.drop_left' (by simp; omega)]
    rw [e1, e2] at hc
    have hws : (strN (PL.take k)).size = k := by rw [strN_size]; simp; omega
    have hps : (strN (PL.drop k)).size = places := by rw [strN_size]; simp; omega
    have hwp : strN (PL.take k) ++ strN (PL.drop k) = strN PL := by rw [← strN_append, List.take_append_drop]
    have has : (strN PL).size = PL.length := strN_size _
    have hld : ∀ b ∈ (strN PL).data.toList, (48 : UInt8) ≤ b ∧ b ≤ 57 := by
      intro b hb
      rw [strN_data] at hb
      obtain ⟨c, hc, rfl⟩ := List.mem_map.1 hb
      have := hlet c hc
      exact u8_bounds c this.1 this.2
    have htr := fun w => trimDigits_any (strN PL) (by omega) hld w
    have htl := fun w => Tryd.strings_TrimLeft_one (strN PL) 48 (by decide) w
    have hdata : (strN PL).data.toList = List.replicate z 48 ++ ((ds 10 n).map digC).map UInt8.ofNat := by
      rw [strN_data, hPL, hpad, List.map_append, List.map_append]
      congr 1
      simp [digC]
    have hfirst : 2 ≤ k → ∀ h : 0 < (strN (PL.take k)).size, ((((strN (PL.take k))[0]'h).toNat : Int) == 48) = false := by
      intro h2 h
      have hz0 : z = 0 := by omega
      have hn1 : 1 ≤ n := hone (by omega)
      have hh := hDhead hn1
      have hg := strN_getD (PL.take k) (fun c hc => by have := hlet c (List.mem_of_mem_take hc); omega) 0 (by simp; omega)
      have h3 : (strN (PL.take k)).data.toList.getD 0 0 = (strN (PL.take k))[0]'h := by simp [List.getD, show 0 < (strN (PL.take k)).size by omega]; rfl
      rw [h3] at hg
      have h4 : (PL.take k).getD 0 0 = digC ((ds 10 n).getD 0 0) := by
        have h5 : (PL.take k).getD 0 0 = PL.getD 0 0 := by simp [List.getD, show 0 < k by omega]
        rw [h5, hPL, hpad, hz0, List.replicate_zero, List.nil_append, getD_map_digC _ hDpos]
      rw [beq_eq_false_iff_ne, hg, h4]
      have hd9 : (ds 10 n).getD 0 0 < 10 := by
        have : (ds 10 n).getD 0 0 ∈ ds 10 n := by
          have e : (ds 10 n).getD 0 0 = (ds 10 n)[0]'(by omega) := by simp [List.getD, show 0 < (ds 10 n).length by omega]
          rw [e]; exact List.getElem_mem _
        exact hDlt _ this
      unfold digC
      rw [if_pos hd9]
      omega
    have tpl : ((places : Int) == 0) = false := beq_eq_false_iff_ne.2 (by omega)
    have t3 : decide (80 < ((strN (signed neg (pointed places PL))).size : Int)) = false := decide_eq_false (by omega)
    have t4 : decide (80 < (strN (signed neg (pointed places PL))).size) = false := decide_eq_false (by omega)
    have tw : (strN (PL.take k)).toList.isEmpty = false := toList_nonempty _ (by omega)
    have td : (strN ((ds 10 n).map digC)).toList.isEmpty = false := toList_nonempty _ (by rw [strN_size, List.length_map]; exact hDpos)
    have hcase : (decide (1 < (k : Int)) = false) ∨ (decide (1 < (k : Int)) = true ∧ 2 ≤ k) := by
      by_cases h : 1 < k
      · exact Or.inr ⟨decide_eq_true (by omega), h⟩
      · exact Or.inl (decide_eq_false (by omega))
    have hn0 : n = 0 ∨ 1 ≤ n := by omega
    have kb : k ≤ 80 := by omega
    have hrest : (n = 0 → Lib.trimLeftB (strN PL).data.toList 48 = []) ∧ (1 ≤ n → (⟨(Lib.trimLeftB (strN PL).data.toList 48).toArray⟩ : ByteArray) = strN ((ds 10 n).map digC)) := by
      constructor
      · intro h
        rw [hdata, hD0 h]
        have := trimLeft_zeros (z + 1) [] (fun b t h => by cases h)
        rw [List.append_nil] at this
        rw [show List.replicate z (48 : UInt8) ++ (([0] : List Nat).map digC).map UInt8.ofNat = List.replicate (z + 1) 48 from by simp [List.replicate_succ', digC]]
        exact this
      · intro h
        obtain ⟨x, t, e, hx⟩ := ds_head 10 n (by decide) h
        have hx10 : x < 10 := hDlt x (by rw [e]; exact List.mem_cons_self ..)
        rw [hdata, trimLeft_zeros z _ (by
          intro b t' hb
          rw [e] at hb
          simp only [List.map_cons, List.cons.injEq] at hb
          rw [← hb.1]
          refine ofNat_ne (a := digC x) (b := 48) (digC_lt x (by omega)) (by omega) ?_
          unfold digC
          rw [if_pos hx10]
          omega)]
        rfl
    have HRest := Lib.hid hrest
    have HR0 : n = 0 → ∀ w, Calls Tryd.prog 33 #[.string ⟨#[48]⟩, .int .i64 10] w fun e w' => e = .returned (.tuple #[.int .i64 n, .int .i64 0]) ∧ Below w.heap.size w w' := by
      intro h w
      have h1 := HR1 w
      rw [hD0 h] at h1
      exact h1
    have HR2 : ∀ w, Calls Tryd.prog 33 #[.string (strN ((ds 10 n).map digC)), .int .i64 10] w fun e w' => e = .returned (.tuple #[.int .i64 n, .int .i64 0]) ∧ Below w.heap.size w w' := fun w => HR1 w
    have HRz := Lib.hid (And.intro HR0 HR2)
    have hal0 : (strN PL).size ≤ 80 := by omega
    clear hDlt hDpos hDev hDhead hD0 hone hdne HR1 hz hpad hdig hlet hPL hml hk hpt hkp hmem hc1 hc2 hlp hbs hix e1 e2 hld hdata HR0 HR2 hrest hDlen
    generalize strN (signed neg (pointed places PL)) = s at *
    generalize strN (pointed places PL) = B at *
    generalize hWh : strN (PL.take k) = Wh at *
    generalize strN (PL.drop k) = Pa at *
    generalize hAl : strN PL = Al at *
    generalize strN ((ds 10 n).map digC) = Dl at *
    clear hWh hAl
    have H1 := Lib.hid hcut
    have H2 := Lib.hid hc
    have H3 := Lib.hid htl
    have H4 := Lib.hid htr
    have HWP := Lib.hid hwp
    have HF := Lib.hid hfirst
    clear hcut hc htl htr hwp hfirst has
    cases neg
    all_goals
      have hv := HVz.out
      simp only [Bool.false_eq_true, if_false, if_true] at hv
      subst hv
      rcases hcase with hl | ⟨hl, hl2⟩
      all_goals
        first | have hf0 := HF.out hl2 (by omega) | skip
        rcases hn0 with hn0 | hn0
        · first
          | (exfalso; have := hneg rfl; omega)
          | (have h0 := HRest.out.1 hn0
             have hr := Lib.hid (HRz.out.1 hn0)
             have hz := Lib.hid hn0
             rw [h0] at H3
             clear h0 hn0
             go_enter Tryd.func34, Tryd.ntmps34
             go_wp2_with fail
             refine H1.out.mono ?_; rintro e w1 ⟨rfl, rfl⟩
             go_wp2_with fail
             ((with_reducible refine (H2.out _).mono ?_); rintro e w2 ⟨rfl, b2⟩)
             go_wp2_with fail
             rw [HWP.out]
             ((with_reducible refine (H3.out _).mono ?_); rintro e w3 ⟨rfl, rfl⟩)
             go_wp2_with fail
             refine (hr.out _).mono ?_; rintro e w3 ⟨rfl, b3⟩
             go_wp2_with fail
             rw [HWP.out]
             refine (H4.out _).mono ?_; rintro e w4 ⟨rfl, b4⟩
             go_wp2_with fail
             go_ret2
             exact ⟨rfl, (b2.trans (b3.mono b2.size)).trans (b4.mono (Nat.le_trans b2.size b3.size))⟩)
        · have h1 := HRest.out.2 hn0
          have hr := Lib.hid HRz.out.2
          have tn0 : ((n : Int) == 0) = false := beq_eq_false_iff_ne.2 (by omega)
          have tneg : IntKind.i64.wrap (-(n : Int)) = -(n : Int) := IntWalk.i64_in _ ⟨by omega, by omega⟩
          rw [h1] at H3
          clear h1
          go_enter Tryd.func34, Tryd.ntmps34
          go_wp2_with fail
          refine H1.out.mono ?_; rintro e w1 ⟨rfl, rfl⟩
          go_wp2_with fail
          ((with_reducible refine (H2.out _).mono ?_); rintro e w2 ⟨rfl, b2⟩)
          go_wp2_with fail
          rw [HWP.out]
          ((with_reducible refine (H3.out _).mono ?_); rintro e w3 ⟨rfl, rfl⟩)
          go_wp2_with fail
          refine (hr.out _).mono ?_; rintro e w3 ⟨rfl, b3⟩
          go_wp2_with fail
          rw [HWP.out]
          refine (H4.out _).mono ?_; rintro e w4 ⟨rfl, b4⟩
          go_wp2_with fail
          go_ret2
          exact ⟨rfl, (b2.trans (b3.mono b2.size)).trans (b4.mono (Nat.le_trans b2.size b3.size))⟩

end Go.Proofs.YtpoolbachhelgaaDoor
