/- The contract of decimal.Fixed at numbers of at most 2^53 and 0 to 15 places. -/
import Derived.Test.YtpoolbachhelgaaDoorNum
import Derived.Test.YtpoolbachhelgaaDoorText
import Derived.Test.YtpoolbachhelgaaDoorShelf
import Derived.Deep.QuietTactic
import Derived.BigQuiet
namespace Go.Proofs.YtpoolbachhelgaaDoor
open Go.RowKit

/-- Digits with zeros ahead of them: at least one before the point. -/
def padD (places : Nat) (D : List Nat) : List Nat := List.replicate (places + 1 - D.length) 0 ++ D
theorem padD_length (places : Nat) (D : List Nat) : places + 1 ≤ (padD places D).length := by simp [padD]; omega
/-- The letters of a number with so many places. -/
def pointed (places : Nat) (P : List Nat) : List Nat := P.take (P.length - places) ++ 46 :: P.drop (P.length - places)
def fixL (neg : Bool) (places : Nat) (D : List Nat) : List Nat := signed neg (if places = 0 then D.map digC else pointed places ((padD places D).map digC))

theorem repeatL_zero (n : Nat) : (⟨(Lib.repeatL [48] n).toArray⟩ : ByteArray) = strN ((List.replicate n 0).map digC) := by
  have e : Lib.repeatL [48] n = List.replicate n 48 := by
    induction n with
    | zero => rfl
    | succ n ih => simp [Lib.repeatL, List.replicate_succ]; exact ih
  rw [e]
  simp [strN, digC]

theorem strN_signed (neg : Bool) (L : List Nat) : strN (signed neg L) = (if neg then ⟨#[45]⟩ else ⟨#[]⟩ : ByteArray) ++ strN L := by
  cases neg
  · simp [signed]
    apply ByteArray.ext; simp [strN]
  · simp [signed]
    exact strN_cons 45 L
theorem strN_pointed (places : Nat) (P : List Nat) (pre : ByteArray) : pre ++ strN (P.take (P.length - places)) ++ ⟨#[46]⟩ ++ strN (P.drop (P.length - places)) = pre ++ strN (pointed places P) := by
  unfold pointed
  rw [strN_append, strN_cons 46]
  apply ByteArray.ext
  simp [strN]

theorem ret2_str {a b : ByteArray} {v : Value} (h : a = b) : Ending.returned (.tuple #[.string a, v]) = .returned (.tuple #[.string b, v]) := by rw [h]

set_option maxRecDepth 100000 in
set_option maxHeartbeats 2000000 in
theorem fixed_any (neg : Bool) (n places : Nat) (hp : places ≤ 15) (hn : n ≤ 9007199254740992) (hneg : neg = true → 1 ≤ n) (w : World) :
    Calls Tryd.prog 24 #[.int .i64 (if neg then -(n : Int) else n), .int .i64 places] w fun e w' => e = .returned (.tuple #[.string (strN (fixL neg places (ds 10 n))), .int .i64 0]) ∧ Below w.heap.size w w' := by
  have HD := digits_any n 10 (by decide) (by decide) (by omega)
  rw [digs_ds] at HD
  have hlen := ds_length_le 10 n 53 (by decide) (by omega)
  have hpos := ds_length_pos 10 n (by decide)
  have hfix : fixL neg places (ds 10 n) = signed neg (if places = 0 then (ds 10 n).map digC else pointed places ((padD places (ds 10 n)).map digC)) := rfl
  generalize ds 10 n = D at *
  have hsz : (strN (D.map digC)).size = D.length := by rw [strN_size, List.length_map]
  have t1 : decide ((places : Int) < 0) = false := decide_eq_false (by omega)
  have t2 : decide (15 < (places : Int)) = false := decide_eq_false (by omega)
  have HR := Lib.hid (fun w => right_any (if neg then -(n : Int) else n) (by cases neg <;> simp <;> omega) (by cases neg <;> simp <;> omega) w)
  have HDd := Lib.hid HD
  by_cases hp0 : places = 0
  · subst hp0
    rw [if_pos rfl] at hfix
    rw [hfix, strN_signed]
    clear hfix HD
    cases neg
    · simp only [Bool.false_eq_true, if_false] at HR ⊢
      have t3 : decide ((n : Int) < 0) = false := decide_eq_false (by omega)
      go_enter Tryd.func24, Tryd.ntmps24
      go_wp2_with fail
      refine (HR.out _).mono ?_; rintro e w1 ⟨rfl, rfl⟩
      go_wp2_with fail
      refine (HDd.out _).mono ?_; rintro e w1 ⟨rfl, b1⟩
      go_wp2_with fail
      go_ret2
      exact ⟨rfl, b1⟩
    · have hn1 := hneg rfl
      simp only [if_true] at HR ⊢
      have t3 : decide (-(n : Int) < 0) = true := decide_eq_true (by omega)
      have t4 : IntKind.i64.wrap (- -(n : Int)) = (n : Int) := by rw [Int.neg_neg]; exact IntWalk.i64_in _ ⟨by omega, by omega⟩
      go_enter Tryd.func24, Tryd.ntmps24
      go_wp2_with fail
      refine (HR.out _).mono ?_; rintro e w1 ⟨rfl, rfl⟩
      go_wp2_with fail
      refine (HDd.out _).mono ?_; rintro e w1 ⟨rfl, b1⟩
      go_wp2_with fail
      go_ret2
      exact ⟨rfl, b1⟩
  · rw [if_neg hp0] at hfix
    rw [hfix, strN_signed]
    have tp : ((places : Int) == 0) = false := beq_eq_false_iff_ne.2 (by omega)
    obtain ⟨z, hz⟩ : ∃ z, z = places + 1 - D.length := ⟨_, rfl⟩
    have hpad : padD places D = List.replicate z 0 ++ D := by rw [hz]; rfl
    rw [hpad]
    have hend := strN_pointed places ((List.replicate z 0 ++ D).map digC)
    have htk := strN_take ((List.replicate z 0 ++ D).map digC) (((List.replicate z 0 ++ D).map digC).length - places)
    have hdr := strN_drop ((List.replicate z 0 ++ D).map digC) (((List.replicate z 0 ++ D).map digC).length - places)
    have hPl : ((List.replicate z 0 ++ D).map digC).length = z + D.length := by simp
    rw [hPl] at hend htk hdr
    have hsp : strN ((List.replicate z 0 ++ D).map digC) = strN ((List.replicate z 0).map digC) ++ strN (D.map digC) := by rw [List.map_append, strN_append]
    have hr := fun w => Tryd.strings_Repeat ⟨#[48]⟩ z w (by omega) (by show 1 * z ≤ _; omega)
    rw [show (⟨#[48]⟩ : ByteArray).data.toList = [48] from rfl, repeatL_zero] at hr
    have hzs : (strN ((List.replicate z 0).map digC)).size = z := by rw [strN_size]; simp
    have hfin : ∀ pre : ByteArray, pre ++ (strN ((List.replicate z 0 ++ D).map digC)).extract 0 (z + D.length - places) ++ ⟨#[46]⟩ ++ (strN ((List.replicate z 0 ++ D).map digC)).extract (z + D.length - places) (z + D.length) = pre ++ strN (pointed places ((List.replicate z 0 ++ D).map digC)) := by
      intro pre
      rw [htk, hdr, hend]
    clear hend htk hdr hfix hPl hpad HD
    generalize strN (pointed places ((List.replicate z 0 ++ D).map digC)) = out at *
    generalize strN ((List.replicate z 0 ++ D).map digC) = all at *
    generalize strN ((List.replicate z 0).map digC) = X at *
    generalize strN (D.map digC) = Y at *
    have HRp := Lib.hid hr
    have HF := Lib.hid hfin
    have HSp := Lib.hid hsp
    clear hr hfin hsp
    have hall : all.size = z + D.length := by rw [HSp.out, ByteArray.size_append, hzs, hsz]
    obtain ⟨m, hm⟩ : ∃ m, m = z + D.length := ⟨_, rfl⟩
    obtain ⟨k, hk⟩ : ∃ k, k = m - places := ⟨_, rfl⟩
    have HF2 : ∀ pre : ByteArray, pre ++ all.extract 0 k ++ ⟨#[46]⟩ ++ all.extract k m = pre ++ out := by rw [hk, hm]; exact HF.out
    rw [← hm] at hall
    have HF3 := Lib.hid HF2
    have mb : m ≤ 80 := by omega
    have kb : k ≤ m := by omega
    have kb2 : (k : Int) ≤ (m : Int) := by omega
    have sk : IntKind.i64.wrap ((m : Int) - (places : Int)) = (k : Int) := by rw [IntWalk.i64_in _ ⟨by omega, by omega⟩]; omega
    have zb : z ≤ 16 := by omega
    clear HF2 HF
    rcases Nat.lt_or_ge places D.length with hlt | hge
    · have hya : Y = all := by
        rw [HSp.out]
        have hX : X = ⟨#[]⟩ := by
          apply ByteArray.ext
          apply Array.eq_empty_of_size_eq_zero
          show X.size = 0
          omega
        rw [hX]
        apply ByteArray.ext
        simp
      subst hya
      have tl : decide ((D.length : Int) ≤ (places : Int)) = false := decide_eq_false (by omega)
      have tl' : decide (D.length ≤ places) = false := decide_eq_false (by omega)
      have hmD : m = D.length := by omega
      have tl2 : decide ((m : Int) ≤ (places : Int)) = false := by rw [hmD]; exact tl
      have tl3 : decide (m ≤ places) = false := by rw [hmD]; exact tl'
      clear hz hzs hm hk hsz HRp HSp hmD tl tl' hlt
      cases neg
      · simp only [Bool.false_eq_true, if_false] at HR ⊢
        have t3 : decide ((n : Int) < 0) = false := decide_eq_false (by omega)
        go_enter Tryd.func24, Tryd.ntmps24
        go_wp2_with fail
        refine (HR.out _).mono ?_; rintro e w1 ⟨rfl, rfl⟩
        go_wp2_with fail
        refine (HDd.out _).mono ?_; rintro e w1 ⟨rfl, b1⟩
        go_wp2_with fail
        go_quiet (fail)
        go_wp2_with fail
        go_ret2
        exact ⟨ret2_str (HF3.out _), below_drewN b1 _⟩
      · have hn1 := hneg rfl
        simp only [if_true] at HR ⊢
        have t3 : decide (-(n : Int) < 0) = true := decide_eq_true (by omega)
        have t4 : IntKind.i64.wrap (- -(n : Int)) = (n : Int) := by rw [Int.neg_neg]; exact IntWalk.i64_in _ ⟨by omega, by omega⟩
        go_enter Tryd.func24, Tryd.ntmps24
        go_wp2_with fail
        refine (HR.out _).mono ?_; rintro e w1 ⟨rfl, rfl⟩
        go_wp2_with fail
        refine (HDd.out _).mono ?_; rintro e w1 ⟨rfl, b1⟩
        go_wp2_with fail
        go_quiet (fail)
        go_wp2_with fail
        go_ret2
        exact ⟨ret2_str (HF3.out _), below_drewN b1 _⟩
    · have tl : decide ((D.length : Int) ≤ (places : Int)) = true := decide_eq_true (by omega)
      have tl' : decide (D.length ≤ places) = true := decide_eq_true (by omega)
      have s1 : IntKind.i64.wrap ((places : Int) + 1) = (places : Int) + 1 := IntWalk.i64_in _ ⟨by omega, by omega⟩
      have s2 : IntKind.i64.wrap ((places : Int) + 1 - (D.length : Int)) = (z : Int) := by rw [IntWalk.i64_in _ ⟨by omega, by omega⟩]; omega
      clear hz hm hk
      cases neg
      · simp only [Bool.false_eq_true, if_false] at HR ⊢
        have t3 : decide ((n : Int) < 0) = false := decide_eq_false (by omega)
        go_enter Tryd.func24, Tryd.ntmps24
        go_wp2_with fail
        refine (HR.out _).mono ?_; rintro e w1 ⟨rfl, rfl⟩
        go_wp2_with fail
        refine (HDd.out _).mono ?_; rintro e w1 ⟨rfl, b1⟩
        go_wp2_with fail
        ((with_reducible refine (HRp.out _).mono ?_); rintro e w2 ⟨rfl, b2⟩)
        go_wp2_with fail
        rw [← HSp.out]
        go_quiet (fail)
        go_wp2_with fail
        go_ret2
        exact ⟨ret2_str (HF3.out _), below_drewN (b1.trans (b2.mono b1.size)) _⟩
      · have hn1 := hneg rfl
        simp only [if_true] at HR ⊢
        have t3 : decide (-(n : Int) < 0) = true := decide_eq_true (by omega)
        have t4 : IntKind.i64.wrap (- -(n : Int)) = (n : Int) := by rw [Int.neg_neg]; exact IntWalk.i64_in _ ⟨by omega, by omega⟩
        go_enter Tryd.func24, Tryd.ntmps24
        go_wp2_with fail
        refine (HR.out _).mono ?_; rintro e w1 ⟨rfl, rfl⟩
        go_wp2_with fail
        refine (HDd.out _).mono ?_; rintro e w1 ⟨rfl, b1⟩
        go_wp2_with fail
        ((with_reducible refine (HRp.out _).mono ?_); rintro e w2 ⟨rfl, b2⟩)
        go_wp2_with fail
        rw [← HSp.out]
        go_quiet (fail)
        go_wp2_with fail
        go_ret2
        exact ⟨ret2_str (HF3.out _), below_drewN (b1.trans (b2.mono b1.size)) _⟩

end Go.Proofs.YtpoolbachhelgaaDoor
