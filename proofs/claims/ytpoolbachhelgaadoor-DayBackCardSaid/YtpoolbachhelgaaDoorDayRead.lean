/- day.Read at the texts of days; the order of dates and of their texts. -/
import Derived.Test.YtpoolbachhelgaaDoorGuessW
namespace Go.Proofs.YtpoolbachhelgaaDoor
open Go.RowKit

def ReadLoop (f : Nat) (w : World) (iv : Value) (wr : World) : Prop := ∃ i : Nat, i ≤ f ∧ iv = .int .i64 i ∧ Below w.heap.size w wr

set_option maxRecDepth 100000 in
set_option maxHeartbeats 2000000 in
theorem dayRead_any (s : ByteArray) (hs : s.size ≤ 1000) (d : Int) (f : Nat) (hf : f < 3) (Q : World → Prop) (hQ : ∀ w w', Q w → Below w.heap.size w w' → Q w')
    (hbad : ∀ (i : Nat) w, i < f → Q w → Calls Tryd.prog 69 #[.string s, .int .i64 i] w fun e w' => e = .returned (.tuple #[.int .i64 0, .bool false]) ∧ Below w.heap.size w w')
    (hok : ∀ w, Q w → Calls Tryd.prog 69 #[.string s, .int .i64 f] w fun e w' => e = .returned (.tuple #[.int .i64 d, .bool true]) ∧ Below w.heap.size w w')
    (htx : ∀ w, Q w → Calls Tryd.prog 37 #[.int .i64 d, .int .i64 f] w fun e w' => e = .returned (.tuple #[.string s, .int .i64 0]) ∧ Below w.heap.size w w') (w : World) (hw : Q w) :
    Calls Tryd.prog 38 #[.string s] w fun e w' => e = .returned (.tuple #[.int .i64 d, .int .i64 f, .int .i64 0]) ∧ Below w.heap.size w w' := by
  have t1 : decide (4000 < (s.size : Int)) = false := decide_eq_false (by omega)
  have t2 : decide (4000 < s.size) = false := decide_eq_false (by omega)
  have HBad := Lib.hid hbad
  have HOk := Lib.hid hok
  have HTx := Lib.hid htx
  have HQ := Lib.hid (fun w' b => hQ w w' hw b)
  have HQ2 := Lib.hid hQ
  clear hbad hok htx hQ hw
  go_enter Tryd.func38, Tryd.ntmps38
  go_wp2_with fail
  go_loopw [13] (fun iv wr => ReadLoop f w iv wr) (fun iv _ => 3 - (intOf iv).toNat)
  case atStart => exact ⟨0, Nat.zero_le _, rfl, Below.refl _ _⟩
  case round =>
    obtain ⟨i, hi, rfl, hb⟩ := hrel
    have tl : decide ((i : Int) < 3) = true := decide_eq_true (by omega)
    by_cases hlt : i < f
    · have HC := Lib.hid (HBad.out i wr hlt (HQ.out wr hb))
      have HB := Lib.hid hb
      clear hb
      go_wp2_with fail
      refine HC.out.mono ?_; rintro e w1 ⟨rfl, b1⟩
      go_wp2_with fail
      exact ⟨⟨i + 1, hlt, rfl, HB.out.trans (b1.mono HB.out.size)⟩, by simp [intOf]; omega⟩
    · obtain rfl : i = f := by omega
      have HC := Lib.hid (HOk.out wr (HQ.out wr hb))
      have HB := Lib.hid hb
      clear hb
      go_wp2_with fail
      refine HC.out.mono ?_; rintro e w1 ⟨rfl, b1⟩
      have HB1 := Lib.hid (HB.out.trans (b1.mono HB.out.size))
      clear b1
      go_wp2_with fail
      refine (HTx.out w1 (HQ.out w1 HB1.out)).mono ?_; rintro e w2 ⟨rfl, b2⟩
      go_wp2_with fail
      go_ret3
      exact ⟨rfl, HB1.out.trans (b2.mono HB1.out.size)⟩

theorem ev_fold (D : List Nat) : ∀ a : Nat, D.foldl (fun a d => a * 10 + d) a = a * 10 ^ D.length + ev 10 D := by
  induction D with
  | nil => intro a; simp [ev]
  | cons d D ih =>
    intro a
    have e : ev 10 (d :: D) = D.foldl (fun a d => a * 10 + d) (0 * 10 + d) := rfl
    rw [List.foldl_cons, ih, e, ih, List.length_cons, Nat.pow_succ]
    simp [Nat.add_mul]
    rw [Nat.mul_assoc, Nat.mul_comm 10]
    omega
theorem ev_cons (d : Nat) (D : List Nat) : ev 10 (d :: D) = d * 10 ^ D.length + ev 10 D := by
  have e : ev 10 (d :: D) = D.foldl (fun a d => a * 10 + d) (0 * 10 + d) := rfl
  rw [e, ev_fold]
  simp
theorem ev_lt (D : List Nat) (h : ∀ d ∈ D, d < 10) : ev 10 D < 10 ^ D.length := by
  induction D with
  | nil => simp [ev]
  | cons d D ih =>
    have h1 := h d (List.mem_cons_self ..)
    have h2 := ih (fun x hx => h x (List.mem_cons_of_mem _ hx))
    rw [ev_cons, List.length_cons, Nat.pow_succ]
    have : d * 10 ^ D.length ≤ 9 * 10 ^ D.length := Nat.mul_le_mul_right _ (by omega)
    omega
theorem less_cons' (a b : Nat) (ha : a < 256) (hb : b < 256) (x y : List UInt8) : Op.bytesLess (UInt8.ofNat a :: x) (UInt8.ofNat b :: y) = (decide (a < b) || (decide (a = b) && Op.bytesLess x y)) := by
  have e1 : (UInt8.ofNat a).toNat = a := UInt8.toNat_ofNat_of_lt' (show a < UInt8.size from ha)
  have e2 : (UInt8.ofNat b).toNat = b := UInt8.toNat_ofNat_of_lt' (show b < UInt8.size from hb)
  have h1 : decide (UInt8.ofNat a < UInt8.ofNat b) = decide (a < b) := by rw [decide_eq_decide, UInt8.lt_iff_toNat_lt, e1, e2]
  have h2 : (UInt8.ofNat a == UInt8.ofNat b) = decide (a = b) := by
    rw [Bool.eq_iff_iff, beq_iff_eq, decide_eq_true_iff]
    constructor
    · intro h; rw [← e1, ← e2, h]
    · intro h; rw [h]
  simp only [Op.bytesLess, h1, h2]
/-- The order of digits is that of their numbers. -/
theorem less_digits (D E : List Nat) (hD : ∀ d ∈ D, d < 10) (hE : ∀ d ∈ E, d < 10) (hl : D.length = E.length) (U V : List UInt8) :
    Op.bytesLess ((D.map digC).map UInt8.ofNat ++ U) ((E.map digC).map UInt8.ofNat ++ V) = (decide (ev 10 D < ev 10 E) || (decide (ev 10 D = ev 10 E) && Op.bytesLess U V)) := by
  induction D generalizing E with
  | nil =>
    cases E with
    | nil => simp [ev]
    | cons e E => simp at hl
  | cons d D ih =>
    cases E with
    | nil => simp at hl
    | cons e E =>
      have hd := hD d (List.mem_cons_self ..)
      have he := hE e (List.mem_cons_self ..)
      have hl' : D.length = E.length := by simpa using hl
      have l1 := ev_lt D (fun x hx => hD x (List.mem_cons_of_mem _ hx))
      have l2 := ev_lt E (fun x hx => hE x (List.mem_cons_of_mem _ hx))
      have ih := ih E (fun x hx => hD x (List.mem_cons_of_mem _ hx)) (fun x hx => hE x (List.mem_cons_of_mem _ hx)) hl'
      simp only [List.map_cons, List.cons_append]
      rw [less_cons' _ _ (digC_lt d (by omega)) (digC_lt e (by omega)), ih, ev_cons, ev_cons, ← hl']
      rw [← hl'] at l2
      have c1 : digC d = 48 + d := by unfold digC; rw [if_pos hd]
      have c2 : digC e = 48 + e := by unfold digC; rw [if_pos he]
      rw [c1, c2]
      generalize 10 ^ D.length = p at *
      generalize ev 10 D = x at *
      generalize ev 10 E = y at *
      rcases Nat.lt_trichotomy d e with h | h | h
      · have h3 : d * p + x < e * p + y := by
          have : (d + 1) * p ≤ e * p := Nat.mul_le_mul_right _ h
          rw [Nat.add_mul] at this
          omega
        simp [h3, h]
      · subst h
        simp
      · have h3 : e * p + y < d * p + x := by
          have : (e + 1) * p ≤ d * p := Nat.mul_le_mul_right _ h
          rw [Nat.add_mul] at this
          omega
        have h4 : ¬ (d * p + x < e * p + y) := by omega
        have h5 : ¬ (d * p + x = e * p + y) := by omega
        have h6 : ¬ (d < e) := by omega
        have h7 : ¬ (d = e) := by omega
        simp [h4, h5, h6, h7]

theorem pad2_length : ∀ n : Fin 100, (padV 2 n.1).length = 2 := by decide +kernel
theorem pad2 (n : Nat) (h : n < 100) : (padV 2 n).length = 2 := pad2_length ⟨n, h⟩
theorem bytesLess_nil (x : List UInt8) : Op.bytesLess x [] = false := by cases x <;> rfl
/-- The texts of two dates that are equally long are in the order of their numbers. -/
theorem dateL_less (y m n z o k : Nat) (hm : m < 100) (hn : n < 100) (ho : o < 100) (hk : k < 100) (hl : (strN (dateL y m n)).size = (strN (dateL z o k)).size) :
    Op.bytesLess (strN (dateL y m n)).data.toList (strN (dateL z o k)).data.toList = decide (y < z ∨ y = z ∧ (m < o ∨ m = o ∧ n < k)) := by
  have hm2 := pad2 m hm
  have hn2 := pad2 n hn
  have ho2 := pad2 o ho
  have hk2 := pad2 k hk
  have hl2 : (padV 4 y).length = (padV 4 z).length := by
    rw [strN_size, strN_size] at hl
    simp [dateL, padL] at hl
    omega
  rw [strN_data, strN_data]
  have e : ∀ y m n : Nat, (dateL y m n).map UInt8.ofNat = ((padV 4 y).map digC).map UInt8.ofNat ++ 45 :: (((padV 2 m).map digC).map UInt8.ofNat ++ 45 :: (((padV 2 n).map digC).map UInt8.ofNat ++ [])) := by
    intro y m n
    simp [dateL, padL]
  rw [e, e, less_digits _ _ (padV_lt _ _) (padV_lt _ _) hl2, ev_padV, ev_padV]
  have l45 : ∀ x y : List UInt8, Op.bytesLess (45 :: x) (45 :: y) = Op.bytesLess x y := by
    intro x y
    have := less_cons' 45 45 (by decide) (by decide) x y
    simpa using this
  rw [l45, less_digits _ _ (padV_lt _ _) (padV_lt _ _) (by omega), ev_padV, ev_padV, l45, less_digits _ _ (padV_lt _ _) (padV_lt _ _) (by omega), ev_padV, ev_padV, bytesLess_nil]
  simp [Bool.decide_or, Bool.decide_and]
theorem date_order {d e : Int} {y m n z o k : Nat} (h : IsDate d y m n) (k' : IsDate e z o k) : (y < z ∨ y = z ∧ (m < o ∨ m = o ∧ n < k)) ↔ d < e := by
  have key : ∀ {d e : Int} {y m n z o k : Nat}, IsDate d y m n → IsDate e z o k → (y < z ∨ y = z ∧ (m < o ∨ m = o ∧ n < k)) → d < e := by
    intro d e y m n z o k h k' hlt
    rcases hlt with h1 | ⟨rfl, h1 | ⟨rfl, h1⟩⟩
    · have := h.year.2.2
      have := k'.year.2.1
      have := before_mono (a := (y : Int) + 1) (b := (z : Int)) (by have := h.year.1; omega) (by omega)
      omega
    · have e1 := h.eq
      have e2 := k'.eq
      have h2 := h.n2
      have k1 := k'.n1
      have hm2 := h.m2
      have c1 := cum_next (y : Int) (m : Int) h.m1 h.m2
      have c2 := cum_le (y := (y : Int)) (a := (m : Int) + 1) (b := (o : Int)) (by have := h.m1; omega) (by omega) (by have := k'.m2; omega)
      omega
    · have e1 := h.eq
      have e2 := k'.eq
      omega
  constructor
  · exact key h k'
  · intro hlt
    by_cases h1 : (y < z ∨ y = z ∧ (m < o ∨ m = o ∧ n < k))
    · exact h1
    · have h2 : (z < y ∨ z = y ∧ (o < m ∨ o = m ∧ k < n)) ∨ (y = z ∧ m = o ∧ n = k) := by omega
      rcases h2 with h2 | ⟨rfl, rfl, rfl⟩
      · have := key k' h h2
        omega
      · have e1 := h.eq
        have e2 := k'.eq
        omega
theorem date_nats {d y m n : Int} (h : IsDate d y m n) : ∃ y' m' n' : Nat, y = y' ∧ m = m' ∧ n = n' := by
  have := h.year.1
  have := h.m1
  have := h.n1
  exact ⟨y.toNat, m.toNat, n.toNat, by omega, by omega, by omega⟩

end Go.Proofs.YtpoolbachhelgaaDoor
