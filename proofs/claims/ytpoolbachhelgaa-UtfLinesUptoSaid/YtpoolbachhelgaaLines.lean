/- The contracts of utf.Lines and utf.Returns. -/
import Derived.Test.YtpoolbachhelgaaBuildK
import Derived.Test.YtpoolbachhelgaaUtfT
import Derived.WalkSmall
import Derived.Lib.ConvBytes
namespace Go.Proofs.Ytpoolbachhelgaa
open Go.RowKit

/-- What is written for a byte behind another one. -/
def emit (p c : UInt8) : List UInt8 := if c = 13 then [10] else if c = 10 ∧ p = 13 then [] else [c]
def ln : UInt8 → List UInt8 → List UInt8
  | _, [] => []
  | p, c :: t => emit p c ++ ln c t
def lines (l : List UInt8) : List UInt8 := ln 0 l
def lastOr : UInt8 → List UInt8 → UInt8
  | p, [] => p
  | _, c :: t => lastOr c t
theorem lastOr_snoc (l : List UInt8) (c : UInt8) : ∀ p, lastOr p (l ++ [c]) = c := by
  induction l with
  | nil => intro p; rfl
  | cons a t ih => intro p; exact ih a
theorem ln_snoc (l : List UInt8) (c : UInt8) : ∀ p, ln p (l ++ [c]) = ln p l ++ emit (lastOr p l) c := by
  induction l with
  | nil => intro p; simp [ln, lastOr]
  | cons a t ih =>
    intro p
    rw [List.cons_append]
    simp only [ln, lastOr]
    rw [ih, List.append_assoc]
theorem emit_len (p c : UInt8) : (emit p c).length ≤ 1 := by
  unfold emit
  split
  · simp
  · split <;> simp
theorem ln_len (l : List UInt8) : ∀ p, (ln p l).length ≤ l.length := by
  induction l with
  | nil => intro p; simp [ln]
  | cons a t ih => intro p; have := emit_len p a; have := ih a; simp only [ln, List.length_append, List.length_cons]; omega

/-- One byte more of a string. -/
theorem lines_take (s : ByteArray) (k : Nat) (h : k < s.size) : lines (s.data.toList.take (k + 1)) = lines (s.data.toList.take k) ++ emit (if hk : 0 < k then s[k - 1]'(by omega) else 0) (s[k]) := by
  have hl : k < s.data.toList.length := by simpa using h
  have e : s.data.toList.take (k + 1) = s.data.toList.take k ++ [s[k]] := by rw [List.take_succ_eq_append_getElem hl]; rfl
  unfold lines
  rw [e, ln_snoc]
  congr 2
  rcases k with _ | m
  · simp [lastOr]
  · rw [dif_pos (by omega)]
    have hm : m < s.data.toList.length := by omega
    rw [List.take_succ_eq_append_getElem hm, lastOr_snoc]
    rfl

def LinesRel (s : ByteArray) (w : World) (iv : Value) (wr : World) : Prop :=
  ∃ k : Nat, k ≤ s.size ∧ iv = .int .i64 k ∧ Bd w.heap.size w.heap.size (lines (s.data.toList.take k)) wr ∧ Below w.heap.size w wr
theorem LinesRel.go {s : ByteArray} {w wr w1 : World} {k : Nat} (h : k < s.size) (b : Bd w.heap.size w.heap.size (lines (s.data.toList.take k) ++ emit (if hk : 0 < k then s[k - 1]'(by omega) else 0) (s[k])) w1) (h1 : Below w.heap.size w wr) (h2 : Below w.heap.size wr w1) : LinesRel s w (.int .i64 ((k : Int) + 1)) w1 :=
  ⟨k + 1, h, rfl, by rw [lines_take s k h]; exact b, h1.trans h2⟩
theorem u8_ne (c : UInt8) (n : Nat) (hn : n < 256) (h : c.toNat ≠ n) : c ≠ UInt8.ofNat n := by
  intro e
  apply h
  rw [e]
  exact UInt8.toNat_ofNat_of_lt' (show n < UInt8.size from hn)
theorem u8_eq (c : UInt8) (n : Nat) (h : c.toNat = n) : c = UInt8.ofNat n := by rw [← h, UInt8.ofNat_toNat]

set_option maxRecDepth 100000 in
set_option maxHeartbeats 4000000 in
theorem lines_any (s : ByteArray) (hs : s.size ≤ 140737488351232) (w : World) :
    Calls Try.prog 29 #[.string s] w fun e w' => e = .returned (.string ⟨(lines s.data.toList).toArray⟩) ∧ Below w.heap.size w w' := by
  have HS := Lib.hid (fun b (wr : World) (hb : Bd w.heap.size w.heap.size b wr) => string_any _ _ b wr hb)
  have HW := Lib.hid (fun (b : List UInt8) (c : Int) (h0 : 0 ≤ c) (h1 : c < 256) (wr : World) (hb : Bd w.heap.size w.heap.size b wr) (hl : b.length + 1 ≤ 140737488355328) => writeByte_any _ _ b c h0 h1 wr hb hl)
  go_enter Try.func29, Try.ntmps29
  go_wp2
  go_loopw [7] (fun iv wr => LinesRel s w iv wr) (fun iv _ => s.size - (intOf iv).toNat)
  case atStart => exact ⟨0, by omega, rfl, Bd.new w, by go_grown⟩
  case round =>
    obtain ⟨k, hk, rfl, hbd, hbel⟩ := hrel
    by_cases hlt : k < s.size
    · have hlen : (lines (s.data.toList.take k)).length ≤ k := Nat.le_trans (ln_len _ 0) (by rw [List.length_take]; omega)
      have hb256 : s[k].toNat < 256 := s[k].toNat_lt
      have HB := Lib.hid hbd
      have HL := Lib.hid hlen
      clear hbd hlen
      by_cases c13 : s[k].toNat = 13
      · have t1 : ((s[k].toNat : Int) == 13) = true := beq_iff_eq.2 (by omega)
        have HE := Lib.hid (fun p => show emit p s[k] = [10] from by unfold emit; rw [if_pos (show s[k] = 13 from u8_eq _ 13 c13)])
        clear c13
        go_wp2_with fail
        refine (HW.out _ 10 (by omega) (by omega) _ HB.out (by have := HL.out; omega)).mono ?_; rintro e w1 ⟨rfl, b1, k1⟩
        go_wp2_with fail
        exact ⟨LinesRel.go hlt (by rw [HE.out]; exact b1) hbel k1, by simp [intOf]; omega⟩
      · have t1 : ((s[k].toNat : Int) == 13) = false := beq_eq_false_iff_ne.2 (by omega)
        have n13 : s[k] ≠ 13 := u8_ne _ 13 (by omega) c13
        by_cases c10 : s[k].toNat = 10
        · have t2 : ((s[k].toNat : Int) == 10) = true := beq_iff_eq.2 (by omega)
          have e10 : s[k] = 10 := u8_eq _ 10 c10
          rcases Nat.eq_zero_or_pos k with rfl | hpos
          · have HE := Lib.hid (show emit 0 s[0] = [s[0]] from by unfold emit; rw [if_neg n13, if_neg (fun h => absurd h.2 (by decide))])
            clear c13 c10 n13 e10
            go_wp2_with fail
            refine (HW.out _ (s[0].toNat : Int) (by omega) (by omega) _ HB.out (by have := HL.out; omega)).mono ?_; rintro e w1 ⟨rfl, b1, k1⟩
            go_wp2_with fail
            rw [Int.toNat_natCast, UInt8.ofNat_toNat] at b1
            exact ⟨LinesRel.go hlt (by rw [dif_neg (by omega), HE.out]; exact b1) hbel k1, by simp [intOf]; omega⟩
          · have hk1 : ((k : Int) - 1).toNat = k - 1 := by omega
            have hkm : k - 1 < s.size := by omega
            by_cases p13 : (s[k - 1]'hkm).toNat = 13
            · have t3 : (((s[k - 1]'hkm).toNat : Int) == 13) = true := beq_iff_eq.2 (by omega)
              have HE := Lib.hid (show emit (s[k - 1]'hkm) s[k] = [] from by unfold emit; rw [if_neg n13, if_pos ⟨e10, u8_eq _ 13 p13⟩])
              clear c13 c10 n13 e10 p13
              go_wp2_with fail
              refine ⟨LinesRel.go hlt (by rw [dif_pos hpos, HE.out, List.append_nil]; exact HB.out) hbel (Below.refl _ _), by simp [intOf]; omega⟩
            · have t3 : (((s[k - 1]'hkm).toNat : Int) == 13) = false := beq_eq_false_iff_ne.2 (by omega)
              have HE := Lib.hid (show emit (s[k - 1]'hkm) s[k] = [s[k]] from by unfold emit; rw [if_neg n13, if_neg (fun h => u8_ne _ 13 (by omega) p13 h.2)])
              clear c13 c10 n13 e10 p13
              go_wp2_with fail
              refine (HW.out _ (s[k].toNat : Int) (by omega) (by omega) _ HB.out (by have := HL.out; omega)).mono ?_; rintro e w1 ⟨rfl, b1, k1⟩
              go_wp2_with fail
              rw [Int.toNat_natCast, UInt8.ofNat_toNat] at b1
              exact ⟨LinesRel.go hlt (by rw [dif_pos hpos, HE.out]; exact b1) hbel k1, by simp [intOf]; omega⟩
        · have t2 : ((s[k].toNat : Int) == 10) = false := beq_eq_false_iff_ne.2 (by omega)
          have n10 : s[k] ≠ 10 := u8_ne _ 10 (by omega) c10
          have HE := Lib.hid (fun p => show emit p s[k] = [s[k]] from by unfold emit; rw [if_neg n13, if_neg (fun h => n10 h.1)])
          clear c13 c10 n13 n10
          go_wp2_with fail
          refine (HW.out _ (s[k].toNat : Int) (by omega) (by omega) _ HB.out (by have := HL.out; omega)).mono ?_; rintro e w1 ⟨rfl, b1, k1⟩
          go_wp2_with fail
          rw [Int.toNat_natCast, UInt8.ofNat_toNat] at b1
          exact ⟨LinesRel.go hlt (by rw [HE.out]; exact b1) hbel k1, by simp [intOf]; omega⟩
    · have e : k = s.size := by omega
      have hbd' : Bd w.heap.size w.heap.size (lines s.data.toList) wr := by
        rw [e, List.take_of_length_le (by simp)] at hbd
        exact hbd
      have HBD := Lib.hid hbd'
      clear hbd hbd' e
      go_wp2_with fail
      refine (HS.out _ _ HBD.out).mono ?_; rintro e w1 ⟨rfl, k1⟩
      go_wp2_with fail
      go_ret
      exact ⟨rfl, hbel.trans k1⟩

theorem Bd.below {B b : Nat} {l : List UInt8} {w w' : World} (h : Bd B b l w) (hb : Below w.heap.size w w') : Bd B b l w' := by
  have key : ∀ p, Lib.BuilderAt 72 5 B b p (Lib.byteCells l) w → Lib.BuilderAt 72 5 B b p (Lib.byteCells l) w' := by
    rintro p ⟨h1, v, h2, h3, h4⟩
    exact ⟨h1, v, by rw [hb.block b (lt_of_block h2)]; exact h2, h3.kept (row := none) ⟨hb.os, hb.tape, hb.output, hb.size, fun k hk _ => hb.block k hk⟩ (by cases v.ownBlock <;> simp), h4⟩
  exact ⟨Nat.le_trans h.1 hb.size, h.2.imp (key _) (key _)⟩
theorem below_bytes (w : World) (e : TypeId) (s : ByteArray) : Below w.heap.size w (Lib.bytesWorld w e s) :=
  ⟨rfl, rfl, rfl, by rw [Lib.bytesWorld_size]; omega, fun k hk => Lib.bytesWorld_at_old w e s k hk⟩

def rtc (c : UInt8) : List UInt8 := if c = 10 then [13, 10] else [c]
def rt (l : List UInt8) : List UInt8 := l.flatMap rtc
theorem rt_snoc (l : List UInt8) (c : UInt8) : rt (l ++ [c]) = rt l ++ rtc c := by simp [rt]
theorem rt_len (l : List UInt8) : (rt l).length ≤ 2 * l.length := by
  induction l with
  | nil => simp [rt]
  | cons a t ih =>
    have : (rtc a).length ≤ 2 := by unfold rtc; split <;> simp
    have e : rt (a :: t) = rtc a ++ rt t := rfl
    rw [e, List.length_append, List.length_cons]; omega

/-- The block in which the bytes of a conversion lie. -/
def Conv (g : Nat) (t : ByteArray) (w : World) : Prop := ∃ cs m, w.heap[g]? = some (.cells cs 5 m) ∧ m ≠ (0, 0) ∧ ∀ j, j < t.size → cs[j]? = some (.int .u8 (t.data.toList.getD j 0).toNat)
theorem Conv.cell {g : Nat} {t : ByteArray} {w : World} (h : Conv g t w) (j : Nat) (hj : j < t.size) : w.cell? ⟨g, j, none⟩ = some (.int .u8 (t.data.toList.getD j 0).toNat) := by
  obtain ⟨cs, m, h1, _, h2⟩ := h
  rw [Lib.cell_of_heap h1]
  exact h2 j hj
theorem Conv.new (w : World) (t : ByteArray) : Conv w.heap.size t (Lib.bytesWorld w 5 t) := by
  refine ⟨_, _, Lib.bytesWorld_at_new w 5 t, by simp, fun j hj => ?_⟩
  have := Lib.bytesWorld_cell w 5 t j hj
  rw [Lib.cell_of_heap (Lib.bytesWorld_at_new w 5 t)] at this
  exact this
theorem Conv.oth {g B b : Nat} {t : ByteArray} {l : List UInt8} {w w' : World} (h : Conv g t w) (hb : Bd B b l w) (ho : Oth b w w') : Conv g t w' := by
  obtain ⟨cs, m, h1, h2, h3⟩ := h
  exact ⟨cs, m, ho.marked hb h1 h2, h2, h3⟩

def RetRel (t : ByteArray) (B g : Nat) (w2 : World) (iv : Value) (wr : World) : Prop :=
  ∃ k : Nat, k ≤ t.size ∧ iv = .int .i64 k ∧ Bd B B (rt (t.data.toList.take k)) wr ∧ Below B w2 wr ∧ Conv g t wr
theorem rt_take (t : ByteArray) (k : Nat) (h : k < t.size) : rt (t.data.toList.take (k + 1)) = rt (t.data.toList.take k) ++ rtc (t.data.toList.getD k 0) := by
  have hl : k < t.data.toList.length := by simpa using h
  rw [List.take_succ_eq_append_getElem hl, rt_snoc, List.getD, List.getElem?_eq_getElem hl]
  rfl

set_option maxRecDepth 100000 in
set_option maxHeartbeats 4000000 in
theorem returns_any (s : ByteArray) (hs : s.size ≤ 4194304) (w : World) :
    Calls Try.prog 30 #[.string s] w fun e w' => e = .returned (.string ⟨(rt (lines s.data.toList)).toArray⟩) ∧ Below w.heap.size w w' := by
  have HS := Lib.hid (fun b (wr : World) (hb : Bd w.heap.size w.heap.size b wr) => string_any _ _ b wr hb)
  have HW := Lib.hid (fun (b : List UInt8) (c : Int) (h0 : 0 ≤ c) (h1 : c < 256) (wr : World) (hb : Bd w.heap.size w.heap.size b wr) (hl : b.length + 1 ≤ 140737488355328) => writeByte_keeps _ _ b c h0 h1 wr hb hl)
  have HLn := Lib.hid (fun W => lines_any s (by omega) W)
  have hll := ln_len s.data.toList 0
  rw [show s.data.toList.length = s.size from rfl] at hll
  obtain ⟨t, ht⟩ : ∃ t : ByteArray, t = ⟨(lines s.data.toList).toArray⟩ := ⟨_, rfl⟩
  have htl : t.data.toList = lines s.data.toList := by rw [ht]
  have htz : t.size ≤ 4194304 := by
    have : t.size = t.data.toList.length := by simp
    rw [this, htl]
    exact Nat.le_trans hll hs
  have HT := Lib.hid htl
  have hcv := fun W => Lib.run_convert_string_bytes (P := Try.prog) W 9 52 5 t Try.underlying9 Try.underlying52 Try.underlying5
  have HA := Lib.hid ht
  clear ht htl hll
  go_enter Try.func30, Try.ntmps30
  go_wp2_with fail
  refine (HLn.out _).mono ?_; rintro e w1 ⟨rfl, k1⟩
  rw [← HA.out]
  go_wp2_with fail
  have hc2 := Conv.new w1 t
  have k2 := below_bytes w1 5 t
  have hsz1 : w.heap.size + 1 ≤ w1.heap.size := by have := k1.size; simpa using this
  have hb1 : Bd w.heap.size w.heap.size [] (Lib.bytesWorld w1 5 t) := ((Bd.new w).below k1).below k2
  have kk : Below w.heap.size w (Lib.bytesWorld w1 5 t) := (((Below.refl _ _).alloc (Nat.le_refl _) _).trans (k1.mono (by simp))).trans (k2.mono (by omega))
  generalize Lib.bytesWorld w1 5 t = w2 at *
  generalize grownCap w1 t.size 0 5 = cp
  generalize w1.heap.size = g at *
  clear hcv k2 k1
  go_loopw [10] (fun iv wr => RetRel t w.heap.size g w2 iv wr) (fun iv _ => t.size - (intOf iv).toNat)
  case atStart => exact ⟨0, by omega, rfl, hb1, Below.refl _ _, hc2⟩
  case round =>
    obtain ⟨k, hk, rfl, hbd, hbel, hcv⟩ := hrel
    by_cases hlt : k < t.size
    · have hcell := hcv.cell k hlt
      have hlen : (rt (t.data.toList.take k)).length ≤ 8388608 := Nat.le_trans (rt_len _) (by rw [List.length_take]; omega)
      have htk := rt_take t k hlt
      generalize t.data.toList.getD k 0 = c at hcell htk
      have hb256 : c.toNat < 256 := c.toNat_lt
      have HB := Lib.hid hbd
      have HC := Lib.hid hcv
      have HL := Lib.hid hlen
      by_cases c10 : c.toNat = 10
      · have t1 : ((c.toNat : Int) == 10) = true := beq_iff_eq.2 (by omega)
        have HK := Lib.hid (show rt (t.data.toList.take (k + 1)) = rt (t.data.toList.take k) ++ [13] ++ [c] from by rw [htk, List.append_assoc]; unfold rtc; rw [if_pos (show c = 10 from u8_eq _ 10 c10), show c = 10 from u8_eq _ 10 c10]; rfl)
        clear hbd hcv hlen htk c10
        go_wp2_with fail
        refine (HW.out _ 13 (by omega) (by omega) _ HB.out (by have := HL.out; omega)).mono ?_; rintro e w3 ⟨rfl, b3, k3, o3⟩
        have h3 := Lib.hid (And.intro b3 (And.intro k3 (HC.out.oth HB.out o3)))
        clear b3 k3 o3
        go_wp2_with fail
        refine (HW.out _ (c.toNat : Int) (by omega) (by omega) _ h3.out.1 (by have := HL.out; simp; omega)).mono ?_; rintro e w4 ⟨rfl, b4, k4, o4⟩
        have h4 := Lib.hid (And.intro b4 (And.intro k4 (h3.out.2.2.oth h3.out.1 o4)))
        clear b4 k4 o4
        go_wp2_with fail
        have b4 := h4.out.1
        rw [Int.toNat_natCast, UInt8.ofNat_toNat] at b4
        exact ⟨⟨k + 1, hlt, rfl, by rw [HK.out]; exact b4, (hbel.trans h3.out.2.1).trans h4.out.2.1, h4.out.2.2⟩, by simp [intOf]; omega⟩
      · have t1 : ((c.toNat : Int) == 10) = false := beq_eq_false_iff_ne.2 (by omega)
        have HK := Lib.hid (show rt (t.data.toList.take (k + 1)) = rt (t.data.toList.take k) ++ [c] from by rw [htk]; unfold rtc; rw [if_neg (show c ≠ 10 from u8_ne _ 10 (by omega) c10)])
        clear hbd hcv hlen htk c10
        go_wp2_with fail
        refine (HW.out _ (c.toNat : Int) (by omega) (by omega) _ HB.out (by have := HL.out; omega)).mono ?_; rintro e w4 ⟨rfl, b4, k4, o4⟩
        have h4 := Lib.hid (And.intro b4 (And.intro k4 (HC.out.oth HB.out o4)))
        clear b4 k4 o4
        go_wp2_with fail
        have b4 := h4.out.1
        rw [Int.toNat_natCast, UInt8.ofNat_toNat] at b4
        exact ⟨⟨k + 1, hlt, rfl, by rw [HK.out]; exact b4, hbel.trans h4.out.2.1, h4.out.2.2⟩, by simp [intOf]; omega⟩
    · have e : k = t.size := by omega
      have hbd' : Bd w.heap.size w.heap.size (rt (lines s.data.toList)) wr := by
        rw [e, List.take_of_length_le (by simp), HT.out] at hbd
        exact hbd
      have HBD := Lib.hid hbd'
      clear hbd hbd' e hcv
      go_wp2_with fail
      refine (HS.out _ _ HBD.out).mono ?_; rintro e w3 ⟨rfl, k3⟩
      go_wp2_with fail
      go_ret
      exact ⟨rfl, (kk.trans hbel).trans k3⟩

end Go.Proofs.Ytpoolbachhelgaa
