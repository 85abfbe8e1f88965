/- clapkeep1.BitsCuts answers true. -/
import Derived.Test.YtpoolbachhelgaaDoorBitsCat
import Derived.Test.YtpoolbachhelgaaDoorStrung
import Derived.Test.YtpoolbachhelgaaDoorBuildS
import Derived.Test.YtpoolbachhelgaaDoorRowAt
import Derived.Test.YtpoolbachhelgaaDoorBelow
namespace Go.Proofs.YtpoolbachhelgaaDoor
open Go.RowKit

theorem BitsV.out {w : World} {v : Value} {bs : List Nat} (h : BitsV w v bs) : ∃ p c, v = .agg #[.slice p (pack bs).length c, .int .i64 bs.length] := by
  obtain ⟨sv, rfl, h⟩ := h
  obtain ⟨p, c, rfl⟩ := h.slice
  exact ⟨p, c, by rw [intsOf_length]⟩

/-- The digits of the first numbers. -/
def lowBits (xs : List Int) (n : Nat) : List Nat := (List.range n).map fun i => (xs.getD i 0 % 2).toNat
theorem lowBits_length (xs : List Int) (n : Nat) : (lowBits xs n).length = n := by simp [lowBits]
theorem lowBits_bin (xs : List Int) (n : Nat) : Bin (lowBits xs n) := by
  intro x hx
  simp only [lowBits, List.mem_map] at hx
  obtain ⟨i, _, rfl⟩ := hx
  omega
theorem lowBits_snoc (xs : List Int) (k : Nat) : lowBits xs (k + 1) = lowBits xs k ++ [(xs.getD k 0 % 2).toNat] := by
  simp [lowBits, List.range_succ]
theorem and1 (x : Int) : Go.bits .and .i64 x 1 = (((x % 2).toNat : Nat) : Int) := by
  have hm := i64_mask x 1 (by omega)
  rw [show (2 : Int) ^ 1 - 1 = 1 from by decide, show (2 : Int) ^ 1 = 2 from by decide] at hm
  rw [hm]
  omega
theorem digitsOf_snoc (bs : List Nat) (x : Nat) : digitsOf (bs ++ [x]) = digitsOf bs ++ [UInt8.ofNat (48 + x)] := by simp [digitsOf]
/-- The cells of a string of bits that lies in a variable. -/
structure BoxB (g : Nat) (p : Option Addr) (c : Nat) (bs : List Nat) (w : World) : Prop where
  blk : w.heap[g]? = some (.cells #[.slice p (pack bs).length c, .int .i64 bs.length] 34 (0, 0))
theorem BoxB.new (w : World) (p : Option Addr) (c : Nat) (bs : List Nat) : BoxB w.heap.size p c bs (w.alloc (.cells #[.slice p (pack bs).length c, .int .i64 bs.length] 34 (0, 0))) := ⟨alloc_at _ _⟩
theorem BoxB.below {g : Nat} {p : Option Addr} {c : Nat} {bs : List Nat} {w w' : World} (h : BoxB g p c bs w) (hb : Below w.heap.size w w') : BoxB g p c bs w' := ⟨(hb.block _ (lt_of_block h.blk)).trans h.blk⟩
theorem BoxB.c0 {g : Nat} {p : Option Addr} {c : Nat} {bs : List Nat} {w : World} (h : BoxB g p c bs w) : w.cell? ⟨g, 0, none⟩ = some (.slice p (pack bs).length c) := by rw [Lib.cell_of_heap h.blk]; rfl
theorem BoxB.c1 {g : Nat} {p : Option Addr} {c : Nat} {bs : List Nat} {w : World} (h : BoxB g p c bs w) : w.cell? ⟨g, 1, none⟩ = some (.int .i64 bs.length) := by rw [Lib.cell_of_heap h.blk]; rfl
/-- A variable is made of a result. -/
theorem box_new {W w : World} {p : Option Addr} {c : Nat} {bs : List Nat} (hb : Below W.heap.size W w) (hv : BitsV w (.agg #[.slice p (pack bs).length c, .int .i64 bs.length]) bs) :
    ∃ w', w' = w.alloc (.cells #[.slice p (pack bs).length c, .int .i64 bs.length] 34 (0, 0)) ∧ BoxB w.heap.size p c bs w' ∧ Below W.heap.size W w' ∧ BitsV w' (.agg #[.slice p (pack bs).length c, .int .i64 bs.length]) bs :=
  ⟨_, rfl, BoxB.new _ _ _ _, hb.alloc hb.size _, hv.below ((Below.refl _ _).alloc (Nat.le_refl _) _)⟩

def CutsRel (xs : List Int) (L : Nat) (w : World) (iv : Value) (wr : World) : Prop :=
  ∃ k : Nat, k ≤ L ∧ iv = .int .i64 k ∧ Bd w.heap.size w.heap.size (digitsOf (lowBits xs k)) wr ∧ Below w.heap.size w wr

/-- Zeros behind a string are cut off. -/
theorem trimRight_zeros (l : List UInt8) (n : Nat) : Lib.trimRightB (l ++ List.replicate n 48) 48 = Lib.trimRightB l 48 := by
  unfold Lib.trimRightB
  rw [List.reverse_append, List.reverse_replicate]
  congr 1
  induction n with
  | zero => rfl
  | succ n ih => rw [List.replicate_succ, List.cons_append, List.dropWhile_cons_of_pos (by rfl)]; exact ih
theorem digitsOf_zeros (bs : List Nat) (n : Nat) : digitsOf (bs ++ List.replicate n 0) = digitsOf bs ++ List.replicate n 48 := by
  simp [digitsOf]

set_option maxRecDepth 100000 in
set_option maxHeartbeats 4000000 in
theorem bitsCuts_walk (p : Option Addr) (len cap : Nat) (xs : List Int) (k0 to0 : Int) (w : World) (h : IsRow .i64 w p len cap xs) :
    Calls Tryd.prog 3 #[.slice p len cap, .int .i64 k0, .int .i64 to0] w fun e w' => e = .returned (.bool true) ∧ Below w.heap.size w w' := by
  obtain ⟨hle, hmax⟩ := h.le
  obtain ⟨L, hL⟩ : ∃ L : Nat, L = min len 60 := ⟨_, rfl⟩
  have hLi : min (len : Int) 60 = (L : Int) := by omega
  have hL60 : L ≤ 60 := by omega
  have hsl := fun w => run_take (P := Tryd.prog) w 22 Tryd.underlying22 (s := 1) (fun w => by kernel_rfl) p len cap L (by omega)
  have HA := Lib.hid h.at_
  have HLl := Lib.hid (show L ≤ len by omega)
  clear h hL
  go_enter Tryd.func3, Tryd.ntmps3
  go_wp2_with fail
  go_loopw [29] (fun iv wr => CutsRel xs L w iv wr) (fun iv _ => L - (intOf iv).toNat)
  case atStart => exact ⟨0, Nat.zero_le _, rfl, Bd.new w, by go_grown⟩
  case round =>
    obtain ⟨k, hk, rfl, hbd, hb⟩ := hrel
    by_cases hlt : k < L
    · obtain ⟨b, off, rfl, hbl, hc, -, -⟩ := HA.out.get (show k < len from Nat.lt_of_lt_of_le hlt HLl.out)
      have hcell : wr.cell? ⟨b, off + k, none⟩ = some (.int .i64 (xs.getD k 0)) := (hb.cell (p := ⟨b, off + k, none⟩) hbl).trans hc
      have hS := Lib.hid (lowBits_snoc xs k)
      have hlen : (digitsOf (lowBits xs k)).length ≤ 60 := by simp [digitsOf, lowBits_length]; omega
      have h1 := and1 (xs.getD k 0)
      have h2 : (xs.getD k 0 % 2).toNat ≤ 1 := by omega
      have HB := Lib.hid (And.intro hbd hb)
      generalize (xs.getD k 0 % 2).toNat = x at *
      generalize xs.getD k 0 = y at *
      clear hc hbd hb
      rcases (show x = 0 ∨ x = 1 by omega) with rfl | rfl
      all_goals
        go_wp2_with fail
        refine (writeString_any _ _ _ _ _ (((HB.out.1).below (by go_grown))) (by simp [ByteArray.size]; omega)).mono ?_; rintro e w4 ⟨rfl, d4, b4⟩
        go_wp2_with fail
        refine ⟨⟨k + 1, hlt, rfl, ?_, (HB.out.2.alloc (HB.out.2.size) _).trans b4⟩, by simp [intOf]; omega⟩
        rw [hS.out, digitsOf_snoc]
        exact d4
    · obtain rfl : k = L := by omega
      have hbin := lowBits_bin xs k
      have hll := lowBits_length xs k
      generalize lowBits xs k = bs at *
      have HB := Lib.hid (And.intro hbd hb)
      have HBin := Lib.hid hbin
      have HC := Lib.hid (fun v w1 hv a b hab hbl => cut_any v bs hbin (by omega) a b hab hbl w1 hv)
      have hbl : bs.length ≤ 60 := by omega
      have hss := strB_size bs
      have hst := string_any _ _ _ _ HB.out.1
      rw [show (⟨(digitsOf bs).toArray⟩ : ByteArray) = strB bs from rfl] at hst
      have HR := Lib.hid (fun w1 => read_any bs HBin.out hbl w1)
      obtain ⟨s, hs⟩ : ∃ s, s = strB bs := ⟨_, rfl⟩
      rw [← hs] at hst hss HR
      have HSt := Lib.hid hst
      have HSs := Lib.hid hs
      clear hbd hb hbin hll hst hs
      go_wp2_with fail
      refine HSt.out.mono ?_; rintro e w1 ⟨rfl, b1⟩
      have HW1 := Lib.hid (HB.out.2.trans b1)
      clear b1
      go_wp2_with fail
      refine (HR.out w1).mono ?_; rintro e w2 ⟨v2, rfl, hv2, b2⟩
      obtain ⟨p2, c2, rfl⟩ := hv2.out
      have hsz2 := b2.size
      have HV2 := Lib.hid (And.intro hv2 b2)
      clear hv2 b2
      have e1 : IntKind.i64.wrap ((bs.length : Int) + 1) = (bs.length : Int) + 1 := IntWalk.i64_in _ ⟨by omega, by omega⟩
      have z1 : 0 ≤ k0 % ((bs.length : Int) + 1) := Int.emod_nonneg _ (by omega)
      have z2 : k0 % ((bs.length : Int) + 1) < (bs.length : Int) + 1 := Int.emod_lt_of_pos _ (by omega)
      obtain ⟨kn, hkn⟩ : ∃ kn : Nat, k0 % ((bs.length : Int) + 1) = (kn : Int) := ⟨_, (Int.toNat_of_nonneg z1).symm⟩
      have hkl : kn ≤ bs.length := by omega
      obtain ⟨tn, htn⟩ : ∃ tn : Nat, 1 + to0 % 40 = (tn : Int) := ⟨(1 + to0 % 40).toNat, by omega⟩
      have ht1 : 1 ≤ tn := by omega
      have ht2 : tn ≤ 40 := by omega
      have e2 : IntKind.i64.wrap (1 + to0 % 40) = (tn : Int) := by rw [IntWalk.i64_in _ ⟨by omega, by omega⟩]; exact htn
      have HB1 := Lib.hid (below_any k0 ((bs.length : Int) + 1) (by omega) (by omega))
      have HB2 := Lib.hid (below_any to0 40 (by omega) (by omega))
      rw [hkn] at HB1
      clear z1 z2 htn hkn
      go_wp2_with fail
      ((with_reducible refine (HB1.out _).mono ?_); rintro e w3 ⟨rfl, rfl⟩)
      go_wp2_with fail
      ((with_reducible refine (HB2.out _).mono ?_); rintro e w3 ⟨rfl, rfl⟩)
      obtain ⟨w3, hw3, x3, b3, v3⟩ := box_new HV2.out.2 HV2.out.1
      rw [← hw3]
      have c0 := x3.c0
      have c1 := x3.c1
      have Hb := Lib.hid (And.intro x3 v3)
      have HW3 := Lib.hid (HW1.out.trans (b3.mono (HW1.out.size)))
      have HC1 := HC.out _ w3 Hb.out.2 0 kn (Nat.zero_le _) hkl
      have HC2 := Lib.hid (fun w' (b : Below w3.heap.size w3 w') => HC.out _ w' (Hb.out.2.below b) kn bs.length hkl (Nat.le_refl _))
      have hy : (bs.drop kn).take (bs.length - kn) = bs.drop kn := List.take_of_length_le (by simp)
      have hx : (bs.drop 0).take (kn - 0) = bs.take kn := by simp
      have hxy : bs.take kn ++ bs.drop kn = bs := List.take_append_drop _ _
      have hbx := HBin.out.take kn
      have hby : Bin (bs.drop kn) := fun x hx => HBin.out x (List.mem_of_mem_drop hx)
      have hlx : (bs.take kn).length + (bs.drop kn).length ≤ 60 := by rw [← List.length_append, hxy]; exact hbl
      rw [hx] at HC1
      rw [hy] at HC2
      generalize bs.take kn = bx at *
      generalize bs.drop kn = by' at *
      have HC1 := Lib.hid HC1
      have HXY := Lib.hid (And.intro hxy (And.intro hbx (And.intro hby hlx)))
      have HAl := Lib.hid (fun w' (b : Below w3.heap.size w3 w') => align_any _ bs HBin.out hbl tn ht1 ht2 w' (Hb.out.2.below b))
      generalize w2.heap.size = g at *
      clear b3 hw3 x3 v3 HW1 HV2 hy hx hxy hbx hby hlx
      go_wp2_with fail
      refine HC1.out.mono ?_; rintro e w4 ⟨v, rfl, hv, b4⟩
      obtain ⟨px, cx, rfl⟩ := hv.out
      obtain ⟨w5, hw5, x5, b5, v5⟩ := box_new b4 hv
      have y5 := (Hb.out.1.below b5)
      have d0 := y5.c0
      have d1 := y5.c1
      rw [hw5] at d0 d1
      clear b4 hv c0 c1
      have HX := Lib.hid (And.intro x5 (And.intro v5 (And.intro b5 y5)))
      clear x5 v5 b5 y5
      go_wp2_with fail
      rw [← hw5]
      generalize w4.heap.size = gx at *
      clear hw5 d0 d1
      refine (HC2.out w5 HX.out.2.2.1).mono ?_; rintro e w6 ⟨v, rfl, hv, b6⟩
      obtain ⟨py, cy, rfl⟩ := hv.out
      obtain ⟨w7, hw7, x7, b7, v7⟩ := box_new b6 hv
      have zx := HX.out.1.below b7
      have d0 := zx.c0
      have d1 := zx.c1
      have d2 := x7.c0
      have d3 := x7.c1
      rw [hw7] at d0 d1 d2 d3
      have HY := Lib.hid (And.intro (HX.out.2.2.2.below b7) (And.intro (HX.out.2.1.below b7) (And.intro v7 (HX.out.2.2.1.trans (b7.mono HX.out.2.2.1.size)))))
      clear b6 hv x7 b7 v7 zx
      go_wp2_with fail
      rw [← hw7]
      generalize w6.heap.size = gy at *
      clear hw7 d0 d1 d2 d3
      refine (cat_any _ _ bx by' HXY.out.2.1 HXY.out.2.2.1 (by have := HXY.out.2.2.2; omega) w7 HY.out.2.1 HY.out.2.2.1).mono ?_; rintro e w8 ⟨v, rfl, hv, b8⟩
      rw [HXY.out.1] at hv
      obtain ⟨pc, cc, rfl⟩ := hv.out
      obtain ⟨w9, hw9, x9, b9, v9⟩ := box_new b8 hv
      have zb := HY.out.1.below b9
      have d0 := zb.c0
      have d1 := zb.c1
      rw [hw9] at d0 d1
      have HZ := Lib.hid (And.intro zb (And.intro x9 (And.intro v9 (HY.out.2.2.2.trans (b9.mono HY.out.2.2.2.size)))))
      clear b8 hv x9 b9 v9 zb
      go_wp2_with fail
      rw [← hw9]
      generalize w8.heap.size = gc at *
      clear hw9 d0 d1
      refine (HAl.out w9 HZ.out.2.2.2).mono ?_; rintro e w10 ⟨v, rfl, hv, b10⟩
      have hza : ∃ n, n = (tn - bs.length % tn) % tn := ⟨_, rfl⟩
      obtain ⟨n, hn⟩ := hza
      rw [← hn] at hv
      obtain ⟨al, hal⟩ : ∃ al, al = bs ++ List.replicate n 0 := ⟨_, rfl⟩
      rw [← hal] at hv
      obtain ⟨pd, cd, rfl⟩ := hv.out
      obtain ⟨w11, hw11, x11, b11, v11⟩ := box_new b10 hv
      have d0 := x11.c0
      have d1 := x11.c1
      rw [hw11] at d0 d1
      have HD := Lib.hid (And.intro (HZ.out.1.below b11) (And.intro (HZ.out.2.1.below b11) (And.intro (HZ.out.2.2.1.below b11) (And.intro v11 (HZ.out.2.2.2.trans (b11.mono HZ.out.2.2.2.size))))))
      have HN := Lib.hid (And.intro hn hal)
      clear b10 hv x11 b11 v11 hn hal
      go_wp2_with fail
      rw [← hw11]
      generalize w10.heap.size = gd at *
      clear hw11 d0 d1
      have hall : al.length = bs.length + n := by rw [HN.out.2]; simp
      have hbal : Bin al := by
        rw [HN.out.2]
        exact HBin.out.append' (fun x hx => by rw [List.eq_of_mem_replicate hx]; exact Nat.zero_le _)
      have hml : bs.length % tn < tn := Nat.mod_lt _ (by omega)
      have hnl : n < tn := by rw [HN.out.1]; exact Nat.mod_lt _ (by omega)
      have hdv : (bs.length + n) % tn = 0 := by
        rw [HN.out.1]
        by_cases h0 : bs.length % tn = 0
        · rw [h0, Nat.sub_zero, Nat.mod_self, Nat.add_zero, h0]
        · rw [Nat.mod_eq_of_lt (show tn - bs.length % tn < tn by omega)]
          have := Nat.div_add_mod bs.length tn
          rw [show bs.length + (tn - bs.length % tn) = tn * (bs.length / tn + 1) from by rw [Nat.mul_add]; omega]
          exact Nat.mul_mod_right _ _
      have htx := text_any _ al hbal (by omega) w11 HD.out.2.2.2.1
      have hsal := strB_size al
      have hT : Lib.trimRightB (strB al).data.toList 48 = Lib.trimRightB (strB bs).data.toList 48 := by
        show Lib.trimRightB (digitsOf al) 48 = Lib.trimRightB (digitsOf bs) 48
        rw [HN.out.2, digitsOf_zeros, trimRight_zeros]
      rw [show (⟨(digitsOf al).toArray⟩ : ByteArray) = strB al from rfl] at htx
      rw [← HSs.out] at hT
      have hT1 := fun w => Tryd.strings_TrimRight_one (strB al) 48 (by decide) w (by omega)
      have hT2 := fun w => Tryd.strings_TrimRight_one s 48 (by decide) w (by omega)
      rw [hT] at hT1
      generalize strB al = tt at *
      have q1 : Int.tmod (al.length : Int) (tn : Int) = 0 := by
        rw [Int.tmod_eq_emod_of_nonneg (by omega), hall]
        have : (((bs.length + n) % tn : Nat) : Int) = 0 := by rw [hdv]; rfl
        simpa using this
      have q2 : decide (al.length < bs.length + tn) = true := decide_eq_true (by omega)
      have q3 : decide ((al.length : Int) < (bs.length : Int) + (tn : Int)) = true := decide_eq_true (by omega)
      have q4 : al.length ≤ 1000 := by omega
      have q5 : ((tn : Int) == 0) = false := beq_eq_false_iff_ne.2 (by omega)
      have HTx := Lib.hid htx
      have HT := Lib.hid (And.intro hT1 hT2)
      generalize Lib.trimRightB s.data.toList 48 = tr at *
      clear hT htx hT1 hT2 hbal hml hnl hdv hall
      refine HTx.out.mono ?_; rintro e w12 ⟨rfl, b12⟩
      have HE := Lib.hid (And.intro b12 (HD.out.2.2.2.2.trans (b12.mono HD.out.2.2.2.2.size)))
      clear b12
      go_wp2_with fail
      refine (strung_any _).mono ?_; rintro e w13 ⟨rfl, b13⟩
      have b1113 := HE.out.1.trans (b13.mono HE.out.1.size)
      have ub := HD.out.1.below b1113
      have uc := HD.out.2.1.below b1113
      have d0 := ub.c0
      have d1 := ub.c1
      have d2 := uc.c0
      have d3 := uc.c1
      have HF := Lib.hid (And.intro ((Hb.out.2.below HD.out.2.2.2.2).below b1113) (And.intro (HD.out.2.2.1.below b1113) (HE.out.2.trans (b13.mono HE.out.2.size))))
      clear b13 b1113 ub uc
      go_wp2_with fail
      refine (same_any _ _ bs (by omega) w13 HF.out.1 HF.out.2.1).mono ?_; rintro e w14 ⟨rfl, b14⟩
      have HGG := Lib.hid (HF.out.2.2.trans (b14.mono HF.out.2.2.size))
      clear b14 d0 d1 d2 d3
      go_wp2_with fail
      refine (HT.out.1 _).mono ?_; rintro e w15 ⟨rfl, rfl⟩
      go_wp2_with fail
      refine (HT.out.2 _).mono ?_; rintro e w15 ⟨rfl, rfl⟩
      go_wp2_with fail
      go_ret
      exact ⟨rfl, HW3.out.trans (HGG.out.mono HW3.out.size)⟩

end Go.Proofs.YtpoolbachhelgaaDoor
