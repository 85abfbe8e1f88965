/- The contracts of decimal.value and decimal.Read at numerals that are right. -/
import Derived.Test.YtpoolbachhelgaaDoorNum
import Derived.Test.YtpoolbachhelgaaDoorText
import Derived.Test.YtpoolbachhelgaaDoorShelf
import Derived.Lib.ConvBytes
namespace Go.Proofs.YtpoolbachhelgaaDoor
open Go.RowKit

set_option maxHeartbeats 400000 in
theorem value_any (c : Nat) (h : c < 256) (w : World) :
    Calls Tryd.prog 58 #[.int .u8 c] w fun e w' => e = .returned (.int .i64 (valC c)) ∧ w = w' := by
  have H := Lib.hid (show valC c = if 48 ≤ (c : Int) ∧ (c : Int) ≤ 57 then (c : Int) - 48 else if 97 ≤ (c : Int) ∧ (c : Int) ≤ 122 then (c : Int) - 87 else -1 from rfl)
  by_cases h1 : 48 ≤ (c : Int) ∧ (c : Int) ≤ 57
  · rw [if_pos h1] at H
    obtain ⟨a, b⟩ := h1
    go_enter Tryd.func58, Tryd.ntmps58
    go_wp2
    go_ret
    exact ⟨ret_int H.out.symm, rfl⟩
  · rw [if_neg h1] at H
    by_cases h2 : 97 ≤ (c : Int) ∧ (c : Int) ≤ 122
    · rw [if_pos h2] at H
      obtain ⟨a, b⟩ := h2
      clear h1
      go_enter Tryd.func58, Tryd.ntmps58
      go_wp2
      go_ret
      exact ⟨ret_int (by rw [H.out]; omega), rfl⟩
    · rw [if_neg h2] at H
      by_cases h3 : (c : Int) < 48
      · clear h1 h2
        go_enter Tryd.func58, Tryd.ntmps58
        go_wp2
        go_ret
        exact ⟨ret_int H.out.symm, rfl⟩
      · have h4 : 58 ≤ (c : Int) := by omega
        by_cases h5 : (c : Int) < 97
        · clear h1 h2 h3
          go_enter Tryd.func58, Tryd.ntmps58
          go_wp2
          go_ret
          exact ⟨ret_int H.out.symm, rfl⟩
        · have h6 : 123 ≤ (c : Int) := by omega
          clear h1 h2 h3 h5 h4
          go_enter Tryd.func58, Tryd.ntmps58
          go_wp2
          go_ret
          exact ⟨ret_int H.out.symm, rfl⟩

theorem ofNat_ne {a b : Nat} (ha : a < 256) (hb : b < 256) (h : a ≠ b) : UInt8.ofNat a ≠ UInt8.ofNat b := by
  intro e
  apply h
  have := congrArg UInt8.toNat e
  rwa [UInt8.toNat_ofNat_of_lt' ha, UInt8.toNat_ofNat_of_lt' hb] at this
theorem cut_sign (neg : Bool) (L : List Nat) (h : ∀ c ∈ L, c < 256 ∧ c ≠ 45) : Lib.trimPrefix (strN (signed neg L)).data.toList [45] = (strN L).data.toList ∧ Lib.hasPrefix (strN (signed neg L)).data.toList [45] = neg := by
  cases neg
  · show Lib.trimPrefix (strN L).data.toList [45] = _ ∧ Lib.hasPrefix (strN L).data.toList [45] = false
    have hp : Lib.hasPrefix (strN L).data.toList [45] = false := by
      rw [strN_data]
      cases L with
      | nil => rfl
      | cons c L =>
        obtain ⟨h1, h2⟩ := h c (List.mem_cons_self ..)
        have := ofNat_ne (a := 45) (b := c) (by omega) h1 (fun e => h2 e.symm)
        show ((45 : UInt8) == UInt8.ofNat c && List.isPrefixOf [] (L.map UInt8.ofNat)) = false
        rw [show ((45 : UInt8) == UInt8.ofNat c) = false from beq_eq_false_iff_ne.2 this]; rfl
    refine ⟨?_, hp⟩
    simp [Lib.trimPrefix, hp]
  · have hp : Lib.hasPrefix (strN (signed true L)).data.toList [45] = true := by simp [signed, strN, Lib.hasPrefix]
    refine ⟨?_, hp⟩
    simp [Lib.trimPrefix, hp]
    simp [signed, strN]

theorem below_bytes (w : World) (e : TypeId) (s : ByteArray) : Below w.heap.size w (Lib.bytesWorld w e s) :=
  ⟨rfl, rfl, rfl, by rw [Lib.bytesWorld_size]; omega, fun k hk => Lib.bytesWorld_at_old w e s k hk⟩

def ReadRel (b : Nat) (D : List Nat) (w : World) (nv lv iv : Value) (wr : World) : Prop :=
  ∃ i : Nat, i ≤ D.length ∧ nv = .int .i64 (ev b (D.take i)) ∧ lv = .bool false ∧ iv = .int .i64 i ∧ w = wr

theorem ReadRel.go {b : Nat} {D : List Nat} {w : World} {nv : Value} {i y : Nat} (hi : i < D.length) (hy : ev b (D.take (i + 1)) = y) (h : nv = .int .i64 (y : Nat)) : ReadRel b D w nv (.bool false) (.int .i64 ((i : Int) + 1)) w :=
  ⟨i + 1, hi, by rw [hy]; exact h, rfl, rfl, rfl⟩

set_option maxRecDepth 100000 in
set_option maxHeartbeats 2000000 in
theorem read_any (neg : Bool) (D : List Nat) (b : Nat) (hb : 2 ≤ b) (hb' : b ≤ 36) (hD : ∀ d ∈ D, d < b) (hne : 1 ≤ D.length) (hlen : D.length ≤ 60) (hlead : 2 ≤ D.length → D.getD 0 0 ≠ 0) (hneg : neg = true → D ≠ [0]) (hev : ev b D ≤ 9007199254740992) (w : World) :
    Calls Tryd.prog 33 #[.string (strN (signed neg (D.map digC))), .int .i64 b] w fun e w' => e = .returned (.tuple #[.int .i64 (if neg then -(ev b D : Int) else ev b D), .int .i64 0]) ∧ Below w.heap.size w w' := by
  have hL : ∀ c ∈ D.map digC, c < 256 ∧ c ≠ 45 := by
    intro c hc
    obtain ⟨d, hd, rfl⟩ := List.mem_map.1 hc
    have := digC_ne d
    exact ⟨digC_lt d (by have := hD d hd; omega), by omega⟩
  obtain ⟨hc1, hc2⟩ := cut_sign neg (D.map digC) hL
  have hcut := Tryd.strings_CutPrefix (strN (signed neg (D.map digC))) ⟨#[45]⟩ w
  rw [show (⟨#[45]⟩ : ByteArray).data.toList = [45] from rfl, hc1, hc2] at hcut
  have hS : (strN (signed neg (D.map digC))).size ≤ 80 := by
    rw [strN_size]
    cases neg <;> simp [signed] <;> omega
  have hget : ∀ i, i < D.length → (((strN (D.map digC)).data.toList.getD i 0).toNat : Int) = (digC (D.getD i 0) : Nat) := by
    intro i hi
    have := strN_getD (D.map digC) (fun c hc => (hL c hc).1) i (by simpa using hi)
    rw [this]
    simp [List.getD, hi]
  have hts : (strN (D.map digC)).size = D.length := by rw [strN_size, List.length_map]
  have hbk : (⟨(strN (D.map digC)).data.toList.toArray⟩ : ByteArray) = strN (D.map digC) := rfl
  rw [hbk] at hcut
  have hzero : neg = true → strN (D.map digC) ≠ ⟨#[48]⟩ := by
    intro hn e
    have e1 := congrArg (fun x : ByteArray => x.size) e
    simp only [hts] at e1
    have hl1 : D.length = 1 := e1
    obtain ⟨d, rfl⟩ : ∃ d, D = [d] := by
      match D, hl1 with
      | [d], _ => exact ⟨d, rfl⟩
    have := hget 0 (by simp)
    rw [e] at this
    have h48 : digC d = 48 := by
      have h2 : (48 : Int) = (digC d : Nat) := this
      omega
    have hd36 := hD d (List.mem_singleton.2 rfl)
    unfold digC at h48
    split at h48
    · exact hneg hn (by congr 1; omega)
    · omega
  generalize strN (signed neg (D.map digC)) = s at *
  generalize strN (D.map digC) = t at *
  have HC := Lib.hid hcut
  have HG := Lib.hid hget
  have hdv : ∀ i, i < D.length → (D.getD i 0) < b := by
    intro i hi
    have e : D.getD i 0 = D[i] := by simp [List.getD, hi]
    rw [e]; exact hD _ (List.getElem_mem hi)
  have HD := Lib.hid hdv
  have HLd := Lib.hid hlead
  have t1 : decide ((b : Int) < 2) = false := decide_eq_false (by omega)
  have t2 : decide (36 < (b : Int)) = false := decide_eq_false (by omega)
  have t3 : decide (80 < s.size) = false := decide_eq_false (by omega)
  have t3' : decide (80 < (s.size : Int)) = false := decide_eq_false (by omega)
  have hcv := fun W => Lib.run_convert_string_bytes (P := Tryd.prog) W 9 24 5 t Tryd.underlying9 Tryd.underlying24 Tryd.underlying5
  have te : t.toList.isEmpty = false := by
    rw [ByteArray.toList_eq]
    cases hl : t.data.toList with
    | nil =>
      have : t.data.toList.length = D.length := hts
      rw [hl] at this
      exact absurd this (by simp; omega)
    | cons _ _ => rfl
  have tz : neg = true → (t.toList == [48]) = false := by
    intro hn
    rw [ByteArray.toList_eq, beq_eq_false_iff_ne]
    intro e
    apply hzero hn
    exact ByteArray.ext (Array.toList_inj.1 e)
  have tl : ∀ h : 2 ≤ D.length, (((t[0]'(by omega)).toNat : Int) == 48) = false := by
    intro h
    have h1 := hlead h
    have h2 := hget 0 (by omega)
    have h3 : t.data.toList.getD 0 0 = t[0]'(by omega) := by simp [List.getD, show 0 < t.size by omega]; rfl
    rw [h3] at h2
    rw [beq_eq_false_iff_ne, h2]
    have := hdv 0 (by omega)
    unfold digC
    split <;> omega
  have HZ := Lib.hid tz
  have HT := Lib.hid tl
  clear hL hc1 hc2 hcut hS hget hbk hdv hlead tz tl hzero
  have h0 : 0 < D.length := hne
  have hcase : (decide (1 < (D.length : Int)) = false) ∨ (decide (1 < (D.length : Int)) = true ∧ 2 ≤ D.length) := by
    by_cases h : 1 < D.length
    · exact Or.inr ⟨decide_eq_true (by omega), h⟩
    · exact Or.inl (decide_eq_false (by omega))
  have hdig : ∀ i, i < D.length → valC (digC (D.getD i 0)) = (D.getD i 0 : Nat) := fun i hi => valC_digC _ (by have := HD.out i hi; omega)
  have HV := Lib.hid hdig
  have hpre : ∀ i, ev b (D.take i) ≤ 9007199254740992 := fun i => Nat.le_trans (ev_take_le b (by omega) D i) hev
  have hstep : ∀ i, i < D.length → ev b (D.take (i + 1)) = ev b (D.take i) * b + D.getD i 0 := by
    intro i hi
    rw [List.take_succ_eq_append_getElem hi, ev_snoc]
    simp [List.getD, hi]
  have HP := Lib.hid (And.intro hpre hstep)
  have HE := Lib.hid (show ev b (D.take D.length) = ev b D by rw [List.take_length])
  clear hdig hpre hstep hD hneg
  generalize ev b D = E at *
  cases neg
  all_goals
    have hz := HZ.out
    simp only [Bool.false_eq_true, false_imp_iff, true_imp_iff, if_true, if_false] at hz ⊢
    rcases hcase with hl | ⟨hl, hl2⟩
    all_goals
      first | have ht0 := HT.out hl2 | skip
      go_enter Tryd.func33, Tryd.ntmps33
      go_wp2_with fail
      refine HC.out.mono ?_; rintro e w1 ⟨rfl, rfl⟩
      go_wp2_with fail
      have hcell := fun (k : Nat) (hk : k < t.size) => Lib.bytesWorld_cell w1 5 t k hk
      have hbb := below_bytes w1 5 t
      generalize Lib.bytesWorld w1 5 t = w2 at *
      generalize grownCap w1 t.size 0 5 = cp
      have HCl := Lib.hid hcell
      have HBb := Lib.hid hbb
      clear hcell hbb hcv
      obtain ⟨W, rfl⟩ : ∃ W, W = w1 := ⟨_, rfl⟩
      go_loopw [8, 9, 51] (fun nv lv iv wr => ReadRel b D w2 nv lv iv wr) (fun _ _ iv _ => D.length - (intOf iv).toNat)
      case atStart => exact ⟨0, Nat.zero_le _, rfl, rfl, rfl, rfl⟩
      case round =>
        obtain ⟨i, hi, rfl, rfl, rfl, rfl⟩ := hrel
        by_cases hlt : i < D.length
        · have hc := HCl.out i (by omega)
          rw [HG.out i hlt] at hc
          have hv := HV.out i hlt
          have hst := HP.out.2 i hlt
          have hd := HD.out i hlt
          have hp0 := HP.out.1 i
          have hp1 := HP.out.1 (i + 1)
          have HR := Lib.hid (fun nv y hy h => ReadRel.go (w := w2) (nv := nv) (y := y) (b := b) hlt hy h)
          generalize D.getD i 0 = d at *
          generalize hyy : ev b (D.take (i + 1)) = y at *
          have HYY := Lib.hid hyy
          clear hyy
          generalize ev b (D.take i) = x at *
          have hx : (x : Int) * (b : Int) = ((x * b : Nat) : Int) := by simp
          generalize x * b = q at *
          have m1 : IntKind.i64.wrap ((x : Int) * (b : Int)) = (q : Int) := by rw [hx]; exact IntWalk.i64_in _ ⟨by omega, by omega⟩
          have m2 : IntKind.i64.wrap ((q : Int) + (d : Int)) = (q : Int) + (d : Int) := IntWalk.i64_in _ ⟨by omega, by omega⟩
          have v1 : decide ((d : Int) < 0) = false := decide_eq_false (by omega)
          have v2 : decide ((b : Int) ≤ (d : Int)) = false := decide_eq_false (by omega)
          have v2' : decide (b ≤ d) = false := decide_eq_false (by omega)
          have v3 : decide (9007199254740992 < (x : Int)) = false := decide_eq_false (by omega)
          have HVa := value_any (digC d) (digC_lt d (by omega)) w2
          rw [hv] at HVa
          have HVa := Lib.hid HVa
          have HY := Lib.hid hst
          clear hx hv hst hp0 hp1
          go_wp2_with fail
          refine HVa.out.mono ?_; rintro e w3 ⟨rfl, rfl⟩
          go_wp2_with fail
          exact ⟨HR.out _ y rfl (by rw [HY.out]; rfl), by simp [intOf]; omega⟩
        · obtain rfl : i = D.length := by omega
          rw [HE.out]
          have v3 : decide (9007199254740992 < (E : Int)) = false := decide_eq_false (by omega)
          go_wp2_with fail
          go_ret2
          exact ⟨rfl, HBb.out⟩

end Go.Proofs.YtpoolbachhelgaaDoor
