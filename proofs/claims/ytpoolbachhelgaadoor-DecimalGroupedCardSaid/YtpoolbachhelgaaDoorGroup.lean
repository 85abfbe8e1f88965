/- The contract of decimal.Group at numerals with a comma between their groups. -/
import Derived.Test.YtpoolbachhelgaaDoorRead
import Derived.Test.YtpoolbachhelgaaDoorGrp
import Derived.Test.YtpoolbachhelgaaDoorCutOne
import Derived.Test.YtpoolbachhelgaaDoorBuildS
namespace Go.Proofs.YtpoolbachhelgaaDoor
open Go.RowKit

def tailL (pt : Bool) (F : List Nat) : List Nat := if pt then 46 :: F else []
def u8s (L : List Nat) : List UInt8 := L.map UInt8.ofNat
theorem u8s_append (a b : List Nat) : u8s (a ++ b) = u8s a ++ u8s b := by simp [u8s]
theorem u8s_length (a : List Nat) : (u8s a).length = a.length := by simp [u8s]
def signL (neg : Bool) : List Nat := if neg then [45] else []
theorem signed_eq (neg : Bool) (L : List Nat) : signed neg L = signL neg ++ L := by cases neg <;> rfl
theorem outTo_length (size : Nat) (l : List Nat) (i : Nat) : (outTo size l i).length ≤ 2 * i := by
  induction i with
  | zero => simp [outTo]
  | succ i ih =>
    rw [outTo_succ, List.length_append]
    have : (putAt size l i).length ≤ 2 := by unfold putAt; split <;> simp
    omega
def GroupRel (S : List Nat) (size : Nat) (W : List Nat) (g : Nat) (w : World) (iv : Value) (wr : World) : Prop :=
  ∃ i : Nat, i ≤ W.length ∧ iv = .int .i64 i ∧ Bd g g (u8s (S ++ outTo size W i)) wr ∧ Below g w wr
theorem GroupRel.go {S : List Nat} {size : Nat} {W : List Nat} {g : Nat} {w w1 : World} {i : Nat} {c : UInt8} {l : List UInt8} (hi : i < W.length) (h : Bd g g (l ++ [c]) w1) (hl : u8s (S ++ outTo size W (i + 1)) = l ++ [c]) (hb : Below g w w1) : GroupRel S size W g w (.int .i64 ((i : Int) + 1)) w1 :=
  ⟨i + 1, hi, rfl, by rw [hl]; exact h, hb⟩

theorem ret2_strN {a b : List Nat} {v : Value} (h : a = b) : Ending.returned (.tuple #[.string ⟨(u8s a).toArray⟩, v]) = .returned (.tuple #[.string (strN b), v]) := by rw [h]; rfl
theorem ret2_strB {a : List UInt8} {b : List Nat} {v : Value} (h : a = u8s b) : Ending.returned (.tuple #[.string ⟨a.toArray⟩, v]) = .returned (.tuple #[.string (strN b), v]) := by rw [h]; rfl

set_option maxRecDepth 100000 in
set_option maxHeartbeats 4000000 in
theorem group_any (neg pt : Bool) (W F : List Nat) (hpt : pt = false → F = []) (hpt2 : pt = true → 1 ≤ F.length) (hW : ∀ c ∈ W, 48 ≤ c ∧ c ≤ 57) (hF : ∀ c ∈ F, 48 ≤ c ∧ c ≤ 57) (hW1 : 1 ≤ W.length) (hlen : W.length + F.length ≤ 75) (size : Nat) (hs1 : 1 ≤ size) (hs2 : size ≤ 15) (w : World) :
    Calls Tryd.prog 26 #[.string (strN (signed neg (W ++ tailL pt F))), .int .i64 size, .int .u8 44] w fun e w' => e = .returned (.tuple #[.string (strN (signed neg (outTo size W W.length ++ tailL pt F))), .int .i64 0]) ∧ Below w.heap.size w w' := by
  have hmem : ∀ c ∈ W ++ tailL pt F, c < 256 ∧ c ≠ 45 := by
    intro c hc
    rcases List.mem_append.1 hc with hc | hc
    · have := hW c hc; omega
    · unfold tailL at hc
      cases pt
      · cases hc
      · rcases List.mem_cons.1 hc with rfl | hc
        · decide
        · have := hF c hc; omega
  obtain ⟨hc1, hc2⟩ := cut_sign neg (W ++ tailL pt F) hmem
  have hcut := Tryd.strings_CutPrefix (strN (signed neg (W ++ tailL pt F))) ⟨#[45]⟩ w
  rw [show (⟨#[45]⟩ : ByteArray).data.toList = [45] from rfl, hc1, hc2, show (⟨(strN (W ++ tailL pt F)).data.toList.toArray⟩ : ByteArray) = strN (W ++ tailL pt F) from rfl] at hcut
  have hne46 : ∀ b ∈ W.map UInt8.ofNat, b ≠ 46 := by
    intro b hb
    obtain ⟨c, hc, rfl⟩ := List.mem_map.1 hb
    have := hW c hc
    exact ofNat_ne (a := c) (b := 46) (by omega) (by omega) (by omega)
  have hsz : (strN (signed neg (W ++ tailL pt F))).size ≤ 80 := by
    rw [strN_size]
    cases neg <;> cases pt <;> simp [signed, tailL] <;> omega
  have hc : ∀ w, Calls Tryd.prog 28 #[.string (strN (W ++ tailL pt F)), .string ⟨#[46]⟩] w fun e w' => e = .returned (.tuple #[.string (strN W), .string (strN F), .bool pt]) ∧ Below w.heap.size w w' := by
    intro w
    cases pt
    · rw [hpt rfl]
      have e : strN (W ++ tailL false []) = strN W := by simp [tailL]
      rw [e]
      have hi : Lib.indexByte (strN W).data.toList 46 = -1 := by rw [strN_data]; exact indexByte_none _ _ hne46
      exact (cutOne_none (strN W) 46 hi w).mono fun _ _ ⟨a, b⟩ => ⟨a, by subst b; exact Below.refl _ _⟩
    · have hi : Lib.indexByte (strN (W ++ tailL true F)).data.toList 46 = (W.length : Nat) := by
        rw [strN_data]
        have := indexByte_at (W.map UInt8.ofNat) (F.map UInt8.ofNat) 46 hne46
        rw [List.length_map] at this
        rw [show (W ++ tailL true F).map UInt8.ofNat = W.map UInt8.ofNat ++ 46 :: F.map UInt8.ofNat from by simp [tailL]]
        exact this
      have hl : (W ++ tailL true F).length = W.length + 1 + F.length := by simp [tailL]; omega
      have h := cutOne_at (strN (W ++ tailL true F)) 46 W.length hi (by rw [strN_size, hl]; omega) (by rw [strN_size, hl]; omega) w
      have e1 : (strN (W ++ tailL true F)).extract 0 W.length = strN W := by rw [strN_take, List.take_left]
      have e2 : (strN (W ++ tailL true F)).extract (W.length + 1) (strN (W ++ tailL true F)).size = strN F := by
        rw [strN_size, strN_drop]
        rw [show W ++ tailL true F = (W ++ [46]) ++ F from by simp [tailL], List.drop_left' (by simp)]
      rw [e1, e2] at h
      exact h
  have hls : (strN W).size = W.length := strN_size W
  have hlf : (strN F).size = F.length := strN_size F
  have hWF : strN W ++ strN F = strN (W ++ F) := (strN_append W F).symm
  have hcv := fun V => Lib.run_convert_string_bytes (P := Tryd.prog) V 9 24 5 (strN W ++ strN F) Tryd.underlying9 Tryd.underlying24 Tryd.underlying5
  have hby : ∀ k, k < W.length + F.length → ∃ c : Nat, 48 ≤ c ∧ c ≤ 57 ∧ ((strN W ++ strN F).data.toList.getD k 0).toNat = c := by
    intro k hk
    have hl : k < (W ++ F).length := by rw [List.length_append]; exact hk
    have hm : (W ++ F).getD k 0 ∈ W ++ F := by
      have : (W ++ F).getD k 0 = (W ++ F)[k] := by rw [List.getD, List.getElem?_eq_getElem hl]; rfl
      rw [this]; exact List.getElem_mem hl
    have hb : 48 ≤ (W ++ F).getD k 0 ∧ (W ++ F).getD k 0 ≤ 57 := (List.mem_append.1 hm).elim (hW _) (hF _)
    refine ⟨_, hb.1, hb.2, ?_⟩
    rw [hWF]
    exact strN_getD (W ++ F) (fun c hc => by have := (List.mem_append.1 hc).elim (hW c) (hF c); omega) k hl
  have tw : (strN W).toList.isEmpty = false := toList_nonempty _ (by omega)
  have tf : pt = true → (strN F).toList.isEmpty = false := fun h => toList_nonempty _ (by have := hpt2 h; omega)
  have hgb : ∀ i (_ : i < W.length) (h2 : i < (strN W).size), (strN W)[i]'h2 = UInt8.ofNat (W.getD i 0) := by
    intro i h h2
    have h3 : (strN W).data.toList.getD i 0 = (strN W)[i]'h2 := by simp [List.getD, h2]; rfl
    rw [← h3]
    simp [strN, List.getD, h]
  have hfin : (⟨(u8s (signL neg ++ outTo size W W.length)).toArray⟩ : ByteArray) = strN (signL neg ++ outTo size W W.length) := rfl
  have hout : strN (signed neg (outTo size W W.length ++ tailL pt F)) = strN (signL neg ++ outTo size W W.length ++ tailL pt F) := by rw [signed_eq, List.append_assoc]
  rw [hout]
  obtain ⟨S, hS⟩ : ∃ S, S = signL neg := ⟨_, rfl⟩
  rw [← hS]
  have HSg := Lib.hid hS
  have hSl : S.length ≤ 1 := by rw [hS]; cases neg <;> simp [signL]
  clear hS
  have hfs : (strN F).data.toList = u8s F := strN_data F
  have H1 := Lib.hid (hcut.mono fun _ _ ⟨a, b⟩ => And.intro a b.symm)
  have H2 := Lib.hid hc
  have HB := Lib.hid hby
  have HG := Lib.hid hgb
  have HF := Lib.hid hfs
  have HT := Lib.hid tf
  have HVs := Lib.hid (value_any 44 (by decide))
  rw [show valC ((44 : Nat) : Int) = -1 from by decide] at HVs
  have t1 : decide ((size : Int) < 1) = false := decide_eq_false (by omega)
  have t2 : decide (15 < (size : Int)) = false := decide_eq_false (by omega)
  have t3 : decide (80 < ((strN (signed neg (W ++ tailL pt F))).size : Int)) = false := decide_eq_false (by omega)
  have t4 : decide (80 < (strN (signed neg (W ++ tailL pt F))).size) = false := decide_eq_false (by omega)
  have ts0 : ((size : Int) == 0) = false := beq_eq_false_iff_ne.2 (by omega)
  clear hmem hc1 hc2 hcut hne46 hc hWF hby tf hgb hfin hout hfs hW hF
  generalize strN (signed neg (W ++ tailL pt F)) = s at *
  generalize strN (W ++ tailL pt F) = B at *
  generalize strN W = Wh at *
  generalize strN F = Fa at *
  go_enter Tryd.func26, Tryd.ntmps26
  go_wp2_with fail
  refine (HVs.out _).mono ?_; rintro e w1 ⟨rfl, rfl⟩
  go_wp2_with fail
  refine H1.out.mono ?_; rintro e w1 ⟨rfl, rfl⟩
  go_wp2_with fail
  refine (H2.out _).mono ?_; rintro e w1 ⟨rfl, b1⟩
  go_wp2_with fail
  have hcell := fun (k : Nat) (hk : k < (Wh ++ Fa).size) => Lib.bytesWorld_cell w1 5 (Wh ++ Fa) k hk
  have hbb := below_bytes w1 5 (Wh ++ Fa)
  rw [ByteArray.size_append, hls, hlf] at hcell
  generalize Lib.bytesWorld w1 5 (Wh ++ Fa) = w2 at *
  have HCl := Lib.hid hcell
  have HBb := Lib.hid (And.intro b1 hbb)
  clear hcell hbb b1 hcv
  generalize grownCap w1 (W.length + F.length) 0 5 = cp
  have hz12 : w.heap.size ≤ w1.heap.size := HBb.out.1.size
  have hz2 : w1.heap.size ≤ w2.heap.size := HBb.out.2.size
  have hbw : Below w.heap.size w w2 := HBb.out.1.trans (HBb.out.2.mono hz12)
  have HBW := Lib.hid hbw
  generalize w1.heap.size = gc at *
  clear HBb hbw
  go_loopw [57] (fun iv wr => ∃ k : Nat, k ≤ W.length + F.length ∧ iv = .int .i64 k ∧ w2 = wr) (fun iv _ => W.length + F.length - (intOf iv).toNat)
  case atStart => exact ⟨0, Nat.zero_le _, rfl, rfl⟩
  case round =>
    obtain ⟨k, hk, rfl, rfl⟩ := hrel
    by_cases hlt : k < W.length + F.length
    · have hcell := HCl.out k hlt
      obtain ⟨c, c1, c2, hc⟩ := HB.out k hlt
      rw [hc] at hcell
      have hv := value_any c (by omega) w2
      rw [show valC (c : Int) = (c : Int) - 48 from by unfold valC; rw [if_pos (by omega)]] at hv
      have hV := Lib.hid hv
      have tv : decide ((c : Int) - 48 < 0) = false := decide_eq_false (by omega)
      have tl : decide ((k : Int) < (W.length : Int) + (F.length : Int)) = true := decide_eq_true (by omega)
      clear hv hc
      go_wp2_with fail
      refine hV.out.mono ?_; rintro e w3 ⟨rfl, rfl⟩
      go_wp2_with fail
      exact ⟨⟨k + 1, hlt, rfl, trivial⟩, by simp [intOf]; omega⟩
    · obtain rfl : k = W.length + F.length := by omega
      have tl : decide (((W.length + F.length : Nat) : Int) < (W.length : Int) + (F.length : Int)) = false := decide_eq_false (by omega)
      have hpf := HT.out
      have hB0 := Bd.new w2
      have hbA : Below w2.heap.size w2 (w2.alloc (.cells #[.pointer none, .slice none 0 0] 26 (0, 0))) := by go_grown
      have HWs := Lib.hid (fun (b : List UInt8) (c : Int) (h0 : 0 ≤ c) (h1 : c < 256) (wr : World) (hb : Bd w2.heap.size w2.heap.size b wr) (hl : b.length + 1 ≤ 140737488355328) => writeByte_any _ _ b c h0 h1 wr hb hl)
      have HS := Lib.hid (fun b (wr : World) (hb : Bd w2.heap.size w2.heap.size b wr) => string_any _ _ b wr hb)
      have HN := Lib.hid (And.intro hB0 hbA)
      clear hB0 hbA
      cases pt
      all_goals
        simp only [Bool.false_eq_true, false_imp_iff, true_imp_iff] at hpf
        cases neg
        case' false =>
          go_wp2_with fail
          obtain ⟨w3, hw3⟩ : ∃ w3, w3 = w2.alloc (.cells #[.pointer none, .slice none 0 0] 26 (0, 0)) := ⟨_, rfl⟩
          rw [← hw3]
          have H3 : Hid (Bd w2.heap.size w2.heap.size (u8s S) w3 ∧ Below w2.heap.size w2 w3) := by
            rw [hw3, HSg.out]
            exact HN
          clear hw3
        case' true =>
          go_wp2_with fail
          refine (HWs.out [] 45 (by omega) (by omega) _ HN.out.1 (by simp)).mono ?_; rintro e w3 ⟨rfl, b3, k3⟩
          have H3 : Hid (Bd w2.heap.size w2.heap.size (u8s S) w3 ∧ Below w2.heap.size w2 w3) := Lib.hid ⟨by rw [HSg.out]; exact b3, HN.out.2.trans k3⟩
          clear b3 k3
          go_wp2_with fail
        all_goals
          go_loopw [78] (fun iv wr => GroupRel S size W w2.heap.size w2 iv wr) (fun iv _ => W.length - (intOf iv).toNat)
          case atStart => exact ⟨0, Nat.zero_le _, rfl, by rw [show outTo size W 0 = [] from rfl, List.append_nil]; exact H3.out.1, H3.out.2⟩
          case round =>
            obtain ⟨i, hi, rfl, hbd, hbel⟩ := hrel
            by_cases hlt2 : i < W.length
            · have hb : (u8s (S ++ outTo size W i)).length ≤ 200 := by
                rw [u8s_length, List.length_append]
                have := outTo_length size W i
                omega
              have hg := HG.out i hlt2 (by omega)
              have hsucc := outTo_succ size W i
              have hc256 := (Wh[i]'(by omega)).toNat_lt
              have tl2 : decide ((i : Int) < (W.length : Int)) = true := decide_eq_true (by omega)
              have e1 : IntKind.i64.wrap ((W.length : Int) - (i : Int)) = (W.length : Int) - (i : Int) := IntWalk.i64_in _ ⟨by omega, by omega⟩
              have e2 : Int.tmod ((W.length : Int) - (i : Int)) (size : Int) = (((W.length - i) % size : Nat) : Int) := by
                rw [show (W.length : Int) - (i : Int) = ((W.length - i : Nat) : Int) by omega, Int.tmod_eq_emod_of_nonneg (by omega)]; rfl
              have HH := Lib.hid (And.intro hbd (And.intro hbel (And.intro hg hsucc)))
              by_cases hcm : 0 < i ∧ (W.length - i) % size = 0
              · have tc1 : 0 < i := hcm.1
                have tc2 : ((((W.length - i) % size : Nat) : Int) == 0) = true := by rw [hcm.2]; rfl
                have hput : putAt size W i = [44, W.getD i 0] := by unfold putAt; rw [if_pos hcm]; rfl
                have HP := Lib.hid hput
                clear hbd hbel hg hsucc hput hcm
                generalize (W.length - i) % size = q at *
                go_wp2_with fail
                refine (HWs.out _ 44 (by omega) (by omega) _ HH.out.1 (by omega)).mono ?_; rintro e w4 ⟨rfl, b4, k4⟩
                have H4 := Lib.hid (And.intro b4 k4)
                clear b4 k4
                go_wp2_with fail
                refine (HWs.out _ _ (by omega) (by omega) _ H4.out.1 (by rw [List.length_append]; simp; omega)).mono ?_; rintro e w5 ⟨rfl, b5, k5⟩
                have H5 := Lib.hid (And.intro b5 k5)
                clear b5 k5
                go_wp2_with fail
                refine ⟨GroupRel.go hlt2 H5.out.1 ?_ ((HH.out.2.1.trans H4.out.2).trans H5.out.2), by simp [intOf]; omega⟩
                rw [HH.out.2.2.2, HP.out, ← List.append_assoc, u8s_append, Int.toNat_natCast, UInt8.ofNat_toNat, HH.out.2.2.1]
                simp [u8s]
              · have hput : putAt size W i = [W.getD i 0] := by unfold putAt; rw [if_neg hcm]; rfl
                have HP := Lib.hid hput
                have hcase : i = 0 ∨ (0 < i ∧ ((((W.length - i) % size : Nat) : Int) == 0) = false) := by
                  rcases Nat.eq_zero_or_pos i with h | h
                  · exact Or.inl h
                  · exact Or.inr ⟨h, beq_eq_false_iff_ne.2 (by omega)⟩
                clear hbd hbel hg hsucc hput hcm
                generalize (W.length - i) % size = q at *
                rcases hcase with tc1 | ⟨tc1, tc2⟩
                all_goals
                  first | (have tc3 : decide (0 < i) = false := decide_eq_false (by omega); have HI := Lib.hid tc1; clear tc1) | skip
                  go_wp2_with fail
                  refine (HWs.out _ _ (by omega) (by omega) _ HH.out.1 (by omega)).mono ?_; rintro e w5 ⟨rfl, b5, k5⟩
                  have H5 := Lib.hid (And.intro b5 k5)
                  clear b5 k5
                  go_wp2_with fail
                  refine ⟨GroupRel.go hlt2 H5.out.1 ?_ (HH.out.2.1.trans H5.out.2), by simp [intOf]; omega⟩
                  rw [HH.out.2.2.2, HP.out, ← List.append_assoc, u8s_append, Int.toNat_natCast, UInt8.ofNat_toNat, HH.out.2.2.1]
                  simp [u8s]
            · obtain rfl : i = W.length := by omega
              have HH := Lib.hid (And.intro hbd hbel)
              have hb : (u8s (S ++ outTo size W W.length)).length ≤ 200 := by
                rw [u8s_length, List.length_append]
                have := outTo_length size W W.length
                omega
              have hz : w.heap.size ≤ w2.heap.size := by omega
              clear hbd hbel
              go_wp2_with fail
              first
              | ((with_reducible refine (HS.out _ _ HH.out.1).mono ?_); rintro e w5 ⟨rfl, k5⟩
                 have H5 := Lib.hid k5
                 clear k5
                 go_wp2_with fail
                 go_ret2
                 exact ⟨ret2_strN (by simp [tailL]), (HBW.out.trans (HH.out.2.mono hz)).trans (H5.out.mono hz)⟩)
              | ((with_reducible refine (writeString_any _ _ _ _ _ HH.out.1 (by rw [ByteArray.size_append, show (⟨#[46]⟩ : ByteArray).size = 1 from rfl]; omega)).mono ?_); rintro e w5 ⟨rfl, b5, k5⟩
                 have H5 := Lib.hid (And.intro b5 k5)
                 clear b5 k5
                 go_wp2_with fail
                 refine (HS.out _ _ H5.out.1).mono ?_; rintro e w6 ⟨rfl, k6⟩
                 have H6 := Lib.hid k6
                 clear k6
                 go_wp2_with fail
                 go_ret2
                 refine ⟨ret2_strB ?_, ((HBW.out.trans (HH.out.2.mono hz)).trans (H5.out.2.mono hz)).trans (H6.out.mono hz)⟩
                 simp [tailL, u8s, HF.out])

end Go.Proofs.YtpoolbachhelgaaDoor
