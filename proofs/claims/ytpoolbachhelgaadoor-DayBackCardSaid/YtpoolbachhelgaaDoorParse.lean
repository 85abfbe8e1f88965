/- The contracts of strconv.ParseUint and day.number at digits, and at a letter W ahead of them. -/
import Derived.Test.YtpoolbachhelgaaDoorNum
import Derived.Test.YtpoolbachhelgaaDoorShelf
import Derived.Test.YtpoolbachhelgaaDoorRows
import Derived.WalkKit
import Derived.WalkSpells
import Derived.WalkLawsBesides
import Derived.Handy
import Derived.WalkSmall
import Derived.Lib.ConvBytes
import Derived.Lib.Hide
import Derived.Deep.QuietTactic
import Derived.BigQuiet
namespace Go.Proofs.YtpoolbachhelgaaDoor
open Go.RowKit

theorem below_bytes (w : World) (e : TypeId) (s : ByteArray) : Below w.heap.size w (Lib.bytesWorld w e s) :=
  ⟨rfl, rfl, rfl, by rw [Lib.bytesWorld_size]; omega, fun k hk => Lib.bytesWorld_at_old w e s k hk⟩

def ParseRel (D : List Nat) (w : World) (uv nv iv : Value) (wr : World) : Prop :=
  ∃ (i : Nat) (a : Int), i ≤ D.length ∧ uv = .bool false ∧ nv = .int .u64 a ∧ iv = .int .i64 i ∧ a = (ev 10 (D.take i) : Nat) ∧ w = wr

set_option maxRecDepth 100000 in
set_option maxHeartbeats 2000000 in
theorem parse_ok (D : List Nat) (hD : ∀ d ∈ D, d < 10) (h1 : 1 ≤ D.length) (hlen : D.length ≤ 30) (hev : ev 10 D ≤ 1048575) (w : World) :
    Calls Tryd.prog 115 #[.string (strN (D.map digC)), .int .i64 10, .int .i64 20] w fun e w' => e = .returned (.tuple #[.int .u64 (ev 10 D), .nilIface]) ∧ Below w.heap.size w w' := by
  have hL : ∀ c ∈ D.map digC, c < 256 := by
    intro c hc
    obtain ⟨d, hd, rfl⟩ := List.mem_map.1 hc
    exact digC_lt d (by have := hD d hd; omega)
  have hget : ∀ i, i < D.length → (((strN (D.map digC)).data.toList.getD i 0).toNat : Int) = 48 + (D.getD i 0 : Nat) := by
    intro i hi
    have := strN_getD (D.map digC) hL i (by simpa using hi)
    rw [this]
    have e : (D.map digC).getD i 0 = digC (D.getD i 0) := by simp [List.getD, hi]
    have hd : D.getD i 0 < 10 := by
      have e : D.getD i 0 = D[i] := by simp [List.getD, hi]
      rw [e]; exact hD _ (List.getElem_mem hi)
    rw [e]
    unfold digC
    rw [if_pos hd]
    omega
  have hdv : ∀ i, i < D.length → D.getD i 0 < 10 := by
    intro i hi
    have e : D.getD i 0 = D[i] := by simp [List.getD, hi]
    rw [e]; exact hD _ (List.getElem_mem hi)
  have hts : (strN (D.map digC)).size = D.length := by rw [strN_size, List.length_map]
  have te := toList_nonempty (strN (D.map digC)) (by omega)
  have hpre : ∀ i, ev 10 (D.take i) ≤ 1048575 := fun i => Nat.le_trans (ev_take_le 10 (by omega) D i) hev
  have hstep : ∀ i, i < D.length → ev 10 (D.take (i + 1)) = ev 10 (D.take i) * 10 + D.getD i 0 := by
    intro i hi
    rw [List.take_succ_eq_append_getElem hi, ev_snoc]
    simp [List.getD, hi]
  generalize strN (D.map digC) = t at *
  have hcv := fun W => Lib.run_convert_string_bytes (P := Tryd.prog) W 9 24 5 t Tryd.underlying9 Tryd.underlying24 Tryd.underlying5
  have HG := Lib.hid hget
  have HD := Lib.hid hdv
  have HP := Lib.hid (And.intro hpre hstep)
  have HE := Lib.hid (show ev 10 (D.take D.length) = ev 10 D by rw [List.take_length])
  have hmv : IntKind.u64.wrap (IntKind.u64.wrap 1048576 - 1) = 1048575 := by decide
  clear hL hget hdv hpre hstep hD
  generalize ev 10 D = E at *
  go_enter Tryd.func115, Tryd.ntmps115
  go_wp2
  have hcell := fun (k : Nat) (hk : k < t.size) => Lib.bytesWorld_cell w 5 t k hk
  have hbb := below_bytes w 5 t
  generalize Lib.bytesWorld w 5 t = w2 at *
  have HCl := Lib.hid hcell
  have HBb := Lib.hid hbb
  clear hcell hbb hcv
  go_loopw [12, 13, 101] (fun uv nv iv wr => ParseRel D w2 uv nv iv wr) (fun _ _ iv _ => D.length - (intOf iv).toNat)
  case atStart => exact ⟨0, 0, Nat.zero_le _, rfl, rfl, rfl, rfl, rfl⟩
  case round =>
    obtain ⟨i, a, hi, rfl, rfl, rfl, ha, rfl⟩ := hrel
    have hp0 := HP.out.1 i
    have a0 : 0 ≤ a := by omega
    have a1 : a ≤ 1048575 := by omega
    by_cases hlt : i < D.length
    · have hc := HCl.out i (by omega)
      rw [HG.out i hlt] at hc
      have hst := HP.out.2 i hlt
      have hd := HD.out i hlt
      have hp1 := HP.out.1 (i + 1)
      have HR := Lib.hid (show ∀ z : Int, z = (ev 10 (D.take (i + 1)) : Nat) → ParseRel D w2 (.bool false) (.int .u64 z) (.int .i64 ((i : Int) + 1)) w2 from fun z hz => ⟨i + 1, z, hlt, rfl, rfl, rfl, hz, rfl⟩)
      have hnx : a * 10 + (D.getD i 0 : Nat) ≤ 1048575 := by omega
      have HY := Lib.hid (show a * 10 + ((D.getD i 0 : Nat) : Int) = (ev 10 (D.take (i + 1)) : Nat) by omega)
      generalize D.getD i 0 = d at *
      obtain ⟨c, hcd⟩ : ∃ c : Int, c = 48 + (d : Int) := ⟨_, rfl⟩
      rw [← hcd] at hc
      have c1 : 48 ≤ c := by omega
      have c2 : c ≤ 57 := by omega
      have hnx2 : a * 10 + (c - 48) ≤ 1048575 := by omega
      have HY2 := Lib.hid (show a * 10 + (c - 48) = (ev 10 (D.take (i + 1)) : Nat) by rw [← HY.out]; omega)
      clear hst hp0 hp1 ha hcd hnx hd
      go_wp2_with fail
      refine ⟨?_, by simp [intOf]; omega⟩
      exact HR.out _ HY2.out
    · obtain rfl : i = D.length := by omega
      rw [HE.out] at ha
      subst ha
      go_wp2_with fail
      go_ret2
      exact ⟨rfl, HBb.out⟩

set_option maxRecDepth 100000 in
set_option maxHeartbeats 2000000 in
theorem parse_bad (t : ByteArray) (h1 : 1 ≤ t.size) (hlen : t.size ≤ 100) (hw : (t.data.toList.getD 0 0).toNat = 87) (w : World) :
    Calls Tryd.prog 115 #[.string t, .int .i64 10, .int .i64 20] w fun e w' => e = .returned (.tuple #[.int .u64 0, .iface 142 (.int .i64 2)]) ∧ Below w.heap.size w w' := by
  have te := toList_nonempty t h1
  have hcv := fun W => Lib.run_convert_string_bytes (P := Tryd.prog) W 9 24 5 t Tryd.underlying9 Tryd.underlying24 Tryd.underlying5
  have hmv : IntKind.u64.wrap (IntKind.u64.wrap 1048576 - 1) = 1048575 := by decide
  have HLo := Lib.hid (Tryd.internal_strconv_lower 87)
  rw [show bits .or .u8 87 32 = 119 from by decide] at HLo
  go_enter Tryd.func115, Tryd.ntmps115
  go_wp2
  have hcell := Lib.bytesWorld_cell w 5 t 0 (by omega)
  rw [hw] at hcell
  have hbb := below_bytes w 5 t
  generalize Lib.bytesWorld w 5 t = w2 at *
  have HBb := Lib.hid hbb
  clear hbb hcv hw
  go_loopw [12, 13, 101] (fun uv nv iv wr => uv = .bool false ∧ nv = .int .u64 0 ∧ iv = .int .i64 0 ∧ w2 = wr) (fun _ _ _ _ => 0)
  case atStart => exact ⟨rfl, rfl, rfl, rfl⟩
  case round =>
    obtain ⟨rfl, rfl, rfl, rfl⟩ := hrel
    go_wp2_with fail
    refine (HLo.out _).mono ?_; rintro e w3 ⟨rfl, rfl⟩
    go_wp2_with fail
    refine (HLo.out _).mono ?_; rintro e w3 ⟨rfl, rfl⟩
    go_wp2_with fail
    refine (HLo.out _).mono ?_; rintro e w3 ⟨rfl, rfl⟩
    go_wp2_with fail
    go_ret2
    exact ⟨rfl, HBb.out⟩

set_option maxRecDepth 100000 in
set_option maxHeartbeats 1000000 in
theorem parseUint_ok (D : List Nat) (hD : ∀ d ∈ D, d < 10) (h1 : 1 ≤ D.length) (hlen : D.length ≤ 30) (hev : ev 10 D ≤ 1048575) (w : World) :
    Calls Tryd.prog 104 #[.string (strN (D.map digC)), .int .i64 10, .int .i64 20] w fun e w' => e = .returned (.tuple #[.int .u64 (ev 10 D), .nilIface]) ∧ Below w.heap.size w w' := by
  have H := Lib.hid (parse_ok D hD h1 hlen hev w)
  generalize strN (D.map digC) = t at *
  generalize ev 10 D = E at *
  clear hD
  go_enter Tryd.func104, Tryd.ntmps104
  go_wp2_with fail
  refine H.out.mono ?_; rintro e w1 ⟨rfl, b1⟩
  go_wp2_with fail
  go_ret2
  exact ⟨rfl, b1⟩

/-- The variable ErrSyntax holds some error. -/
def errOk (w : World) : Prop := ∃ te pe, w.cell? ⟨4, 0, none⟩ = some (.iface te pe)
theorem errOk.below {w w' : World} (h : errOk w) (hb : Below w.heap.size w w') : errOk w' := by
  obtain ⟨te, pe, h⟩ := h
  exact ⟨te, pe, by rw [hb.cell (World.block_lt_of_cell? _ _ h)]; exact h⟩

set_option maxRecDepth 100000 in
set_option maxHeartbeats 1000000 in
theorem toError_any (fn t : ByteArray) (a b : Int) (hlen : t.size ≤ 100) (w : World) (he : errOk w) :
    Calls Tryd.prog 116 #[.string fn, .string t, .int .i64 a, .int .i64 b, .iface 142 (.int .i64 2)] w fun e w' => (∃ N, e = .returned (.iface 145 (.pointer (some ⟨N, 0, none⟩)))) ∧ Below w.heap.size w w' := by
  obtain ⟨te, pe, hv⟩ := he
  have heq : ∀ w, (binOp .eql 28 (.iface 142 (.int .i64 2)) (.iface 142 (.int .i64 2))).run Tryd.prog w = .ok (.bool true) w := fun w => by kernel_rfl
  have H := Lib.hid (Tryd.strconv_syntaxError fn t (.iface te pe) w (by omega) hv (Or.inr ⟨te, pe, rfl⟩))
  clear hv
  go_enter Tryd.func116, Tryd.ntmps116
  go_wp2_with fail
  refine H.out.mono ?_; rintro e w1 ⟨N, rfl, hN, hb, b1⟩
  clear hb hN
  go_wp2_with fail
  go_ret
  exact ⟨⟨N, rfl⟩, b1⟩

set_option maxRecDepth 100000 in
set_option maxHeartbeats 1000000 in
theorem parseUint_bad (t : ByteArray) (h1 : 1 ≤ t.size) (hlen : t.size ≤ 100) (hw : (t.data.toList.getD 0 0).toNat = 87) (w : World) (he : errOk w) :
    Calls Tryd.prog 104 #[.string t, .int .i64 10, .int .i64 20] w fun e w' => (∃ N, e = .returned (.tuple #[.int .u64 0, .iface 145 (.pointer (some ⟨N, 0, none⟩))])) ∧ Below w.heap.size w w' := by
  have H := Lib.hid (parse_bad t h1 hlen hw w)
  have HErr := Lib.hid he
  clear he hw
  go_enter Tryd.func104, Tryd.ntmps104
  go_wp2_with fail
  refine H.out.mono ?_; rintro e w1 ⟨rfl, b1⟩
  go_wp2_with fail
  refine (toError_any _ t 10 20 hlen w1 (HErr.out.below b1)).mono ?_; rintro e w2 ⟨⟨N, rfl⟩, b2⟩
  go_wp2_with fail
  go_ret2
  exact ⟨⟨N, rfl⟩, b1.trans (b2.mono b1.size)⟩

set_option maxRecDepth 100000 in
set_option maxHeartbeats 1000000 in
theorem number_ok (D : List Nat) (hD : ∀ d ∈ D, d < 10) (h1 : 1 ≤ D.length) (hlen : D.length ≤ 30) (hev : ev 10 D ≤ 1048575) (w : World) :
    Calls Tryd.prog 90 #[.string (strN (D.map digC))] w fun e w' => e = .returned (.tuple #[.int .i64 (ev 10 D), .bool true]) ∧ Below w.heap.size w w' := by
  have H := Lib.hid (parseUint_ok D hD h1 hlen hev w)
  generalize strN (D.map digC) = t at *
  generalize ev 10 D = E at *
  have hwr : IntKind.i64.wrap (E : Int) = (E : Int) := IntWalk.i64_in _ ⟨by omega, by omega⟩
  clear hD
  go_enter Tryd.func90, Tryd.ntmps90
  go_wp2_with fail
  refine H.out.mono ?_; rintro e w1 ⟨rfl, b1⟩
  go_wp2_with fail
  go_quiet (fail)
  go_wp2_with fail
  go_ret2
  exact ⟨rfl, below_drewN b1 _⟩

set_option maxRecDepth 100000 in
set_option maxHeartbeats 1000000 in
theorem number_bad (t : ByteArray) (h1 : 1 ≤ t.size) (hlen : t.size ≤ 100) (hw : (t.data.toList.getD 0 0).toNat = 87) (w : World) (he : errOk w) :
    Calls Tryd.prog 90 #[.string t] w fun e w' => e = .returned (.tuple #[.int .i64 0, .bool false]) ∧ Below w.heap.size w w' := by
  have H := Lib.hid (parseUint_bad t h1 hlen hw w he)
  clear hw
  go_enter Tryd.func90, Tryd.ntmps90
  go_wp2_with fail
  refine H.out.mono ?_; rintro e w1 ⟨⟨N, rfl⟩, b1⟩
  go_wp2_with fail
  go_quiet (fail)
  go_wp2_with fail
  go_ret2
  exact ⟨rfl, below_drewN b1 _⟩

end Go.Proofs.YtpoolbachhelgaaDoor
