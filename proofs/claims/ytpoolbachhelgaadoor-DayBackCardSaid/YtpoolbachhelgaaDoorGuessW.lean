/- day.guess at the texts of weeks. -/
import Derived.Test.YtpoolbachhelgaaDoorGuess
namespace Go.Proofs.YtpoolbachhelgaaDoor
open Go.RowKit

theorem week_pieces (y w k : Nat) : ∀ p ∈ [padL 4 y, 87 :: padL 2 w, (ds 10 k).map digC], ∀ c ∈ p, c < 256 ∧ c ≠ 45 := by
  intro p hp
  simp only [List.mem_cons, List.mem_nil_iff, or_false] at hp
  rcases hp with rfl | rfl | rfl
  · exact digC_minus (padV_lt _ _)
  · intro c hc
    rcases List.mem_cons.1 hc with rfl | hc
    · decide
    · exact digC_minus (padV_lt _ _) c hc
  · exact digC_minus (ds_lt 10 k (by decide))
theorem weekL_join (y w k : Nat) : weekL y w k = joinC 45 [padL 4 y, 87 :: padL 2 w, (ds 10 k).map digC] := by
  rw [joinC3]; simp [weekL]
theorem week_len (y w k : Nat) (hy : y < 1000000) (hw : w < 1000000) (hk : k < 1000000) : (joinC 45 [padL 4 y, 87 :: padL 2 w, (ds 10 k).map digC]).length ≤ 1000 := by
  have l1 := padL_length 4 y (by omega) (by omega)
  have l2 := padL_length 2 w (by omega) (by omega)
  have l3 := ds_length_le 10 k 19 (by decide) (by omega)
  rw [joinC3]; simp; omega

def GLoop2 (g a : Nat) (ps : List Value) (y : Int) (w : World) (iv : Value) (wr : World) : Prop :=
  (iv = .int .i64 0 ∧ GSt g a g ps 0 0 0 w wr) ∨ (iv = .int .i64 1 ∧ GSt g a g ps y 0 0 w wr)

set_option maxRecDepth 100000 in
set_option maxHeartbeats 4000000 in
theorem guessWeek0_any (y k j : Nat) (hy : y < 20000) (hk : k < 1000) (hj : j < 1000) (w : World) (hm : maxOk w) (he : errOk w) :
    Calls Tryd.prog 69 #[.string (strN (weekL y k j)), .int .i64 0] w fun e w' => e = .returned (.tuple #[.int .i64 0, .bool false]) ∧ Below w.heap.size w w' := by
  have hS := splitMinus (padL 4 y) [87 :: padL 2 k, (ds 10 j).map digC] (week_pieces y k j) (week_len y k j (by omega) (by omega) (by omega)) w hm
  rw [← weekL_join] at hS
  have N0 := fun W => number_pad 4 y (by omega) (by omega) W
  have hlw : (strN (87 :: padL 2 k)).size = (padL 2 k).length + 1 := by rw [strN_size, List.length_cons]
  have hlp := padL_length 2 k (by omega) (by omega)
  have N1 := fun W he => number_bad (strN (87 :: padL 2 k)) (by omega) (by omega) (by simp [strN]) W he
  simp only [List.map_cons, List.map_nil, List.length_cons, List.length_nil] at hS
  generalize strN (weekL y k j) = s at *
  generalize strN (padL 4 y) = p0 at *
  generalize strN (87 :: padL 2 k) = p1 at *
  generalize strN ((ds 10 j).map digC) = p2 at *
  have HS := Lib.hid hS
  have H0 := Lib.hid N0
  have H1 := Lib.hid N1
  have HEr := Lib.hid he
  clear hS N0 N1 hm he hlw hlp
  go_enter Tryd.func69, Tryd.ntmps69
  go_wp2_with fail
  refine HS.out.mono ?_; rintro e w1 ⟨rfl, rfl⟩
  go_wp2_with fail
  obtain ⟨W, hW, hst⟩ := three_new w [.string p0, .string p1, .string p2] (.cells #[.int .i64 3, .int .i64 2, .int .i64 3] 3 (0, 0))
  rw [← show W = _ from hW]
  have hga : w.heap.size ≠ w.heap.size + 1 + 1 := by omega
  have HEr2 := Lib.hid (fun (w' : World) (b : Below w.heap.size w w') => HEr.out.below b)
  generalize hgg : w.heap.size = g at *
  generalize ha : g + 1 + 1 = a at *
  have HI := Lib.hid hst
  clear hW hst ha
  go_loopw [33] (fun iv wr => GLoop2 g a [.string p0, .string p1, .string p2] y w iv wr) (fun iv _ => 3 - (intOf iv).toNat)
  case atStart => exact Or.inl ⟨rfl, HI.out⟩
  case round =>
    rcases hrel with ⟨rfl, hg⟩ | ⟨rfl, hg⟩
    · have hp := hg.piece 0
      simp only [List.getElem?_cons_zero] at hp
      have HG := Lib.hid hg
      clear hg
      go_wp2_with fail
      refine (H0.out _).mono ?_; rintro e w1 ⟨rfl, b1⟩
      have hg := HG.out.more b1
      have f0 := hg.free 0
      have hl := hg.lt.1
      have c0 := hg.c0
      have HG := Lib.hid hg
      clear hg b1
      go_wp2_with fail
      exact ⟨Or.inr ⟨rfl, HG.out.set hga 0 y rfl⟩, by simp [intOf]⟩
    · have hp := hg.piece 1
      simp only [List.getElem?_cons_succ, List.getElem?_cons_zero] at hp
      have HG := Lib.hid hg
      clear hg
      go_wp2_with fail
      refine (H1.out _ (HEr2.out _ HG.out.below)).mono ?_; rintro e w1 ⟨rfl, b1⟩
      have hg := HG.out.more b1
      have f0 := hg.free 1
      have hl := hg.lt.1
      have c0 := hg.c1
      have HG := Lib.hid hg
      clear hg b1
      go_wp2_with fail
      go_ret2
      exact ⟨rfl, by rw [hgg]; exact HG.out.below.setCell HG.out.base _⟩

set_option maxRecDepth 100000 in
set_option maxHeartbeats 4000000 in
theorem guessWeek2_any (d : Int) (y k : Nat) (hw : IsWeek d y k) (j : Nat) (hj : d % 7 + 1 = (j : Int)) (h0 : 0 ≤ d) (h1 : d ≤ 4194304) (w : World) (hm : maxOk w) :
    Calls Tryd.prog 69 #[.string (strN (weekL y k j)), .int .i64 2] w fun e w' => e = .returned (.tuple #[.int .i64 d, .bool true]) ∧ Below w.heap.size w w' := by
  have hy := year_small hw.1.1 hw.1.2.1 (show d - d % 7 + 3 ≤ 4194400 by omega)
  have hy1 := hw.1.1
  have hk := week_bounds hw
  have hb0 : 0 ≤ beforeI y ∧ beforeI y ≤ d + 3 := ⟨by unfold beforeI; omega, by have := hw.1.2.1; omega⟩
  have hwk := hw.2
  have HB := before_any (y : Int) hy1 (by omega)
  have hS := splitMinus (padL 4 y) [87 :: padL 2 k, (ds 10 j).map digC] (week_pieces y k j) (week_len y k j (by omega) (by omega) (by omega)) w hm
  rw [← weekL_join] at hS
  have N0 := fun W => number_pad 4 y (by omega) (by omega) W
  have N1 := fun W => number_pad 2 k (by omega) (by omega) W
  have N2 := fun W => number_ok (ds 10 j) (ds_lt 10 j (by decide)) (ds_length_pos 10 j (by decide)) (by have := ds_length_le 10 j 19 (by decide) (by omega); omega) (by rw [ev_ds 10 j (by decide)]; omega) W
  rw [ev_ds 10 j (by decide)] at N2
  have hTP := fun W => Tryd.strings_TrimPrefix (strN (87 :: padL 2 k)) ⟨#[87]⟩ W
  have htp : (⟨(Lib.trimPrefix (strN (87 :: padL 2 k)).data.toList [87]).toArray⟩ : ByteArray) = strN (padL 2 k) := by
    have hp : Lib.hasPrefix (strN (87 :: padL 2 k)).data.toList [87] = true := by simp [strN, Lib.hasPrefix]
    simp only [Lib.trimPrefix, hp, if_true]
    simp [strN]
  rw [show (⟨#[87]⟩ : ByteArray).data.toList = [87] from rfl, htp] at hTP
  simp only [List.map_cons, List.map_nil, List.length_cons, List.length_nil] at hS
  generalize strN (weekL y k j) = s at *
  generalize strN (padL 4 y) = p0 at *
  generalize strN (87 :: padL 2 k) = p1 at *
  generalize strN (padL 2 k) = q1 at *
  generalize strN ((ds 10 j).map digC) = p2 at *
  obtain ⟨b0, b1⟩ := hb0
  generalize beforeI y = b at *
  have s1 : IntKind.i64.wrap (b + 3) = b + 3 := IntWalk.i64_in _ ⟨by omega, by omega⟩
  have m1 : Int.tmod (b + 3) 7 = (b + 3) % 7 := Int.tmod_eq_emod_of_nonneg (by omega)
  have s2 : IntKind.i64.wrap (b + 3 - (b + 3) % 7) = b + 3 - (b + 3) % 7 := IntWalk.i64_in _ ⟨by omega, by omega⟩
  have s3 : IntKind.i64.wrap ((k : Int) - 1) = (k : Int) - 1 := IntWalk.i64_in _ ⟨by omega, by omega⟩
  have s4 : IntKind.i64.wrap (7 * ((k : Int) - 1)) = 7 * ((k : Int) - 1) := IntWalk.i64_in _ ⟨by omega, by omega⟩
  have s5 : IntKind.i64.wrap (b + 3 - (b + 3) % 7 + 7 * ((k : Int) - 1)) = b + 3 - (b + 3) % 7 + 7 * ((k : Int) - 1) := IntWalk.i64_in _ ⟨by omega, by omega⟩
  have s6 : IntKind.i64.wrap (b + 3 - (b + 3) % 7 + 7 * ((k : Int) - 1) + (j : Int)) = b + 3 - (b + 3) % 7 + 7 * ((k : Int) - 1) + (j : Int) := IntWalk.i64_in _ ⟨by omega, by omega⟩
  have s7 : IntKind.i64.wrap (b + 3 - (b + 3) % 7 + 7 * ((k : Int) - 1) + (j : Int) - 1) = d := by rw [IntWalk.i64_in _ ⟨by omega, by omega⟩]; omega
  have HS := Lib.hid hS
  have H0 := Lib.hid N0
  have H1 := Lib.hid N1
  have H2 := Lib.hid N2
  have HT := Lib.hid hTP
  have HBf := Lib.hid HB
  have t1 : decide ((y : Int) < 1) = false := decide_eq_false (by omega)
  have t2 : decide (20000 < (y : Int)) = false := decide_eq_false (by omega)
  clear hS N0 N1 N2 hTP htp hw hj hm HB hwk hk
  go_enter Tryd.func69, Tryd.ntmps69
  go_wp2_with fail
  refine HS.out.mono ?_; rintro e w1 ⟨rfl, rfl⟩
  go_wp2_with fail
  refine (HT.out _).mono ?_; rintro e w1 ⟨rfl, rfl⟩
  go_wp2_with fail
  obtain ⟨W, hW, hst⟩ := three_new w [.string p0, .string q1, .string p2] (.cells #[.int .i64 3, .int .i64 2, .int .i64 3] 3 (0, 0))
  rw [← show W = _ from hW]
  have hga : w.heap.size ≠ w.heap.size + 1 + 1 := by omega
  generalize hgg : w.heap.size = g at *
  generalize ha : g + 1 + 1 = a at *
  have HI := Lib.hid hst
  clear hW hst ha
  go_loopw [33] (fun iv wr => GLoop g a [.string p0, .string q1, .string p2] y k j w iv wr) (fun iv _ => 3 - (intOf iv).toNat)
  case atStart => exact Or.inl ⟨rfl, HI.out⟩
  case round =>
    rcases hrel with ⟨rfl, hg⟩ | ⟨rfl, hg⟩ | ⟨rfl, hg⟩ | ⟨rfl, hg⟩
    · have hp := hg.piece 0
      simp only [List.getElem?_cons_zero] at hp
      have HG := Lib.hid hg
      clear hg
      go_wp2_with fail
      refine (H0.out _).mono ?_; rintro e w1 ⟨rfl, b1⟩
      have hg := HG.out.more b1
      have f0 := hg.free 0
      have hl := hg.lt.1
      have c0 := hg.c0
      have HG := Lib.hid hg
      clear hg b1
      go_wp2_with fail
      exact ⟨Or.inr (Or.inl ⟨rfl, HG.out.set hga 0 y rfl⟩), by simp [intOf]⟩
    · have hp := hg.piece 1
      simp only [List.getElem?_cons_succ, List.getElem?_cons_zero] at hp
      have HG := Lib.hid hg
      clear hg
      go_wp2_with fail
      refine (H1.out _).mono ?_; rintro e w1 ⟨rfl, b1⟩
      have hg := HG.out.more b1
      have f0 := hg.free 1
      have hl := hg.lt.1
      have c0 := hg.c1
      have HG := Lib.hid hg
      clear hg b1
      go_wp2_with fail
      exact ⟨Or.inr (Or.inr (Or.inl ⟨rfl, HG.out.set hga 1 k rfl⟩)), by simp [intOf]⟩
    · have hp := hg.piece 2
      simp only [List.getElem?_cons_succ, List.getElem?_cons_zero] at hp
      have HG := Lib.hid hg
      clear hg
      go_wp2_with fail
      refine (H2.out _).mono ?_; rintro e w1 ⟨rfl, b1⟩
      have hg := HG.out.more b1
      have f0 := hg.free 2
      have hl := hg.lt.1
      have c0 := hg.c2
      have HG := Lib.hid hg
      clear hg b1
      go_wp2_with fail
      exact ⟨Or.inr (Or.inr (Or.inr ⟨rfl, HG.out.set hga 2 j rfl⟩)), by simp [intOf]⟩
    · have c0 := hg.c0
      have c1 := hg.c1
      have c2 := hg.c2
      have HG := Lib.hid hg
      clear hg
      go_wp2_with fail
      refine (HBf.out _).mono ?_; rintro e w1 ⟨rfl, rfl⟩
      go_wp2_with fail
      go_ret2
      exact ⟨rfl, by rw [hgg]; exact HG.out.below⟩

end Go.Proofs.YtpoolbachhelgaaDoor
