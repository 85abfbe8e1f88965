/- clapkeep1.PatternQuoted answers true, from what pattern.build does. -/
import Derived.Test.YtebcflgdjbjkoaaMatched
import Derived.Test.YtebcflgdjbjkoaaQuote
namespace Go.Proofs.Ytebcflgdjbjkoaa
open Go.RowKit

theorem count_quoted (hbuild : BuildSaid) (l : List UInt8) (hl : l.length ≤ 100) (P : ByteArray) (hP : P.data.toList = quoteL l) (w : World) :
    Calls Try.prog 9 #[.string P, .int .i64 200] w fun e w' => e = .returned (.tuple #[.int .i64 1, .int .i64 0]) ∧ Below w.heap.size w w' := by
  refine (count_any hbuild P 200 (by omega) (clsQ l) (folF l.length) (outQ l.length) w (parsed_quoted l hl P hP)).mono ?_
  rintro e w' ⟨hb, h | ⟨sets, rows, ends, hh, h⟩⟩
  · exact absurd h.2 (quoted_small l hl)
  · have h1 := accN_one (cls := clsQ l) (fol := folF l.length) (x := outQ l.length) l (quoted_takes l hl) (200 + 1) (by omega)
    have h2 := tot_acc hh (200 + 1)
    rw [h1] at h2
    have h3 : bcap = 1099511627777 := rfl
    have h4 : totC rows ends rows.length (200 + 1) = 1 := by
      rcases Nat.lt_or_ge (totC rows ends rows.length (200 + 1)) 1 with h5 | h5
      · have := h2.2 h5; omega
      · omega
    rcases h with ⟨h5, _⟩ | ⟨_, h5⟩
    · omega
    · rw [h4] at h5
      exact ⟨h5, hb⟩
theorem quoted_match (hbuild : BuildSaid) (l : List UInt8) (hl : l.length ≤ 100) (P : ByteArray) (hP : P.data.toList = quoteL l) (t : ByteArray) (ht : t.size ≤ 100) (w : World) :
    Calls Try.prog 8 #[.string P, .string t] w fun e w' => e = .returned (.tuple #[.bool (t.data.toList == l), .int .i64 0]) ∧ Below w.heap.size w w' := by
  have := match_ok hbuild P t (clsQ l) (folF l.length) (outQ l.length) (by omega) w (parsed_quoted l hl P hP) (quoted_small l hl)
  rw [quoted_takes l hl] at this
  exact this
theorem bytes_beq (S T : ByteArray) : (T.data.toList == S.data.toList) = (S.toList == T.toList) := by
  rw [ByteArray.toList_eq, ByteArray.toList_eq, Bool.eq_iff_iff]
  simp only [beq_iff_eq]
  exact ⟨fun h => h.symm, fun h => h.symm⟩
set_option maxRecDepth 100000 in
set_option maxHeartbeats 2000000 in
theorem patternQuoted_walk (hbuild : BuildSaid) (s t : ByteArray) (w : World) (hs : s.size ≤ 140737488351232) (ht : t.size ≤ 140737488351232) :
    Calls Try.prog 3 #[.string s, .string t] w fun e w' => e = .returned (.bool true) ∧ Below w.heap.size w w' := by
  obtain ⟨L, hL⟩ : ∃ L : Nat, min (s.size : Int) 60 = (L : Int) := ⟨min s.size 60, by omega⟩
  obtain ⟨M, hM⟩ : ∃ M : Nat, min (t.size : Int) 60 = (M : Int) := ⟨min t.size 60, by omega⟩
  have hL1 : (L : Int) ≤ (s.size : Int) := by omega
  have hM1 : (M : Int) ≤ (t.size : Int) := by omega
  have hSs : (s.extract 0 L).size ≤ 60 := by rw [ByteArray.size_extract]; omega
  have hTs : (t.extract 0 M).size ≤ 60 := by rw [ByteArray.size_extract]; omega
  clear hL1 hM1
  have hL1 : (L : Int) ≤ (s.size : Int) := by omega
  have hM1 : (M : Int) ≤ (t.size : Int) := by omega
  have HZ := Lib.hid (And.intro hSs hTs)
  clear hSs hTs
  go_enter Try.func3, Try.ntmps3
  go_upto_region 1 with fail
  go_quiet (fail)
  obtain ⟨hSs, hTs⟩ := HZ.out
  clear HZ
  generalize s.extract 0 L = S at *
  generalize t.extract 0 M = T at *
  have hSl : S.data.toList.length ≤ 100 := by rw [Array.length_toList]; exact Nat.le_trans hSs (by decide)
  obtain ⟨q, hq⟩ : ∃ q : ByteArray, q = ⟨(quoteL S.data.toList).toArray⟩ := ⟨_, rfl⟩
  have hqd : q.data.toList = quoteL S.data.toList := by rw [hq]
  have hQ := Lib.hid (fun w => quote_any S (by omega) w)
  rw [← hq] at hQ
  have hMa := Lib.hid (fun w => matched_any hbuild w)
  have hA := Lib.hid (fun w => quoted_match hbuild S.data.toList hSl q hqd S (by omega) w)
  have hB := Lib.hid (fun w => quoted_match hbuild S.data.toList hSl q hqd T (by omega) w)
  have hC := Lib.hid (fun w => count_quoted hbuild S.data.toList hSl q hqd w)
  have heq : (S.data.toList == S.data.toList) = true := by simp
  rw [heq] at hA
  have hTS := bytes_beq S T
  rw [hTS] at hB
  clear heq hTS hbuild hSs hTs hSl hq hqd hL hM hL1 hM1
  go_upto_region 3 with (go_at_call 7; refine (hQ.out _).mono ?_; rintro e w1 ⟨rfl, hb1⟩)
  go_upto_region 4 with (go_at_call 8; refine (hA.out _).mono ?_; rintro e w2 ⟨rfl, hb2⟩)
  go_upto_region 5 with (go_at_call 8; refine (hB.out _).mono ?_; rintro e w3 ⟨rfl, hb3⟩)
  go_upto_region 6 with (go_at_call 9; refine (hC.out _).mono ?_; rintro e w4 ⟨rfl, hb4⟩)
  go_wp2_with (go_at_call 10; refine (hMa.out _).mono ?_; rintro e w5 ⟨rfl, hb5⟩)
  go_ret
  have h1 : Below w.heap.size w (w.drewN nq) := ⟨rfl, rfl, rfl, Nat.le_refl _, fun _ _ => rfl⟩
  have h2 := h1.trans (hb1.mono h1.size)
  have h3 := h2.trans (hb2.mono h2.size)
  have h4 := h3.trans (hb3.mono h3.size)
  have h5 := h4.trans (hb4.mono h4.size)
  exact ⟨rfl, h5.trans (hb5.mono h5.size)⟩

end Go.Proofs.Ytebcflgdjbjkoaa
