/- clapkeep1.PatternGoesOn answers true, from what pattern.build does. -/
import Derived.Lib.IndexAny
import Derived.Test.YtebcflgdjbjkoaaPatternLists
import Derived.Test.YtebcflgdjbjkoaaPrefix
namespace Go.Proofs.Ytebcflgdjbjkoaa
open Go.RowKit

theorem first_some {nx : Nat → Nat → Nat} {en : Nat → Bool} {N : Nat} {cls fol : List Set4} {x : Part} (h : ∀ u, en (runE nx 0 u) = endsM x (runM cls fol u)) (hN : ∀ k b, k < N → b < 256 → nx k b < N) (h0 : 0 < N) (h4 : N ≤ 400) (hsome : ∃ u, endsM x (runM cls fol u) = true) {many : Nat} (hm : 0 < many) :
    0 < ((firstW nx en 4001).take many).length ∧ ((firstW nx en 4001).take many).length ≤ many ∧ ∀ i, i < ((firstW nx en 4001).take many).length → endsM x (runM cls fol (((firstW nx en 4001).take many).getD i [])) = true ∧ (((firstW nx en 4001).take many).getD i []).length ≤ 4000 := by
  obtain ⟨u, hu⟩ := hsome
  obtain ⟨v, hv1, hv2⟩ := short_text nx en hN h0 _ u rfl (by rw [h]; exact hu)
  have hv3 : v ∈ firstW nx en 4001 := (firstW_mem nx en 4001 v).2 ⟨by omega, hv2⟩
  have hpos : 0 < (firstW nx en 4001).length := List.length_pos_of_mem hv3
  have hlen : ((firstW nx en 4001).take many).length = min many (firstW nx en 4001).length := List.length_take
  refine ⟨by omega, by omega, fun i hi => ?_⟩
  have hget : ((firstW nx en 4001).take many).getD i [] ∈ firstW nx en 4001 := by
    rw [List.getD, List.getElem?_eq_getElem hi, Option.getD_some]
    exact List.mem_of_mem_take (List.getElem_mem hi)
  obtain ⟨k1, k2⟩ := (firstW_mem nx en 4001 _).1 hget
  exact ⟨by rw [← h]; exact k2, by omega⟩
/-- The pattern, and then the byte, are divided in one way. -/
theorem prefix_len {cls fol : List Set4} {x : Part} {n : Nat} {w r : List UInt8} {c : UInt8} (hw : endsM x (runM cls fol w) = true) (hg : ∀ v, endsM x (runM cls fol (w ++ c :: v)) = false) (h2 : ∀ m, 1 ≤ m → m ≤ n → Begins cls fol x ((w ++ c :: r).take m)) (h3 : n < (w ++ c :: r).length → ¬ Begins cls fol x ((w ++ c :: r).take (n + 1))) :
    n = w.length ∧ endsM x (runM cls fol ((w ++ c :: r).take n)) = true := by
  have hn : n = w.length := by
    rcases Nat.lt_trichotomy n w.length with h | h | h
    · exfalso
      refine h3 (by simp; omega) ⟨w.drop (n + 1), ?_⟩
      rw [List.take_append_of_le_length (by omega), List.take_append_drop]
      exact hw
    · exact h
    · exfalso
      obtain ⟨v, hv⟩ := h2 (w.length + 1) (by omega) h
      have e : (w ++ c :: r).take (w.length + 1) = w ++ [c] := by
        rw [List.take_append, List.take_of_length_le (by omega)]
        simp
      rw [e, List.append_assoc, List.singleton_append, hg v] at hv
      cases hv
  refine ⟨hn, ?_⟩
  rw [hn, List.take_append_of_le_length (Nat.le_refl _), List.take_of_length_le (Nat.le_refl _)]
  exact hw

set_option maxRecDepth 100000 in
set_option maxHeartbeats 4000000 in
theorem patternGoesOn_walk (hbuild : BuildSaid) (p1 : Option Addr) (l1 c1 : Nat) (zs1 : List Int) (n0 : Int) (w : World) (h1 : IsRow .i64 w p1 l1 c1 zs1) :
    Calls Try.prog 5 #[.slice p1 l1 c1, .int .i64 n0] w fun e w' => e = .returned (.bool true) ∧ Below w.heap.size w w' := by
  have HBu := Lib.hid hbuild
  obtain ⟨a1, a2, a3⟩ := raw_of h1
  have HP := Lib.hid (patterned_any p1 l1 c1 w a1 a2 a3)
  clear h1 hbuild a1 a2 a3
  go_enter Try.func5, Try.ntmps5
  go_wp2_with fail
  refine HP.out.mono ?_
  rintro e w2 ⟨ps, rfl, hp1, hp2, -, hb2⟩
  obtain ⟨cp, fp, xp, hP⟩ := (pd_parsed hp1 hp2).2
  clear hp1 hp2 HP
  generalize (⟨(pieces ps).toArray⟩ : ByteArray) = P at *
  have hal := (Below.refl w2.heap.size w2).alloc (Nat.le_refl _) (.cells #[.string P] 9 (0, 0))
  have eL := heap_alloc_new w2 (.cells #[.string P] 9 (0, 0))
  have hL := Lib.hid (large_any HBu.out 1 w2.heap.size 1 (by decide) (fun _ => P) (fun _ => cp) (fun _ => fp) (fun _ => xp) (w2.alloc (.cells #[.string P] 9 (0, 0))) (by simp) (fun i hi => by
    rw [Lib.cell_of_heap eL]
    rcases (show i = 0 by omega) with rfl
    rfl) (fun i hi => hP))
  have HB := Lib.hid (hb2.trans (hal.mono hb2.size))
  have HS := Lib.hid hP
  clear hal eL hb2 hP
  go_wp2_with fail
  refine hL.out.mono ?_
  rintro e w3 ⟨hb3, b, rfl, hl1, hl2⟩
  have hbw := HB.out.trans (hb3.mono HB.out.size)
  cases b with
  | true =>
    have hM := Lib.hid (matched_any HBu.out w3)
    have HC := Lib.hid hbw
    clear hbw hb3 hl1 hl2 hL HB HS
    go_wp2_with (go_at_call 10; refine hM.out.mono ?_; rintro e w4 ⟨rfl, hb4⟩)
    go_ret
    exact ⟨rfl, HC.out.trans (hb4.mono HC.out.size)⟩
  | false =>
    have nP : ¬ Large cp fp := hl2 rfl 0 (by decide)
    have HN := Lib.hid nP
    have HC := Lib.hid hbw
    clear hbw hb3 hl1 hl2 hL HB nP
    have hGo := Lib.hid (goes_any HBu.out P cp fp xp w3 HS.out HN.out)
    go_wp2_with fail
    refine hGo.out.mono ?_
    rintro e w5 ⟨hb5, gs, rfl, hgl, hgs⟩
    have hFi := Lib.hid (first_any HBu.out P 20 (by decide) (by decide) cp fp xp w5 HS.out HN.out)
    have HD := Lib.hid (HC.out.trans (hb5.mono HC.out.size))
    have HG := Lib.hid hgs
    clear hGo HC hb5 hgs
    go_wp2_with fail
    refine hFi.out.mono ?_
    rintro e w6 ⟨hb6, nx, en, N, v, L, k1, k2, k3, k4, hLd, rfl, hrow⟩
    have hok := first_some k1 k2 k3 k4 (parsed_some HS.out) (many := 20) (by decide)
    rw [← hLd] at hok
    obtain ⟨hpos, hmost, hall⟩ := hok
    obtain ⟨gl, cl, rfl⟩ := ownsRow_formW hrow hpos
    have HC := Lib.hid (And.intro (HD.out.trans (hb6.mono HD.out.size)) (And.intro hrow hall))
    clear k1 k2 k3 k4 hLd hFi HD hb6 hrow hall
    have hMa := Lib.hid (matched_any HBu.out w6)
    have t0 : (L.length == 0) = false := by rw [beq_eq_false_iff_ne]; omega
    have t0' : ((L.length : Int) == 0) = false := by rw [beq_eq_false_iff_ne]; omega
    go_wp2_with fail
    refine hMa.out.mono ?_
    rintro e w7 ⟨rfl, hb7⟩
    have HD := Lib.hid (And.intro (HC.out.1.trans (hb7.mono HC.out.1.size)) (And.intro (row_keepP HC.out.2.1 fun q hq => hb7.block q (World.ownsRow.lt HC.out.2.1 q hq).2) HC.out.2.2))
    clear hb7 HC hMa
    go_upto_region 9 with fail
    clear t0 t0'
    go_loopw [46] (fun cv wr => ∃ c : Nat, cv = .int .i64 c ∧ c ≤ 128 ∧ Below w7.heap.size w7 wr) (fun cv _ => 128 - (intOf cv).toNat)
    case atStart => exact ⟨0, rfl, by decide, Below.refl _ _⟩
    case round =>
      obtain ⟨c, rfl, hc, hbr⟩ := hrel
      by_cases hlt : c < 128
      · have tc : (c : Int) < 128 := by omega
        have wc : IntKind.i64.wrap ((c : Int) + 1) = (c : Int) + 1 := IntWalk.i64_in _ ⟨by omega, by omega⟩
        have hnc : ((c : Int)).toNat = c := by omega
        have hw8 : IntKind.u8.wrap (c : Int) = (c : Int) := by unfold IntKind.wrap; simp [IntKind.bits, IntKind.signed]; omega
        have hIx := Lib.hid (Try.strings_IndexByte ⟨gs.toArray⟩ (c : Int) wr)
        have hco := Lib.contains_iff_indexByte gs ((c : Int)).toNat.toUInt8
        have HK := Lib.hid (And.intro hbr hco)
        clear hbr hco
        go_wp2_with fail
        refine hIx.out.mono ?_
        rintro e w8 ⟨rfl, rfl⟩
        clear hIx
        have hco := HK.out.2
        have hbr := HK.out.1
        clear HK
        change _ = decide (0 ≤ Lib.indexByte (⟨gs.toArray⟩ : ByteArray).data.toList ((c : Int)).toNat.toUInt8) at hco
        generalize Lib.indexByte (⟨gs.toArray⟩ : ByteArray).data.toList ((c : Int)).toNat.toUInt8 = ix at *
        cases hin : gs.contains ((c : Int)).toNat.toUInt8 with
        | true =>
          rw [hin] at hco
          have tx : decide (ix ≥ 0) = true := hco.symm
          have HK := Lib.hid hbr
          clear hco hin hbr
          go_wp2_with fail
          exact ⟨⟨c + 1, by simp, by omega, HK.out⟩, by simp [intOf]; omega⟩
        | false =>
          rw [hin] at hco
          have tx : decide (ix ≥ 0) = false := hco.symm
          have HK := Lib.hid (And.intro hbr hin)
          clear hco hin hbr
          go_wp2_with fail
          refine (below_any n0 (L.length : Int) (by omega) (by omega) w8).mono ?_
          rintro e w9 ⟨he, rfl⟩
          obtain ⟨j, hj⟩ : ∃ j : Nat, n0 % (L.length : Int) = (j : Int) := ⟨(n0 % (L.length : Int)).toNat, by have := Int.emod_nonneg n0 (show (L.length : Int) ≠ 0 by omega); omega⟩
          have hjl : j < L.length := by have := Int.emod_lt_of_pos n0 (show (0 : Int) < (L.length : Int) by omega); omega
          rw [hj] at he
          subst he
          have tj : (j : Int) < (L.length : Int) := by omega
          have hnj : ((j : Int)).toNat = j := by omega
          have hrow := row_keepP HD.out.2.1 fun q hq => HK.out.1.block q (World.ownsRow.lt HD.out.2.1 q hq).2
          have c0 := (World.ownsRow.cellAt hrow j (by omega)).trans (strC_get hjl)
          obtain ⟨hh1, hh2⟩ := HD.out.2.2 j hjl
          generalize L.getD j [] = t at *
          have hcc : ((c : Int)).toNat.toUInt8 = UInt8.ofNat c := by rw [hnc]
          have hgo : ∀ v, endsM xp (runM cp fp (t ++ UInt8.ofNat c :: v)) = false := fun v => HG.out (UInt8.ofNat c) (fun hm => by
            have h1 := HK.out.2
            rw [hcc] at h1
            have h2 : gs.contains (UInt8.ofNat c) = true := List.contains_iff_mem.2 hm
            rw [h1] at h2
            cases h2) t v hh1
          have hcv := conv_row (w := w8.alloc (.cells #[.int .u8 (c : Nat)] 5 (0, 0))) (base := w8.heap.size) (v := .slice (some ⟨w8.heap.size, 0, none⟩) 1 1) (l := [UInt8.ofNat c]) ⟨rfl, Or.inr ⟨w8.heap.size, 1, #[.int .u8 (c : Nat)], rfl, Nat.le_refl _, heap_alloc_new .., Nat.le_refl _, by decide, rfl, by
            simp only [bytC, List.map_cons, List.map_nil, ofNat_toNat8 (show c < 256 by omega)]
            rfl⟩⟩
          obtain ⟨T, hT⟩ : ∃ T : ByteArray, T = ⟨t.toArray⟩ := ⟨_, rfl⟩
          have hTz : T.size = t.length := by rw [hT]; show t.toArray.size = _; simp
          rw [← hT] at c0
          have hT4 : T.size ≤ 4000 := by omega
          have h1z : (⟨[UInt8.ofNat c].toArray⟩ : ByteArray).size = 1 := rfl
          have HT := Lib.hid (And.intro hT (And.intro hTz (And.intro hh1 hgo)))
          clear hT hTz hh1 hgo hj hcc hrow hh2
          go_upto_region 13 with fail
          have hld : (T ++ ⟨[UInt8.ofNat c].toArray⟩ ++ ⟨#[97, 98, 99]⟩ : ByteArray).data.toList = t ++ UInt8.ofNat c :: [97, 98, 99] := by rw [HT.out.1]; simp
          have hlz : (T ++ ⟨[UInt8.ofNat c].toArray⟩ ++ ⟨#[97, 98, 99]⟩ : ByteArray).size ≤ 140737488355328 := by
            show (T ++ ⟨[UInt8.ofNat c].toArray⟩ ++ ⟨#[97, 98, 99]⟩ : ByteArray).data.size ≤ _
            rw [← Array.length_toList, hld]
            have := HT.out.2.1
            simp
            omega
          have hPr := Lib.hid (prefix_any HBu.out P (T ++ ⟨[UInt8.ofNat c].toArray⟩ ++ ⟨#[97, 98, 99]⟩) hlz cp fp xp (w8.alloc (.cells #[.int .u8 (c : Nat)] 5 (0, 0))) HS.out HN.out)
          have HQ := Lib.hid hld
          clear hld hlz
          go_wp2_with fail
          refine hPr.out.mono ?_
          rintro e w10 ⟨hb10, n, hn1, rfl, hn3, hn4⟩
          rw [HQ.out] at hn1 hn3 hn4 ⊢
          obtain ⟨f1, f2⟩ := prefix_len HT.out.2.2.1 HT.out.2.2.2 hn3 hn4
          rw [f2, f1, ← HT.out.2.1]
          have HR := Lib.hid (HK.out.1.trans ((((Below.refl w8.heap.size w8).alloc (Nat.le_refl _) _).trans (hb10.mono (by simp))).mono HK.out.1.size))
          clear hb10 hn1 hn3 hn4 f1 f2 hPr hcv
          go_wp2_with fail
          exact ⟨⟨c + 1, by simp, by omega, HR.out⟩, by simp [intOf]; omega⟩
      · have tc : decide ((c : Int) < 128) = false := decide_eq_false (by omega)
        have HK := Lib.hid (HD.out.1.trans (hbr.mono HD.out.1.size))
        clear hbr
        go_wp2_with fail
        go_ret
        exact ⟨rfl, HK.out⟩

end Go.Proofs.Ytebcflgdjbjkoaa
