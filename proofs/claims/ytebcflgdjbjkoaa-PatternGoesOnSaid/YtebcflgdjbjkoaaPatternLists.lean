/- clapkeep1.PatternLists answers true, from what pattern.build does. -/
import Derived.Test.YtebcflgdjbjkoaaPatternSides
import Derived.Test.YtebcflgdjbjkoaaFirst
import Derived.Test.YtebcflgdjbjkoaaLists
namespace Go.Proofs.Ytebcflgdjbjkoaa
open Go.RowKit

theorem count_ok (hbuild : BuildSaid) (p : ByteArray) (n : Nat) (hn : n ≤ 3) (cls fol : List Set4) (x : Part) (w : World) (h : ParsedTo p cls fol x) (hL : ¬ Large cls fol) :
    Calls Try.prog 9 #[.string p, .int .i64 n] w fun e w' => e = .returned (.tuple #[.int .i64 (accN cls fol x (n + 1) : Nat), .int .i64 0]) ∧ Below w.heap.size w w' := by
  refine (count_any hbuild p n (by omega) cls fol x w h).mono ?_
  rintro e w' ⟨hb, h | ⟨sets, rows, ends, hh, h⟩⟩
  · exact absurd h.2 hL
  · have h1 := accN_le cls fol x (n := n + 1) (by omega)
    have h2 := tot_acc hh (n + 1)
    have h3 : bcap = 1099511627777 := rfl
    have h4 : totC rows ends rows.length (n + 1) = accN cls fol x (n + 1) := by
      rcases Nat.lt_or_ge (totC rows ends rows.length (n + 1)) (accN cls fol x (n + 1)) with h5 | h5
      · have := h2.2 h5; omega
      · omega
    rcases h with ⟨h5, _⟩ | ⟨_, h5⟩
    · omega
    · rw [h4] at h5
      exact ⟨h5, hb⟩
set_option maxRecDepth 100000 in
set_option maxHeartbeats 4000000 in
theorem patternLists_walk (hbuild : BuildSaid) (p1 : Option Addr) (l1 c1 : Nat) (zs1 : List Int) (n0 : Int) (w : World) (h1 : IsRow .i64 w p1 l1 c1 zs1) (hn0 : (Lit.int .i64 n0).wf = true) :
    Calls Try.prog 6 #[.slice p1 l1 c1, .int .i64 n0] w fun e w' => e = .returned (.bool true) ∧ Below w.heap.size w w' := by
  have HBu := Lib.hid hbuild
  obtain ⟨a1, a2, a3⟩ := raw_of h1
  have HP := Lib.hid (patterned_any p1 l1 c1 w a1 a2 a3)
  have HW := Lib.hid hn0
  clear h1 hbuild a1 a2 a3 hn0
  go_enter Try.func6, Try.ntmps6
  go_wp2_with fail
  refine HP.out.mono ?_
  rintro e w2 ⟨ps, rfl, hp1, hp2, -, hb2⟩
  obtain ⟨cp, fp, xp, hP⟩ := (pd_parsed hp1 hp2).2
  clear hp1 hp2 HP
  generalize (⟨(pieces ps).toArray⟩ : ByteArray) = P at *
  have hal := (Below.refl w2.heap.size w2).alloc (Nat.le_refl _) (.cells #[.string P] 9 (0, 0))
  have eL := heap_alloc_new w2 (.cells #[.string P] 9 (0, 0))
  have hL := Lib.hid (large_any HBu.out 1 w2.heap.size 1 (by decide) (fun _ => P) (fun _ => cp) (fun _ => fp) (fun _ => xp) (w2.alloc (.cells #[.string P] 9 (0, 0))) (by simp) (fun i hi => by
    rw [Lib.cell_of_heap eL]
    rcases (show i = 0 by omega) with rfl
    rfl) (fun i hi => hP))
  have HB := Lib.hid (hb2.trans (hal.mono hb2.size))
  have HS := Lib.hid hP
  clear hal eL hb2 hP
  go_wp2_with fail
  refine hL.out.mono ?_
  rintro e w3 ⟨hb3, b, rfl, hl1, hl2⟩
  have hbw := HB.out.trans (hb3.mono HB.out.size)
  cases b with
  | true =>
    have hM := Lib.hid (matched_any HBu.out w3)
    have HC := Lib.hid hbw
    clear hbw hb3 hl1 hl2 hL HB HS
    go_wp2_with (go_at_call 10; refine hM.out.mono ?_; rintro e w4 ⟨rfl, hb4⟩)
    go_ret
    exact ⟨rfl, HC.out.trans (hb4.mono HC.out.size)⟩
  | false =>
    have nP : ¬ Large cp fp := hl2 rfl 0 (by decide)
    have HN := Lib.hid nP
    have HC := Lib.hid hbw
    clear hbw hb3 hl1 hl2 hL HB nP
    go_wp2_with fail
    refine (below_any n0 4 (by decide) (by decide) w3).mono ?_
    rintro e w4 ⟨he, rfl⟩
    obtain ⟨k, hk, hk3⟩ : ∃ k : Nat, n0 % 4 = (k : Int) ∧ k ≤ 3 := ⟨(n0 % 4).toNat, by omega, by omega⟩
    rw [hk] at he
    subst he
    clear hk
    have hCo := Lib.hid (count_ok HBu.out P k hk3 cp fp xp w3 HS.out HN.out)
    have hacc := accN_le cp fp xp (n := k + 1) (by omega)
    obtain ⟨C, hCe⟩ : ∃ C, C = accN cp fp xp (k + 1) := ⟨_, rfl⟩
    rw [← hCe] at hCo hacc
    have HE := Lib.hid hCe
    clear hCe
    go_wp2_with fail
    refine hCo.out.mono ?_
    rintro e w5 ⟨rfl, hb5⟩
    have hFi := Lib.hid (first_any HBu.out P 200 (by decide) (by decide) cp fp xp w5 HS.out HN.out)
    have HD := Lib.hid (HC.out.trans (hb5.mono HC.out.size))
    clear hCo HC hb5
    go_wp2_with fail
    refine hFi.out.mono ?_
    rintro e w6 ⟨hb6, nx, en, N, v, L, k1, k2, k3, k4, hLd, rfl, hrow⟩
    have hok : ListsOk cp fp xp L k := by
      rw [hLd]
      exact lists_ok k1 k2 k3 k4 (parsed_some HS.out) hk3
    obtain ⟨gl, cl, rfl⟩ := ownsRow_formW hrow hok.pos
    have hLe := Lib.hid (least_any HBu.out P cp fp xp w6 HS.out HN.out)
    have HC := Lib.hid (And.intro (HD.out.trans (hb6.mono HD.out.size)) (And.intro hrow hok))
    clear k1 k2 k3 k4 hLd hFi HD hb6 hrow hok
    go_wp2_with fail
    refine hLe.out.mono ?_
    rintro e w7 ⟨hb7, s, rfl, hor⟩
    have hok := HC.out.2.2
    have hs0 : s = L.getD 0 [] := by
      rcases hor with ⟨h1, h2⟩ | h1
      · exact sle_anti (h2 _ (hok.has 0 hok.pos).1) (hok.least s h1)
      · have := (hok.has 0 hok.pos).1
        have h3 := h1 (L.getD 0 [])
        unfold hasM at h3
        rw [this] at h3
        cases h3
    have hrow7 : w7.ownsRow w5.heap.size 9 1 (.slice (some ⟨gl, 0, none⟩) L.length cl) L.length (strC L) := row_keepP HC.out.2.1 fun q hq => hb7.block q (World.ownsRow.lt HC.out.2.1 q hq).2
    have hMa := Lib.hid (fun w => matched_any HBu.out w)
    have HD := Lib.hid (And.intro (HC.out.1.trans (hb7.mono HC.out.1.size)) (And.intro hrow7 hok))
    have hpos := hok.pos
    have hmost := hok.most
    clear hLe hor HC hb7 hok hrow7
    have HS0 := Lib.hid hs0
    clear hs0
    go_wp2_with fail
    refine (hMa.out w7).mono ?_
    rintro e w8 ⟨rfl, hb8⟩
    have HC := Lib.hid (And.intro (HD.out.1.trans (hb8.mono HD.out.1.size)) (And.intro (row_keepP HD.out.2.1 fun q hq => hb8.block q (World.ownsRow.lt HD.out.2.1 q hq).2) HD.out.2.2))
    have c0 : w8.cell? ⟨gl, 0, none⟩ = some (.string ⟨s.toArray⟩) := by
      rw [World.ownsRow.cellAt HC.out.2.1 0 (by omega), strC_get hpos, HS0.out]
    have t0 : (L.length == 0) = false := by rw [beq_eq_false_iff_ne]; omega
    have t0' : ((L.length : Int) == 0) = false := by rw [beq_eq_false_iff_ne]; omega
    have tI : (0 : Int) < (L.length : Int) := by omega
    have hw8 : Below w.heap.size w w8 := HC.out.1
    clear hb8 HD
    go_upto_region 10 with fail
    clear c0 t0 t0'
    go_wp2_with fail
    have HG := Lib.hid hw8
    clear hw8
    go_loopw [69, 12] (fun iv fv wr => ∃ i : Nat, iv = .int .i64 i ∧ i ≤ L.length ∧ fv = .int .i64 ((L.take i).countP (fun u => decide (u.length ≤ k)) : Nat) ∧ Below w8.heap.size w8 wr) (fun iv _ _ => L.length - (intOf iv).toNat)
    case atStart => exact ⟨0, rfl, Nat.zero_le _, by simp, Below.refl _ _⟩
    case round =>
      obtain ⟨i, rfl, hi, rfl, hbr⟩ := hrel
      by_cases hlt : i < L.length
      · have ti : decide (i < L.length) = true := decide_eq_true hlt
        have tiI : (i : Int) < (L.length : Int) := by omega
        have wi : IntKind.i64.wrap ((i : Int) + 1) = (i : Int) + 1 := IntWalk.i64_in _ ⟨by omega, by omega⟩
        have hni : ((i : Int)).toNat = i := by omega
        have hrow := row_keepP HC.out.2.1 fun q hq => hbr.block q (World.ownsRow.lt HC.out.2.1 q hq).2
        have c1 := (World.ownsRow.cellAt hrow i (by omega)).trans (strC_get hlt)
        obtain ⟨hh1, hh2⟩ := HC.out.2.2.has i hlt
        obtain ⟨T, hT⟩ : ∃ T : ByteArray, T = ⟨(L.getD i []).toArray⟩ := ⟨_, rfl⟩
        have hTl : T.toList = L.getD i [] := by rw [hT, ByteArray.toList_eq]
        have hTd : T.data.toList = L.getD i [] := by rw [hT]
        have hTz : T.size = (L.getD i []).length := by rw [hT]; show (L.getD i []).toArray.size = _; simp
        rw [← hT] at c1
        have hMt := Lib.hid (match_ok HBu.out P T cp fp xp (by omega) wr HS.out HN.out)
        rw [hTd, hh1] at hMt
        have hcnt : (L.take (i + 1)).countP (fun u => decide (u.length ≤ k)) = (L.take i).countP (fun u => decide (u.length ≤ k)) + if T.size ≤ k then 1 else 0 := by
          rw [List.take_add_one, List.countP_append, List.getElem?_eq_getElem hlt, hTz]
          simp [List.getD, hlt, List.countP_cons]
        have hcle : (L.take i).countP (fun u => decide (u.length ≤ k)) ≤ L.length := Nat.le_trans List.countP_le_length (by rw [List.length_take]; omega)
        have HH := Lib.hid (And.intro hbr (And.intro hcnt (And.intro hTl hTz)))
        have hT4 : T.size ≤ 4000 := by omega
        generalize (L.take i).countP (fun u => decide (u.length ≤ k)) = few at *
        have wf : IntKind.i64.wrap ((few : Int) + 1) = (few : Int) + 1 := IntWalk.i64_in _ ⟨by omega, by omega⟩
        clear hbr hcnt hTl hTz hh1 hh2 hT hTd
        go_wp2_with fail
        refine hMt.out.mono ?_
        rintro e w9 ⟨rfl, hb9⟩
        have hrow9 := row_keepP hrow fun q hq => hb9.block q (World.ownsRow.lt hrow q hq).2
        have HK := Lib.hid (And.intro (HH.out.1.trans (hb9.mono HH.out.1.size)) hrow9)
        clear hb9 hrow hrow9 hMt c1
        rcases Nat.eq_zero_or_pos i with hi0 | hi0
        · have tp : decide (0 < i) = false := decide_eq_false (by omega)
          have tpI : decide ((0 : Int) < (i : Int)) = false := decide_eq_false (by omega)
          have HI0 := Lib.hid hi0
          clear hi0
          go_upto_region 19 with fail
          by_cases hsz : T.size ≤ k
          · have tz : decide (T.size ≤ k) = true := decide_eq_true hsz
            have tzI : (T.size : Int) ≤ (k : Int) := by omega
            go_wp2_with fail
            refine ⟨⟨i + 1, by simp, by omega, ?_, HK.out.1⟩, by simp [intOf]; omega⟩
            rw [HH.out.2.1, if_pos hsz]
            rfl
          · have tz : decide (T.size ≤ k) = false := decide_eq_false hsz
            have tzI : decide ((T.size : Int) ≤ (k : Int)) = false := decide_eq_false (by omega)
            go_wp2_with fail
            refine ⟨⟨i + 1, by simp, by omega, ?_, HK.out.1⟩, by simp [intOf]; omega⟩
            rw [HH.out.2.1, if_neg hsz]
            rfl
        · have tp : decide (0 < i) = true := decide_eq_true hi0
          have tpI : (0 : Int) < (i : Int) := by omega
          obtain ⟨j, hj⟩ : ∃ j, i = j + 1 := ⟨i - 1, by omega⟩
          have w1 : IntKind.i64.wrap ((i : Int) - 1) = (j : Int) := by rw [IntWalk.i64_in _ ⟨by omega, by omega⟩]; omega
          have nj : ((j : Int)).toNat = j := by omega
          have tj : (j : Int) < (L.length : Int) := by omega
          have c2 := (World.ownsRow.cellAt HK.out.2 j (by omega)).trans (strC_get (l := L) (i := j) (by omega))
          have hord := HC.out.2.2.ord j (by omega)
          rw [← hj] at hord
          obtain ⟨V, hV⟩ : ∃ V : ByteArray, V = ⟨(L.getD j []).toArray⟩ := ⟨_, rfl⟩
          have hVl : V.toList = L.getD j [] := by rw [hV, ByteArray.toList_eq]
          have hVz : V.size = (L.getD j []).length := by rw [hV]; show (L.getD j []).toArray.size = _; simp
          rw [← hV] at c2
          have hz1 := HH.out.2.2.2
          have HJ := Lib.hid hj
          rcases Nat.lt_or_ge V.size T.size with hlen | hlen
          · have q1 : decide (T.size < V.size) = false := decide_eq_false (by omega)
            have q1I : decide ((T.size : Int) < (V.size : Int)) = false := decide_eq_false (by omega)
            have q2 : (T.size == V.size) = false := by rw [beq_eq_false_iff_ne]; omega
            have q2I : ((T.size : Int) == (V.size : Int)) = false := by rw [beq_eq_false_iff_ne]; omega
            clear hj hord hV hVl hVz hz1
            go_upto_region 19 with fail
            by_cases hsz : T.size ≤ k
            · have tz : decide (T.size ≤ k) = true := decide_eq_true hsz
              have tzI : (T.size : Int) ≤ (k : Int) := by omega
              go_wp2_with fail
              refine ⟨⟨i + 1, by simp, by omega, ?_, HK.out.1⟩, by simp [intOf]; omega⟩
              rw [HH.out.2.1, if_pos hsz]
              rfl
            · have tz : decide (T.size ≤ k) = false := decide_eq_false hsz
              have tzI : decide ((T.size : Int) ≤ (k : Int)) = false := decide_eq_false (by omega)
              go_wp2_with fail
              refine ⟨⟨i + 1, by simp, by omega, ?_, HK.out.1⟩, by simp [intOf]; omega⟩
              rw [HH.out.2.1, if_neg hsz]
              rfl
          · have hle : ¬ (L.getD i []).length < (L.getD j []).length := fun h => slt_test hord h
            have hleq : (L.getD i []).length = (L.getD j []).length := by omega
            have q1 : decide (T.size < V.size) = false := decide_eq_false (by omega)
            have q1I : decide ((T.size : Int) < (V.size : Int)) = false := decide_eq_false (by omega)
            have q2 : (T.size == V.size) = true := by rw [beq_iff_eq]; omega
            have q2I : ((T.size : Int) == (V.size : Int)) = true := by rw [beq_iff_eq]; omega
            have q3 : (Op.bytesLess T.toList V.toList || T.toList == V.toList) = false := by
              rw [HH.out.2.2.1, hVl]
              exact slt_eq_test hord hleq
            clear hj hord hV hVl hVz hz1 hle hleq
            go_upto_region 19 with fail
            by_cases hsz : T.size ≤ k
            · have tz : decide (T.size ≤ k) = true := decide_eq_true hsz
              have tzI : (T.size : Int) ≤ (k : Int) := by omega
              go_wp2_with fail
              refine ⟨⟨i + 1, by simp, by omega, ?_, HK.out.1⟩, by simp [intOf]; omega⟩
              rw [HH.out.2.1, if_pos hsz]
              rfl
            · have tz : decide (T.size ≤ k) = false := decide_eq_false hsz
              have tzI : decide ((T.size : Int) ≤ (k : Int)) = false := decide_eq_false (by omega)
              go_wp2_with fail
              refine ⟨⟨i + 1, by simp, by omega, ?_, HK.out.1⟩, by simp [intOf]; omega⟩
              rw [HH.out.2.1, if_neg hsz]
              rfl
      · have ti : decide (i < L.length) = false := decide_eq_false hlt
        have hii : i = L.length := by omega
        have hfew := HC.out.2.2.few
        have he : (L.take i).countP (fun u => decide (u.length ≤ k)) = L.countP (fun u => decide (u.length ≤ k)) := by rw [hii, List.take_of_length_le (Nat.le_refl _)]
        rw [he]
        have hmin : min (C : Int) (L.length : Int) = (L.countP (fun u => decide (u.length ≤ k)) : Nat) := by rw [hfew, HE.out]; omega
        have HK := Lib.hid (HG.out.trans (hbr.mono HG.out.size))
        generalize L.countP (fun u => decide (u.length ≤ k)) = few at *
        clear he hfew hii hbr
        go_wp2_with fail
        go_ret
        exact ⟨rfl, HK.out⟩

end Go.Proofs.Ytebcflgdjbjkoaa
