/- clapkeep1.PatternSides answers true, from what pattern.build does. -/
import Derived.Test.YtebcflgdjbjkoaaSides
import Derived.Test.YtebcflgdjbjkoaaPatd
import Derived.Test.YtebcflgdjbjkoaaPatr
import Derived.Test.YtebcflgdjbjkoaaLarge
import Derived.Test.YtebcflgdjbjkoaaIncl
import Derived.Test.YtebcflgdjbjkoaaMatched
import Derived.Test.YtebcflgdjbjkoaaArg
namespace Go.Proofs.Ytebcflgdjbjkoaa
open Go.RowKit

/-- Two patterns with a bar between them are parsed. -/
theorem sides_parsed {s q t : ByteArray} (hp : Pre s t) (hs : Suf (s.size + 1) q t) (hz : t.size ≤ 200) (hq : q.size + (s.size + 1) = t.size) {c1 f1 c2 f2 : List Set4} {x1 x2 : Part} (h1 : ParsedTo s c1 f1 x1) (h2 : ParsedTo q c2 f2 x2) : ∃ c3 f3 x3, ParsedTo t c3 f3 x3 := by
  have hlt := hp.lt
  obtain ⟨n1, e1, a1, b1⟩ := parsed_expr h1
  obtain ⟨n2, e2, a2, b2⟩ := parsed_expr h2
  have main : ∃ m e, rxM t m (.altL e1) s.size = some (t.size, e) := by
    cases n2 with
    | zero => cases a2
    | succ k =>
      unfold rxM at a2
      cases ha : rxM q k .seq 0 with
      | none => rw [ha] at a2; cases a2
      | some a =>
        rw [ha] at a2
        simp only [Option.bind_some] at a2
        have k1 := rx_sh hs k _ _ _ ha
        have k2 := rx_sh hs k _ _ _ a2
        obtain ⟨L, l1, l2⟩ := altL_acc t k _ _ _ k2
        obtain ⟨e, l3, l4⟩ := l2 (.alt e1 a.2)
        refine ⟨k + 1, e, ?_⟩
        unfold rxM
        rw [Nat.zero_add] at k1
        rw [if_pos ⟨hlt, hp.bar⟩, k1, ← hq]
        exact l3
  obtain ⟨m, e, hm⟩ := main
  obtain ⟨k, hk⟩ := alt_top hp a1 hm
  exact parsed_of hz hk
theorem raw_of {p : Option Addr} {len cap : Nat} {zs : List Int} {w : World} (h : IsRow .i64 w p len cap zs) : len ≤ cap ∧ cap ≤ 9223372036854775807 ∧ RawAt w.heap.size w p len := by
  have hlc : len ≤ cap ∧ cap ≤ 9223372036854775807 := by
    rcases h with ⟨_, h1, h2, _⟩ | ⟨x, _, h1, h2, _⟩
    · omega
    · unfold maxLen at h2; omega
  refine ⟨hlc.1, hlc.2, ?_⟩
  rcases h.cases with ⟨h1, _⟩ | ⟨b, off, rfl, h1, _, hc⟩
  · exact Or.inl h1
  · rcases Nat.eq_zero_or_pos len with h0 | h0
    · exact Or.inl h0
    · exact Or.inr ⟨b, off, rfl, (hc 0 (by omega)).1, fun i hi => ⟨_, (hc i (by omega)).2⟩⟩
theorem IsRow.below' {k : IntKind} {w w' : World} {a : Option Addr} {len cap : Nat} {zs : List Int} (h : IsRow k w a len cap zs) (hb : Below w.heap.size w w') : IsRow k w' a len cap zs := by
  rcases h with h | ⟨x, h1, h2, h3, h4, h5, h6⟩
  · exact Or.inl h
  · refine Or.inr ⟨x, h1, h2, h3, h4, fun i hi => ?_, h6⟩
    have := h5 i hi
    rw [hb.cell (World.block_lt_of_cell? w _ this)]
    exact this
/-- A pattern that patterned makes is parsed. -/
theorem pd_parsed {ps : List Piece} (h : PdOk ps) (hl : ps.length ≤ 4) : (pieces ps).length ≤ 32 ∧ ∃ cls fol x, ParsedTo ⟨(pieces ps).toArray⟩ cls fol x := by
  have h1 := pieces_le h
  refine ⟨by omega, pieces_parsed (fun x hx => patd_ok (h x hx).1 (h x hx).2) (s := ⟨(pieces ps).toArray⟩) rfl ?_⟩
  show (pieces ps).toArray.size ≤ 200
  simp
  omega

def three {α : Type} (x y z : α) (i : Nat) : α := match i with | 0 => x | 1 => y | _ => z
theorem bar_facts (A B : List UInt8) (U : ByteArray) (hU : U.data.toList = A ++ [124] ++ B) (hz : U.size ≤ 200) : Pre ⟨A.toArray⟩ U ∧ Suf ((⟨A.toArray⟩ : ByteArray).size + 1) ⟨B.toArray⟩ U ∧ (⟨B.toArray⟩ : ByteArray).size + ((⟨A.toArray⟩ : ByteArray).size + 1) = U.size := by
  have hA : (⟨A.toArray⟩ : ByteArray).size = A.length := by simp [ByteArray.size]
  have hB : (⟨B.toArray⟩ : ByteArray).size = B.length := by simp [ByteArray.size]
  have hUs : U.size = A.length + 1 + B.length := by
    have h1 := congrArg List.length hU
    rw [Array.length_toList] at h1
    have h2 : U.size = U.data.size := rfl
    rw [h2, h1]
    simp
    omega
  have hp : ∀ p, peekM U p = ((A ++ [124] ++ B).getD p 0).toNat := fun p => by
    unfold peekM
    rw [hU]
  have hpA : ∀ p, peekM ⟨A.toArray⟩ p = (A.getD p 0).toNat := fun p => rfl
  have hpB : ∀ p, peekM ⟨B.toArray⟩ p = (B.getD p 0).toNat := fun p => rfl
  refine ⟨⟨by omega, fun p h => ?_, ?_⟩, ⟨by omega, fun p => ?_, by omega⟩, by omega⟩
  · rw [hp, hpA, List.append_assoc]
    rw [hA] at h
    simp only [List.getD]
    rw [List.getElem?_append_left h]
  · rw [hp, hA, List.append_assoc]
    simp [List.getD]
  · rw [hp, hpB, hA]
    simp only [List.getD]
    rw [List.getElem?_append_right (by simp)]
    congr 3
    simp
set_option maxRecDepth 100000 in
set_option maxHeartbeats 4000000 in
theorem patternSides_walk (hbuild : BuildSaid) (p1 : Option Addr) (l1 c1 : Nat) (zs1 : List Int) (p2 : Option Addr) (l2 c2 : Nat) (zs2 : List Int) (w : World) (h1 : IsRow .i64 w p1 l1 c1 zs1) (h2 : IsRow .i64 w p2 l2 c2 zs2) :
    Calls Try.prog 4 #[.slice p1 l1 c1, .slice p2 l2 c2] w fun e w' => e = .returned (.bool true) ∧ Below w.heap.size w w' := by
  have HI := Lib.hid (And.intro h1 h2)
  have HBu := Lib.hid hbuild
  obtain ⟨a1, a2, a3⟩ := raw_of h1
  have HP := Lib.hid (patterned_any p1 l1 c1 w a1 a2 a3)
  clear h1 h2 hbuild a1 a2 a3
  go_enter Try.func4, Try.ntmps4
  go_wp2_with fail
  refine HP.out.mono ?_
  rintro e w1 ⟨ps, rfl, hp1, hp2, -, hb1⟩
  obtain ⟨a1, a2, a3⟩ := raw_of (HI.out.2.below' hb1)
  have HQ := Lib.hid (patterned_any p2 l2 c2 w1 a1 a2 a3)
  have HA := Lib.hid (And.intro hp1 (And.intro hp2 hb1))
  clear hp1 hp2 hb1 a1 a2 a3 HP
  go_wp2_with fail
  refine HQ.out.mono ?_
  rintro e w2 ⟨qs, rfl, hq1, hq2, -, hb2⟩
  have HB := Lib.hid (And.intro hq1 (And.intro hq2 (HA.out.2.2.trans (hb2.mono HA.out.2.2.size))))
  clear hq1 hq2 hb2 HQ HI
  have hlp := (pd_parsed HA.out.1 HA.out.2.1).1
  have hlq := (pd_parsed HB.out.1 HB.out.2.1).1
  go_upto_region 3 with fail
  obtain ⟨cp, fp, xp, hP⟩ := (pd_parsed HA.out.1 HA.out.2.1).2
  obtain ⟨cq, fq, xq, hQ⟩ := (pd_parsed HB.out.1 HB.out.2.1).2
  have hUd : ((⟨(pieces ps).toArray⟩ : ByteArray) ++ ⟨#[124]⟩ ++ ⟨(pieces qs).toArray⟩).data.toList = pieces ps ++ [124] ++ pieces qs := by simp
  have hUz : ((⟨(pieces ps).toArray⟩ : ByteArray) ++ ⟨#[124]⟩ ++ ⟨(pieces qs).toArray⟩).size ≤ 200 := by
    show ((⟨(pieces ps).toArray⟩ : ByteArray) ++ ⟨#[124]⟩ ++ ⟨(pieces qs).toArray⟩).data.size ≤ 200
    rw [← Array.length_toList, hUd]
    simp
    omega
  generalize (⟨(pieces ps).toArray⟩ : ByteArray) ++ ⟨#[124]⟩ ++ ⟨(pieces qs).toArray⟩ = U at *
  obtain ⟨hpre, hsuf, hsz⟩ := bar_facts _ _ U hUd hUz
  obtain ⟨cu, fu, xu, hU⟩ := sides_parsed hpre hsuf hUz hsz hP hQ
  have hsd := sides hpre hsuf hP hQ hU
  have hb2 := HB.out.2.2
  clear hlp hlq hUd hUz hpre hsuf hsz HA HB
  generalize (⟨(pieces ps).toArray⟩ : ByteArray) = P at *
  generalize (⟨(pieces qs).toArray⟩ : ByteArray) = Q at *
  have hal := (Below.refl w2.heap.size w2).alloc (Nat.le_refl _) (.cells #[.string P, .string Q, .string U] 9 (0, 0))
  have eL := heap_alloc_new w2 (.cells #[.string P, .string Q, .string U] 9 (0, 0))
  have hL := Lib.hid (large_any HBu.out 3 w2.heap.size 3 (by decide) (three P Q U) (three cp cq cu) (three fp fq fu) (three xp xq xu) (w2.alloc (.cells #[.string P, .string Q, .string U] 9 (0, 0))) (by simp) (fun i hi => by
    rw [Lib.cell_of_heap eL]
    rcases (show i = 0 ∨ i = 1 ∨ i = 2 by omega) with rfl | rfl | rfl <;> rfl) (fun i hi => by
    rcases (show i = 0 ∨ i = 1 ∨ i = 2 by omega) with rfl | rfl | rfl
    · exact hP
    · exact hQ
    · exact hU))
  have HB := Lib.hid (hb2.trans (hal.mono hb2.size))
  have HS := Lib.hid (And.intro hP (And.intro hQ (And.intro hU hsd)))
  clear hal eL hb2 hP hQ hU hsd
  go_wp2_with fail
  refine hL.out.mono ?_
  rintro e w3 ⟨hb3, b, rfl, hl1, hl2⟩
  have hbw := HB.out.trans (hb3.mono HB.out.size)
  cases b with
  | true =>
    have hM := Lib.hid (matched_any HBu.out w3)
    have HC := Lib.hid hbw
    clear hbw hb3 hl1 hl2 hL HB HS
    go_wp2_with (go_at_call 10; refine hM.out.mono ?_; rintro e w4 ⟨rfl, hb4⟩)
    go_ret
    exact ⟨rfl, HC.out.trans (hb4.mono HC.out.size)⟩
  | false =>
    have nP : ¬ Large cp fp := hl2 rfl 0 (by decide)
    have nQ : ¬ Large cq fq := hl2 rfl 1 (by decide)
    have nU : ¬ Large cu fu := hl2 rfl 2 (by decide)
    have HN := Lib.hid (And.intro nP (And.intro nQ nU))
    have h1 := Lib.hid (includes_any HBu.out P U cp fp cu fu xp xu w3 HS.out.1 HS.out.2.2.1 nP nU)
    have HC := Lib.hid hbw
    clear hbw hb3 hl1 hl2 hL HB nP nQ nU
    go_wp2_with fail
    refine h1.out.mono ?_
    rintro e w4 ⟨hb4, ok, s, rfl, -, -, hno⟩
    have hok : ok = true := by
      cases ok with
      | true => rfl
      | false =>
        obtain ⟨k1, k2⟩ := hno rfl
        have := HS.out.2.2.2 s
        unfold hasM at k1 k2
        rw [k1, k2] at this
        simp at this
    subst hok
    have h2 := Lib.hid (includes_any HBu.out Q U cq fq cu fu xq xu w4 HS.out.2.1 HS.out.2.2.1 HN.out.2.1 HN.out.2.2)
    have HD := Lib.hid (HC.out.trans (hb4.mono HC.out.size))
    clear h1 HC hb4 hno
    go_wp2_with fail
    refine h2.out.mono ?_
    rintro e w5 ⟨hb5, ok, s2, rfl, -, -, hno⟩
    have hok : ok = true := by
      cases ok with
      | true => rfl
      | false =>
        obtain ⟨k1, k2⟩ := hno rfl
        have := HS.out.2.2.2 s2
        unfold hasM at k1 k2
        rw [k1, k2] at this
        simp at this
    subst hok
    have h3 := Lib.hid (includes_any HBu.out P Q cp fp cq fq xp xq w5 HS.out.1 HS.out.2.1 HN.out.1 HN.out.2.1)
    have HC := Lib.hid (HD.out.trans (hb5.mono HD.out.size))
    clear h2 HD hb5 hno
    go_wp2_with fail
    refine h3.out.mono ?_
    rintro e w6 ⟨hb6, inn, s3, rfl, hs3, -, hno⟩
    have hz3 : (⟨s3.toArray⟩ : ByteArray).size ≤ 140737488355328 := by
      show s3.toArray.size ≤ _
      rw [List.size_toArray]
      omega
    have h4 := Lib.hid (match_ok HBu.out P ⟨s3.toArray⟩ cp fp xp hz3 w6 HS.out.1 HN.out.1)
    have HD := Lib.hid (HC.out.trans (hb6.mono HC.out.size))
    have HE := Lib.hid (And.intro hz3 hno)
    clear h3 HC hb6 hno hs3 hz3
    go_wp2_with fail
    refine h4.out.mono ?_
    rintro e w7 ⟨rfl, hb7⟩
    have h5 := Lib.hid (match_ok HBu.out Q ⟨s3.toArray⟩ cq fq xq HE.out.1 w7 HS.out.2.1 HN.out.2.1)
    have HC := Lib.hid (HD.out.trans (hb7.mono HD.out.size))
    clear h4 HD hb7
    obtain ⟨bx, hbx⟩ : ∃ b, b = endsM xp (runM cp fp (⟨s3.toArray⟩ : ByteArray).data.toList) := ⟨_, rfl⟩
    rw [← hbx]
    have HX := Lib.hid hbx
    clear hbx
    go_wp2_with fail
    refine h5.out.mono ?_
    rintro e w8 ⟨rfl, hb8⟩
    have h6 := Lib.hid (meets_any HBu.out P Q cp fp cq fq xp xq w8 HS.out.1 HS.out.2.1 HN.out.1 HN.out.2.1)
    have HD := Lib.hid (HC.out.trans (hb8.mono HC.out.size))
    clear h5 HC hb8
    obtain ⟨by', hby⟩ : ∃ b, b = endsM xq (runM cq fq (⟨s3.toArray⟩ : ByteArray).data.toList) := ⟨_, rfl⟩
    rw [← hby]
    have HY := Lib.hid hby
    clear hby
    go_wp2_with fail
    refine h6.out.mono ?_
    rintro e w9 ⟨hb9, mee, t, rfl, ht3, hyes, -⟩
    have hz3 : (⟨t.toArray⟩ : ByteArray).size ≤ 140737488355328 := by
      show t.toArray.size ≤ _
      rw [List.size_toArray]
      omega
    have h7 := Lib.hid (match_ok HBu.out P ⟨t.toArray⟩ cp fp xp hz3 w9 HS.out.1 HN.out.1)
    have HC := Lib.hid (HD.out.trans (hb9.mono HD.out.size))
    have HF := Lib.hid (And.intro hz3 hyes)
    clear h6 HD hb9 hyes ht3 hz3
    go_wp2_with fail
    refine h7.out.mono ?_
    rintro e w10 ⟨rfl, hb10⟩
    have h8 := Lib.hid (match_ok HBu.out Q ⟨t.toArray⟩ cq fq xq HF.out.1 w10 HS.out.2.1 HN.out.2.1)
    have HD := Lib.hid (HC.out.trans (hb10.mono HC.out.size))
    clear h7 HC hb10
    obtain ⟨bv, hbv⟩ : ∃ b, b = endsM xp (runM cp fp (⟨t.toArray⟩ : ByteArray).data.toList) := ⟨_, rfl⟩
    rw [← hbv]
    have HV := Lib.hid hbv
    clear hbv
    go_wp2_with fail
    refine h8.out.mono ?_
    rintro e w11 ⟨rfl, hb11⟩
    have HC := Lib.hid (HD.out.trans (hb11.mono HD.out.size))
    clear h8 HD hb11
    obtain ⟨bw, hbw⟩ : ∃ b, b = endsM xq (runM cq fq (⟨t.toArray⟩ : ByteArray).data.toList) := ⟨_, rfl⟩
    rw [← hbw]
    have HW := Lib.hid hbw
    clear hbw
    have h1 : inn = true ∨ (inn = false ∧ bx = true ∧ by' = false) := by
      cases inn with
      | true => exact Or.inl rfl
      | false => exact Or.inr ⟨rfl, by rw [HX.out]; exact (HE.out.2 rfl).1, by rw [HY.out]; exact (HE.out.2 rfl).2⟩
    have h2 : mee = false ∨ (mee = true ∧ bv = true ∧ bw = true) := by
      cases mee with
      | false => exact Or.inl rfl
      | true => exact Or.inr ⟨rfl, by rw [HV.out]; exact (HF.out.2 rfl).1, by rw [HW.out]; exact (HF.out.2 rfl).2⟩
    have H12 := Lib.hid (And.intro h1 h2)
    clear h1 h2 HX HY HV HW HE HF HS HN
    have hal := (Below.refl w11.heap.size w11).alloc (Nat.le_refl _) (.cells #[.int .i64 0, .int .i64 0, .int .i64 0, .int .i64 0, .int .i64 0, .int .i64 0, .int .i64 0, .int .i64 0] 23 (0, 0))
    have eZ := heap_alloc_new w11 (.cells #[.int .i64 0, .int .i64 0, .int .i64 0, .int .i64 0, .int .i64 0, .int .i64 0, .int .i64 0, .int .i64 0] 23 (0, 0))
    have HZ := Lib.hid (And.intro (HC.out.trans (hal.mono HC.out.size)) eZ)
    clear hal eZ HC
    go_upto_region 14 with fail
    have hz := HZ.out
    clear HZ
    generalize w11.alloc (.cells #[.int .i64 0, .int .i64 0, .int .i64 0, .int .i64 0, .int .i64 0, .int .i64 0, .int .i64 0, .int .i64 0] 23 (0, 0)) = W at *
    generalize w11.heap.size = Z at *
    have HZ := Lib.hid hz
    clear hz
    go_loopw [106] (fun iv wr => ∃ i : Nat, iv = .int .i64 i ∧ i ≤ 8 ∧ wr = W) (fun iv _ => 8 - (intOf iv).toNat)
    case atStart => exact ⟨0, rfl, by decide, rfl⟩
    case round =>
      obtain ⟨i, rfl, hi, rfl⟩ := hrel
      by_cases hlt : i < 8
      · have ti : (i : Int) < 8 := by omega
        have wi : IntKind.i64.wrap ((i : Int) + 1) = (i : Int) + 1 := IntWalk.i64_in _ ⟨by omega, by omega⟩
        have hni : ((i : Int)).toNat = i := by omega
        have c0 : wr.cell? ⟨Z, i, none⟩ = some (.int .i64 0) := by
          rw [Lib.cell_of_heap HZ.out.2]
          rcases (show i = 0 ∨ i = 1 ∨ i = 2 ∨ i = 3 ∨ i = 4 ∨ i = 5 ∨ i = 6 ∨ i = 7 by omega) with rfl | rfl | rfl | rfl | rfl | rfl | rfl | rfl <;> rfl
        go_wp2_with fail
        exact ⟨⟨i + 1, by simp, by omega, trivial⟩, by simp [intOf]; omega⟩
      · have ti : decide ((i : Int) < 8) = false := decide_eq_false (by omega)
        have hM := Lib.hid (matched_any HBu.out wr)
        have HC := Lib.hid HZ.out.1
        obtain ⟨h1, h2⟩ := H12.out
        clear H12 HZ
        rcases h1 with rfl | ⟨rfl, rfl, rfl⟩ <;> rcases h2 with rfl | ⟨rfl, rfl, rfl⟩
        all_goals
          go_wp2_with (go_at_call 10; refine hM.out.mono ?_; rintro e w4 ⟨rfl, hb4⟩)
          go_ret
          exact ⟨rfl, HC.out.trans (hb4.mono HC.out.size)⟩

end Go.Proofs.Ytebcflgdjbjkoaa
