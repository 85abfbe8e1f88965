/- pattern.Prefix, from what pattern.build does; no condition beyond those that stand there. -/
import Derived.Test.YtebcflgdjbjkoaaGoes
namespace Go.Proofs.Ytebcflgdjbjkoaa
open Go.RowKit

/-- Some text of the pattern begins with t. -/
def Begins (cls fol : List Set4) (x : Part) (t : List UInt8) : Prop := ∃ v, endsM x (runM cls fol (t ++ v)) = true
def PrefixPost (cls fol : List Set4) (x : Part) (s : List UInt8) (w : World) (e : Ending) (w' : World) : Prop :=
  Below w.heap.size w w' ∧ ∃ n : Nat, n ≤ s.length ∧ e = .returned (.tuple #[.int .i64 n, .bool (endsM x (runM cls fol (s.take n))), .int .i64 0]) ∧ (∀ m, 1 ≤ m → m ≤ n → Begins cls fol x (s.take m)) ∧ (n < s.length → ¬ Begins cls fol x (s.take (n + 1)))
theorem begins_iff {nx : Nat → Nat → Nat} {en : Nat → Bool} {cls fol : List Set4} {x : Part} (h1 : ∀ u, en (runE nx 0 u) = endsM x (runM cls fol u)) (t : List UInt8) : LiveS nx en (runE nx 0 t) ↔ Begins cls fol x t := by
  constructor
  · rintro ⟨v, hv⟩
    exact ⟨v, by rw [← h1, runE_app]; exact hv⟩
  · rintro ⟨v, hv⟩
    exact ⟨v, by rw [← runE_app, h1]; exact hv⟩
theorem runE_take {nx : Nat → Nat → Nat} {s : List UInt8} {n : Nat} (hn : n < s.length) : runE nx 0 (s.take (n + 1)) = nx (runE nx 0 (s.take n)) (s.getD n 0).toNat := by
  rw [List.take_add_one, runE_app, List.getElem?_eq_getElem hn]
  simp [runE, List.getD, hn]
set_option maxRecDepth 100000 in
set_option maxHeartbeats 4000000 in
theorem prefix_any (hbuild : BuildSaid) (p s : ByteArray) (hs : s.size ≤ 140737488355328) (cls fol : List Set4) (x : Part) (w : World) (h : ParsedTo p cls fol x) (hL : ¬ Large cls fol) :
    Calls Try.prog 19 #[.string p, .string s] w (PrefixPost cls fol x s.data.toList w) := by
  have hBu := Lib.hid (hbuild p cls fol x w h)
  clear h hbuild
  go_enter Try.func19, Try.ntmps19
  go_upto_region 4 with (go_at_call 23; refine hBu.out.mono ?_; rintro e w1 ⟨hb1, hor⟩; rcases hor with ⟨rfl, hLL⟩ | ⟨nv, ev, sets, rows, ends, rfl, hM⟩; exact absurd hLL hL; obtain ⟨g, gc, rfl, hg, -⟩ := row_some hM.nrow hM.rpos; obtain ⟨g2, gc2, rfl, hg2, -⟩ := row_some hM.erow hM.epos; have HM := Lib.hid (And.intro hM (And.intro hg (And.intro hg2 hb1))); clear hM hg hg2 hb1)
  clear hBu
  have hal := (Below.refl w1.heap.size w1).alloc (Nat.le_refl _) (.cells #[.slice (some ⟨g, 0, none⟩) rows.length gc, .slice (some ⟨g2, 0, none⟩) ends.length gc2] 58 (0, 0))
  have eM := heap_alloc_new w1 (.cells #[.slice (some ⟨g, 0, none⟩) rows.length gc, .slice (some ⟨g2, 0, none⟩) ends.length gc2] 58 (0, 0))
  have hM2 := HM.out.1.below hal
  have hLv := Lib.hid (live_any _ _ _ _ _ _ _ _ _ _ _ hM2 eM)
  have HN := Lib.hid (And.intro hM2 (And.intro eM ((HM.out.2.2.2).trans (hal.mono HM.out.2.2.2.size))))
  clear hal eM hM2 HM
  generalize w1.alloc (.cells #[.slice (some ⟨g, 0, none⟩) rows.length gc, .slice (some ⟨g2, 0, none⟩) ends.length gc2] 58 (0, 0)) = w2 at *
  generalize w1.heap.size = M at *
  go_upto_region 6 with (go_at_call 33; refine hLv.out.mono ?_; rintro e w3 ⟨hb3, v, lf, rfl, hr3, hlf⟩; obtain ⟨gv, cv, rfl⟩ := ownsRow_formW hr3 HN.out.1.epos; have H3 := Lib.hid (And.intro hb3 (And.intro hr3 hlf)); clear hb3 hr3 hlf)
  clear hLv
  obtain ⟨en, hen⟩ : ∃ en : Nat → Bool, en = fun k => ends.getD k false := ⟨_, rfl⟩
  rw [← hen] at H3
  have HE := Lib.hid hen
  clear hen
  have hel : ends.length ≤ 400 := by have := HN.out.1.half.el; have := HN.out.1.half.len; omega
  have HG := Lib.hid (fun t => begins_iff (nx := dM rows) (en := en) (cls := cls) (fol := fol) (x := x) (fun u => by rw [HE.out]; exact HN.out.1.dends u) t)
  have hMl := lt_of_block HN.out.2.1
  have hM3 := H3.out.1.size
  go_loopw [10, 11] (fun kv nv wr => ∃ (n k : Nat), nv = .int .i64 n ∧ kv = .int .i16 k ∧ n ≤ s.size ∧ k = runE (dM rows) 0 (s.data.toList.take n) ∧ Below w3.heap.size w3 wr ∧ (∀ m, 1 ≤ m → m ≤ n → LiveS (dM rows) en (runE (dM rows) 0 (s.data.toList.take m)))) (fun _ nv _ => s.size - (intOf nv).toNat)
  case atStart => exact ⟨0, 0, rfl, rfl, Nat.zero_le _, rfl, Below.refl _ _, fun m h1 h2 => by omega⟩
  case round =>
    obtain ⟨n, k, rfl, rfl, hn, hk, hb, hlive⟩ := hrel
    have hM := (HN.out.1.below H3.out.1).below hb
    have hlen : s.data.toList.length = s.size := by simp
    have hsk : sets[k]? = some (runM cls fol (s.data.toList.take n)) := by rw [hk]; exact hM.drun _
    have hkl : k < sets.length := (List.getElem?_eq_some_iff.1 hsk).1
    have hrv := row_keepP H3.out.2.1 fun q hq => hb.block q (World.ownsRow.lt H3.out.2.1 q hq).2
    have m0 : wr.cell? ⟨M, 0, none⟩ = some (.slice (some ⟨g, 0, none⟩) rows.length gc) := by
      rw [World.cell?_of_block (hb.block M (by omega)), World.cell?_of_block (H3.out.1.block M hMl), Lib.cell_of_heap HN.out.2.1]; rfl
    have m1 : wr.cell? ⟨M, 1, none⟩ = some (.slice (some ⟨g2, 0, none⟩) ends.length gc2) := by
      rw [World.cell?_of_block (hb.block M (by omega)), World.cell?_of_block (H3.out.1.block M hMl), Lib.cell_of_heap HN.out.2.1]; rfl
    have tk1 : (k : Int) < (rows.length : Int) := by have := hM.half.rl; omega
    have tk2 : (k : Int) < (ends.length : Int) := by have := hM.half.el; omega
    have hnk : ((k : Int)).toNat = k := by omega
    have hkel : k < ends.length := by omega
    have he := (World.ownsRow.cellAt hM.erow k (by omega)).trans (hM.endAt hsk)
    obtain ⟨eb, heb⟩ : ∃ y, y = endsM x (runM cls fol (s.data.toList.take n)) := ⟨_, rfl⟩
    rw [← heb] at he
    have HB := Lib.hid heb
    have hbF := HN.out.2.2.trans ((H3.out.1.trans (hb.mono hM3)).mono HN.out.2.2.size)
    clear heb
    by_cases hlt : n < s.size
    · have tn : (n : Int) < (s.size : Int) := by omega
      have wn : IntKind.i64.wrap ((n : Int) + 1) = (n : Int) + 1 := IntWalk.i64_in _ ⟨by omega, by omega⟩
      have hnn : ((n : Int)).toNat = n := by omega
      have hx := peek_in s n hlt
      have hc := peek_lt s n
      have hru := runE_take (nx := dM rows) (s := s.data.toList) (n := n) (by omega)
      have hpk : peekM s n = (s.data.toList.getD n 0).toNat := rfl
      rw [← hpk, ← hk] at hru
      have q1 := (World.ownsRow.cellAt hM.nrow (k * 256 + peekM s n) (by have := hM.half.rl; omega)).trans (hM.dstep hsk hc).1
      have dl : dM rows k (peekM s n) < ends.length := by rw [hM.half.el]; exact hM.dlt hkl hc
      have q2 := (World.ownsRow.cellAt hrv (dM rows k (peekM s n)) (by omega)).trans (boolC_get dl)
      have hlf := H3.out.2.2 _ dl
      obtain ⟨u, hu⟩ : ∃ u, u = dM rows k (peekM s n) := ⟨_, rfl⟩
      rw [← hu] at q1 q2 dl hru hlf
      have hnu : ((u : Int)).toNat = u := by omega
      have tu : (u : Int) < (ends.length : Int) := by omega
      have tc : (peekM s n : Int) < 256 := by omega
      have hnc : ((peekM s n : Int)).toNat = peekM s n := by omega
      cases hfu : lf u with
      | true =>
        rw [hfu] at q2
        have HO := Lib.hid (And.intro hb (And.intro hlive (And.intro hru (hlf.1 hfu))))
        clear hb hlive hru hlf hfu hk hM hrv hsk hu hpk hlen hbF he m1
        generalize peekM s n = c at *
        go_upto_region 6 with fail
        go_quiet (fail)
        go_upto_region 7 with fail
        have m0' : ∀ N, (wr.drewN N).cell? ⟨M, 0, none⟩ = some (.slice (some ⟨g, 0, none⟩) rows.length gc) := fun N => m0
        have q1' : ∀ N, (wr.drewN N).cell? ⟨g, k * 256 + c, none⟩ = some (.int .i16 (u : Nat)) := fun N => q1
        have HP := Lib.hid (HO.out.1.trans (show Below w3.heap.size wr (wr.drewN nq) from ⟨rfl, rfl, rfl, Nat.le_refl _, fun _ _ => rfl⟩))
        have z0 := m0' nq
        have z1 := q1' nq
        clear m0' q1' m0 q1 q2
        generalize wr.drewN nq = W5 at *
        go_quiet (fail)
        have HP := Lib.hid (HP.out.trans (show Below w3.heap.size W5 (W5.drewN nq) from ⟨rfl, rfl, rfl, Nat.le_refl _, fun _ _ => rfl⟩))
        go_wp2_with fail
        refine ⟨⟨n + 1, u, by simp, rfl, by omega, HO.out.2.2.1.symm, HP.out, fun m h1 h2 => ?_⟩, by simp [intOf]; omega⟩
        rcases Nat.lt_or_ge m (n + 1) with h3 | h3
        · exact HO.out.2.1 m h1 (by omega)
        · rw [show m = n + 1 by omega, HO.out.2.2.1]
          exact HO.out.2.2.2
      | false =>
        rw [hfu] at q2
        have hnot : n < s.data.toList.length → ¬ Begins cls fol x (s.data.toList.take (n + 1)) := fun _ hbg => by
          have h1 := (HG.out _).2 hbg
          rw [hru] at h1
          rw [hlf.2 h1] at hfu
          cases hfu
        have HO := Lib.hid (And.intro hbF (And.intro hlive hnot))
        clear hb hlive hru hlf hfu hk hM hrv hsk hu hpk hbF hnot
        generalize peekM s n = c at *
        go_upto_region 6 with fail
        go_quiet (fail)
        have m1' : ∀ N, (wr.drewN N).cell? ⟨M, 1, none⟩ = some (.slice (some ⟨g2, 0, none⟩) ends.length gc2) := fun N => m1
        have he' : ∀ N, (wr.drewN N).cell? ⟨g2, k, none⟩ = some (.bool eb) := fun N => he
        have z0 := m1' nq
        have z1 := he' nq
        have HP := Lib.hid (HO.out.1.trans (show Below w.heap.size wr (wr.drewN nq) from ⟨rfl, rfl, rfl, Nat.le_refl _, fun _ _ => rfl⟩))
        clear m1' he' m0 q1 q2 m1 he
        generalize wr.drewN nq = W5 at *
        go_upto_region 9 with fail
        go_quiet (fail)
        have HP := Lib.hid (HP.out.trans (show Below w.heap.size W5 (W5.drewN nq) from ⟨rfl, rfl, rfl, Nat.le_refl _, fun _ _ => rfl⟩))
        go_wp2_with fail
        go_returns
        refine ⟨HP.out, n, by omega, by rw [HB.out]; rfl, fun m h1 h2 => (HG.out _).1 (HO.out.2.1 m h1 h2), HO.out.2.2⟩
    · have tn : decide ((n : Int) < (s.size : Int)) = false := decide_eq_false (by omega)
      have tnN : decide (n < s.size) = false := decide_eq_false hlt
      have HO := Lib.hid (And.intro hbF (And.intro hlive hlen))
      clear hb hlive hk hM hrv hsk hbF hlen
      go_upto_region 6 with fail
      go_quiet (fail)
      have m1' : ∀ N, (wr.drewN N).cell? ⟨M, 1, none⟩ = some (.slice (some ⟨g2, 0, none⟩) ends.length gc2) := fun N => m1
      have he' : ∀ N, (wr.drewN N).cell? ⟨g2, k, none⟩ = some (.bool eb) := fun N => he
      have z0 := m1' nq
      have z1 := he' nq
      have HP := Lib.hid (HO.out.1.trans (show Below w.heap.size wr (wr.drewN nq) from ⟨rfl, rfl, rfl, Nat.le_refl _, fun _ _ => rfl⟩))
      clear m1' he' m0 m1 he
      generalize wr.drewN nq = W5 at *
      go_upto_region 9 with fail
      go_quiet (fail)
      have HP := Lib.hid (HP.out.trans (show Below w.heap.size W5 (W5.drewN nq) from ⟨rfl, rfl, rfl, Nat.le_refl _, fun _ _ => rfl⟩))
      go_wp2_with fail
      go_returns
      refine ⟨HP.out, n, by have := HO.out.2.2; omega, by rw [HB.out]; rfl, fun m h1 h2 => (HG.out _).1 (HO.out.2.1 m h1 h2), fun h => by have := HO.out.2.2; omega⟩

end Go.Proofs.Ytebcflgdjbjkoaa
