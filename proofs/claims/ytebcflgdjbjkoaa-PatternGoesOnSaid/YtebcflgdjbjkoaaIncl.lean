/- pattern.Includes, pattern.Meets and pattern.Least, from what pattern.build does; no condition beyond those that stand there. -/
import Derived.Test.YtebcflgdjbjkoaaTwo
import Derived.Test.YtebcflgdjbjkoaaSearch
namespace Go.Proofs.Ytebcflgdjbjkoaa
open Go.RowKit

/-- A pattern has a text. -/
def hasM (cls fol : List Set4) (x : Part) (u : List UInt8) : Bool := endsM x (runM cls fol u)
theorem MachAt.drew {B : Nat} {cls fol : List Set4} {x : Part} {sets : List Set4} {rows : List (List Nat)} {ends : List Bool} {nv ev : Value} {W : World} (h : MachAt B cls fol x sets rows ends nv ev W) : MachAt B cls fol x sets rows ends nv ev W.drew := ⟨h.half, h.nrow, h.erow⟩
theorem wants_incl : Wants 31 (fun a b => b && !a) := by
  refine ⟨fun args W => by
    simp [callFunc, go_sem, Try.func31]
    rw [if_neg (by decide +kernel), if_neg (by simp [Try.f31])], fun a b W => ?_⟩
  cases b
  all_goals
    go_enter Try.func31, Try.ntmps31
    go_wp2_with fail
    go_ret
    simp
theorem wants_meet : Wants 32 (fun a b => a && b) := by
  refine ⟨fun args W => by
    simp [callFunc, go_sem, Try.func32]
    rw [if_neg (by decide +kernel), if_neg (by simp [Try.f32])], fun a b W => ?_⟩
  cases a
  all_goals
    go_enter Try.func32, Try.ntmps32
    go_wp2_with fail
    go_ret
    simp
theorem wants_least : Wants 38 (fun a _ => a) := by
  refine ⟨fun args W => by
    simp [callFunc, go_sem, Try.func38]
    rw [if_neg (by decide +kernel), if_neg (by simp [Try.f38])], fun a b W => ?_⟩
  go_enter Try.func38, Try.ntmps38
  go_wp2_with fail
  go_ret
  simp

def InclPost (c1 f1 c2 f2 : List Set4) (x1 x2 : Part) (w : World) (e : Ending) (w' : World) : Prop :=
  Below w.heap.size w w' ∧ ∃ (ok : Bool) (s : List UInt8), e = .returned (.tuple #[.bool ok, .string ⟨s.toArray⟩, .int .i64 0]) ∧ s.length ≤ 160000 ∧ (ok = true → ∀ u, hasM c1 f1 x1 u = true → hasM c2 f2 x2 u = true) ∧ (ok = false → hasM c1 f1 x1 s = true ∧ hasM c2 f2 x2 s = false)
def MeetPost (c1 f1 c2 f2 : List Set4) (x1 x2 : Part) (w : World) (e : Ending) (w' : World) : Prop :=
  Below w.heap.size w w' ∧ ∃ (ok : Bool) (s : List UInt8), e = .returned (.tuple #[.bool ok, .string ⟨s.toArray⟩, .int .i64 0]) ∧ s.length ≤ 160000 ∧ (ok = true → hasM c1 f1 x1 s = true ∧ hasM c2 f2 x2 s = true) ∧ (ok = false → ∀ u, hasM c1 f1 x1 u = true → hasM c2 f2 x2 u = false)
def LeastPost (c1 f1 : List Set4) (x1 : Part) (w : World) (e : Ending) (w' : World) : Prop :=
  Below w.heap.size w w' ∧ ∃ s : List UInt8, e = .returned (.tuple #[.string ⟨s.toArray⟩, .int .i64 0]) ∧ ((hasM c1 f1 x1 s = true ∧ ∀ u, hasM c1 f1 x1 u = true → sle s u) ∨ ∀ u, hasM c1 f1 x1 u = false)
set_option maxRecDepth 100000 in
set_option maxHeartbeats 4000000 in
theorem includes_any (hbuild : BuildSaid) (p q : ByteArray) (c1 f1 c2 f2 : List Set4) (x1 x2 : Part) (w : World) (h1 : ParsedTo p c1 f1 x1) (h2 : ParsedTo q c2 f2 x2) (hL1 : ¬ Large c1 f1) (hL2 : ¬ Large c2 f2) :
    Calls Try.prog 13 #[.string p, .string q] w (InclPost c1 f1 c2 f2 x1 x2 w) := by
  have hT := Lib.hid (two_any hbuild q p c2 f2 c1 f1 x2 x1 w h2 h1 hL2 hL1)
  clear h1 h2 hL1 hL2 hbuild
  go_enter Try.func13, Try.ntmps13
  go_upto_region 2 with (go_at_call 29; refine hT.out.mono ?_; rintro e w1 ⟨hb1, nv1, ev1, s1, r1, e1, nv2, ev2, s2, r2, e2, rfl, hM1, hM2⟩; obtain ⟨g1, k1, rfl, hg1, -⟩ := row_some hM1.nrow hM1.rpos; obtain ⟨g2, k2, rfl, hg2, -⟩ := row_some hM1.erow hM1.epos; obtain ⟨g3, k3, rfl, hg3, -⟩ := row_some hM2.nrow hM2.rpos; obtain ⟨g4, k4, rfl, hg4, -⟩ := row_some hM2.erow hM2.epos; have HM := Lib.hid (And.intro hM1 (And.intro hM2 hb1)); clear hM1 hM2 hb1)
  obtain ⟨hM1, hM2, hb1⟩ := HM.out
  have hal := ((Below.refl w1.heap.size w1).alloc (Nat.le_refl _) (.cells #[.slice (some ⟨g1, 0, none⟩) r1.length k1, .slice (some ⟨g2, 0, none⟩) e1.length k2] 58 (0, 0))).alloc (by simp) (.cells #[.slice (some ⟨g3, 0, none⟩) r2.length k3, .slice (some ⟨g4, 0, none⟩) e2.length k4] 58 (0, 0))
  have hM1' := hM1.below hal
  have hM2' := hM2.below hal
  have hb2 := hb1.trans (hal.mono hb1.size)
  have hSe := Lib.hid (search_any 31 _ wants_incl _ _ _ _ _ _ _ _ _ _ _ _ _ _ _ _ _ _ hM1' hM2')
  have HB := Lib.hid hb2
  clear hM1 hM2 hb1 HM hal hM1' hM2' hb2
  go_wp2_with (go_at_call 30; refine hSe.out.mono ?_; rintro e w3 ⟨hb3, hor⟩; rcases hor with ⟨t, rfl, ht, htw, -⟩ | ⟨rfl, htn⟩)
  · go_returns
    simp only [Bool.and_eq_true, Bool.not_eq_true'] at htw
    exact ⟨HB.out.trans (hb3.mono HB.out.size), false, t, rfl, ht, fun h => (by cases h), fun _ => htw⟩
  · go_returns
    refine ⟨HB.out.trans (hb3.mono HB.out.size), true, [], rfl, by simp, fun _ u hu => ?_, fun h => by cases h⟩
    have h := htn u
    unfold hasM at hu ⊢
    rw [hu] at h
    simpa using h
set_option maxRecDepth 100000 in
set_option maxHeartbeats 4000000 in
theorem meets_any (hbuild : BuildSaid) (p q : ByteArray) (c1 f1 c2 f2 : List Set4) (x1 x2 : Part) (w : World) (h1 : ParsedTo p c1 f1 x1) (h2 : ParsedTo q c2 f2 x2) (hL1 : ¬ Large c1 f1) (hL2 : ¬ Large c2 f2) :
    Calls Try.prog 14 #[.string p, .string q] w (MeetPost c1 f1 c2 f2 x1 x2 w) := by
  have hT := Lib.hid (two_any hbuild p q c1 f1 c2 f2 x1 x2 w h1 h2 hL1 hL2)
  clear h1 h2 hL1 hL2 hbuild
  go_enter Try.func14, Try.ntmps14
  go_upto_region 2 with (go_at_call 29; refine hT.out.mono ?_; rintro e w1 ⟨hb1, nv1, ev1, s1, r1, e1, nv2, ev2, s2, r2, e2, rfl, hM1, hM2⟩; obtain ⟨g1, k1, rfl, hg1, -⟩ := row_some hM1.nrow hM1.rpos; obtain ⟨g2, k2, rfl, hg2, -⟩ := row_some hM1.erow hM1.epos; obtain ⟨g3, k3, rfl, hg3, -⟩ := row_some hM2.nrow hM2.rpos; obtain ⟨g4, k4, rfl, hg4, -⟩ := row_some hM2.erow hM2.epos; have HM := Lib.hid (And.intro hM1 (And.intro hM2 hb1)); clear hM1 hM2 hb1)
  obtain ⟨hM1, hM2, hb1⟩ := HM.out
  have hal := ((Below.refl w1.heap.size w1).alloc (Nat.le_refl _) (.cells #[.slice (some ⟨g1, 0, none⟩) r1.length k1, .slice (some ⟨g2, 0, none⟩) e1.length k2] 58 (0, 0))).alloc (by simp) (.cells #[.slice (some ⟨g3, 0, none⟩) r2.length k3, .slice (some ⟨g4, 0, none⟩) e2.length k4] 58 (0, 0))
  have hM1' := hM1.below hal
  have hM2' := hM2.below hal
  have hb2 := hb1.trans (hal.mono hb1.size)
  have hSe := Lib.hid (search_any 32 _ wants_meet _ _ _ _ _ _ _ _ _ _ _ _ _ _ _ _ _ _ hM1' hM2')
  have HB := Lib.hid hb2
  clear hM1 hM2 hb1 HM hal hM1' hM2' hb2
  go_wp2_with (go_at_call 30; refine hSe.out.mono ?_; rintro e w3 ⟨hb3, hor⟩; rcases hor with ⟨t, rfl, ht, htw, -⟩ | ⟨rfl, htn⟩)
  · go_returns
    simp only [Bool.and_eq_true] at htw
    exact ⟨HB.out.trans (hb3.mono HB.out.size), true, t, rfl, ht, fun _ => htw, fun h => (by cases h)⟩
  · go_returns
    refine ⟨HB.out.trans (hb3.mono HB.out.size), false, [], rfl, by simp, fun h => (by cases h), fun _ u hu => ?_⟩
    have h := htn u
    unfold hasM at hu ⊢
    rw [hu] at h
    simpa using h
set_option maxRecDepth 100000 in
set_option maxHeartbeats 4000000 in
theorem least_any (hbuild : BuildSaid) (p : ByteArray) (c1 f1 : List Set4) (x1 : Part) (w : World) (h1 : ParsedTo p c1 f1 x1) (hL1 : ¬ Large c1 f1) :
    Calls Try.prog 20 #[.string p] w (LeastPost c1 f1 x1 w) := by
  have hT := Lib.hid (hbuild p c1 f1 x1 w h1)
  clear h1 hbuild
  go_enter Try.func20, Try.ntmps20
  go_upto_region 2 with (go_at_call 23; refine hT.out.mono ?_; rintro e w1 ⟨hb1, hor⟩; rcases hor with ⟨rfl, hL⟩ | ⟨nv1, ev1, s1, r1, e1, rfl, hM1⟩; exact absurd hL hL1; obtain ⟨g1, k1, rfl, hg1, -⟩ := row_some hM1.nrow hM1.rpos; obtain ⟨g2, k2, rfl, hg2, -⟩ := row_some hM1.erow hM1.epos; have HM := Lib.hid (And.intro hM1 hb1); clear hM1 hb1)
  obtain ⟨hM1, hb1⟩ := HM.out
  have hal := (Below.refl w1.heap.size w1).alloc (Nat.le_refl _) (.cells #[.slice (some ⟨g1, 0, none⟩) r1.length k1, .slice (some ⟨g2, 0, none⟩) e1.length k2] 58 (0, 0))
  have hM1' := hM1.below hal
  have hb2 := hb1.trans (hal.mono hb1.size)
  have hSe := Lib.hid (search_any 38 _ wants_least _ _ _ _ _ _ _ _ _ _ _ _ _ _ _ _ _ _ hM1' hM1')
  have HB := Lib.hid hb2
  clear hM1 hb1 HM hal hM1' hb2
  go_wp2_with (go_at_call 30; refine hSe.out.mono ?_; rintro e w3 ⟨hb3, hor⟩; rcases hor with ⟨t, rfl, ht, htw, htl⟩ | ⟨rfl, htn⟩)
  · go_returns
    exact ⟨HB.out.trans (hb3.mono HB.out.size), t, rfl, Or.inl ⟨htw, htl⟩⟩
  · go_returns
    exact ⟨HB.out.trans (hb3.mono HB.out.size), [], rfl, Or.inr htn⟩

end Go.Proofs.Ytebcflgdjbjkoaa
