/- pattern.Check, from what pattern.build does; no condition beyond those that stand there. -/
import Derived.Test.YtebcflgdjbjkoaaHalf
import Derived.Test.YtebcflgdjbjkoaaCnt
namespace Go.Proofs.Ytebcflgdjbjkoaa
open Go.RowKit

/-- A machine of at most 400 sets was made. -/
def Small (cls fol : List Set4) (x : Part) : Prop := ∃ sets rows ends, Half cls fol x sets rows ends sets.length
set_option maxRecDepth 100000 in
set_option maxHeartbeats 1000000 in
theorem check_any (hbuild : BuildSaid) (p : ByteArray) (cls fol : List Set4) (x : Part) (w : World) (h : ParsedTo p cls fol x) :
    Calls Try.prog 28 #[.string p] w fun e w' => Below w.heap.size w w' ∧ ((e = .returned (.int .i64 2) ∧ Large cls fol) ∨ (e = .returned (.int .i64 0) ∧ Small cls fol x)) := by
  have hBu := Lib.hid (hbuild p cls fol x w h)
  clear h hbuild
  go_enter Try.func28, Try.ntmps28
  go_wp2_with (go_at_call 23; refine hBu.out.mono ?_; rintro e w1 ⟨hb1, hor⟩; rcases hor with ⟨rfl, hL⟩ | ⟨nv, ev, sets, rows, ends, rfl, hM⟩; rotate_left; obtain ⟨g, gc, rfl, hg, -⟩ := row_some hM.nrow hM.rpos; obtain ⟨g2, gc2, rfl, hg2, -⟩ := row_some hM.erow hM.epos; have HM := Lib.hid (And.intro hM.half hb1); clear hM hg hg2 hb1; rotate_left)
  · go_returns
    exact ⟨hb1.trans (((Below.refl w1.heap.size w1).alloc (Nat.le_refl _) _).mono hb1.size), Or.inl ⟨rfl, hL⟩⟩
  · go_returns
    exact ⟨HM.out.2.trans (((Below.refl w1.heap.size w1).alloc (Nat.le_refl _) _).mono HM.out.2.size), Or.inr ⟨rfl, sets, rows, ends, HM.out.1⟩⟩

end Go.Proofs.Ytebcflgdjbjkoaa
/- clapkeep1.large: whether one of some patterns has too many sets; no condition beyond those that stand there. -/
namespace Go.Proofs.Ytebcflgdjbjkoaa
open Go.RowKit

theorem small_not {cls fol : List Set4} {x : Part} (h : Small cls fol x) : ¬ Large cls fol := by
  obtain ⟨sets, rows, ends, hh⟩ := h
  refine not_large sets hh.len fun s hs => ?_
  induction hs with
  | start => exact List.mem_of_getElem? hh.first
  | @step s b hb _ ih =>
    obtain ⟨i, hi⟩ := List.mem_iff_getElem?.1 ih
    have hil := (List.getElem?_eq_some_iff.1 hi).1
    have hrl : i < rows.length := by rw [hh.rl]; exact hil
    have hr := hh.rr i s rows[i] hi (by simp [hrl])
    have hbl : b < rows[i].length := by rw [hr.1]; exact hb
    exact List.mem_of_getElem? (hr.2 b rows[i][b] (by simp [hbl]))
def LargeB (b : Bool) (cls fol : List Set4) : Prop := b = true ↔ Large cls fol
set_option maxRecDepth 100000 in
set_option maxHeartbeats 1000000 in
theorem large1_any (hbuild : BuildSaid) (p : ByteArray) (cls fol : List Set4) (x : Part) (w : World) (h : ParsedTo p cls fol x) :
    Calls Try.prog 27 #[.string p] w fun e w' => Below w.heap.size w w' ∧ ∃ b : Bool, e = .returned (.bool b) ∧ LargeB b cls fol := by
  have hC := Lib.hid (check_any hbuild p cls fol x w h)
  clear h hbuild
  go_enter Try.func27, Try.ntmps27
  go_wp2_with (go_at_call 28; refine hC.out.mono ?_; rintro e w1 ⟨hb1, ⟨rfl, hL⟩ | ⟨rfl, hS⟩⟩)
  · go_ret
    exact ⟨hb1, true, rfl, ⟨fun _ => hL, fun _ => rfl⟩⟩
  · go_ret
    exact ⟨hb1, false, rfl, ⟨fun h => (by cases h), fun h => absurd h (small_not hS)⟩⟩
def IdxPost (n : Nat) (c f : Nat → List Set4) (w : World) (e : Ending) (w' : World) : Prop := Below w.heap.size w w' ∧ ∃ r : Int, e = .returned (.int .i64 r) ∧ (0 ≤ r → ∃ i, i < n ∧ Large (c i) (f i)) ∧ (r < 0 → ∀ i, i < n → ¬ Large (c i) (f i))
def ManyPost (n : Nat) (c f : Nat → List Set4) (w : World) (e : Ending) (w' : World) : Prop := Below w.heap.size w w' ∧ ∃ b : Bool, e = .returned (.bool b) ∧ (b = true → ∃ i, i < n ∧ Large (c i) (f i)) ∧ (b = false → ∀ i, i < n → ¬ Large (c i) (f i))
set_option maxRecDepth 100000 in
set_option maxHeartbeats 2000000 in
theorem idx_large (hbuild : BuildSaid) (n q cap : Nat) (hn : n ≤ 100) (s : Nat → ByteArray) (c f : Nat → List Set4) (x : Nat → Part) (w : World) (hq : q < w.heap.size) (hc : ∀ i, i < n → w.cell? ⟨q, i, none⟩ = some (.string (s i))) (hp : ∀ i, i < n → ParsedTo (s i) (c i) (f i) (x i)) :
    Calls Try.prog 45 #[.slice (some ⟨q, 0, none⟩) n cap, .func (.func 27) #[] #[]] w (IdxPost n c f w) := by
  have HI := Lib.hid (And.intro hc hp)
  have HB := Lib.hid hbuild
  clear hc hp hbuild
  go_enter Try.func45, Try.ntmps45
  go_wp2_with fail
  go_loopw [8] (fun iv wr => ∃ i : Nat, iv = .int .i64 i ∧ i ≤ n ∧ Below w.heap.size w wr ∧ ∀ j, j < i → ¬ Large (c j) (f j)) (fun iv _ => n - (intOf iv).toNat)
  case atStart => exact ⟨0, rfl, Nat.zero_le _, Below.refl _ _, fun j hj => by omega⟩
  case round =>
    obtain ⟨i, rfl, hi, hb, hno⟩ := hrel
    by_cases hlt : i < n
    · have ti : (i : Int) < (n : Int) := by omega
      have wi : IntKind.i64.wrap ((i : Int) + 1) = (i : Int) + 1 := IntWalk.i64_in _ ⟨by omega, by omega⟩
      have hni : ((i : Int)).toNat = i := by omega
      have c0 : wr.cell? ⟨q, i, none⟩ = some (.string (s i)) := by rw [World.cell?_of_block (hb.block q hq)]; exact HI.out.1 i hlt
      have hL := Lib.hid (large1_any HB.out (s i) (c i) (f i) (x i) wr (HI.out.2 i hlt))
      have HO := Lib.hid (And.intro hb hno)
      clear hb hno
      go_wp2_with (go_at_call 27; refine hL.out.mono ?_; rintro e w1 ⟨hb1, b, rfl, hbl⟩; have HO1 := Lib.hid (And.intro (HO.out.1.trans (hb1.mono HO.out.1.size)) hbl); clear hb1 hbl; cases b)
      · refine ⟨⟨i + 1, by simp, by omega, HO1.out.1, fun j hj => ?_⟩, by simp [intOf]; omega⟩
        rcases Nat.lt_or_ge j i with h | h
        · exact HO.out.2 j h
        · have : j = i := by omega
          rw [this]
          exact fun hl => by have := HO1.out.2.2 hl; cases this
      · go_ret
        exact ⟨HO1.out.1, i, rfl, fun _ => ⟨i, hlt, HO1.out.2.1 rfl⟩, fun h => by omega⟩
    · have ti : decide ((i : Int) < (n : Int)) = false := decide_eq_false (by omega)
      have HO := Lib.hid (And.intro hb hno)
      clear hb hno
      go_wp2_with fail
      go_ret
      exact ⟨HO.out.1, -1, rfl, fun h => absurd h (by decide), fun _ j hj => HO.out.2 j (by omega)⟩
set_option maxRecDepth 100000 in
set_option maxHeartbeats 2000000 in
theorem many_large (hbuild : BuildSaid) (n q cap : Nat) (hn : n ≤ 100) (s : Nat → ByteArray) (c f : Nat → List Set4) (x : Nat → Part) (w : World) (hq : q < w.heap.size) (hc : ∀ i, i < n → w.cell? ⟨q, i, none⟩ = some (.string (s i))) (hp : ∀ i, i < n → ParsedTo (s i) (c i) (f i) (x i)) :
    Calls Try.prog 26 #[.slice (some ⟨q, 0, none⟩) n cap, .func (.func 27) #[] #[]] w (ManyPost n c f w) := by
  have HI := Lib.hid (idx_large hbuild n q cap hn s c f x w hq hc hp)
  clear hc hp hbuild
  go_enter Try.func26, Try.ntmps26
  go_wp2_with (go_at_call 45; refine HI.out.mono ?_; rintro e w1 ⟨hb1, r, rfl, h1, h2⟩; have HO := Lib.hid (And.intro hb1 (And.intro h1 h2)); clear hb1 h1 h2)
  go_ret
  by_cases hr : 0 ≤ r
  · exact ⟨HO.out.1, _, rfl, fun _ => HO.out.2.1 hr, fun h => by rw [decide_eq_true hr] at h; cases h⟩
  · exact ⟨HO.out.1, _, rfl, fun h => (by rw [decide_eq_false hr] at h; cases h), fun _ => HO.out.2.2 (by omega)⟩
set_option maxRecDepth 100000 in
set_option maxHeartbeats 2000000 in
theorem large_any (hbuild : BuildSaid) (n q cap : Nat) (hn : n ≤ 100) (s : Nat → ByteArray) (c f : Nat → List Set4) (x : Nat → Part) (w : World) (hq : q < w.heap.size) (hc : ∀ i, i < n → w.cell? ⟨q, i, none⟩ = some (.string (s i))) (hp : ∀ i, i < n → ParsedTo (s i) (c i) (f i) (x i)) :
    Calls Try.prog 12 #[.slice (some ⟨q, 0, none⟩) n cap] w (ManyPost n c f w) := by
  have HI := Lib.hid (many_large hbuild n q cap hn s c f x w hq hc hp)
  clear hc hp hbuild
  go_enter Try.func12, Try.ntmps12
  go_wp2_with (go_at_call 26; refine HI.out.mono ?_; rintro e w1 ⟨hb1, r, rfl, h1, h2⟩; have HO := Lib.hid (And.intro hb1 (And.intro h1 h2)); clear hb1 h1 h2)
  go_ret
  exact ⟨HO.out.1, r, rfl, HO.out.2.1, HO.out.2.2⟩

end Go.Proofs.Ytebcflgdjbjkoaa
