/- The statement DayBack: the tied card: for all ints the law answers true; no condition but the tables and the variables of the row itself. -/
import Derived.Test.YtpoolbachhelgaaDoorCards
import Derived.Test.YtpoolbachhelgaaDoorTie
import Derived.Test.YtpoolbachhelgaaDoorDayBack
import Derived.WalkKit
import Derived.ProofKit
import Derived.OpenShut
import Derived.ShutString
import Derived.ChangeOld
import Derived.Below
import Derived.SizedLaws
import Derived.Carry
import Derived.Lay
import Derived.Deep.DeepHandedRow
import Derived.Lib.LaidTab
import Derived.LaidLaws
namespace Go.Proofs.YtpoolbachhelgaaDoor.dayBack
open Go.ChangeShapes Go.WideShapes Go.ChangeAt Go.RowKit
open Go.ChangeMaps (open_string shut_string)
set_option linter.unusedVariables false
theorem own : ownKnob Tryd.prog.godebug = none := by kernel_rfl
theorem laidOut : laidOutB Tryd.prog = true := by kernel_rfl
theorem gTab : Tryd.prog.globalNamed "internal/strconv.uint64pow10" = some 3 := by kernel_rfl
theorem gErr : Tryd.prog.globalNamed "strconv.ErrSyntax" = some 4 := by kernel_rfl
theorem table {W : World} (h : laidMetH Tryd.prog Rows.dayBackRow.laid W) : pow10Ok W ∧ errOk W := by
  obtain ⟨ps, ⟨g1, t1, cs1, f1, p1, q1, a1, a2, a3, a4, ⟨g2, t2, cs2, f2, p2, q2, b1, b2, b3, b4, ⟨g3, t3, cs3, f3, p3, q3, c1, c2, c3, c4, ⟨g4, t4, cs4, f4, p4, q4, d1, d2, d3, d4, ⟨g5, t5, cs5, f5, p5, q5, e1, e2, e3, e4, ⟨g6, t6, cs6, f6, p6, q6, h1, h2, h3, h4, _, _⟩, _⟩, _⟩, _⟩, _⟩, _⟩, d⟩ := h
  refine ⟨?_, ?_⟩
  · obtain rfl : g3 = 3 := Option.some.inj (c1.symm.trans gTab)
    obtain ⟨t, ht, h1, h2, h3, h4⟩ : ∃ t, (Tryd.prog.globals[(3 : Nat)]?).map (·.type) = some t ∧ Tryd.prog.underlying t = some (.array 20 117) ∧ Tryd.prog.underlying 117 = some (.int .u64) ∧ Tryd.prog.cellsOf 117 = 1 ∧ Tryd.prog.cellsOf t = 20 := ⟨_, rfl, by kernel_rfl, by kernel_rfl, by kernel_rfl, by kernel_rfl⟩
    obtain rfl := Option.some.inj (ht.symm.trans c2)
    have e := Lib.cells_of_tab (k := .u64) (zs := Lib.pow10Tab) h1 h2 h3 h4 c4
    show World.var? _ _ _ = _
    rw [c3, ← e]
  · obtain rfl : g6 = 4 := Option.some.inj (h1.symm.trans gErr)
    have ht : (Tryd.prog.globals[(4 : Nat)]?).map (·.type) = some 28 := by kernel_rfl
    obtain rfl := Option.some.inj (ht.symm.trans h2)
    obtain ⟨f', u, v, hcs, _⟩ := iface_of_trod Tryd.underlying28 h4
    refine ⟨u, v, ?_⟩
    have hc := World.var?_cell h1 h3 0
    rw [hc, ← Array.getElem?_toList, hcs]
    rfl
set_option maxRecDepth 100000 in
theorem contract (H : Type) (enc : TypeId × Value → H) (W : World) (base : Nat) (args : Array Value) (ds gs : List (DataW H)) (before : List MemPlace)
    (hval : ∀ (j : Nat) t v, Tryd.f7.params[j]? = some t → args[j]? = some v → Value.okWide Tryd.prog W .any base t v)
    (hW : DataW.Whole enc Tryd.prog Tryd.f7.params.toList Rows.dayBackSpec.vars false W args.toList ds gs before) (hsz : (DataW.weightsEach Tryd.prog (Tryd.f7.params.toList ++ (OpenSpec.ofChange Rows.dayBackSpec).bare.plain.varTypes Tryd.prog) (ds ++ gs)).all (· ≤ reachBytes) = true) (hL : laidMetH Tryd.prog Rows.dayBackRow.laid W) (hsh : W.ShapedOpen Tryd.prog) :
    Calls Tryd.prog 7 args W fun e W' => ∃ v, e = .returned v ∧ Rows.dayBackSpec.post enc Tryd.prog Tryd.f7 false true false false W args v W' := by
  have hW' := hW
  obtain ⟨p, q, hA0, hV, rfl, hfz, hnd⟩ := hW
  have hA : DataW.TrodAll enc Tryd.prog W 0 (fun _ => true) true Tryd.f7.params.toList args.toList ds p := hA0
  rw [Tryd.params7] at hA hval hsz
  obtain ⟨v0, vs0, d0, ds0, p0, q0, hargs, rfl, rfl, h0, r0⟩ := trodAll_cons hA
  obtain ⟨v1, vs1, d1, ds1, p1, q1, rfl, rfl, rfl, h1, r1⟩ := trodAll_cons r0
  obtain ⟨rfl, rfl, rfl⟩ := trodAll_nil r1
  obtain rfl : args = #[v0, v1] := by cases args; simp_all
  obtain ⟨rfl, rfl⟩ := trodVars_none hV
  obtain ⟨a0, rfl, rfl, rfl, w0⟩ := open_int Tryd.underlying3 (hval 0 3 v0 rfl rfl) h0
  obtain ⟨a1, rfl, rfl, rfl, w1⟩ := open_int Tryd.underlying3 (hval 1 3 v1 rfl rfl) h1
  clear hA0
  simp only [List.append_nil] at hW'
  refine ((fun d k V (_ : (Lit.int IntKind.i64 d).wf = true) (_ : (Lit.int IntKind.i64 k).wf = true) (ht : pow10Ok V ∧ errOk V) (hm : maxOk V) => dayBack_walk d k V ⟨ht.1, hm, ht.2⟩) a0 a1 W w0 w1 (table hL) (maxOk_shape hsh)).mono fun e W' ⟨he, bel⟩ => ?_
  subst he
  exact ⟨_, rfl, _, _, _, [], _, [], hW', trodAll_mk1 (shut_bool Tryd.underlying4 _), (trodAll_cons_mk (shut_int Tryd.underlying3 w0) (trodAll_cons_mk (shut_int Tryd.underlying3 w1) trodAll_mk0)), rfl, bel.frame _, fun h => by cases h⟩
noncomputable def laidWorld (os : Os) : World := World.laidAll Tryd.prog os Rows.dayBackRow.laid
theorem laid_met (os : Os) : laidMet Tryd.prog Rows.dayBackRow.laid ((laidWorld os).forCall (fun _ _ => 0) ⟨#[], #[.int .i64 0, .int .i64 0], []⟩).memory :=
  laidMet_laidAll #[.int .i64 0, .int .i64 0] (by kernel_rfl) (by kernel_rfl)
theorem reads (os : Os) {H : Type} (enc : TypeId × Value → H) : ∃ ds places, DataW.whole enc Tryd.prog ((laidWorld os).forCall (fun _ _ => 0) ⟨#[], #[.int .i64 0, .int .i64 0], []⟩).memory Tryd.f7.params.toList Rows.dayBackSpec.vars false (#[.int .i64 0, .int .i64 0] : Array Value).toList 8 = some (ds, [], places) := by
  have h : (DataW.whole enc Tryd.prog ((laidWorld os).forCall (fun _ _ => 0) ⟨#[], #[.int .i64 0, .int .i64 0], []⟩).memory Tryd.f7.params.toList Rows.dayBackSpec.vars false (#[.int .i64 0, .int .i64 0] : Array Value).toList 8).map (fun x => x.2.1.length) = some 0 := by kernel_rfl
  obtain ⟨⟨ds, gs, places⟩, h1, h2⟩ := Option.map_eq_some_iff.1 h
  obtain rfl := List.eq_nil_of_length_eq_zero h2
  exact ⟨ds, places, h1⟩
set_option maxRecDepth 100000 in
theorem lifted (os : Os) (started : os.Started) (H : Type) (enc : TypeId × Value → H) (F : Stop.Interp) :
    ReturnsInHanded {} Tryd.checked os 7 .any ((OpenSpec.ofChange Rows.dayBackSpec).preRow enc Tryd.prog Tryd.f7 Rows.dayBackRow.domain false Rows.dayBackRow.laid) (((OpenSpec.ofChange Rows.dayBackSpec).at F).post enc Tryd.prog Tryd.f7 false true false false) := by
  obtain ⟨ds, places, hx⟩ := reads os enc
  refine returnsInHanded_of_row (C := Tryd.checked) (s := OpenSpec.ofChange Rows.dayBackSpec) own started (by kernel_rfl) Tryd.func7
    (witness_row_at (enc := enc) (C := Tryd.checked) false (laidWorld os) #[.int .i64 0, .int .i64 0] rfl (by kernel_rfl) (by kernel_rfl) (by kernel_rfl)
      (OpenSpec.preRow_of_cond 8 hx (by kernel_rfl) (fun k hk => by cases hk) (by kernel_rfl) (laid_met os))) ?_
  intro W base args ds gs before hval hW _ _ hsz hL hsh _
  exact contract H enc W base args ds gs before hval hW hsz hL hsh
theorem said : Rows.DayBackSaid :=
  OpenClaim.holds_of_cond 7 Tryd.f7 rfl rfl rfl rfl rfl rfl rfl ⟨rfl, rfl, rfl, rfl, rfl⟩ rfl rfl rfl rfl rfl (by kernel_rfl) Tryd.func7 (by kernel_rfl)
    (of_decide_eq_true (by kernel_rfl)) (by unfold Func.isWrapper; first | (rw [if_pos (by decide +kernel)]; kernel_rfl) | (rw [if_neg (by decide +kernel)]; exact ⟨rfl, rfl⟩))
    (fun os started H enc _ F => by rw [OpenClaim.pre_eq_preRow]; exact lifted os started H enc F)
theorem plain (f : FuncId) (fn : Func) (hf : Tryd.pinned.checked.prog.funcNamed "clapperbridge/clapkeep1.DayBack" = some f) (hfn : Tryd.pinned.checked.prog.funcs[f]? = some fn) :
    true = Tryd.pinned.checked.prog.looks [] ∧ ∀ (j : Nat) t, fn.params[j]? = some t → Tryd.pinned.checked.prog.wantsStandIn t = false := by
  obtain rfl : f = 7 := Option.some.inj ((show Tryd.prog.funcNamed "clapperbridge/clapkeep1.DayBack" = some 7 by kernel_rfl).symm.trans hf) |>.symm
  obtain rfl : fn = Tryd.f7 := (Option.some.inj (Tryd.func7.symm.trans hfn)).symm
  refine ⟨by kernel_rfl, fun j t ht => ?_⟩
  rw [Tryd.params7] at ht
  have hm := Array.mem_of_getElem? ht
  simp only [List.mem_toArray, List.mem_cons, List.mem_nil_iff, or_false] at hm
  rcases hm with rfl | rfl
  · exact (show Tryd.prog.wantsStandIn 3 = false by kernel_rfl)
  · exact (show Tryd.prog.wantsStandIn 3 = false by kernel_rfl)
end Go.Proofs.YtpoolbachhelgaaDoor.dayBack
namespace Go.Proofs.YtpoolbachhelgaaDoor
/-- The given statement. -/
theorem dayBack_holds : Rows.DayBackCardSaid :=
  Claim7.holds_tied_plain_at .later [] _ _ _ _ dayBack.said (fun _ h => by cases h) (by kernel_rfl) (fun _ h => by cases h) dayBack_row_tie rfl ⟨rfl, rfl⟩ (by kernel_rfl) rfl dayBack.plain (by kernel_rfl)
#print axioms dayBack_holds
end Go.Proofs.YtpoolbachhelgaaDoor
