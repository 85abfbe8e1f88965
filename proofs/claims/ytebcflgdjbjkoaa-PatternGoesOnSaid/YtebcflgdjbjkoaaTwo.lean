/- pattern.two, from what pattern.build does; no condition beyond those that stand there. -/
import Derived.Test.YtebcflgdjbjkoaaMatch
namespace Go.Proofs.Ytebcflgdjbjkoaa
open Go.RowKit

theorem results_two {P : Program} {fn : Func} {p q u : Tmp} {ty : TypeId} (h : fn.results = #[.cell p ty, .cell q ty, .tmp u]) (tmps : Array Value) (w : World) (g k : Nat) (t : TypeId) (cs ds : Array Value) (fr : Nat × Nat) (d : TypeDesc)
    (hp : tmps.getD p undef = .pointer (some ⟨g, 0, none⟩)) (hq : tmps.getD q undef = .pointer (some ⟨k, 0, none⟩)) (hg : w.heap[g]? = some (.cells cs t fr)) (hk : w.heap[k]? = some (.cells ds t fr))
    (hu : P.underlying ty = some d) (hd : (match d with | .struct _ | .array _ _ => true | _ => false) = true) (hi : (P.info? ty).map (·.size) = some cs.size) (hj : (P.info? ty).map (·.size) = some ds.size) :
    (results fn tmps).run P w = .ok (.tuple #[.agg cs, .agg ds, tmps.getD u undef]) w := by
  rw [Array.getD_eq_getD_getElem?] at hp hq
  simp only [results, h]
  simp [Sem.run_bind, Result.andThen, hp, hq, asAddr, run_loadVar_row w g t ty cs fr d hg hu hd hi, run_loadVar_row w k t ty ds fr d hk hu hd hj]
set_option maxRecDepth 100000 in
set_option maxHeartbeats 4000000 in
theorem two_any (hbuild : BuildSaid) (p q : ByteArray) (c1 f1 c2 f2 : List Set4) (x1 x2 : Part) (w : World) (h1 : ParsedTo p c1 f1 x1) (h2 : ParsedTo q c2 f2 x2) (hL1 : ¬ Large c1 f1) (hL2 : ¬ Large c2 f2) :
    Calls Try.prog 29 #[.string p, .string q] w fun e w' => Below w.heap.size w w' ∧ ∃ nv1 ev1 s1 r1 e1 nv2 ev2 s2 r2 e2, e = .returned (.tuple #[.agg #[nv1, ev1], .agg #[nv2, ev2], .int .i64 0]) ∧
      MachAt w.heap.size c1 f1 x1 s1 r1 e1 nv1 ev1 w' ∧ MachAt w.heap.size c2 f2 x2 s2 r2 e2 nv2 ev2 w' := by
  have hB1 := Lib.hid (fun w => hbuild p c1 f1 x1 w h1)
  have hB2 := Lib.hid (fun w => hbuild q c2 f2 x2 w h2)
  have hW := Lib.hid (show Below w.heap.size w ((w.alloc (.cells #[.slice none 0 0, .slice none 0 0] 58 (0, 0))).alloc (.cells #[.slice none 0 0, .slice none 0 0] 58 (0, 0))) ∧ ((w.alloc (.cells #[.slice none 0 0, .slice none 0 0] 58 (0, 0))).alloc (.cells #[.slice none 0 0, .slice none 0 0] 58 (0, 0))).heap[w.heap.size]? = some (.cells #[.slice none 0 0, .slice none 0 0] 58 (0, 0)) ∧ ((w.alloc (.cells #[.slice none 0 0, .slice none 0 0] 58 (0, 0))).alloc (.cells #[.slice none 0 0, .slice none 0 0] 58 (0, 0))).heap[w.heap.size + 1]? = some (.cells #[.slice none 0 0, .slice none 0 0] 58 (0, 0)) from
    ⟨((Below.refl w.heap.size w).alloc (Nat.le_refl _) _).alloc (by simp) _, pair1 .., pair2 ..⟩)
  clear h1 h2 hbuild
  go_enter Try.func29, Try.ntmps29
  go_upto_region 1 with fail
  have hw := hW.out
  clear hW
  generalize (w.alloc (.cells #[.slice none 0 0, .slice none 0 0] 58 (0, 0))).alloc (.cells #[.slice none 0 0, .slice none 0 0] 58 (0, 0)) = W0 at *
  have HW := Lib.hid hw
  clear hw
  go_upto_region 2 with (go_at_call 23; refine (hB1.out W0).mono ?_; rintro e w1 ⟨hb1, hor⟩; rcases hor with ⟨rfl, hL⟩ | ⟨nv, ev, sets, rows, ends, rfl, hM⟩; exact absurd hL hL1; obtain ⟨g, gc, rfl, hg, -⟩ := row_some hM.nrow hM.rpos; obtain ⟨g2, gc2, rfl, hg2, -⟩ := row_some hM.erow hM.epos; have HM := Lib.hid (And.intro hM hb1); clear hM hg hg2 hb1)
  obtain ⟨hM, hb1⟩ := HM.out
  obtain ⟨hw, eA, eB⟩ := HW.out
  have hal := (Below.refl w1.heap.size w1).alloc (Nat.le_refl _) (.cells #[.slice (some ⟨g, 0, none⟩) rows.length gc, .slice (some ⟨g2, 0, none⟩) ends.length gc2] 58 (0, 0))
  have eM := heap_alloc_new w1 (.cells #[.slice (some ⟨g, 0, none⟩) rows.length gc, .slice (some ⟨g2, 0, none⟩) ends.length gc2] 58 (0, 0))
  have hlt0 : w.heap.size + 1 < w1.heap.size := Nat.lt_of_lt_of_le (lt_of_block eB) hb1.size
  have eA1 := (hb1.block _ (lt_of_block eA)).trans eA
  have eB1 := (hb1.block _ (lt_of_block eB)).trans eB
  have H1 := Lib.hid (And.intro (hw.trans (hb1.mono hw.size) |>.trans (hal.mono (Nat.le_trans hw.size hb1.size))) (And.intro (hM.below hal) (And.intro eM (And.intro ((hal.block _ (lt_of_block eA1)).trans eA1) (And.intro ((hal.block _ (lt_of_block eB1)).trans eB1) hw.size)))))
  clear HM HW hM hb1 hw eA eB hal eM eA1 eB1
  generalize w1.alloc (.cells #[.slice (some ⟨g, 0, none⟩) rows.length gc, .slice (some ⟨g2, 0, none⟩) ends.length gc2] 58 (0, 0)) = W1 at *
  generalize w1.heap.size = M1 at *
  go_upto_region 5 with (go_at_call 23; refine (hB2.out W1).mono ?_; rintro e w3 ⟨hb3, hor⟩; rcases hor with ⟨rfl, hL⟩ | ⟨nv, ev, sets2, rows2, ends2, rfl, hM2⟩; exact absurd hL hL2; obtain ⟨k, kc, rfl, hk, -⟩ := row_some hM2.nrow hM2.rpos; obtain ⟨k2, kc2, rfl, hk2, -⟩ := row_some hM2.erow hM2.epos; have HM := Lib.hid (And.intro hM2 hb3); clear hM2 hk hk2 hb3)
  obtain ⟨hM2, hb3⟩ := HM.out
  obtain ⟨hw, hM, eM, eA, eB, hws⟩ := H1.out
  have hal := (Below.refl w3.heap.size w3).alloc (Nat.le_refl _) (.cells #[.slice (some ⟨k, 0, none⟩) rows2.length kc, .slice (some ⟨k2, 0, none⟩) ends2.length kc2] 58 (0, 0))
  have eN := heap_alloc_new w3 (.cells #[.slice (some ⟨k, 0, none⟩) rows2.length kc, .slice (some ⟨k2, 0, none⟩) ends2.length kc2] 58 (0, 0))
  have hb13 := hb3.trans (hal.mono hb3.size)
  have eM3 := (hb13.block _ (lt_of_block eM)).trans eM
  have eA3 := (hb13.block _ (lt_of_block eA)).trans eA
  have eB3 := (hb13.block _ (lt_of_block eB)).trans eB
  have hMN := hM.below hb13
  have hM2N := hM2.below hal
  have hwN := hw.trans (hb13.mono hw.size)
  have hs1 := hw.size
  have hs3 := hb3.size
  have hlt1 : M1 < w3.heap.size := Nat.lt_of_lt_of_le (lt_of_block eM) hb3.size
  clear hal hb13 HM H1 hM2 hb3 hw hM eM eA eB
  generalize w3.alloc (.cells #[.slice (some ⟨k, 0, none⟩) rows2.length kc, .slice (some ⟨k2, 0, none⟩) ends2.length kc2] 58 (0, 0)) = W3 at *
  generalize w3.heap.size = N3 at *
  have m0 : W3.drew.cell? ⟨M1, 0, none⟩ = some (.slice (some ⟨g, 0, none⟩) rows.length gc) := by show W3.cell? _ = _; rw [Lib.cell_of_heap eM3]; rfl
  have m1 : W3.drew.cell? ⟨M1, 1, none⟩ = some (.slice (some ⟨g2, 0, none⟩) ends.length gc2) := by show W3.cell? _ = _; rw [Lib.cell_of_heap eM3]; rfl
  have n0 : W3.drew.cell? ⟨N3, 0, none⟩ = some (.slice (some ⟨k, 0, none⟩) rows2.length kc) := by show W3.cell? _ = _; rw [Lib.cell_of_heap eN]; rfl
  have n1 : W3.drew.cell? ⟨N3, 1, none⟩ = some (.slice (some ⟨k2, 0, none⟩) ends2.length kc2) := by show W3.cell? _ = _; rw [Lib.cell_of_heap eN]; rfl
  have a0 : W3.drew.cell? ⟨w.heap.size, 0, none⟩ = some (.slice none 0 0) := by show W3.cell? _ = _; rw [Lib.cell_of_heap eA3]; rfl
  have a1 : W3.drew.cell? ⟨w.heap.size, 1, none⟩ = some (.slice none 0 0) := by show W3.cell? _ = _; rw [Lib.cell_of_heap eA3]; rfl
  have b0 : W3.drew.cell? ⟨w.heap.size + 1, 0, none⟩ = some (.slice none 0 0) := by show W3.cell? _ = _; rw [Lib.cell_of_heap eB3]; rfl
  have b1 : W3.drew.cell? ⟨w.heap.size + 1, 1, none⟩ = some (.slice none 0 0) := by show W3.cell? _ = _; rw [Lib.cell_of_heap eB3]; rfl
  have z0 : W3.drew.frozen? ⟨w.heap.size, 0, none⟩ = false := Lib.frozen_of_heap (w := W3) eA3 0
  have z1 : W3.drew.frozen? ⟨w.heap.size, 1, none⟩ = false := Lib.frozen_of_heap (w := W3) eA3 1
  have z2 : W3.drew.frozen? ⟨w.heap.size + 1, 0, none⟩ = false := Lib.frozen_of_heap (w := W3) eB3 0
  have z3 : W3.drew.frozen? ⟨w.heap.size + 1, 1, none⟩ = false := Lib.frozen_of_heap (w := W3) eB3 1
  have m0' : W3.cell? ⟨M1, 0, none⟩ = some (.slice (some ⟨g, 0, none⟩) rows.length gc) := by rw [Lib.cell_of_heap eM3]; rfl
  have m1' : W3.cell? ⟨M1, 1, none⟩ = some (.slice (some ⟨g2, 0, none⟩) ends.length gc2) := by rw [Lib.cell_of_heap eM3]; rfl
  have n0' : W3.cell? ⟨N3, 0, none⟩ = some (.slice (some ⟨k, 0, none⟩) rows2.length kc) := by rw [Lib.cell_of_heap eN]; rfl
  have n1' : W3.cell? ⟨N3, 1, none⟩ = some (.slice (some ⟨k2, 0, none⟩) ends2.length kc2) := by rw [Lib.cell_of_heap eN]; rfl
  have a0' : W3.cell? ⟨w.heap.size, 0, none⟩ = some (.slice none 0 0) := by rw [Lib.cell_of_heap eA3]; rfl
  have a1' : W3.cell? ⟨w.heap.size, 1, none⟩ = some (.slice none 0 0) := by rw [Lib.cell_of_heap eA3]; rfl
  have b0' : W3.cell? ⟨w.heap.size + 1, 0, none⟩ = some (.slice none 0 0) := by rw [Lib.cell_of_heap eB3]; rfl
  have b1' : W3.cell? ⟨w.heap.size + 1, 1, none⟩ = some (.slice none 0 0) := by rw [Lib.cell_of_heap eB3]; rfl
  have z0' : W3.frozen? ⟨w.heap.size, 0, none⟩ = false := Lib.frozen_of_heap (w := W3) eA3 0
  have z1' : W3.frozen? ⟨w.heap.size, 1, none⟩ = false := Lib.frozen_of_heap (w := W3) eA3 1
  have z2' : W3.frozen? ⟨w.heap.size + 1, 0, none⟩ = false := Lib.frozen_of_heap (w := W3) eB3 0
  have z3' : W3.frozen? ⟨w.heap.size + 1, 1, none⟩ = false := Lib.frozen_of_heap (w := W3) eB3 1
  have HF := Lib.hid (And.intro hwN (And.intro hMN (And.intro hM2N (And.intro eA3 (And.intro eB3 (And.intro hws hs1))))))
  clear hwN hMN hM2N eA3 eB3 eM3 eN
  have hlt2 : w.heap.size + 1 < N3 := by omega
  have hlt3 : w.heap.size < N3 := by omega
  have hlt4 : w.heap.size < M1 := by omega
  go_region_law (fail)
  all_goals
    go_wp2_with fail
    have hoth : ∀ q, q ≠ w.heap.size → q ≠ w.heap.size + 1 → (((((W3.setCell ⟨w.heap.size, 0, none⟩ (.slice (some ⟨g, 0, none⟩) rows.length gc)).setCell ⟨w.heap.size, 1, none⟩ (.slice (some ⟨g2, 0, none⟩) ends.length gc2)).setCell ⟨w.heap.size + 1, 0, none⟩ (.slice (some ⟨k, 0, none⟩) rows2.length kc)).setCell ⟨w.heap.size + 1, 1, none⟩ (.slice (some ⟨k2, 0, none⟩) ends2.length kc2)).drew).heap[q]? = W3.heap[q]? := fun q h1 h2 => by
      show (World.setCell _ _ _).heap[q]? = _
      rw [Below.heap_setCell _ _ _ _ h2, Below.heap_setCell _ _ _ _ h2, Below.heap_setCell _ _ _ _ h1, Below.heap_setCell _ _ _ _ h1]
    have eA4 : (((((W3.setCell ⟨w.heap.size, 0, none⟩ (.slice (some ⟨g, 0, none⟩) rows.length gc)).setCell ⟨w.heap.size, 1, none⟩ (.slice (some ⟨g2, 0, none⟩) ends.length gc2)).setCell ⟨w.heap.size + 1, 0, none⟩ (.slice (some ⟨k, 0, none⟩) rows2.length kc)).setCell ⟨w.heap.size + 1, 1, none⟩ (.slice (some ⟨k2, 0, none⟩) ends2.length kc2)).drew).heap[w.heap.size]? = some (.cells #[.slice (some ⟨g, 0, none⟩) rows.length gc, .slice (some ⟨g2, 0, none⟩) ends.length gc2] 58 (0, 0)) := by
      show (World.setCell _ _ _).heap[w.heap.size]? = _
      rw [Below.heap_setCell _ _ _ _ (show w.heap.size ≠ w.heap.size + 1 by omega), Below.heap_setCell _ _ _ _ (show w.heap.size ≠ w.heap.size + 1 by omega)]
      exact heap_setS (heap_setS HF.out.2.2.2.1 0 _) 1 _
    have eB4 : (((((W3.setCell ⟨w.heap.size, 0, none⟩ (.slice (some ⟨g, 0, none⟩) rows.length gc)).setCell ⟨w.heap.size, 1, none⟩ (.slice (some ⟨g2, 0, none⟩) ends.length gc2)).setCell ⟨w.heap.size + 1, 0, none⟩ (.slice (some ⟨k, 0, none⟩) rows2.length kc)).setCell ⟨w.heap.size + 1, 1, none⟩ (.slice (some ⟨k2, 0, none⟩) ends2.length kc2)).drew).heap[w.heap.size + 1]? = some (.cells #[.slice (some ⟨k, 0, none⟩) rows2.length kc, .slice (some ⟨k2, 0, none⟩) ends2.length kc2] 58 (0, 0)) := by
      have e : ((W3.setCell ⟨w.heap.size, 0, none⟩ (.slice (some ⟨g, 0, none⟩) rows.length gc)).setCell ⟨w.heap.size, 1, none⟩ (.slice (some ⟨g2, 0, none⟩) ends.length gc2)).heap[w.heap.size + 1]? = some (.cells #[.slice none 0 0, .slice none 0 0] 58 (0, 0)) := by
        rw [Below.heap_setCell _ _ _ _ (show w.heap.size + 1 ≠ w.heap.size by omega), Below.heap_setCell _ _ _ _ (show w.heap.size + 1 ≠ w.heap.size by omega)]
        exact HF.out.2.2.2.2.1
      exact heap_setS (heap_setS e 0 _) 1 _
    have hsz : W3.heap.size ≤ (((((W3.setCell ⟨w.heap.size, 0, none⟩ (.slice (some ⟨g, 0, none⟩) rows.length gc)).setCell ⟨w.heap.size, 1, none⟩ (.slice (some ⟨g2, 0, none⟩) ends.length gc2)).setCell ⟨w.heap.size + 1, 0, none⟩ (.slice (some ⟨k, 0, none⟩) rows2.length kc)).setCell ⟨w.heap.size + 1, 1, none⟩ (.slice (some ⟨k2, 0, none⟩) ends2.length kc2)).drew).heap.size := by simp
    have hos : (((((W3.setCell ⟨w.heap.size, 0, none⟩ (.slice (some ⟨g, 0, none⟩) rows.length gc)).setCell ⟨w.heap.size, 1, none⟩ (.slice (some ⟨g2, 0, none⟩) ends.length gc2)).setCell ⟨w.heap.size + 1, 0, none⟩ (.slice (some ⟨k, 0, none⟩) rows2.length kc)).setCell ⟨w.heap.size + 1, 1, none⟩ (.slice (some ⟨k2, 0, none⟩) ends2.length kc2)).drew).os = W3.os ∧ (((((W3.setCell ⟨w.heap.size, 0, none⟩ (.slice (some ⟨g, 0, none⟩) rows.length gc)).setCell ⟨w.heap.size, 1, none⟩ (.slice (some ⟨g2, 0, none⟩) ends.length gc2)).setCell ⟨w.heap.size + 1, 0, none⟩ (.slice (some ⟨k, 0, none⟩) rows2.length kc)).setCell ⟨w.heap.size + 1, 1, none⟩ (.slice (some ⟨k2, 0, none⟩) ends2.length kc2)).drew).tape = W3.tape ∧ (((((W3.setCell ⟨w.heap.size, 0, none⟩ (.slice (some ⟨g, 0, none⟩) rows.length gc)).setCell ⟨w.heap.size, 1, none⟩ (.slice (some ⟨g2, 0, none⟩) ends.length gc2)).setCell ⟨w.heap.size + 1, 0, none⟩ (.slice (some ⟨k, 0, none⟩) rows2.length kc)).setCell ⟨w.heap.size + 1, 1, none⟩ (.slice (some ⟨k2, 0, none⟩) ends2.length kc2)).drew).output = W3.output := ⟨rfl, rfl, rfl⟩
    clear a0 a1 b0 b1 m0 m1 n0 n1 z0 z1 z2 z3 a0' a1' b0' b1' m0' m1' n0' n1' z0' z1' z2' z3'
    generalize ((((W3.setCell ⟨w.heap.size, 0, none⟩ (.slice (some ⟨g, 0, none⟩) rows.length gc)).setCell ⟨w.heap.size, 1, none⟩ (.slice (some ⟨g2, 0, none⟩) ends.length gc2)).setCell ⟨w.heap.size + 1, 0, none⟩ (.slice (some ⟨k, 0, none⟩) rows2.length kc)).setCell ⟨w.heap.size + 1, 1, none⟩ (.slice (some ⟨k2, 0, none⟩) ends2.length kc2)).drew = W4 at *
    have y0 : W4.cell? ⟨w.heap.size, 0, none⟩ = some (.slice (some ⟨g, 0, none⟩) rows.length gc) := by rw [Lib.cell_of_heap eA4]; rfl
    have y1 : W4.cell? ⟨w.heap.size, 1, none⟩ = some (.slice (some ⟨g2, 0, none⟩) ends.length gc2) := by rw [Lib.cell_of_heap eA4]; rfl
    have y2 : W4.cell? ⟨w.heap.size + 1, 0, none⟩ = some (.slice (some ⟨k, 0, none⟩) rows2.length kc) := by rw [Lib.cell_of_heap eB4]; rfl
    have y3 : W4.cell? ⟨w.heap.size + 1, 1, none⟩ = some (.slice (some ⟨k2, 0, none⟩) ends2.length kc2) := by rw [Lib.cell_of_heap eB4]; rfl
    have HG := Lib.hid (And.intro hoth (And.intro hsz (And.intro hos.1 (And.intro (And.intro hos.2.1 hos.2.2) (And.intro eA4 eB4)))))
    clear hoth eA4 eB4 hsz hos y0 y1 y2 y3
    obtain ⟨ho, hsz, h1, ⟨h2, h3⟩, eA4, eB4⟩ := HG.out
    obtain ⟨hwN, hMN, hM2N, eA3, eB3, hws, hs1⟩ := HF.out
    refine bodyPost_ret (results_two rfl _ _ w.heap.size (w.heap.size + 1) 58 #[.slice (some ⟨g, 0, none⟩) rows.length gc, .slice (some ⟨g2, 0, none⟩) ends.length gc2] #[.slice (some ⟨k, 0, none⟩) rows2.length kc, .slice (some ⟨k2, 0, none⟩) ends2.length kc2] (0, 0) _ rfl rfl eA4 eB4 Try.underlying58 rfl (by kernel_rfl) (by kernel_rfl)) rfl ?_
    refine ⟨⟨h1.trans hwN.os, h2.trans hwN.tape, h3.trans hwN.output, Nat.le_trans hwN.size hsz, fun q hq => (ho q (by omega) (by omega)).trans (hwN.block q hq)⟩, _, _, _, _, _, _, _, _, _, _, rfl, ⟨hMN.half, ?_, ?_⟩, ⟨hM2N.half, ?_, ?_⟩⟩
    · exact row_keepP (ownsRow_mono hMN.nrow hws) fun q hq => ho q (fun e => row_ne hMN.nrow eA3 (by decide) (e ▸ hq)) (fun e => row_ne hMN.nrow eB3 (by decide) (e ▸ hq))
    · exact row_keepP (ownsRow_mono hMN.erow hws) fun q hq => ho q (fun e => row_ne hMN.erow eA3 (by decide) (e ▸ hq)) (fun e => row_ne hMN.erow eB3 (by decide) (e ▸ hq))
    · exact row_keepP (ownsRow_mono hM2N.nrow hs1) fun q hq => ho q (fun e => row_ne hM2N.nrow eA3 (by decide) (e ▸ hq)) (fun e => row_ne hM2N.nrow eB3 (by decide) (e ▸ hq))
    · exact row_keepP (ownsRow_mono hM2N.erow hs1) fun q hq => ho q (fun e => row_ne hM2N.erow eA3 (by decide) (e ▸ hq)) (fun e => row_ne hM2N.erow eB3 (by decide) (e ▸ hq))

end Go.Proofs.Ytebcflgdjbjkoaa
