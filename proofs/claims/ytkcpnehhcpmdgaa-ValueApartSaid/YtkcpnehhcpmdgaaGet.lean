/- value.Get; no condition beyond those that stand there. -/
import Derived.Laws.ResultCell
import Derived.Laws.StructEq
import Derived.Lib.SlicesS
import Derived.Test.YtkcpnehhcpmdgaaCopyW
namespace Go.Proofs.Ytkcpnehhcpmdgaa
open Go.RowKit

theorem results_row_tmp {P : Program} {fn : Func} {p u : Tmp} {ty : TypeId} (h : fn.results = #[.cell p ty, .tmp u]) (tmps : Array Value) (w : World) (g : Nat) (t : TypeId) (cs : Array Value) (fr : Nat × Nat) (d : TypeDesc)
    (hp : tmps.getD p undef = .pointer (some ⟨g, 0, none⟩)) (hg : w.heap[g]? = some (.cells cs t fr))
    (hu : P.underlying ty = some d) (hd : (match d with | .struct _ | .array _ _ => true | _ => false) = true) (hi : (P.info? ty).map (·.size) = some cs.size) :
    (results fn tmps).run P w = .ok (.tuple #[.agg cs, tmps.getD u undef]) w := by
  rw [results_cell_tmp h, hp]
  simp [asAddr, run_loadVar_row w g t ty cs fr d hg hu hd hi]
def zeroV : Value := .agg #[.int .i64 0, .int .i64 0, .string ⟨#[]⟩, .slice none 0 0]
/-- What Get returns: a copy of the first field of the name, or nothing. -/
def GetOut (d : Nat) (B : Nat) (k : Int) (fs : List (ByteArray × TVal d)) (nm : ByteArray) (e : Ending) (w' : World) : Prop :=
  (∃ (j : Nat) (f : ByteArray × TVal d) (kk nn : Int) (ss : ByteArray) (a : Option Addr) (l c : Nat), fs[j]? = some f ∧ f.1 = nm ∧ (∀ (i : Nat) (g : ByteArray × TVal d), i < j → fs[i]? = some g → g.1 ≠ nm) ∧ e = .returned (.tuple #[.agg #[.int .i64 kk, .int .i64 nn, .string ss, .slice a l c], .bool true]) ∧ IsV d (B ≤ ·) w' kk nn ss (.slice a l c) f.2) ∨
  (e = .returned (.tuple #[.agg #[.int .i64 0, .int .i64 0, .string ⟨#[]⟩, .slice none 0 0], .bool false]) ∧ (k = 8 ∨ ∀ f : ByteArray × TVal d, f ∈ fs → f.1 ≠ nm))
set_option maxRecDepth 100000 in
set_option maxHeartbeats 4000000 in
theorem get_any (d : Nat) (S : Nat → Prop) (w : World) (k n : Int) (s : ByteArray) (p : Value) (t : TVal (d + 1)) (nm : ByteArray) (h : IsV (d + 1) S w k n s p t) (hok : OkT (d + 1) t) :
    Calls Try.prog 13 #[.agg #[.int .i64 k, .int .i64 n, .string s, p], .string nm] w fun e w' => GetOut d w.heap.size k t.fs nm e w' ∧ Below w.heap.size w w' := by
  have hlen := okT_len hok
  have hoks : ∀ f ∈ t.fs, OkT d f.2 := hok.2.2.2.2
  obtain ⟨-, -, -, c1, a1, rfl, hc1, hf1⟩ := h
  generalize t.fs = fs at *
  have hab := ((Below.refl w.heap.size w).alloc (Nat.le_refl _) (.cells #[.int .i64 k, .int .i64 n, .string s, .slice a1 fs.length c1] 25 (0, 0))).alloc (by simp) (.cells #[.int .i64 0, .int .i64 0, .string ⟨#[]⟩, .slice none 0 0] 25 (0, 0))
  have e1 := pair1 w (.cells #[.int .i64 k, .int .i64 n, .string s, .slice a1 fs.length c1] 25 (0, 0)) (.cells #[.int .i64 0, .int .i64 0, .string ⟨#[]⟩, .slice none 0 0] 25 (0, 0))
  have e2 := pair2 w (.cells #[.int .i64 k, .int .i64 n, .string s, .slice a1 fs.length c1] 25 (0, 0)) (.cells #[.int .i64 0, .int .i64 0, .string ⟨#[]⟩, .slice none 0 0] 25 (0, 0))
  have HI := Lib.hid (And.intro hoks (And.intro hf1 (And.intro hab (And.intro e1 e2))))
  clear hoks hf1 hab e1 e2 hok
  go_enter Try.func13, Try.ntmps13
  go_upto_region 1 with fail
  have hi := HI.out
  clear HI
  generalize (w.alloc (.cells #[.int .i64 k, .int .i64 n, .string s, .slice a1 fs.length c1] 25 (0, 0))).alloc (.cells #[.int .i64 0, .int .i64 0, .string ⟨#[]⟩, .slice none 0 0] 25 (0, 0)) = W at *
  obtain ⟨hoks, hf1, hab, e1, e2⟩ := hi
  obtain ⟨⟨a0, a1', a2, a3⟩, -⟩ := cells4 e1
  have HI := Lib.hid (And.intro hoks (And.intro hf1 (And.intro hab (And.intro e1 e2))))
  clear hoks hf1 hab e1 e2
  go_wp2_with fail
  go_loopw [11] (fun iv wr => ∃ i : Nat, iv = .int .i64 i ∧ i ≤ fs.length ∧ (k = 8 ∨ ∀ j g, j < i → fs[j]? = some g → g.1 ≠ nm) ∧ Below W.heap.size W wr) (fun iv _ => fs.length - (intOf iv).toNat)
  case atStart => exact ⟨0, rfl, Nat.zero_le _, Or.inr fun j g hj => absurd hj (Nat.not_lt_zero j), Below.refl _ _⟩
  case round =>
    obtain ⟨i, rfl, hi, hno, hb⟩ := hrel
    have wi : IntKind.i64.wrap ((i : Int) + 1) = (i : Int) + 1 := IntWalk.i64_in _ ⟨by omega, by omega⟩
    have hzr := hb.size
    have hbw := HI.out.2.2.1.trans (hb.mono HI.out.2.2.1.size)
    have hTl := lt_of_block HI.out.2.2.2.1
    have hTl2 := lt_of_block HI.out.2.2.2.2
    by_cases hlt : i < fs.length
    · have ti : (i : Int) < (fs.length : Int) := by omega
      have hni : ((i : Int)).toNat = i := by omega
      have hf : fs[i]? = some fs[i] := List.getElem?_eq_getElem hlt
      have hm := List.getElem_mem hlt
      generalize fs[i] = f at hf hm
      obtain ⟨nf, tf⟩ := f
      obtain ⟨b1, kk1, nn1, ss1, pp1, rfl, -, hl1, y0, y1, y2, y3, y4, v1⟩ := HI.out.2.1 i _ hf
      obtain ⟨pa1, pl1, pc1, rfl⟩ := v1.isSlice
      rw [← hbw.cell (show (⟨b1, i * 5, none⟩ : Addr).block < w.heap.size from hl1)] at y0
      rw [← hbw.cell (show (⟨b1, i * 5 + 1, none⟩ : Addr).block < w.heap.size from hl1)] at y1
      rw [← hbw.cell (show (⟨b1, i * 5 + 2, none⟩ : Addr).block < w.heap.size from hl1)] at y2
      rw [← hbw.cell (show (⟨b1, i * 5 + 3, none⟩ : Addr).block < w.heap.size from hl1)] at y3
      rw [← hbw.cell (show (⟨b1, i * 5 + 4, none⟩ : Addr).block < w.heap.size from hl1)] at y4
      have hal := (Below.refl wr.heap.size wr).alloc (Nat.le_refl _) (.cells #[.string nf, .int .i64 kk1, .int .i64 nn1, .string ss1, .slice pa1 pl1 pc1] 33 (0, 0))
      have hX := heap_alloc_new wr (.cells #[.string nf, .int .i64 kk1, .int .i64 nn1, .string ss1, .slice pa1 pl1 pc1] 33 (0, 0))
      have H1 := Lib.hid (And.intro (hb.trans (hal.mono hzr)) (And.intro hX (And.intro (v1.below (Nat.le_refl _) (hbw.trans (hal.mono hbw.size))) (hbw.trans (hal.mono hbw.size)))))
      clear hb hbw hal hX v1
      go_upto_region 4 with fail
      have h1 := H1.out
      clear H1 y0 y1 y2 y3 y4
      generalize wr.alloc (.cells #[.string nf, .int .i64 kk1, .int .i64 nn1, .string ss1, .slice pa1 pl1 pc1] 33 (0, 0)) = Wa at *
      generalize wr.heap.size = X at *
      obtain ⟨hbW, hX, hv, hbw⟩ := h1
      obtain ⟨x0, x1, x2, x3, x4⟩ := cells5 hX
      obtain ⟨⟨b0, b1', b2, b3⟩, -⟩ := cells4 ((hbW.block _ hTl).trans HI.out.2.2.2.1)
      have hca := copy_any d S Wa kk1 nn1 ss1 _ tf hv (HI.out.1 _ hm)
      have HH := Lib.hid (And.intro hbW (And.intro hca hbw))
      have HN := Lib.hid hno
      clear hbW hca hv hbw hX hm hno
      by_cases hnm : nf = nm
      · by_cases hk : k = 8
        · have tk : (k != 8) = false := by subst hk; rfl
          subst hnm
          have HK := Lib.hid hk
          clear hk
          go_wp2_with fail
          exact ⟨⟨i + 1, by simp, by omega, Or.inl HK.out, HH.out.1⟩, by simp [intOf]; omega⟩
        · have tk : (k != 8) = true := by rw [bne_iff_ne]; exact hk
          have hfirst : ∀ j g, j < i → fs[j]? = some g → g.1 ≠ nm := by
            rcases HN.out with h | h
            · exact absurd h hk
            · exact h
          have HF := Lib.hid hfirst
          have HQ := Lib.hid hnm
          subst hnm
          clear hk hfirst
          go_wp2_with fail
          refine HH.out.2.1.mono ?_
          rintro e w5 ⟨⟨a5, l5, c5, rfl, hv5⟩, hb5⟩
          have hz5 := HH.out.1.size
          have f2 : w5.heap[w.heap.size + 1]? = _ := (hb5.block _ (by omega)).trans ((HH.out.1.block _ hTl2).trans HI.out.2.2.2.2)
          obtain ⟨⟨g0, g1, g2, g3⟩, g4, g5, g6, g7⟩ := cells4 f2
          have H5 := Lib.hid (And.intro f2 (And.intro hv5 (HH.out.2.2.trans (hb5.mono HH.out.2.2.size))))
          clear f2 hv5 hb5
          go_wp2_with fail
          refine bodyPost_ret (results_row_tmp rfl _ _ (w.heap.size + 1) 25 #[.int .i64 kk1, .int .i64 nn1, .string ss1, .slice a5 l5 c5] (0, 0) _ rfl (set4 H5.out.1 _ _ _ _) Try.underlying25 rfl (by kernel_rfl)) rfl ?_
          have hb4 := below4 (n := w.heap.size) w5 (Nat.le_succ _) (.int .i64 kk1) (.int .i64 nn1) (.string ss1) (.slice a5 l5 c5)
          have hk4 := keep4 (n := w5.heap.size) (g := w.heap.size + 1) w5 (.int .i64 kk1) (.int .i64 nn1) (.string ss1) (.slice a5 l5 c5)
          have hWa := HH.out.2.2.size
          refine ⟨Or.inl ⟨i, _, kk1, nn1, ss1, a5, l5, c5, hf, rfl, HF.out, rfl, (H5.out.2.1.keep hk4.size fun b h1 h2 => hk4.block b h2 ?_).imp fun b h1 _ => Nat.le_trans hWa h1⟩, H5.out.2.2.trans hb4⟩
          have : Wa.heap.size ≤ b := h1
          omega
      · have tn2 : (nf.toList == nm.toList) = false := (Lib.bytes_beq_false_iff nf nm).2 hnm
        have tn : (nf == nm) = false := by rw [beq_toListBytes]; exact tn2
        have HQ := Lib.hid hnm
        go_wp2_with fail
        refine ⟨⟨i + 1, by simp, by omega, ?_, HH.out.1⟩, by simp [intOf]; omega⟩
        rcases HN.out with h | h
        · exact Or.inl h
        · refine Or.inr fun j g hj hg => ?_
          by_cases hji : j = i
          · subst hji
            rw [hf] at hg
            injection hg with hg
            subst hg
            exact HQ.out
          · exact h j g (by omega) hg
    · have ti : decide ((i : Int) < (fs.length : Int)) = false := decide_eq_false (by omega)
      have f2 : wr.heap[w.heap.size + 1]? = _ := (hb.block _ hTl2).trans HI.out.2.2.2.2
      obtain ⟨⟨g0, g1, g2, g3⟩, g4, g5, g6, g7⟩ := cells4 f2
      have hno2 : k = 8 ∨ ∀ f ∈ fs, f.1 ≠ nm := by
        rcases hno with h | h
        · exact Or.inl h
        · refine Or.inr fun f hf => ?_
          obtain ⟨j, hj, rfl⟩ := List.getElem_of_mem hf
          exact h j _ (by omega) (List.getElem?_eq_getElem hj)
      have H5 := Lib.hid (And.intro f2 (And.intro hno2 hbw))
      clear f2 hno hno2 hb hbw
      go_wp2_with fail
      refine bodyPost_ret (results_row_tmp rfl _ _ (w.heap.size + 1) 25 #[.int .i64 0, .int .i64 0, .string ⟨#[]⟩, .slice none 0 0] (0, 0) _ rfl (set4 H5.out.1 _ _ _ _) Try.underlying25 rfl (by kernel_rfl)) rfl ?_
      have hb4 := below4 (n := w.heap.size) wr (Nat.le_succ _) (.int .i64 0) (.int .i64 0) (.string ⟨#[]⟩) (.slice none 0 0)
      exact ⟨Or.inr ⟨rfl, H5.out.2.1⟩, H5.out.2.2.trans hb4⟩

end Go.Proofs.Ytkcpnehhcpmdgaa
