/- value.Cmp; no condition beyond those that stand there. -/
import Derived.Deep.RegionHeld3
import Derived.Deep.Cut
import Derived.Test.YtkcpnehhcpmdgaaCmp
import Derived.Test.YtkcpnehhcpmdgaaVal0
namespace Go.Proofs.Ytkcpnehhcpmdgaa
open Go.RowKit

theorem undrew {n : Nat} {w w' : World} (h : Below n w.drew w') : Below n w w' := ⟨h.os, h.tape, h.output, h.size, h.block⟩
theorem undrewN {q : Nat} {w : World} {w' : World} (h : Below (w.drewN q).heap.size (w.drewN q) w') {m : Nat} (hm : m ≤ w.heap.size) : Below m w w' := ⟨h.os, h.tape, h.output, h.size, fun k hk => h.block k (Nat.lt_of_lt_of_le hk hm)⟩
theorem IsV.isSlice {d : Nat} {S : Nat → Prop} {w : World} {k n : Int} {s : ByteArray} {p : Value} {t : TVal d} (h : IsV d S w k n s p t) : ∃ a l c, p = .slice a l c := by
  cases d with
  | zero => exact h.elim
  | succ d =>
    obtain ⟨a, c, hp, -⟩ := h.slice
    exact ⟨a, _, c, hp⟩
def CmpSaid (d : Nat) : Prop := ∀ (S1 S2 : Nat → Prop) (w : World) (k1 n1 : Int) (s1 : ByteArray) (p1 : Value) (t1 : TVal d) (k2 n2 : Int) (s2 : ByteArray) (p2 : Value) (t2 : TVal d), IsV d S1 w k1 n1 s1 p1 t1 → IsV d S2 w k2 n2 s2 p2 t2 →
  Calls Try.prog 9 #[.agg #[.int .i64 k1, .int .i64 n1, .string s1, p1], .agg #[.int .i64 k2, .int .i64 n2, .string s2, p2]] w fun e w' => e = .returned (.int .i64 (tcmp d t1 t2)) ∧ Below w.heap.size w w'
def fcmp (d : Nat) (f g : ByteArray × TVal d) : Int := or2 (Lib.compareBytes f.1.data.toList g.1.data.toList) (tcmp d f.2 g.2)
theorem cells5 {w : World} {g : Nat} {c0 c1 c2 c3 c4 : Value} (h : w.heap[g]? = some (.cells #[c0, c1, c2, c3, c4] 33 (0, 0))) :
    w.cell? ⟨g, 0, none⟩ = some c0 ∧ w.cell? ⟨g, 1, none⟩ = some c1 ∧ w.cell? ⟨g, 2, none⟩ = some c2 ∧ w.cell? ⟨g, 3, none⟩ = some c3 ∧ w.cell? ⟨g, 4, none⟩ = some c4 := by
  refine ⟨?_, ?_, ?_, ?_, ?_⟩ <;> (rw [Lib.cell_of_heap h]; rfl)
theorem cells10 {w : World} {g h : Nat} {c0 c1 c2 c3 c4 e0 e1 e2 e3 e4 : Value} (hg : w.heap[g]? = some (.cells #[c0, c1, c2, c3, c4] 33 (0, 0))) (hh : w.heap[h]? = some (.cells #[e0, e1, e2, e3, e4] 33 (0, 0))) :
    (w.cell? ⟨g, 0, none⟩ = some c0 ∧ w.cell? ⟨g, 1, none⟩ = some c1 ∧ w.cell? ⟨g, 2, none⟩ = some c2 ∧ w.cell? ⟨g, 3, none⟩ = some c3 ∧ w.cell? ⟨g, 4, none⟩ = some c4) ∧ (w.cell? ⟨h, 0, none⟩ = some e0 ∧ w.cell? ⟨h, 1, none⟩ = some e1 ∧ w.cell? ⟨h, 2, none⟩ = some e2 ∧ w.cell? ⟨h, 3, none⟩ = some e3 ∧ w.cell? ⟨h, 4, none⟩ = some e4) := ⟨cells5 hg, cells5 hh⟩

set_option maxRecDepth 100000 in
set_option maxHeartbeats 4000000 in
theorem field_cmp (d : Nat) (ih : CmpSaid d) (S1 S2 : Nat → Prop) (w : World) (a a' : ByteArray) (b b' : TVal d) (k1 n1 : Int) (s1 : ByteArray) (p1 : Value) (k2 n2 : Int) (s2 : ByteArray) (p2 : Value) (h1 : IsV d S1 w k1 n1 s1 p1 b) (h2 : IsV d S2 w k2 n2 s2 p2 b') :
    Calls Try.prog 38 #[.agg #[.string a, .int .i64 k1, .int .i64 n1, .string s1, p1], .agg #[.string a', .int .i64 k2, .int .i64 n2, .string s2, p2]] w fun e w' => e = .returned (.int .i64 (fcmp d (a, b) (a', b'))) ∧ Below w.heap.size w w' := by
  have hb2 := ((Below.refl w.heap.size w).alloc (Nat.le_refl _) (.cells #[.string a, .int .i64 k1, .int .i64 n1, .string s1, p1] 33 (0, 0))).alloc (by simp) (.cells #[.string a', .int .i64 k2, .int .i64 n2, .string s2, p2] 33 (0, 0))
  have e1 := pair1 w (.cells #[.string a, .int .i64 k1, .int .i64 n1, .string s1, p1] 33 (0, 0)) (.cells #[.string a', .int .i64 k2, .int .i64 n2, .string s2, p2] 33 (0, 0))
  have e2 := pair2 w (.cells #[.string a, .int .i64 k1, .int .i64 n1, .string s1, p1] 33 (0, 0)) (.cells #[.string a', .int .i64 k2, .int .i64 n2, .string s2, p2] 33 (0, 0))
  have HI := Lib.hid (And.intro (h1.below (Nat.le_refl _) hb2) (And.intro (h2.below (Nat.le_refl _) hb2) (And.intro hb2 (And.intro e1 e2))))
  have HC := fun w => Try.strings_Compare a a' w
  clear h1 h2 hb2 e1 e2
  go_enter Try.func38, Try.ntmps38
  go_upto_region 1 with fail
  have hi := HI.out
  clear HI
  generalize (w.alloc (.cells #[.string a, .int .i64 k1, .int .i64 n1, .string s1, p1] 33 (0, 0))).alloc (.cells #[.string a', .int .i64 k2, .int .i64 n2, .string s2, p2] 33 (0, 0)) = W at *
  obtain ⟨v1, v2, hb, e1, e2⟩ := hi
  have HS := fun w' (h : Below W.drew.heap.size W.drew w') => cells10 ((h.block _ (lt_of_block e1)).trans e1) ((h.block _ (lt_of_block e2)).trans e2)
  have S0 := HS _ (Below.refl _ _)
  have HI := Lib.hid (ih S1 S2 W.drew k1 n1 s1 p1 b k2 n2 s2 p2 b' (v1.keep (Nat.le_refl _) fun _ _ _ => rfl) (v2.keep (Nat.le_refl _) fun _ _ _ => rfl))
  have HB := Lib.hid hb
  clear v1 v2 e1 e2 ih hb
  go_region_held3 (fun w' => (w'.cell? ⟨w.heap.size, 0, none⟩ = some (.string a) ∧ w'.cell? ⟨w.heap.size, 1, none⟩ = some (.int .i64 k1) ∧ w'.cell? ⟨w.heap.size, 2, none⟩ = some (.int .i64 n1) ∧ w'.cell? ⟨w.heap.size, 3, none⟩ = some (.string s1) ∧ w'.cell? ⟨w.heap.size, 4, none⟩ = some p1) ∧ (w'.cell? ⟨w.heap.size + 1, 0, none⟩ = some (.string a') ∧ w'.cell? ⟨w.heap.size + 1, 1, none⟩ = some (.int .i64 k2) ∧ w'.cell? ⟨w.heap.size + 1, 2, none⟩ = some (.int .i64 n2) ∧ w'.cell? ⟨w.heap.size + 1, 3, none⟩ = some (.string s2) ∧ w'.cell? ⟨w.heap.size + 1, 4, none⟩ = some p2))
    (first | assumption | exact HS _ (by assumption) | exact HS _ (hbI.alloc hbI.size _))
    (first
      | (go_at_call 36; refine (HC _).mono ?_; rintro e w3 ⟨rfl, rfl⟩)
      | (go_at_call 9; refine HI.out.mono ?_
         rintro e w5 ⟨rfl, hbI⟩
         have e5 := heap_alloc_new w5 (.cells #[.int .i64 (Lib.compareBytes a.data.toList a'.data.toList), .int .i64 (tcmp d b b')] 3 (0, 0))
         have HO := Lib.hid (or_any2 w5.heap.size _ _ _ e5)
         clear e5)
      | (go_at_call 34; refine HO.out.mono ?_; rintro e w6 ⟨rfl, rfl⟩))
  go_wp2_with fail
  go_ret
  have hb3 : Below W.heap.size W w5 := undrew hbI
  exact ⟨rfl, (HB.out.trans (hb3.mono HB.out.size)).alloc (Nat.le_trans HB.out.size hb3.size) _⟩

theorem lex_drop {α : Type} (f : α → α → Int) (xs ys : List α) (i : Nat) (h1 : i < xs.length) (h2 : i < ys.length) : lexL f (xs.drop i) (ys.drop i) = or2 (f xs[i] ys[i]) (lexL f (xs.drop (i + 1)) (ys.drop (i + 1))) := by
  rw [List.drop_eq_getElem_cons h1, List.drop_eq_getElem_cons h2]
  rfl
set_option maxRecDepth 100000 in
set_option maxHeartbeats 4000000 in
theorem fields_cmp (d : Nat) (ih : CmpSaid d) (S1 S2 : Nat → Prop) (w : World) (k1 n1 : Int) (s1 : ByteArray) (p1 : Value) (t1 : TVal (d + 1)) (k2 n2 : Int) (s2 : ByteArray) (p2 : Value) (t2 : TVal (d + 1)) (h1 : IsV (d + 1) S1 w k1 n1 s1 p1 t1) (h2 : IsV (d + 1) S2 w k2 n2 s2 p2 t2) :
    Calls Try.prog 37 #[p1, p2, .func (.func 38) #[] #[]] w fun e w' => e = .returned (.int .i64 (lexL (fcmp d) t1.fs t2.fs)) ∧ Below w.heap.size w w' := by
  obtain ⟨-, -, -, c1, a1, rfl, hc1, hf1⟩ := h1
  obtain ⟨-, -, -, c2, a2, rfl, hc2, hf2⟩ := h2
  generalize t1.fs = xs at *
  generalize t2.fs = ys at *
  have hL : xs.length ≤ 9223372036854775807 ∨ True := Or.inr trivial
  have HI := Lib.hid (And.intro ih (And.intro hf1 hf2))
  clear ih hf1 hf2
  go_enter Try.func37, Try.ntmps37
  go_wp2_with fail
  go_loopw [13] (fun iv wr => ∃ i : Nat, iv = .int .i64 i ∧ i ≤ xs.length ∧ i ≤ ys.length ∧ lexL (fcmp d) xs ys = lexL (fcmp d) (xs.drop i) (ys.drop i) ∧ Below w.heap.size w wr) (fun iv _ => xs.length - (intOf iv).toNat)
  case atStart => exact ⟨0, rfl, Nat.zero_le _, Nat.zero_le _, rfl, Below.refl _ _⟩
  case round =>
    obtain ⟨i, rfl, hi1, hi2, hlex, hb⟩ := hrel
    have hzr := hb.size
    by_cases hlt : i < xs.length
    · have ti : (i : Int) < (xs.length : Int) := by omega
      have hni : ((i : Int)).toNat = i := by omega
      obtain ⟨b1, kk1, nn1, ss1, pp1, rfl, -, hl1, e0, e1, e2, e3, e4, v1⟩ := HI.out.2.1 i xs[i] (List.getElem?_eq_getElem hlt)
      obtain ⟨pa1, pl1, pc1, rfl⟩ := v1.isSlice
      have wi : IntKind.i64.wrap ((i : Int) + 1) = (i : Int) + 1 := IntWalk.i64_in _ ⟨by omega, by omega⟩
      rw [← hb.cell (show (⟨b1, i * 5, none⟩ : Addr).block < w.heap.size from hl1)] at e0
      rw [← hb.cell (show (⟨b1, i * 5 + 1, none⟩ : Addr).block < w.heap.size from hl1)] at e1
      rw [← hb.cell (show (⟨b1, i * 5 + 2, none⟩ : Addr).block < w.heap.size from hl1)] at e2
      rw [← hb.cell (show (⟨b1, i * 5 + 3, none⟩ : Addr).block < w.heap.size from hl1)] at e3
      rw [← hb.cell (show (⟨b1, i * 5 + 4, none⟩ : Addr).block < w.heap.size from hl1)] at e4
      by_cases hlt2 : i < ys.length
      · have ti2 : decide ((i : Int) ≥ (ys.length : Int)) = false := decide_eq_false (by omega)
        have ti3 : (i : Int) < (ys.length : Int) := by omega
        obtain ⟨b2, kk2, nn2, ss2, pp2, rfl, -, hl2, f0, f1, f2, f3, f4, v2⟩ := HI.out.2.2 i ys[i] (List.getElem?_eq_getElem hlt2)
        obtain ⟨pa2, pl2, pc2, rfl⟩ := v2.isSlice
        have hstep := lex_drop (fcmp d) xs ys i hlt hlt2
        generalize xs[i] = x at *
        generalize ys[i] = y at *
        obtain ⟨x, tx⟩ := x
        obtain ⟨y, ty⟩ := y
        rw [← hb.cell (show (⟨b2, i * 5, none⟩ : Addr).block < w.heap.size from hl2)] at f0
        rw [← hb.cell (show (⟨b2, i * 5 + 1, none⟩ : Addr).block < w.heap.size from hl2)] at f1
        rw [← hb.cell (show (⟨b2, i * 5 + 2, none⟩ : Addr).block < w.heap.size from hl2)] at f2
        rw [← hb.cell (show (⟨b2, i * 5 + 3, none⟩ : Addr).block < w.heap.size from hl2)] at f3
        rw [← hb.cell (show (⟨b2, i * 5 + 4, none⟩ : Addr).block < w.heap.size from hl2)] at f4
        have g0 := fun o => Lib.cell?_alloc_some (W := wr) o f0
        have g1 := fun o => Lib.cell?_alloc_some (W := wr) o f1
        have g2 := fun o => Lib.cell?_alloc_some (W := wr) o f2
        have g3 := fun o => Lib.cell?_alloc_some (W := wr) o f3
        have g4 := fun o => Lib.cell?_alloc_some (W := wr) o f4
        have HF := Lib.hid (fun W (h : IsV d S1 W kk1 nn1 ss1 (.slice pa1 pl1 pc1) tx) (h' : IsV d S2 W kk2 nn2 ss2 (.slice pa2 pl2 pc2) ty) => field_cmp d HI.out.1 S1 S2 W x y tx ty kk1 nn1 ss1 _ kk2 nn2 ss2 _ h h')
        have HV := Lib.hid (And.intro v1 (And.intro v2 (And.intro hb (And.intro hlex hstep))))
        clear v1 v2 hb hlex hstep
        have hab : Below wr.heap.size wr ((wr.alloc (.cells #[.string x, .int .i64 kk1, .int .i64 nn1, .string ss1, .slice pa1 pl1 pc1] 33 (0, 0))).alloc (.cells #[.string y, .int .i64 kk2, .int .i64 nn2, .string ss2, .slice pa2 pl2 pc2] 33 (0, 0))) := ((Below.refl wr.heap.size wr).alloc (Nat.le_refl _) _).alloc (by simp) _
        have hcall := HF.out _ (HV.out.1.below (Nat.le_refl _) (HV.out.2.2.1.trans (hab.mono hzr))) (HV.out.2.1.below (Nat.le_refl _) (HV.out.2.2.1.trans (hab.mono hzr)))
        have HCa := Lib.hid (And.intro hcall (HV.out.2.2.1.trans (hab.mono hzr)))
        clear hab hcall
        go_wp2_with fail
        refine HCa.out.1.mono ?_
        rintro e w3 ⟨rfl, hb3⟩
        have hb4 := HCa.out.2.trans (hb3.mono HCa.out.2.size)
        have HB4 := Lib.hid hb4
        clear hb3 hb4
        by_cases hz : fcmp d (x, tx) (y, ty) = 0
        · have tz := b_eq hz
          have hl2 : lexL (fcmp d) xs ys = lexL (fcmp d) (xs.drop (i + 1)) (ys.drop (i + 1)) := by rw [HV.out.2.2.2.1, HV.out.2.2.2.2, or2, if_neg (by simp [hz])]
          have HL := Lib.hid hl2
          clear hl2 hz
          go_wp2_with fail
          exact ⟨⟨i + 1, by simp, by omega, by omega, HL.out, HB4.out⟩, by simp [intOf]; omega⟩
        · have tz := b_ne hz
          have hl2 : lexL (fcmp d) xs ys = fcmp d (x, tx) (y, ty) := by rw [HV.out.2.2.2.1, HV.out.2.2.2.2, or2, if_pos hz]
          have HL := Lib.hid hl2
          clear hl2 hz
          go_wp2_with fail
          go_ret
          exact ⟨ret_int HL.out.symm, HB4.out⟩
      · have ti2 : decide ((i : Int) ≥ (ys.length : Int)) = true := decide_eq_true (by omega)
        have hres : lexL (fcmp d) xs ys = 1 := by
          rw [hlex, List.drop_eq_nil_of_le (show ys.length ≤ i by omega), List.drop_eq_getElem_cons hlt]
          rfl
        have HV := Lib.hid (And.intro hres hb)
        clear hb hlex hres v1
        generalize xs[i] = x at *
        go_wp2_with fail
        go_ret
        exact ⟨ret_int HV.out.1.symm, HV.out.2.alloc hzr _⟩
    · have ti : decide ((i : Int) < (xs.length : Int)) = false := decide_eq_false (by omega)
      have hxi : xs.length = i := by omega
      rw [List.drop_eq_nil_of_le (show xs.length ≤ i by omega)] at hlex
      by_cases hlt2 : i < ys.length
      · have ti2 : (xs.length : Int) < (ys.length : Int) := by omega
        rw [List.drop_eq_getElem_cons hlt2] at hlex
        have HV := Lib.hid (And.intro hlex hb)
        clear hb hlex
        go_wp2_with fail
        go_ret
        exact ⟨ret_int HV.out.1.symm, HV.out.2⟩
      · have ti2 : decide ((xs.length : Int) < (ys.length : Int)) = false := decide_eq_false (by omega)
        rw [List.drop_eq_nil_of_le (show ys.length ≤ i by omega)] at hlex
        have HV := Lib.hid (And.intro hlex hb)
        clear hb hlex
        go_wp2_with fail
        go_ret
        exact ⟨ret_int HV.out.1.symm, HV.out.2⟩


end Go.Proofs.Ytkcpnehhcpmdgaa
