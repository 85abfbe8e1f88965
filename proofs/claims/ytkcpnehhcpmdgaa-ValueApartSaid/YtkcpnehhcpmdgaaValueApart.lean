/- clapkeep1.ValueApart; no condition beyond those that stand there. -/
import Derived.Test.YtkcpnehhcpmdgaaCheck
import Derived.Test.YtkcpnehhcpmdgaaApart
namespace Go.Proofs.Ytkcpnehhcpmdgaa
open Go.RowKit

theorem Spoil.below {S : Nat → Prop} {c n : Nat} {w w' : World} (h : Spoil S c w w') (hS : ∀ k, S k → n ≤ k) : Below n w w' :=
  ⟨h.os, h.tape, h.output, by rw [h.size]; exact Nat.le_refl _, fun k hk => h.block k fun e => by have := hS k e; omega⟩
/-- What is known within the law: block T3 holds the value, block T4 its copy by hand, block T5 its copy. -/
structure LawAt (w : World) (t : TVal 4) (k n : Int) (s : ByteArray) (T3 T4 T5 : Nat) (a3 : Option Addr) (c3 : Nat) (a4 : Option Addr) (c4 : Nat) (a5 : Option Addr) (c5 : Nat) (W : World) : Prop where
  bel : Below w.heap.size w W
  low : w.heap.size ≤ T3
  lo4 : T3 < T4
  lo5 : T4 < T5
  h3 : W.heap[T3]? = some (.cells #[.int .i64 k, .int .i64 n, .string s, .slice a3 t.fs.length c3] 25 (0, 0))
  h4 : W.heap[T4]? = some (.cells #[.int .i64 k, .int .i64 n, .string s, .slice a4 t.fs.length c4] 25 (0, 0))
  h5 : W.heap[T5]? = some (.cells #[.int .i64 k, .int .i64 n, .string s, .slice a5 t.fs.length c5] 25 (0, 0))
  v4 : IsV 4 (fun b => T3 < b ∧ b < T4) W k n s (.slice a4 t.fs.length c4) t
  v5 : IsV 4 (fun b => T4 < b ∧ b < T5) W k n s (.slice a5 t.fs.length c5) t
section
variable {w : World} {t : TVal 4} {k n : Int} {s : ByteArray} {T3 T4 T5 : Nat} {a3 : Option Addr} {c3 : Nat} {a4 : Option Addr} {c4 : Nat} {a5 : Option Addr} {c5 : Nat} {W W' : World}
theorem LawAt.lt (h : LawAt w t k n s T3 T4 T5 a3 c3 a4 c4 a5 c5 W) : T5 < W.heap.size := lt_of_block h.h5
theorem LawAt.below (h : LawAt w t k n s T3 T4 T5 a3 c3 a4 c4 a5 c5 W) (hb : Below W.heap.size W W') : LawAt w t k n s T3 T4 T5 a3 c3 a4 c4 a5 c5 W' := by
  have hl := h.lt
  have h1 := h.lo4
  have h2 := h.lo5
  exact ⟨h.bel.trans (hb.mono h.bel.size), h.low, h1, h2, (hb.block _ (by omega)).trans h.h3, (hb.block _ (by omega)).trans h.h4, (hb.block _ hl).trans h.h5, h.v4.below (Nat.le_refl _) hb, h.v5.below (Nat.le_refl _) hb⟩
theorem LawAt.spoil {q : Nat} (h : LawAt w t k n s T3 T4 T5 a3 c3 a4 c4 a5 c5 W) (hs : Spoil (fun b => w.heap.size ≤ b ∧ b < T3) q W W') : LawAt w t k n s T3 T4 T5 a3 c3 a4 c4 a5 c5 W' := by
  have h1 := h.lo4
  have h2 := h.lo5
  have hb : ∀ b, T3 ≤ b → W'.heap[b]? = W.heap[b]? := fun b hb => hs.block b fun e => by have := e.2; omega
  exact ⟨h.bel.trans (hs.below fun _ e => e.1), h.low, h1, h2, (hb _ (Nat.le_refl _)).trans h.h3, (hb _ (by omega)).trans h.h4, (hb _ (by omega)).trans h.h5, h.v4.keep (by rw [hs.size]; exact Nat.le_refl _) fun b e _ => hb b (by omega), h.v5.keep (by rw [hs.size]; exact Nat.le_refl _) fun b e _ => hb b (by omega)⟩
end
set_option maxRecDepth 100000 in
set_option maxHeartbeats 4000000 in
theorem valueApart_walk (p1 : Option Addr) (l1 c1 : Nat) (zs1 : List Int) (w : World) (h1 : IsRow .i64 w p1 l1 c1 zs1) :
    Calls Try.prog 5 #[.slice p1 l1 c1] w fun e w' => e = .returned (.bool true) ∧ Below w.heap.size w w' := by
  have HI := Lib.hid (any_any p1 l1 c1 zs1 w h1)
  clear h1
  go_enter Try.func5, Try.ntmps5
  go_wp2_with fail
  refine HI.out.mono ?_
  rintro e w1 ⟨⟨t, k, n, s, a3, l, c3, rfl, hv, hok⟩, hb1⟩
  obtain ⟨_, _, hp, -, -⟩ := hv.slice
  simp only [Value.slice.injEq] at hp
  obtain ⟨-, rfl, -⟩ := hp
  have hal := (Below.refl w1.heap.size w1).alloc (Nat.le_refl _) (.cells #[.int .i64 k, .int .i64 n, .string s, .slice a3 t.fs.length c3] 25 (0, 0))
  have hT := heap_alloc_new w1 (.cells #[.int .i64 k, .int .i64 n, .string s, .slice a3 t.fs.length c3] 25 (0, 0))
  have hv1 := (hv.imp (S' := fun b => w.heap.size ≤ b ∧ b < w1.heap.size) fun b e1 e2 => ⟨e1, e2⟩).below (Nat.le_refl _) hal
  have hsT : (w1.alloc (.cells #[.int .i64 k, .int .i64 n, .string s, .slice a3 t.fs.length c3] 25 (0, 0))).heap.size = w1.heap.size + 1 := by simp
  have hT3 := hb1.size
  have HT := Lib.hid (tcmp_self 4 t)
  have H1 := Lib.hid (And.intro hT (And.intro hv1 (And.intro hok (And.intro (hb1.trans (hal.mono hb1.size)) hsT))))
  clear hv hb1 hal hT hv1 hok hsT HI
  unfold vV
  go_upto_region 2 with fail
  have h1 := H1.out
  clear H1
  generalize w1.alloc (.cells #[.int .i64 k, .int .i64 n, .string s, .slice a3 t.fs.length c3] 25 (0, 0)) = W1 at *
  generalize w1.heap.size = T3 at *
  obtain ⟨hT, hv3, hok, hbW1, hsT⟩ := h1
  obtain ⟨⟨x0, x1, x2, x3⟩, -⟩ := cells4 hT
  have HA := Lib.hid (apart_any 4 _ W1 k n s _ t hv3 hok)
  have H1 := Lib.hid (And.intro hT (And.intro hv3 (And.intro hok (And.intro hbW1 hsT))))
  clear hT hv3 hok hbW1 hsT
  go_wp2_with fail
  refine HA.out.mono ?_
  rintro e w2 ⟨⟨a4, l4, c4, rfl, hv4⟩, hb2⟩
  obtain ⟨_, _, hp, -, -⟩ := hv4.slice
  simp only [Value.slice.injEq] at hp
  obtain ⟨-, rfl, -⟩ := hp
  clear HA x0 x1 x2 x3
  have hal := (Below.refl w2.heap.size w2).alloc (Nat.le_refl _) (.cells #[.int .i64 k, .int .i64 n, .string s, .slice a4 t.fs.length c4] 25 (0, 0))
  have hT4 := heap_alloc_new w2 (.cells #[.int .i64 k, .int .i64 n, .string s, .slice a4 t.fs.length c4] 25 (0, 0))
  have hb12 := hb2.trans (hal.mono hb2.size)
  have hs1 := H1.out.2.2.2.2
  have hv4' := (hv4.imp (S' := fun b => T3 < b ∧ b < w2.heap.size) fun b e1 e2 => ⟨by omega, e2⟩).below (Nat.le_refl _) hal
  have hsT : (w2.alloc (.cells #[.int .i64 k, .int .i64 n, .string s, .slice a4 t.fs.length c4] 25 (0, 0))).heap.size = w2.heap.size + 1 := by simp
  have hT4' : T3 < w2.heap.size := by have := hb2.size; omega
  have H2 := Lib.hid (And.intro hb12 (And.intro hT4 (And.intro hv4' hsT)))
  clear hv4 hb2 hal hT4 hb12 hv4' hsT
  go_upto_region 3 with fail
  have h2 := H2.out
  clear H2
  generalize w2.alloc (.cells #[.int .i64 k, .int .i64 n, .string s, .slice a4 t.fs.length c4] 25 (0, 0)) = W2 at *
  generalize w2.heap.size = T4 at *
  obtain ⟨hb12, hT4, hv4, hs2⟩ := h2
  have hT3' := (hb12.block T3 (by omega)).trans H1.out.1
  have hv3' := H1.out.2.1.below (Nat.le_refl _) hb12
  obtain ⟨⟨x0, x1, x2, x3⟩, -⟩ := cells4 hT3'
  have HA := Lib.hid (copy_any 4 _ W2 k n s _ t hv3' H1.out.2.2.1)
  have H2 := Lib.hid (And.intro hT3' (And.intro hT4 (And.intro hv3' (And.intro hv4 (And.intro (H1.out.2.2.2.1.trans (hb12.mono H1.out.2.2.2.1.size)) hs2)))))
  clear hb12 hT4 hv4 hT3' hv3'
  go_wp2_with fail
  refine HA.out.mono ?_
  rintro e w3 ⟨⟨a5, l5, c5, rfl, hv5⟩, hb3⟩
  obtain ⟨_, _, hp, -, -⟩ := hv5.slice
  simp only [Value.slice.injEq] at hp
  obtain ⟨-, rfl, -⟩ := hp
  clear HA x0 x1 x2 x3
  have hal := (Below.refl w3.heap.size w3).alloc (Nat.le_refl _) (.cells #[.int .i64 k, .int .i64 n, .string s, .slice a5 t.fs.length c5] 25 (0, 0))
  have hT5 := heap_alloc_new w3 (.cells #[.int .i64 k, .int .i64 n, .string s, .slice a5 t.fs.length c5] 25 (0, 0))
  have hb23 := hb3.trans (hal.mono hb3.size)
  have hv5' := (hv5.imp (S' := fun b => T4 < b ∧ b < w3.heap.size) fun b e1 e2 => ⟨by omega, e2⟩).below (Nat.le_refl _) hal
  have hT5' : T4 < w3.heap.size := by have := hb3.size; omega
  have hL : LawAt w t k n s T3 T4 w3.heap.size a3 c3 a4 c4 a5 c5 (w3.alloc (.cells #[.int .i64 k, .int .i64 n, .string s, .slice a5 t.fs.length c5] 25 (0, 0))) :=
    ⟨H2.out.2.2.2.2.1.trans (hb23.mono H2.out.2.2.2.2.1.size), hT3, hT4', hT5', (hb23.block T3 (by omega)).trans H2.out.1, (hb23.block T4 (by omega)).trans H2.out.2.1, hT5, H2.out.2.2.2.1.below (Nat.le_refl _) hb23, hv5'⟩
  have H3 := Lib.hid (And.intro hL (And.intro (H2.out.2.2.1.below (Nat.le_refl _) hb23) H1.out.2.2.1))
  clear hv5 hb3 hal hT5 hb23 hv5' hL H1 H2
  go_upto_region 4 with fail
  have h3 := H3.out
  clear H3
  generalize w3.alloc (.cells #[.int .i64 k, .int .i64 n, .string s, .slice a5 t.fs.length c5] 25 (0, 0)) = W3 at *
  generalize w3.heap.size = T5 at *
  obtain ⟨hL, hv3, hok⟩ := h3
  have H3 := Lib.hid (And.intro hL (And.intro hv3 hok))
  clear hL hv3 hok
  have HV := Lib.hid (values_any W3)
  go_wp2_with fail
  refine HV.out.mono ?_
  rintro e w4 ⟨rfl, hb4⟩
  have hL := H3.out.1.below hb4
  have hv3 := H3.out.2.1.below (Nat.le_refl _) hb4
  obtain ⟨⟨x0, x1, x2, x3⟩, -⟩ := cells4 hL.h3
  obtain ⟨⟨z0, z1, z2, z3⟩, -⟩ := cells4 hL.h5
  have HS := Lib.hid (same_any 4 _ _ w4 k n s _ t k n s _ t hv3 hL.v5)
  have H4 := Lib.hid (And.intro hL (And.intro hv3 H3.out.2.2))
  clear hL hv3 hb4 HV H3
  go_wp2_with fail
  refine HS.out.mono ?_
  rintro e w5 ⟨rfl, hb5⟩
  rw [HT.out]
  have hL := H4.out.1.below hb5
  have hv3 := H4.out.2.1.below (Nat.le_refl _) hb5
  clear x0 x1 x2 x3 z0 z1 z2 z3
  obtain ⟨⟨z0, z1, z2, z3⟩, -⟩ := cells4 hL.h5
  have HS := Lib.hid (check_any _ w5 k n s _ t hL.v5 H4.out.2.2)
  have H5 := Lib.hid (And.intro hL (And.intro hv3 H4.out.2.2))
  clear hL hv3 hb5 H4
  go_wp2_with fail
  refine HS.out.mono ?_
  rintro e w6 ⟨rfl, hb6⟩
  have hL := H5.out.1.below hb6
  have hv3 := H5.out.2.1.below (Nat.le_refl _) hb6
  clear z0 z1 z2 z3
  obtain ⟨⟨x0, x1, x2, x3⟩, -⟩ := cells4 hL.h3
  have HS := Lib.hid (spoil_any 4 4 _ w6 _ (hv3.sh H5.out.2.2) (by decide))
  have H6 := Lib.hid (And.intro hL H5.out.2.2)
  clear hL hv3 hb6 H5
  go_wp2_with fail
  refine HS.out.mono ?_
  rintro e w7 ⟨rfl, hs7⟩
  have hL := H6.out.1.spoil hs7
  clear x0 x1 x2 x3
  obtain ⟨⟨y0, y1, y2, y3⟩, -⟩ := cells4 hL.h4
  obtain ⟨⟨z0, z1, z2, z3⟩, -⟩ := cells4 hL.h5
  have HS := Lib.hid (same_any 4 _ _ w7 k n s _ t k n s _ t hL.v5 hL.v4)
  have H7 := Lib.hid (And.intro hL H6.out.2)
  clear hL hs7 H6
  go_wp2_with fail
  refine HS.out.mono ?_
  rintro e w8 ⟨rfl, hb8⟩
  rw [HT.out]
  have hL := H7.out.1.below hb8
  clear y0 y1 y2 y3 z0 z1 z2 z3
  obtain ⟨⟨z0, z1, z2, z3⟩, -⟩ := cells4 hL.h5
  have HS := Lib.hid (copy_any 4 _ w8 k n s _ t hL.v5 H7.out.2)
  have H8 := Lib.hid (And.intro hL H7.out.2)
  clear hL hb8 H7
  go_wp2_with fail
  refine HS.out.mono ?_
  rintro e w9 ⟨⟨a6, l6, c6, rfl, hv6⟩, hb9⟩
  obtain ⟨_, _, hp, -, -⟩ := hv6.slice
  simp only [Value.slice.injEq] at hp
  obtain ⟨-, rfl, -⟩ := hp
  have hL := H8.out.1.below hb9
  clear z0 z1 z2 z3
  obtain ⟨⟨x0, x1, x2, x3⟩, x4, x5, x6, x7⟩ := cells4 hL.h3
  have hTl := H8.out.1.lt
  have hlo4 := hL.lo4
  have hlo5 := hL.lo5
  have hk4 := keep4 (n := w9.heap.size) (g := T3) w9 (.int .i64 k) (.int .i64 n) (.string s) (.slice a6 t.fs.length c6)
  have hb4' := below4 (n := w.heap.size) (g := T3) w9 hL.low (.int .i64 k) (.int .i64 n) (.string s) (.slice a6 t.fs.length c6)
  have hq3 := set4 hL.h3 (.int .i64 k) (.int .i64 n) (.string s) (.slice a6 t.fs.length c6)
  have hq4 := (hk4.block T4 (by have := hL.lt; omega) (by omega)).trans hL.h4
  have hq5 := (hk4.block T5 (by have := hL.lt; omega) (by omega)).trans hL.h5
  have hw4 := hL.v4.keep hk4.size fun b e h => hk4.block b h (by omega)
  have hw5 := hL.v5.keep hk4.size fun b e h => hk4.block b h (by omega)
  have hw6 := (hv6.imp (S' := fun b => T5 < b) fun b e _ => Nat.lt_of_lt_of_le hTl e).keep hk4.size fun b e h => hk4.block b h (by omega)
  have H9 := Lib.hid (And.intro (hL.bel.trans hb4') (And.intro hq3 (And.intro hq4 (And.intro hq5 (And.intro hw4 (And.intro hw5 (And.intro hw6 H8.out.2)))))))
  clear hL hv6 hb9 hk4 hb4' hq3 hq4 hq5 hw4 hw5 hw6 H8
  go_upto_region 10 with fail
  have h9 := H9.out
  clear H9 x0 x1 x2 x3 x4 x5 x6 x7
  generalize (((w9.setCell ⟨T3, 0, none⟩ (.int .i64 k)).setCell ⟨T3, 1, none⟩ (.int .i64 n)).setCell ⟨T3, 2, none⟩ (.string s)).setCell ⟨T3, 3, none⟩ (.slice a6 t.fs.length c6) = W9 at *
  obtain ⟨hb9, hq3, hq4, hq5, hw4, hw5, hw6, hok⟩ := h9
  obtain ⟨⟨z0, z1, z2, z3⟩, -⟩ := cells4 hq5
  have HS := Lib.hid (spoil_any 4 4 _ W9 _ (hw5.sh hok) (by decide))
  have H9 := Lib.hid (And.intro hb9 (And.intro hq3 (And.intro hq4 (And.intro hw4 (And.intro hw6 hok)))))
  clear hb9 hq3 hq4 hq5 hw4 hw5 hw6 hok
  go_wp2_with fail
  refine HS.out.mono ?_
  rintro e w10 ⟨rfl, hs10⟩
  have ho : ∀ b, b ≤ T4 ∨ T5 ≤ b → w10.heap[b]? = W9.heap[b]? := fun b hb => hs10.block b fun e => by have := e.1; have := e.2; omega
  obtain ⟨hb9, hq3, hq4, hw4, hw6, hok⟩ := H9.out
  have hb10 := hb9.trans (hs10.below (n := w.heap.size) fun b e => by have := e.1; omega)
  have hw4' := hw4.keep (w' := w10) (by rw [hs10.size]; exact Nat.le_refl _) fun b e _ => ho b (by omega)
  have hw6' := hw6.keep (w' := w10) (by rw [hs10.size]; exact Nat.le_refl _) fun b e _ => ho b (Or.inr (Nat.le_of_lt e))
  clear z0 z1 z2 z3
  obtain ⟨⟨x0, x1, x2, x3⟩, -⟩ := cells4 ((ho T3 (by omega)).trans hq3)
  obtain ⟨⟨y0, y1, y2, y3⟩, -⟩ := cells4 ((ho T4 (by omega)).trans hq4)
  have HS := Lib.hid (same_any 4 _ _ w10 k n s _ t k n s _ t hw6' hw4')
  have H10 := Lib.hid hb10
  clear hs10 ho hb9 hq3 hq4 hw4 hw6 hok hb10 hw4' hw6' H9
  go_wp2_with fail
  refine HS.out.mono ?_
  rintro e w11 ⟨rfl, hb11⟩
  rw [HT.out]
  have H11 := Lib.hid (H10.out.trans (hb11.mono H10.out.size))
  clear hb11
  go_wp2_with fail
  go_ret
  exact ⟨rfl, H11.out⟩

end Go.Proofs.Ytkcpnehhcpmdgaa
