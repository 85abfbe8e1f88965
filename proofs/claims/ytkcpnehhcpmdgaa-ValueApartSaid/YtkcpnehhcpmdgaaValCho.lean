/- clapmake.val without definitions: choices; no condition beyond those that stand there. -/
import Derived.Deep.Cut
import Derived.Deep.RegionLaw
import Derived.Deep.RegionHeld3
import Derived.Test.YtkcpnehhcpmdgaaVRow
namespace Go.Proofs.Ytkcpnehhcpmdgaa
open Go.RowKit

theorem cho_end {d B s : Nat} {w : World} {nm : ByteArray} {lo hi : Int} {pat : ByteArray} {p : Value} {T C : Nat} {w5 : World} {k5 n5 : Int} {str5 : ByteArray} {aq : Option Addr} {cq : Nat} {t5 : TVal (d + 1)} (h5 : ValAt B s w 7 nm lo hi pat p T 0 ⟨#[]⟩ (.slice none 0 0) w5) (hsl : s < w.heap.size)
    (hv5 : IsV (d + 1) (C ≤ ·) w5 k5 n5 str5 (.slice aq t5.fs.length cq) t5) (hC : T < C) (pn : ByteArray) :
    ValAt B s w 7 nm lo hi pat p T 0 ⟨#[]⟩ (.slice (some ⟨w5.heap.size, 0, none⟩) 1 1) ((w5.alloc (.cells #[.string pn, .int .i64 k5, .int .i64 n5, .string str5, .slice aq t5.fs.length cq] 33 (0, 0))).setCell ⟨T, 3, none⟩ (.slice (some ⟨w5.heap.size, 0, none⟩) 1 1)) ∧
    IsV (d + 2) (fun k => w.heap.size + 1 < k) ((w5.alloc (.cells #[.string pn, .int .i64 k5, .int .i64 n5, .string str5, .slice aq t5.fs.length cq] 33 (0, 0))).setCell ⟨T, 3, none⟩ (.slice (some ⟨w5.heap.size, 0, none⟩) 1 1)) 7 0 ⟨#[]⟩ (.slice (some ⟨w5.heap.size, 0, none⟩) 1 1) (mkT 7 0 ⟨#[]⟩ [(pn, t5)]) := by
  have hT := h5.low
  have hlt := h5.lt
  have hal := (Below.refl w5.heap.size w5).alloc (Nat.le_refl _) (.cells #[.string pn, .int .i64 k5, .int .i64 n5, .string str5, .slice aq t5.fs.length cq] 33 (0, 0))
  have h5b := h5.below hsl (m := w5.heap.size) h5.lt hal
  have h6 := h5b.set hsl 3 (.slice (some ⟨w5.heap.size, 0, none⟩) 1 1) (n' := 0) (str' := ⟨#[]⟩) (v' := .slice (some ⟨w5.heap.size, 0, none⟩) 1 1) rfl
  have hrow := World.ownsRow_lit (base := w5.heap.size) (e := 33) (size := 5) w5 #[.string pn, .int .i64 k5, .int .i64 n5, .string str5, .slice aq t5.fs.length cq] 1 (Nat.le_refl _) (by decide) rfl
  have hv5b : IsV (d + 1) (fun k => T < k) (w5.alloc (.cells #[.string pn, .int .i64 k5, .int .i64 n5, .string str5, .slice aq t5.fs.length cq] 33 (0, 0))) k5 n5 str5 (.slice aq t5.fs.length cq) t5 :=
    (hv5.imp (S' := fun k => T < k) fun k h1 _ => Nat.lt_of_lt_of_le hC h1).keep hal.size fun k _ h2 => hal.block k h2
  have hisv : IsV (d + 2) (fun k => T < k) (w5.alloc (.cells #[.string pn, .int .i64 k5, .int .i64 n5, .string str5, .slice aq t5.fs.length cq] 33 (0, 0))) 7 0 ⟨#[]⟩ (.slice (some ⟨w5.heap.size, 0, none⟩) 1 1) (mkT 7 0 ⟨#[]⟩ [(pn, t5)]) :=
    v_of_row (fs := [(pn, t5)]) hrow (fun k h1 _ _ => by omega) (fun j f hf => by
      have hj : j = 0 := by have := (List.getElem?_eq_some_iff.1 hf).1; simp at this; omega
      subst hj
      simp at hf
      subst hf
      exact FieldOk.last (xs := []) rfl pn k5 n5 str5 (.slice aq t5.fs.length cq) t5 hv5b)
  exact ⟨h6, (hisv.keep (by simp) (fun k h1 _ => Below.heap_setCell _ _ _ _ (show k ≠ T from Nat.ne_of_gt h1))).imp (S' := fun k => w.heap.size + 1 < k) (fun k h1 _ => Nat.lt_trans hT h1)⟩

set_option maxRecDepth 100000 in
set_option maxHeartbeats 4000000 in
theorem val_choice (d B s : Nat) (w : World) (nm : ByteArray) (lo hi : Int) (pat : ByteArray) (a : Option Addr) (l c dp : Nat) (ih : ValSaid d) (S : Nat → Prop) (hS : ∀ k, S k → k ≠ s) (hdp : dp + (d + 1) ≤ 3) (hp : PartsAt d S w 7 a l) (hl : 1 ≤ l ∧ l ≤ 3) (h : StAt B s w) :
    Calls Try.prog 31 #[.slice none 0 0, .agg #[.int .i64 7, .string nm, .int .i64 lo, .int .i64 hi, .string pat, .slice a l c], .pointer (some ⟨s, 0, none⟩), .int .i64 dp] w (ValPost (d + 1) B s w) := by
  have IH := Lib.hid (show ∀ (B s : Nat) (S : Nat → Prop) (w : World) (kd : Int) (nm : ByteArray) (lo hi : Int) (pat : ByteArray) (a : Option Addr) (l c : Nat), StAt B s w → TyIn d S w kd lo hi pat (.slice a l c) → (∀ k, S k → k ≠ s) →
      Calls Try.prog 31 #[.slice none 0 0, .agg #[.int .i64 kd, .string nm, .int .i64 lo, .int .i64 hi, .string pat, .slice a l c], .pointer (some ⟨s, 0, none⟩), .int .i64 ((dp : Int) + 1)] w (ValPost d B s w) from
    fun B s S w kd nm lo hi pat a l c h1 h2 h3 => ih B s S w kd nm lo hi pat a l c (dp + 1) h1 h2 h3 (by omega))
  clear ih
  have HP := Lib.hid hp
  clear hp
  have wdp : IntKind.i64.wrap ((dp : Int) + 1) = (dp : Int) + 1 := IntWalk.i64_in _ ⟨by omega, by omega⟩
  have tdp : (dp : Int) < 8 := by omega
  have hsl := h.lt
  have H := Lib.hid h
  clear h
  go_enter Try.func31, Try.ntmps31
  go_wp2_with fail
  refine (resolve_nil 7 lo hi nm pat a l c (by omega) _).mono ?_
  rintro e w1 ⟨rfl, b1⟩
  obtain ⟨e5, h1⟩ := val_start H.out b1
  obtain ⟨⟨a0, a1, a2, a3, a4, a5⟩, a6, a7, a8, a9, aa, ab⟩ := cells6 e5
  have H1 := Lib.hid h1
  clear b1 e5 h1
  go_upto_region 3 with fail
  have h1 := H1.out
  clear H1
  clear a0 a1 a2 a3 a4 a5 a6 a7 a8 a9 aa ab
  generalize (((((((w1.setCell ⟨w.heap.size, 0, none⟩ (.int .i64 7)).setCell ⟨w.heap.size, 1, none⟩ (.string nm)).setCell ⟨w.heap.size, 2, none⟩ (.int .i64 lo)).setCell ⟨w.heap.size, 3, none⟩ (.int .i64 hi)).setCell ⟨w.heap.size, 4, none⟩ (.string pat)).setCell ⟨w.heap.size, 5, none⟩ (.slice a l c)).alloc (.cells #[.int .i64 7, .int .i64 0, .string ⟨#[]⟩, .slice none 0 0] 25 (0, 0))) = w2 at *
  generalize w1.heap.size = T at *
  obtain ⟨⟨a0, a1, a2, a3, a4, a5⟩, a6, a7, a8, a9, aa, ab⟩ := cells6 h1.c5
  obtain ⟨⟨b0, b1, b2, b3⟩, b4, b5, b6, b7⟩ := cells4 h1.c8
  obtain ⟨⟨d0, d1, d2, d3⟩, d4, d5, d6, d7⟩ := cells4 h1.c9
  have H1 := Lib.hid h1
  clear h1
  have HN := Lib.hid (next_any B s (l : Int) (by omega) _ H1.out.st)
  go_wp2_with fail
  refine HN.out.mono ?_
  rintro e w3 ⟨⟨x, rfl, x0, x1, -⟩, t3, k3, -⟩
  have x2 := x1 (by omega)
  obtain ⟨i, rfl⟩ : ∃ i : Nat, x = i := ⟨x.toNat, by omega⟩
  have ti : (i : Int) < (l : Int) := by omega
  have til : i < l := by omega
  have hni : ((i : Int)).toNat = i := by omega
  have hv := H1.out.step hsl t3 k3
  obtain ⟨b, pn, kd', nm', lo', hi', pat', a', l', c', rfl, hSb, hbl, hnm, hk10, f0, f1, f2, f3, f4, f5, f6, hty⟩ := (HP.out.keep hv.drew.keep hS) i til
  obtain ⟨⟨b0, b1, b2, b3⟩, b4, b5, b6, b7⟩ := cells4 hv.drew.c9
  have c5w := hv.c5
  have hTw : w.heap.size ≠ T := by have := hv.low; omega
  obtain ⟨b', _, _, _, _, _, _, _, _, _, eb, _, hbw, _⟩ := HP.out i til
  obtain rfl : b = b' := by simpa using eb
  have hTb : b ≠ T := by have := hv.low; omega
  have hww : w.heap.size < w3.heap.size := lt_of_block c5w
  clear eb
  have HS := fun (w' : World) (h : w'.heap[w.heap.size]? = w3.heap[w.heap.size]? ∧ w'.heap[b]? = w3.heap[b]?) => And.intro (World.cell?_of_block (a := ⟨w.heap.size, 5, none⟩) h.1 |>.trans (cells6 c5w).1.2.2.2.2.2) (And.intro ((World.cell?_of_block (a := ⟨b, i * 7, none⟩) h.2).trans f0) (And.intro ((World.cell?_of_block (a := ⟨b, i * 7 + 1, none⟩) h.2).trans f1) (And.intro ((World.cell?_of_block (a := ⟨b, i * 7 + 2, none⟩) h.2).trans f2) (And.intro ((World.cell?_of_block (a := ⟨b, i * 7 + 3, none⟩) h.2).trans f3) (And.intro ((World.cell?_of_block (a := ⟨b, i * 7 + 4, none⟩) h.2).trans f4) (And.intro ((World.cell?_of_block (a := ⟨b, i * 7 + 5, none⟩) h.2).trans f5) ((World.cell?_of_block (a := ⟨b, i * 7 + 6, none⟩) h.2).trans f6)))))))
  have S0 := HS w3.drew ⟨rfl, rfl⟩
  have hbl : b < w3.heap.size := by omega
  have HR := Lib.hid (And.intro hv.drew hty)
  clear t3 k3 hv hty f0 f1 f2 f3 f4 f5 f6
  go_upto_region 24 with fail
  go_region_held3 (fun w' => w'.cell? ⟨w.heap.size, 5, none⟩ = some (.slice (some ⟨b, 0, none⟩) l c) ∧ w'.cell? ⟨b, i * 7, none⟩ = some (.string pn) ∧ w'.cell? ⟨b, i * 7 + 1, none⟩ = some (.int .i64 kd') ∧ w'.cell? ⟨b, i * 7 + 2, none⟩ = some (.string nm') ∧ w'.cell? ⟨b, i * 7 + 3, none⟩ = some (.int .i64 lo') ∧ w'.cell? ⟨b, i * 7 + 4, none⟩ = some (.int .i64 hi') ∧ w'.cell? ⟨b, i * 7 + 5, none⟩ = some (.string pat') ∧ w'.cell? ⟨b, i * 7 + 6, none⟩ = some (.slice a' l' c'))
    (first
      | assumption
      | exact HS _ q5
      | exact HS _ ⟨(heap_alloc_old w5 _ hwl5).trans q5.1, (heap_alloc_old w5 _ hbl5).trans q5.2⟩
      | exact HS _ ⟨(heap_alloc_old (w5.setCell ⟨T, 3, none⟩ _) _ (by simp; exact hwl5)).trans ((Below.heap_setCell _ _ _ _ hTw).trans q5.1), (heap_alloc_old (w5.setCell ⟨T, 3, none⟩ _) _ (by simp; exact hbl5)).trans ((Below.heap_setCell _ _ _ _ hTb).trans q5.2)⟩
      | exact HS _ ⟨(Below.heap_setCell _ _ _ _ hTw).trans ((heap_alloc_old w5 _ hwl5).trans q5.1), (Below.heap_setCell _ _ _ _ hTb).trans ((heap_alloc_old w5 _ hbl5).trans q5.2)⟩)
    (first
      | (go_at_call 31; (try rw [wdp]); refine (IH.out B s S _ kd' nm' lo' hi' pat' a' l' c' HR.out.1.st HR.out.2 hS).mono ?_
         rintro e w5 ⟨⟨t5, k5, n5, str5, q5, rfl, hv5, hok5⟩, tt, kt⟩
         obtain ⟨aq, cq, rfl, -⟩ := hv5.slice
         have h5 := HR.out.1.step hsl tt kt
         obtain ⟨⟨g0, g1, g2, g3⟩, g4, g5, g6, g7⟩ := cells4 h5.c9
         obtain ⟨⟨l0, l1, l2, l3⟩, l4, l5, l6, l7⟩ := cells4 (h5.below hsl (m := w5.heap.size) h5.lt ((Below.refl w5.heap.size w5).alloc (Nat.le_refl _) (.cells #[.string pn, .int .i64 k5, .int .i64 n5, .string str5, .slice aq t5.fs.length cq] 33 (0, 0)))).c9
         have q5 : w5.heap[w.heap.size]? = w3.heap[w.heap.size]? ∧ w5.heap[b]? = w3.heap[b]? := ⟨h5.c5.trans c5w.symm, kt.block b hbl (hS b hSb)⟩
         have hbl5 : b < w5.heap.size := Nat.lt_of_lt_of_le hbl kt.size
         have hwl5 : w.heap.size < w5.heap.size := Nat.lt_of_lt_of_le hww kt.size
         have H5 := Lib.hid (And.intro (cho_end h5 hsl hv5 HR.out.1.lt pn) (And.intro h5 hok5))
         clear tt kt h5 hv5 hok5
         unfold vV))
  all_goals
    obtain ⟨h6, hisv2⟩ := H5.out.1
    generalize (w5.alloc (.cells #[.string pn, .int .i64 k5, .int .i64 n5, .string str5, .slice aq t5.fs.length cq] 33 (0, 0))).setCell ⟨T, 3, none⟩ (.slice (some ⟨w5.heap.size, 0, none⟩) 1 1) = w6 at *
    obtain ⟨⟨i0, i1, i2, i3⟩, i4, i5, i6, i7⟩ := cells4 h6.c9
    obtain ⟨⟨j0, j1, j2, j3⟩, j4, j5, j6, j7⟩ := cells4 h6.c8
    have H6 := Lib.hid (And.intro h6 hisv2)
    clear h6 hisv2
    go_wp2_with fail
    refine bodyPost_ret (results_cell_row rfl _ _ (w.heap.size + 1) 25 #[.int .i64 7, .int .i64 (0), .string ⟨#[]⟩, .slice (some ⟨w5.heap.size, 0, none⟩) 1 1] (0, 0) _ rfl (set4 H6.out.1.c8 _ _ _ _) Try.underlying25 rfl (by kernel_rfl)) rfl ?_
    exact val_post H6.out.1 hsl (mkT 7 0 ⟨#[]⟩ [(pn, t5)]) (H6.out.2) (⟨Or.inr (Or.inr (Or.inr (Or.inr ⟨Or.inr (by show (5 : Int) ≤ 7; decide), rfl⟩))), Or.inr rfl, Nat.zero_le _, Or.inr (Or.inr (Or.inl ⟨rfl, pn, rfl, hnm.2 rfl⟩)), fun f hf => by simp [mkT_fs] at hf; subst hf; exact H5.out.2.2⟩)

end Go.Proofs.Ytkcpnehhcpmdgaa
