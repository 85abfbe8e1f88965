/- clapmake.val without definitions: kinds without fields; no condition beyond those that stand there. -/
import Derived.Deep.Cut
import Derived.Test.YtkcpnehhcpmdgaaVal0
namespace Go.Proofs.Ytkcpnehhcpmdgaa
open Go.RowKit

theorem field_n (W : World) (k x : Int) (s : ByteArray) (p : Value) : (Instr.field 25 (.agg #[.int .i64 k, .int .i64 x, .string s, p]) 1).run Try.prog W = .ok (.int .i64 x) W := by
  simp [Instr.field, run_underlying Try.underlying25, asAgg, go_sem]
theorem float_num {x : Int} (h : x ∈ floatBits) : -9223372036854775808 ≤ x ∧ x ≤ 9223372036854775807 := by
  simp [floatBits] at h
  omega
set_option maxRecDepth 100000 in
set_option maxHeartbeats 4000000 in
theorem val_unit (d B s : Nat) (w : World) (nm : ByteArray) (lo hi : Int) (pat : ByteArray) (a : Option Addr) (l c dp : Nat)  (h : StAt B s w) :
    Calls Try.prog 31 #[.slice none 0 0, .agg #[.int .i64 0, .string nm, .int .i64 lo, .int .i64 hi, .string pat, .slice a l c], .pointer (some ⟨s, 0, none⟩), .int .i64 dp] w (ValPost d B s w) := by
  have hsl := h.lt
  have H := Lib.hid h
  clear h
  go_enter Try.func31, Try.ntmps31
  go_wp2_with fail
  refine (resolve_nil 0 lo hi nm pat a l c (by omega) _).mono ?_
  rintro e w1 ⟨rfl, b1⟩
  obtain ⟨e5, h1⟩ := val_start H.out b1
  obtain ⟨⟨a0, a1, a2, a3, a4, a5⟩, a6, a7, a8, a9, aa, ab⟩ := cells6 e5
  have H1 := Lib.hid h1
  clear b1 e5 h1
  go_upto_region 3 with fail
  have h1 := H1.out
  clear H1
  clear a0 a1 a2 a3 a4 a5 a6 a7 a8 a9 aa ab
  generalize (((((((w1.setCell ⟨w.heap.size, 0, none⟩ (.int .i64 0)).setCell ⟨w.heap.size, 1, none⟩ (.string nm)).setCell ⟨w.heap.size, 2, none⟩ (.int .i64 lo)).setCell ⟨w.heap.size, 3, none⟩ (.int .i64 hi)).setCell ⟨w.heap.size, 4, none⟩ (.string pat)).setCell ⟨w.heap.size, 5, none⟩ (.slice a l c)).alloc (.cells #[.int .i64 0, .int .i64 0, .string ⟨#[]⟩, .slice none 0 0] 25 (0, 0))) = w2 at *
  generalize w1.heap.size = T at *
  obtain ⟨⟨a0, a1, a2, a3, a4, a5⟩, a6, a7, a8, a9, aa, ab⟩ := cells6 h1.c5
  obtain ⟨⟨b0, b1, b2, b3⟩, b4, b5, b6, b7⟩ := cells4 h1.c8
  obtain ⟨⟨d0, d1, d2, d3⟩, d4, d5, d6, d7⟩ := cells4 h1.c9
  have H1 := Lib.hid h1
  clear h1
  go_wp2_with fail
  refine bodyPost_ret (results_cell_row rfl _ _ (w.heap.size + 1) 25 #[.int .i64 0, .int .i64 (0), .string ⟨#[]⟩, .slice none 0 0] (0, 0) _ rfl (set4 H1.out.c8 _ _ _ _) Try.underlying25 rfl (by kernel_rfl)) rfl ?_
  exact val_post H1.out hsl (mkT 0 0 ⟨#[]⟩ []) (v_leaf 0 0 ⟨#[]⟩) (⟨Or.inr (Or.inr (Or.inr (Or.inr ⟨Or.inl rfl, rfl⟩))), Or.inr rfl, Nat.zero_le _, Or.inl ⟨by show (0 : Int) ≤ 0; decide, by show (0 : Int) ≤ 5; decide, rfl⟩, fun f hf => by cases hf⟩)
set_option maxRecDepth 100000 in
set_option maxHeartbeats 4000000 in
theorem val_num1 (d B s : Nat) (w : World) (nm : ByteArray) (lo hi : Int) (pat : ByteArray) (a : Option Addr) (l c dp : Nat) (hb : 0 ≤ lo ∧ lo ≤ hi ∧ hi ≤ 1) (h : StAt B s w) :
    Calls Try.prog 31 #[.slice none 0 0, .agg #[.int .i64 1, .string nm, .int .i64 lo, .int .i64 hi, .string pat, .slice a l c], .pointer (some ⟨s, 0, none⟩), .int .i64 dp] w (ValPost d B s w) := by
  have wl : IntKind.i64.wrap (hi - lo) = hi - lo := IntWalk.i64_in _ ⟨by omega, by omega⟩
  obtain ⟨M, hM⟩ : ∃ M : Int, M = (if 12 < hi - lo then 12 else hi - lo) := ⟨_, rfl⟩
  have hM1 : 0 ≤ M ∧ M ≤ hi - lo := by split at hM <;> omega
  have wm : IntKind.i64.wrap (M + 1) = M + 1 := IntWalk.i64_in _ ⟨by omega, by omega⟩
  have hM2 := hM.symm
  clear hM
  have hsl := h.lt
  have H := Lib.hid h
  clear h
  go_enter Try.func31, Try.ntmps31
  go_wp2_with fail
  refine (resolve_nil 1 lo hi nm pat a l c (by omega) _).mono ?_
  rintro e w1 ⟨rfl, b1⟩
  obtain ⟨e5, h1⟩ := val_start H.out b1
  obtain ⟨⟨a0, a1, a2, a3, a4, a5⟩, a6, a7, a8, a9, aa, ab⟩ := cells6 e5
  have H1 := Lib.hid h1
  clear b1 e5 h1
  go_upto_region 3 with fail
  have h1 := H1.out
  clear H1
  clear a0 a1 a2 a3 a4 a5 a6 a7 a8 a9 aa ab
  generalize (((((((w1.setCell ⟨w.heap.size, 0, none⟩ (.int .i64 1)).setCell ⟨w.heap.size, 1, none⟩ (.string nm)).setCell ⟨w.heap.size, 2, none⟩ (.int .i64 lo)).setCell ⟨w.heap.size, 3, none⟩ (.int .i64 hi)).setCell ⟨w.heap.size, 4, none⟩ (.string pat)).setCell ⟨w.heap.size, 5, none⟩ (.slice a l c)).alloc (.cells #[.int .i64 1, .int .i64 0, .string ⟨#[]⟩, .slice none 0 0] 25 (0, 0))) = w2 at *
  generalize w1.heap.size = T at *
  obtain ⟨⟨a0, a1, a2, a3, a4, a5⟩, a6, a7, a8, a9, aa, ab⟩ := cells6 h1.c5
  obtain ⟨⟨b0, b1, b2, b3⟩, b4, b5, b6, b7⟩ := cells4 h1.c8
  obtain ⟨⟨d0, d1, d2, d3⟩, d4, d5, d6, d7⟩ := cells4 h1.c9
  obtain ⟨⟨r0, r1, r2, r3, r4, r5⟩, -⟩ := cells6 h1.drew.c5
  have hTw : T ≠ w.heap.size := by have := h1.low; omega
  have H1 := Lib.hid h1
  clear h1
  have HN := Lib.hid (next_any B s (M + 1) (by omega) _ H1.out.drew.st)
  go_upto_region 7 with fail
  go_region_held3 (fun w' => w'.cell? ⟨w.heap.size, 2, none⟩ = some (.int .i64 lo) ∧ w'.cell? ⟨w.heap.size, 3, none⟩ = some (.int .i64 hi)) (first | exact ⟨by assumption, by assumption⟩ | exact ⟨(World.cell?_setCell_far _ _ _ _ hTw).trans (by assumption), (World.cell?_setCell_far _ _ _ _ hTw).trans (by assumption)⟩)
    (first
      | (go_at_call 52; (try rw [wm]); refine HN.out.mono ?_
         rintro e w3 ⟨⟨x, rfl, x0, x1, -⟩, t3, k3, -⟩
         have x2 := x1 (by omega)
         have wx : IntKind.i64.wrap (lo + x) = lo + x := IntWalk.i64_in _ ⟨by omega, by omega⟩
         have h3 := H1.out.drew.step hsl t3 k3
         obtain ⟨⟨p0, p1, p2, p3, p4, p5⟩, -⟩ := cells6 h3.c5
         obtain ⟨⟨q0, q1, q2, q3⟩, q4, q5, q6, q7⟩ := cells4 h3.c9
         have h4 := h3.set hsl 1 (.int .i64 (lo + x)) (n' := lo + x) (str' := ⟨#[]⟩) (v' := .slice none 0 0) rfl
         have H4 := Lib.hid h4
         clear t3 k3 h3 x1))
  all_goals
    have hn4 := next_any B s 4 (by decide) _ H4.out.st
    have HN4 := Lib.hid hn4
    clear hn4
    go_wp2_with fail
    refine HN4.out.mono ?_
    rintro e w5 ⟨⟨y, rfl, y0, y1, -⟩, t5, k5, -⟩
    have h5 := H4.out.step hsl t5 k5
    obtain ⟨⟨m0, m1, m2, m3⟩, m4, m5, m6, m7⟩ := cells4 h5.c8
    obtain ⟨⟨n0, n1, n2, n3⟩, n4, n5, n6, n7⟩ := cells4 h5.c9
    obtain ⟨⟨o0, o1, o2, o3, o4, o5⟩, -⟩ := cells6 h5.c5
    have h6 := h5.set hsl 1 (.int .i64 hi) (n' := hi) (str' := ⟨#[]⟩) (v' := .slice none 0 0) rfl
    obtain ⟨⟨i0, i1, i2, i3⟩, i4, i5, i6, i7⟩ := cells4 h6.c8
    have H5 := Lib.hid (And.intro h5 h6)
    clear t5 k5 h5 h6 y1
    by_cases hy : y = 0
    · have ty : (y == 0) = true := by rw [hy]; rfl
      clear hy
      go_wp2_with fail
      refine bodyPost_ret (results_cell_row rfl _ _ (w.heap.size + 1) 25 #[.int .i64 1, .int .i64 (hi), .string ⟨#[]⟩, .slice none 0 0] (0, 0) _ rfl (set4 H5.out.2.c8 _ _ _ _) Try.underlying25 rfl (by kernel_rfl)) rfl ?_
      exact val_post H5.out.2 hsl (mkT 1 hi ⟨#[]⟩ []) (v_leaf 1 hi ⟨#[]⟩) (⟨by show NumOk 1 hi; unfold NumOk; omega, Or.inr rfl, Nat.zero_le _, Or.inl ⟨by show (0 : Int) ≤ 1; decide, by show (1 : Int) ≤ 5; decide, rfl⟩, fun f hf => by cases hf⟩)
    · have ty : (y == 0) = false := by rw [beq_eq_false_iff_ne]; exact hy
      clear hy
      go_wp2_with fail
      refine bodyPost_ret (results_cell_row rfl _ _ (w.heap.size + 1) 25 #[.int .i64 1, .int .i64 (lo + x), .string ⟨#[]⟩, .slice none 0 0] (0, 0) _ rfl (set4 H5.out.1.c8 _ _ _ _) Try.underlying25 rfl (by kernel_rfl)) rfl ?_
      exact val_post H5.out.1 hsl (mkT 1 (lo + x) ⟨#[]⟩ []) (v_leaf 1 (lo + x) ⟨#[]⟩) (⟨by show NumOk 1 (lo + x); unfold NumOk; omega, Or.inr rfl, Nat.zero_le _, Or.inl ⟨by show (0 : Int) ≤ 1; decide, by show (1 : Int) ≤ 5; decide, rfl⟩, fun f hf => by cases hf⟩)
set_option maxRecDepth 100000 in
set_option maxHeartbeats 4000000 in
theorem val_num2 (d B s : Nat) (w : World) (nm : ByteArray) (lo hi : Int) (pat : ByteArray) (a : Option Addr) (l c dp : Nat) (hb : -9007199254740992 ≤ lo ∧ lo ≤ hi ∧ hi ≤ 9007199254740992) (h : StAt B s w) :
    Calls Try.prog 31 #[.slice none 0 0, .agg #[.int .i64 2, .string nm, .int .i64 lo, .int .i64 hi, .string pat, .slice a l c], .pointer (some ⟨s, 0, none⟩), .int .i64 dp] w (ValPost d B s w) := by
  have wl : IntKind.i64.wrap (hi - lo) = hi - lo := IntWalk.i64_in _ ⟨by omega, by omega⟩
  obtain ⟨M, hM⟩ : ∃ M : Int, M = (if 12 < hi - lo then 12 else hi - lo) := ⟨_, rfl⟩
  have hM1 : 0 ≤ M ∧ M ≤ hi - lo := by split at hM <;> omega
  have wm : IntKind.i64.wrap (M + 1) = M + 1 := IntWalk.i64_in _ ⟨by omega, by omega⟩
  have hM2 := hM.symm
  clear hM
  have hsl := h.lt
  have H := Lib.hid h
  clear h
  go_enter Try.func31, Try.ntmps31
  go_wp2_with fail
  refine (resolve_nil 2 lo hi nm pat a l c (by omega) _).mono ?_
  rintro e w1 ⟨rfl, b1⟩
  obtain ⟨e5, h1⟩ := val_start H.out b1
  obtain ⟨⟨a0, a1, a2, a3, a4, a5⟩, a6, a7, a8, a9, aa, ab⟩ := cells6 e5
  have H1 := Lib.hid h1
  clear b1 e5 h1
  go_upto_region 3 with fail
  have h1 := H1.out
  clear H1
  clear a0 a1 a2 a3 a4 a5 a6 a7 a8 a9 aa ab
  generalize (((((((w1.setCell ⟨w.heap.size, 0, none⟩ (.int .i64 2)).setCell ⟨w.heap.size, 1, none⟩ (.string nm)).setCell ⟨w.heap.size, 2, none⟩ (.int .i64 lo)).setCell ⟨w.heap.size, 3, none⟩ (.int .i64 hi)).setCell ⟨w.heap.size, 4, none⟩ (.string pat)).setCell ⟨w.heap.size, 5, none⟩ (.slice a l c)).alloc (.cells #[.int .i64 2, .int .i64 0, .string ⟨#[]⟩, .slice none 0 0] 25 (0, 0))) = w2 at *
  generalize w1.heap.size = T at *
  obtain ⟨⟨a0, a1, a2, a3, a4, a5⟩, a6, a7, a8, a9, aa, ab⟩ := cells6 h1.c5
  obtain ⟨⟨b0, b1, b2, b3⟩, b4, b5, b6, b7⟩ := cells4 h1.c8
  obtain ⟨⟨d0, d1, d2, d3⟩, d4, d5, d6, d7⟩ := cells4 h1.c9
  obtain ⟨⟨r0, r1, r2, r3, r4, r5⟩, -⟩ := cells6 h1.drew.c5
  have hTw : T ≠ w.heap.size := by have := h1.low; omega
  have H1 := Lib.hid h1
  clear h1
  have HN := Lib.hid (next_any B s (M + 1) (by omega) _ H1.out.drew.st)
  go_upto_region 7 with fail
  go_region_held3 (fun w' => w'.cell? ⟨w.heap.size, 2, none⟩ = some (.int .i64 lo) ∧ w'.cell? ⟨w.heap.size, 3, none⟩ = some (.int .i64 hi)) (first | exact ⟨by assumption, by assumption⟩ | exact ⟨(World.cell?_setCell_far _ _ _ _ hTw).trans (by assumption), (World.cell?_setCell_far _ _ _ _ hTw).trans (by assumption)⟩)
    (first
      | (go_at_call 52; (try rw [wm]); refine HN.out.mono ?_
         rintro e w3 ⟨⟨x, rfl, x0, x1, -⟩, t3, k3, -⟩
         have x2 := x1 (by omega)
         have wx : IntKind.i64.wrap (lo + x) = lo + x := IntWalk.i64_in _ ⟨by omega, by omega⟩
         have h3 := H1.out.drew.step hsl t3 k3
         obtain ⟨⟨p0, p1, p2, p3, p4, p5⟩, -⟩ := cells6 h3.c5
         obtain ⟨⟨q0, q1, q2, q3⟩, q4, q5, q6, q7⟩ := cells4 h3.c9
         have h4 := h3.set hsl 1 (.int .i64 (lo + x)) (n' := lo + x) (str' := ⟨#[]⟩) (v' := .slice none 0 0) rfl
         have H4 := Lib.hid h4
         clear t3 k3 h3 x1))
  all_goals
    have hn4 := next_any B s 4 (by decide) _ H4.out.st
    have HN4 := Lib.hid hn4
    clear hn4
    go_wp2_with fail
    refine HN4.out.mono ?_
    rintro e w5 ⟨⟨y, rfl, y0, y1, -⟩, t5, k5, -⟩
    have h5 := H4.out.step hsl t5 k5
    obtain ⟨⟨m0, m1, m2, m3⟩, m4, m5, m6, m7⟩ := cells4 h5.c8
    obtain ⟨⟨n0, n1, n2, n3⟩, n4, n5, n6, n7⟩ := cells4 h5.c9
    obtain ⟨⟨o0, o1, o2, o3, o4, o5⟩, -⟩ := cells6 h5.c5
    have h6 := h5.set hsl 1 (.int .i64 hi) (n' := hi) (str' := ⟨#[]⟩) (v' := .slice none 0 0) rfl
    obtain ⟨⟨i0, i1, i2, i3⟩, i4, i5, i6, i7⟩ := cells4 h6.c8
    have H5 := Lib.hid (And.intro h5 h6)
    clear t5 k5 h5 h6 y1
    by_cases hy : y = 0
    · have ty : (y == 0) = true := by rw [hy]; rfl
      clear hy
      go_wp2_with fail
      refine bodyPost_ret (results_cell_row rfl _ _ (w.heap.size + 1) 25 #[.int .i64 2, .int .i64 (hi), .string ⟨#[]⟩, .slice none 0 0] (0, 0) _ rfl (set4 H5.out.2.c8 _ _ _ _) Try.underlying25 rfl (by kernel_rfl)) rfl ?_
      exact val_post H5.out.2 hsl (mkT 2 hi ⟨#[]⟩ []) (v_leaf 2 hi ⟨#[]⟩) (⟨by show NumOk 2 hi; unfold NumOk; omega, Or.inr rfl, Nat.zero_le _, Or.inl ⟨by show (0 : Int) ≤ 2; decide, by show (2 : Int) ≤ 5; decide, rfl⟩, fun f hf => by cases hf⟩)
    · have ty : (y == 0) = false := by rw [beq_eq_false_iff_ne]; exact hy
      clear hy
      go_wp2_with fail
      refine bodyPost_ret (results_cell_row rfl _ _ (w.heap.size + 1) 25 #[.int .i64 2, .int .i64 (lo + x), .string ⟨#[]⟩, .slice none 0 0] (0, 0) _ rfl (set4 H5.out.1.c8 _ _ _ _) Try.underlying25 rfl (by kernel_rfl)) rfl ?_
      exact val_post H5.out.1 hsl (mkT 2 (lo + x) ⟨#[]⟩ []) (v_leaf 2 (lo + x) ⟨#[]⟩) (⟨by show NumOk 2 (lo + x); unfold NumOk; omega, Or.inr rfl, Nat.zero_le _, Or.inl ⟨by show (0 : Int) ≤ 2; decide, by show (2 : Int) ≤ 5; decide, rfl⟩, fun f hf => by cases hf⟩)
set_option maxRecDepth 100000 in
set_option maxHeartbeats 4000000 in
theorem val_num4 (d B s : Nat) (w : World) (nm : ByteArray) (lo hi : Int) (pat : ByteArray) (a : Option Addr) (l c dp : Nat) (hb : 0 ≤ lo ∧ lo ≤ hi ∧ hi ≤ 1000000) (h : StAt B s w) :
    Calls Try.prog 31 #[.slice none 0 0, .agg #[.int .i64 4, .string nm, .int .i64 lo, .int .i64 hi, .string pat, .slice a l c], .pointer (some ⟨s, 0, none⟩), .int .i64 dp] w (ValPost d B s w) := by
  have wl : IntKind.i64.wrap (hi - lo) = hi - lo := IntWalk.i64_in _ ⟨by omega, by omega⟩
  obtain ⟨M, hM⟩ : ∃ M : Int, M = (if 12 < hi - lo then 12 else hi - lo) := ⟨_, rfl⟩
  have hM1 : 0 ≤ M ∧ M ≤ hi - lo := by split at hM <;> omega
  have wm : IntKind.i64.wrap (M + 1) = M + 1 := IntWalk.i64_in _ ⟨by omega, by omega⟩
  have hM2 := hM.symm
  clear hM
  have hsl := h.lt
  have H := Lib.hid h
  clear h
  go_enter Try.func31, Try.ntmps31
  go_wp2_with fail
  refine (resolve_nil 4 lo hi nm pat a l c (by omega) _).mono ?_
  rintro e w1 ⟨rfl, b1⟩
  obtain ⟨e5, h1⟩ := val_start H.out b1
  obtain ⟨⟨a0, a1, a2, a3, a4, a5⟩, a6, a7, a8, a9, aa, ab⟩ := cells6 e5
  have H1 := Lib.hid h1
  clear b1 e5 h1
  go_upto_region 3 with fail
  have h1 := H1.out
  clear H1
  clear a0 a1 a2 a3 a4 a5 a6 a7 a8 a9 aa ab
  generalize (((((((w1.setCell ⟨w.heap.size, 0, none⟩ (.int .i64 4)).setCell ⟨w.heap.size, 1, none⟩ (.string nm)).setCell ⟨w.heap.size, 2, none⟩ (.int .i64 lo)).setCell ⟨w.heap.size, 3, none⟩ (.int .i64 hi)).setCell ⟨w.heap.size, 4, none⟩ (.string pat)).setCell ⟨w.heap.size, 5, none⟩ (.slice a l c)).alloc (.cells #[.int .i64 4, .int .i64 0, .string ⟨#[]⟩, .slice none 0 0] 25 (0, 0))) = w2 at *
  generalize w1.heap.size = T at *
  obtain ⟨⟨a0, a1, a2, a3, a4, a5⟩, a6, a7, a8, a9, aa, ab⟩ := cells6 h1.c5
  obtain ⟨⟨b0, b1, b2, b3⟩, b4, b5, b6, b7⟩ := cells4 h1.c8
  obtain ⟨⟨d0, d1, d2, d3⟩, d4, d5, d6, d7⟩ := cells4 h1.c9
  obtain ⟨⟨r0, r1, r2, r3, r4, r5⟩, -⟩ := cells6 h1.drew.c5
  have hTw : T ≠ w.heap.size := by have := h1.low; omega
  have H1 := Lib.hid h1
  clear h1
  have HN := Lib.hid (next_any B s (M + 1) (by omega) _ H1.out.drew.st)
  go_upto_region 7 with fail
  go_region_held3 (fun w' => w'.cell? ⟨w.heap.size, 2, none⟩ = some (.int .i64 lo) ∧ w'.cell? ⟨w.heap.size, 3, none⟩ = some (.int .i64 hi)) (first | exact ⟨by assumption, by assumption⟩ | exact ⟨(World.cell?_setCell_far _ _ _ _ hTw).trans (by assumption), (World.cell?_setCell_far _ _ _ _ hTw).trans (by assumption)⟩)
    (first
      | (go_at_call 52; (try rw [wm]); refine HN.out.mono ?_
         rintro e w3 ⟨⟨x, rfl, x0, x1, -⟩, t3, k3, -⟩
         have x2 := x1 (by omega)
         have wx : IntKind.i64.wrap (lo + x) = lo + x := IntWalk.i64_in _ ⟨by omega, by omega⟩
         have h3 := H1.out.drew.step hsl t3 k3
         obtain ⟨⟨p0, p1, p2, p3, p4, p5⟩, -⟩ := cells6 h3.c5
         obtain ⟨⟨q0, q1, q2, q3⟩, q4, q5, q6, q7⟩ := cells4 h3.c9
         have h4 := h3.set hsl 1 (.int .i64 (lo + x)) (n' := lo + x) (str' := ⟨#[]⟩) (v' := .slice none 0 0) rfl
         have H4 := Lib.hid h4
         clear t3 k3 h3 x1))
  all_goals
    have hn4 := next_any B s 4 (by decide) _ H4.out.st
    have HN4 := Lib.hid hn4
    clear hn4
    go_wp2_with fail
    refine HN4.out.mono ?_
    rintro e w5 ⟨⟨y, rfl, y0, y1, -⟩, t5, k5, -⟩
    have h5 := H4.out.step hsl t5 k5
    obtain ⟨⟨m0, m1, m2, m3⟩, m4, m5, m6, m7⟩ := cells4 h5.c8
    obtain ⟨⟨n0, n1, n2, n3⟩, n4, n5, n6, n7⟩ := cells4 h5.c9
    obtain ⟨⟨o0, o1, o2, o3, o4, o5⟩, -⟩ := cells6 h5.c5
    have h6 := h5.set hsl 1 (.int .i64 hi) (n' := hi) (str' := ⟨#[]⟩) (v' := .slice none 0 0) rfl
    obtain ⟨⟨i0, i1, i2, i3⟩, i4, i5, i6, i7⟩ := cells4 h6.c8
    have H5 := Lib.hid (And.intro h5 h6)
    clear t5 k5 h5 h6 y1
    by_cases hy : y = 0
    · have ty : (y == 0) = true := by rw [hy]; rfl
      clear hy
      go_wp2_with fail
      refine bodyPost_ret (results_cell_row rfl _ _ (w.heap.size + 1) 25 #[.int .i64 4, .int .i64 (hi), .string ⟨#[]⟩, .slice none 0 0] (0, 0) _ rfl (set4 H5.out.2.c8 _ _ _ _) Try.underlying25 rfl (by kernel_rfl)) rfl ?_
      exact val_post H5.out.2 hsl (mkT 4 hi ⟨#[]⟩ []) (v_leaf 4 hi ⟨#[]⟩) (⟨by show NumOk 4 hi; unfold NumOk; omega, Or.inr rfl, Nat.zero_le _, Or.inl ⟨by show (0 : Int) ≤ 4; decide, by show (4 : Int) ≤ 5; decide, rfl⟩, fun f hf => by cases hf⟩)
    · have ty : (y == 0) = false := by rw [beq_eq_false_iff_ne]; exact hy
      clear hy
      go_wp2_with fail
      refine bodyPost_ret (results_cell_row rfl _ _ (w.heap.size + 1) 25 #[.int .i64 4, .int .i64 (lo + x), .string ⟨#[]⟩, .slice none 0 0] (0, 0) _ rfl (set4 H5.out.1.c8 _ _ _ _) Try.underlying25 rfl (by kernel_rfl)) rfl ?_
      exact val_post H5.out.1 hsl (mkT 4 (lo + x) ⟨#[]⟩ []) (v_leaf 4 (lo + x) ⟨#[]⟩) (⟨by show NumOk 4 (lo + x); unfold NumOk; omega, Or.inr rfl, Nat.zero_le _, Or.inl ⟨by show (0 : Int) ≤ 4; decide, by show (4 : Int) ≤ 5; decide, rfl⟩, fun f hf => by cases hf⟩)
set_option maxRecDepth 100000 in
set_option maxHeartbeats 4000000 in
theorem val_float (d B s : Nat) (w : World) (nm : ByteArray) (lo hi : Int) (pat : ByteArray) (a : Option Addr) (l c dp : Nat)  (h : StAt B s w) :
    Calls Try.prog 31 #[.slice none 0 0, .agg #[.int .i64 3, .string nm, .int .i64 lo, .int .i64 hi, .string pat, .slice a l c], .pointer (some ⟨s, 0, none⟩), .int .i64 dp] w (ValPost d B s w) := by
  have hsl := h.lt
  have H := Lib.hid h
  clear h
  go_enter Try.func31, Try.ntmps31
  go_wp2_with fail
  refine (resolve_nil 3 lo hi nm pat a l c (by omega) _).mono ?_
  rintro e w1 ⟨rfl, b1⟩
  obtain ⟨e5, h1⟩ := val_start H.out b1
  obtain ⟨⟨a0, a1, a2, a3, a4, a5⟩, a6, a7, a8, a9, aa, ab⟩ := cells6 e5
  have H1 := Lib.hid h1
  clear b1 e5 h1
  go_upto_region 3 with fail
  have h1 := H1.out
  clear H1
  clear a0 a1 a2 a3 a4 a5 a6 a7 a8 a9 aa ab
  generalize (((((((w1.setCell ⟨w.heap.size, 0, none⟩ (.int .i64 3)).setCell ⟨w.heap.size, 1, none⟩ (.string nm)).setCell ⟨w.heap.size, 2, none⟩ (.int .i64 lo)).setCell ⟨w.heap.size, 3, none⟩ (.int .i64 hi)).setCell ⟨w.heap.size, 4, none⟩ (.string pat)).setCell ⟨w.heap.size, 5, none⟩ (.slice a l c)).alloc (.cells #[.int .i64 3, .int .i64 0, .string ⟨#[]⟩, .slice none 0 0] 25 (0, 0))) = w2 at *
  generalize w1.heap.size = T at *
  obtain ⟨⟨a0, a1, a2, a3, a4, a5⟩, a6, a7, a8, a9, aa, ab⟩ := cells6 h1.c5
  obtain ⟨⟨b0, b1, b2, b3⟩, b4, b5, b6, b7⟩ := cells4 h1.c8
  obtain ⟨⟨d0, d1, d2, d3⟩, d4, d5, d6, d7⟩ := cells4 h1.c9
  have H1 := Lib.hid h1
  clear h1
  have HF := Lib.hid (scalar_float B s _ H1.out.st)
  have hfn := fun W x => field_n W 3 x ByteArray.empty (.slice none 0 0)
  go_wp2_with fail
  refine HF.out.mono ?_
  rintro e w5 ⟨⟨x, hx, rfl⟩, t5, k5⟩
  have h5 := H1.out.step hsl t5 k5
  obtain ⟨⟨n0, n1, n2, n3⟩, n4, n5, n6, n7⟩ := cells4 h5.c9
  have h6 := h5.set hsl 1 (.int .i64 x) (n' := x) (str' := ⟨#[]⟩) (v' := .slice none 0 0) rfl
  obtain ⟨⟨i0, i1, i2, i3⟩, i4, i5, i6, i7⟩ := cells4 h6.c8
  obtain ⟨⟨j0, j1, j2, j3⟩, -⟩ := cells4 h6.c9
  have H5 := Lib.hid (And.intro h6 hx)
  clear t5 k5 h5 h6 hx
  go_wp2_with fail
  refine bodyPost_ret (results_cell_row rfl _ _ (w.heap.size + 1) 25 #[.int .i64 3, .int .i64 (x), .string ⟨#[]⟩, .slice none 0 0] (0, 0) _ rfl (set4 H5.out.1.c8 _ _ _ _) Try.underlying25 rfl (by kernel_rfl)) rfl ?_
  exact val_post H5.out.1 hsl (mkT 3 x ⟨#[]⟩ []) (v_leaf 3 x ⟨#[]⟩) (⟨Or.inr (Or.inr (Or.inl ⟨rfl, float_num H5.out.2⟩)), Or.inr rfl, Nat.zero_le _, Or.inl ⟨by show (0 : Int) ≤ 3; decide, by show (3 : Int) ≤ 5; decide, rfl⟩, fun f hf => by cases hf⟩)
set_option maxRecDepth 100000 in
set_option maxHeartbeats 4000000 in
theorem val_text (d B s : Nat) (w : World) (nm : ByteArray) (lo hi : Int) (pat : ByteArray) (a : Option Addr) (l c dp : Nat) (hp : pat ∈ pats) (h : StAt B s w) :
    Calls Try.prog 31 #[.slice none 0 0, .agg #[.int .i64 5, .string nm, .int .i64 lo, .int .i64 hi, .string pat, .slice a l c], .pointer (some ⟨s, 0, none⟩), .int .i64 dp] w (ValPost d B s w) := by
  have hsl := h.lt
  have H := Lib.hid h
  clear h
  go_enter Try.func31, Try.ntmps31
  go_wp2_with fail
  refine (resolve_nil 5 lo hi nm pat a l c (by omega) _).mono ?_
  rintro e w1 ⟨rfl, b1⟩
  obtain ⟨e5, h1⟩ := val_start H.out b1
  obtain ⟨⟨a0, a1, a2, a3, a4, a5⟩, a6, a7, a8, a9, aa, ab⟩ := cells6 e5
  have H1 := Lib.hid h1
  clear b1 e5 h1
  go_upto_region 3 with fail
  have h1 := H1.out
  clear H1
  clear a0 a1 a2 a3 a4 a5 a6 a7 a8 a9 aa ab
  generalize (((((((w1.setCell ⟨w.heap.size, 0, none⟩ (.int .i64 5)).setCell ⟨w.heap.size, 1, none⟩ (.string nm)).setCell ⟨w.heap.size, 2, none⟩ (.int .i64 lo)).setCell ⟨w.heap.size, 3, none⟩ (.int .i64 hi)).setCell ⟨w.heap.size, 4, none⟩ (.string pat)).setCell ⟨w.heap.size, 5, none⟩ (.slice a l c)).alloc (.cells #[.int .i64 5, .int .i64 0, .string ⟨#[]⟩, .slice none 0 0] 25 (0, 0))) = w2 at *
  generalize w1.heap.size = T at *
  obtain ⟨⟨a0, a1, a2, a3, a4, a5⟩, a6, a7, a8, a9, aa, ab⟩ := cells6 h1.c5
  obtain ⟨⟨b0, b1, b2, b3⟩, b4, b5, b6, b7⟩ := cells4 h1.c8
  obtain ⟨⟨d0, d1, d2, d3⟩, d4, d5, d6, d7⟩ := cells4 h1.c9
  have H1 := Lib.hid h1
  clear h1
  have HF := Lib.hid (sample_any pat hp B s _ H1.out.st)
  go_wp2_with fail
  refine HF.out.mono ?_
  rintro e w5 ⟨⟨x, hx, rfl⟩, t5, k5⟩
  have h5 := H1.out.step hsl t5 k5
  obtain ⟨⟨n0, n1, n2, n3⟩, n4, n5, n6, n7⟩ := cells4 h5.c9
  have h6 := h5.set hsl 2 (.string x) (n' := 0) (str' := x) (v' := .slice none 0 0) rfl
  obtain ⟨⟨i0, i1, i2, i3⟩, i4, i5, i6, i7⟩ := cells4 h6.c8
  obtain ⟨⟨j0, j1, j2, j3⟩, -⟩ := cells4 h6.c9
  have H5 := Lib.hid (And.intro h6 hx)
  clear t5 k5 h5 h6 hx
  go_wp2_with fail
  refine bodyPost_ret (results_cell_row rfl _ _ (w.heap.size + 1) 25 #[.int .i64 5, .int .i64 (0), .string x, .slice none 0 0] (0, 0) _ rfl (set4 H5.out.1.c8 _ _ _ _) Try.underlying25 rfl (by kernel_rfl)) rfl ?_
  exact val_post H5.out.1 hsl (mkT 5 0 x []) (v_leaf 5 0 x) (⟨Or.inr (Or.inr (Or.inr (Or.inr ⟨Or.inr (by show (5 : Int) ≤ 5; decide), rfl⟩))), Or.inl rfl, H5.out.2, Or.inl ⟨by show (0 : Int) ≤ 5; decide, by show (5 : Int) ≤ 5; decide, rfl⟩, fun f hf => by cases hf⟩)

end Go.Proofs.Ytkcpnehhcpmdgaa
