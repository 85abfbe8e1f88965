/- clapmake.val without definitions: lists; no condition beyond those that stand there. -/
import Derived.Deep.Cut
import Derived.Deep.RegionLaw
import Derived.Deep.RegionHeld3
import Derived.Test.YtkcpnehhcpmdgaaVRow
namespace Go.Proofs.Ytkcpnehhcpmdgaa
open Go.RowKit

set_option maxRecDepth 100000 in
set_option maxHeartbeats 4000000 in
theorem val_list (d B s : Nat) (w : World) (nm : ByteArray) (lo hi : Int) (pat : ByteArray) (a : Option Addr) (l c dp : Nat) (ih : ValSaid d) (S : Nat → Prop) (hS : ∀ k, S k → k ≠ s) (hdp : dp + (d + 1) ≤ 3) (hp : PartsAt d S w 8 a l) (hl : 0 < l) (hb : 0 ≤ lo ∧ lo ≤ 2 ∧ lo ≤ hi ∧ hi ≤ lo + 2) (h : StAt B s w) :
    Calls Try.prog 31 #[.slice none 0 0, .agg #[.int .i64 8, .string nm, .int .i64 lo, .int .i64 hi, .string pat, .slice a l c], .pointer (some ⟨s, 0, none⟩), .int .i64 dp] w (ValPost (d + 1) B s w) := by
  have IH := Lib.hid (show ∀ (B s : Nat) (S : Nat → Prop) (w : World) (kd : Int) (nm : ByteArray) (lo hi : Int) (pat : ByteArray) (a : Option Addr) (l c : Nat), StAt B s w → TyIn d S w kd lo hi pat (.slice a l c) → (∀ k, S k → k ≠ s) →
      Calls Try.prog 31 #[.slice none 0 0, .agg #[.int .i64 kd, .string nm, .int .i64 lo, .int .i64 hi, .string pat, .slice a l c], .pointer (some ⟨s, 0, none⟩), .int .i64 ((dp : Int) + 1)] w (ValPost d B s w) from
    fun B s S w kd nm lo hi pat a l c h1 h2 h3 => ih B s S w kd nm lo hi pat a l c (dp + 1) h1 h2 h3 (by omega))
  clear ih
  have HP := Lib.hid hp
  clear hp
  have wdp : IntKind.i64.wrap ((dp : Int) + 1) = (dp : Int) + 1 := IntWalk.i64_in _ ⟨by omega, by omega⟩
  have wl : IntKind.i64.wrap (hi - lo) = hi - lo := IntWalk.i64_in _ ⟨by omega, by omega⟩
  have hM2 : (if 3 < hi - lo then 3 else hi - lo) = hi - lo := if_neg (by omega)
  have wm : IntKind.i64.wrap (hi - lo + 1) = hi - lo + 1 := IntWalk.i64_in _ ⟨by omega, by omega⟩
  have tdp : (dp : Int) < 4 := by omega
  have hsl := h.lt
  have H := Lib.hid h
  clear h
  go_enter Try.func31, Try.ntmps31
  go_wp2_with fail
  refine (resolve_nil 8 lo hi nm pat a l c (by omega) _).mono ?_
  rintro e w1 ⟨rfl, b1⟩
  obtain ⟨e5, h1⟩ := val_start H.out b1
  obtain ⟨⟨a0, a1, a2, a3, a4, a5⟩, a6, a7, a8, a9, aa, ab⟩ := cells6 e5
  have H1 := Lib.hid h1
  clear b1 e5 h1
  go_upto_region 3 with fail
  have h1 := H1.out
  clear H1
  clear a0 a1 a2 a3 a4 a5 a6 a7 a8 a9 aa ab
  generalize (((((((w1.setCell ⟨w.heap.size, 0, none⟩ (.int .i64 8)).setCell ⟨w.heap.size, 1, none⟩ (.string nm)).setCell ⟨w.heap.size, 2, none⟩ (.int .i64 lo)).setCell ⟨w.heap.size, 3, none⟩ (.int .i64 hi)).setCell ⟨w.heap.size, 4, none⟩ (.string pat)).setCell ⟨w.heap.size, 5, none⟩ (.slice a l c)).alloc (.cells #[.int .i64 8, .int .i64 0, .string ⟨#[]⟩, .slice none 0 0] 25 (0, 0))) = w2 at *
  generalize w1.heap.size = T at *
  obtain ⟨⟨a0, a1, a2, a3, a4, a5⟩, a6, a7, a8, a9, aa, ab⟩ := cells6 h1.c5
  obtain ⟨⟨b0, b1, b2, b3⟩, b4, b5, b6, b7⟩ := cells4 h1.c8
  obtain ⟨⟨d0, d1, d2, d3⟩, d4, d5, d6, d7⟩ := cells4 h1.c9
  have H1 := Lib.hid h1
  clear h1
  have HN := Lib.hid (next_any B s (hi - lo + 1) (by omega) _ H1.out.st)
  go_wp2_with fail
  refine HN.out.mono ?_
  rintro e w3 ⟨⟨x, rfl, x0, x1, -⟩, t3, k3, -⟩
  have x2 := x1 (by omega)
  obtain ⟨m, hm⟩ : ∃ m : Nat, lo + x = m := ⟨(lo + x).toNat, by omega⟩
  have wx : IntKind.i64.wrap (lo + x) = (m : Int) := by rw [hm]; exact IntWalk.i64_in _ ⟨by omega, by omega⟩
  have hm4 : m ≤ 4 := by omega
  have h3 := H1.out.step hsl t3 k3
  have H3 := Lib.hid h3
  clear t3 k3 h3 x1
  go_wp2_with fail
  go_loopw [133] (fun iv wr => ∃ (i : Nat) (av : Option Addr) (cv : Nat) (xs : List Value) (fs : List (ByteArray × TVal (d + 1))), iv = .int .i64 i ∧ i ≤ m ∧ fs.length = i ∧ VRow B s w 8 nm lo hi pat (.slice a l c) T (d + 1) (.slice av fs.length cv) xs fs wr ∧ (∀ y ∈ fs.map Prod.fst, y = ⟨#[]⟩) ∧ ∀ f ∈ fs, OkT (d + 1) f.2) (fun iv _ => m - (intOf iv).toNat)
  case atStart => exact ⟨0, none, 0, [], [], rfl, Nat.zero_le _, rfl, VRow.start H3.out, fun y hy => by simp at hy, fun f hf => by simp at hf⟩
  case round =>
    obtain ⟨i, av, cv, xs, fs, rfl, hil, rfl, hrow, hnames, hoks⟩ := hrel
    have wi : IntKind.i64.wrap ((fs.length : Int) + 1) = (fs.length : Int) + 1 := IntWalk.i64_in _ ⟨by omega, by omega⟩
    by_cases hlt : fs.length < m
    · have ti : (fs.length : Int) < (m : Int) := by omega
      have tl : (0 : Int) < (l : Int) := by omega
      have tl2 : 0 < l := by omega
      obtain ⟨b, pn, kd', nm', lo', hi', pat', a', l', c', rfl, hSb, hbl, hnm, hk10, f0, f1, f2, f3, f4, f5, f6, hty⟩ := (HP.out.keep hrow.drew.at_.keep hS) 0 (by omega)
      rw [Nat.zero_mul, Nat.zero_add] at f1 f2 f3 f4 f5 f6
      rw [Nat.zero_mul] at f0
      have hTl := hrow.lt
      have hown : ∀ k, (Value.slice av fs.length cv).ownBlock = some k → k < wr.heap.size := fun k hk => (World.ownsRow.lt hrow.row k hk).2
      obtain ⟨⟨b0, b1, b2, b3⟩, b4, b5, b6, b7⟩ := cells4 hrow.drew.at_.c9
      obtain ⟨⟨x0, x1, x2, x3, x4, x5⟩, -⟩ := cells6 hrow.drew.at_.c5
      have HR := Lib.hid (And.intro hrow.drew (And.intro hown hty))
      clear hrow hown hty
      go_upto_region 31 with fail
      go_region_law (first
        | (refine step_append_el elem_field rfl _ _ 23 rfl Try.underlying23 (T + 1) _ fs.length xs rfl (H5.out.1.row.alloc _) (by omega) w5.heap.size 1 (fieldCells ⟨#[]⟩ k5 n5 str5 (.slice aq t5.fs.length cq)) rfl rfl (heap_alloc_new w5 _) (by simp [fieldCells, Value.oneCell']) (by have := H5.out.1.lt; simp; omega) ?_
           intro g cap w7 hrow7 hg7 hv7
           have hb7 := ((Below.refl (T + 1) w5).alloc (by have := H5.out.1.lt; omega) _).grown hg7 (by have := H5.out.1.lt; simp; omega) (fun k hk => (World.ownsRow.lt (H5.out.1.row.alloc (.cells (fieldCells ⟨#[]⟩ k5 n5 str5 (.slice aq t5.fs.length cq)).toArray 33 (0, 0))) k hk).1)
           obtain ⟨⟨f0, f1, f2, f3⟩, f4, f5, f6, f7⟩ := cells4 ((hb7.block _ (Nat.lt_succ_self _)).trans H5.out.1.at_.c9)
           have h8 := H5.out.1.app hsl _ ⟨#[]⟩ k5 n5 str5 (.slice aq t5.fs.length cq) t5 g cap wr.heap.size hTl HR.out.2.1 H5.out.2.1 hrow7 hg7 (hv7.imp id (fun h => by simp at h; omega))
           have H8 := Lib.hid h8
           clear hb7 h8 hrow7 hg7 hv7)
        | (go_simp; go_at_call 31; (try rw [wdp]); refine (IH.out B s S _ kd' nm' lo' hi' pat' a' l' c' HR.out.1.at_.st HR.out.2.2 hS).mono ?_
           rintro e w5 ⟨⟨t5, k5, n5, str5, q5, rfl, hv5, hok5⟩, tt, kt⟩
           obtain ⟨aq, cq, rfl, -⟩ := hv5.slice
           have h5 := HR.out.1.step hsl tt kt
           obtain ⟨⟨g0, g1, g2, g3⟩, g4, g5, g6, g7⟩ := cells4 h5.at_.c9
           have ey := fun o => Lib.cell?_alloc_some (W := w5) o g3
           have hXb := kt.block b hbl (hS b hSb)
           have y1 := (World.cell?_of_block (a := ⟨b, 1, none⟩) hXb).trans f1
           have y2 := (World.cell?_of_block (a := ⟨b, 2, none⟩) hXb).trans f2
           have y3 := (World.cell?_of_block (a := ⟨b, 3, none⟩) hXb).trans f3
           have y4 := (World.cell?_of_block (a := ⟨b, 4, none⟩) hXb).trans f4
           have y5 := (World.cell?_of_block (a := ⟨b, 5, none⟩) hXb).trans f5
           have y6 := (World.cell?_of_block (a := ⟨b, 6, none⟩) hXb).trans f6
           obtain ⟨⟨z0, z1, z2, z3, z4, z5⟩, -⟩ := cells6 h5.at_.c5
           have H5 := Lib.hid (And.intro h5 (And.intro hv5 hok5))
           clear tt kt h5 hv5 hok5
           unfold vV))
      all_goals
        go_wp2_with fail
        refine ⟨⟨fs.length + 1, _, _, _, fs ++ [(⟨#[]⟩, t5)], by simp, by omega, by simp, by rw [List.length_append]; exact H8.out, ?_, ?_⟩, by simp [intOf]; omega⟩
        · intro y hy
          rw [List.map_append] at hy
          rcases List.mem_append.1 hy with h1 | h1
          · exact hnames y h1
          · simpa using h1
        · exact oks_last hoks H5.out.2.2
    · have ti : decide ((fs.length : Int) < (m : Int)) = false := decide_eq_false (by omega)
      obtain ⟨⟨b0, b1, b2, b3⟩, b4, b5, b6, b7⟩ := cells4 hrow.at_.c9
      obtain ⟨⟨m0, m1, m2, m3⟩, m4, m5, m6, m7⟩ := cells4 hrow.at_.c8
      have HR := Lib.hid hrow
      clear hrow
      go_wp2_with fail
      refine bodyPost_ret (results_cell_row rfl _ _ (w.heap.size + 1) 25 #[.int .i64 8, .int .i64 (0), .string ⟨#[]⟩, .slice av fs.length cv] (0, 0) _ rfl (set4 HR.out.at_.c8 _ _ _ _) Try.underlying25 rfl (by kernel_rfl)) rfl ?_
      exact val_post HR.out.at_ hsl (mkT 8 0 ⟨#[]⟩ fs) (HR.out.isV) (⟨Or.inr (Or.inr (Or.inr (Or.inr ⟨Or.inr (by show (5 : Int) ≤ 8; decide), rfl⟩))), Or.inr rfl, Nat.zero_le _, Or.inr (Or.inr (Or.inr (Or.inl ⟨rfl, by show (fs.map Prod.fst).length ≤ 4; rw [List.length_map]; omega, hnames⟩))), hoks⟩)

end Go.Proofs.Ytkcpnehhcpmdgaa
