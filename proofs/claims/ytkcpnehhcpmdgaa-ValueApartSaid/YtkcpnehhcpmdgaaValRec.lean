/- clapmake.val without definitions: records; no condition beyond those that stand there. -/
import Derived.Deep.Cut
import Derived.Deep.RegionLaw
import Derived.Deep.RegionHeld3
import Derived.Test.YtkcpnehhcpmdgaaVRow
namespace Go.Proofs.Ytkcpnehhcpmdgaa
open Go.RowKit

set_option maxRecDepth 100000 in
set_option maxHeartbeats 4000000 in
theorem val_record (d B s : Nat) (w : World) (nm : ByteArray) (lo hi : Int) (pat : ByteArray) (a : Option Addr) (l c dp : Nat) (ih : ValSaid d) (S : Nat → Prop) (hS : ∀ k, S k → k ≠ s) (hdp : dp + (d + 1) ≤ 3) (hp : PartsAt d S w 6 a l) (hl : l ≤ 4) (h : StAt B s w) :
    Calls Try.prog 31 #[.slice none 0 0, .agg #[.int .i64 6, .string nm, .int .i64 lo, .int .i64 hi, .string pat, .slice a l c], .pointer (some ⟨s, 0, none⟩), .int .i64 dp] w (ValPost (d + 1) B s w) := by
  have IH := Lib.hid (show ∀ (B s : Nat) (S : Nat → Prop) (w : World) (kd : Int) (nm : ByteArray) (lo hi : Int) (pat : ByteArray) (a : Option Addr) (l c : Nat), StAt B s w → TyIn d S w kd lo hi pat (.slice a l c) → (∀ k, S k → k ≠ s) →
      Calls Try.prog 31 #[.slice none 0 0, .agg #[.int .i64 kd, .string nm, .int .i64 lo, .int .i64 hi, .string pat, .slice a l c], .pointer (some ⟨s, 0, none⟩), .int .i64 ((dp : Int) + 1)] w (ValPost d B s w) from
    fun B s S w kd nm lo hi pat a l c h1 h2 h3 => ih B s S w kd nm lo hi pat a l c (dp + 1) h1 h2 h3 (by omega))
  clear ih
  have HP := Lib.hid hp
  clear hp
  have wdp : IntKind.i64.wrap ((dp : Int) + 1) = (dp : Int) + 1 := IntWalk.i64_in _ ⟨by omega, by omega⟩
  have hsl := h.lt
  have H := Lib.hid h
  clear h
  go_enter Try.func31, Try.ntmps31
  go_wp2_with fail
  refine (resolve_nil 6 lo hi nm pat a l c (by omega) _).mono ?_
  rintro e w1 ⟨rfl, b1⟩
  obtain ⟨e5, h1⟩ := val_start H.out b1
  obtain ⟨⟨a0, a1, a2, a3, a4, a5⟩, a6, a7, a8, a9, aa, ab⟩ := cells6 e5
  have H1 := Lib.hid h1
  clear b1 e5 h1
  go_upto_region 3 with fail
  have h1 := H1.out
  clear H1
  clear a0 a1 a2 a3 a4 a5 a6 a7 a8 a9 aa ab
  generalize (((((((w1.setCell ⟨w.heap.size, 0, none⟩ (.int .i64 6)).setCell ⟨w.heap.size, 1, none⟩ (.string nm)).setCell ⟨w.heap.size, 2, none⟩ (.int .i64 lo)).setCell ⟨w.heap.size, 3, none⟩ (.int .i64 hi)).setCell ⟨w.heap.size, 4, none⟩ (.string pat)).setCell ⟨w.heap.size, 5, none⟩ (.slice a l c)).alloc (.cells #[.int .i64 6, .int .i64 0, .string ⟨#[]⟩, .slice none 0 0] 25 (0, 0))) = w2 at *
  generalize w1.heap.size = T at *
  obtain ⟨⟨a0, a1, a2, a3, a4, a5⟩, a6, a7, a8, a9, aa, ab⟩ := cells6 h1.c5
  obtain ⟨⟨b0, b1, b2, b3⟩, b4, b5, b6, b7⟩ := cells4 h1.c8
  obtain ⟨⟨d0, d1, d2, d3⟩, d4, d5, d6, d7⟩ := cells4 h1.c9
  have H1 := Lib.hid h1
  clear h1
  go_wp2_with fail
  go_loopw [66] (fun iv wr => ∃ (i : Nat) (av : Option Addr) (cv : Nat) (xs : List Value) (fs : List (ByteArray × TVal (d + 1))), iv = .int .i64 i ∧ i ≤ l ∧ fs.length = i ∧ VRow B s w 6 nm lo hi pat (.slice a l c) T (d + 1) (.slice av fs.length cv) xs fs wr ∧ (∀ j, j < fs.length → (fs.map Prod.fst)[j]? = letters[j]?) ∧ ∀ f ∈ fs, OkT (d + 1) f.2) (fun iv _ => l - (intOf iv).toNat)
  case atStart => exact ⟨0, none, 0, [], [], rfl, Nat.zero_le _, rfl, VRow.start H1.out, fun j hj => absurd hj (Nat.not_lt_zero j), fun f hf => by simp at hf⟩
  case round =>
    obtain ⟨i, av, cv, xs, fs, rfl, hil, rfl, hrow, hnames, hoks⟩ := hrel
    have wi : IntKind.i64.wrap ((fs.length : Int) + 1) = (fs.length : Int) + 1 := IntWalk.i64_in _ ⟨by omega, by omega⟩
    by_cases hlt : fs.length < l
    · have ti : (fs.length : Int) < (l : Int) := by omega
      have hni : ((fs.length : Int)).toNat = fs.length := by omega
      obtain ⟨b, pn, kd', nm', lo', hi', pat', a', l', c', rfl, hSb, hbl, hnm, hk10, f0, f1, f2, f3, f4, f5, f6, hty⟩ := (HP.out.keep hrow.at_.keep hS) fs.length hlt
      have hal := (Below.refl wr.heap.size wr).alloc (Nat.le_refl _) (.cells #[.string pn, .int .i64 kd', .string nm', .int .i64 lo', .int .i64 hi', .string pat', .slice a' l' c'] 89 (0, 0))
      have hX := heap_alloc_new wr (.cells #[.string pn, .int .i64 kd', .string nm', .int .i64 lo', .int .i64 hi', .string pat', .slice a' l' c'] 89 (0, 0))
      have hrow2 := hrow.below hsl hal
      have hty2 := hty.keep hal.size fun k h1 h2 => hal.block k h2
      have hown : ∀ k, (Value.slice av fs.length cv).ownBlock = some k → k < (wr.alloc (.cells #[.string pn, .int .i64 kd', .string nm', .int .i64 lo', .int .i64 hi', .string pat', .slice a' l' c'] 89 (0, 0))).heap.size := fun k hk => (World.ownsRow.lt hrow2.row k hk).2
      have hzz : (wr.alloc (.cells #[.string pn, .int .i64 kd', .string nm', .int .i64 lo', .int .i64 hi', .string pat', .slice a' l' c'] 89 (0, 0))).heap.size = wr.heap.size + 1 := by simp
      have hTl := hrow2.lt
      have hsX := hrow.at_.st.lt
      have HR0 := Lib.hid (And.intro hrow2 (And.intro hown (And.intro hty2 hX)))
      clear hrow hrow2 hown hty hty2 hal hX
      go_upto_region 18 with fail
      have hr0 := HR0.out
      clear HR0 f0 f1 f2 f3 f4 f5 f6
      generalize (wr.alloc (.cells #[.string pn, .int .i64 kd', .string nm', .int .i64 lo', .int .i64 hi', .string pat', .slice a' l' c'] 89 (0, 0))) = wc at *
      obtain ⟨hrow, hown, hty, hX⟩ := hr0
      obtain ⟨x0, x1, x2, x3, x4, x5, x6⟩ := cells7 (w := wc.drew) hX
      obtain ⟨⟨b0, b1, b2, b3⟩, b4, b5, b6, b7⟩ := cells4 hrow.drew.at_.c9
      have HR := Lib.hid (And.intro hrow.drew (And.intro hown (TyIn.keep hty (Nat.le_refl _) (w' := wc.drew) fun _ _ _ => rfl)))
      have HX := Lib.hid hX
      clear hrow hown hty hX
      go_region_law (first
        | (refine step_append_el elem_field rfl _ _ 23 rfl Try.underlying23 (T + 1) _ fs.length xs rfl (H5.out.1.row.alloc _) (by omega) w5.heap.size 1 (fieldCells pn k5 n5 str5 (.slice aq t5.fs.length cq)) rfl rfl (heap_alloc_new w5 _) (by simp [fieldCells, Value.oneCell']) (by have := H5.out.1.lt; simp; omega) ?_
           intro g cap w7 hrow7 hg7 hv7
           have hb7 := ((Below.refl (T + 1) w5).alloc (by have := H5.out.1.lt; omega) _).grown hg7 (by have := H5.out.1.lt; simp; omega) (fun k hk => (World.ownsRow.lt (H5.out.1.row.alloc (.cells (fieldCells pn k5 n5 str5 (.slice aq t5.fs.length cq)).toArray 33 (0, 0))) k hk).1)
           obtain ⟨⟨f0, f1, f2, f3⟩, f4, f5, f6, f7⟩ := cells4 ((hb7.block _ (Nat.lt_succ_self _)).trans H5.out.1.at_.c9)
           have h8 := H5.out.1.app hsl _ pn k5 n5 str5 (.slice aq t5.fs.length cq) t5 g cap wc.heap.size hTl HR.out.2.1 H5.out.2.1 hrow7 hg7 (hv7.imp id (fun h => by simp at h; omega))
           have H8 := Lib.hid h8
           clear hb7 h8 hrow7 hg7 hv7)
        | (go_simp; go_at_call 31; (try rw [wdp]); refine (IH.out B s S _ kd' nm' lo' hi' pat' a' l' c' HR.out.1.at_.st HR.out.2.2 hS).mono ?_
           rintro e w5 ⟨⟨t5, k5, n5, str5, q5, rfl, hv5, hok5⟩, tt, kt⟩
           obtain ⟨aq, cq, rfl, -⟩ := hv5.slice
           have h5 := HR.out.1.step hsl tt kt
           obtain ⟨⟨g0, g1, g2, g3⟩, g4, g5, g6, g7⟩ := cells4 h5.at_.c9
           have ey := fun o => Lib.cell?_alloc_some (W := w5) o g3
           have hXb := (kt.block wr.heap.size (by show wr.heap.size < wc.heap.size; omega) (by omega)).trans HX.out
           obtain ⟨y0, y1, y2, y3, y4, y5, y6⟩ := cells7 hXb
           have H5 := Lib.hid (And.intro h5 (And.intro hv5 hok5))
           clear tt kt h5 hv5 hok5
           unfold vV))
      all_goals
        go_wp2_with fail
        refine ⟨⟨fs.length + 1, _, _, _, fs ++ [(pn, t5)], by simp, by omega, by simp, by rw [List.length_append]; exact H8.out, ?_, ?_⟩, by simp [intOf]; omega⟩
        · exact names_last hnames (hnm.1 rfl)
        · exact oks_last hoks H5.out.2.2
    · have ti : decide ((fs.length : Int) < (l : Int)) = false := decide_eq_false (by omega)
      obtain ⟨⟨b0, b1, b2, b3⟩, b4, b5, b6, b7⟩ := cells4 hrow.at_.c9
      obtain ⟨⟨m0, m1, m2, m3⟩, m4, m5, m6, m7⟩ := cells4 hrow.at_.c8
      have HR := Lib.hid hrow
      clear hrow
      go_wp2_with fail
      refine bodyPost_ret (results_cell_row rfl _ _ (w.heap.size + 1) 25 #[.int .i64 6, .int .i64 (0), .string ⟨#[]⟩, .slice av fs.length cv] (0, 0) _ rfl (set4 HR.out.at_.c8 _ _ _ _) Try.underlying25 rfl (by kernel_rfl)) rfl ?_
      exact val_post HR.out.at_ hsl (mkT 6 0 ⟨#[]⟩ fs) (HR.out.isV) (⟨Or.inr (Or.inr (Or.inr (Or.inr ⟨Or.inr (by show (5 : Int) ≤ 6; decide), rfl⟩))), Or.inr rfl, Nat.zero_le _, Or.inr (Or.inl ⟨rfl, by show (fs.map Prod.fst).length ≤ 4; rw [List.length_map]; omega, by show ∀ i, i < (fs.map Prod.fst).length → (fs.map Prod.fst)[i]? = letters[i]?; rw [List.length_map]; exact hnames⟩), hoks⟩)

end Go.Proofs.Ytkcpnehhcpmdgaa
