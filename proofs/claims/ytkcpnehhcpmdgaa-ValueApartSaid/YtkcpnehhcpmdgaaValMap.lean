/- clapmake.val without definitions: maps; no condition beyond those that stand there. -/
import Derived.Deep.Cut
import Derived.Deep.RegionLaw
import Derived.Deep.RegionHeld3
import Derived.Test.YtkcpnehhcpmdgaaVRow
namespace Go.Proofs.Ytkcpnehhcpmdgaa
open Go.RowKit

theorem conv1d (w : World) (y : Int) : ∀ dst, Try.prog.underlying dst = some .string → (convert 90 dst (.slice (some ⟨w.heap.size, 0, none⟩) 1 1)).run Try.prog (w.alloc (.cells #[.int .u8 y] 5 (0, 0))).drew = .ok (.string (strOfNums [y])) (w.alloc (.cells #[.int .u8 y] 5 (0, 0))).drew :=
  run_convert_bytes_arg (P := Try.prog) (w.alloc (.cells #[.int .u8 y] 5 (0, 0))).drew 90 5 Try.underlying90 Try.underlying5 w.heap.size 0 1 1 [y] rfl (fun i hi => by
    obtain rfl : i = 0 := by omega
    show World.cell? (w.alloc (.cells #[.int .u8 y] 5 (0, 0))) ⟨w.heap.size, 0, none⟩ = _
    rw [Lib.cell_of_heap (heap_alloc_new w _)]; rfl)
theorem mnames_last {d q : Nat} {fs : List (ByteArray × TVal d)} {nm : ByteArray} {t : TVal d} (h : ∀ j, j < fs.length → (fs.map Prod.fst)[j]? = some ⟨#[UInt8.ofNat (97 + q + j)]⟩) (hn : nm = ⟨#[UInt8.ofNat (97 + q + fs.length)]⟩) : ∀ j, j < (fs ++ [(nm, t)]).length → ((fs ++ [(nm, t)]).map Prod.fst)[j]? = some ⟨#[UInt8.ofNat (97 + q + j)]⟩ := by
  intro j hj
  rw [List.length_append, List.length_singleton] at hj
  rw [List.map_append]
  rcases Nat.lt_or_ge j fs.length with h1 | h1
  · rw [List.getElem?_append_left (by rw [List.length_map]; exact h1)]
    exact h j h1
  · obtain rfl : j = fs.length := by omega
    rw [List.getElem?_append_right (by rw [List.length_map]; exact Nat.le_refl _), List.length_map, Nat.sub_self, ← hn]
    rfl
theorem str_one (n : Nat) : strOfNums [(n : Int)] = ⟨#[UInt8.ofNat n]⟩ := by simp [strOfNums]

set_option maxRecDepth 100000 in
set_option maxHeartbeats 40000000 in
theorem val_map (d B s : Nat) (w : World) (nm : ByteArray) (lo hi : Int) (pat : ByteArray) (a : Option Addr) (l c dp : Nat) (ih : ValSaid d) (S : Nat → Prop) (hS : ∀ k, S k → k ≠ s) (hdp : dp + (d + 1) ≤ 3) (hp : PartsAt d S w 9 a l) (hl : 0 < l) (hb : 0 ≤ lo ∧ lo ≤ 1 ∧ 2 ≤ hi ∧ hi ≤ 3) (h : StAt B s w) :
    Calls Try.prog 31 #[.slice none 0 0, .agg #[.int .i64 9, .string nm, .int .i64 lo, .int .i64 hi, .string pat, .slice a l c], .pointer (some ⟨s, 0, none⟩), .int .i64 dp] w (ValPost (d + 1) B s w) := by
  have IH := Lib.hid (show ∀ (B s : Nat) (S : Nat → Prop) (w : World) (kd : Int) (nm : ByteArray) (lo hi : Int) (pat : ByteArray) (a : Option Addr) (l c : Nat), StAt B s w → TyIn d S w kd lo hi pat (.slice a l c) → (∀ k, S k → k ≠ s) →
      Calls Try.prog 31 #[.slice none 0 0, .agg #[.int .i64 kd, .string nm, .int .i64 lo, .int .i64 hi, .string pat, .slice a l c], .pointer (some ⟨s, 0, none⟩), .int .i64 ((dp : Int) + 1)] w (ValPost d B s w) from
    fun B s S w kd nm lo hi pat a l c h1 h2 h3 => ih B s S w kd nm lo hi pat a l c (dp + 1) h1 h2 h3 (by omega))
  clear ih
  have HP := Lib.hid hp
  clear hp
  have wdp : IntKind.i64.wrap ((dp : Int) + 1) = (dp : Int) + 1 := IntWalk.i64_in _ ⟨by omega, by omega⟩
  have wl : IntKind.i64.wrap (hi - lo) = hi - lo := IntWalk.i64_in _ ⟨by omega, by omega⟩
  have hM2 : (if 3 < hi - lo then 3 else hi - lo) = hi - lo := if_neg (by omega)
  have wm : IntKind.i64.wrap (hi - lo + 1) = hi - lo + 1 := IntWalk.i64_in _ ⟨by omega, by omega⟩
  have hsl := h.lt
  have H := Lib.hid h
  clear h
  go_enter Try.func31, Try.ntmps31
  go_wp2_with fail
  refine (resolve_nil 9 lo hi nm pat a l c (by omega) _).mono ?_
  rintro e w1 ⟨rfl, b1⟩
  obtain ⟨e5, h1⟩ := val_start H.out b1
  obtain ⟨⟨a0, a1, a2, a3, a4, a5⟩, a6, a7, a8, a9, aa, ab⟩ := cells6 e5
  have H1 := Lib.hid h1
  clear b1 e5 h1
  go_upto_region 3 with fail
  have h1 := H1.out
  clear H1
  clear a0 a1 a2 a3 a4 a5 a6 a7 a8 a9 aa ab
  generalize (((((((w1.setCell ⟨w.heap.size, 0, none⟩ (.int .i64 9)).setCell ⟨w.heap.size, 1, none⟩ (.string nm)).setCell ⟨w.heap.size, 2, none⟩ (.int .i64 lo)).setCell ⟨w.heap.size, 3, none⟩ (.int .i64 hi)).setCell ⟨w.heap.size, 4, none⟩ (.string pat)).setCell ⟨w.heap.size, 5, none⟩ (.slice a l c)).alloc (.cells #[.int .i64 9, .int .i64 0, .string ⟨#[]⟩, .slice none 0 0] 25 (0, 0))) = w2 at *
  generalize w1.heap.size = T at *
  obtain ⟨⟨a0, a1, a2, a3, a4, a5⟩, a6, a7, a8, a9, aa, ab⟩ := cells6 h1.c5
  obtain ⟨⟨b0, b1, b2, b3⟩, b4, b5, b6, b7⟩ := cells4 h1.c8
  obtain ⟨⟨d0, d1, d2, d3⟩, d4, d5, d6, d7⟩ := cells4 h1.c9
  obtain ⟨⟨r0, r1, r2, r3, r4, r5⟩, -⟩ := cells6 h1.drew.c5
  have H1 := Lib.hid h1
  clear h1
  have HN := Lib.hid (next_any B s (hi - lo + 1) (by omega) _ H1.out.drew.st)
  go_upto_region 34 with fail
  go_region_held3 (fun w' => w'.cell? ⟨w.heap.size, 2, none⟩ = some (.int .i64 lo) ∧ w'.cell? ⟨w.heap.size, 3, none⟩ = some (.int .i64 hi)) (exact ⟨by assumption, by assumption⟩)
    (first
      | (go_at_call 52; (try rw [wm]); refine HN.out.mono ?_
         rintro e w3 ⟨⟨x, rfl, x0, x1, -⟩, t3, k3, -⟩
         have x2 := x1 (by omega)
         obtain ⟨m, hm⟩ : ∃ m : Nat, lo + x = m := ⟨(lo + x).toNat, by omega⟩
         have wx : IntKind.i64.wrap (lo + x) = (m : Int) := by rw [hm]; exact IntWalk.i64_in _ ⟨by omega, by omega⟩
         have hm3 : m ≤ 3 := by omega
         have wm2 : IntKind.i64.wrap (m : Int) = (m : Int) := IntWalk.i64_in _ ⟨by omega, by omega⟩
         have HM := Lib.hid hm
         clear hm
         have h3 := H1.out.drew.step hsl t3 k3
         obtain ⟨⟨p0, p1, p2, p3, p4, p5⟩, -⟩ := cells6 h3.c5
         have H3 := Lib.hid h3
         clear t3 k3 h3 x1))
  have w6 : IntKind.i64.wrap (6 - (m : Int)) = 6 - (m : Int) := IntWalk.i64_in _ ⟨by omega, by omega⟩
  have hK1 : (if (1 : Int) < 6 - (m : Int) then 6 - (m : Int) else 1) = 6 - (m : Int) := if_pos (by omega)
  have hK2 : (if 6 - (m : Int) < 1 then (1 : Int) else 6 - (m : Int)) = 6 - (m : Int) := if_neg (by omega)
  have HN2 := Lib.hid (next_any B s (6 - (m : Int)) (by omega) _ H3.out.st)
  go_wp2_with fail
  refine HN2.out.mono ?_
  rintro e w4 ⟨⟨z0, rfl, z1, z2, -⟩, t4, k4, -⟩
  have z3 := z2 (by omega)
  obtain ⟨q, rfl⟩ : ∃ q : Nat, z0 = q := ⟨z0.toNat, by omega⟩
  have hq5 : q ≤ 5 := by omega
  have h4 := H3.out.step hsl t4 k4
  have H4 := Lib.hid h4
  clear t4 k4 h4 z2
  go_wp2_with fail
  go_loopw [172] (fun iv wr => ∃ (i : Nat) (av : Option Addr) (cv : Nat) (xs : List Value) (fs : List (ByteArray × TVal (d + 1))), iv = .int .i64 i ∧ i ≤ m ∧ fs.length = i ∧ VRow B s w 9 nm lo hi pat (.slice a l c) T (d + 1) (.slice av fs.length cv) xs fs wr ∧ (∀ j, j < fs.length → (fs.map Prod.fst)[j]? = some ⟨#[UInt8.ofNat (97 + q + j)]⟩) ∧ ∀ f ∈ fs, OkT (d + 1) f.2) (fun iv _ => m - (intOf iv).toNat)
  case atStart => exact ⟨0, none, 0, [], [], rfl, Nat.zero_le _, rfl, VRow.start H4.out, fun j hj => absurd hj (Nat.not_lt_zero j), fun f hf => by simp at hf⟩
  case round =>
    obtain ⟨i, av, cv, xs, fs, rfl, hil, rfl, hrow, hnames, hoks⟩ := hrel
    have wi : IntKind.i64.wrap ((fs.length : Int) + 1) = (fs.length : Int) + 1 := IntWalk.i64_in _ ⟨by omega, by omega⟩
    by_cases hlt : fs.length < m
    · have ti : (fs.length : Int) < (m : Int) := by omega
      obtain ⟨z, hz⟩ : ∃ z : Nat, z = q + fs.length := ⟨_, rfl⟩
      obtain ⟨y, hy⟩ : ∃ y : Nat, y = 97 + z := ⟨_, rfl⟩
      have wqi : IntKind.i64.wrap ((q : Int) + (fs.length : Int)) = (z : Int) := by rw [IntWalk.i64_in _ ⟨by omega, by omega⟩]; omega
      have wu : IntKind.u8.wrap (z : Int) = (z : Int) := by unfold IntKind.wrap; simp [IntKind.bits, IntKind.signed]; omega
      have wv : IntKind.u8.wrap (97 + (z : Int)) = (y : Int) := by unfold IntKind.wrap; simp [IntKind.bits, IntKind.signed]; omega
      have HY := Lib.hid (And.intro hz hy)
      clear hz hy
      have tl : (0 : Int) < (l : Int) := by omega
      obtain ⟨b, pn, kd', nm', lo', hi', pat', a', l', c', rfl, hSb, hbl, hnm, hk10, f0, f1, f2, f3, f4, f5, f6, hty⟩ := (HP.out.keep hrow.at_.keep hS) 0 (by omega)
      rw [Nat.zero_mul, Nat.zero_add] at f1 f2 f3 f4 f5 f6
      have hTl := hrow.lt
      have hTw : w.heap.size ≠ T := by have := hrow.at_.low; omega
      obtain ⟨b', _, _, _, _, _, _, _, _, _, eb, _, hbw, _⟩ := HP.out 0 hl
      obtain rfl : b = b' := by simpa using eb
      have hbT2 : b < T := by have := hrow.at_.low; omega
      have hTb : b ≠ T := by omega
      clear eb
      have hown : ∀ k, (Value.slice av fs.length cv).ownBlock = some k → k < wr.heap.size := fun k hk => (World.ownsRow.lt hrow.row k hk).2
      have c5w := hrow.at_.c5
      have hww : w.heap.size < wr.heap.size := lt_of_block c5w
      have HS := fun (w' : World) (h : w'.heap[w.heap.size]? = wr.heap[w.heap.size]? ∧ w'.heap[b]? = wr.heap[b]?) => And.intro (World.cell?_of_block (a := ⟨w.heap.size, 5, none⟩) h.1 |>.trans (cells6 c5w).1.2.2.2.2.2) (And.intro ((World.cell?_of_block (a := ⟨b, 1, none⟩) h.2).trans f1) (And.intro ((World.cell?_of_block (a := ⟨b, 2, none⟩) h.2).trans f2) (And.intro ((World.cell?_of_block (a := ⟨b, 3, none⟩) h.2).trans f3) (And.intro ((World.cell?_of_block (a := ⟨b, 4, none⟩) h.2).trans f4) (And.intro ((World.cell?_of_block (a := ⟨b, 5, none⟩) h.2).trans f5) ((World.cell?_of_block (a := ⟨b, 6, none⟩) h.2).trans f6))))))
      obtain ⟨⟨b0, b1, b2, b3⟩, b4, b5, b6, b7⟩ := cells4 hrow.drew.at_.c9
      have hbT := (cells4 (hrow.below hsl ((Below.refl wr.heap.size wr).alloc (Nat.le_refl _) (.cells #[.int .u8 (y : Int)] 5 (0, 0)))).drew.at_.c9)
      obtain ⟨⟨e0, e1, e2, e3⟩, -⟩ := hbT
      have hrA := (hrow.below hsl ((Below.refl wr.heap.size wr).alloc (Nat.le_refl _) (.cells #[.int .u8 (y : Int)] 5 (0, 0)))).drew
      have HR := Lib.hid (And.intro hrow.drew (TyIn.keep hty (Nat.le_refl _) (w' := wr.drew) fun _ _ _ => rfl))
      have HRa := Lib.hid (And.intro hrA (TyIn.keep hty (w' := (wr.alloc (.cells #[.int .u8 (y : Int)] 5 (0, 0))).drew) (by show wr.heap.size ≤ (wr.alloc (.cells #[.int .u8 (y : Int)] 5 (0, 0))).heap.size; simp) fun k _ h2 => heap_alloc_old wr _ h2))
      have e3' := (cells4 hrA.at_.c9).1.2.2.2
      have hcvA := conv1d wr (y : Int)
      have S0 := HS wr.drew ⟨rfl, rfl⟩
      have SA := HS (wr.alloc (.cells #[.int .u8 (y : Int)] 5 (0, 0))).drew ⟨heap_alloc_old wr _ hww, heap_alloc_old wr _ hbl⟩
      clear hrow hty hrA f0 f1 f2 f3 f4 f5 f6
      go_upto_region 39 with fail
      refine wp_region_noPanic ?_
      refine wp_region_held_drew (S := (fun w' => w'.cell? ⟨w.heap.size, 5, none⟩ = some (.slice (some ⟨b, 0, none⟩) l c) ∧ w'.cell? ⟨b, 1, none⟩ = some (.int .i64 kd') ∧ w'.cell? ⟨b, 2, none⟩ = some (.string nm') ∧ w'.cell? ⟨b, 3, none⟩ = some (.int .i64 lo') ∧ w'.cell? ⟨b, 4, none⟩ = some (.int .i64 hi') ∧ w'.cell? ⟨b, 5, none⟩ = some (.string pat') ∧ w'.cell? ⟨b, 6, none⟩ = some (.slice a' l' c'))) (by kernel_rfl) (by assumption) (fun hHeld => ?_)
      repeat' first
        | (refine wpAnyH_done (by decide +kernel) ?_ _; refine NoPanic.normal ?_)
        | (simp only [Act.put, List.setIfInBounds_toArray])
        | (first
             | refine wpAnyH_take (i := 0) (oi := _) (v := ?_) rfl (by decide +kernel) (by decide +kernel) (by decide +kernel) (fun _ _ _ h => h) (Or.inl ⟨by rfl, ?hy⟩) (by assumption) ?_
             | refine wpAnyH_take (i := 2) (oi := _) (v := ?_) rfl (by decide +kernel) (by decide +kernel) (by decide +kernel) (fun _ _ _ h => h) (Or.inl ⟨by rfl, ?hy⟩) (by assumption) ?_
             | refine wpAnyH_take (i := 3) (oi := _) (v := ?_) rfl (by decide +kernel) (by decide +kernel) (by decide +kernel) (fun _ _ _ h => h) (Or.inl ⟨by rfl, ?hy⟩) (by assumption) ?_
             | refine wpAnyH_take (i := 4) (oi := _) (v := ?_) rfl (by decide +kernel) (by decide +kernel) (by decide +kernel) (fun _ _ _ h => h) (Or.inl ⟨by rfl, ?hy⟩) (by assumption) ?_
             | refine wpAnyH_take (i := 5) (oi := _) (v := ?_) rfl (by decide +kernel) (by decide +kernel) (by decide +kernel) (fun _ _ _ h => h) (Or.inl ⟨by rfl, ?hy⟩) (by assumption) ?_
             | refine wpAnyH_take (i := 6) (oi := _) (v := ?_) rfl (by decide +kernel) (by decide +kernel) (by decide +kernel) (fun _ _ _ h => h) (Or.inl ⟨by rfl, ?hy⟩) (by assumption) ?_
             | refine wpAnyH_take (i := 9) (oi := _) (v := ?_) rfl (by decide +kernel) (by decide +kernel) (by decide +kernel) (fun _ _ _ h => h) (Or.inl ⟨by rfl, ?hy⟩) (by assumption) ?_
             | refine wpAnyH_take (i := 10) (oi := _) (v := ?_) rfl (by decide +kernel) (by decide +kernel) (by decide +kernel) (fun _ _ _ h => h) (Or.inl ⟨by rfl, ?hy⟩) (by assumption) ?_
             | refine wpAnyH_take (i := 11) (oi := _) (v := ?_) rfl (by decide +kernel) (by decide +kernel) (by decide +kernel) (fun _ _ _ h => h) (Or.inl ⟨by rfl, ?hy⟩) (by assumption) ?_
             | refine wpAnyH_take (i := 12) (oi := _) (v := ?_) rfl (by decide +kernel) (by decide +kernel) (by decide +kernel) (fun _ _ _ h => h) (Or.inl ⟨by rfl, ?hy⟩) (by assumption) ?_
             | refine wpAnyH_take (i := 13) (oi := _) (v := ?_) rfl (by decide +kernel) (by decide +kernel) (by decide +kernel) (fun _ _ _ h => h) (Or.inl ⟨by rfl, ?hy⟩) (by assumption) ?_
             | refine wpAnyH_take (i := 14) (oi := _) (v := ?_) rfl (by decide +kernel) (by decide +kernel) (by decide +kernel) (fun _ _ _ h => h) (Or.inl ⟨by rfl, ?hy⟩) (by assumption) ?_
             | refine wpAnyH_take (i := 15) (oi := _) (v := ?_) rfl (by decide +kernel) (by decide +kernel) (by decide +kernel) (fun _ _ _ h => h) (Or.inl ⟨by rfl, ?hy⟩) (by assumption) ?_
             | refine wpAnyH_take (i := 16) (oi := _) (v := ?_) rfl (by decide +kernel) (by decide +kernel) (by decide +kernel) (fun _ _ _ h => h) (Or.inl ⟨by rfl, ?hy⟩) (by assumption) ?_
             | refine wpAnyH_take (i := 17) (oi := _) (v := ?_) rfl (by decide +kernel) (by decide +kernel) (by decide +kernel) (fun _ _ _ h => h) (Or.inl ⟨by rfl, ?hy⟩) (by assumption) ?_
             | refine wpAnyH_take (i := 19) (oi := _) (v := ?_) rfl (by decide +kernel) (by decide +kernel) (by decide +kernel) (fun _ _ _ h => h) (Or.inl ⟨by rfl, ?hy⟩) (by assumption) ?_
             | refine wpAnyH_take (i := 22) (oi := _) (v := ?_) rfl (by decide +kernel) (by decide +kernel) (by decide +kernel) (fun _ _ _ h => h) (Or.inl ⟨by rfl, ?hy⟩) (by assumption) ?_
           case hy => ((intro w hSw; (try dsimp only at hSw); go_simp); (try with_reducible rfl)))
        | (refine wpAnyH_ready (rs := [1, 7, 18]) (by decide +kernel) (by simp) ?_
           refine AllReadyH.cons (o := _) rfl (fun K hK => ?_) ?_
           rotate_left
           refine AllReadyH.cons (o := _) rfl (fun K hK => ?_) ?_
           rotate_left
           refine AllReadyH.cons (o := _) rfl (fun K hK => ?_) ?_
           rotate_left
           exact AllReadyH.nil
           go_simp
           refine hK.out _ _ ?_ (fun hHeld => ?_)
           · (try dsimp only); (first
             | assumption
             | exact HS _ ⟨(heap_alloc_old w5 _ hwl5).trans q5.1, (heap_alloc_old w5 _ hbl5).trans q5.2⟩
             | exact HS _ q5
             | exact HS _ q7
             | exact HS _ ⟨(heap_alloc_old (w5.alloc (.cells #[.int .u8 (y : Int)] 5 (0, 0))) _ (Nat.lt_of_lt_of_le hwl5 (by simp))).trans ((heap_alloc_old w5 _ hwl5).trans q5.1), (heap_alloc_old (w5.alloc (.cells #[.int .u8 (y : Int)] 5 (0, 0))) _ (Nat.lt_of_lt_of_le hbl5 (by simp))).trans ((heap_alloc_old w5 _ hbl5).trans q5.2)⟩
             | exact HS _ ⟨(Below.heap_setCell _ _ _ _ hTw).trans q7.1, (Below.heap_setCell _ _ _ _ hTb).trans q7.2⟩)
           clear hK K
           rotate_left
           go_simp
           refine hK.out _ _ ?_ (fun hHeld => ?_)
           · (try dsimp only); (first
             | assumption
             | exact HS _ ⟨(heap_alloc_old w5 _ hwl5).trans q5.1, (heap_alloc_old w5 _ hbl5).trans q5.2⟩
             | exact HS _ q5
             | exact HS _ q7
             | exact HS _ ⟨(heap_alloc_old (w5.alloc (.cells #[.int .u8 (y : Int)] 5 (0, 0))) _ (Nat.lt_of_lt_of_le hwl5 (by simp))).trans ((heap_alloc_old w5 _ hwl5).trans q5.1), (heap_alloc_old (w5.alloc (.cells #[.int .u8 (y : Int)] 5 (0, 0))) _ (Nat.lt_of_lt_of_le hbl5 (by simp))).trans ((heap_alloc_old w5 _ hbl5).trans q5.2)⟩
             | exact HS _ ⟨(Below.heap_setCell _ _ _ _ hTw).trans q7.1, (Below.heap_setCell _ _ _ _ hTb).trans q7.2⟩)
           clear hK K
           rotate_left
           go_simp
           first
             | (go_at_call 31; (try rw [wdp]); refine (IH.out B s S _ kd' nm' lo' hi' pat' a' l' c' HR.out.1.at_.st HR.out.2 hS).mono ?_
                rintro e w5 ⟨⟨t5, k5, n5, str5, q5, rfl, hv5, hok5⟩, tt, kt⟩
                obtain ⟨aq, cq, rfl, -⟩ := hv5.slice
                have h5 := HR.out.1.step hsl tt kt
                have hz5 := h5.lt
                obtain ⟨⟨g0, g1, g2, g3⟩, g4, g5, g6, g7⟩ := cells4 h5.at_.c9
                have ey := fun o => Lib.cell?_alloc_some (W := w5) o g3
                have eyy := fun o o' => Lib.cell?_alloc_some (W := w5.alloc o) o' (ey o)
                have hcvB := conv1g w5 w5.heap.size rfl (y : Int)
                have q5 : w5.heap[w.heap.size]? = wr.heap[w.heap.size]? ∧ w5.heap[b]? = wr.heap[b]? := ⟨h5.at_.c5.trans c5w.symm, (kt.block b hbl (hS b hSb))⟩
                have hbl5 : b < w5.heap.size := Nat.lt_of_lt_of_le hbl kt.size
                have hwl5 : w.heap.size < w5.heap.size := by have := h5.at_.low; omega
                have H5 := Lib.hid (And.intro h5 (And.intro (hv5.imp (S' := fun k => wr.heap.size ≤ k) fun k h1 _ => h1) hok5))
                clear tt kt h5 hv5 hok5
                unfold vV)
             | (go_at_call 31; (try rw [wdp]); refine (IH.out B s S _ kd' nm' lo' hi' pat' a' l' c' HRa.out.1.at_.st HRa.out.2 hS).mono ?_
                rintro e w5 ⟨⟨t5, k5, n5, str5, q5, rfl, hv5, hok5⟩, tt, kt⟩
                obtain ⟨aq, cq, rfl, -⟩ := hv5.slice
                have h5 := HRa.out.1.step hsl tt kt
                have hz5 := h5.lt
                obtain ⟨⟨g0, g1, g2, g3⟩, g4, g5, g6, g7⟩ := cells4 h5.at_.c9
                have ey := fun o => Lib.cell?_alloc_some (W := w5) o g3
                have eyy := fun o o' => Lib.cell?_alloc_some (W := w5.alloc o) o' (ey o)
                have hcvC := run_convert_bytes_arg (P := Try.prog) w5 90 5 Try.underlying90 Try.underlying5 wr.heap.size 0 1 1 [(y : Int)] rfl (fun i hi => by
                  obtain rfl : i = 0 := by omega
                  exact (World.cell?_of_block (a := ⟨wr.heap.size, 0, none⟩) (kt.block wr.heap.size (by show wr.heap.size < (wr.alloc (.cells #[.int .u8 (y : Int)] 5 (0, 0))).heap.size; simp) (by have := HR.out.1.at_.st.lt; have : wr.drew.heap.size = wr.heap.size := rfl; omega))).trans (by show World.cell? (wr.alloc (.cells #[.int .u8 (y : Int)] 5 (0, 0))) ⟨wr.heap.size, 0, none⟩ = _; rw [Lib.cell_of_heap (heap_alloc_new wr _)]; rfl))
                have q5 : w5.heap[w.heap.size]? = wr.heap[w.heap.size]? ∧ w5.heap[b]? = wr.heap[b]? := ⟨h5.at_.c5.trans c5w.symm, (kt.block b (by show b < (wr.alloc (.cells #[.int .u8 (y : Int)] 5 (0, 0))).heap.size; simp; omega) (hS b hSb)).trans (heap_alloc_old wr _ hbl)⟩
                have hbl5 : b < w5.heap.size := Nat.lt_of_lt_of_le (show b < (wr.alloc (.cells #[.int .u8 (y : Int)] 5 (0, 0))).heap.size by simp; omega) kt.size
                have hwl5 : w.heap.size < w5.heap.size := by have := h5.at_.low; omega
                have H5 := Lib.hid (And.intro h5 (And.intro (hv5.imp (S' := fun k => wr.heap.size ≤ k) fun k h1 _ => Nat.le_trans (show wr.heap.size ≤ (wr.alloc (.cells #[.int .u8 (y : Int)] 5 (0, 0))).heap.size by simp) h1) hok5))
                clear tt kt h5 hv5 hok5
                unfold vV)
           refine hK.out _ _ ?_ (fun hHeld => ?_)
           · (try dsimp only); (first
             | assumption
             | exact HS _ ⟨(heap_alloc_old w5 _ hwl5).trans q5.1, (heap_alloc_old w5 _ hbl5).trans q5.2⟩
             | exact HS _ q5
             | exact HS _ q7
             | exact HS _ ⟨(heap_alloc_old (w5.alloc (.cells #[.int .u8 (y : Int)] 5 (0, 0))) _ (Nat.lt_of_lt_of_le hwl5 (by simp))).trans ((heap_alloc_old w5 _ hwl5).trans q5.1), (heap_alloc_old (w5.alloc (.cells #[.int .u8 (y : Int)] 5 (0, 0))) _ (Nat.lt_of_lt_of_le hbl5 (by simp))).trans ((heap_alloc_old w5 _ hbl5).trans q5.2)⟩
             | exact HS _ ⟨(Below.heap_setCell _ _ _ _ hTw).trans q7.1, (Below.heap_setCell _ _ _ _ hTb).trans q7.2⟩)
           clear hK K
           rotate_left)
        | (refine wpAnyH_ready (rs := [7, 18]) (by decide +kernel) (by simp) ?_
           refine AllReadyH.cons (o := _) rfl (fun K hK => ?_) ?_
           rotate_left
           refine AllReadyH.cons (o := _) rfl (fun K hK => ?_) ?_
           rotate_left
           exact AllReadyH.nil
           go_simp
           refine hK.out _ _ ?_ (fun hHeld => ?_)
           · (try dsimp only); (first
             | assumption
             | exact HS _ ⟨(heap_alloc_old w5 _ hwl5).trans q5.1, (heap_alloc_old w5 _ hbl5).trans q5.2⟩
             | exact HS _ q5
             | exact HS _ q7
             | exact HS _ ⟨(heap_alloc_old (w5.alloc (.cells #[.int .u8 (y : Int)] 5 (0, 0))) _ (Nat.lt_of_lt_of_le hwl5 (by simp))).trans ((heap_alloc_old w5 _ hwl5).trans q5.1), (heap_alloc_old (w5.alloc (.cells #[.int .u8 (y : Int)] 5 (0, 0))) _ (Nat.lt_of_lt_of_le hbl5 (by simp))).trans ((heap_alloc_old w5 _ hbl5).trans q5.2)⟩
             | exact HS _ ⟨(Below.heap_setCell _ _ _ _ hTw).trans q7.1, (Below.heap_setCell _ _ _ _ hTb).trans q7.2⟩)
           clear hK K
           rotate_left
           go_simp
           first
             | (go_at_call 31; (try rw [wdp]); refine (IH.out B s S _ kd' nm' lo' hi' pat' a' l' c' HR.out.1.at_.st HR.out.2 hS).mono ?_
                rintro e w5 ⟨⟨t5, k5, n5, str5, q5, rfl, hv5, hok5⟩, tt, kt⟩
                obtain ⟨aq, cq, rfl, -⟩ := hv5.slice
                have h5 := HR.out.1.step hsl tt kt
                have hz5 := h5.lt
                obtain ⟨⟨g0, g1, g2, g3⟩, g4, g5, g6, g7⟩ := cells4 h5.at_.c9
                have ey := fun o => Lib.cell?_alloc_some (W := w5) o g3
                have eyy := fun o o' => Lib.cell?_alloc_some (W := w5.alloc o) o' (ey o)
                have hcvB := conv1g w5 w5.heap.size rfl (y : Int)
                have q5 : w5.heap[w.heap.size]? = wr.heap[w.heap.size]? ∧ w5.heap[b]? = wr.heap[b]? := ⟨h5.at_.c5.trans c5w.symm, (kt.block b hbl (hS b hSb))⟩
                have hbl5 : b < w5.heap.size := Nat.lt_of_lt_of_le hbl kt.size
                have hwl5 : w.heap.size < w5.heap.size := by have := h5.at_.low; omega
                have H5 := Lib.hid (And.intro h5 (And.intro (hv5.imp (S' := fun k => wr.heap.size ≤ k) fun k h1 _ => h1) hok5))
                clear tt kt h5 hv5 hok5
                unfold vV)
             | (go_at_call 31; (try rw [wdp]); refine (IH.out B s S _ kd' nm' lo' hi' pat' a' l' c' HRa.out.1.at_.st HRa.out.2 hS).mono ?_
                rintro e w5 ⟨⟨t5, k5, n5, str5, q5, rfl, hv5, hok5⟩, tt, kt⟩
                obtain ⟨aq, cq, rfl, -⟩ := hv5.slice
                have h5 := HRa.out.1.step hsl tt kt
                have hz5 := h5.lt
                obtain ⟨⟨g0, g1, g2, g3⟩, g4, g5, g6, g7⟩ := cells4 h5.at_.c9
                have ey := fun o => Lib.cell?_alloc_some (W := w5) o g3
                have eyy := fun o o' => Lib.cell?_alloc_some (W := w5.alloc o) o' (ey o)
                have hcvC := run_convert_bytes_arg (P := Try.prog) w5 90 5 Try.underlying90 Try.underlying5 wr.heap.size 0 1 1 [(y : Int)] rfl (fun i hi => by
                  obtain rfl : i = 0 := by omega
                  exact (World.cell?_of_block (a := ⟨wr.heap.size, 0, none⟩) (kt.block wr.heap.size (by show wr.heap.size < (wr.alloc (.cells #[.int .u8 (y : Int)] 5 (0, 0))).heap.size; simp) (by have := HR.out.1.at_.st.lt; have : wr.drew.heap.size = wr.heap.size := rfl; omega))).trans (by show World.cell? (wr.alloc (.cells #[.int .u8 (y : Int)] 5 (0, 0))) ⟨wr.heap.size, 0, none⟩ = _; rw [Lib.cell_of_heap (heap_alloc_new wr _)]; rfl))
                have q5 : w5.heap[w.heap.size]? = wr.heap[w.heap.size]? ∧ w5.heap[b]? = wr.heap[b]? := ⟨h5.at_.c5.trans c5w.symm, (kt.block b (by show b < (wr.alloc (.cells #[.int .u8 (y : Int)] 5 (0, 0))).heap.size; simp; omega) (hS b hSb)).trans (heap_alloc_old wr _ hbl)⟩
                have hbl5 : b < w5.heap.size := Nat.lt_of_lt_of_le (show b < (wr.alloc (.cells #[.int .u8 (y : Int)] 5 (0, 0))).heap.size by simp; omega) kt.size
                have hwl5 : w.heap.size < w5.heap.size := by have := h5.at_.low; omega
                have H5 := Lib.hid (And.intro h5 (And.intro (hv5.imp (S' := fun k => wr.heap.size ≤ k) fun k h1 _ => Nat.le_trans (show wr.heap.size ≤ (wr.alloc (.cells #[.int .u8 (y : Int)] 5 (0, 0))).heap.size by simp) h1) hok5))
                clear tt kt h5 hv5 hok5
                unfold vV)
           refine hK.out _ _ ?_ (fun hHeld => ?_)
           · (try dsimp only); (first
             | assumption
             | exact HS _ ⟨(heap_alloc_old w5 _ hwl5).trans q5.1, (heap_alloc_old w5 _ hbl5).trans q5.2⟩
             | exact HS _ q5
             | exact HS _ q7
             | exact HS _ ⟨(heap_alloc_old (w5.alloc (.cells #[.int .u8 (y : Int)] 5 (0, 0))) _ (Nat.lt_of_lt_of_le hwl5 (by simp))).trans ((heap_alloc_old w5 _ hwl5).trans q5.1), (heap_alloc_old (w5.alloc (.cells #[.int .u8 (y : Int)] 5 (0, 0))) _ (Nat.lt_of_lt_of_le hbl5 (by simp))).trans ((heap_alloc_old w5 _ hbl5).trans q5.2)⟩
             | exact HS _ ⟨(Below.heap_setCell _ _ _ _ hTw).trans q7.1, (Below.heap_setCell _ _ _ _ hTb).trans q7.2⟩)
           clear hK K
           rotate_left)
        | (refine wpAnyH_ready (rs := [8, 18]) (by decide +kernel) (by simp) ?_
           refine AllReadyH.cons (o := _) rfl (fun K hK => ?_) ?_
           rotate_left
           refine AllReadyH.cons (o := _) rfl (fun K hK => ?_) ?_
           rotate_left
           exact AllReadyH.nil
           go_simp
           refine hK.out _ _ ?_ (fun hHeld => ?_)
           · (try dsimp only); (first
             | assumption
             | exact HS _ ⟨(heap_alloc_old w5 _ hwl5).trans q5.1, (heap_alloc_old w5 _ hbl5).trans q5.2⟩
             | exact HS _ q5
             | exact HS _ q7
             | exact HS _ ⟨(heap_alloc_old (w5.alloc (.cells #[.int .u8 (y : Int)] 5 (0, 0))) _ (Nat.lt_of_lt_of_le hwl5 (by simp))).trans ((heap_alloc_old w5 _ hwl5).trans q5.1), (heap_alloc_old (w5.alloc (.cells #[.int .u8 (y : Int)] 5 (0, 0))) _ (Nat.lt_of_lt_of_le hbl5 (by simp))).trans ((heap_alloc_old w5 _ hbl5).trans q5.2)⟩
             | exact HS _ ⟨(Below.heap_setCell _ _ _ _ hTw).trans q7.1, (Below.heap_setCell _ _ _ _ hTb).trans q7.2⟩)
           clear hK K
           rotate_left
           go_simp
           first
             | (go_at_call 31; (try rw [wdp]); refine (IH.out B s S _ kd' nm' lo' hi' pat' a' l' c' HR.out.1.at_.st HR.out.2 hS).mono ?_
                rintro e w5 ⟨⟨t5, k5, n5, str5, q5, rfl, hv5, hok5⟩, tt, kt⟩
                obtain ⟨aq, cq, rfl, -⟩ := hv5.slice
                have h5 := HR.out.1.step hsl tt kt
                have hz5 := h5.lt
                obtain ⟨⟨g0, g1, g2, g3⟩, g4, g5, g6, g7⟩ := cells4 h5.at_.c9
                have ey := fun o => Lib.cell?_alloc_some (W := w5) o g3
                have eyy := fun o o' => Lib.cell?_alloc_some (W := w5.alloc o) o' (ey o)
                have hcvB := conv1g w5 w5.heap.size rfl (y : Int)
                have q5 : w5.heap[w.heap.size]? = wr.heap[w.heap.size]? ∧ w5.heap[b]? = wr.heap[b]? := ⟨h5.at_.c5.trans c5w.symm, (kt.block b hbl (hS b hSb))⟩
                have hbl5 : b < w5.heap.size := Nat.lt_of_lt_of_le hbl kt.size
                have hwl5 : w.heap.size < w5.heap.size := by have := h5.at_.low; omega
                have H5 := Lib.hid (And.intro h5 (And.intro (hv5.imp (S' := fun k => wr.heap.size ≤ k) fun k h1 _ => h1) hok5))
                clear tt kt h5 hv5 hok5
                unfold vV)
             | (go_at_call 31; (try rw [wdp]); refine (IH.out B s S _ kd' nm' lo' hi' pat' a' l' c' HRa.out.1.at_.st HRa.out.2 hS).mono ?_
                rintro e w5 ⟨⟨t5, k5, n5, str5, q5, rfl, hv5, hok5⟩, tt, kt⟩
                obtain ⟨aq, cq, rfl, -⟩ := hv5.slice
                have h5 := HRa.out.1.step hsl tt kt
                have hz5 := h5.lt
                obtain ⟨⟨g0, g1, g2, g3⟩, g4, g5, g6, g7⟩ := cells4 h5.at_.c9
                have ey := fun o => Lib.cell?_alloc_some (W := w5) o g3
                have eyy := fun o o' => Lib.cell?_alloc_some (W := w5.alloc o) o' (ey o)
                have hcvC := run_convert_bytes_arg (P := Try.prog) w5 90 5 Try.underlying90 Try.underlying5 wr.heap.size 0 1 1 [(y : Int)] rfl (fun i hi => by
                  obtain rfl : i = 0 := by omega
                  exact (World.cell?_of_block (a := ⟨wr.heap.size, 0, none⟩) (kt.block wr.heap.size (by show wr.heap.size < (wr.alloc (.cells #[.int .u8 (y : Int)] 5 (0, 0))).heap.size; simp) (by have := HR.out.1.at_.st.lt; have : wr.drew.heap.size = wr.heap.size := rfl; omega))).trans (by show World.cell? (wr.alloc (.cells #[.int .u8 (y : Int)] 5 (0, 0))) ⟨wr.heap.size, 0, none⟩ = _; rw [Lib.cell_of_heap (heap_alloc_new wr _)]; rfl))
                have q5 : w5.heap[w.heap.size]? = wr.heap[w.heap.size]? ∧ w5.heap[b]? = wr.heap[b]? := ⟨h5.at_.c5.trans c5w.symm, (kt.block b (by show b < (wr.alloc (.cells #[.int .u8 (y : Int)] 5 (0, 0))).heap.size; simp; omega) (hS b hSb)).trans (heap_alloc_old wr _ hbl)⟩
                have hbl5 : b < w5.heap.size := Nat.lt_of_lt_of_le (show b < (wr.alloc (.cells #[.int .u8 (y : Int)] 5 (0, 0))).heap.size by simp; omega) kt.size
                have hwl5 : w.heap.size < w5.heap.size := by have := h5.at_.low; omega
                have H5 := Lib.hid (And.intro h5 (And.intro (hv5.imp (S' := fun k => wr.heap.size ≤ k) fun k h1 _ => Nat.le_trans (show wr.heap.size ≤ (wr.alloc (.cells #[.int .u8 (y : Int)] 5 (0, 0))).heap.size by simp) h1) hok5))
                clear tt kt h5 hv5 hok5
                unfold vV)
           refine hK.out _ _ ?_ (fun hHeld => ?_)
           · (try dsimp only); (first
             | assumption
             | exact HS _ ⟨(heap_alloc_old w5 _ hwl5).trans q5.1, (heap_alloc_old w5 _ hbl5).trans q5.2⟩
             | exact HS _ q5
             | exact HS _ q7
             | exact HS _ ⟨(heap_alloc_old (w5.alloc (.cells #[.int .u8 (y : Int)] 5 (0, 0))) _ (Nat.lt_of_lt_of_le hwl5 (by simp))).trans ((heap_alloc_old w5 _ hwl5).trans q5.1), (heap_alloc_old (w5.alloc (.cells #[.int .u8 (y : Int)] 5 (0, 0))) _ (Nat.lt_of_lt_of_le hbl5 (by simp))).trans ((heap_alloc_old w5 _ hbl5).trans q5.2)⟩
             | exact HS _ ⟨(Below.heap_setCell _ _ _ _ hTw).trans q7.1, (Below.heap_setCell _ _ _ _ hTb).trans q7.2⟩)
           clear hK K
           rotate_left)
        | (refine wpAnyH_ready (rs := [1, 8, 18]) (by decide +kernel) (by simp) ?_
           refine AllReadyH.cons (o := _) rfl (fun K hK => ?_) ?_
           rotate_left
           refine AllReadyH.cons (o := _) rfl (fun K hK => ?_) ?_
           rotate_left
           refine AllReadyH.cons (o := _) rfl (fun K hK => ?_) ?_
           rotate_left
           exact AllReadyH.nil
           go_simp
           refine hK.out _ _ ?_ (fun hHeld => ?_)
           · (try dsimp only); (first
             | assumption
             | exact HS _ ⟨(heap_alloc_old w5 _ hwl5).trans q5.1, (heap_alloc_old w5 _ hbl5).trans q5.2⟩
             | exact HS _ q5
             | exact HS _ q7
             | exact HS _ ⟨(heap_alloc_old (w5.alloc (.cells #[.int .u8 (y : Int)] 5 (0, 0))) _ (Nat.lt_of_lt_of_le hwl5 (by simp))).trans ((heap_alloc_old w5 _ hwl5).trans q5.1), (heap_alloc_old (w5.alloc (.cells #[.int .u8 (y : Int)] 5 (0, 0))) _ (Nat.lt_of_lt_of_le hbl5 (by simp))).trans ((heap_alloc_old w5 _ hbl5).trans q5.2)⟩
             | exact HS _ ⟨(Below.heap_setCell _ _ _ _ hTw).trans q7.1, (Below.heap_setCell _ _ _ _ hTb).trans q7.2⟩)
           clear hK K
           rotate_left
           go_simp
           refine hK.out _ _ ?_ (fun hHeld => ?_)
           · (try dsimp only); (first
             | assumption
             | exact HS _ ⟨(heap_alloc_old w5 _ hwl5).trans q5.1, (heap_alloc_old w5 _ hbl5).trans q5.2⟩
             | exact HS _ q5
             | exact HS _ q7
             | exact HS _ ⟨(heap_alloc_old (w5.alloc (.cells #[.int .u8 (y : Int)] 5 (0, 0))) _ (Nat.lt_of_lt_of_le hwl5 (by simp))).trans ((heap_alloc_old w5 _ hwl5).trans q5.1), (heap_alloc_old (w5.alloc (.cells #[.int .u8 (y : Int)] 5 (0, 0))) _ (Nat.lt_of_lt_of_le hbl5 (by simp))).trans ((heap_alloc_old w5 _ hbl5).trans q5.2)⟩
             | exact HS _ ⟨(Below.heap_setCell _ _ _ _ hTw).trans q7.1, (Below.heap_setCell _ _ _ _ hTb).trans q7.2⟩)
           clear hK K
           rotate_left
           go_simp
           first
             | (go_at_call 31; (try rw [wdp]); refine (IH.out B s S _ kd' nm' lo' hi' pat' a' l' c' HR.out.1.at_.st HR.out.2 hS).mono ?_
                rintro e w5 ⟨⟨t5, k5, n5, str5, q5, rfl, hv5, hok5⟩, tt, kt⟩
                obtain ⟨aq, cq, rfl, -⟩ := hv5.slice
                have h5 := HR.out.1.step hsl tt kt
                have hz5 := h5.lt
                obtain ⟨⟨g0, g1, g2, g3⟩, g4, g5, g6, g7⟩ := cells4 h5.at_.c9
                have ey := fun o => Lib.cell?_alloc_some (W := w5) o g3
                have eyy := fun o o' => Lib.cell?_alloc_some (W := w5.alloc o) o' (ey o)
                have hcvB := conv1g w5 w5.heap.size rfl (y : Int)
                have q5 : w5.heap[w.heap.size]? = wr.heap[w.heap.size]? ∧ w5.heap[b]? = wr.heap[b]? := ⟨h5.at_.c5.trans c5w.symm, (kt.block b hbl (hS b hSb))⟩
                have hbl5 : b < w5.heap.size := Nat.lt_of_lt_of_le hbl kt.size
                have hwl5 : w.heap.size < w5.heap.size := by have := h5.at_.low; omega
                have H5 := Lib.hid (And.intro h5 (And.intro (hv5.imp (S' := fun k => wr.heap.size ≤ k) fun k h1 _ => h1) hok5))
                clear tt kt h5 hv5 hok5
                unfold vV)
             | (go_at_call 31; (try rw [wdp]); refine (IH.out B s S _ kd' nm' lo' hi' pat' a' l' c' HRa.out.1.at_.st HRa.out.2 hS).mono ?_
                rintro e w5 ⟨⟨t5, k5, n5, str5, q5, rfl, hv5, hok5⟩, tt, kt⟩
                obtain ⟨aq, cq, rfl, -⟩ := hv5.slice
                have h5 := HRa.out.1.step hsl tt kt
                have hz5 := h5.lt
                obtain ⟨⟨g0, g1, g2, g3⟩, g4, g5, g6, g7⟩ := cells4 h5.at_.c9
                have ey := fun o => Lib.cell?_alloc_some (W := w5) o g3
                have eyy := fun o o' => Lib.cell?_alloc_some (W := w5.alloc o) o' (ey o)
                have hcvC := run_convert_bytes_arg (P := Try.prog) w5 90 5 Try.underlying90 Try.underlying5 wr.heap.size 0 1 1 [(y : Int)] rfl (fun i hi => by
                  obtain rfl : i = 0 := by omega
                  exact (World.cell?_of_block (a := ⟨wr.heap.size, 0, none⟩) (kt.block wr.heap.size (by show wr.heap.size < (wr.alloc (.cells #[.int .u8 (y : Int)] 5 (0, 0))).heap.size; simp) (by have := HR.out.1.at_.st.lt; have : wr.drew.heap.size = wr.heap.size := rfl; omega))).trans (by show World.cell? (wr.alloc (.cells #[.int .u8 (y : Int)] 5 (0, 0))) ⟨wr.heap.size, 0, none⟩ = _; rw [Lib.cell_of_heap (heap_alloc_new wr _)]; rfl))
                have q5 : w5.heap[w.heap.size]? = wr.heap[w.heap.size]? ∧ w5.heap[b]? = wr.heap[b]? := ⟨h5.at_.c5.trans c5w.symm, (kt.block b (by show b < (wr.alloc (.cells #[.int .u8 (y : Int)] 5 (0, 0))).heap.size; simp; omega) (hS b hSb)).trans (heap_alloc_old wr _ hbl)⟩
                have hbl5 : b < w5.heap.size := Nat.lt_of_lt_of_le (show b < (wr.alloc (.cells #[.int .u8 (y : Int)] 5 (0, 0))).heap.size by simp; omega) kt.size
                have hwl5 : w.heap.size < w5.heap.size := by have := h5.at_.low; omega
                have H5 := Lib.hid (And.intro h5 (And.intro (hv5.imp (S' := fun k => wr.heap.size ≤ k) fun k h1 _ => Nat.le_trans (show wr.heap.size ≤ (wr.alloc (.cells #[.int .u8 (y : Int)] 5 (0, 0))).heap.size by simp) h1) hok5))
                clear tt kt h5 hv5 hok5
                unfold vV)
           refine hK.out _ _ ?_ (fun hHeld => ?_)
           · (try dsimp only); (first
             | assumption
             | exact HS _ ⟨(heap_alloc_old w5 _ hwl5).trans q5.1, (heap_alloc_old w5 _ hbl5).trans q5.2⟩
             | exact HS _ q5
             | exact HS _ q7
             | exact HS _ ⟨(heap_alloc_old (w5.alloc (.cells #[.int .u8 (y : Int)] 5 (0, 0))) _ (Nat.lt_of_lt_of_le hwl5 (by simp))).trans ((heap_alloc_old w5 _ hwl5).trans q5.1), (heap_alloc_old (w5.alloc (.cells #[.int .u8 (y : Int)] 5 (0, 0))) _ (Nat.lt_of_lt_of_le hbl5 (by simp))).trans ((heap_alloc_old w5 _ hbl5).trans q5.2)⟩
             | exact HS _ ⟨(Below.heap_setCell _ _ _ _ hTw).trans q7.1, (Below.heap_setCell _ _ _ _ hTb).trans q7.2⟩)
           clear hK K
           rotate_left)
        | (refine wpAnyH_ready (rs := [1, 7]) (by decide +kernel) (by simp) ?_
           refine AllReadyH.cons (o := _) rfl (fun K hK => ?_) ?_
           rotate_left
           refine AllReadyH.cons (o := _) rfl (fun K hK => ?_) ?_
           rotate_left
           exact AllReadyH.nil
           go_simp
           refine hK.out _ _ ?_ (fun hHeld => ?_)
           · (try dsimp only); (first
             | assumption
             | exact HS _ ⟨(heap_alloc_old w5 _ hwl5).trans q5.1, (heap_alloc_old w5 _ hbl5).trans q5.2⟩
             | exact HS _ q5
             | exact HS _ q7
             | exact HS _ ⟨(heap_alloc_old (w5.alloc (.cells #[.int .u8 (y : Int)] 5 (0, 0))) _ (Nat.lt_of_lt_of_le hwl5 (by simp))).trans ((heap_alloc_old w5 _ hwl5).trans q5.1), (heap_alloc_old (w5.alloc (.cells #[.int .u8 (y : Int)] 5 (0, 0))) _ (Nat.lt_of_lt_of_le hbl5 (by simp))).trans ((heap_alloc_old w5 _ hbl5).trans q5.2)⟩
             | exact HS _ ⟨(Below.heap_setCell _ _ _ _ hTw).trans q7.1, (Below.heap_setCell _ _ _ _ hTb).trans q7.2⟩)
           clear hK K
           rotate_left
           go_simp
           refine hK.out _ _ ?_ (fun hHeld => ?_)
           · (try dsimp only); (first
             | assumption
             | exact HS _ ⟨(heap_alloc_old w5 _ hwl5).trans q5.1, (heap_alloc_old w5 _ hbl5).trans q5.2⟩
             | exact HS _ q5
             | exact HS _ q7
             | exact HS _ ⟨(heap_alloc_old (w5.alloc (.cells #[.int .u8 (y : Int)] 5 (0, 0))) _ (Nat.lt_of_lt_of_le hwl5 (by simp))).trans ((heap_alloc_old w5 _ hwl5).trans q5.1), (heap_alloc_old (w5.alloc (.cells #[.int .u8 (y : Int)] 5 (0, 0))) _ (Nat.lt_of_lt_of_le hbl5 (by simp))).trans ((heap_alloc_old w5 _ hbl5).trans q5.2)⟩
             | exact HS _ ⟨(Below.heap_setCell _ _ _ _ hTw).trans q7.1, (Below.heap_setCell _ _ _ _ hTb).trans q7.2⟩)
           clear hK K
           rotate_left)
        | (refine wpAnyH_ready (rs := [1, 8]) (by decide +kernel) (by simp) ?_
           refine AllReadyH.cons (o := _) rfl (fun K hK => ?_) ?_
           rotate_left
           refine AllReadyH.cons (o := _) rfl (fun K hK => ?_) ?_
           rotate_left
           exact AllReadyH.nil
           go_simp
           refine hK.out _ _ ?_ (fun hHeld => ?_)
           · (try dsimp only); (first
             | assumption
             | exact HS _ ⟨(heap_alloc_old w5 _ hwl5).trans q5.1, (heap_alloc_old w5 _ hbl5).trans q5.2⟩
             | exact HS _ q5
             | exact HS _ q7
             | exact HS _ ⟨(heap_alloc_old (w5.alloc (.cells #[.int .u8 (y : Int)] 5 (0, 0))) _ (Nat.lt_of_lt_of_le hwl5 (by simp))).trans ((heap_alloc_old w5 _ hwl5).trans q5.1), (heap_alloc_old (w5.alloc (.cells #[.int .u8 (y : Int)] 5 (0, 0))) _ (Nat.lt_of_lt_of_le hbl5 (by simp))).trans ((heap_alloc_old w5 _ hbl5).trans q5.2)⟩
             | exact HS _ ⟨(Below.heap_setCell _ _ _ _ hTw).trans q7.1, (Below.heap_setCell _ _ _ _ hTb).trans q7.2⟩)
           clear hK K
           rotate_left
           go_simp
           refine hK.out _ _ ?_ (fun hHeld => ?_)
           · (try dsimp only); (first
             | assumption
             | exact HS _ ⟨(heap_alloc_old w5 _ hwl5).trans q5.1, (heap_alloc_old w5 _ hbl5).trans q5.2⟩
             | exact HS _ q5
             | exact HS _ q7
             | exact HS _ ⟨(heap_alloc_old (w5.alloc (.cells #[.int .u8 (y : Int)] 5 (0, 0))) _ (Nat.lt_of_lt_of_le hwl5 (by simp))).trans ((heap_alloc_old w5 _ hwl5).trans q5.1), (heap_alloc_old (w5.alloc (.cells #[.int .u8 (y : Int)] 5 (0, 0))) _ (Nat.lt_of_lt_of_le hbl5 (by simp))).trans ((heap_alloc_old w5 _ hbl5).trans q5.2)⟩
             | exact HS _ ⟨(Below.heap_setCell _ _ _ _ hTw).trans q7.1, (Below.heap_setCell _ _ _ _ hTb).trans q7.2⟩)
           clear hK K
           rotate_left)
        | (refine wpAnyH_ready (rs := [1, 18]) (by decide +kernel) (by simp) ?_
           refine AllReadyH.cons (o := _) rfl (fun K hK => ?_) ?_
           rotate_left
           refine AllReadyH.cons (o := _) rfl (fun K hK => ?_) ?_
           rotate_left
           exact AllReadyH.nil
           go_simp
           refine hK.out _ _ ?_ (fun hHeld => ?_)
           · (try dsimp only); (first
             | assumption
             | exact HS _ ⟨(heap_alloc_old w5 _ hwl5).trans q5.1, (heap_alloc_old w5 _ hbl5).trans q5.2⟩
             | exact HS _ q5
             | exact HS _ q7
             | exact HS _ ⟨(heap_alloc_old (w5.alloc (.cells #[.int .u8 (y : Int)] 5 (0, 0))) _ (Nat.lt_of_lt_of_le hwl5 (by simp))).trans ((heap_alloc_old w5 _ hwl5).trans q5.1), (heap_alloc_old (w5.alloc (.cells #[.int .u8 (y : Int)] 5 (0, 0))) _ (Nat.lt_of_lt_of_le hbl5 (by simp))).trans ((heap_alloc_old w5 _ hbl5).trans q5.2)⟩
             | exact HS _ ⟨(Below.heap_setCell _ _ _ _ hTw).trans q7.1, (Below.heap_setCell _ _ _ _ hTb).trans q7.2⟩)
           clear hK K
           rotate_left
           go_simp
           first
             | (go_at_call 31; (try rw [wdp]); refine (IH.out B s S _ kd' nm' lo' hi' pat' a' l' c' HR.out.1.at_.st HR.out.2 hS).mono ?_
                rintro e w5 ⟨⟨t5, k5, n5, str5, q5, rfl, hv5, hok5⟩, tt, kt⟩
                obtain ⟨aq, cq, rfl, -⟩ := hv5.slice
                have h5 := HR.out.1.step hsl tt kt
                have hz5 := h5.lt
                obtain ⟨⟨g0, g1, g2, g3⟩, g4, g5, g6, g7⟩ := cells4 h5.at_.c9
                have ey := fun o => Lib.cell?_alloc_some (W := w5) o g3
                have eyy := fun o o' => Lib.cell?_alloc_some (W := w5.alloc o) o' (ey o)
                have hcvB := conv1g w5 w5.heap.size rfl (y : Int)
                have q5 : w5.heap[w.heap.size]? = wr.heap[w.heap.size]? ∧ w5.heap[b]? = wr.heap[b]? := ⟨h5.at_.c5.trans c5w.symm, (kt.block b hbl (hS b hSb))⟩
                have hbl5 : b < w5.heap.size := Nat.lt_of_lt_of_le hbl kt.size
                have hwl5 : w.heap.size < w5.heap.size := by have := h5.at_.low; omega
                have H5 := Lib.hid (And.intro h5 (And.intro (hv5.imp (S' := fun k => wr.heap.size ≤ k) fun k h1 _ => h1) hok5))
                clear tt kt h5 hv5 hok5
                unfold vV)
             | (go_at_call 31; (try rw [wdp]); refine (IH.out B s S _ kd' nm' lo' hi' pat' a' l' c' HRa.out.1.at_.st HRa.out.2 hS).mono ?_
                rintro e w5 ⟨⟨t5, k5, n5, str5, q5, rfl, hv5, hok5⟩, tt, kt⟩
                obtain ⟨aq, cq, rfl, -⟩ := hv5.slice
                have h5 := HRa.out.1.step hsl tt kt
                have hz5 := h5.lt
                obtain ⟨⟨g0, g1, g2, g3⟩, g4, g5, g6, g7⟩ := cells4 h5.at_.c9
                have ey := fun o => Lib.cell?_alloc_some (W := w5) o g3
                have eyy := fun o o' => Lib.cell?_alloc_some (W := w5.alloc o) o' (ey o)
                have hcvC := run_convert_bytes_arg (P := Try.prog) w5 90 5 Try.underlying90 Try.underlying5 wr.heap.size 0 1 1 [(y : Int)] rfl (fun i hi => by
                  obtain rfl : i = 0 := by omega
                  exact (World.cell?_of_block (a := ⟨wr.heap.size, 0, none⟩) (kt.block wr.heap.size (by show wr.heap.size < (wr.alloc (.cells #[.int .u8 (y : Int)] 5 (0, 0))).heap.size; simp) (by have := HR.out.1.at_.st.lt; have : wr.drew.heap.size = wr.heap.size := rfl; omega))).trans (by show World.cell? (wr.alloc (.cells #[.int .u8 (y : Int)] 5 (0, 0))) ⟨wr.heap.size, 0, none⟩ = _; rw [Lib.cell_of_heap (heap_alloc_new wr _)]; rfl))
                have q5 : w5.heap[w.heap.size]? = wr.heap[w.heap.size]? ∧ w5.heap[b]? = wr.heap[b]? := ⟨h5.at_.c5.trans c5w.symm, (kt.block b (by show b < (wr.alloc (.cells #[.int .u8 (y : Int)] 5 (0, 0))).heap.size; simp; omega) (hS b hSb)).trans (heap_alloc_old wr _ hbl)⟩
                have hbl5 : b < w5.heap.size := Nat.lt_of_lt_of_le (show b < (wr.alloc (.cells #[.int .u8 (y : Int)] 5 (0, 0))).heap.size by simp; omega) kt.size
                have hwl5 : w.heap.size < w5.heap.size := by have := h5.at_.low; omega
                have H5 := Lib.hid (And.intro h5 (And.intro (hv5.imp (S' := fun k => wr.heap.size ≤ k) fun k h1 _ => Nat.le_trans (show wr.heap.size ≤ (wr.alloc (.cells #[.int .u8 (y : Int)] 5 (0, 0))).heap.size by simp) h1) hok5))
                clear tt kt h5 hv5 hok5
                unfold vV)
           refine hK.out _ _ ?_ (fun hHeld => ?_)
           · (try dsimp only); (first
             | assumption
             | exact HS _ ⟨(heap_alloc_old w5 _ hwl5).trans q5.1, (heap_alloc_old w5 _ hbl5).trans q5.2⟩
             | exact HS _ q5
             | exact HS _ q7
             | exact HS _ ⟨(heap_alloc_old (w5.alloc (.cells #[.int .u8 (y : Int)] 5 (0, 0))) _ (Nat.lt_of_lt_of_le hwl5 (by simp))).trans ((heap_alloc_old w5 _ hwl5).trans q5.1), (heap_alloc_old (w5.alloc (.cells #[.int .u8 (y : Int)] 5 (0, 0))) _ (Nat.lt_of_lt_of_le hbl5 (by simp))).trans ((heap_alloc_old w5 _ hbl5).trans q5.2)⟩
             | exact HS _ ⟨(Below.heap_setCell _ _ _ _ hTw).trans q7.1, (Below.heap_setCell _ _ _ _ hTb).trans q7.2⟩)
           clear hK K
           rotate_left)
        | (refine wpAnyH_ready (rs := [1, 20]) (by decide +kernel) (by simp) ?_
           refine AllReadyH.cons (o := _) rfl (fun K hK => ?_) ?_
           rotate_left
           refine AllReadyH.cons (o := _) rfl (fun K hK => ?_) ?_
           rotate_left
           exact AllReadyH.nil
           go_simp
           refine hK.out _ _ ?_ (fun hHeld => ?_)
           · (try dsimp only); (first
             | assumption
             | exact HS _ ⟨(heap_alloc_old w5 _ hwl5).trans q5.1, (heap_alloc_old w5 _ hbl5).trans q5.2⟩
             | exact HS _ q5
             | exact HS _ q7
             | exact HS _ ⟨(heap_alloc_old (w5.alloc (.cells #[.int .u8 (y : Int)] 5 (0, 0))) _ (Nat.lt_of_lt_of_le hwl5 (by simp))).trans ((heap_alloc_old w5 _ hwl5).trans q5.1), (heap_alloc_old (w5.alloc (.cells #[.int .u8 (y : Int)] 5 (0, 0))) _ (Nat.lt_of_lt_of_le hbl5 (by simp))).trans ((heap_alloc_old w5 _ hbl5).trans q5.2)⟩
             | exact HS _ ⟨(Below.heap_setCell _ _ _ _ hTw).trans q7.1, (Below.heap_setCell _ _ _ _ hTb).trans q7.2⟩)
           clear hK K
           rotate_left
           go_simp
           refine hK.out _ _ ?_ (fun hHeld => ?_)
           · (try dsimp only); (first
             | assumption
             | exact HS _ ⟨(heap_alloc_old w5 _ hwl5).trans q5.1, (heap_alloc_old w5 _ hbl5).trans q5.2⟩
             | exact HS _ q5
             | exact HS _ q7
             | exact HS _ ⟨(heap_alloc_old (w5.alloc (.cells #[.int .u8 (y : Int)] 5 (0, 0))) _ (Nat.lt_of_lt_of_le hwl5 (by simp))).trans ((heap_alloc_old w5 _ hwl5).trans q5.1), (heap_alloc_old (w5.alloc (.cells #[.int .u8 (y : Int)] 5 (0, 0))) _ (Nat.lt_of_lt_of_le hbl5 (by simp))).trans ((heap_alloc_old w5 _ hbl5).trans q5.2)⟩
             | exact HS _ ⟨(Below.heap_setCell _ _ _ _ hTw).trans q7.1, (Below.heap_setCell _ _ _ _ hTb).trans q7.2⟩)
           clear hK K
           rotate_left)
        | (refine wpAnyH_ready (rs := [18]) (by decide +kernel) (by simp) ?_
           refine AllReadyH.cons (o := _) rfl (fun K hK => ?_) ?_
           rotate_left
           exact AllReadyH.nil
           go_simp
           first
             | (go_at_call 31; (try rw [wdp]); refine (IH.out B s S _ kd' nm' lo' hi' pat' a' l' c' HR.out.1.at_.st HR.out.2 hS).mono ?_
                rintro e w5 ⟨⟨t5, k5, n5, str5, q5, rfl, hv5, hok5⟩, tt, kt⟩
                obtain ⟨aq, cq, rfl, -⟩ := hv5.slice
                have h5 := HR.out.1.step hsl tt kt
                have hz5 := h5.lt
                obtain ⟨⟨g0, g1, g2, g3⟩, g4, g5, g6, g7⟩ := cells4 h5.at_.c9
                have ey := fun o => Lib.cell?_alloc_some (W := w5) o g3
                have eyy := fun o o' => Lib.cell?_alloc_some (W := w5.alloc o) o' (ey o)
                have hcvB := conv1g w5 w5.heap.size rfl (y : Int)
                have q5 : w5.heap[w.heap.size]? = wr.heap[w.heap.size]? ∧ w5.heap[b]? = wr.heap[b]? := ⟨h5.at_.c5.trans c5w.symm, (kt.block b hbl (hS b hSb))⟩
                have hbl5 : b < w5.heap.size := Nat.lt_of_lt_of_le hbl kt.size
                have hwl5 : w.heap.size < w5.heap.size := by have := h5.at_.low; omega
                have H5 := Lib.hid (And.intro h5 (And.intro (hv5.imp (S' := fun k => wr.heap.size ≤ k) fun k h1 _ => h1) hok5))
                clear tt kt h5 hv5 hok5
                unfold vV)
             | (go_at_call 31; (try rw [wdp]); refine (IH.out B s S _ kd' nm' lo' hi' pat' a' l' c' HRa.out.1.at_.st HRa.out.2 hS).mono ?_
                rintro e w5 ⟨⟨t5, k5, n5, str5, q5, rfl, hv5, hok5⟩, tt, kt⟩
                obtain ⟨aq, cq, rfl, -⟩ := hv5.slice
                have h5 := HRa.out.1.step hsl tt kt
                have hz5 := h5.lt
                obtain ⟨⟨g0, g1, g2, g3⟩, g4, g5, g6, g7⟩ := cells4 h5.at_.c9
                have ey := fun o => Lib.cell?_alloc_some (W := w5) o g3
                have eyy := fun o o' => Lib.cell?_alloc_some (W := w5.alloc o) o' (ey o)
                have hcvC := run_convert_bytes_arg (P := Try.prog) w5 90 5 Try.underlying90 Try.underlying5 wr.heap.size 0 1 1 [(y : Int)] rfl (fun i hi => by
                  obtain rfl : i = 0 := by omega
                  exact (World.cell?_of_block (a := ⟨wr.heap.size, 0, none⟩) (kt.block wr.heap.size (by show wr.heap.size < (wr.alloc (.cells #[.int .u8 (y : Int)] 5 (0, 0))).heap.size; simp) (by have := HR.out.1.at_.st.lt; have : wr.drew.heap.size = wr.heap.size := rfl; omega))).trans (by show World.cell? (wr.alloc (.cells #[.int .u8 (y : Int)] 5 (0, 0))) ⟨wr.heap.size, 0, none⟩ = _; rw [Lib.cell_of_heap (heap_alloc_new wr _)]; rfl))
                have q5 : w5.heap[w.heap.size]? = wr.heap[w.heap.size]? ∧ w5.heap[b]? = wr.heap[b]? := ⟨h5.at_.c5.trans c5w.symm, (kt.block b (by show b < (wr.alloc (.cells #[.int .u8 (y : Int)] 5 (0, 0))).heap.size; simp; omega) (hS b hSb)).trans (heap_alloc_old wr _ hbl)⟩
                have hbl5 : b < w5.heap.size := Nat.lt_of_lt_of_le (show b < (wr.alloc (.cells #[.int .u8 (y : Int)] 5 (0, 0))).heap.size by simp; omega) kt.size
                have hwl5 : w.heap.size < w5.heap.size := by have := h5.at_.low; omega
                have H5 := Lib.hid (And.intro h5 (And.intro (hv5.imp (S' := fun k => wr.heap.size ≤ k) fun k h1 _ => Nat.le_trans (show wr.heap.size ≤ (wr.alloc (.cells #[.int .u8 (y : Int)] 5 (0, 0))).heap.size by simp) h1) hok5))
                clear tt kt h5 hv5 hok5
                unfold vV)
           refine hK.out _ _ ?_ (fun hHeld => ?_)
           · (try dsimp only); (first
             | assumption
             | exact HS _ ⟨(heap_alloc_old w5 _ hwl5).trans q5.1, (heap_alloc_old w5 _ hbl5).trans q5.2⟩
             | exact HS _ q5
             | exact HS _ q7
             | exact HS _ ⟨(heap_alloc_old (w5.alloc (.cells #[.int .u8 (y : Int)] 5 (0, 0))) _ (Nat.lt_of_lt_of_le hwl5 (by simp))).trans ((heap_alloc_old w5 _ hwl5).trans q5.1), (heap_alloc_old (w5.alloc (.cells #[.int .u8 (y : Int)] 5 (0, 0))) _ (Nat.lt_of_lt_of_le hbl5 (by simp))).trans ((heap_alloc_old w5 _ hbl5).trans q5.2)⟩
             | exact HS _ ⟨(Below.heap_setCell _ _ _ _ hTw).trans q7.1, (Below.heap_setCell _ _ _ _ hTb).trans q7.2⟩)
           clear hK K
           rotate_left)
        | (refine wpAnyH_ready (rs := [7]) (by decide +kernel) (by simp) ?_
           refine AllReadyH.cons (o := _) rfl (fun K hK => ?_) ?_
           rotate_left
           exact AllReadyH.nil
           go_simp
           refine hK.out _ _ ?_ (fun hHeld => ?_)
           · (try dsimp only); (first
             | assumption
             | exact HS _ ⟨(heap_alloc_old w5 _ hwl5).trans q5.1, (heap_alloc_old w5 _ hbl5).trans q5.2⟩
             | exact HS _ q5
             | exact HS _ q7
             | exact HS _ ⟨(heap_alloc_old (w5.alloc (.cells #[.int .u8 (y : Int)] 5 (0, 0))) _ (Nat.lt_of_lt_of_le hwl5 (by simp))).trans ((heap_alloc_old w5 _ hwl5).trans q5.1), (heap_alloc_old (w5.alloc (.cells #[.int .u8 (y : Int)] 5 (0, 0))) _ (Nat.lt_of_lt_of_le hbl5 (by simp))).trans ((heap_alloc_old w5 _ hbl5).trans q5.2)⟩
             | exact HS _ ⟨(Below.heap_setCell _ _ _ _ hTw).trans q7.1, (Below.heap_setCell _ _ _ _ hTb).trans q7.2⟩)
           clear hK K
           rotate_left)
        | (refine wpAnyH_ready (rs := [8]) (by decide +kernel) (by simp) ?_
           refine AllReadyH.cons (o := _) rfl (fun K hK => ?_) ?_
           rotate_left
           exact AllReadyH.nil
           go_simp
           refine hK.out _ _ ?_ (fun hHeld => ?_)
           · (try dsimp only); (first
             | assumption
             | exact HS _ ⟨(heap_alloc_old w5 _ hwl5).trans q5.1, (heap_alloc_old w5 _ hbl5).trans q5.2⟩
             | exact HS _ q5
             | exact HS _ q7
             | exact HS _ ⟨(heap_alloc_old (w5.alloc (.cells #[.int .u8 (y : Int)] 5 (0, 0))) _ (Nat.lt_of_lt_of_le hwl5 (by simp))).trans ((heap_alloc_old w5 _ hwl5).trans q5.1), (heap_alloc_old (w5.alloc (.cells #[.int .u8 (y : Int)] 5 (0, 0))) _ (Nat.lt_of_lt_of_le hbl5 (by simp))).trans ((heap_alloc_old w5 _ hbl5).trans q5.2)⟩
             | exact HS _ ⟨(Below.heap_setCell _ _ _ _ hTw).trans q7.1, (Below.heap_setCell _ _ _ _ hTb).trans q7.2⟩)
           clear hK K
           rotate_left)
        | (refine wpAnyH_ready (rs := [1]) (by decide +kernel) (by simp) ?_
           refine AllReadyH.cons (o := _) rfl (fun K hK => ?_) ?_
           rotate_left
           exact AllReadyH.nil
           go_simp
           refine hK.out _ _ ?_ (fun hHeld => ?_)
           · (try dsimp only); (first
             | assumption
             | exact HS _ ⟨(heap_alloc_old w5 _ hwl5).trans q5.1, (heap_alloc_old w5 _ hbl5).trans q5.2⟩
             | exact HS _ q5
             | exact HS _ q7
             | exact HS _ ⟨(heap_alloc_old (w5.alloc (.cells #[.int .u8 (y : Int)] 5 (0, 0))) _ (Nat.lt_of_lt_of_le hwl5 (by simp))).trans ((heap_alloc_old w5 _ hwl5).trans q5.1), (heap_alloc_old (w5.alloc (.cells #[.int .u8 (y : Int)] 5 (0, 0))) _ (Nat.lt_of_lt_of_le hbl5 (by simp))).trans ((heap_alloc_old w5 _ hbl5).trans q5.2)⟩
             | exact HS _ ⟨(Below.heap_setCell _ _ _ _ hTw).trans q7.1, (Below.heap_setCell _ _ _ _ hTb).trans q7.2⟩)
           clear hK K
           rotate_left)
        | (refine wpAnyH_ready (rs := [20]) (by decide +kernel) (by simp) ?_
           refine AllReadyH.cons (o := _) rfl (fun K hK => ?_) ?_
           rotate_left
           exact AllReadyH.nil
           go_simp
           refine hK.out _ _ ?_ (fun hHeld => ?_)
           · (try dsimp only); (first
             | assumption
             | exact HS _ ⟨(heap_alloc_old w5 _ hwl5).trans q5.1, (heap_alloc_old w5 _ hbl5).trans q5.2⟩
             | exact HS _ q5
             | exact HS _ q7
             | exact HS _ ⟨(heap_alloc_old (w5.alloc (.cells #[.int .u8 (y : Int)] 5 (0, 0))) _ (Nat.lt_of_lt_of_le hwl5 (by simp))).trans ((heap_alloc_old w5 _ hwl5).trans q5.1), (heap_alloc_old (w5.alloc (.cells #[.int .u8 (y : Int)] 5 (0, 0))) _ (Nat.lt_of_lt_of_le hbl5 (by simp))).trans ((heap_alloc_old w5 _ hbl5).trans q5.2)⟩
             | exact HS _ ⟨(Below.heap_setCell _ _ _ _ hTw).trans q7.1, (Below.heap_setCell _ _ _ _ hTb).trans q7.2⟩)
           clear hK K
           rotate_left)
        | (refine wpAnyH_ready (rs := [21]) (by decide +kernel) (by simp) ?_
           refine AllReadyH.cons (o := _) rfl (fun K hK => ?_) ?_
           rotate_left
           exact AllReadyH.nil
           first
             | (refine step_append_el elem_field rfl _ _ 23 rfl Try.underlying23 (T + 1) _ fs.length xs rfl (H5.out.1.row.alloc _) (by omega) w5.heap.size 1 (fieldCells (strOfNums [(y : Int)]) k5 n5 str5 (.slice aq t5.fs.length cq)) rfl rfl (heap_alloc_new w5 _) (by simp [fieldCells, Value.oneCell']) (Nat.le_trans H5.out.1.lt (by simp)) ?_
                intro g cap w7 hrow7 hg7 hv7
                have hVR := H5.out.1
                have hb7 := ((Below.refl (T + 1) (w5)).alloc hVR.lt _).grown hg7 (Nat.le_trans hVR.lt (by simp)) (fun k hk => (World.ownsRow.lt (hVR.row.alloc (.cells (fieldCells (strOfNums [(y : Int)]) k5 n5 str5 (.slice aq t5.fs.length cq)).toArray 33 (0, 0))) k hk).1)
                obtain ⟨⟨f0, f1, f2, f3⟩, f4, f5, f6, f7⟩ := cells4 ((hb7.block _ (Nat.lt_succ_self _)).trans hVR.at_.c9)
                have h8 := hVR.app hsl _ (strOfNums [(y : Int)]) k5 n5 str5 (.slice aq t5.fs.length cq) t5 g cap wr.heap.size hTl hown H5.out.2.1 hrow7 hg7 (hv7.imp id (fun h => by rw [h]; simp))
                have q7 : w7.heap[w.heap.size]? = wr.heap[w.heap.size]? ∧ w7.heap[b]? = wr.heap[b]? := ⟨((Below.heap_setCell _ _ _ _ hTw).symm.trans h8.at_.c5).trans c5w.symm, (hb7.block b (Nat.lt_succ_of_lt hbT2)).trans (q5.2)⟩
                have H8 := Lib.hid h8
                clear hb7 h8 hrow7 hg7 hv7 hVR)
             | (refine step_append_el elem_field rfl _ _ 23 rfl Try.underlying23 (T + 1) _ fs.length xs rfl ((H5.out.1.below hsl ((Below.refl w5.heap.size w5).alloc (Nat.le_refl _) (.cells #[.int .u8 (y : Int)] 5 (0, 0)))).row.alloc _) (by omega) (w5.heap.size + 1) 1 (fieldCells (strOfNums [(y : Int)]) k5 n5 str5 (.slice aq t5.fs.length cq)) rfl rfl (pair2 w5 _ _) (by simp [fieldCells, Value.oneCell']) (Nat.le_trans (H5.out.1.below hsl ((Below.refl w5.heap.size w5).alloc (Nat.le_refl _) (.cells #[.int .u8 (y : Int)] 5 (0, 0)))).lt (by simp)) ?_
                intro g cap w7 hrow7 hg7 hv7
                have hVR := (H5.out.1.below hsl ((Below.refl w5.heap.size w5).alloc (Nat.le_refl _) (.cells #[.int .u8 (y : Int)] 5 (0, 0))))
                have hb7 := ((Below.refl (T + 1) (w5.alloc (.cells #[.int .u8 (y : Int)] 5 (0, 0)))).alloc hVR.lt _).grown hg7 (Nat.le_trans hVR.lt (by simp)) (fun k hk => (World.ownsRow.lt (hVR.row.alloc (.cells (fieldCells (strOfNums [(y : Int)]) k5 n5 str5 (.slice aq t5.fs.length cq)).toArray 33 (0, 0))) k hk).1)
                obtain ⟨⟨f0, f1, f2, f3⟩, f4, f5, f6, f7⟩ := cells4 ((hb7.block _ (Nat.lt_succ_self _)).trans hVR.at_.c9)
                have h8 := hVR.app hsl _ (strOfNums [(y : Int)]) k5 n5 str5 (.slice aq t5.fs.length cq) t5 g cap wr.heap.size hTl hown (H5.out.2.1.keep (by simp) fun k _ h2 => heap_alloc_old w5 (.cells #[.int .u8 (y : Int)] 5 (0, 0)) h2) hrow7 hg7 (hv7.imp id (fun h => by rw [h]; simp))
                have q7 : w7.heap[w.heap.size]? = wr.heap[w.heap.size]? ∧ w7.heap[b]? = wr.heap[b]? := ⟨((Below.heap_setCell _ _ _ _ hTw).symm.trans h8.at_.c5).trans c5w.symm, (hb7.block b (Nat.lt_succ_of_lt hbT2)).trans ((heap_alloc_old w5 (.cells #[.int .u8 (y : Int)] 5 (0, 0)) hbl5).trans q5.2)⟩
                have H8 := Lib.hid h8
                clear hb7 h8 hrow7 hg7 hv7 hVR)
           refine hK.out _ _ ?_ (fun hHeld => ?_)
           · (try dsimp only); (first
             | assumption
             | exact HS _ ⟨(heap_alloc_old w5 _ hwl5).trans q5.1, (heap_alloc_old w5 _ hbl5).trans q5.2⟩
             | exact HS _ q5
             | exact HS _ q7
             | exact HS _ ⟨(heap_alloc_old (w5.alloc (.cells #[.int .u8 (y : Int)] 5 (0, 0))) _ (Nat.lt_of_lt_of_le hwl5 (by simp))).trans ((heap_alloc_old w5 _ hwl5).trans q5.1), (heap_alloc_old (w5.alloc (.cells #[.int .u8 (y : Int)] 5 (0, 0))) _ (Nat.lt_of_lt_of_le hbl5 (by simp))).trans ((heap_alloc_old w5 _ hbl5).trans q5.2)⟩
             | exact HS _ ⟨(Below.heap_setCell _ _ _ _ hTw).trans q7.1, (Below.heap_setCell _ _ _ _ hTb).trans q7.2⟩)
           clear hK K
           rotate_left)
        | (refine wpAnyH_ready (rs := [23]) (by decide +kernel) (by simp) ?_
           refine AllReadyH.cons (o := _) rfl (fun K hK => ?_) ?_
           rotate_left
           exact AllReadyH.nil
           go_simp
           refine hK.out _ _ ?_ (fun hHeld => ?_)
           · (try dsimp only); (first
             | assumption
             | exact HS _ ⟨(heap_alloc_old w5 _ hwl5).trans q5.1, (heap_alloc_old w5 _ hbl5).trans q5.2⟩
             | exact HS _ q5
             | exact HS _ q7
             | exact HS _ ⟨(heap_alloc_old (w5.alloc (.cells #[.int .u8 (y : Int)] 5 (0, 0))) _ (Nat.lt_of_lt_of_le hwl5 (by simp))).trans ((heap_alloc_old w5 _ hwl5).trans q5.1), (heap_alloc_old (w5.alloc (.cells #[.int .u8 (y : Int)] 5 (0, 0))) _ (Nat.lt_of_lt_of_le hbl5 (by simp))).trans ((heap_alloc_old w5 _ hbl5).trans q5.2)⟩
             | exact HS _ ⟨(Below.heap_setCell _ _ _ _ hTw).trans q7.1, (Below.heap_setCell _ _ _ _ hTb).trans q7.2⟩)
           clear hK K
           rotate_left)
        | fail
      all_goals
        go_wp2_with fail
        refine ⟨⟨fs.length + 1, _, _, _, fs ++ [(strOfNums [(y : Int)], t5)], by simp, by omega, by simp, by rw [List.length_append]; exact H8.out, ?_, ?_⟩, by simp [intOf]; omega⟩
        · exact mnames_last hnames (by rw [str_one, HY.out.2, HY.out.1, Nat.add_assoc])
        · exact oks_last hoks H5.out.2.2
    · have ti : decide ((fs.length : Int) < (m : Int)) = false := decide_eq_false (by omega)
      obtain ⟨⟨b0, b1, b2, b3⟩, b4, b5, b6, b7⟩ := cells4 hrow.at_.c9
      obtain ⟨⟨m0, m1, m2, m3⟩, m4, m5, m6, m7⟩ := cells4 hrow.at_.c8
      have HR := Lib.hid hrow
      clear hrow
      go_wp2_with fail
      refine bodyPost_ret (results_cell_row rfl _ _ (w.heap.size + 1) 25 #[.int .i64 9, .int .i64 (0), .string ⟨#[]⟩, .slice av fs.length cv] (0, 0) _ rfl (set4 HR.out.at_.c8 _ _ _ _) Try.underlying25 rfl (by kernel_rfl)) rfl ?_
      exact val_post HR.out.at_ hsl (mkT 9 0 ⟨#[]⟩ fs) (HR.out.isV) (⟨Or.inr (Or.inr (Or.inr (Or.inr ⟨Or.inr (by show (5 : Int) ≤ 9; decide), rfl⟩))), Or.inr rfl, Nat.zero_le _, Or.inr (Or.inr (Or.inr (Or.inr ⟨rfl, by show (fs.map Prod.fst).length ≤ 4; rw [List.length_map]; omega, q, by omega, by show ∀ i, i < (fs.map Prod.fst).length → _; rw [List.length_map]; exact hnames⟩))), hoks⟩)

end Go.Proofs.Ytkcpnehhcpmdgaa
