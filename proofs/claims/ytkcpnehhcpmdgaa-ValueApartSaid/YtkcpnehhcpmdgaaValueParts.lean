/- clapkeep1.ValueParts: it answers true for every list of raw numbers. -/
import Derived.Test.YtkcpnehhcpmdgaaGet
import Derived.Test.YtkcpnehhcpmdgaaValueOrder
namespace Go.Proofs.Ytkcpnehhcpmdgaa
open Go.RowKit

theorem sum_bound (xs : List Nat) (B : Nat) (h : ∀ x ∈ xs, x ≤ B) : xs.sum ≤ xs.length * B := by
  induction xs with
  | nil => simp
  | cons x xs ih =>
    have h1 := h x (List.mem_cons_self ..)
    have h2 := ih fun y hy => h y (List.mem_cons_of_mem _ hy)
    rw [List.sum_cons, List.length_cons, Nat.add_mul]
    omega
theorem tsize_le : ∀ (d : Nat) (t : TVal d), OkT d t → tsize d t ≤ 5 ^ d
  | 0, t, _ => t.elim
  | d + 1, t, h => by
    have hl := okT_len h
    have hs : ∀ f ∈ t.fs, OkT d f.2 := h.2.2.2.2
    show 1 + (t.fs.map fun f => tsize d f.2).sum ≤ 5 ^ (d + 1)
    have h1 := sum_bound (t.fs.map fun f => tsize d f.2) (5 ^ d) fun x hx => by
      obtain ⟨f, hf, rfl⟩ := List.mem_map.1 hx
      exact tsize_le d f.2 (hs f hf)
    rw [List.length_map] at h1
    have h2 : t.fs.length * 5 ^ d ≤ 4 * 5 ^ d := Nat.mul_le_mul_right _ hl
    have h3 : 0 < 5 ^ d := Nat.pow_pos (by decide)
    rw [Nat.pow_succ]
    omega
theorem max_le_sum (xs : List Nat) (a : Nat) : xs.foldl max a ≤ a + xs.sum := by
  induction xs generalizing a with
  | nil => simp
  | cons x xs ih =>
    have := ih (max a x)
    rw [List.foldl_cons, List.sum_cons]
    omega
theorem sum_mono {α : Type} (f g : α → Nat) (xs : List α) (h : ∀ x ∈ xs, f x ≤ g x) : (xs.map f).sum ≤ (xs.map g).sum := by
  induction xs with
  | nil => simp
  | cons x xs ih =>
    have h1 := h x (List.mem_cons_self ..)
    have h2 := ih fun y hy => h y (List.mem_cons_of_mem _ hy)
    rw [List.map_cons, List.map_cons, List.sum_cons, List.sum_cons]
    omega
theorem tdeep_tsize : ∀ (d : Nat) (t : TVal d), tdeep d t ≤ tsize d t
  | 0, t => t.elim
  | d + 1, t => by
    show 1 + (t.fs.map fun f => tdeep d f.2).foldl max 0 ≤ 1 + (t.fs.map fun f => tsize d f.2).sum
    have h1 := max_le_sum (t.fs.map fun f => tdeep d f.2) 0
    have h2 := sum_mono (fun f : ByteArray × TVal d => tdeep d f.2) (fun f => tsize d f.2) t.fs fun f _ => tdeep_tsize d f.2
    omega
theorem letters_inj (i j : Nat) (x : ByteArray) (hi : letters[i]? = some x) (hj : letters[j]? = some x) (h4 : i < 4) (h4' : j < 4) : i = j := by
  rcases (show i = 0 ∨ i = 1 ∨ i = 2 ∨ i = 3 by omega) with rfl | rfl | rfl | rfl <;> rcases (show j = 0 ∨ j = 1 ∨ j = 2 ∨ j = 3 by omega) with rfl | rfl | rfl | rfl <;> first | rfl | (simp [letters] at hi hj; rw [← hi] at hj; simp at hj)
/-- A record's field is found by its name. -/
theorem get_record {d B : Nat} {t : TVal (d + 1)} (hok : OkT (d + 1) t) (hk : t.k = 6) {i : Nat} {nm : ByteArray} {tf : TVal d} (hf : t.fs[i]? = some (nm, tf)) {e : Ending} {w : World} (h : GetOut d B 6 t.fs nm e w) :
    ∃ kk nn ss a l c, e = .returned (.tuple #[.agg #[.int .i64 kk, .int .i64 nn, .string ss, .slice a l c], .bool true]) ∧ IsV d (B ≤ ·) w kk nn ss (.slice a l c) tf := by
  have hl := okT_len hok
  obtain ⟨_, _, _, hn, _⟩ := hok
  have hn6 : ∀ j, j < (t.fs.map Prod.fst).length → (t.fs.map Prod.fst)[j]? = letters[j]? := by
    rcases hn with ⟨_, h1, _⟩ | ⟨_, _, h1⟩ | ⟨h1, _⟩ | ⟨h1, _⟩ | ⟨h1, _⟩
    · omega
    · exact h1
    · omega
    · omega
    · omega
  have hname : ∀ j f, t.fs[j]? = some f → letters[j]? = some f.1 ∧ j < 4 := fun j f hj => by
    have hjl := (List.getElem?_eq_some_iff.1 hj).1
    have := hn6 j (by rw [List.length_map]; exact hjl)
    rw [List.getElem?_map, hj] at this
    exact ⟨this.symm, by omega⟩
  rcases h with ⟨j, f, kk, nn, ss, a, l, c, h1, h2, _, h4, h5⟩ | ⟨_, h2⟩
  · have e1 := hname j f h1
    have e2 := hname i _ hf
    rw [h2] at e1
    have hij := letters_inj j i nm e1.1 e2.1 e1.2 e2.2
    subst hij
    rw [hf] at h1
    injection h1 with h1
    subst h1
    exact ⟨kk, nn, ss, a, l, c, h4, h5⟩
  · rcases h2 with h2 | h2
    · omega
    · exact absurd rfl (h2 _ (List.mem_of_getElem? hf))

set_option maxRecDepth 100000 in
set_option maxHeartbeats 4000000 in
theorem valueParts_walk (p1 : Option Addr) (l1 c1 : Nat) (zs1 : List Int) (w : World) (h1 : IsRow .i64 w p1 l1 c1 zs1) :
    Calls Try.prog 4 #[.slice p1 l1 c1] w fun e w' => e = .returned (.bool true) ∧ Below w.heap.size w w' := by
  have HI := Lib.hid (any_any p1 l1 c1 zs1 w h1)
  clear h1
  go_enter Try.func4, Try.ntmps4
  go_wp2_with fail
  refine HI.out.mono ?_
  rintro e w1 ⟨⟨t, k, n, s, a1, l, c, rfl, hv, hok⟩, hb1⟩
  obtain ⟨a1', c', hp, hcc, q1, q2, q3⟩ := hv.slice
  simp only [Value.slice.injEq] at hp
  obtain ⟨rfl, rfl, rfl⟩ := hp
  have hal := (Below.refl w1.heap.size w1).alloc (Nat.le_refl _) (.cells #[.int .i64 k, .int .i64 n, .string s, .slice a1 t.fs.length c] 25 (0, 0))
  have hT := heap_alloc_new w1 (.cells #[.int .i64 k, .int .i64 n, .string s, .slice a1 t.fs.length c] 25 (0, 0))
  have hv2 := hv.below (Nat.le_refl _) hal
  have H1 := Lib.hid (And.intro hT (And.intro hv2 (And.intro hok (And.intro q1 (hb1.trans (hal.mono hb1.size))))))
  clear hv hok hb1 hal hT hv2 q1 q2 q3
  unfold vV
  go_upto_region 2 with fail
  have h1 := H1.out
  clear H1 HI
  generalize w1.alloc (.cells #[.int .i64 k, .int .i64 n, .string s, .slice a1 t.fs.length c] 25 (0, 0)) = W at *
  generalize w1.heap.size = T at *
  obtain ⟨hT, hv, hok, hkk, hbw⟩ := h1
  have htz := tsize_le 4 t hok
  have htt : tsize 4 t = 1 + (t.fs.map fun f => tsize 3 f.2).sum := rfl
  have hlen := okT_len hok
  have hv0 := hv
  obtain ⟨-, -, -, c2, a2, hp, -, hf1⟩ := hv0
  obtain ⟨⟨a0, a1', a2', a3⟩, -⟩ := cells4 hT
  have H1 := Lib.hid (And.intro hT (And.intro hv (And.intro hok (And.intro hkk (And.intro hbw (And.intro htt htz))))))
  have HF := Lib.hid hf1
  simp only [Value.slice.injEq] at hp
  obtain ⟨rfl, -, rfl⟩ := hp
  clear hT hv hok hkk hbw htt htz hf1
  go_wp2_with fail
  go_loopw [14, 4] (fun iv nv wr => ∃ i : Nat, iv = .int .i64 i ∧ i ≤ t.fs.length ∧ nv = .int .i64 ((1 + ((t.fs.take i).map fun f => tsize 3 f.2).sum : Nat) : Int) ∧ Below W.heap.size W wr) (fun iv _ _ => t.fs.length - (intOf iv).toNat)
  case atStart => exact ⟨0, rfl, Nat.zero_le _, by simp, Below.refl _ _⟩
  case round =>
    obtain ⟨i, rfl, hi, rfl, hb⟩ := hrel
    have hzr := hb.size
    have hTl := lt_of_block H1.out.1
    by_cases hlt : i < t.fs.length
    · have wi : IntKind.i64.wrap ((i : Int) + 1) = (i : Int) + 1 := IntWalk.i64_in _ ⟨by omega, by omega⟩
      have ti : (i : Int) < (t.fs.length : Int) := by omega
      have hni : ((i : Int)).toNat = i := by omega
      have hf : t.fs[i]? = some t.fs[i] := List.getElem?_eq_getElem hlt
      have hm := List.getElem_mem hlt
      have hst := sum_take (fun f : ByteArray × TVal 3 => tsize 3 f.2) t.fs i hlt
      have hle := sum_le (fun f : ByteArray × TVal 3 => tsize 3 f.2) t.fs (i + 1)
      generalize t.fs[i] = f at hf hm hst
      obtain ⟨nf, tf⟩ := f
      obtain ⟨b1, kk1, nn1, ss1, pp1, rfl, -, hl1, y0, y1, y2, y3, y4, v1⟩ := HF.out i _ hf
      obtain ⟨pa1, pl1, pc1, rfl⟩ := v1.isSlice
      rw [← hb.cell (show (⟨b1, i * 5, none⟩ : Addr).block < W.heap.size from hl1)] at y0
      rw [← hb.cell (show (⟨b1, i * 5 + 1, none⟩ : Addr).block < W.heap.size from hl1)] at y1
      rw [← hb.cell (show (⟨b1, i * 5 + 2, none⟩ : Addr).block < W.heap.size from hl1)] at y2
      rw [← hb.cell (show (⟨b1, i * 5 + 3, none⟩ : Addr).block < W.heap.size from hl1)] at y3
      rw [← hb.cell (show (⟨b1, i * 5 + 4, none⟩ : Addr).block < W.heap.size from hl1)] at y4
      obtain ⟨Z, hZ⟩ : ∃ Z, Z = ((t.fs.take i).map fun f => tsize 3 f.2).sum := ⟨_, rfl⟩
      have hst2 : ((t.fs.take (i + 1)).map fun f => tsize 3 f.2).sum = Z + tsize 3 tf := by rw [hZ]; exact hst
      have htz := H1.out.2.2.2.2.2.2
      have htt := H1.out.2.2.2.2.2.1
      have hfit : 1 + Z + tsize 3 tf ≤ 625 := by omega
      have wz : IntKind.i64.wrap (((1 + Z : Nat) : Int) + (tsize 3 tf : Nat)) = ((1 + Z + tsize 3 tf : Nat) : Int) := by rw [IntWalk.i64_in _ ⟨by omega, by omega⟩]; omega
      rw [← hZ]
      have hal := (Below.refl wr.heap.size wr).alloc (Nat.le_refl _) (.cells #[.string nf, .int .i64 kk1, .int .i64 nn1, .string ss1, .slice pa1 pl1 pc1] 33 (0, 0))
      have hX := heap_alloc_new wr (.cells #[.string nf, .int .i64 kk1, .int .i64 nn1, .string ss1, .slice pa1 pl1 pc1] 33 (0, 0))
      have hbA := hb.trans (hal.mono hzr)
      have H2 := Lib.hid (And.intro hbA (And.intro hX (And.intro (v1.below (Nat.le_refl _) hbA) (And.intro hst2 (And.intro hf hm)))))
      have hsz5 : tsize 3 tf ≤ 1000000 := by omega
      clear hal hX hbA v1 hst hle hst2 hZ htz htt hf hm hfit hb
      generalize hQ : ((1 + Z : Nat) : Int) = Q at *
      go_upto_region 6 with fail
      have h2 := H2.out
      clear H2 y0 y1 y2 y3 y4
      generalize wr.alloc (.cells #[.string nf, .int .i64 kk1, .int .i64 nn1, .string ss1, .slice pa1 pl1 pc1] 33 (0, 0)) = Wa at *
      generalize wr.heap.size = X at *
      obtain ⟨hbA, hX, hvf, hst2, hf, hm⟩ := h2
      obtain ⟨x0, x1, x2, x3, x4⟩ := cells5 hX
      have hsz := size_any 3 _ Wa kk1 nn1 ss1 _ tf hvf hsz5
      have H2 := Lib.hid (And.intro hbA (And.intro hX (And.intro hvf (And.intro hst2 (And.intro hf hm)))))
      have HZ := Lib.hid (And.intro hsz hQ)
      clear hbA hX hvf hst2 hf hm hsz hsz5 hQ
      go_wp2_with fail
      refine HZ.out.1.mono ?_
      rintro e w3 ⟨rfl, hb3⟩
      have hz2 := H2.out.1.size
      have hbB := H2.out.1.trans (hb3.mono hz2)
      have hT3 := (hbB.block T hTl).trans H1.out.1
      have hX3 := (hb3.block X (lt_of_block H2.out.2.1)).trans H2.out.2.1
      have hv3 := IsV.below (S := fun b => w1.heap.size ≤ b ∨ True) (IsV.imp H1.out.2.1 fun _ _ _ => Or.inr trivial) (Nat.le_refl _) hbB
      have hvf3 := H2.out.2.2.1.below (Nat.le_refl _) hb3
      have hget := get_any 3 _ w3 k n s _ t nf hv3 H1.out.2.2.1
      obtain ⟨⟨b0, b1', b2, b3⟩, -⟩ := cells4 hT3
      obtain ⟨z0, z1, z2, z3, z4⟩ := cells5 hX3
      have H3 := Lib.hid (And.intro hget (And.intro hbB (And.intro hT3 (And.intro hX3 hvf3))))
      clear hget hbB hT3 hX3 hvf3 hv3 hb3
      go_wp2_with fail
      refine H3.out.1.mono ?_
      rintro e w4 ⟨hgo, hb4⟩
      by_cases hk : k = 6
      · have tk : (k == 6) = true := by rw [hk]; rfl
        rw [hk] at hgo
        obtain ⟨kk4, nn4, ss4, a4, l4, c4, rfl, hv4⟩ := get_record H1.out.2.2.1 (H1.out.2.2.2.1.trans hk) H2.out.2.2.2.2.1 hgo
        clear hgo hk
        have hal4 := (Below.refl w4.heap.size w4).alloc (Nat.le_refl _) (.cells #[.int .i64 kk4, .int .i64 nn4, .string ss4, .slice a4 l4 c4] 25 (0, 0))
        have hb5 := hb4.trans (hal4.mono hb4.size)
        have H4 := Lib.hid (And.intro (H3.out.2.1.trans (hb5.mono H3.out.2.1.size)) (And.intro (heap_alloc_new w4 (.cells #[.int .i64 kk4, .int .i64 nn4, .string ss4, .slice a4 l4 c4] 25 (0, 0))) (And.intro ((hb5.block T (lt_of_block H3.out.2.2.1)).trans H3.out.2.2.1) (And.intro ((hb5.block X (lt_of_block H3.out.2.2.2.1)).trans H3.out.2.2.2.1) (And.intro (H3.out.2.2.2.2.below (Nat.le_refl _) hb5) (hv4.below (Nat.le_refl _) hal4))))))
        clear hal4 hb5 hb4 hv4
        go_upto_region 8 with fail
        have h4 := H4.out
        clear H4
        generalize w4.alloc (.cells #[.int .i64 kk4, .int .i64 nn4, .string ss4, .slice a4 l4 c4] 25 (0, 0)) = Wb at *
        generalize w4.heap.size = Y at *
        obtain ⟨hbC, hY, hT4, hX4, hvf4, hv5⟩ := h4
        obtain ⟨⟨d0, d1, d2, d3⟩, -⟩ := cells4 hT4
        obtain ⟨-, e1, e2, e3, e4⟩ := cells5 hX4
        obtain ⟨⟨g0, g1, g2, g3⟩, -⟩ := cells4 hY
        have hsame := same_any 3 _ _ Wb kk4 nn4 ss4 _ tf kk1 nn1 ss1 _ tf hv5 hvf4
        rw [tcmp_self] at hsame
        have H4 := Lib.hid (And.intro hbC hsame)
        clear hbC hY hT4 hX4 hvf4 hv5 hsame
        go_wp2_with fail
        refine H4.out.2.mono ?_
        rintro e w6 ⟨rfl, hb6⟩
        have H6 := Lib.hid (H4.out.1.trans (hb6.mono H4.out.1.size))
        clear hb6
        go_wp2_with fail
        refine ⟨⟨i + 1, by simp, by omega, ?_, H6.out⟩, by simp [intOf]; omega⟩
        rw [H2.out.2.2.2.1, show ((1 + (Z + tsize 3 tf) : Nat) : Int) = 1 + (Z : Int) + (tsize 3 tf : Int) by omega]
      · have tk : (k == 6) = false := by rw [beq_eq_false_iff_ne]; exact hk
        clear hk
        rcases hgo with ⟨j, f, kk4, nn4, ss4, a4, l4, c4, -, -, -, rfl, -⟩ | ⟨rfl, -⟩
        · skip
          have hal4 := (Below.refl w4.heap.size w4).alloc (Nat.le_refl _) (.cells #[.int .i64 kk4, .int .i64 nn4, .string ss4, .slice a4 l4 c4] 25 (0, 0))
          have hb5 := hb4.trans (hal4.mono hb4.size)
          have H4 := Lib.hid (And.intro (H3.out.2.1.trans (hb5.mono H3.out.2.1.size)) (And.intro (heap_alloc_new w4 (.cells #[.int .i64 kk4, .int .i64 nn4, .string ss4, .slice a4 l4 c4] 25 (0, 0))) (And.intro ((hb5.block T (lt_of_block H3.out.2.2.1)).trans H3.out.2.2.1) (And.intro ((hb5.block X (lt_of_block H3.out.2.2.2.1)).trans H3.out.2.2.2.1) (And.intro (H3.out.2.2.2.2.below (Nat.le_refl _) hb5) trivial)))))
          clear hal4 hb5 hb4
          go_upto_region 8 with fail
          have h4 := H4.out
          clear H4
          generalize w4.alloc (.cells #[.int .i64 kk4, .int .i64 nn4, .string ss4, .slice a4 l4 c4] 25 (0, 0)) = Wb at *
          generalize w4.heap.size = Y at *
          obtain ⟨hbC, hY, hT4, hX4, hvf4, hv5⟩ := h4
          obtain ⟨⟨d0, d1, d2, d3⟩, -⟩ := cells4 hT4
          obtain ⟨-, e1, e2, e3, e4⟩ := cells5 hX4
          obtain ⟨⟨g0, g1, g2, g3⟩, -⟩ := cells4 hY
          have H4 := Lib.hid hbC
          clear hbC hY hT4 hX4 hvf4 hv5
          go_wp2_with fail
          refine ⟨⟨i + 1, by simp, by omega, ?_, H4.out⟩, by simp [intOf]; omega⟩
          rw [H2.out.2.2.2.1, show ((1 + (Z + tsize 3 tf) : Nat) : Int) = 1 + (Z : Int) + (tsize 3 tf : Int) by omega]
        · skip
          have hal4 := (Below.refl w4.heap.size w4).alloc (Nat.le_refl _) (.cells #[.int .i64 0, .int .i64 0, .string ⟨#[]⟩, .slice none 0 0] 25 (0, 0))
          have hb5 := hb4.trans (hal4.mono hb4.size)
          have H4 := Lib.hid (And.intro (H3.out.2.1.trans (hb5.mono H3.out.2.1.size)) (And.intro (heap_alloc_new w4 (.cells #[.int .i64 0, .int .i64 0, .string ⟨#[]⟩, .slice none 0 0] 25 (0, 0))) (And.intro ((hb5.block T (lt_of_block H3.out.2.2.1)).trans H3.out.2.2.1) (And.intro ((hb5.block X (lt_of_block H3.out.2.2.2.1)).trans H3.out.2.2.2.1) (And.intro (H3.out.2.2.2.2.below (Nat.le_refl _) hb5) trivial)))))
          clear hal4 hb5 hb4
          go_upto_region 8 with fail
          have h4 := H4.out
          clear H4
          generalize w4.alloc (.cells #[.int .i64 0, .int .i64 0, .string ⟨#[]⟩, .slice none 0 0] 25 (0, 0)) = Wb at *
          generalize w4.heap.size = Y at *
          obtain ⟨hbC, hY, hT4, hX4, hvf4, hv5⟩ := h4
          obtain ⟨⟨d0, d1, d2, d3⟩, -⟩ := cells4 hT4
          obtain ⟨-, e1, e2, e3, e4⟩ := cells5 hX4
          obtain ⟨⟨g0, g1, g2, g3⟩, -⟩ := cells4 hY
          have H4 := Lib.hid hbC
          clear hbC hY hT4 hX4 hvf4 hv5
          go_wp2_with fail
          refine ⟨⟨i + 1, by simp, by omega, ?_, H4.out⟩, by simp [intOf]; omega⟩
          rw [H2.out.2.2.2.1, show ((1 + (Z + tsize 3 tf) : Nat) : Int) = 1 + (Z : Int) + (tsize 3 tf : Int) by omega]
    · have ti : decide ((i : Int) < (t.fs.length : Int)) = false := decide_eq_false (by omega)
      have hx : t.fs.take i = t.fs := List.take_of_length_le (by omega)
      have htt := H1.out.2.2.2.2.2.1
      have htz := H1.out.2.2.2.2.2.2
      have hdt := tdeep_tsize 4 t
      have htz2 : tsize 4 t ≤ 1000000 := Nat.le_trans htz (by decide)
      rw [hx, ← htt]
      have hT3 := (hb.block T hTl).trans H1.out.1
      have hv3 := IsV.below (S := fun b => w1.heap.size ≤ b ∨ True) (IsV.imp H1.out.2.1 fun _ _ _ => Or.inr trivial) (Nat.le_refl _) hb
      have HV := Lib.hid (And.intro (values_any wr) (And.intro hT3 (And.intro hv3 (H1.out.2.2.2.2.1.trans (hb.mono H1.out.2.2.2.2.1.size)))))
      have tdt : (tdeep 4 t : Int) ≤ (tsize 4 t : Int) := by omega
      have HZ := Lib.hid htz2
      clear hb hT3 hv3 htt htz hdt htz2
      go_wp2_with fail
      refine HV.out.1.mono ?_
      rintro e w4 ⟨rfl, hb4⟩
      obtain ⟨⟨b0, b1', b2, b3⟩, -⟩ := cells4 ((hb4.block T (lt_of_block HV.out.2.1)).trans HV.out.2.1)
      have hs4 := size_any 4 _ w4 k n s _ t (HV.out.2.2.1.below (Nat.le_refl _) hb4) HZ.out
      have H4 := Lib.hid (And.intro hs4 hb4)
      clear hs4 hb4
      go_wp2_with fail
      refine H4.out.1.mono ?_
      rintro e w5 ⟨rfl, hb5⟩
      have hb45 := H4.out.2.trans (hb5.mono H4.out.2.size)
      obtain ⟨⟨d0, d1, d2, d3⟩, -⟩ := cells4 ((hb45.block T (lt_of_block HV.out.2.1)).trans HV.out.2.1)
      have hd5 := deep_any 4 (by decide) _ w5 k n s _ t (HV.out.2.2.1.below (Nat.le_refl _) hb45)
      have H5 := Lib.hid (And.intro hd5 hb45)
      clear hd5 hb45 hb5
      go_wp2_with fail
      refine H5.out.1.mono ?_
      rintro e w6 ⟨rfl, hb6⟩
      have HE := Lib.hid (HV.out.2.2.2.trans ((H5.out.2.trans (hb6.mono H5.out.2.size)).mono HV.out.2.2.2.size))
      clear hb6
      go_wp2_with fail
      go_ret
      exact ⟨rfl, HE.out⟩

end Go.Proofs.Ytkcpnehhcpmdgaa
