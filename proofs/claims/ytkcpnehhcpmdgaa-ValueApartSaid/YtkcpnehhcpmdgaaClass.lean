/- clapmake's sampler at a class of one range; no condition beyond those that stand there. -/
import Derived.Test.YtkcpnehhcpmdgaaRow
namespace Go.Proofs.Ytkcpnehhcpmdgaa
open Go.RowKit

theorem z140 : Try.zeroCells140 = Array.replicate 256 (Value.bool false) := by kernel_rfl
def Bools (arr : Array Value) (f : Nat → Bool) : Prop := arr.size = 256 ∧ ∀ t, t < 256 → arr[t]? = some (.bool (f t))
theorem bools_zero : Bools Try.zeroCells140 (fun _ => false) := by
  rw [z140]
  exact ⟨by simp, fun t ht => by simp [ht]⟩
theorem Bools.set {arr : Array Value} {f : Nat → Bool} (h : Bools arr f) (c : Nat) (_hc : c < 256) (g : Nat → Bool) (hg : ∀ t, g t = (f t || decide (t = c))) : Bools (arr.setIfInBounds c (.bool true)) g := by
  refine ⟨by simp [h.1], fun t ht => ?_⟩
  rw [Array.getElem?_setIfInBounds, hg t]
  by_cases e : c = t
  · subst e; simp [h.1, ht]
  · rw [if_neg e, h.2 t ht, show decide (t = c) = false from decide_eq_false (by omega), Bool.or_false]
theorem SmAt.keep {B s x : Nat} {P : ByteArray} {i : Nat} {w w' : World} (h : SmAt B s x P i w) (hk : w'.heap[x]? = w.heap[x]?) : SmAt B s x P i w' := ⟨h.low, h.ne, hk.trans h.heap⟩
theorem conv1 (w : World) (y : Int) : ∀ dst, Try.prog.underlying dst = some .string → (convert 90 dst (.slice (some ⟨w.heap.size, 0, none⟩) 1 1)).run Try.prog (w.alloc (.cells #[.int .u8 y] 5 (0, 0))) = .ok (.string (strOfNums [y])) (w.alloc (.cells #[.int .u8 y] 5 (0, 0))) :=
  run_convert_bytes_arg (P := Try.prog) (w.alloc (.cells #[.int .u8 y] 5 (0, 0))) 90 5 Try.underlying90 Try.underlying5 w.heap.size 0 1 1 [y] rfl (fun i hi => by
    obtain rfl : i = 0 := by omega
    show World.cell? _ ⟨w.heap.size, 0, none⟩ = _
    rw [Lib.cell_of_heap (heap_alloc_new w _)]; rfl)
theorem conv1g (w : World) (g : Nat) (hg : w.heap.size = g) (y : Int) : ∀ dst, Try.prog.underlying dst = some .string → (convert 90 dst (.slice (some ⟨g, 0, none⟩) 1 1)).run Try.prog (w.alloc (.cells #[.int .u8 y] 5 (0, 0))) = .ok (.string (strOfNums [y])) (w.alloc (.cells #[.int .u8 y] 5 (0, 0))) := by
  subst hg
  exact conv1 w y
set_option maxRecDepth 100000 in
set_option maxHeartbeats 4000000 in
theorem class_any (B s x : Nat) (P : ByteArray) (i : Nat) (hi : i + 3 < P.size) (hP : P.size ≤ 1000) (lo hh : UInt8) (h0 : P[i] = lo) (h1 : P[i + 1] = 45) (h2 : P[i + 2] = hh) (h3 : P[i + 3] = 93) (l0 : lo.toNat ≠ 92 ∧ lo.toNat ≠ 93 ∧ lo.toNat ≠ 94) (l1 : hh.toNat ≠ 92) (hle : lo.toNat ≤ hh.toNat) (w : World) (h : SmAt B s x P i w) (hst : StAt B s w) :
    Calls Try.prog 97 #[.pointer (some ⟨x, 0, none⟩)] w fun e w' => (∃ b : ByteArray, b.size = 1 ∧ e = .returned (.string b)) ∧ SmAt B s x P (i + 4) w' ∧ StAt B s w' ∧ KeepXS w.heap.size x s w w' := by
  obtain ⟨c0, c1, c2, f⟩ := h.cells
  have f1 := f 1
  have wi : IntKind.i64.wrap ((i : Int) + 1) = (i : Int) + 1 := IntWalk.i64_in _ ⟨by omega, by omega⟩
  have i0 : i < P.size := by omega
  have i1 : i + 1 < P.size := by omega
  have i2 : i + 2 < P.size := by omega
  have hq : ((P[i].toNat : Int) == 94) = false := by rw [h0, beq_eq_false_iff_ne]; omega
  have hq2 : ((P[i].toNat : Int) == 93) = false := by rw [h0, beq_eq_false_iff_ne]; omega
  have HS := Lib.hid (And.intro h hst)
  have HP := Lib.hid (And.intro h0 (And.intro h1 (And.intro h2 h3)))
  clear f h hst h0 h1 h2 h3
  go_enter Try.func97, Try.ntmps97
  go_wp2_with fail
  have c0' : (w.alloc (.cells Try.zeroCells140 140 (0, 0))).cell? ⟨x, 0, none⟩ = some (.string P) := Lib.cell?_alloc_some _ c0
  have c1' : (w.alloc (.cells Try.zeroCells140 140 (0, 0))).cell? ⟨x, 1, none⟩ = some (.int .i64 i) := Lib.cell?_alloc_some _ c1
  go_quiet (fail)
  go_wp2_with fail
  refine wp_loop_rounds 2 ?_
  rw [rounds_succ]
  go_wp2_with fail
  go_quiet (fail)
  go_wp2_with fail
  have hxl := HS.out.1.lt
  have hsm := fun n => HS.out.1.keep (w' := ((w.alloc (.cells Try.zeroCells140 140 (0, 0))).drewN n)) (heap_alloc_old w _ hxl)
  refine (smbyte_any B s x P i i0 hP lo HP.out.1 l0.1 _ (hsm _)).mono ?_; rintro e w1 ⟨rfl, s1, k1⟩
  have z1 : w.heap.size + 1 ≤ w1.heap.size := by have := k1.size; simpa using this
  have e1 : w1.heap[w.heap.size]? = some (.cells Try.zeroCells140 140 (0, 0)) := (k1.block w.heap.size (by simp) (by omega)).trans (heap_alloc_new w _)
  have b1 : KeepXS w.heap.size x s w w1 := (KeepXS.of_below ((Below.refl w.heap.size w).alloc (Nat.le_refl _) _)).trans (KeepS.xs_left (show KeepS w.heap.size x (w.alloc (.cells Try.zeroCells140 140 (0, 0))) w1 from ⟨k1.os, k1.tape, k1.output, k1.size, fun k h1 h2 => k1.block k (by simp; omega) h2⟩))
  have H0 := Lib.hid (show ∀ q, q < w.heap.size → q ≠ x → w1.heap[q]? = w.heap[q]? from fun q hq hx => (k1.block q (by simp; omega) hx).trans (heap_alloc_old w _ hq))
  obtain ⟨j, hj⟩ : ∃ j, j = i + 1 := ⟨_, rfl⟩
  rw [← hj] at s1
  have j0 : j < P.size := by omega
  have q45 : ((P[j].toNat : Int) == 45) = true := by
    have : P[j] = 45 := by subst hj; exact HP.out.2.1
    rw [this]; rfl
  have wj : IntKind.i64.wrap ((j : Int) + 1) = (j : Int) + 1 := IntWalk.i64_in _ ⟨by omega, by omega⟩
  have HJ := Lib.hid hj
  obtain ⟨d0, d1, d2, df⟩ := s1.cells
  have df1 := df 1
  have H1 := Lib.hid (And.intro s1 (And.intro e1 b1))
  clear s1 k1 hsm c0 c1 c2 c0' c1' df e1 b1
  clear hj
  go_wp2_with fail
  go_quiet (fail)
  go_wp2_with fail
  obtain ⟨k, hk⟩ : ∃ k, k = j + 1 := ⟨_, rfl⟩
  have k0 : k < P.size := by have := HJ.out; omega
  have hkc : P[k] = hh := by
    have h := HP.out.2.2.1
    have e : k = i + 2 := by have := HJ.out; omega
    subst e; exact h
  have hsk := fun n => (show SmAt B s x P k ((w1.drewN n).setCell ⟨x, 1, none⟩ (.int .i64 ((j : Int) + 1))) from by
    have h := H1.out.1.set k
    rw [hk] at h ⊢
    exact ⟨h.low, h.ne, h.heap⟩)
  refine (smbyte_any B s x P k k0 hP hh hkc l1 _ (hsk _)).mono ?_; rintro e w2 ⟨rfl, s2, k2⟩
  have z2 : w.heap.size + 1 ≤ w2.heap.size := by have := k2.size; simp at this; omega
  have e2 : w2.heap[w.heap.size]? = some (.cells Try.zeroCells140 140 (0, 0)) := (k2.block w.heap.size (by simp; omega) (by omega)).trans ((Below.heap_setCell _ _ _ _ (show w.heap.size ≠ x by omega)).trans H1.out.2.1)
  have b2 : KeepXS w.heap.size x s w w2 := H1.out.2.2.trans ((KeepXS.setx _ x s 1 w1 (.int .i64 ((j : Int) + 1))).trans (KeepS.xs_left (show KeepS w.heap.size x (w1.setCell ⟨x, 1, none⟩ (.int .i64 ((j : Int) + 1))) w2 from ⟨k2.os, k2.tape, k2.output, k2.size, fun k h1 h2 => k2.block k (by simp; omega) h2⟩)))
  obtain ⟨m, hm⟩ : ∃ m, m = k + 1 := ⟨_, rfl⟩
  rw [← hm] at s2
  have H3 := Lib.hid (show ∀ q, q < w.heap.size → q ≠ x → w2.heap[q]? = w.heap[q]? from fun q hq hx => (k2.block q (by simp; omega) hx).trans ((Below.heap_setCell _ _ _ _ hx).trans (H0.out q hq hx)))
  have H2 := Lib.hid (And.intro s2 (And.intro e2 (And.intro b2 (And.intro hk hm))))
  clear s2 k2 hsk e2 b2 hk hm hkc d0 d1 d2 df1
  have ulo := lo.toNat_lt
  have uhh := hh.toNat_lt
  go_wp2_with fail
  go_loopw [7] (fun cv wr => ∃ (c : Nat) (arr : Array Value), lo.toNat ≤ c ∧ c ≤ hh.toNat + 1 ∧ cv = .int .i64 c ∧ wr.heap[w.heap.size]? = some (.cells arr 140 (0, 0)) ∧ Bools arr (fun t => decide (lo.toNat ≤ t) && decide (t < c)) ∧ KeepS w2.heap.size w.heap.size w2 wr) (fun cv _ => 300 - (intOf cv).toNat)
  case atStart =>
    refine ⟨lo.toNat, _, Nat.le_refl _, by omega, rfl, H2.out.2.1, ?_, KeepS.refl _ _ _⟩
    have e : (fun t => decide (lo.toNat ≤ t) && decide (t < lo.toNat)) = fun _ : Nat => false := by
      funext t
      by_cases h : t < lo.toNat
      · simp <;> omega
      · simp [h]
    rw [e]
    exact bools_zero
  case round =>
    obtain ⟨c, arr, hlc, hch, rfl, ha, hbo, hke⟩ := hrel
    have wc : IntKind.i64.wrap ((c : Int) + 1) = (c : Int) + 1 := IntWalk.i64_in _ ⟨by omega, by omega⟩
    have fz : wr.frozen? ⟨w.heap.size, c, none⟩ = false := Lib.frozen_of_heap ha c
    have HB := Lib.hid (And.intro ha (And.intro hbo hke))
    clear ha hbo hke
    by_cases hcc : c ≤ hh.toNat
    · have tc : (c : Int) ≤ (hh.toNat : Int) := by omega
      have c256 : c < 256 := by omega
      have bc : wr.cell? ⟨w.heap.size, c, none⟩ = some (.bool (decide (lo.toNat ≤ c) && decide (c < c))) := by
        rw [Lib.cell_of_heap HB.out.1]
        exact HB.out.2.1.2 c c256
      go_wp2_with fail
      refine ⟨⟨c + 1, _, by omega, by omega, by simp, heap_setS HB.out.1 c (.bool true), HB.out.2.1.set c c256 _ fun t => ?_, HB.out.2.2.trans ⟨rfl, rfl, rfl, by simp, fun k _ hk => Below.heap_setCell _ _ _ _ hk⟩⟩, by simp [intOf]; omega⟩
      by_cases h1 : lo.toNat ≤ t
      · by_cases h2 : t < c
        · simp [h1, h2]; omega
        · by_cases h3 : t = c
          · simp [h3]; omega
          · simp [h2, h3]; omega
      · simp [h1]; omega
    · have tc : decide (c ≤ hh.toNat) = false := decide_eq_false hcc
      have hsw := H2.out.1.keep (HB.out.2.2.block x (by have := H2.out.1.lt; exact this) (by omega))
      have zr := HB.out.2.2.size
      have m0 : m < P.size := by have := HJ.out; have := H2.out.2.2.2.1; have := H2.out.2.2.2.2; omega
      have q93 : ((P[m].toNat : Int) == 93) = true := by
        have e : m = i + 3 := by have := HJ.out; have := H2.out.2.2.2.1; have := H2.out.2.2.2.2; omega
        have : P[m] = 93 := by subst e; exact HP.out.2.2.2
        rw [this]; rfl
      have wm : IntKind.i64.wrap ((m : Int) + 1) = (m : Int) + 1 := IntWalk.i64_in _ ⟨by omega, by omega⟩
      obtain ⟨y0, y1, y2, yf⟩ := hsw.cells
      have yf1 := yf 1
      have HW := Lib.hid hsw
      clear hsw yf
      go_wp2_with fail
      rw [rounds_succ]
      go_wp2_with fail
      go_quiet (fail)
      go_wp2_with fail
      have a3 : ((wr.drewN nq).setCell ⟨x, 1, none⟩ (.int .i64 ((m : Int) + 1))).heap[w.heap.size]? = some (.cells arr 140 (0, 0)) := (Below.heap_setCell _ _ _ _ (show w.heap.size ≠ x by omega)).trans HB.out.1
      have s3 : SmAt B s x P (m + 1) ((wr.drewN nq).setCell ⟨x, 1, none⟩ (.int .i64 ((m : Int) + 1))) := by
        have h := HW.out.set (m + 1)
        rw [show (((m + 1 : Nat)) : Int) = (m : Int) + 1 from rfl] at h
        exact ⟨h.low, h.ne, h.heap⟩
      have k3 : KeepXS w.heap.size x s w ((wr.drewN nq).setCell ⟨x, 1, none⟩ (.int .i64 ((m : Int) + 1))) := by
        refine H2.out.2.2.1.trans (KeepXS.trans ?_ (KeepXS.setx _ x s 1 (wr.drewN nq) _))
        exact ⟨HB.out.2.2.os, HB.out.2.2.tape, HB.out.2.2.output, HB.out.2.2.size, fun k h1 _ _ => HB.out.2.2.block k (by omega) (by omega)⟩
      have t3 : StAt B s ((wr.drewN nq).setCell ⟨x, 1, none⟩ (.int .i64 ((m : Int) + 1))) := by
        have hb2 := HB.out.2.2
        have hs := HS.out.2
        have hsl := hs.lt
        have hxs := HS.out.1
        have hxw := hxs.lt
        have hsx : s ≠ x := fun h => hxs.ne h.symm
        refine hs.keep ((Below.heap_setCell _ _ _ _ hsx).trans ((hb2.block s (by omega) (by omega)).trans ?_)) ?_
        · exact H3.out s hsl hsx
        · intro k hk
          have hB := hs.1
          have hx := hxs.low
          exact k3.block k (by omega) (by omega) (by omega)
      have z3 : w.heap.size < ((wr.drewN nq).setCell ⟨x, 1, none⟩ (.int .i64 ((m : Int) + 1))).heap.size := lt_of_block a3
      have bo := HB.out.2.1
      generalize ((wr.drewN nq).setCell ⟨x, 1, none⟩ (.int .i64 ((m : Int) + 1))) = W3 at *
      have H4 := Lib.hid (And.intro a3 (And.intro s3 (And.intro k3 (And.intro t3 bo))))
      clear a3 s3 k3 t3 bo
      have hcl : lo.toNat < c := by omega
      rw [show ((P[m].toNat : Int) != 93) = false from by simp only [bne, q93, Bool.not_true]]
      go_loopw [77, 8] (fun cv lv wr => ∃ (d n : Nat) (xs : List Value), d ≤ 256 ∧ cv = .int .i64 d ∧ wr.ownsRow W3.heap.size 5 1 lv n xs ∧ n ≤ d ∧ (lo.toNat < d → 1 ≤ n) ∧ (∀ u ∈ xs, ∃ b : Nat, u = .int .u8 b) ∧ Below W3.heap.size W3 wr) (fun cv _ _ => 256 - (intOf cv).toNat)
      case atStart => exact ⟨0, 0, [], by omega, rfl, World.ownsRow_nil _ _ _ _, by omega, fun h => by omega, by simp, Below.refl _ _⟩
      case round =>
        obtain ⟨d, n, xs, hd, rfl, hrow, hn, hlo, hby, hbl⟩ := hrel
        have wd : IntKind.i64.wrap ((d : Int) + 1) = (d : Int) + 1 := IntWalk.i64_in _ ⟨by omega, by omega⟩
        have hzr := hbl.size
        by_cases hlt : d < 256
        · have td : (d : Int) < 256 := by omega
          have ci : wr.cell? ⟨w.heap.size, d, none⟩ = some (.bool (decide (lo.toNat ≤ d) && decide (d < c))) := by
            rw [Lib.cell_of_heap ((hbl.block _ z3).trans H4.out.1)]
            exact H4.out.2.2.2.2.2 d hlt
          by_cases hin : lo.toNat ≤ d ∧ d < c
          · rw [show (decide (lo.toNat ≤ d) && decide (d < c)) = true from by simp [hin]] at ci
            have cvt : IntKind.u8.wrap (d : Int) = (d : Int) := by
              unfold IntKind.wrap; simp [IntKind.bits, IntKind.signed]; omega
            have HR := Lib.hid (And.intro hrow (And.intro hby hbl))
            clear hrow hby hbl
            go_wp2_with (at_builtin; refine append_el elem_u8 rfl _ _ 90 rfl Try.underlying90 W3.heap.size _ n xs rfl (HR.out.1.alloc _) (by omega) wr.heap.size 1 [.int .u8 d] rfl rfl (heap_alloc_new wr _) (by simp [Value.oneCell']) ?q1 ?_)
            case q1 => simp; omega
            intro lv' wr' hrow' hg
            have hb4 : Below W3.heap.size W3 wr' := (HR.out.2.2.alloc hzr _).grown hg (by simp; omega) (fun k hk => (World.ownsRow.lt (HR.out.1.alloc (.cells #[.int .u8 (d : Int)] 5 (0, 0))) k hk).1)
            have H5 := Lib.hid (And.intro hrow' hb4)
            clear hrow' hg hb4
            go_wp2_with fail
            refine ⟨⟨d + 1, n + 1, xs ++ [.int .u8 (d : Int)], by omega, by simp, H5.out.1, by omega, fun _ => by omega, ?_, H5.out.2⟩, by simp [intOf]; omega⟩
            intro u hu
            rcases List.mem_append.1 hu with h | h
            · exact HR.out.2.1 u h
            · exact ⟨d, by simpa using h⟩
          · rw [show (decide (lo.toNat ≤ d) && decide (d < c)) = false from by
              by_cases h1 : lo.toNat ≤ d
              · simp [h1]; omega
              · simp [h1]] at ci
            have HR := Lib.hid (And.intro hrow (And.intro hby hbl))
            clear hrow hby hbl
            go_wp2_with fail
            refine ⟨⟨d + 1, n, xs, by omega, by simp, HR.out.1, by omega, fun _ => by omega, HR.out.2.1, HR.out.2.2⟩, by simp [intOf]; omega⟩
        · have td : decide ((d : Int) < 256) = false := decide_eq_false (by omega)
          have n1 : 1 ≤ n := hlo (by omega)
          obtain ⟨g, cap, rfl⟩ := ownsRow_formW hrow (show 0 < n by omega)
          have hsr := H4.out.2.1.keep (w' := wr) (hbl.block x H4.out.2.1.lt)
          have htr := H4.out.2.2.2.1.below hbl H4.out.2.2.2.1.lt
          obtain ⟨y0, y1, y2, -⟩ := hsr.cells
          have hnx := fun w' h => next_any B s (n : Int) (by omega) w' h
          have hxl' : xs.length = n := by have := hrow.1; omega
          have hgl := World.ownsRow.lt hrow g rfl
          have hcell : ∀ t, t < n → ∃ b : Nat, wr.cell? ⟨g, t, none⟩ = some (.int .u8 b) := fun t ht => by
            have h := World.ownsRow.cellAt hrow t (by omega)
            rw [List.getElem?_eq_getElem (by omega)] at h
            obtain ⟨b, hb⟩ := hby _ (List.getElem_mem (show t < xs.length by omega))
            exact ⟨b, by rw [h, hb]⟩
          have HR := Lib.hid (And.intro hsr (And.intro htr (And.intro hbl hcell)))
          have HN := Lib.hid hnx
          clear hrow hby hbl hsr htr hcell hnx
          go_wp2_with fail
          refine (HN.out wr HR.out.2.1).mono ?_; rintro e w5 ⟨⟨q, rfl, q0, q1, -⟩, t5, k5, z5⟩
          have q1' := q1 (by omega)
          obtain ⟨r, rfl⟩ : ∃ q' : Nat, q = q' := ⟨q.toNat, by omega⟩
          have tq : (r : Int) < (n : Int) := by omega
          have hnq : ((r : Int)).toNat = r := by omega
          obtain ⟨b, hb⟩ := HR.out.2.2.2 r (by omega)
          have hgs : g ≠ s := by
            have := H4.out.2.2.2.1.lt
            omega
          have cq : w5.cell? ⟨g, r, none⟩ = some (.int .u8 b) := by rw [World.cell?_of_block (k5.block g hgl.2 hgs)]; exact hb
          have H6 := Lib.hid (And.intro t5 (And.intro k5 trivial))
          clear t5 k5 hb z5
          have hcv := fun y W => conv1 W y
          go_wp2_with fail
          go_ret
          have hxs := HS.out.1
          have hsx : x ≠ s := hxs.ne
          have k6 : KeepXS w.heap.size x s w w5 := H4.out.2.2.1.trans ((KeepXS.of_below (HR.out.2.2.1.mono (by omega))).trans ((KeepS.xs_right H6.out.2.1).mono (by omega)))
          have hal := fun o => (Below.refl w5.heap.size w5).alloc (Nat.le_refl _) o
          have hsm : SmAt B s x P (m + 1) w5 := HR.out.1.keep (H6.out.2.1.block x HR.out.1.lt hsx)
          have em : m + 1 = i + 4 := by have := HJ.out; have := H2.out.2.2.2.1; have := H2.out.2.2.2.2; omega
          rw [em] at hsm
          have z6 := k6.size
          refine ⟨⟨_, ?_, rfl⟩, hsm.keep ((hal _).block x hsm.lt), H6.out.1.below (hal _) H6.out.1.lt, k6.trans (KeepXS.of_below ((hal _).mono z6))⟩
          rfl

end Go.Proofs.Ytkcpnehhcpmdgaa
