/- The contracts of bits.Cat and bits.Same. -/
import Derived.Test.YtpoolbachhelgaaDoorBitsRead
namespace Go.Proofs.YtpoolbachhelgaaDoor
open Go.RowKit

theorem four_new (w : World) (o1 o2 o3 o4 : Obj) : ∃ W, W = (((w.alloc o1).alloc o2).alloc o3).alloc o4 ∧ W.heap[w.heap.size]? = some o1 ∧ W.heap[w.heap.size + 1]? = some o2 ∧ W.heap[w.heap.size + 1 + 1]? = some o3 ∧ W.heap[w.heap.size + 1 + 1 + 1]? = some o4 ∧ Below w.heap.size w W ∧ W.heap.size = w.heap.size + 4 := by
  refine ⟨_, rfl, ?_, ?_, ?_, ?_, by go_grown, by simp⟩
  · rw [Below.heap_alloc _ _ _ (by simp; omega), Below.heap_alloc _ _ _ (by simp; try omega)]; exact one_new _ _ _
  · rw [Below.heap_alloc _ _ _ (by simp), Below.heap_alloc _ _ _ (by simp)]; exact two_new _ _ _
  · rw [Below.heap_alloc _ _ _ (by simp)]; exact (show w.heap.size + 1 + 1 = ((w.alloc o1).alloc o2).heap.size by simp) ▸ alloc_at _ _
  · exact (show w.heap.size + 1 + 1 + 1 = (((w.alloc o1).alloc o2).alloc o3).heap.size by simp) ▸ alloc_at _ _

set_option maxRecDepth 100000 in
set_option maxHeartbeats 4000000 in
theorem cat_any (va vb : Value) (xs bs : List Nat) (hba : Bin xs) (hbb : Bin bs) (hlen : xs.length + bs.length ≤ 64000) (w : World) (ha : BitsV w va xs) (hb : BitsV w vb bs) :
    Calls Tryd.prog 13 #[va, vb] w fun e w' => ∃ v', e = .returned (.tuple #[v', .int .i64 0]) ∧ BitsV w' v' (xs ++ bs) ∧ Below w.heap.size w w' := by
  have HCa := Lib.hid (fun w1 (h : Below w.heap.size w w1) => check_any va xs hba (by omega) w1 (ha.below h))
  have HCb := Lib.hid (fun w1 (h : Below w.heap.size w w1) => check_any vb bs hbb (by omega) w1 (hb.below h))
  have HY := Lib.hid (fun w1 (h : Below w.heap.size w w1) => copied_any va xs (by omega) w1 (ha.below h))
  have HB := Lib.hid (fun (i : Nat) (hi : i < bs.length) w1 (h : Below w.heap.size w w1) => bit_any vb bs hbb (by omega) i hi w1 (hb.below h))
  have HA := Lib.hid (fun (g : Nat) (cs : List Nat) (x : Nat) (hx : x ≤ 1) (hb : Bin cs) (hl : cs.length < 64000) (w1 : World) (ha : BitsAt w.heap.size g cs w1) => add_more w.heap.size g cs x hx hb hl w1 ha)
  obtain ⟨sa, rfl, ha⟩ := ha
  obtain ⟨sb, rfl, hb⟩ := hb
  obtain ⟨pa, ca, rfl⟩ := ha.slice
  obtain ⟨pb, cb, rfl⟩ := hb.slice
  clear ha hb
  simp only [intsOf_length] at *
  generalize hla : (pack xs).length = la at *
  generalize (pack bs).length = lb at *
  have HLa := Lib.hid hla
  have hbx : ∀ i, bs.getD i 0 ≤ 1 := hbb.get
  have HBX := Lib.hid hbx
  clear hla hbx
  obtain ⟨out, hout⟩ : ∃ out, out = xs ++ bs := ⟨_, rfl⟩
  rw [← hout]
  have HO := Lib.hid hout
  clear hout
  have t4 : decide (64000 < (xs.length : Int) + (bs.length : Int)) = false := decide_eq_false (by omega)
  go_enter Tryd.func13, Tryd.ntmps13
  go_wp2_with fail
  obtain ⟨W, hW, k0, k1, k2, k3, hbW, hsW⟩ := four_new w (.cells #[.slice pa la ca, .int .i64 xs.length] 34 (0, 0)) (.cells #[(.slice pb lb cb), .int .i64 bs.length] 34 (0, 0)) (.cells #[.slice none 0 0, .int .i64 0] 34 (0, 0)) (.cells #[.slice pa la ca, .int .i64 xs.length, (.slice pb lb cb), .int .i64 bs.length] 34 (0, 0))
  rw [← hW]
  have HK := Lib.hid (And.intro k0 (And.intro k1 (And.intro k2 k3)))
  clear hW k0 k1 k2 k3
  go_loopw [15] (fun iv wr => ∃ i : Nat, i ≤ 2 ∧ iv = .int .i64 i ∧ Below W.heap.size W wr) (fun iv _ => 2 - (intOf iv).toNat)
  case atStart => exact ⟨0, by omega, rfl, Below.refl _ _⟩
  case round =>
    obtain ⟨i, hi, rfl, hb⟩ := hrel
    by_cases hlt : i < 2
    · have k3 : wr.heap[w.heap.size + 1 + 1 + 1]? = some (.cells #[.slice pa la ca, .int .i64 xs.length, (.slice pb lb cb), .int .i64 bs.length] 34 (0, 0)) := (hb.block _ (by omega)).trans HK.out.2.2.2
      have HB1 := Lib.hid hb
      have hsz := hb.size
      clear hb
      rcases (show i = 0 ∨ i = 1 by omega) with rfl | rfl
      · have c0 : wr.cell? ⟨w.heap.size + 1 + 1 + 1, 0, none⟩ = some (.slice pa la ca) := by rw [Lib.cell_of_heap k3]; rfl
        have c1 : wr.cell? ⟨w.heap.size + 1 + 1 + 1, 1, none⟩ = some (.int .i64 xs.length) := by rw [Lib.cell_of_heap k3]; rfl
        clear k3
        go_wp2_with fail
        refine (HCa.out _ ((hbW.trans (HB1.out.mono (by omega))).alloc (by omega) _)).mono ?_; rintro e w4 ⟨rfl, b4⟩
        go_wp2_with fail
        exact ⟨⟨1, by omega, rfl, (HB1.out.alloc (by omega) _).trans (b4.mono (by simp; omega))⟩, by simp [intOf]⟩
      · have c0 : wr.cell? ⟨w.heap.size + 1 + 1 + 1, 2, none⟩ = some (.slice pb lb cb) := by rw [Lib.cell_of_heap k3]; rfl
        have c1 : wr.cell? ⟨w.heap.size + 1 + 1 + 1, 3, none⟩ = some (.int .i64 bs.length) := by rw [Lib.cell_of_heap k3]; rfl
        clear k3
        go_wp2_with fail
        refine (HCb.out _ ((hbW.trans (HB1.out.mono (by omega))).alloc (by omega) _)).mono ?_; rintro e w4 ⟨rfl, b4⟩
        go_wp2_with fail
        exact ⟨⟨2, by omega, rfl, (HB1.out.alloc (by omega) _).trans (b4.mono (by simp; omega))⟩, by simp [intOf]⟩
    · obtain rfl : i = 2 := by omega
      have k0 := (hb.block _ (by omega)).trans HK.out.1
      have k1 := (hb.block _ (by omega)).trans HK.out.2.1
      have k2 := (hb.block _ (by omega)).trans HK.out.2.2.1
      have c0 : wr.cell? ⟨w.heap.size, 0, none⟩ = some (.slice pa la ca) := by rw [Lib.cell_of_heap k0]; rfl
      have c1 : wr.cell? ⟨w.heap.size, 1, none⟩ = some (.int .i64 xs.length) := by rw [Lib.cell_of_heap k0]; rfl
      have c2 : wr.cell? ⟨w.heap.size + 1, 1, none⟩ = some (.int .i64 bs.length) := by rw [Lib.cell_of_heap k1]; rfl
      have hbw : Below w.heap.size w wr := hbW.trans (hb.mono (by omega))
      have hsz : w.heap.size + 4 ≤ wr.heap.size := by have := hb.size; omega
      have HK2 := Lib.hid (And.intro k1 (And.intro k2 hbw))
      clear hb k0 k1 k2 hbw hbW hsW HK
      go_wp2_with fail
      refine (HY.out _ HK2.out.2.2).mono ?_; rintro e w2 ⟨p2, cap2, rfl, hown2, b2⟩
      have k1 := (b2.block _ (by omega)).trans HK2.out.1
      have d2 : w2.cell? ⟨w.heap.size + 1, 1, none⟩ = some (.int .i64 bs.length) := by rw [Lib.cell_of_heap k1]; rfl
      have d3 : (w2.alloc (.cells #[.slice p2 la cap2, .int .i64 xs.length] 34 (0, 0))).cell? ⟨w.heap.size + 1, 1, none⟩ = some (.int .i64 bs.length) := Lib.cell?_alloc_some _ d2
      clear k1
      go_wp2_with fail
      obtain ⟨w3, hw3⟩ : ∃ w3, w3 = w2.alloc (.cells #[.slice p2 la cap2, .int .i64 xs.length] 34 (0, 0)) := ⟨_, rfl⟩
      rw [← hw3]
      have hb3 : Below w2.heap.size w2 w3 := by rw [hw3]; go_grown
      have k3 : w3.heap[w2.heap.size]? = some (.cells #[.slice p2 la cap2, .int .i64 xs.length] 34 (0, 0)) := by rw [hw3]; exact alloc_at _ _
      have hz2 : w.heap.size + 4 ≤ w2.heap.size := by have := b2.size; omega
      have hat : BitsAt w.heap.size w2.heap.size xs w3 := by
        rw [← HLa.out] at k3 hw3 hown2
        refine ⟨by omega, _, k3, ?_⟩
        rw [hw3]
        exact row_lower (hown2.alloc _) (by omega)
      have k1' : w3.heap[w.heap.size + 1]? = some (.cells #[.slice pb lb cb, .int .i64 bs.length] 34 (0, 0)) := (hb3.block _ (by omega)).trans ((b2.block _ (by omega)).trans HK2.out.1)
      have k2' : w3.heap[w.heap.size + 1 + 1]? = some (.cells #[.slice none 0 0, .int .i64 0] 34 (0, 0)) := (hb3.block _ (by omega)).trans ((b2.block _ (by omega)).trans HK2.out.2.1)
      have hbw : Below w.heap.size w w3 := (HK2.out.2.2.trans (b2.mono (by omega))).trans (hb3.mono (by omega))
      generalize w2.heap.size = g at *
      clear hb3 k3 hw3 hown2 b2 d2 d3 c0 c1 c2 hsz HK2
      go_loopw [37] (fun iv wr => ∃ i : Nat, iv = .int .i64 i ∧ GrowRel w.heap.size g xs bs w3 i wr) (fun iv _ => bs.length - (intOf iv).toNat)
      case atStart => exact ⟨0, rfl, Nat.zero_le _, by rw [List.take_zero, List.append_nil]; exact hat, Below.refl _ _, KeepM.refl _ _⟩
      case round =>
        obtain ⟨i, rfl, hi, ha, hb, hk⟩ := hrel
        have k1r : wr.heap[w.heap.size + 1]? = _ := hk _ _ _ _ k1' (Or.inl (by decide)) (by omega)
        have k2r : wr.heap[w.heap.size + 1 + 1]? = _ := hk _ _ _ _ k2' (Or.inl (by decide)) (by omega)
        have c0 : wr.cell? ⟨w.heap.size + 1, 0, none⟩ = some (.slice pb lb cb) := by rw [Lib.cell_of_heap k1r]; rfl
        have c1 : wr.cell? ⟨w.heap.size + 1, 1, none⟩ = some (.int .i64 bs.length) := by rw [Lib.cell_of_heap k1r]; rfl
        by_cases hlt : i < bs.length
        · have HR := Lib.hid (fun w1 => GrowRel.go (B := w.heap.size) (g := g) (pre := xs) (all := bs) (w := w3) (wr := wr) (w1 := w1) hlt)
          have HI := Lib.hid (And.intro ha (And.intro hb hk))
          have HBi := Lib.hid (HB.out i hlt wr (hbw.trans hb))
          have hx1 := HBX.out i
          have ti : decide ((i : Int) < (bs.length : Int)) = true := decide_eq_true (by omega)
          generalize bs.getD i 0 = x at *
          clear ha hb hk k1r k2r
          go_wp2_with fail
          refine HBi.out.mono ?_; rintro e w4 ⟨rfl, b4⟩
          go_wp2_with fail
          refine (HA.out _ (xs ++ bs.take i) x hx1 (hba.append' (hbb.take i)) (by simp; omega) w4 (HI.out.1.below b4)).mono ?_; rintro e w5 ⟨rfl, a5, b5, k5⟩
          go_wp2_with fail
          have hsz := HI.out.2.1.size
          have hsz2 := hbw.size
          exact ⟨⟨i + 1, rfl, HR.out w5 a5 HI.out.2.1 ((b4.mono (by omega)).trans b5) HI.out.2.2 ((KeepM.of_below b4 (Nat.le_refl _)).trans k5)⟩, by simp [intOf]; omega⟩
        · obtain rfl : i = bs.length := by omega
          rw [List.take_length, ← HO.out] at ha
          obtain ⟨p3, c3, hbk, hown3⟩ := ha.out
          have e0 : wr.cell? ⟨g, 0, none⟩ = some (.slice p3 (pack out).length c3) := by rw [Lib.cell_of_heap hbk]; rfl
          have e1 : wr.cell? ⟨g, 1, none⟩ = some (.int .i64 out.length) := by rw [Lib.cell_of_heap hbk]; rfl
          have e2 : wr.cell? ⟨w.heap.size + 1 + 1, 0, none⟩ = some (.slice none 0 0) := by rw [Lib.cell_of_heap k2r]; rfl
          have e3 : wr.cell? ⟨w.heap.size + 1 + 1, 1, none⟩ = some (.int .i64 0) := by rw [Lib.cell_of_heap k2r]; rfl
          have e4 : wr.frozen? ⟨w.heap.size + 1 + 1, 0, none⟩ = false := Lib.frozen_of_heap k2r 0
          have e5 : wr.frozen? ⟨w.heap.size + 1 + 1, 1, none⟩ = false := Lib.frozen_of_heap k2r 1
          have HR := Lib.hid (And.intro hown3 (And.intro k2r (And.intro hb hk)))
          clear hown3 k1r k2r hb hk hbk ha hat
          go_wp2_with fail
          obtain ⟨hown3, kk, hb, hk⟩ := HR
          obtain ⟨k5, v5, b5⟩ := out_end (c := c3) kk hown3 (by omega)
          exact bodyPost_ret (results_row_tmp rfl _ _ (w.heap.size + 1 + 1) 34 #[.slice p3 (pack out).length c3, .int .i64 out.length] (0, 0) _ rfl k5 Tryd.underlying34 rfl (by kernel_rfl)) rfl ⟨_, rfl, v5, (hbw.trans hb).trans b5⟩

theorem sl_empty {k : IntKind} {w : World} {v : Value} {xs : List Int} (h : SlK k w v xs) (h0 : xs = []) : ∃ p c, v = .slice p 0 c := by
  subst h0
  exact h.slice

set_option maxRecDepth 100000 in
set_option maxHeartbeats 1000000 in
theorem equal_any (va vb : Value) (xs : List Int) (hlen : xs.length ≤ 64000) (w : World) (ha : SlK .u8 w va xs) (hb : SlK .u8 w vb xs) :
    Calls Tryd.prog 46 #[va, vb] w fun e w' => e = .returned (.bool true) ∧ Below w.heap.size w w' := by
  rcases ha with ⟨rfl, rfl⟩ | ⟨b1, o1, c1, rfl, hc1, hm1, h1⟩
  · obtain ⟨p, c, rfl⟩ := sl_empty hb rfl
    clear hb
    go_enter Tryd.func46, Tryd.ntmps46
    go_wp2_with fail
    go_loopw [13] (fun iv wr => iv = .int .i64 0 ∧ w = wr) (fun _ _ => 0)
    case atStart => exact ⟨rfl, rfl⟩
    case round =>
      obtain ⟨rfl, rfl⟩ := hrel
      go_wp2_with fail
      go_ret
      exact ⟨rfl, Below.refl _ _⟩
  · rcases hb with ⟨rfl, rfl⟩ | ⟨b2, o2, c2, rfl, hc2, hm2, h2⟩
    · go_enter Tryd.func46, Tryd.ntmps46
      go_wp2_with fail
      go_loopw [13] (fun iv wr => iv = .int .i64 0 ∧ w = wr) (fun _ _ => 0)
      case atStart => exact ⟨rfl, rfl⟩
      case round =>
        obtain ⟨rfl, rfl⟩ := hrel
        go_wp2_with fail
        go_ret
        exact ⟨rfl, Below.refl _ _⟩
    · have H1 := Lib.hid h1
      have H2 := Lib.hid h2
      clear h1 h2
      go_enter Tryd.func46, Tryd.ntmps46
      go_wp2_with fail
      go_loopw [13] (fun iv wr => ∃ i : Nat, i ≤ xs.length ∧ iv = .int .i64 i ∧ Below w.heap.size w wr) (fun iv _ => xs.length - (intOf iv).toNat)
      case atStart => exact ⟨0, Nat.zero_le _, rfl, Below.refl _ _⟩
      case round =>
        obtain ⟨i, hi, rfl, hb⟩ := hrel
        have HB := Lib.hid hb
        by_cases hlt : i < xs.length
        · have d1 : wr.cell? ⟨b1, o1 + i, none⟩ = some (.int .u8 (xs.getD i 0)) := (hb.cell (p := ⟨b1, o1 + i, none⟩) (H1.out i hlt).1).trans (H1.out i hlt).2
          have d2 : wr.cell? ⟨b2, o2 + i, none⟩ = some (.int .u8 (xs.getD i 0)) := (hb.cell (p := ⟨b2, o2 + i, none⟩) (H2.out i hlt).1).trans (H2.out i hlt).2
          have g1 : (i : Int) < (xs.length : Int) := by omega
          generalize xs.getD i 0 = x at *
          clear hb
          go_wp2_with fail
          go_quiet (fail)
          go_wp2_with fail
          exact ⟨⟨i + 1, hlt, rfl, below_drewN HB.out _⟩, by simp [intOf]; omega⟩
        · obtain rfl : i = xs.length := by omega
          clear hb
          go_wp2_with fail
          go_ret
          exact ⟨rfl, HB.out⟩

set_option maxRecDepth 100000 in
set_option maxHeartbeats 1000000 in
theorem same_any (va vb : Value) (bs : List Nat) (hlen : bs.length ≤ 64000) (w : World) (ha : BitsV w va bs) (hb : BitsV w vb bs) :
    Calls Tryd.prog 17 #[va, vb] w fun e w' => e = .returned (.bool true) ∧ Below w.heap.size w w' := by
  have hpl := pack_length bs
  obtain ⟨sa, rfl, ha⟩ := ha
  obtain ⟨sb, rfl, hb⟩ := hb
  have HE := Lib.hid (fun w1 (h : Below w.heap.size w w1) => equal_any sa sb (intsOf (pack bs)) (by rw [intsOf_length]; omega) w1 (ha.below h) (hb.below h))
  obtain ⟨pa, ca, rfl⟩ := ha.slice
  obtain ⟨pb, cb, rfl⟩ := hb.slice
  clear ha hb hpl
  go_enter Tryd.func17, Tryd.ntmps17
  go_wp2_with fail
  refine (HE.out _ (by go_grown)).mono ?_; rintro e w4 ⟨rfl, b4⟩
  go_wp2_with fail
  go_ret
  exact ⟨rfl, (show Below w.heap.size w _ from by go_grown).trans (b4.mono (by simp; omega))⟩

end Go.Proofs.YtpoolbachhelgaaDoor
