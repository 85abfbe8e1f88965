/- value.Cmp at all trees; no condition beyond those that stand there. -/
import Derived.Test.YtkcpnehhcpmdgaaCmpW
namespace Go.Proofs.Ytkcpnehhcpmdgaa
open Go.RowKit

theorem undrew2 {q : Nat} {w w' : World} (h : Below (w.drewN q).drew.heap.size (w.drewN q).drew w') {m : Nat} (hm : m ≤ w.heap.size) : Below m w w' := ⟨h.os, h.tape, h.output, h.size, fun k hk => h.block k (Nat.lt_of_lt_of_le hk hm)⟩
set_option maxRecDepth 100000 in
set_option maxHeartbeats 4000000 in
theorem cmp_succ (d : Nat) (ih : CmpSaid d) : CmpSaid (d + 1) := by
  intro S1 S2 w k1 n1 s1 p1 t1 k2 n2 s2 p2 t2 h1 h2
  obtain ⟨pa1, pl1, pc1, rfl⟩ := h1.isSlice
  obtain ⟨pa2, pl2, pc2, rfl⟩ := h2.isSlice
  obtain ⟨-, -, -, -, q1, q2, q3⟩ := h1.slice
  obtain ⟨-, -, -, -, r1, r2, r3⟩ := h2.slice
  have hb2 := ((Below.refl w.heap.size w).alloc (Nat.le_refl _) (.cells #[.int .i64 k1, .int .i64 n1, .string s1, .slice pa1 pl1 pc1] 25 (0, 0))).alloc (by simp) (.cells #[.int .i64 k2, .int .i64 n2, .string s2, .slice pa2 pl2 pc2] 25 (0, 0))
  have e1 := pair1 w (.cells #[.int .i64 k1, .int .i64 n1, .string s1, .slice pa1 pl1 pc1] 25 (0, 0)) (.cells #[.int .i64 k2, .int .i64 n2, .string s2, .slice pa2 pl2 pc2] 25 (0, 0))
  have e2 := pair2 w (.cells #[.int .i64 k1, .int .i64 n1, .string s1, .slice pa1 pl1 pc1] 25 (0, 0)) (.cells #[.int .i64 k2, .int .i64 n2, .string s2, .slice pa2 pl2 pc2] 25 (0, 0))
  have HI := Lib.hid (And.intro hb2 (And.intro e1 e2))
  have HV := Lib.hid (And.intro ih (And.intro h1 h2))
  have ht : tcmp (d + 1) t1 t2 = or2 (or2 (Lib.compareInt k1 k2) (or2 (Lib.compareInt (ordN k1 n1) (ordN k1 n2)) (Lib.compareBytes s1.data.toList s2.data.toList))) (lexL (fcmp d) t1.fs t2.fs) := by
    rw [← q1, ← q2, ← q3, ← r1, ← r2, ← r3]; rfl
  have HT := Lib.hid ht
  clear ih h1 h2 hb2 e1 e2 q1 q2 q3 r1 r2 r3 ht
  go_enter Try.func9, Try.ntmps9
  go_upto_region 1 with fail
  have hi := HI.out
  clear HI
  generalize (w.alloc (.cells #[.int .i64 k1, .int .i64 n1, .string s1, .slice pa1 pl1 pc1] 25 (0, 0))).alloc (.cells #[.int .i64 k2, .int .i64 n2, .string s2, .slice pa2 pl2 pc2] 25 (0, 0)) = W at *
  obtain ⟨hb, e1, e2⟩ := hi
  obtain ⟨⟨a0, a1, a2, a3⟩, -⟩ := cells4 e1
  obtain ⟨⟨b0, b1, b2, b3⟩, -⟩ := cells4 e2
  have HE := Lib.hid (And.intro hb (And.intro e1 e2))
  clear hb e1 e2
  go_quiet (fail)
  rename_i nq
  by_cases hk : k1 = 3
  · have tk : (k1 == 3) = true := by rw [hk]; rfl
    have o1 : ordN k1 n1 = ordF n1 := by rw [ordN, if_pos hk]
    have o2 : ordN k1 n2 = ordF n2 := by rw [ordN, if_pos hk]
    have HO := Lib.hid (And.intro o1 o2)
    clear o1 o2 hk
    go_wp2_with fail
    refine (order_any n1 _).mono ?_
    rintro e w3 ⟨rfl, rfl⟩
    go_wp2_with fail
    refine (order_any n2 _).mono ?_
    rintro e w3 ⟨rfl, rfl⟩
    go_upto_region 4 with fail
    have hE := HE.out
    obtain ⟨hb, e1, e2⟩ := hE
    have HS := fun w' (h : Below (W.drewN nq).drew.heap.size (W.drewN nq).drew w') => And.intro (cells4 ((h.block _ (lt_of_block e1)).trans e1)).1 (cells4 ((h.block _ (lt_of_block e2)).trans e2)).1
    have S0 := HS _ (Below.refl _ _)
    have hfc := HV.out
    obtain ⟨ih, h1, h2⟩ := hfc
    have HF := Lib.hid (fun w5 (hh : Below w.heap.size w w5) => fields_cmp d ih S1 S2 w5 k1 n1 s1 (.slice pa1 pl1 pc1) t1 k2 n2 s2 (.slice pa2 pl2 pc2) t2 (h1.below (Nat.le_refl _) hh) (h2.below (Nat.le_refl _) hh))
    clear e1 e2 hb ih h1 h2
    have hbI : Below (W.drewN nq).drew.heap.size (W.drewN nq).drew (W.drewN nq).drew := Below.refl _ _
    go_region_held3 (fun w' => (w'.cell? ⟨w.heap.size, 0, none⟩ = some (.int .i64 k1) ∧ w'.cell? ⟨w.heap.size, 1, none⟩ = some (.int .i64 n1) ∧ w'.cell? ⟨w.heap.size, 2, none⟩ = some (.string s1) ∧ w'.cell? ⟨w.heap.size, 3, none⟩ = some (.slice pa1 pl1 pc1)) ∧ (w'.cell? ⟨w.heap.size + 1, 0, none⟩ = some (.int .i64 k2) ∧ w'.cell? ⟨w.heap.size + 1, 1, none⟩ = some (.int .i64 n2) ∧ w'.cell? ⟨w.heap.size + 1, 2, none⟩ = some (.string s2) ∧ w'.cell? ⟨w.heap.size + 1, 3, none⟩ = some (.slice pa2 pl2 pc2)))
      (first | assumption | exact HS _ (by assumption) | exact HS _ (hbI.alloc (Nat.le_refl _) _))
      (first
        | (go_at_call 36; refine (Try.strings_Compare _ _ _).mono ?_; rintro e w3 ⟨rfl, rfl⟩)
        | (go_at_call 35; refine (Try.cmp_Compare_int _ _ _).mono ?_; rintro e w3 ⟨rfl, rfl⟩)
        | (go_at_call 34; refine (or_any3 (W.drewN nq).drew.heap.size _ _ _ _ (heap_alloc_new _ _)).mono ?_; rintro e w6 ⟨rfl, rfl⟩))
    obtain ⟨C, hC⟩ : ∃ C, C = or2 (Lib.compareInt k1 k2) (or2 (Lib.compareInt (ordF n1) (ordF n2)) (Lib.compareBytes s1.data.toList s2.data.toList)) := ⟨_, rfl⟩
    have hT2 : tcmp (d + 1) t1 t2 = or2 C (lexL (fcmp d) t1.fs t2.fs) := by
      rw [HT.out, hC, HO.out.1, HO.out.2]
    have S1' := HS _ (hbI.alloc (Nat.le_refl _) (.cells #[.int .i64 (Lib.compareInt k1 k2), .int .i64 (Lib.compareInt (ordF n1) (ordF n2)), .int .i64 (Lib.compareBytes s1.data.toList s2.data.toList)] 3 (0, 0)))
    have hBB : Below w.heap.size w ((W.drewN nq).drew.alloc (.cells #[.int .i64 (Lib.compareInt k1 k2), .int .i64 (Lib.compareInt (ordF n1) (ordF n2)), .int .i64 (Lib.compareBytes s1.data.toList s2.data.toList)] 3 (0, 0))) := HE.out.1.trans (undrew2 (hbI.alloc (Nat.le_refl _) _) HE.out.1.size)
    rw [← hC]
    have HB := Lib.hid (And.intro hBB hT2)
    clear HS S0 hbI hT2 hC hBB
    obtain ⟨⟨c0, c1, c2, c3⟩, d0, d1, d2, d3⟩ := S1'
    by_cases hz : C = 0
    · have tz := b_eq hz
      go_wp2_with fail
      refine (HF.out _ HB.out.1).mono ?_
      rintro e w7 ⟨rfl, hb7⟩
      have hr : tcmp (d + 1) t1 t2 = lexL (fcmp d) t1.fs t2.fs := by rw [HB.out.2, or2, if_neg (by simp [hz])]
      have HH := Lib.hid (And.intro hr (HB.out.1.trans (hb7.mono HB.out.1.size)))
      clear hr hb7
      go_wp2_with fail
      go_ret
      exact ⟨ret_int HH.out.1.symm, HH.out.2⟩
    · have tz := b_ne hz
      have hr : tcmp (d + 1) t1 t2 = C := by rw [HB.out.2, or2, if_pos hz]
      have HH := Lib.hid hr
      clear hr
      go_wp2_with fail
      go_ret
      exact ⟨ret_int HH.out.symm, HB.out.1⟩
  · have tk : (k1 == 3) = false := by rw [beq_eq_false_iff_ne]; exact hk
    have o1 : ordN k1 n1 = n1 := by rw [ordN, if_neg hk]
    have o2 : ordN k1 n2 = n2 := by rw [ordN, if_neg hk]
    have HO := Lib.hid (And.intro o1 o2)
    clear o1 o2 hk
    go_upto_region 4 with fail
    have hE := HE.out
    obtain ⟨hb, e1, e2⟩ := hE
    have HS := fun w' (h : Below (W.drewN nq).drew.heap.size (W.drewN nq).drew w') => And.intro (cells4 ((h.block _ (lt_of_block e1)).trans e1)).1 (cells4 ((h.block _ (lt_of_block e2)).trans e2)).1
    have S0 := HS _ (Below.refl _ _)
    have hfc := HV.out
    obtain ⟨ih, h1, h2⟩ := hfc
    have HF := Lib.hid (fun w5 (hh : Below w.heap.size w w5) => fields_cmp d ih S1 S2 w5 k1 n1 s1 (.slice pa1 pl1 pc1) t1 k2 n2 s2 (.slice pa2 pl2 pc2) t2 (h1.below (Nat.le_refl _) hh) (h2.below (Nat.le_refl _) hh))
    clear e1 e2 hb ih h1 h2
    have hbI : Below (W.drewN nq).drew.heap.size (W.drewN nq).drew (W.drewN nq).drew := Below.refl _ _
    go_region_held3 (fun w' => (w'.cell? ⟨w.heap.size, 0, none⟩ = some (.int .i64 k1) ∧ w'.cell? ⟨w.heap.size, 1, none⟩ = some (.int .i64 n1) ∧ w'.cell? ⟨w.heap.size, 2, none⟩ = some (.string s1) ∧ w'.cell? ⟨w.heap.size, 3, none⟩ = some (.slice pa1 pl1 pc1)) ∧ (w'.cell? ⟨w.heap.size + 1, 0, none⟩ = some (.int .i64 k2) ∧ w'.cell? ⟨w.heap.size + 1, 1, none⟩ = some (.int .i64 n2) ∧ w'.cell? ⟨w.heap.size + 1, 2, none⟩ = some (.string s2) ∧ w'.cell? ⟨w.heap.size + 1, 3, none⟩ = some (.slice pa2 pl2 pc2)))
      (first | assumption | exact HS _ (by assumption) | exact HS _ (hbI.alloc (Nat.le_refl _) _))
      (first
        | (go_at_call 36; refine (Try.strings_Compare _ _ _).mono ?_; rintro e w3 ⟨rfl, rfl⟩)
        | (go_at_call 35; refine (Try.cmp_Compare_int _ _ _).mono ?_; rintro e w3 ⟨rfl, rfl⟩)
        | (go_at_call 34; refine (or_any3 (W.drewN nq).drew.heap.size _ _ _ _ (heap_alloc_new _ _)).mono ?_; rintro e w6 ⟨rfl, rfl⟩))
    obtain ⟨C, hC⟩ : ∃ C, C = or2 (Lib.compareInt k1 k2) (or2 (Lib.compareInt (n1) (n2)) (Lib.compareBytes s1.data.toList s2.data.toList)) := ⟨_, rfl⟩
    have hT2 : tcmp (d + 1) t1 t2 = or2 C (lexL (fcmp d) t1.fs t2.fs) := by
      rw [HT.out, hC, HO.out.1, HO.out.2]
    have S1' := HS _ (hbI.alloc (Nat.le_refl _) (.cells #[.int .i64 (Lib.compareInt k1 k2), .int .i64 (Lib.compareInt (n1) (n2)), .int .i64 (Lib.compareBytes s1.data.toList s2.data.toList)] 3 (0, 0)))
    have hBB : Below w.heap.size w ((W.drewN nq).drew.alloc (.cells #[.int .i64 (Lib.compareInt k1 k2), .int .i64 (Lib.compareInt (n1) (n2)), .int .i64 (Lib.compareBytes s1.data.toList s2.data.toList)] 3 (0, 0))) := HE.out.1.trans (undrew2 (hbI.alloc (Nat.le_refl _) _) HE.out.1.size)
    rw [← hC]
    have HB := Lib.hid (And.intro hBB hT2)
    clear HS S0 hbI hT2 hC hBB
    obtain ⟨⟨c0, c1, c2, c3⟩, d0, d1, d2, d3⟩ := S1'
    by_cases hz : C = 0
    · have tz := b_eq hz
      go_wp2_with fail
      refine (HF.out _ HB.out.1).mono ?_
      rintro e w7 ⟨rfl, hb7⟩
      have hr : tcmp (d + 1) t1 t2 = lexL (fcmp d) t1.fs t2.fs := by rw [HB.out.2, or2, if_neg (by simp [hz])]
      have HH := Lib.hid (And.intro hr (HB.out.1.trans (hb7.mono HB.out.1.size)))
      clear hr hb7
      go_wp2_with fail
      go_ret
      exact ⟨ret_int HH.out.1.symm, HH.out.2⟩
    · have tz := b_ne hz
      have hr : tcmp (d + 1) t1 t2 = C := by rw [HB.out.2, or2, if_pos hz]
      have HH := Lib.hid hr
      clear hr
      go_wp2_with fail
      go_ret
      exact ⟨ret_int HH.out.symm, HB.out.1⟩

theorem cmp_any : ∀ d, CmpSaid d
  | 0 => fun _ _ _ _ _ _ _ _ _ _ _ _ _ h => h.elim
  | d + 1 => cmp_succ d (cmp_any d)

end Go.Proofs.Ytkcpnehhcpmdgaa
