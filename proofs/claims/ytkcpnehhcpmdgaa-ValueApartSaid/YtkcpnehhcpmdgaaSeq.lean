/- clapmake's sampler at a sequence of items; no condition beyond those that stand there. -/
import Derived.Test.YtkcpnehhcpmdgaaItem
namespace Go.Proofs.Ytkcpnehhcpmdgaa
open Go.RowKit

/-- The items of the pattern P from place i to place k; they make at most m bytes. -/
inductive Steps (P : ByteArray) : Nat → Nat → Nat → Prop
  | stop (i k : Nat) (hik : k = i) (hi : i ≤ P.size) (he : ∀ h : i < P.size, P[i].toNat = 124 ∨ P[i].toNat = 41) : Steps P i k 0
  | one (i j k n m : Nat) (hi : i < P.size) (h1 : P[i].toNat ≠ 124) (h2 : P[i].toNat ≠ 41) (hit : SmOk 90 P i j n) (hij : i < j) (hj : j ≤ P.size) (hq : ∀ h : j < P.size, P[j].toNat ≠ 42 ∧ P[j].toNat ≠ 43 ∧ P[j].toNat ≠ 63) (hs : Steps P j k m) : Steps P i k (n + m)
  | star (i j k n m : Nat) (hi : i < P.size) (h1 : P[i].toNat ≠ 124) (h2 : P[i].toNat ≠ 41) (hit : SmOk 90 P i j n) (hij : i < j) (hj : j < P.size) (hq : P[j].toNat = 42) (hs : Steps P (j + 1) k m) : Steps P i k (2 * n + m)
def atOf (x : Nat) (w : World) : Nat := (intOf ((w.cell? ⟨x, 1, none⟩).getD (.int .i64 0))).toNat
theorem SmAt.atOf {B s x : Nat} {P : ByteArray} {i : Nat} {w : World} (h : SmAt B s x P i w) : atOf x w = i := by
  unfold Proofs.Ytkcpnehhcpmdgaa.atOf
  rw [h.cells.2.1]
  simp [intOf]
/-- What is known ahead of each item. -/
def SeqRel (B s x : Nat) (P : ByteArray) (k m : Nat) (w : World) (ov : Value) (wr : World) : Prop := ∃ (i mm : Nat) (b : ByteArray), Steps P i k mm ∧ b.size + mm ≤ m ∧ ov = .string b ∧ SmKeep B s x P i w wr

set_option maxRecDepth 100000 in
set_option maxHeartbeats 4000000 in
theorem seq_any (P : ByteArray) (i k m : Nat) (hP : P.size ≤ 1000) (hm : m ≤ 1000) (hst : Steps P i k m) : SmOk 76 P i k m := by
  intro B s x w h hs
  have HS := Lib.hid (SmKeep.refl h hs)
  have HT := Lib.hid hst
  clear h hs hst
  go_enter Try.func76, Try.ntmps76
  go_wp2_with fail
  go_loopw [3] (fun ov wr => SeqRel B s x P k m w ov wr) (fun _ wr => P.size - atOf x wr)
  case atStart => exact ⟨i, m, ⟨#[]⟩, HT.out, (show 0 + m ≤ m by omega), rfl, HS.out⟩
  case round =>
    obtain ⟨i, mm, b, hst, hb, rfl, hk⟩ := hrel
    obtain ⟨c0, c1, c2, f⟩ := hk.cells
    have f1 := f 1
    have hat := hk.sm.atOf
    rcases hst with ⟨_, _, hik, hi, he⟩ | ⟨_, j, _, n, m2, hi, h1, h2, hit, hij, hj, hq, hs⟩ | ⟨_, j, _, n, m2, hi, h1, h2, hit, hij, hj, hq, hs⟩
    · have HK := Lib.hid hk
      clear hk f hat
      by_cases hlt : i < P.size
      · have t1 : (i : Int) < (P.size : Int) := by omega
        rcases he hlt with h | h
        · have a1 : ((P[i].toNat : Int) != 124) = false := by rw [h]; rfl
          go_wp2_with fail
          go_quiet (fail)
          go_wp2_with fail
          go_ret
          rw [hik]
          exact ⟨⟨_, by omega, rfl⟩, (HK.out.drewN _).sm, (HK.out.drewN _).st, (HK.out.drewN _).keep⟩
        · have a1 : ((P[i].toNat : Int) != 124) = true := by rw [h]; rfl
          have a2 : ((P[i].toNat : Int) != 41) = false := by rw [h]; rfl
          go_wp2_with fail
          go_quiet (fail)
          go_wp2_with fail
          go_ret
          rw [hik]
          exact ⟨⟨_, by omega, rfl⟩, (HK.out.drewN _).sm, (HK.out.drewN _).st, (HK.out.drewN _).keep⟩
      · have t1 : decide ((i : Int) < (P.size : Int)) = false := decide_eq_false (by omega)
        go_wp2_with fail
        go_quiet (fail)
        go_wp2_with fail
        go_ret
        rw [hik]
        exact ⟨⟨_, by omega, rfl⟩, (HK.out.drewN _).sm, (HK.out.drewN _).st, (HK.out.drewN _).keep⟩
    · have t1 : (i : Int) < (P.size : Int) := by omega
      have a1 : ((P[i].toNat : Int) != 124) = true := by rw [bne_iff_ne]; omega
      have a2 : ((P[i].toNat : Int) != 41) = true := by rw [bne_iff_ne]; omega
      have HK := Lib.hid (And.intro hk hit)
      clear hk f hit h1 h2
      go_wp2_with fail
      go_quiet (fail)
      go_wp2_with fail
      refine (HK.out.2 B s x _ (HK.out.1.drewN _).sm (HK.out.1.drewN _).st).mono ?_
      rintro e w2 ⟨⟨b2, hb2, rfl⟩, s2, t2, k2⟩
      have h2 := (HK.out.1.drewN _).then s2 t2 k2
      obtain ⟨d0, d1, d2, df⟩ := h2.cells
      have df1 := df 1
      have H2 := Lib.hid h2
      clear s2 t2 k2 h2 df
      by_cases hjl : j < P.size
      · have t2 : (j : Int) < (P.size : Int) := by omega
        obtain ⟨q1, q2, q3⟩ := hq hjl
        have b1 : ((P[j].toNat : Int) == 42) = false := by rw [beq_eq_false_iff_ne]; omega
        have b3 : ((P[j].toNat : Int) == 43) = false := by rw [beq_eq_false_iff_ne]; omega
        have b4 : ((P[j].toNat : Int) == 63) = false := by rw [beq_eq_false_iff_ne]; omega
        clear q1 q2 q3
        go_wp2_with fail
        go_quiet (fail)
        go_wp2_with fail
        go_quiet (fail)
        go_wp2_with fail
        refine wp_loop_rounds 2 ?_
        rw [rounds_succ]
        go_wp2_with fail
        rw [rounds_succ]
        go_wp2_with fail
        refine ⟨⟨j, m2, b ++ b2, hs, by rw [ByteArray.size_append]; omega, rfl, H2.out.drewN _⟩, ?_⟩
        rw [hat, (H2.out.drewN _).sm.atOf]
        omega
      · have t2 : decide ((j : Int) < (P.size : Int)) = false := decide_eq_false (by omega)
        go_wp2_with fail
        go_quiet (fail)
        go_wp2_with fail
        refine wp_loop_rounds 2 ?_
        rw [rounds_succ]
        go_wp2_with fail
        rw [rounds_succ]
        go_wp2_with fail
        refine ⟨⟨j, m2, b ++ b2, hs, by rw [ByteArray.size_append]; omega, rfl, H2.out.drewN _⟩, ?_⟩
        rw [hat, (H2.out.drewN _).sm.atOf]
        omega
    · have t1 : (i : Int) < (P.size : Int) := by omega
      have a1 : ((P[i].toNat : Int) != 124) = true := by rw [bne_iff_ne]; omega
      have a2 : ((P[i].toNat : Int) != 41) = true := by rw [bne_iff_ne]; omega
      have HK := Lib.hid (And.intro hk hit)
      clear hk f hit h1 h2
      go_wp2_with fail
      go_quiet (fail)
      go_wp2_with fail
      refine (HK.out.2 B s x _ (HK.out.1.drewN _).sm (HK.out.1.drewN _).st).mono ?_
      rintro e w2 ⟨⟨b2, hb2, rfl⟩, s2, t2, k2⟩
      have h2 := (HK.out.1.drewN _).then s2 t2 k2
      obtain ⟨d0, d1, d2, df⟩ := h2.cells
      have df1 := df 1
      have H2 := Lib.hid h2
      clear s2 t2 k2 h2 df
      have t2 : (j : Int) < (P.size : Int) := by omega
      have b1 : ((P[j].toNat : Int) == 42) = true := by rw [beq_iff_eq]; omega
      have wj : IntKind.i64.wrap ((j : Int) + 1) = (j : Int) + 1 := IntWalk.i64_in _ ⟨by omega, by omega⟩
      clear hq
      go_wp2_with fail
      go_quiet (fail)
      go_wp2_with fail
      go_quiet (fail)
      go_wp2_with fail
      refine (next_any B s 3 (by decide) _ (H2.out.drewN _).st).mono ?_
      rintro e w3 ⟨⟨T, rfl, T0, T1, -⟩, t3, k3, -⟩
      have T3 := T1 (by decide)
      have h3 := (H2.out.drewN _).thenS t3 k3
      obtain ⟨e0, e1, e2, ef⟩ := h3.cells
      have ef1 := ef 1
      have H3 := Lib.hid h3
      clear t3 k3 h3 ef T1
      have h4 := H3.out.set (j + 1)
      rw [show (((j + 1 : Nat)) : Int) = (j : Int) + 1 from rfl] at h4
      have H4 := Lib.hid h4
      clear h4
      rcases (show T = 0 ∨ T = 1 ∨ T = 2 by omega) with rfl | rfl | rfl
      · go_wp2_with fail
        refine wp_loop_rounds 2 ?_
        rw [rounds_succ]
        go_wp2_with fail
        refine ⟨⟨j + 1, m2, b, hs, by omega, rfl, H4.out⟩, ?_⟩
        rw [hat, H4.out.sm.atOf]
        omega
      · go_wp2_with fail
        refine wp_loop_rounds 2 ?_
        rw [rounds_succ]
        go_wp2_with fail
        rw [rounds_succ]
        go_wp2_with fail
        refine ⟨⟨j + 1, m2, b ++ b2, hs, by rw [ByteArray.size_append]; omega, rfl, H4.out⟩, ?_⟩
        rw [hat, H4.out.sm.atOf]
        omega
      · go_wp2_with fail
        refine wp_loop_rounds 3 ?_
        rw [rounds_succ]
        go_wp2_with fail
        rw [rounds_succ]
        go_wp2_with fail
        have h5 := H4.out.set i
        refine (HK.out.2 B s x _ h5.sm h5.st).mono ?_
        rintro e w6 ⟨⟨b6, hb6, rfl⟩, s6, t6, k6⟩
        have h6 := h5.then s6 t6 k6
        obtain ⟨g0, g1, g2, gf⟩ := h6.cells
        have f6 := gf 1
        have H6 := Lib.hid h6
        clear s6 t6 k6 h6 h5 gf
        go_wp2_with fail
        rw [rounds_succ]
        go_wp2_with fail
        have h7 := H6.out.set (j + 1)
        rw [show (((j + 1 : Nat)) : Int) = (j : Int) + 1 from rfl] at h7
        refine ⟨⟨j + 1, m2, b ++ b2 ++ b6, hs, by rw [ByteArray.size_append, ByteArray.size_append]; omega, rfl, h7⟩, ?_⟩
        rw [hat, h7.sm.atOf]
        omega

end Go.Proofs.Ytkcpnehhcpmdgaa
