/- clapmake's sampler at one item of a pattern; no condition beyond those that stand there. -/
import Derived.Test.YtkcpnehhcpmdgaaClass
namespace Go.Proofs.Ytkcpnehhcpmdgaa
open Go.RowKit

/-- A function of the sampler goes from place i to place j of the pattern P, and returns a string of at most n bytes. -/
def SmOk (f : Nat) (P : ByteArray) (i j n : Nat) : Prop := ∀ (B s x : Nat) (w : World), SmAt B s x P i w → StAt B s w →
  Calls Try.prog f #[.pointer (some ⟨x, 0, none⟩)] w fun e w' => (∃ b : ByteArray, b.size ≤ n ∧ e = .returned (.string b)) ∧ SmAt B s x P j w' ∧ StAt B s w' ∧ KeepXS w.heap.size x s w w'
def dots : List ByteArray := [⟨#[97]⟩, ⟨#[98]⟩, ⟨#[45]⟩, ⟨#[0]⟩, ⟨#[55]⟩]
/-- The state of a sampler and of what lies around it. -/
structure SmKeep (B s x : Nat) (P : ByteArray) (i : Nat) (w w' : World) : Prop where
  sm : SmAt B s x P i w'
  st : StAt B s w'
  keep : KeepXS w.heap.size x s w w'
theorem SmKeep.refl {B s x : Nat} {P : ByteArray} {i : Nat} {w : World} (h : SmAt B s x P i w) (hs : StAt B s w) : SmKeep B s x P i w w := ⟨h, hs, KeepXS.refl _ _ _ _⟩
theorem SmKeep.drewN {B s x : Nat} {P : ByteArray} {i : Nat} {w w' : World} (h : SmKeep B s x P i w w') (q : Nat) : SmKeep B s x P i w (w'.drewN q) := ⟨h.sm.keep rfl, h.st.keep rfl fun _ _ => rfl, h.keep.drewN q⟩
theorem SmKeep.below {B s x : Nat} {P : ByteArray} {i : Nat} {w w' w2 : World} (h : SmKeep B s x P i w w') (hb : Below w'.heap.size w' w2) : SmKeep B s x P i w w2 := ⟨h.sm.keep (hb.block x h.sm.lt), h.st.below hb h.st.lt, h.keep.trans (KeepXS.of_below (hb.mono h.keep.size))⟩
theorem SmKeep.set {B s x : Nat} {P : ByteArray} {i : Nat} {w w' : World} (h : SmKeep B s x P i w w') (j : Nat) : SmKeep B s x P j w (w'.setCell ⟨x, 1, none⟩ (.int .i64 j)) := by
  refine ⟨h.sm.set j, h.st.keep (Below.heap_setCell _ _ _ _ (Ne.symm h.sm.ne)) (fun k hk => Below.heap_setCell _ _ _ _ ?_), h.keep.trans (KeepXS.setx _ x s 1 w' _)⟩
  have := h.sm.low
  show k ≠ x
  omega
theorem SmKeep.then {B s x : Nat} {P : ByteArray} {i j : Nat} {w w' w2 : World} (h : SmKeep B s x P i w w') (sm : SmAt B s x P j w2) (st : StAt B s w2) (k : KeepXS w'.heap.size x s w' w2) : SmKeep B s x P j w w2 := ⟨sm, st, h.keep.trans (k.mono h.keep.size)⟩
theorem SmKeep.thenS {B s x : Nat} {P : ByteArray} {i : Nat} {w w' w2 : World} (h : SmKeep B s x P i w w') (st : StAt B s w2) (k : KeepS w'.heap.size s w' w2) : SmKeep B s x P i w w2 := ⟨h.sm.keep (k.block x h.sm.lt h.sm.ne), st, h.keep.trans (k.xs_right.mono h.keep.size)⟩
theorem SmKeep.cells {B s x : Nat} {P : ByteArray} {i : Nat} {w w' : World} (h : SmKeep B s x P i w w') : w'.cell? ⟨x, 0, none⟩ = some (.string P) ∧ w'.cell? ⟨x, 1, none⟩ = some (.int .i64 i) ∧ w'.cell? ⟨x, 2, none⟩ = some (.pointer (some ⟨s, 0, none⟩)) ∧ ∀ k, w'.frozen? ⟨x, k, none⟩ = false := h.sm.cells

set_option maxRecDepth 100000 in
set_option maxHeartbeats 4000000 in
theorem item_plain (P : ByteArray) (i : Nat) (hi : i < P.size) (hP : P.size ≤ 1000) (h40 : P[i].toNat ≠ 40) (h46 : P[i].toNat ≠ 46) (h91 : P[i].toNat ≠ 91) (h92 : P[i].toNat ≠ 92) : SmOk 90 P i (i + 1) 1 := by
  intro B s x w h hst
  obtain ⟨c0, c1, c2, f⟩ := h.cells
  have f1 := f 1
  have wi : IntKind.i64.wrap ((i : Int) + 1) = (i : Int) + 1 := IntWalk.i64_in _ ⟨by omega, by omega⟩
  have a1 : ((P[i].toNat : Int) == 40) = false := by rw [beq_eq_false_iff_ne]; omega
  have a2 : ((P[i].toNat : Int) == 46) = false := by rw [beq_eq_false_iff_ne]; omega
  have a3 : ((P[i].toNat : Int) == 91) = false := by rw [beq_eq_false_iff_ne]; omega
  have a4 : ((P[i].toNat : Int) == 92) = false := by rw [beq_eq_false_iff_ne]; omega
  have HS := Lib.hid (SmKeep.refl h hst)
  clear f h hst h40 h46 h91 h92
  have hcv := fun nq y => conv1g ((w.drewN nq).setCell ⟨x, 1, none⟩ (.int .i64 ((i : Int) + 1))) w.heap.size (by simp) y
  go_enter Try.func90, Try.ntmps90
  go_wp2_with fail
  go_quiet (fail)
  go_wp2_with fail
  go_ret
  have hk := fun nq => (HS.out.drewN nq).set (i + 1)
  have hk2 := fun nq => (hk nq).below ((Below.refl _ _).alloc (Nat.le_refl _) (.cells #[.int .u8 (P[i].toNat : Int)] 5 (0, 0)))
  refine ⟨⟨_, ?_, rfl⟩, (hk2 _).sm, (hk2 _).st, (hk2 _).keep⟩
  exact Nat.le_refl 1
set_option maxRecDepth 100000 in
set_option maxHeartbeats 4000000 in
theorem item_dot (P : ByteArray) (i : Nat) (hi : i < P.size) (hP : P.size ≤ 1000) (h46 : P[i].toNat = 46) : SmOk 90 P i (i + 1) 1 := by
  intro B s x w h hst
  obtain ⟨c0, c1, c2, f⟩ := h.cells
  have f1 := f 1
  have wi : IntKind.i64.wrap ((i : Int) + 1) = (i : Int) + 1 := IntWalk.i64_in _ ⟨by omega, by omega⟩
  have a1 : ((P[i].toNat : Int) == 40) = false := by rw [beq_eq_false_iff_ne]; omega
  have a2 : ((P[i].toNat : Int) == 46) = true := by rw [beq_iff_eq]; omega
  have HS := Lib.hid (SmKeep.refl h hst)
  clear f h hst h46
  go_enter Try.func90, Try.ntmps90
  go_wp2_with fail
  go_quiet (fail)
  have hk := fun nq => (HS.out.drewN nq).set (i + 1)
  rw [show (((i + 1 : Nat)) : Int) = (i : Int) + 1 from rfl] at hk
  have d2 : ∀ nq, ((w.drewN nq).setCell ⟨x, 1, none⟩ (.int .i64 ((i : Int) + 1))).cell? ⟨x, 2, none⟩ = some (.pointer (some ⟨s, 0, none⟩)) := fun nq => (hk nq).cells.2.2.1
  go_wp2_with fail
  have h5 := (hk nq).below ((Below.refl _ _).alloc (Nat.le_refl _) (.cells #[.string ⟨#[97]⟩, .string ⟨#[98]⟩, .string ⟨#[45]⟩, .string ⟨#[0]⟩, .string ⟨#[55]⟩] 9 (0, 0)))
  have hz : ((w.drewN nq).setCell ⟨x, 1, none⟩ (.int .i64 ((i : Int) + 1))).heap.size = w.heap.size := by simp
  have e5 := heap_alloc_new ((w.drewN nq).setCell ⟨x, 1, none⟩ (.int .i64 ((i : Int) + 1))) (.cells #[.string ⟨#[97]⟩, .string ⟨#[98]⟩, .string ⟨#[45]⟩, .string ⟨#[0]⟩, .string ⟨#[55]⟩] 9 (0, 0))
  rw [hz] at e5
  have hp := pick_str B s w.heap.size dots (by decide) (by decide) _ h5.st e5
  clear hz e5
  refine hp.mono ?_
  rintro e w6 ⟨⟨b, hb, rfl⟩, t6, k6⟩
  have h6 := h5.thenS t6 k6
  have H := Lib.hid (And.intro h6 hb)
  clear hk d2 h5 t6 k6 h6 hb
  go_wp2_with fail
  go_ret
  refine ⟨⟨_, ?_, rfl⟩, H.out.1.sm, H.out.1.st, H.out.1.keep⟩
  have := H.out.2
  simp [dots] at this
  rcases this with rfl | rfl | rfl | rfl | rfl <;> decide
set_option maxRecDepth 100000 in
set_option maxHeartbeats 4000000 in
theorem item_class (P : ByteArray) (i : Nat) (hi : i + 4 < P.size) (hP : P.size ≤ 1000) (h91 : P[i].toNat = 91) (lo hh : UInt8) (h0 : P[i + 1] = lo) (h1 : P[i + 2] = 45) (h2 : P[i + 3] = hh) (h3 : P[i + 4] = 93) (l0 : lo.toNat ≠ 92 ∧ lo.toNat ≠ 93 ∧ lo.toNat ≠ 94) (l1 : hh.toNat ≠ 92) (hle : lo.toNat ≤ hh.toNat) : SmOk 90 P i (i + 5) 1 := by
  intro B s x w h hst
  have hcl := fun B s x => class_any B s x P (i + 1) (by omega) hP lo hh h0 h1 h2 h3 l0 l1 hle
  obtain ⟨c0, c1, c2, f⟩ := h.cells
  have f1 := f 1
  have wi : IntKind.i64.wrap ((i : Int) + 1) = (i : Int) + 1 := IntWalk.i64_in _ ⟨by omega, by omega⟩
  have i0 : i < P.size := by omega
  have a1 : ((P[i].toNat : Int) == 40) = false := by rw [beq_eq_false_iff_ne]; omega
  have a2 : ((P[i].toNat : Int) == 46) = false := by rw [beq_eq_false_iff_ne]; omega
  have a3 : ((P[i].toNat : Int) == 91) = true := by rw [beq_iff_eq]; omega
  have HS := Lib.hid (SmKeep.refl h hst)
  have HC := Lib.hid hcl
  clear f h hst h91 h0 h1 h2 h3 hcl
  go_enter Try.func90, Try.ntmps90
  go_wp2_with fail
  go_quiet (fail)
  go_wp2_with fail
  have hk := fun nq => (HS.out.drewN nq).set (i + 1)
  refine (HC.out B s x _ (hk _).sm (hk _).st).mono ?_
  rintro e w6 ⟨⟨b, hb, rfl⟩, s6, t6, k6⟩
  have h6 := (hk _).then s6 t6 k6
  have H := Lib.hid (And.intro h6 hb)
  clear hk s6 t6 k6 h6 hb
  go_wp2_with fail
  go_ret
  exact ⟨⟨_, Nat.le_of_eq H.out.2, rfl⟩, H.out.1.sm, H.out.1.st, H.out.1.keep⟩
set_option maxRecDepth 100000 in
set_option maxHeartbeats 4000000 in
theorem item_paren (P : ByteArray) (i j n : Nat) (hi : i < P.size) (hP : P.size ≤ 1000) (h40 : P[i].toNat = 40) (hj : j ≤ P.size) (ha : SmOk 69 P (i + 1) j n) : SmOk 90 P i (j + 1) n := by
  intro B s x w h hst
  obtain ⟨c0, c1, c2, f⟩ := h.cells
  have f1 := f 1
  have wi : IntKind.i64.wrap ((i : Int) + 1) = (i : Int) + 1 := IntWalk.i64_in _ ⟨by omega, by omega⟩
  have wj : IntKind.i64.wrap ((j : Int) + 1) = (j : Int) + 1 := IntWalk.i64_in _ ⟨by omega, by omega⟩
  have a1 : ((P[i].toNat : Int) == 40) = true := by rw [beq_iff_eq]; omega
  have HS := Lib.hid (SmKeep.refl h hst)
  have HA := Lib.hid ha
  clear f h hst h40 ha
  go_enter Try.func90, Try.ntmps90
  go_wp2_with fail
  go_quiet (fail)
  go_wp2_with fail
  have hk := fun nq => (HS.out.drewN nq).set (i + 1)
  refine (HA.out B s x _ (hk _).sm (hk _).st).mono ?_
  rintro e w6 ⟨⟨b, hb, rfl⟩, s6, t6, k6⟩
  have h6 := (hk _).then s6 t6 k6
  obtain ⟨d0, d1, d2, df⟩ := h6.cells
  have df1 := df 1
  have H := Lib.hid (And.intro h6 hb)
  clear hk s6 t6 k6 h6 hb df
  go_wp2_with fail
  go_ret
  have h7 := H.out.1.set (j + 1)
  exact ⟨⟨_, H.out.2, rfl⟩, h7.sm, h7.st, h7.keep⟩

end Go.Proofs.Ytkcpnehhcpmdgaa
