/- value.Size, value.Deep; no condition beyond those that stand there. -/
import Derived.Test.YtkcpnehhcpmdgaaSame
namespace Go.Proofs.Ytkcpnehhcpmdgaa
open Go.RowKit

theorem cells5b {w : World} {g : Nat} {c0 c1 c2 c3 c4 : Value} (h : w.heap[g]? = some (.cells #[c0, c1, c2, c3, c4] 33 (0, 0))) :
    w.cell? ⟨g, 1, none⟩ = some c1 ∧ w.cell? ⟨g, 2, none⟩ = some c2 ∧ w.cell? ⟨g, 3, none⟩ = some c3 ∧ w.cell? ⟨g, 4, none⟩ = some c4 := ⟨(cells5 h).2.1, (cells5 h).2.2.1, (cells5 h).2.2.2.1, (cells5 h).2.2.2.2⟩
/-- The number of levels. -/
def tdeep : (d : Nat) → TVal d → Nat
  | 0, _ => 0
  | d + 1, t => 1 + (t.fs.map fun f => tdeep d f.2).foldl max 0
def Wide (d : Nat) (t : TVal d) : Prop := tsize d t ≤ 1000000
def SizeSaid (d : Nat) : Prop := ∀ (S : Nat → Prop) (w : World) (k n : Int) (s : ByteArray) (p : Value) (t : TVal d), IsV d S w k n s p t → tsize d t ≤ 1000000 →
  Calls Try.prog 12 #[.agg #[.int .i64 k, .int .i64 n, .string s, p]] w fun e w' => e = .returned (.int .i64 (tsize d t : Nat)) ∧ Below w.heap.size w w'
theorem sum_take {α : Type} (f : α → Nat) (xs : List α) (i : Nat) (h : i < xs.length) : ((xs.take (i + 1)).map f).sum = ((xs.take i).map f).sum + f xs[i] := by
  rw [List.take_succ_eq_append_getElem h, List.map_append, List.sum_append]
  simp
theorem sum_le {α : Type} (f : α → Nat) (xs : List α) (i : Nat) : ((xs.take i).map f).sum ≤ (xs.map f).sum := by
  have h : xs.map f = (xs.take i).map f ++ (xs.drop i).map f := by rw [← List.map_append, List.take_append_drop]
  rw [h, List.sum_append]
  omega
set_option maxRecDepth 100000 in
set_option maxHeartbeats 4000000 in
theorem size_succ (d : Nat) (ih : SizeSaid d) : SizeSaid (d + 1) := by
  intro S w k n s p t h hw
  obtain ⟨-, -, -, c1, a1, rfl, hc1, hf1⟩ := h
  have ht : tsize (d + 1) t = 1 + (t.fs.map fun f => tsize d f.2).sum := rfl
  generalize t.fs = xs at *
  rw [ht] at hw ⊢
  have hal := (Below.refl w.heap.size w).alloc (Nat.le_refl _) (.cells #[.int .i64 k, .int .i64 n, .string s, .slice a1 xs.length c1] 25 (0, 0))
  have HI := Lib.hid (And.intro ih (And.intro hf1 hal))
  clear ih hf1 hal ht
  go_enter Try.func12, Try.ntmps12
  go_wp2_with fail
  go_loopw [9, 3] (fun iv sv wr => ∃ i : Nat, iv = .int .i64 i ∧ i ≤ xs.length ∧ sv = .int .i64 ((1 + ((xs.take i).map fun f => tsize d f.2).sum : Nat) : Int) ∧ Below w.heap.size w wr) (fun iv _ _ => xs.length - (intOf iv).toNat)
  case atStart => exact ⟨0, rfl, Nat.zero_le _, by simp, HI.out.2.2⟩
  case round =>
    obtain ⟨i, rfl, hi, rfl, hb⟩ := hrel
    have hzr := hb.size
    by_cases hlt : i < xs.length
    · have ti : (i : Int) < (xs.length : Int) := by omega
      have wi : IntKind.i64.wrap ((i : Int) + 1) = (i : Int) + 1 := IntWalk.i64_in _ ⟨by omega, by omega⟩
      have hni : ((i : Int)).toNat = i := by omega
      obtain ⟨b1, kk1, nn1, ss1, pp1, rfl, -, hl1, e0, e1, e2, e3, e4, v1⟩ := HI.out.2.1 i xs[i] (List.getElem?_eq_getElem hlt)
      obtain ⟨pa1, pl1, pc1, rfl⟩ := v1.isSlice
      rw [← hb.cell (show (⟨b1, i * 5, none⟩ : Addr).block < w.heap.size from hl1)] at e0
      rw [← hb.cell (show (⟨b1, i * 5 + 1, none⟩ : Addr).block < w.heap.size from hl1)] at e1
      rw [← hb.cell (show (⟨b1, i * 5 + 2, none⟩ : Addr).block < w.heap.size from hl1)] at e2
      rw [← hb.cell (show (⟨b1, i * 5 + 3, none⟩ : Addr).block < w.heap.size from hl1)] at e3
      rw [← hb.cell (show (⟨b1, i * 5 + 4, none⟩ : Addr).block < w.heap.size from hl1)] at e4
      have hst := sum_take (fun f : ByteArray × TVal d => tsize d f.2) xs i hlt
      have hle := sum_le (fun f : ByteArray × TVal d => tsize d f.2) xs (i + 1)
      generalize xs[i] = x at *
      obtain ⟨x, tx⟩ := x
      obtain ⟨Z, hZ⟩ : ∃ Z, Z = ((xs.take i).map fun f => tsize d f.2).sum := ⟨_, rfl⟩
      have hst2 : ((xs.take (i + 1)).map fun f => tsize d f.2).sum = Z + tsize d tx := by rw [hZ]; exact hst
      have hfit : 1 + Z + tsize d tx ≤ 1000000 := by omega
      have hal := (Below.refl wr.heap.size wr).alloc (Nat.le_refl _) (.cells #[.string x, .int .i64 kk1, .int .i64 nn1, .string ss1, .slice pa1 pl1 pc1] 33 (0, 0))
      have hb2 := hb.trans (hal.mono hzr)
      have hca := HI.out.1 S _ kk1 nn1 ss1 _ tx (v1.below (Nat.le_refl _) hb2) (by omega)
      have wz : IntKind.i64.wrap (((1 + Z : Nat) : Int) + (tsize d tx : Nat)) = ((1 + Z + tsize d tx : Nat) : Int) := by rw [IntWalk.i64_in _ ⟨by omega, by omega⟩]; omega
      rw [← hZ]
      have HC := Lib.hid (And.intro hca (And.intro hb2 hst2))
      clear hal hb2 hca v1 hst hle hb hZ hst2
      generalize hQ : ((1 + Z : Nat) : Int) = Q at *
      clear hQ
      go_wp2_with fail
      refine HC.out.1.mono ?_
      rintro e w3 ⟨rfl, hb3⟩
      have HB := Lib.hid (HC.out.2.1.trans (hb3.mono HC.out.2.1.size))
      clear hb3
      go_wp2_with fail
      refine ⟨⟨i + 1, by simp, by omega, ?_, HB.out⟩, by simp [intOf]; omega⟩
      rw [HC.out.2.2, show ((1 + (Z + tsize d tx) : Nat) : Int) = 1 + (Z : Int) + (tsize d tx : Int) by omega]
    · have ti : decide ((i : Int) < (xs.length : Int)) = false := decide_eq_false (by omega)
      have hx : xs.take i = xs := List.take_of_length_le (by omega)
      rw [hx]
      go_wp2_with fail
      go_ret
      exact ⟨rfl, hb⟩
theorem size_any : ∀ d, SizeSaid d
  | 0 => fun _ _ _ _ _ _ _ h => h.elim
  | d + 1 => size_succ d (size_any d)

def DeepSaid (d : Nat) : Prop := ∀ (S : Nat → Prop) (w : World) (k n : Int) (s : ByteArray) (p : Value) (t : TVal d), IsV d S w k n s p t →
  Calls Try.prog 14 #[.agg #[.int .i64 k, .int .i64 n, .string s, p]] w fun e w' => e = .returned (.int .i64 (tdeep d t : Nat)) ∧ Below w.heap.size w w'
theorem max_take {α : Type} (f : α → Nat) (xs : List α) (i : Nat) (h : i < xs.length) : ((xs.take (i + 1)).map f).foldl max 0 = max (((xs.take i).map f).foldl max 0) (f xs[i]) := by
  rw [List.take_succ_eq_append_getElem h, List.map_append, List.foldl_append]
  rfl
theorem foldl_max_le (xs : List Nat) (a n : Nat) (ha : a ≤ n) (h : ∀ x ∈ xs, x ≤ n) : xs.foldl max a ≤ n := by
  induction xs generalizing a with
  | nil => exact ha
  | cons x xs ih => exact ih (max a x) (by have := h x (List.mem_cons_self ..); omega) fun y hy => h y (List.mem_cons_of_mem _ hy)
theorem tdeep_d : ∀ (d : Nat) (t : TVal d), tdeep d t ≤ d
  | 0, t => t.elim
  | d + 1, t => by
    show 1 + (t.fs.map fun f => tdeep d f.2).foldl max 0 ≤ d + 1
    have := foldl_max_le (t.fs.map fun f => tdeep d f.2) 0 d (Nat.zero_le _) fun x hx => by
      obtain ⟨f, _, rfl⟩ := List.mem_map.1 hx
      exact tdeep_d d f.2
    omega
theorem tdeep_le {d : Nat} (xs : List (ByteArray × TVal d)) (hd : d ≤ 1000) : (xs.map fun f => tdeep d f.2).foldl max 0 ≤ 1000 :=
  foldl_max_le _ 0 1000 (by decide) fun x hx => by
    obtain ⟨f, _, rfl⟩ := List.mem_map.1 hx
    exact Nat.le_trans (tdeep_d d f.2) hd
set_option maxRecDepth 100000 in
set_option maxHeartbeats 4000000 in
theorem deep_succ (d : Nat) (hd : d ≤ 1000) (ih : DeepSaid d) : DeepSaid (d + 1) := by
  intro S w k n s p t h
  obtain ⟨-, -, -, c1, a1, rfl, hc1, hf1⟩ := h
  have ht : tdeep (d + 1) t = 1 + (t.fs.map fun f => tdeep d f.2).foldl max 0 := rfl
  generalize t.fs = xs at *
  rw [ht]
  have hal := (Below.refl w.heap.size w).alloc (Nat.le_refl _) (.cells #[.int .i64 k, .int .i64 n, .string s, .slice a1 xs.length c1] 25 (0, 0))
  have hdp := tdeep_le xs hd
  have HI := Lib.hid (And.intro ih (And.intro hf1 (And.intro hdp hal)))
  clear ih hf1 hal ht hdp
  go_enter Try.func14, Try.ntmps14
  go_wp2_with fail
  go_loopw [9, 3] (fun iv sv wr => ∃ i : Nat, iv = .int .i64 i ∧ i ≤ xs.length ∧ sv = .int .i64 ((((xs.take i).map fun f => tdeep d f.2).foldl max 0 : Nat) : Int) ∧ Below w.heap.size w wr) (fun iv _ _ => xs.length - (intOf iv).toNat)
  case atStart => exact ⟨0, rfl, Nat.zero_le _, by simp, HI.out.2.2.2⟩
  case round =>
    obtain ⟨i, rfl, hi, rfl, hb⟩ := hrel
    have hzr := hb.size
    by_cases hlt : i < xs.length
    · have ti : (i : Int) < (xs.length : Int) := by omega
      have wi : IntKind.i64.wrap ((i : Int) + 1) = (i : Int) + 1 := IntWalk.i64_in _ ⟨by omega, by omega⟩
      have hni : ((i : Int)).toNat = i := by omega
      obtain ⟨b1, kk1, nn1, ss1, pp1, rfl, -, hl1, e0, e1, e2, e3, e4, v1⟩ := HI.out.2.1 i xs[i] (List.getElem?_eq_getElem hlt)
      obtain ⟨pa1, pl1, pc1, rfl⟩ := v1.isSlice
      rw [← hb.cell (show (⟨b1, i * 5, none⟩ : Addr).block < w.heap.size from hl1)] at e0
      rw [← hb.cell (show (⟨b1, i * 5 + 1, none⟩ : Addr).block < w.heap.size from hl1)] at e1
      rw [← hb.cell (show (⟨b1, i * 5 + 2, none⟩ : Addr).block < w.heap.size from hl1)] at e2
      rw [← hb.cell (show (⟨b1, i * 5 + 3, none⟩ : Addr).block < w.heap.size from hl1)] at e3
      rw [← hb.cell (show (⟨b1, i * 5 + 4, none⟩ : Addr).block < w.heap.size from hl1)] at e4
      have hst := max_take (fun f : ByteArray × TVal d => tdeep d f.2) xs i hlt
      generalize xs[i] = x at *
      obtain ⟨x, tx⟩ := x
      obtain ⟨Z, hZ⟩ : ∃ Z, Z = ((xs.take i).map fun f => tdeep d f.2).foldl max 0 := ⟨_, rfl⟩
      have hst2 : ((xs.take (i + 1)).map fun f => tdeep d f.2).foldl max 0 = max Z (tdeep d tx) := by rw [hZ]; exact hst
      have hal := (Below.refl wr.heap.size wr).alloc (Nat.le_refl _) (.cells #[.string x, .int .i64 kk1, .int .i64 nn1, .string ss1, .slice pa1 pl1 pc1] 33 (0, 0))
      have hb2 := hb.trans (hal.mono hzr)
      have hca := HI.out.1 S _ kk1 nn1 ss1 _ tx (v1.below (Nat.le_refl _) hb2)
      obtain ⟨M, hM⟩ : ∃ M, M = max Z (tdeep d tx) := ⟨_, rfl⟩
      have hm1 : (if (Z : Int) < (tdeep d tx : Int) then (tdeep d tx : Int) else (Z : Int)) = (M : Int) := by rw [hM]; split <;> omega
      have hm2 : (if (tdeep d tx : Int) < (Z : Int) then (Z : Int) else (tdeep d tx : Int)) = (M : Int) := by rw [hM]; split <;> omega
      have hm3 : max (Z : Int) (tdeep d tx : Int) = (M : Int) := by rw [hM]; omega
      rw [← hZ]
      have HC := Lib.hid (And.intro hca (And.intro hb2 (hst2.trans hM.symm)))
      clear hst2 hM
      clear hal hb2 hca v1 hst hb hZ
      generalize (Z : Int) = Q at *
      generalize (tdeep d tx : Int) = R at *
      go_wp2_with fail
      refine HC.out.1.mono ?_
      rintro e w3 ⟨rfl, hb3⟩
      have HB := Lib.hid (HC.out.2.1.trans (hb3.mono HC.out.2.1.size))
      clear hb3
      go_wp2_with fail
      refine ⟨⟨i + 1, by simp, by omega, ?_, HB.out⟩, by simp [intOf]; omega⟩
      rw [HC.out.2.2]
    · have ti : decide ((i : Int) < (xs.length : Int)) = false := decide_eq_false (by omega)
      have hx : xs.take i = xs := List.take_of_length_le (by omega)
      rw [hx]
      have hbd := HI.out.2.2.1
      have wq : IntKind.i64.wrap (((xs.map fun f => tdeep d f.2).foldl max 0 : Nat) + 1 : Int) = ((1 + (xs.map fun f => tdeep d f.2).foldl max 0 : Nat) : Int) := by rw [IntWalk.i64_in _ ⟨by omega, by omega⟩]; omega
      generalize (((xs.map fun f => tdeep d f.2).foldl max 0 : Nat) : Int) = Q at *
      go_wp2_with fail
      go_ret
      exact ⟨rfl, hb⟩
theorem deep_any : ∀ d, d ≤ 1000 → DeepSaid d
  | 0, _ => fun _ _ _ _ _ _ _ h => h.elim
  | d + 1, hd => deep_succ d (by omega) (deep_any d (by omega))

end Go.Proofs.Ytkcpnehhcpmdgaa
