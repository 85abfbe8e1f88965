/- Has and Same; no condition beyond those that stand there. -/
import Derived.Test.YtkcpnehhcpmdgaaIvRead
namespace Go.Proofs.Ytkcpnehhcpmdgaa
open Go.RowKit

def inR (n : Int) (r : Rg) : Bool := decide (r.1 ≤ n) && decide (n ≤ r.2)
def hasF (rs : List Rg) (n : Int) : Bool := rs.any (inR n)
theorem hasF_iff (rs : List Rg) (n : Int) : hasF rs n = true ↔ Mem n rs := by
  simp [hasF, inR, Mem]

set_option maxRecDepth 100000 in
set_option maxHeartbeats 4000000 in
theorem has1_any (x y n : Int) (B : Nat) (w : World) (hB : w.cell? ⟨B, 0, none⟩ = some (.int .i64 n)) :
    Calls Try.prog 47 #[.agg #[.int .i64 x, .int .i64 y], .pointer (some ⟨B, 0, none⟩)] w fun e w' => e = .returned (.bool (inR n (x, y))) ∧ Below w.heap.size w w' := by
  have c0 : (w.alloc (.cells #[.int .i64 x, .int .i64 y] 77 (0, 0))).cell? ⟨B, 0, none⟩ = some (.int .i64 n) := Lib.cell?_alloc_some _ hB
  unfold inR
  go_enter Try.func47, Try.ntmps47
  by_cases h1 : x ≤ n
  · by_cases h2 : n ≤ y
    all_goals
      go_wp2_with fail
      go_ret
      exact ⟨by simp [h1, h2], (Below.refl _ _).alloc (Nat.le_refl _) _⟩
  · go_wp2_with fail
    go_ret
    exact ⟨by simp; omega, (Below.refl _ _).alloc (Nat.le_refl _) _⟩
set_option maxRecDepth 100000 in
set_option maxHeartbeats 4000000 in
theorem index_any (b : Nat) (v : Value) (rs : List Rg) (hs : Small rs) (n : Int) (B : Nat) (w : World) (h : RowR b w v rs) (hB : w.cell? ⟨B, 0, none⟩ = some (.int .i64 n)) (hBl : B < w.heap.size) :
    Calls Try.prog 65 #[v, .func (.func 47) #[] #[.pointer (some ⟨B, 0, none⟩)]] w fun e w' => (∃ ix : Int, e = .returned (.int .i64 ix) ∧ decide (ix ≥ 0) = hasF rs n) ∧ Below w.heap.size w w' := by
  obtain ⟨p, c, rfl⟩ := h.slice
  have hl := hs.length
  obtain ⟨res, hres⟩ : ∃ res, hasF rs n = res := ⟨_, rfl⟩
  rw [hres]
  have HR := Lib.hid hres
  clear hres
  go_enter Try.func65, Try.ntmps65
  go_wp2_with fail
  go_loopw [8] (fun iv wr => ∃ (i : Nat), i ≤ rs.length ∧ iv = .int .i64 i ∧ hasF (rs.drop i) n = res ∧ Below w.heap.size w wr) (fun iv _ => rs.length - (intOf iv).toNat)
  case atStart => exact ⟨0, by omega, rfl, HR.out, Below.refl _ _⟩
  case round =>
    obtain ⟨i, hi, rfl, hn, hb⟩ := hrel
    have wi : IntKind.i64.wrap ((i : Int) + 1) = (i : Int) + 1 := IntWalk.i64_in _ ⟨by omega, by omega⟩
    by_cases hlt : i < rs.length
    · obtain ⟨q, rfl, c0, c1, hq, -, -, hcc⟩ := h.cells i hlt
      rw [← hb.cell (show (⟨q, i * 2, none⟩ : Addr).block < w.heap.size from hq)] at c0
      rw [← hb.cell (show (⟨q, i * 2 + 1, none⟩ : Addr).block < w.heap.size from hq)] at c1
      rw [← hb.cell (show (⟨B, 0, none⟩ : Addr).block < w.heap.size from hBl)] at hB
      have hni : ((i : Int)).toNat = i := by omega
      have ti : (i : Int) < (rs.length : Int) := by omega
      rw [List.drop_eq_getElem_cons hlt, hasF, List.any_cons] at hn
      generalize rs[i] = r at *
      obtain ⟨x, y⟩ := r
      simp only [] at c0 c1
      have HB := Lib.hid (And.intro hb hn)
      clear hn hb
      go_wp2_with fail
      refine (has1_any x y n B _ hB).mono ?_; rintro e w1 ⟨rfl, k1⟩
      by_cases ht : inR n (x, y) = true
      · rw [ht]
        have K1 := Lib.hid k1
        clear k1
        go_wp2_with fail
        go_ret
        have hn := HB.out.2
        rw [ht, Bool.true_or] at hn
        exact ⟨⟨_, rfl, by rw [← hn]; exact decide_eq_true (by omega)⟩, HB.out.1.trans (K1.out.mono HB.out.1.size)⟩
      · have ht' : inR n (x, y) = false := by simpa using ht
        rw [ht']
        have K1 := Lib.hid k1
        clear k1 ht
        go_wp2_with fail
        have hn := HB.out.2
        rw [ht', Bool.false_or] at hn
        refine ⟨⟨i + 1, by omega, by simp, hn, HB.out.1.trans (K1.out.mono HB.out.1.size)⟩, by simp [intOf]; omega⟩
    · have ti : decide ((i : Int) < (rs.length : Int)) = false := decide_eq_false (by omega)
      have hn' : res = false := by
        rw [List.drop_eq_nil_of_le (by omega)] at hn
        exact hn.symm
      clear hn
      go_wp2_with fail
      go_ret
      exact ⟨⟨_, rfl, by rw [hn']; rfl⟩, hb⟩
set_option maxRecDepth 100000 in
set_option maxHeartbeats 4000000 in
theorem has_any (b : Nat) (v : Value) (rs : List Rg) (hs : Small rs) (n : Int) (w : World) (h : RowR b w v rs) :
    Calls Try.prog 27 #[v, .int .i64 n] w fun e w' => e = .returned (.bool (hasF rs n)) ∧ Below w.heap.size w w' := by
  have hc : ∀ (v : Value) (B : Nat) (w : World), RowR b w v rs → w.cell? ⟨B, 0, none⟩ = some (.int .i64 n) → B < w.heap.size → Calls Try.prog 46 #[v, .func (.func 47) #[] #[.pointer (some ⟨B, 0, none⟩)]] w fun e w' => e = .returned (.bool (hasF rs n)) ∧ Below w.heap.size w w' := by
    intro v B w h hB hBl
    obtain ⟨p, c, rfl⟩ := h.slice
    have hx := index_any b _ rs hs n B w h hB hBl
    generalize hasF rs n = res at *
    clear hB
    go_enter Try.func46, Try.ntmps46
    go_wp2_with fail
    refine hx.mono ?_; rintro e w1 ⟨⟨ix, rfl, ht⟩, k1⟩
    have K1 := Lib.hid (And.intro k1 ht)
    clear k1 ht
    go_wp2_with fail
    go_ret
    exact ⟨by rw [← K1.out.2]; rfl, K1.out.1⟩
  obtain ⟨p, c, rfl⟩ := h.slice
  have hcell : (w.alloc (.cells #[.int .i64 n] 3 (0, 0))).cell? ⟨w.heap.size, 0, none⟩ = some (.int .i64 n) := by rw [Lib.cell_of_heap (heap_alloc_new _ _)]; rfl
  have hx := hc _ w.heap.size _ (h.below ((Below.refl _ _).alloc (Nat.le_refl _) (.cells #[.int .i64 n] 3 (0, 0)))) hcell (by simp)
  generalize hasF rs n = res at *
  clear hc hcell
  go_enter Try.func27, Try.ntmps27
  go_wp2_with fail
  refine hx.mono ?_; rintro e w1 ⟨rfl, k1⟩
  go_wp2_with fail
  go_ret
  exact ⟨rfl, ((Below.refl _ _).alloc (Nat.le_refl _) _).trans (k1.mono (by simp))⟩

set_option maxRecDepth 100000 in
set_option maxHeartbeats 4000000 in
theorem equal_any (b b' : Nat) (v v' : Value) (rs : List Rg) (hl : rs.length ≤ 500) (w : World) (h : RowR b w v rs) (h' : RowR b' w v' rs) :
    Calls Try.prog 45 #[v, v'] w fun e w' => e = .returned (.bool true) ∧ Below w.heap.size w w' := by
  obtain ⟨p, c, rfl⟩ := h.slice
  obtain ⟨p', c', rfl⟩ := h'.slice
  go_enter Try.func45, Try.ntmps45
  go_wp2_with fail
  go_loopw [13] (fun iv wr => ∃ (i : Nat), i ≤ rs.length ∧ iv = .int .i64 i ∧ Below w.heap.size w wr) (fun iv _ => rs.length - (intOf iv).toNat)
  case atStart => exact ⟨0, by omega, rfl, Below.refl _ _⟩
  case round =>
    obtain ⟨i, hi, rfl, hb⟩ := hrel
    have wi : IntKind.i64.wrap ((i : Int) + 1) = (i : Int) + 1 := IntWalk.i64_in _ ⟨by omega, by omega⟩
    by_cases hlt : i < rs.length
    · obtain ⟨q, rfl, c0, c1, hq, -, -, hcc⟩ := h.cells i hlt
      obtain ⟨q', rfl, c0', c1', hq', -, -, hcc'⟩ := h'.cells i hlt
      rw [← hb.cell (show (⟨q, i * 2, none⟩ : Addr).block < w.heap.size from hq)] at c0
      rw [← hb.cell (show (⟨q, i * 2 + 1, none⟩ : Addr).block < w.heap.size from hq)] at c1
      rw [← hb.cell (show (⟨q', i * 2, none⟩ : Addr).block < w.heap.size from hq')] at c0'
      rw [← hb.cell (show (⟨q', i * 2 + 1, none⟩ : Addr).block < w.heap.size from hq')] at c1'
      have hni : ((i : Int)).toNat = i := by omega
      have ti : (i : Int) < (rs.length : Int) := by omega
      generalize rs[i].1 = x at *
      generalize rs[i].2 = y at *
      have HB := Lib.hid hb
      clear hb
      go_wp2_with fail
      go_quiet (fail)
      go_wp2_with fail
      refine ⟨⟨i + 1, by omega, by simp, below_drewN HB.out _⟩, by simp [intOf]; omega⟩
    · have ti : decide ((i : Int) < (rs.length : Int)) = false := decide_eq_false (by omega)
      go_wp2_with fail
      go_ret
      exact ⟨rfl, hb⟩
set_option maxRecDepth 100000 in
set_option maxHeartbeats 4000000 in
theorem same_any (b b' : Nat) (v v' : Value) (rs : List Rg) (hl : rs.length ≤ 500) (w : World) (h : RowR b w v rs) (h' : RowR b' w v' rs) :
    Calls Try.prog 23 #[v, v'] w fun e w' => e = .returned (.bool true) ∧ Below w.heap.size w w' := by
  obtain ⟨p, c, rfl⟩ := h.slice
  obtain ⟨p', c', rfl⟩ := h'.slice
  have hx := equal_any b b' _ _ rs hl w h h'
  clear h h'
  go_enter Try.func23, Try.ntmps23
  go_wp2_with fail
  refine hx.mono ?_; rintro e w1 ⟨rfl, k1⟩
  go_wp2_with fail
  go_ret
  exact ⟨rfl, k1⟩

end Go.Proofs.Ytkcpnehhcpmdgaa
