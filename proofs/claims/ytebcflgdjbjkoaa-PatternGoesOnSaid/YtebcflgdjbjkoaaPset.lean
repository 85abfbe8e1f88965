/- Sets of 256 bits in four words: add, has, join, turn; no condition beyond those that stand there. -/
import Derived.WalkKit
import Derived.Laws.BitsLemmas
import Derived.Deep.RegionHeld3
import Derived.Deep.RegionLaw
import Derived.Deep.Cut
import Derived.Lib.Hide
import Derived.Test.YtebcflgdjbjkoaaBelow
import Derived.Laws.AppendOwn
import Derived.Test.YtebcflgdjbjkoaaBitw
namespace Go.Proofs.Ytebcflgdjbjkoaa
open Go.RowKit

/-- A set of numbers below 256: four words. -/
abbrev Set4 := List Nat
/-- A word. -/
def wd (s : Set4) (j : Nat) : Nat := s.getD j 0
def mem (s : Set4) (i : Nat) : Bool := (wd s (i / 64)).testBit (i % 64)
def Words (s : Set4) : Prop := s.length = 4 ∧ ∀ x ∈ s, x < 18446744073709551616
/-- The words lie from offset o of block b on. -/
def SetAt (b o : Nat) (s : Set4) (w : World) : Prop := ∀ j, j < 4 → w.cell? ⟨b, o + j, none⟩ = some (.int .u64 (wd s j : Nat))

theorem has_bit (x k : Nat) : (bits .and .u64 ((x : Int) / 2 ^ k) 1 == 1) = x.testBit k := by
  have h : bits .and .u64 ((x : Int) / 2 ^ k) 1 = ((x : Int) / 2 ^ k) % 2 ^ 1 := u64_mask ((x : Int) / 2 ^ k) 1 (by decide)
  have e : (2 : Int) ^ k = ((2 ^ k : Nat) : Int) := by simp
  rw [h, e, Nat.testBit_eq_decide_div_mod_eq]
  have e2 : ((x : Int) / ((2 ^ k : Nat) : Int)) % 2 ^ 1 = ((x / 2 ^ k % 2 : Nat) : Int) := by simp
  rw [e2]
  rcases Nat.mod_two_eq_zero_or_one (x / 2 ^ k) with h | h <;> rw [h] <;> rfl
theorem u64_or (a b : Nat) (ha : a < 18446744073709551616) (hb : b < 18446744073709551616) : bits .or .u64 (a : Int) (b : Int) = ((a ||| b : Nat) : Int) := by
  have h : (a ||| b) < 2 ^ 64 := Nat.or_lt_two_pow (by omega) (by omega)
  show IntKind.u64.wrap ((BitVec.ofInt 64 (a : Int) ||| BitVec.ofInt 64 (b : Int)).toNat : Nat) = _
  rw [BitVec.toNat_or, BitVec.ofInt_natCast, BitVec.ofInt_natCast, BitVec.toNat_ofNat, BitVec.toNat_ofNat, Nat.mod_eq_of_lt (by omega), Nat.mod_eq_of_lt (by omega)]
  simp [IntKind.wrap, IntKind.bits, IntKind.signed]
  omega
theorem u64_and (a b : Nat) (ha : a < 18446744073709551616) (hb : b < 18446744073709551616) : bits .and .u64 (a : Int) (b : Int) = ((a &&& b : Nat) : Int) := by
  have h : (a &&& b) < 2 ^ 64 := Nat.and_lt_two_pow _ (by omega)
  show IntKind.u64.wrap ((BitVec.ofInt 64 (a : Int) &&& BitVec.ofInt 64 (b : Int)).toNat : Nat) = _
  rw [BitVec.toNat_and, BitVec.ofInt_natCast, BitVec.ofInt_natCast, BitVec.toNat_ofNat, BitVec.toNat_ofNat, Nat.mod_eq_of_lt (by omega), Nat.mod_eq_of_lt (by omega)]
  simp [IntKind.wrap, IntKind.bits, IntKind.signed]
  omega
set_option maxRecDepth 100000 in
set_option maxHeartbeats 1000000 in
theorem set_has (b o : Nat) (s : Set4) (i : Nat) (hi : i ≤ 255) (w : World) (h : SetAt b o s w) :
    Calls Try.prog 50 #[.pointer (some ⟨b, o, none⟩), .int .i64 i] w fun e w' => e = .returned (.bool (mem s i)) ∧ w' = w := by
  have hc := h (i / 64) (by omega)
  have w1 : IntKind.i64.wrap ((i : Int) / 64) = ((i / 64 : Nat) : Int) := by rw [IntWalk.i64_in _ ⟨by omega, by omega⟩]; omega
  have w0 : Int.tmod (i : Int) 64 = ((i % 64 : Nat) : Int) := by rw [Int.tmod_eq_emod_of_nonneg (by omega)]; omega
  have w2 : ((i / 64 : Nat) : Int) < 4 := by omega
  go_enter Try.func50, Try.ntmps50
  go_wp2_with fail
  go_ret
  exact ⟨by rw [has_bit]; rfl, rfl⟩
set_option maxRecDepth 100000 in
set_option maxHeartbeats 1000000 in
theorem class_has (b o : Nat) (s : Set4) (i : Nat) (hi : i ≤ 255) (w : World) (h : SetAt b o s w) :
    Calls Try.prog 49 #[.pointer (some ⟨b, o, none⟩), .int .u8 i] w fun e w' => e = .returned (.bool (mem s i)) ∧ w' = w := by
  have hc := h (i / 64) (by omega)
  have w1 : IntKind.u8.wrap ((i : Int) / 64) = ((i / 64 : Nat) : Int) := by unfold IntKind.wrap; simp [IntKind.bits, IntKind.signed]; omega
  have w0 : Int.tmod (i : Int) 64 = ((i % 64 : Nat) : Int) := by rw [Int.tmod_eq_emod_of_nonneg (by omega)]; omega
  have w2 : ((i / 64 : Nat) : Int) < 4 := by omega
  go_enter Try.func49, Try.ntmps49
  go_wp2_with fail
  go_ret
  exact ⟨by rw [has_bit]; rfl, rfl⟩
/-- A number more. -/
def sadd (s : Set4) (i : Nat) : Set4 := s.set (i / 64) (wd s (i / 64) ||| 2 ^ (i % 64))
theorem word_lt {s : Set4} (hs : Words s) (j : Nat) : wd s j < 18446744073709551616 := by
  rcases Nat.lt_or_ge j s.length with h | h
  · have e : wd s j = s[j] := by simp [wd, List.getD, h]
    rw [e]
    exact hs.2 _ (List.getElem_mem h)
  · have e : wd s j = 0 := by simp [wd, List.getD, h]
    rw [e]
    decide
theorem wrap_pow (k : Nat) (hk : k < 64) : IntKind.u64.wrap ((2 : Int) ^ k) = ((2 ^ k : Nat) : Int) := by
  have h : 2 ^ k < 2 ^ 64 := Nat.pow_lt_pow_right (by decide) hk
  have e : (2 : Int) ^ k = ((2 ^ k : Nat) : Int) := by simp
  rw [e]
  generalize 2 ^ k = x at *
  simp [IntKind.wrap, IntKind.bits, IntKind.signed]
  omega
theorem sadd_word {s : Set4} (hs : Words s) (i : Nat) (hi : i ≤ 255) : bits .or .u64 ((wd s (i / 64) : Nat) : Int) (IntKind.u64.wrap ((2 : Int) ^ (i % 64))) = ((wd (sadd s i) (i / 64) : Nat) : Int) := by
  have hl := hs.1
  have h2 : 2 ^ (i % 64) < 2 ^ 64 := Nat.pow_lt_pow_right (by decide) (Nat.mod_lt _ (by decide))
  rw [wrap_pow _ (Nat.mod_lt _ (by decide)), u64_or _ _ (word_lt hs _) (by omega)]
  have e : wd (sadd s i) (i / 64) = wd s (i / 64) ||| 2 ^ (i % 64) := by
    unfold sadd
    have : i / 64 < s.length := by omega
    simp [wd, List.getD, this]
  rw [e]
theorem sadd_words {s : Set4} (hs : Words s) (i : Nat) : Words (sadd s i) := by
  refine ⟨by simp [sadd, hs.1], fun x hx => ?_⟩
  rcases List.mem_or_eq_of_mem_set hx with h | rfl
  · exact hs.2 _ h
  · have h2 : 2 ^ (i % 64) < 2 ^ 64 := Nat.pow_lt_pow_right (by decide) (Nat.mod_lt _ (by decide))
    have := word_lt hs (i / 64)
    have h3 : wd s (i / 64) ||| 2 ^ (i % 64) < 2 ^ 64 := Nat.or_lt_two_pow (by omega) h2
    omega
theorem sadd_mem {s : Set4} (hs : Words s) (i : Nat) (hi : i ≤ 255) (j : Nat) : mem (sadd s i) j = (j == i || mem s j) := by
  have hl := hs.1
  unfold mem sadd
  by_cases h : j / 64 = i / 64
  · have h1 : i / 64 < s.length := by omega
    have e : wd (s.set (i / 64) (wd s (i / 64) ||| 2 ^ (i % 64))) (j / 64) = wd s (i / 64) ||| 2 ^ (i % 64) := by rw [h]; simp [wd, List.getD, h1]
    rw [e, Nat.testBit_or, Nat.testBit_two_pow, h, Bool.or_comm]
    congr 1
    by_cases h2 : j = i
    · subst h2; simp
    · have : i % 64 ≠ j % 64 := by omega
      simp [h2, this]
  · have e : wd (s.set (i / 64) (wd s (i / 64) ||| 2 ^ (i % 64))) (j / 64) = wd s (j / 64) := by
      simp only [wd, List.getD]
      rw [List.getElem?_set_ne (by omega)]
    rw [e]
    have : j ≠ i := by rintro rfl; exact h rfl
    simp [this]
set_option maxRecDepth 100000 in
set_option maxHeartbeats 1000000 in
theorem set_add (b o : Nat) (s : Set4) (i : Nat) (hi : i ≤ 255) (w : World) (hs : Words s) (h : SetAt b o s w) (hf : ∀ j, w.frozen? ⟨b, j, none⟩ = false) :
    Calls Try.prog 41 #[.pointer (some ⟨b, o, none⟩), .int .i64 i] w fun e w' => e = .returned (.tuple #[]) ∧ w' = (w.setCell ⟨b, o + i / 64, none⟩ (.int .u64 (wd (sadd s i) (i / 64) : Nat))).drew := by
  have hc := h (i / 64) (by omega)
  have w1 : IntKind.i64.wrap ((i : Int) / 64) = ((i / 64 : Nat) : Int) := by rw [IntWalk.i64_in _ ⟨by omega, by omega⟩]; omega
  have w0 : Int.tmod (i : Int) 64 = ((i % 64 : Nat) : Int) := by rw [Int.tmod_eq_emod_of_nonneg (by omega)]; omega
  have w2 : ((i / 64 : Nat) : Int) < 4 := by omega
  have hfr := hf (o + i / 64)
  have w3 : (i : Int) / 64 < 4 := by omega
  have w4 : (0 : Int) ≤ (i : Int) / 64 := by omega
  have w5 : ((i : Int) / 64).toNat = i / 64 := by omega
  have w6 : (i : Int) % 64 < 64 := by omega
  have w7 : (0 : Int) ≤ (i : Int) % 64 := by omega
  have w8 : ((i : Int) % 64).toNat = i % 64 := by omega
  have hw := sadd_word hs i hi
  go_enter Try.func41, Try.ntmps41
  go_upto_region 0 with fail
  go_region_law (fail)
  all_goals
    go_returns
    refine ⟨rfl, ?_⟩
    rw [← hw]
set_option maxRecDepth 100000 in
set_option maxHeartbeats 1000000 in
theorem class_add (b o : Nat) (s : Set4) (i : Nat) (hi : i ≤ 255) (w : World) (hs : Words s) (h : SetAt b o s w) (hf : ∀ j, w.frozen? ⟨b, j, none⟩ = false) :
    Calls Try.prog 60 #[.pointer (some ⟨b, o, none⟩), .int .u8 i] w fun e w' => e = .returned (.tuple #[]) ∧ w' = (w.setCell ⟨b, o + i / 64, none⟩ (.int .u64 (wd (sadd s i) (i / 64) : Nat))).drew := by
  have hc := h (i / 64) (by omega)
  have w1 : IntKind.u8.wrap ((i : Int) / 64) = ((i / 64 : Nat) : Int) := by unfold IntKind.wrap; simp [IntKind.bits, IntKind.signed]; omega
  have w0 : Int.tmod (i : Int) 64 = ((i % 64 : Nat) : Int) := by rw [Int.tmod_eq_emod_of_nonneg (by omega)]; omega
  have w2 : ((i / 64 : Nat) : Int) < 4 := by omega
  have hfr := hf (o + i / 64)
  have w3 : (i : Int) / 64 < 4 := by omega
  have w4 : (0 : Int) ≤ (i : Int) / 64 := by omega
  have w5 : ((i : Int) / 64).toNat = i / 64 := by omega
  have w6 : (i : Int) % 64 < 64 := by omega
  have w7 : (0 : Int) ≤ (i : Int) % 64 := by omega
  have w8 : ((i : Int) % 64).toNat = i % 64 := by omega
  have hw := sadd_word hs i hi
  go_enter Try.func60, Try.ntmps60
  go_upto_region 0 with fail
  go_region_law (fail)
  all_goals
    go_returns
    refine ⟨rfl, ?_⟩
    rw [← hw]

/-- Union. -/
def sjoin (s t : Set4) : Set4 := List.zipWith (· ||| ·) s t
/-- The world behind the first i words. -/
def joinW (w : World) (b o : Nat) (r : Set4) : Nat → World
  | 0 => w
  | i + 1 => ((joinW w b o r i).setCell ⟨b, o + i, none⟩ (.int .u64 (wd r i : Nat))).drew
theorem joinW_cell (w : World) (b o : Nat) (r : Set4) (x : Addr) (h : ∀ j, j < 4 → x ≠ ⟨b, o + j, none⟩) : ∀ i, i ≤ 4 → (joinW w b o r i).cell? x = w.cell? x
  | 0, _ => rfl
  | i + 1, hi => by
    show ((joinW w b o r i).setCell ⟨b, o + i, none⟩ (.int .u64 (wd r i : Nat))).cell? x = _
    rw [World.cell?_setCell_other _ _ _ _ (fun e => h i (by omega) e.symm)]
    exact joinW_cell w b o r x h i (by omega)
theorem joinW_frozen (w : World) (b o : Nat) (r : Set4) (x : Addr) : ∀ i, (joinW w b o r i).frozen? x = w.frozen? x
  | 0 => rfl
  | i + 1 => by
    show ((joinW w b o r i).setCell ⟨b, o + i, none⟩ (.int .u64 (wd r i : Nat))).frozen? x = _
    rw [World.frozen?_setCell]
    exact joinW_frozen w b o r x i
theorem joinW_old (w : World) (b o : Nat) (r : Set4) : ∀ i j, i ≤ j → j < 4 → (joinW w b o r i).cell? ⟨b, o + j, none⟩ = w.cell? ⟨b, o + j, none⟩
  | 0, _, _, _ => rfl
  | i + 1, j, h, hj => by
    show ((joinW w b o r i).setCell ⟨b, o + i, none⟩ (.int .u64 (wd r i : Nat))).cell? _ = _
    rw [World.cell?_setCell_other _ _ _ _ (by intro e; injection e with _ e2; omega)]
    exact joinW_old w b o r i j (by omega) hj

theorem joinW_new (w : World) (b o : Nat) (r : Set4) (h : ∀ j, j < 4 → (w.cell? ⟨b, o + j, none⟩).isSome = true) : ∀ i j, j < i → i ≤ 4 → (joinW w b o r i).cell? ⟨b, o + j, none⟩ = some (.int .u64 (wd r j : Nat))
  | 0, _, hj, _ => absurd hj (Nat.not_lt_zero _)
  | i + 1, j, hj, hi => by
    show ((joinW w b o r i).setCell ⟨b, o + i, none⟩ (.int .u64 (wd r i : Nat))).cell? _ = _
    by_cases e : j = i
    · subst e
      obtain ⟨u, hu⟩ := Option.isSome_iff_exists.1 (h j (by omega))
      exact World.cell?_setCell_same _ _ _ ((joinW_old w b o r j j (Nat.le_refl _) (by omega)).trans hu)
    · rw [World.cell?_setCell_other _ _ _ _ (by intro e; injection e with _ e2; omega)]
      exact joinW_new w b o r h i j (by omega) (by omega)
theorem joinW_size (w : World) (b o : Nat) (r : Set4) : ∀ i, (joinW w b o r i).heap.size = w.heap.size
  | 0 => rfl
  | i + 1 => by
    show ((joinW w b o r i).setCell ⟨b, o + i, none⟩ (.int .u64 (wd r i : Nat))).heap.size = _
    rw [← joinW_size w b o r i]
    simp
theorem joinW_block (w : World) (b o : Nat) (r : Set4) (k : Nat) (hk : k ≠ b) : ∀ i, (joinW w b o r i).heap[k]? = w.heap[k]?
  | 0 => rfl
  | i + 1 => by
    show ((joinW w b o r i).setCell ⟨b, o + i, none⟩ (.int .u64 (wd r i : Nat))).heap[k]? = _
    rw [Below.heap_setCell _ _ _ _ hk]
    exact joinW_block w b o r k hk i
theorem joinW_below (w : World) (b o : Nat) (r : Set4) (n : Nat) (hn : n ≤ b) : ∀ i, Below n w (joinW w b o r i)
  | 0 => Below.refl _ _
  | i + 1 => by
    have h := (joinW_below w b o r n hn i).setCell (p := ⟨b, o + i, none⟩) hn (.int .u64 (wd r i : Nat))
    exact ⟨h.os, h.tape, h.output, h.size, h.block⟩
/-- A row stays where its block stays. -/
theorem row_keepP {base : Nat} {e : TypeId} {size : Nat} {v : Value} {n : Nat} {xs : List Value} {w w' : World} (h : w.ownsRow base e size v n xs) (hk : ∀ g, v.ownBlock = some g → w'.heap[g]? = w.heap[g]?) : w'.ownsRow base e size v n xs := by
  refine ⟨h.1, ?_⟩
  rcases h.2 with h2 | ⟨g, cap, cur, hv, hg, hh, r⟩
  · exact Or.inl h2
  · exact Or.inr ⟨g, cap, cur, hv, hg, by rw [hk g (by rw [hv]; rfl)]; exact hh, r⟩
theorem joinW_row {w : World} {b : Nat} {base : Nat} {e : TypeId} {size n : Nat} {v : Value} {xs : List Value} (o : Nat) (r : Set4) (h : w.ownsRow base e size v n xs) (hv : v.ownBlock = some b) :
    ∀ i, (joinW w b o r i).ownsRow base e size v n ((List.range i).foldl (fun ys j => ys.set (o + j) (.int .u64 (wd r j : Nat))) xs)
  | 0 => h
  | i + 1 => by
    have h1 := joinW_row o r h hv i
    rw [List.range_succ, List.foldl_append]
    obtain ⟨g, cap, rfl⟩ : ∃ g cap, v = .slice (some ⟨g, 0, none⟩) n cap := by
      rcases h.2 with ⟨hq, _⟩ | ⟨g, cap, cur, hq, _⟩
      · rw [hq] at hv; cases hv
      · exact ⟨g, cap, hq⟩
    obtain rfl : g = b := by injection hv
    have h2 := (World.ownsRow.stored h1 (o + i) (.int .u64 (wd r i : Nat))).1
    exact row_keepP h2 fun g hg => rfl
def setC (t : Set4) : Array Value := #[.int .u64 (wd t 0 : Nat), .int .u64 (wd t 1 : Nat), .int .u64 (wd t 2 : Nat), .int .u64 (wd t 3 : Nat)]
theorem setAt_of {w : World} {b : Nat} {t : Set4} {T : TypeId} {m : Nat × Nat} (h : w.heap[b]? = some (.cells (setC t) T m)) : SetAt b 0 t w := by
  intro j hj
  rw [Lib.cell_of_heap h]
  rcases (show j = 0 ∨ j = 1 ∨ j = 2 ∨ j = 3 by omega) with rfl | rfl | rfl | rfl <;> rfl
theorem sjoin_word {s t : Set4} (hs : Words s) (ht : Words t) (i : Nat) (hi : i < 4) : bits .or .u64 ((wd s i : Nat) : Int) ((wd t i : Nat) : Int) = ((wd (sjoin s t) i : Nat) : Int) := by
  rw [u64_or _ _ (word_lt hs _) (word_lt ht _)]
  have h1 := hs.1
  have h2 := ht.1
  have e : wd (sjoin s t) i = wd s i ||| wd t i := by
    unfold sjoin
    simp [wd, List.getD, List.getElem?_zipWith, show i < s.length by omega, show i < t.length by omega]
  rw [e]
set_option maxRecDepth 100000 in
set_option maxHeartbeats 2000000 in
theorem set_join (b o : Nat) (s t : Set4) (w : World) (hs : Words s) (ht : Words t) (hbl : b < w.heap.size) (h : SetAt b o s w) (hf : ∀ j, w.frozen? ⟨b, j, none⟩ = false) :
    Calls Try.prog 51 #[.pointer (some ⟨b, o, none⟩), .agg (setC t)] w fun e w' => e = .returned (.tuple #[]) ∧ w' = joinW (w.alloc (.cells (setC t) 88 (0, 0))) b o (sjoin s t) 4 := by
  have hX := setAt_of (heap_alloc_new w (.cells (setC t) 88 (0, 0)))
  have hne : w.heap.size ≠ b := by omega
  have hB : ∀ j, j < 4 → (w.alloc (.cells (setC t) 88 (0, 0))).cell? ⟨b, o + j, none⟩ = some (.int .u64 (wd s j : Nat)) := fun j hj => (World.cell?_of_block (a := ⟨b, o + j, none⟩) (heap_alloc_old w _ hbl)).trans (h j hj)
  have hF : ∀ j, (w.alloc (.cells (setC t) 88 (0, 0))).frozen? ⟨b, j, none⟩ = false := fun j => (World.frozen?_of_block (a := ⟨b, j, none⟩) (heap_alloc_old w _ hbl)).trans (hf j)
  have hW : ∀ i, i < 4 → bits .or .u64 ((wd s i : Nat) : Int) ((wd t i : Nat) : Int) = ((wd (sjoin s t) i : Nat) : Int) := fun i hi => sjoin_word hs ht i hi
  have HI := Lib.hid (And.intro hX (And.intro hB (And.intro hF hW)))
  generalize sjoin s t = r at *
  clear hX hB hF hW h hf hs ht
  unfold setC at *
  go_enter Try.func51, Try.ntmps51
  go_wp2_with fail
  generalize hWe : w.alloc (.cells #[.int .u64 (wd t 0 : Nat), .int .u64 (wd t 1 : Nat), .int .u64 (wd t 2 : Nat), .int .u64 (wd t 3 : Nat)] 88 (0, 0)) = W at *
  go_loopw [5] (fun iv wr => ∃ i : Nat, iv = .int .i64 i ∧ i ≤ 4 ∧ wr = joinW W b o r i) (fun iv _ => 4 - (intOf iv).toNat)
  case atStart => exact ⟨0, rfl, Nat.zero_le _, rfl⟩
  case round =>
    obtain ⟨i, rfl, hi, rfl⟩ := hrel
    by_cases hlt : i < 4
    · have ti : (i : Int) < 4 := by omega
      have wi : IntKind.i64.wrap ((i : Int) + 1) = (i : Int) + 1 := IntWalk.i64_in _ ⟨by omega, by omega⟩
      have hni : ((i : Int)).toNat = i := by omega
      have x1 := (joinW_old W b o r i i (Nat.le_refl _) hlt).trans (HI.out.2.1 i hlt)
      have x2 := (joinW_cell W b o r ⟨w.heap.size, 0 + i, none⟩ (fun j _ e => by injection e with e1 _; exact hne e1) i hi).trans (HI.out.1 i hlt)
      rw [Nat.zero_add] at x2
      have x3 := (joinW_frozen W b o r ⟨b, o + i, none⟩ i).trans (HI.out.2.2.1 (o + i))
      have hst : joinW W b o r (i + 1) = ((joinW W b o r i).setCell ⟨b, o + i, none⟩ (.int .u64 (wd r i : Nat))).drew := rfl
      have hw := HI.out.2.2.2 i hlt
      have HS := Lib.hid hst
      clear hst
      generalize joinW W b o r i = wr at *
      generalize wd s i = si at *
      generalize wd t i = ti' at *
      generalize wd r i = ri at *
      go_upto_region 4 with fail
      go_region_law (fail)
      all_goals
        go_wp2_with fail
        exact ⟨⟨i + 1, by simp, by omega, HS.out.symm⟩, by simp [intOf]; omega⟩
    · obtain rfl : i = 4 := by omega
      go_wp2_with fail
      go_returns
      exact ⟨rfl, by rw [← hWe]⟩

end Go.Proofs.Ytebcflgdjbjkoaa
