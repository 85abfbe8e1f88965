/- The contract of bits.add: a bit more, through a pointer. -/
import Derived.Test.YtpoolbachhelgaaDoorBits
import Derived.StillTailTactics
import Derived.OwnWalk
import Derived.Lib.Builder
namespace Go.Proofs.YtpoolbachhelgaaDoor
open Go.RowKit

theorem info_byte : (Tryd.prog.info? 5).map (fun i => (i.zero, i.size, i.bytes)) = some (some (.int .u8 0), 1, 1) := by kernel_rfl

/-- A string of bits of the call's own, behind a pointer. -/
def BitsAt (B g : Nat) (bs : List Nat) (w : World) : Prop :=
  B ≤ g ∧ ∃ sv, w.heap[g]? = some (.cells #[sv, .int .i64 bs.length] 34 (0, 0)) ∧ w.ownsRow B 5 1 sv (pack bs).length ((intsOf (pack bs)).map (Value.int .u8))
/-- Blocks of another type than bytes, and not this one, are as they were. -/
def KeepT (g : Nat) (w w' : World) : Prop := ∀ (q : Nat) cs T m, w.heap[q]? = some (Obj.cells cs T m) → T ≠ 5 → q ≠ g → w'.heap[q]? = some (Obj.cells cs T m)
/-- Blocks of another type than bytes or with a mark, and not this one, are as they were. -/
def KeepM (g : Nat) (w w' : World) : Prop := ∀ (q : Nat) cs T m, w.heap[q]? = some (Obj.cells cs T m) → (T ≠ 5 ∨ m ≠ (0, 0)) → q ≠ g → w'.heap[q]? = some (Obj.cells cs T m)
theorem KeepM.t {g : Nat} {w w' : World} (h : KeepM g w w') : KeepT g w w' := fun q cs T m a b c => h q cs T m a (Or.inl b) c

/-- What is laid into the last byte. -/
theorem word_facts (p x k : Nat) (hx : x ≤ 1) (hk : k ≤ 7) (hp : p < 256) (hlow : p % 2 ^ (k + 1) = 0) :
    IntKind.i64.wrap ((x : Int) * 2 ^ k) = ((x * 2 ^ k : Nat) : Int) ∧ IntKind.u8.wrap ((x * 2 ^ k : Nat) : Int) = ((x * 2 ^ k : Nat) : Int) ∧ Go.bits .or .u8 (p : Int) ((x * 2 ^ k : Nat) : Int) = ((p + x * 2 ^ k : Nat) : Int) := by
  have hx' : x = 0 ∨ x = 1 := by omega
  have hk' : k = 0 ∨ k = 1 ∨ k = 2 ∨ k = 3 ∨ k = 4 ∨ k = 5 ∨ k = 6 ∨ k = 7 := by omega
  have key : ∀ k, k ≤ 7 → ∀ y : Nat, y < 2 ^ (k + 1) → y < 256 → p % 2 ^ (k + 1) = 0 → Go.bits .or .u8 (p : Int) (y : Int) = ((p + y : Nat) : Int) := by
    intro k _ y h1 h2 h3
    have e1 : (p : Int) % 2 ^ (k + 1) = 0 := by
      have h4 : ((p % 2 ^ (k + 1) : Nat) : Int) = 0 := by rw [h3]; rfl
      simpa using h4
    have e2 : (y : Int) < 2 ^ (k + 1) := by
      have h4 := Int.ofNat_lt.mpr h1
      simpa using h4
    have h := bits_join .u8 8 (by decide) wraps_u8 (k + 1) (p : Int) (y : Int) (by omega) e1 (by omega) (by omega) e2 (by omega)
    rw [h]; omega
  rcases hx' with rfl | rfl
  · refine ⟨by simp; decide, by simp; decide, ?_⟩
    rw [Nat.zero_mul]
    exact key k hk 0 (Nat.two_pow_pos _) (by omega) hlow
  · refine ⟨?_, ?_, key k hk _ (by rw [Nat.one_mul, Nat.pow_succ]; have := Nat.two_pow_pos k; omega) ?_ hlow⟩
    · rcases hk' with rfl | rfl | rfl | rfl | rfl | rfl | rfl | rfl <;> decide
    · rcases hk' with rfl | rfl | rfl | rfl | rfl | rfl | rfl | rfl <;> decide
    · rcases hk' with rfl | rfl | rfl | rfl | rfl | rfl | rfl | rfl <;> decide
theorem pbyte_low {bs : List Nat} (h : Bin bs) : pbyte bs (bs.length / 8) % 2 ^ (7 - bs.length % 8 + 1) = 0 := by
  by_cases hm : bs.length % 8 = 0
  · rw [pbyte_zero bs hm, Nat.zero_mod]
  · have ht := pbyte_tail h (by omega)
    have hlt := pbyte_lt h (bs.length / 8)
    generalize pbyte bs (bs.length / 8) = p at *
    have hc : bs.length % 8 = 1 ∨ bs.length % 8 = 2 ∨ bs.length % 8 = 3 ∨ bs.length % 8 = 4 ∨ bs.length % 8 = 5 ∨ bs.length % 8 = 6 ∨ bs.length % 8 = 7 := by omega
    rcases hc with e | e | e | e | e | e | e <;> (rw [e] at ht ⊢; simp only [Nat.reduceSub, Nat.reduceAdd, Nat.reducePow] at *; omega)

theorem heap_set1 {w : World} {g : Nat} {sv u v : Value} {T : Nat} (h : w.heap[g]? = some (.cells #[sv, u] T (0, 0))) : (w.setCell ⟨g, 1, none⟩ v).heap[g]? = some (.cells #[sv, v] T (0, 0)) := by
  simp [World.setCell, Array.getElem?_modify, h]
theorem heap_set0 {w : World} {g : Nat} {sv u v : Value} {T : Nat} (h : w.heap[g]? = some (.cells #[sv, u] T (0, 0))) : (w.setCell ⟨g, 0, none⟩ v).heap[g]? = some (.cells #[v, u] T (0, 0)) := by
  simp [World.setCell, Array.getElem?_modify, h]

/-- Behind the store of the last byte and of the length: the string with a bit more. -/
theorem add_end {B g q cap P x pb : Nat} {bs xs : List Nat} {w : World} (hBg : B ≤ g) (hBq : B ≤ q) (hne : q ≠ g)
    (hbk : w.heap[g]? = some (.cells #[.slice (some ⟨q, 0, none⟩) P cap, .int .i64 bs.length] 34 (0, 0)))
    (hown : w.ownsRow B 5 1 (.slice (some ⟨q, 0, none⟩) P cap) P ((intsOf xs).map (Value.int .u8)))
    (hxs : pack (bs ++ [x]) = xs.set (bs.length / 8) pb) (hP : xs.length = P) (z : Int) (hz : z = (pb : Int)) :
    BitsAt B g (bs ++ [x]) ((w.setCell ⟨q, bs.length / 8, none⟩ (.int .u8 z)).setCell ⟨g, 1, none⟩ (.int .i64 ((bs.length : Int) + 1))) ∧
    Below B w ((w.setCell ⟨q, bs.length / 8, none⟩ (.int .u8 z)).setCell ⟨g, 1, none⟩ (.int .i64 ((bs.length : Int) + 1))) ∧
    (∀ k, k ≠ q → k ≠ g → ((w.setCell ⟨q, bs.length / 8, none⟩ (.int .u8 z)).setCell ⟨g, 1, none⟩ (.int .i64 ((bs.length : Int) + 1))).heap[k]? = w.heap[k]?) := by
  subst hz
  refine ⟨⟨hBg, .slice (some ⟨q, 0, none⟩) P cap, ?_, ?_⟩, ((Below.refl _ _).setCell hBq _).setCell hBg _, fun k h1 h2 => ?_⟩
  · have h1 : (w.setCell ⟨q, bs.length / 8, none⟩ (.int .u8 pb)).heap[g]? = some (.cells #[.slice (some ⟨q, 0, none⟩) P cap, .int .i64 bs.length] 34 (0, 0)) := by
      rw [Below.heap_setCell _ _ _ _ (fun e => hne e.symm)]; exact hbk
    have h2 := heap_set1 (v := .int .i64 ((bs.length : Int) + 1)) h1
    rw [h2, List.length_append]
    rfl
  · have h1 := (hown.stored (bs.length / 8) (.int .u8 pb)).1
    have h2 := ownsRow_setCell_other h1 (a := ⟨g, 1, none⟩) (by simp [Value.ownBlock, hne]) (.int .i64 ((bs.length : Int) + 1))
    have e1 : (pack (bs ++ [x])).length = P := by rw [hxs, List.length_set, hP]
    have e2 : (intsOf (pack (bs ++ [x]))).map (Value.int .u8) = ((intsOf xs).map (Value.int .u8)).set (bs.length / 8) (.int .u8 pb) := by
      rw [hxs]
      simp [intsOf, List.map_set]
    rw [e1, e2]
    exact h2
  · rw [Below.heap_setCell _ _ _ _ h2, Below.heap_setCell _ _ _ _ h1]

set_option maxRecDepth 100000 in
set_option maxHeartbeats 1000000 in
theorem add_more (B g : Nat) (bs : List Nat) (x : Nat) (hx : x ≤ 1) (hbin : Bin bs) (hlen : bs.length < 64000) (w : World) (h : BitsAt B g bs w) :
    Calls Tryd.prog 40 #[.pointer (some ⟨g, 0, none⟩), .int .i64 x] w fun e w' => e = .returned (.tuple #[]) ∧ BitsAt B g (bs ++ [x]) w' ∧ Below B w w' ∧ KeepM g w w' := by
  obtain ⟨i0, hi, hz0, hz1, hz2⟩ := info_parts info_byte
  obtain ⟨hB, sv, hbk, hown⟩ := h
  have hlt := lt_of_block hbk
  have c0 : w.cell? ⟨g, 0, none⟩ = some sv := by rw [Lib.cell_of_heap hbk]; rfl
  have c1 : w.cell? ⟨g, 1, none⟩ = some (.int .i64 bs.length) := by rw [Lib.cell_of_heap hbk]; rfl
  have f0 : w.frozen? ⟨g, 0, none⟩ = false := Lib.frozen_of_heap hbk 0
  have f1 : w.frozen? ⟨g, 1, none⟩ = false := Lib.frozen_of_heap hbk 1
  have hpl := pack_length bs
  by_cases hm : bs.length % 8 = 0
  · have t1 : ((bs.length : Int) % 8 == 0) = true := beq_iff_eq.2 (by omega)
    have hxs := pack_snoc_new bs x hm
    have hw := word_facts (pbyte bs (bs.length / 8)) x (7 - bs.length % 8) hx (by omega) (pbyte_lt hbin _) (pbyte_low hbin)
    rw [pbyte_zero bs hm] at hxs hw
    obtain ⟨w3, w4, o1⟩ := hw
    have w1 : IntKind.i64.wrap ((bs.length : Int) / 8) = (bs.length : Int) / 8 := IntWalk.i64_in _ ⟨by omega, by omega⟩
    have w2 : IntKind.i64.wrap (7 - (bs.length : Int) % 8) = 7 - (bs.length : Int) % 8 := IntWalk.i64_in _ ⟨by omega, by omega⟩
    have w0 : Int.tmod (bs.length : Int) 8 = (bs.length : Int) % 8 := Int.tmod_eq_emod_of_nonneg (by omega)
    have w5 : (7 - (bs.length : Int) % 8).toNat = 7 - bs.length % 8 := by omega
    have w6 : 0 ≤ 7 - (bs.length : Int) % 8 := by omega
    have w7 : 7 - (bs.length : Int) % 8 ≤ 64 := by omega
    have w8 : ((bs.length : Int) / 8).toNat = bs.length / 8 := by omega
    have w9 : 0 ≤ (bs.length : Int) / 8 := by omega
    have t2 : (bs.length : Int) ≤ 64000 := by omega
    have hix : bs.length / 8 < (pack bs).length + 1 := by omega
    have hPle : (pack bs).length + 1 ≤ 64000 := by omega
    have hown0 : some g ≠ sv.ownBlock := by
      intro e
      rcases hown.2 with ⟨rfl, h0⟩ | ⟨q, cap, cur, rfl, hBq, hq, _⟩
      · simp [Value.ownBlock] at e
      · simp [Value.ownBlock] at e
        subst e
        rw [hq] at hbk
        simp only [Option.some.injEq, Obj.cells.injEq] at hbk
        exact absurd hbk.2.1 (by decide)
    generalize x * 2 ^ (7 - bs.length % 8) = y at *
    have HH := Lib.hid hbk
    have hl8 := Lib.hid (show (pack bs).length = bs.length / 8 by omega)
    clear hbk hpl hm
    go_enter Tryd.func40, Tryd.ntmps40
    go_wp2_with (at_builtin; refine wpList_append_own _ rfl _ _ 24 rfl B 5 i0 (.int .u8 0) 1 1 Tryd.underlying24 hi hz0 hz1 hz2 rfl (by decide) _ _ _ rfl (hown.alloc _) ⟨w.heap.size, 0, none⟩ 1 1 [.int .u8 0] rfl rfl ?c1 ?c2 ?c3 ?c4 ?c5 ?_)
    case c1 =>
      intro j u hj
      match j, hj with
      | 0, hj => simp at hj; subst hj; simp [Addr.add]
    case c2 => intro u hu; simp at hu; subst hu; rfl
    case c3 => unfold maxLen; omega
    case c4 => omega
    case c5 => simp; omega
    intro v' w2 hown' hgrow _
    have hb2 : w2.heap[g]? = some (.cells #[sv, .int .i64 bs.length] 34 (0, 0)) := by
      rw [hgrow.block g (by simp; omega) hown0, Lib.alloc_old w _ g hlt]
      exact HH
    have hbel2 : Below B w w2 := ((Below.refl B w).alloc (by omega) _).grown hgrow (by simp; omega) (fun k hk => (hown.lt k hk).1)
    have hkeep2 : ∀ (k : Nat) cs T m, w.heap[k]? = some (Obj.cells cs T m) → (T ≠ 5 ∨ m ≠ (0, 0)) → w2.heap[k]? = some (Obj.cells cs T m) := by
      intro k cs T m hk hT
      have hk' : k < w.heap.size := by
        rcases Nat.lt_or_ge k w.heap.size with h' | h'
        · exact h'
        · simp [Array.getElem?_eq_none h'] at hk
      rw [hgrow.block k (by simp; omega) ?_, Lib.alloc_old w _ k hk']
      · exact hk
      · intro e
        rcases hown.2 with ⟨rfl, h0⟩ | ⟨q, cap, cur, rfl, hBq, hq, _⟩
        · simp [Value.ownBlock] at e
        · simp [Value.ownBlock] at e
          subst e
          rw [hq] at hk
          simp only [Option.some.injEq, Obj.cells.injEq] at hk
          exact hT.elim (fun h => h hk.2.1.symm) (fun h => h hk.2.2.symm)
    clear hown0 hgrow HH c0 c1 f0 f1
    rcases hown'.2 with ⟨_, h0⟩ | ⟨q, cap, cur, rfl, hBq, hq, hcap, hmax, hsz, htake⟩
    · omega
    have hne1 : g ≠ q := by
      rintro rfl
      rw [hq] at hb2
      simp only [Option.some.injEq, Obj.cells.injEq] at hb2
      exact absurd hb2.2.1 (by decide)
    have hne2 : q ≠ g := fun e => hne1 e.symm
    generalize hw3 : w2.setCell ⟨g, 0, none⟩ (.slice (some ⟨q, 0, none⟩) ((pack bs).length + 1) cap) = w3
    have c0 : w2.cell? ⟨g, 0, none⟩ = some sv := by rw [Lib.cell_of_heap hb2]; rfl
    have f0 : w2.frozen? ⟨g, 0, none⟩ = false := Lib.frozen_of_heap hb2 0
    have hb3 : w3.heap[g]? = some (.cells #[.slice (some ⟨q, 0, none⟩) ((pack bs).length + 1) cap, .int .i64 bs.length] 34 (0, 0)) := by rw [← hw3]; exact heap_set0 hb2
    have hown3 : w3.ownsRow B 5 1 (.slice (some ⟨q, 0, none⟩) ((pack bs).length + 1) cap) ((pack bs).length + 1) ((intsOf (pack bs ++ [0])).map (Value.int .u8)) := by
      rw [← hw3]
      have e : (intsOf (pack bs ++ [0])).map (Value.int .u8) = (intsOf (pack bs)).map (Value.int .u8) ++ [Value.int .u8 0] := by simp [intsOf]
      rw [e]
      exact ownsRow_setCell_other hown' (by simp [Value.ownBlock, hne2]) _
    have e0 : w3.cell? ⟨g, 0, none⟩ = some (.slice (some ⟨q, 0, none⟩) ((pack bs).length + 1) cap) := by rw [Lib.cell_of_heap hb3]; rfl
    have e1 : w3.cell? ⟨g, 1, none⟩ = some (.int .i64 bs.length) := by rw [Lib.cell_of_heap hb3]; rfl
    have e2 : w3.frozen? ⟨g, 1, none⟩ = false := Lib.frozen_of_heap hb3 1
    have d0 := hown3.cellAt (bs.length / 8) (by omega)
    have d1 := hown3.frozenAt (bs.length / 8)
    rw [show ((intsOf (pack bs ++ [0])).map (Value.int .u8))[bs.length / 8]? = some (.int .u8 0) from by
      have hl : bs.length / 8 = (intsOf (pack bs)).length := by rw [intsOf_length]; exact (show (pack bs).length = bs.length / 8 from hl8).symm
      simp [intsOf] at hl ⊢
      simp [hl]] at d0
    have hbel3 : Below B w w3 := by rw [← hw3]; exact hbel2.setCell (p := ⟨g, 0, none⟩) hB _
    have hkeep3 : ∀ (k : Nat) cs T m, w.heap[k]? = some (Obj.cells cs T m) → (T ≠ 5 ∨ m ≠ (0, 0)) → k ≠ g → w3.heap[k]? = some (Obj.cells cs T m) := by
      intro k cs T m hk hT hkg
      rw [← hw3, Below.heap_setCell _ _ _ _ hkg]
      exact hkeep2 k cs T m hk hT
    have hq3 : ∀ cs T m, w3.heap[q]? = some (Obj.cells cs T m) → T = 5 ∧ m = (0, 0) := by
      intro cs T m hk
      rw [← hw3, Below.heap_setCell _ _ _ _ hne2, hq] at hk
      simp only [Option.some.injEq, Obj.cells.injEq] at hk
      exact ⟨hk.2.1.symm, hk.2.2.symm⟩
    have HH := Lib.hid (And.intro hown3 (And.intro hb3 (And.intro hbel3 (And.intro hkeep3 hq3))))
    clear hown3 hb3 hbel3 hkeep3 hq3 hbel2 hkeep2 hq hsz htake hown' hb2
    have hlen1 : (pack bs ++ [0]).length = (pack bs).length + 1 := by simp
    generalize (pack bs).length + 1 = P at *
    have hixI : (bs.length : Int) / 8 < (P : Int) := by omega
    clear hl8
    go_wp2_with fail
    go_still_tail 22, (by kernel_rfl)
    change wpList _ _ _ _ _ w3.drew
    go_wp2
    go_returns
    obtain ⟨hown, hbk, hbel3, hkeep3, hq3⟩ := HH
    have HE := add_end (x := x) (xs := pack bs ++ [0]) (pb := 0 + y) hB hBq hne2 hbk hown hxs hlen1 (Go.bits .or .u8 0 (y : Int)) o1
    refine ⟨rfl, HE.1, (hbel3.trans HE.2.1).drew, fun k cs T m hk hT hkg => ?_⟩
    have hk3 := hkeep3 k cs T m hk hT hkg
    rw [← hk3]
    refine HE.2.2 k ?_ hkg
    rintro rfl
    exact hT.elim (fun h => h (hq3 _ _ _ hk3).1) (fun h => h (hq3 _ _ _ hk3).2)
  · have t1 : ((bs.length : Int) % 8 == 0) = false := beq_eq_false_iff_ne.2 (by omega)
    rcases hown.2 with ⟨rfl, h0⟩ | ⟨q, cap, cur, rfl, hBq, hq, hcap, hmax, hsz, htake⟩
    · omega
    · have hix : bs.length / 8 < (pack bs).length := by omega
      have d0 := hown.cellAt (bs.length / 8) (by omega)
      have d1 := hown.frozenAt (bs.length / 8)
      rw [show ((intsOf (pack bs)).map (Value.int .u8))[bs.length / 8]? = some (.int .u8 (pbyte bs (bs.length / 8))) from by
        have hl : bs.length / 8 < (intsOf (pack bs)).length := by rw [intsOf_length]; exact hix
        rw [List.getElem?_map, List.getElem?_eq_getElem hl]
        have := intsOf_getD (pack bs) (bs.length / 8)
        rw [List.getD, List.getElem?_eq_getElem hl, pack_get bs _ (by omega)] at this
        simp only [Option.map_some, Option.getD_some] at this ⊢
        rw [this]] at d0
      have t2 : (bs.length : Int) ≤ 64000 := by omega
      have hixI : (bs.length : Int) / 8 < ((pack bs).length : Int) := by omega
      have hne1 : g ≠ q := by
        rintro rfl
        rw [hq] at hbk
        simp only [Option.some.injEq, Obj.cells.injEq] at hbk
        exact absurd hbk.2.1 (by decide)
      have hne2 : q ≠ g := fun e => hne1 e.symm
      have hw := word_facts (pbyte bs (bs.length / 8)) x (7 - bs.length % 8) hx (by omega) (pbyte_lt hbin _) (pbyte_low hbin)
      obtain ⟨w3, w4, o1⟩ := hw
      have hxs := pack_snoc_old bs x hm
      generalize pbyte bs (bs.length / 8) = pb at *
      have w1 : IntKind.i64.wrap ((bs.length : Int) / 8) = (bs.length : Int) / 8 := IntWalk.i64_in _ ⟨by omega, by omega⟩
      have w2 : IntKind.i64.wrap (7 - (bs.length : Int) % 8) = 7 - (bs.length : Int) % 8 := IntWalk.i64_in _ ⟨by omega, by omega⟩
      have w0 : Int.tmod (bs.length : Int) 8 = (bs.length : Int) % 8 := Int.tmod_eq_emod_of_nonneg (by omega)
      have w5 : (7 - (bs.length : Int) % 8).toNat = 7 - bs.length % 8 := by omega
      have w6 : 0 ≤ 7 - (bs.length : Int) % 8 := by omega
      have w7 : 7 - (bs.length : Int) % 8 ≤ 64 := by omega
      have w8 : ((bs.length : Int) / 8).toNat = bs.length / 8 := by omega
      have w9 : 0 ≤ (bs.length : Int) / 8 := by omega
      generalize x * 2 ^ (7 - bs.length % 8) = y at *
      generalize hP : (pack bs).length = P at *
      have HH := Lib.hid (And.intro hown (And.intro hbk (And.intro hq (And.intro hsz htake))))
      clear hown hbk hq hsz htake hpl hm
      go_enter Tryd.func40, Tryd.ntmps40
      go_wp2_with fail
      go_still_tail 22, (by kernel_rfl)
      change wpList _ _ _ _ _ w.drew
      go_wp2
      go_returns
      obtain ⟨hown, hbk, hq, hsz, htake⟩ := HH
      have HE := add_end (x := x) (xs := pack bs) (pb := pb + y) hB hBq hne2 hbk hown hxs hP ((pb : Int) + (y : Int)) (by omega)
      exact ⟨rfl, HE.1, HE.2.1.drew, fun k cs T m hk hT hkg => by rw [← hk]; refine HE.2.2 k ?_ hkg; rintro rfl; rw [hq] at hk; simp only [Option.some.injEq, Obj.cells.injEq] at hk; exact hT.elim (fun h => h hk.2.1.symm) (fun h => h hk.2.2.symm)⟩

theorem add_any (B g : Nat) (bs : List Nat) (x : Nat) (hx : x ≤ 1) (hbin : Bin bs) (hlen : bs.length < 64000) (w : World) (h : BitsAt B g bs w) :
    Calls Tryd.prog 40 #[.pointer (some ⟨g, 0, none⟩), .int .i64 x] w fun e w' => e = .returned (.tuple #[]) ∧ BitsAt B g (bs ++ [x]) w' ∧ Below B w w' ∧ KeepT g w w' :=
  (add_more B g bs x hx hbin hlen w h).mono fun _ _ ⟨a, b, c, d⟩ => ⟨a, b, c, d.t⟩

end Go.Proofs.YtpoolbachhelgaaDoor
