/- The contract of bits.Put. -/
import Derived.Test.YtpoolbachhelgaaDoorBitsCopy
import Derived.WalkSmall
import Derived.Laws.ResultCell
namespace Go.Proofs.YtpoolbachhelgaaDoor
open Go.RowKit

/-- Bit i of a field, as it is written. -/
def fbit (u width : Nat) (low : Bool) (i : Nat) : Nat := u / 2 ^ (if low then i else width - 1 - i) % 2
def field (u width : Nat) (low : Bool) : List Nat := (List.range width).map (fbit u width low)
theorem field_length (u width : Nat) (low : Bool) : (field u width low).length = width := by simp [field]
theorem field_bin (u width : Nat) (low : Bool) : Bin (field u width low) := by
  intro x hx
  obtain ⟨i, _, rfl⟩ := List.mem_map.1 hx
  have := Nat.mod_lt (u / 2 ^ (if low then i else width - 1 - i)) (show 0 < 2 by decide)
  show u / 2 ^ (if low then i else width - 1 - i) % 2 ≤ 1
  omega
theorem Bin.append {a b : List Nat} (ha : Bin a) (hb : Bin b) : Bin (a ++ b) := by
  intro x hx
  rcases List.mem_append.1 hx with h | h
  · exact ha x h
  · exact hb x h
theorem Bin.take {a : List Nat} (ha : Bin a) (k : Nat) : Bin (a.take k) := fun x hx => ha x (List.mem_of_mem_take hx)
theorem field_take (u width : Nat) (low : Bool) (i : Nat) (h : i < width) : (field u width low).take (i + 1) = (field u width low).take i ++ [fbit u width low i] := by
  have hl : i < (field u width low).length := by rw [field_length]; exact h
  rw [List.take_succ_eq_append_getElem hl]
  simp [field]

theorem KeepT.trans {g : Nat} {a b c : World} (h : KeepT g a b) (k : KeepT g b c) : KeepT g a c := fun q cs T m hq hT hg => k q cs T m (h q cs T m hq hT hg) hT hg
theorem KeepT.of_below {g B : Nat} {a b : World} (h : Below B a b) (hB : a.heap.size ≤ B) : KeepT g a b := by
  intro q cs T m hq hT hg
  rw [h.block q (by have := lt_of_block hq; omega)]
  exact hq
theorem BitsAt.out {B g : Nat} {bs : List Nat} {w : World} (h : BitsAt B g bs w) : ∃ p c, w.heap[g]? = some (.cells #[.slice p (pack bs).length c, .int .i64 bs.length] 34 (0, 0)) ∧ w.ownsRow B 5 1 (.slice p (pack bs).length c) (pack bs).length ((intsOf (pack bs)).map (Value.int .u8)) := by
  obtain ⟨hB, sv, hbk, hown⟩ := h
  rcases hown.2 with ⟨rfl, h0⟩ | ⟨q, cap, cur, rfl, _⟩
  · exact ⟨none, 0, by rw [h0]; exact hbk, by rw [h0] at hown ⊢; exact hown⟩
  · exact ⟨_, _, hbk, hown⟩
theorem alloc_at (w : World) (o : Obj) : (w.alloc o).heap[w.heap.size]? = some o := by
  show (w.heap.push o)[w.heap.size]? = some o
  simp
/-- The loop of Put: the first i bits of the field are written. -/
def PutRel (B g : Nat) (bs : List Nat) (u width : Nat) (low : Bool) (w : World) (iv : Value) (wr : World) : Prop :=
  ∃ i : Nat, i ≤ width ∧ iv = .int .i64 i ∧ BitsAt B g (bs ++ (field u width low).take i) wr ∧ Below B w wr ∧ KeepT g w wr
theorem PutRel.go {B g : Nat} {bs : List Nat} {u width : Nat} {low : Bool} {w wr w1 : World} {i : Nat} (h : i < width) (b : BitsAt B g (bs ++ (field u width low).take i ++ [fbit u width low i]) w1) (h1 : Below B w wr) (h2 : Below B wr w1) (h3 : KeepT g w wr) (h4 : KeepT g wr w1) : PutRel B g bs u width low w (.int .i64 ((i : Int) + 1)) w1 :=
  ⟨i + 1, h, rfl, by rw [field_take _ _ _ _ h, ← List.append_assoc]; exact b, h1.trans h2, h3.trans h4⟩

theorem shift_int (u k : Nat) (hu : u < 9223372036854775808) : Go.bits .and .i64 ((u : Int) / 2 ^ k) 1 = ((u / 2 ^ k % 2 : Nat) : Int) := by
  have e : (u : Int) / 2 ^ k = ((u / 2 ^ k : Nat) : Int) := by simp
  rw [e]
  generalize u / 2 ^ k = q
  have hm := i64_mask (q : Int) 1 (by omega)
  rw [show (2 : Int) ^ 1 - 1 = 1 from by decide, show (2 : Int) ^ 1 = 2 from by decide] at hm
  rw [hm]
  omega
theorem shift_word (u k : Nat) (hu : u < 9223372036854775808) : Go.bits .and .i64 (wrap64 ((u : Int) / 2 ^ k)) 1 = ((u / 2 ^ k % 2 : Nat) : Int) := by
  have e : (u : Int) / 2 ^ k = ((u / 2 ^ k : Nat) : Int) := by simp
  have hle : u / 2 ^ k ≤ u := Nat.div_le_self _ _
  rw [e]
  generalize u / 2 ^ k = q at hle
  have hm := i64_mask (q : Int) 1 (by omega)
  rw [show (2 : Int) ^ 1 - 1 = 1 from by decide, show (2 : Int) ^ 1 = 2 from by decide] at hm
  rw [IntWalk.wrap64_in _ ⟨by omega, by omega⟩, hm]
  omega

theorem results_row_tmp {P : Program} {fn : Func} {p u : Tmp} {ty : TypeId} (h : fn.results = #[.cell p ty, .tmp u]) (tmps : Array Value) (w : World) (g : Nat) (t : TypeId) (cs : Array Value) (fr : Nat × Nat) (d : TypeDesc)
    (hp : tmps.getD p undef = .pointer (some ⟨g, 0, none⟩)) (hg : w.heap[g]? = some (.cells cs t fr))
    (hu : P.underlying ty = some d) (hd : (match d with | .struct _ | .array _ _ => true | _ => false) = true) (hi : (P.info? ty).map (·.size) = some cs.size) :
    (results fn tmps).run P w = .ok (.tuple #[.agg cs, tmps.getD u undef]) w := by
  rw [results_cell_tmp h, hp]
  simp [asAddr, run_loadVar_row w g t ty cs fr d hg hu hd hi, Result.andThen]

set_option maxRecDepth 100000 in
set_option maxHeartbeats 1000000 in
theorem put_any (v : Value) (bs : List Nat) (hbin : Bin bs) (u width : Nat) (low : Bool) (h1 : 1 ≤ width) (h2 : width ≤ 63) (hu : u < 2 ^ width) (hlen : bs.length + width ≤ 64000) (w : World) (h : BitsV w v bs) :
    Calls Tryd.prog 45 #[v, .int .i64 u, .int .i64 width, .bool low] w fun e w' => ∃ p c, e = .returned (.tuple #[.agg #[.slice p (pack (bs ++ field u width low)).length c, .int .i64 (bs.length + width : Nat)], .int .i64 0]) ∧ w'.ownsRow w.heap.size 5 1 (.slice p (pack (bs ++ field u width low)).length c) (pack (bs ++ field u width low)).length ((intsOf (pack (bs ++ field u width low))).map (Value.int .u8)) ∧ Below w.heap.size w w' := by
  have HC := Lib.hid (fun w1 (hb : Below w.heap.size w w1) => check_any v bs hbin (by omega) w1 (h.below hb))
  have HY := Lib.hid (fun w1 (hb : Below w.heap.size w w1) => copied_any v bs (by omega) w1 (h.below hb))
  have HA := Lib.hid (fun (g : Nat) (cs : List Nat) (x : Nat) (hx : x ≤ 1) (hb : Bin cs) (hl : cs.length < 64000) (w1 : World) (ha : BitsAt w.heap.size g cs w1) => add_any w.heap.size g cs x hx hb hl w1 ha)
  obtain ⟨sv, rfl, h⟩ := h
  have hu63 : u < 9223372036854775808 := Nat.lt_of_lt_of_le hu (by have : (2 : Nat) ^ width ≤ 2 ^ 63 := Nat.pow_le_pow_right (by decide) h2; omega)
  have hp : ((2 ^ width : Nat) : Int) = (2 : Int) ^ width := by simp
  have d0 : (u : Int) / 2 ^ width = 0 := Int.ediv_eq_zero_of_lt (by omega) (by rw [← hp]; exact Int.ofNat_lt.mpr hu)
  clear hp
  have hsum : IntKind.i64.wrap ((bs.length : Int) + (width : Int)) = (bs.length : Int) + (width : Int) := IntWalk.i64_in _ ⟨by omega, by omega⟩
  clear h
  go_enter Tryd.func45, Tryd.ntmps45
  go_wp2_with fail
  refine (HC.out _ (by go_grown)).mono ?_; rintro e w1 ⟨rfl, b1⟩
  have bw : Below w.heap.size w w1 := (show Below w.heap.size w _ from by go_grown).trans (b1.mono (by simp; omega))
  have hs1 : w.heap.size + 2 ≤ w1.heap.size := by have := b1.size; simpa using this
  have k0 : w1.heap[w.heap.size]? = some (.cells #[sv, .int .i64 bs.length] 34 (0, 0)) := (b1.block _ (by simp; omega)).trans (one_new _ _ _)
  have k1 : w1.heap[w.heap.size + 1]? = some (.cells #[.slice none 0 0, .int .i64 0] 34 (0, 0)) := (b1.block _ (by simp)).trans (two_new _ _ _)
  have c0 : w1.cell? ⟨w.heap.size, 0, none⟩ = some sv := by rw [Lib.cell_of_heap k0]; rfl
  have c1 : w1.cell? ⟨w.heap.size, 1, none⟩ = some (.int .i64 bs.length) := by rw [Lib.cell_of_heap k0]; rfl
  have tw1 : decide ((width : Int) < 1) = false := decide_eq_false (by omega)
  have tw2 : decide (63 < (width : Int)) = false := decide_eq_false (by omega)
  have tw3 : decide ((u : Int) < 0) = false := decide_eq_false (by omega)
  have tw4 : decide (64000 < (bs.length : Int) + (width : Int)) = false := decide_eq_false (by omega)
  have HK := Lib.hid (And.intro k0 (And.intro k1 (And.intro bw hs1)))
  clear k0 k1 b1 bw hs1
  go_wp2_with fail
  refine (HY.out w1 HK.out.2.2.1).mono ?_; rintro e w2 ⟨p2, cap2, rfl, hown2, b2⟩
  go_wp2_with fail
  go_loopw [48] (fun iv wr => PutRel w.heap.size w2.heap.size bs u width low w1 iv wr) (fun iv _ => width - (intOf iv).toNat)
  case atStart =>
    have hal : Below w2.heap.size w2 (w2.alloc (.cells #[.slice p2 (pack bs).length cap2, .int .i64 bs.length] 34 (0, 0))) := by go_grown
    have hsz := b2.size
    have hK := HK.out.2.2.2
    refine ⟨0, by omega, rfl, ?_, (b2.trans (hal.mono hsz)).mono (by omega), KeepT.of_below (b2.trans (hal.mono hsz)) (Nat.le_refl _)⟩
    rw [List.take_zero, List.append_nil]
    exact ⟨by omega, _, alloc_at _ _, row_lower (hown2.alloc _) (by omega)⟩
  case round =>
    obtain ⟨i, hi, rfl, ha, hb, hkeep⟩ := hrel
    have hbn := hbin.append ((field_bin u width low).take i)
    have hcl : (bs ++ (field u width low).take i).length = bs.length + i := by rw [List.length_append, List.length_take, field_length]; omega
    by_cases hlt : i < width
    · have HR := Lib.hid (And.intro ha (And.intro hb (And.intro hkeep (And.intro hbn hcl))))
      have hx1 : fbit u width low i ≤ 1 := by unfold fbit; omega
      clear ha hb hkeep hbn hcl
      have ti : (i : Int) < (width : Int) := by omega
      cases hlow : low
      · subst hlow
        have hbit : Go.bits .and .i64 ((u : Int) / 2 ^ (width - 1 - i)) 1 = ((fbit u width false i : Nat) : Int) := shift_int u (width - 1 - i) hu63
        go_wp2_with fail
        refine (HA.out _ _ (fbit u width false i) hx1 HR.out.2.2.2.1 (by rw [HR.out.2.2.2.2]; omega) wr HR.out.1).mono ?_; rintro e w3 ⟨rfl, a3, b3, k3⟩
        go_wp2_with fail
        exact ⟨PutRel.go hlt a3 HR.out.2.1 b3 HR.out.2.2.1 k3, by simp [intOf]; omega⟩
      · subst hlow
        have hbit : Go.bits .and .i64 ((u : Int) / 2 ^ i) 1 = ((fbit u width true i : Nat) : Int) := shift_int u i hu63
        go_wp2_with fail
        refine (HA.out _ _ (fbit u width true i) hx1 HR.out.2.2.2.1 (by rw [HR.out.2.2.2.2]; omega) wr HR.out.1).mono ?_; rintro e w3 ⟨rfl, a3, b3, k3⟩
        go_wp2_with fail
        exact ⟨PutRel.go hlt a3 HR.out.2.1 b3 HR.out.2.2.1 k3, by simp [intOf]; omega⟩
    · obtain rfl : i = width := by omega
      have ef : (field u i low).take i = field u i low := List.take_of_length_le (by rw [field_length]; omega)
      rw [ef] at ha
      obtain ⟨p3, c3, hbk, hown3⟩ := ha.out
      have hlf : (bs ++ field u i low).length = bs.length + i := by rw [List.length_append, field_length]
      rw [hlf] at hbk
      have kk : wr.heap[w.heap.size + 1]? = some (.cells #[.slice none 0 0, .int .i64 0] 34 (0, 0)) := hkeep _ _ _ _ HK.out.2.1 (by decide) (by have := b2.size; have := HK.out.2.2.2; omega)
      have e0 : wr.cell? ⟨w2.heap.size, 0, none⟩ = some (.slice p3 (pack (bs ++ field u i low)).length c3) := by rw [Lib.cell_of_heap hbk]; rfl
      have e1 : wr.cell? ⟨w2.heap.size, 1, none⟩ = some (.int .i64 (bs.length + i : Nat)) := by rw [Lib.cell_of_heap hbk]; rfl
      have e2 : wr.cell? ⟨w.heap.size + 1, 0, none⟩ = some (.slice none 0 0) := by rw [Lib.cell_of_heap kk]; rfl
      have e3 : wr.cell? ⟨w.heap.size + 1, 1, none⟩ = some (.int .i64 0) := by rw [Lib.cell_of_heap kk]; rfl
      have e4 : wr.frozen? ⟨w.heap.size + 1, 0, none⟩ = false := Lib.frozen_of_heap kk 0
      have e5 : wr.frozen? ⟨w.heap.size + 1, 1, none⟩ = false := Lib.frozen_of_heap kk 1
      have HR := Lib.hid (And.intro hown3 (And.intro kk (And.intro hb hkeep)))
      clear hown3 kk hb hkeep hbk ha ef hlf hcl hbn
      go_wp2_with fail
      obtain ⟨hown3, kk, hb, hkeep⟩ := HR
      have hBg : w.heap.size ≤ w2.heap.size := by have := b2.size; have := HK.out.2.2.2; omega
      have k3 := heap_set1 (v := .int .i64 ((bs.length : Int) + (i : Int))) (heap_set0 (v := .slice p3 (pack (bs ++ field u i low)).length c3) kk)
      refine bodyPost_ret (results_row_tmp rfl _ _ (w.heap.size + 1) 34 #[.slice p3 (pack (bs ++ field u i low)).length c3, .int .i64 ((bs.length : Int) + (i : Int))] (0, 0) _ rfl k3 Tryd.underlying34 rfl (by kernel_rfl)) rfl ?_
      have hne : (Value.slice p3 (pack (bs ++ field u i low)).length c3).ownBlock ≠ some (w.heap.size + 1) := by
        intro e
        rcases hown3.2 with ⟨h, _⟩ | ⟨q, cap, cur, h, hBq, hq, _⟩
        · rw [h] at e; simp [Value.ownBlock] at e
        · rw [h] at e
          simp [Value.ownBlock] at e
          rw [e, kk] at hq
          simp only [Option.some.injEq, Obj.cells.injEq] at hq
          exact absurd hq.2.1 (by decide)
      have h1 := ownsRow_setCell_other (ownsRow_setCell_other hown3 (a := ⟨w.heap.size + 1, 0, none⟩) hne (.slice p3 (pack (bs ++ field u i low)).length c3)) (a := ⟨w.heap.size + 1, 1, none⟩) hne (.int .i64 ((bs.length : Int) + (i : Int)))
      exact ⟨p3, c3, rfl, h1, ((HK.out.2.2.1.trans hb).setCell (p := ⟨w.heap.size + 1, 0, none⟩) (by simp) _).setCell (p := ⟨w.heap.size + 1, 1, none⟩) (by simp) _⟩

end Go.Proofs.YtpoolbachhelgaaDoor
