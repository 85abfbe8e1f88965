/- The contracts of day.Of and day.guess at the texts of days. -/
import Derived.Test.YtpoolbachhelgaaDoorDayTx
import Derived.Test.YtpoolbachhelgaaDoorParse
import Derived.Test.YtpoolbachhelgaaDoorGrp
namespace Go.Proofs.YtpoolbachhelgaaDoor
open Go.RowKit

def OfRelD (y n : Int) (w : World) (nv mv : Value) (wr : World) : Prop := ∃ m : Int, nv = .int .i64 (beforeI y + cumI y m + (n - 1)) ∧ mv = .int .i64 m ∧ 1 ≤ m ∧ m ≤ 12 ∧ w = wr
theorem OfRelD.go {y n m : Int} {w : World} {M : Int} (h1 : 1 ≤ m) (h2 : m < 12) (hM : M = monthsI y m) {v : Int} (hv : v = beforeI y + cumI y m + (n - 1) + M) : OfRelD y n w (.int .i64 v) (.int .i64 (m + 1)) w :=
  ⟨m + 1, by rw [hv, cum_next y m h1 (by omega), hM]; congr 1; omega, rfl, by omega, by omega, rfl⟩

set_option maxRecDepth 100000 in
set_option maxHeartbeats 2000000 in
theorem of_any (d y m n : Int) (h : IsDate d y m n) (h0 : 0 ≤ d) (h1 : d ≤ 4194304) (w : World) :
    Calls Tryd.prog 36 #[.int .i64 y, .int .i64 m, .int .i64 n] w fun e w' => e = .returned (.tuple #[.int .i64 d, .int .i64 0]) ∧ w = w' := by
  have hy := year_small h.year.1 h.year.2.1 (show d ≤ 4194400 by omega)
  have hy1 := h.year.1
  have hm1 := h.m1
  have hm2 := h.m2
  have hn1 := h.n1
  have hn2 := h.n2
  have hb : 0 ≤ beforeI y ∧ beforeI y ≤ d := ⟨by unfold beforeI; omega, h.year.2.1⟩
  have HB := Lib.hid (before_any y hy1 (by omega) w)
  have HM := Lib.hid (fun m => months_any y m (by omega) (by omega) w)
  have heq := h.eq
  have hcum : ∀ k : Int, 1 ≤ k → k ≤ m → 0 ≤ cumI y k ∧ cumI y k ≤ 400 := fun k a b => ⟨cum_nonneg y k a (by omega), by
    have := cum_le (y := y) a b (by omega)
    have := cum_le (y := y) hm1 (show m ≤ 13 by omega) (by omega)
    rw [cum13] at this
    have : lp y ≤ 1 := by unfold lp; split <;> omega
    omega⟩
  have hmp := months_pos y m hm1 hm2
  have HCu := Lib.hid hcum
  have HEq := Lib.hid heq
  have hc1 : cumI y 1 = 0 := by unfold cumI; simp
  have HC1 := Lib.hid hc1
  obtain ⟨b0, b1⟩ := hb
  obtain ⟨b, hbb⟩ : ∃ b, b = beforeI y := ⟨_, rfl⟩
  have HBb := Lib.hid hbb
  rw [← hbb] at b0 b1 HB
  have s0 : IntKind.i64.wrap (b + n) = b + n := IntWalk.i64_in _ ⟨by omega, by omega⟩
  have s1 : IntKind.i64.wrap (b + n - 1) = b + n - 1 := IntWalk.i64_in _ ⟨by omega, by omega⟩
  have t1 : decide (y < 1) = false := decide_eq_false (by omega)
  have t2 : decide (20000 < y) = false := decide_eq_false (by omega)
  have t3 : decide (n < 1) = false := decide_eq_false (by omega)
  have t4 : decide (monthsI y m < n) = false := decide_eq_false (by omega)
  have t5 : decide (4194304 < d) = false := decide_eq_false (by omega)
  have HMm := Lib.hid (HM.out m)
  generalize hMg : monthsI y m = M at *
  clear h heq hcum hbb hc1 hMg
  go_enter Tryd.func36, Tryd.ntmps36
  go_wp2_with fail
  refine HMm.out.mono ?_; rintro e w1 ⟨rfl, rfl⟩
  go_wp2_with fail
  refine HB.out.mono ?_; rintro e w1 ⟨rfl, rfl⟩
  go_wp2_with fail
  go_loopw [8, 9] (fun nv mv wr => (∃ k : Int, mv = .int .i64 k ∧ k ≤ m) ∧ OfRelD y n w nv mv wr) (fun _ mv _ => (m - intOf mv).toNat)
  case atStart => exact ⟨⟨1, rfl, hm1⟩, 1, by rw [HC1.out, ← HBb.out]; congr 1; omega, rfl, by omega, by omega, rfl⟩
  case round =>
    obtain ⟨⟨k, rfl, hk⟩, k', rfl, hkk, hk1, hk12, rfl⟩ := hrel
    obtain rfl : k = k' := by simpa using hkk
    have hcu := HCu.out k hk1 hk
    rw [← HBb.out]
    by_cases hlt : k < m
    · have hG := fun v (hv : v = beforeI y + cumI y k + (n - 1) + monthsI y k) => OfRelD.go (w := w) (v := v) hk1 (by omega) rfl hv
      have hmk := months_pos y k hk1 (by omega)
      have hMk := HM.out k
      rw [← HBb.out] at hG
      generalize cumI y k = c at *
      generalize monthsI y k = mk at *
      have HG := Lib.hid hG
      have HMk := Lib.hid hMk
      have s2 : IntKind.i64.wrap (b + c + (n - 1) + mk) = b + c + (n - 1) + mk := IntWalk.i64_in _ ⟨by omega, by omega⟩
      have s3 : IntKind.i64.wrap (k + 1) = k + 1 := IntWalk.i64_in _ ⟨by omega, by omega⟩
      clear hG hMk
      go_wp2_with fail
      refine HMk.out.mono ?_; rintro e w1 ⟨rfl, rfl⟩
      go_wp2_with fail
      exact ⟨⟨⟨_, rfl, by omega⟩, HG.out _ rfl⟩, by simp [intOf]; omega⟩
    · obtain rfl : k = m := by omega
      have hd : b + cumI y k + (n - 1) = d := by rw [HBb.out]; have := HEq.out; omega
      rw [hd]
      go_wp2_with fail
      go_ret2
      exact ⟨rfl, rfl⟩

theorem data_inj : ∀ {a b : List ByteArray}, a.map (fun x => x.data.toList) = b.map (fun x => x.data.toList) → a = b
  | [], [], _ => rfl
  | [], _ :: _, h => by cases h
  | _ :: _, [], h => by cases h
  | x :: a, y :: b, h => by
    simp only [List.map_cons, List.cons.injEq] at h
    obtain ⟨h1, h2⟩ := h
    rw [ByteArray.ext (Array.toList_inj.1 h1), data_inj h2]
/-- Pieces of letters that are joined by a minus are found again. -/
theorem split_pieces (x : List Nat) (r : List (List Nat)) (h : ∀ p ∈ x :: r, ∀ c ∈ p, c < 256 ∧ c ≠ 45) :
    Lib.countB (strN (joinC 45 (x :: r))) ⟨#[45]⟩ = r.length ∧ Lib.splitB ⟨#[45]⟩ 0 r.length (strN (joinC 45 (x :: r))) = (x :: r).map strN := by
  have ne : ∀ p ∈ u8s x :: r.map u8s, ∀ b ∈ p, b ≠ 45 := by
    intro p hp b hb
    have hp' : p ∈ (x :: r).map u8s := hp
    obtain ⟨q, hq, rfl⟩ := List.mem_map.1 hp'
    obtain ⟨c, hc, rfl⟩ := List.mem_map.1 hb
    obtain ⟨h1, h2⟩ := h q hq c hc
    intro e
    apply h2
    have := congrArg UInt8.toNat e
    rw [UInt8.toNat_ofNat_of_lt' (show c < UInt8.size from h1)] at this
    exact this
  have hd : (strN (joinC 45 (x :: r))).data.toList = joinC 45 (u8s x :: r.map u8s) := by
    rw [strN_data, joinC_map]; rfl
  constructor
  · show Lib.count (strN (joinC 45 (x :: r))).data.toList [45] = _
    rw [hd, count_join 45 _ _ ne, List.length_map]
  · apply data_inj
    have hsp := Lib.splitB_data ⟨#[45]⟩ 0 r.length (strN (joinC 45 (x :: r)))
    rw [show (⟨#[45]⟩ : ByteArray).data.toList = [45] from rfl, hd] at hsp
    have hk := splitK_join 45 (u8s x) (r.map u8s) ne
    rw [List.length_map] at hk
    rw [hsp, hk]
    show (x :: r).map u8s = ((x :: r).map strN).map fun x => x.data.toList
    rw [List.map_map]
    congr 1
theorem joinC3 (a b c : List Nat) : joinC 45 [a, b, c] = a ++ 45 :: (b ++ 45 :: c) := rfl
theorem joinC2 (a b : List Nat) : joinC 45 [a, b] = a ++ 45 :: b := rfl

def maxOk (w : World) : Prop := ∃ m : Int, w.cell? ⟨0, 0, none⟩ = some (.int .i64 m)
theorem maxOk_shape {w : World} (h : w.ShapedOpen Tryd.prog) : maxOk w :=
  Go.Proofs.cell_of_shapedOpen_int (zero := #[.int .i64 0]) (t := 3) h (of_decide_eq_true (by kernel_rfl)) (by kernel_rfl) rfl (by kernel_rfl) (by kernel_rfl) Tryd.underlying3
theorem maxOk.below {w w' : World} (h : maxOk w) (hb : Below w.heap.size w w') : maxOk w' := by
  obtain ⟨m, hm⟩ := h
  have hlt := World.block_lt_of_cell? _ _ hm
  exact ⟨m, by rw [hb.cell hlt]; exact hm⟩
/-- strings.Split at a minus. -/
theorem splitMinus (x : List Nat) (r : List (List Nat)) (h : ∀ p ∈ x :: r, ∀ c ∈ p, c < 256 ∧ c ≠ 45) (hl : (joinC 45 (x :: r)).length ≤ 1000) (w : World) (hm : maxOk w) :
    Calls Tryd.prog 30 #[.string (strN (joinC 45 (x :: r))), .string ⟨#[45]⟩] w fun e w' => e = .returned (.slice (some ⟨w.heap.size, 0, none⟩) (r.length + 1) (r.length + 1)) ∧ w' = w.alloc (.cells (((x :: r).map strN).map Value.string).toArray 9 (0, 0)) := by
  obtain ⟨m, hm⟩ := hm
  obtain ⟨h1, h2⟩ := split_pieces x r h
  have H := Tryd.strings_Split (strN (joinC 45 (x :: r))) ⟨#[45]⟩ m w (by rw [strN_size]; omega) hm (by decide)
  rw [h1, h2] at H
  exact H

/-- The values of digits with zeros ahead of them. -/
theorem ev_zeros (k : Nat) (D : List Nat) : ev 10 (List.replicate k 0 ++ D) = ev 10 D := by
  unfold ev
  rw [List.foldl_append]
  congr 1
  induction k with
  | zero => rfl
  | succ k ih => rw [List.replicate_succ, List.foldl_cons]; simpa using ih
theorem ev_padV (w n : Nat) : ev 10 (padV w n) = n := by
  unfold padV
  rw [ev_zeros, ev_ds 10 n (by decide)]
theorem padV_lt (w n : Nat) : ∀ d ∈ padV w n, d < 10 := by
  intro d hd
  rcases List.mem_append.1 hd with hd | hd
  · rw [List.eq_of_mem_replicate hd]; decide
  · exact ds_lt 10 n (by decide) d hd
theorem padV_pos (w n : Nat) : 1 ≤ (padV w n).length := by
  have := ds_length_pos 10 n (by decide)
  simp [padV]; omega
theorem padV_length (w n : Nat) (h : n < 1000000) (hw : w ≤ 4) : (padV w n).length ≤ 24 := by
  have := padL_length w n h hw
  simpa [padL] using this
theorem digC_minus {D : List Nat} (h : ∀ d ∈ D, d < 10) : ∀ c ∈ D.map digC, c < 256 ∧ c ≠ 45 := by
  intro c hc
  obtain ⟨d, hd, rfl⟩ := List.mem_map.1 hc
  have := h d hd
  unfold digC
  rw [if_pos this]
  omega
theorem number_pad (w n : Nat) (hn : n < 1000000) (hw : w ≤ 4) (W : World) :
    Calls Tryd.prog 90 #[.string (strN (padL w n))] W fun e w' => e = .returned (.tuple #[.int .i64 n, .bool true]) ∧ Below W.heap.size W w' := by
  have h := number_ok (padV w n) (padV_lt w n) (padV_pos w n) (by have := padV_length w n hn hw; omega) (by rw [ev_padV]; omega) W
  rw [ev_padV] at h
  exact h

/-- The blocks of guess: its three numbers, and the pieces. -/
structure GSt (B a g : Nat) (ps : List Value) (x0 x1 x2 : Int) (w wr : World) : Prop where
  nums : wr.heap[a]? = some (.cells #[.int .i64 x0, .int .i64 x1, .int .i64 x2] 111 (0, 0))
  pieces : wr.heap[g]? = some (.cells ps.toArray 9 (0, 0))
  below : Below B w wr
  base : B ≤ a
theorem GSt.more {B a g : Nat} {ps : List Value} {x0 x1 x2 : Int} {w wr w1 : World} (h : GSt B a g ps x0 x1 x2 w wr) (hb : Below wr.heap.size wr w1) : GSt B a g ps x0 x1 x2 w w1 :=
  ⟨(hb.block _ (lt_of_block h.nums)).trans h.nums, (hb.block _ (lt_of_block h.pieces)).trans h.pieces, h.below.trans (hb.mono (Nat.le_trans h.base (Nat.le_of_lt (lt_of_block h.nums)))), h.base⟩

theorem GSt.lt {B a g : Nat} {ps : List Value} {x0 x1 x2 : Int} {w wr : World} (h : GSt B a g ps x0 x1 x2 w wr) : a < wr.heap.size ∧ g < wr.heap.size := ⟨lt_of_block h.nums, lt_of_block h.pieces⟩
theorem GSt.set {B a g : Nat} {ps : List Value} {x0 x1 x2 : Int} {w wr : World} (h : GSt B a g ps x0 x1 x2 w wr) (hne : g ≠ a) (i : Nat) (v : Int) {y0 y1 y2 : Int} (hy : (#[.int .i64 x0, .int .i64 x1, .int .i64 x2] : Array Value).setIfInBounds i (.int .i64 v) = #[.int .i64 y0, .int .i64 y1, .int .i64 y2]) : GSt B a g ps y0 y1 y2 w (wr.setCell ⟨a, i, none⟩ (.int .i64 v)) := by
  refine ⟨?_, (Below.heap_setCell _ _ _ _ hne).trans h.pieces, h.below.setCell (p := ⟨a, i, none⟩) h.base _, h.base⟩
  have hn := h.nums
  simp only [World.setCell, Array.getElem?_modify, if_true, hn, Option.map_some]
  rw [← hy]
  rfl
theorem GSt.c0 {B a g : Nat} {ps : List Value} {x0 x1 x2 : Int} {w wr : World} (h : GSt B a g ps x0 x1 x2 w wr) : wr.cell? ⟨a, 0, none⟩ = some (.int .i64 x0) := by rw [Lib.cell_of_heap h.nums]; rfl
theorem GSt.c1 {B a g : Nat} {ps : List Value} {x0 x1 x2 : Int} {w wr : World} (h : GSt B a g ps x0 x1 x2 w wr) : wr.cell? ⟨a, 1, none⟩ = some (.int .i64 x1) := by rw [Lib.cell_of_heap h.nums]; rfl
theorem GSt.c2 {B a g : Nat} {ps : List Value} {x0 x1 x2 : Int} {w wr : World} (h : GSt B a g ps x0 x1 x2 w wr) : wr.cell? ⟨a, 2, none⟩ = some (.int .i64 x2) := by rw [Lib.cell_of_heap h.nums]; rfl
theorem GSt.free {B a g : Nat} {ps : List Value} {x0 x1 x2 : Int} {w wr : World} (h : GSt B a g ps x0 x1 x2 w wr) (i : Nat) : wr.frozen? ⟨a, i, none⟩ = false := Lib.frozen_of_heap h.nums i
theorem GSt.piece {B a g : Nat} {ps : List Value} {x0 x1 x2 : Int} {w wr : World} (h : GSt B a g ps x0 x1 x2 w wr) (i : Nat) : wr.cell? ⟨g, i, none⟩ = ps[i]? := by rw [Lib.cell_of_heap h.pieces]; simp

theorem alloc_at' (w : World) (o : Obj) : (w.alloc o).heap[w.heap.size]? = some o := by
  show (w.heap.push o)[w.heap.size]? = some o
  simp
theorem three_new (w : World) (ps : List Value) (o2 : Obj) : ∃ W, W = ((w.alloc (.cells ps.toArray 9 (0, 0))).alloc o2).alloc (.cells #[.int .i64 0, .int .i64 0, .int .i64 0] 111 (0, 0)) ∧ GSt w.heap.size (w.heap.size + 1 + 1) w.heap.size ps 0 0 0 w W := by
  refine ⟨_, rfl, ?_, ?_, by go_grown, by omega⟩
  · rw [show w.heap.size + 1 + 1 = ((w.alloc (.cells ps.toArray 9 (0, 0))).alloc o2).heap.size by simp]
    exact alloc_at' _ _
  · rw [Below.heap_alloc _ _ _ (by simp; omega), Below.heap_alloc _ _ _ (by simp)]
    exact alloc_at' _ _
/-- Where the loop of guess stands. -/
def GLoop (g a : Nat) (ps : List Value) (y m n : Int) (w : World) (iv : Value) (wr : World) : Prop :=
  (iv = .int .i64 0 ∧ GSt g a g ps 0 0 0 w wr) ∨ (iv = .int .i64 1 ∧ GSt g a g ps y 0 0 w wr) ∨ (iv = .int .i64 2 ∧ GSt g a g ps y m 0 w wr) ∨ (iv = .int .i64 3 ∧ GSt g a g ps y m n w wr)

set_option maxRecDepth 100000 in
set_option maxHeartbeats 4000000 in
theorem guessDate_any (d : Int) (y m n : Nat) (hd : IsDate d y m n) (h0 : 0 ≤ d) (h1 : d ≤ 4194304) (w : World) (hm : maxOk w) :
    Calls Tryd.prog 69 #[.string (strN (dateL y m n)), .int .i64 0] w fun e w' => e = .returned (.tuple #[.int .i64 d, .bool true]) ∧ Below w.heap.size w w' := by
  have hy := year_small hd.year.1 hd.year.2.1 (show d ≤ 4194400 by omega)
  have hy1 := hd.year.1
  have hm2 := hd.m2
  have hn := months_pos (y : Int) (m : Int) hd.m1 hd.m2
  have hn2 := hd.n2
  have hS := splitMinus (padL 4 y) [padL 2 m, padL 2 n] (by
    intro p hp
    simp only [List.mem_cons, List.mem_nil_iff, or_false] at hp
    rcases hp with rfl | rfl | rfl <;> exact digC_minus (padV_lt _ _)) (by
    have l1 := padL_length 4 y (by omega) (by omega)
    have l2 := padL_length 2 m (by omega) (by omega)
    have l3 := padL_length 2 n (by omega) (by omega)
    rw [joinC3]; simp; omega) w hm
  rw [joinC3, show padL 4 y ++ 45 :: (padL 2 m ++ 45 :: padL 2 n) = dateL y m n from rfl] at hS
  have N0 := fun W => number_pad 4 y (by omega) (by omega) W
  have N1 := fun W => number_pad 2 m (by omega) (by omega) W
  have N2 := fun W => number_pad 2 n (by omega) (by omega) W
  have HOf := Lib.hid (fun W => of_any d y m n hd h0 h1 W)
  simp only [List.map_cons, List.map_nil, List.length_cons, List.length_nil] at hS
  generalize strN (dateL y m n) = s at *
  generalize strN (padL 4 y) = p0 at *
  generalize strN (padL 2 m) = p1 at *
  generalize strN (padL 2 n) = p2 at *
  have HS := Lib.hid hS
  have H0 := Lib.hid N0
  have H1 := Lib.hid N1
  have H2 := Lib.hid N2
  have t1 : decide ((y : Int) < 1) = false := decide_eq_false (by omega)
  have t2 : decide (20000 < (y : Int)) = false := decide_eq_false (by omega)
  clear hS N0 N1 N2 hd hn hn2 hm
  go_enter Tryd.func69, Tryd.ntmps69
  go_wp2_with fail
  refine HS.out.mono ?_; rintro e w1 ⟨rfl, rfl⟩
  go_wp2_with fail
  obtain ⟨W, hW, hst⟩ := three_new w [.string p0, .string p1, .string p2] (.cells #[.int .i64 3, .int .i64 2, .int .i64 3] 3 (0, 0))
  rw [← show W = _ from hW]
  have hga : w.heap.size ≠ w.heap.size + 1 + 1 := by omega
  generalize hgg : w.heap.size = g at *
  generalize ha : g + 1 + 1 = a at *
  have HI := Lib.hid hst
  clear hW hst ha
  go_loopw [33] (fun iv wr => GLoop g a [.string p0, .string p1, .string p2] y m n w iv wr) (fun iv _ => 3 - (intOf iv).toNat)
  case atStart => exact Or.inl ⟨rfl, HI.out⟩
  case round =>
    rcases hrel with ⟨rfl, hg⟩ | ⟨rfl, hg⟩ | ⟨rfl, hg⟩ | ⟨rfl, hg⟩
    · have hp := hg.piece 0
      simp only [List.getElem?_cons_zero] at hp
      have HG := Lib.hid hg
      clear hg
      go_wp2_with fail
      refine (H0.out _).mono ?_; rintro e w1 ⟨rfl, b1⟩
      have hg := HG.out.more b1
      have f0 := hg.free 0
      have hl := hg.lt.1
      have c0 := hg.c0
      have HG := Lib.hid hg
      clear hg b1
      go_wp2_with fail
      exact ⟨Or.inr (Or.inl ⟨rfl, HG.out.set hga 0 y rfl⟩), by simp [intOf]⟩
    · have hp := hg.piece 1
      simp only [List.getElem?_cons_succ, List.getElem?_cons_zero] at hp
      have HG := Lib.hid hg
      clear hg
      go_wp2_with fail
      refine (H1.out _).mono ?_; rintro e w1 ⟨rfl, b1⟩
      have hg := HG.out.more b1
      have f0 := hg.free 1
      have hl := hg.lt.1
      have c0 := hg.c1
      have HG := Lib.hid hg
      clear hg b1
      go_wp2_with fail
      exact ⟨Or.inr (Or.inr (Or.inl ⟨rfl, HG.out.set hga 1 m rfl⟩)), by simp [intOf]⟩
    · have hp := hg.piece 2
      simp only [List.getElem?_cons_succ, List.getElem?_cons_zero] at hp
      have HG := Lib.hid hg
      clear hg
      go_wp2_with fail
      refine (H2.out _).mono ?_; rintro e w1 ⟨rfl, b1⟩
      have hg := HG.out.more b1
      have f0 := hg.free 2
      have hl := hg.lt.1
      have c0 := hg.c2
      have HG := Lib.hid hg
      clear hg b1
      go_wp2_with fail
      exact ⟨Or.inr (Or.inr (Or.inr ⟨rfl, HG.out.set hga 2 n rfl⟩)), by simp [intOf]⟩
    · have c0 := hg.c0
      have c1 := hg.c1
      have c2 := hg.c2
      have HG := Lib.hid hg
      clear hg
      go_wp2_with fail
      refine (HOf.out _).mono ?_; rintro e w1 ⟨rfl, rfl⟩
      go_wp2_with fail
      go_ret2
      exact ⟨rfl, by rw [hgg]; exact HG.out.below⟩

set_option maxRecDepth 100000 in
set_option maxHeartbeats 1000000 in
theorem guessShort_any (x : List Nat) (r : List (List Nat)) (h : ∀ p ∈ x :: r, ∀ c ∈ p, c < 256 ∧ c ≠ 45) (hl : (joinC 45 (x :: r)).length ≤ 1000) (f : Nat) (hf : (f = 0 ∧ r.length = 1) ∨ (f = 1 ∧ r.length = 2)) (w : World) (hm : maxOk w) :
    Calls Tryd.prog 69 #[.string (strN (joinC 45 (x :: r))), .int .i64 f] w fun e w' => e = .returned (.tuple #[.int .i64 0, .bool false]) ∧ Below w.heap.size w w' := by
  have HS := Lib.hid (splitMinus x r h hl w hm)
  generalize strN (joinC 45 (x :: r)) = s at *
  generalize (((x :: r).map strN).map Value.string).toArray = ps at *
  rcases hf with ⟨rfl, hr⟩ | ⟨rfl, hr⟩
  all_goals
    rw [hr] at HS
    clear h hl hm hr
    go_enter Tryd.func69, Tryd.ntmps69
    go_wp2_with fail
    refine HS.out.mono ?_; rintro e w1 ⟨rfl, rfl⟩
    go_wp2_with fail
    go_ret2
    exact ⟨rfl, by go_grown⟩

set_option maxRecDepth 100000 in
set_option maxHeartbeats 4000000 in
theorem guessOrd_any (d : Int) (y k : Nat) (hy0 : IsYear d y) (hk : d - beforeI y + 1 = (k : Int)) (h0 : 0 ≤ d) (h1 : d ≤ 4194304) (w : World) (hm : maxOk w) :
    Calls Tryd.prog 69 #[.string (strN (ordL y k)), .int .i64 1] w fun e w' => e = .returned (.tuple #[.int .i64 d, .bool true]) ∧ Below w.heap.size w w' := by
  have hy := year_small hy0.1 hy0.2.1 (show d ≤ 4194400 by omega)
  have hy1 := hy0.1
  have hb0 : 0 ≤ beforeI y ∧ beforeI y ≤ d := ⟨by unfold beforeI; omega, hy0.2.1⟩
  have hk1 : k < 1000000 := by
    have := hy0.2.2
    have e := year_len (y : Int) hy1
    have : lp (y : Int) ≤ 1 := by unfold lp; split <;> omega
    omega
  have HB := (fun w => (before_any (y : Int) hy1 (by omega) w).mono fun _ _ h => And.intro h.1 h.2.symm)
  have hS := splitMinus (padL 4 y) [padL 3 k] (by
    intro p hp
    simp only [List.mem_cons, List.mem_nil_iff, or_false] at hp
    rcases hp with rfl | rfl <;> exact digC_minus (padV_lt _ _)) (by
    have l1 := padL_length 4 y (by omega) (by omega)
    have l2 := padL_length 3 k (by omega) (by omega)
    rw [joinC2]; simp; omega) w hm
  rw [joinC2, show padL 4 y ++ 45 :: padL 3 k = ordL y k from rfl] at hS
  have N0 := fun W => number_pad 4 y (by omega) (by omega) W
  have N1 := fun W => number_pad 3 k (by omega) (by omega) W
  simp only [List.map_cons, List.map_nil, List.length_cons, List.length_nil] at hS
  generalize strN (ordL y k) = s at *
  generalize strN (padL 4 y) = p0 at *
  generalize strN (padL 3 k) = p1 at *
  obtain ⟨b0, b1⟩ := hb0
  generalize beforeI y = b at *
  have s1 : IntKind.i64.wrap (b + (k : Int)) = b + (k : Int) := IntWalk.i64_in _ ⟨by omega, by omega⟩
  have s2 : IntKind.i64.wrap (b + (k : Int) - 1) = d := by rw [IntWalk.i64_in _ ⟨by omega, by omega⟩]; omega
  have HS := Lib.hid hS
  have H0 := Lib.hid N0
  have H1 := Lib.hid N1
  have HBf := Lib.hid HB
  have t1 : decide ((y : Int) < 1) = false := decide_eq_false (by omega)
  have t2 : decide (20000 < (y : Int)) = false := decide_eq_false (by omega)
  clear hS N0 N1 hy0 hk hm HB
  go_enter Tryd.func69, Tryd.ntmps69
  go_wp2_with fail
  refine HS.out.mono ?_; rintro e w1 ⟨rfl, rfl⟩
  go_wp2_with fail
  obtain ⟨W, hW, hst⟩ := three_new w [.string p0, .string p1] (.cells #[.int .i64 3, .int .i64 2, .int .i64 3] 3 (0, 0))
  rw [← show W = _ from hW]
  have hga : w.heap.size ≠ w.heap.size + 1 + 1 := by omega
  generalize hgg : w.heap.size = g at *
  generalize ha : g + 1 + 1 = a at *
  have HI := Lib.hid hst
  clear hW hst ha
  go_loopw [33] (fun iv wr => GLoop g a [.string p0, .string p1] y k 0 w iv wr) (fun iv _ => 3 - (intOf iv).toNat)
  case atStart => exact Or.inl ⟨rfl, HI.out⟩
  case round =>
    rcases hrel with ⟨rfl, hg⟩ | ⟨rfl, hg⟩ | ⟨rfl, hg⟩ | ⟨rfl, hg⟩
    · have hp := hg.piece 0
      simp only [List.getElem?_cons_zero] at hp
      have HG := Lib.hid hg
      clear hg
      go_wp2_with fail
      refine (H0.out _).mono ?_; rintro e w1 ⟨rfl, b1⟩
      have hg := HG.out.more b1
      have f0 := hg.free 0
      have hl := hg.lt.1
      have c0 := hg.c0
      have HG := Lib.hid hg
      clear hg b1
      go_wp2_with fail
      exact ⟨Or.inr (Or.inl ⟨rfl, HG.out.set hga 0 y rfl⟩), by simp [intOf]⟩
    · have hp := hg.piece 1
      simp only [List.getElem?_cons_succ, List.getElem?_cons_zero] at hp
      have HG := Lib.hid hg
      clear hg
      go_wp2_with fail
      refine (H1.out _).mono ?_; rintro e w1 ⟨rfl, b1⟩
      have hg := HG.out.more b1
      have f0 := hg.free 1
      have hl := hg.lt.1
      have c0 := hg.c1
      have HG := Lib.hid hg
      clear hg b1
      go_wp2_with fail
      exact ⟨Or.inr (Or.inr (Or.inl ⟨rfl, HG.out.set hga 1 k rfl⟩)), by simp [intOf]⟩
    all_goals
      have c0 := hg.c0
      have c1 := hg.c1
      have HG := Lib.hid hg
      clear hg
      go_wp2_with fail
      go_quiet ((go_at_call 53; exact Calls.quiet_of_same (HBf.out _)))
      go_wp2_with fail
      go_ret2
      exact ⟨rfl, by rw [hgg]; exact below_drewN HG.out.below _⟩

end Go.Proofs.YtpoolbachhelgaaDoor
