/- pattern.Count, from what pattern.build does; no condition beyond those that stand there. -/
import Derived.OwnWalk
import Derived.Laws.OwnMore
import Derived.Test.YtebcflgdjbjkoaaMatch
namespace Go.Proofs.Ytebcflgdjbjkoaa
open Go.RowKit

def bcap : Nat := 1099511627777
def intsC (L : List Nat) : List Value := L.map fun n => Value.int .i64 (n : Nat)
theorem intsC_len (L : List Nat) : (intsC L).length = L.length := by simp [intsC]
theorem intsC_get {L : List Nat} {i : Nat} (h : i < L.length) : (intsC L)[i]? = some (.int .i64 (L.getD i 0 : Nat)) := by simp [intsC, List.getD, h]
theorem intsC_set (L : List Nat) (i n : Nat) : (intsC L).set i (.int .i64 (n : Nat)) = intsC (L.set i n) := by simp [intsC, List.map_set]
def addC (L : List Nat) (n x : Nat) : List Nat := L.set n (min (L.getD n 0 + x) bcap)
def innerC (r : List Nat) (x : Nat) (L : List Nat) : Nat → List Nat
  | 0 => L
  | b + 1 => addC (innerC r x L b) (r.getD b 0) x
def outerC (rows : List (List Nat)) (L : List Nat) : Nat → List Nat
  | 0 => List.replicate L.length 0
  | i + 1 => if L.getD i 0 = 0 then outerC rows L i else innerC (rows.getD i []) (L.getD i 0) (outerC rows L i) 256
def nowC (rows : List (List Nat)) (N : Nat) : Nat → List Nat
  | 0 => (List.replicate N 0).set 0 1
  | k + 1 => outerC rows (nowC rows N k) N
def sumE (ends : List Bool) (L : List Nat) : Nat → Nat
  | 0 => 0
  | i + 1 => sumE ends L i + if ends.getD i false then L.getD i 0 else 0
def totC (rows : List (List Nat)) (ends : List Bool) (N : Nat) : Nat → Nat
  | 0 => 0
  | k + 1 => totC rows ends N k + sumE ends (nowC rows N k) N
/-- The numbers of a row are bounded. -/
def Bnd (N : Nat) (L : List Nat) : Prop := L.length = N ∧ ∀ i, L.getD i 0 ≤ bcap
theorem Bnd.add {N : Nat} {L : List Nat} (h : Bnd N L) (n x : Nat) : Bnd N (addC L n x) := by
  refine ⟨by simp [addC, h.1], fun i => ?_⟩
  unfold addC
  by_cases e : n = i
  · subst e
    by_cases hl : n < L.length
    · simp [List.getD, hl]; omega
    · simp [List.getD, hl]
  · have := h.2 i
    simp [List.getD, e] at this ⊢
    exact this
theorem Bnd.inner {N : Nat} {L : List Nat} (h : Bnd N L) (r : List Nat) (x : Nat) : ∀ b, Bnd N (innerC r x L b)
  | 0 => h
  | b + 1 => (Bnd.inner h r x b).add _ _
theorem Bnd.zero (N : Nat) : Bnd N (List.replicate N 0) := by
  refine ⟨by simp, fun i => ?_⟩
  by_cases h : i < N <;> simp [List.getD, h]
theorem Bnd.outer {N : Nat} {L : List Nat} (h : Bnd N L) (rows : List (List Nat)) : ∀ i, Bnd N (outerC rows L i)
  | 0 => by rw [outerC, h.1]; exact Bnd.zero N
  | i + 1 => by
    rw [outerC]
    split
    · exact Bnd.outer h rows i
    · exact (Bnd.outer h rows i).inner _ _ _
theorem Bnd.now (rows : List (List Nat)) (N : Nat) : ∀ k, Bnd N (nowC rows N k)
  | 0 => by
    refine ⟨by simp [nowC], fun i => ?_⟩
    unfold nowC
    by_cases e : i = 0
    · subst e
      by_cases h : 0 < N <;> simp [List.getD, h, bcap]
    · have := (Bnd.zero N).2 i
      simp [List.getD, Ne.symm e] at this ⊢
      exact this
  | k + 1 => (Bnd.now rows N k).outer rows N
theorem sumE_le {N : Nat} {L : List Nat} (h : Bnd N L) (ends : List Bool) : ∀ i, sumE ends L i ≤ i * bcap
  | 0 => Nat.zero_le _
  | i + 1 => by
    have h1 := sumE_le h ends i
    have h2 := h.2 i
    rw [sumE, Nat.add_mul, Nat.one_mul]
    split <;> omega
theorem totC_mono (rows : List (List Nat)) (ends : List Bool) (N : Nat) {i j : Nat} (h : i ≤ j) : totC rows ends N i ≤ totC rows ends N j := by
  induction j with
  | zero => rw [Nat.le_zero.1 h]; exact Nat.le_refl _
  | succ j ih =>
    rcases Nat.lt_or_ge j i with h1 | h1
    · rw [show i = j + 1 by omega]; exact Nat.le_refl _
    · exact Nat.le_trans (ih h1) (Nat.le_add_right _ _)
theorem int_info : ∃ i : TypeInfo, Try.prog.info? 3 = some i ∧ i.zero = some (.int .i64 0) ∧ i.size = 1 ∧ i.bytes = 8 := by
  have h : (Try.prog.info? 3).map (fun i => (i.zero, i.size, i.bytes)) = some (some (.int .i64 0), 1, 8) := by kernel_rfl
  cases hi : Try.prog.info? 3 with
  | none => rw [hi] at h; simp at h
  | some i => rw [hi] at h; simp at h; exact ⟨i, rfl, h.1, h.2.1, h.2.2⟩
/-- make([]int, n). -/
theorem make_ints {ops : Array Oper} {rest : List Oper} {o : Oper} {a : Act} {w : World} {Q : Exit → Act → World → Prop} (hg : o.guard = none) (l c : Operand) (t : TypeId) (ho : o.op = .makeSlice t l c)
    (ht : Try.prog.underlying t = some (.slice 3)) (n : Nat) (hl : a.eval l = .int .i64 n) (hc : a.eval c = .int .i64 n) (hn : n ≤ 1000)
    (hK : ∀ w', w'.ownsRow w.heap.size 3 1 (.slice (some ⟨w.heap.size, 0, none⟩) n n) n (intsC (List.replicate n 0)) → Below w.heap.size w w' → wpList Try.prog ops Q rest (a.put o.dst (.slice (some ⟨w.heap.size, 0, none⟩) n n)) w') :
    wpList Try.prog ops Q (o :: rest) a w := by
  obtain ⟨i, hi, hz, h1, h8⟩ := int_info
  refine wpList_make_full w hg l c t ho w.heap.size 3 i (.int .i64 0) 1 ht hi hz h1 .i64 .i64 n n n hl hc rfl rfl (by rw [h8]; omega) (by unfold maxLen; omega) (Nat.le_refl _) ?_
  intro w' hr hgr
  refine hK w' ?_ ⟨hgr.os, hgr.tape, hgr.output, hgr.size, fun k hk => hgr.block k hk (by simp)⟩
  have : (madeCells (Value.int .i64 0).cells (n * 1)).toList = intsC (List.replicate n 0) := by
    rw [Nat.mul_one]
    show (madeCells #[Value.int .i64 0] n).toList = _
    rw [toList_madeCells_one]
    simp [intsC]
  rw [this] at hr
  exact hr
set_option maxRecDepth 100000 in
set_option maxHeartbeats 4000000 in
theorem count_any (hbuild : BuildSaid) (p : ByteArray) (n : Nat) (hn : n ≤ 4000) (cls fol : List Set4) (x : Part) (w : World) (h : ParsedTo p cls fol x) :
    Calls Try.prog 9 #[.string p, .int .i64 n] w fun e w' => Below w.heap.size w w' ∧ ((e = .returned (.tuple #[.int .i64 0, .int .i64 2]) ∧ Large cls fol) ∨
      ∃ sets rows ends, Half cls fol x sets rows ends sets.length ∧ ((1099511627776 < totC rows ends rows.length (n + 1) ∧ e = .returned (.tuple #[.int .i64 0, .int .i64 2])) ∨ (totC rows ends rows.length (n + 1) ≤ 1099511627776 ∧ e = .returned (.tuple #[.int .i64 (totC rows ends rows.length (n + 1) : Nat), .int .i64 0])))) := by
  have hBu := Lib.hid (hbuild p cls fol x w h)
  clear h hbuild
  have t1 : decide ((n : Int) < 0) = false := decide_eq_false (by omega)
  have t2 : decide ((4000 : Int) < (n : Int)) = false := decide_eq_false (by omega)
  go_enter Try.func9, Try.ntmps9
  go_upto_region 1 with fail
  go_upto_region 6 with (go_at_call 23; refine hBu.out.mono ?_; rintro e w1 ⟨hb1, hor⟩; rcases hor with ⟨rfl, hL⟩ | ⟨nv, ev, sets, rows, ends, rfl, hM⟩; rotate_left; obtain ⟨g, gc, rfl, hg, -⟩ := row_some hM.nrow hM.rpos; obtain ⟨g2, gc2, rfl, hg2, -⟩ := row_some hM.erow hM.epos; have HM := Lib.hid (And.intro hM (And.intro hg (And.intro hg2 hb1))); clear hM hg hg2 hb1; rotate_left)
  · go_returns
    exact ⟨hb1.trans ((Below.refl w1.heap.size w1).alloc (Nat.le_refl _) _ |>.mono hb1.size), Or.inl ⟨rfl, hL⟩⟩
  · clear t1 t2
    have hal := (Below.refl w1.heap.size w1).alloc (Nat.le_refl _) (.cells #[.slice (some ⟨g, 0, none⟩) rows.length gc, .slice (some ⟨g2, 0, none⟩) ends.length gc2] 58 (0, 0))
    have eM := heap_alloc_new w1 (.cells #[.slice (some ⟨g, 0, none⟩) rows.length gc, .slice (some ⟨g2, 0, none⟩) ends.length gc2] 58 (0, 0))
    have hM2 := HM.out.1.below hal
    have HN := Lib.hid (And.intro hM2 (And.intro eM ((HM.out.2.2.2).trans (hal.mono HM.out.2.2.2.size))))
    clear hal eM hM2 HM
    generalize w1.alloc (.cells #[.slice (some ⟨g, 0, none⟩) rows.length gc, .slice (some ⟨g2, 0, none⟩) ends.length gc2] 58 (0, 0)) = w2 at *
    have hN4 : rows.length ≤ 400 := by have := HN.out.1.half.rl; have := HN.out.1.half.len; omega
    have hNp : 0 < rows.length := HN.out.1.rpos
    have hel : ends.length = rows.length := by have := HN.out.1.half.rl; have := HN.out.1.half.el; omega
    have HE := Lib.hid hel
    clear hel
    have m0 : w2.cell? ⟨w1.heap.size, 0, none⟩ = some (.slice (some ⟨g, 0, none⟩) rows.length gc) := by rw [Lib.cell_of_heap HN.out.2.1]; rfl
    have hM1 : w1.heap.size < w2.heap.size := lt_of_block HN.out.2.1
    go_upto_region 9 with (at_make; refine make_ints rfl _ _ _ rfl (by kernel_rfl) rows.length rfl rfl (by omega) ?_; intro w3 hr3 hb3; have n0 := (World.ownsRow.cellAt hr3 0 (by omega)).trans (intsC_get (by simp; omega)); have z0 := World.ownsRow.frozenAt hr3 0; have tn : (0 : Int) < (rows.length : Int) := (by omega); have hl3 := (World.ownsRow.lt hr3 _ rfl).2; have H3 := Lib.hid (And.intro hr3 hb3); clear hr3 hb3)
    have h3 := H3.out
    have hst := World.ownsRow.stored h3.1 0 (.int .i64 (1 : Nat))
    rw [intsC_set] at hst
    have hb4 : Below w2.heap.size w2 (w3.setCell ⟨w2.heap.size, 0, none⟩ (.int .i64 (1 : Nat))) := h3.2.grown hst.2 h3.2.size (fun k hk => by injection hk with hk; omega)
    have hR := Lib.hid (And.intro hst.1 hb4)
    clear h3 hst hb4 H3 n0 z0 m0
    change Code.wp _ _ _ _ (w3.setCell ⟨w2.heap.size, 0, none⟩ (.int .i64 (1 : Nat)))
    generalize w3.setCell ⟨w2.heap.size, 0, none⟩ (.int .i64 (1 : Nat)) = w4 at *
    clear hl3
    go_wp2_with fail
    go_loopw [8, 9, 10] (fun nw sv kv wr => ∃ k g3 c3 : Nat, kv = .int .i64 k ∧ k ≤ n ∧ nw = .slice (some ⟨g3, 0, none⟩) rows.length c3 ∧ sv = .int .i64 (totC rows ends rows.length k : Nat) ∧ totC rows ends rows.length k ≤ 1099511627776 ∧ Below w2.heap.size w2 wr ∧ wr.ownsRow w2.heap.size 3 1 nw rows.length (intsC (nowC rows rows.length k))) (fun _ _ kv _ => n - (intOf kv).toNat)
    case atStart => exact ⟨0, _, _, rfl, Nat.zero_le _, rfl, rfl, by simp [totC], hR.out.2, hR.out.1⟩
    case round =>
      clear hR
      obtain ⟨wo, rfl⟩ : ∃ wo, wo = wr := ⟨_, rfl⟩
      obtain ⟨k, g3, c3, rfl, hk, rfl, rfl, hT, hb, hr⟩ := hrel
      have hB := Bnd.now rows rows.length k
      have hM := HN.out.1.below hb
      have eM := (hb.block _ hM1).trans HN.out.2.1
      have hbo := HN.out.2.2.trans (hb.mono HN.out.2.2.size)
      have hlo := lt_of_block eM
      have hT1 : totC rows ends rows.length (k + 1) = totC rows ends rows.length k + sumE ends (nowC rows rows.length k) rows.length := rfl
      have hNx : nowC rows rows.length (k + 1) = outerC rows (nowC rows rows.length k) rows.length := rfl
      have hso := hb.size
      have hgo := (World.ownsRow.lt hr _ rfl).2
      generalize nowC rows rows.length k = L at *
      generalize totC rows ends rows.length k = T at *
      have HO := Lib.hid (And.intro hM (And.intro eM (And.intro hr (And.intro hB (And.intro hbo (And.intro hT1 (And.intro hNx hb)))))))
      clear hM eM hr hB hbo hb hT1 hNx
      go_wp2_with fail
      go_loopw [44, 9] (fun iv sv wq => ∃ i S : Nat, iv = .int .i64 i ∧ i ≤ rows.length ∧ sv = .int .i64 S ∧ S = T + sumE ends L i ∧ wq = wo) (fun iv _ _ => rows.length - (intOf iv).toNat)
      case atStart => exact ⟨0, T, rfl, Nat.zero_le _, rfl, rfl, rfl⟩
      case round =>
        obtain ⟨i, S, rfl, hi, rfl, hS, rfl⟩ := hrel
        have hSb := sumE_le HO.out.2.2.2.1 ends i
        have hSb2 : i * bcap ≤ 400 * bcap := Nat.mul_le_mul_right _ (by omega)
        have hbc : bcap = 1099511627777 := rfl
        by_cases hlt : i < rows.length
        · have ti : (i : Int) < (rows.length : Int) := by omega
          have wi : IntKind.i64.wrap ((i : Int) + 1) = (i : Int) + 1 := IntWalk.i64_in _ ⟨by omega, by omega⟩
          have hx := HO.out.2.2.2.1.2 i
          have c0 := (World.ownsRow.cellAt HO.out.2.2.1 i (by omega)).trans (intsC_get (by rw [HO.out.2.2.2.1.1]; exact hlt))
          have m1 : wr.cell? ⟨w1.heap.size, 1, none⟩ = some (.slice (some ⟨g2, 0, none⟩) ends.length gc2) := by rw [Lib.cell_of_heap HO.out.2.1]; rfl
          have hie : i < ends.length := by have := HE.out; omega
          have te : (i : Int) < (ends.length : Int) := by omega
          have c1 := (World.ownsRow.cellAt HO.out.1.erow i (by omega)).trans (show (ends.map Value.bool)[i]? = some (.bool (ends.getD i false)) by simp [List.getD, hie])
          have hin : ((i : Int)).toNat = i := by omega
          have hS1 : sumE ends L (i + 1) = sumE ends L i + if ends.getD i false then L.getD i 0 else 0 := rfl
          have wS : IntKind.i64.wrap ((S : Int) + ((L.getD i 0 : Nat) : Int)) = (((S + L.getD i 0 : Nat)) : Int) := by
            rw [Int.natCast_add]
            exact IntWalk.i64_in _ ⟨by omega, by omega⟩
          generalize L.getD i 0 = x at *
          cases hE : ends.getD i false with
          | true =>
            rw [hE] at c1 hS1
            have hS2 : S + x = T + sumE ends L (i + 1) := by rw [hS1, hS]; simp; omega
            have HS := Lib.hid hS2
            clear hS2 hS1 hS hE hSb hSb2 hbc
            go_wp2_with fail
            exact ⟨⟨i + 1, S + x, by simp, by omega, by simp, HS.out, trivial⟩, by simp [intOf]; omega⟩
          | false =>
            rw [hE] at c1 hS1
            have hS2 : S = T + sumE ends L (i + 1) := by rw [hS1, hS]; simp
            have HS := Lib.hid hS2
            clear hS2 hS1 hS hE hSb hSb2 hbc wS
            go_wp2_with fail
            exact ⟨⟨i + 1, S, by simp, by omega, rfl, HS.out, trivial⟩, by simp [intOf]; omega⟩
        · have ti : decide ((i : Int) < (rows.length : Int)) = false := decide_eq_false (by omega)
          obtain rfl : i = rows.length := by omega
          rw [← HO.out.2.2.2.2.2.1] at hS
          by_cases hbig : 1099511627776 < S
          · have tb : (1099511627776 : Int) < (S : Int) := by omega
            have HS := Lib.hid hS
            clear hS hSb hSb2 hbc
            go_wp2_with fail
            go_returns
            refine ⟨HO.out.2.2.2.2.1, Or.inr ⟨sets, rows, ends, HN.out.1.half, Or.inl ⟨?_, rfl⟩⟩⟩
            have := totC_mono rows ends rows.length (show k + 1 ≤ n + 1 by omega)
            have := HS.out
            omega
          · have tb : decide ((1099511627776 : Int) < (S : Int)) = false := decide_eq_false (by omega)
            by_cases hkn : k = n
            · subst hkn
              have HS := Lib.hid hS
              clear hS hSb hSb2 hbc
              go_wp2_with fail
              go_returns
              refine ⟨HO.out.2.2.2.2.1, Or.inr ⟨sets, rows, ends, HN.out.1.half, Or.inr ⟨by rw [← HS.out]; omega, ?_⟩⟩⟩
              rw [← HS.out]
              rfl
            · have tkn : ¬ ((k : Int) = (n : Int)) := by omega
              have wk : IntKind.i64.wrap ((k : Int) + 1) = (k : Int) + 1 := IntWalk.i64_in _ ⟨by omega, by omega⟩
              have HS := Lib.hid hS
              clear hS hSb hSb2 hbc hi hT
              obtain ⟨wo, rfl⟩ : ∃ wo, wo = wr := ⟨_, rfl⟩
              have hlm := lt_of_block HO.out.2.1
              go_wp2_with (at_make; refine make_ints rfl _ _ _ rfl (by kernel_rfl) rows.length rfl rfl (by omega) ?_; intro w5 hr5 hb5; have hl5 := (World.ownsRow.lt hr5 _ rfl).2; have H5 := Lib.hid (And.intro hr5 hb5); clear hr5 hb5)
              have h5 := H5.out
              clear H5
              have hI := Lib.hid (And.intro h5.1 h5.2)
              clear h5
              go_loopw [69] (fun iv wq => ∃ i : Nat, iv = .int .i64 i ∧ i ≤ rows.length ∧ Below wo.heap.size wo wq ∧ wq.ownsRow wo.heap.size 3 1 (.slice (some ⟨wo.heap.size, 0, none⟩) rows.length rows.length) rows.length (intsC (outerC rows L i))) (fun iv _ => rows.length - (intOf iv).toNat)
              case atStart => exact ⟨0, rfl, Nat.zero_le _, hI.out.2, by rw [outerC, HO.out.2.2.2.1.1]; exact hI.out.1⟩
              case round =>
                clear hI
                obtain ⟨wp, rfl⟩ : ∃ wp, wp = wr := ⟨_, rfl⟩
                obtain ⟨i, rfl, hi, hbp, hrp⟩ := hrel
                have hlp := (World.ownsRow.lt hrp _ rfl).2
                by_cases hlt : i < rows.length
                · have ti : (i : Int) < (rows.length : Int) := by omega
                  have wi : IntKind.i64.wrap ((i : Int) + 1) = (i : Int) + 1 := IntWalk.i64_in _ ⟨by omega, by omega⟩
                  have hin : ((i : Int)).toNat = i := by omega
                  have hx := HO.out.2.2.2.1.2 i
                  have hgp : wp.heap[g3]? = wo.heap[g3]? := hbp.block g3 hgo
                  have c0 := (World.cell?_of_block (a := ⟨g3, i, none⟩) hgp).trans ((World.ownsRow.cellAt HO.out.2.2.1 i (by omega)).trans (intsC_get (by rw [HO.out.2.2.2.1.1]; exact hlt)))
                  have hO1 : outerC rows L (i + 1) = if L.getD i 0 = 0 then outerC rows L i else innerC (rows.getD i []) (L.getD i 0) (outerC rows L i) 256 := rfl
                  have hBO := Bnd.outer HO.out.2.2.2.1 rows i
                  have hg3p : g3 < wp.heap.size := by have := hbp.size; omega
                  clear hgp
                  generalize L.getD i 0 = x at *
                  generalize outerC rows L i = X at *
                  by_cases hx0 : x = 0
                  · subst hx0
                    rw [if_pos rfl] at hO1
                    have HH := Lib.hid (And.intro hO1 (And.intro hbp hrp))
                    clear hO1 hbp hrp hBO
                    go_wp2_with fail
                    exact ⟨⟨i + 1, by simp, by omega, HH.out.2.1, by rw [HH.out.1]; exact HH.out.2.2⟩, by simp [intOf]; omega⟩
                  · have tx : ¬ ((x : Int) = 0) := by omega
                    rw [if_neg hx0] at hO1
                    have HH := Lib.hid (And.intro hO1 (And.intro hbp (And.intro hrp hBO)))
                    clear hO1 hbp hrp hBO
                    go_wp2_with fail
                    clear c0
                    go_loopw [76] (fun bv wq => ∃ b : Nat, bv = .int .i64 b ∧ b ≤ 256 ∧ Below wo.heap.size wo wq ∧ wq.ownsRow wo.heap.size 3 1 (.slice (some ⟨wo.heap.size, 0, none⟩) rows.length rows.length) rows.length (intsC (innerC (rows.getD i []) x X b))) (fun bv _ => 256 - (intOf bv).toNat)
                    case atStart => exact ⟨0, rfl, Nat.zero_le _, HH.out.2.1, HH.out.2.2.1⟩
                    case round =>
                      obtain ⟨b, rfl, hb, hbq, hrq⟩ := hrel
                      have hlq := (World.ownsRow.lt hrq _ rfl).2
                      by_cases hlb : b < 256
                      · have tb : (b : Int) < 256 := by omega
                        have wb : IntKind.i64.wrap ((b : Int) + 1) = (b : Int) + 1 := IntWalk.i64_in _ ⟨by omega, by omega⟩
                        have hbn : ((b : Int)).toNat = b := by omega
                        have hBI := Bnd.inner HH.out.2.2.2 (rows.getD i []) x b
                        have hBn : innerC (rows.getD i []) x X (b + 1) = addC (innerC (rows.getD i []) x X b) ((rows.getD i []).getD b 0) x := rfl
                        generalize innerC (rows.getD i []) x X b = Y at *
                        have hsi : i < sets.length := by have := HN.out.1.half.rl; omega
                        obtain ⟨n', hc1, hns, r, hr1, hr2⟩ := HO.out.1.step (k := i) (b := b) (s := sets[i]) (by simp [hsi]) hlb
                        have hn' : n' < rows.length := by have := (List.getElem?_eq_some_iff.1 hns).1; have := HN.out.1.half.rl; omega
                        have hrr : (rows.getD i []).getD b 0 = n' := by simp [List.getD, hr1, hr2]
                        rw [hrr] at hBn
                        have hlg := (World.ownsRow.lt HO.out.1.nrow g rfl).2
                        have m0 : wr.cell? ⟨w1.heap.size, 0, none⟩ = some (.slice (some ⟨g, 0, none⟩) rows.length gc) := by rw [World.cell?_of_block (a := ⟨w1.heap.size, 0, none⟩) (hbq.block _ hlm), Lib.cell_of_heap HO.out.2.1]; rfl
                        have hcl := (World.cell?_of_block (a := ⟨g, i * 256 + b, none⟩) (hbq.block g hlg)).trans ((World.ownsRow.cellAt HO.out.1.nrow (i * 256 + b) (by omega)).trans hc1)
                        have y0 := (World.ownsRow.cellAt hrq n' (by omega)).trans (intsC_get (by rw [hBI.1]; exact hn'))
                        have y1 := World.ownsRow.frozenAt hrq n'
                        have hyb := hBI.2 n'
                        have tn' : (n' : Int) < (rows.length : Int) := by omega
                        have hnn : ((n' : Int)).toNat = n' := by omega
                        have hAd : addC Y n' x = Y.set n' (min (Y.getD n' 0 + x) bcap) := rfl
                        have hbc : bcap = 1099511627777 := rfl
                        have wy : IntKind.i64.wrap (((Y.getD n' 0 : Nat) : Int) + (x : Int)) = (((Y.getD n' 0 + x : Nat)) : Int) := by
                          rw [Int.natCast_add]
                          exact IntWalk.i64_in _ ⟨by omega, by omega⟩
                        generalize Y.getD n' 0 = y at *
                        have hst := World.ownsRow.stored hrq n' (.int .i64 (min (y + x) bcap : Nat))
                        rw [intsC_set] at hst
                        have hqs : wo.heap.size ≤ wr.heap.size := hbq.size
                        have hbq2 := hbq.grown hst.2 hbq.size (fun k hk => by injection hk with hk; omega)
                        have HF := Lib.hid (And.intro hBn (And.intro hAd (And.intro hst.1 hbq2)))
                        clear hBn hAd hst hbq2 hbq hrq hBI hc1 hr1 hr2 hns hrr hyb
                        go_wp2_with fail
                        have hmin : min ((y : Int) + (x : Int)) 1099511627777 = ((min (y + x) bcap : Nat) : Int) := by rw [hbc]; omega
                        refine ⟨⟨b + 1, by simp, by omega, ?_⟩, by simp [intOf]; omega⟩
                        rw [hmin, HF.out.1, HF.out.2.1]
                        exact ⟨HF.out.2.2.2, HF.out.2.2.1⟩
                      · have tb : decide ((b : Int) < 256) = false := decide_eq_false (by omega)
                        obtain rfl : b = 256 := by omega
                        rw [← HH.out.1] at hrq
                        have HF := Lib.hid (And.intro hbq hrq)
                        clear hbq hrq
                        go_wp2_with fail
                        exact ⟨⟨i + 1, by simp, by omega, HF.out.1, HF.out.2⟩, by simp [intOf]; omega⟩
                · have ti : decide ((i : Int) < (rows.length : Int)) = false := decide_eq_false (by omega)
                  obtain rfl : i = rows.length := by omega
                  rw [← HO.out.2.2.2.2.2.2.1] at hrp
                  have HF := Lib.hid (And.intro hbp hrp)
                  clear hbp hrp
                  go_wp2_with fail
                  refine ⟨⟨k + 1, wo.heap.size, rows.length, by simp, by omega, rfl, by rw [← HS.out], by rw [← HS.out]; omega, HO.out.2.2.2.2.2.2.2.trans (HF.out.1.mono hso), ownsRow_mono HF.out.2 hso⟩, by simp [intOf]; omega⟩

end Go.Proofs.Ytebcflgdjbjkoaa
