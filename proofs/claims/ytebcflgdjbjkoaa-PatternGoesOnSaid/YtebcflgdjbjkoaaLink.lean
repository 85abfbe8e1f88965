/- The reader of patterns: link; no condition beyond those that stand there. -/
import Derived.Test.YtebcflgdjbjkoaaPos
namespace Go.Proofs.Ytebcflgdjbjkoaa
open Go.RowKit

theorem flat_set4 (r : Set4) : ∀ (l : List Set4) (i : Nat), i < l.length → ((((flatC l).set (i * 4 + 0) (.int .u64 (wd r 0 : Nat))).set (i * 4 + 1) (.int .u64 (wd r 1 : Nat))).set (i * 4 + 2) (.int .u64 (wd r 2 : Nat))).set (i * 4 + 3) (.int .u64 (wd r 3 : Nat)) = flatC (l.set i r)
  | [], _, h => absurd h (Nat.not_lt_zero _)
  | a :: l, 0, _ => rfl
  | a :: l, i + 1, h => by
    have := flat_set4 r l i (by simpa using h)
    rw [Nat.add_zero] at this
    rw [show (i + 1) * 4 + 0 = (i * 4 + 0) + 4 by omega, show (i + 1) * 4 + 1 = (i * 4 + 1) + 4 by omega, show (i + 1) * 4 + 2 = (i * 4 + 2) + 4 by omega, show (i + 1) * 4 + 3 = (i * 4 + 3) + 4 by omega]
    simp only [flatC, List.set_cons_succ]
    rw [this]
theorem flat_set (r : Set4) (l : List Set4) (i : Nat) (h : i < l.length) : (List.range 4).foldl (fun ys j => ys.set (i * 4 + j) (.int .u64 (wd r j : Nat))) (flatC l) = flatC (l.set i r) := flat_set4 r l i h
/-- What link makes of the rows. -/
def linkF (f t : Set4) (l : List Set4) (n : Nat) : List Set4 := (List.range n).foldl (fun l i => if mem f i then l.set i (sjoin (l.getD i []) t) else l) l
theorem linkF_succ (f t : Set4) (l : List Set4) (n : Nat) : linkF f t l (n + 1) = if mem f n then (linkF f t l n).set n (sjoin ((linkF f t l n).getD n []) t) else linkF f t l n := by
  unfold linkF
  rw [List.range_succ, List.foldl_append]
  rfl
theorem linkF_len (f t : Set4) (l : List Set4) : ∀ n, (linkF f t l n).length = l.length
  | 0 => rfl
  | n + 1 => by
    rw [linkF_succ]
    split
    · rw [List.length_set, linkF_len f t l n]
    · exact linkF_len f t l n
theorem sjoin_words {s t : Set4} (hs : Words s) (ht : Words t) : Words (sjoin s t) := by
  refine ⟨by simp [sjoin, hs.1, ht.1], fun x hx => ?_⟩
  obtain ⟨i, hi⟩ := List.getElem?_of_mem hx
  have hil := (List.getElem?_eq_some_iff.1 hi).1
  have hl : i < 4 := by simp [sjoin, hs.1, ht.1] at hil; exact hil
  have e : wd (sjoin s t) i = x := by simp [wd, List.getD, hi]
  have h1 := sjoin_word hs ht i hl
  rw [← e]
  have hlt := Nat.or_lt_two_pow (n := 64) (show wd s i < 2 ^ 64 from word_lt hs i) (show wd t i < 2 ^ 64 from word_lt ht i)
  rw [u64_or _ _ (word_lt hs _) (word_lt ht _)] at h1
  have : wd (sjoin s t) i = wd s i ||| wd t i := by exact_mod_cast h1.symm
  omega
theorem getD_mem {l : List Set4} {i : Nat} (h : i < l.length) : l.getD i [] ∈ l := by
  have e : l.getD i [] = l[i] := by simp [List.getD, h]
  rw [e]
  exact List.getElem_mem h
theorem below_drewA (w : World) (o : Obj) : Below w.heap.size w (w.drew.alloc o) := by
  have h := (Below.refl w.heap.size w).alloc (Nat.le_refl _) o
  exact ⟨h.os, h.tape, h.output, h.size, h.block⟩
def linkM (st : PSt) (f t : Set4) : PSt := ⟨st.pos, st.cls, linkF f t st.fol st.fol.length, st.bad⟩
theorem RdIn.join_fol {B R g c : Nat} {s : ByteArray} {st : PSt} {cv : Value} {W : World} {n : Nat} (h : RdIn B R s st cv (.slice (some ⟨g, 0, none⟩) n c) W) (i : Nat) (hi : i < st.fol.length) (r : Set4) (hr : Words r) :
    RdIn B R s ⟨st.pos, st.cls, st.fol.set i r, st.bad⟩ cv (.slice (some ⟨g, 0, none⟩) n c) (joinW W g (i * 4) r 4) ∧ KeepR W (joinW W g (i * 4) r 4) ∧ Below B W (joinW W g (i * 4) r 4) := by
  have hg := World.ownsRow.lt h.frow g rfl
  have hRg : R ≠ g := fun e => row_ne h.frow h.cell (by decide) (by rw [e]; rfl)
  have hb : ∀ k, k ≠ g → (joinW W g (i * 4) r 4).heap[k]? = W.heap[k]? := fun k hk => joinW_block W g (i * 4) r k hk 4
  refine ⟨⟨h.low, (hb R hRg).trans h.cell, ?_, ?_, h.cok, ?_, ?_⟩, ?_, joinW_below W g (i * 4) r B hg.1 4⟩
  · refine row_keepP h.crow fun q hq => hb q fun e => ?_
    rcases h.frow.2 with ⟨h1, _⟩ | ⟨g2, c2, cur, h1, _, hg2, _⟩
    · cases h1
    · simp only [Value.slice.injEq, Option.some.injEq, Addr.mk.injEq, and_true] at h1
      obtain ⟨e1, _⟩ := h1
      rw [← e1, ← e] at hg2
      exact row_ne h.crow hg2 (by decide) hq
  · have := joinW_row (i * 4) r h.frow rfl 4
    rw [flat_set r st.fol i hi] at this
    show World.ownsRow _ _ _ _ _ (st.fol.set i r).length _
    rw [List.length_set]
    exact this
  · intro x hx
    rcases List.mem_or_eq_of_mem_set hx with h1 | rfl
    · exact h.fok x h1
    · exact hr
  · have := h.len
    simp
    omega
  · intro q cs T m hq _ _ h3
    refine (hb q fun e => ?_).trans hq
    exact row_ne h.frow (e ▸ hq) h3 rfl
set_option maxRecDepth 100000 in
set_option maxHeartbeats 4000000 in
theorem link_any {B R : Nat} {s : ByteArray} {st : PSt} {w : World} (h : RdAt B R s st w) (f t : Set4) (ht : Words t) :
    Calls Try.prog 56 #[.pointer (some ⟨R, 0, none⟩), .agg (setC f), .agg (setC t)] w fun e w' => e = .returned (.tuple #[]) ∧ RdAt B R s (linkM st f t) w' ∧ Below B w w' ∧ KeepR w w' := by
  obtain ⟨cv, fv, h, hlen⟩ := h
  obtain ⟨fa, fc, rfl, hfc⟩ := row_slice h.frow
  have hRl := lt_of_block h.cell
  have hBw : B ≤ w.heap.size := Nat.le_trans h.low (Nat.le_of_lt hRl)
  have hab : Below w.heap.size w ((w.alloc (.cells (setC f) 88 (0, 0))).alloc (.cells (setC t) 88 (0, 0))) := ((Below.refl w.heap.size w).alloc (Nat.le_refl _) _).alloc (by simp) _
  have e1 : ((w.alloc (.cells (setC f) 88 (0, 0))).alloc (.cells (setC t) 88 (0, 0))).heap[w.heap.size]? = some (.cells (setC f) 88 (0, 0)) := pair1 w _ _
  have e2 : ((w.alloc (.cells (setC f) 88 (0, 0))).alloc (.cells (setC t) 88 (0, 0))).heap[w.heap.size + 1]? = some (.cells (setC t) 88 (0, 0)) := pair2 w _ _
  have hr := h.below hab
  generalize hN : st.fol.length = N at *
  have hrowlt : ∀ g, (Value.slice fa N fc).ownBlock = some g → g < w.heap.size := fun g hg => by have := h.frow; rw [hN] at this; exact (World.ownsRow.lt this g hg).2
  have HI := Lib.hid (And.intro hr (And.intro e1 (And.intro e2 (And.intro hab (And.intro hlen (And.intro hrowlt ht))))))
  have hN256 : N ≤ 256 := by have := h.len.2.1; omega
  clear h hr e1 e2 hab hlen hrowlt
  go_enter Try.func56, Try.ntmps56
  go_upto_region 1 with fail
  have hi := HI.out
  clear HI
  generalize (w.alloc (.cells (setC f) 88 (0, 0))).alloc (.cells (setC t) 88 (0, 0)) = W at *
  obtain ⟨hr, e1, e2, hab, hlen, hrowlt, ht⟩ := hi
  obtain ⟨⟨a0, a1, a2, a3, a4⟩, -⟩ := rd_cells hr.cell
  have HI := Lib.hid (And.intro hr (And.intro e1 (And.intro e2 (And.intro hab (And.intro hlen (And.intro hrowlt ht))))))
  clear hr e1 e2 hab hlen hrowlt
  go_wp2_with fail
  go_loopw [13] (fun iv wr => ∃ i : Nat, iv = .int .i64 i ∧ i ≤ N ∧ RdIn B R s ⟨st.pos, st.cls, linkF f t st.fol i, st.bad⟩ cv (.slice fa N fc) wr ∧ wr.heap[w.heap.size]? = some (.cells (setC f) 88 (0, 0)) ∧ wr.heap[w.heap.size + 1]? = some (.cells (setC t) 88 (0, 0)) ∧ Below B w wr ∧ KeepR w wr) (fun iv _ => N - (intOf iv).toNat)
  case atStart => exact ⟨0, rfl, Nat.zero_le _, HI.out.1, HI.out.2.1, HI.out.2.2.1, HI.out.2.2.2.1.mono hBw, KeepR.of_below HI.out.2.2.2.1⟩
  case round =>
    obtain ⟨i, rfl, hi, hri, q1, q2, hbi, hki⟩ := hrel
    by_cases hlt : i < N
    · have ti : (i : Int) < (N : Int) := by omega
      have wi : IntKind.i64.wrap ((i : Int) + 1) = (i : Int) + 1 := IntWalk.i64_in _ ⟨by omega, by omega⟩
      have hni : ((i : Int)).toNat = i := by omega
      have hlf := linkF_len f t st.fol i
      have hsucc := linkF_succ f t st.fol i
      obtain ⟨g, cap, hg⟩ := ownsRow_formW hri.frow (by show 0 < (linkF f t st.fol i).length; omega)
      simp only [Value.slice.injEq] at hg
      obtain ⟨rfl, -, rfl⟩ := hg
      generalize linkF f t st.fol i = L at *
      have hiL : i < L.length := by omega
      have hHas := Lib.hid (set_has w.heap.size 0 f i (by omega) wr (setAt_of q1))
      have hri0 := hri
      have HR := Lib.hid (And.intro hri (And.intro q1 (And.intro q2 (And.intro hbi (And.intro hki (And.intro hlf hsucc))))))
      clear hri q1 q2 hbi hki hlf hsucc hri0
      go_wp2_with fail
      refine hHas.out.mono ?_
      rintro e w3 ⟨rfl, rfl⟩
      cases hm : mem f i
      · clear hHas
        go_wp2_with fail
        refine ⟨⟨i + 1, by simp, by omega, ?_, HR.out.2.1, HR.out.2.2.1, HR.out.2.2.2.1, HR.out.2.2.2.2.1⟩, by simp [intOf]; omega⟩
        rw [HR.out.2.2.2.2.2.2, hm]
        exact HR.out.1
      · clear hHas
        obtain ⟨⟨a0, a1, a2, a3, a4⟩, -⟩ := rd_cells HR.out.1.cell
        have q2 : w3.drew.heap[w.heap.size + 1]? = some (.cells (setC t) 88 (0, 0)) := HR.out.2.2.1
        have t0 : w3.drew.cell? ⟨w.heap.size + 1, 0, none⟩ = some (.int .u64 (wd t 0 : Nat)) := by rw [Lib.cell_of_heap q2]; rfl
        have t1 : w3.drew.cell? ⟨w.heap.size + 1, 1, none⟩ = some (.int .u64 (wd t 1 : Nat)) := by rw [Lib.cell_of_heap q2]; rfl
        have t2 : w3.drew.cell? ⟨w.heap.size + 1, 2, none⟩ = some (.int .u64 (wd t 2 : Nat)) := by rw [Lib.cell_of_heap q2]; rfl
        have t3 : w3.drew.cell? ⟨w.heap.size + 1, 3, none⟩ = some (.int .u64 (wd t 3 : Nat)) := by rw [Lib.cell_of_heap q2]; rfl
        have hLN : L.length = N := by have := HR.out.2.2.2.2.2.1; omega
        have hfr := HR.out.1.frow
        change w3.ownsRow B 88 4 (.slice (some ⟨g, 0, none⟩) N fc) L.length (flatC L) at hfr
        rw [hLN] at hfr
        have hgl := World.ownsRow.lt hfr g rfl
        have hSA : SetAt g (i * 4) (L.getD i []) w3.drew := fun j hj => by
          have h1 := World.ownsRow.cellAt hfr (i * 4 + j) (by omega)
          exact h1.trans (flat_get L i j hiL hj)
        have hxw : Words (L.getD i []) := HR.out.1.fok _ (getD_mem hiL)
        have hJ := Lib.hid (set_join g (i * 4) (L.getD i []) t w3.drew hxw ht hgl.2 hSA (fun j => (World.frozen?_of_block (a := ⟨g, j, none⟩) rfl).trans (World.ownsRow.frozenAt hfr j)))
        have hJW := sjoin_words hxw ht
        have hJ2 := Lib.hid (RdIn.join_fol (W := w3.drew.alloc (.cells (setC t) 88 (0, 0))) (RdIn.below HR.out.1 (W' := w3.drew.alloc (.cells (setC t) 88 (0, 0))) (below_drewA w3 _)) i hiL _ hJW)
        clear q2 hSA hfr
        have hgw : g < w.heap.size := HI.out.2.2.2.2.2.1 g rfl
        go_upto_region 5 with fail
        go_region_law (first
          | (go_simp; go_at_call 51; refine hJ.out.mono ?_
             rintro e w5 ⟨rfl, hw5⟩
             have h5 := hJ2.out.1
             have hb5 := hJ2.out.2.2
             have hk5 := hJ2.out.2.1
             have hblk := fun k (hk : k ≠ g) => joinW_block (w3.drew.alloc (.cells (setC t) 88 (0, 0))) g (i * 4) (sjoin (L.getD i []) t) k hk 4
             rw [← hw5] at h5 hb5 hk5 hblk
             have c1 := (hblk w.heap.size (by omega)).trans (((below_drewA w3 (.cells (setC t) 88 (0, 0))).block _ (lt_of_block HR.out.2.1)).trans HR.out.2.1)
             have c2 := (hblk (w.heap.size + 1) (by omega)).trans (((below_drewA w3 (.cells (setC t) 88 (0, 0))).block _ (lt_of_block HR.out.2.2.1)).trans HR.out.2.2.1)
             have H5 := Lib.hid (And.intro h5 (And.intro c1 (And.intro c2 (And.intro (HR.out.2.2.2.1.trans (((below_drewA w3 (.cells (setC t) 88 (0, 0))).mono (Nat.le_of_lt (Nat.lt_of_le_of_lt hgl.1 hgl.2))).trans hb5)) (HR.out.2.2.2.2.1.trans ((KeepR.of_below (below_drewA w3 (.cells (setC t) 88 (0, 0)))).trans hk5))))))
             clear h5 hb5 hk5 hblk c1 c2 hw5))
        all_goals
          go_wp2_with fail
          refine ⟨⟨i + 1, by simp, by omega, ?_, H5.out.2.1, H5.out.2.2.1, H5.out.2.2.2.1, H5.out.2.2.2.2⟩, by simp [intOf]; omega⟩
          rw [HR.out.2.2.2.2.2.2, hm]
          exact H5.out.1
    · have ti : decide ((i : Int) < (N : Int)) = false := decide_eq_false (by omega)
      obtain rfl : i = N := by omega
      go_wp2_with fail
      go_returns
      refine ⟨rfl, ⟨cv, .slice fa i fc, ?_, ?_⟩, hbi, hki⟩
      · unfold linkM
        rw [hN]
        exact hri
      · show st.cls.length = (linkF f t st.fol st.fol.length).length
        rw [linkF_len, HI.out.2.2.2.2.1, hN]

end Go.Proofs.Ytebcflgdjbjkoaa
