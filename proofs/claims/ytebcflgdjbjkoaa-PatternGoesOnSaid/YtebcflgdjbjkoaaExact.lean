/- (*pattern.machine).exact: the states from which a text of one byte more leads to an end; no condition beyond those that stand there. -/
import Derived.Test.YtebcflgdjbjkoaaCount
import Derived.Test.YtebcflgdjbjkoaaSrM
namespace Go.Proofs.Ytebcflgdjbjkoaa
open Go.RowKit

def anyN (p : Nat → Bool) (n : Nat) : Bool := (List.range n).any p
theorem anyN_succ (p : Nat → Bool) (n : Nat) : anyN p (n + 1) = (anyN p n || p n) := by simp [anyN, List.range_succ]
theorem anyN_true {p : Nat → Bool} {n : Nat} : anyN p n = true ↔ ∃ b, b < n ∧ p b = true := by simp [anyN]
theorem anyN_mono {p : Nat → Bool} {n m : Nat} (h : n ≤ m) (hp : anyN p n = true) : anyN p m = true := by
  obtain ⟨b, h1, h2⟩ := anyN_true.1 hp
  exact anyN_true.2 ⟨b, by omega, h2⟩
/-- The cells of a row of bools. -/
def boolC (f : Nat → Bool) (n : Nat) : List Value := (List.range n).map fun k => Value.bool (f k)
theorem boolC_len (f : Nat → Bool) (n : Nat) : (boolC f n).length = n := by simp [boolC]
theorem boolC_get {f : Nat → Bool} {n k : Nat} (h : k < n) : (boolC f n)[k]? = some (.bool (f k)) := by simp [boolC, h]
theorem boolC_ext {f g : Nat → Bool} {n : Nat} (h : ∀ k, k < n → f k = g k) : boolC f n = boolC g n := by
  refine List.map_congr_left fun k hk => ?_
  rw [h k (List.mem_range.1 hk)]
theorem boolC_set (f : Nat → Bool) (n i : Nat) (b : Bool) : (boolC f n).set i (.bool b) = boolC (fun k => if k = i then b else f k) n := by
  refine List.ext_getElem? fun k => ?_
  rcases Nat.lt_or_ge k n with hk | hk
  · by_cases e : k = i
    · subst e
      rw [List.getElem?_set_self (by rw [boolC_len]; exact hk), boolC_get hk, if_pos rfl]
    · rw [List.getElem?_set_ne (Ne.symm e), boolC_get hk, boolC_get hk, if_neg e]
  · rw [List.getElem?_eq_none (by rw [List.length_set, boolC_len]; exact hk), List.getElem?_eq_none (by rw [boolC_len]; exact hk)]
theorem bool_info : ∃ i : TypeInfo, Try.prog.info? 4 = some i ∧ i.zero = some (.bool false) ∧ i.size = 1 ∧ i.bytes = 1 := by
  have h : (Try.prog.info? 4).map (fun i => (i.zero, i.size, i.bytes)) = some (some (.bool false), 1, 1) := by kernel_rfl
  cases hi : Try.prog.info? 4 with
  | none => rw [hi] at h; simp at h
  | some i => rw [hi] at h; simp at h; exact ⟨i, rfl, h.1, h.2.1, h.2.2⟩
/-- make([]bool, n). -/
theorem make_bools {ops : Array Oper} {rest : List Oper} {o : Oper} {a : Act} {w : World} {Q : Exit → Act → World → Prop} (hg : o.guard = none) (l c : Operand) (t : TypeId) (ho : o.op = .makeSlice t l c)
    (ht : Try.prog.underlying t = some (.slice 4)) (n : Nat) (hl : a.eval l = .int .i64 n) (hc : a.eval c = .int .i64 n) (hn : n ≤ 1000)
    (hK : ∀ w', w'.ownsRow w.heap.size 4 1 (.slice (some ⟨w.heap.size, 0, none⟩) n n) n (boolC (fun _ => false) n) → Below w.heap.size w w' → wpList Try.prog ops Q rest (a.put o.dst (.slice (some ⟨w.heap.size, 0, none⟩) n n)) w') :
    wpList Try.prog ops Q (o :: rest) a w := by
  obtain ⟨i, hi, hz, h1, h8⟩ := bool_info
  refine wpList_make_full w hg l c t ho w.heap.size 4 i (.bool false) 1 ht hi hz h1 .i64 .i64 n n n hl hc rfl rfl (by rw [h8]; omega) (by unfold maxLen; omega) (Nat.le_refl _) ?_
  intro w' hr hgr
  refine hK w' ?_ ⟨hgr.os, hgr.tape, hgr.output, hgr.size, fun k hk => hgr.block k hk (by simp)⟩
  have : (madeCells (Value.bool false).cells (n * 1)).toList = boolC (fun _ => false) n := by
    rw [Nat.mul_one]
    show (madeCells #[Value.bool false] n).toList = _
    rw [toList_madeCells_one]
    unfold boolC
    exact (List.map_const' ..).symm ▸ by simp
  rw [this] at hr
  exact hr
set_option maxRecDepth 100000 in
set_option maxHeartbeats 4000000 in
theorem exact_any (B0 : Nat) (cls fol : List Set4) (x : Part) (sets : List Set4) (rows : List (List Nat)) (ends : List Bool) (nv ev : Value) (w : World) (MB : Nat) (h : MachAt B0 cls fol x sets rows ends nv ev w) (hm : w.heap[MB]? = some (.cells #[nv, ev] 58 (0, 0)))
    (f : Nat → Bool) (gq cq : Nat) (hgq : gq < w.heap.size) (hq : ∀ k, k < sets.length → w.cell? ⟨gq, k, none⟩ = some (.bool (f k))) :
    Calls Try.prog 36 #[.pointer (some ⟨MB, 0, none⟩), .slice (some ⟨gq, 0, none⟩) sets.length cq] w fun e w' => Below w.heap.size w w' ∧ ∃ v, e = .returned v ∧ w'.ownsRow w.heap.size 4 1 v sets.length (boolC (fun k => anyN (fun b => f (dM rows k b)) 256) sets.length) := by
  obtain ⟨g1, k1, rfl, hg1, -⟩ := row_some h.nrow h.rpos
  have hN := h.half.len
  have HI := Lib.hid (And.intro h (And.intro hm hq))
  have hMl := lt_of_block hm
  have hpos := h.pos
  clear h hm hq
  obtain ⟨E, hE⟩ : ∃ E : Nat → Bool, E = fun k => anyN (fun b => f (dM rows k b)) 256 := ⟨_, rfl⟩
  rw [← hE]
  have HE := Lib.hid hE
  clear hE
  go_enter Try.func36, Try.ntmps36
  go_wp2_with (at_make; refine make_bools rfl _ _ _ rfl (by kernel_rfl) sets.length rfl rfl (by omega) ?_; intro w3 hr3 hb3; have H3 := Lib.hid (And.intro hr3 hb3); clear hr3 hb3)
  have hr0 : w3.ownsRow w.heap.size 4 1 (.slice (some ⟨w.heap.size, 0, none⟩) sets.length sets.length) sets.length (boolC (fun k => if k < 0 then E k else false) sets.length) := by
    rw [boolC_ext (g := fun _ => false) (fun k _ => by rw [if_neg (Nat.not_lt_zero k)])]
    exact H3.out.1
  have H0 := Lib.hid (And.intro hr0 H3.out.2)
  clear hr0 H3
  go_loopw [13] (fun iv wr => ∃ i : Nat, iv = .int .i64 i ∧ i ≤ sets.length ∧ Below w.heap.size w wr ∧ wr.ownsRow w.heap.size 4 1 (.slice (some ⟨w.heap.size, 0, none⟩) sets.length sets.length) sets.length (boolC (fun k => if k < i then E k else false) sets.length)) (fun iv _ => sets.length - (intOf iv).toNat)
  case atStart => exact ⟨0, rfl, Nat.zero_le _, H0.out.2, H0.out.1⟩
  case round =>
    clear H0
    obtain ⟨i, rfl, hi, hb, hr⟩ := hrel
    by_cases hlt : i < sets.length
    · have ti : decide (i < sets.length) = true := decide_eq_true hlt
      have tiI : (i : Int) < (sets.length : Int) := by omega
      have wi : IntKind.i64.wrap ((i : Int) + 1) = (i : Int) + 1 := IntWalk.i64_in _ ⟨by omega, by omega⟩
      have hni : ((i : Int)).toNat = i := by omega
      have HO := Lib.hid (And.intro hb hr)
      clear hb hr
      go_wp2_with fail
      go_loopw [7] (fun bv wr => ∃ b : Nat, bv = .int .i64 b ∧ b ≤ 256 ∧ Below w.heap.size w wr ∧ wr.ownsRow w.heap.size 4 1 (.slice (some ⟨w.heap.size, 0, none⟩) sets.length sets.length) sets.length (boolC (fun k => if k < i then E k else if k = i then anyN (fun c => f (dM rows i c)) b else false) sets.length)) (fun bv _ => 256 - (intOf bv).toNat)
      case atStart =>
        refine ⟨0, rfl, Nat.zero_le _, HO.out.1, ?_⟩
        have e := boolC_ext (n := sets.length) (f := fun k => if k < i then E k else false) (g := fun k => if k < i then E k else if k = i then anyN (fun c => f (dM rows i c)) 0 else false) (fun k _ => by
          by_cases h1 : k < i
          · simp only [if_pos h1]
          · simp only [if_neg h1]
            split <;> rfl)
        rw [← e]
        exact HO.out.2
      case round =>
        clear HO
        obtain ⟨b, rfl, hb6, hb, hr⟩ := hrel
        by_cases hlb : b < 256
        · have tb : (b : Int) < 256 := by omega
          have wb : IntKind.i64.wrap ((b : Int) + 1) = (b : Int) + 1 := IntWalk.i64_in _ ⟨by omega, by omega⟩
          have hnb : ((b : Int)).toNat = b := by omega
          have c0 := (World.ownsRow.cellAt hr i (by omega)).trans (boolC_get hlt)
          have z0 := World.ownsRow.frozenAt hr i
          rw [if_neg (Nat.lt_irrefl _), if_pos rfl] at c0
          cases hany : anyN (fun c => f (dM rows i c)) b with
          | true =>
            rw [hany] at c0
            have hEi : E i = true := by rw [HE.out]; exact anyN_mono hb6 hany
            have hrn : wr.ownsRow w.heap.size 4 1 (.slice (some ⟨w.heap.size, 0, none⟩) sets.length sets.length) sets.length (boolC (fun k => if k < i + 1 then E k else false) sets.length) := by
              have e := boolC_ext (n := sets.length) (f := fun k => if k < i + 1 then E k else false) (g := fun k => if k < i then E k else if k = i then anyN (fun c => f (dM rows i c)) b else false) (fun k _ => by
                rcases Nat.lt_trichotomy k i with h1 | h1 | h1
                · simp only [if_pos h1, if_pos (show k < i + 1 by omega)]
                · subst h1
                  simp only [if_pos (show k < k + 1 by omega), if_neg (Nat.lt_irrefl _), if_true, hany, hEi]
                · simp only [if_neg (show ¬ k < i by omega), if_neg (show ¬ k < i + 1 by omega), if_neg (show ¬ k = i by omega)])
              rw [e]
              exact hr
            have HO := Lib.hid (And.intro hb hrn)
            clear hb hr hrn hany hEi
            go_wp2_with fail
            exact ⟨⟨i + 1, by simp, by omega, HO.out.1, HO.out.2⟩, by simp [intOf]; omega⟩
          | false =>
            rw [hany] at c0
            have hM := HI.out.1.below hb
            have hbk := fun k hk => hb.block k hk
            have m0 : wr.cell? ⟨MB, 0, none⟩ = some (.slice (some ⟨g1, 0, none⟩) rows.length k1) := by rw [World.cell?_of_block (hb.block MB hMl), Lib.cell_of_heap HI.out.2.1]; rfl
            have hs := List.getElem?_eq_getElem hlt
            have q1 := (World.ownsRow.cellAt hM.nrow (i * 256 + b) (by have := hM.half.rl; omega)).trans (hM.dstep hs hlb).1
            have dl := hM.dlt hlt hlb
            have q2 := HI.out.2.2 _ dl
            rw [← World.cell?_of_block (hb.block gq hgq)] at q2
            have tiR : (i : Int) < (rows.length : Int) := by have := hM.half.rl; omega
            have hst := World.ownsRow.stored hr i (.bool (f (dM rows i b)))
            rw [boolC_set] at hst
            have hrn : (wr.setCell ⟨w.heap.size, i, none⟩ (.bool (f (dM rows i b)))).ownsRow w.heap.size 4 1 (.slice (some ⟨w.heap.size, 0, none⟩) sets.length sets.length) sets.length (boolC (fun k => if k < i then E k else if k = i then anyN (fun c => f (dM rows i c)) (b + 1) else false) sets.length) := by
              have e := boolC_ext (n := sets.length) (f := fun k => if k < i then E k else if k = i then anyN (fun c => f (dM rows i c)) (b + 1) else false) (g := fun k => if k = i then f (dM rows i b) else if k < i then E k else if k = i then anyN (fun c => f (dM rows i c)) b else false) (fun k _ => by
                by_cases h1 : k = i
                · subst h1
                  simp only [if_neg (Nat.lt_irrefl _), if_true]
                  rw [anyN_succ, hany, Bool.false_or]
                · simp only [if_neg h1])
              rw [e]
              exact hst.1
            have hbn : Below w.heap.size w (wr.setCell ⟨w.heap.size, i, none⟩ (.bool (f (dM rows i b)))) := hb.setCell (p := ⟨w.heap.size, i, none⟩) (Nat.le_refl _) _
            obtain ⟨fv, hfv⟩ : ∃ v, v = f (dM rows i b) := ⟨_, rfl⟩
            rw [← hfv] at q2 hrn hbn
            generalize dM rows i b = u at *
            have hnu : ((u : Int)).toNat = u := by omega
            have tu : (u : Int) < (sets.length : Int) := by omega
            have HO := Lib.hid (And.intro hbn hrn)
            clear hb hr hrn hbn hst hM hbk hs dl hany hfv
            go_wp2_with fail
            exact ⟨⟨b + 1, by simp, by omega, HO.out.1, HO.out.2⟩, by simp [intOf]; omega⟩
        · have tb : decide ((b : Int) < 256) = false := decide_eq_false (by omega)
          obtain rfl : b = 256 := by omega
          have hrn : wr.ownsRow w.heap.size 4 1 (.slice (some ⟨w.heap.size, 0, none⟩) sets.length sets.length) sets.length (boolC (fun k => if k < i + 1 then E k else false) sets.length) := by
            have e := boolC_ext (n := sets.length) (f := fun k => if k < i + 1 then E k else false) (g := fun k => if k < i then E k else if k = i then anyN (fun c => f (dM rows i c)) 256 else false) (fun k _ => by
              rcases Nat.lt_trichotomy k i with h1 | h1 | h1
              · simp only [if_pos h1, if_pos (show k < i + 1 by omega)]
              · subst h1
                simp only [if_pos (show k < k + 1 by omega), if_neg (Nat.lt_irrefl _), if_true, HE.out]
              · simp only [if_neg (show ¬ k < i by omega), if_neg (show ¬ k < i + 1 by omega), if_neg (show ¬ k = i by omega)])
            rw [e]
            exact hr
          have HO := Lib.hid (And.intro hb hrn)
          clear hb hr hrn
          go_wp2_with fail
          exact ⟨⟨i + 1, by simp, by omega, HO.out.1, HO.out.2⟩, by simp [intOf]; omega⟩
    · have ti : decide (i < sets.length) = false := decide_eq_false hlt
      have hii : i = sets.length := by omega
      have e := boolC_ext (n := sets.length) (f := fun k => if k < i then E k else false) (g := E) (fun k hk => by rw [if_pos (by omega)])
      rw [e] at hr
      have HO := Lib.hid (And.intro hb hr)
      clear hb hr hii e
      go_wp2_with fail
      go_ret
      exact ⟨HO.out.1, _, rfl, HO.out.2⟩

end Go.Proofs.Ytebcflgdjbjkoaa
