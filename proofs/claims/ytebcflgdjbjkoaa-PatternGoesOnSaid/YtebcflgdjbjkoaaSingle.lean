/- What the reader of patterns makes of a text (where it does not fail); no condition beyond those that stand there. -/
import Derived.Test.YtebcflgdjbjkoaaLink
import Derived.Test.YtebcflgdjbjkoaaTurn
import Derived.Test.YtebcflgdjbjkoaaShelf
namespace Go.Proofs.Ytebcflgdjbjkoaa
open Go.RowKit

/-- What is being read. -/
inductive Rd where
  | alt
  | altL (out : Part)
  | seq
  | seqL (out : Part)
  | item
  | atom
def pos1 (st : PSt) : PSt := ⟨st.pos + 1, st.cls, st.fol, st.bad⟩
/-- A set with all numbers below 256. -/
def sfull : Set4 := [18446744073709551615, 18446744073709551615, 18446744073709551615, 18446744073709551615]
def posG (st : PSt) (k : Set4) : Option (PSt × Part) := if st.cls.length ≤ 255 ∧ st.fol.length ≤ 255 ∧ st.pos ≤ 990 then some (posM st k) else none
def quoted : List Nat := [124, 42, 43, 63, 40, 41, 91, 93]
def singleM (s : ByteArray) (st : PSt) : Option (PSt × Nat) :=
  if st.pos < s.size ∧ st.pos ≤ 990 then
    if peekM s st.pos = 93 ∨ peekM s st.pos = 94 ∨ peekM s st.pos = 45 then none
    else if peekM s st.pos = 92 then if st.pos + 1 < s.size ∧ st.pos + 1 ≤ 990 then some (pos1 (pos1 st), peekM s (st.pos + 1)) else none
    else some (pos1 st, peekM s st.pos)
  else none
/-- The n numbers from a on are added. -/
def addR (k : Set4) (a : Nat) : Nat → Set4
  | 0 => k
  | n + 1 => sadd (addR k a n) (a + n)
def clsM (s : ByteArray) : Nat → PSt → Set4 → Option (PSt × Set4)
  | 0, _, _ => none
  | n + 1, st, k =>
    if moreM s st = true ∧ peekM s st.pos ≠ 93 then
      (singleM s st).bind fun a =>
        (if moreM s a.1 = true ∧ peekM s a.1.pos = 45 then (if a.1.pos ≤ 990 then singleM s (pos1 a.1) else none) else some a).bind fun b =>
          if b.2 < a.2 then none else clsM s n b.1 (addR k a.2 (b.2 + 1 - a.2))
    else some (st, k)
def bytesM (s : ByteArray) (n : Nat) (st : PSt) : Option (PSt × Set4) :=
  if st.bad = true ∨ 990 < st.pos then none else
  (clsM s n (if peekM s st.pos = 94 then pos1 st else st) e4).bind fun r =>
    if r.1.pos < s.size ∧ r.1.pos ≤ 990 ∧ (if peekM s st.pos = 94 then sturn r.2 else r.2) ≠ e4 then some (pos1 r.1, if peekM s st.pos = 94 then sturn r.2 else r.2) else none
def readM (s : ByteArray) : Nat → Rd → PSt → Option (PSt × Part)
  | 0, _, _ => none
  | n + 1, .alt, st => (readM s n .seq st).bind fun r => readM s n (.altL r.2) r.1
  | n + 1, .altL out, st =>
    if 990 < st.pos then none
    else if moreM s st = true ∧ peekM s st.pos = 124 then (readM s n .seq (pos1 st)).bind fun r => readM s n (.altL ⟨out.em || r.2.em, sjoin out.fst r.2.fst, sjoin out.lst r.2.lst⟩) r.1
    else some (st, out)
  | n + 1, .seq, st => readM s n (.seqL ⟨true, e4, e4⟩) st
  | n + 1, .seqL out, st =>
    if moreM s st = true ∧ peekM s st.pos ≠ 124 ∧ peekM s st.pos ≠ 41 then
      (readM s n .item st).bind fun r => readM s n (.seqL ⟨out.em && r.2.em, if out.em then sjoin out.fst r.2.fst else out.fst, sjoin (if r.2.em then out.lst else e4) r.2.lst⟩) (linkM r.1 out.lst r.2.fst)
    else some (st, out)
  | n + 1, .item, st => (readM s n .atom st).bind fun r =>
    if 990 < r.1.pos then none
    else if moreM s r.1 = true ∧ (peekM s r.1.pos = 42 ∨ peekM s r.1.pos = 43 ∨ peekM s r.1.pos = 63) then
      some (if peekM s r.1.pos ≠ 63 then linkM (pos1 r.1) r.2.lst r.2.fst else pos1 r.1, ⟨r.2.em || decide (peekM s r.1.pos ≠ 43), r.2.fst, r.2.lst⟩)
    else some r
  | n + 1, .atom, st =>
    if 990 < st.pos then none
    else if peekM s st.pos = 40 then (readM s n .alt (pos1 st)).bind fun r => if r.1.bad = false ∧ peekM s r.1.pos = 41 ∧ r.1.pos < s.size ∧ r.1.pos ≤ 990 then some (pos1 r.1, r.2) else none
    else if peekM s st.pos = 46 then posG (pos1 st) sfull
    else if peekM s st.pos = 91 then (bytesM s (s.size + 1) (pos1 st)).bind fun r => posG r.1 r.2
    else if peekM s st.pos = 92 then if st.pos + 1 < s.size then posG (pos1 (pos1 st)) (sadd e4 (peekM s (st.pos + 1))) else none
    else if peekM s st.pos ∈ quoted then none
    else posG (pos1 st) (sadd e4 (peekM s st.pos))

end Go.Proofs.Ytebcflgdjbjkoaa
/- The reader of patterns: stores into it and into a class; no condition beyond those that stand there. -/
namespace Go.Proofs.Ytebcflgdjbjkoaa
open Go.RowKit

section
variable {B R : Nat} {s : ByteArray} {st : PSt} {cv fv : Value} {W : World}
theorem RdIn.setR (h : RdIn B R s st cv fv W) (i : Nat) (v : Value) (st' : PSt) (hc : (rdC s st.pos cv fv st.bad).setIfInBounds i v = rdC s st'.pos cv fv st'.bad) (h1 : st'.cls = st.cls) (h2 : st'.fol = st.fol) (h3 : st'.pos ≤ 1000) :
    RdIn B R s st' cv fv (W.setCell ⟨R, i, none⟩ v) ∧ KeepR W (W.setCell ⟨R, i, none⟩ v) ∧ Below B W (W.setCell ⟨R, i, none⟩ v) := by
  have hne : ∀ k, k ≠ R → (W.setCell ⟨R, i, none⟩ v).heap[k]? = W.heap[k]? := fun k hk => Below.heap_setCell _ _ _ _ hk
  refine ⟨⟨h.low, by rw [heap_setS h.cell i v, hc], ?_, ?_, by rw [h1]; exact h.cok, by rw [h2]; exact h.fok, ?_⟩, ?_, (Below.refl B W).setCell (p := ⟨R, i, none⟩) h.low v⟩
  · rw [h1]
    exact row_keepP h.crow fun q hq => hne q fun e => row_ne h.crow h.cell (by decide) (e ▸ hq)
  · rw [h2]
    exact row_keepP h.frow fun q hq => hne q fun e => row_ne h.frow h.cell (by decide) (e ▸ hq)
  · have := h.len
    rw [h1, h2]
    omega
  · intro q cs T m hq a1 _ _
    refine (hne q fun e => ?_).trans hq
    rw [e, h.cell] at hq
    injection hq with hq
    injection hq with _ e2 _
    exact a1 e2.symm
theorem RdIn.bump (h : RdIn B R s st cv fv W) (hp : st.pos ≤ 990) :
    RdIn B R s (pos1 st) cv fv (W.setCell ⟨R, 1, none⟩ (.int .i64 ((st.pos : Int) + 1))) ∧ KeepR W (W.setCell ⟨R, 1, none⟩ (.int .i64 ((st.pos : Int) + 1))) ∧ Below B W (W.setCell ⟨R, 1, none⟩ (.int .i64 ((st.pos : Int) + 1))) :=
  h.setR 1 _ (pos1 st) rfl rfl rfl (by show st.pos + 1 ≤ 1000; omega)
end
theorem class_first {w : World} {P : Nat} {x : Set4} (h : w.heap[P]? = some (.cells (setC x) 114 (0, 0))) (i : Nat) (hi : i ≤ 255) :
    (w.setCell ⟨P, 0 + i / 64, none⟩ (.int .u64 (wd (sadd x i) (i / 64) : Nat))).heap[P]? = some (.cells (setC (sadd x i)) 114 (0, 0)) := by
  rw [heap_setS h (0 + i / 64) _]
  have hk : ∀ j, j ≠ i / 64 → wd (sadd x i) j = wd x j := fun j hj => by
    simp only [wd, sadd, List.getD]
    rw [List.getElem?_set_ne (by omega)]
  congr 2
  unfold setC
  rcases (show i / 64 = 0 ∨ i / 64 = 1 ∨ i / 64 = 2 ∨ i / 64 = 3 by omega) with e | e | e | e <;> rw [e] at hk ⊢ <;> simp [hk]
/-- A class that lies in a block of its own is changed: the reader is as it was. -/
theorem RdIn.at_class {B R g : Nat} {s : ByteArray} {st : PSt} {cv fv : Value} {W W' : World} (h : RdIn B R s st cv fv W) (hg : ∀ k, (cv.ownBlock = some k ∨ fv.ownBlock = some k ∨ k = R) → k ≠ g) (hk : ∀ k, k ≠ g → W'.heap[k]? = W.heap[k]?) : RdIn B R s st cv fv W' :=
  h.other (hk R (hg R (Or.inr (Or.inr rfl)))) fun k hk2 => hk k (hg k (hk2.imp id Or.inl))
theorem class_join {w : World} {P : Nat} {x : Set4} (h : w.heap[P]? = some (.cells (setC x) 114 (0, 0))) (r : Set4) : (joinW w P 0 r 4).heap[P]? = some (.cells (setC r) 114 (0, 0)) := by
  have := heap_setS (heap_setS (heap_setS (heap_setS h (0 + 0) (.int .u64 (wd r 0 : Nat))) (0 + 1) (.int .u64 (wd r 1 : Nat))) (0 + 2) (.int .u64 (wd r 2 : Nat))) (0 + 3) (.int .u64 (wd r 3 : Nat))
  exact this
theorem sturn_e4 : sturn e4 = sfull := rfl
theorem one_drew {X : Nat} {w w' : World} (h : One X w.drew w') : One X w w' := ⟨h.os, h.tape, h.output, h.size, h.other⟩

end Go.Proofs.Ytebcflgdjbjkoaa
/- The reader of patterns: one byte of a class in brackets; no condition beyond those that stand there. -/
namespace Go.Proofs.Ytebcflgdjbjkoaa
open Go.RowKit

theorem single_ways {s : ByteArray} {st : PSt} {r : PSt × Nat} (h : singleM s st = some r) : st.pos < s.size ∧ st.pos ≤ 990 ∧ (peekM s st.pos ≠ 93 ∧ peekM s st.pos ≠ 94 ∧ peekM s st.pos ≠ 45) ∧
    ((peekM s st.pos = 92 ∧ st.pos + 1 < s.size ∧ st.pos + 1 ≤ 990 ∧ r = (pos1 (pos1 st), peekM s (st.pos + 1))) ∨ (peekM s st.pos ≠ 92 ∧ r = (pos1 st, peekM s st.pos))) := by
  unfold singleM at h
  split at h
  · rename_i h1
    split at h
    · cases h
    · rename_i h2
      refine ⟨h1.1, h1.2, ⟨fun e => h2 (Or.inl e), fun e => h2 (Or.inr (Or.inl e)), fun e => h2 (Or.inr (Or.inr e))⟩, ?_⟩
      split at h
      · rename_i h3
        split at h
        · rename_i h4
          injection h with h
          exact Or.inl ⟨h3, h4.1, h4.2, h.symm⟩
        · cases h
      · rename_i h3
        injection h with h
        exact Or.inr ⟨h3, h.symm⟩
  · cases h
/-- What a call that reads on leaves: block R alone is changed. -/
def ReadPost (B R : Nat) (s : ByteArray) (st : PSt) (cv fv : Value) (v : Value) (w : World) (e : Ending) (w' : World) : Prop := e = .returned v ∧ RdIn B R s st cv fv w' ∧ One R w w'
set_option maxRecDepth 100000 in
set_option maxHeartbeats 4000000 in
theorem single_any {B R : Nat} {s : ByteArray} {st : PSt} {r : PSt × Nat} {cv fv : Value} {w : World} (hread : singleM s st = some r) (h : RdIn B R s st cv fv w) :
    Calls Try.prog 62 #[.pointer (some ⟨R, 0, none⟩)] w (ReadPost B R s r.1 cv fv (.int .u8 (r.2 : Nat)) w) := by
  obtain ⟨hps, hp9, ⟨h93, h94, h45⟩, hways⟩ := single_ways hread
  obtain ⟨⟨a0, a1, a2, a3, a4⟩, a5, a6, a7, a8⟩ := rd_cells h.cell
  have hRl := lt_of_block h.cell
  have HI := Lib.hid (And.intro h hways)
  have hdr : RdIn B R s st cv fv w.drew := h.below ⟨rfl, rfl, rfl, Nat.le_refl _, fun _ _ => rfl⟩
  clear h hways hread a2 a3 a4 a6 a7 a8 hdr
  obtain ⟨p, hp⟩ : ∃ p, p = st.pos := ⟨_, rfl⟩
  rw [← hp] at hps hp9 h93 h94 h45 a1
  have hx := peek_in s p hps
  have hxl := peek_lt s p
  have tq : decide (s.size ≤ p) = false := decide_eq_false (by omega)
  have tq2 : decide ((p : Int) ≥ (s.size : Int)) = false := decide_eq_false (by omega)
  have tq3 : (p : Int) < (s.size : Int) := by omega
  have tq4 : ((p : Int)).toNat = p := by omega
  have wp : IntKind.i64.wrap ((p : Int) + 1) = (p : Int) + 1 := IntWalk.i64_in _ ⟨by omega, by omega⟩
  generalize hc : peekM s p = c at *
  have t93 : ((c : Int) == 93) = false := beq_eq_false_iff_ne.2 (by omega)
  have t94 : ((c : Int) == 94) = false := beq_eq_false_iff_ne.2 (by omega)
  have t45 : ((c : Int) == 45) = false := beq_eq_false_iff_ne.2 (by omega)
  have HC := Lib.hid (And.intro hc hp)
  clear hc hp h93 h94 h45
  go_enter Try.func62, Try.ntmps62
  go_upto_region 1 with fail
  go_region_held3 (fun w' => w' = w.drew ∧ w'.cell? ⟨R, 0, none⟩ = some (.string s) ∧ w'.cell? ⟨R, 1, none⟩ = some (.int .i64 p)) (exact ⟨rfl, by assumption, by assumption⟩) (fail)
  go_upto_region 4 with fail
  go_region_held3 (fun w' => w' = w.drew.drew ∧ w'.cell? ⟨R, 0, none⟩ = some (.string s) ∧ w'.cell? ⟨R, 1, none⟩ = some (.int .i64 p)) (exact ⟨rfl, by assumption, by assumption⟩) (fail)
  go_upto_region 8 with fail
  obtain ⟨hr, hways⟩ := HI.out
  obtain ⟨hc, hp⟩ := HC.out
  have hbm := hr.bump (by omega)
  rw [← hp] at hbm
  have hd : Below (w.setCell ⟨R, 1, none⟩ (.int .i64 ((p : Int) + 1))).heap.size (w.setCell ⟨R, 1, none⟩ (.int .i64 ((p : Int) + 1))) (w.setCell ⟨R, 1, none⟩ (.int .i64 ((p : Int) + 1))).drew.drew := ⟨rfl, rfl, rfl, Nat.le_refl _, fun _ _ => rfl⟩
  have hr2 := hbm.1.below hd
  have ho2 : One R w (w.setCell ⟨R, 1, none⟩ (.int .i64 ((p : Int) + 1))).drew.drew := ⟨rfl, rfl, rfl, by simp, fun k hk => Below.heap_setCell _ _ _ _ hk⟩
  clear HI HC hbm hd a0 a1 a5 hx
  generalize (w.setCell ⟨R, 1, none⟩ (.int .i64 ((p : Int) + 1))).drew.drew = w2 at *
  rw [← hp] at hways
  rcases hways with ⟨h92, hps1, hps2, rfl⟩ | ⟨h92, rfl⟩
  · obtain ⟨⟨a0, a1, a2, a3, a4⟩, a5, a6, a7, a8⟩ := rd_cells hr2.cell
    obtain ⟨q, hq⟩ : ∃ q, q = p + 1 := ⟨_, rfl⟩
    have a1 : w2.cell? ⟨R, 1, none⟩ = some (.int .i64 (q : Nat)) := by rw [hq, hp]; exact a1
    have hqs : q < s.size := by omega
    have hx := peek_in s q hqs
    have hxl := peek_lt s q
    have uq : decide (s.size ≤ q) = false := decide_eq_false (by omega)
    have uq2 : decide ((q : Int) ≥ (s.size : Int)) = false := decide_eq_false (by omega)
    have uq3 : (q : Int) < (s.size : Int) := by omega
    have uq4 : ((q : Int)).toNat = q := by omega
    have wq : IntKind.i64.wrap ((q : Int) + 1) = (q : Int) + 1 := IntWalk.i64_in _ ⟨by omega, by omega⟩
    have hbm := hr2.bump (show st.pos + 1 ≤ 990 by omega)
    have hc92 : c = 92 := by rw [← hc]; exact h92
    subst hc92
    have e1 : st.pos + 1 = q := by omega
    have e2 : (pos1 st).pos = q := e1
    rw [e2] at hbm
    have hy : peekM s (p + 1) = peekM s q := by rw [hq]
    generalize peekM s q = y at *
    have HY := Lib.hid hy
    clear hy
    have HI := Lib.hid (And.intro hr2 (And.intro ho2 hbm))
    clear hr2 ho2 hbm a2 a3 a4 a6 a7 a8 hq e1 e2 hp hc h92 t93 t94 t45 tq tq2 tq3 tq4 wp hps hp9 hps1 hps2 hr
    go_upto_region 9 with fail
    go_region_held3 (fun w' => w' = w2.drew ∧ w'.cell? ⟨R, 0, none⟩ = some (.string s) ∧ w'.cell? ⟨R, 1, none⟩ = some (.int .i64 q)) (exact ⟨rfl, by assumption, by assumption⟩) (fail)
    go_upto_region 12 with fail
    go_region_held3 (fun w' => w' = w2.drew.drew ∧ w'.cell? ⟨R, 0, none⟩ = some (.string s) ∧ w'.cell? ⟨R, 1, none⟩ = some (.int .i64 q)) (exact ⟨rfl, by assumption, by assumption⟩) (fail)
    go_wp2_with fail
    go_ret
    obtain ⟨hr2, ho2, hbm⟩ := HI.out
    rw [HY.out]
    have hd2 : Below (w2.setCell ⟨R, 1, none⟩ (.int .i64 ((q : Int) + 1))).heap.size (w2.setCell ⟨R, 1, none⟩ (.int .i64 ((q : Int) + 1))) (w2.setCell ⟨R, 1, none⟩ (.int .i64 ((q : Int) + 1))).drew.drew := ⟨rfl, rfl, rfl, Nat.le_refl _, fun _ _ => rfl⟩
    have ho3 : One R w2 (w2.setCell ⟨R, 1, none⟩ (.int .i64 ((q : Int) + 1))).drew.drew := ⟨rfl, rfl, rfl, by simp, fun k hk => Below.heap_setCell _ _ _ _ hk⟩
    exact ⟨rfl, hbm.1.below hd2, ho2.trans ho3⟩
  · have t92 : ((c : Int) == 92) = false := beq_eq_false_iff_ne.2 (by rw [← hc]; omega)
    have hc2 := Lib.hid (show peekM s p = c by exact hc)
    clear hc hp
    go_wp2_with fail
    go_ret
    rw [hc2.out]
    exact ⟨rfl, hr2, ho2⟩

end Go.Proofs.Ytebcflgdjbjkoaa
