/- The reader of patterns: classes in brackets; no condition beyond those that stand there. -/
import Derived.Deep.LoopGhost
import Derived.DeepKeys
import Derived.Test.YtebcflgdjbjkoaaSingle
namespace Go.Proofs.Ytebcflgdjbjkoaa
open Go.RowKit

theorem addR_words {k : Set4} (hk : Words k) (a : Nat) : ∀ n, Words (addR k a n)
  | 0 => hk
  | n + 1 => sadd_words (addR_words hk a n) _
theorem single_st {s : ByteArray} {st : PSt} {r : PSt × Nat} (h : singleM s st = some r) : r.1.cls = st.cls ∧ r.1.fol = st.fol ∧ r.1.bad = st.bad ∧ r.2 < 256 := by
  obtain ⟨_, _, _, ⟨_, _, _, rfl⟩ | ⟨_, rfl⟩⟩ := single_ways h
  · exact ⟨rfl, rfl, rfl, peek_lt _ _⟩
  · exact ⟨rfl, rfl, rfl, peek_lt _ _⟩
/-- One round of a class. -/
theorem cls_ways {s : ByteArray} {n : Nat} {st : PSt} {k : Set4} {r : PSt × Set4} (h : clsM s n st k = some r) : ∃ m, n = m + 1 ∧
    ((moreM s st = false ∧ r = (st, k)) ∨ (moreM s st = true ∧ peekM s st.pos = 93 ∧ r = (st, k)) ∨
     (moreM s st = true ∧ peekM s st.pos ≠ 93 ∧ ∃ a, singleM s st = some a ∧ ∃ b, b.2 ≥ a.2 ∧ b.2 < 256 ∧ clsM s m b.1 (addR k a.2 (b.2 + 1 - a.2)) = some r ∧
       ((moreM s a.1 = true ∧ peekM s a.1.pos = 45 ∧ a.1.pos ≤ 990 ∧ singleM s (pos1 a.1) = some b) ∨ (moreM s a.1 = false ∧ b = a) ∨ (moreM s a.1 = true ∧ peekM s a.1.pos ≠ 45 ∧ b = a)))) := by
  cases n with
  | zero => cases h
  | succ n =>
    refine ⟨n, rfl, ?_⟩
    unfold clsM at h
    split at h
    · rename_i hc
      refine Or.inr (Or.inr ⟨hc.1, hc.2, ?_⟩)
      cases ha : singleM s st with
      | none => rw [ha] at h; cases h
      | some a =>
        refine ⟨a, rfl, ?_⟩
        rw [ha] at h
        simp only [Option.bind_some] at h
        have fin : ∀ b : PSt × Nat, (if b.2 < a.2 then none else clsM s n b.1 (addR k a.2 (b.2 + 1 - a.2))) = some r → b.2 ≥ a.2 ∧ clsM s n b.1 (addR k a.2 (b.2 + 1 - a.2)) = some r := fun b hb => by
          split at hb
          · cases hb
          · rename_i hlt
            exact ⟨by omega, hb⟩
        split at h
        · rename_i hd
          split at h
          · rename_i h9
            cases hb : singleM s (pos1 a.1) with
            | none => rw [hb] at h; cases h
            | some b =>
              rw [hb] at h
              simp only [Option.bind_some] at h
              obtain ⟨h1, h2⟩ := fin b h
              exact ⟨b, h1, (single_st hb).2.2.2, h2, Or.inl ⟨hd.1, hd.2, h9, rfl⟩⟩
          · cases h
        · rename_i hd
          simp only [Option.bind_some] at h
          obtain ⟨h1, h2⟩ := fin a h
          refine ⟨a, h1, (single_st ha).2.2.2, h2, Or.inr ?_⟩
          cases hm : moreM s a.1 with
          | false => exact Or.inl ⟨rfl, rfl⟩
          | true => exact Or.inr ⟨rfl, fun e => hd ⟨hm, e⟩, rfl⟩
    · rename_i hc
      injection h with h
      cases hm : moreM s st with
      | false => exact Or.inl ⟨rfl, h.symm⟩
      | true =>
        refine Or.inr (Or.inl ⟨rfl, ?_, h.symm⟩)
        by_cases e : peekM s st.pos = 93
        · exact e
        · exact absurd ⟨hm, e⟩ hc
theorem cls_st {s : ByteArray} : ∀ {n : Nat} {st : PSt} {k : Set4} {r : PSt × Set4}, clsM s n st k = some r → r.1.cls = st.cls ∧ r.1.fol = st.fol ∧ r.1.bad = st.bad ∧ (Words k → Words r.2)
  | 0, _, _, _, h => by cases h
  | n + 1, st, k, r, h => by
    obtain ⟨m, hm, h1 | h1 | ⟨_, _, a, ha, b, hb1, hb2, hn, hw⟩⟩ := cls_ways h
    · rw [h1.2]; exact ⟨rfl, rfl, rfl, fun h => h⟩
    · rw [h1.2.2]; exact ⟨rfl, rfl, rfl, fun h => h⟩
    · have : m = n := by omega
      subst this
      have e1 := single_st ha
      have e2 := cls_st hn
      have e3 : b.1.cls = a.1.cls ∧ b.1.fol = a.1.fol ∧ b.1.bad = a.1.bad := by
        rcases hw with ⟨_, _, _, hw⟩ | ⟨_, rfl⟩ | ⟨_, _, rfl⟩
        · have := single_st hw
          exact ⟨this.1, this.2.1, this.2.2.1⟩
        · exact ⟨rfl, rfl, rfl⟩
        · exact ⟨rfl, rfl, rfl⟩
      exact ⟨e2.1.trans (e3.1.trans e1.1), e2.2.1.trans (e3.2.1.trans e1.2.1), e2.2.2.1.trans (e3.2.2.trans e1.2.2.1), fun hk => e2.2.2.2 (addR_words hk _ _)⟩
theorem bytes_ways {s : ByteArray} {n : Nat} {st : PSt} {r : PSt × Set4} (h : bytesM s n st = some r) : st.bad = false ∧ st.pos ≤ 990 ∧
    ((peekM s st.pos = 94 ∧ ∃ r0, clsM s n (pos1 st) e4 = some r0 ∧ r0.1.pos < s.size ∧ r0.1.pos ≤ 990 ∧ sturn r0.2 ≠ e4 ∧ r = (pos1 r0.1, sturn r0.2)) ∨
     (peekM s st.pos ≠ 94 ∧ ∃ r0, clsM s n st e4 = some r0 ∧ r0.1.pos < s.size ∧ r0.1.pos ≤ 990 ∧ r0.2 ≠ e4 ∧ r = (pos1 r0.1, r0.2))) := by
  unfold bytesM at h
  split at h
  · cases h
  rename_i hb0
  refine ⟨?_, ?_, ?_⟩
  · cases hb : st.bad with
    | false => rfl
    | true => exact absurd (Or.inl hb) hb0
  · rcases Nat.lt_or_ge 990 st.pos with h1 | h1
    · exact absurd (Or.inr h1) hb0
    · exact h1
  · by_cases hp : peekM s st.pos = 94
    · simp only [hp, if_true] at h
      cases ha : clsM s n (pos1 st) e4 with
      | none => rw [ha] at h; cases h
      | some r0 =>
        rw [ha] at h
        simp only [Option.bind_some] at h
        split at h
        · rename_i hq
          injection h with h
          exact Or.inl ⟨hp, r0, rfl, hq.1, hq.2.1, hq.2.2, h.symm⟩
        · cases h
    · simp only [hp, if_false] at h
      cases ha : clsM s n st e4 with
      | none => rw [ha] at h; cases h
      | some r0 =>
        rw [ha] at h
        simp only [Option.bind_some] at h
        split at h
        · rename_i hq
          injection h with h
          exact Or.inr ⟨hp, r0, rfl, hq.1, hq.2.1, hq.2.2, h.symm⟩
        · cases h
theorem bytes_st {s : ByteArray} {n : Nat} {st : PSt} {r : PSt × Set4} (h : bytesM s n st = some r) : r.1.cls = st.cls ∧ r.1.fol = st.fol ∧ r.1.bad = st.bad := by
  obtain ⟨_, _, ⟨_, r0, hc, _, _, _, rfl⟩ | ⟨_, r0, hc, _, _, _, rfl⟩⟩ := bytes_ways h
  · have := cls_st hc; exact ⟨this.1, this.2.1, this.2.2.1⟩
  · have := cls_st hc; exact ⟨this.1, this.2.1, this.2.2.1⟩
/-- Memory while a class is read: the reader R, the class C, the result X. -/
structure ClsAt (B R : Nat) (s : ByteArray) (cv fv : Value) (st : PSt) (k : Set4) (w : World) (X C : Nat) (W : World) : Prop where
  rd : RdIn B R s st cv fv W
  eC : W.heap[C]? = some (.cells (setC k) 114 (0, 0))
  eX : W.heap[X]? = some (.cells (setC e4) 114 (0, 0))
  ne : R ≠ C ∧ R ≠ X ∧ X ≠ C ∧ ∀ q, (cv.ownBlock = some q ∨ fv.ownBlock = some q) → q ≠ C ∧ q ≠ X
  bel : Below B w W
  kp : ∀ q, q < w.heap.size → q ≠ R → W.heap[q]? = w.heap[q]?
  lo : B ≤ w.heap.size ∧ w.heap.size ≤ C ∧ w.heap.size ≤ X
  wk : Words k
section
variable {B R : Nat} {s : ByteArray} {cv fv : Value} {st : PSt} {k : Set4} {w : World} {X C : Nat} {W W' : World}
theorem ClsAt.below (h : ClsAt B R s cv fv st k w X C W) (hb : Below W.heap.size W W') : ClsAt B R s cv fv st k w X C W' := by
  have hs := h.bel.size
  exact ⟨h.rd.below hb, (hb.block _ (lt_of_block h.eC)).trans h.eC, (hb.block _ (lt_of_block h.eX)).trans h.eX, h.ne, h.bel.trans (hb.mono (Nat.le_trans h.lo.1 hs)), fun q a b => (hb.block q (by omega)).trans (h.kp q a b), h.lo, h.wk⟩
theorem ClsAt.read (h : ClsAt B R s cv fv st k w X C W) {st' : PSt} (hr : RdIn B R s st' cv fv W') (ho : One R W W') : ClsAt B R s cv fv st' k w X C W' :=
  ⟨hr, (ho.other _ (Ne.symm h.ne.1)).trans h.eC, (ho.other _ (Ne.symm h.ne.2.1)).trans h.eX, h.ne, h.bel.trans (ho.below h.rd.low), fun q a b => (ho.other q b).trans (h.kp q a b), h.lo, h.wk⟩
theorem ClsAt.put (h : ClsAt B R s cv fv st k w X C W) {k' : Set4} (ho : One C W W') (e : W'.heap[C]? = some (.cells (setC k') 114 (0, 0))) (hw : Words k') : ClsAt B R s cv fv st k' w X C W' :=
  ⟨h.rd.other (ho.other _ h.ne.1) fun q hq => ho.other q (h.ne.2.2.2 q hq).1, e, (ho.other _ h.ne.2.2.1).trans h.eX, h.ne, h.bel.trans (ho.below (Nat.le_trans h.lo.1 h.lo.2.1)), fun q a b => (ho.other q (by have := h.lo.2.1; omega)).trans (h.kp q a b), h.lo, hw⟩
end
theorem lit_u64 (x : Nat) (h : x < 18446744073709551616) : (Lit.int .u64 (x : Int)).wf = true := by
  show (decide ((0 : Int) ≤ (x : Int)) && decide ((x : Int) ≤ 18446744073709551615)) = true
  rw [decide_eq_true (by omega), decide_eq_true (by omega)]
  rfl
theorem class_lits {a : Set4} (ha : Words a) : Value.formed Try.prog 114 (.agg (setC a)) = true ∧ Try.prog.keyLits (0 + 1 + 1) 114 (setC a).toList = some [.int .u64 (wd a 0 : Nat), .int .u64 (wd a 1 : Nat), .int .u64 (wd a 2 : Nat), .int .u64 (wd a 3 : Nat)] := by
  have h0 := lit_u64 _ (word_lt ha 0)
  have h1 := lit_u64 _ (word_lt ha 1)
  have h2 := lit_u64 _ (word_lt ha 2)
  have h3 := lit_u64 _ (word_lt ha 3)
  have hc : Try.prog.cellsOf 114 = 4 := by kernel_rfl
  have hc1 : Try.prog.cellsOf 86 = 1 := by kernel_rfl
  have hone : ∀ v : Nat, (Lit.int .u64 (v : Int)).wf = true → Try.prog.keyLits (0 + 1) 86 [.int .u64 (v : Int)] = some [.int .u64 v] := fun v hv => by
    unfold Program.keyLits
    simp only [Try.underlying86]
    rw [if_pos ⟨trivial, hv⟩]
  refine ⟨?_, ?_⟩
  · unfold Value.formed
    simp only [Try.underlying114, hc]
    rfl
  · unfold Program.keyLits
    simp only [Try.underlying114, hc, hc1]
    rw [if_pos (show (setC a).toList.length = 4 from rfl)]
    simp only [setC, List.range_succ, List.range_zero, List.nil_append, List.cons_append, List.mapM_cons, List.mapM_nil]
    simp [hone, h0, h1, h2, h3]
theorem lits_e4 {a : Set4} (ha : Words a) (he : [Lit.int .u64 (wd a 0 : Nat), .int .u64 (wd a 1 : Nat), .int .u64 (wd a 2 : Nat), .int .u64 (wd a 3 : Nat)] = [.int .u64 (wd e4 0 : Nat), .int .u64 (wd e4 1 : Nat), .int .u64 (wd e4 2 : Nat), .int .u64 (wd e4 3 : Nat)]) : a = e4 := by
  simp only [List.cons.injEq, Lit.int.injEq, true_and, and_true] at he
  obtain ⟨e0, e1, e2, e3⟩ := he
  have f0 : wd a 0 = 0 := by have : ((wd a 0 : Nat) : Int) = ((0 : Nat) : Int) := e0; omega
  have f1 : wd a 1 = 0 := by have : ((wd a 1 : Nat) : Int) = ((0 : Nat) : Int) := e1; omega
  have f2 : wd a 2 = 0 := by have : ((wd a 2 : Nat) : Int) = ((0 : Nat) : Int) := e2; omega
  have f3 : wd a 3 = 0 := by have : ((wd a 3 : Nat) : Int) = ((0 : Nat) : Int) := e3; omega
  obtain ⟨hl, _⟩ := ha
  refine List.ext_getElem (by rw [hl]; rfl) fun i h1 h2 => ?_
  have hi : i < 4 := by rw [hl] at h1; exact h1
  have e : a[i] = wd a i := by simp [wd, List.getD, h1]
  rw [e]
  rcases (show i = 0 ∨ i = 1 ∨ i = 2 ∨ i = 3 by omega) with rfl | rfl | rfl | rfl
  · rw [f0]; rfl
  · rw [f1]; rfl
  · rw [f2]; rfl
  · rw [f3]; rfl
/-- A class that is not empty differs from the empty one. -/
theorem class_ne {a : Set4} (ha : Words a) (h : a ≠ e4) (w : World) : (Op.equalIn 10000 114 (.agg (setC a)) (.agg (setC e4))).run Try.prog w = .ok false w := by
  obtain ⟨f1, l1⟩ := class_lits ha
  obtain ⟨f2, l2⟩ := class_lits words_e4
  obtain ⟨r, hr, hiff⟩ := run_equalIn_deep (P := Try.prog) 9990 10 114 (by kernel_rfl) w _ _ (.agg (setC a)) (.agg (setC e4)) _ _ f1 f2 l1 l2
  have hf : r = false := by
    cases hr2 : r with
    | false => rfl
    | true => exact absurd (lits_e4 ha (hiff.1 hr2)) h
  rw [hf] at hr
  exact hr
set_option maxRecDepth 100000 in
set_option maxHeartbeats 10000000 in
theorem bytes_any {B R : Nat} {s : ByteArray} {n : Nat} {st : PSt} {r : PSt × Set4} {cv fv : Value} {w : World} (hread : bytesM s n st = some r) (h : RdIn B R s st cv fv w) (hlen : st.cls.length = st.fol.length) :
    Calls Try.prog 59 #[.pointer (some ⟨R, 0, none⟩)] w fun e w' => e = .returned (.agg (setC r.2)) ∧ RdIn B R s r.1 cv fv w' ∧ Below B w w' ∧ (∀ q, q < w.heap.size → q ≠ R → w'.heap[q]? = w.heap[q]?) ∧ Words r.2 := by
  obtain ⟨hbad, hp9, hread⟩ := bytes_ways hread
  have hRl := lt_of_block h.cell
  have hBw : B ≤ w.heap.size := Nat.le_trans h.low (Nat.le_of_lt hRl)
  have hab := ((Below.refl w.heap.size w).alloc (Nat.le_refl _) (.cells #[.int .u64 0, .int .u64 0, .int .u64 0, .int .u64 0] 114 (0, 0))).alloc (by simp) (.cells #[.int .u64 0, .int .u64 0, .int .u64 0, .int .u64 0] 114 (0, 0))
  have hAt : ClsAt B R s cv fv st e4 w w.heap.size (w.heap.size + 1) ((w.alloc (.cells #[.int .u64 0, .int .u64 0, .int .u64 0, .int .u64 0] 114 (0, 0))).alloc (.cells #[.int .u64 0, .int .u64 0, .int .u64 0, .int .u64 0] 114 (0, 0))) := by
    refine ⟨h.below hab, pair2 .., pair1 .., ⟨by omega, by omega, by omega, fun q hq => ?_⟩, hab.mono hBw, fun q a _ => hab.block q a, ⟨hBw, by omega, Nat.le_refl _⟩, words_e4⟩
    rcases hq with hq | hq
    · have := (World.ownsRow.lt h.crow q hq).2; omega
    · have := (World.ownsRow.lt h.frow q hq).2; omega
  have HA := Lib.hid hAt
  have hsz : ((w.alloc (.cells #[.int .u64 0, .int .u64 0, .int .u64 0, .int .u64 0] 114 (0, 0))).alloc (.cells #[.int .u64 0, .int .u64 0, .int .u64 0, .int .u64 0] 114 (0, 0))).heap.size = w.heap.size + 1 + 1 := by simp
  have HS := Lib.hid hsz
  have HR := Lib.hid hread
  clear hab hAt hsz hread h
  have hpk := peek_lt s st.pos
  go_enter Try.func59, Try.ntmps59
  go_upto_region 2 with fail
  have hA := HA.out
  have hsz := HS.out
  clear HA HS
  generalize (w.alloc (.cells #[.int .u64 0, .int .u64 0, .int .u64 0, .int .u64 0] 114 (0, 0))).alloc (.cells #[.int .u64 0, .int .u64 0, .int .u64 0, .int .u64 0] 114 (0, 0)) = w1 at *
  have hA2 : ClsAt B R s cv fv st e4 w w.heap.size (w.heap.size + 1) w1.drew := hA.below ⟨rfl, rfl, rfl, Nat.le_refl _, fun _ _ => rfl⟩
  have HPk := Lib.hid (peek_any (w := w1.drew) ⟨cv, fv, hA2.rd, hlen⟩)
  obtain ⟨⟨a0, a1, a2, a3, a4⟩, a5, a6, a7, a8⟩ := rd_cells hA2.rd.cell
  have HA := Lib.hid hA2
  have wp : IntKind.i64.wrap ((st.pos : Int) + 1) = (st.pos : Int) + 1 := IntWalk.i64_in _ ⟨by omega, by omega⟩
  clear hA hA2 hsz a2 a3 a4
  rcases HR.out with ⟨h94, r0, hcl, hps0, hps9, hne, rfl⟩ | ⟨h94, r0, hcl, hps0, hps9, hne, rfl⟩
  case' inl =>
    have hps : st.pos < s.size := by
      rcases Nat.lt_or_ge st.pos s.size with h1 | h1
      · exact h1
      · rw [peek_out s st.pos h1] at h94; cases h94
    have t94 : ((peekM s st.pos : Nat) : Int) = 94 := by omega
    have tl : (st.pos : Int) < (s.size : Int) := by omega
    have HK := Lib.hid (And.intro hcl hne)
    have H94 := Lib.hid t94
    clear HR h94 t94 hpk hcl hne
    go_region_held3 (fun w' => w'.cell? ⟨R, 0, none⟩ = some (.string s) ∧ w'.cell? ⟨R, 1, none⟩ = some (.int .i64 st.pos)) (exact ⟨by assumption, by assumption⟩)
      (first
        | (go_at_call 54; refine HPk.out.mono ?_
           rintro e w2 ⟨rfl, hb2⟩
           rw [H94.out]
           have hA3 := HA.out.below hb2
           obtain ⟨⟨b0, b1, b2, b3, b4⟩, b5, b6, b7, b8⟩ := rd_cells hA3.rd.cell
           have HA3 := Lib.hid hA3
           clear hA3 hb2 b2 b3 b4 b6 b7 b8))
    have hbm := HA3.out.rd.bump hp9
    have hC := HA3.out.read hbm.1 (W' := w2.setCell ⟨R, 1, none⟩ (.int .i64 ((st.pos : Int) + 1))) ⟨rfl, rfl, rfl, by simp, fun k hk => Below.heap_setCell _ _ _ _ hk⟩
    have HC := Lib.hid hC
    clear hbm hC HA3 HA HPk H94
    go_wp2_with fail
    have hC := HC.out
    clear HC b0 b1 b5 a0 a1 a5 tl hps wp a6 a7 a8
    generalize w2.setCell ⟨R, 1, none⟩ (.int .i64 ((st.pos : Int) + 1)) = w4 at *
    obtain ⟨st1, hst1⟩ : ∃ st1, st1 = pos1 st := ⟨_, rfl⟩
  case' inr =>
    have t94 : ((((peekM s st.pos : Nat) : Int)) == 94) = false := beq_eq_false_iff_ne.2 (by omega)
    have HK := Lib.hid (And.intro hcl hne)
    clear HR h94 hpk hcl hne
    generalize peekM s st.pos = c at *
    refine wp_region_noPanic ?_
    refine wp_region_held_drew (S := fun w' => w'.cell? ⟨R, 1, none⟩ = some (.int .i64 st.pos)) (by kernel_rfl) (by assumption) (fun hHeld => ?_)
    refine take_at 0 8 ?_ rfl rfl (by decide +kernel) (by decide +kernel) (by decide +kernel) (fun _ _ _ h => h) (Or.inl ⟨by rfl, ?hy⟩) (by assumption) ?_
    case hy => ((intro w hSw; (try dsimp only at hSw); go_simp); (try with_reducible rfl))
    simp only [Act.put, List.setIfInBounds_toArray, List.set_cons_zero, List.set_cons_succ]
    refine wpAnyH_ready (rs := [1]) (by decide +kernel) (by simp) ?_
    refine AllReadyH.cons (o := _) rfl (fun K hK => ?_) ?_
    rotate_left
    exact AllReadyH.nil
    go_simp
    (go_at_call 54; refine HPk.out.mono ?_; rintro e w2 ⟨rfl, hb2⟩)
    have hA3 := HA.out.below hb2
    obtain ⟨⟨b0, b1, b2, b3, b4⟩, b5, b6, b7, b8⟩ := rd_cells hA3.rd.cell
    have HA3 := Lib.hid hA3
    clear hA3 hb2 b2 b3 b4 b6 b7 b8
    refine hK.out _ _ ?_ (fun hHeld => ?_)
    · (try dsimp only); exact b1
    clear hK K
    (try simp only [Act.put, List.setIfInBounds_toArray, List.set_cons_zero, List.set_cons_succ])
    refine take_at 2 10 ?_ rfl rfl (by decide +kernel) (by decide +kernel) (by decide +kernel) (fun _ _ _ h => h) (Or.inl ⟨by rfl, ?hy⟩) (by assumption) ?_
    case hy => ((intro w hSw; (try dsimp only at hSw); go_simp); (try with_reducible rfl))
    simp only [Act.put, List.setIfInBounds_toArray, List.set_cons_zero, List.set_cons_succ]
    refine take_at 3 11 ?_ rfl rfl (by decide +kernel) (by decide +kernel) (by decide +kernel) (fun _ _ _ h => h) (Or.inl ⟨by rfl, ?hy⟩) (by assumption) ?_
    case hy => ((intro w hSw; (try dsimp only at hSw); go_simp); (try with_reducible rfl))
    simp only [Act.put, List.setIfInBounds_toArray, List.set_cons_zero, List.set_cons_succ]
    refine take_at 4 12 undef rfl rfl (by decide +kernel) (by decide +kernel) (by decide +kernel) (fun _ _ _ h => h) (Or.inr ⟨by rfl, rfl⟩) (by assumption) ?_
    simp only [Act.put, List.setIfInBounds_toArray, List.set_cons_zero, List.set_cons_succ]
    refine take_at 5 13 undef rfl rfl (by decide +kernel) (by decide +kernel) (by decide +kernel) (fun _ _ _ h => h) (Or.inr ⟨by rfl, rfl⟩) (by assumption) ?_
    simp only [Act.put, List.setIfInBounds_toArray, List.set_cons_zero, List.set_cons_succ]
    refine take_at 6 14 undef rfl rfl (by decide +kernel) (by decide +kernel) (by decide +kernel) (fun _ _ _ h => h) (Or.inr ⟨by rfl, rfl⟩) (by assumption) ?_
    simp only [Act.put, List.setIfInBounds_toArray, List.set_cons_zero, List.set_cons_succ]
    refine take_at 7 15 undef rfl rfl (by decide +kernel) (by decide +kernel) (by decide +kernel) (fun _ _ _ h => h) (Or.inr ⟨by rfl, rfl⟩) (by assumption) ?_
    simp only [Act.put, List.setIfInBounds_toArray, List.set_cons_zero, List.set_cons_succ]
    refine take_at 8 16 undef rfl rfl (by decide +kernel) (by decide +kernel) (by decide +kernel) (fun _ _ _ h => h) (Or.inr ⟨by rfl, rfl⟩) (by assumption) ?_
    simp only [Act.put, List.setIfInBounds_toArray, List.set_cons_zero, List.set_cons_succ]
    refine take_at 9 17 undef rfl rfl (by decide +kernel) (by decide +kernel) (by decide +kernel) (fun _ _ _ h => h) (Or.inr ⟨by rfl, rfl⟩) (by assumption) ?_
    simp only [Act.put, List.setIfInBounds_toArray, List.set_cons_zero, List.set_cons_succ]
    refine take_at 10 18 undef rfl rfl (by decide +kernel) (by decide +kernel) (by decide +kernel) (fun _ _ _ h => h) (Or.inr ⟨by rfl, rfl⟩) (by assumption) ?_
    simp only [Act.put, List.setIfInBounds_toArray, List.set_cons_zero, List.set_cons_succ]
    refine take_at 11 19 undef rfl rfl (by decide +kernel) (by decide +kernel) (by decide +kernel) (fun _ _ _ h => h) (Or.inr ⟨by rfl, rfl⟩) (by assumption) ?_
    simp only [Act.put, List.setIfInBounds_toArray, List.set_cons_zero, List.set_cons_succ]
    refine take_at 12 20 undef rfl rfl (by decide +kernel) (by decide +kernel) (by decide +kernel) (fun _ _ _ h => h) (Or.inr ⟨by rfl, rfl⟩) (by assumption) ?_
    simp only [Act.put, List.setIfInBounds_toArray, List.set_cons_zero, List.set_cons_succ]
    refine take_at 13 21 undef rfl rfl (by decide +kernel) (by decide +kernel) (by decide +kernel) (fun _ _ _ h => h) (Or.inr ⟨by rfl, rfl⟩) (by assumption) ?_
    simp only [Act.put, List.setIfInBounds_toArray, List.set_cons_zero, List.set_cons_succ]
    refine take_at 14 22 ?_ rfl rfl (by decide +kernel) (by decide +kernel) (by decide +kernel) (fun _ _ _ h => h) (Or.inl ⟨by rfl, ?hy⟩) (by assumption) ?_
    case hy => ((intro w hSw; (try dsimp only at hSw); go_simp); (try with_reducible rfl))
    simp only [Act.put, List.setIfInBounds_toArray, List.set_cons_zero, List.set_cons_succ]
    refine take_at 15 4 ?_ rfl rfl (by decide +kernel) (by decide +kernel) (by decide +kernel) (fun _ _ _ h => h) (Or.inl ⟨by rfl, ?hy⟩) (by assumption) ?_
    case hy => ((intro w hSw; (try dsimp only at hSw); go_simp); (try with_reducible rfl))
    simp only [Act.put, List.setIfInBounds_toArray, List.set_cons_zero, List.set_cons_succ]
    refine wpAnyH_done (by decide +kernel) ?_ _
    refine NoPanic.normal ?_
    have HC := Lib.hid HA3.out
    clear HA3 HA HPk
    go_wp2_with fail
    have hC := HC.out
    clear HC b0 b1 b5 a0 a1 a5 t94 wp a6 a7 a8 hHeld
    generalize w2 = w4 at *
    obtain ⟨st1, hst1⟩ : ∃ st1, st1 = st := ⟨_, rfl⟩
  all_goals
    rw [← hst1] at hC HK
    have hb1 : st1.bad = false := by rw [hst1]; exact hbad
    have hl1 : st1.cls.length = st1.fol.length := by rw [hst1]; exact hlen
    clear hst1 hbad hlen
    go_loopg [] n (fun k wr => ∃ (sx : PSt) (kk : Set4), clsM s k sx kk = some r0 ∧ k ≤ n ∧ sx.bad = false ∧ sx.cls.length = sx.fol.length ∧ ClsAt B R s cv fv sx kk w w.heap.size (w.heap.size + 1) wr)
    case atStart => exact ⟨st1, e4, HK.out.1, Nat.le_refl _, hb1, hl1, hC⟩
    case round =>
      obtain ⟨sx, kk, hcl, hkn, hbx, hlx, hC2⟩ := hrel
      obtain ⟨m, rfl, hw⟩ := cls_ways hcl
      clear hC
      have HM := Lib.hid (more_any (w := wr) ⟨cv, fv, hC2.rd, hlx⟩)
      have HT := Lib.hid hC2
      have HW := Lib.hid hw
      clear hC2 hw hcl
      go_wp2_with fail
      refine HM.out.mono ?_
      rintro e w6 ⟨rfl, hb6⟩
      have hC := HT.out.below hb6
      clear HT HM hb6
      rcases HW.out with ⟨hm, rfl⟩ | ⟨hm, h93, rfl⟩ | ⟨hm, h93, a, ha, b, hba, hb256, hnext, hor⟩
      · unfold moreM at hm
        rw [hbx] at hm
        simp at hm
        exact absurd (show sx.pos < s.size from hps0) (by omega)
      · rw [hm]
        clear hm HW
        have HP := Lib.hid (peek_any (w := w6) ⟨cv, fv, hC.rd, hlx⟩)
        have HC := Lib.hid hC
        have h93i : ((peekM s sx.pos : Nat) : Int) = 93 := by omega
        clear hC h93
        go_wp2_with fail
        refine HP.out.mono ?_
        rintro e w7 ⟨rfl, hb7⟩
        rw [h93i]
        have hC7 := HC.out.below hb7
        obtain ⟨p0, cl0, fo0, bd0⟩ := sx
        have hbd0 : bd0 = false := hbx
        subst hbd0
        have hps1 : p0 < s.size := hps0
        have hps2 : p0 ≤ 990 := hps9
        obtain ⟨⟨a0, a1, a2, a3, a4⟩, a5, a6, a7, a8⟩ := rd_cells hC7.rd.cell
        have hs6 := hC7.rd.setR 13 (.bool false) ⟨p0, cl0, fo0, false⟩ rfl rfl rfl (by show p0 ≤ 1000; omega)
        obtain ⟨⟨d0, d1, d2, d3, d4⟩, d5, d6, d7, d8⟩ := rd_cells hs6.1.cell
        have HE := And.intro d0 (And.intro d1 d4)
        have hC8 := hC7.read hs6.1 ⟨rfl, rfl, rfl, by simp, fun k hk => Below.heap_setCell _ _ _ _ hk⟩
        have HC8 := Lib.hid hC8
        have wq : IntKind.i64.wrap ((p0 : Int) + 1) = (p0 : Int) + 1 := IntWalk.i64_in _ ⟨by omega, by omega⟩
        have tq : decide (s.size ≤ p0) = false := decide_eq_false (by omega)
        have tq2 : decide ((p0 : Int) ≥ (s.size : Int)) = false := decide_eq_false (by omega)
        clear hC7 HC HP h93i hb7 a2 a3 hs6 hC8 d2 d3 hkn hbx hps0 hps9
        go_upto_region 16 with fail
        go_region_held3 (fun w' => w'.cell? ⟨R, 0, none⟩ = some (.string s) ∧ w'.cell? ⟨R, 1, none⟩ = some (.int .i64 p0) ∧ w'.cell? ⟨R, 13, none⟩ = some (.bool false)) (first | exact ⟨by assumption, by assumption, by assumption⟩ | exact HE)
          (fail)
        have hC9 := HC8.out.below (W' := (w7.setCell ⟨R, 13, none⟩ (.bool false)).drew) ⟨rfl, rfl, rfl, Nat.le_refl _, fun _ _ => rfl⟩
        clear HC8 HE a0 a1 a4 a5 a6 a7 a8 d0 d1 d4 d5 d6 d7 d8 tq tq2
        generalize (w7.setCell ⟨R, 13, none⟩ (.bool false)).drew = w9 at *
        obtain ⟨⟨a0, a1, a2, a3, a4⟩, a5, a6, a7, a8⟩ := rd_cells hC9.rd.cell
        have hbm := hC9.rd.bump (show p0 ≤ 990 from hps2)
        have hC10 := hC9.read hbm.1 ⟨rfl, rfl, rfl, by simp, fun k hk => Below.heap_setCell _ _ _ _ hk⟩
        have HC10 := Lib.hid hC10
        clear hbm hC9 hC10 a0 a2 a3
        go_upto_region 20 with fail
        have hC10 := HC10.out
        clear HC10 a1 a4 a5 a6 a7 a8 wq
        generalize w9.setCell ⟨R, 1, none⟩ (.int .i64 ((p0 : Int) + 1)) = w10 at *
        obtain ⟨kf, hkf⟩ : ∃ kf : Set4, kf = kk := ⟨_, rfl⟩
        first
          | (have hne : sturn kk ≠ e4 := HK.out.2
             have HTu := Lib.hid (class_turn (w.heap.size + 1) 0 kk w10 hC10.wk (setAt_of hC10.eC) (fun j => Lib.frozen_of_heap hC10.eC j))
             have hC11 := hC10.put (one_join (w.heap.size + 1) 0 (sturn kk) w10 4) (class_join hC10.eC (sturn kk)) (sturn_words kk)
             have HC11 := Lib.hid (And.intro hC11 hne)
             clear hC10 hC11 hne hkf kf
             obtain ⟨kf, hkf⟩ : ∃ kf : Set4, kf = sturn kk := ⟨_, rfl⟩
             rw [← hkf] at HC11 HTu
             have HKF := Lib.hid hkf
             clear hkf
             go_upto_region 22 with (go_at_call 58; refine HTu.out.mono ?_; rintro e w11 ⟨rfl, hw11⟩; have HW11 := Lib.hid hw11; clear hw11)
             have hC11 := HC11.out
             clear HC11 HTu
             rw [← HW11.out] at hC11
             clear HW11)
          | (have hne : kk ≠ e4 := HK.out.2
             have HC11 := Lib.hid (And.intro hC10 hne)
             clear hC10 hne
             rw [← hkf] at HC11
             have HKF := Lib.hid hkf
             clear hkf
             go_upto_region 22 with fail
             have hC11 := HC11.out
             clear HC11
             obtain ⟨w11, rfl⟩ : ∃ w11, w11 = w10 := ⟨_, rfl⟩)
        obtain ⟨hC11, hne⟩ := hC11
        have c0 : w11.cell? ⟨w.heap.size + 1, 0, none⟩ = some (.int .u64 (wd kf 0 : Nat)) := by rw [Lib.cell_of_heap hC11.eC]; rfl
        have c1 : w11.cell? ⟨w.heap.size + 1, 1, none⟩ = some (.int .u64 (wd kf 1 : Nat)) := by rw [Lib.cell_of_heap hC11.eC]; rfl
        have c2 : w11.cell? ⟨w.heap.size + 1, 2, none⟩ = some (.int .u64 (wd kf 2 : Nat)) := by rw [Lib.cell_of_heap hC11.eC]; rfl
        have c3 : w11.cell? ⟨w.heap.size + 1, 3, none⟩ = some (.int .u64 (wd kf 3 : Nat)) := by rw [Lib.cell_of_heap hC11.eC]; rfl
        obtain ⟨⟨a0, a1, a2, a3, a4⟩, a5, a6, a7, a8⟩ := rd_cells hC11.rd.cell
        have hEq : (Op.equalIn 10000 114 (.agg #[.int .u64 (wd kf 0 : Nat), .int .u64 (wd kf 1 : Nat), .int .u64 (wd kf 2 : Nat), .int .u64 (wd kf 3 : Nat)]) (.agg #[.int .u64 0, .int .u64 0, .int .u64 0, .int .u64 0])).run Try.prog w11 = .ok false w11 := class_ne hC11.wk hne w11
        have HC11 := Lib.hid (And.intro hC11 hne)
        clear hC11 hne a0 a1 a2 a3
        go_upto_region 23 with fail
        obtain ⟨hC11, -⟩ := HC11.out
        have hs := hC11.rd.setR 13 (.bool false) ⟨p0 + 1, cl0, fo0, false⟩ rfl rfl rfl (by show p0 + 1 ≤ 1000; omega)
        have hC12 := hC11.read hs.1 ⟨rfl, rfl, rfl, by simp, fun k hk => Below.heap_setCell _ _ _ _ hk⟩
        clear HC11 hC11 hs c0 c1 c2 c3 a4 a5 a6 a7 a8 hEq
        generalize w11.setCell ⟨R, 13, none⟩ (.bool false) = w12 at *
        have c0 : w12.cell? ⟨w.heap.size + 1, 0, none⟩ = some (.int .u64 (wd kf 0 : Nat)) := by rw [Lib.cell_of_heap hC12.eC]; rfl
        have c1 : w12.cell? ⟨w.heap.size + 1, 1, none⟩ = some (.int .u64 (wd kf 1 : Nat)) := by rw [Lib.cell_of_heap hC12.eC]; rfl
        have c2 : w12.cell? ⟨w.heap.size + 1, 2, none⟩ = some (.int .u64 (wd kf 2 : Nat)) := by rw [Lib.cell_of_heap hC12.eC]; rfl
        have c3 : w12.cell? ⟨w.heap.size + 1, 3, none⟩ = some (.int .u64 (wd kf 3 : Nat)) := by rw [Lib.cell_of_heap hC12.eC]; rfl
        have x0 : w12.cell? ⟨w.heap.size, 0, none⟩ = some (.int .u64 0) := by rw [Lib.cell_of_heap hC12.eX]; rfl
        have x1 : w12.cell? ⟨w.heap.size, 1, none⟩ = some (.int .u64 0) := by rw [Lib.cell_of_heap hC12.eX]; rfl
        have x2 : w12.cell? ⟨w.heap.size, 2, none⟩ = some (.int .u64 0) := by rw [Lib.cell_of_heap hC12.eX]; rfl
        have x3 : w12.cell? ⟨w.heap.size, 3, none⟩ = some (.int .u64 0) := by rw [Lib.cell_of_heap hC12.eX]; rfl
        have z0 := Lib.frozen_of_heap hC12.eX 0
        have z1 := Lib.frozen_of_heap hC12.eX 1
        have z2 := Lib.frozen_of_heap hC12.eX 2
        have z3 := Lib.frozen_of_heap hC12.eX 3
        have HC12 := Lib.hid hC12
        clear hC12
        go_wp2_with fail
        have o9 : One w.heap.size w12 ((((w12.setCell ⟨w.heap.size, 0, none⟩ (.int .u64 (wd kf 0 : Nat))).setCell ⟨w.heap.size, 1, none⟩ (.int .u64 (wd kf 1 : Nat))).setCell ⟨w.heap.size, 2, none⟩ (.int .u64 (wd kf 2 : Nat))).setCell ⟨w.heap.size, 3, none⟩ (.int .u64 (wd kf 3 : Nat))) :=
          ⟨rfl, rfl, rfl, by simp, fun k hk => by rw [Below.heap_setCell _ _ _ _ hk, Below.heap_setCell _ _ _ _ hk, Below.heap_setCell _ _ _ _ hk, Below.heap_setCell _ _ _ _ hk]⟩
        have hkw := HC12.out.wk
        have hk := HKF.out
        refine bodyPost_ret (results_cell_row rfl _ _ w.heap.size 114 (setC kf) (0, 0) _ rfl (heap_setS (heap_setS (heap_setS (heap_setS HC12.out.eX 0 (.int .u64 (wd kf 0 : Nat))) 1 (.int .u64 (wd kf 1 : Nat))) 2 (.int .u64 (wd kf 2 : Nat))) 3 (.int .u64 (wd kf 3 : Nat))) Try.underlying114 rfl (by kernel_rfl)) rfl ?_
        refine ⟨by rw [hk], HC12.out.rd.other (o9.other _ HC12.out.ne.2.1) fun q hq => o9.other q (HC12.out.ne.2.2.2 q hq).2, HC12.out.bel.trans (o9.below hBw), fun q h1 h2 => (o9.other q (by omega)).trans (HC12.out.kp q h1 h2), by rw [hk] at hkw; exact hkw⟩
      · rw [hm]
        clear hm HW
        have HP := Lib.hid (peek_any (w := w6) ⟨cv, fv, hC.rd, hlx⟩)
        have HC := Lib.hid hC
        have h93i : ((((peekM s sx.pos : Nat) : Int)) == 93) = false := beq_eq_false_iff_ne.2 (by omega)
        have HX := Lib.hid (And.intro ha (And.intro hba (And.intro hb256 (And.intro hnext hor))))
        clear hC h93 ha hba hb256 hnext hor
        go_wp2_with fail
        refine HP.out.mono ?_
        rintro e w7 ⟨rfl, hb7⟩
        have hC7 := HC.out.below hb7
        have HS := Lib.hid (single_any HX.out.1 hC7.rd)
        have HC7 := Lib.hid hC7
        clear hC7 HC HP hb7
        go_wp2_with fail
        refine HS.out.mono ?_
        rintro e w8 ⟨rfl, hr8, ho8⟩
        have hC8 := HC7.out.read hr8 ho8
        have hsa := single_st HX.out.1
        have hla : a.1.cls.length = a.1.fol.length := by rw [hsa.1, hsa.2.1]; exact hlx
        have hba0 : a.1.bad = false := by rw [hsa.2.2.1]; exact hbx
        have ha256 := hsa.2.2.2
        have HM2 := Lib.hid (more_any (w := w8) ⟨cv, fv, hC8.rd, hla⟩)
        have HX2 := Lib.hid (And.intro hba0 (And.intro hla HX.out.2))
        have HC8 := Lib.hid hC8
        clear hC8 hsa hla hba0 HX hr8 ho8 HS HC7 hbx hlx
        obtain ⟨sa, va⟩ := a
        simp only at ha256
        go_wp2_with fail
        refine HM2.out.mono ?_
        rintro e w9 ⟨rfl, hb9⟩
        have hC9 := HC8.out.below hb9
        clear HM2 HC8 hb9
        obtain ⟨hba0, hla, hba, hb256, hnext, hor⟩ := HX2.out
        clear HX2
        obtain ⟨sb, vb⟩ := b
        simp only at hb256 hba
        have hb1 : sb.bad = false ∧ sb.cls.length = sb.fol.length := by
          rcases hor with ⟨_, _, _, hb⟩ | ⟨_, hb⟩ | ⟨_, _, hb⟩
          · have := single_st hb
            exact ⟨this.2.2.1.trans hba0, by rw [this.1, this.2.1]; exact hla⟩
          · injection hb with hb _; rw [hb]; exact ⟨hba0, hla⟩
          · injection hb with hb _; rw [hb]; exact ⟨hba0, hla⟩
        rcases hor with ⟨hm2, h45, h9, hb⟩ | ⟨hm2, hb⟩ | ⟨hm2, h45, hb⟩
        case inl =>
          rw [hm2]
          have HP := Lib.hid (peek_any (w := w9) ⟨cv, fv, hC9.rd, hla⟩)
          have h45i : ((peekM s sa.pos : Nat) : Int) = 45 := by have : peekM s sa.pos = 45 := h45; omega
          have HC := Lib.hid hC9
          have HB := Lib.hid hb
          have hp9a : sa.pos ≤ 990 := h9
          clear hm2 h45 hC9 hb h9
          go_wp2_with fail
          refine HP.out.mono ?_
          rintro e wa ⟨rfl, hba9⟩
          rw [h45i]
          have hCa := HC.out.below hba9
          obtain ⟨⟨a0, a1, a2, a3, a4⟩, a5, a6, a7, a8⟩ := rd_cells hCa.rd.cell
          have hbm := hCa.rd.bump hp9a
          have hCb := hCa.read hbm.1 ⟨rfl, rfl, rfl, by simp, fun k hk => Below.heap_setCell _ _ _ _ hk⟩
          have wq : IntKind.i64.wrap ((sa.pos : Int) + 1) = (sa.pos : Int) + 1 := IntWalk.i64_in _ ⟨by omega, by omega⟩
          have HC2 := Lib.hid hCb
          clear hCa hbm hCb HC HP hba9 a0 a2 a3 a4 a6 a7 a8 h45i
          go_upto_region 10 with fail
          have hCb := HC2.out
          clear HC2 wq a1 a5
          generalize wa.setCell ⟨R, 1, none⟩ (.int .i64 ((sa.pos : Int) + 1)) = wb at *
          have HS2 := Lib.hid (single_any HB.out hCb.rd)
          have HC2 := Lib.hid hCb
          clear hCb HB
          go_upto_region 11 with (go_at_call 62; refine HS2.out.mono ?_; rintro e wc ⟨rfl, hrc, hoc⟩)
          have hC10 := HC2.out.read hrc hoc
          clear HC2 HS2 hrc hoc
          obtain ⟨pb, clb, fob, bdb⟩ := sb
          obtain ⟨hbd, hlb⟩ := hb1
          have hbd2 : bdb = false := hbd
          subst hbd2
          have hlb2 : clb.length = fob.length := hlb
          obtain ⟨⟨a0, a1, a2, a3, a4⟩, a5, a6, a7, a8⟩ := rd_cells hC10.rd.cell
          have tlt : decide ((vb : Int) < (va : Int)) = false := decide_eq_false (by omega)
          have tlt2 : decide (vb < va) = false := decide_eq_false (by omega)
          have hs := hC10.rd.setR 13 (.bool false) ⟨pb, clb, fob, false⟩ rfl rfl rfl hC10.rd.len.2.2.1
          have hC11 := hC10.read hs.1 ⟨rfl, rfl, rfl, by simp, fun k hk => Below.heap_setCell _ _ _ _ hk⟩
          have HC11 := Lib.hid hC11
          have HN := Lib.hid (And.intro hnext hlb2)
          clear hs hC10 hC11 a0 a1 a2 a3 hnext hlb hlb2 hbd
          go_upto_region 12 with fail
          have hC11 := HC11.out
          clear HC11 a4 a5 a6 a7 a8 tlt tlt2
          generalize wc.setCell ⟨R, 13, none⟩ (.bool false) = we at *
          have HC11 := Lib.hid hC11
          clear hC11
          go_wp2_with fail
          go_loopw [7] (fun bv wr => ∃ i j : Nat, bv = .int .i64 i ∧ i = va + j ∧ j ≤ vb + 1 - va ∧ ClsAt B R s cv fv ⟨pb, clb, fob, false⟩ (addR kk va j) w w.heap.size (w.heap.size + 1) wr) (fun bv _ => 300 - (intOf bv).toNat)
          case atStart => exact ⟨va, 0, rfl, rfl, Nat.zero_le _, HC11.out⟩
          case round =>
            clear HC11
            obtain ⟨i, j, rfl, hij, hj, hCj⟩ := hrel
            obtain ⟨⟨a0, a1, a2, a3, a4⟩, a5, a6, a7, a8⟩ := rd_cells hCj.rd.cell
            clear a0 a1 a2 a3 a5 a6 a7 a8
            by_cases hjl : j < vb + 1 - va
            · have t1 : (i : Int) ≤ (vb : Int) := by omega
              have u8 : IntKind.u8.wrap (i : Int) = (i : Int) := by unfold IntKind.wrap; simp [IntKind.bits, IntKind.signed]; omega
              have wi : IntKind.i64.wrap ((i : Int) + 1) = (i : Int) + 1 := IntWalk.i64_in _ ⟨by omega, by omega⟩
              have hi : i ≤ 255 := by omega
              have HA := Lib.hid (class_add (w.heap.size + 1) 0 (addR kk va j) i hi wr hCj.wk (setAt_of hCj.eC) (fun q => Lib.frozen_of_heap hCj.eC q))
              have had : addR kk va (j + 1) = sadd (addR kk va j) i := by rw [hij]; rfl
              have hp : ClsAt B R s cv fv ⟨pb, clb, fob, false⟩ (addR kk va (j + 1)) w w.heap.size (w.heap.size + 1) (wr.setCell ⟨w.heap.size + 1, 0 + i / 64, none⟩ (.int .u64 (wd (sadd (addR kk va j) i) (i / 64) : Nat))).drew := by
                rw [had]
                exact hCj.put (one_set (w.heap.size + 1) (0 + i / 64) wr (.int .u64 (wd (sadd (addR kk va j) i) (i / 64) : Nat))) (class_first hCj.eC i hi) (sadd_words hCj.wk i)
              have HP := Lib.hid (And.intro hp hij)
              clear hp hij had hCj
              go_wp2_with (go_at_call 60; refine HA.out.mono ?_; rintro e wx ⟨rfl, hwx⟩; have HWX := Lib.hid hwx; clear hwx)
              have hp := HP.out
              rw [← HWX.out] at hp
              exact ⟨⟨i + 1, j + 1, by simp, by omega, by omega, hp.1⟩, by simp [intOf]; omega⟩
            · have t1 : decide ((i : Int) ≤ (vb : Int)) = false := decide_eq_false (by omega)
              have t1n : decide (i ≤ vb) = false := decide_eq_false (by omega)
              have hjv : j = vb + 1 - va := by omega
              rw [hjv] at hCj
              have HCj := Lib.hid hCj
              clear hCj hij
              go_wp2_with fail
              go_roundg m
              case rel => exact ⟨_, _, HN.out.1, by omega, rfl, HN.out.2, HCj.out⟩
              case measure => omega
        case inr.inl =>
          rw [hm2]
          injection hb with hb1' hb2'
          subst hb1'
          subst hb2'
          have HC := Lib.hid hC9
          clear hm2 hC9
          go_upto_region 11 with fail
          have hC10 := HC.out
          clear HC
          obtain ⟨wc, rfl⟩ : ∃ wc, wc = w9 := ⟨_, rfl⟩
          obtain ⟨pb, clb, fob, bdb⟩ := sb
          obtain ⟨hbd, hlb⟩ := hb1
          have hbd2 : bdb = false := hbd
          subst hbd2
          have hlb2 : clb.length = fob.length := hlb
          obtain ⟨⟨a0, a1, a2, a3, a4⟩, a5, a6, a7, a8⟩ := rd_cells hC10.rd.cell
          have tlt : decide ((vb : Int) < (vb : Int)) = false := decide_eq_false (by omega)
          have hs := hC10.rd.setR 13 (.bool false) ⟨pb, clb, fob, false⟩ rfl rfl rfl hC10.rd.len.2.2.1
          have hC11 := hC10.read hs.1 ⟨rfl, rfl, rfl, by simp, fun k hk => Below.heap_setCell _ _ _ _ hk⟩
          have HC11 := Lib.hid hC11
          have HN := Lib.hid (And.intro hnext hlb2)
          clear hs hC10 hC11 a0 a1 a2 a3 hnext hlb hlb2 hbd
          go_upto_region 12 with fail
          have hC11 := HC11.out
          clear HC11 a4 a5 a6 a7 a8 tlt
          generalize wc.setCell ⟨R, 13, none⟩ (.bool false) = we at *
          have HC11 := Lib.hid hC11
          clear hC11
          go_wp2_with fail
          go_loopw [7] (fun bv wr => ∃ i j : Nat, bv = .int .i64 i ∧ i = vb + j ∧ j ≤ vb + 1 - vb ∧ ClsAt B R s cv fv ⟨pb, clb, fob, false⟩ (addR kk vb j) w w.heap.size (w.heap.size + 1) wr) (fun bv _ => 300 - (intOf bv).toNat)
          case atStart => exact ⟨vb, 0, rfl, rfl, Nat.zero_le _, HC11.out⟩
          case round =>
            clear HC11
            obtain ⟨i, j, rfl, hij, hj, hCj⟩ := hrel
            obtain ⟨⟨a0, a1, a2, a3, a4⟩, a5, a6, a7, a8⟩ := rd_cells hCj.rd.cell
            clear a0 a1 a2 a3 a5 a6 a7 a8
            by_cases hjl : j < vb + 1 - vb
            · have t1 : (i : Int) ≤ (vb : Int) := by omega
              have u8 : IntKind.u8.wrap (i : Int) = (i : Int) := by unfold IntKind.wrap; simp [IntKind.bits, IntKind.signed]; omega
              have wi : IntKind.i64.wrap ((i : Int) + 1) = (i : Int) + 1 := IntWalk.i64_in _ ⟨by omega, by omega⟩
              have hi : i ≤ 255 := by omega
              have HA := Lib.hid (class_add (w.heap.size + 1) 0 (addR kk vb j) i hi wr hCj.wk (setAt_of hCj.eC) (fun q => Lib.frozen_of_heap hCj.eC q))
              have had : addR kk vb (j + 1) = sadd (addR kk vb j) i := by rw [hij]; rfl
              have hp : ClsAt B R s cv fv ⟨pb, clb, fob, false⟩ (addR kk vb (j + 1)) w w.heap.size (w.heap.size + 1) (wr.setCell ⟨w.heap.size + 1, 0 + i / 64, none⟩ (.int .u64 (wd (sadd (addR kk vb j) i) (i / 64) : Nat))).drew := by
                rw [had]
                exact hCj.put (one_set (w.heap.size + 1) (0 + i / 64) wr (.int .u64 (wd (sadd (addR kk vb j) i) (i / 64) : Nat))) (class_first hCj.eC i hi) (sadd_words hCj.wk i)
              have HP := Lib.hid (And.intro hp hij)
              clear hp hij had hCj
              go_wp2_with (go_at_call 60; refine HA.out.mono ?_; rintro e wx ⟨rfl, hwx⟩; have HWX := Lib.hid hwx; clear hwx)
              have hp := HP.out
              rw [← HWX.out] at hp
              exact ⟨⟨i + 1, j + 1, by simp, by omega, by omega, hp.1⟩, by simp [intOf]; omega⟩
            · have t1 : decide ((i : Int) ≤ (vb : Int)) = false := decide_eq_false (by omega)
              have t1n : decide (i ≤ vb) = false := decide_eq_false (by omega)
              have hjv : j = vb + 1 - vb := by omega
              rw [hjv] at hCj
              have HCj := Lib.hid hCj
              clear hCj hij
              go_wp2_with fail
              go_roundg m
              case rel => exact ⟨_, _, HN.out.1, by omega, rfl, HN.out.2, HCj.out⟩
              case measure => omega
        case inr.inr =>
          rw [hm2]
          injection hb with hb1' hb2'
          subst hb1'
          subst hb2'
          have HP := Lib.hid (peek_any (w := w9) ⟨cv, fv, hC9.rd, hla⟩)
          have h45i : ((((peekM s sb.pos : Nat) : Int)) == 45) = false := beq_eq_false_iff_ne.2 (by have : peekM s sb.pos ≠ 45 := h45; omega)
          have HC := Lib.hid hC9
          clear hm2 hC9 h45
          go_upto_region 11 with (go_at_call 54; refine HP.out.mono ?_; rintro e wc ⟨rfl, hba9⟩; have HC10 := Lib.hid (HC.out.below hba9); clear hba9)
          have hC10 := HC10.out
          clear HC HP h45i HC10
          obtain ⟨pb, clb, fob, bdb⟩ := sb
          obtain ⟨hbd, hlb⟩ := hb1
          have hbd2 : bdb = false := hbd
          subst hbd2
          have hlb2 : clb.length = fob.length := hlb
          obtain ⟨⟨a0, a1, a2, a3, a4⟩, a5, a6, a7, a8⟩ := rd_cells hC10.rd.cell
          have tlt : decide ((vb : Int) < (vb : Int)) = false := decide_eq_false (by omega)
          have hs := hC10.rd.setR 13 (.bool false) ⟨pb, clb, fob, false⟩ rfl rfl rfl hC10.rd.len.2.2.1
          have hC11 := hC10.read hs.1 ⟨rfl, rfl, rfl, by simp, fun k hk => Below.heap_setCell _ _ _ _ hk⟩
          have HC11 := Lib.hid hC11
          have HN := Lib.hid (And.intro hnext hlb2)
          clear hs hC10 hC11 a0 a1 a2 a3 hnext hlb hlb2 hbd
          go_upto_region 12 with fail
          have hC11 := HC11.out
          clear HC11 a4 a5 a6 a7 a8 tlt
          generalize wc.setCell ⟨R, 13, none⟩ (.bool false) = we at *
          have HC11 := Lib.hid hC11
          clear hC11
          go_wp2_with fail
          go_loopw [7] (fun bv wr => ∃ i j : Nat, bv = .int .i64 i ∧ i = vb + j ∧ j ≤ vb + 1 - vb ∧ ClsAt B R s cv fv ⟨pb, clb, fob, false⟩ (addR kk vb j) w w.heap.size (w.heap.size + 1) wr) (fun bv _ => 300 - (intOf bv).toNat)
          case atStart => exact ⟨vb, 0, rfl, rfl, Nat.zero_le _, HC11.out⟩
          case round =>
            clear HC11
            obtain ⟨i, j, rfl, hij, hj, hCj⟩ := hrel
            obtain ⟨⟨a0, a1, a2, a3, a4⟩, a5, a6, a7, a8⟩ := rd_cells hCj.rd.cell
            clear a0 a1 a2 a3 a5 a6 a7 a8
            by_cases hjl : j < vb + 1 - vb
            · have t1 : (i : Int) ≤ (vb : Int) := by omega
              have u8 : IntKind.u8.wrap (i : Int) = (i : Int) := by unfold IntKind.wrap; simp [IntKind.bits, IntKind.signed]; omega
              have wi : IntKind.i64.wrap ((i : Int) + 1) = (i : Int) + 1 := IntWalk.i64_in _ ⟨by omega, by omega⟩
              have hi : i ≤ 255 := by omega
              have HA := Lib.hid (class_add (w.heap.size + 1) 0 (addR kk vb j) i hi wr hCj.wk (setAt_of hCj.eC) (fun q => Lib.frozen_of_heap hCj.eC q))
              have had : addR kk vb (j + 1) = sadd (addR kk vb j) i := by rw [hij]; rfl
              have hp : ClsAt B R s cv fv ⟨pb, clb, fob, false⟩ (addR kk vb (j + 1)) w w.heap.size (w.heap.size + 1) (wr.setCell ⟨w.heap.size + 1, 0 + i / 64, none⟩ (.int .u64 (wd (sadd (addR kk vb j) i) (i / 64) : Nat))).drew := by
                rw [had]
                exact hCj.put (one_set (w.heap.size + 1) (0 + i / 64) wr (.int .u64 (wd (sadd (addR kk vb j) i) (i / 64) : Nat))) (class_first hCj.eC i hi) (sadd_words hCj.wk i)
              have HP := Lib.hid (And.intro hp hij)
              clear hp hij had hCj
              go_wp2_with (go_at_call 60; refine HA.out.mono ?_; rintro e wx ⟨rfl, hwx⟩; have HWX := Lib.hid hwx; clear hwx)
              have hp := HP.out
              rw [← HWX.out] at hp
              exact ⟨⟨i + 1, j + 1, by simp, by omega, by omega, hp.1⟩, by simp [intOf]; omega⟩
            · have t1 : decide ((i : Int) ≤ (vb : Int)) = false := decide_eq_false (by omega)
              have t1n : decide (i ≤ vb) = false := decide_eq_false (by omega)
              have hjv : j = vb + 1 - vb := by omega
              rw [hjv] at hCj
              have HCj := Lib.hid hCj
              clear hCj hij
              go_wp2_with fail
              go_roundg m
              case rel => exact ⟨_, _, HN.out.1, by omega, rfl, HN.out.2, HCj.out⟩
              case measure => omega

end Go.Proofs.Ytebcflgdjbjkoaa
