/- The numbers of sets: a map whose keys are sets of 256 bits; no condition beyond those that stand there. -/
import Derived.Maps.OwnSet
import Derived.DeepKeys4
import Derived.Test.YtebcflgdjbjkoaaPset
namespace Go.Proofs.Ytebcflgdjbjkoaa
open Go.RowKit
open Go.Maps (Keyed)

theorem set_keyed : Keyed Try.prog 88 := Keyed.of_law (deep_law_laid (m := Try.prog.types.size) (by kernel_rfl) (by decide +kernel) (by decide +kernel) (by kernel_rfl) (by kernel_rfl))
theorem wf_u64 (x : Nat) (h : x < 18446744073709551616) : (Lit.int .u64 (x : Int)).wf = true := by
  show (decide ((0 : Int) ≤ (x : Int)) && decide ((x : Int) ≤ 18446744073709551615)) = true
  rw [decide_eq_true (by omega), decide_eq_true (by omega)]
  rfl
/-- Each set is a key. -/
theorem set_key {s : Set4} (hs : Words s) : ∃ l, keyOf Try.prog 88 (.agg (setC s)) = some l := by
  have h0 := wf_u64 _ (word_lt hs 0)
  have h1 := wf_u64 _ (word_lt hs 1)
  have h2 := wf_u64 _ (word_lt hs 2)
  have h3 := wf_u64 _ (word_lt hs 3)
  have hk : Try.prog.keyType 88 = true := by kernel_rfl
  have hc : Try.prog.cellsOf 88 = 4 := by kernel_rfl
  have hc1 : Try.prog.cellsOf 86 = 1 := by kernel_rfl
  have hf : Value.formed Try.prog 88 (.agg (setC s)) = true := by
    unfold Value.formed
    simp only [Try.underlying88, hc]
    rfl
  obtain ⟨k, hsz⟩ : ∃ k, Try.prog.types.size = k + 1 := Nat.exists_eq_succ_of_ne_zero (by decide +kernel)
  have hone : ∀ v : Nat, (Lit.int .u64 (v : Int)).wf = true → Try.prog.keyLits (k + 1) 86 [.int .u64 (v : Int)] = some [.int .u64 v] := fun v hv => by
    unfold Program.keyLits
    simp only [Try.underlying86]
    rw [if_pos ⟨trivial, hv⟩]
  have hl : Try.prog.keyLits (k + 1 + 1) 88 (setC s).toList = some [.int .u64 (wd s 0 : Nat), .int .u64 (wd s 1 : Nat), .int .u64 (wd s 2 : Nat), .int .u64 (wd s 3 : Nat)] := by
    unfold Program.keyLits
    simp only [Try.underlying88, hc, hc1]
    rw [if_pos (show (setC s).toList.length = 4 from rfl)]
    simp only [setC, List.range_succ, List.range_zero, List.nil_append, List.cons_append, List.mapM_cons, List.mapM_nil]
    simp [hone, h0, h1, h2, h3]
  unfold keyOf
  simp only [Try.underlying88, hk, hf, Bool.and_self, if_true, hsz]
  exact ⟨_, by rw [show (Value.agg (setC s)).cells.toList = (setC s).toList from rfl, hl]; rfl⟩
theorem setC_inj {s t : Set4} (hs : Words s) (ht : Words t) (h : setC s = setC t) : s = t := by
  have hw : ∀ j, j < 4 → wd s j = wd t j := fun j hj => by
    have h2 := congrArg (fun a => a[j]?) h
    rcases (show j = 0 ∨ j = 1 ∨ j = 2 ∨ j = 3 by omega) with rfl | rfl | rfl | rfl <;> (simp [setC] at h2; exact_mod_cast h2)
  refine List.ext_getElem (by rw [hs.1, ht.1]) fun j h1 h2 => ?_
  have h3 := hw j (by rw [hs.1] at h1; exact h1)
  simp only [wd, List.getD] at h3
  rw [List.getElem?_eq_getElem h1, List.getElem?_eq_getElem h2] at h3
  simpa using h3
/-- The map in block b gives the place of each of the sets, and knows no other one. -/
def NumAt (b : Nat) (l : List Set4) (W : World) : Prop := ∃ D : DataW Unit, W.ownsMap Try.prog 88 (plainElem Try.prog 61) b l.length D ∧ ∀ s k, Words s → keyOf Try.prog 88 (.agg (setC s)) = some k →
  (Maps.has D k = true ↔ s ∈ l) ∧ ∀ i, l[i]? = some s → D.atKey k (.lit (.int .i16 0)) = .lit (.int .i16 (i : Nat))
theorem NumAt.keep {b : Nat} {l : List Set4} {W W' : World} (h : NumAt b l W) (hb : W'.heap[b]? = W.heap[b]?) : NumAt b l W' := by
  obtain ⟨D, ⟨es, clock, h1, h2, h3, h4⟩, h5⟩ := h
  exact ⟨D, ⟨es, clock, hb.trans h1, h2, h3, h4⟩, h5⟩
theorem NumAt.lt {b : Nat} {l : List Set4} {W : World} (h : NumAt b l W) : b < W.heap.size := by
  obtain ⟨D, h1, _⟩ := h
  exact h1.lt
theorem keys_ne {s t : Set4} {k k' : Lit} (hs : Words s) (ht : Words t) (h1 : keyOf Try.prog 88 (.agg (setC s)) = some k) (h2 : keyOf Try.prog 88 (.agg (setC t)) = some k') (hne : s ≠ t) : k ≠ k' := by
  rintro rfl
  have := set_keyed.inj h1 h2
  injection this with this
  exact hne (setC_inj hs ht this)
/-- What is put behind the last one. -/
theorem NumAt.put_facts {l : List Set4} {D : DataW Unit} {s : Set4} {k : Lit} (hD : Maps.IsMap D) (hs : Words s) (hk : keyOf Try.prog 88 (.agg (setC s)) = some k) (hnot : s ∉ l)
    (h : ∀ s k, Words s → keyOf Try.prog 88 (.agg (setC s)) = some k → (Maps.has D k = true ↔ s ∈ l) ∧ ∀ i, l[i]? = some s → D.atKey k (.lit (.int .i16 0)) = .lit (.int .i16 (i : Nat))) :
    ∀ t k', Words t → keyOf Try.prog 88 (.agg (setC t)) = some k' → (Maps.has (D.put k (.lit (.int .i16 (l.length : Nat)))) k' = true ↔ t ∈ l ++ [s]) ∧ ∀ i, (l ++ [s])[i]? = some t → (D.put k (.lit (.int .i16 (l.length : Nat)))).atKey k' (.lit (.int .i16 0)) = .lit (.int .i16 (i : Nat)) := by
  intro t k' ht hk'
  by_cases e : t = s
  · subst e
    rw [hk] at hk'
    injection hk' with hk'
    subst hk'
    refine ⟨⟨fun _ => by simp, fun _ => Maps.has_put_same hD (set_keyed.key hk) _⟩, fun i hi => ?_⟩
    rw [Maps.atKey_put_same hD (set_keyed.key hk)]
    rcases Nat.lt_trichotomy i l.length with h1 | h1 | h1
    · rw [List.getElem?_append_left h1] at hi
      exact absurd (List.mem_of_getElem? hi) hnot
    · rw [h1]
    · rw [List.getElem?_eq_none (by simp; omega)] at hi
      cases hi
  · have hne := keys_ne ht hs hk' hk e
    refine ⟨?_, fun i hi => ?_⟩
    · rw [Maps.has_put_other hne, (h t k' ht hk').1]
      simp [e]
    · rw [Maps.atKey_put_other hne]
      refine (h t k' ht hk').2 i ?_
      rcases Nat.lt_or_ge i l.length with h1 | h1
      · rw [List.getElem?_append_left h1] at hi
        exact hi
      · rw [List.getElem?_append_right h1] at hi
        have h2 : i - l.length = 0 := by
          have := (List.getElem?_eq_some_iff.1 hi).1
          simp at this
          omega
        rw [h2] at hi
        simp at hi
        exact absurd hi.symm e
section
variable (w : World) {ops : Array Oper} {rest : List Oper} {o : Oper} {a : Act} {Q : Exit → Act → World → Prop}
set_option maxRecDepth 100000 in
/-- 'n, ok := number[t]'. -/
theorem wpList_num_look (hg : o.guard = none) (m x : Operand) (t : TypeId) (hop : o.op = Op.lookup t m x true) (ht : Try.prog.underlying t = some (.map 88 61)) (hz : (zeroValue 61).run Try.prog w = .ok (.int .i16 0) w)
    (b : Nat) (l : List Set4) (s : Set4) (hm : a.eval m = .map (some b)) (hown : NumAt b l w) (hs : Words s) (hx : a.eval x = .agg (setC s))
    (hK : ∀ (c : Int) (ok : Bool), (ok = true ↔ s ∈ l) → (∀ i, l[i]? = some s → c = (i : Nat)) → wpList Try.prog ops Q rest (a.put o.dst (.tuple #[.int .i16 c, .bool ok])) w) :
    wpList Try.prog ops Q (o :: rest) a w := by
  obtain ⟨D, h1, h2⟩ := hown
  obtain ⟨k, hk⟩ := set_key hs
  refine wpList_lookup_own_ok_int w hg m x t hop 88 61 .i16 set_keyed ht Try.underlying61 hz b _ D hm h1 _ k hx hk ?_
  intro c hat _
  refine hK c _ (h2 s k hs hk).1 fun i hi => ?_
  have h3 := (h2 s k hs hk).2 i hi
  rw [hat] at h3
  simp only [DataW.lit.injEq, Lit.int.injEq, true_and] at h3
  exact h3
set_option maxRecDepth 100000 in
/-- 'number[t] = n'. -/
theorem wpList_num_put (hg : o.guard = none) (m x v : Operand) (t : TypeId) (hop : o.op = Op.mapUpdate t m x v) (ht : Try.prog.underlying t = some (.map 88 61))
    (b : Nat) (l : List Set4) (s : Set4) (hm : a.eval m = .map (some b)) (hown : NumAt b l w) (hs : Words s) (hnot : s ∉ l) (hl : l.length ≤ 1000) (hx : a.eval x = .agg (setC s)) (hv : a.eval v = .int .i16 (l.length : Nat))
    (hK : ∀ w', NumAt b (l ++ [s]) w' → w.grownBy w' (some b) → wpList Try.prog ops Q rest (a.put o.dst undef) w') :
    wpList Try.prog ops Q (o :: rest) a w := by
  obtain ⟨D, h1, h2⟩ := hown
  obtain ⟨k, hk⟩ := set_key hs
  have hwf : (Lit.int .i16 ((l.length : Nat) : Int)).wf = true := by
    show (decide ((-32768 : Int) ≤ ((l.length : Nat) : Int)) && decide (((l.length : Nat) : Int) ≤ 32767)) = true
    rw [decide_eq_true (by omega), decide_eq_true (by omega)]
    rfl
  refine wpList_mapUpdate_own w hg m x v t hop 88 61 set_keyed ht _ b _ D hm h1 (by unfold maxLen; omega) _ _ k hx hv hk _ [] (plainElem_int Try.underlying61 hwf) ?_
  intro w' hown' hgr
  refine hK w' ⟨_, ?_, NumAt.put_facts h1.isMap hs hk hnot h2⟩ hgr
  rw [List.length_append]
  exact hown'
set_option maxRecDepth 100000 in
/-- The same, of a map that is written out. -/
theorem wpList_num_ins (hg : o.guard = none) (m x v : Operand) (t : TypeId) (hop : o.op = Op.insert t m x v) (ht : Try.prog.underlying t = some (.map 88 61))
    (b : Nat) (s : Set4) (hm : a.eval m = .map (some b)) (h1 : w.ownsMap Try.prog 88 (plainElem (H := Unit) Try.prog 61) b 0 (.map [])) (hs : Words s) (hx : a.eval x = .agg (setC s)) (hv : a.eval v = .int .i16 0)
    (hK : ∀ w', NumAt b [s] w' → w.grownBy w' (some b) → wpList Try.prog ops Q rest (a.put o.dst undef) w') :
    wpList Try.prog ops Q (o :: rest) a w := by
  obtain ⟨k, hk⟩ := set_key hs
  have hwf : (Lit.int .i16 0).wf = true := by decide
  refine wpList_plain hg fun K' hK' => ?_
  obtain ⟨w', hrun, r1, r2⟩ := h1.update set_keyed ht (by decide) hk (plainElem_int Try.underlying61 hwf)
  unfold Oper.wp
  simp [execOp, hop, hm, hx, hv, hrun, Result.andThen]
  refine hK' _ _ (hK w' ⟨_, r1, ?_⟩ r2)
  have := NumAt.put_facts (l := []) (D := .map []) (s := s) (k := k) h1.isMap hs hk (by simp) fun t k' _ _ => ⟨by simp [Maps.has_eq], fun i hi => by simp at hi⟩
  simpa using this
end

end Go.Proofs.Ytebcflgdjbjkoaa
