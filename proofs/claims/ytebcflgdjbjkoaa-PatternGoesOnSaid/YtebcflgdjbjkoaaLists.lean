/- The first texts of a pattern: how many there are, in which order. No program; no condition beyond those that stand there. -/
import Derived.Test.YtebcflgdjbjkoaaFull
import Derived.Test.YtebcflgdjbjkoaaEnum
import Derived.Test.YtebcflgdjbjkoaaCnt
namespace Go.Proofs.Ytebcflgdjbjkoaa
open Go.RowKit

section
variable (nx : Nat → Nat → Nat) (en : Nat → Bool)
theorem runE_app (k : Nat) (u v : List UInt8) : runE nx k (u ++ v) = runE nx (runE nx k u) v := by simp [runE, List.foldl_append]
/-- Where some text leads to an end, a text of less bytes than there are states does. -/
theorem short_text {N : Nat} (hN : ∀ k b, k < N → b < 256 → nx k b < N) (h0 : 0 < N) : ∀ (l : Nat) (u : List UInt8), u.length = l → en (runE nx 0 u) = true → ∃ v, v.length < N ∧ en (runE nx 0 v) = true := by
  have hrun : ∀ (u : List UInt8) (k : Nat), k < N → runE nx k u < N := fun u => by
    induction u with
    | nil => exact fun k hk => hk
    | cons c u ih => exact fun k hk => ih _ (hN k _ hk c.toNat_lt)
  intro l
  induction l using Nat.strongRecOn with
  | _ l ih =>
    intro u hl hu
    rcases Nat.lt_or_ge u.length N with h1 | h1
    · exact ⟨u, h1, hu⟩
    · have hex : ∃ i j, i < j ∧ j ≤ u.length ∧ runE nx 0 (u.take i) = runE nx 0 (u.take j) := by
        apply Classical.byContradiction
        intro hno
        have hnd : ((List.range (u.length + 1)).map fun i => runE nx 0 (u.take i)).Nodup := by
          rw [List.Nodup, List.pairwise_map, List.pairwise_iff_getElem]
          intro i j hi hj hij e
          rw [List.getElem_range, List.getElem_range] at e
          exact hno ⟨i, j, hij, by simp at hj; omega, e⟩
        have := List.Nodup.length_le_of_subset hnd (l₂ := List.range N) fun q hq => by
          obtain ⟨i, _, rfl⟩ := List.mem_map.1 hq
          exact List.mem_range.2 (hrun _ 0 h0)
        simp at this
        omega
      obtain ⟨i, j, hij, hj, he⟩ := hex
      have hlen : (u.take i ++ u.drop j).length < l := by
        rw [List.length_append, List.length_take, List.length_drop]
        omega
      refine ih _ hlen (u.take i ++ u.drop j) rfl ?_
      rw [runE_app, he, ← runE_app, List.take_append_drop]
      exact hu
theorem firstW_split (n : Nat) : ∀ m, n ≤ m → ∃ t, firstW nx en m = firstW nx en n ++ t ∧ ∀ u ∈ t, n ≤ u.length := by
  intro m
  induction m with
  | zero => intro hm; exact ⟨[], by rw [show n = 0 by omega]; simp, fun u hu => by cases hu⟩
  | succ m ih =>
    intro hm
    rcases Nat.lt_or_ge m n with h1 | h1
    · exact ⟨[], by rw [show n = m + 1 by omega]; simp, fun u hu => by cases hu⟩
    · obtain ⟨t, h2, h3⟩ := ih h1
      refine ⟨t ++ allW nx en m 0, by rw [firstW_succ, h2, List.append_assoc], fun u hu => ?_⟩
      rcases List.mem_append.1 hu with h4 | h4
      · exact h3 u h4
      · rw [allW_len nx en _ _ _ h4]; exact h1
/-- Of the first texts as many have at most n bytes as there are. -/
theorem few_first {n m many : Nat} (h : n + 1 ≤ m) : ((firstW nx en m).take many).countP (fun u => decide (u.length ≤ n)) = min many (firstW nx en (n + 1)).length := by
  obtain ⟨t, h1, h2⟩ := firstW_split nx en (n + 1) m h
  rw [h1, List.take_append, List.countP_append]
  have e1 : ((firstW nx en (n + 1)).take many).countP (fun u => decide (u.length ≤ n)) = ((firstW nx en (n + 1)).take many).length := by
    rw [List.countP_eq_length]
    intro u hu
    have := ((firstW_mem nx en (n + 1) u).1 (List.mem_of_mem_take hu)).1
    exact decide_eq_true (by omega)
  have e2 : (t.take (many - (firstW nx en (n + 1)).length)).countP (fun u => decide (u.length ≤ n)) = 0 := by
    rw [List.countP_eq_zero]
    intro u hu
    have := h2 u (List.mem_of_mem_take hu)
    rw [decide_eq_true_eq]
    omega
  rw [e1, e2, List.length_take]
  rfl
end
theorem allS_mem (k : Nat) (u : List UInt8) : u ∈ allS k ↔ u.length = k := by
  have h := allS_count k u
  constructor
  · exact allS_len k u
  · intro hl
    rw [if_pos hl] at h
    have : 0 < (allS k).countP fun v => v == u := by omega
    obtain ⟨v, hv, he⟩ := List.countP_pos_iff.1 this
    rw [← (beq_iff_eq.1 he)]
    exact hv
theorem allS_nodup (k : Nat) : (allS k).Nodup := by
  rw [List.nodup_iff_count]
  intro u
  have h := allS_count k u
  unfold List.count
  rw [h]
  split <;> omega
theorem slt_nodup {l : List (List UInt8)} (h : l.Pairwise slt) : l.Nodup := h.imp fun {a b} hs => (fun e => slt_irr b (by rw [e] at hs; exact hs) : a ≠ b)
theorem allW_count (nx : Nat → Nat → Nat) (en : Nat → Bool) (k : Nat) : (allW nx en k 0).length = (allS k).countP fun u => en (runE nx 0 u) := by
  have hp : (allW nx en k 0).Perm ((allS k).filter fun u => en (runE nx 0 u)) := by
    rw [List.perm_ext_iff_of_nodup (slt_nodup (allW_sorted nx en k 0)) ((allS_nodup k).filter _)]
    intro u
    rw [allW_mem, List.mem_filter, allS_mem]
  rw [hp.length_eq, List.countP_eq_length_filter]
theorem firstW_count {nx : Nat → Nat → Nat} {en : Nat → Bool} {cls fol : List Set4} {x : Part} (h : ∀ u, en (runE nx 0 u) = endsM x (runM cls fol u)) : ∀ n, (firstW nx en n).length = accN cls fol x n
  | 0 => by simp [firstW, accN, sumN]
  | n + 1 => by
    rw [firstW_succ, List.length_append, firstW_count h n, allW_count]
    unfold accN
    simp only [sumN]
    congr 2
    funext u
    exact h u
theorem allS_size : ∀ k, (allS k).length = 256 ^ k
  | 0 => rfl
  | k + 1 => by
    unfold allS
    rw [List.length_flatMap]
    have hb : bytesL.length = 256 := by simp [bytesL]
    simp only [List.length_map, hb, List.map_const']
    rw [List.sum_replicate_nat, allS_size k, Nat.pow_succ]
theorem accN_le (cls fol : List Set4) (x : Part) {n : Nat} (h : n ≤ 4) : accN cls fol x n ≤ 16843009 := by
  have hc : ∀ j, (allS j).countP (fun u => endsM x (runM cls fol u)) ≤ 256 ^ j := fun j => by
    rw [← allS_size j]
    exact List.countP_le_length
  have h0 := hc 0
  have h1 := hc 1
  have h2 := hc 2
  have h3 := hc 3
  unfold accN
  rcases (show n = 0 ∨ n = 1 ∨ n = 2 ∨ n = 3 ∨ n = 4 by omega) with rfl | rfl | rfl | rfl | rfl <;> (simp only [sumN]; omega)
/-- What follows of the order. -/
theorem slt_test {u v : List UInt8} (h : slt u v) : v.length < u.length → False := fun k => by
  rcases h with h | ⟨h, _⟩ <;> omega
theorem slt_eq_test {u v : List UInt8} (h : slt u v) (he : v.length = u.length) : (Op.bytesLess v u || v == u) = false := by
  rcases h with h | ⟨_, h⟩
  · omega
  · rw [Bool.or_eq_false_iff]
    refine ⟨?_, ?_⟩
    · cases hb : Op.bytesLess v u with
      | false => rfl
      | true =>
        have := less_trans h hb
        rw [less_irr] at this
        cases this
    · rw [beq_eq_false_iff_ne]
      rintro rfl
      rw [less_irr] at h
      cases h
/-- The facts of the law. -/
structure ListsOk (cls fol : List Set4) (x : Part) (L : List (List UInt8)) (n : Nat) : Prop where
  pos : 0 < L.length
  most : L.length ≤ 200
  has : ∀ i, i < L.length → endsM x (runM cls fol (L.getD i [])) = true ∧ (L.getD i []).length ≤ 4000
  ord : ∀ i, i + 1 < L.length → slt (L.getD i []) (L.getD (i + 1) [])
  few : L.countP (fun u => decide (u.length ≤ n)) = min (accN cls fol x (n + 1)) L.length
  least : ∀ u, endsM x (runM cls fol u) = true → sle (L.getD 0 []) u
theorem lists_ok {nx : Nat → Nat → Nat} {en : Nat → Bool} {N : Nat} {cls fol : List Set4} {x : Part} (h : ∀ u, en (runE nx 0 u) = endsM x (runM cls fol u)) (hN : ∀ k b, k < N → b < 256 → nx k b < N) (h0 : 0 < N) (h4 : N ≤ 400) (hsome : ∃ u, endsM x (runM cls fol u) = true) {n : Nat} (hn : n ≤ 3) :
    ListsOk cls fol x ((firstW nx en 4001).take 200) n := by
  obtain ⟨u, hu⟩ := hsome
  obtain ⟨v, hv1, hv2⟩ := short_text nx en hN h0 _ u rfl (by rw [h]; exact hu)
  have hv3 : v ∈ firstW nx en 4001 := (firstW_mem nx en 4001 v).2 ⟨by omega, hv2⟩
  have hpos : 0 < (firstW nx en 4001).length := List.length_pos_of_mem hv3
  have hlen : ((firstW nx en 4001).take 200).length = min 200 (firstW nx en 4001).length := List.length_take
  have hget : ∀ i, i < ((firstW nx en 4001).take 200).length → ((firstW nx en 4001).take 200).getD i [] ∈ firstW nx en 4001 := fun i hi => by
    rw [List.getD, List.getElem?_eq_getElem hi, Option.getD_some]
    exact List.mem_of_mem_take (List.getElem_mem hi)
  have hsrt := firstW_sorted nx en 4001
  refine ⟨by omega, by omega, fun i hi => ?_, fun i hi => ?_, ?_, fun w hw => ?_⟩
  · obtain ⟨k1, k2⟩ := (firstW_mem nx en 4001 _).1 (hget i hi)
    exact ⟨by rw [← h]; exact k2, by omega⟩
  · have hp := (hsrt.sublist (List.take_sublist 200 _))
    rw [List.pairwise_iff_getElem] at hp
    have := hp i (i + 1) (by omega) hi (by omega)
    rw [List.getD, List.getD, List.getElem?_eq_getElem hi, List.getElem?_eq_getElem (show i < ((firstW nx en 4001).take 200).length by omega)]
    exact this
  · rw [few_first nx en (show n + 1 ≤ 4001 by omega), firstW_count h, hlen]
    obtain ⟨t, k1, _⟩ := firstW_split nx en (n + 1) 4001 (by omega)
    have k2 := congrArg List.length k1
    rw [List.length_append, firstW_count h (n + 1)] at k2
    omega
  · have e0 : ((firstW nx en 4001).take 200).getD 0 [] = (firstW nx en 4001)[0] := by
      rw [List.getD, List.getElem?_eq_getElem (show 0 < ((firstW nx en 4001).take 200).length by omega), Option.getD_some, List.getElem_take]
    rw [e0]
    have hall : ∀ y ∈ firstW nx en 4001, sle (firstW nx en 4001)[0] y := fun y hy => by
      obtain ⟨i, hi, rfl⟩ := List.getElem_of_mem hy
      rcases Nat.eq_zero_or_pos i with rfl | hi0
      · exact sle.refl _
      · rw [List.pairwise_iff_getElem] at hsrt
        exact Or.inr (hsrt 0 i hpos hi hi0)
    rcases Nat.lt_or_ge w.length 4001 with h1 | h1
    · exact hall w ((firstW_mem nx en 4001 w).2 ⟨h1, by rw [h]; exact hw⟩)
    · exact sle_trans (hall v hv3) (Or.inr (Or.inl (by omega)))

end Go.Proofs.Ytebcflgdjbjkoaa
