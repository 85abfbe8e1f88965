/- The numbers that pattern.Count adds up are those of the texts of each length. No program; no condition beyond those that stand there. -/
import Derived.Test.YtebcflgdjbjkoaaCount
import Derived.Test.YtebcflgdjbjkoaaNfa
namespace Go.Proofs.Ytebcflgdjbjkoaa
open Go.RowKit

/-- A sum over the first n numbers. -/
def sumN (f : Nat → Nat) : Nat → Nat
  | 0 => 0
  | n + 1 => sumN f n + f n
theorem sumN_congr {f g : Nat → Nat} : ∀ n, (∀ i, i < n → f i = g i) → sumN f n = sumN g n
  | 0, _ => rfl
  | n + 1, h => by rw [sumN, sumN, sumN_congr n fun i hi => h i (by omega), h n (by omega)]
theorem sumN_add (f g : Nat → Nat) : ∀ n, sumN (fun i => f i + g i) n = sumN f n + sumN g n
  | 0 => rfl
  | n + 1 => by rw [sumN, sumN, sumN, sumN_add f g n]; omega
theorem sumN_zero (n : Nat) : sumN (fun _ => 0) n = 0 := by
  induction n with
  | zero => rfl
  | succ n ih => rw [sumN, ih]
theorem sumN_one (m v : Nat) : ∀ n, sumN (fun i => if i = m then v else 0) n = if m < n then v else 0
  | 0 => by simp [sumN]
  | n + 1 => by
    rw [sumN, sumN_one m v n]
    by_cases h : n = m
    · subst h; simp
    · by_cases h2 : m < n
      · simp [h, h2, show m < n + 1 by omega]
      · simp [h, h2, show ¬ m < n + 1 by omega]
theorem innerC_get {N : Nat} {r : List Nat} {x : Nat} {Y : List Nat} (hY : Bnd N Y) {n : Nat} (hn : n < N) : ∀ b, b ≤ r.length → (innerC r x Y b).getD n 0 = min (Y.getD n 0 + x * (r.take b).count n) bcap
  | 0, _ => by
    have := hY.2 n
    simp [innerC]
    simp at this
    omega
  | b + 1, hb => by
    have hbl : b < r.length := by omega
    have ih := innerC_get (r := r) hY (x := x) hn b (by omega)
    have hl : (innerC r x Y b).length = N := (hY.inner r x b).1
    rw [innerC]
    have hrb : r.getD b 0 = r[b] := by simp [List.getD, hbl]
    have htk : r.take (b + 1) = r.take b ++ [r[b]] := by rw [List.take_add_one]; simp [hbl]
    rw [htk, List.count_append, hrb]
    unfold addC
    by_cases e : r[b] = n
    · rw [e]
      have h1 : ((innerC r x Y b).set n (min ((innerC r x Y b).getD n 0 + x) bcap)).getD n 0 = min ((innerC r x Y b).getD n 0 + x) bcap := by simp [List.getD, hl, hn]
      rw [h1, ih]
      have h2 : [n].count n = 1 := by simp
      rw [h2, Nat.mul_add, Nat.mul_one]
      omega
    · have h1 : ((innerC r x Y b).set r[b] (min ((innerC r x Y b).getD r[b] 0 + x) bcap)).getD n 0 = (innerC r x Y b).getD n 0 := by simp [List.getD, e]
      rw [h1, ih]
      have h2 : [r[b]].count n = 0 := by simp [e]
      rw [h2, Nat.add_zero]
theorem min_mul_cap (s s' a c cap : Nat) (h : min s cap = min s' cap) : min (s + min a cap * c) cap = min (s' + a * c) cap := by
  rcases Nat.eq_zero_or_pos c with rfl | hc
  · simpa using h
  · by_cases ha : a ≤ cap
    · rw [show min a cap = a by omega]; omega
    · rw [show min a cap = cap by omega]
      have h1 : cap ≤ cap * c := Nat.le_mul_of_pos_right cap hc
      have h2 : a ≤ a * c := Nat.le_mul_of_pos_right a hc
      omega
/-- How many texts of a length lead to a row's set. -/
def cntE (rows : List (List Nat)) (N : Nat) : Nat → Nat → Nat
  | 0, n => if n = 0 then 1 else 0
  | k + 1, n => sumN (fun i => cntE rows N k i * (rows.getD i []).count n) N
theorem outerC_get {rows : List (List Nat)} {N : Nat} (hr : ∀ r ∈ rows, r.length = 256) (hN : rows.length = N) {L : List Nat} (hL : Bnd N L) {E : Nat → Nat} (hE : ∀ i, i < N → L.getD i 0 = min (E i) bcap) {n : Nat} (hn : n < N) :
    ∀ i, i ≤ N → (outerC rows L i).getD n 0 = min (sumN (fun i => E i * (rows.getD i []).count n) i) bcap
  | 0, _ => by
    rw [outerC, hL.1]
    simp [sumN, List.getD, hn]
  | i + 1, hi => by
    have ih := outerC_get hr hN hL hE hn i (by omega)
    have hB := hL.outer rows i
    have hb2 := hB.2 n
    rw [outerC, sumN]
    have hrow : (rows.getD i []).length = 256 := hr _ (by simp [List.getD, show i < rows.length by omega])
    have hEi := hE i (by omega)
    split
    · rename_i h0
      rw [h0] at hEi
      have : E i = 0 := by
        have : bcap = 1099511627777 := rfl
        omega
      rw [this, ih]
      simp
    · have ht : (rows.getD i []).take 256 = rows.getD i [] := List.take_of_length_le (by omega)
      rw [innerC_get hB hn 256 (by omega), ht, hEi]
      refine min_mul_cap _ _ _ _ _ ?_
      rw [ih]
      omega
theorem nowC_get {rows : List (List Nat)} {N : Nat} (hr : ∀ r ∈ rows, r.length = 256) (hN : rows.length = N) : ∀ (k : Nat) {n : Nat}, n < N → (nowC rows N k).getD n 0 = min (cntE rows N k n) bcap
  | 0, n, hn => by
    unfold nowC cntE
    by_cases e : n = 0
    · subst e
      simp [List.getD, hn, bcap]
    · simp [List.getD, Ne.symm e, e, hn]
  | k + 1, n, hn => by
    rw [nowC, cntE]
    exact outerC_get hr hN (Bnd.now rows N k) (fun i hi => nowC_get hr hN k hi) hn N (Nat.le_refl _)
/-- All texts of a length. -/
def bytesL : List UInt8 := (List.range 256).map UInt8.ofNat
def allS : Nat → List (List UInt8)
  | 0 => [[]]
  | k + 1 => (allS k).flatMap fun u => bytesL.map fun b => u ++ [b]
theorem count_at {α : Type} (f : α → Nat) (g : Nat → Nat) (N : Nat) : ∀ l : List α, (∀ u ∈ l, f u < N) → (l.map fun u => g (f u)).sum = sumN (fun i => l.countP (fun u => f u == i) * g i) N
  | [], _ => by
    have : sumN (fun i => ([] : List α).countP (fun u => f u == i) * g i) N = sumN (fun _ => 0) N := sumN_congr N fun i _ => by simp
    rw [this, sumN_zero]; rfl
  | u :: l, h => by
    rw [List.map_cons, List.sum_cons, count_at f g N l fun v hv => h v (by simp [hv])]
    have h1 : sumN (fun i => (u :: l).countP (fun u => f u == i) * g i) N = sumN (fun i => (l.countP (fun u => f u == i) * g i) + (if i = f u then g (f u) else 0)) N := sumN_congr N fun i _ => by
      rw [List.countP_cons]
      by_cases e : i = f u
      · subst e; simp [Nat.add_mul]
      · simp [e, beq_eq_false_iff_ne.2 (Ne.symm e)]
    rw [h1, sumN_add, sumN_one, if_pos (h u (by simp))]
    omega
theorem countP_flat {α β : Type} (p : β → Bool) (f : α → List β) : ∀ l : List α, (l.flatMap f).countP p = (l.map fun u => (f u).countP p).sum
  | [] => rfl
  | u :: l => by rw [List.flatMap_cons, List.countP_append, countP_flat p f l]; rfl
theorem sumN_cap {f g : Nat → Nat} {c : Nat} : ∀ n, (∀ i, i < n → f i ≤ g i ∧ (f i < g i → c ≤ f i)) → sumN f n ≤ sumN g n ∧ (sumN f n < sumN g n → c ≤ sumN f n)
  | 0, _ => ⟨Nat.le_refl _, fun h => absurd h (Nat.lt_irrefl _)⟩
  | n + 1, h => by
    have h1 := sumN_cap n fun i hi => h i (by omega)
    have h2 := h n (by omega)
    rw [sumN, sumN]
    refine ⟨by omega, fun h3 => ?_⟩
    by_cases h4 : sumN f n < sumN g n
    · have := h1.2 h4; omega
    · have := h2.2 (by omega); omega
theorem run_inside {cls fol : List Set4} {x : Part} {sets : List Set4} {rows : List (List Nat)} {ends : List Bool} (h : Half cls fol x sets rows ends sets.length) (u : List UInt8) : runM cls fol u ∈ sets := by
  have hst : ∀ s b, s ∈ sets → b < 256 → stepM cls fol s b ∈ sets := fun s b hs hb => by
    obtain ⟨k, hk, rfl⟩ := List.getElem_of_mem hs
    have hkr : k < rows.length := by rw [h.rl]; exact hk
    have h2 := h.rr k sets[k] rows[k] (by simp [hk]) (by simp [hkr])
    have hbl : b < rows[k].length := by omega
    exact List.mem_of_getElem? (h2.2 b rows[k][b] (by simp [hbl]))
  have : ∀ (u : List UInt8) (s : Set4), s ∈ sets → fromM cls fol s u ∈ sets := fun u => by
    induction u with
    | nil => exact fun s hs => hs
    | cons c u ih => exact fun s hs => ih _ (hst s _ hs c.toNat_lt)
  exact this u _ (List.mem_of_getElem? h.first)
theorem idx_of {sets : List Set4} (hn : sets.Nodup) {s : Set4} {i : Nat} (h : sets[i]? = some s) : sets.idxOf s = i := by
  obtain ⟨hi, rfl⟩ := List.getElem?_eq_some_iff.1 h
  exact List.Nodup.idxOf_getElem hn i hi
theorem row_of {cls fol : List Set4} {x : Part} {sets : List Set4} {rows : List (List Nat)} {ends : List Bool} (h : Half cls fol x sets rows ends sets.length) {i : Nat} {s : Set4} (hi : sets[i]? = some s) :
    rows.getD i [] = (List.range 256).map fun b => sets.idxOf (stepM cls fol s b) := by
  have hk : i < sets.length := (List.getElem?_eq_some_iff.1 hi).1
  have hkr : i < rows.length := by rw [h.rl]; exact hk
  have h2 := h.rr i s rows[i] hi (by simp [hkr])
  have e : rows.getD i [] = rows[i] := by simp [List.getD, hkr]
  rw [e]
  refine List.ext_getElem (by simp [h2.1]) fun b hb1 hb2 => ?_
  rw [List.getElem_map, List.getElem_range]
  exact (idx_of h.nodup (h2.2 b rows[i][b] (by simp [hb1]))).symm
theorem cnt_strings {cls fol : List Set4} {x : Part} {sets : List Set4} {rows : List (List Nat)} {ends : List Bool} (h : Half cls fol x sets rows ends sets.length) :
    ∀ (k n : Nat), n < rows.length → cntE rows rows.length k n = (allS k).countP fun u => sets.idxOf (runM cls fol u) == n
  | 0, n, _ => by
    have h0 : sets.idxOf (runM cls fol []) = 0 := idx_of h.nodup h.first
    rw [cntE, allS, List.countP_cons, List.countP_nil, h0]
    by_cases e : n = 0
    · subst e; rfl
    · simp [e, Ne.symm e]
  | k + 1, n, hn => by
    rw [cntE, allS, countP_flat]
    have hlt : ∀ u, sets.idxOf (runM cls fol u) < rows.length := fun u => by rw [h.rl]; exact List.idxOf_lt_length_of_mem (run_inside h u)
    have h1 : ((allS k).map fun u => (bytesL.map fun b => u ++ [b]).countP fun u => sets.idxOf (runM cls fol u) == n) = (allS k).map fun u => (fun i => (rows.getD i []).count n) (sets.idxOf (runM cls fol u)) := by
      refine List.map_congr_left fun u _ => ?_
      have hi : sets[sets.idxOf (runM cls fol u)]? = some (runM cls fol u) := by
        have := List.idxOf_lt_length_of_mem (run_inside h u)
        rw [List.getElem?_eq_getElem this, List.getElem_idxOf]
      show _ = (rows.getD (sets.idxOf (runM cls fol u)) []).count n
      rw [row_of h hi, List.count_eq_countP, List.countP_map, List.countP_map, bytesL, List.countP_map]
      refine List.countP_congr fun b hb => ?_
      have hb2 : b < 256 := by simpa using hb
      simp only [Function.comp_apply, runM_app]
      rw [show (UInt8.ofNat b).toNat = b by simp; omega]
    rw [h1, count_at (fun u => sets.idxOf (runM cls fol u)) (fun i => (rows.getD i []).count n) rows.length _ fun u _ => hlt u]
    exact sumN_congr _ fun i hi => by rw [cnt_strings h k i hi]
/-- How many texts of less than J bytes a machine takes. -/
def accN (cls fol : List Set4) (x : Part) (J : Nat) : Nat := sumN (fun j => (allS j).countP fun u => endsM x (runM cls fol u)) J
theorem sumE_sum (ends : List Bool) (L : List Nat) : ∀ n, sumE ends L n = sumN (fun i => if ends.getD i false then L.getD i 0 else 0) n
  | 0 => rfl
  | n + 1 => by rw [sumE, sumN, sumE_sum ends L n]
theorem totC_sum (rows : List (List Nat)) (ends : List Bool) (N : Nat) : ∀ n, totC rows ends N n = sumN (fun k => sumE ends (nowC rows N k) N) n
  | 0 => rfl
  | n + 1 => by rw [totC, sumN, totC_sum rows ends N n]
theorem acc_at {cls fol : List Set4} {x : Part} {sets : List Set4} {rows : List (List Nat)} {ends : List Bool} (h : Half cls fol x sets rows ends sets.length) (k : Nat) :
    ((allS k).countP fun u => endsM x (runM cls fol u)) = sumN (fun i => if ends.getD i false then cntE rows rows.length k i else 0) rows.length := by
  have hlt : ∀ u, sets.idxOf (runM cls fol u) < rows.length := fun u => by rw [h.rl]; exact List.idxOf_lt_length_of_mem (run_inside h u)
  have h1 : ((allS k).countP fun u => endsM x (runM cls fol u)) = ((allS k).map fun u => (fun i => if ends.getD i false then 1 else 0) (sets.idxOf (runM cls fol u))).sum := by
    generalize allS k = l
    induction l with
    | nil => rfl
    | cons u l ih =>
      rw [List.countP_cons, List.map_cons, List.sum_cons, ih]
      have hi : sets[sets.idxOf (runM cls fol u)]? = some (runM cls fol u) := by
        have := List.idxOf_lt_length_of_mem (run_inside h u)
        rw [List.getElem?_eq_getElem this, List.getElem_idxOf]
      have hie : sets.idxOf (runM cls fol u) < ends.length := by rw [h.el]; exact List.idxOf_lt_length_of_mem (run_inside h u)
      have he := h.re _ _ ends[sets.idxOf (runM cls fol u)] hi (by simp [hie])
      have hg : ends.getD (sets.idxOf (runM cls fol u)) false = endsM x (runM cls fol u) := by rw [← he]; simp [List.getD, hie]
      show _ = (if ends.getD (sets.idxOf (runM cls fol u)) false then 1 else 0) + _
      rw [hg]
      omega
  rw [h1, count_at (fun u => sets.idxOf (runM cls fol u)) (fun i => if ends.getD i false then 1 else 0) rows.length _ fun u _ => hlt u]
  refine sumN_congr _ fun i hi => ?_
  rw [cnt_strings h k i hi]
  split <;> simp
theorem tot_acc {cls fol : List Set4} {x : Part} {sets : List Set4} {rows : List (List Nat)} {ends : List Bool} (h : Half cls fol x sets rows ends sets.length) (J : Nat) :
    totC rows ends rows.length J ≤ accN cls fol x J ∧ (totC rows ends rows.length J < accN cls fol x J → bcap ≤ totC rows ends rows.length J) := by
  have hall : ∀ r ∈ rows, r.length = 256 := fun r hr => by
    obtain ⟨i, hi, rfl⟩ := List.getElem_of_mem hr
    have h1 : i < sets.length := by rw [← h.rl]; exact hi
    exact (h.rr i sets[i] rows[i] (by simp [h1]) (by simp [hi])).1
  rw [totC_sum]
  refine sumN_cap J fun k _ => ?_
  rw [acc_at h k, sumE_sum]
  refine sumN_cap _ fun i hi => ?_
  split
  · rw [nowC_get hall rfl k hi]; omega
  · exact ⟨Nat.le_refl _, fun h => absurd h (Nat.lt_irrefl _)⟩
/-- Each text is there once. -/
theorem allS_len : ∀ (k : Nat) (u : List UInt8), u ∈ allS k → u.length = k
  | 0, u, h => by simp [allS] at h; simp [h]
  | k + 1, u, h => by
    simp only [allS, List.mem_flatMap, List.mem_map] at h
    obtain ⟨v, hv, b, _, rfl⟩ := h
    simp [allS_len k v hv]
theorem range_count (m : Nat) : ∀ n, (List.range n).countP (fun b => b == m) = if m < n then 1 else 0
  | 0 => by simp
  | n + 1 => by
    rw [List.range_succ, List.countP_append, range_count m n]
    by_cases e : n = m
    · subst e; simp
    · by_cases h : m < n
      · simp [h, e, show m < n + 1 by omega]
      · simp [h, e, show ¬ m < n + 1 by omega]
theorem bytes_count (c : UInt8) : bytesL.countP (fun b => b == c) = 1 := by
  have h1 := range_count c.toNat 256
  rw [if_pos c.toNat_lt] at h1
  rw [← h1]
  unfold bytesL
  rw [List.countP_map]
  refine List.countP_congr fun b hb => ?_
  have hb2 : b < 256 := by simpa using hb
  simp only [Function.comp_apply, beq_iff_eq]
  constructor
  · intro h
    rw [← h]
    simp
    omega
  · intro h
    rw [h]
    simp
theorem allS_count : ∀ (k : Nat) (u : List UInt8), (allS k).countP (fun v => v == u) = if u.length = k then 1 else 0
  | 0, u => by
    cases u with
    | nil => rfl
    | cons c u => rfl
  | k + 1, u => by
    rw [allS, countP_flat]
    rcases List.eq_nil_or_concat u with rfl | ⟨v, c, rfl⟩
    · have : (allS k).map (fun w => (bytesL.map fun b => w ++ [b]).countP fun v => v == []) = (allS k).map fun _ => 0 := List.map_congr_left fun w _ => by
        rw [List.countP_map, List.countP_eq_zero]
        intro b _
        simp
      rw [this]
      have h2 : ∀ l : List (List UInt8), (l.map fun _ => 0).sum = 0 := fun l => by
        induction l with
        | nil => rfl
        | cons a l ih => rw [List.map_cons, List.sum_cons, ih]
      rw [h2]
      simp
    · rw [List.concat_eq_append]
      have h1 : ((allS k).map fun w => (bytesL.map fun b => w ++ [b]).countP fun x => x == v ++ [c]) = (allS k).map fun w => if w == v then 1 else 0 := List.map_congr_left fun w _ => by
        rw [List.countP_map]
        by_cases e : w = v
        · subst e
          rw [if_pos (by simp), ← bytes_count c]
          refine List.countP_congr fun b _ => ?_
          simp
        · rw [if_neg (by simpa using e), List.countP_eq_zero]
          intro b _
          simp [e]
      have h2 : ∀ l : List (List UInt8), (l.map fun w => if w == v then 1 else 0).sum = l.countP fun w => w == v := fun l => by
        induction l with
        | nil => rfl
        | cons a l ih => rw [List.map_cons, List.sum_cons, ih, List.countP_cons]; omega
      rw [h1, h2, allS_count k v]
      simp
/-- Where a machine takes one text alone, it takes one text. -/
theorem accN_one {cls fol : List Set4} {x : Part} (l : List UInt8) (h : ∀ u, endsM x (runM cls fol u) = (u == l)) (J : Nat) (hJ : l.length < J) : accN cls fol x J = 1 := by
  unfold accN
  have h1 : sumN (fun j => (allS j).countP fun u => endsM x (runM cls fol u)) J = sumN (fun j => if j = l.length then 1 else 0) J := sumN_congr J fun j _ => by
    have : (fun u => endsM x (runM cls fol u)) = fun u => u == l := funext h
    rw [this, allS_count j l]
    by_cases e : j = l.length
    · simp [e]
    · simp [e, Ne.symm e]
  rw [h1, sumN_one, if_pos hJ]

end Go.Proofs.Ytebcflgdjbjkoaa
