/- slices.SortFunc at the ranges of ints.joined; no condition beyond those that stand there. -/
import Derived.Test.YtkcpnehhcpmdgaaSort
import Derived.Test.YtkcpnehhcpmdgaaIvApp
import Derived.Test.YtkcpnehhcpmdgaaBelow
namespace Go.Proofs.Ytkcpnehhcpmdgaa
open Go.RowKit

abbrev Bd := { r : Rg // (-40 ≤ r.1 ∧ r.1 ≤ 40) ∧ (-40 ≤ r.2 ∧ r.2 ≤ 40) }
instance : Inhabited Bd := ⟨⟨(0, 0), by decide⟩⟩
def encB (x : Bd) : List Value := rgCells x.1
def cfB (x y : Bd) : Int := if x.1.1 = y.1.1 then x.1.2 - y.1.2 else x.1.1 - y.1.1
theorem ltB_true (x y : Bd) : ltOf cfB x y = true ↔ cfB x y < 0 := by unfold ltOf; exact decide_eq_true_iff
theorem ltB_false (x y : Bd) : ltOf cfB x y = false ↔ ¬ cfB x y < 0 := by unfold ltOf; exact decide_eq_false_iff_not
theorem swoB : Go.Sort.SWO (ltOf cfB) where
  irrefl x := by rw [ltB_false]; simp [cfB]
  trans x y z := by
    rw [ltB_true, ltB_true, ltB_true]
    unfold cfB
    intro h1 h2
    split at h1 <;> split at h2 <;> split <;> omega
  ntrans x y z := by
    rw [ltB_false, ltB_false, ltB_false]
    unfold cfB
    intro h1 h2
    split at h1 <;> split at h2 <;> split <;> omega
set_option maxRecDepth 100000 in
set_option maxHeartbeats 4000000 in
theorem cmp_any (x y : Bd) (W : World) : Calls Try.prog 67 #[.agg (encB x).toArray, .agg (encB y).toArray] W fun e w' => e = .returned (.int .i64 (cfB x y)) ∧ ∃ q os', w' = Go.Sort.grow (W.drewN q) os' := by
  obtain ⟨⟨a, b⟩, ⟨ha, ha'⟩, hb, hb'⟩ := x
  obtain ⟨⟨c, d⟩, ⟨hc, hc'⟩, hd, hd'⟩ := y
  simp only [] at ha ha' hb hb' hc hc' hd hd'
  have w1 : IntKind.i64.wrap (a - c) = a - c := IntWalk.i64_in _ ⟨by omega, by omega⟩
  have w2 : IntKind.i64.wrap (b - d) = b - d := IntWalk.i64_in _ ⟨by omega, by omega⟩
  simp only [encB, rgCells, cfB]
  go_enter Try.func67, Try.ntmps67
  by_cases h : a = c
  · subst h
    go_wp2_with fail
    go_ret
    exact ⟨by simp, 0, _, by rw [Go.Sort.alloc_eq_grow, Go.Sort.alloc_eq_grow, Go.Sort.grow_grow]; rfl⟩
  · go_wp2_with fail
    go_ret
    exact ⟨by simp, 0, _, by rw [Go.Sort.alloc_eq_grow, Go.Sort.alloc_eq_grow, Go.Sort.grow_grow]; rfl⟩
theorem flat_cells (d : Array Bd) : (Go.Sort.flatK encB 2 d).toList = cellsR (d.toList.map (·.1)) := by
  have hl : (cellsR (d.toList.map (·.1))).length = d.size * 2 := by rw [cellsR_length]; simp
  apply List.ext_getElem?
  intro t
  by_cases ht : t < d.size * 2
  · have h1 := Go.Sort.get_flatK encB 2 d t ht
    have h2 : (Go.Sort.flatK encB 2 d)[t]? = some (Go.Sort.flatK encB 2 d)[t]! := by
      rw [getElem!_def]
      have hs : t < (Go.Sort.flatK encB 2 d).size := by simpa using ht
      rw [Array.getElem?_eq_getElem hs]
    rw [Array.getElem?_toList, h2, h1]
    have hj : t / 2 < (d.toList.map (·.1)).length := by simp; omega
    have h3 := cellsR_get (d.toList.map (·.1)) (t / 2) hj (t % 2) (by omega)
    rw [show t / 2 * 2 + t % 2 = t from by omega] at h3
    rw [h3]
    have e1 : d[t / 2]! = d[t / 2]'(by simpa using hj) := getElem!_pos d (t / 2) (by simpa using hj)
    rw [e1]
    have : t % 2 = 0 ∨ t % 2 = 1 := by omega
    rcases this with e | e <;> simp [e, encB, rgCells]
  · rw [List.getElem?_eq_none (by simp; omega), List.getElem?_eq_none (by omega)]
theorem lift_bd : ∀ (L : List Rg), (∀ r ∈ L, (-40 ≤ r.1 ∧ r.1 ≤ 40) ∧ (-40 ≤ r.2 ∧ r.2 ≤ 40)) → ∃ D : List Bd, D.map (·.1) = L
  | [], _ => ⟨[], rfl⟩
  | r :: L, h => by
    obtain ⟨D, hD⟩ := lift_bd L fun x hx => h x (List.mem_cons_of_mem _ hx)
    exact ⟨⟨r, h r (List.mem_cons_self ..)⟩ :: D, by simp [hD]⟩
theorem holds_flat {w : World} {g : Nat} {cur : Array Value} {e : TypeId} {F : Array Value} (hb : w.heap[g]? = some (.cells cur e (0, 0))) (ht : cur.toList.take F.size = F.toList) : Go.Sort.Holds id w g 0 F := by
  intro j hj
  refine ⟨?_, by simp [World.frozen?, hb]⟩
  have h1 : (cur.toList.take F.size)[j]? = F.toList[j]? := by rw [ht]
  rw [List.getElem?_take_of_lt hj] at h1
  simp only [World.cell?, hb, Nat.zero_add]
  simp only [Option.isSome_none, Bool.false_eq_true, if_false]
  rw [← Array.getElem?_toList, h1, Array.getElem?_toList, Array.getElem?_eq_getElem hj, getElem!_pos F j hj]
  rfl
theorem heap_flat {w : World} {g n : Nat} {os : Array Obj} {cur : Array Value} {e : TypeId} {fr : Nat × Nat} (F : Array Value) (hb : w.heap[g]? = some (.cells cur e fr)) :
    (Go.Sort.grow (Go.Sort.putRow id (Go.Sort.ahead w n) g 0 F) os).heap[g]? = some (.cells (Go.Sort.putCells id 0 F cur) e fr) := by
  have hg : g < w.heap.size := (Array.getElem?_eq_some_iff.1 hb).1
  rw [Go.Sort.heap_grow_old _ _ (by simpa using hg)]
  simp [Go.Sort.putRow, Go.Sort.mapBlock, Go.Sort.ahead, Array.getElem?_modify, hb, Go.Sort.onCells]
theorem take_flat (cur F : Array Value) (h : F.size ≤ cur.size) : (Go.Sort.putCells id 0 F cur).toList.take F.size = F.toList := by
  apply List.ext_getElem?
  intro j
  by_cases hj : j < F.size
  · rw [List.getElem?_take_of_lt hj, Array.getElem?_toList]
    simp [Go.Sort.putCells, hj, show j < cur.size by omega]
  · rw [List.getElem?_take_eq_none (by omega), List.getElem?_eq_none (by simp; omega)]
theorem below_flat {w : World} {g n b : Nat} {os : Array Obj} (F : Array Value) (hg : b ≤ g) (hb : b ≤ w.heap.size) : Below b w (Go.Sort.grow (Go.Sort.putRow id (Go.Sort.ahead w n) g 0 F) os) := by
  refine ⟨rfl, rfl, rfl, by simp, fun k hk => ?_⟩
  have hl : k < w.heap.size := by omega
  rw [Go.Sort.heap_grow_old _ _ (by simpa using hl)]
  simp [Go.Sort.putRow, Go.Sort.mapBlock, Go.Sort.ahead, Array.getElem?_modify, show ¬ g = k by omega]

set_option maxRecDepth 100000 in
theorem sort_any (b : Nat) (v : Value) (L : List Rg) (hL : ∀ r ∈ L, (-40 ≤ r.1 ∧ r.1 ≤ 40) ∧ (-40 ≤ r.2 ∧ r.2 ≤ 40)) (hlen : L.length ≤ 1000) (w : World) (h : RowR b w v L) :
    Calls Try.prog 66 #[v, .func (.func 67) #[] #[]] w fun e w' => e = .returned (.tuple #[]) ∧ ∃ L', L'.Perm L ∧ L'.Pairwise (fun x y => x.1 ≤ y.1) ∧ RowR b w' v L' ∧ Below b w w' := by
  obtain ⟨D, rfl⟩ := lift_bd L hL
  have hrow := h
  rcases h.2 with ⟨rfl, h0⟩ | ⟨g, cap, cur, rfl, hbg, hh, hcl, hcm, hcs, hct⟩
  · have hD : D = [] := by simpa using List.length_eq_zero_iff.1 h0
    subst hD
    refine (AnyF.slices_SortFunc_none Try.sortRg none 0 (.func (.func 67) #[] #[]) w).mono ?_
    rintro e w' ⟨rfl, rfl⟩
    exact ⟨rfl, [], List.Perm.refl _, List.Pairwise.nil, hrow, Below.refl _ _⟩
  · have hF : (Go.Sort.flatK encB 2 D.toArray).toList = cellsR (D.map (·.1)) := by rw [flat_cells]
    have hsz : (Go.Sort.flatK encB 2 D.toArray).size = (D.map (·.1)).length * 2 := by simp
    have hH : Go.Sort.HoldsK encB 2 w g 0 D.toArray := holds_flat hh (by rw [hsz, hF]; exact hct)
    have hc := AnyQ.slices_SortFunc Try.sortRg 2 Try.isAgg77 Try.sizeOf77 encB (fun _ => rfl) (fun x v hv => cellsR_one [x.1] v (by simpa [cellsR, encB] using hv)) cfB swoB 67 #[] g 0 cap D.toArray w
      (enters_of Try.func67 (by kernel_rfl) rfl) (fun _ _ _ _ x y => cmp_any x y _) hH (lt_of_block hh) (by simp at hlen ⊢; omega)
    simp only [List.size_toArray] at hc
    rw [show (D.map (·.1)).length = D.length from by simp]
    refine hc.mono ?_
    rintro e w' ⟨rfl, d', n, os, hp, hs, rfl⟩
    refine ⟨rfl, d'.toList.map (·.1), ?_, ?_, ?_, ?_⟩
    · obtain ⟨h1, _, h3⟩ := hp
      have h4 : d'.extract 0 D.length = d' := by
        have : D.length = d'.size := by rw [h1]; simp
        rw [this]; exact Array.extract_size
      rw [h4] at h3
      refine List.Perm.map _ (h3.trans ?_)
      simp
    · rw [List.pairwise_iff_getElem]
      intro i j hi hj hij
      simp only [List.length_map, Array.length_toList] at hi hj
      have h2 := hs i j (Nat.zero_le _) hij (by rw [hp.1] at hj; simpa using hj)
      rw [ltB_false, getElem!_pos d' j hj, getElem!_pos d' i hi] at h2
      unfold cfB at h2
      simp only [List.getElem_map, Array.getElem_toList]
      split at h2 <;> omega
    · have hds : d'.size = D.length := by rw [hp.1]; simp
      have hF' := flat_cells d'
      have hsz' : (Go.Sort.flatK encB 2 d').size = D.length * 2 := by simp [hds]
      unfold RowR
      rw [show (d'.toList.map (·.1)).length = D.length from by simp [hds]]
      refine ⟨by rw [cellsR_length]; simp [hds], Or.inr ⟨g, cap, _, rfl, hbg, heap_flat _ hh, by simpa using hcl, hcm, by simp [Go.Sort.putCells, hcs], ?_⟩⟩
      rw [← hF', ← hsz']
      refine take_flat _ _ ?_
      rw [hsz', hcs]
      simp at hcl
      omega
    · exact below_flat _ hbg (by have := lt_of_block hh; omega)

end Go.Proofs.Ytkcpnehhcpmdgaa
