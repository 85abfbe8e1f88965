/- The plan of a pattern: the positions at which a byte can be; no condition beyond those that stand there. -/
import Derived.Test.YtebcflgdjbjkoaaBehind
namespace Go.Proofs.Ytebcflgdjbjkoaa
open Go.RowKit

/-- The zero value of a long array, not written out. -/
theorem run_zero_row {T : TypeId} {n : Nat} {v : Value} (h : (Try.prog.info? T).map (·.zero) = some (some (.agg (Array.replicate n v)))) (w : World) : (zeroValue T).run Try.prog w = .ok (.agg (Array.replicate n v)) w := by
  cases hi : Try.prog.info? T with
  | none => rw [hi] at h; simp at h
  | some i =>
    rw [hi] at h
    have hz : i.zero = some (.agg (Array.replicate n v)) := by simpa using h
    simp [zeroValue, typeInfo, hi, hz]
theorem flat_repl : ∀ n, flatC (List.replicate n e4) = List.replicate (n * 4) (.int .u64 0)
  | 0 => rfl
  | n + 1 => by
    rw [List.replicate_succ, show (n + 1) * 4 = n * 4 + 1 + 1 + 1 + 1 by omega]
    simp only [flatC, List.replicate_succ, flat_repl n]
    rfl
theorem repl_get (n j : Nat) (h : j < n) : (List.replicate n e4).getD j [] = e4 := by simp [List.getD, h]
theorem set_get4 (l : List Set4) (b j : Nat) (v : Set4) (hb : b < l.length) : (l.set b v).getD j [] = if j = b then v else l.getD j [] := by
  by_cases h : j = b
  · subst h; simp [List.getD, hb]
  · simp only [List.getD]
    rw [List.getElem?_set_ne (fun e => h e.symm), if_neg h]
/-- A number more in one of the sets. -/
theorem flat_add (i : Nat) (hi : i ≤ 255) : ∀ (l : List Set4) (b : Nat), b < l.length → (flatC l).set (b * 4 + i / 64) (.int .u64 (wd (sadd (l.getD b []) i) (i / 64) : Nat)) = flatC (l.set b (sadd (l.getD b []) i))
  | [], _, h => absurd h (Nat.not_lt_zero _)
  | a :: l, 0, _ => by
    have hk : ∀ j, j ≠ i / 64 → wd (sadd a i) j = wd a j := fun j hj => by
      simp only [wd, sadd, List.getD]
      rw [List.getElem?_set_ne (by omega)]
    have e0 : (a :: l).getD 0 [] = a := rfl
    rw [e0]
    rcases (show i / 64 = 0 ∨ i / 64 = 1 ∨ i / 64 = 2 ∨ i / 64 = 3 by omega) with e | e | e | e <;> rw [e] at hk ⊢ <;> simp [flatC, hk]
  | a :: l, b + 1, h => by
    have := flat_add i hi l b (by simpa using h)
    have e0 : (a :: l).getD (b + 1) [] = l.getD b [] := rfl
    rw [e0, show (b + 1) * 4 + i / 64 = (b * 4 + i / 64) + 4 by omega]
    simp only [flatC, List.set_cons_succ]
    rw [this]
/-- The positions at which a byte can be, of the first n. -/
def atM (cls : List Set4) (b n : Nat) : Set4 := (List.range n).foldl (fun o i => if mem (cls.getD i []) b then sadd o i else o) e4
theorem atM_succ (cls : List Set4) (b n : Nat) : atM cls b (n + 1) = if mem (cls.getD n []) b then sadd (atM cls b n) n else atM cls b n := by
  unfold atM
  rw [List.range_succ, List.foldl_append]
  rfl
theorem atM_words (cls : List Set4) (b : Nat) : ∀ n, Words (atM cls b n)
  | 0 => words_e4
  | n + 1 => by
    rw [atM_succ]
    split
    · exact sadd_words (atM_words cls b n) n
    · exact atM_words cls b n
/-- Block A has 256 sets. -/
structure TabAt (A : Nat) (l : List Set4) (W : World) : Prop where
  cell : W.heap[A]? = some (.cells (flatC l).toArray 120 (0, 0))
  len : l.length = 256
  ok : ∀ x ∈ l, Words x
theorem TabAt.below {A : Nat} {l : List Set4} {W W' : World} (h : TabAt A l W) (hb : Below W.heap.size W W') : TabAt A l W' := ⟨(hb.block _ (lt_of_block h.cell)).trans h.cell, h.len, h.ok⟩
theorem TabAt.set {A : Nat} {l : List Set4} {W : World} (h : TabAt A l W) (b : Nat) (hb : b < 256) : SetAt A (b * 4) (l.getD b []) W := fun j hj => by
  rw [Lib.cell_of_heap h.cell]
  have := flat_get l b j (by rw [h.len]; exact hb) hj
  simpa using this
theorem TabAt.add {A : Nat} {l : List Set4} {W : World} (h : TabAt A l W) (b i : Nat) (hb : b < 256) (hi : i ≤ 255) : TabAt A (l.set b (sadd (l.getD b []) i)) (W.setCell ⟨A, b * 4 + i / 64, none⟩ (.int .u64 (wd (sadd (l.getD b []) i) (i / 64) : Nat))).drew := by
  have hbl : b < l.length := by rw [h.len]; exact hb
  refine ⟨?_, by rw [List.length_set]; exact h.len, fun x hx => ?_⟩
  · have := heap_setS h.cell (b * 4 + i / 64) (.int .u64 (wd (sadd (l.getD b []) i) (i / 64) : Nat))
    rw [List.setIfInBounds_toArray, flat_add i hi l b hbl] at this
    exact this
  · rcases List.mem_or_eq_of_mem_set hx with h1 | rfl
    · exact h.ok x h1
    · exact sadd_words (h.ok _ (getD_mem hbl)) i
/-- The plan is where a block of another type is changed. -/
theorem PlanIn.other {B P A : Nat} {cls fol : List Set4} {x : Part} {cv fv : Value} {W W' : World} (h : PlanIn B P cls fol x cv fv W) {cs : Array Value} {T : TypeId} {m : Nat × Nat} (hA : W.heap[A]? = some (.cells cs T m)) (h1 : T ≠ 92) (h2 : T ≠ 114) (h3 : T ≠ 88) (ho : ∀ k, k ≠ A → W'.heap[k]? = W.heap[k]?) : PlanIn B P cls fol x cv fv W' := by
  refine ⟨h.low, (ho P fun e => ?_).trans h.cell, ⟨row_keepP h.rows.crow fun g hg => ho g fun e => row_ne h.rows.crow hA h2 (e ▸ hg), row_keepP h.rows.frow fun g hg => ho g fun e => row_ne h.rows.frow hA h3 (e ▸ hg), h.rows.cok, h.rows.fok, h.rows.len⟩, h.ok⟩
  rw [← e, h.cell] at hA
  injection hA with hA
  injection hA with _ e2 _
  exact h1 e2.symm
set_option maxRecDepth 100000 in
set_option maxHeartbeats 4000000 in
theorem at_any {B P : Nat} {cls fol : List Set4} {x : Part} {cv fv : Value} {w : World} (h : PlanIn B P cls fol x cv fv w) :
    Calls Try.prog 42 #[.pointer (some ⟨P, 0, none⟩)] w fun e w' => (∃ A l, e = .returned (.pointer (some ⟨A, 0, none⟩)) ∧ w.heap.size ≤ A ∧ TabAt A l w' ∧ ∀ b, b < 256 → l.getD b [] = atM cls b cls.length) ∧ Below w.heap.size w w' := by
  obtain ⟨ca, cc, rfl, hcc⟩ := row_slice h.rows.crow
  have hN := h.rows.len.2
  have hz := fun W => run_zero_row (T := 120) (n := 1024) (v := .int .u64 0) (by kernel_rfl) W
  have hab : Below w.heap.size w (w.alloc (.cells (Array.replicate 1024 (.int .u64 0)) 120 (0, 0))) := (Below.refl w.heap.size w).alloc (Nat.le_refl _) _
  have hT : TabAt w.heap.size (List.replicate 256 e4) (w.alloc (.cells (Array.replicate 1024 (.int .u64 0)) 120 (0, 0))) := by
    refine ⟨?_, by simp, fun y hy => by rw [(List.mem_replicate.1 hy).2]; exact words_e4⟩
    rw [heap_alloc_new, flat_repl, ← List.toArray_replicate]
  have HI := Lib.hid (And.intro hT (And.intro hab (h.below hab)))
  clear hT hab h
  generalize hZ : Array.replicate 1024 (Value.int .u64 0) = Z at *
  clear hZ
  go_enter Try.func42, Try.ntmps42
  go_wp2_with fail
  have hi := HI.out
  clear HI
  generalize w.alloc (.cells Z 120 (0, 0)) = W at *
  obtain ⟨hT, hab, hP⟩ := hi
  have HI := Lib.hid (And.intro hT (And.intro hab hP))
  clear hT hab hP hz
  go_loopw [6] (fun bv wr => ∃ (b : Nat) (l : List Set4), bv = .int .i64 b ∧ b ≤ 256 ∧ TabAt w.heap.size l wr ∧ Below w.heap.size w wr ∧ PlanIn B P cls fol x (.slice ca cls.length cc) fv wr ∧ (∀ j, j < b → l.getD j [] = atM cls j cls.length) ∧ ∀ j, b ≤ j → j < 256 → l.getD j [] = e4) (fun bv _ => 256 - (intOf bv).toNat)
  case atStart => exact ⟨0, _, rfl, Nat.zero_le _, HI.out.1, HI.out.2.1, HI.out.2.2, fun j hj => absurd hj (Nat.not_lt_zero _), fun j _ hj => repl_get 256 j hj⟩
  case round =>
    obtain ⟨b, l, rfl, hb, hT, hbw, hP, hd1, hd2⟩ := hrel
    by_cases hlt : b < 256
    · have tb : (b : Int) < 256 := by omega
      have wb : IntKind.i64.wrap ((b : Int) + 1) = (b : Int) + 1 := IntWalk.i64_in _ ⟨by omega, by omega⟩
      have w8 : IntKind.u8.wrap (b : Int) = (b : Int) := by unfold IntKind.wrap; simp [IntKind.bits, IntKind.signed]; omega
      have hnb : ((b : Int)).toNat = b := by omega
      have a0 : wr.cell? ⟨P, 0, none⟩ = some (.slice ca cls.length cc) := by rw [Lib.cell_of_heap hP.cell]; rfl
      have HB := Lib.hid (And.intro hT (And.intro hbw (And.intro hP (And.intro hd1 hd2))))
      clear hT hbw hP hd1 hd2
      go_wp2_with fail
      go_loopw [14] (fun iv wq => ∃ (i : Nat) (l : List Set4), iv = .int .i64 i ∧ i ≤ cls.length ∧ TabAt w.heap.size l wq ∧ Below w.heap.size w wq ∧ PlanIn B P cls fol x (.slice ca cls.length cc) fv wq ∧ (∀ j, j < b → l.getD j [] = atM cls j cls.length) ∧ l.getD b [] = atM cls b i ∧ ∀ j, b < j → j < 256 → l.getD j [] = e4) (fun iv _ => cls.length - (intOf iv).toNat)
      case atStart => exact ⟨0, l, rfl, Nat.zero_le _, HB.out.1, HB.out.2.1, HB.out.2.2.1, HB.out.2.2.2.1, HB.out.2.2.2.2 b (Nat.le_refl _) hlt, fun j hj h2 => HB.out.2.2.2.2 j (Nat.le_of_lt hj) h2⟩
      case round =>
        clear HB a0
        obtain ⟨i, l, rfl, hi, hT, hbw, hP, hd1, hd3, hd2⟩ := hrel
        have hPk := hP.cell
        have a0 : wr.cell? ⟨P, 0, none⟩ = some (.slice ca cls.length cc) := by rw [Lib.cell_of_heap hPk]; rfl
        by_cases hli : i < cls.length
        · have ti : (i : Int) < (cls.length : Int) := by omega
          have wi : IntKind.i64.wrap ((i : Int) + 1) = (i : Int) + 1 := IntWalk.i64_in _ ⟨by omega, by omega⟩
          have hni : ((i : Int)).toNat = i := by omega
          obtain ⟨g, cap, hg⟩ := ownsRow_formW hP.rows.crow (by omega)
          simp only [Value.slice.injEq] at hg
          obtain ⟨rfl, -, rfl⟩ := hg
          have hSA : SetAt g (i * 4) (cls.getD i []) wr := fun j hj => (World.ownsRow.cellAt hP.rows.crow (i * 4 + j) (by omega)).trans (flat_get cls i j hli hj)
          have hHas := Lib.hid (class_has g (i * 4) (cls.getD i []) b (by omega) wr hSA)
          have hAdd := Lib.hid (set_add w.heap.size (b * 4) (l.getD b []) i (by omega) wr (hT.ok _ (getD_mem (by rw [hT.len]; exact hlt))) (hT.set b hlt) (fun j => Lib.frozen_of_heap hT.cell j))
          have hsucc := atM_succ cls b i
          generalize hme : mem (cls.getD i []) b = mb at *
          have HB := Lib.hid (And.intro hT (And.intro hbw (And.intro hP (And.intro hd1 (And.intro hd3 (And.intro hd2 hsucc))))))
          clear hT hbw hP hd1 hd3 hd2 hsucc hSA hPk hme
          go_wp2_with fail
          refine hHas.out.mono ?_
          rintro e w3 ⟨rfl, rfl⟩
          clear hHas
          cases mb
          · clear hAdd
            go_wp2_with fail
            refine ⟨⟨i + 1, l, by simp, by omega, HB.out.1, HB.out.2.1, HB.out.2.2.1, HB.out.2.2.2.1, ?_, HB.out.2.2.2.2.2.1⟩, by simp [intOf]; omega⟩
            rw [HB.out.2.2.2.2.2.2]
            exact HB.out.2.2.2.2.1
          · go_wp2_with fail
            refine hAdd.out.mono ?_
            rintro e w4 ⟨rfl, hw4⟩
            have hT4 := HB.out.1.add b i hlt (by omega)
            have o4 : One w.heap.size w3 _ := one_set w.heap.size (b * 4 + i / 64) w3 (.int .u64 (wd (sadd (l.getD b []) i) (i / 64) : Nat))
            rw [← hw4] at hT4 o4
            have hPA : PlanIn B P cls fol x (.slice (some ⟨g, 0, none⟩) cls.length cc) fv w4 := HB.out.2.2.1.other HB.out.1.cell (by decide) (by decide) (by decide) o4.other
            have H4 := Lib.hid (And.intro hT4 (And.intro (HB.out.2.1.trans (o4.below (Nat.le_refl _))) hPA))
            clear hT4 o4 hPA hw4 hAdd
            go_wp2_with fail
            refine ⟨⟨i + 1, l.set b (sadd (l.getD b []) i), by simp, by omega, H4.out.1, H4.out.2.1, H4.out.2.2, fun j hj => ?_, ?_, fun j hj h2 => ?_⟩, by simp [intOf]; omega⟩
            · rw [set_get4 _ _ _ _ (by rw [HB.out.1.len]; exact hlt), if_neg (by omega)]
              exact HB.out.2.2.2.1 j hj
            · rw [set_get4 _ _ _ _ (by rw [HB.out.1.len]; exact hlt), if_pos rfl, HB.out.2.2.2.2.2.2, HB.out.2.2.2.2.1]
              rfl
            · rw [set_get4 _ _ _ _ (by rw [HB.out.1.len]; exact hlt), if_neg (by omega)]
              exact HB.out.2.2.2.2.2.1 j hj h2
        · have ti : decide ((i : Int) < (cls.length : Int)) = false := decide_eq_false (by omega)
          obtain rfl : i = cls.length := by omega
          have HB := Lib.hid (And.intro hT (And.intro hbw (And.intro hP (And.intro hd1 (And.intro hd3 hd2)))))
          clear hT hbw hP hd1 hd3 hd2 hPk
          go_wp2_with fail
          refine ⟨⟨b + 1, l, by simp, by omega, HB.out.1, HB.out.2.1, HB.out.2.2.1, fun j hj => ?_, fun j hj h2 => HB.out.2.2.2.2.2 j (by omega) h2⟩, by simp [intOf]; omega⟩
          rcases Nat.lt_or_ge j b with h1 | h1
          · exact HB.out.2.2.2.1 j h1
          · obtain rfl : j = b := by omega
            exact HB.out.2.2.2.2.1
    · have tb : decide ((b : Int) < 256) = false := decide_eq_false (by omega)
      obtain rfl : b = 256 := by omega
      go_wp2_with fail
      go_ret
      exact ⟨⟨w.heap.size, l, rfl, Nat.le_refl _, hT, hd1⟩, hbw⟩

end Go.Proofs.Ytebcflgdjbjkoaa
