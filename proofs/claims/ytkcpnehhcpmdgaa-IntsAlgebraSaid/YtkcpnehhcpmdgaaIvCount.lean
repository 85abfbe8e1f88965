/- How many numbers two sets have: a plain law; no condition beyond those that stand there. -/
import Derived.Test.YtkcpnehhcpmdgaaIvHas
namespace Go.Proofs.Ytkcpnehhcpmdgaa

theorem count_iv (lo hi : Int) : ∀ N : Nat, (((List.range N).countP (fun i : Nat => decide (lo ≤ (i : Int)) && decide ((i : Int) ≤ hi)) : Nat) : Int) = max 0 (min hi ((N : Int) - 1) - max lo 0 + 1)
  | 0 => by simp; omega
  | N + 1 => by
    rw [List.range_succ, List.countP_append, Int.natCast_add, count_iv lo hi N, List.countP_cons, List.countP_nil]
    by_cases h1 : lo ≤ (N : Int)
    · by_cases h2 : (N : Int) ≤ hi
      · simp [h1, h2]; omega
      · simp [h1, h2]; omega
    · simp [h1]; omega
theorem countP_or {α : Type} (p q : α → Bool) (h : ∀ x, p x = true → q x = true → False) : ∀ l : List α, l.countP (fun x => p x || q x) = l.countP p + l.countP q
  | [] => rfl
  | x :: l => by
    rw [List.countP_cons, List.countP_cons, List.countP_cons, countP_or p q h l]
    cases hp : p x with
    | false => cases hq : q x <;> simp <;> omega
    | true =>
      cases hq : q x with
      | false => simp; omega
      | true => exact absurd (h x hp hq) (fun h => h)
theorem countP_both {α : Type} (p q r s : α → Bool) (h1 : ∀ x, r x = (p x || q x)) (h2 : ∀ x, s x = (p x && q x)) : ∀ l : List α, l.countP r + l.countP s = l.countP p + l.countP q
  | [] => rfl
  | x :: l => by
    have := countP_both p q r s h1 h2 l
    rw [List.countP_cons, List.countP_cons, List.countP_cons, List.countP_cons, h1 x, h2 x]
    cases p x <;> cases q x <;> simp <;> omega
def cntW (rs : List Rg) : Nat := (List.range 81).countP fun i : Nat => hasF rs ((i : Int) - 40)
theorem cnt_window : ∀ rs : List Rg, Ok rs → Within (-40) 40 rs → cnt rs = (cntW rs : Int)
  | [], _, _ => by
    have : cntW [] = 0 := by
      unfold cntW
      rw [List.countP_eq_zero]
      intro i _
      simp [hasF]
    rw [this]; rfl
  | r :: rs, h, hw => by
    have hr := (ok_cons r rs).1 h
    have hb := hw r (List.mem_cons_self ..)
    have ih := cnt_window rs hr.2.2 fun x hx => hw x (List.mem_cons_of_mem _ hx)
    have e : cntW (r :: rs) = ((List.range 81).countP fun i : Nat => inR ((i : Int) - 40) r) + cntW rs := by
      unfold cntW
      rw [← countP_or]
      · rfl
      · intro i h1 h2
        have h3 := mem_tail h ((hasF_iff rs _).1 h2)
        simp only [inR, Bool.and_eq_true, decide_eq_true_eq] at h1
        omega
    have e2 : ((List.range 81).countP fun i : Nat => inR ((i : Int) - 40) r) = (List.range 81).countP fun i : Nat => decide (r.1 + 40 ≤ (i : Int)) && decide ((i : Int) ≤ r.2 + 40) := by
      congr 1
      funext i
      unfold inR
      congr 1
      · exact decide_eq_decide.2 (by omega)
      · exact decide_eq_decide.2 (by omega)
    have e3 := count_iv (r.1 + 40) (r.2 + 40) 81
    rw [cnt, ih, e, e2, Int.natCast_add, e3]
    omega
theorem has_eq {rs : List Rg} {n : Int} {x : Bool} (h : Mem n rs ↔ x = true) : hasF rs n = x := by
  rw [Bool.eq_iff_iff, hasF_iff]; exact h
theorem cnt_both {a b u c : List Rg} (ha : Small a) (hb : Small b) (hu : Small u) (hc : Small c) (h1 : ∀ n, hasF u n = (hasF a n || hasF b n)) (h2 : ∀ n, hasF c n = (hasF a n && hasF b n)) : cnt u + cnt c = cnt a + cnt b := by
  rw [cnt_window u hu.1 hu.2, cnt_window c hc.1 hc.2, cnt_window a ha.1 ha.2, cnt_window b hb.1 hb.2]
  have := countP_both (fun i : Nat => hasF a ((i : Int) - 40)) (fun i : Nat => hasF b ((i : Int) - 40)) (fun i : Nat => hasF u ((i : Int) - 40)) (fun i : Nat => hasF c ((i : Int) - 40)) (fun i => h1 _) (fun i => h2 _) (List.range 81)
  unfold cntW
  omega

end Go.Proofs.Ytkcpnehhcpmdgaa
