/- The order of trees of values: the plain law; no condition beyond those that stand there. -/
import Derived.Test.YtkcpnehhcpmdgaaShelf
import Derived.Test.YtkcpnehhcpmdgaaTree
namespace Go.Proofs.Ytkcpnehhcpmdgaa
open Go.RowKit

/-- A comparison that is a total order. -/
structure IsOrd {α : Type} (f : α → α → Int) : Prop where
  val : ∀ a b, f a b = -1 ∨ f a b = 0 ∨ f a b = 1
  neg : ∀ a b, f a b = - f b a
  trans : ∀ a b c, f a b ≤ 0 → f b c ≤ 0 → f a c ≤ 0
def or2 (x y : Int) : Int := if x ≠ 0 then x else y
theorem imp_or {p q : Prop} (h : p → q) : ¬ p ∨ q := (Classical.em p).elim (fun hp => Or.inr (h hp)) Or.inl
theorem imp_or2 {p q r : Prop} (h : p → q → r) : ¬ p ∨ ¬ q ∨ r := (Classical.em p).elim (fun hp => Or.inr (imp_or (h hp))) Or.inl
theorem IsOrd.zero_left {α : Type} {f : α → α → Int} (h : IsOrd f) (a b c : α) (hab : f a b = 0) : f a c = f b c := by
  have n1 := h.neg a b
  have t1 := imp_or (h.trans b a c (by omega))
  have t2 := imp_or (h.trans a b c (by omega))
  have t3 := imp_or2 (h.trans c a b)
  have t4 := imp_or2 (h.trans c b a)
  have n2 := h.neg a c
  have n3 := h.neg b c
  have v1 := h.val a c
  have v2 := h.val b c
  omega
theorem IsOrd.or2 {α : Type} {f g : α → α → Int} (hf : IsOrd f) (hg : IsOrd g) : IsOrd (fun a b => or2 (f a b) (g a b)) := by
  refine ⟨fun a b => ?_, fun a b => ?_, fun a b c => ?_⟩
  · have := hf.val a b; have := hg.val a b
    show Proofs.Ytkcpnehhcpmdgaa.or2 _ _ = -1 ∨ Proofs.Ytkcpnehhcpmdgaa.or2 _ _ = 0 ∨ Proofs.Ytkcpnehhcpmdgaa.or2 _ _ = 1
    unfold Proofs.Ytkcpnehhcpmdgaa.or2; split <;> omega
  · have := hf.neg a b; have := hg.neg a b
    show Proofs.Ytkcpnehhcpmdgaa.or2 _ _ = - Proofs.Ytkcpnehhcpmdgaa.or2 _ _
    unfold Proofs.Ytkcpnehhcpmdgaa.or2; split <;> split <;> omega
  · intro h1 h2
    have e1 := imp_or (hf.zero_left a b c)
    have n1 := hf.neg a b
    have n2 := hf.neg b c
    have n3 := hf.neg a c
    have e2 := imp_or (hf.zero_left c b a)
    have e3 := imp_or (hf.zero_left a c b)
    have n4 := hf.neg c b
    have t := imp_or2 (hf.trans a b c)
    have tg := imp_or2 (hg.trans a b c)
    have v1 := hf.val a b
    have v2 := hf.val b c
    have v3 := hf.val a c
    simp only [Proofs.Ytkcpnehhcpmdgaa.or2] at h1 h2 ⊢
    split at h1 <;> split at h2 <;> split <;> omega
theorem IsOrd.comap {α β : Type} {f : α → α → Int} (h : IsOrd f) (m : β → α) : IsOrd (fun a b => f (m a) (m b)) :=
  ⟨fun _ _ => h.val _ _, fun _ _ => h.neg _ _, fun _ _ _ => h.trans _ _ _⟩
/-- Lists are compared as words. -/
def lexL {α : Type} (f : α → α → Int) : List α → List α → Int
  | [], [] => 0
  | [], _ :: _ => -1
  | _ :: _, [] => 1
  | a :: xs, b :: ys => or2 (f a b) (lexL f xs ys)
theorem lexL_val {α : Type} {f : α → α → Int} (h : IsOrd f) : ∀ a b, lexL f a b = -1 ∨ lexL f a b = 0 ∨ lexL f a b = 1
  | [], [] => by simp [lexL]
  | [], _ :: _ => by simp [lexL]
  | _ :: _, [] => by simp [lexL]
  | a :: xs, b :: ys => by
    have := h.val a b
    have := lexL_val h xs ys
    simp only [lexL, or2]
    split <;> omega
theorem lexL_neg {α : Type} {f : α → α → Int} (h : IsOrd f) : ∀ a b, lexL f a b = - lexL f b a
  | [], [] => by simp [lexL]
  | [], _ :: _ => by simp [lexL]
  | _ :: _, [] => by simp [lexL]
  | a :: xs, b :: ys => by
    have := h.neg a b
    have := lexL_neg h xs ys
    simp only [lexL, or2]
    split <;> split <;> omega
theorem lexL_trans {α : Type} {f : α → α → Int} (h : IsOrd f) : ∀ a b c, lexL f a b ≤ 0 → lexL f b c ≤ 0 → lexL f a c ≤ 0
  | [], _, [] => by intros; simp [lexL]
  | [], _, _ :: _ => by intros; simp [lexL]
  | _ :: _, [], _ => by intro h1; simp [lexL] at h1
  | _ :: _, _ :: _, [] => by intro _ h2; simp [lexL] at h2
  | a :: xs, b :: ys, c :: zs => by
    intro h1 h2
    have e1 := imp_or (h.zero_left a b c)
    have n1 := h.neg a b
    have n2 := h.neg b c
    have n3 := h.neg a c
    have e2 := imp_or (h.zero_left c b a)
    have e3 := imp_or (h.zero_left a c b)
    have n4 := h.neg c b
    have t := imp_or2 (h.trans a b c)
    have tg := imp_or2 (lexL_trans h xs ys zs)
    have v1 := h.val a b
    have v2 := h.val b c
    have v3 := h.val a c
    simp only [lexL, or2] at h1 h2 ⊢
    split at h1 <;> split at h2 <;> split <;> omega
theorem IsOrd.lex {α : Type} {f : α → α → Int} (h : IsOrd f) : IsOrd (lexL f) := ⟨lexL_val h, lexL_neg h, lexL_trans h⟩
theorem ord_int : IsOrd Lib.compareInt := by
  refine ⟨fun a b => ?_, fun a b => ?_, fun a b c => ?_⟩ <;> (simp only [Lib.compareInt]; (repeat split) <;> omega)
theorem compare_lex : ∀ a b : List UInt8, Lib.compareBytes a b = lexL (fun x y => Lib.compareInt x.toNat y.toNat) a b
  | [], [] => by simp [Lib.compareBytes, lexL]
  | [], _ :: _ => by simp [Lib.compareBytes, lexL]
  | _ :: _, [] => by simp [Lib.compareBytes, lexL]
  | a :: xs, b :: ys => by
    have ih := compare_lex xs ys
    have e1 : a < b ↔ a.toNat < b.toNat := UInt8.lt_iff_toNat_lt
    have e2 : b < a ↔ b.toNat < a.toNat := UInt8.lt_iff_toNat_lt
    simp only [Lib.compareBytes, lexL, or2, Lib.compareInt, ih]
    by_cases h1 : a < b
    · have h3 : (a.toNat : Int) < (b.toNat : Int) := by have := e1.1 h1; omega
      simp [h1, h3]
    · have h3 : ¬ (a.toNat : Int) < (b.toNat : Int) := fun h => h1 (e1.2 (by omega))
      by_cases h2 : b < a
      · have h4 : (b.toNat : Int) < (a.toNat : Int) := by have := e2.1 h2; omega
        simp [h1, h2, h3, h4]
      · have h4 : ¬ (b.toNat : Int) < (a.toNat : Int) := fun h => h2 (e2.2 (by omega))
        simp [h1, h2, h3, h4]
theorem ord_bytes : IsOrd (fun a b : ByteArray => Lib.compareBytes a.data.toList b.data.toList) := by
  have h := (IsOrd.lex (ord_int.comap (fun x : UInt8 => (x.toNat : Int)))).comap (fun a : ByteArray => a.data.toList)
  simpa only [compare_lex] using h
/-- How the bits of a number are ordered. -/
def ordF (n : Int) : Int := if n < 0 then wrap64 (-1 - bits BinOp.and IntKind.i64 n 9223372036854775807) else n
/-- How the number of a value is ordered. -/
def ordN (k n : Int) : Int := if k = 3 then ordF n else n
def tcmp : (d : Nat) → TVal d → TVal d → Int
  | 0, _, _ => 0
  | d + 1, a, b => or2 (or2 (Lib.compareInt a.k b.k) (or2 (Lib.compareInt (ordN a.k a.n) (ordN a.k b.n)) (Lib.compareBytes a.s.data.toList b.s.data.toList)))
      (lexL (fun f g : ByteArray × TVal d => or2 (Lib.compareBytes f.1.data.toList g.1.data.toList) (tcmp d f.2 g.2)) a.fs b.fs)
theorem tcmp_kind {d : Nat} (a b : TVal (d + 1)) : tcmp (d + 1) a b = or2 (or2 (Lib.compareInt a.k b.k) (or2 (Lib.compareInt (ordN a.k a.n) (ordN b.k b.n)) (Lib.compareBytes a.s.data.toList b.s.data.toList)))
      (lexL (fun f g : ByteArray × TVal d => or2 (Lib.compareBytes f.1.data.toList g.1.data.toList) (tcmp d f.2 g.2)) a.fs b.fs) := by
  simp only [tcmp]
  by_cases h : a.k = b.k
  · rw [h]
  · have : Lib.compareInt a.k b.k ≠ 0 := by
      simp only [Lib.compareInt]; (repeat split) <;> omega
    simp only [or2, this, ne_eq, not_false_eq_true, if_true]
theorem ord_tcmp : ∀ d, IsOrd (tcmp d)
  | 0 => ⟨fun a => a.elim, fun a => a.elim, fun a => a.elim⟩
  | d + 1 => by
    have ih := ord_tcmp d
    have hl := (IsOrd.or2 (ord_bytes.comap (fun f : ByteArray × TVal d => f.1)) (ih.comap (fun f : ByteArray × TVal d => f.2))).lex
    have h := IsOrd.or2 (IsOrd.or2 (ord_int.comap (fun a : TVal (d + 1) => a.k)) (IsOrd.or2 (ord_int.comap (fun a : TVal (d + 1) => ordN a.k a.n)) (ord_bytes.comap (fun a : TVal (d + 1) => a.s)))) (hl.comap (fun a : TVal (d + 1) => a.fs))
    exact ⟨fun a b => by rw [tcmp_kind]; exact h.val a b, fun a b => by rw [tcmp_kind, tcmp_kind]; exact h.neg a b, fun a b c => by rw [tcmp_kind, tcmp_kind, tcmp_kind]; exact h.trans a b c⟩
theorem tcmp_self (d : Nat) (t : TVal d) : tcmp d t t = 0 := by
  have := (ord_tcmp d).neg t t
  omega

end Go.Proofs.Ytkcpnehhcpmdgaa
