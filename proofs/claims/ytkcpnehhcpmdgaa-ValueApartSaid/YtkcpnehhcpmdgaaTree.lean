/- Values as trees, and their rows of fields; no condition beyond those that stand there. -/
import Derived.Test.YtkcpnehhcpmdgaaTypRow
namespace Go.Proofs.Ytkcpnehhcpmdgaa
open Go.RowKit

/-- Values of less than d levels: kind, number, text, fields. -/
def TVal : Nat → Type
  | 0 => Empty
  | d + 1 => Int × Int × ByteArray × List (ByteArray × TVal d)
def mkT {d : Nat} (k n : Int) (s : ByteArray) (fs : List (ByteArray × TVal d)) : TVal (d + 1) := (k, n, s, fs)
def TVal.k {d : Nat} (t : TVal (d + 1)) : Int := Prod.fst (α := Int) (β := Int × ByteArray × List (ByteArray × TVal d)) t
def TVal.n {d : Nat} (t : TVal (d + 1)) : Int := (Prod.snd (α := Int) (β := Int × ByteArray × List (ByteArray × TVal d)) t).1
def TVal.s {d : Nat} (t : TVal (d + 1)) : ByteArray := (Prod.snd (α := Int) (β := Int × ByteArray × List (ByteArray × TVal d)) t).2.1
def TVal.fs {d : Nat} (t : TVal (d + 1)) : List (ByteArray × TVal d) := (Prod.snd (α := Int) (β := Int × ByteArray × List (ByteArray × TVal d)) t).2.2
theorem mkT_k {d : Nat} (k n : Int) (s : ByteArray) (fs : List (ByteArray × TVal d)) : (mkT k n s fs).k = k := rfl
theorem mkT_n {d : Nat} (k n : Int) (s : ByteArray) (fs : List (ByteArray × TVal d)) : (mkT k n s fs).n = n := rfl
theorem mkT_s {d : Nat} (k n : Int) (s : ByteArray) (fs : List (ByteArray × TVal d)) : (mkT k n s fs).s = s := rfl
theorem mkT_fs {d : Nat} (k n : Int) (s : ByteArray) (fs : List (ByteArray × TVal d)) : (mkT k n s fs).fs = fs := rfl
def vV (k n : Int) (s : ByteArray) (p : Value) : Value := .agg #[.int .i64 k, .int .i64 n, .string s, p]
/-- The value (k, n, str, p) is the tree t; its fields lie in blocks of S. -/
def IsV : (d : Nat) → (Nat → Prop) → World → Int → Int → ByteArray → Value → TVal d → Prop
  | 0, _, _, _, _, _, _, _ => False
  | d + 1, S, w, k, n, str, p, t => t.k = k ∧ t.n = n ∧ t.s = str ∧ ∃ (cap : Nat) (a : Option Addr), p = .slice a t.fs.length cap ∧ (t.fs.length ≤ cap ∧ cap ≤ 9223372036854775807) ∧ ∀ (i : Nat) f, t.fs[i]? = some f → ∃ b kk nn ss pp,
      a = some ⟨b, 0, none⟩ ∧ (S b ∧ ∀ j, w.frozen? ⟨b, j, none⟩ = false) ∧ b < w.heap.size ∧ w.cell? ⟨b, i * 5, none⟩ = some (.string f.1) ∧ w.cell? ⟨b, i * 5 + 1, none⟩ = some (.int .i64 kk) ∧ w.cell? ⟨b, i * 5 + 2, none⟩ = some (.int .i64 nn) ∧
      w.cell? ⟨b, i * 5 + 3, none⟩ = some (.string ss) ∧ w.cell? ⟨b, i * 5 + 4, none⟩ = some pp ∧ IsV d S w kk nn ss pp f.2
theorem IsV.imp {d : Nat} : ∀ {S S' : Nat → Prop} {w : World} {k n : Int} {s : ByteArray} {p : Value} {t : TVal d}, IsV d S w k n s p t → (∀ k, S k → k < w.heap.size → S' k) → IsV d S' w k n s p t := by
  induction d with
  | zero => intro S S' w k n s p t h _; exact h
  | succ d ih =>
    intro S S' w k n s p t h hS
    obtain ⟨h1, h2, h3, cap, a, h4, h5, h6⟩ := h
    refine ⟨h1, h2, h3, cap, a, h4, h5, fun i f hf => ?_⟩
    obtain ⟨b, kk, nn, ss, pp, e1, e2, e3, e4, e5, e6, e7, e8, e9⟩ := h6 i f hf
    exact ⟨b, kk, nn, ss, pp, e1, ⟨hS b e2.1 e3, e2.2⟩, e3, e4, e5, e6, e7, e8, ih e9 hS⟩
theorem IsV.keep {d : Nat} : ∀ {S : Nat → Prop} {w w' : World} {k n : Int} {s : ByteArray} {p : Value} {t : TVal d}, IsV d S w k n s p t → w.heap.size ≤ w'.heap.size → (∀ k, S k → k < w.heap.size → w'.heap[k]? = w.heap[k]?) → IsV d S w' k n s p t := by
  induction d with
  | zero => intro S w w' k n s p t h _ _; exact h
  | succ d ih =>
    intro S w w' k n s p t h hz hk
    obtain ⟨h1, h2, h3, cap, a, h4, h5, h6⟩ := h
    refine ⟨h1, h2, h3, cap, a, h4, h5, fun i f hf => ?_⟩
    obtain ⟨b, kk, nn, ss, pp, e1, e2, e3, e4, e5, e6, e7, e8, e9⟩ := h6 i f hf
    have hb := hk b e2.1 e3
    refine ⟨b, kk, nn, ss, pp, e1, ⟨e2.1, fun j => (World.frozen?_of_block (a := ⟨b, j, none⟩) hb).trans (e2.2 j)⟩, by omega, ?_, ?_, ?_, ?_, ?_, ih e9 hz hk⟩ <;> (rw [World.cell?_of_block hb]; assumption)
theorem IsV.below {d n : Nat} {S : Nat → Prop} {w w' : World} {k m : Int} {s : ByteArray} {p : Value} {t : TVal d} (h : IsV d S w k m s p t) (hn : w.heap.size ≤ n) (hb : Below n w w') : IsV d S w' k m s p t :=
  h.keep hb.size fun k _ h2 => hb.block k (by omega)
theorem IsV.slice {d : Nat} {S : Nat → Prop} {w : World} {k m : Int} {s : ByteArray} {p : Value} {t : TVal (d + 1)} (h : IsV (d + 1) S w k m s p t) : ∃ a c, p = .slice a t.fs.length c ∧ (t.fs.length ≤ c ∧ c ≤ 9223372036854775807) ∧ t.k = k ∧ t.n = m ∧ t.s = s := by
  obtain ⟨h1, h2, h3, cap, a, h4, h5, _⟩ := h
  exact ⟨a, cap, h4, h5, h1, h2, h3⟩
/-- Field i of a row of fields. -/
def FieldOk (d : Nat) (S : Nat → Prop) (w : World) (i : Nat) (xs : List Value) (f : ByteArray × TVal d) : Prop := ∃ kk nn ss pp,
  xs[i * 5]? = some (.string f.1) ∧ xs[i * 5 + 1]? = some (.int .i64 kk) ∧ xs[i * 5 + 2]? = some (.int .i64 nn) ∧ xs[i * 5 + 3]? = some (.string ss) ∧ xs[i * 5 + 4]? = some pp ∧ IsV d S w kk nn ss pp f.2
def fieldCells (nm : ByteArray) (k n : Int) (s : ByteArray) (p : Value) : List Value := [.string nm, .int .i64 k, .int .i64 n, .string s, p]
theorem FieldOk.app {d : Nat} {S : Nat → Prop} {w : World} {i : Nat} {xs ys : List Value} {f : ByteArray × TVal d} (h : FieldOk d S w i xs f) : FieldOk d S w i (xs ++ ys) f := by
  obtain ⟨kk, nn, ss, pp, e4, e5, e6, e7, e8, e9⟩ := h
  have g : ∀ j v, xs[j]? = some v → (xs ++ ys)[j]? = some v := fun j v hj => by
    rw [List.getElem?_append_left (List.getElem?_eq_some_iff.1 hj).1, hj]
  exact ⟨kk, nn, ss, pp, g _ _ e4, g _ _ e5, g _ _ e6, g _ _ e7, g _ _ e8, e9⟩
theorem FieldOk.last {d : Nat} {S : Nat → Prop} {w : World} {i : Nat} {xs : List Value} (hl : xs.length = i * 5) (nm : ByteArray) (k n : Int) (s : ByteArray) (p : Value) (t : TVal d) (ht : IsV d S w k n s p t) : FieldOk d S w i (xs ++ fieldCells nm k n s p) (nm, t) := by
  refine ⟨k, n, s, p, ?_, ?_, ?_, ?_, ?_, ht⟩ <;> (rw [List.getElem?_append_right (by omega), ← hl]; simp [fieldCells])
theorem FieldOk.imp {d : Nat} {S S' : Nat → Prop} {w : World} {i : Nat} {xs : List Value} {f : ByteArray × TVal d} (h : FieldOk d S w i xs f) (hs : ∀ k, S k → k < w.heap.size → S' k) : FieldOk d S' w i xs f := by
  obtain ⟨kk, nn, ss, pp, e4, e5, e6, e7, e8, e9⟩ := h
  exact ⟨kk, nn, ss, pp, e4, e5, e6, e7, e8, e9.imp hs⟩
theorem FieldOk.keep {d : Nat} {S : Nat → Prop} {w w' : World} {i : Nat} {xs : List Value} {f : ByteArray × TVal d} (h : FieldOk d S w i xs f) (hz : w.heap.size ≤ w'.heap.size) (hk : ∀ k, S k → k < w.heap.size → w'.heap[k]? = w.heap[k]?) : FieldOk d S w' i xs f := by
  obtain ⟨kk, nn, ss, pp, e4, e5, e6, e7, e8, e9⟩ := h
  exact ⟨kk, nn, ss, pp, e4, e5, e6, e7, e8, e9.keep hz hk⟩
theorem v_of_row {d base : Nat} {S : Nat → Prop} {w : World} {k n : Int} {s : ByteArray} {a : Option Addr} {cap : Nat} {xs : List Value} {fs : List (ByteArray × TVal d)} (hr : w.ownsRow base 33 5 (.slice a fs.length cap) fs.length xs) (hS : ∀ k, base ≤ k → k < w.heap.size → (Value.slice a fs.length cap).ownBlock = some k → S k) (hp : ∀ i f, fs[i]? = some f → FieldOk d S w i xs f) : IsV (d + 1) S w k n s (.slice a fs.length cap) (mkT k n s fs) := by
  refine ⟨rfl, rfl, rfl, cap, a, rfl, ?_, fun i f hf => ?_⟩
  · rcases hr.2 with ⟨h, h0⟩ | ⟨g, c, cur, h, _, _, h1, h2, _⟩
    · simp only [Value.slice.injEq] at h
      show fs.length ≤ cap ∧ cap ≤ 9223372036854775807
      omega
    · simp only [Value.slice.injEq] at h
      show fs.length ≤ cap ∧ cap ≤ 9223372036854775807
      unfold maxLen at h2
      omega
  · have hi : i < fs.length := (List.getElem?_eq_some_iff.1 hf).1
    obtain ⟨kk, nn, ss, pp, e4, e5, e6, e7, e8, e9⟩ := hp i f hf
    obtain ⟨g, c, hg⟩ := ownsRow_formW hr (by omega)
    simp only [Value.slice.injEq] at hg
    obtain ⟨rfl, _, rfl⟩ := hg
    have hgl := World.ownsRow.lt hr g rfl
    have hc := fun j (hj : j < fs.length * 5) => World.ownsRow.cellAt hr j hj
    refine ⟨g, kk, nn, ss, pp, rfl, ⟨hS g hgl.1 hgl.2 rfl, fun j => World.ownsRow.frozenAt hr j⟩, hgl.2, ?_, ?_, ?_, ?_, ?_, e9⟩ <;> (rw [hc _ (by omega)]; assumption)
theorem v_leaf {d : Nat} {S : Nat → Prop} {w : World} (k n : Int) (s : ByteArray) : IsV (d + 1) S w k n s (.slice none 0 0) (mkT k n s []) := ⟨rfl, rfl, rfl, 0, none, rfl, ⟨Nat.le_refl _, by decide⟩, fun i f hf => by simp [mkT_fs] at hf⟩
/-- The names of the fields of a value of a kind. -/
def NamesOk (k : Int) (ns : List ByteArray) : Prop :=
  (0 ≤ k ∧ k ≤ 5 ∧ ns = []) ∨ (k = 6 ∧ ns.length ≤ 4 ∧ ∀ i, i < ns.length → ns[i]? = letters[i]?) ∨ (k = 7 ∧ ∃ x, ns = [x] ∧ x ∈ [sNone, sSome, ⟨#[97]⟩, ⟨#[98]⟩, ⟨#[99]⟩]) ∨ (k = 8 ∧ ns.length ≤ 4 ∧ ∀ x ∈ ns, x = ⟨#[]⟩) ∨
  (k = 9 ∧ ns.length ≤ 4 ∧ ∃ at_ : Nat, at_ ≤ 6 ∧ ∀ i, i < ns.length → ns[i]? = some ⟨#[UInt8.ofNat (97 + at_ + i)]⟩)
def NumOk (k n : Int) : Prop := (k = 1 ∧ 0 ≤ n ∧ n ≤ 1) ∨ (k = 2 ∧ -9007199254740992 ≤ n ∧ n ≤ 9007199254740992) ∨ (k = 3 ∧ -9223372036854775808 ≤ n ∧ n ≤ 9223372036854775807) ∨ (k = 4 ∧ 0 ≤ n ∧ n ≤ 1000000) ∨ ((k = 0 ∨ 5 ≤ k) ∧ n = 0)
/-- A tree that is a value. -/
def OkT : (d : Nat) → TVal d → Prop
  | 0, _ => False
  | d + 1, t => NumOk t.k t.n ∧ (t.k = 5 ∨ t.s = ⟨#[]⟩) ∧ t.s.size ≤ 5 ∧ NamesOk t.k (t.fs.map Prod.fst) ∧ ∀ f ∈ t.fs, OkT d f.2

end Go.Proofs.Ytkcpnehhcpmdgaa
