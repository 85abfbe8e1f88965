/- Small facts on a block of bytes that a call keeps as an array of its own, and on the digits of a number to a base; no condition. -/
import Derived.WalkKit
import Derived.OneCell
import Derived.Laws.BytesArg
import Derived.Lib.Hide
namespace Go.Proofs.Ytebcflgdjbjkoaa
open Go.RowKit

/-- The block's cells as whole numbers of one kind. -/
def Blk (w : World) (g : Nat) (k : IntKind) (t : TypeId) (cs : List Int) : Prop := w.heap[g]? = some (.cells (cs.map (Value.int k)).toArray t (0, 0))

theorem Blk.lt {w : World} {g : Nat} {k : IntKind} {t : TypeId} {cs : List Int} (h : Blk w g k t cs) : g < w.heap.size := lt_of_block h
theorem Blk.cell {w : World} {g : Nat} {k : IntKind} {t : TypeId} {cs : List Int} (h : Blk w g k t cs) (i : Nat) (hi : i < cs.length) : w.cell? ⟨g, i, none⟩ = some (.int k (cs.getD i 0)) := by
  unfold Blk at h
  simp [World.cell?, h, List.getD, hi]
theorem Blk.free {w : World} {g : Nat} {k : IntKind} {t : TypeId} {cs : List Int} (h : Blk w g k t cs) (i : Nat) : w.frozen? ⟨g, i, none⟩ = false := by
  unfold Blk at h
  simp [World.frozen?, h]
theorem Blk.set {w : World} {g : Nat} {k : IntKind} {t : TypeId} {cs : List Int} (h : Blk w g k t cs) (i : Nat) (v : Int) : Blk (w.setCell ⟨g, i, none⟩ (.int k v)) g k t (cs.set i v) := by
  have hlt := h.lt
  unfold Blk at h ⊢
  have h' : w.heap[g] = .cells (cs.map (Value.int k)).toArray t (0, 0) := by simpa [Array.getElem?_eq_getElem hlt] using h
  show (w.heap.modify g _)[g]? = _
  rw [Array.getElem?_eq_getElem (by simpa using hlt), Array.getElem_modify_self, h']
  simp
theorem Blk.below {w w' : World} {g : Nat} {k : IntKind} {t : TypeId} {cs : List Int} (h : Blk w g k t cs) (hb : Below w.heap.size w w') : Blk w' g k t cs := by
  have hlt := h.lt
  unfold Blk at h ⊢
  rw [hb.block g hlt, h]
theorem Blk.new (w : World) (k : IntKind) (t : TypeId) (cs : List Int) : Blk (w.alloc (.cells (cs.map (Value.int k)).toArray t (0, 0))) w.heap.size k t cs := by
  show (w.heap.push _)[w.heap.size]? = _
  simp
theorem Blk.drew {w : World} {g : Nat} {k : IntKind} {t : TypeId} {cs : List Int} (h : Blk w g k t cs) : Blk w.drew g k t cs := h

theorem set_drop_eq {α : Type} (l : List α) (i : Nat) (v : α) (hi : i < l.length) : (l.set i v).drop i = v :: l.drop (i + 1) := by
  apply List.ext_getElem
  · simp; omega
  · intro n h1 h2
    simp only [List.getElem_drop, List.getElem_set]
    rcases n with _ | n
    · simp
    · rw [if_neg (by omega)]
      simp [List.getElem_drop, Nat.add_comm, Nat.add_left_comm]

theorem ret_int {k : IntKind} {a b : Int} (h : a = b) : Ending.returned (.int k a) = .returned (.int k b) := by rw [h]
theorem ret2_int {k : IntKind} {a b : Int} {v : Value} (h : a = b) : Ending.returned (.tuple #[.int k a, v]) = .returned (.tuple #[.int k b, v]) := by rw [h]
theorem ret_bool {a b : Bool} (h : a = b) : Ending.returned (.bool a) = .returned (.bool b) := by rw [h]
theorem ret_str {a b : ByteArray} (h : a = b) : Ending.returned (.string a) = .returned (.string b) := by rw [h]

/-- The letter of a digit. -/
def digC (d : Nat) : Nat := if d < 10 then 48 + d else 87 + d
/-- The letters of a number to a base, ahead of a list of letters. -/
def digsA (b : Nat) : Nat → Nat → List Nat → List Nat
  | 0, _, acc => acc
  | f + 1, n, acc => if n / b = 0 then digC (n % b) :: acc else digsA b f (n / b) (digC (n % b) :: acc)
def digs (b n : Nat) : List Nat := digsA b (n + 1) n []
theorem digsA_fuel (b : Nat) (hb : 2 ≤ b) : ∀ (f n : Nat) (acc : List Nat), n < f → ∀ f', n < f' → digsA b f n acc = digsA b f' n acc
  | 0, n, acc, h => by omega
  | f + 1, n, acc, h => fun f' h' => by
    obtain ⟨f', rfl⟩ : ∃ m, f' = m + 1 := ⟨f' - 1, by omega⟩
    simp only [digsA]
    split
    · rfl
    · rename_i hz
      have : n / b < n := Nat.div_lt_self (by rcases Nat.eq_zero_or_pos n with h0 | h0; · subst h0; simp at hz
                                              · exact h0) (by omega)
      exact digsA_fuel b hb f (n / b) _ (by omega) f' (by omega)
theorem digsA_step (b n : Nat) (hb : 2 ≤ b) (acc : List Nat) (f : Nat) (hf : n < f) (hz : n / b ≠ 0) : digsA b f n acc = digsA b (n / b + 1) (n / b) (digC (n % b) :: acc) := by
  obtain ⟨f, rfl⟩ : ∃ m, f = m + 1 := ⟨f - 1, by omega⟩
  have : n / b < n := Nat.div_lt_self (by rcases Nat.eq_zero_or_pos n with h0 | h0; · subst h0; simp at hz
                                          · exact h0) (by omega)
  rw [digsA, if_neg hz]
  exact digsA_fuel b hb f (n / b) _ (by omega) _ (by omega)
theorem digsA_last (b n : Nat) (acc : List Nat) (f : Nat) (hf : n < f) (hz : n / b = 0) : digsA b f n acc = digC (n % b) :: acc := by
  obtain ⟨f, rfl⟩ : ∃ m, f = m + 1 := ⟨f - 1, by omega⟩
  rw [digsA, if_pos hz]

theorem digsA_len (b : Nat) (hb : 2 ≤ b) : ∀ (f n : Nat) (acc : List Nat) (k : Nat), n < 2 ^ (k + 1) → (digsA b f n acc).length ≤ acc.length + k + 1
  | 0, n, acc, k, _ => by show acc.length ≤ _; omega
  | f + 1, n, acc, k, h => by
    simp only [digsA]
    split
    · rw [List.length_cons]; omega
    · rename_i hz
      have hz' : n / b ≠ 0 := hz
      have h2 : n / b ≤ n / 2 := Nat.div_le_div_left hb (by omega)
      rcases k with _ | k
      · rw [show 2 ^ (0 + 1) = 2 from rfl] at h
        exact absurd (Nat.le_zero.mp (Nat.le_trans h2 (by omega))) hz'
      · have hp : 2 ^ (k + 1 + 1) = 2 ^ (k + 1) * 2 := Nat.pow_succ ..
        have := digsA_len b hb f (n / b) (digC (n % b) :: acc) k (by omega)
        simp only [List.length_cons] at this
        omega
theorem digs_len (b n : Nat) (hb : 2 ≤ b) (hn : n < 9223372036854775808) : (digs b n).length ≤ 63 := by
  have := digsA_len b hb (n + 1) n [] 62 (by simpa using hn)
  simpa [digs] using this

/-- The letters as whole numbers, and as a string. -/
def intsOf (l : List Nat) : List Int := l.map fun (x : Nat) => (x : Int)
theorem intsOf_length (l : List Nat) : (intsOf l).length = l.length := by simp [intsOf]
theorem intsOf_cons (a : Nat) (l : List Nat) : intsOf (a :: l) = (a : Int) :: intsOf l := rfl
def strN (l : List Nat) : ByteArray := ⟨(l.map fun x => UInt8.ofNat x).toArray⟩
theorem strOfNums_intsOf (l : List Nat) : strOfNums (intsOf l) = strN l := by
  unfold strOfNums intsOf strN
  simp [List.map_map]
theorem strN_size (l : List Nat) : (strN l).size = l.length := by simp [strN, ByteArray.size]
theorem strN_cons (c : Nat) (l : List Nat) : strN (c :: l) = (⟨#[UInt8.ofNat c]⟩ : ByteArray) ++ strN l := by
  apply ByteArray.ext
  simp [strN]
theorem digC_lt (d : Nat) (h : d < 36) : digC d < 256 := by unfold digC; split <;> omega
theorem digC_table : ∀ d : Fin 36, ((#[48, 49, 50, 51, 52, 53, 54, 55, 56, 57, 97, 98, 99, 100, 101, 102, 103, 104, 105, 106, 107, 108, 109, 110, 111, 112, 113, 114, 115, 116, 117, 118, 119, 120, 121, 122] : Array UInt8)[d.1]'(by simp)).toNat = digC d.1 := by decide +kernel

end Go.Proofs.Ytebcflgdjbjkoaa
