/- The rows of fields that clapmake.val makes; no condition beyond those that stand there. -/
import Derived.Test.YtkcpnehhcpmdgaaVal0
namespace Go.Proofs.Ytkcpnehhcpmdgaa
open Go.RowKit

/-- Block T holds a value whose fields are being made. -/
structure VRow (B s : Nat) (w : World) (kd : Int) (nm : ByteArray) (lo hi : Int) (pat : ByteArray) (p : Value) (T d : Nat) (v : Value) (xs : List Value) (fs : List (ByteArray × TVal d)) (W : World) : Prop where
  at_ : ValAt B s w kd nm lo hi pat p T 0 ⟨#[]⟩ v W
  row : W.ownsRow (T + 1) 33 5 v fs.length xs
  fields : ∀ j f, fs[j]? = some f → FieldOk d (fun k => T + 1 ≤ k ∧ v.ownBlock ≠ some k) W j xs f
section
variable {B s : Nat} {w : World} {kd : Int} {nm : ByteArray} {lo hi : Int} {pat : ByteArray} {p : Value} {T d : Nat} {v : Value} {xs : List Value} {fs : List (ByteArray × TVal d)} {W W' : World}
theorem VRow.lt (h : VRow B s w kd nm lo hi pat p T d v xs fs W) : T < W.heap.size := h.at_.lt
theorem VRow.drew (h : VRow B s w kd nm lo hi pat p T d v xs fs W) : VRow B s w kd nm lo hi pat p T d v xs fs W.drew :=
  ⟨h.at_.drew, h.row, fun j f hj => (h.fields j f hj).keep (Nat.le_refl _) fun _ _ _ => rfl⟩
theorem VRow.step (h : VRow B s w kd nm lo hi pat p T d v xs fs W) (hs : s < w.heap.size) (st : StAt B s W') (k : KeepS W.heap.size s W W') : VRow B s w kd nm lo hi pat p T d v xs fs W' := by
  have hl := h.lt
  have hw := h.at_.low
  refine ⟨h.at_.step hs st k, row_keep h.row fun g hg => ?_, fun j f hj => (h.fields j f hj).keep k.size fun q h1 h2 => k.block q h2 (by omega)⟩
  have := World.ownsRow.lt h.row g hg
  exact k.block g this.2 (by omega)
theorem VRow.below (h : VRow B s w kd nm lo hi pat p T d v xs fs W) (hs : s < w.heap.size) (hb : Below W.heap.size W W') : VRow B s w kd nm lo hi pat p T d v xs fs W' :=
  h.step hs (h.at_.st.below hb (by have := h.at_.st.lt; omega)) (KeepS.of_below hb)
theorem VRow.app {W7 : World} (h : VRow B s w kd nm lo hi pat p T d v xs fs W) (hs : s < w.heap.size) (o : Obj) (nf : ByteArray) (k n : Int) (str : ByteArray) (q : Value) (t : TVal d) (g cap : Nat) (C : Nat) (hC : T < C) (hvC : ∀ k, v.ownBlock = some k → k < C) (ht : IsV d (C ≤ ·) W k n str q t)
    (hrow : W7.ownsRow (T + 1) 33 5 (.slice (some ⟨g, 0, none⟩) (fs.length + 1) cap) (fs.length + 1) (xs ++ fieldCells nf k n str q)) (hg : (W.alloc o).grownBy W7 v.ownBlock) (hv : v.ownBlock = some g ∨ W.heap.size ≤ g) :
    VRow B s w kd nm lo hi pat p T d (.slice (some ⟨g, 0, none⟩) (fs.length + 1) cap) (xs ++ fieldCells nf k n str q) (fs ++ [(nf, t)]) (W7.setCell ⟨T, 3, none⟩ (.slice (some ⟨g, 0, none⟩) (fs.length + 1) cap)) := by
  obtain ⟨v', hv'⟩ : ∃ v', v' = Value.slice (some ⟨g, 0, none⟩) (fs.length + 1) cap := ⟨_, rfl⟩
  have hvb : v'.ownBlock = some g := by rw [hv']; rfl
  rw [← hv'] at hrow ⊢
  have hl := h.lt
  have hlo := h.at_.low
  have hbT : Below (T + 1) W W7 := ((Below.refl _ W).alloc (by omega) o).grown hg (by simp; omega) (fun k hk => (World.ownsRow.lt (h.row.alloc o) k hk).1)
  have h7 := h.at_.below hs (Nat.lt_succ_self T) hbT
  have h8 := h7.set hs 3 v' (n' := 0) (str' := ⟨#[]⟩) (v' := v') rfl
  have hblk : ∀ k, k < W.heap.size → v.ownBlock ≠ some k → W7.heap[k]? = W.heap[k]? := fun k h1 h2 => by
    rw [hg.block k (by simp; omega) (fun e => h2 e.symm), heap_alloc_old W o h1]
  have hz7 := hbT.size
  have hpw : ∀ k, T + 1 ≤ k → k < W.heap.size → v.ownBlock ≠ some k → (W7.setCell ⟨T, 3, none⟩ v').heap[k]? = W.heap[k]? := fun k h1 h2 h3 => by
    rw [Below.heap_setCell _ _ _ _ (show k ≠ T by omega), hblk k h2 h3]
  have hS : ∀ k, T + 1 ≤ k → k < W.heap.size → v.ownBlock ≠ some k → v'.ownBlock ≠ some k := fun k h1 h2 h3 => by
    rw [hvb]
    rcases hv with e | e
    · rw [← e]; exact h3
    · intro e2; injection e2; omega
  refine ⟨h8, ?_, fun j f hj => ?_⟩
  · rw [List.length_append, List.length_singleton]
    refine row_keep hrow fun g hg2 => ?_
    have := World.ownsRow.lt hrow g hg2
    exact Below.heap_setCell _ _ _ _ (show g ≠ T by omega)
  · rcases Nat.lt_or_ge j fs.length with h1 | h1
    · rw [List.getElem?_append_left h1] at hj
      exact (((h.fields j f hj).imp (S' := fun k => (T + 1 ≤ k ∧ v'.ownBlock ≠ some k) ∧ v.ownBlock ≠ some k ∧ k < W.heap.size) fun k e1 e2 => ⟨⟨e1.1, hS k e1.1 e2 e1.2⟩, e1.2, e2⟩).keep (by simpa using hz7) fun k e1 e2 => hpw k e1.1.1 e2 e1.2.1).imp (fun k e1 _ => e1.1) |>.app
    · rw [List.getElem?_append_right h1] at hj
      have hj0 : j - fs.length = 0 := by
        have := (List.getElem?_eq_some_iff.1 hj).1
        simp at this
        omega
      obtain rfl : j = fs.length := by omega
      simp at hj
      subst hj
      refine FieldOk.last (by have := h.row.1; omega) nf k n str q t ?_
      refine ((ht.imp (S' := fun k => (T + 1 ≤ k ∧ v'.ownBlock ≠ some k) ∧ v.ownBlock ≠ some k) fun k e1 e2 => ?_).keep (by simpa using hz7) fun k e1 e2 => hpw k e1.1.1 e2 e1.2).imp (fun k e1 _ => e1.1)
      have e3 : v.ownBlock ≠ some k := fun e => by have := hvC k e; omega
      exact ⟨⟨by omega, hS k (by omega) e2 e3⟩, e3⟩
theorem VRow.start (h : ValAt B s w kd nm lo hi pat p T 0 ⟨#[]⟩ (.slice none 0 0) W) : VRow B s w kd nm lo hi pat p T d (.slice none 0 0) [] [] W := ⟨h, World.ownsRow_nil _ _ _ _, fun j f hj => by simp at hj⟩
theorem VRow.isV (a : Option Addr) (c : Nat) (h : VRow B s w kd nm lo hi pat p T d (.slice a fs.length c) xs fs W) : IsV (d + 1) (fun k => w.heap.size + 1 < k) W kd 0 ⟨#[]⟩ (.slice a fs.length c) (mkT kd 0 ⟨#[]⟩ fs) := by
  have hlo := h.at_.low
  exact v_of_row h.row (fun k h1 _ _ => by omega) fun i f hf => (h.fields i f hf).imp fun k h1 _ => by have := h1.1; omega
end
/-- The parts of a type that is given to val. -/
def PartsAt (d : Nat) (S : Nat → Prop) (w : World) (kd : Int) (a : Option Addr) (n : Nat) : Prop := ∀ i, i < n → ∃ b nm kd' nm' lo' hi' pat' a' l' c',
      a = some ⟨b, 0, none⟩ ∧ S b ∧ b < w.heap.size ∧ NameOk kd i nm ∧ kd' ≠ 10 ∧
      w.cell? ⟨b, i * 7, none⟩ = some (.string nm) ∧ w.cell? ⟨b, i * 7 + 1, none⟩ = some (.int .i64 kd') ∧ w.cell? ⟨b, i * 7 + 2, none⟩ = some (.string nm') ∧ w.cell? ⟨b, i * 7 + 3, none⟩ = some (.int .i64 lo') ∧
      w.cell? ⟨b, i * 7 + 4, none⟩ = some (.int .i64 hi') ∧ w.cell? ⟨b, i * 7 + 5, none⟩ = some (.string pat') ∧ w.cell? ⟨b, i * 7 + 6, none⟩ = some (.slice a' l' c') ∧ TyIn d S w kd' lo' hi' pat' (.slice a' l' c')

theorem names_last {d : Nat} {fs : List (ByteArray × TVal d)} {nm : ByteArray} {t : TVal d} (h : ∀ j, j < fs.length → (fs.map Prod.fst)[j]? = letters[j]?) (hn : letters[fs.length]? = some nm) : ∀ j, j < (fs ++ [(nm, t)]).length → ((fs ++ [(nm, t)]).map Prod.fst)[j]? = letters[j]? := by
  intro j hj
  rw [List.length_append, List.length_singleton] at hj
  rw [List.map_append]
  rcases Nat.lt_or_ge j fs.length with h1 | h1
  · rw [List.getElem?_append_left (by rw [List.length_map]; exact h1)]
    exact h j h1
  · obtain rfl : j = fs.length := by omega
    rw [List.getElem?_append_right (by rw [List.length_map]; exact Nat.le_refl _), List.length_map, Nat.sub_self, hn]
    rfl
theorem oks_last {d : Nat} {fs : List (ByteArray × TVal d)} {nm : ByteArray} {t : TVal d} (h : ∀ f ∈ fs, OkT d f.2) (ht : OkT d t) : ∀ f ∈ fs ++ [(nm, t)], OkT d f.2 := by
  intro f hf
  rcases List.mem_append.1 hf with h1 | h1
  · exact h f h1
  · rw [List.mem_singleton] at h1
    subst h1
    exact ht
theorem parts_of {d : Nat} {S : Nat → Prop} {w : World} {kd lo hi : Int} {pat : ByteArray} {a : Option Addr} {l c : Nat} (h : TyIn (d + 1) S w kd lo hi pat (.slice a l c)) (hk : 6 ≤ kd) : KindOk kd lo hi l ∧ PartsAt d S w kd a l := by
  rcases h with h | ⟨n, cap, a1, h1, _, h3, h4⟩
  · unfold LeafOk at h; omega
  · simp only [Value.slice.injEq] at h1
    obtain ⟨rfl, rfl, rfl⟩ := h1
    refine ⟨h3, fun i hi => ?_⟩
    obtain ⟨b, nm, kd', nm', lo', hi', pat', p', e1, e2, e3, e4, ⟨e5, a', l', c', rfl⟩, e6, e7, e8, e9, e10, e11, e12, e13⟩ := h4 i hi
    exact ⟨b, nm, kd', nm', lo', hi', pat', a', l', c', e1, e2, e3, e4, e5, e6, e7, e8, e9, e10, e11, e12, e13⟩
theorem PartsAt.keep {d s : Nat} {S : Nat → Prop} {w W : World} {kd : Int} {a : Option Addr} {n : Nat} (h : PartsAt d S w kd a n) (hk : KeepS w.heap.size s w W) (hS : ∀ k, S k → k ≠ s) : PartsAt d S W kd a n := by
  intro i hi
  obtain ⟨b, nm, kd', nm', lo', hi', pat', a', l', c', e1, e2, e3, e4, e5, e6, e7, e8, e9, e10, e11, e12, e13⟩ := h i hi
  have hz := hk.size
  have hb := hk.block b e3 (hS b e2)
  refine ⟨b, nm, kd', nm', lo', hi', pat', a', l', c', e1, e2, by omega, e4, e5, ?_, ?_, ?_, ?_, ?_, ?_, ?_, e13.keep hz fun k h1 h2 => hk.block k h2 (hS k h1)⟩ <;> (rw [World.cell?_of_block hb]; assumption)
theorem cells7 {w : World} {g : Nat} {c0 c1 c2 c3 c4 c5 c6 : Value} (h : w.heap[g]? = some (.cells #[c0, c1, c2, c3, c4, c5, c6] 89 (0, 0))) :
    w.cell? ⟨g, 0, none⟩ = some c0 ∧ w.cell? ⟨g, 1, none⟩ = some c1 ∧ w.cell? ⟨g, 2, none⟩ = some c2 ∧ w.cell? ⟨g, 3, none⟩ = some c3 ∧ w.cell? ⟨g, 4, none⟩ = some c4 ∧ w.cell? ⟨g, 5, none⟩ = some c5 ∧ w.cell? ⟨g, 6, none⟩ = some c6 := by
  refine ⟨?_, ?_, ?_, ?_, ?_, ?_, ?_⟩ <;> (rw [Lib.cell_of_heap h]; rfl)

end Go.Proofs.Ytkcpnehhcpmdgaa
