/- The contract of decimal.Ungroup at what decimal.Group gives. -/
import Derived.Test.YtpoolbachhelgaaDoorGroup
import Derived.Laws.BytesArg
namespace Go.Proofs.YtpoolbachhelgaaDoor
open Go.RowKit

theorem joinC_cons {α : Type} (c : α) (x y : List α) (r : List (List α)) (T : List α) : joinC c (x :: y :: r) ++ T = x ++ c :: (joinC c (y :: r) ++ T) := by simp [joinC]
theorem count_joinT (c : UInt8) (T : List UInt8) (hT : ∀ b ∈ T, b ≠ c) : ∀ (x : List UInt8) (r : List (List UInt8)), (∀ p ∈ x :: r, ∀ b ∈ p, b ≠ c) → Lib.count (joinC c (x :: r) ++ T) [c] = r.length
  | x, [], h => Lib.count_miss (index_byte_none (x ++ T) c (fun b hb => (List.mem_append.1 hb).elim (h x (List.mem_cons_self ..) b) (hT b)))
  | x, y :: r, h => by
    have hi := index_byte_at x (joinC c (y :: r) ++ T) c (h x (List.mem_cons_self ..))
    rw [joinC_cons, Lib.count_hit (by simp) hi]
    rw [show [c].length = 1 from rfl, show (x ++ c :: (joinC c (y :: r) ++ T)).drop (x.length + 1) = joinC c (y :: r) ++ T from by
      rw [show x ++ c :: (joinC c (y :: r) ++ T) = (x ++ [c]) ++ (joinC c (y :: r) ++ T) from by simp, List.drop_left' (by simp)]]
    rw [count_joinT c T hT y r (fun p hp => h p (List.mem_cons_of_mem _ hp)), List.length_cons]
    omega
theorem replaceK_joinT (c : UInt8) (T : List UInt8) : ∀ (x : List UInt8) (r : List (List UInt8)), (∀ p ∈ x :: r, ∀ b ∈ p, b ≠ c) → Lib.replaceK [c] [] r.length (joinC c (x :: r) ++ T) = (x :: r).flatten ++ T
  | x, [], h => by simp [joinC, Lib.replaceK]
  | x, y :: r, h => by
    have hi := index_byte_at x (joinC c (y :: r) ++ T) c (h x (List.mem_cons_self ..))
    rw [joinC_cons, List.length_cons, Lib.replaceK_hit [c] [] r.length _ x.length hi]
    rw [List.take_left, List.append_nil, show [c].length = 1 from rfl, show (x ++ c :: (joinC c (y :: r) ++ T)).drop (x.length + 1) = joinC c (y :: r) ++ T from by
      rw [show x ++ c :: (joinC c (y :: r) ++ T) = (x ++ [c]) ++ (joinC c (y :: r) ++ T) from by simp, List.drop_left' (by simp)]]
    rw [replaceK_joinT c T y r (fun p hp => h p (List.mem_cons_of_mem _ hp))]
    simp
theorem joinC_pre {α : Type} (c : α) (S x : List α) (r : List (List α)) : joinC c ((S ++ x) :: r) = S ++ joinC c (x :: r) := by
  cases r <;> simp [joinC]
theorem replaceAll_joinT (c : UInt8) (S T x : List UInt8) (r : List (List UInt8)) (hS : ∀ b ∈ S, b ≠ c) (hT : ∀ b ∈ T, b ≠ c) (h : ∀ p ∈ x :: r, ∀ b ∈ p, b ≠ c) : Lib.replaceAll (S ++ joinC c (x :: r) ++ T) [c] [] = S ++ (x :: r).flatten ++ T := by
  have h' : ∀ p ∈ (S ++ x) :: r, ∀ b ∈ p, b ≠ c := by
    intro p hp b hb
    rcases List.mem_cons.1 hp with rfl | hp
    · exact (List.mem_append.1 hb).elim (hS b) (h x (List.mem_cons_self ..) b)
    · exact h p (List.mem_cons_of_mem _ hp) b hb
  rw [← joinC_pre]
  unfold Lib.replaceAll Lib.replace Lib.replaceNum
  rw [if_neg (by simp), if_pos (Or.inl (by decide)), count_joinT c T hT _ r h', replaceK_joinT c T _ r h']
  simp

/-- The pieces of grouped digits. -/
theorem chunks_mem (size f : Nat) (l : List Nat) : ∀ p ∈ chunks size f l, ∀ b ∈ p, b ∈ l := by
  intro p hp b hb
  have := List.mem_flatten.2 ⟨p, hp, hb⟩
  rwa [chunks_flatten] at this
theorem ungroup_law (neg pt : Bool) (W F : List Nat) (hW : ∀ c ∈ W, 48 ≤ c ∧ c ≤ 57) (hF : ∀ c ∈ F, 48 ≤ c ∧ c ≤ 57) (size : Nat) (hs : 1 ≤ size) :
    (⟨(Lib.replaceAll (strN (signed neg (outTo size W W.length ++ tailL pt F))).data.toList [44] []).toArray⟩ : ByteArray) = strN (signed neg (W ++ tailL pt F)) := by
  obtain ⟨x, r, hx⟩ := chunks_ne size W.length W
  have hfl := chunks_flatten size W.length W
  have hmem := chunks_mem size W.length W
  have hout := out_chunks hs W.length W (Nat.le_refl _)
  rw [hx] at hfl hmem hout
  rw [signed_eq, signed_eq, strN_data, hout]
  have ne : ∀ c : Nat, c < 256 → c ≠ 44 → UInt8.ofNat c ≠ 44 := fun c h1 h2 => ofNat_ne (a := c) (b := 44) h1 (by omega) h2
  have e : (signL neg ++ (joinC 44 (x :: r) ++ tailL pt F)).map UInt8.ofNat = u8s (signL neg) ++ joinC 44 (u8s x :: r.map u8s) ++ u8s (tailL pt F) := by
    rw [List.map_append, List.map_append, joinC_map, List.append_assoc]
    rfl
  rw [e, replaceAll_joinT 44 _ _ _ _ ?_ ?_ ?_]
  · have h2 : (u8s x :: r.map u8s).flatten = u8s W := by
      rw [← hfl]
      show ((x :: r).map (List.map UInt8.ofNat)).flatten = (x :: r).flatten.map UInt8.ofNat
      rw [List.map_flatten]
    rw [h2]
    show (⟨(u8s (signL neg) ++ u8s W ++ u8s (tailL pt F)).toArray⟩ : ByteArray) = ⟨(u8s (signL neg ++ (W ++ tailL pt F))).toArray⟩
    rw [u8s_append, u8s_append, List.append_assoc]
  · intro b hb
    obtain ⟨c, hc, rfl⟩ := List.mem_map.1 hb
    cases neg
    · cases hc
    · rw [List.mem_singleton.1 hc]; decide
  · intro b hb
    obtain ⟨c, hc, rfl⟩ := List.mem_map.1 hb
    cases pt
    · cases hc
    · rcases List.mem_cons.1 hc with rfl | hc
      · decide
      · have := hF c hc; exact ne c (by omega) (by omega)
  · intro p hp b hb
    have hp' : p ∈ (x :: r).map u8s := hp
    obtain ⟨q, hq, rfl⟩ := List.mem_map.1 hp'
    obtain ⟨c, hc, rfl⟩ := List.mem_map.1 hb
    have := hW c (hmem q hq c hc)
    exact ne c (by omega) (by omega)

def maxOk (w : World) : Prop := ∃ m : Int, w.cell? ⟨0, 0, none⟩ = some (.int .i64 m)
theorem maxOk_shape {w : World} (h : w.ShapedOpen Tryd.prog) : maxOk w :=
  Go.Proofs.cell_of_shapedOpen_int (zero := #[.int .i64 0]) (t := 3) h (of_decide_eq_true (by kernel_rfl)) (by kernel_rfl) rfl (by kernel_rfl) (by kernel_rfl) Tryd.underlying3
theorem maxOk.below {w w' : World} (h : maxOk w) (hb : Below w.heap.size w w') : maxOk w' := by
  obtain ⟨m, hm⟩ := h
  have hlt := World.block_lt_of_cell? _ _ hm
  exact ⟨m, by rw [hb.cell hlt]; exact hm⟩

set_option maxRecDepth 100000 in
set_option maxHeartbeats 2000000 in
theorem ungroup_any (neg pt : Bool) (W F : List Nat) (hpt : pt = false → F = []) (hpt2 : pt = true → 1 ≤ F.length) (hW : ∀ c ∈ W, 48 ≤ c ∧ c ≤ 57) (hF : ∀ c ∈ F, 48 ≤ c ∧ c ≤ 57) (hW1 : 1 ≤ W.length) (hlen : W.length + F.length ≤ 75) (size : Nat) (hs1 : 1 ≤ size) (hs2 : size ≤ 15) (w : World) (hmx : maxOk w) :
    Calls Tryd.prog 27 #[.string (strN (signed neg (outTo size W W.length ++ tailL pt F))), .int .i64 size, .int .u8 44] w fun e w' => e = .returned (.tuple #[.string (strN (signed neg (W ++ tailL pt F))), .int .i64 0]) ∧ Below w.heap.size w w' := by
  have HL := ungroup_law neg pt W F hW hF size hs1
  have HG := group_any neg pt W F hpt hpt2 hW hF hW1 hlen size hs1 hs2
  have hsz : (strN (signed neg (outTo size W W.length ++ tailL pt F))).size ≤ 160 := by
    rw [strN_size]
    have := outTo_length size W W.length
    cases neg <;> cases pt <;> simp [signed, tailL] <;> omega
  generalize strN (signed neg (outTo size W W.length ++ tailL pt F)) = t at *
  generalize strN (signed neg (W ++ tailL pt F)) = s at *
  have t1 : decide ((size : Int) < 1) = false := decide_eq_false (by omega)
  have t2 : decide (15 < (size : Int)) = false := decide_eq_false (by omega)
  have t3 : decide (160 < (t.size : Int)) = false := decide_eq_false (by omega)
  have t4 : decide (160 < t.size) = false := decide_eq_false (by omega)
  have HVs := Lib.hid (value_any 44 (by decide))
  rw [show valC ((44 : Nat) : Int) = -1 from by decide] at HVs
  have hcv := run_convert_bytes_arg (P := Tryd.prog) (w.alloc (.cells #[.int .u8 44] 5 (0, 0))) 24 5 Tryd.underlying24 Tryd.underlying5 w.heap.size 0 1 1 [44] rfl (fun i hi => by
    have : i = 0 := by simpa using hi
    subst this
    simp) 9 Tryd.underlying9
  rw [show strOfNums [44] = (⟨#[44]⟩ : ByteArray) from rfl] at hcv
  have hba : Below w.heap.size w (w.alloc (.cells #[.int .u8 44] 5 (0, 0))) := by go_grown
  obtain ⟨m, hm⟩ := hmx.below hba
  have HR := Tryd.strings_ReplaceAll t ⟨#[44]⟩ ⟨#[]⟩ m (w.alloc (.cells #[.int .u8 44] 5 (0, 0))) (by omega) hm (by decide) (by show t.size + _ * 0 ≤ _; omega)
  rw [show (⟨#[44]⟩ : ByteArray).data.toList = [44] from rfl, show (⟨#[]⟩ : ByteArray).data.toList = [] from rfl, HL] at HR
  have HRr := Lib.hid HR
  have HGr := Lib.hid HG
  have HBa := Lib.hid hba
  clear HL HG hm HR hba
  go_enter Tryd.func27, Tryd.ntmps27
  go_wp2_with fail
  refine (HVs.out _).mono ?_; rintro e w1 ⟨rfl, rfl⟩
  go_wp2_with fail
  refine HRr.out.mono ?_; rintro e w1 ⟨rfl, b1⟩
  go_wp2_with fail
  refine (HGr.out _).mono ?_; rintro e w2 ⟨rfl, b2⟩
  go_wp2_with fail
  go_ret2
  exact ⟨rfl, (HBa.out.trans (b1.mono (by simp))).trans (b2.mono (by have := b1.size; simp at this; omega))⟩

end Go.Proofs.YtpoolbachhelgaaDoor
