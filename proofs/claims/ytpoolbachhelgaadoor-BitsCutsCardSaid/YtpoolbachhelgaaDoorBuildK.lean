/- strings.Builder's WriteByte once more: what it leaves of the blocks that are not the builder's; no condition beyond those that stand there. -/
import Derived.Test.YtpoolbachhelgaaDoorBuild
namespace Go.Proofs.YtpoolbachhelgaaDoor
open Go.RowKit

/-- A write of a builder in block b: another block, not the builder's buffer, is as it was. -/
def Oth (b : Nat) (w w' : World) : Prop := ∀ g, g < w.heap.size → g ≠ b → (∀ v, w.cell? ⟨b, 1, none⟩ = some v → v.ownBlock ≠ some g) → w'.heap[g]? = w.heap[g]?

theorem copyCheck_oth (B b : Nat) (bs : List Value) (w : World) (h : Lib.IsBuilder 26 5 B b bs w) :
    Calls Tryd.prog 39 #[.pointer (some ⟨b, 0, none⟩)] w fun e w' => e = .returned (.tuple #[]) ∧ (Lib.BuilderAt 26 5 B b (.pointer (some ⟨b, 0, none⟩)) bs w' ∧ Below B w w' ∧ (w'.heap.size = w.heap.size ∧ (∀ g, g ≠ b → w'.heap[g]? = w.heap[g]?) ∧ w'.cell? ⟨b, 1, none⟩ = w.cell? ⟨b, 1, none⟩)) := by
  rcases h with h | h
  · refine (copyCheck_fresh b w h.cell0 h.shape h.frozen0).mono ?_
    rintro e w' ⟨rfl, rfl⟩
    refine ⟨rfl, h.used _, (Below.refl B w).setCell (p := ⟨b, 0, none⟩) h.1 _, by simp [World.setCell], fun g hg => Below.heap_setCell _ _ _ _ hg, ?_⟩
    obtain ⟨_, v, hb, _⟩ := h
    simp [World.cell?, World.setCell, Array.getElem?_modify, hb]
  · refine (copyCheck_used b w h.cell0).mono ?_
    rintro e w' ⟨rfl, rfl⟩
    exact ⟨rfl, h, Below.refl B _, rfl, fun _ _ => rfl, rfl⟩

set_option maxHeartbeats 2000000 in
set_option maxRecDepth 100000 in
theorem writeByte_oth (B b : Nat) (bs : List Value) (c : Int) (w : World) (h : Lib.IsBuilder 26 5 B b bs w) (hlen : bs.length + 1 ≤ 140737488355328) (hBw : B ≤ w.heap.size) :
    Calls Tryd.prog 44 #[.pointer (some ⟨b, 0, none⟩), .int .u8 c] w fun e w' => e = .returned .nilIface ∧ (Lib.BuilderAt 26 5 B b (.pointer (some ⟨b, 0, none⟩)) (bs ++ [.int .u8 c]) w' ∧ Below B w w' ∧ Oth b w w') := by
  obtain ⟨i0, hi, hz0, hz1, hz2⟩ := info_parts bd_byte
  go_enter Tryd.func44, Tryd.ntmps44
  go_wp2_with (go_at_call 39; refine (copyCheck_oth B b bs _ h).mono ?_)
  rintro e w1 ⟨rfl, h1, hb1, hsz1, hoth1, hc1⟩
  have HO := Lib.hid (And.intro hsz1 (And.intro hoth1 hc1))
  clear hsz1 hoth1 hc1
  obtain ⟨hB, v, hbk, hown, hne⟩ := h1
  have c0 : w1.cell? ⟨b, 0, none⟩ = some (.pointer (some ⟨b, 0, none⟩)) := by rw [Lib.cell_of_heap hbk]; rfl
  have c1 : w1.cell? ⟨b, 1, none⟩ = some v := by rw [Lib.cell_of_heap hbk]; rfl
  go_wp2_with (at_builtin; refine wpList_append_own _ rfl _ _ 24 rfl B 5 i0 (.int .u8 0) 1 1 Tryd.underlying24 hi hz0 hz1 hz2 rfl (by decide) _ _ _ rfl (hown.alloc _) ⟨w1.heap.size, 0, none⟩ 1 1 [.int .u8 c] rfl rfl ?c1 ?c2 ?c3 ?c4 ?c5 ?_)
  case c1 =>
    intro j u hj
    match j, hj with
    | 0, hj => simp at hj; subst hj; simp [Addr.add]
  case c2 => intro u hu; simp at hu; subst hu; rfl
  case c3 => unfold maxLen; omega
  case c4 => omega
  case c5 => have := hb1.size; simp; omega
  intro v' w2 hown' hgrow _
  have hlt : b < w1.heap.size := by
    rcases Nat.lt_or_ge b w1.heap.size with h' | h'
    · exact h'
    · simp [Array.getElem?_eq_none h'] at hbk
  have hb2 : w2.heap[b]? = some (.cells #[.pointer (some ⟨b, 0, none⟩), v] 26 (0, 0)) := by
    rw [hgrow.block b (by simp; omega) (fun e => hne e.symm), Lib.alloc_old w1 _ b hlt]
    exact hbk
  have d0 : w2.cell? ⟨b, 0, none⟩ = some (.pointer (some ⟨b, 0, none⟩)) := by rw [Lib.cell_of_heap hb2]; rfl
  have d1 : w2.cell? ⟨b, 1, none⟩ = some v := by rw [Lib.cell_of_heap hb2]; rfl
  have f1 : w2.frozen? ⟨b, 1, none⟩ = false := Lib.frozen_of_heap hb2 1
  obtain ⟨g, cap, rfl⟩ : ∃ g cap, v' = .slice (some ⟨g, 0, none⟩) (bs.length + 1) cap := by
    rcases hown'.2 with ⟨_, h0⟩ | ⟨g, cap, cur, hv, _⟩
    · omega
    · exact ⟨g, cap, hv⟩
  go_wp2
  go_ret
  refine ⟨rfl, ?_, ?_, ?_⟩
  · exact Lib.BuilderAt.put (T := 26) (e := 5) hB hb2 (bs' := bs ++ [.int .u8 c]) (by simpa using hown') (by decide)
  · exact ((hb1.alloc (by have := hb1.size; omega) _).grown hgrow (by have := hb1.size; simp; omega) (fun k hk => (hown.lt k hk).1)).setCell (p := ⟨b, 1, none⟩) hB _
  · intro g hg hgb hv
    obtain ⟨hsz1, hoth1, hc1⟩ := HO.out
    rw [Below.heap_setCell _ _ _ _ (fun e => hgb e), hgrow.block g (by simp; omega) (fun e => hv v (by rw [← hc1]; exact c1) e.symm), Lib.alloc_old w1 _ g (by omega)]
    exact hoth1 g hgb

theorem writeByte_keeps (B b : Nat) (l : List UInt8) (c : Int) (h0 : 0 ≤ c) (h1 : c < 256) (w : World) (h : Bd B b l w) (hlen : l.length + 1 ≤ 140737488355328) :
    Calls Tryd.prog 44 #[.pointer (some ⟨b, 0, none⟩), .int .u8 c] w fun e w' => e = .returned .nilIface ∧ (Bd B b (l ++ [UInt8.ofNat c.toNat]) w' ∧ Below B w w' ∧ Oth b w w') := by
  refine (writeByte_oth B b (Lib.byteCells l) c w h.2 (by rw [Lib.byteCells_length]; exact hlen) h.1).mono ?_
  rintro e w' ⟨rfl, hb, hbel, ho⟩
  refine ⟨rfl, ⟨Nat.le_trans h.1 hbel.size, Or.inr ?_⟩, hbel, ho⟩
  rw [byteCells_snoc l c h0 h1] at hb
  exact hb

/-- A block that bears a mark is no builder's buffer. -/
theorem Oth.marked {B b g T : Nat} {l : List UInt8} {w w' : World} {cs : Array Value} {m : Nat × Nat} (h : Oth b w w') (hb : Bd B b l w) (hg : w.heap[g]? = some (.cells cs T m)) (hm : m ≠ (0, 0)) : w'.heap[g]? = some (.cells cs T m) := by
  have key : ∀ p, Lib.BuilderAt 26 5 B b p (Lib.byteCells l) w → w'.heap[g]? = some (.cells cs T m) := by
    rintro p ⟨h1, v, h2, h3, h4⟩
    rw [h g (lt_of_block hg) ?_ ?_]
    · exact hg
    · rintro rfl
      rw [hg] at h2
      simp only [Option.some.injEq, Obj.cells.injEq] at h2
      exact hm h2.2.2
    · intro u hu he
      have : u = v := by
        rw [Lib.cell_of_heap h2] at hu
        simpa using hu.symm
      subst this
      rcases h3.2 with ⟨rfl, _⟩ | ⟨q, cap, cur, rfl, _, hq, _⟩
      · simp [Value.ownBlock] at he
      · simp only [Value.ownBlock, Option.some.injEq] at he
        subst he
        rw [hg] at hq
        simp only [Option.some.injEq, Obj.cells.injEq] at hq
        exact hm hq.2.2
  exact hb.2.elim (key _) (key _)

end Go.Proofs.YtpoolbachhelgaaDoor
