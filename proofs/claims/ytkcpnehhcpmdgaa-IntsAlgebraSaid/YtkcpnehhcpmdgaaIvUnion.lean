/- slices.Concat of two rows of ranges, and ints.Union; no condition beyond those that stand there. -/
import Derived.Laws.AppendOwnNone
import Derived.Test.YtkcpnehhcpmdgaaGrow
import Derived.Test.YtkcpnehhcpmdgaaIvJoin
import Derived.Test.YtkcpnehhcpmdgaaIvRead
namespace Go.Proofs.Ytkcpnehhcpmdgaa
open Go.RowKit

theorem append_row {ops : Array Oper} {rest : List Oper} {o : Oper} {a : Act} {w : World} {Q : Exit → Act → World → Prop} (hgd : o.guard = none) (s x : Operand) (t : TypeId)
    (ho : o.op = .call { callee := .builtin .append, args := #[s, x], argTypes := #[t, t] }) (ht : Try.prog.underlying t = some (.slice 77)) (base b2 : Nat)
    (v : Value) (rs : List Rg) (hs : a.eval s = v) (hrow : RowR base w v rs) (hl : rs.length ≤ 200) (v2 : Value) (rs2 : List Rg) (hx : a.eval x = v2) (h2 : RowR b2 w v2 rs2) (hl2 : rs2.length ≤ 200) (hbase : base ≤ w.heap.size)
    (h : ∀ v' w', RowR base w' v' (rs ++ rs2) → Below base w w' → wpList Try.prog ops Q rest (a.put o.dst v') w') : wpList Try.prog ops Q (o :: rest) a w := by
  rcases h2.2 with ⟨rfl, h0⟩ | ⟨g, cap, cur, rfl, hgb, hh, hcl, -⟩
  · obtain rfl : rs2 = [] := List.eq_nil_of_length_eq_zero h0
    obtain ⟨i0, hi0, -⟩ := rg_info
    exact wpList_append_own_none hgd s x t ho base 77 i0 2 ht hi0 v rs.length (cellsR rs) hs hrow hx (h v w (by rw [List.append_nil]; exact hrow) (Below.refl _ _))
  · refine append_rg hgd s x t ho ht base v rs hs hrow hl ⟨g, 0, none⟩ rs2.length cap rs2 hx rfl hl2 ?_ hbase fun v' w' h1 hg => h v' w' h1 ((Below.refl _ _).grown hg hbase (fun k hk => hrow.lt k hk.symm))
    intro j u hj
    have hjl := (List.getElem?_eq_some_iff.1 hj).1
    rw [cellsR_length] at hjl
    have := World.ownsRow.cellAt h2 j hjl
    rw [show (⟨g, 0, none⟩ : Addr).add j = ⟨g, j, none⟩ from (by unfold Addr.add; split <;> simp_all), this, hj]
theorem grow_any (n : Nat) (hn : n ≤ 200) (w : World) : Calls Try.prog 68 #[.slice none 0 0, .int .i64 n] w fun e w' => ∃ p c, e = .returned (.slice p 0 c) ∧ RowR w.heap.size w' (.slice p 0 c) [] ∧ Below w.heap.size w w' := by
  by_cases h0 : n = 0
  · subst h0
    refine (Any8.slices_Grow_room Try.growRg none 0 0 0 w (Nat.le_refl _) (by omega) (by omega) (Nat.le_refl _)).mono ?_
    rintro e w' ⟨rfl, rfl⟩
    exact ⟨none, 0, rfl, RowR.nil _ _, Below.refl _ _⟩
  · obtain ⟨i0, hi0, hz0, hz1, hz2⟩ := rg_info
    refine (Any8.slices_Grow_grow Try.growRg i0 _ hi0 hz0 (by rw [hz1]; decide) none 0 0 n [] w (Nat.le_refl _) (by omega) (by rw [hz2]; omega) (by omega) (by simp) (fun _ => rfl) (fun a ha => by simp at ha)).mono ?_
    rintro e w' ⟨rfl, rfl⟩
    refine ⟨_, _, rfl, ?_, (show Below w.heap.size w w.drew from ⟨rfl, rfl, rfl, Nat.le_refl _, fun _ _ => rfl⟩).alloc (Nat.le_refl _) _⟩
    rw [show Try.growRg_ren.t 25 = 77 from by kernel_rfl]
    have hge := grownCap_ge w (0 + n) 0 77
    have hle := grownCap_le_maxLen w (0 + n) 0 77 (by unfold maxLen; omega)
    generalize grownCap w (0 + n) 0 77 = G at *
    refine World.ownsRow_made w.drew _ G (Nat.le_refl _) hle ?_
    simp only [Builtin.zeroCells, Array.size_append, Array.size_map, Array.size_range]
    show 0 + (0 + n - 0) * 2 + (G - (0 + n)) * 2 = G * 2
    omega

set_option maxRecDepth 100000 in
set_option maxHeartbeats 4000000 in
theorem concat_any (b b' : Nat) (v v' : Value) (rs ss : List Rg) (hl : rs.length ≤ 81) (hl' : ss.length ≤ 81) (B : Nat) (w : World) (h : RowR b w v rs) (h' : RowR b' w v' ss) (hB : w.cell? ⟨B, 0, none⟩ = some v) (hB1 : w.cell? ⟨B, 1, none⟩ = some v') (hBl : B < w.heap.size) :
    Calls Try.prog 50 #[.slice (some ⟨B, 0, none⟩) 2 2] w fun e w' => ∃ p c, e = .returned (.slice p (rs ++ ss).length c) ∧ RowR w.heap.size w' (.slice p (rs ++ ss).length c) (rs ++ ss) ∧ Below w.heap.size w w' := by
  obtain ⟨p, c, rfl⟩ := h.slice
  obtain ⟨p', c', rfl⟩ := h'.slice
  have H := Lib.hid (And.intro h h')
  clear h h'
  obtain ⟨n, hn⟩ : ∃ n, n = rs.length := ⟨_, rfl⟩
  obtain ⟨n', hn'⟩ : ∃ n, n = ss.length := ⟨_, rfl⟩
  have HN := Lib.hid (And.intro hn hn')
  rw [← hn] at hl hB
  rw [← hn'] at hl' hB1
  clear hn hn'
  have a1 : IntKind.i64.wrap ((n : Int) + (n' : Int)) = (n : Int) + (n' : Int) := IntWalk.i64_in _ ⟨by omega, by omega⟩
  have a2 : decide ((n : Int) < 0) = false := decide_eq_false (by omega)
  have a3 : decide ((n : Int) + (n' : Int) < 0) = false := decide_eq_false (by omega)
  go_enter Try.func50, Try.ntmps50
  go_wp2_with fail
  refine wp_loop_rounds 3 ?_
  rw [rounds_succ]
  go_wp2_with fail
  rw [rounds_succ]
  go_wp2_with fail
  rw [rounds_succ]
  go_wp2_with fail
  have hgr := grow_any (n + n') (by omega) w
  rw [Int.natCast_add] at hgr
  refine hgr.mono ?_; rintro e w1 ⟨p1, c1, rfl, r1, k1⟩
  have hz1 := k1.size
  have b0 : w1.cell? ⟨B, 0, none⟩ = some (.slice p n c) := by rw [k1.cell hBl]; exact hB
  have b1 : w1.cell? ⟨B, 1, none⟩ = some (.slice p' n' c') := by rw [k1.cell hBl]; exact hB1
  have K1 := Lib.hid (And.intro r1 k1)
  clear r1 k1 hgr hB hB1
  go_wp2_with fail
  refine wp_loop_rounds 3 ?_
  rw [rounds_succ]
  go_wp2_with (at_builtin; refine append_row rfl _ _ 42 rfl Try.underlying42 w.heap.size b _ [] rfl K1.out.1 (by simp) _ rs rfl ?q2 (by have := HN.out.1; omega) ?q1 ?_)
  case q1 => omega
  case q2 => have := H.out.1.below K1.out.2; rw [← HN.out.1] at this; exact this
  intro fv w2 r2 k2
  have hz2 := k2.size
  have d1 : w2.cell? ⟨B, 1, none⟩ = some (.slice p' n' c') := by rw [k2.cell hBl]; exact b1
  have K2 := Lib.hid (And.intro r2 k2)
  clear r2 k2
  go_wp2_with fail
  rw [rounds_succ]
  go_wp2_with (at_builtin; refine append_row rfl _ _ 42 rfl Try.underlying42 w.heap.size b' _ rs rfl K2.out.1 ?q3 _ ss rfl ?q2 (by have := HN.out.2; omega) ?q1 ?_)
  case q1 => omega
  case q3 => have := HN.out.1; omega
  case q2 => have := H.out.2.below (K1.out.2.trans K2.out.2); rw [← HN.out.2] at this; exact this
  intro fv w3 r3 k3
  have K3 := Lib.hid (And.intro r3 k3)
  obtain ⟨p3, c3, rfl⟩ := r3.slice
  clear r3 k3
  go_wp2_with fail
  rw [rounds_succ]
  go_wp2_with fail
  go_ret
  exact ⟨p3, c3, rfl, K3.out.1, K1.out.2.trans (K2.out.2.trans K3.out.2)⟩

theorem app_in {rs ss : List Rg} (hs : Small rs) (hs' : Small ss) : (∀ r ∈ rs ++ ss, (-40 ≤ r.1 ∧ r.1 ≤ 40) ∧ (-40 ≤ r.2 ∧ r.2 ≤ 40)) ∧ (∀ r ∈ rs ++ ss, r.1 ≤ r.2) := by
  constructor
  · intro r hr
    rcases List.mem_append.1 hr with h | h
    · have := hs.2 r h; have := hs.1.1 r h; omega
    · have := hs'.2 r h; have := hs'.1.1 r h; omega
  · intro r hr
    rcases List.mem_append.1 hr with h | h
    · exact hs.1.1 r h
    · exact hs'.1.1 r h
set_option maxRecDepth 100000 in
set_option maxHeartbeats 4000000 in
theorem union_any (b b' : Nat) (v v' : Value) (rs ss : List Rg) (hs : Small rs) (hs' : Small ss) (w : World) (h : RowR b w v rs) (h' : RowR b' w v' ss) :
    Calls Try.prog 28 #[v, v'] w fun e w' => ∃ p c out, e = .returned (.tuple #[.slice p (List.length out) c, .int .i64 0]) ∧ RowR w.heap.size w' (.slice p out.length c) out ∧ Below w.heap.size w w' ∧ Small out ∧ ∀ n, Mem n out ↔ Mem n rs ∨ Mem n ss := by
  obtain ⟨p, c, rfl⟩ := h.slice
  obtain ⟨p', c', rfl⟩ := h'.slice
  have hl := hs.length
  have hl' := hs'.length
  have H := Lib.hid (And.intro h h')
  clear h h'
  go_enter Try.func28, Try.ntmps28
  go_wp2_with fail
  refine (both_any b b' _ _ rs ss hs hs' w H.out.1 H.out.2).mono ?_; rintro e w1 ⟨rfl, k1⟩
  have HA := Lib.hid (And.intro (H.out.1.below k1) (And.intro (H.out.2.below k1) k1))
  have hz1 := k1.size
  clear k1
  go_wp2_with fail
  have hal := (Below.refl w1.heap.size w1).alloc (Nat.le_refl _) (.cells #[.slice p rs.length c, .slice p' ss.length c'] 42 (0, 0))
  have hnew : (w1.alloc (.cells #[.slice p rs.length c, .slice p' ss.length c'] 42 (0, 0))).heap[w1.heap.size]? = some (.cells #[.slice p rs.length c, .slice p' ss.length c'] 42 (0, 0)) := heap_alloc_new w1 _
  have e0 : (w1.alloc (.cells #[.slice p rs.length c, .slice p' ss.length c'] 42 (0, 0))).cell? ⟨w1.heap.size, 0, none⟩ = some (.slice p rs.length c) := by rw [Lib.cell_of_heap hnew]; rfl
  have e1 : (w1.alloc (.cells #[.slice p rs.length c, .slice p' ss.length c'] 42 (0, 0))).cell? ⟨w1.heap.size, 1, none⟩ = some (.slice p' ss.length c') := by rw [Lib.cell_of_heap hnew]; rfl
  have hcc := concat_any b b' _ _ rs ss hl hl' w1.heap.size _ (HA.out.1.below hal) (HA.out.2.1.below hal) e0 e1 (by simp)
  have hin := app_in hs hs'
  have hlen : (rs ++ ss).length ≤ 200 := by rw [List.length_append]; omega
  have hmemL : ∀ n, Mem n (rs ++ ss) ↔ Mem n rs ∨ Mem n ss := fun n => mem_append n rs ss
  clear e0 e1 hnew
  generalize rs ++ ss = L at hcc hin hlen hmemL
  refine hcc.mono ?_
  rintro e w2 ⟨p2, c2, rfl, r2, k2⟩
  have hz2 := k2.size
  simp only [World.size_alloc] at hz2 r2 k2
  have HB := Lib.hid (And.intro (r2.mono (show w1.heap.size ≤ _ by omega)) (hal.trans (k2.mono (by omega))))
  clear r2 k2 hal hcc
  have hj := fun w3 h hz => joined_any w1.heap.size (.slice p2 L.length c2) L hin.1 hin.2 hlen w3 h hz
  have HJ := Lib.hid hj
  clear hj
  go_wp2_with fail
  refine (HJ.out w2 HB.out.1 (by omega)).mono ?_; rintro e w3 ⟨p3, c3, out, rfl, r3, k3, hok, hmem⟩
  have hmem' : ∀ n, Mem n out ↔ Mem n rs ∨ Mem n ss := fun n => (hmem n).trans (hmemL n)
  have hsm : Small out := ⟨hok, within_of_mem hok fun n hm => ((hmem' n).1 hm).elim (fun h => hs.2.mem h) (fun h => hs'.2.mem h)⟩
  have hlim := fun w => limited_any p3 out.length c3 (by have := hsm.length; omega) w
  have HK := Lib.hid (And.intro r3 (And.intro k3 (And.intro hmem' hsm)))
  clear r3 k3 hok hmem hmem' hsm
  go_wp2_with fail
  refine (hlim _).mono ?_; rintro e w4 ⟨rfl, rfl⟩
  go_wp2_with fail
  go_ret2
  exact ⟨p3, c3, out, rfl, HK.out.1.mono hz1, HA.out.2.2.trans ((HB.out.2.trans HK.out.2.1).mono hz1), HK.out.2.2.2, HK.out.2.2.1⟩

end Go.Proofs.Ytkcpnehhcpmdgaa
