/- clapkeep1.set and clapkeep1.ranged; no condition beyond those that stand there. -/
import Derived.Test.YtkcpnehhcpmdgaaIvOf
import Derived.Test.YtkcpnehhcpmdgaaIvHas
import Derived.Test.YtkcpnehhcpmdgaaRowAt
import Derived.Test.YtkcpnehhcpmdgaaBelow
namespace Go.Proofs.Ytkcpnehhcpmdgaa
open Go.RowKit

theorem info_int : (Try.prog.info? 3).map (fun i => (i.zero, i.size, i.bytes)) = some (some (.int .i64 0), 1, 8) := by kernel_rfl
theorem int_info : ∃ i0, Try.prog.info? 3 = some i0 ∧ i0.zero = some (.int .i64 0) ∧ i0.size = 1 ∧ i0.bytes = 8 := by
  have h := info_int
  cases hi : Try.prog.info? 3 with
  | none => rw [hi] at h; simp at h
  | some i => rw [hi] at h; simp at h; exact ⟨i, rfl, h.1, h.2.1, h.2.2⟩
set_option maxRecDepth 100000 in
set_option maxHeartbeats 4000000 in
theorem set_any (p : Option Addr) (len cap : Nat) (xs : List Int) (w : World) (h : IsRow .i64 w p len cap xs) :
    Calls Try.prog 19 #[.slice p len cap] w fun e w' => ∃ q c out, e = .returned (.slice q (List.length out) c) ∧ RowR w.heap.size w' (.slice q out.length c) out ∧ Below w.heap.size w w' ∧ Small out := by
  obtain ⟨hle, hmax⟩ := h.le
  obtain ⟨L, hL⟩ : ∃ L : Nat, L = min len 40 := ⟨_, rfl⟩
  have hLi : min (len : Int) 40 = (L : Int) := by omega
  have hL60 : L ≤ 40 := by omega
  have hsl := fun w => run_take (P := Try.prog) w 22 Try.underlying22 (s := 1) (fun w => by kernel_rfl) p len cap L (by omega)
  have HA := Lib.hid h.at_
  have HLl := Lib.hid (show L ≤ len by omega)
  obtain ⟨i0, hi0, hz0, hz1, hz2⟩ := int_info
  clear h hL
  go_enter Try.func19, Try.ntmps19
  go_wp2_with fail
  go_loopw [14, 3] (fun iv ov wr => ∃ (i : Nat) (ys : List Int), i ≤ L ∧ iv = .int .i64 i ∧ ys.length = i ∧ (∀ y ∈ ys, -40 ≤ y ∧ y ≤ 40) ∧ wr.ownsRow w.heap.size 3 1 ov ys.length (ys.map (Value.int .i64)) ∧ Below w.heap.size w wr) (fun iv _ _ => L - (intOf iv).toNat)
  case atStart => exact ⟨0, [], by omega, rfl, rfl, by simp, World.ownsRow_nil _ _ _ _, Below.refl _ _⟩
  case round =>
    obtain ⟨i, ys, hi, rfl, hyl, hy, hrow, hb⟩ := hrel
    have wi : IntKind.i64.wrap ((i : Int) + 1) = (i : Int) + 1 := IntWalk.i64_in _ ⟨by omega, by omega⟩
    have hsz := hb.size
    have HB := Lib.hid (And.intro hb (And.intro hrow (And.intro hy hyl)))
    by_cases hlt : i < L
    · obtain ⟨b, off, rfl, hbl, hc, -, -⟩ := HA.out.get (show i < len from Nat.lt_of_lt_of_le hlt HLl.out)
      have c0 : wr.cell? ⟨b, off + i, none⟩ = some (.int .i64 (xs.getD i 0)) := (hb.cell (p := ⟨b, off + i, none⟩) hbl).trans hc
      clear hc hb hrow hy hyl
      generalize xs.getD i 0 = x at *
      have hni : ((i : Int)).toNat = i := by omega
      have z1 : 0 ≤ x % 60 := by omega
      have z2 : x % 60 < 60 := by omega
      have wx : IntKind.i64.wrap (x % 60 - 30) = x % 60 - 30 := IntWalk.i64_in _ ⟨by omega, by omega⟩
      go_wp2_with fail
      refine (below_any x 60 (by decide) (by decide) _).mono ?_; rintro e w1 ⟨rfl, rfl⟩
      generalize x % 60 = z at *
      go_wp2_with (at_builtin; refine wpList_append_own _ rfl _ _ 22 rfl w.heap.size 3 i0 (.int .i64 0) 1 8 Try.underlying22 hi0 hz0 hz1 hz2 rfl (by decide) _ ys.length (ys.map (Value.int .i64)) rfl (HB.out.2.1.alloc _) ⟨wr.heap.size, 0, none⟩ 1 1 [.int .i64 (z - 30)] rfl rfl ?q1 ?q2 ?q3 ?q4 ?q5 ?_)
      case q1 =>
        intro j v hj
        match j, hj with
        | 0, hj => simp at hj; subst hj; show World.cell? _ ⟨wr.heap.size, 0, none⟩ = _; rw [Lib.cell_of_heap (heap_alloc_new wr _)]; rfl
      case q2 => intro v hv; simp at hv; rcases hv with rfl; rfl
      case q3 => have := HB.out.2.2.2; unfold maxLen; omega
      case q4 => have := HB.out.2.2.2; omega
      case q5 => simp; omega
      intro fv w6 hown6 hg6 _
      have HO := Lib.hid (And.intro hown6 hg6)
      clear hown6 hg6
      go_wp2_with fail
      refine ⟨⟨i + 1, ys ++ [z - 30], by omega, by simp, by rw [List.length_append, HB.out.2.2.2]; rfl, ?_, ?_, (HB.out.1.alloc hsz _).grown HO.out.2 (by simp; omega) (fun k hk => (HB.out.2.1.lt k hk).1)⟩, by simp [intOf]; omega⟩
      · intro y hy
        rcases List.mem_append.1 hy with hy | hy
        · exact HB.out.2.2.1 y hy
        · rw [List.mem_singleton.1 hy]; omega
      · rw [List.length_append, List.map_append]
        exact HO.out.1
    · have ti : decide (i < L) = false := decide_eq_false (by omega)
      have hsl2 := SlK.of_owns hrow
      have hof := fun w1 h => of_any u3 ys hy (by omega) w1 h
      have HF := Lib.hid hof
      have HS := Lib.hid hsl2
      clear hb hrow hy hyl hof hsl2
      go_wp2_with fail
      refine (HF.out wr HS.out).mono ?_; rintro e w2 ⟨q, c, out, rfl, r2, k2, hsm, -⟩
      have HK := Lib.hid (And.intro r2 (And.intro k2 hsm))
      clear r2 k2 hsm
      go_wp2_with fail
      go_ret
      exact ⟨q, c, out, rfl, HK.out.1.mono hsz, HB.out.1.trans (HK.out.2.1.mono hsz), HK.out.2.2⟩

theorem ranged_out (out : List Rg) (h : Ok out) (hm : ∀ n, Mem n out ↔ n ∈ [7, 2, 1, 3]) : out = [(1, 3), (7, 7)] := by
  refine ok_unique _ _ h ((ok_cons _ _).2 ⟨by decide, (fun x hx => by rw [List.mem_singleton.1 hx]; decide), ok_one _ _ (by decide)⟩) fun n => ?_
  rw [hm n, mem_cons, mem_one]
  simp
  omega
set_option maxRecDepth 100000 in
set_option maxHeartbeats 4000000 in
theorem ranged_any (w : World) : Calls Try.prog 22 #[] w fun e w' => e = .returned (.bool true) ∧ Below w.heap.size w w' := by
  have hal := (Below.refl w.heap.size w).alloc (Nat.le_refl _) (.cells #[.int .i64 7, .int .i64 2, .int .i64 1, .int .i64 3] 3 (0, 0))
  have hnew : (w.alloc (.cells #[.int .i64 7, .int .i64 2, .int .i64 1, .int .i64 3] 3 (0, 0))).heap[w.heap.size]? = some (.cells #[.int .i64 7, .int .i64 2, .int .i64 1, .int .i64 3] 3 (0, 0)) := heap_alloc_new w _
  have hsl : SlK .i64 (w.alloc (.cells #[.int .i64 7, .int .i64 2, .int .i64 1, .int .i64 3] 3 (0, 0))) (.slice (some ⟨w.heap.size, 0, none⟩) 4 4) [7, 2, 1, 3] := by
    refine Or.inr ⟨w.heap.size, 0, 4, rfl, by decide, by decide, fun i hi => ⟨by simp, ?_⟩⟩
    rw [Nat.zero_add, Lib.cell_of_heap hnew]
    match i, hi with
    | 0, _ => rfl
    | 1, _ => rfl
    | 2, _ => rfl
    | 3, _ => rfl
  have hof := of_any _ [7, 2, 1, 3] (by decide) (by decide) _ hsl
  have HL := Lib.hid hal
  clear hal hnew hsl
  go_enter Try.func22, Try.ntmps22
  go_wp2_with fail
  refine hof.mono ?_; rintro e w2 ⟨q, c, out, rfl, r2, k2, hsm, hm⟩
  obtain rfl := ranged_out out hsm.1 hm
  have hz2 := k2.size
  have HK := Lib.hid (And.intro r2 k2)
  clear r2 k2 hsm hm hof
  have hlit : RowR w2.heap.size (w2.alloc (.cells #[.int .i64 1, .int .i64 3, .int .i64 7, .int .i64 7] 77 (0, 0))) (.slice (some ⟨w2.heap.size, 0, none⟩) 2 2) [(1, 3), (7, 7)] :=
    ⟨rfl, Or.inr ⟨w2.heap.size, 2, _, rfl, Nat.le_refl _, heap_alloc_new w2 _, by decide, by decide, rfl, rfl⟩⟩
  have hrow := (HK.out.1.alloc (.cells #[.int .i64 1, .int .i64 3, .int .i64 7, .int .i64 7] 77 (0, 0)))
  have heq := equal_any _ _ _ _ [(1, 3), (7, 7)] (by decide) _ hrow hlit
  clear hlit hrow
  go_wp2_with fail
  refine heq.mono ?_; rintro e w3 ⟨rfl, k3⟩
  have HM := Lib.hid k3
  clear k3 heq
  go_wp2_with fail
  go_ret
  have e1 : w.heap.size ≤ w2.heap.size := by simp at hz2; omega
  exact ⟨rfl, ((HL.out.trans (HK.out.2.mono (by simp))).alloc e1 _).trans (HM.out.mono (by simp; omega))⟩

end Go.Proofs.Ytkcpnehhcpmdgaa
