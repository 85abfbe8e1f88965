/- ints.Of; no condition beyond those that stand there. -/
import Derived.Test.YtkcpnehhcpmdgaaIvJoin
import Derived.Test.YtkcpnehhcpmdgaaIvRead
import Derived.Test.YtkcpnehhcpmdgaaSl
namespace Go.Proofs.Ytkcpnehhcpmdgaa
open Go.RowKit

theorem mem_points (xs : List Int) (n : Int) : Mem n (xs.map fun x => (x, x)) ↔ n ∈ xs := by
  unfold Mem
  simp only [List.mem_map]
  constructor
  · rintro ⟨r, ⟨x, hx, rfl⟩, h1, h2⟩
    have : n = x := by simp only [] at h1 h2; omega
    rw [this]; exact hx
  · intro h
    exact ⟨(n, n), ⟨n, h, rfl⟩, Int.le_refl _, Int.le_refl _⟩
set_option maxRecDepth 100000 in
set_option maxHeartbeats 4000000 in
theorem of_any (v : Value) (xs : List Int) (hx : ∀ x ∈ xs, -40 ≤ x ∧ x ≤ 40) (hl : xs.length ≤ 100) (w : World) (h : SlK .i64 w v xs) :
    Calls Try.prog 41 #[v] w fun e w' => ∃ p c out, e = .returned (.tuple #[.slice p (List.length out) c, .int .i64 0]) ∧ RowR w.heap.size w' (.slice p out.length c) out ∧ Below w.heap.size w w' ∧ Small out ∧ ∀ n, Mem n out ↔ n ∈ xs := by
  obtain ⟨p, c, rfl⟩ := h.slice
  go_enter Try.func41, Try.ntmps41
  go_wp2_with fail
  go_loopw [9, 4] (fun iv ov wr => ∃ (i : Nat), i ≤ xs.length ∧ iv = .int .i64 i ∧ RowR w.heap.size wr ov ((xs.take i).map fun x => (x, x)) ∧ Below w.heap.size w wr) (fun iv _ _ => xs.length - (intOf iv).toNat)
  case atStart => exact ⟨0, by omega, rfl, RowR.nil _ _, Below.refl _ _⟩
  case round =>
    obtain ⟨i, hi, rfl, hrow, hb⟩ := hrel
    have wi : IntKind.i64.wrap ((i : Int) + 1) = (i : Int) + 1 := IntWalk.i64_in _ ⟨by omega, by omega⟩
    have hsz := hb.size
    by_cases hlt : i < xs.length
    · rcases h with ⟨hv, h0⟩ | ⟨q, off, cap, hv, hcap, hmax, hcell⟩
      · simp [h0] at hlt
      simp only [Value.slice.injEq] at hv
      obtain ⟨rfl, -, rfl⟩ := hv
      obtain ⟨hq, c0⟩ := hcell i hlt
      rw [← hb.cell (show (⟨q, off + i, none⟩ : Addr).block < w.heap.size from hq)] at c0
      have hxi := hx _ (List.getElem_mem hlt)
      have he : xs.getD i 0 = xs[i] := by simp [List.getD, hlt]
      rw [he] at c0
      have hstep : (xs.take (i + 1)).map (fun x => ((x, x) : Rg)) = (xs.take i).map (fun x => (x, x)) ++ [(xs[i], xs[i])] := by
        rw [List.take_succ_eq_append_getElem hlt, List.map_append]; rfl
      generalize xs[i] = x at *
      have hol : ((xs.take i).map fun x => ((x, x) : Rg)).length ≤ 100 := by simp; omega
      generalize (xs.take i).map (fun x => ((x, x) : Rg)) = out at *
      have hni : ((i : Int)).toNat = i := by omega
      have ti : (i : Int) < (xs.length : Int) := by omega
      obtain ⟨g1, g2⟩ := hxi
      have a1 : decide (x < -9007199254740992) = false := decide_eq_false (by omega)
      have a2 : decide (x > 9007199254740992) = false := decide_eq_false (by omega)
      have HB := Lib.hid (And.intro hb (And.intro hrow (And.intro hstep hcell)))
      obtain ⟨po, co, rfl⟩ := hrow.slice
      clear hb hrow hstep hcell he
      go_wp2_with (at_builtin; refine append_one rfl _ _ 42 rfl Try.underlying42 w.heap.size _ out rfl (HB.out.2.1.alloc _) (by omega) wr.heap.size 1 x x rfl (heap_alloc_new wr _) ?q1 ?_)
      case q1 => first | omega | (simp; omega)
      intro fv w6 hown6 hg6
      have HO := Lib.hid (And.intro hown6 hg6)
      clear hown6 hg6
      go_wp2_with fail
      refine ⟨⟨i + 1, by omega, by simp, ?_, app_below1 HB.out.1 HB.out.2.1 hsz HO.out.2⟩, by simp [intOf]; omega⟩
      rw [HB.out.2.2.1]
      exact HO.out.1
    · have ti : decide ((i : Int) < (xs.length : Int)) = false := decide_eq_false (by omega)
      have hi' : xs.take i = xs := List.take_of_length_le (by omega)
      rw [hi'] at hrow
      have HB := Lib.hid (And.intro hb hrow)
      have hj := fun w1 (h : RowR w.heap.size w1 u4 (xs.map fun x => ((x, x) : Rg))) (hz : w.heap.size ≤ w1.heap.size) => joined_any w.heap.size u4 (xs.map fun x => ((x, x) : Rg)) (fun r hr => by
        obtain ⟨x, hx', rfl⟩ := List.mem_map.1 hr
        exact ⟨hx x hx', hx x hx'⟩) (fun r hr => by obtain ⟨x, hx', rfl⟩ := List.mem_map.1 hr; exact Int.le_refl _) (by simp; omega) w1 h hz
      have HJ := Lib.hid hj
      clear hb hrow hi' hj
      go_wp2_with fail
      refine (HJ.out wr HB.out.2 hsz).mono ?_; rintro e w2 ⟨p2, c2, out, rfl, r2, k2, hok, hmem⟩
      have hmem' : ∀ n, Mem n out ↔ n ∈ xs := fun n => (hmem n).trans (mem_points xs n)
      have hsm : Small out := ⟨hok, within_of_mem hok fun n hm => hx n ((hmem' n).1 hm)⟩
      have hlim := fun w => limited_any p2 out.length c2 (by have := hsm.length; omega) w
      have HK := Lib.hid (And.intro r2 (And.intro k2 (And.intro hmem' hsm)))
      clear r2 k2 hok hmem hmem' hsm
      go_wp2_with fail
      refine (hlim _).mono ?_; rintro e w3 ⟨rfl, rfl⟩
      go_wp2_with fail
      go_ret2
      exact ⟨p2, c2, out, rfl, HK.out.1, HB.out.1.trans HK.out.2.1, HK.out.2.2.2, HK.out.2.2.1⟩

end Go.Proofs.Ytkcpnehhcpmdgaa
