/- outside and Without; no condition beyond those that stand there. -/
import Derived.Test.YtkcpnehhcpmdgaaIvRead
import Derived.Test.YtkcpnehhcpmdgaaIvApp
namespace Go.Proofs.Ytkcpnehhcpmdgaa
open Go.RowKit

theorem one_new (w : World) (o1 o2 : Obj) : ((w.alloc o1).alloc o2).heap[w.heap.size]? = some o1 := by
  rw [Below.heap_alloc _ _ _ (by simp)]
  show (w.heap.push o1)[w.heap.size]? = some o1
  simp
theorem two_new (w : World) (o1 o2 : Obj) : ((w.alloc o1).alloc o2).heap[w.heap.size + 1]? = some o2 := by
  rw [show w.heap.size + 1 = (w.alloc o1).heap.size from by simp]
  generalize w.alloc o1 = w
  show (w.heap.push o2)[w.heap.size]? = some o2
  simp
theorem app_below {b : Nat} {w wr w6 : World} {o1 o2 : Obj} {v : Value} {rs : List Rg} (hb : Below b w wr) (hrow : RowR b wr v rs) (hle : b ≤ wr.heap.size) (hg : ((wr.alloc o1).alloc o2).grownBy w6 v.ownBlock) : Below b w w6 :=
  ((hb.alloc hle _).alloc (by simp; omega) _).grown hg (by simp; omega) (fun k hk => hrow.lt k hk.symm)
theorem app_below1 {b : Nat} {w wr w6 : World} {o1 : Obj} {v : Value} {rs : List Rg} (hb : Below b w wr) (hrow : RowR b wr v rs) (hle : b ≤ wr.heap.size) (hg : (wr.alloc o1).grownBy w6 v.ownBlock) : Below b w w6 :=
  (hb.alloc hle _).grown hg (by simp; omega) (fun k hk => hrow.lt k hk.symm)
theorem outF_len (rs : List Rg) (lo hi : Int) (h : Ok rs) (h0 : -40 ≤ lo) (h1 : hi ≤ 40) : (outF rs lo hi).length ≤ 81 := by
  have := out_law rs lo hi h
  have hw : Within (-40) 40 (outF rs lo hi) := within_of_mem this.1 fun n hm => by have := (this.2 n).1 hm; omega
  have := ok_length _ (-40) 40 this.1 hw (by decide)
  omega

set_option maxRecDepth 100000 in
set_option maxHeartbeats 4000000 in
theorem outside_any (b : Nat) (v : Value) (rs : List Rg) (hs : Small rs) (lo hi : Int) (h0 : -40 ≤ lo) (h1 : lo ≤ 41) (h2 : hi ≤ 40) (h3 : -41 ≤ hi) (w : World) (h : RowR b w v rs) :
    Calls Try.prog 44 #[v, .int .i64 lo, .int .i64 hi] w fun e w' => ∃ p c, e = .returned (.slice p (outF rs lo hi).length c) ∧ RowR w.heap.size w' (.slice p (outF rs lo hi).length c) (outF rs lo hi) ∧ Below w.heap.size w w' := by
  obtain ⟨p, c, rfl⟩ := h.slice
  have hl := hs.length
  have hol := outF_len rs lo hi hs.1 h0 h2
  obtain ⟨res, hres⟩ : ∃ res, outF rs lo hi = res := ⟨_, rfl⟩
  rw [hres] at hol
  rw [hres]
  have HR := Lib.hid hres
  clear hres
  go_enter Try.func44, Try.ntmps44
  go_wp2_with fail
  go_loopw [12, 7, 1] (fun iv ov lv wr => ∃ (i : Nat) (out : List Rg) (l : Int), i ≤ rs.length ∧ iv = .int .i64 i ∧ lv = .int .i64 l ∧ out ++ outF (rs.drop i) l hi = res ∧ -40 ≤ l ∧ l ≤ 41 ∧ RowR w.heap.size wr ov out ∧ Below w.heap.size w wr) (fun iv _ _ _ => rs.length - (intOf iv).toNat)
  case atStart => exact ⟨0, [], lo, by omega, rfl, rfl, HR.out, h0, h1, RowR.nil _ _, Below.refl _ _⟩
  case round =>
    obtain ⟨i, out, l, hi', rfl, rfl, hn, hl0, hl1, hrow, hb⟩ := hrel
    have wi : IntKind.i64.wrap ((i : Int) + 1) = (i : Int) + 1 := IntWalk.i64_in _ ⟨by omega, by omega⟩
    have hsz := hb.size
    obtain ⟨po, co, rfl⟩ := hrow.slice
    have hlen : out.length ≤ 81 := by
      have := congrArg List.length hn
      rw [List.length_append] at this
      omega
    by_cases hlt : i < rs.length
    · obtain ⟨q, rfl, c0, c1, hq, -, -, hcc⟩ := h.cells i hlt
      have hg := hs.get i hlt
      rw [← hb.cell (show (⟨q, i * 2, none⟩ : Addr).block < w.heap.size from hq)] at c0
      rw [← hb.cell (show (⟨q, i * 2 + 1, none⟩ : Addr).block < w.heap.size from hq)] at c1
      have hni : ((i : Int)).toNat = i := by omega
      have ti : (i : Int) < (rs.length : Int) := by omega
      rw [List.drop_eq_getElem_cons hlt, outF] at hn
      generalize rs[i].1 = x at *
      generalize rs[i].2 = y at *
      obtain ⟨g1, g2, g3⟩ := hg
      have a1 : IntKind.i64.wrap (x - 1) = x - 1 := IntWalk.i64_in _ ⟨by omega, by omega⟩
      have a2 : IntKind.i64.wrap (y + 1) = y + 1 := IntWalk.i64_in _ ⟨by omega, by omega⟩
      have HB := Lib.hid (And.intro hb (And.intro hn hrow))
      clear hn hb hrow
      by_cases t1 : y < l
      · have d1 : decide (y < l) = true := decide_eq_true t1
        have hn := HB.out.2.1
        rw [if_pos t1] at hn
        have HN := Lib.hid hn
        clear hn
        go_wp2_with fail
        refine ⟨⟨i + 1, out, l, by omega, by simp, rfl, HN.out, hl0, hl1, HB.out.2.2.alloc _, HB.out.1.alloc hsz _⟩, by simp [intOf]; omega⟩
      · have d1 : decide (y < l) = false := decide_eq_false t1
        by_cases t2 : x > hi
        · have d2 : decide (x > hi) = true := decide_eq_true t2
          have hn := HB.out.2.1
          rw [if_neg t1, if_pos t2] at hn
          by_cases t3 : l ≤ hi
          · have d3 : decide (l ≤ hi) = true := decide_eq_true t3
            rw [if_pos t3] at hn
            have HN := Lib.hid hn
            clear hn
            go_wp2_with (at_builtin; refine append_one rfl _ _ 43 rfl Try.underlying43 w.heap.size _ out rfl ((HB.out.2.2.alloc _).alloc _) (by omega) (wr.heap.size + 1) 1 l hi rfl (two_new wr _ _) ?q1 ?_)
            case q1 => first | omega | (simp; omega)
            intro fv w6 hown6 hg6
            obtain ⟨p6, c6, rfl⟩ := hown6.slice
            have HO := Lib.hid (And.intro hown6 hg6)
            clear hown6 hg6
            go_wp2_with fail
            go_ret
            have k := HO.out.1
            rw [HN.out] at k
            rw [HN.out]
            exact ⟨p6, c6, rfl, k, app_below HB.out.1 HB.out.2.2 hsz HO.out.2⟩
          · have d3 : decide (l ≤ hi) = false := decide_eq_false t3
            rw [if_neg t3, List.append_nil] at hn
            have HN := Lib.hid hn
            clear hn
            go_wp2_with fail
            go_ret
            rw [← HN.out]
            exact ⟨po, co, rfl, HB.out.2.2.alloc _, HB.out.1.alloc hsz _⟩
        · have d2 : decide (x > hi) = false := decide_eq_false t2
          have hn := HB.out.2.1
          rw [if_neg t1, if_neg t2] at hn
          by_cases t3 : x > l
          · have d3 : decide (x > l) = true := decide_eq_true t3
            rw [if_pos t3] at hn
            have HN := Lib.hid hn
            clear hn
            go_wp2_with (at_builtin; refine append_one rfl _ _ 43 rfl Try.underlying43 w.heap.size _ out rfl ((HB.out.2.2.alloc _).alloc _) (by omega) (wr.heap.size + 1) 1 l (x - 1) rfl (two_new wr _ _) ?q1 ?_)
            case q1 => first | omega | (simp; omega)
            intro fv w6 hown6 hg6
            have b6 : w6.heap[wr.heap.size]? = some (.cells #[.int .i64 x, .int .i64 y] 77 (0, 0)) := by
              rw [hg6.block _ (by simp; omega) (fun he => ?_)]
              · exact one_new _ _ _
              · have := World.ownsRow.lt HB.out.2.2 _ he.symm; omega
            have g0 : w6.cell? ⟨wr.heap.size, 0, none⟩ = some (.int .i64 x) := by rw [Lib.cell_of_heap b6]; rfl
            have g1 : w6.cell? ⟨wr.heap.size, 1, none⟩ = some (.int .i64 y) := by rw [Lib.cell_of_heap b6]; rfl
            have HO := Lib.hid (And.intro hown6 hg6)
            clear hown6 hg6 b6
            go_wp2_with fail
            refine ⟨⟨i + 1, _, _, by omega, by simp, rfl, ?_, by omega, by omega, HO.out.1, app_below HB.out.1 HB.out.2.2 hsz HO.out.2⟩, by simp [intOf]; omega⟩
            rw [List.append_assoc]
            exact HN.out
          · have d3 : decide (x > l) = false := decide_eq_false t3
            rw [if_neg t3] at hn
            have HN := Lib.hid hn
            clear hn
            go_wp2_with fail
            refine ⟨⟨i + 1, out, _, by omega, by simp, rfl, HN.out, by omega, by omega, HB.out.2.2.alloc _, HB.out.1.alloc hsz _⟩, by simp [intOf]; omega⟩
    · have ti : decide ((i : Int) < (rs.length : Int)) = false := decide_eq_false (by omega)
      rw [List.drop_eq_nil_of_le (by omega), outF] at hn
      have HB := Lib.hid (And.intro hb (And.intro hn hrow))
      clear hb hrow hn
      by_cases t3 : l ≤ hi
      · have d3 : decide (l ≤ hi) = true := decide_eq_true t3
        have hn := HB.out.2.1
        rw [if_pos t3] at hn
        have HN := Lib.hid hn
        clear hn
        go_wp2_with (at_builtin; refine append_one rfl _ _ 43 rfl Try.underlying43 w.heap.size _ out rfl (HB.out.2.2.alloc _) (by omega) wr.heap.size 1 l hi rfl (heap_alloc_new wr _) ?q1 ?_)
        case q1 => first | omega | (simp; omega)
        intro fv w6 hown6 hg6
        obtain ⟨p6, c6, rfl⟩ := hown6.slice
        have HO := Lib.hid (And.intro hown6 hg6)
        clear hown6 hg6
        go_wp2_with fail
        go_ret
        have k := HO.out.1
        rw [HN.out] at k
        rw [HN.out]
        exact ⟨p6, c6, rfl, k, app_below1 HB.out.1 HB.out.2.2 hsz HO.out.2⟩
      · have d3 : decide (l ≤ hi) = false := decide_eq_false t3
        have hn := HB.out.2.1
        rw [if_neg t3, List.append_nil] at hn
        have HN := Lib.hid hn
        clear hn
        go_wp2_with fail
        go_ret
        rw [← HN.out]
        exact ⟨po, co, rfl, HB.out.2.2, HB.out.1⟩

end Go.Proofs.Ytkcpnehhcpmdgaa
