/- Without, Common and Minus; no condition beyond those that stand there. -/
import Derived.Laws.AppendOwnNone
import Derived.Test.YtkcpnehhcpmdgaaIvOut
namespace Go.Proofs.Ytkcpnehhcpmdgaa
open Go.RowKit

set_option maxRecDepth 100000 in
set_option maxHeartbeats 4000000 in
theorem without_any (b : Nat) (v : Value) (rs : List Rg) (hs : Small rs) (lo hi : Int) (h0 : -40 ≤ lo) (h1 : lo ≤ hi) (h2 : hi ≤ 40) (w : World) (h : RowR b w v rs) :
    Calls Try.prog 20 #[v, .int .i64 lo, .int .i64 hi] w fun e w' => ∃ p c, e = .returned (.tuple #[.slice p (outF rs lo hi).length c, .int .i64 0]) ∧ RowR w.heap.size w' (.slice p (outF rs lo hi).length c) (outF rs lo hi) ∧ Below w.heap.size w w' := by
  obtain ⟨p, c, rfl⟩ := h.slice
  have hol := outF_len rs lo hi hs.1 h0 h2
  have a1 : decide (lo < -9007199254740992) = false := decide_eq_false (by omega)
  have a2 : decide (hi > 9007199254740992) = false := decide_eq_false (by omega)
  have a3 : decide (lo > hi) = false := decide_eq_false (by omega)
  have hx := fun w1 (h : RowR b w1 (.slice p rs.length c) rs) => outside_any b _ rs hs lo hi h0 (by omega) h2 (by omega) w1 h
  have hchk := fun w1 (h : RowR b w1 (.slice p rs.length c) rs) => check_any b _ rs hs w1 h
  generalize outF rs lo hi = res at *
  have H := Lib.hid (And.intro h (And.intro hx hchk))
  clear hx hchk
  go_enter Try.func20, Try.ntmps20
  go_wp2_with fail
  refine (H.out.2.2 _ H.out.1).mono ?_; rintro e w1 ⟨rfl, k1⟩
  have h1' := H.out.1.below k1
  have K1 := Lib.hid (And.intro k1 h1')
  clear k1 h1'
  go_wp2_with fail
  refine (H.out.2.1 _ K1.out.2).mono ?_; rintro e w2 ⟨p2, c2, rfl, r2, k2⟩
  have K2 := Lib.hid (And.intro r2 k2)
  clear r2 k2
  have hlim := fun w => limited_any p2 res.length c2 (by omega) w
  go_wp2_with fail
  refine (hlim _).mono ?_; rintro e w3 ⟨rfl, rfl⟩
  go_wp2_with fail
  go_ret2
  exact ⟨p2, c2, rfl, K2.out.1.mono K1.out.1.size, K1.out.1.trans (K2.out.2.mono K1.out.1.size)⟩

theorem comF_nil (a b : List Rg) (h : a = [] ∨ b = []) : comF a b = [] := by
  rcases h with rfl | rfl
  · rw [comF]
  · cases a <;> rw [comF]
theorem small_com {a b : List Rg} (ha : Small a) (hb : Small b) : Small (comF a b) := by
  have h := com_law _ a b (Nat.le_refl _) ha.1 hb.1
  exact ⟨h.1, within_of_mem h.1 fun n hm => ha.2.mem ((h.2 n).1 hm).1⟩
theorem small_min {a b : List Rg} (ha : Small a) (hb : Small b) : Small (minF a b) := by
  have h := min_law b hb.1 a ha.1
  exact ⟨h.1, within_of_mem h.1 fun n hm => ha.2.mem ((h.2 n).1 hm).1⟩
theorem small_out {a : List Rg} (ha : Small a) (lo hi : Int) (h0 : -40 ≤ lo) (h1 : hi ≤ 40) : Small (outF a lo hi) := by
  have h := out_law a lo hi ha.1
  exact ⟨h.1, within_of_mem h.1 fun n hm => by have := (h.2 n).1 hm; omega⟩

set_option maxRecDepth 100000 in
set_option maxHeartbeats 4000000 in
theorem common_any (b b' : Nat) (v v' : Value) (rs ss : List Rg) (hs : Small rs) (hs' : Small ss) (w : World) (h : RowR b w v rs) (h' : RowR b' w v' ss) :
    Calls Try.prog 29 #[v, v'] w fun e w' => ∃ p c, e = .returned (.tuple #[.slice p (comF rs ss).length c, .int .i64 0]) ∧ RowR w.heap.size w' (.slice p (comF rs ss).length c) (comF rs ss) ∧ Below w.heap.size w w' := by
  obtain ⟨p, c, rfl⟩ := h.slice
  obtain ⟨p', c', rfl⟩ := h'.slice
  have hl := hs.length
  have hl' := hs'.length
  have hol := (small_com hs hs').length
  obtain ⟨res, hres⟩ : ∃ res, comF rs ss = res := ⟨_, rfl⟩
  rw [hres] at hol
  rw [hres]
  have HR := Lib.hid hres
  clear hres
  have H := Lib.hid (And.intro h h')
  clear h h'
  go_enter Try.func29, Try.ntmps29
  go_wp2_with fail
  refine (both_any b b' _ _ rs ss hs hs' w H.out.1 H.out.2).mono ?_; rintro e w1 ⟨rfl, k1⟩
  have HA := Lib.hid (And.intro (H.out.1.below k1) (And.intro (H.out.2.below k1) k1))
  clear k1
  have hz1 := HA.out.2.2.size
  go_wp2_with fail
  go_loopw [8, 9, 7] (fun iv jv ov wr => ∃ (i j : Nat) (out : List Rg), i ≤ rs.length ∧ j ≤ ss.length ∧ iv = .int .i64 i ∧ jv = .int .i64 j ∧ out ++ comF (rs.drop i) (ss.drop j) = res ∧ RowR w1.heap.size wr ov out ∧ Below w1.heap.size w1 wr) (fun iv jv _ _ => (rs.length - (intOf iv).toNat) + (ss.length - (intOf jv).toNat))
  case atStart => exact ⟨0, 0, [], by omega, by omega, rfl, rfl, HR.out, RowR.nil _ _, Below.refl _ _⟩
  case round =>
    obtain ⟨i, j, out, hi, hj, rfl, rfl, hn, hrow, hb⟩ := hrel
    have wi : IntKind.i64.wrap ((i : Int) + 1) = (i : Int) + 1 := IntWalk.i64_in _ ⟨by omega, by omega⟩
    have wj : IntKind.i64.wrap ((j : Int) + 1) = (j : Int) + 1 := IntWalk.i64_in _ ⟨by omega, by omega⟩
    have hsz := hb.size
    obtain ⟨po, co, rfl⟩ := hrow.slice
    have hlen : out.length ≤ 81 := by
      have := congrArg List.length hn
      rw [List.length_append] at this
      omega
    by_cases hlt : i < rs.length ∧ j < ss.length
    · obtain ⟨hlt, hlt'⟩ := hlt
      obtain ⟨q, rfl, c0, c1, hq, -, -, hcc⟩ := HA.out.1.cells i hlt
      obtain ⟨q', rfl, c0', c1', hq', -, -, hcc'⟩ := HA.out.2.1.cells j hlt'
      rw [← hb.cell (show (⟨q, i * 2, none⟩ : Addr).block < w1.heap.size from hq)] at c0
      rw [← hb.cell (show (⟨q, i * 2 + 1, none⟩ : Addr).block < w1.heap.size from hq)] at c1
      rw [← hb.cell (show (⟨q', j * 2, none⟩ : Addr).block < w1.heap.size from hq')] at c0'
      rw [← hb.cell (show (⟨q', j * 2 + 1, none⟩ : Addr).block < w1.heap.size from hq')] at c1'
      have hni : ((i : Int)).toNat = i := by omega
      have hnj : ((j : Int)).toNat = j := by omega
      have ti : (i : Int) < (rs.length : Int) := by omega
      have tj : (j : Int) < (ss.length : Int) := by omega
      have e1 := List.drop_eq_getElem_cons hlt
      have e2 := List.drop_eq_getElem_cons hlt'
      rw [e1, e2, comF] at hn
      generalize rs[i] = r at *
      generalize ss[j] = s at *
      obtain ⟨x, y⟩ := r
      obtain ⟨x', y'⟩ := s
      simp only [] at c0 c1 c0' c1' hn
      have HE := Lib.hid (And.intro e1 e2)
      clear e1 e2
      have HB := Lib.hid (And.intro hb (And.intro hn hrow))
      have hcell := fun (W : World) (hW : Below w1.heap.size w1 W) => (show W.cell? ⟨q, i * 2 + 1, none⟩ = some (.int .i64 y) ∧ W.cell? ⟨q', j * 2 + 1, none⟩ = some (.int .i64 y') from
        ⟨by rw [hW.cell (show (⟨q, i * 2 + 1, none⟩ : Addr).block < w1.heap.size from hq), ← hb.cell (show (⟨q, i * 2 + 1, none⟩ : Addr).block < w1.heap.size from hq)]; exact c1, by rw [hW.cell (show (⟨q', j * 2 + 1, none⟩ : Addr).block < w1.heap.size from hq'), ← hb.cell (show (⟨q', j * 2 + 1, none⟩ : Addr).block < w1.heap.size from hq')]; exact c1'⟩)
      have HC := Lib.hid hcell
      clear hn hb hrow hcell
      go_wp2_with fail
      go_quiet (fail)
      have em : (if x < x' then x' else x) = max x x' := by split <;> omega
      have en : (if y' < y then y' else y) = min y y' := by split <;> omega
      rw [em, en]
      have hn := HB.out.2.1
      clear em en
      generalize max x x' = lo at hn ⊢
      generalize min y y' = hi at hn ⊢
      have HN := Lib.hid hn
      clear hn
      by_cases t1 : lo ≤ hi
      · have d1 : decide (lo ≤ hi) = true := decide_eq_true t1
        have hn := HN.out
        rw [if_pos t1] at hn
        have HM := Lib.hid hn
        clear hn
        go_wp2_with (at_builtin; refine append_one rfl _ _ 43 rfl Try.underlying43 w1.heap.size _ out rfl (RowR.alloc (show RowR w1.heap.size (wr.drewN nq) _ out from HB.out.2.2) _) (by omega) wr.heap.size 1 lo hi rfl (heap_alloc_new (wr.drewN nq) _) ?q1 ?_)
        case q1 => first | omega | (simp; omega)
        intro fv w6 hown6 hg6
        have hb6 := app_below1 (below_drewN HB.out.1 nq) (show RowR w1.heap.size (wr.drewN nq) _ out from HB.out.2.2) hsz hg6
        obtain ⟨g0, g1⟩ := HC.out w6 hb6
        have HO := Lib.hid (And.intro hown6 hb6)
        clear hown6 hg6 hb6
        by_cases t2 : y < y'
        · have d2 : decide (y < y') = true := decide_eq_true t2
          go_wp2_with fail
          go_quiet (fail)
          go_wp2_with fail
          have hn := HM.out
          rw [if_pos t2, ← List.append_assoc, ← HE.out.2] at hn
          refine ⟨⟨i + 1, j, _, by omega, by omega, by simp, rfl, hn, HO.out.1, below_drewN HO.out.2 _⟩, by simp [intOf]; omega⟩
        · have d2 : decide (y < y') = false := decide_eq_false t2
          go_wp2_with fail
          go_quiet (fail)
          go_wp2_with fail
          have hn := HM.out
          rw [if_neg (by omega), ← List.append_assoc, ← HE.out.1] at hn
          refine ⟨⟨i, j + 1, _, by omega, by omega, rfl, by simp, hn, HO.out.1, below_drewN HO.out.2 _⟩, by simp [intOf]; omega⟩
      · have d1 : decide (lo ≤ hi) = false := decide_eq_false t1
        have hn := HN.out
        rw [if_neg (by omega), List.nil_append] at hn
        have HM := Lib.hid hn
        clear hn
        by_cases t2 : y < y'
        · have d2 : decide (y < y') = true := decide_eq_true t2
          go_wp2_with fail
          go_quiet (fail)
          go_wp2_with fail
          have hn := HM.out
          rw [if_pos t2, ← HE.out.2] at hn
          refine ⟨⟨i + 1, j, _, by omega, by omega, by simp, rfl, hn, HB.out.2.2, below_drewN HB.out.1 _⟩, by simp [intOf]; omega⟩
        · have d2 : decide (y < y') = false := decide_eq_false t2
          go_wp2_with fail
          go_quiet (fail)
          go_wp2_with fail
          have hn := HM.out
          rw [if_neg (by omega), ← HE.out.1] at hn
          refine ⟨⟨i, j + 1, _, by omega, by omega, rfl, by simp, hn, HB.out.2.2, below_drewN HB.out.1 _⟩, by simp [intOf]; omega⟩
    · have htc : decide (i < rs.length) = false ∨ (decide (i < rs.length) = true ∧ decide (j < ss.length) = false) := by
        by_cases h1 : i < rs.length
        · exact Or.inr ⟨decide_eq_true (by omega), decide_eq_false (by omega)⟩
        · exact Or.inl (decide_eq_false (by omega))
      have hn' : out = res := by
        rw [comF_nil, List.append_nil] at hn
        · exact hn
        · by_cases h1 : i < rs.length
          · exact Or.inr (List.drop_eq_nil_of_le (by omega))
          · exact Or.inl (List.drop_eq_nil_of_le (by omega))
      have HB := Lib.hid (And.intro hb (And.intro hn' hrow))
      have hlim := fun w => limited_any po out.length co (by omega) w
      clear hn hb hrow hn'
      clear hlt
      rcases htc with t1 | ⟨t1, t2⟩
      · go_wp2_with fail
        all_goals
          refine (hlim _).mono ?_; rintro e w3 ⟨rfl, rfl⟩
          go_wp2_with fail
          go_ret2
          rw [← HB.out.2.1]
          exact ⟨po, co, rfl, HB.out.2.2.mono hz1, HA.out.2.2.trans (HB.out.1.mono hz1)⟩
      · go_wp2_with fail
        all_goals
          refine (hlim _).mono ?_; rintro e w3 ⟨rfl, rfl⟩
          go_wp2_with fail
          go_ret2
          rw [← HB.out.2.1]
          exact ⟨po, co, rfl, HB.out.2.2.mono hz1, HA.out.2.2.trans (HB.out.1.mono hz1)⟩

set_option maxRecDepth 100000 in
set_option maxHeartbeats 4000000 in
theorem minus_any (b b' : Nat) (v v' : Value) (rs ss : List Rg) (hs : Small rs) (hs' : Small ss) (w : World) (h : RowR b w v rs) (h' : RowR b' w v' ss) :
    Calls Try.prog 30 #[v, v'] w fun e w' => ∃ p c, e = .returned (.tuple #[.slice p (minF rs ss).length c, .int .i64 0]) ∧ RowR w.heap.size w' (.slice p (minF rs ss).length c) (minF rs ss) ∧ Below w.heap.size w w' := by
  obtain ⟨p, c, rfl⟩ := h.slice
  obtain ⟨p', c', rfl⟩ := h'.slice
  have hl := hs.length
  have hl' := hs'.length
  have hol := (small_min hs hs').length
  obtain ⟨res, hres⟩ : ∃ res, minF rs ss = res := ⟨_, rfl⟩
  rw [hres] at hol
  rw [hres]
  have HR := Lib.hid hres
  clear hres
  have H := Lib.hid (And.intro h h')
  clear h h'
  go_enter Try.func30, Try.ntmps30
  go_wp2_with fail
  refine (both_any b b' _ _ rs ss hs hs' w H.out.1 H.out.2).mono ?_; rintro e w1 ⟨rfl, k1⟩
  have HA := Lib.hid (And.intro (H.out.1.below k1) (And.intro (H.out.2.below k1) k1))
  clear k1
  have hz1 := HA.out.2.2.size
  go_wp2_with fail
  go_loopw [18, 7] (fun iv ov wr => ∃ (i : Nat) (out : List Rg), i ≤ rs.length ∧ iv = .int .i64 i ∧ out ++ minF (rs.drop i) ss = res ∧ RowR w1.heap.size wr ov out ∧ Below w1.heap.size w1 wr) (fun iv _ _ => rs.length - (intOf iv).toNat)
  case atStart => exact ⟨0, [], by omega, rfl, HR.out, RowR.nil _ _, Below.refl _ _⟩
  case round =>
    obtain ⟨i, out, hi, rfl, hn, hrow, hb⟩ := hrel
    have wi : IntKind.i64.wrap ((i : Int) + 1) = (i : Int) + 1 := IntWalk.i64_in _ ⟨by omega, by omega⟩
    have hsz := hb.size
    obtain ⟨po, co, rfl⟩ := hrow.slice
    have hlen : out.length ≤ 81 := by
      have := congrArg List.length hn
      rw [List.length_append] at this
      omega
    by_cases hlt : i < rs.length
    · obtain ⟨q, rfl, c0, c1, hq, -, -, hcc⟩ := HA.out.1.cells i hlt
      have hg := hs.get i hlt
      rw [← hb.cell (show (⟨q, i * 2, none⟩ : Addr).block < w1.heap.size from hq)] at c0
      rw [← hb.cell (show (⟨q, i * 2 + 1, none⟩ : Addr).block < w1.heap.size from hq)] at c1
      have hni : ((i : Int)).toNat = i := by omega
      have ti : (i : Int) < (rs.length : Int) := by omega
      have e1 := List.drop_eq_getElem_cons hlt
      rw [e1, show ∀ (r : Rg) l, minF (r :: l) ss = outF ss r.1 r.2 ++ minF l ss from fun _ _ => rfl] at hn
      generalize rs[i] = r at *
      obtain ⟨x, y⟩ := r
      simp only [] at c0 c1 hn hg
      obtain ⟨g1, g2, g3⟩ := hg
      have hout := fun w2 (h : RowR b' w2 (.slice p' ss.length c') ss) => outside_any b' _ ss hs' x y g1 (by omega) g3 (by omega) w2 h
      have hol2 := outF_len ss x y hs'.1 g1 g3
      generalize outF ss x y = o2 at *
      have HB := Lib.hid (And.intro hb (And.intro hn (And.intro hrow hout)))
      clear hn hb hrow hout e1
      go_wp2_with fail
      have hba := HB.out.1.alloc hsz (.cells #[.int .i64 x, .int .i64 y] 77 (0, 0))
      refine (HB.out.2.2.2 _ (HA.out.2.1.below hba)).mono ?_; rintro e w2 ⟨p2, c2, rfl, r2, k2⟩
      have hb2 : Below w1.heap.size w1 w2 := hba.trans (k2.mono (by simp; omega))
      have hr2 : RowR w1.heap.size w2 (.slice po out.length co) out := (HB.out.2.2.1.alloc _).below k2
      have hz2 := hb2.size
      have hn := HB.out.2.1
      rcases r2.2 with ⟨hv, h0⟩ | ⟨g, cap, cur, hv, hgb, hh, hcl, -⟩
      · obtain rfl : o2 = [] := List.eq_nil_of_length_eq_zero h0
        simp only [Value.slice.injEq] at hv
        obtain ⟨rfl, -, rfl⟩ := hv
        obtain ⟨i0, hi0, -⟩ := rg_info
        rw [List.nil_append] at hn
        have HO := Lib.hid (And.intro hn (And.intro hr2 hb2))
        clear hn hr2 hb2 hba r2 k2
        go_wp2_with (at_builtin; refine wpList_append_own_none rfl _ _ 43 rfl w1.heap.size 77 i0 2 Try.underlying43 hi0 _ out.length (cellsR out) rfl ?q1 rfl ?_)
        case q1 => exact HO.out.2.1
        go_wp2_with fail
        refine ⟨⟨i + 1, out, by omega, by simp, HO.out.1, HO.out.2.1, HO.out.2.2⟩, by simp [intOf]; omega⟩
      · simp only [Value.slice.injEq] at hv
        obtain ⟨rfl, -, rfl⟩ := hv
        have hcells : ∀ j u, (cellsR o2)[j]? = some u → w2.cell? ((⟨g, 0, none⟩ : Addr).add j) = some u := by
          intro j u hj
          have hjl := (List.getElem?_eq_some_iff.1 hj).1
          rw [cellsR_length] at hjl
          have := World.ownsRow.cellAt r2 j hjl
          rw [show (⟨g, 0, none⟩ : Addr).add j = ⟨g, j, none⟩ from (by unfold Addr.add; split <;> simp_all), this, hj]
        have HO := Lib.hid (And.intro hn (And.intro hr2 (And.intro hb2 hcells)))
        clear hn hr2 hb2 hba r2 k2 hcells
        go_wp2_with (at_builtin; refine append_rg rfl _ _ 43 rfl Try.underlying43 w1.heap.size _ out rfl HO.out.2.1 (by omega) ⟨g, 0, none⟩ o2.length c2 o2 rfl rfl (by omega) HO.out.2.2.2 ?q1 ?_)
        case q1 => omega
        intro fv w6 hown6 hg6
        have hb6 : Below w1.heap.size w1 w6 := HO.out.2.2.1.grown hg6 hz2 (fun k hk => HO.out.2.1.lt k hk.symm)
        have HP := Lib.hid (And.intro hown6 hb6)
        clear hown6 hg6 hb6
        go_wp2_with fail
        refine ⟨⟨i + 1, _, by omega, by simp, ?_, HP.out.1, HP.out.2⟩, by simp [intOf]; omega⟩
        rw [List.append_assoc]
        exact HO.out.1
    · have ti : decide ((i : Int) < (rs.length : Int)) = false := decide_eq_false (by omega)
      have hn' : out = res := by
        rw [List.drop_eq_nil_of_le (by omega)] at hn
        simpa [minF] using hn
      have HB := Lib.hid (And.intro hb (And.intro hn' hrow))
      have hlim := fun w => limited_any po out.length co (by omega) w
      clear hn hb hrow hn'
      go_wp2_with fail
      refine (hlim _).mono ?_; rintro e w3 ⟨rfl, rfl⟩
      go_wp2_with fail
      go_ret2
      rw [← HB.out.2.1]
      exact ⟨po, co, rfl, HB.out.2.2.mono hz1, HA.out.2.2.trans (HB.out.1.mono hz1)⟩

end Go.Proofs.Ytkcpnehhcpmdgaa
