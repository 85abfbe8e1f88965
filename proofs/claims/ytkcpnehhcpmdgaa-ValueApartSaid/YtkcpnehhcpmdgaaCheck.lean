/- value.keys, fields, node, Check; no condition beyond those that stand there. -/
import Derived.Deep.RegionHeld3
import Derived.Deep.RegionLaw
import Derived.Test.YtkcpnehhcpmdgaaNames
import Derived.Test.YtkcpnehhcpmdgaaValueParts
namespace Go.Proofs.Ytkcpnehhcpmdgaa
open Go.RowKit

theorem below_drew {n : Nat} {w w' : World} (h : Below n w w') : Below n w w'.drew := ⟨h.os, h.tape, h.output, h.size, h.block⟩
theorem take_at {P : Program} {md : Region.Mode} {ops : Array Oper} {Q : Exit → Act → World → Prop} {S : World → Prop} (i d : Nat) (v : Value) {oi : Oper} {fuel : Nat} {listed : Array Bool} {a : Act} {w : World} (hi : ops[i]? = some oi) (hd : oi.dst = some d)
    (hs : Region.noSelect ops = true) (hf : Region.free md ops listed i = true) (hr : (Region.ready md ops listed).contains i = true)
    (hQ : ∀ c a w, Q (.panic c) (a.put (some d) v) w → Q (.panic c) a w) (hy : YieldsIf P ops S oi v a) (hS : S w)
    (h : wpAnyH P md ops Q S fuel (listed.setIfInBounds i true) (a.put (some d) v) w) : wpAnyH P md ops Q S (fuel + 1) listed a w :=
  wpAnyH_take hi hs hf hr (hd ▸ hQ) hy hS (hd ▸ h)
set_option maxRecDepth 100000 in
set_option maxHeartbeats 2000000 in
theorem keys_list (n : Int) (s : ByteArray) (a : Option Addr) (ns : List ByteArray) (c : Nat) (w : World) (hic : ns.length ≤ c) (hc : c ≤ 9223372036854775807) (hf : Fds a ns w) (hn : ∀ i, i < ns.length → ns.getD i ⟨#[]⟩ = ⟨#[]⟩) :
    Calls Try.prog 73 #[.agg #[.int .i64 8, .int .i64 n, .string s, .slice a ns.length c]] w fun e w' => e = .returned (.int .i64 0) ∧ Below w.heap.size w w' := by
  have hb := (Below.refl w.heap.size w).alloc (Nat.le_refl _) (.cells #[.int .i64 8, .int .i64 n, .string s, .slice a ns.length c] 25 (0, 0))
  have hv : (w.alloc (.cells #[.int .i64 8, .int .i64 n, .string s, .slice a ns.length c] 25 (0, 0))).heap[w.heap.size]? = some (.cells #[.int .i64 8, .int .i64 n, .string s, .slice a ns.length c] 25 (0, 0)) := heap_alloc_new w _
  have HI := Lib.hid (And.intro (hf.below hb) (And.intro hn (And.intro hb hv)))
  clear hf hn hb hv
  go_enter Try.func73, Try.ntmps73
  go_wp2_with fail
  have hz : (w.alloc (.cells #[.int .i64 8, .int .i64 n, .string s, .slice a ns.length c] 25 (0, 0))).heap.size = w.heap.size + 1 := by simp
  generalize w.alloc (.cells #[.int .i64 8, .int .i64 n, .string s, .slice a ns.length c] 25 (0, 0)) = W at *
  go_loopw [8] (fun iv wr => ∃ i : Nat, iv = .int .i64 i ∧ i ≤ ns.length ∧ Below W.heap.size W wr) (fun iv _ => ns.length - (intOf iv).toNat)
  case atStart => exact ⟨0, rfl, Nat.zero_le _, Below.refl _ _⟩
  case round =>
    obtain ⟨i, rfl, hi, hb⟩ := hrel
    by_cases hlt : i < ns.length
    · have ti : (i : Int) < (ns.length : Int) := by omega
      have wi : IntKind.i64.wrap ((i : Int) + 1) = (i : Int) + 1 := IntWalk.i64_in _ ⟨by omega, by omega⟩
      have hni : ((i : Int)).toNat = i := by omega
      have hV := (hb.block _ (by omega)).trans HI.out.2.2.2
      obtain ⟨⟨v0, v1, v2, v3⟩, -⟩ := cells4 hV
      have g0 := fun o => Lib.cell?_alloc_some (W := wr) o v0
      have g3 := fun o => Lib.cell?_alloc_some (W := wr) o v3
      obtain ⟨b, kk, nn, ss, pa, pl, pc, rfl, e2, y0, y1, y2, y3, y4⟩ := (HI.out.1.below hb) i hlt
      rw [HI.out.2.1 i hlt] at y0
      have HB := Lib.hid (hb.trans (((Below.refl wr.heap.size wr).alloc (Nat.le_refl _) (.cells #[.string ⟨#[]⟩, .int .i64 kk, .int .i64 nn, .string ss, .slice pa pl pc] 33 (0, 0))).mono hb.size))
      clear hb hV
      go_wp2_with fail
      exact ⟨⟨i + 1, by simp, by omega, HB.out⟩, by simp [intOf]; omega⟩
    · have ti : decide ((i : Int) < (ns.length : Int)) = false := decide_eq_false (by omega)
      go_wp2_with fail
      go_ret
      exact ⟨rfl, HI.out.2.2.1.trans (hb.mono (by omega))⟩

theorem letters_down (at_ i : Nat) (h : at_ + i ≤ 100) (hi : 0 < i) : Op.bytesLess (⟨#[UInt8.ofNat (97 + at_ + i)]⟩ : ByteArray).toList (⟨#[UInt8.ofNat (97 + at_ + (i - 1))]⟩ : ByteArray).toList = false ∧ ((⟨#[UInt8.ofNat (97 + at_ + i)]⟩ : ByteArray).toList == (⟨#[UInt8.ofNat (97 + at_ + (i - 1))]⟩ : ByteArray).toList) = false := by
  obtain ⟨m, rfl⟩ : ∃ m, i = m + 1 := ⟨i - 1, by omega⟩
  rw [ByteArray.toList_eq, ByteArray.toList_eq, Nat.add_sub_cancel]
  obtain ⟨x, hx⟩ : ∃ x, x = 97 + at_ + m := ⟨_, rfl⟩
  rw [show 97 + at_ + (m + 1) = x + 1 by omega, ← hx]
  have hne : UInt8.ofNat (x + 1) ≠ UInt8.ofNat x := fun e => by
    have := congrArg UInt8.toNat e
    simp at this
    omega
  have hlt : ¬ UInt8.ofNat (x + 1) < UInt8.ofNat x := fun e => by
    have := UInt8.lt_iff_toNat_lt.1 e
    simp at this
    omega
  constructor
  · show (decide (UInt8.ofNat (x + 1) < UInt8.ofNat x) || ((UInt8.ofNat (x + 1) == UInt8.ofNat x) && Op.bytesLess [] [])) = false
    rw [decide_eq_false hlt, beq_eq_false_iff_ne.2 hne]
    rfl
  · show ((UInt8.ofNat (x + 1) == UInt8.ofNat x) && true) = false
    rw [beq_eq_false_iff_ne.2 hne]
    rfl
set_option maxRecDepth 100000 in
set_option maxHeartbeats 2000000 in
theorem keys_map (n : Int) (s : ByteArray) (a : Option Addr) (ns : List ByteArray) (c at_ : Nat) (w : World) (hat : at_ ≤ 6) (hl : ns.length ≤ 4) (hf : Fds a ns w) (hn : ∀ i, i < ns.length → ns.getD i ⟨#[]⟩ = ⟨#[UInt8.ofNat (97 + at_ + i)]⟩) :
    Calls Try.prog 73 #[.agg #[.int .i64 9, .int .i64 n, .string s, .slice a ns.length c]] w fun e w' => e = .returned (.int .i64 0) ∧ Below w.heap.size w w' := by
  have hb := (Below.refl w.heap.size w).alloc (Nat.le_refl _) (.cells #[.int .i64 9, .int .i64 n, .string s, .slice a ns.length c] 25 (0, 0))
  have hv : (w.alloc (.cells #[.int .i64 9, .int .i64 n, .string s, .slice a ns.length c] 25 (0, 0))).heap[w.heap.size]? = some (.cells #[.int .i64 9, .int .i64 n, .string s, .slice a ns.length c] 25 (0, 0)) := heap_alloc_new w _
  have HI := Lib.hid (And.intro (hf.below hb) (And.intro hn (And.intro hb hv)))
  clear hf hn hb hv
  go_enter Try.func73, Try.ntmps73
  go_wp2_with fail
  have hz : (w.alloc (.cells #[.int .i64 9, .int .i64 n, .string s, .slice a ns.length c] 25 (0, 0))).heap.size = w.heap.size + 1 := by simp
  generalize w.alloc (.cells #[.int .i64 9, .int .i64 n, .string s, .slice a ns.length c] 25 (0, 0)) = W at *
  go_loopw [8] (fun iv wr => ∃ i : Nat, iv = .int .i64 i ∧ i ≤ ns.length ∧ Below W.heap.size W wr) (fun iv _ => ns.length - (intOf iv).toNat)
  case atStart => exact ⟨0, rfl, Nat.zero_le _, Below.refl _ _⟩
  case round =>
    obtain ⟨i, rfl, hi, hb⟩ := hrel
    by_cases hlt : i < ns.length
    · have ti : (i : Int) < (ns.length : Int) := by omega
      have wi : IntKind.i64.wrap ((i : Int) + 1) = (i : Int) + 1 := IntWalk.i64_in _ ⟨by omega, by omega⟩
      have hni : ((i : Int)).toNat = i := by omega
      have hV := (hb.block _ (by omega)).trans HI.out.2.2.2
      obtain ⟨⟨v0, v1, v2, v3⟩, -⟩ := cells4 hV
      have g0 := fun o => Lib.cell?_alloc_some (W := wr) o v0
      have g3 := fun o => Lib.cell?_alloc_some (W := wr) o v3
      obtain ⟨b, kk, nn, ss, pa, pl, pc, rfl, e2, y0, y1, y2, y3, y4⟩ := (HI.out.1.below hb) i hlt
      have hy := HI.out.2.1 i hlt
      have tsz : decide (4000 < ((ns.getD i ⟨#[]⟩).size : Int)) = false := by rw [hy]; rfl
      have hcmp : 0 < i → Op.bytesLess (ns.getD i ⟨#[]⟩).toList (ns.getD (i - 1) ⟨#[]⟩).toList = false ∧ ((ns.getD i ⟨#[]⟩).toList == (ns.getD (i - 1) ⟨#[]⟩).toList) = false := fun h0 => by
        rw [hy, HI.out.2.1 (i - 1) (by omega)]
        exact letters_down at_ i (by omega) h0
      have hprev : 0 < i → ∃ b', some (⟨b, 0, none⟩ : Addr) = some ⟨b', 0, none⟩ ∧ wr.cell? ⟨b', (i - 1) * 5, none⟩ = some (.string (ns.getD (i - 1) ⟨#[]⟩)) := fun h0 => by
        obtain ⟨b', kk', nn', ss', pa', pl', pc', e, e2', x0, x1, x2, x3, x4⟩ := (HI.out.1.below hb) (i - 1) (by omega)
        exact ⟨b', e, x0⟩
      clear hy
      generalize ns.getD i ⟨#[]⟩ = y at *
      generalize ns.getD (i - 1) ⟨#[]⟩ = z at *
      have hA := heap_alloc_new wr (.cells #[.string y, .int .i64 kk, .int .i64 nn, .string ss, .slice pa pl pc] 33 (0, 0))
      obtain ⟨r0, -⟩ := cells5 hA
      have HB := Lib.hid (hb.trans (((Below.refl wr.heap.size wr).alloc (Nat.le_refl _) (.cells #[.string y, .int .i64 kk, .int .i64 nn, .string ss, .slice pa pl pc] 33 (0, 0))).mono hb.size))
      have hbR : b ≠ wr.heap.size := by omega
      clear hb hV hA
      rcases Nat.eq_zero_or_pos i with h0 | h0
      · subst h0
        clear hcmp hprev
        go_upto_region 9 with fail
        refine wp_region_noPanic ?_
        refine wp_region_held_drew (S := fun _ => True) (by kernel_rfl) trivial (fun hHeld => ?_)
        refine take_at 0 32 ?_ rfl rfl (by decide +kernel) (by decide +kernel) (by decide +kernel) (fun _ _ _ h => h) (Or.inl ⟨by rfl, ?hy⟩) trivial ?_
        case hy => ((intro w hSw; go_simp); (try with_reducible rfl))
        simp only [Act.put, List.setIfInBounds_toArray, List.set_cons_zero, List.set_cons_succ]
        refine take_at 1 33 ?_ rfl rfl (by decide +kernel) (by decide +kernel) (by decide +kernel) (fun _ _ _ h => h) (Or.inl ⟨by rfl, ?hy⟩) trivial ?_
        case hy => ((intro w hSw; go_simp); (try with_reducible rfl))
        simp only [Act.put, List.setIfInBounds_toArray, List.set_cons_zero, List.set_cons_succ]
        refine take_at 2 34 ?_ rfl rfl (by decide +kernel) (by decide +kernel) (by decide +kernel) (fun _ _ _ h => h) (Or.inl ⟨by rfl, ?hy⟩) trivial ?_
        case hy => ((intro w hSw; go_simp); (try with_reducible rfl))
        simp only [Act.put, List.setIfInBounds_toArray, List.set_cons_zero, List.set_cons_succ]
        refine take_at 3 35 undef rfl rfl (by decide +kernel) (by decide +kernel) (by decide +kernel) (fun _ _ _ h => h) (Or.inr ⟨by rfl, rfl⟩) trivial ?_
        simp only [Act.put, List.setIfInBounds_toArray, List.set_cons_zero, List.set_cons_succ]
        refine take_at 4 36 undef rfl rfl (by decide +kernel) (by decide +kernel) (by decide +kernel) (fun _ _ _ h => h) (Or.inr ⟨by rfl, rfl⟩) trivial ?_
        simp only [Act.put, List.setIfInBounds_toArray, List.set_cons_zero, List.set_cons_succ]
        refine take_at 5 37 undef rfl rfl (by decide +kernel) (by decide +kernel) (by decide +kernel) (fun _ _ _ h => h) (Or.inr ⟨by rfl, rfl⟩) trivial ?_
        simp only [Act.put, List.setIfInBounds_toArray, List.set_cons_zero, List.set_cons_succ]
        refine take_at 6 38 undef rfl rfl (by decide +kernel) (by decide +kernel) (by decide +kernel) (fun _ _ _ h => h) (Or.inr ⟨by rfl, rfl⟩) trivial ?_
        simp only [Act.put, List.setIfInBounds_toArray, List.set_cons_zero, List.set_cons_succ]
        refine take_at 7 39 undef rfl rfl (by decide +kernel) (by decide +kernel) (by decide +kernel) (fun _ _ _ h => h) (Or.inr ⟨by rfl, rfl⟩) trivial ?_
        simp only [Act.put, List.setIfInBounds_toArray, List.set_cons_zero, List.set_cons_succ]
        refine take_at 8 40 undef rfl rfl (by decide +kernel) (by decide +kernel) (by decide +kernel) (fun _ _ _ h => h) (Or.inr ⟨by rfl, rfl⟩) trivial ?_
        simp only [Act.put, List.setIfInBounds_toArray, List.set_cons_zero, List.set_cons_succ]
        refine take_at 9 41 undef rfl rfl (by decide +kernel) (by decide +kernel) (by decide +kernel) (fun _ _ _ h => h) (Or.inr ⟨by rfl, rfl⟩) trivial ?_
        simp only [Act.put, List.setIfInBounds_toArray, List.set_cons_zero, List.set_cons_succ]
        refine take_at 10 42 undef rfl rfl (by decide +kernel) (by decide +kernel) (by decide +kernel) (fun _ _ _ h => h) (Or.inr ⟨by rfl, rfl⟩) trivial ?_
        simp only [Act.put, List.setIfInBounds_toArray, List.set_cons_zero, List.set_cons_succ]
        refine take_at 11 43 undef rfl rfl (by decide +kernel) (by decide +kernel) (by decide +kernel) (fun _ _ _ h => h) (Or.inr ⟨by rfl, rfl⟩) trivial ?_
        simp only [Act.put, List.setIfInBounds_toArray, List.set_cons_zero, List.set_cons_succ]
        refine take_at 12 44 undef rfl rfl (by decide +kernel) (by decide +kernel) (by decide +kernel) (fun _ _ _ h => h) (Or.inr ⟨by rfl, rfl⟩) trivial ?_
        simp only [Act.put, List.setIfInBounds_toArray, List.set_cons_zero, List.set_cons_succ]
        refine take_at 13 45 ?_ rfl rfl (by decide +kernel) (by decide +kernel) (by decide +kernel) (fun _ _ _ h => h) (Or.inl ⟨by rfl, ?hy⟩) trivial ?_
        case hy => ((intro w hSw; go_simp); (try with_reducible rfl))
        simp only [Act.put, List.setIfInBounds_toArray, List.set_cons_zero, List.set_cons_succ]
        refine take_at 14 31 ?_ rfl rfl (by decide +kernel) (by decide +kernel) (by decide +kernel) (fun _ _ _ h => h) (Or.inl ⟨by rfl, ?hy⟩) trivial ?_
        case hy => ((intro w hSw; go_simp); (try with_reducible rfl))
        simp only [Act.put, List.setIfInBounds_toArray, List.set_cons_zero, List.set_cons_succ]
        refine wpAnyH_done (by decide +kernel) ?_ _
        refine NoPanic.normal ?_
        all_goals
          go_wp2_with fail
          exact ⟨⟨0 + 1, by simp, by omega, below_drew HB.out⟩, by simp [intOf]; omega⟩
      · obtain ⟨t1, t2⟩ := hcmp h0
        obtain ⟨_, e, x0⟩ := hprev h0
        cases e
        have h0I : (0 : Int) < (i : Int) := by omega
        have wi1 : IntKind.i64.wrap ((i : Int) - 1) = ((i - 1 : Nat) : Int) := by rw [IntWalk.i64_in _ ⟨by omega, by omega⟩]; omega
        have i1 : ((i - 1 : Nat) : Int) < (ns.length : Int) := by omega
        have x0' := Lib.cell?_alloc_some (W := wr) (.cells #[.string y, .int .i64 kk, .int .i64 nn, .string ss, .slice pa pl pc] 33 (0, 0)) x0
        have v3' := g3 (.cells #[.string y, .int .i64 kk, .int .i64 nn, .string ss, .slice pa pl pc] 33 (0, 0))
        clear hcmp hprev
        go_upto_region 9 with fail
        go_region_held3 (fun w' => w'.cell? ⟨wr.heap.size, 0, none⟩ = some (.string y) ∧ w'.cell? ⟨w.heap.size, 3, none⟩ = some (.slice (some ⟨b, 0, none⟩) ns.length c) ∧ w'.cell? ⟨b, (i - 1) * 5, none⟩ = some (.string z)) (exact ⟨r0, v3', x0'⟩) (fail)
        all_goals
          go_wp2_with fail
          exact ⟨⟨i + 1, by simp, by omega, below_drew HB.out⟩, by simp [intOf]; omega⟩
    · have ti : decide ((i : Int) < (ns.length : Int)) = false := decide_eq_false (by omega)
      go_wp2_with fail
      go_ret
      exact ⟨rfl, HI.out.2.2.1.trans (hb.mono (by omega))⟩

theorem names_len {k : Int} {ns : List ByteArray} (h : NamesOk k ns) : ns.length ≤ 4 := by
  rcases h with ⟨_, _, h⟩ | ⟨_, hl, _⟩ | ⟨_, y, h, _⟩ | ⟨_, hl, _⟩ | ⟨_, hl, _⟩
  · rw [h]; decide
  · exact hl
  · rw [h]; exact (by decide : (1 : Nat) ≤ 4)
  · exact hl
  · exact hl
theorem names_all {k : Int} {ns : List ByteArray} (h : NamesOk k ns) (hk : k = 6 ∨ k = 7) : (∀ i, i < ns.length → NmOk (ns.getD i ⟨#[]⟩)) ∧ ∀ i j, i < ns.length → j < i → ns.getD j ⟨#[]⟩ ≠ ns.getD i ⟨#[]⟩ := by
  have hok : ∀ x ∈ letters ++ [sNone, sSome], NmOk x := by
    intro x hx
    have h0 : ∀ x ∈ letters ++ [sNone, sSome], 1 ≤ x.size ∧ x.size ≤ 16 ∧ ∀ i, i < 16 → i < x.size → 97 ≤ (x.data.toList.getD i 0).toNat ∧ (x.data.toList.getD i 0).toNat ≤ 122 := by decide
    obtain ⟨h1, h2, h3⟩ := h0 x hx
    exact ⟨h1, h2, fun i hi => h3 i (by omega) hi⟩
  rcases h with ⟨_, _, h⟩ | ⟨_, hl, h⟩ | ⟨_, y, h, h2⟩ | ⟨_, _, h⟩ | ⟨_, _, at_, _, h⟩
  · omega
  · have hg : ∀ i, i < ns.length → letters[i]? = some (ns.getD i ⟨#[]⟩) := fun i hi => by
      rw [← h i hi, List.getElem?_eq_getElem hi]
      simp [List.getD, hi]
    refine ⟨fun i hi => hok _ (List.mem_append_left _ (List.mem_of_getElem? (hg i hi))), fun i j hi hj e => ?_⟩
    have h1 := hg i hi
    have h2 := hg j (by omega)
    rw [← e] at h1
    exact absurd (letters_inj _ _ _ h2 h1 (by omega) (by omega)) (by omega)
  · subst h
    refine ⟨fun i hi => ?_, fun i j hi hj => ?_⟩
    · obtain rfl : i = 0 := by simp at hi; omega
      refine hok _ ?_
      show y ∈ _
      revert h2
      clear hok hk
      intro h2
      simp only [List.mem_cons, List.not_mem_nil, or_false] at h2
      rcases h2 with rfl | rfl | rfl | rfl | rfl <;> simp [letters]
    · simp at hi; omega
  · omega
  · omega
set_option maxRecDepth 100000 in
set_option maxHeartbeats 4000000 in
theorem fields_any (k n : Int) (s : ByteArray) (a : Option Addr) (ns : List ByteArray) (c : Nat) (w : World) (hs : s.size ≤ 5) (hk : NamesOk k ns) (hic : ns.length ≤ c) (hc : c ≤ 9223372036854775807) (hf : Fds a ns w) :
    Calls Try.prog 64 #[.agg #[.int .i64 k, .int .i64 n, .string s, .slice a ns.length c]] w fun e w' => e = .returned (.int .i64 0) ∧ Below w.heap.size w w' := by
  have hb := (Below.refl w.heap.size w).alloc (Nat.le_refl _) (.cells #[.int .i64 k, .int .i64 n, .string s, .slice a ns.length c] 25 (0, 0))
  have hkc := kind_cases hk
  have hl := names_len hk
  have t0 : decide (4000 < (s.size : Int)) = false := decide_eq_false (by omega)
  have t1 : decide (24 < (ns.length : Int)) = false := decide_eq_false (by omega)
  have t2 : decide (200 < (ns.length : Int)) = false := decide_eq_false (by omega)
  have hf1 := hf.below hb
  rcases hkc with ⟨rfl | rfl | rfl | rfl | rfl | rfl, rfl⟩ | rfl | rfl | rfl | rfl
  case inr.inl =>
    obtain ⟨g1, g2⟩ := names_all hk (Or.inl rfl)
    have HB := Lib.hid (And.intro hb (names_any a ns c _ hl hic hc hf1 g1 g2))
    clear hb hf hf1 hk g1 g2
    go_enter Try.func64, Try.ntmps64
    go_wp2_with fail
    refine HB.out.2.mono ?_
    rintro e w3 ⟨rfl, hb3⟩
    have HB3 := Lib.hid (HB.out.1.trans (hb3.mono HB.out.1.size))
    clear hb3
    go_wp2_with fail
    go_ret
    exact ⟨rfl, HB3.out⟩
  case inr.inr.inl =>
    obtain ⟨g1, g2⟩ := names_all hk (Or.inr rfl)
    have HB := Lib.hid (And.intro hb (names_any a ns c _ hl hic hc hf1 g1 g2))
    have t3 : ((ns.length : Int) == 1) = true := by
      rcases hk with ⟨_, h, _⟩ | ⟨h, _⟩ | ⟨_, y, h, _⟩ | ⟨h, _⟩ | ⟨h, _⟩
      · omega
      · omega
      · rw [h]; rfl
      · omega
      · omega
    clear hb hf hf1 hk g1 g2
    go_enter Try.func64, Try.ntmps64
    go_wp2_with fail
    refine HB.out.2.mono ?_
    rintro e w3 ⟨rfl, hb3⟩
    have HB3 := Lib.hid (HB.out.1.trans (hb3.mono HB.out.1.size))
    clear hb3
    go_wp2_with fail
    go_ret
    exact ⟨rfl, HB3.out⟩
  case inr.inr.inr.inl =>
    have g1 : ∀ i, i < ns.length → ns.getD i ⟨#[]⟩ = ⟨#[]⟩ := fun i hi => by
      rcases hk with ⟨_, h, _⟩ | ⟨h, _⟩ | ⟨h, _⟩ | ⟨_, _, h⟩ | ⟨h, _⟩
      · omega
      · omega
      · omega
      · have e : ns.getD i ⟨#[]⟩ = ns[i] := by simp [List.getD, hi]
        rw [e]
        exact h _ (List.getElem_mem hi)
      · omega
    have HB := Lib.hid (And.intro hb (keys_list n s a ns c _ hic hc hf1 g1))
    clear hb hf hf1 hk g1
    go_enter Try.func64, Try.ntmps64
    go_wp2_with fail
    refine HB.out.2.mono ?_
    rintro e w3 ⟨rfl, hb3⟩
    have HB3 := Lib.hid (HB.out.1.trans (hb3.mono HB.out.1.size))
    clear hb3
    go_wp2_with fail
    go_ret
    exact ⟨rfl, HB3.out⟩
  case inr.inr.inr.inr =>
    have g1 : ∃ at_ : Nat, at_ ≤ 6 ∧ ∀ i, i < ns.length → ns.getD i ⟨#[]⟩ = ⟨#[UInt8.ofNat (97 + at_ + i)]⟩ := by
      rcases hk with ⟨_, h, _⟩ | ⟨h, _⟩ | ⟨h, _⟩ | ⟨h, _⟩ | ⟨_, _, at_, h1, h⟩
      · omega
      · omega
      · omega
      · omega
      · refine ⟨at_, h1, fun i hi => ?_⟩
        have e := h i hi
        rw [List.getElem?_eq_getElem hi] at e
        injection e with e
        rw [← e]
        simp [List.getD, hi]
    obtain ⟨at_, hat, g1⟩ := g1
    have HB := Lib.hid (And.intro hb (keys_map n s a ns c at_ _ hat hl hf1 g1))
    clear hb hf hf1 hk g1
    go_enter Try.func64, Try.ntmps64
    go_wp2_with fail
    refine HB.out.2.mono ?_
    rintro e w3 ⟨rfl, hb3⟩
    have HB3 := Lib.hid (HB.out.1.trans (hb3.mono HB.out.1.size))
    clear hb3
    go_wp2_with fail
    go_ret
    exact ⟨rfl, HB3.out⟩
  all_goals
    have HB := Lib.hid hb
    clear hb hf hf1 hk
    go_enter Try.func64, Try.ntmps64
    go_wp2_with fail
    go_ret
    exact ⟨rfl, HB.out⟩

def NodeSaid (d : Nat) : Prop := ∀ (S : Nat → Prop) (w : World) (k n : Int) (s : ByteArray) (p : Value) (t : TVal d) (root : Bool), IsV d S w k n s p t → OkT d t →
  Calls Try.prog 40 #[.agg #[.int .i64 k, .int .i64 n, .string s, p], .bool root] w fun e w' => e = .returned (.int .i64 0) ∧ Below w.heap.size w w'
set_option maxRecDepth 100000 in
set_option maxHeartbeats 4000000 in
theorem node_succ (d : Nat) (ih : NodeSaid d) : NodeSaid (d + 1) := by
  intro S w k n s p t root h hok
  obtain ⟨hnum, htx, hsz, hnm, hoks⟩ := hok
  obtain ⟨a, c, rfl, hlc, rfl, rfl, rfl⟩ := h.slice
  have hlm : t.fs.length = (t.fs.map Prod.fst).length := by simp
  have hl4 := names_len hnm
  have hb := (Below.refl w.heap.size w).alloc (Nat.le_refl _) (.cells #[.int .i64 t.k, .int .i64 t.n, .string t.s, .slice a t.fs.length c] 25 (0, 0))
  have hv : (w.alloc (.cells #[.int .i64 t.k, .int .i64 t.n, .string t.s, .slice a t.fs.length c] 25 (0, 0))).heap[w.heap.size]? = some (.cells #[.int .i64 t.k, .int .i64 t.n, .string t.s, .slice a t.fs.length c] 25 (0, 0)) := heap_alloc_new w _
  have hun := fun W => unused_any t.k t.n t.s a c (t.fs.map Prod.fst) hnum htx hnm W
  have hnu := fun W => number_any t.k t.n t.s a t.fs.length c (t.fs.map Prod.fst) hnum hnm W
  have hfi := fun W hf => fields_any t.k t.n t.s a (t.fs.map Prod.fst) c W hsz hnm (by rw [← hlm]; exact hlc.1) hlc.2 hf
  rw [← hlm] at hun hfi
  have hkr : 0 ≤ t.k ∧ t.k ≤ 9 := by
    rcases kind_cases hnm with ⟨h, _⟩ | h | h | h | h <;> omega
  obtain ⟨-, -, -, c', a', hp, -, hf1⟩ := id h
  simp only [Value.slice.injEq] at hp
  obtain ⟨rfl, -, rfl⟩ := hp
  have hfd := h.fds.1
  generalize t.k = k at *
  generalize t.n = n at *
  generalize t.s = s at *
  generalize hfs : t.fs = fs at *
  have k1 : decide (k < 0) = false := decide_eq_false (by omega)
  have k2 : decide (12 ≤ k) = false := decide_eq_false (by omega)
  have k2' : decide (k ≥ 12) = false := decide_eq_false (by omega)
  have k3 : (k == 10) = false := beq_eq_false_iff_ne.2 (by omega)
  have k4 : (k == 11) = false := beq_eq_false_iff_ne.2 (by omega)
  have HI := Lib.hid (And.intro ih (And.intro hf1 (And.intro hb (And.intro hv (And.intro hoks (And.intro hfd (And.intro hun (And.intro hnu hfi))))))))
  have hsz1 : (w.alloc (.cells #[.int .i64 k, .int .i64 n, .string s, .slice a fs.length c] 25 (0, 0))).heap.size = w.heap.size + 1 := by simp
  obtain ⟨⟨v0, v1, v2, v3⟩, -⟩ := cells4 hv
  clear ih hf1 hb hv hoks hfd hun hnu hfi h hnum htx hsz hnm hlm hl4 hkr
  go_enter Try.func40, Try.ntmps40
  go_upto_region 1 with fail
  generalize w.alloc (.cells #[.int .i64 k, .int .i64 n, .string s, .slice a fs.length c] 25 (0, 0)) = W at *
  have hun := Lib.hid (HI.out.2.2.2.2.2.2.1 W)
  go_wp2_with fail
  refine hun.out.mono ?_
  rintro e w1 ⟨rfl, hb1⟩
  have hv1 := (hb1.block _ (by omega)).trans HI.out.2.2.2.1
  obtain ⟨⟨x0, x1, x2, x3⟩, -⟩ := cells4 hv1
  have hnu := Lib.hid (HI.out.2.2.2.2.2.2.2.1 w1)
  have HB1 := Lib.hid hb1
  clear hb1 hun hv1 v0 v1 v2 v3
  go_wp2_with fail
  refine hnu.out.mono ?_
  rintro e w2 ⟨rfl, hb2⟩
  have hb2 := HB1.out.trans (hb2.mono HB1.out.size)
  have hv2 := (hb2.block _ (by omega)).trans HI.out.2.2.2.1
  obtain ⟨⟨y0, y1, y2, y3⟩, -⟩ := cells4 hv2
  have hfi := Lib.hid (HI.out.2.2.2.2.2.2.2.2 w2 (HI.out.2.2.2.2.2.1.below (HI.out.2.2.1.trans (hb2.mono HI.out.2.2.1.size))))
  have HB2 := Lib.hid hb2
  clear hb2 hnu hv2 x0 x1 x2 x3
  go_wp2_with fail
  refine hfi.out.mono ?_
  rintro e w3 ⟨rfl, hb3⟩
  have hb3 := HB2.out.trans (hb3.mono HB2.out.size)
  have hv3 := (hb3.block _ (by omega)).trans HI.out.2.2.2.1
  obtain ⟨⟨z0, z1, z2, z3⟩, -⟩ := cells4 hv3
  have HB3 := Lib.hid hb3
  clear hb3 hfi hv3 y0 y1 y2 y3
  go_wp2_with fail
  go_loopw [48] (fun iv wr => ∃ i : Nat, iv = .int .i64 i ∧ i ≤ fs.length ∧ Below W.heap.size W wr) (fun iv _ => fs.length - (intOf iv).toNat)
  case atStart => exact ⟨0, rfl, Nat.zero_le _, HB3.out⟩
  case round =>
    obtain ⟨i, rfl, hi, hb⟩ := hrel
    by_cases hlt : i < fs.length
    · have ti : (i : Int) < (fs.length : Int) := by omega
      have wi : IntKind.i64.wrap ((i : Int) + 1) = (i : Int) + 1 := IntWalk.i64_in _ ⟨by omega, by omega⟩
      have hni : ((i : Int)).toNat = i := by omega
      have hm := List.getElem_mem hlt
      have hwr := HI.out.2.2.1.trans (hb.mono HI.out.2.2.1.size)
      obtain ⟨b1, kk1, nn1, ss1, pp1, rfl, -, hl1, e0, e1, e2, e3, e4, u1⟩ := HI.out.2.1 i fs[i] (List.getElem?_eq_getElem hlt)
      obtain ⟨pa1, pl1, pc1, rfl⟩ := u1.isSlice
      rw [← hwr.cell (show (⟨b1, i * 5, none⟩ : Addr).block < w.heap.size from hl1)] at e0
      rw [← hwr.cell (show (⟨b1, i * 5 + 1, none⟩ : Addr).block < w.heap.size from hl1)] at e1
      rw [← hwr.cell (show (⟨b1, i * 5 + 2, none⟩ : Addr).block < w.heap.size from hl1)] at e2
      rw [← hwr.cell (show (⟨b1, i * 5 + 3, none⟩ : Addr).block < w.heap.size from hl1)] at e3
      rw [← hwr.cell (show (⟨b1, i * 5 + 4, none⟩ : Addr).block < w.heap.size from hl1)] at e4
      have hal := (Below.refl wr.heap.size wr).alloc (Nat.le_refl _) (.cells #[.string fs[i].1, .int .i64 kk1, .int .i64 nn1, .string ss1, .slice pa1 pl1 pc1] 33 (0, 0))
      have hb2 := hb.trans (hal.mono hb.size)
      have hca := HI.out.1 S _ kk1 nn1 ss1 _ fs[i].2 false (u1.below (Nat.le_refl _) (hwr.trans (hal.mono hwr.size))) (HI.out.2.2.2.2.1 _ hm)
      generalize fs[i] = x at *
      obtain ⟨x, tx⟩ := x
      have HC := Lib.hid (And.intro hca hb2)
      clear hal hb2 hca u1 hb hm hwr
      go_wp2_with fail
      refine HC.out.1.mono ?_
      rintro e w4 ⟨rfl, hb4⟩
      have HB := Lib.hid (HC.out.2.trans (hb4.mono HC.out.2.size))
      clear hb4
      go_wp2_with fail
      exact ⟨⟨i + 1, by simp, by omega, HB.out⟩, by simp [intOf]; omega⟩
    · have ti : decide ((i : Int) < (fs.length : Int)) = false := decide_eq_false (by omega)
      go_wp2_with fail
      go_ret
      exact ⟨rfl, HI.out.2.2.1.trans (hb.mono HI.out.2.2.1.size)⟩
theorem node_any : ∀ d, NodeSaid d
  | 0 => fun _ _ _ _ _ _ _ _ h => h.elim
  | d + 1 => node_succ d (node_any d)
set_option maxRecDepth 100000 in
set_option maxHeartbeats 4000000 in
theorem check_any (S : Nat → Prop) (w : World) (k n : Int) (s : ByteArray) (p : Value) (t : TVal 4) (h : IsV 4 S w k n s p t) (hok : OkT 4 t) :
    Calls Try.prog 17 #[.agg #[.int .i64 k, .int .i64 n, .string s, p]] w fun e w' => e = .returned (.int .i64 0) ∧ Below w.heap.size w w' := by
  have hsz : tsize 4 t ≤ 5 ^ 4 := tsize_le 4 t hok
  have hdp : tdeep 4 t ≤ 4 := tdeep_d 4 t
  obtain ⟨a, c, rfl, hlc, rfl, rfl, rfl⟩ := h.slice
  have hb := (Below.refl w.heap.size w).alloc (Nat.le_refl _) (.cells #[.int .i64 t.k, .int .i64 t.n, .string t.s, .slice a t.fs.length c] 25 (0, 0))
  have hv : (w.alloc (.cells #[.int .i64 t.k, .int .i64 t.n, .string t.s, .slice a t.fs.length c] 25 (0, 0))).heap[w.heap.size]? = some (.cells #[.int .i64 t.k, .int .i64 t.n, .string t.s, .slice a t.fs.length c] 25 (0, 0)) := heap_alloc_new w _
  obtain ⟨⟨v0, v1, v2, v3⟩, -⟩ := cells4 hv
  have hsi := fun W (hW : Below w.heap.size w W) => size_any 4 S W t.k t.n t.s _ t (h.below (Nat.le_refl _) hW) (by omega)
  have hde := fun W (hW : Below w.heap.size w W) => deep_any 4 (by decide) S W t.k t.n t.s _ t (h.below (Nat.le_refl _) hW)
  have hno := fun W (hW : Below w.heap.size w W) => node_any 4 S W t.k t.n t.s _ t true (h.below (Nat.le_refl _) hW) hok
  generalize t.k = k at *
  generalize t.n = n at *
  generalize t.s = s at *
  generalize t.fs.length = l at *
  generalize tsize 4 t = z at *
  generalize tdeep 4 t = y at *
  have t1 : decide (2000 < (z : Int)) = false := decide_eq_false (by omega)
  have t2 : decide (40 < (y : Int)) = false := decide_eq_false (by omega)
  have HI := Lib.hid (And.intro hb (And.intro hv (And.intro hsi (And.intro hde hno))))
  have hsz1 : (w.alloc (.cells #[.int .i64 k, .int .i64 n, .string s, .slice a l c] 25 (0, 0))).heap.size = w.heap.size + 1 := by simp
  clear hb hv hsi hde hno h hok
  go_enter Try.func17, Try.ntmps17
  go_upto_region 1 with fail
  generalize w.alloc (.cells #[.int .i64 k, .int .i64 n, .string s, .slice a l c] 25 (0, 0)) = W at *
  have hsi := Lib.hid (HI.out.2.2.1 W HI.out.1)
  go_wp2_with fail
  refine hsi.out.mono ?_
  rintro e w1 ⟨rfl, hb1⟩
  have hv1 := (hb1.block _ (by omega)).trans HI.out.2.1
  have hw1 := HI.out.1.trans (hb1.mono HI.out.1.size)
  obtain ⟨⟨x0, x1, x2, x3⟩, -⟩ := cells4 hv1
  have hde := Lib.hid (HI.out.2.2.2.1 w1 hw1)
  have HB1 := Lib.hid hb1
  clear hb1 hsi hv1 v0 v1 v2 v3 hw1
  go_wp2_with fail
  refine hde.out.mono ?_
  rintro e w2 ⟨rfl, hb2⟩
  have hb2 := HB1.out.trans (hb2.mono HB1.out.size)
  have hv2 := (hb2.block _ (by omega)).trans HI.out.2.1
  have hw2 := HI.out.1.trans (hb2.mono HI.out.1.size)
  obtain ⟨⟨y0, y1, y2, y3⟩, -⟩ := cells4 hv2
  have hno := Lib.hid (HI.out.2.2.2.2 w2 hw2)
  have HB2 := Lib.hid hw2
  clear hb2 hde hv2 x0 x1 x2 x3 hw2
  go_wp2_with fail
  refine hno.out.mono ?_
  rintro e w3 ⟨rfl, hb3⟩
  have HB3 := Lib.hid (HB2.out.trans (hb3.mono HB2.out.size))
  clear hb3
  go_wp2_with fail
  go_ret
  exact ⟨rfl, HB3.out⟩

end Go.Proofs.Ytkcpnehhcpmdgaa
