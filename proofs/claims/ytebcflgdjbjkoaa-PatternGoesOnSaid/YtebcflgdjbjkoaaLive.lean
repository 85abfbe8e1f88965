/- (*pattern.machine).live: the states from which a text leads to an end; no condition beyond those that stand there. -/
import Derived.Test.YtebcflgdjbjkoaaFirst
namespace Go.Proofs.Ytebcflgdjbjkoaa
open Go.RowKit

/-- How many are not yet marked. -/
def falses (f : Nat → Bool) (N : Nat) : Nat := (List.range N).countP fun k => !f k
def markB (f : Nat → Bool) (i : Nat) : Nat → Bool := fun k => if k = i then true else f k
theorem falses_mark {f : Nat → Bool} {i : Nat} : ∀ {N : Nat}, i < N → f i = false → falses (markB f i) N < falses f N
  | 0, h, _ => by omega
  | N + 1, h, hf => by
    unfold falses
    rw [List.range_succ, List.countP_append, List.countP_append]
    rcases Nat.lt_or_ge i N with h1 | h1
    · have ih := falses_mark (f := f) (i := i) (N := N) h1 hf
      unfold falses at ih
      have e : markB f i N = f N := by unfold markB; rw [if_neg (by omega)]
      simp only [List.countP_singleton, e]
      omega
    · have e : i = N := by omega
      subst e
      have e1 : (List.range i).countP (fun k => !markB f i k) = (List.range i).countP fun k => !f k := by
        refine List.countP_congr fun k hk => ?_
        have := List.mem_range.1 hk
        unfold markB
        rw [if_neg (by omega)]
      rw [e1]
      simp [markB, hf]
section
variable (nx : Nat → Nat → Nat) (en : Nat → Bool)
/-- Some text leads from a state to an end. -/
def LiveS (k : Nat) : Prop := ∃ u : List UInt8, en (runE nx k u) = true
/-- What is marked leads to an end, and the ends are marked. -/
structure LvOk (N : Nat) (f : Nat → Bool) : Prop where
  sound : ∀ k, k < N → f k = true → LiveS nx en k
  ends : ∀ k, k < N → en k = true → f k = true
theorem LvOk.mark {N : Nat} {f : Nat → Bool} (h : LvOk nx en N f) {i b : Nat} (hb : b < 256) (hn : nx i b < N) (hf : f (nx i b) = true) : LvOk nx en N (markB f i) := by
  refine ⟨fun k hk hm => ?_, fun k hk he => ?_⟩
  · by_cases e : k = i
    · obtain ⟨u, hu⟩ := h.sound _ hn hf
      refine ⟨UInt8.ofNat b :: u, ?_⟩
      rw [e]
      show en (runE nx (nx i (UInt8.ofNat b).toNat) u) = true
      rw [ofNat_toNat8 hb]
      exact hu
    · unfold markB at hm
      rw [if_neg e] at hm
      exact h.sound k hk hm
  · unfold markB
    split
    · rfl
    · exact h.ends k hk he
/-- Nothing is left to be marked at the states below i. -/
def ClosedTo (f : Nat → Bool) (i : Nat) : Prop := ∀ j, j < i → f j = true ∨ ∀ b, b < 256 → f (nx j b) = false
theorem LvOk.done {N : Nat} {f : Nat → Bool} (h : LvOk nx en N f) (hN : ∀ k b, k < N → b < 256 → nx k b < N) (hc : ClosedTo nx f N) : ∀ k, k < N → (f k = true ↔ LiveS nx en k) := fun k hk =>
  ⟨h.sound k hk, fun ⟨u, hu⟩ => by
    have key : ∀ (u : List UInt8) (k : Nat), k < N → en (runE nx k u) = true → f k = true := fun u => by
      induction u with
      | nil => exact fun k hk hu => h.ends k hk hu
      | cons c u ih =>
        intro k hk hu
        have h1 := ih (nx k c.toNat) (hN k _ hk c.toNat_lt) hu
        rcases hc k hk with h2 | h2
        · exact h2
        · rw [h2 _ c.toNat_lt] at h1; cases h1
    exact key u k hk hu⟩
end
theorem map_boolC (ends : List Bool) : ends.map Value.bool = boolC (fun k => ends.getD k false) ends.length := by
  refine List.ext_getElem? fun i => ?_
  rcases Nat.lt_or_ge i ends.length with h | h
  · rw [boolC_get h]
    simp [List.getD, h]
  · rw [List.getElem?_eq_none (by simpa using h), List.getElem?_eq_none (by rw [boolC_len]; exact h)]
def LivePost (w : World) (N : Nat) (nx : Nat → Nat → Nat) (en : Nat → Bool) (e : Ending) (w' : World) : Prop :=
  Below w.heap.size w w' ∧ ∃ (v : Value) (f : Nat → Bool), e = .returned v ∧ w'.ownsRow w.heap.size 4 1 v N (boolC f N) ∧ ∀ k, k < N → (f k = true ↔ LiveS nx en k)
set_option maxRecDepth 100000 in
set_option maxHeartbeats 4000000 in
theorem live_any (B0 : Nat) (cls fol : List Set4) (x : Part) (sets : List Set4) (rows : List (List Nat)) (ends : List Bool) (nv ev : Value) (w : World) (MB : Nat) (h : MachAt B0 cls fol x sets rows ends nv ev w) (hm : w.heap[MB]? = some (.cells #[nv, ev] 58 (0, 0))) :
    Calls Try.prog 33 #[.pointer (some ⟨MB, 0, none⟩)] w (LivePost w ends.length (dM rows) (fun k => ends.getD k false)) := by
  obtain ⟨g1, k1, rfl, hg1, -⟩ := row_some h.nrow h.rpos
  obtain ⟨g2, k2, rfl, hg2, -⟩ := row_some h.erow h.epos
  have hel : ends.length ≤ 400 := by have := h.half.el; have := h.half.len; omega
  have hep : 0 < ends.length := h.epos
  have m1 : w.cell? ⟨MB, 1, none⟩ = some (.slice (some ⟨g2, 0, none⟩) ends.length k2) := by rw [Lib.cell_of_heap hm]; rfl
  have hcells := Lib.hid (fun j (hj : j < ends.length) => World.ownsRow.cellAt h.erow j (by omega))
  have hee := Lib.hid h.half.el
  have HI := Lib.hid (And.intro h hm)
  have hMl := lt_of_block hm
  obtain ⟨en, hen⟩ : ∃ en : Nat → Bool, en = fun k => ends.getD k false := ⟨_, rfl⟩
  rw [← hen]
  have HE := Lib.hid hen
  clear h hm hen
  go_enter Try.func33, Try.ntmps33
  go_wp2_with (at_builtin; refine append_bools rfl _ _ _ rfl (by kernel_rfl) rfl ends.length k2 g2 rfl (ends.map Value.bool) (by simp) hcells.out (ones_bool ends) hep (by omega) ?_; intro g3 c3 w3 hr3 hb3; have H3 := Lib.hid (And.intro hr3 hb3); clear hr3 hb3)
  have h0 : w3.ownsRow w.heap.size 4 1 (.slice (some ⟨g3, 0, none⟩) ends.length c3) ends.length (boolC en ends.length) := by
    have := H3.out.1
    rw [map_boolC] at this
    rw [HE.out]
    exact this
  have hok0 : LvOk (dM rows) en ends.length en := ⟨fun k hk he => ⟨[], he⟩, fun k hk he => he⟩
  have H0 := Lib.hid (And.intro h0 (And.intro H3.out.2 hok0))
  clear h0 hok0 H3 m1
  go_loopg [4] (falses en ends.length + 1) (fun gk cv wr => ∃ (f : Nat → Bool) (ch : Bool), cv = .bool ch ∧ gk = falses f ends.length + (if ch then 1 else 0) ∧ Below w.heap.size w wr ∧ wr.ownsRow w.heap.size 4 1 (.slice (some ⟨g3, 0, none⟩) ends.length c3) ends.length (boolC f ends.length) ∧ LvOk (dM rows) en ends.length f ∧ (ch = false → ClosedTo (dM rows) f ends.length))
  case atStart => exact ⟨en, true, rfl, by simp, H0.out.2.1, H0.out.1, H0.out.2.2, fun h => by cases h⟩
  case round =>
    clear H0
    obtain ⟨f0, ch, rfl, rfl, hb, hr, hok, hcl⟩ := hrel
    cases ch with
    | false =>
      have hdone := hok.done (dM rows) en (N := ends.length) (fun k b hk hb => by rw [hee.out] at hk ⊢; exact HI.out.1.dlt hk hb) (hcl rfl)
      have HO := Lib.hid (And.intro hb (And.intro hr hdone))
      clear hb hr hok hcl hdone
      go_wp2_with fail
      go_ret
      exact ⟨HO.out.1, _, f0, rfl, HO.out.2.1, HO.out.2.2⟩
    | true =>
      have HO := Lib.hid (And.intro hb (And.intro hr hok))
      clear hb hr hok hcl
      go_wp2_with fail
      go_loopw [15, 4] (fun iv cv wr => ∃ (i : Nat) (f : Nat → Bool) (ch : Bool), iv = .int .i64 i ∧ cv = .bool ch ∧ i ≤ ends.length ∧ Below w.heap.size w wr ∧ wr.ownsRow w.heap.size 4 1 (.slice (some ⟨g3, 0, none⟩) ends.length c3) ends.length (boolC f ends.length) ∧ LvOk (dM rows) en ends.length f ∧
        (ch = false → f = f0 ∧ ClosedTo (dM rows) f i) ∧ (ch = true → falses f ends.length < falses f0 ends.length)) (fun iv _ _ => ends.length - (intOf iv).toNat)
      case atStart => exact ⟨0, f0, false, rfl, rfl, Nat.zero_le _, HO.out.1, HO.out.2.1, HO.out.2.2, fun _ => ⟨rfl, fun j hj => by omega⟩, fun h => by cases h⟩
      case round =>
        clear HO
        obtain ⟨i, f, ch, rfl, rfl, hi, hb, hr, hok, hc0, hc1⟩ := hrel
        by_cases hlt : i < ends.length
        · have ti : decide (i < ends.length) = true := decide_eq_true hlt
          have tiI : (i : Int) < (ends.length : Int) := by omega
          have wi : IntKind.i64.wrap ((i : Int) + 1) = (i : Int) + 1 := IntWalk.i64_in _ ⟨by omega, by omega⟩
          have hni : ((i : Int)).toNat = i := by omega
          have HO := Lib.hid (And.intro hb (And.intro hr (And.intro hok (And.intro hc0 hc1))))
          clear hb hr hok hc0 hc1
          go_wp2_with fail
          go_loopw [6, 4] (fun bv cv wr => ∃ (b : Nat) (f : Nat → Bool) (ch : Bool), bv = .int .i64 b ∧ cv = .bool ch ∧ b ≤ 256 ∧ Below w.heap.size w wr ∧ wr.ownsRow w.heap.size 4 1 (.slice (some ⟨g3, 0, none⟩) ends.length c3) ends.length (boolC f ends.length) ∧ LvOk (dM rows) en ends.length f ∧
            (ch = false → f = f0 ∧ ClosedTo (dM rows) f i ∧ ∀ c, c < b → f (dM rows i c) = false) ∧ (ch = true → falses f ends.length < falses f0 ends.length)) (fun bv _ _ => 256 - (intOf bv).toNat)
          case atStart => exact ⟨0, f, ch, rfl, rfl, Nat.zero_le _, HO.out.1, HO.out.2.1, HO.out.2.2.1, fun h => ⟨(HO.out.2.2.2.1 h).1, (HO.out.2.2.2.1 h).2, fun c hc => by omega⟩, HO.out.2.2.2.2⟩
          case round =>
            clear HO
            obtain ⟨b, f, ch, rfl, rfl, hb6, hb, hr, hok, hc0, hc1⟩ := hrel
            by_cases hlb : b < 256
            · have tb : (b : Int) < 256 := by omega
              have wb : IntKind.i64.wrap ((b : Int) + 1) = (b : Int) + 1 := IntWalk.i64_in _ ⟨by omega, by omega⟩
              have hnb : ((b : Int)).toNat = b := by omega
              have c0 := (World.ownsRow.cellAt hr i (by omega)).trans (boolC_get hlt)
              have z0 := World.ownsRow.frozenAt hr i
              cases hfi : f i with
              | true =>
                rw [hfi] at c0
                have HO := Lib.hid (And.intro hb (And.intro hr (And.intro hok (And.intro hc0 (And.intro hc1 hfi)))))
                clear hb hr hok hc0 hc1 hfi
                go_wp2_with fail
                refine ⟨⟨i + 1, f, ch, by simp, rfl, by omega, HO.out.1, HO.out.2.1, HO.out.2.2.1, fun h => ?_, HO.out.2.2.2.2.1⟩, by simp [intOf]; omega⟩
                obtain ⟨k1, k2, _⟩ := HO.out.2.2.2.1 h
                refine ⟨k1, fun j hj => ?_⟩
                rcases Nat.lt_or_ge j i with h2 | h2
                · exact k2 j h2
                · rw [show j = i by omega]; exact Or.inl HO.out.2.2.2.2.2
              | false =>
                rw [hfi] at c0
                have hM := HI.out.1.below hb
                have m0 : wr.cell? ⟨MB, 0, none⟩ = some (.slice (some ⟨g1, 0, none⟩) rows.length k1) := by rw [World.cell?_of_block (hb.block MB hMl), Lib.cell_of_heap HI.out.2]; rfl
                have hsl : i < sets.length := by rw [← hee.out]; exact hlt
                have hs := List.getElem?_eq_getElem hsl
                have q1 := (World.ownsRow.cellAt hM.nrow (i * 256 + b) (by have := hM.half.rl; omega)).trans (hM.dstep hs hlb).1
                have dl : dM rows i b < ends.length := by rw [hee.out]; exact hM.dlt hsl hlb
                have q2 := (World.ownsRow.cellAt hr (dM rows i b) (by omega)).trans (boolC_get dl)
                have tiR : (i : Int) < (rows.length : Int) := by have := hM.half.rl; omega
                obtain ⟨u, hu⟩ : ∃ u, u = dM rows i b := ⟨_, rfl⟩
                rw [← hu] at q1 q2 dl
                have hnu : ((u : Int)).toNat = u := by omega
                have tu : (u : Int) < (ends.length : Int) := by omega
                cases hfu : f u with
                | true =>
                  rw [hfu] at q2
                  have hst := World.ownsRow.stored hr i (.bool true)
                  rw [boolC_set] at hst
                  have hbn : Below w.heap.size w (wr.setCell ⟨g3, i, none⟩ (.bool true)) := hb.setCell (p := ⟨g3, i, none⟩) (World.ownsRow.lt hr g3 rfl).1 _
                  have hokn := hok.mark (dM rows) en (i := i) (b := b) hlb (by rw [← hu]; exact dl) (by rw [← hu]; exact hfu)
                  have hfm : falses (markB f i) ends.length < falses f0 ends.length := by
                    have h1 := falses_mark (f := f) hlt hfi
                    cases ch with
                    | true => have := hc1 rfl; omega
                    | false => rw [(hc0 rfl).1] at h1 ⊢; exact h1
                  have HO := Lib.hid (And.intro hbn (And.intro hst.1 (And.intro hokn hfm)))
                  clear hb hr hok hc0 hc1 hfi hM hs hfu hst hbn hokn hfm hu
                  go_wp2_with fail
                  exact ⟨⟨b + 1, markB f i, true, by simp, rfl, by omega, HO.out.1, HO.out.2.1, HO.out.2.2.1, fun h => (by cases h), fun _ => HO.out.2.2.2⟩, by simp [intOf]; omega⟩
                | false =>
                  rw [hfu] at q2
                  have HO := Lib.hid (And.intro hb (And.intro hr (And.intro hok (And.intro hc0 (And.intro hc1 (And.intro hfu hu))))))
                  clear hb hr hok hc0 hc1 hfi hM hs hfu hu
                  go_wp2_with fail
                  refine ⟨⟨b + 1, f, ch, by simp, rfl, by omega, HO.out.1, HO.out.2.1, HO.out.2.2.1, fun h => ?_, HO.out.2.2.2.2.1⟩, by simp [intOf]; omega⟩
                  obtain ⟨j1, j2, j3⟩ := HO.out.2.2.2.1 h
                  refine ⟨j1, j2, fun c hc => ?_⟩
                  rcases Nat.lt_or_ge c b with h2 | h2
                  · exact j3 c h2
                  · rw [show c = b by omega, ← HO.out.2.2.2.2.2.2]
                    exact HO.out.2.2.2.2.2.1
            · have tb : decide ((b : Int) < 256) = false := decide_eq_false (by omega)
              obtain rfl : b = 256 := by omega
              have HO := Lib.hid (And.intro hb (And.intro hr (And.intro hok (And.intro hc0 hc1))))
              clear hb hr hok hc0 hc1
              go_wp2_with fail
              refine ⟨⟨i + 1, f, ch, by simp, rfl, by omega, HO.out.1, HO.out.2.1, HO.out.2.2.1, fun h => ?_, HO.out.2.2.2.2⟩, by simp [intOf]; omega⟩
              obtain ⟨k1', k2', k3'⟩ := HO.out.2.2.2.1 h
              refine ⟨k1', fun j hj => ?_⟩
              rcases Nat.lt_or_ge j i with h2 | h2
              · exact k2' j h2
              · rw [show j = i by omega]; exact Or.inr k3'
        · have ti : decide (i < ends.length) = false := decide_eq_false hlt
          have hii : i = ends.length := by omega
          have HO := Lib.hid (And.intro hb (And.intro hr (And.intro hok (And.intro hc0 (And.intro hc1 hii)))))
          clear hb hr hok hc0 hc1 hii
          go_wp2_with fail
          go_roundg (falses f ends.length + (if ch then 1 else 0))
          case measure =>
            cases ch with
            | true => have := HO.out.2.2.2.2.1 rfl; simp; omega
            | false => rw [(HO.out.2.2.2.1 rfl).1]; simp
          case rel =>
            refine ⟨f, ch, rfl, rfl, HO.out.1, HO.out.2.1, HO.out.2.2.1, fun h => ?_⟩
            have := (HO.out.2.2.2.1 h).2
            rw [HO.out.2.2.2.2.2] at this
            exact this

end Go.Proofs.Ytebcflgdjbjkoaa
