/- clapmake's sampler at alternatives, and Sample; no condition beyond those that stand there. -/
import Derived.Laws.OwnMore
import Derived.Test.YtkcpnehhcpmdgaaSeq
namespace Go.Proofs.Ytkcpnehhcpmdgaa
open Go.RowKit

/-- The further alternatives of the pattern P from place j to place k, c of them, each of at most m bytes. -/
inductive Rest (P : ByteArray) (m : Nat) : Nat → Nat → Nat → Prop
  | stop (j k : Nat) (hjk : k = j) (hj : j ≤ P.size) (he : ∀ h : j < P.size, P[j].toNat ≠ 124) : Rest P m j k 0
  | more (j l k mm c : Nat) (hj : j < P.size) (hb : P[j].toNat = 124) (hs : Steps P (j + 1) l mm) (hm : mm ≤ m) (hl : j < l) (hlp : l ≤ P.size) (hr : Rest P m l k c) : Rest P m j k (c + 1)
def AltRel (B s x : Nat) (P : ByteArray) (k m : Nat) (w : World) (v : Value) (wr : World) : Prop := ∃ (j n c : Nat) (xs : List Value), Rest P m j k c ∧ n + c ≤ 101 ∧ 1 ≤ n ∧ wr.ownsRow w.heap.size 9 1 v n xs ∧ (∀ u ∈ xs, ∃ b : ByteArray, b.size ≤ m ∧ u = .string b) ∧ SmKeep B s x P j w wr
theorem row_keep {base : Nat} {e : TypeId} {size : Nat} {v : Value} {n : Nat} {xs : List Value} {w w' : World} (h : w.ownsRow base e size v n xs) (hk : ∀ g, v.ownBlock = some g → w'.heap[g]? = w.heap[g]?) : w'.ownsRow base e size v n xs := by
  refine ⟨h.1, ?_⟩
  rcases h.2 with h2 | ⟨g, cap, cur, hv, hg, hh, r⟩
  · exact Or.inl h2
  · exact Or.inr ⟨g, cap, cur, hv, hg, by rw [hk g (by rw [hv]; rfl)]; exact hh, r⟩
theorem row_xs {base : Nat} {e : TypeId} {size : Nat} {v : Value} {n x s : Nat} {xs : List Value} {w w' : World} (h : w.ownsRow base e size v n xs) (hx : x < base) (hs : s < base) (hk : KeepXS w.heap.size x s w w') : w'.ownsRow base e size v n xs :=
  row_keep h fun g hg => by
    have := World.ownsRow.lt h g hg
    exact hk.block g this.2 (by omega) (by omega)
set_option maxRecDepth 100000 in
set_option maxHeartbeats 4000000 in
theorem alt_any (P : ByteArray) (i j k m mm c : Nat) (hP : P.size ≤ 1000) (hm : m ≤ 1000) (hmm : mm ≤ m) (hc : c ≤ 100) (hst : Steps P i j mm) (hr : Rest P m j k c) : SmOk 69 P i k m := by
  intro B s x w h hs
  have hxl := h.lt
  have hsl := hs.lt
  have HS := Lib.hid (SmKeep.refl h hs)
  have HQ := Lib.hid (show ∀ i j mm, mm ≤ m → Steps P i j mm → SmOk _ P i j mm from fun i j mm hmm hst => seq_any P i j mm hP (by omega) hst)
  have HT := Lib.hid (And.intro hst hr)
  clear h hs hst hr
  go_enter Try.func69, Try.ntmps69
  go_wp2_with fail
  refine (HQ.out i j mm hmm HT.out.1 B s x w HS.out.sm HS.out.st).mono ?_
  rintro e w1 ⟨⟨b1, hb1, rfl⟩, s1, t1, k1⟩
  have h1 := HS.out.then s1 t1 k1
  have hz1 := h1.keep.size
  have hlit := World.ownsRow_lit (base := w.heap.size) (e := 9) (size := 1) w1 #[.string b1] 1 hz1 (by decide) rfl
  have H1 := Lib.hid (And.intro (h1.below ((Below.refl _ _).alloc (Nat.le_refl _) (.cells #[.string b1] 9 (0, 0)))) hlit)
  clear s1 t1 k1 h1 hlit
  go_wp2_with fail
  go_loopw [3] (fun v wr => AltRel B s x P k m w v wr) (fun _ wr => P.size - atOf x wr)
  case atStart => exact ⟨j, 1, c, _, HT.out.2, by omega, by omega, H1.out.2, fun u hu => ⟨b1, by omega, by simpa using hu⟩, H1.out.1⟩
  case round =>
    obtain ⟨i, n, c, xs, hst, hn, hn1, hrow, hxs, hk⟩ := hrel
    obtain ⟨c0, c1, c2, f⟩ := hk.cells
    have f1 := f 1
    have hat := hk.sm.atOf
    rcases hst with ⟨_, _, hik, hi, he⟩ | ⟨_, l, _, m2, c', hi, hb, hs, hm2, hil, hlp, hs2⟩
    · obtain ⟨g, cap, rfl⟩ := ownsRow_formW hrow hn1
      have hgl := World.ownsRow.lt hrow g rfl
      have hcell : ∀ t, t < n → ∃ b : ByteArray, b.size ≤ m ∧ wr.cell? ⟨g, t, none⟩ = some (.string b) := fun t ht => by
        have hl := hrow.1
        have h := World.ownsRow.cellAt hrow t (by omega)
        rw [List.getElem?_eq_getElem (by omega)] at h
        obtain ⟨b, hb, hb2⟩ := hxs _ (List.getElem_mem (show t < xs.length by omega))
        exact ⟨b, hb, by rw [h, hb2]⟩
      have HK := Lib.hid (And.intro hk hcell)
      have HN := Lib.hid (fun w' h => next_any B s (n : Int) (by omega) w' h)
      clear hk f hat hrow hxs hcell
      have fin : ∀ nq, Calls Try.prog 52 #[.pointer (some ⟨s, 0, none⟩), .int .i64 n] (wr.drewN nq) fun e w' => ∃ (q : Nat) (b : ByteArray), e = .returned (.int .i64 q) ∧ q < n ∧ b.size ≤ m ∧ w'.cell? ⟨g, q, none⟩ = some (.string b) ∧ SmKeep B s x P i w w' := fun nq => by
        refine (HN.out _ (HK.out.1.drewN nq).st).mono ?_
        rintro e w5 ⟨⟨q, rfl, q0, q1, -⟩, t5, k5, z5⟩
        have q1' := q1 (by omega)
        obtain ⟨r, rfl⟩ : ∃ q' : Nat, q = q' := ⟨q.toNat, by omega⟩
        obtain ⟨b, hb, hb2⟩ := HK.out.2 r (by omega)
        exact ⟨r, b, rfl, by omega, hb, by rw [World.cell?_of_block (k5.block g hgl.2 (by omega))]; exact hb2, (HK.out.1.drewN nq).thenS t5 k5⟩
      have HF := Lib.hid fin
      clear fin
      by_cases hlt : i < P.size
      · have t1 : (i : Int) < (P.size : Int) := by omega
        have h := he hlt
        have a1 : ((P[i].toNat : Int) == 124) = false := by rw [beq_eq_false_iff_ne]; omega
        go_wp2_with fail
        go_quiet (fail)
        go_wp2_with fail
        refine (HF.out _).mono ?_
        rintro e w5 ⟨r, b, rfl, hr, hb, cq, h5⟩
        have tq : (r : Int) < (n : Int) := by omega
        have hnq : ((r : Int)).toNat = r := by omega
        have H5 := Lib.hid h5
        clear h5
        go_wp2_with fail
        go_ret
        rw [hik]
        exact ⟨⟨_, hb, rfl⟩, H5.out.sm, H5.out.st, H5.out.keep⟩
      · have t1 : decide ((i : Int) < (P.size : Int)) = false := decide_eq_false (by omega)
        go_wp2_with fail
        go_quiet (fail)
        go_wp2_with fail
        refine (HF.out _).mono ?_
        rintro e w5 ⟨r, b, rfl, hr, hb, cq, h5⟩
        have tq : (r : Int) < (n : Int) := by omega
        have hnq : ((r : Int)).toNat = r := by omega
        have H5 := Lib.hid h5
        clear h5
        go_wp2_with fail
        go_ret
        rw [hik]
        exact ⟨⟨_, hb, rfl⟩, H5.out.sm, H5.out.st, H5.out.keep⟩
    · have t1 : (i : Int) < (P.size : Int) := by omega
      have a1 : ((P[i].toNat : Int) == 124) = true := by rw [beq_iff_eq]; omega
      have wi : IntKind.i64.wrap ((i : Int) + 1) = (i : Int) + 1 := IntWalk.i64_in _ ⟨by omega, by omega⟩
      have HK := Lib.hid (And.intro hk (And.intro hrow hxs))
      clear hk f hrow hxs hb
      go_wp2_with fail
      go_quiet (fail)
      go_wp2_with fail
      have h2 := fun nq => (HK.out.1.drewN nq).set (i + 1)
      refine (HQ.out (i + 1) l m2 hm2 hs B s x _ (h2 _).sm (h2 _).st).mono ?_
      rintro e w2 ⟨⟨b2, hb2, rfl⟩, s2, t2, k2⟩
      have h3 := (h2 _).then s2 t2 k2
      have hz2 := h3.keep.size
      have hrow2 : w2.ownsRow w.heap.size 9 1 _ n xs := row_xs HK.out.2.1 hxl hsl (KeepXS.trans ((KeepXS.refl _ x s wr).drewN nq |>.trans (KeepXS.setx _ x s 1 (wr.drewN nq) _)) (k2.mono (by simp)))
      have H3 := Lib.hid (And.intro h3 hrow2)
      clear s2 t2 k2 h3 h2 hrow2
      go_wp2_with (at_builtin; refine append_el elem_str rfl _ _ 109 rfl Try.underlying109 w.heap.size _ n xs rfl (H3.out.2.alloc _) (by omega) w2.heap.size 1 [.string b2] rfl rfl (heap_alloc_new w2 _) (by simp [Value.oneCell']) ?q1 ?_)
      case q1 => simp; omega
      intro v' w4 hrow4 hg
      have hb4 : Below w.heap.size w2 w4 := ((Below.refl _ w2).alloc hz2 _).grown hg (by simp; omega) (fun k hk => (World.ownsRow.lt (H3.out.2.alloc (.cells #[.string b2] 9 (0, 0))) k hk).1)
      have h4 : SmKeep B s x P l w w4 := ⟨H3.out.1.sm.keep (hb4.block x hxl), H3.out.1.st.below hb4 hsl, H3.out.1.keep.trans (KeepXS.of_below hb4)⟩
      have H4 := Lib.hid (And.intro hrow4 h4)
      clear hrow4 hg hb4 h4
      go_wp2_with fail
      refine ⟨⟨l, n + 1, c', _, hs2, by omega, by omega, H4.out.1, ?_, H4.out.2⟩, ?_⟩
      · intro u hu
        rcases List.mem_append.1 hu with h | h
        · exact HK.out.2.2 u h
        · exact ⟨b2, by omega, by simpa using h⟩
      · rw [hat, H4.out.2.sm.atOf]
        omega

end Go.Proofs.Ytkcpnehhcpmdgaa
