/- (*pattern.machine).strings: the texts of one length, in order; no condition beyond those that stand there. -/
import Derived.Deep.LoopGhost
import Derived.Deep.DeepCutAuto
import Derived.BigQuiet
import Derived.Deep.RegionHeld3
import Derived.Test.YtebcflgdjbjkoaaStrD
namespace Go.Proofs.Ytebcflgdjbjkoaa
open Go.RowKit

/-- What holds at the loop's head. -/
structure StP (nx : Nat → Nat → Nat) (en : Nat → Bool) (N n many : Nat) (l0 lst : List (List UInt8)) (stk : List (Nat × Nat)) (k f : Nat) : Prop where
  dep : stk.length ≤ n
  kN : k < N
  sN : ∀ p ∈ stk, p.1 < N ∧ p.2 < 256
  f256 : f ≤ 256
  f0 : stk.length = n → f = 0
  ex : f = 0 → exB nx en (n - stk.length) k = true
  few : lst.length < many
  all : lst ++ remA nx en stk (n - stk.length) k f = l0 ++ allW nx en n 0
/-- What holds behind the test for a whole text. -/
structure MidP (nx : Nat → Nat → Nat) (en : Nat → Bool) (N n many gk : Nat) (l0 lst : List (List UInt8)) (stk : List (Nat × Nat)) (k f : Nat) : Prop where
  dep : stk.length ≤ n
  kN : k < N
  sN : ∀ p ∈ stk, p.1 < N ∧ p.2 < 256
  f256 : f ≤ 256
  f0 : stk.length = n → f = 256 ∧ n ≠ 0
  few : lst.length < many
  all : lst ++ remA nx en stk (n - stk.length) k f = l0 ++ allW nx en n 0
  cost : costC (n - stk.length) f + costS stk (n - stk.length) ≤ gk
def StrsPost (w : World) (lv0 : Value) (B many : Nat) (lst : List (List UInt8)) (e : Ending) (w' : World) : Prop :=
  ∃ v, e = .returned v ∧ w'.os = w.os ∧ w'.tape = w.tape ∧ w'.output = w.output ∧ w.heap.size ≤ w'.heap.size ∧ (∀ q, q < w.heap.size → lv0.ownBlock ≠ some q → w'.heap[q]? = w.heap[q]?) ∧ w'.ownsRow B 9 1 v (lst.take many).length (strC (lst.take many)) ∧ (v.ownBlock = lv0.ownBlock ∨ ∀ q, v.ownBlock = some q → w.heap.size ≤ q)
set_option maxRecDepth 100000 in
set_option maxHeartbeats 4000000 in
theorem strs_any (B B0 : Nat) (cls fol : List Set4) (x : Part) (sets : List Set4) (rows : List (List Nat)) (ends : List Bool) (nv ev : Value) (w : World) (MB gl cl n many : Nat) (l0 : List (List UInt8)) (lv0 : Value) (en : Nat → Bool)
    (h : MachAt B0 cls fol x sets rows ends nv ev w) (hm : w.heap[MB]? = some (.cells #[nv, ev] 58 (0, 0))) (hl : LeftT (dM rows) en sets.length gl n w) (hr : w.ownsRow B 9 1 lv0 l0.length (strC l0)) (hB : B ≤ w.heap.size) (hn : n ≤ 4000) (hma : many ≤ 200) (hf : l0.length < many) (hex : exB (dM rows) en n 0 = true) :
    Calls Try.prog 35 #[.pointer (some ⟨MB, 0, none⟩), lv0, .int .i64 many, .slice (some ⟨gl, 0, none⟩) ((n + 1 : Nat)) cl] w (StrsPost w lv0 B many (l0 ++ allW (dM rows) en n 0)) := by
  obtain ⟨g1, k1, rfl, hg1, -⟩ := row_some h.nrow h.rpos
  have hN := h.half.len
  have hpos := h.pos
  have hal := (Below.refl w.heap.size w).alloc (Nat.le_refl _) (.cells #[.int .i16 0] 61 (0, 0))
  have hr0 : (w.alloc (.cells #[.int .i16 0] 61 (0, 0))).ownsRow w.heap.size 61 1 (.slice (some ⟨w.heap.size, 0, none⟩) 1 1) 1 (i16C [0]) :=
    ⟨rfl, Or.inr ⟨w.heap.size, 1, #[.int .i16 0], rfl, Nat.le_refl _, heap_alloc_new .., Nat.le_refl _, by decide, rfl, rfl⟩⟩
  have hst0 : StrAt w lv0 B l0 (stkT []) (pathS [] 0) lv0 (.slice none 0 0) (.slice (some ⟨w.heap.size, 0, none⟩) 1 1) (w.alloc (.cells #[.int .i16 0] 61 (0, 0))) :=
    ⟨hal.os, hal.tape, hal.output, hal.size, fun q hq _ => hal.block q hq, hr.alloc _, Or.inl rfl, World.ownsRow_nil .., hr0⟩
  have hp0 : StP (dM rows) en sets.length n many l0 l0 [] 0 0 := ⟨Nat.zero_le _, hpos, fun p hp => (by cases hp), by decide, fun _ => rfl, fun _ => hex, hf, by rw [show n - ([] : List (Nat × Nat)).length = n by simp, rem_start]⟩
  have HI := Lib.hid (And.intro h (And.intro hm (And.intro hl hr)))
  have H0 := Lib.hid (And.intro hst0 hp0)
  have wn : IntKind.i64.wrap (((n + 1 : Nat) : Int) - 1) = (n : Int) := by
    rw [IntWalk.i64_in _ ⟨by omega, by omega⟩]; omega
  obtain ⟨la, lc, rfl, hlc⟩ := row_slice hr
  clear h hm hl hr hal hr0 hst0 hp0 hex
  go_enter Try.func35, Try.ntmps35
  go_wp2_with fail
  have h0 := H0.out
  clear H0
  generalize w.alloc (.cells #[.int .i16 0] 61 (0, 0)) = W0 at *
  have H0 := Lib.hid h0
  clear h0 wn
  go_loopg [1, 11, 10, 12] (costC n 0 + costS [] n) (fun gk lv sv av fv wr => ∃ (lst : List (List UInt8)) (stk : List (Nat × Nat)) (k f : Nat), fv = .int .i64 f ∧ gk = costC (n - stk.length) f + costS stk (n - stk.length) ∧ StrAt w (.slice la l0.length lc) B lst (stkT stk) (pathS stk k) lv sv av wr ∧ StP (dM rows) en sets.length n many l0 lst stk k f)
  case atStart => exact ⟨l0, [], 0, 0, rfl, by simp, H0.out.1, H0.out.2⟩
  case round =>
    clear H0
    obtain ⟨lst, stk, k, f, rfl, rfl, hst, hp⟩ := hrel
    have hdep := hp.dep
    have hfw := hp.few
    obtain ⟨lq, lqc, rfl, hlqc⟩ := row_slice hst.lrow
    obtain ⟨sq, sqc, hsv, hsqc⟩ := row_slice hst.srow
    rw [stkT_len] at hsv hsqc
    subst hsv
    obtain ⟨aq, aqc, hav⟩ := ownsRow_formW hst.arow (by rw [pathS_len]; omega)
    rw [pathS_len] at hav
    subst hav
    have HP := Lib.hid (And.intro hst hp)
    clear hst hp
    go_upto_if 22 with (fail)
    go_cut [1, 12] (fun lv fv wx => ∃ (lst' : List (List UInt8)) (f' : Nat) (lq' : Option Addr) (lqc' : Nat), lv = .slice lq' lst'.length lqc' ∧ fv = .int .i64 f' ∧ StrAt w (.slice la l0.length lc) B lst' (stkT stk) (pathS stk k) lv (.slice sq stk.length sqc) (.slice (some ⟨aq, 0, none⟩) (stk.length + 1) aqc) wx ∧
      MidP (dM rows) en sets.length n many (costC (n - stk.length) f + costS stk (n - stk.length)) l0 lst' stk k f')
    case first =>
      by_cases hw : stk.length = n
      · have tw : ((stk.length : Int) == (n : Int)) = true := by rw [hw]; simp
        have hf0 := HP.out.2.f0 hw
        subst hf0
        have hex := HP.out.2.ex rfl
        rw [hw, Nat.sub_self] at hex
        have hsr := HP.out.1.srow
        rw [stkT_len, ← stkT_len stk] at hsr
        have hcv := conv_row hsr
        rw [stkT_len] at hcv
        have hrow := HP.out.1.lrow
        have hsz := HP.out.1.size
        have hfew := HP.out.2.few
        have hlw := rem_word (dM rows) en stk k hex
        have hall := HP.out.2.all
        rw [hw, Nat.sub_self, hlw] at hall
        have HQ := Lib.hid (And.intro hall hlw)
        have HW := Lib.hid hw
        clear hall hlw hsr hex hw
        have hBw : B ≤ wr.heap.size + 1 := by omega
        by_cases hfull : lst.length + 1 = many
        · have tf : ((lst.length : Int) + 1 == (many : Int)) = true := by rw [← hfull]; simp
          have HFu := Lib.hid hfull
          clear hfull
          go_wp2_with (at_builtin; refine append_big elem_str rfl _ _ _ rfl (by kernel_rfl) B _ lst.length (strC lst) rfl (hrow.alloc _) (by omega) wr.heap.size 1 [.string ⟨(stkT stk).toArray⟩] rfl rfl (heap_alloc_new ..) (one_str _) (by simp; omega) ?_; intro g3 c3 w3 hrow3 hg3 hl3; have HA := Lib.hid ((HP.out.1.below ((Below.refl wr.heap.size wr).alloc (Nat.le_refl _) _)).putL hg3 hrow3 hl3); clear hrow3 hg3 hl3)
          go_ret
          refine ⟨_, rfl, HA.out.os, HA.out.tape, HA.out.output, HA.out.size, HA.out.keep, ?_, HA.out.lown⟩
          have e : (l0 ++ allW (dM rows) en n 0).take many = lst ++ [stkT stk] := by
            rw [← HQ.out.1, ← HFu.out, show lst ++ stkT stk :: remA (dM rows) en stk 0 k 256 = (lst ++ [stkT stk]) ++ remA (dM rows) en stk 0 k 256 by simp]
            rw [List.take_append_of_le_length (by simp), List.take_of_length_le (by simp)]
          rw [e, List.length_append]
          have := HA.out.lrow
          rw [List.length_append] at this
          exact this
        · have tf : ((lst.length : Int) + 1 == (many : Int)) = false := by rw [beq_eq_false_iff_ne]; omega
          by_cases hn0 : n = 0
          · have tn : ((n : Int) == 0) = true := by rw [hn0]; rfl
            have hst0 : stk = [] := List.eq_nil_of_length_eq_zero (by have := HW.out; omega)
            have HT := Lib.hid hst0
            clear hst0
            go_wp2_with (at_builtin; refine append_big elem_str rfl _ _ _ rfl (by kernel_rfl) B _ lst.length (strC lst) rfl (hrow.alloc _) (by omega) wr.heap.size 1 [.string ⟨(stkT stk).toArray⟩] rfl rfl (heap_alloc_new ..) (one_str _) (by simp; omega) ?_; intro g3 c3 w3 hrow3 hg3 hl3; have HA := Lib.hid ((HP.out.1.below ((Below.refl wr.heap.size wr).alloc (Nat.le_refl _) _)).putL hg3 hrow3 hl3); clear hrow3 hg3 hl3)
            go_ret
            refine ⟨_, rfl, HA.out.os, HA.out.tape, HA.out.output, HA.out.size, HA.out.keep, ?_, HA.out.lown⟩
            have e : (l0 ++ allW (dM rows) en n 0).take many = lst ++ [stkT stk] := by
              rw [← HQ.out.1, HT.out, rem_end]
              rw [List.take_of_length_le (by simp; omega)]
            rw [e, List.length_append]
            have := HA.out.lrow
            rw [List.length_append] at this
            exact this
          · have tn : ((n : Int) == 0) = false := by rw [beq_eq_false_iff_ne]; omega
            go_wp2_with (at_builtin; refine append_big elem_str rfl _ _ _ rfl (by kernel_rfl) B _ lst.length (strC lst) rfl (hrow.alloc _) (by omega) wr.heap.size 1 [.string ⟨(stkT stk).toArray⟩] rfl rfl (heap_alloc_new ..) (one_str _) (by simp; omega) ?_; intro g3 c3 w3 hrow3 hg3 hl3; have HA := Lib.hid ((HP.out.1.below ((Below.refl wr.heap.size wr).alloc (Nat.le_refl _) _)).putL hg3 hrow3 hl3); clear hrow3 hg3 hl3)
            go_meet
            case rel =>
              refine ⟨lst ++ [stkT stk], 256, some ⟨g3, 0, none⟩, c3, by rw [List.length_append]; rfl, rfl, HA.out, ?_⟩
              have hp := HP.out.2
              refine ⟨hp.dep, hp.kN, hp.sN, Nat.le_refl _, fun _ => ⟨rfl, hn0⟩, by simp; omega, ?_, ?_⟩
              · rw [← HQ.out.1, HW.out, Nat.sub_self]
                simp
              · have := cost_mono (n - stk.length) (show 0 ≤ 256 by decide)
                omega
      · have tw : ((stk.length : Int) == (n : Int)) = false := by rw [beq_eq_false_iff_ne]; omega
        go_wp2_with fail
        go_meet
        case rel =>
          have hp := HP.out.2
          exact ⟨lst, f, lq, lqc, rfl, rfl, HP.out.1, hp.dep, hp.kN, hp.sN, hp.f256, fun h => absurd h hw, hp.few, hp.all, Nat.le_refl _⟩
    case rest =>
      clear HP
      obtain ⟨lst', f', lq', lqc', rfl, rfl, hst, hm⟩ := hcut
      have hM := HI.out.1
      have hdl := hm.dep
      have hpl := pathS_len stk k
      have har := hst.arow
      rw [hpl] at har
      have hcell : wc.cell? ⟨aq, stk.length, none⟩ = (i16C (pathS stk k))[stk.length]? := World.ownsRow.cellAt har stk.length (by omega)
      rw [i16C_get (by rw [hpl]; omega)] at hcell
      rw [pathS_last] at hcell
      have wl : IntKind.i64.wrap ((stk.length : Int) + 1 - 1) = (stk.length : Int) := by rw [IntWalk.i64_in _ ⟨by omega, by omega⟩]; omega
      have nl : ((stk.length : Int)).toNat = stk.length := by omega
      have HP := Lib.hid (And.intro hst hm)
      clear hst hm hM har hpl
      go_upto_region 12 with fail
      clear hcell wl
      go_loopw [14] (fun bv wr => ∃ b : Nat, bv = .int .i64 b ∧ f' ≤ b ∧ b ≤ 256 ∧ remA (dM rows) en stk (n - stk.length) k b = remA (dM rows) en stk (n - stk.length) k f' ∧ StrAt w (.slice la l0.length lc) B lst' (stkT stk) (pathS stk k) (.slice lq' lst'.length lqc') (.slice sq stk.length sqc) (.slice (some ⟨aq, 0, none⟩) (stk.length + 1) aqc) wr) (fun bv _ => 256 - (intOf bv).toNat)
      case atStart => exact ⟨f', rfl, Nat.le_refl _, HP.out.2.f256, rfl, HP.out.1⟩
      case round =>
        have HP := Lib.hid HP.out.2
        obtain ⟨wq, rfl⟩ : ∃ wq, wq = wr := ⟨_, rfl⟩
        obtain ⟨b, rfl, hfb, hb6, hrem, hst⟩ := hrel
        have hwz := hst.size
        by_cases hlb : b < 256
        · have tb : (b : Int) < 256 := by omega
          have wb : IntKind.i64.wrap ((b : Int) + 1) = (b : Int) + 1 := IntWalk.i64_in _ ⟨by omega, by omega⟩
          have hnb : ((b : Int)).toNat = b := by omega
          obtain ⟨r, hr⟩ : ∃ r, n = stk.length + r + 1 := ⟨n - stk.length - 1, by
            have h1 : stk.length ≠ n := fun e => by have := (HP.out.f0 e).1; omega
            omega⟩
          have hr2 : n - stk.length = r + 1 := by omega
          have w1 : IntKind.i64.wrap ((n : Int) - (stk.length : Int)) = (r : Int) + 1 := by rw [IntWalk.i64_in _ ⟨by omega, by omega⟩]; omega
          have w2 : IntKind.i64.wrap ((r : Int) + 1 - 1) = (r : Int) := by rw [IntWalk.i64_in _ ⟨by omega, by omega⟩]; omega
          have nr : ((r : Int)).toNat = r := by omega
          have tr : (r : Int) < (n : Int) + 1 := by omega
          have hkN := HP.out.kN
          have hM := HI.out.1
          have hnrow := hM.nrow
          have hs := List.getElem?_eq_getElem hkN
          have hrl := hM.half.rl
          have tk : (k : Int) < (rows.length : Int) := by omega
          have nk : ((k : Int)).toNat = k := by omega
          have hKeep : ∀ q, q < w.heap.size → (∀ cs T m, w.heap[q]? = some (.cells cs T m) → T ≠ 9) → wq.heap[q]? = w.heap[q]? := fun q hq hT => hst.keep q hq fun e => by
            obtain ⟨cu, hcu⟩ := row_cell HI.out.2.2.2 e
            exact hT _ _ _ hcu rfl
          have m0 : wq.cell? ⟨MB, 0, none⟩ = some (.slice (some ⟨g1, 0, none⟩) rows.length k1) := by
            rw [World.cell?_of_block (hKeep MB (lt_of_block HI.out.2.1) fun cs T m h => by rw [HI.out.2.1] at h; injection h with h; injection h with _ h2 _; rw [← h2]; decide), Lib.cell_of_heap HI.out.2.1]; rfl
          have q1 : wq.cell? ⟨g1, k * 256 + b, none⟩ = some (.int .i16 (dM rows k b : Nat)) := by
            rw [World.cell?_of_block (hKeep g1 hg1 fun cs T m h => by
              obtain ⟨cu, hcu⟩ := row_cell hnrow rfl
              rw [hcu] at h; injection h with h; injection h with _ h2 _; rw [← h2]; decide)]
            exact (World.ownsRow.cellAt hnrow (k * 256 + b) (by omega)).trans (hM.dstep hs hlb).1
          have hlt := HI.out.2.2.1.keep HI.out.2.2.2 hst.keep
          obtain ⟨gj, cj, z0, z1⟩ := hlt.at (j := r) (by omega)
          have q2 := z1 _ (hM.dlt hkN hlb)
          have dl := hM.dlt hkN hlb
          obtain ⟨u, hu⟩ : ∃ u, u = dM rows k b := ⟨_, rfl⟩
          rw [← hu] at q1 q2 dl
          have nu : ((u : Int)).toNat = u := by omega
          have tu : (u : Int) < (sets.length : Int) := by omega
          have HB := Lib.hid (And.intro hst (And.intro hrem (And.intro hr2 (And.intro hu hr))))
          clear hst hrem hr2 hu hr hM hnrow hs hKeep hlt z1 hrl
          cases hv : exB (dM rows) en r u with
          | false =>
            rw [hv] at q2
            have HV := Lib.hid hv
            clear hv
            go_upto_region 12 with fail
            go_quiet (fail)
            have HN := Lib.hid (HB.out.1.below (W' := wq.drewN nq) ⟨rfl, rfl, rfl, Nat.le_refl _, fun _ _ => rfl⟩)
            go_wp2_with fail
            refine ⟨⟨b + 1, by simp, by omega, by omega, ?_, HN.out⟩, by simp [intOf]; omega⟩
            obtain ⟨_, hrem, hr2, hu, hr⟩ := HB.out
            rw [← hrem, hr2]
            unfold remA
            rw [cur_skip (dM rows) en hlb (by rw [← hu]; exact HV.out)]
          | true =>
            rw [hv] at q2
            have HV := Lib.hid hv
            clear hv
            go_upto_region 12 with fail
            go_quiet (fail)
            go_upto_region 15 with fail
            clear z0 q2
            have hdr : Below wq.heap.size wq (wq.drewN nq) := ⟨rfl, rfl, rfl, Nat.le_refl _, fun _ _ => rfl⟩
            have m0' : (wq.drewN nq).cell? ⟨MB, 0, none⟩ = some (.slice (some ⟨g1, 0, none⟩) rows.length k1) := m0
            have q1' : (wq.drewN nq).cell? ⟨g1, k * 256 + b, none⟩ = some (.int .i16 (u : Nat)) := q1
            obtain ⟨hst, hrem, hr2, hu, hr⟩ := HB.out
            have hst2 := hst.below hdr
            clear m0 q1 hdr hst HB
            have hzw : w.heap.size ≤ (wq.drewN nq).heap.size := hwz
            generalize wq.drewN nq = W2 at *
            have hst3 := hst2.below (W' := W2.drew) ⟨rfl, rfl, rfl, Nat.le_refl _, fun _ _ => rfl⟩
            have hbb : bytC [UInt8.ofNat b] = [Value.int .u8 (b : Nat)] := by simp only [bytC, List.map_cons, List.map_nil, ofNat_toNat8 hlb]
            have hw8 : IntKind.u8.wrap (b : Int) = (b : Int) := by unfold IntKind.wrap; simp [IntKind.bits, IntKind.signed]; omega
            have hsl := stkT_len stk
            have hpl := pathS_len stk k
            have HS2 := Lib.hid (show ∀ W : World, (∃ ls sl al a1 a2 a3, StrAt w (.slice la l0.length lc) B ls sl al a1 a2 a3 W) → W.cell? ⟨MB, 0, none⟩ = some (.slice (some ⟨g1, 0, none⟩) rows.length k1) ∧ W.cell? ⟨g1, k * 256 + b, none⟩ = some (.int .i16 (u : Nat)) from fun W ⟨ls, sl, al, a1, a2, a3, hW⟩ => by
              have hKeep : ∀ q, q < w.heap.size → (∀ cs T m, w.heap[q]? = some (.cells cs T m) → T ≠ 9) → W.heap[q]? = w.heap[q]? := fun q hq hT => hW.keep q hq fun e => by
                obtain ⟨cu, hcu⟩ := row_cell HI.out.2.2.2 e
                exact hT _ _ _ hcu rfl
              have hM := HI.out.1
              have hnrow := hM.nrow
              have hrl := hM.half.rl
              refine ⟨?_, ?_⟩
              · rw [World.cell?_of_block (hKeep MB (lt_of_block HI.out.2.1) fun cs T m h => by rw [HI.out.2.1] at h; injection h with h; injection h with _ h2 _; rw [← h2]; decide), Lib.cell_of_heap HI.out.2.1]; rfl
              · rw [World.cell?_of_block (hKeep g1 hg1 fun cs T m h => by
                  obtain ⟨cu, hcu⟩ := row_cell hnrow rfl
                  rw [hcu] at h; injection h with h; injection h with _ h2 _; rw [← h2]; decide), hu]
                exact (World.ownsRow.cellAt hnrow (k * 256 + b) (by omega)).trans (hM.dstep (List.getElem?_eq_getElem hkN) hlb).1)
            have HSA := Lib.hid (fun (W : World) (o : Obj) (h : W.cell? ⟨MB, 0, none⟩ = some (.slice (some ⟨g1, 0, none⟩) rows.length k1) ∧ W.cell? ⟨g1, k * 256 + b, none⟩ = some (.int .i16 (u : Nat))) => (And.intro (Lib.cell?_alloc_some (W := W) o h.1) (Lib.cell?_alloc_some (W := W) o h.2)))
            have HB := Lib.hid (And.intro hst3 (And.intro hrem (And.intro hr2 (And.intro hu (And.intro hr (And.intro hbb (And.intro hsl hpl)))))))
            clear hst2 hst3 hrem hr2 hu hr hbb hsl hpl
            go_region_held3 (fun w' => w'.cell? ⟨MB, 0, none⟩ = some (.slice (some ⟨g1, 0, none⟩) rows.length k1) ∧ w'.cell? ⟨g1, k * 256 + b, none⟩ = some (.int .i16 (u : Nat)))
              (first | assumption | exact ⟨m0', q1'⟩ | (refine HSA.out _ _ ?_; first | assumption | exact ⟨m0', q1'⟩) | (refine HSA.out _ _ (HSA.out _ _ ?_); first | assumption | exact ⟨m0', q1'⟩))
              (first
                | (refine step_append_big elem_u8 rfl _ _ 46 rfl Try.underlying46 w.heap.size _ stk.length (bytC (stkT stk)) rfl (by have h := ((HB.out.1).below ((Below.refl W2.drew.heap.size W2.drew).alloc (Nat.le_refl _) (.cells #[.int .u8 (b : Nat)] 5 (0, 0)))).srow; rw [HB.out.2.2.2.2.2.2.1] at h; exact h) (by omega) W2.heap.size 1 [.int .u8 (b : Nat)] rfl rfl (heap_alloc_new W2.drew _) (one_int _ _) (by first | omega | (simp; omega)) ?_
                   intro g4 c4 w4 hr4 hg4 hl4
                   have h4 := ((HB.out.1).below ((Below.refl W2.drew.heap.size W2.drew).alloc (Nat.le_refl _) (.cells #[.int .u8 (b : Nat)] 5 (0, 0)))).putS (t := UInt8.ofNat b) (v := .slice (some ⟨g4, 0, none⟩) (stk.length + 1) c4) hg4 (by rw [HB.out.2.2.2.2.2.2.1, HB.out.2.2.2.2.2.1]; exact hr4)
                   have hsw4 : w4.heap.size ≥ w.heap.size := h4.size
                   have hS4 : w4.cell? ⟨MB, 0, none⟩ = some (.slice (some ⟨g1, 0, none⟩) rows.length k1) ∧ w4.cell? ⟨g1, k * 256 + b, none⟩ = some (.int .i16 (u : Nat)) := HS2.out w4 ⟨_, _, _, _, _, _, h4⟩
                   have H4 := Lib.hid h4
                   clear hr4 hg4 hl4 h4)
                | (refine step_append_big elem_u8 rfl _ _ 46 rfl Try.underlying46 w.heap.size _ stk.length (bytC (stkT stk)) rfl (by have h := (((HB.out.1).below ((Below.refl W2.drew.heap.size W2.drew).alloc (Nat.le_refl _) (.cells #[.int .u8 (b : Nat)] 5 (0, 0)))).below ((Below.refl (W2.drew.alloc (.cells #[.int .u8 (b : Nat)] 5 (0, 0))).heap.size (W2.drew.alloc (.cells #[.int .u8 (b : Nat)] 5 (0, 0)))).alloc (Nat.le_refl _) (.cells #[.int .i16 (u : Nat)] 61 (0, 0)))).srow; rw [HB.out.2.2.2.2.2.2.1] at h; exact h) (by omega) W2.heap.size 1 [.int .u8 (b : Nat)] rfl rfl (pair1 W2.drew _ _) (one_int _ _) (by first | omega | (simp; omega)) ?_
                   intro g4 c4 w4 hr4 hg4 hl4
                   have h4 := (((HB.out.1).below ((Below.refl W2.drew.heap.size W2.drew).alloc (Nat.le_refl _) (.cells #[.int .u8 (b : Nat)] 5 (0, 0)))).below ((Below.refl (W2.drew.alloc (.cells #[.int .u8 (b : Nat)] 5 (0, 0))).heap.size (W2.drew.alloc (.cells #[.int .u8 (b : Nat)] 5 (0, 0)))).alloc (Nat.le_refl _) (.cells #[.int .i16 (u : Nat)] 61 (0, 0)))).putS (t := UInt8.ofNat b) (v := .slice (some ⟨g4, 0, none⟩) (stk.length + 1) c4) hg4 (by rw [HB.out.2.2.2.2.2.2.1, HB.out.2.2.2.2.2.1]; exact hr4)
                   have hsw4 : w4.heap.size ≥ w.heap.size := h4.size
                   have hS4 : w4.cell? ⟨MB, 0, none⟩ = some (.slice (some ⟨g1, 0, none⟩) rows.length k1) ∧ w4.cell? ⟨g1, k * 256 + b, none⟩ = some (.int .i16 (u : Nat)) := HS2.out w4 ⟨_, _, _, _, _, _, h4⟩
                   have H4 := Lib.hid (And.intro h4 ((hg4.block _ (lt_of_block (pair2 W2.drew (.cells #[.int .u8 (b : Nat)] 5 (0, 0)) (.cells #[.int .i16 (u : Nat)] 61 (0, 0)))) (fun e => row_ne (((HB.out.1).below ((Below.refl W2.drew.heap.size W2.drew).alloc (Nat.le_refl _) (.cells #[.int .u8 (b : Nat)] 5 (0, 0)))).below ((Below.refl (W2.drew.alloc (.cells #[.int .u8 (b : Nat)] 5 (0, 0))).heap.size (W2.drew.alloc (.cells #[.int .u8 (b : Nat)] 5 (0, 0)))).alloc (Nat.le_refl _) (.cells #[.int .i16 (u : Nat)] 61 (0, 0)))).srow (pair2 W2.drew (.cells #[.int .u8 (b : Nat)] 5 (0, 0)) (.cells #[.int .i16 (u : Nat)] 61 (0, 0))) (by decide) e.symm)).trans (pair2 W2.drew (.cells #[.int .u8 (b : Nat)] 5 (0, 0)) (.cells #[.int .i16 (u : Nat)] 61 (0, 0)))))
                   clear hr4 hg4 hl4 h4)
                | (refine step_append_big elem_u8 rfl _ _ 46 rfl Try.underlying46 w.heap.size _ stk.length (bytC (stkT stk)) rfl (by have h := (((HB.out.1).below ((Below.refl W2.drew.heap.size W2.drew).alloc (Nat.le_refl _) (.cells #[.int .i16 (u : Nat)] 61 (0, 0)))).below ((Below.refl (W2.drew.alloc (.cells #[.int .i16 (u : Nat)] 61 (0, 0))).heap.size (W2.drew.alloc (.cells #[.int .i16 (u : Nat)] 61 (0, 0)))).alloc (Nat.le_refl _) (.cells #[.int .u8 (b : Nat)] 5 (0, 0)))).srow; rw [HB.out.2.2.2.2.2.2.1] at h; exact h) (by omega) (W2.heap.size + 1) 1 [.int .u8 (b : Nat)] rfl rfl (pair2 W2.drew _ _) (one_int _ _) (by first | omega | (simp; omega)) ?_
                   intro g4 c4 w4 hr4 hg4 hl4
                   have h4 := (((HB.out.1).below ((Below.refl W2.drew.heap.size W2.drew).alloc (Nat.le_refl _) (.cells #[.int .i16 (u : Nat)] 61 (0, 0)))).below ((Below.refl (W2.drew.alloc (.cells #[.int .i16 (u : Nat)] 61 (0, 0))).heap.size (W2.drew.alloc (.cells #[.int .i16 (u : Nat)] 61 (0, 0)))).alloc (Nat.le_refl _) (.cells #[.int .u8 (b : Nat)] 5 (0, 0)))).putS (t := UInt8.ofNat b) (v := .slice (some ⟨g4, 0, none⟩) (stk.length + 1) c4) hg4 (by rw [HB.out.2.2.2.2.2.2.1, HB.out.2.2.2.2.2.1]; exact hr4)
                   have hsw4 : w4.heap.size ≥ w.heap.size := h4.size
                   have hS4 : w4.cell? ⟨MB, 0, none⟩ = some (.slice (some ⟨g1, 0, none⟩) rows.length k1) ∧ w4.cell? ⟨g1, k * 256 + b, none⟩ = some (.int .i16 (u : Nat)) := HS2.out w4 ⟨_, _, _, _, _, _, h4⟩
                   have H4 := Lib.hid (And.intro h4 ((hg4.block _ (lt_of_block (pair1 W2.drew (.cells #[.int .i16 (u : Nat)] 61 (0, 0)) (.cells #[.int .u8 (b : Nat)] 5 (0, 0)))) (fun e => row_ne (((HB.out.1).below ((Below.refl W2.drew.heap.size W2.drew).alloc (Nat.le_refl _) (.cells #[.int .i16 (u : Nat)] 61 (0, 0)))).below ((Below.refl (W2.drew.alloc (.cells #[.int .i16 (u : Nat)] 61 (0, 0))).heap.size (W2.drew.alloc (.cells #[.int .i16 (u : Nat)] 61 (0, 0)))).alloc (Nat.le_refl _) (.cells #[.int .u8 (b : Nat)] 5 (0, 0)))).srow (pair1 W2.drew (.cells #[.int .i16 (u : Nat)] 61 (0, 0)) (.cells #[.int .u8 (b : Nat)] 5 (0, 0))) (by decide) e.symm)).trans (pair1 W2.drew (.cells #[.int .i16 (u : Nat)] 61 (0, 0)) (.cells #[.int .u8 (b : Nat)] 5 (0, 0)))))
                   clear hr4 hg4 hl4 h4)
                | (refine step_append_big elem_i16 rfl _ _ 110 rfl Try.underlying110 w.heap.size _ (stk.length + 1) (i16C (pathS stk k)) rfl (by have h := (H4.out.below ((Below.refl w4.heap.size w4).alloc (Nat.le_refl _) (.cells #[.int .i16 (u : Nat)] 61 (0, 0)))).arow; rw [HB.out.2.2.2.2.2.2.2] at h; exact h) (by omega) w4.heap.size 1 [.int .i16 (u : Nat)] rfl rfl (heap_alloc_new w4 _) (one_int _ _) (by first | omega | (simp; omega)) ?_
                   intro g5 c5 w5 hr5 hg5 hl5
                   have h5 := (H4.out.below ((Below.refl w4.heap.size w4).alloc (Nat.le_refl _) (.cells #[.int .i16 (u : Nat)] 61 (0, 0)))).putA (k := u) (v := .slice (some ⟨g5, 0, none⟩) (stk.length + 1 + 1) c5) hg5 (by rw [HB.out.2.2.2.2.2.2.2]; exact hr5)
                   have hS5 : w5.cell? ⟨MB, 0, none⟩ = some (.slice (some ⟨g1, 0, none⟩) rows.length k1) ∧ w5.cell? ⟨g1, k * 256 + b, none⟩ = some (.int .i16 (u : Nat)) := HS2.out w5 ⟨_, _, _, _, _, _, h5⟩
                   have H5 := Lib.hid h5
                   clear hr5 hg5 hl5 h5)
                | (refine step_append_big elem_i16 rfl _ _ 110 rfl Try.underlying110 w.heap.size _ (stk.length + 1) (i16C (pathS stk k)) rfl (by have h := (H4.out.1).arow; rw [HB.out.2.2.2.2.2.2.2] at h; exact h) (by omega) (W2.heap.size + 1) 1 [.int .i16 (u : Nat)] rfl rfl H4.out.2 (one_int _ _) (by first | omega | (simp; omega)) ?_
                   intro g5 c5 w5 hr5 hg5 hl5
                   have h5 := (H4.out.1).putA (k := u) (v := .slice (some ⟨g5, 0, none⟩) (stk.length + 1 + 1) c5) hg5 (by rw [HB.out.2.2.2.2.2.2.2]; exact hr5)
                   have hS5 : w5.cell? ⟨MB, 0, none⟩ = some (.slice (some ⟨g1, 0, none⟩) rows.length k1) ∧ w5.cell? ⟨g1, k * 256 + b, none⟩ = some (.int .i16 (u : Nat)) := HS2.out w5 ⟨_, _, _, _, _, _, h5⟩
                   have H5 := Lib.hid h5
                   clear hr5 hg5 hl5 h5)
                | (refine step_append_big elem_i16 rfl _ _ 110 rfl Try.underlying110 w.heap.size _ (stk.length + 1) (i16C (pathS stk k)) rfl (by have h := (H4.out.1).arow; rw [HB.out.2.2.2.2.2.2.2] at h; exact h) (by omega) W2.heap.size 1 [.int .i16 (u : Nat)] rfl rfl H4.out.2 (one_int _ _) (by first | omega | (simp; omega)) ?_
                   intro g5 c5 w5 hr5 hg5 hl5
                   have h5 := (H4.out.1).putA (k := u) (v := .slice (some ⟨g5, 0, none⟩) (stk.length + 1 + 1) c5) hg5 (by rw [HB.out.2.2.2.2.2.2.2]; exact hr5)
                   have hS5 : w5.cell? ⟨MB, 0, none⟩ = some (.slice (some ⟨g1, 0, none⟩) rows.length k1) ∧ w5.cell? ⟨g1, k * 256 + b, none⟩ = some (.int .i16 (u : Nat)) := HS2.out w5 ⟨_, _, _, _, _, _, h5⟩
                   have H5 := Lib.hid h5
                   clear hr5 hg5 hl5 h5))
            all_goals
              go_wp2_with fail
              go_roundg (costC r 0 + costS ((k, b) :: stk) r)
              case measure =>
                have h1 := HP.out.cost
                have h2 := cost_push (st := stk) (r := r) (k := k) hfb hlb
                rw [HB.out.2.2.1] at h1 ⊢
                omega
              case rel =>
                refine ⟨lst', (k, b) :: stk, u, 0, rfl, ?_, ?_, ?_⟩
                · rw [List.length_cons, show n - (stk.length + 1) = r by have := HB.out.2.2.2.2.1; omega]
                · rw [stkT_cons, pathS_cons]
                  exact H5.out
                · have hm := HP.out
                  obtain ⟨_, hrem, hr2, hu, hr, _⟩ := HB.out
                  refine ⟨by rw [List.length_cons]; omega, dl, fun p hp => ?_, by decide, fun _ => rfl, fun _ => ?_, hm.few, ?_⟩
                  · rcases List.mem_cons.1 hp with rfl | hp
                    · exact ⟨hm.kN, hlb⟩
                    · exact hm.sN p hp
                  · rw [List.length_cons, show n - (stk.length + 1) = r by omega]
                    exact HV.out
                  · rw [List.length_cons, show n - (stk.length + 1) = r by omega, hu, ← rem_push (dM rows) en hlb, ← hr2, hrem]
                    exact hm.all
        · have tb : decide ((b : Int) < 256) = false := decide_eq_false (by omega)
          obtain rfl : b = 256 := by omega
          have hsl := stkT_len stk
          have hpl := pathS_len stk k
          cases stk with
          | nil =>
            have hm := HP.out
            have hall := hm.all
            rw [← hrem, rem_end, List.append_nil] at hall
            have hfew := hm.few
            have HB := Lib.hid (And.intro hst hall)
            clear hst hall hm hrem
            go_upto_region 12 with fail
            go_quiet (fail)
            have HN := Lib.hid (HB.out.1.below (W' := wq.drewN nq) ⟨rfl, rfl, rfl, Nat.le_refl _, fun _ _ => rfl⟩)
            go_wp2_with fail
            go_ret
            refine ⟨_, rfl, HN.out.os, HN.out.tape, HN.out.output, HN.out.size, HN.out.keep, ?_, HN.out.lown⟩
            rw [← HB.out.2, List.take_of_length_le (by omega)]
            exact HN.out.lrow
          | cons p stk =>
            obtain ⟨k', b'⟩ := p
            have hm := HP.out
            obtain ⟨hk', hb'⟩ := hm.sN (k', b') (by simp)
            have hdl2 := hm.dep
            simp only [List.length_cons] at hdl2
            have hall := hm.all
            rw [← hrem, rem_pop] at hall
            have hsn := hm.sN
            have hfew := hm.few
            have hcost := hm.cost
            have hpop := cost_pop stk (n - (stk.length + 1)) k' b' f'
            have hst2 := hst
            rw [stkT_cons, pathS_cons] at hst2
            have hcz := hcost
            simp only [List.length_cons] at hall hcz hst2 hsqc hdl nl
            have hss := hst2.srow
            obtain ⟨gs, cs, hq⟩ := ownsRow_formW hss (by simp)
            have hq1 : sq = some ⟨gs, 0, none⟩ := by injection hq
            clear hq
            subst hq1
            have hsl2 : (stkT stk ++ [UInt8.ofNat b']).length = stk.length + 1 := by simp [stkT_len]
            have hpl2 : (pathS stk k' ++ [k]).length = stk.length + 1 + 1 := by simp [pathS_len]
            rw [hsl2] at hss
            have c0 : wq.cell? ⟨gs, stk.length, none⟩ = (bytC (stkT stk ++ [UInt8.ofNat b']))[stk.length]? := World.ownsRow.cellAt hss stk.length (by omega)
            rw [bytC_get (by rw [hsl2]; omega)] at c0
            have hlast : (stkT stk ++ [UInt8.ofNat b']).getD stk.length 0 = UInt8.ofNat b' := by simp [List.getD, stkT_len]
            rw [hlast, ofNat_toNat8 hb'] at c0
            have c0' : ∀ N, (wq.drewN N).cell? ⟨gs, stk.length, none⟩ = some (.int .u8 (b' : Nat)) := fun N => c0
            have hpop2 : StrAt w (.slice la l0.length lc) B lst' (stkT stk) (pathS stk k') (.slice lq' lst'.length lqc') (.slice (some ⟨gs, 0, none⟩) stk.length sqc) (.slice (some ⟨aq, 0, none⟩) (stk.length + 1) aqc) wq := by
              have h := StrAt.pop (gs := gs) (cs := sqc) (ga := aq) (ca := aqc) (by rw [stkT_len, pathS_len]; exact hst2)
              rw [stkT_len, pathS_len] at h
              exact h
            have haq : stk.length + 1 + 1 ≤ aqc := by
              have h := hst2.arow
              rw [hpl2] at h
              obtain ⟨_, _, h1, h2, _⟩ := row_slice h
              injection h1 with _ _ h3
              omega
            have hts := fun W => run_takeN (P := Try.prog) W 46 (some ⟨gs, 0, none⟩) (stk.length + 1) sqc stk.length Try.underlying46 (fun W => by kernel_rfl) (by omega)
            have hta : ∀ W, (Instr.slice 110 (.slice (some ⟨aq, 0, none⟩) (stk.length + 1 + 1) aqc) none (some (.int .i64 ((stk.length : Int) + 1))) none).run Try.prog W = .ok (.slice (some ⟨aq, 0, none⟩) (stk.length + 1) aqc) W := fun W => run_takeN (P := Try.prog) W 110 (some ⟨aq, 0, none⟩) (stk.length + 1 + 1) aqc (stk.length + 1) Try.underlying110 (fun W => by kernel_rfl) (by omega)
            have w1 : IntKind.i64.wrap ((stk.length : Int) + 1 - 1) = (stk.length : Int) := by rw [IntWalk.i64_in _ ⟨by omega, by omega⟩]; omega
            have w2 : IntKind.i64.wrap ((stk.length : Int) + 1 + 1 - 1) = (stk.length : Int) + 1 := by rw [IntWalk.i64_in _ ⟨by omega, by omega⟩]; omega
            have t0 : ((stk.length : Int) + 1 == 0) = false := by rw [beq_eq_false_iff_ne]; omega
            have wb : IntKind.i64.wrap ((b' : Int) + 1) = (b' : Int) + 1 := IntWalk.i64_in _ ⟨by omega, by omega⟩
            have HB := Lib.hid (And.intro hpop2 (And.intro hall (And.intro hsn (And.intro hk' (And.intro hb' (And.intro hcost hpop))))))
            clear hst hst2 hrem hm hall hsn hk' hpop hpop2 hcost hcz hss hsl2 hpl2 hsl hpl HP hlast
            simp only [List.length_cons]
            go_upto_region 12 with fail
            go_quiet (fail)
            go_upto_region 19 with fail
            have HN := Lib.hid (HB.out.1.below (W' := wq.drewN nq) ⟨rfl, rfl, rfl, Nat.le_refl _, fun _ _ => rfl⟩)
            clear c0 c0'
            generalize wq.drewN nq = W5 at *
            go_quiet (fail)
            have HN := Lib.hid (HN.out.below (W' := W5.drewN nq) ⟨rfl, rfl, rfl, Nat.le_refl _, fun _ _ => rfl⟩)
            go_wp2_with fail
            obtain ⟨hpop2, hall, hsn, hk', hb', hcost, hpop⟩ := HB.out
            go_roundg (costC (n - stk.length) (b' + 1) + costS stk (n - stk.length))
            case measure =>
              rw [show n - (stk.length + 1) + 1 = n - stk.length by omega] at hpop
              simp only [List.length_cons] at hcost ⊢
              omega
            case rel =>
              refine ⟨lst', stk, k', b' + 1, by simp, rfl, HN.out, ?_⟩
              refine ⟨by omega, hk', fun p hp => hsn p (by simp [hp]), by omega, fun h => by omega, fun h => by omega, hfew, ?_⟩
              rw [show n - (stk.length + 1) + 1 = n - stk.length by omega] at hall
              exact hall

end Go.Proofs.Ytebcflgdjbjkoaa
