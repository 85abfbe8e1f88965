/- pattern.bytes and pattern.Goes, from what pattern.build does; no condition beyond those that stand there. -/
import Derived.Deep.MidRow
import Derived.Test.YtebcflgdjbjkoaaLive
import Derived.Test.YtebcflgdjbjkoaaLists
namespace Go.Proofs.Ytebcflgdjbjkoaa
open Go.RowKit

theorem idx256 (w : World) (G : Array Value) (i : Int) (v : Value) (h0 : 0 ≤ i) (h8 : i < 256) (hv : G[i.toNat]? = some v) : (Instr.index 78 (.agg G) (.int .i64 i)).run Try.prog w = .ok v w := by
  have h : Try.prog.underlying 78 = some (.array 256 4) := by kernel_rfl
  have hn : (0 ≤ i ∧ i < (256 : Int)) := by omega
  simp [Instr.index, run_underlying h, asIntOf, hn, go_sem]
  rw [hv]
  rfl
theorem ext_all {G : Array Value} {n : Nat} (h : G.size = n) : G.extract 0 (0 + n) = G := by
  subst h
  simp
/-- The bytes below b that are in a set. -/
def bytF (g : Nat → Bool) (b : Nat) : List UInt8 := ((List.range b).filter g).map UInt8.ofNat
theorem bytF_succ (g : Nat → Bool) (b : Nat) : bytF g (b + 1) = bytF g b ++ (if g b then [UInt8.ofNat b] else []) := by
  unfold bytF
  rw [List.range_succ, List.filter_append, List.map_append]
  congr 1
  cases h : g b <;> simp [h]
theorem bytF_len (g : Nat → Bool) (b : Nat) : (bytF g b).length ≤ b := by
  unfold bytF
  rw [List.length_map]
  have := List.length_filter_le g (List.range b)
  rw [List.length_range] at this
  exact this
theorem bytF_mem (g : Nat → Bool) (c : UInt8) : c ∈ bytF g 256 ↔ g c.toNat = true := by
  unfold bytF
  rw [List.mem_map]
  constructor
  · rintro ⟨b, hb, rfl⟩
    obtain ⟨h1, h2⟩ := List.mem_filter.1 hb
    rw [ofNat_toNat8 (List.mem_range.1 h1)]
    exact h2
  · intro h
    exact ⟨c.toNat, List.mem_filter.2 ⟨List.mem_range.2 c.toNat_lt, h⟩, UInt8.ofNat_toNat⟩
set_option maxRecDepth 100000 in
set_option maxHeartbeats 4000000 in
theorem setb_any (g : Nat → Bool) (w : World) :
    Calls Try.prog 34 #[.agg (boolC g 256).toArray] w fun e w' => e = .returned (.string ⟨(bytF g 256).toArray⟩) ∧ Below w.heap.size w w' := by
  have hG : ∀ b : Nat, b < 256 → (boolC g 256).toArray[b]? = some (.bool (g b)) := fun b hb => by
    rw [List.getElem?_toArray]
    exact boolC_get hb
  have hGs : (boolC g 256).toArray.toList.length = 256 := by rw [List.toList_toArray, boolC_len]
  have hab : Below w.heap.size w (w.alloc (.cells (boolC g 256).toArray 78 (0, 0))) := (Below.refl w.heap.size w).alloc (Nat.le_refl _) _
  have eS := heap_alloc_new w (.cells (boolC g 256).toArray 78 (0, 0))
  have hrg : (w.alloc (.cells (boolC g 256).toArray 78 (0, 0))).rangeAt w.heap.size 0 (boolC g 256).toArray.toList := by
    have h1 := World.rangeAt_of_block eS 0 256
    rw [ext_all (by rw [List.size_toArray, boolC_len])] at h1
    exact h1
  generalize (boolC g 256).toArray = G at *
  have hinf : (Try.prog.info? 78).map (·.size) = some G.toList.length := by rw [hGs]; kernel_rfl
  have HI := Lib.hid (And.intro hab (And.intro hG hrg))
  clear hab hG eS hrg
  go_enter Try.func34, Try.ntmps34
  go_upto_region 2 with fail
  have hi := HI.out
  clear HI
  generalize w.alloc (.cells G 78 (0, 0)) = W0 at *
  have HI := Lib.hid hi
  clear hi
  go_wp2_with (refine wpList_load_mid rfl 78 _ rfl w.heap.size 0 rfl G.toList _ HI.out.2.2 Try.underlying78 rfl hinf ?_)
  have hb0 := HI.out.1.size
  go_loopw [7, 3] (fun bv ov wr => ∃ (b : Nat) (oa : Option Addr) (oc : Nat), bv = .int .i64 b ∧ ov = .slice oa (bytF g b).length oc ∧ b ≤ 256 ∧ Below w.heap.size w wr ∧ wr.ownsRow w.heap.size 5 1 ov (bytF g b).length (bytC (bytF g b))) (fun bv _ _ => 256 - (intOf bv).toNat)
  case atStart => exact ⟨0, none, 0, rfl, rfl, by decide, HI.out.1, World.ownsRow_nil ..⟩
  case round =>
    obtain ⟨wo, rfl⟩ : ∃ wo, wo = wr := ⟨_, rfl⟩
    obtain ⟨b, oa, oc, rfl, rfl, hb6, hb, hr⟩ := hrel
    by_cases hlb : b < 256
    · have tb : (b : Int) < 256 := by omega
      have wb : IntKind.i64.wrap ((b : Int) + 1) = (b : Int) + 1 := IntWalk.i64_in _ ⟨by omega, by omega⟩
      have hix := idx256 wo G (b : Int) (.bool (g b)) (by omega) (by omega) (by rw [show ((b : Int)).toNat = b by omega]; exact HI.out.2.1 b hlb)
      have hll := bytF_len g b
      have hsu := bytF_succ g b
      have hbz := hb.size
      have HO := Lib.hid (And.intro hb (And.intro hr hsu))
      have hrow := hr
      clear hb hr hsu
      cases hg : g b with
      | true =>
        rw [hg] at hix
        have HG := Lib.hid hg
        clear hg
        have hw8 : IntKind.u8.wrap (b : Int) = (b : Int) := by unfold IntKind.wrap; simp [IntKind.bits, IntKind.signed]; omega
        go_wp2_with (at_builtin; refine append_big elem_u8 rfl _ _ _ rfl (by kernel_rfl) w.heap.size _ (bytF g b).length (bytC (bytF g b)) rfl (hrow.alloc _) (by omega) wo.heap.size 1 [.int .u8 (b : Nat)] rfl rfl (heap_alloc_new ..) (one_int _ _) (by simp; omega) ?_; intro g5 c5 w5 hr5 hg5 hl5; have H5 := Lib.hid (And.intro hr5 hg5); clear hr5 hg5 hl5)
        have e := HO.out.2.2
        rw [HG.out] at e
        refine ⟨⟨b + 1, some ⟨g5, 0, none⟩, c5, by simp, by rw [e]; simp, by omega, ((HO.out.1.alloc hbz _)).grown H5.out.2 (by simp; omega) (fun q hq => (World.ownsRow.lt HO.out.2.1 q hq).1), ?_⟩, by simp [intOf]; omega⟩
        rw [e, List.length_append, bytC_app]
        have hbb : bytC (if true = true then [UInt8.ofNat b] else []) = [Value.int .u8 (b : Nat)] := by simp only [if_true, bytC, List.map_cons, List.map_nil, ofNat_toNat8 hlb]
        rw [hbb]
        exact H5.out.1
      | false =>
        rw [hg] at hix
        have HG := Lib.hid hg
        clear hg
        go_wp2_with fail
        have e := HO.out.2.2
        rw [HG.out, if_neg (by simp), List.append_nil] at e
        exact ⟨⟨b + 1, oa, oc, by simp, by rw [e], by omega, HO.out.1, by rw [e]; exact HO.out.2.1⟩, by simp [intOf]; omega⟩
    · have tb : decide ((b : Int) < 256) = false := decide_eq_false (by omega)
      obtain rfl : b = 256 := by omega
      have hcv := conv_row hr
      have HO := Lib.hid hb
      clear hb hr
      go_wp2_with fail
      go_ret
      exact ⟨rfl, HO.out⟩
/-- The row of bytes that can follow, half done: at state k, byte b. -/
def goK (P : Nat → Nat → Bool) (k b : Nat) : Nat → Bool := fun c => anyN (P c) (if c < b then k + 1 else k)
theorem goK_zero (P : Nat → Nat → Bool) (c : Nat) : goK P 0 0 c = false := by
  unfold goK
  rw [if_neg (by omega)]
  rfl
theorem goK_next (P : Nat → Nat → Bool) (k : Nat) {c : Nat} (hc : c < 256) : goK P k 256 c = goK P (k + 1) 0 c := by
  unfold goK
  rw [if_pos hc, if_neg (by omega)]
theorem goK_at (P : Nat → Nat → Bool) (k b : Nat) : goK P k b b = anyN (P b) k := by
  unfold goK
  rw [if_neg (by omega)]
theorem goK_set (P : Nat → Nat → Bool) (k b : Nat) : (boolC (goK P k b) 256).toArray.setIfInBounds b (.bool (anyN (P b) k || P b k)) = (boolC (goK P k (b + 1)) 256).toArray := by
  rw [List.setIfInBounds_toArray, boolC_set]
  congr 1
  refine boolC_ext fun c _ => ?_
  unfold goK
  by_cases e : c = b
  · subst e
    rw [if_pos rfl, if_pos (by omega), anyN_succ]
  · rw [if_neg e]
    by_cases h : c < b
    · rw [if_pos h, if_pos (by omega)]
    · rw [if_neg h, if_neg (by omega)]
theorem heap_setB {w : World} {g : Nat} {cur : Array Value} {e : TypeId} {fr : Nat × Nat} (h : w.heap[g]? = some (.cells cur e fr)) (i : Nat) (v : Value) : (w.setCell ⟨g, i, none⟩ v).heap[g]? = some (.cells (cur.setIfInBounds i v) e fr) := heap_setS h i v
theorem goes_done {nx : Nat → Nat → Nat} {en lf : Nat → Bool} {N : Nat} {cls fol : List Set4} {x : Part} (h1 : ∀ u, en (runE nx 0 u) = endsM x (runM cls fol u)) (hN : ∀ k b, k < N → b < 256 → nx k b < N) (h0 : 0 < N) (hl : ∀ k, k < N → (lf k = true ↔ LiveS nx en k)) (c : UInt8)
    (hc : c ∉ bytF (goK (fun c j => en j && lf (nx j c)) N 0) 256) (u v : List UInt8) (hu : endsM x (runM cls fol u) = true) : endsM x (runM cls fol (u ++ c :: v)) = false := by
  rw [bytF_mem] at hc
  cases hw : endsM x (runM cls fol (u ++ c :: v)) with
  | false => rfl
  | true =>
    exfalso
    apply hc
    have hrun : ∀ (u : List UInt8) (k : Nat), k < N → runE nx k u < N := fun u => by
      induction u with
      | nil => exact fun k hk => hk
      | cons c u ih => exact fun k hk => ih _ (hN k _ hk c.toNat_lt)
    have hk := hrun u 0 h0
    rw [← h1] at hu hw
    rw [runE_app] at hw
    have hlive : LiveS nx en (nx (runE nx 0 u) c.toNat) := ⟨v, hw⟩
    unfold goK
    rw [if_neg (by omega)]
    refine anyN_true.2 ⟨runE nx 0 u, hk, ?_⟩
    rw [Bool.and_eq_true]
    exact ⟨hu, (hl _ (hN _ _ hk c.toNat_lt)).2 hlive⟩
def GoesPost (cls fol : List Set4) (x : Part) (w : World) (e : Ending) (w' : World) : Prop :=
  Below w.heap.size w w' ∧ ∃ l : List UInt8, e = .returned (.tuple #[.string ⟨l.toArray⟩, .int .i64 0]) ∧ l.length ≤ 256 ∧ ∀ c : UInt8, c ∉ l → ∀ u v, endsM x (runM cls fol u) = true → endsM x (runM cls fol (u ++ c :: v)) = false
set_option maxRecDepth 100000 in
set_option maxHeartbeats 4000000 in
theorem goes_any (hbuild : BuildSaid) (p : ByteArray) (cls fol : List Set4) (x : Part) (w : World) (h : ParsedTo p cls fol x) (hL : ¬ Large cls fol) :
    Calls Try.prog 15 #[.string p] w (GoesPost cls fol x w) := by
  have hBu := Lib.hid (hbuild p cls fol x w h)
  clear h hbuild
  go_enter Try.func15, Try.ntmps15
  go_upto_region 4 with (go_at_call 23; refine hBu.out.mono ?_; rintro e w1 ⟨hb1, hor⟩; rcases hor with ⟨rfl, hLL⟩ | ⟨nv, ev, sets, rows, ends, rfl, hM⟩; exact absurd hLL hL; obtain ⟨g, gc, rfl, hg, -⟩ := row_some hM.nrow hM.rpos; obtain ⟨g2, gc2, rfl, hg2, -⟩ := row_some hM.erow hM.epos; have HM := Lib.hid (And.intro hM (And.intro hg (And.intro hg2 hb1))); clear hM hg hg2 hb1)
  clear hBu
  have hal := (Below.refl w1.heap.size w1).alloc (Nat.le_refl _) (.cells #[.slice (some ⟨g, 0, none⟩) rows.length gc, .slice (some ⟨g2, 0, none⟩) ends.length gc2] 58 (0, 0))
  have eM := heap_alloc_new w1 (.cells #[.slice (some ⟨g, 0, none⟩) rows.length gc, .slice (some ⟨g2, 0, none⟩) ends.length gc2] 58 (0, 0))
  have hM2 := HM.out.1.below hal
  have hLv := Lib.hid (live_any _ _ _ _ _ _ _ _ _ _ _ hM2 eM)
  have HN := Lib.hid (And.intro hM2 (And.intro eM ((HM.out.2.2.2).trans (hal.mono HM.out.2.2.2.size))))
  clear hal eM hM2 HM
  generalize w1.alloc (.cells #[.slice (some ⟨g, 0, none⟩) rows.length gc, .slice (some ⟨g2, 0, none⟩) ends.length gc2] 58 (0, 0)) = w2 at *
  generalize w1.heap.size = M at *
  have hz : ∀ W, (zeroValue 78).run Try.prog W = .ok (.agg (boolC (fun _ => false) 256).toArray) W := fun W => by
    have h1 : (boolC (fun _ => false) 256).toArray = Array.replicate 256 (.bool false) := by
      unfold boolC
      rw [List.map_const', List.length_range, List.toArray_replicate]
    rw [h1]
    exact run_zero_row (by kernel_rfl) W
  go_upto_region 6 with (go_at_call 33; refine hLv.out.mono ?_; rintro e w3 ⟨hb3, v, lf, rfl, hr3, hlf⟩; obtain ⟨gv, cv, rfl⟩ := ownsRow_formW hr3 HN.out.1.epos; have H3 := Lib.hid (And.intro hb3 (And.intro hr3 hlf)); clear hb3 hr3 hlf)
  clear hz hLv
  obtain ⟨en, hen⟩ : ∃ en : Nat → Bool, en = fun k => ends.getD k false := ⟨_, rfl⟩
  rw [← hen] at H3
  have hel : ends.length ≤ 400 := by have := HN.out.1.half.el; have := HN.out.1.half.len; omega
  obtain ⟨PP, hPP⟩ : ∃ P : Nat → Nat → Bool, P = fun c j => en j && lf (dM rows j c) := ⟨_, rfl⟩
  have hbA : Below w3.heap.size w3 (w3.alloc (.cells (boolC (fun _ => false) 256).toArray 78 (0, 0))) := (Below.refl w3.heap.size w3).alloc (Nat.le_refl _) _
  have eA := heap_alloc_new w3 (.cells (boolC (fun _ => false) 256).toArray 78 (0, 0))
  have e0 : boolC (fun _ => false) 256 = boolC (goK PP 0 0) 256 := boolC_ext fun c _ => (goK_zero PP c).symm
  have m1 : (w3.alloc (.cells (boolC (fun _ => false) 256).toArray 78 (0, 0))).cell? ⟨M, 1, none⟩ = some (.slice (some ⟨g2, 0, none⟩) ends.length gc2) := by
    rw [World.cell?_of_block (hbA.block M (Nat.lt_of_lt_of_le (lt_of_block HN.out.2.1) H3.out.1.size)), World.cell?_of_block (H3.out.1.block M (lt_of_block HN.out.2.1)), Lib.cell_of_heap HN.out.2.1]; rfl
  rw [e0] at eA hbA m1 ⊢
  have HA := Lib.hid (And.intro hbA eA)
  have HE := Lib.hid (And.intro hen hPP)
  clear hbA eA e0 hen hPP
  generalize w3.alloc (.cells (boolC (goK PP 0 0) 256).toArray 78 (0, 0)) = W0 at *
  have hMl := lt_of_block HN.out.2.1
  have hM3 := H3.out.1.size
  go_wp2_with fail
  clear m1
  go_loopw [23] (fun kv wr => ∃ k : Nat, kv = .int .i64 k ∧ k ≤ ends.length ∧ Below w3.heap.size w3 wr ∧ wr.heap[w3.heap.size]? = some (.cells (boolC (goK PP k 0) 256).toArray 78 (0, 0))) (fun kv _ => ends.length - (intOf kv).toNat)
  case atStart => exact ⟨0, rfl, Nat.zero_le _, HA.out.1, HA.out.2⟩
  case round =>
    clear HA
    obtain ⟨k, rfl, hk, hb, eS⟩ := hrel
    have hM := (HN.out.1.below H3.out.1).below hb
    by_cases hlt : k < ends.length
    · have tk : decide (k < ends.length) = true := decide_eq_true hlt
      have tkI : (k : Int) < (ends.length : Int) := by omega
      have wk : IntKind.i64.wrap ((k : Int) + 1) = (k : Int) + 1 := IntWalk.i64_in _ ⟨by omega, by omega⟩
      have hnk : ((k : Int)).toNat = k := by omega
      have hsl : k < sets.length := by rw [← hM.half.el]; exact hlt
      have ce := (World.ownsRow.cellAt hM.erow k (by omega)).trans (hM.dend (List.getElem?_eq_getElem hsl)).1
      obtain ⟨ek, hek⟩ : ∃ b, b = ends.getD k false := ⟨_, rfl⟩
      rw [← hek] at ce
      have HO := Lib.hid (And.intro hb (And.intro eS hek))
      clear hb eS hM hek
      go_wp2_with fail
      clear ce
      go_loopw [28] (fun bv wr => ∃ b : Nat, bv = .int .i64 b ∧ b ≤ 256 ∧ Below w3.heap.size w3 wr ∧ wr.heap[w3.heap.size]? = some (.cells (boolC (goK PP k b) 256).toArray 78 (0, 0))) (fun bv _ => 256 - (intOf bv).toNat)
      case atStart => exact ⟨0, rfl, by decide, HO.out.1, HO.out.2.1⟩
      case round =>
        have hek := HO.out.2.2
        clear HO
        obtain ⟨b, rfl, hb6, hb, eS⟩ := hrel
        by_cases hlb : b < 256
        · have tb : (b : Int) < 256 := by omega
          have wb : IntKind.i64.wrap ((b : Int) + 1) = (b : Int) + 1 := IntWalk.i64_in _ ⟨by omega, by omega⟩
          have hnb : ((b : Int)).toNat = b := by omega
          have c0 : wr.cell? ⟨w3.heap.size, b, none⟩ = some (.bool (anyN (PP b) k)) := by
            rw [Lib.cell_of_heap eS, List.getElem?_toArray, boolC_get hlb, goK_at]
          have z0 := Lib.frozen_of_heap eS b
          have hset := goK_set PP k b
          have hnew : PP b k = (ek && lf (dM rows k b)) := by rw [HE.out.2, HE.out.1, hek]
          have fin : ∀ nb : Bool, nb = (anyN (PP b) k || PP b k) → Below w3.heap.size w3 (wr.setCell ⟨w3.heap.size, b, none⟩ (.bool nb)) ∧ (wr.setCell ⟨w3.heap.size, b, none⟩ (.bool nb)).heap[w3.heap.size]? = some (.cells (boolC (goK PP k (b + 1)) 256).toArray 78 (0, 0)) := fun nb hnb => by
            refine ⟨hb.setCell (p := ⟨w3.heap.size, b, none⟩) (Nat.le_refl _) _, ?_⟩
            have := heap_setB eS b (.bool nb)
            rw [hnb, hset] at this
            rw [hnb]
            exact this
          cases hold : anyN (PP b) k with
          | true =>
            rw [hold] at c0
            have HF := Lib.hid (fin true (by rw [hold]; rfl))
            clear fin hold hset hnew hb eS hek
            go_wp2_with fail
            exact ⟨⟨b + 1, by simp, by omega, HF.out.1, HF.out.2⟩, by simp [intOf]; omega⟩
          | false =>
            rw [hold] at c0
            cases ek with
            | false =>
              have HF := Lib.hid (fin false (by rw [hold, hnew]; rfl))
              clear fin hold hset hnew hb eS hek
              go_wp2_with fail
              exact ⟨⟨b + 1, by simp, by omega, HF.out.1, HF.out.2⟩, by simp [intOf]; omega⟩
            | true =>
              have hM := (HN.out.1.below H3.out.1).below hb
              have m0 : wr.cell? ⟨M, 0, none⟩ = some (.slice (some ⟨g, 0, none⟩) rows.length gc) := by
                rw [World.cell?_of_block (hb.block M (by omega)), World.cell?_of_block (H3.out.1.block M hMl), Lib.cell_of_heap HN.out.2.1]; rfl
              have q1 := (World.ownsRow.cellAt hM.nrow (k * 256 + b) (by have := hM.half.rl; omega)).trans (hM.dstep (List.getElem?_eq_getElem hsl) hlb).1
              have dl : dM rows k b < ends.length := by rw [hM.half.el]; exact hM.dlt hsl hlb
              have hrv := row_keepP H3.out.2.1 fun q hq => hb.block q (World.ownsRow.lt H3.out.2.1 q hq).2
              have q2 := (World.ownsRow.cellAt hrv (dM rows k b) (by omega)).trans (boolC_get dl)
              have tkR : (k : Int) < (rows.length : Int) := by have := hM.half.rl; omega
              have HF := Lib.hid (fin (lf (dM rows k b)) (by rw [hold, hnew]; simp))
              obtain ⟨u, hu⟩ : ∃ u, u = dM rows k b := ⟨_, rfl⟩
              rw [← hu] at q1 q2 dl HF
              obtain ⟨lu, hlu⟩ : ∃ y, y = lf u := ⟨_, rfl⟩
              rw [← hlu] at q2 HF
              have hnu : ((u : Int)).toNat = u := by omega
              have tu : (u : Int) < (ends.length : Int) := by omega
              clear fin hold hset hnew hb eS hek hM hrv hu hlu
              go_wp2_with fail
              exact ⟨⟨b + 1, by simp, by omega, HF.out.1, HF.out.2⟩, by simp [intOf]; omega⟩
        · have tb : decide ((b : Int) < 256) = false := decide_eq_false (by omega)
          obtain rfl : b = 256 := by omega
          have e1 : boolC (goK PP k 256) 256 = boolC (goK PP (k + 1) 0) 256 := boolC_ext fun c hc => goK_next PP k hc
          rw [e1] at eS
          have HF := Lib.hid (And.intro hb eS)
          clear hb eS e1 hek
          go_wp2_with fail
          exact ⟨⟨k + 1, by simp, by omega, HF.out.1, HF.out.2⟩, by simp [intOf]; omega⟩
    · have tk : decide (k < ends.length) = false := decide_eq_false hlt
      obtain rfl : k = ends.length := by omega
      have hrg : wr.rangeAt w3.heap.size 0 (boolC (goK PP ends.length 0) 256) := by
        have h1 := World.rangeAt_of_block eS 0 256
        rw [ext_all (by rw [List.size_toArray, boolC_len]), List.toList_toArray] at h1
        exact h1
      have hinf : (Try.prog.info? 78).map (·.size) = some (boolC (goK PP ends.length 0) 256).length := by rw [boolC_len]; kernel_rfl
      have hsb := Lib.hid (setb_any (goK PP ends.length 0) wr)
      have hlast := fun (c : UInt8) (hc : c ∉ bytF (goK PP ends.length 0) 256) u v hu => goes_done (nx := dM rows) (en := en) (lf := lf) (cls := cls) (fol := fol) (x := x) (fun u => by rw [HE.out.1]; exact HN.out.1.dends u) (fun k b hk hb => by rw [HN.out.1.half.el] at hk ⊢; exact HN.out.1.dlt hk hb) HN.out.1.epos H3.out.2.2 c (by rw [HE.out.2] at hc; exact hc) u v hu
      have hbF := HN.out.2.2.trans ((H3.out.1.trans (hb.mono hM3)).mono HN.out.2.2.size)
      have HF := Lib.hid (And.intro hbF hlast)
      have HR := Lib.hid hrg
      clear hb eS hM hrg hlast hbF
      generalize boolC (goK PP ends.length 0) 256 = G at *
      go_wp2_with (refine wpList_load_mid rfl 78 _ rfl w3.heap.size 0 rfl G _ HR.out Try.underlying78 rfl hinf ?_)
      refine hsb.out.mono ?_
      rintro e w5 ⟨rfl, hb5⟩
      have HZ := Lib.hid (HF.out.1.trans (hb5.mono HF.out.1.size))
      clear hb5
      go_wp2_with fail
      go_returns
      exact ⟨HZ.out, _, rfl, bytF_len _ _, HF.out.2⟩

end Go.Proofs.Ytebcflgdjbjkoaa
