/- pattern.build; no condition beyond those that stand there. -/
import Derived.Deep.DeepCutAuto
import Derived.Test.YtebcflgdjbjkoaaHalf
namespace Go.Proofs.Ytebcflgdjbjkoaa
open Go.RowKit

theorem seq_last {P : Program} {c : Code} {Q : Exit → Act → World → Prop} {a : Act} {w : World} (h : ∀ K : Act → World → Prop, (∀ a w, Q .normal a w → K a w) → c.wp P (Exit.then K Q) a w) : c.wp P Q a w := by
  refine Code.wp_mono ?_ (h (fun a w => Q .normal a w) (fun a w hk => hk))
  intro e a w he
  cases e <;> exact he
set_option maxRecDepth 100000 in
set_option maxHeartbeats 40000000 in
theorem build_any : BuildSaid := by
  intro s cls fol x w h
  have hab : Below w.heap.size w (w.alloc (.cells #[.slice none 0 0, .slice none 0 0] 58 (0, 0))) := (Below.refl w.heap.size w).alloc (Nat.le_refl _) _
  have eM : (w.alloc (.cells #[.slice none 0 0, .slice none 0 0] 58 (0, 0))).heap[w.heap.size]? = some (.cells #[.slice none 0 0, .slice none 0 0] 58 (0, 0)) := heap_alloc_new w _
  have hPa := Lib.hid (parse_any s cls fol x (w.alloc (.cells #[.slice none 0 0, .slice none 0 0] 58 (0, 0))) h)
  have HI := Lib.hid (And.intro hab eM)
  have HS0 := Lib.hid (show (w.alloc (.cells #[.slice none 0 0, .slice none 0 0] 58 (0, 0))).heap.size = w.heap.size + 1 by simp)
  have hmm := @run_makeMap Try.prog
  clear hab eM h
  go_enter Try.func23, Try.ntmps23
  go_wp2_with fail
  refine hPa.out.mono ?_
  rintro e w1 ⟨⟨cv, fv, rfl, hpl, hxo⟩, hb1⟩
  have hi := HI.out
  clear HI hPa
  generalize w.alloc (.cells #[.slice none 0 0, .slice none 0 0] 58 (0, 0)) = W0 at *
  obtain ⟨ca, cc, rfl, hcc⟩ := row_slice hpl.crow
  obtain ⟨fa, fc, rfl, hfc⟩ := row_slice hpl.frow
  have hal := (Below.refl w1.heap.size w1).alloc (Nat.le_refl _) (.cells (planC (.slice ca cls.length cc) (.slice fa fol.length fc) x) 92 (0, 0))
  have eP := heap_alloc_new w1 (.cells (planC (.slice ca cls.length cc) (.slice fa fol.length fc) x) 92 (0, 0))
  have hPl : PlanIn W0.heap.size w1.heap.size cls fol x (.slice ca cls.length cc) (.slice fa fol.length fc) (w1.alloc (.cells (planC (.slice ca cls.length cc) (.slice fa fol.length fc) x) 92 (0, 0))) := ⟨hb1.size, eP, hpl.below hal, hxo⟩
  have hbP := hi.1.trans ((hb1.mono hi.1.size).trans (hal.mono (Nat.le_trans hi.1.size hb1.size)))
  have eM1 := (hal.block _ (Nat.lt_of_lt_of_le (lt_of_block hi.2) hb1.size)).trans ((hb1.block _ (lt_of_block hi.2)).trans hi.2)
  have hsz0 := lt_of_block hi.2
  have HP := Lib.hid (And.intro hPl (And.intro hbP eM1))
  have hsz1 := hb1.size
  clear hi hpl hxo hb1 hal eP hPl hbP eM1
  unfold planC
  go_upto_region 4 with fail
  have hp := HP.out
  unfold planC at hp
  clear HP
  generalize w1.alloc (.cells #[.slice ca cls.length cc, .slice fa fol.length fc, .bool x.em, .int .u64 (wd x.fst 0 : Nat), .int .u64 (wd x.fst 1 : Nat), .int .u64 (wd x.fst 2 : Nat), .int .u64 (wd x.fst 3 : Nat), .int .u64 (wd x.lst 0 : Nat), .int .u64 (wd x.lst 1 : Nat), .int .u64 (wd x.lst 2 : Nat), .int .u64 (wd x.lst 3 : Nat)] 92 (0, 0)) = W1 at *
  generalize w1.heap.size = P at *
  obtain ⟨hPl, hbP, eM1⟩ := hp
  have hPl1 := lt_of_block hPl.cell
  have hMP : w.heap.size < P := by omega
  have hal := (Below.refl W1.heap.size W1).alloc (Nat.le_refl _) (.cells (setC e4) 88 (0, 0))
  have eS := heap_alloc_new W1 (.cells (setC e4) 88 (0, 0))
  have hAd := Lib.hid (set_add W1.heap.size 0 e4 0 (by decide) (W1.alloc (.cells (setC e4) 88 (0, 0))) words_e4 (setAt_of eS) (fun j => Lib.frozen_of_heap eS j))
  have o2 := one_set W1.heap.size (0 + 0 / 64) (W1.alloc (.cells (setC e4) 88 (0, 0))) (.int .u64 (wd (sadd e4 0) (0 / 64) : Nat))
  have HP := Lib.hid (And.intro hPl (And.intro hbP (And.intro eM1 (And.intro hal (And.intro eS o2)))))
  clear hPl hbP eM1 hal eS o2
  go_wp2_with fail
  refine hAd.out.mono ?_
  rintro e w2 ⟨rfl, hw2⟩
  obtain ⟨hPl, hbP, eM1, hal, eS, o2⟩ := HP.out
  clear HP hAd
  have eS2 := heap_setS eS (0 + 0 / 64) (.int .u64 (wd (sadd e4 0) (0 / 64) : Nat))
  rw [← hw2] at o2
  have eS2 : w2.heap[W1.heap.size]? = some (.cells (setC (sadd e4 0)) 88 (0, 0)) := by rw [hw2]; exact eS2
  have hb2 := hal.trans (o2.below (Nat.le_refl _))
  have HS2 := Lib.hid (show w2.heap.size = W1.heap.size + 1 by rw [o2.size]; simp)
  have hP2 := hPl.below hb2
  have hbP2 := hbP.trans (hb2.mono hbP.size)
  have eM2 := (hb2.block _ (lt_of_block eM1)).trans eM1
  have HP := Lib.hid (And.intro hP2 (And.intro hbP2 (And.intro eM2 eS2)))
  obtain ⟨s0, s1, s2, s3⟩ := set4_cells eS2
  clear hPl hbP eM1 hal eS o2 hw2 hb2 hP2 hbP2 eM2 eS2
  have hlt2 : W1.heap.size < w2.heap.size := by rw [HS2.out]; omega
  go_upto_region 7 with (refine wpList_num_ins _ rfl _ _ _ _ rfl (by kernel_rfl) w2.heap.size (sadd e4 0) rfl (World.ownsMap_made ..) (sadd_words words_e4 0) rfl rfl ?_; intro w4 hn4 hg4; have HN := Lib.hid (And.intro hn4 hg4); clear hn4 hg4)
  clear s0 s1 s2 s3 hmm
  obtain ⟨hP2, hbP2, eM2, eS2⟩ := HP.out
  have hsz2 := HS2.out
  clear HS2
  obtain ⟨hn4, hg4⟩ := HN.out
  clear HP HN hlt2
  have hsa : (w2.alloc (.map #[] 0)).heap.size = w2.heap.size + 1 := by simp
  have hb4 : Below w2.heap.size w2 w4 := ((Below.refl w2.heap.size w2).alloc (Nat.le_refl _) _).grown hg4 (by simp) (fun k hk => by injection hk with hk; omega)
  have hP4 := hP2.below hb4
  have hbP4 := hbP2.trans (hb4.mono hbP2.size)
  have eM4 := (hb4.block _ (lt_of_block eM2)).trans eM2
  have eS4 := (hb4.block _ (lt_of_block eS2)).trans eS2
  have hfB : ∀ g, (Value.slice fa fol.length fc).ownBlock = some g → g < w4.heap.size := fun g hg => by
    have := (World.ownsRow.lt hP2.rows.frow g hg).2
    have hs4 := hg4.size
    omega
  obtain ⟨s0, s1, s2, s3⟩ := set4_cells eS4
  have hal := ((Below.refl w4.heap.size w4).alloc (Nat.le_refl _) (.cells (setC (sadd e4 0)) 88 (0, 0))).alloc (by simp) (.cells #[.slice none 0 0, .slice none 0 0] 58 (0, 0))
  have e1 := pair1 w4 (.cells (setC (sadd e4 0)) 88 (0, 0)) (.cells #[.slice none 0 0, .slice none 0 0] 58 (0, 0))
  have e2 := pair2 w4 (.cells (setC (sadd e4 0)) 88 (0, 0)) (.cells #[.slice none 0 0, .slice none 0 0] 58 (0, 0))
  have hs4 := Lib.hid (And.intro hg4.size hsz2)
  have hszA : ((w4.alloc (.cells (setC (sadd e4 0)) 88 (0, 0))).alloc (.cells #[.slice none 0 0, .slice none 0 0] 58 (0, 0))).heap.size = w4.heap.size + 1 + 1 := by simp
  have hAt := Lib.hid (at_any (hP4.below hal))
  have HP := Lib.hid (And.intro hP4 (And.intro hbP4 (And.intro eM4 (And.intro hal (And.intro e1 (And.intro e2 (And.intro hszA (And.intro hn4 hfB))))))))
  clear hsz2 hP2 hbP2 eM2 eS2 hg4 hsa hb4 hP4 hbP4 eM4 eS4 hfB hal e1 e2 hszA hn4
  go_wp2_with fail
  clear s0 s1 s2 s3
  refine hAt.out.mono ?_
  rintro e w5 ⟨⟨A, l, rfl, hA, hT, hl⟩, hb5⟩
  obtain ⟨hP4, hbP4, eM4, hal, e1, e2, hszA, hn4, hfB⟩ := HP.out
  obtain ⟨hs4, hsz2⟩ := hs4.out
  have hS0 := HS0.out
  clear hAt HP HS0
  rw [hszA] at hA
  have hb45 := hal.trans (hb5.mono hal.size)
  have hP5 := hP4.below hb45
  rw [hS0] at hP5
  have hbl : BldAt w4.heap.size P w2.heap.size (w4.heap.size + 1) A w cls fol x (.slice ca cls.length cc) (.slice fa fol.length fc) [sadd e4 0] (.slice (some ⟨w4.heap.size, 0, none⟩) 1 1) [] [] (.slice none 0 0) (.slice none 0 0) w5 := by
    have hq : w2.heap.size < w4.heap.size := hn4.lt
    have hcc1 : (w4.alloc (.cells (setC (sadd e4 0)) 88 (0, 0))).ownsRow w4.heap.size 88 4 (.slice (some ⟨w4.heap.size, 0, none⟩) 1 1) 1 (flatC [sadd e4 0]) :=
      ⟨rfl, Or.inr ⟨w4.heap.size, 1, setC (sadd e4 0), rfl, Nat.le_refl _, heap_alloc_new .., Nat.le_refl _, by decide, rfl, rfl⟩⟩
    refine ⟨hbP4.trans (hb45.mono hbP4.size), ⟨by omega, by omega, by omega, by omega, by omega⟩, (hb45.block _ (lt_of_block eM4)).trans eM4, hP5, hn4.keep (hb45.block _ hn4.lt), ?_, ?_, ⟨l, hT, hl⟩, (hb5.block _ (lt_of_block e2)).trans e2, World.ownsRow_nil .., World.ownsRow_nil .., hfB⟩
    · refine row_keepP (hcc1.alloc (.cells #[.slice none 0 0, .slice none 0 0] 58 (0, 0))) fun g hg => hb5.block g ?_
      have : w4.heap.size = g := by injection hg
      rw [hszA]
      omega
    · intro y hy
      have : y = sadd e4 0 := by simpa using hy
      rw [this]
      exact sadd_words words_e4 0
  have hhf : Half cls fol x [sadd e4 0] [] [] 0 := ⟨by simp, rfl, by simp, fun y hy => by
      have : y = sadd e4 0 := by simpa using hy
      rw [this]
      exact Reach.start, rfl, rfl, Nat.zero_le _, fun i s r _ h => by simp at h, fun i s e _ h => by simp at h⟩
  have HB := Lib.hid (And.intro hbl hhf)
  clear hsz2 hs4 hS0 hA hT hl hb5 hP4 hbP4 eM4 hal e1 e2 hszA hn4 hfB hb45 hP5 hbl hhf hsz0 hcc hPl1 hMP hsz1
  generalize hMB : w4.heap.size + 1 = MB at *
  generalize w4.heap.size = B at *
  generalize w2.heap.size = NB at *
  clear hMB
  have hz : ∀ W, (zeroValue 62).run Try.prog W = .ok (.agg (rowA [])) W := fun W => by
    rw [← rowA_nil]
    exact run_zero_row (by kernel_rfl) W
  go_wp2_with fail
  go_loopw [8, 11] (fun sv kv wr => ∃ (k : Nat) (sets : List Set4) (rows : List (List Nat)) (ends : List Bool) (nv ev : Value) (g cap : Nat), kv = .int .i64 k ∧ sv = .slice (some ⟨g, 0, none⟩) sets.length cap ∧ BldAt B P NB MB A w cls fol x (.slice ca cls.length cc) (.slice fa fol.length fc) sets sv rows ends nv ev wr ∧ Half cls fol x sets rows ends k) (fun _ kv _ => 400 - (intOf kv).toNat)
  case atStart => exact ⟨0, [sadd e4 0], [], [], _, _, _, _, rfl, rfl, HB.out.1, HB.out.2⟩
  case round =>
    clear HB
    obtain ⟨wo, rfl⟩ : ∃ wo, wo = wr := ⟨_, rfl⟩
    obtain ⟨k, sets, rows, ends, nv, ev, g, cap, rfl, rfl, hbl, hhf⟩ := hrel
    have hbz := hbl.bel.size
    have hwo := lt_of_block hbl.res
    have hlen := hhf.len
    obtain ⟨na, nc, rfl, hnc⟩ := row_slice hbl.nrow
    obtain ⟨ea, ec, rfl, hec⟩ := row_slice hbl.erow
    by_cases hlt : k < sets.length
    · have tk : (k : Int) < (sets.length : Int) := by omega
      have wk : IntKind.i64.wrap ((k : Int) + 1) = (k : Int) + 1 := IntWalk.i64_in _ ⟨by omega, by omega⟩
      have hnk : ((k : Int)).toNat = k := by omega
      have hgl := (World.ownsRow.lt hbl.srow g rfl).2
      have hcell := fun j (hj : j < 4) => (World.ownsRow.cellAt hbl.srow (k * 4 + j) (by omega)).trans (flat_get sets k j hlt hj)
      have f0 := hcell 0 (by decide)
      have f1 := hcell 1 (by decide)
      have f2 := hcell 2 (by decide)
      have f3 := hcell 3 (by decide)
      rw [Nat.add_zero] at f0
      have ht : sets[k]? = some (sets.getD k []) := by simp [List.getD, hlt]
      generalize sets.getD k [] = t at *
      have htm : t ∈ sets := List.mem_of_getElem? ht
      have hal := (Below.refl wo.heap.size wo).alloc (Nat.le_refl _) (.cells (rowA []) 62 (0, 0))
      have eR := heap_alloc_new wo (.cells (rowA []) 62 (0, 0))
      have hbl2 := hbl.below hal
      have hBe := Lib.hid (behind_any hbl2.plan t)
      have hsR : (wo.alloc (.cells (rowA []) 62 (0, 0))).heap.size = wo.heap.size + 1 := by simp
      have hnR : (Value.slice na rows.length nc).ownBlock ≠ some wo.heap.size := fun e => by
        have := (World.ownsRow.lt hbl.nrow _ e).2
        omega
      have HR := Lib.hid (And.intro hbl2 (And.intro hhf (And.intro eR (And.intro hsR (And.intro ht (And.intro htm hnR))))))
      clear hbl hbl2 hhf eR hsR ht htm hnR hcell hal
      go_wp2_with fail
      refine hBe.out.mono ?_
      rintro e w6 ⟨rfl, hb6⟩
      clear hBe f0 f1 f2 f3 hgl
      have hbw := behindM_words HR.out.1.plan.rows.fok t fol.length (Nat.le_refl _)
      generalize hall : behindM fol t fol.length = all at *
      have hal := (Below.refl w6.heap.size w6).alloc (Nat.le_refl _) (.cells (setC all) 88 (0, 0))
      have eA := heap_alloc_new w6 (.cells (setC all) 88 (0, 0))
      have hsA : (w6.alloc (.cells (setC all) 88 (0, 0))).heap.size = w6.heap.size + 1 := by simp
      have hgA : (Value.slice (some ⟨g, 0, none⟩) sets.length cap).ownBlock ≠ some w6.heap.size := fun e => by
        have h1 := (World.ownsRow.lt HR.out.1.srow _ e).2
        have h2 := hb6.size
        omega
      have hb7 := hb6.trans (hal.mono hb6.size)
      have eR7 := (hb7.block wo.heap.size (by rw [HR.out.2.2.2.1]; omega)).trans HR.out.2.2.1
      have HI := Lib.hid (And.intro (HR.out.1.below hb7) (And.intro HR.out.2.1 (And.intro eR7 (And.intro eA (And.intro hgA (And.intro hbw (And.intro HR.out.2.2.2.2 (And.intro hall (lt_of_block eA)))))))))
      clear HR hal eA hsA hgA hb6 hb7 eR7 hbw hall
      unfold setC at HI ⊢
      go_wp2_with fail
      have hi := HI.out
      clear HI
      change BldAt B P NB MB A w cls fol x (.slice ca cls.length cc) (.slice fa fol.length fc) sets (.slice (some ⟨g, 0, none⟩) sets.length cap) rows ends (.slice na rows.length nc) (.slice ea ends.length ec) (w6.alloc (.cells #[.int .u64 (wd all 0 : Nat), .int .u64 (wd all 1 : Nat), .int .u64 (wd all 2 : Nat), .int .u64 (wd all 3 : Nat)] 88 (0, 0))) ∧ _ at hi
      generalize w6.alloc (.cells #[.int .u64 (wd all 0 : Nat), .int .u64 (wd all 1 : Nat), .int .u64 (wd all 2 : Nat), .int .u64 (wd all 3 : Nat)] 88 (0, 0)) = w7 at *
      have HI := Lib.hid hi
      clear hi
      go_loopw [8, 46] (fun sv bv wq => ∃ (b : Nat) (st : List Set4) (l : List Nat) (g' cap' : Nat), bv = .int .i64 b ∧ sv = .slice (some ⟨g', 0, none⟩) st.length cap' ∧ b ≤ 256 ∧ BldAt B P NB MB A w cls fol x (.slice ca cls.length cc) (.slice fa fol.length fc) st sv rows ends (.slice na rows.length nc) (.slice ea ends.length ec) wq ∧ Inner cls fol sets st t l b ∧
        wq.heap[wo.heap.size]? = some (.cells (rowA l) 62 (0, 0)) ∧ wq.heap[w6.heap.size]? = some (.cells (setC all) 88 (0, 0)) ∧ sv.ownBlock ≠ some w6.heap.size) (fun _ bv _ => 256 - (intOf bv).toNat)
      case atStart => exact ⟨0, sets, [], g, cap, rfl, rfl, Nat.zero_le _, HI.out.1, ⟨⟨[], by simp⟩, HI.out.2.1.nodup, HI.out.2.1.len, HI.out.2.1.reach, rfl, fun j n hj => by simp at hj⟩, HI.out.2.2.1, HI.out.2.2.2.1, HI.out.2.2.2.2.1⟩
      case round =>
        obtain ⟨b, st, l, g', cap', rfl, rfl, hb, hbl, hin, eR, eA, hgA⟩ := hrel
        have hsl := hin.len
        by_cases hlb : b < 256
        · have tb : (b : Int) < 256 := by omega
          have wb : IntKind.i64.wrap ((b : Int) + 1) = (b : Int) + 1 := IntWalk.i64_in _ ⟨by omega, by omega⟩
          have hnb : ((b : Int)).toNat = b := by omega
          obtain ⟨x0, x1, x2, x3⟩ := set4_cells eA
          have hal := (Below.refl wr.heap.size wr).alloc (Nat.le_refl _) (.cells (setC all) 88 (0, 0))
          have eT := heap_alloc_new wr (.cells (setC all) 88 (0, 0))
          have hRl := lt_of_block eR
          have hAl := lt_of_block eA
          have HQ := Lib.hid (And.intro hbl (And.intro hin (And.intro eR (And.intro eA (And.intro hgA (And.intro hal (And.intro eT (And.intro hRl hAl))))))))
          clear hbl hin eR eA hgA hal eT hRl hAl
          unfold setC at HQ
          go_wp2_with fail
          clear x0 x1 x2 x3
          have hq := HQ.out
          clear HQ
          generalize hwt : wr.alloc (.cells #[.int .u64 (wd all 0 : Nat), .int .u64 (wd all 1 : Nat), .int .u64 (wd all 2 : Nat), .int .u64 (wd all 3 : Nat)] 88 (0, 0)) = wt at *
          have HQ := Lib.hid hq
          clear hq hwt
          generalize hat : atM cls b cls.length = at1 at *
          obtain ⟨wn, rfl⟩ : ∃ wn, wn = wr := ⟨_, rfl⟩
          go_loopw [50] (fun iv wi => ∃ i : Nat, iv = .int .i64 i ∧ i ≤ 4 ∧ Below wn.heap.size wn wi ∧ wi.heap[wn.heap.size]? = some (.cells (setC (smeetN all at1 i)) 88 (0, 0))) (fun iv _ => 4 - (intOf iv).toNat)
          case atStart => exact ⟨0, rfl, Nat.zero_le _, HQ.out.2.2.2.2.2.1, HQ.out.2.2.2.2.2.2.1⟩
          case round =>
            obtain ⟨i, rfl, hi4, hbt, eT⟩ := hrel
            by_cases hli : i < 4
            · have ti : (i : Int) < 4 := by omega
              have wi : IntKind.i64.wrap ((i : Int) + 1) = (i : Int) + 1 := IntWalk.i64_in _ ⟨by omega, by omega⟩
              have hni : ((i : Int)).toNat = i := by omega
              have c0 : wr.cell? ⟨wn.heap.size, i, none⟩ = some (.int .u64 (wd all i : Nat)) := by
                have h1 := setAt_of eT i hli
                rw [smeetN_wd _ _ _ _ hli, if_neg (Nat.lt_irrefl _), Nat.zero_add] at h1
                exact h1
              have z0 := Lib.frozen_of_heap eT i
              obtain ⟨la, hta, hla⟩ := (HQ.out.1.below hbt).tab
              have c1 : wr.cell? ⟨A, b * 4 + i, none⟩ = some (.int .u64 (wd at1 i : Nat)) := by
                have h1 := hta.set b hlb i hli
                rw [hla b hlb, hat] at h1
                exact h1
              have hand := u64_and (wd all i) (wd at1 i) (word_lt HI.out.2.2.2.2.2.1 i) (word_lt (hat ▸ atM_words cls b cls.length) i)
              have hset := smeetN_set all at1 i hli
              have HT := Lib.hid (And.intro hbt eT)
              clear hbt eT hta hla la
              go_upto_region 22 with fail
              go_region_law (fail)
              all_goals
                have o1 := one_set wn.heap.size i wr (.int .u64 ((wd all i &&& wd at1 i : Nat) : Int))
                have e1 := heap_setS HT.out.2 i (.int .u64 ((wd all i &&& wd at1 i : Nat) : Int))
                rw [Nat.zero_add] at hset
                rw [hset] at e1
                have HN := Lib.hid (And.intro (HT.out.1.trans (o1.below (Nat.le_refl _))) (show (wr.setCell ⟨wn.heap.size, i, none⟩ (.int .u64 ((wd all i &&& wd at1 i : Nat) : Int))).drew.heap[wn.heap.size]? = _ from e1))
                clear o1 e1 hset
                go_wp2_with fail
                exact ⟨⟨i + 1, by simp, by omega, HN.out.1, HN.out.2⟩, by simp [intOf]; omega⟩
            · have ti : decide ((i : Int) < 4) = false := decide_eq_false (by omega)
              obtain rfl : i = 4 := by omega
              rw [smeetN_four] at eT
              have hbl := HQ.out.1.below hbt
              have hin := HQ.out.2.1
              have eR := (hbt.block _ HQ.out.2.2.2.2.2.2.2.1).trans HQ.out.2.2.1
              have eA := (hbt.block _ HQ.out.2.2.2.2.2.2.2.2).trans HQ.out.2.2.2.1
              have hgA := HQ.out.2.2.2.2.1
              have hAl := HQ.out.2.2.2.2.2.2.2.2
              have hst : stepM cls fol t b = smeet all at1 := by
                unfold stepM
                rw [hat, HI.out.2.2.2.2.2.2.2.1]
              have hw4 : Words (smeet all at1) := smeet_words HI.out.2.2.2.2.2.1
              have hre : Reach cls fol (smeet all at1) := by
                rw [← hst]
                exact Reach.step b hlb (HI.out.2.1.reach t HI.out.2.2.2.2.2.2.1.2.1)
              have hnR := HI.out.2.2.2.2.2.2.1.2.2
              have hbsz := hbt.size
              have hzz := run_zeroV (T := 61) (v := .int .i16 0) (by kernel_rfl) wr
              have hTl := lt_of_block eT
              clear HQ HI hat
              generalize smeet all at1 = t2 at *
              obtain ⟨x0, x1, x2, x3⟩ := set4_cells eT
              have hll := hin.ll
              by_cases hmem : t2 ∈ st
              · obtain ⟨n, hn⟩ := List.mem_iff_getElem?.1 hmem
                have c0 : wr.cell? ⟨wo.heap.size, b, none⟩ = some (.int .i16 0) := by
                  rw [Lib.cell_of_heap eR, ← hll]
                  exact rowA_at (by omega)
                have z0 := Lib.frozen_of_heap eR b
                have hnum := hbl.num
                have HT := Lib.hid (And.intro hbl (And.intro hin (And.intro eR (And.intro eA hst))))
                clear hbl hin eR eA hst hbt eT
                go_wp2_with (first | (at_lookup; refine wpList_num_look _ rfl _ _ _ rfl (by kernel_rfl) hzz NB st t2 rfl hnum hw4 rfl ?_; intro c ok hok hc; obtain rfl : ok = true := hok.2 hmem; obtain rfl : c = (n : Nat) := hc n hn))
                have hbl2 := HT.out.1.one hwo (one_cell wo.heap.size b wr (.int .i16 (n : Nat))) HT.out.2.2.1 hnR
                have eR2 := heap_setS HT.out.2.2.1 l.length (.int .i16 (n : Nat))
                rw [rowA_set (by omega), hll] at eR2
                exact ⟨⟨b + 1, st, l ++ [n], g', cap', by simp, rfl, by omega, hbl2, HT.out.2.1.old (by rw [HT.out.2.2.2.2]; exact hn), eR2, ((one_cell wo.heap.size b wr (.int .i16 (n : Nat))).other _ (cells_ne HT.out.2.2.2.1 HT.out.2.2.1 (by decide))).trans HT.out.2.2.2.1, hgA⟩, by simp [intOf]; omega⟩
              · have c0 : wr.cell? ⟨wo.heap.size, b, none⟩ = some (.int .i16 0) := by
                  rw [Lib.cell_of_heap eR, ← hll]
                  exact rowA_at (by omega)
                have z0 := Lib.frozen_of_heap eR b
                have hnum := hbl.num
                have hrow := hbl.srow
                have hB : B ≤ wr.heap.size := Nat.le_trans (World.ownsRow.lt hrow g' rfl).1 (Nat.le_of_lt (World.ownsRow.lt hrow g' rfl).2)
                have w16 : IntKind.i16.wrap (st.length : Int) = (st.length : Int) := by unfold IntKind.wrap; simp [IntKind.bits, IntKind.signed]; omega
                have HT := Lib.hid (And.intro hbl (And.intro hin (And.intro eR (And.intro eA (And.intro hst (And.intro eT (And.intro hnum hrow)))))))
                clear hbl hin eR eA hst hbt eT hrow
                by_cases h400 : st.length < 400
                · have tg : decide ((400 : Int) < (st.length : Int) + 1) = false := decide_eq_false (by omega)
                  go_wp2_with (first
                    | (at_lookup; refine wpList_num_look _ rfl _ _ _ rfl (by kernel_rfl) hzz NB st t2 rfl hnum hw4 rfl ?_; intro c ok hok hc; obtain rfl : ok = false := (by cases ok; exact rfl; exact absurd (hok.1 rfl) hmem); clear hok hc)
                    | (at_mapUpdate; refine wpList_num_put _ rfl _ _ _ _ rfl (by kernel_rfl) NB st t2 rfl hnum hw4 hmem (by omega) rfl rfl ?_; intro wp hnp hgp
                       have eTp := (hgp.block _ (lt_of_block HT.out.2.2.2.2.2.1) (fun e => num_ne HT.out.2.2.2.2.2.2.1 HT.out.2.2.2.2.2.1 (by injection e))).trans HT.out.2.2.2.2.2.1
                       obtain ⟨y0, y1, y2, y3⟩ := set4_cells eTp
                       have HP := Lib.hid (And.intro hnp hgp)
                       have hrow : wp.ownsRow B 88 4 (.slice (some ⟨g', 0, none⟩) st.length cap') st.length (flatC st) := row_keepP HT.out.2.2.2.2.2.2.2 fun q hq => hgp.block q (World.ownsRow.lt HT.out.2.2.2.2.2.2.2 q hq).2 (fun e => (by obtain ⟨cu, hcu⟩ := row_cell HT.out.2.2.2.2.2.2.2 hq; exact num_ne HT.out.2.2.2.2.2.2.1 hcu (by injection e)))
                       have hBp : B ≤ wp.heap.size := Nat.le_trans hB hgp.size
                       clear hnp hgp eTp)
                    | (at_builtin; refine append_lies_el elem_set rfl _ _ _ rfl (by kernel_rfl) B _ st.length (flatC st) rfl (hrow.alloc _) (by omega) wp.heap.size 1 (setC t2).toList rfl rfl (heap_alloc_new ..) (fun u hu => by
                         simp only [setC, List.mem_cons, List.not_mem_nil, or_false] at hu
                         rcases hu with rfl | rfl | rfl | rfl <;> rfl) (by simp; omega) ?_; intro g3 cap3 w3 hrow3 hg3 hl3
                       have hG := HT.out.1.grow hw4 HP.out.2 HP.out.1 hg3 hrow3
                       have eR3 := (hG.2 wo.heap.size (lt_of_block HT.out.2.2.1) (num_ne HT.out.2.2.2.2.2.2.1 HT.out.2.2.1) (row_ne HT.out.2.2.2.2.2.2.2 HT.out.2.2.1 (by decide))).trans HT.out.2.2.1
                       have eA3 := (hG.2 w6.heap.size (lt_of_block HT.out.2.2.2.1) (num_ne HT.out.2.2.2.2.2.2.1 HT.out.2.2.2.1) hgA).trans HT.out.2.2.2.1
                       have hgA3 : (Value.slice (some ⟨g3, 0, none⟩) (st.length + 1) cap3).ownBlock ≠ some w6.heap.size := (by
                         rcases hl3 with h3 | h3
                         · have h4 : (Value.slice (some ⟨g3, 0, none⟩) (st.length + 1) cap3).ownBlock = (Value.slice (some ⟨g', 0, none⟩) st.length cap').ownBlock := h3.symm
                           rw [h4]
                           exact hgA
                         · have h5 := HP.out.2.size
                           have h6 := lt_of_block HT.out.2.2.2.1
                           intro e
                           have e2 : g3 = w6.heap.size := by injection e
                           rw [World.size_alloc] at h3
                           omega)
                       have c3 : w3.cell? ⟨wo.heap.size, b, none⟩ = some (.int .i16 0) := (by
                         rw [Lib.cell_of_heap eR3, ← hll]
                         exact rowA_at (by omega))
                       have z3 := Lib.frozen_of_heap eR3 b
                       have HG := Lib.hid (And.intro hG.1 (And.intro eR3 (And.intro eA3 hgA3)))
                       clear hrow3 hg3 hl3 hG eR3 eA3 hgA3))
                  have hbl2 := HG.out.1.one hwo (one_cell wo.heap.size b w3 (.int .i16 (st.length : Nat))) HG.out.2.1 hnR
                  have eR2 := heap_setS HG.out.2.1 l.length (.int .i16 (st.length : Nat))
                  rw [rowA_set (by omega), hll] at eR2
                  have hin2 := HT.out.2.1.new (by rw [HT.out.2.2.2.2.1]; exact hmem) h400 (by rw [HT.out.2.2.2.2.1]; exact hre)
                  rw [HT.out.2.2.2.2.1] at hin2
                  exact ⟨⟨b + 1, st ++ [t2], l ++ [st.length], g3, cap3, by simp, by simp, by omega, hbl2, hin2, eR2, ((one_cell wo.heap.size b w3 (.int .i16 (st.length : Nat))).other _ (cells_ne HG.out.2.2.1 HG.out.2.1 (by decide))).trans HG.out.2.2.1, HG.out.2.2.2⟩, by simp [intOf]; omega⟩
                · have tg : (400 : Int) < (st.length : Int) + 1 := by omega
                  go_wp2_with (first
                    | (at_lookup; refine wpList_num_look _ rfl _ _ _ rfl (by kernel_rfl) hzz NB st t2 rfl hnum hw4 rfl ?_; intro c ok hok hc; obtain rfl : ok = false := (by cases ok; exact rfl; exact absurd (hok.1 rfl) hmem); clear hok hc)
                    | (at_mapUpdate; refine wpList_num_put _ rfl _ _ _ _ rfl (by kernel_rfl) NB st t2 rfl hnum hw4 hmem (by omega) rfl rfl ?_; intro wp hnp hgp
                       have eTp := (hgp.block _ (lt_of_block HT.out.2.2.2.2.2.1) (fun e => num_ne HT.out.2.2.2.2.2.2.1 HT.out.2.2.2.2.2.1 (by injection e))).trans HT.out.2.2.2.2.2.1
                       obtain ⟨y0, y1, y2, y3⟩ := set4_cells eTp
                       have HP := Lib.hid (And.intro hnp hgp)
                       have hrow : wp.ownsRow B 88 4 (.slice (some ⟨g', 0, none⟩) st.length cap') st.length (flatC st) := row_keepP HT.out.2.2.2.2.2.2.2 fun q hq => hgp.block q (World.ownsRow.lt HT.out.2.2.2.2.2.2.2 q hq).2 (fun e => (by obtain ⟨cu, hcu⟩ := row_cell HT.out.2.2.2.2.2.2.2 hq; exact num_ne HT.out.2.2.2.2.2.2.1 hcu (by injection e)))
                       have hBp : B ≤ wp.heap.size := Nat.le_trans hB hgp.size
                       clear hnp hgp eTp)
                    | (at_builtin; refine append_lies_el elem_set rfl _ _ _ rfl (by kernel_rfl) B _ st.length (flatC st) rfl (hrow.alloc _) (by omega) wp.heap.size 1 (setC t2).toList rfl rfl (heap_alloc_new ..) (fun u hu => by
                         simp only [setC, List.mem_cons, List.not_mem_nil, or_false] at hu
                         rcases hu with rfl | rfl | rfl | rfl <;> rfl) (by simp; omega) ?_; intro g3 cap3 w3 hrow3 hg3 hl3
                       have hG := HT.out.1.grow hw4 HP.out.2 HP.out.1 hg3 hrow3
                       have eR3 := (hG.2 wo.heap.size (lt_of_block HT.out.2.2.1) (num_ne HT.out.2.2.2.2.2.2.1 HT.out.2.2.1) (row_ne HT.out.2.2.2.2.2.2.2 HT.out.2.2.1 (by decide))).trans HT.out.2.2.1
                       have eA3 := (hG.2 w6.heap.size (lt_of_block HT.out.2.2.2.1) (num_ne HT.out.2.2.2.2.2.2.1 HT.out.2.2.2.1) hgA).trans HT.out.2.2.2.1
                       have hgA3 : (Value.slice (some ⟨g3, 0, none⟩) (st.length + 1) cap3).ownBlock ≠ some w6.heap.size := (by
                         rcases hl3 with h3 | h3
                         · have h4 : (Value.slice (some ⟨g3, 0, none⟩) (st.length + 1) cap3).ownBlock = (Value.slice (some ⟨g', 0, none⟩) st.length cap').ownBlock := h3.symm
                           rw [h4]
                           exact hgA
                         · have h5 := HP.out.2.size
                           have h6 := lt_of_block HT.out.2.2.2.1
                           intro e
                           have e2 : g3 = w6.heap.size := by injection e
                           rw [World.size_alloc] at h3
                           omega)
                       have c3 : w3.cell? ⟨wo.heap.size, b, none⟩ = some (.int .i16 0) := (by
                         rw [Lib.cell_of_heap eR3, ← hll]
                         exact rowA_at (by omega))
                       have z3 := Lib.frozen_of_heap eR3 b
                       have r0 : w3.cell? ⟨w.heap.size, 0, none⟩ = some (.slice none 0 0) := (by rw [Lib.cell_of_heap hG.1.res]; rfl)
                       have r1 : w3.cell? ⟨w.heap.size, 1, none⟩ = some (.slice none 0 0) := (by rw [Lib.cell_of_heap hG.1.res]; rfl)
                       have q0 := Lib.frozen_of_heap hG.1.res 0
                       have q1 := Lib.frozen_of_heap hG.1.res 1
                       have HG := Lib.hid (And.intro hG.1 (And.intro eR3 (And.intro eA3 hgA3)))
                       clear hrow3 hg3 hl3 hG eR3 eA3 hgA3))
                  refine bodyPost_ret (results_row_tmp rfl _ _ w.heap.size 58 #[.slice none 0 0, .slice none 0 0] (0, 0) _ rfl (heap_setS (heap_setS HG.out.1.res 0 _) 1 _) Try.underlying58 rfl (by kernel_rfl)) rfl ?_
                  have o9 := (one_cell w.heap.size 0 w3 (.slice none 0 0)).trans (one_cell w.heap.size 1 _ (.slice none 0 0))
                  refine ⟨HG.out.1.bel.trans (o9.below (Nat.le_refl _)), Or.inl ⟨rfl, st ++ [t2], ?_, by simp; omega, fun y hy => ?_⟩⟩
                  · rw [List.nodup_append]
                    refine ⟨HT.out.2.1.nodup, by simp, fun a ha c hc => ?_⟩
                    have : c = t2 := by simpa using hc
                    rw [this]
                    exact fun e => hmem (e ▸ ha)
                  · rcases List.mem_append.1 hy with h5 | h5
                    · exact HT.out.2.1.reach y h5
                    · have : y = t2 := by simpa using h5
                      rw [this]; exact hre
        · have tb : decide ((b : Int) < 256) = false := decide_eq_false (by omega)
          obtain rfl : b = 256 := by omega
          have hll := hin.ll
          have hMl := lt_of_block hbl.mach
          have m0 : wr.cell? ⟨MB, 0, none⟩ = some (.slice na rows.length nc) := by rw [Lib.cell_of_heap hbl.mach]; rfl
          have hrg : wr.rangeAt wo.heap.size 0 (l.map fun n => Value.int .i16 (n : Nat)) := by
            have h1 := World.rangeAt_of_block eR 0 256
            rw [show (rowA l).extract 0 (0 + 256) = rowA l by
              rw [Nat.zero_add, ← rowA_size (l := l) (by omega)]
              simp, rowA_full hll] at h1
            exact h1
          have hinf : (Try.prog.info? 62).map (·.size) = some (l.map fun n => Value.int .i16 (n : Nat)).length := by
            rw [List.length_map, hll]
            kernel_rfl
          have hone : ∀ u ∈ (l.map fun n => Value.int .i16 (n : Nat)), u.oneCell' = true := fun u hu => by
            obtain ⟨n, _, rfl⟩ := List.mem_map.1 hu
            rfl
          have hlen2 : (l.map fun n => Value.int .i16 (n : Nat)).length = 256 := by rw [List.length_map, hll]
          have hrn := hbl.nrow
          have hrl : rows.length ≤ 400 := by have := HI.out.2.1.rl; omega
          have hel : ends.length ≤ 400 := by have := HI.out.2.1.el; omega
          have hB : B ≤ wr.heap.size := Nat.le_trans (World.ownsRow.lt hbl.srow g' rfl).1 (Nat.le_of_lt (World.ownsRow.lt hbl.srow g' rfl).2)
          generalize hls : (l.map fun n => Value.int .i16 (n : Nat)) = ls at *
          have HT := Lib.hid (And.intro hbl (And.intro hin hls))
          clear hbl hin eR eA hls
          go_upto_region 33 with fail
          go_upto_region 34 with (first
            | (refine wpList_load_mid rfl 62 _ rfl wo.heap.size 0 rfl ls _ hrg Try.underlying62 rfl hinf ?_)
            | (refine wpList_buildOne elem_row rfl 55 _ rfl (by kernel_rfl) ls hlen2 (by decide) rfl ?_)
            | (at_builtin; refine append_lies_el elem_row rfl _ _ _ rfl (by kernel_rfl) B _ rows.length (rowsC rows) rfl (hrn.alloc _) (by omega) wr.heap.size 1 ls rfl hlen2 (heap_alloc_new ..) hone (by simp; omega) ?_; intro g3 cap3 w3 hrow3 hg3 hl3
               have hN := HT.out.1.next (r := l) hg3 (by rw [HT.out.2.2]; exact hrow3)
               have n0 : w3.cell? ⟨MB, 0, none⟩ = some (.slice na rows.length nc) := (by rw [Lib.cell_of_heap hN.2]; rfl)
               have z3 := Lib.frozen_of_heap hN.2 0
               have HN := Lib.hid hN.1
               clear hrow3 hg3 hl3 hN))
          have hN := HN.out
          have hin := HT.out.2.1
          clear HN HT m0 hrg hinf hone hlen2 hrn hB hMl n0 z3
          generalize w3.setCell ⟨MB, 0, none⟩ (.slice (some ⟨g3, 0, none⟩) (rows.length + 1) cap3) = w8 at *
          have hd := hN.below (W' := w8.drew) ⟨rfl, rfl, rfl, Nat.le_refl _, fun k _ => rfl⟩
          have hst0 : st[k]? = some t := by
            obtain ⟨m, hm⟩ := hin.ext
            rw [hm, List.getElem?_append_left hlt]
            exact HI.out.2.2.2.2.2.2.1.1
          have htw := hd.sok t (List.mem_of_getElem? hst0)
          have hks : k < st.length := (List.getElem?_eq_some_iff.1 hst0).1
          have htd : t = st.getD k [] := by simp [List.getD, hst0]
          have m1 : w8.drew.cell? ⟨MB, 1, none⟩ = some (.slice ea ends.length ec) := by rw [Lib.cell_of_heap hd.mach]; rfl
          have hcell := fun j (hj : j < 4) => (World.ownsRow.cellAt hd.srow (k * 4 + j) (by omega)).trans (flat_get st k j hks hj)
          rw [← htd] at hcell
          have f0 := hcell 0 (by decide)
          have f1 := hcell 1 (by decide)
          have f2 := hcell 2 (by decide)
          have f3 := hcell 3 (by decide)
          rw [Nat.add_zero] at f0
          have hgl := (World.ownsRow.lt hd.srow g' rfl).2
          have hMl := lt_of_block hd.mach
          have hEn := Lib.hid (ends_any hd.plan t htw)
          have HD := Lib.hid (And.intro hd hin)
          have tks : (k : Int) < (st.length : Int) := by omega
          clear hd hin hcell hN htw
          generalize hvp : Value.agg #[.slice ca cls.length cc, .slice fa fol.length fc, .bool x.em, .int .u64 (wd x.fst 0 : Nat), .int .u64 (wd x.fst 1 : Nat), .int .u64 (wd x.fst 2 : Nat), .int .u64 (wd x.fst 3 : Nat), .int .u64 (wd x.lst 0 : Nat), .int .u64 (wd x.lst 1 : Nat), .int .u64 (wd x.lst 2 : Nat), .int .u64 (wd x.lst 3 : Nat)] = vpl
          generalize hvt : Value.tuple #[vpl, .int .i64 0] = vtp
          generalize hvs : Value.agg #[.int .u64 (wd (sadd e4 0) 0 : Nat), .int .u64 (wd (sadd e4 0) 1 : Nat), .int .u64 (wd (sadd e4 0) 2 : Nat), .int .u64 (wd (sadd e4 0) 3 : Nat)] = vse
          refine seq_last fun KL hKL => ?_
          go_cut [98] from 98 to 107 (fun s98 wx => ∃ (g4 cap4 : Nat), BldAt B P NB MB A w cls fol x (.slice ca cls.length cc) (.slice fa fol.length fc) st (.slice (some ⟨g', 0, none⟩) st.length cap') (rows ++ [l]) (ends ++ [endsM x t]) (.slice (some ⟨g3, 0, none⟩) (rows.length + 1) cap3) (.slice (some ⟨g4, 0, none⟩) (ends.length + 1) cap4) wx)
          case rest =>
            subst hvs
            subst hvt
            subst hvp
            obtain ⟨g4, cap4, h10⟩ := hcut
            have hin := HD.out.2
            have hnext := HI.out.2.1.next hin HI.out.2.2.2.2.2.2.1.1
            have HZ := Lib.hid (And.intro h10 hnext)
            clear h10 hnext hin HD hEn m1 f0 f1 f2 f3 hMl hgl
            refine hKL _ _ ?_
            go_wp2_with fail
            exact ⟨⟨k + 1, st, rows ++ [l], ends ++ [endsM x t], _, _, g', cap', by simp, rfl, HZ.out.1, HZ.out.2⟩, by simp [intOf]; omega⟩
          case first =>
            clear HI hs4 hfc hbz hwo hnc hec
            clear hvs hvt hvp htd hst0 hll tb hlb hb eS2 hgA hz hks hlt hlen tk hKL
            go_region_law (first
              | (go_simp; go_at_call 44; refine hEn.out.mono ?_
                 rintro e w9 ⟨rfl, hb9⟩
                 have h9 := HD.out.1.below hb9
                 have n1 : w9.cell? ⟨MB, 1, none⟩ = some (.slice ea ends.length ec) := (by rw [Lib.cell_of_heap h9.mach]; rfl)
                 have hre := h9.erow
                 have hB9 : B ≤ w9.heap.size := Nat.le_trans (World.ownsRow.lt h9.srow g' rfl).1 (Nat.le_of_lt (World.ownsRow.lt h9.srow g' rfl).2)
                 have hMl9 := lt_of_block h9.mach
                 have H9 := Lib.hid h9
                 clear h9 hb9)
              | (refine step_append_el elem_bool rfl _ _ 56 rfl Try.underlying56 B _ ends.length (ends.map Value.bool) rfl (hre.alloc (.cells #[.bool (endsM x t)] 4 (0, 0))) (by omega) w9.heap.size 1 [.bool (endsM x t)] rfl rfl (heap_alloc_new w9 _) (by simp [Value.oneCell']) (by simp; omega) ?_
                 intro g4 cap4 w10 hrow10 hg10 hv10
                 have h10 := H9.out.endOf (r := endsM x t) hg10 hrow10
                 have m2 : w10.cell? ⟨MB, 1, none⟩ = some (.slice ea ends.length ec) := (by rw [Lib.cell_of_heap h10.2]; rfl)
                 have z2 := Lib.frozen_of_heap h10.2 1
                 have H10 := Lib.hid h10.1
                 clear h10 hrow10 hg10 hv10))
            all_goals
              go_wp2_with fail
              go_meet
              exact ⟨_, _, H10.out⟩
    · have tk : decide ((k : Int) < (sets.length : Int)) = false := decide_eq_false (by omega)
      obtain rfl : k = sets.length := by have := hhf.le; omega
      have m0 : wo.cell? ⟨MB, 0, none⟩ = some (.slice na rows.length nc) := by rw [Lib.cell_of_heap hbl.mach]; rfl
      have m1 : wo.cell? ⟨MB, 1, none⟩ = some (.slice ea ends.length ec) := by rw [Lib.cell_of_heap hbl.mach]; rfl
      have r0 : wo.cell? ⟨w.heap.size, 0, none⟩ = some (.slice none 0 0) := by rw [Lib.cell_of_heap hbl.res]; rfl
      have r1 : wo.cell? ⟨w.heap.size, 1, none⟩ = some (.slice none 0 0) := by rw [Lib.cell_of_heap hbl.res]; rfl
      have z0 := Lib.frozen_of_heap hbl.res 0
      have z1 := Lib.frozen_of_heap hbl.res 1
      have HR := Lib.hid (And.intro hbl hhf)
      clear hbl hhf
      go_wp2_with fail
      refine bodyPost_ret (results_row_tmp rfl _ _ w.heap.size 58 #[.slice na rows.length nc, .slice ea ends.length ec] (0, 0) _ rfl (heap_setS (heap_setS HR.out.1.res 0 _) 1 _) Try.underlying58 rfl (by kernel_rfl)) rfl ?_
      have o9 := (one_cell w.heap.size 0 wo (.slice na rows.length nc)).trans (one_cell w.heap.size 1 _ (.slice ea ends.length ec))
      refine ⟨HR.out.1.bel.trans (o9.below (Nat.le_refl _)), Or.inr ⟨_, _, sets, rows, ends, rfl, HR.out.2, ?_, ?_⟩⟩
      · exact row_keepP (ownsRow_mono HR.out.1.nrow (by have := HR.out.1.low; omega)) fun q hq => o9.other q fun e => row_ne HR.out.1.nrow HR.out.1.res (by decide) (e ▸ hq)
      · exact row_keepP (ownsRow_mono HR.out.1.erow (by have := HR.out.1.low; omega)) fun q hq => o9.other q fun e => row_ne HR.out.1.erow HR.out.1.res (by decide) (e ▸ hq)

end Go.Proofs.Ytebcflgdjbjkoaa
