/- clapkeep1.DecimalGrouped answers true. -/
import Derived.Test.YtpoolbachhelgaaDoorWhole
import Derived.Test.YtpoolbachhelgaaDoorReadFixed
import Derived.Test.YtpoolbachhelgaaDoorUngroup
namespace Go.Proofs.YtpoolbachhelgaaDoor
open Go.RowKit

theorem int_sign (z : Int) : ∃ (neg : Bool) (m : Nat), z = (if neg then -(m : Int) else m) ∧ (neg = true → 1 ≤ m) ∧ m = z.natAbs ∧ neg = decide (z < 0) := by
  by_cases h : z < 0
  · exact ⟨true, z.natAbs, by simp; omega, fun _ => by omega, rfl, by simp [h]⟩
  · exact ⟨false, z.natAbs, by simp; omega, fun h => by (cases h), rfl, by simp [h]⟩

/-- A numeral with places as a whole part and the places. -/
theorem fixL_parts (neg : Bool) (places : Nat) (hp : places ≤ 15) (D : List Nat) (hD : ∀ d ∈ D, d < 10) (h1 : 1 ≤ D.length) (h2 : D.length ≤ 54) :
    ∃ (pt : Bool) (W F : List Nat), fixL neg places D = signed neg (W ++ tailL pt F) ∧ (pt = false → F = []) ∧ (pt = true → 1 ≤ F.length) ∧ (∀ c ∈ W, 48 ≤ c ∧ c ≤ 57) ∧ (∀ c ∈ F, 48 ≤ c ∧ c ≤ 57) ∧ 1 ≤ W.length ∧ W.length + F.length ≤ 75 := by
  by_cases hp0 : places = 0
  · exact ⟨false, D.map digC, [], by simp [fixL, hp0, tailL], fun _ => rfl, (fun h => by cases h), letters_ok hD, (fun c hc => by cases hc), by simp; omega, by simp; omega⟩
  · have hPd : ∀ d ∈ padD places D, d < 10 := by
      intro d hd
      rcases List.mem_append.1 hd with hd | hd
      · rw [List.eq_of_mem_replicate hd]; decide
      · exact hD d hd
    have hlet := letters_ok hPd
    have hl : (padD places D).length = places + 1 - D.length + D.length := by simp [padD]
    generalize hPL : (padD places D).map digC = PL at *
    have hPl : PL.length = places + 1 - D.length + D.length := by rw [← hPL, List.length_map, hl]
    refine ⟨true, PL.take (PL.length - places), PL.drop (PL.length - places), ?_, (fun h => by cases h), fun _ => by simp; omega, fun c hc => hlet c (List.mem_of_mem_take hc), fun c hc => hlet c (List.mem_of_mem_drop hc), by simp; omega, by simp; omega⟩
    unfold fixL
    rw [if_neg hp0, hPL]
    rfl

theorem pieces_law (W : List Nat) (hW : ∀ c ∈ W, 48 ≤ c ∧ c ≤ 57) (hW1 : 1 ≤ W.length) (size : Nat) (hs : 1 ≤ size) :
    ∃ N : Nat, Lib.countB (strN (outTo size W W.length)) ⟨#[44]⟩ + 1 = N ∧ N ≤ W.length + 1 ∧ (Lib.splitB ⟨#[44]⟩ 0 (Lib.countB (strN (outTo size W W.length)) ⟨#[44]⟩) (strN (outTo size W W.length))).length = N ∧
      ∀ i, i < N → ∃ p : ByteArray, (Lib.splitB ⟨#[44]⟩ 0 (Lib.countB (strN (outTo size W W.length)) ⟨#[44]⟩) (strN (outTo size W W.length)))[i]? = some p ∧ p.size ≤ size ∧ (0 < i → p.size = size) := by
  obtain ⟨x, r, hx⟩ := chunks_ne size W.length W
  have hmem := chunks_mem size W.length W
  have hout := out_chunks hs W.length W (Nat.le_refl _)
  have hlen := chunks_len hs W.length W (Nat.le_refl _) hW1 x r hx
  have hfl := chunks_flatten size W.length W
  rw [hx] at hmem hout hfl
  have ne : ∀ p ∈ u8s x :: r.map u8s, ∀ b ∈ p, b ≠ 44 := by
    intro p hp b hb
    have hp' : p ∈ (x :: r).map u8s := hp
    obtain ⟨q, hq, rfl⟩ := List.mem_map.1 hp'
    obtain ⟨c, hc, rfl⟩ := List.mem_map.1 hb
    have := hW c (hmem q hq c hc)
    exact ofNat_ne (a := c) (b := 44) (by omega) (by omega) (by omega)
  have hd : (strN (outTo size W W.length)).data.toList = joinC 44 (u8s x :: r.map u8s) := by
    rw [strN_data, hout, joinC_map]; rfl
  have hcount : Lib.countB (strN (outTo size W W.length)) ⟨#[44]⟩ = r.length := by
    show Lib.count (strN (outTo size W W.length)).data.toList [44] = _
    rw [hd, count_join 44 _ _ ne, List.length_map]
  have hsp := Lib.splitB_data ⟨#[44]⟩ 0 r.length (strN (outTo size W W.length))
  rw [show (⟨#[44]⟩ : ByteArray).data.toList = [44] from rfl, hd] at hsp
  have hk := splitK_join 44 (u8s x) (r.map u8s) ne
  rw [List.length_map] at hk
  rw [hk] at hsp
  rw [hcount]
  have hrl : r.length ≤ W.length := by
    have e : ((x :: r).flatten).length = W.length := by rw [hfl]
    rw [List.flatten_cons, List.length_append] at e
    have : r.length ≤ r.flatten.length := by
      have hr : ∀ y ∈ r, y.length = size := hlen.2.2
      clear e hlen hfl hmem hout hx ne hd hcount hsp hk
      induction r with
      | nil => simp
      | cons y r ih =>
        have h1 := hr y (List.mem_cons_self ..)
        have h2 := ih (fun z hz => hr z (List.mem_cons_of_mem _ hz))
        rw [List.flatten_cons, List.length_append, List.length_cons]
        omega
    omega
  generalize Lib.splitB ⟨#[44]⟩ 0 r.length (strN (outTo size W W.length)) = ps at *
  have hpl : ps.length = r.length + 1 := by
    have := congrArg List.length hsp
    simpa using this
  refine ⟨r.length + 1, rfl, by omega, hpl, fun i hi => ?_⟩
  have hi' : i < ps.length := by omega
  refine ⟨ps[i], List.getElem?_eq_getElem hi', ?_⟩
  have hz : ps[i].size = ((u8s x :: r.map u8s)[i]'(by simp; omega)).length := by
    have h1 : (ps.map (fun b => b.data.toList))[i]'(by simpa using hi') = (u8s x :: r.map u8s)[i]'(by simp; omega) := by
      simp only [hsp]
    rw [← h1]
    simp
  rcases i with _ | i
  · rw [hz]
    simp only [List.getElem_cons_zero, u8s_length]
    exact ⟨hlen.1, fun h => absurd h (by decide)⟩
  · rw [hz]
    simp only [List.getElem_cons_succ, List.getElem_map, u8s_length]
    have := hlen.2.2 (r[i]'(by omega)) (List.getElem_mem _)
    exact ⟨by omega, fun _ => this⟩

theorem cutPoint (pt : Bool) (W F : List Nat) (hpt : pt = false → F = []) (hW : ∀ c ∈ W, c < 256 ∧ c ≠ 46) (hlen : W.length + F.length ≤ 1000) (w : World) :
    Calls Tryd.prog 28 #[.string (strN (W ++ tailL pt F)), .string ⟨#[46]⟩] w fun e w' => e = .returned (.tuple #[.string (strN W), .string (strN F), .bool pt]) ∧ Below w.heap.size w w' := by
  have hne46 : ∀ b ∈ W.map UInt8.ofNat, b ≠ 46 := by
    intro b hb
    obtain ⟨c, hc, rfl⟩ := List.mem_map.1 hb
    have := hW c hc
    exact ofNat_ne (a := c) (b := 46) (by omega) (by omega) (by omega)
  cases pt
  · rw [hpt rfl]
    have e : strN (W ++ tailL false []) = strN W := by simp [tailL]
    rw [e]
    have hi : Lib.indexByte (strN W).data.toList 46 = -1 := by rw [strN_data]; exact indexByte_none _ _ hne46
    exact (cutOne_none (strN W) 46 hi w).mono fun _ _ ⟨a, b⟩ => ⟨a, by subst b; exact Below.refl _ _⟩
  · have hi : Lib.indexByte (strN (W ++ tailL true F)).data.toList 46 = (W.length : Nat) := by
      rw [strN_data]
      have := indexByte_at (W.map UInt8.ofNat) (F.map UInt8.ofNat) 46 hne46
      rw [List.length_map] at this
      rw [show (W ++ tailL true F).map UInt8.ofNat = W.map UInt8.ofNat ++ 46 :: F.map UInt8.ofNat from by simp [tailL]]
      exact this
    have hl : (W ++ tailL true F).length = W.length + 1 + F.length := by simp [tailL]; omega
    have h := cutOne_at (strN (W ++ tailL true F)) 46 W.length hi (by rw [strN_size, hl]; omega) (by rw [strN_size, hl]; omega) w
    have e1 : (strN (W ++ tailL true F)).extract 0 W.length = strN W := by rw [strN_take, List.take_left]
    have e2 : (strN (W ++ tailL true F)).extract (W.length + 1) (strN (W ++ tailL true F)).size = strN F := by
      rw [strN_size, strN_drop]
      rw [show W ++ tailL true F = (W ++ [46]) ++ F from by simp [tailL], List.drop_left' (by simp)]
    rw [e1, e2] at h
    exact h

set_option maxRecDepth 100000 in
set_option maxHeartbeats 4000000 in
theorem decimalGrouped_walk (n k places size : Int) (w : World) (hmx : maxOk w) :
    Calls Tryd.prog 5 #[.int .i64 n, .int .i64 k, .int .i64 places, .int .i64 size] w fun e w' => e = .returned (.bool true) ∧ Below w.heap.size w w' := by
  have H1 := Lib.hid (whole_any n k)
  have H2 := Lib.hid (below_any places 10 (by decide) (by decide))
  have H3 := Lib.hid (below_any size 15 (by decide) (by decide))
  obtain ⟨sz, hsz⟩ : ∃ sz : Nat, 1 + size % 15 = (sz : Int) := ⟨(1 + size % 15).toNat, by omega⟩
  obtain ⟨p, hp⟩ : ∃ p : Nat, places % 10 = (p : Int) := ⟨(places % 10).toNat, by omega⟩
  have s1 : 1 ≤ sz := by omega
  have s2 : sz ≤ 15 := by omega
  have p1 : p ≤ 15 := by omega
  have e1 : IntKind.i64.wrap (1 + size % 15) = (sz : Int) := by rw [IntWalk.i64_in _ ⟨by omega, by omega⟩]; exact hsz
  rw [hp] at H2
  have HMx := Lib.hid hmx
  clear hsz hp hmx
  go_enter Tryd.func5, Tryd.ntmps5
  go_wp2_with fail
  refine (H2.out _).mono ?_; rintro e w1 ⟨rfl, rfl⟩
  go_wp2_with fail
  refine (H3.out _).mono ?_; rintro e w1 ⟨rfl, rfl⟩
  go_wp2_with fail
  refine (H1.out _).mono ?_; rintro e w1 ⟨⟨z, rfl, z1, z2⟩, rfl⟩
  obtain ⟨neg, m, rfl, hneg, hmz, hnz⟩ := int_sign z
  have hm : m ≤ 9007199254740992 := by omega
  have hF := fixed_any neg m p p1 hm hneg
  obtain ⟨pt, W, F, hfx, q1, q2, q3, q4, q5, q6⟩ := fixL_parts neg p p1 (ds 10 m) (ds_lt 10 m (by decide)) (ds_length_pos 10 m (by decide)) (ds_length_le 10 m 53 (by decide) (by omega))
  rw [hfx] at hF
  have hG := group_any neg pt W F q1 q2 q3 q4 q5 q6 sz s1 s2
  have hU := ungroup_any neg pt W F q1 q2 q3 q4 q5 q6 sz s1 s2
  obtain ⟨N, n1, n2, n3, n4⟩ := pieces_law W q3 q5 sz s1
  have hmemO : ∀ c ∈ outTo sz W W.length, 44 ≤ c ∧ c ≤ 57 ∧ c ≠ 45 ∧ c ≠ 46 := by
    rw [out_chunks s1 W.length W (Nat.le_refl _)]
    have hmem := chunks_mem sz W.length W
    generalize chunks sz W.length W = cs at hmem
    intro c hc
    induction cs with
    | nil => cases hc
    | cons x r ih =>
      cases r with
      | nil =>
        have := q3 c (hmem x (List.mem_cons_self ..) c hc)
        omega
      | cons y r =>
        rw [joinC] at hc
        rcases List.mem_append.1 hc with hc | hc
        · have := q3 c (hmem x (List.mem_cons_self ..) c hc)
          omega
        · rcases List.mem_cons.1 hc with rfl | hc
          · decide
          · exact ih (fun p hp => hmem p (List.mem_cons_of_mem _ hp)) hc
  have hol : (outTo sz W W.length).length ≤ 2 * W.length := outTo_length sz W W.length
  have hmem : ∀ c ∈ outTo sz W W.length ++ tailL pt F, c < 256 ∧ c ≠ 45 := by
    intro c hc
    rcases List.mem_append.1 hc with hc | hc
    · have := hmemO c hc; omega
    · cases pt
      · cases hc
      · rcases List.mem_cons.1 hc with rfl | hc
        · decide
        · have := q4 c hc; omega
  obtain ⟨hc1, -⟩ := cut_sign neg (outTo sz W W.length ++ tailL pt F) hmem
  have hTP := fun w => Tryd.strings_TrimPrefix (strN (signed neg (outTo sz W W.length ++ tailL pt F))) ⟨#[45]⟩ w
  rw [show (⟨#[45]⟩ : ByteArray).data.toList = [45] from rfl, hc1, show (⟨(strN (outTo sz W W.length ++ tailL pt F)).data.toList.toArray⟩ : ByteArray) = strN (outTo sz W W.length ++ tailL pt F) from rfl] at hTP
  have hCP := cutPoint pt (outTo sz W W.length) F q1 (fun c hc => by have := hmemO c hc; omega) (by omega)
  have hos : (strN (outTo sz W W.length)).size ≤ 1000 := by rw [strN_size]; omega
  have hSp := fun (w : World) m (h : w.cell? ⟨0, 0, none⟩ = some (.int .i64 m)) => Tryd.strings_Split (strN (outTo sz W W.length)) ⟨#[44]⟩ m w (by omega) h (by decide)
  rw [n1] at hSp
  generalize Lib.splitB ⟨#[44]⟩ 0 (Lib.countB (strN (outTo sz W W.length)) ⟨#[44]⟩) (strN (outTo sz W W.length)) = ps at *
  generalize strN (signed neg (W ++ tailL pt F)) = s at *
  generalize strN (signed neg (outTo sz W W.length ++ tailL pt F)) = t at *
  generalize strN (outTo sz W W.length ++ tailL pt F) = b at *
  generalize strN (outTo sz W W.length) = o at *
  generalize strN F = fs at *
  generalize (if neg then -(m : Int) else m) = z at *
  have HF := Lib.hid hF
  have HG := Lib.hid hG
  have HU := Lib.hid hU
  have HT := Lib.hid hTP
  have HC := Lib.hid hCP
  have HS := Lib.hid hSp
  have H4 := Lib.hid n4
  have H5 := Lib.hid n3
  have nb : N ≤ 100 := by omega
  clear hF hG hU hTP hCP hSp n1 n3 n4 hmem hc1 hmemO hfx q1 q2 q3 q4 hnz hmz hneg hol hos q6
  go_wp2_with fail
  ((with_reducible refine (HF.out _).mono ?_); rintro e w2 ⟨rfl, k2⟩)
  go_wp2_with fail
  ((with_reducible refine (HG.out _).mono ?_); rintro e w3 ⟨rfl, k3⟩)
  have K3 := Lib.hid (k2.trans (k3.mono k2.size))
  clear k2 k3
  go_wp2_with fail
  ((with_reducible refine (HU.out w3 (HMx.out.below K3.out)).mono ?_); rintro e w4 ⟨rfl, k4⟩)
  have K4 := Lib.hid (K3.out.trans (k4.mono K3.out.size))
  clear k4
  go_wp2_with fail
  ((with_reducible refine (HT.out _).mono ?_); rintro e w5 ⟨rfl, rfl⟩)
  go_wp2_with fail
  ((with_reducible refine (HC.out _).mono ?_); rintro e w6 ⟨rfl, k6⟩)
  have K6 := Lib.hid (K4.out.trans (k6.mono K4.out.size))
  clear k6
  obtain ⟨mm, hmm⟩ := HMx.out.below K6.out
  have hss := Lib.hid (HS.out w6 mm hmm)
  clear hmm
  go_wp2_with fail
  refine hss.out.mono ?_; rintro e w7 ⟨rfl, rfl⟩
  go_wp2_with fail
  obtain ⟨w8, hw8⟩ : ∃ w8, w8 = w6.alloc (.cells (ps.map Value.string).toArray 9 (0, 0)) := ⟨_, rfl⟩
  rw [← hw8]
  have K8 := Lib.hid (show Below w.heap.size w w8 by rw [hw8]; exact K6.out.alloc K6.out.size _)
  have hcell : ∀ i, i < N → ∃ p : ByteArray, w8.cell? ⟨w6.heap.size, i, none⟩ = some (.string p) ∧ p.size ≤ sz ∧ (0 < i → p.size = sz) := by
    intro i hi
    obtain ⟨p, h1, h2, h3⟩ := H4.out i hi
    refine ⟨p, ?_, h2, h3⟩
    rw [hw8, Lib.cell_of_heap (cs := (ps.map Value.string).toArray) (T := 9) (fr := (0, 0)) (by show (w6.heap.push _)[w6.heap.size]? = _; simp)]
    simp [h1]
  have HCl := Lib.hid hcell
  generalize w6.heap.size = g at *
  clear hw8 hcell
  go_loopw [55] (fun iv wr => ∃ i : Nat, i ≤ N ∧ iv = .int .i64 i ∧ w8 = wr) (fun iv _ => N - (intOf iv).toNat)
  case atStart => exact ⟨0, Nat.zero_le _, rfl, rfl⟩
  case round =>
    obtain ⟨i, hi, rfl, rfl⟩ := hrel
    by_cases hlt : i < N
    · obtain ⟨pc, hc, hc2, hc3⟩ := HCl.out i hlt
      have ts1 : decide ((sz : Int) < (pc.size : Int)) = false := decide_eq_false (by omega)
      have ts2 : decide (sz < pc.size) = false := decide_eq_false (by omega)
      have hcase : i = 0 ∨ (0 < i ∧ decide (pc.size < sz) = false) := by
        rcases Nat.eq_zero_or_pos i with h | h
        · exact Or.inl h
        · exact Or.inr ⟨h, decide_eq_false (by have := hc3 h; omega)⟩
      clear hc3
      rcases hcase with tc1 | ⟨tc1, tc2⟩
      all_goals
        first | (have tc3 : decide (0 < i) = false := decide_eq_false (by omega); have HI := Lib.hid tc1; clear tc1) | skip
        go_wp2_with fail
        exact ⟨⟨i + 1, hlt, rfl, trivial⟩, by simp [intOf]; omega⟩
    · obtain rfl : i = N := by omega
      go_wp2_with fail
      refine (numbered_any _).mono ?_; rintro e w9 ⟨rfl, k9⟩
      have K9 := Lib.hid (K8.out.trans (k9.mono K8.out.size))
      clear k9
      go_wp2_with fail
      go_ret
      exact ⟨rfl, K9.out⟩

end Go.Proofs.YtpoolbachhelgaaDoor
