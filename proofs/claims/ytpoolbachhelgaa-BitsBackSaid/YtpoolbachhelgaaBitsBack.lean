/- clapkeep1.BitsBack answers true. -/
import Derived.Test.YtpoolbachhelgaaBitsText
import Derived.Test.YtpoolbachhelgaaBitsNum
import Derived.Test.YtpoolbachhelgaaArg
import Derived.Test.YtpoolbachhelgaaBelow
namespace Go.Proofs.Ytpoolbachhelgaa
open Go.RowKit

theorem field_fact : field 5 4 false = [0, 1, 0, 1] := by decide
theorem pack_nil : pack [] = [] := rfl

theorem put_fact (w : World) :
    Calls Try.prog 34 #[.agg #[.slice none 0 0, .int .i64 0], .int .i64 5, .int .i64 4, .bool false] w fun e w' => ∃ p c, e = .returned (.tuple #[.agg #[.slice p 1 c, .int .i64 4], .int .i64 0]) ∧ BitsV w' (.agg #[.slice p 1 c, .int .i64 4]) [0, 1, 0, 1] ∧ Below w.heap.size w w' := by
  refine (put_any (.agg #[.slice none 0 0, .int .i64 (([] : List Nat).length : Nat)]) [] Bin.nil 5 4 false (by decide) (by decide) (by decide) (by decide) w ⟨_, rfl, Or.inl ⟨rfl, rfl⟩⟩).mono ?_
  rintro e w1 ⟨p, c, rfl, hown, b1⟩
  rw [List.nil_append, field_fact] at *
  exact ⟨p, c, rfl, ⟨_, rfl, SlK.of_owns (by rw [intsOf_length]; exact hown)⟩, b1⟩

set_option maxRecDepth 100000 in
set_option maxHeartbeats 1000000 in
theorem strung_any (w : World) :
    Calls Try.prog 37 #[] w fun e w' => e = .returned (.bool true) ∧ Below w.heap.size w w' := by
  have HT := Lib.hid (fun (v : Value) (w1 : World) (h : BitsV w1 v [0, 1, 0, 1]) => text_any v [0, 1, 0, 1] (by intro x hx; simp at hx; omega) (by decide) w1 h)
  have hd : digitsOf [0, 1, 0, 1] = [48, 49, 48, 49] := by decide
  rw [hd] at HT
  go_enter Try.func37, Try.ntmps37
  go_wp2_with fail
  refine (put_fact _).mono ?_; rintro e w1 ⟨p, c, rfl, hown, b1⟩
  have HO := Lib.hid hown
  clear hown
  go_wp2_with fail
  refine (HT.out _ _ (HO.out.below (by go_grown))).mono ?_; rintro e w2 ⟨rfl, b2⟩
  go_wp2_with fail
  go_ret
  exact ⟨rfl, b1.trans (((Below.refl w1.heap.size w1).alloc (Nat.le_refl _) _ |>.trans (b2.mono (by simp))).mono b1.size)⟩


def RowAt (w : World) (p : Option Addr) (len cap : Nat) (xs : List Int) : Prop :=
  len = 0 ∨ ∃ b off, p = some ⟨b, off, none⟩ ∧ len ≤ cap ∧ cap ≤ maxLen ∧ ∀ i, i < cap → b < w.heap.size ∧ w.cell? ⟨b, off + i, none⟩ = some (.int .i64 (xs.getD i 0)) ∧ -9223372036854775808 ≤ xs.getD i 0 ∧ xs.getD i 0 < 9223372036854775808

theorem shift_bounds (a : Int) (wd : Nat) (h1 : 1 ≤ wd) (h2 : wd ≤ 63) (ha : -9223372036854775808 ≤ a) (hb : a < 9223372036854775808) : -(2 : Int) ^ (wd - 1) ≤ a / 2 ^ (64 - wd) ∧ a / 2 ^ (64 - wd) < 2 ^ (wd - 1) := by
  have hp : (2 : Int) ^ (wd - 1) * 2 ^ (64 - wd) = 9223372036854775808 := by
    rw [← Int.pow_add, show wd - 1 + (64 - wd) = 63 from by omega]; decide
  have hpos : (0 : Int) < 2 ^ (64 - wd) := Int.pow_pos (by decide)
  exact ⟨(Int.le_ediv_iff_mul_le hpos).2 (by rw [Int.neg_mul, hp]; exact ha), (Int.ediv_lt_iff_lt_mul hpos).2 (by rw [hp]; exact hb)⟩
theorem mod_nat (n : Int) (wd : Nat) : ∃ u : Nat, n % 2 ^ wd = (u : Int) ∧ u < 2 ^ wd := by
  have hp : ((2 ^ wd : Nat) : Int) = (2 : Int) ^ wd := by simp
  have hpos : (0 : Int) < 2 ^ wd := Int.pow_pos (by decide)
  obtain ⟨u, hu⟩ := Int.eq_ofNat_of_zero_le (Int.emod_nonneg n (show (2 : Int) ^ wd ≠ 0 by omega))
  have hlt := Int.emod_lt_of_pos n hpos
  exact ⟨u, hu, by omega⟩
structure Ent where
  at_ : Nat
  wd : Nat
  n : Int
def Ent.cells (f : Ent) : List Value := [.int .i64 f.at_, .int .i64 f.wd, .int .i64 f.n]
def Ent.ok (bs : List Nat) (low : Bool) (f : Ent) : Prop :=
  1 ≤ f.wd ∧ f.wd ≤ 63 ∧ -(2 : Int) ^ (f.wd - 1) ≤ f.n ∧ f.n < 2 ^ (f.wd - 1) ∧ f.at_ + f.wd ≤ bs.length ∧ ∀ j, j < f.wd → bs.getD (f.at_ + j) 0 = fbit (f.n % 2 ^ f.wd).toNat f.wd low j
structure LawRel (low : Bool) (w : World) (F : List Ent) (bs : List Nat) (p : Option Addr) (c : Nat) (fv : Value) (wr : World) : Prop where
  short : F.length ≤ 20
  bin : Bin bs
  len : bs.length ≤ 63 * F.length
  ok : ∀ f ∈ F, f.ok bs low
  cell : wr.heap[w.heap.size]? = some (.cells #[.slice p (pack bs).length c, .int .i64 bs.length] 54 (0, 0))
  bits : SlK .u8 wr (.slice p (pack bs).length c) (intsOf (pack bs))
  row : wr.ownsRow w.heap.size 60 3 fv F.length (F.flatMap Ent.cells)
  below : Below w.heap.size w wr

theorem row_kept {w w' : World} {base size n : Nat} {e : TypeId} {v : Value} {xs : List Value} (h : w.ownsRow base e size v n xs) (hk : ∀ k, v.ownBlock = some k → w'.heap[k]? = w.heap[k]?) : w'.ownsRow base e size v n xs := by
  obtain ⟨h1, h2⟩ := h
  refine ⟨h1, ?_⟩
  rcases h2 with h2 | ⟨g, cap, cur, hv, hg, hh, r⟩
  · exact Or.inl h2
  · exact Or.inr ⟨g, cap, cur, hv, hg, by rw [hk g (by rw [hv]; rfl)]; exact hh, r⟩
theorem own_type {w : World} {base size n : Nat} {e : TypeId} {v : Value} {xs : List Value} (h : w.ownsRow base e size v n xs) {k : Nat} {cs : Array Value} {T : TypeId} {m : Nat × Nat} (hk : w.heap[k]? = some (.cells cs T m)) (hT : T ≠ e) : some k ≠ v.ownBlock := by
  intro he
  rcases h.2 with ⟨rfl, _⟩ | ⟨g, cap, cur, rfl, hg, hh, _⟩
  · simp [Value.ownBlock] at he
  · simp [Value.ownBlock] at he
    subst he
    rw [hk] at hh
    simp only [Option.some.injEq, Obj.cells.injEq] at hh
    exact hT hh.2.1
theorem getD_left (a b : List Nat) (i : Nat) (h : i < a.length) : (a ++ b).getD i 0 = a.getD i 0 := by
  simp [List.getD, List.getElem?_append_left h]
theorem getD_right (a b : List Nat) (i : Nat) : (a ++ b).getD (a.length + i) 0 = b.getD i 0 := by
  simp [List.getD, List.getElem?_append_right (Nat.le_add_right _ _)]
theorem field_getD (u wd : Nat) (low : Bool) (j : Nat) (h : j < wd) : (field u wd low).getD j 0 = fbit u wd low j := by
  simp [field, List.getD, h]
theorem Ent.ok.more {bs cs : List Nat} {low : Bool} {f : Ent} (h : f.ok bs low) : f.ok (bs ++ cs) low := by
  obtain ⟨h1, h2, h3, h4, h5, h6⟩ := h
  refine ⟨h1, h2, h3, h4, by rw [List.length_append]; omega, fun j hj => ?_⟩
  rw [getD_left _ _ _ (by omega)]
  exact h6 j hj
theorem ent_new (bs : List Nat) (wd u : Nat) (n : Int) (low : Bool) (h1 : 1 ≤ wd) (h2 : wd ≤ 63) (h3 : -(2 : Int) ^ (wd - 1) ≤ n) (h4 : n < 2 ^ (wd - 1)) (hu : n % 2 ^ wd = (u : Int)) : (Ent.mk bs.length wd n).ok (bs ++ field u wd low) low := by
  refine ⟨h1, h2, h3, h4, by rw [List.length_append, field_length]; exact Nat.le_refl _, fun j hj => ?_⟩
  show (bs ++ field u wd low).getD (bs.length + j) 0 = fbit (n % 2 ^ wd).toNat wd low j
  rw [getD_right, hu, Int.toNat_natCast]
  exact field_getD u wd low j hj

/-- Behind the append of a field: what the blocks hold. -/
theorem law_heap {low : Bool} {w wr w3 w6 : World} {F : List Ent} {bs : List Nat} {pb : Option Addr} {cb : Nat} {fv : Value} {o1 o2 : Obj} (H : LawRel low w F bs pb cb fv wr) (k3 : Below wr.heap.size wr w3) (hg : ((w3.alloc o1).alloc o2).grownBy w6 fv.ownBlock) :
    w6.heap[w3.heap.size]? = some o1 ∧ w6.heap[w.heap.size]? = some (.cells #[.slice pb (pack bs).length cb, .int .i64 bs.length] 54 (0, 0)) ∧ w3.heap.size + 2 ≤ w6.heap.size ∧ (∀ k, wr.heap.size ≤ k → k < w3.heap.size → w6.heap[k]? = w3.heap[k]?) ∧ Below w.heap.size w w6 := by
  have lw : w.heap.size < wr.heap.size := lt_of_block H.cell
  have hz := k3.size
  have hgs := hg.size
  simp at hgs
  have low' : ∀ k, wr.heap.size ≤ k → some k ≠ fv.ownBlock := by
    intro k hk he
    have := (H.row.lt k he.symm).2
    omega
  refine ⟨?_, ?_, by omega, ?_, ?_⟩
  · rw [hg.block _ (by simp; omega) (low' _ hz)]
    exact one_new _ _ _
  · rw [hg.block _ (by simp; omega) (own_type H.row H.cell (by decide)), Below.heap_alloc _ _ _ (by simp; omega), Below.heap_alloc _ _ _ (by omega), k3.block _ lw]
    exact H.cell
  · intro k hk hk3
    rw [hg.block _ (by simp; omega) (low' _ hk), Below.heap_alloc _ _ _ (by simp; omega), Below.heap_alloc _ _ _ (by omega)]
  · exact (((H.below.trans (k3.mono (by omega))).alloc (by omega) _).alloc (by simp; omega) _).grown hg (by simp; omega) (fun k hk => (H.row.lt k hk).1)
theorem law_go {low : Bool} {w wr w2 w3 w6 : World} {F : List Ent} {bs : List Nat} {pb p3 : Option Addr} {cb c3 u wd : Nat} {n : Int} {fv fv' : Value} (H : LawRel low w F bs pb cb fv wr)
    (hF : F.length < 20) (h1 : 1 ≤ wd) (h2 : wd ≤ 63) (n1 : -(2 : Int) ^ (wd - 1) ≤ n) (n2 : n < 2 ^ (wd - 1)) (hu : n % 2 ^ wd = (u : Int)) (k2 : Below wr.heap.size wr w2)
    (o3 : w3.ownsRow w2.heap.size 5 1 (.slice p3 (pack (bs ++ field u wd low)).length c3) (pack (bs ++ field u wd low)).length ((intsOf (pack (bs ++ field u wd low))).map (Value.int .u8)))
    (hown : w6.ownsRow w.heap.size 60 3 fv' (F.length + 1) (F.flatMap Ent.cells ++ [.int .i64 bs.length, .int .i64 wd, .int .i64 n]))
    (hb6 : w6.heap[w.heap.size]? = some (.cells #[.slice pb (pack bs).length cb, .int .i64 bs.length] 54 (0, 0))) (hold : ∀ k, wr.heap.size ≤ k → k < w3.heap.size → w6.heap[k]? = w3.heap[k]?) (hbel : Below w.heap.size w w6) :
    LawRel low w (F ++ [⟨bs.length, wd, n⟩]) (bs ++ field u wd low) p3 c3 fv' ((w6.setCell ⟨w.heap.size, 0, none⟩ (.slice p3 (pack (bs ++ field u wd low)).length c3)).setCell ⟨w.heap.size, 1, none⟩ (.int .i64 ((bs.length : Int) + (wd : Int)))) := by
  have lw : w.heap.size < wr.heap.size := lt_of_block H.cell
  have hz := k2.size
  refine ⟨by rw [List.length_append]; exact hF, H.bin.append (field_bin _ _ _), ?_, ?_, ?_, ?_, ?_, ?_⟩
  · rw [List.length_append, List.length_append, field_length]
    have := H.len
    simp
    omega
  · intro f hf
    rcases List.mem_append.1 hf with hf | hf
    · exact (H.ok f hf).more
    · rw [List.mem_singleton.1 hf]
      exact ent_new bs wd u n low h1 h2 n1 n2 hu
  · have := heap_set1 (v := .int .i64 ((bs.length : Int) + (wd : Int))) (heap_set0 (v := .slice p3 (pack (bs ++ field u wd low)).length c3) hb6)
    rw [this, List.length_append, field_length]
    rfl
  · refine SlK.of_owns (base := w2.heap.size) (e := 5) ?_
    rw [intsOf_length]
    refine row_kept o3 fun k hk => ?_
    have := o3.lt k hk
    rw [Below.heap_setCell _ _ _ _ (by show k ≠ w.heap.size; omega), Below.heap_setCell _ _ _ _ (by show k ≠ w.heap.size; omega)]
    exact hold k (by omega) this.2
  · have e : (F ++ [(⟨bs.length, wd, n⟩ : Ent)]).flatMap Ent.cells = F.flatMap Ent.cells ++ [.int .i64 bs.length, .int .i64 wd, .int .i64 n] := by simp [Ent.cells]
    rw [e, List.length_append]
    refine row_kept hown fun k hk => ?_
    have hne : some w.heap.size ≠ fv'.ownBlock := own_type hown hb6 (by decide)
    have hk' : k ≠ w.heap.size := by rintro rfl; exact hne hk.symm
    rw [Below.heap_setCell _ _ _ _ hk', Below.heap_setCell _ _ _ _ hk']
  · exact (hbel.setCell (p := ⟨w.heap.size, 0, none⟩) (Nat.le_refl _) _).setCell (p := ⟨w.heap.size, 1, none⟩) (Nat.le_refl _) _

theorem flat_get (F : List Ent) (j : Nat) (h : j < F.length) (t : Nat) (ht : t < 3) : (F.flatMap Ent.cells)[j * 3 + t]? = (F[j].cells)[t]? := by
  induction F generalizing j with
  | nil => simp at h
  | cons f F ih =>
    have hl : f.cells.length = 3 := rfl
    rw [List.flatMap_cons]
    rcases j with _ | j
    · rw [List.getElem?_append_left (by omega)]
      simp
    · rw [List.getElem?_append_right (by omega), hl, show (j + 1) * 3 + t - 3 = j * 3 + t from by omega]
      simpa using ih j (by simpa using h)
theorem ent_cells {w : World} {base c : Nat} {F : List Ent} {fp : Option Addr} (h : w.ownsRow base 60 3 (.slice fp F.length c) F.length (F.flatMap Ent.cells)) (j : Nat) (hj : j < F.length) :
    ∃ q, fp = some ⟨q, 0, none⟩ ∧ w.cell? ⟨q, j * 3, none⟩ = some (.int .i64 F[j].at_) ∧ w.cell? ⟨q, j * 3 + 1, none⟩ = some (.int .i64 F[j].wd) ∧ w.cell? ⟨q, j * 3 + 2, none⟩ = some (.int .i64 F[j].n) ∧ q < w.heap.size := by
  obtain ⟨q, rfl, hq⟩ : ∃ q, fp = some ⟨q, 0, none⟩ ∧ q < w.heap.size := by
    rcases h.2 with ⟨_, h0⟩ | ⟨q, cap, cur, hv, _, hh, _⟩
    · omega
    · simp only [Value.slice.injEq] at hv
      exact ⟨q, hv.1, lt_of_block hh⟩
  refine ⟨q, rfl, ?_, ?_, ?_, hq⟩
  · have := h.cellAt (j * 3) (by omega)
    rw [this, show j * 3 = j * 3 + 0 from rfl, flat_get F j hj 0 (by decide)]; rfl
  · have := h.cellAt (j * 3 + 1) (by omega)
    rw [this, flat_get F j hj 1 (by decide)]; rfl
  · have := h.cellAt (j * 3 + 2) (by omega)
    rw [this, flat_get F j hj 2 (by decide)]; rfl
theorem info_field : (Try.prog.info? 60).map (fun i => (i.zero, i.size, i.bytes)) = some (some (.agg #[.int .i64 0, .int .i64 0, .int .i64 0]), 3, 24) := by kernel_rfl

set_option maxRecDepth 100000 in
set_option maxHeartbeats 4000000 in
theorem bitsBack_walk (p : Option Addr) (len cap : Nat) (xs : List Int) (low : Bool) (w : World) (h : RowAt w p len cap xs) :
    Calls Try.prog 9 #[.slice p len cap, .bool low] w fun e w' => e = .returned (.bool true) ∧ Below w.heap.size w w' := by
  obtain ⟨i0, hi0, hz0, hz1, hz2⟩ := info_parts info_field
  go_enter Try.func9, Try.ntmps9
  go_wp2_with fail
  go_loopw [6, 7] (fun fv iv wr => ∃ F bs p c, iv = .int .i64 (2 * F.length : Nat) ∧ LawRel low w F bs p c fv wr) (fun _ iv _ => 40 - (intOf iv).toNat)
  case atStart =>
    refine ⟨[], [], none, 0, rfl, ⟨by simp, Bin.nil, by simp, by simp, alloc_at _ _, Or.inl ⟨rfl, rfl⟩, World.ownsRow_nil _ _ _ _, by go_grown⟩⟩
  case round =>
    obtain ⟨F, bs, pb, cb, rfl, HL⟩ := hrel
    obtain ⟨i, hi⟩ : ∃ i : Nat, i = 2 * F.length := ⟨_, rfl⟩
    rw [← hi]
    have hi40 : i ≤ 40 := by have := HL.short; omega
    have HI := Lib.hid hi
    clear hi
    have wi : IntKind.i64.wrap ((i : Int) + 1) = (i : Int) + 1 := IntWalk.i64_in _ ⟨by omega, by omega⟩
    by_cases hc : i + 1 < len ∧ i < 40
    · obtain ⟨hc1, hc2⟩ := hc
      have tc1 : decide ((i : Int) + 1 < (len : Int)) = true := decide_eq_true (by omega)
      have tc2 : decide ((i : Int) < 40) = true := decide_eq_true (by omega)
      rcases h with h0 | ⟨b0, off, rfl, hl, hm, hx⟩
      · omega
      have hc0 : i < cap := by omega
      obtain ⟨lb0, x0, -, -⟩ := hx i (by omega)
      obtain ⟨lb1, x1, x1a, x1b⟩ := hx (i + 1) (by omega)
      rw [← HL.below.cell lb0] at x0
      rw [← HL.below.cell lb1] at x1
      have hni : ((i : Int) + 1).toNat = i + 1 := by omega
      have tl : (i : Int) < (len : Int) := by omega
      have tl1 : (i : Int) + 1 < (len : Int) := by omega
      generalize xs.getD i 0 = a0 at x0
      generalize xs.getD (i + 1) 0 = a1 at x1 x1a x1b
      have bc1 : wr.cell? ⟨w.heap.size, 1, none⟩ = some (.int .i64 bs.length) := by rw [Lib.cell_of_heap HL.cell]; rfl
      have bc0 : wr.cell? ⟨w.heap.size, 0, none⟩ = some (.slice pb (pack bs).length cb) := by rw [Lib.cell_of_heap HL.cell]; rfl
      have HX := Lib.hid hx
      have HH := Lib.hid HL
      clear hx HL
      have z0 : 0 ≤ a0 % 63 := by omega
      have z1 : a0 % 63 < 63 := by omega
      go_wp2_with fail
      refine (below_any a0 63 (by decide) (by decide) _).mono ?_; rintro e w1 ⟨rfl, rfl⟩
      obtain ⟨wd, hwd⟩ : ∃ wd : Nat, (wd : Int) = 1 + a0 % 63 := ⟨(1 + a0 % 63).toNat, by omega⟩
      have ww : IntKind.i64.wrap (1 + a0 % 63) = (wd : Int) := by rw [IntWalk.i64_in _ ⟨by omega, by omega⟩]; omega
      have wd1 : 1 ≤ wd := by omega
      have wd2 : wd ≤ 63 := by omega
      have wk : IntKind.i64.wrap (64 - (wd : Int)) = 64 - (wd : Int) := IntWalk.i64_in _ ⟨by omega, by omega⟩
      have wkn : (64 - (wd : Int)).toNat = 64 - wd := by omega
      clear z0 z1 hwd
      generalize a0 % 63 = z at *
      obtain ⟨n1, n2⟩ := shift_bounds a1 wd wd1 wd2 x1a x1b
      go_wp2_with fail
      generalize a1 / 2 ^ (64 - wd) = n at *
      obtain ⟨u, hu, hult⟩ := mod_nat n wd
      have hs := fun w1 => sign_any wd wd1 wd2 n n1 n2 w1
      rw [hu] at hs
      have HS := Lib.hid (And.intro hs (And.intro hu (And.intro hult (And.intro n1 n2))))
      have hlb : bs.length + wd ≤ 64000 := by have := HH.out.len; have := HH.out.short; omega
      have wsum : IntKind.i64.wrap ((bs.length : Int) + (wd : Int)) = (bs.length : Int) + (wd : Int) := IntWalk.i64_in _ ⟨by omega, by omega⟩
      clear hs hu hult n1 n2
      refine (HS.out.1 _).mono ?_; rintro e w2 ⟨rfl, k2⟩
      have z2 := k2.size
      have lg : w.heap.size < wr.heap.size := lt_of_block HH.out.cell
      have bd0 : w2.cell? ⟨w.heap.size, 0, none⟩ = some (.slice pb (pack bs).length cb) := by rw [k2.cell lg]; exact bc0
      have bd1 : w2.cell? ⟨w.heap.size, 1, none⟩ = some (.int .i64 bs.length) := by rw [k2.cell lg]; exact bc1
      have K2 := Lib.hid k2
      clear k2
      have hp := fun w1 (hb : Below wr.heap.size wr w1) => put_any (.agg #[.slice pb (pack bs).length cb, .int .i64 bs.length]) bs HH.out.bin u wd low wd1 wd2 HS.out.2.2.1 hlb w1 ⟨_, rfl, HH.out.bits.below hb⟩
      have HP := Lib.hid hp
      clear hp
      go_wp2_with fail
      refine (HP.out w2 K2.out).mono ?_; rintro e w3 ⟨p3, c3, rfl, o3, k3⟩
      have z3 := k3.size
      have be0 : w3.cell? ⟨w.heap.size, 0, none⟩ = some (.slice pb (pack bs).length cb) := by rw [k3.cell (by show w.heap.size < _; omega)]; exact bd0
      have be1 : w3.cell? ⟨w.heap.size, 1, none⟩ = some (.int .i64 bs.length) := by rw [k3.cell (by show w.heap.size < _; omega)]; exact bd1
      have bf0 : (w3.alloc (.cells #[.slice p3 (pack (bs ++ field u wd low)).length c3, .int .i64 ((bs.length : Int) + (wd : Int))] 54 (0, 0))).cell? ⟨w.heap.size, 0, none⟩ = some (.slice pb (pack bs).length cb) := Lib.cell?_alloc_some _ be0
      have bf1 : (w3.alloc (.cells #[.slice p3 (pack (bs ++ field u wd low)).length c3, .int .i64 ((bs.length : Int) + (wd : Int))] 54 (0, 0))).cell? ⟨w.heap.size, 1, none⟩ = some (.int .i64 bs.length) := Lib.cell?_alloc_some _ be1
      have K3 := Lib.hid (And.intro o3 k3)
      clear o3 k3
      have hrow : ((w3.alloc (.cells #[.slice p3 (pack (bs ++ field u wd low)).length c3, .int .i64 ((bs.length : Int) + (wd : Int))] 54 (0, 0))).alloc (.cells #[.int .i64 bs.length, .int .i64 wd, .int .i64 n] 60 (0, 0))).ownsRow w.heap.size 60 3 u6 F.length (F.flatMap Ent.cells) := ((row_below (row_below HH.out.row K2.out) K3.out.2).alloc _).alloc _
      have hF20 : F.length < 20 := by have := HI.out; omega
      go_wp2_with (at_builtin; refine wpList_append_own _ rfl _ _ 55 rfl w.heap.size 60 i0 (.agg #[.int .i64 0, .int .i64 0, .int .i64 0]) 3 24 Try.underlying55 hi0 hz0 hz1 hz2 rfl (by decide) u6 F.length (F.flatMap Ent.cells) rfl hrow ⟨w3.heap.size + 1, 0, none⟩ 1 1 [.int .i64 bs.length, .int .i64 wd, .int .i64 n] rfl rfl ?q1 ?q2 ?q3 ?q4 ?q5 ?_)
      case q1 =>
        intro j v hj
        have hh := two_new w3 (.cells #[.slice p3 (pack (bs ++ field u wd low)).length c3, .int .i64 ((bs.length : Int) + (wd : Int))] 54 (0, 0)) (.cells #[.int .i64 bs.length, .int .i64 wd, .int .i64 n] 60 (0, 0))
        match j, hj with
        | 0, hj => simp at hj; subst hj; show World.cell? _ ⟨w3.heap.size + 1, 0, none⟩ = _; rw [Lib.cell_of_heap hh]; rfl
        | 1, hj => simp at hj; subst hj; show World.cell? _ ⟨w3.heap.size + 1, 1, none⟩ = _; rw [Lib.cell_of_heap hh]; rfl
        | 2, hj => simp at hj; subst hj; show World.cell? _ ⟨w3.heap.size + 1, 2, none⟩ = _; rw [Lib.cell_of_heap hh]; rfl
      case q2 => intro v hv; simp at hv; rcases hv with rfl | rfl | rfl <;> rfl
      case q3 => unfold maxLen; omega
      case q4 => omega
      case q5 => simp; omega
      intro fv w6 hown6 hgrow6 _
      obtain ⟨A1, A2, A3, A4, A5⟩ := law_heap HH.out (K2.out.trans (K3.out.2.mono z2)) hgrow6
      have g0 : w6.cell? ⟨w3.heap.size, 0, none⟩ = some (.slice p3 (pack (bs ++ field u wd low)).length c3) := by rw [Lib.cell_of_heap A1]; rfl
      have g1 : w6.cell? ⟨w3.heap.size, 1, none⟩ = some (.int .i64 ((bs.length : Int) + (wd : Int))) := by rw [Lib.cell_of_heap A1]; rfl
      have g2 : w6.cell? ⟨w.heap.size, 0, none⟩ = some (.slice pb (pack bs).length cb) := by rw [Lib.cell_of_heap A2]; rfl
      have g3 : w6.cell? ⟨w.heap.size, 1, none⟩ = some (.int .i64 bs.length) := by rw [Lib.cell_of_heap A2]; rfl
      have g4 : w6.frozen? ⟨w.heap.size, 0, none⟩ = false := Lib.frozen_of_heap A2 0
      have g5 : w6.frozen? ⟨w.heap.size, 1, none⟩ = false := Lib.frozen_of_heap A2 1
      have HE := Lib.hid (law_go HH.out hF20 wd1 wd2 HS.out.2.2.2.1 HS.out.2.2.2.2 HS.out.2.1 K2.out K3.out.1 hown6 A2 A4 A5)
      have w2i : IntKind.i64.wrap ((i : Int) + 2) = (i : Int) + 2 := IntWalk.i64_in _ ⟨by omega, by omega⟩
      clear hown6 hgrow6 A1 A2 A3 A4 A5 hrow
      go_wp2_with fail
      refine ⟨⟨_, _, _, _, ?_, HE.out⟩, by simp [intOf]; omega⟩
      have := HI.out
      rw [List.length_append]
      congr 1
      simp
      omega
    · have htc : decide ((i : Int) + 1 < (len : Int)) = false ∨ (decide ((i : Int) + 1 < (len : Int)) = true ∧ decide ((i : Int) < 40) = false) := by
        by_cases h1 : i + 1 < len
        · exact Or.inr ⟨decide_eq_true (by omega), decide_eq_false (by omega)⟩
        · exact Or.inl (decide_eq_false (by omega))
      have lg : w.heap.size < wr.heap.size := lt_of_block HL.cell
      obtain ⟨fp, fc, rfl⟩ : ∃ fp fc, u6 = .slice fp F.length fc := by
        rcases HL.row.2 with ⟨rfl, h0⟩ | ⟨q, cap, cur, rfl, _⟩
        · exact ⟨none, 0, by rw [h0]⟩
        · exact ⟨_, _, rfl⟩
      obtain ⟨w0, rfl⟩ : ∃ w0, w0 = wr := ⟨wr, rfl⟩
      have HH := Lib.hid HL
      clear HL
      rcases htc with t1 | ⟨t1, t2⟩
      all_goals
        go_wp2_with fail
        go_loopw [85] (fun jv wq => ∃ j : Nat, j ≤ F.length ∧ jv = .int .i64 j ∧ Below w0.heap.size w0 wq) (fun jv _ => F.length - (intOf jv).toNat)
        case atStart => exact ⟨0, by omega, rfl, Below.refl _ _⟩
        case round =>
          obtain ⟨j, hj, rfl, hb⟩ := hrel
          by_cases hlt : j < F.length
          · obtain ⟨q, rfl, s0, s1, s2, hq⟩ := ent_cells HH.out.row j hlt
            have ej := HH.out.ok _ (List.getElem_mem hlt)
            rw [← hb.cell (show (⟨q, j * 3, none⟩ : Addr).block < w0.heap.size from hq)] at s0
            rw [← hb.cell (show (⟨q, j * 3 + 1, none⟩ : Addr).block < w0.heap.size from hq)] at s1
            rw [← hb.cell (show (⟨q, j * 3 + 2, none⟩ : Addr).block < w0.heap.size from hq)] at s2
            generalize F[j] = f at *
            obtain ⟨fa, fw, fn⟩ := f
            simp only [] at s0 s1 s2 ej
            obtain ⟨e1, e2, e3, e4, e5, e6⟩ := ej
            obtain ⟨u, hu, hult⟩ := mod_nat fn fw
            have hg := fun w1 (hb : Below w0.heap.size w0 w1) => get_any (.agg #[.slice pb (pack bs).length cb, .int .i64 bs.length]) bs HH.out.bin fa u fw low e1 e2 hult (by have := HH.out.len; have := HH.out.short; omega) e5 (fun t ht => by have := e6 t ht; rw [hu, Int.toNat_natCast] at this; exact this) w1 ⟨_, rfl, HH.out.bits.below hb⟩
            have hs := fun w1 => signed_any fw e1 e2 fn e3 e4 w1
            rw [hu] at hs
            have HG := Lib.hid hg
            have HS := Lib.hid hs
            have b0 : wr.cell? ⟨w.heap.size, 0, none⟩ = some (.slice pb (pack bs).length cb) := by rw [hb.cell lg, Lib.cell_of_heap HH.out.cell]; rfl
            have b1 : wr.cell? ⟨w.heap.size, 1, none⟩ = some (.int .i64 bs.length) := by rw [hb.cell lg, Lib.cell_of_heap HH.out.cell]; rfl
            have b2 : (wr.alloc (.cells #[.int .i64 fa, .int .i64 fw, .int .i64 fn] 60 (0, 0))).cell? ⟨w.heap.size, 0, none⟩ = some (.slice pb (pack bs).length cb) := Lib.cell?_alloc_some _ b0
            have b3 : (wr.alloc (.cells #[.int .i64 fa, .int .i64 fw, .int .i64 fn] 60 (0, 0))).cell? ⟨w.heap.size, 1, none⟩ = some (.int .i64 bs.length) := Lib.cell?_alloc_some _ b1
            have HB := Lib.hid hb
            have hbs := hb.size
            have hlz : F.length ≤ 20 := HH.out.short
            generalize hFl : F.length = FL at *
            clear hg hs e3 e4 e5 e6 hu hult hb
            go_wp2_with fail
            refine (HG.out _ (HB.out.alloc hbs _)).mono ?_; rintro e w4 ⟨rfl, k4⟩
            have x1 : w4.cell? ⟨wr.heap.size, 1, none⟩ = some (.int .i64 fw) := by rw [k4.cell (by simp), Lib.cell_of_heap (alloc_at _ _)]; rfl
            have x2 : w4.cell? ⟨wr.heap.size, 2, none⟩ = some (.int .i64 fn) := by rw [k4.cell (by simp), Lib.cell_of_heap (alloc_at _ _)]; rfl
            have K4 := Lib.hid k4
            clear k4
            go_wp2_with fail
            refine (HS.out _).mono ?_; rintro e w5 ⟨rfl, k5⟩
            have z4 := K4.out.size
            have x3 : w5.cell? ⟨wr.heap.size, 2, none⟩ = some (.int .i64 fn) := by rw [k5.cell (show wr.heap.size < _ by simp at z4; omega)]; exact x2
            have K5 := Lib.hid k5
            clear k5
            go_wp2_with fail
            exact ⟨⟨j + 1, hlt, rfl, ((HB.out.alloc hbs _).trans (K4.out.mono (by simp; omega))).trans (K5.out.mono (by simp at z4; omega))⟩, by simp [intOf]; omega⟩
          · have hbs := hb.size
            have hk := HH.out.cell
            rw [← hb.block _ lg] at hk
            have HB := Lib.hid (And.intro hb hk)
            clear hb hk
            go_wp2_with fail
            refine (strung_any _).mono ?_; rintro e w4 ⟨rfl, k4⟩
            have hk4 : w4.heap[w.heap.size]? = some (.cells #[.slice pb (pack bs).length cb, .int .i64 bs.length] 54 (0, 0)) := by rw [k4.block _ (by omega)]; exact HB.out.2
            have b0 : w4.cell? ⟨w.heap.size, 0, none⟩ = some (.slice pb (pack bs).length cb) := by rw [Lib.cell_of_heap hk4]; rfl
            have b1 : w4.cell? ⟨w.heap.size, 1, none⟩ = some (.int .i64 bs.length) := by rw [Lib.cell_of_heap hk4]; rfl
            have kk : Below w0.heap.size w0 w4 := HB.out.1.trans (k4.mono hbs)
            have HCk := Lib.hid (check_any (.agg #[.slice pb (pack bs).length cb, .int .i64 bs.length]) bs HH.out.bin (by have := HH.out.len; have := HH.out.short; omega) w4 ⟨_, rfl, HH.out.bits.below kk⟩)
            have HK := Lib.hid kk
            clear hk4 k4 kk
            go_wp2_with fail
            refine HCk.out.mono ?_; rintro e w5 ⟨rfl, k5⟩
            have z5 := HK.out.size
            have K5 := Lib.hid k5
            clear k5
            go_wp2_with fail
            go_ret
            exact ⟨rfl, (HH.out.below.trans (HK.out.mono (by omega))).trans (K5.out.mono (by omega))⟩

theorem wf_bounds (x : Int) (h : (Lit.int IntKind.i64 x).wf = true) : -9223372036854775808 ≤ x ∧ x < 9223372036854775808 := by
  have m1 : IntKind.i64.min = -9223372036854775808 := by rfl
  simp [Lit.wf, m1] at h
  omega
theorem IsRow.at_ {w : World} {a : Option Addr} {len cap : Nat} {zs : List Int} (h : IsRow .i64 w a len cap zs) : RowAt w a len cap zs := by
  rcases h with ⟨_, rfl, rfl, _⟩ | ⟨x, rfl, hl, hm, hz, hc, hw⟩
  · exact Or.inl rfl
  · rcases Nat.eq_zero_or_pos cap with h0 | h0
    · exact Or.inl (by omega)
    · obtain ⟨b, off, rfl, h⟩ := ints_at hc (by omega)
      refine Or.inr ⟨b, off, rfl, hl, hm, fun i hi => ⟨cell_lt (h i (by omega)), h i (by omega), ?_⟩⟩
      have hmem : zs.getD i 0 ∈ zs := by
        have hlt : i < zs.length := by omega
        simp [List.getD, hlt]
      exact wf_bounds _ (hw _ hmem)

theorem bitsBack_law (p : Option Addr) (len cap : Nat) (zs : List Int) (low : Bool) (V : World) (h : IsRow .i64 V p len cap zs) :
    Calls Try.prog 9 #[.slice p len cap, .bool low] V fun e w' => e = .returned (.bool true) ∧ Below V.heap.size V w' :=
  bitsBack_walk p len cap zs low V h.at_

end Go.Proofs.Ytpoolbachhelgaa
