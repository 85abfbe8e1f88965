/- clapkeep1.patterned: the pattern that it makes is one of pieces; no condition beyond those that stand there. -/
import Derived.Test.YtebcflgdjbjkoaaStream
import Derived.Test.YtebcflgdjbjkoaaBuildS
import Derived.Test.YtebcflgdjbjkoaaPatd
import Derived.Test.YtebcflgdjbjkoaaPos
namespace Go.Proofs.Ytebcflgdjbjkoaa
open Go.RowKit

/-- Pieces as clapkeep1.patterned makes them. -/
def PdOk (l : List Piece) : Prop := ∀ x ∈ l, x.atom ∈ atomsL ∧ x.suf ∈ sufsL
theorem pieces_snoc : ∀ (l : List Piece) (x : Piece), pieces (l ++ [x]) = pieces l ++ x.text
  | [], x => by simp [pieces]
  | y :: l, x => by simp [pieces, pieces_snoc l x]
theorem text_le {x : Piece} (h1 : x.atom ∈ atomsL) : x.text.length ≤ 8 := by
  have hall : ∀ A ∈ atomsL, A.length ≤ 6 := by decide
  have := hall _ h1
  unfold Piece.text
  rw [List.length_append, List.length_append]
  have h2 : x.suf.toList.length ≤ 1 := by cases x.suf <;> simp
  have h3 : (if x.bar = true then [(124 : UInt8)] else []).length ≤ 1 := by split <;> simp
  omega
theorem pieces_le : ∀ {l : List Piece}, PdOk l → (pieces l).length ≤ 8 * l.length
  | [], _ => by simp [pieces]
  | x :: l, h => by
    have h1 := text_le (h x (by simp)).1
    have h2 := pieces_le (l := l) fun y hy => h y (by simp [hy])
    simp only [pieces, List.length_append, List.length_cons]
    omega
theorem PdOk.snoc {l : List Piece} {x : Piece} (h : PdOk l) (h1 : x.atom ∈ atomsL) (h2 : x.suf ∈ sufsL) : PdOk (l ++ [x]) := fun y hy => by
  rcases List.mem_append.1 hy with h | h
  · exact ‹PdOk l› y h
  · have : y = x := by simpa using h
    rw [this]; exact ⟨h1, h2⟩
def atomsC : Array Value := #[.string ⟨#[97]⟩, .string ⟨#[98]⟩, .string ⟨#[91, 97, 98, 93]⟩, .string ⟨#[40, 97, 124, 98, 99, 41]⟩, .string ⟨#[40, 98, 63, 99, 41]⟩, .string ⟨#[91, 94, 97, 93]⟩, .string ⟨#[46]⟩, .string ⟨#[40, 97, 98, 124, 98, 41]⟩, .string ⟨#[92, 43]⟩, .string ⟨#[40, 124, 99, 41]⟩]
def sufsC : Array Value := #[.string ⟨#[]⟩, .string ⟨#[]⟩, .string ⟨#[42]⟩, .string ⟨#[43]⟩, .string ⟨#[63]⟩]
theorem atomsC_get {k : Nat} (hk : k < 10) : atomsC[k]? = some (.string (baL (atomsL.getD k []))) ∧ atomsL.getD k [] ∈ atomsL := by
  rcases (show k = 0 ∨ k = 1 ∨ k = 2 ∨ k = 3 ∨ k = 4 ∨ k = 5 ∨ k = 6 ∨ k = 7 ∨ k = 8 ∨ k = 9 by omega) with rfl | rfl | rfl | rfl | rfl | rfl | rfl | rfl | rfl | rfl <;> exact ⟨rfl, by decide⟩
theorem sufsC_get {k : Nat} (hk : k < 5) : sufsC[k]? = some (.string (baL (sufsL.getD k none).toList)) ∧ sufsL.getD k none ∈ sufsL := by
  rcases (show k = 0 ∨ k = 1 ∨ k = 2 ∨ k = 3 ∨ k = 4 by omega) with rfl | rfl | rfl | rfl | rfl <;> exact ⟨rfl, by decide⟩
theorem Bd.keepS {B b s : Nat} {l : List UInt8} {w w' : World} (h : Bd B b l w) (hk : KeepS w.heap.size s w w') (hs : s < B) : Bd B b l w' := by
  have key : ∀ p, Lib.BuilderAt 50 5 B b p (Lib.byteCells l) w → Lib.BuilderAt 50 5 B b p (Lib.byteCells l) w' := by
    rintro p ⟨h1, v, h2, h3, h4⟩
    refine ⟨h1, v, by rw [hk.block b (lt_of_block h2) (by omega)]; exact h2, row_keepP h3 fun q hq => hk.block q (World.ownsRow.lt h3 q hq).2 (by have := (World.ownsRow.lt h3 q hq).1; omega), h4⟩
  exact ⟨Nat.le_trans h.1 hk.size, h.2.imp (key _) (key _)⟩
theorem Bd.belowW {B b : Nat} {l : List UInt8} {w w' : World} (h : Bd B b l w) (hk : Below w.heap.size w w') : Bd B b l w' := by
  have key : ∀ p, Lib.BuilderAt 50 5 B b p (Lib.byteCells l) w → Lib.BuilderAt 50 5 B b p (Lib.byteCells l) w' := by
    rintro p ⟨h1, v, h2, h3, h4⟩
    refine ⟨h1, v, by rw [hk.block b (lt_of_block h2)]; exact h2, row_keepP h3 fun q hq => hk.block q (World.ownsRow.lt h3 q hq).2, h4⟩
  exact ⟨Nat.le_trans h.1 hk.size, h.2.imp (key _) (key _)⟩
def PatrPost (w : World) (e : Ending) (w' : World) : Prop := ∃ ps : List Piece, e = .returned (.string ⟨(pieces ps).toArray⟩) ∧ PdOk ps ∧ ps.length ≤ 4 ∧ 1 ≤ ps.length ∧ Below w.heap.size w w'
set_option maxRecDepth 100000 in
set_option maxHeartbeats 4000000 in
theorem patterned_any (p : Option Addr) (len cap : Nat) (w : World) (h1 : len ≤ cap) (h2 : cap ≤ 9223372036854775807) (h3 : RawAt w.heap.size w p len) :
    Calls Try.prog 11 #[.slice p len cap] w (PatrPost w) := by
  have hal := ((Below.refl w.heap.size w).alloc (Nat.le_refl _) (.cells #[.slice p len cap] 65 (0, 0)))
  have e1 := heap_alloc_new w (.cells #[.slice p len cap] 65 (0, 0))
  have hst : StAt w.heap.size w.heap.size (w.alloc (.cells #[.slice p len cap] 65 (0, 0))) := ⟨Nat.le_refl _, p, len, cap, e1, h1, h2, h3.keep (Nat.le_refl _) (KeepS.of_below hal)⟩
  have hsz : (w.alloc (.cells #[.slice p len cap] 65 (0, 0))).heap.size = w.heap.size + 1 := by simp
  have HI := Lib.hid (And.intro hal (And.intro hst hsz))
  clear hal e1 hst hsz h1 h2 h3
  go_enter Try.func11, Try.ntmps11
  go_upto_region 2 with fail
  have hi := HI.out
  clear HI
  generalize w.alloc (.cells #[.slice p len cap] 65 (0, 0)) = W0 at *
  obtain ⟨hal, hst, hsz⟩ := hi
  have hbd := Bd.new W0
  have hal2 := (Below.refl W0.heap.size W0).alloc (Nat.le_refl _) (.cells #[.pointer none, .slice none 0 0] 50 (0, 0))
  have hst2 := hst.below hal2 hst.lt
  have hnx := Lib.hid (next_any w.heap.size w.heap.size 4 (by decide) _ hst2)
  have HI := Lib.hid (And.intro hbd (And.intro (hal.trans (hal2.mono hal.size)) hsz))
  clear hbd hal2 hst2 hst hal hsz
  go_wp2_with (go_at_call 24; refine hnx.out.mono ?_; rintro e w2 ⟨⟨x, rfl, hx⟩, hst2, hk2, hz2⟩; have HX := Lib.hid (And.intro hst2 (And.intro hk2 hz2)); obtain ⟨x, rfl⟩ : ∃ y : Nat, x = (y : Int) := ⟨x.toNat, (by have := hx.1; omega)⟩; have hx4 : (x : Int) < 4 := hx.2.1 (by decide); have wx : IntKind.i64.wrap (1 + (x : Int)) = 1 + (x : Int) := IntWalk.i64_in _ ⟨by omega, by omega⟩; clear hx hst2 hk2 hz2)
  obtain ⟨hst2, hk2, hz2⟩ := HX.out
  obtain ⟨hbd, hbel, hsz⟩ := HI.out
  have hbd2 := hbd.keepS hk2 (by omega)
  have hbl2 : Below w.heap.size w w2 := hbel.trans (hk2.below hbel.size (Nat.le_refl _))
  have hB : w.heap.size < W0.heap.size := by omega
  have HI2 := Lib.hid (And.intro hbd2 (And.intro hst2 hbl2))
  clear hst2 hk2 hz2 hbd hbel hsz hbd2 hbl2 HX HI hnx
  generalize W0.heap.size = Bb at *
  go_loopw [11] (fun iv wr => ∃ (i : Nat) (ps : List Piece), iv = .int .i64 i ∧ i ≤ 1 + x ∧ ps.length = i ∧ PdOk ps ∧ Bd Bb Bb (pieces ps) wr ∧ StAt w.heap.size w.heap.size wr ∧ Below w.heap.size w wr) (fun iv _ => (1 + x) - (intOf iv).toNat)
  case atStart => exact ⟨0, [], rfl, by omega, rfl, fun y hy => (by cases hy), HI2.out.1, HI2.out.2.1, HI2.out.2.2⟩
  case round =>
    clear HI2
    obtain ⟨wo, rfl⟩ : ∃ wo, wo = wr := ⟨_, rfl⟩
    obtain ⟨i, ps, rfl, hi, hpl, hpd, hbd, hst, hbel⟩ := hrel
    by_cases hlt : i < 1 + x
    · have ti : (i : Int) < 1 + (x : Int) := by omega
      have wi : IntKind.i64.wrap ((i : Int) + 1) = (i : Int) + 1 := IntWalk.i64_in _ ⟨by omega, by omega⟩
      have hll := pieces_le hpd
      have hwo := hst.lt
      have hal := (Below.refl wo.heap.size wo).alloc (Nat.le_refl _) (.cells atomsC 9 (0, 0))
      have eQ := heap_alloc_new wo (.cells atomsC 9 (0, 0))
      have hst2 := hst.below hal hst.lt
      have hbd2 := hbd.belowW hal
      have hbl2 := hbel.trans (hal.mono hbel.size)
      have hnx := Lib.hid (next_any w.heap.size w.heap.size 10 (by decide) _ hst2)
      have HI := Lib.hid (And.intro hbd2 (And.intro hbl2 (And.intro eQ hpd)))
      clear hal eQ hst2 hbd2 hbl2 hst hbd hbel hpd
      unfold atomsC at hnx HI
      go_wp2_with fail
      refine hnx.out.mono ?_
      rintro e w2 ⟨⟨y, rfl, hy⟩, hst2, hk2, hz2⟩
      obtain ⟨y, rfl⟩ : ∃ z : Nat, y = (z : Int) := ⟨y.toNat, by have := hy.1; omega⟩
      have hy10 : (y : Int) < 10 := hy.2.1 (by decide)
      obtain ⟨hbd2, hbl2, eQ, hpd⟩ := HI.out
      have eQ2 := (hk2.block _ (lt_of_block eQ) (by omega)).trans eQ
      obtain ⟨hcy, hat⟩ := atomsC_get (k := y) (by omega)
      have c0 : w2.cell? ⟨wo.heap.size, y, none⟩ = some (.string (baL (atomsL.getD y []))) := (Lib.cell_of_heap eQ2 y).trans hcy
      have hyn : ((y : Int)).toNat = y := by omega
      have hbd3 := hbd2.keepS hk2 hB
      have hbl3 : Below w.heap.size w w2 := hbl2.trans (hk2.below hbl2.size (Nat.le_refl _))
      generalize hA : atomsL.getD y [] = A at *
      have hAl : A.length ≤ 6 := by
        have hall : ∀ A ∈ atomsL, A.length ≤ 6 := by decide
        exact hall A hat
      have hws := Lib.hid (writeString_any Bb Bb (pieces ps) (baL A) w2 hbd3 (by rw [baL_size]; omega))
      have HI3 := Lib.hid (And.intro hst2 (And.intro hbl3 (And.intro hpd hat)))
      clear hnx HI hst2 hk2 hz2 hbd2 hbl2 eQ hpd eQ2 hcy hbd3 hbl3 hat hA hy
      go_wp2_with fail
      refine hws.out.mono ?_
      rintro e w3 ⟨rfl, hbd3, hb3⟩
      clear hws c0
      obtain ⟨hst2, hbl2, hpd, hat⟩ := HI3.out
      have hst3 := hst2.below hb3 hB
      have hbl3 := hbl2.trans (hb3.mono (by omega))
      have hw3 := hst3.lt
      have hal := (Below.refl w3.heap.size w3).alloc (Nat.le_refl _) (.cells sufsC 9 (0, 0))
      have eQ := heap_alloc_new w3 (.cells sufsC 9 (0, 0))
      have hst4 := hst3.below hal hst3.lt
      have hbd4 := hbd3.belowW hal
      have hbl4 := hbl3.trans (hal.mono hbl3.size)
      have hnx := Lib.hid (next_any w.heap.size w.heap.size 5 (by decide) _ hst4)
      have HI := Lib.hid (And.intro hbd4 (And.intro hbl4 (And.intro eQ (And.intro hpd hat))))
      clear hst2 hbl2 hpd hat hst3 hbl3 hal eQ hst4 hbd4 hbl4 HI3 hbd3 hb3
      unfold sufsC at hnx HI
      go_wp2_with fail
      refine hnx.out.mono ?_
      rintro e w4 ⟨⟨z, rfl, hz⟩, hst2, hk2, hz2⟩
      obtain ⟨z, rfl⟩ : ∃ u : Nat, z = (u : Int) := ⟨z.toNat, by have := hz.1; omega⟩
      have hz5 : (z : Int) < 5 := hz.2.1 (by decide)
      obtain ⟨hbd2, hbl2, eQ, hpd, hat⟩ := HI.out
      have eQ2 := (hk2.block _ (lt_of_block eQ) (by omega)).trans eQ
      obtain ⟨hcz, hsf⟩ := sufsC_get (k := z) (by omega)
      have c0 : w4.cell? ⟨w3.heap.size, z, none⟩ = some (.string (baL (sufsL.getD z none).toList)) := (Lib.cell_of_heap eQ2 z).trans hcz
      have hzn : ((z : Int)).toNat = z := by omega
      have hbd3 := hbd2.keepS hk2 hB
      have hbl3 : Below w.heap.size w w4 := hbl2.trans (hk2.below hbl2.size (Nat.le_refl _))
      generalize hF : sufsL.getD z none = F at *
      have hFl : F.toList.length ≤ 1 := by cases F <;> simp
      have hbe : (pieces ps ++ (baL A).data.toList).length = (pieces ps).length + A.length := by simp [baL]
      have hws := Lib.hid (writeString_any Bb Bb (pieces ps ++ (baL A).data.toList) (baL F.toList) w4 hbd3 (by rw [baL_size, hbe]; omega))
      have HI3 := Lib.hid (And.intro hst2 (And.intro hbl3 (And.intro hpd (And.intro hat hsf))))
      clear hnx HI hst2 hk2 hz2 hbd2 hbl2 eQ hpd hat eQ2 hcz hbd3 hbl3 hsf hF hz hbe
      go_wp2_with fail
      refine hws.out.mono ?_
      rintro e w5 ⟨rfl, hbd3, hb3⟩
      clear hws c0
      obtain ⟨hst2, hbl2, hpd, hat, hsf⟩ := HI3.out
      have hst3 := hst2.below hb3 hB
      have hbl3 := hbl2.trans (hb3.mono (by omega))
      have hw5 := hst3.lt
      have hnx := Lib.hid (next_any w.heap.size w.heap.size 5 (by decide) _ hst3)
      have HI := Lib.hid (And.intro hbd3 (And.intro hbl3 (And.intro hpd (And.intro hat hsf))))
      clear hst2 hbl2 hpd hat hsf hst3 hbl3 HI3 hbd3 hb3
      go_wp2_with fail
      refine hnx.out.mono ?_
      rintro e w6 ⟨⟨v, rfl, hv⟩, hst2, hk2, hz2⟩
      obtain ⟨hbd2, hbl2, hpd, hat, hsf⟩ := HI.out
      have hbd3 := hbd2.keepS hk2 hB
      have hbl3 : Below w.heap.size w w6 := hbl2.trans (hk2.below hbl2.size (Nat.le_refl _))
      by_cases hv0 : v = 0
      · subst hv0
        have hps := pieces_snoc ps ⟨A, F, true⟩
        have hbe : (pieces ps ++ (baL A).data.toList ++ (baL F.toList).data.toList).length = (pieces ps).length + A.length + F.toList.length := by simp [baL]; omega
        have hws := Lib.hid (writeString_any Bb Bb _ ⟨#[124]⟩ w6 hbd3 (by rw [hbe]; show _ + 1 ≤ _; omega))
        have HI3 := Lib.hid (And.intro hst2 (And.intro hbl3 (And.intro (hpd.snoc (x := ⟨A, F, true⟩) hat hsf) hps)))
        clear hnx HI hst2 hk2 hz2 hbd2 hbl2 hpd hat hsf hbd3 hbl3 hv hps hbe
        go_wp2_with fail
        refine hws.out.mono ?_
        rintro e w7 ⟨rfl, hbd3, hb3⟩
        have HI4 := Lib.hid (And.intro (HI3.out.1.below hb3 hB) (And.intro (HI3.out.2.1.trans (hb3.mono (by omega))) hbd3))
        clear hws hbd3 hb3
        go_wp2_with fail
        refine ⟨⟨i + 1, ps ++ [⟨A, F, true⟩], by simp, by omega, by simp [hpl], HI3.out.2.2.1, ?_, HI4.out.1, HI4.out.2.1⟩, by simp [intOf]; omega⟩
        rw [HI3.out.2.2.2]
        have := HI4.out.2.2
        rw [List.append_assoc, List.append_assoc] at this
        exact this
      · have hps := pieces_snoc ps ⟨A, F, false⟩
        have tv : (v == 0) = false := by rw [beq_eq_false_iff_ne]; exact hv0
        have HI3 := Lib.hid (And.intro hst2 (And.intro hbl3 (And.intro (hpd.snoc (x := ⟨A, F, false⟩) hat hsf) (And.intro hps hbd3))))
        clear hnx HI hst2 hk2 hz2 hbd2 hbl2 hpd hat hsf hbd3 hbl3 hv hps hv0
        go_wp2_with fail
        refine ⟨⟨i + 1, ps ++ [⟨A, F, false⟩], by simp, by omega, by simp [hpl], HI3.out.2.2.1, ?_, HI3.out.1, HI3.out.2.1⟩, by simp [intOf]; omega⟩
        rw [HI3.out.2.2.2.1]
        have := HI3.out.2.2.2.2
        unfold Piece.text
        rw [List.append_assoc] at this
        simpa [baL] using this
    · have ti : decide ((i : Int) < 1 + (x : Int)) = false := decide_eq_false (by omega)
      have hs := Lib.hid (string_any Bb Bb (pieces ps) wo hbd)
      have HO := Lib.hid (And.intro hpd hbel)
      clear hbd hst hpd hbel
      go_wp2_with fail
      refine hs.out.mono ?_
      rintro e w3 ⟨rfl, hb3⟩
      have HO3 := Lib.hid (HO.out.2.trans (hb3.mono (by omega)))
      clear hb3
      go_wp2_with fail
      go_ret
      exact ⟨ps, rfl, HO.out.1, by omega, by omega, HO3.out⟩

end Go.Proofs.Ytebcflgdjbjkoaa
