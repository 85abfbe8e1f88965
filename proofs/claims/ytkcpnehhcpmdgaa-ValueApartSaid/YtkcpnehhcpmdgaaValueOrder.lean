/- clapkeep1.ValueOrder: it answers true for every three lists of raw numbers. -/
import Derived.Deep.RegionHeld3
import Derived.Deep.Cut
import Derived.Test.YtkcpnehhcpmdgaaSame
import Derived.Test.YtkcpnehhcpmdgaaAny
namespace Go.Proofs.Ytkcpnehhcpmdgaa
open Go.RowKit

/-- A value that is a tree. -/
structure Nd where
  k : Int
  n : Int
  s : ByteArray
  p : Option Addr
  l : Nat
  c : Nat
  t : TVal 4
def Nd.v (x : Nd) : Value := .agg #[.int .i64 x.k, .int .i64 x.n, .string x.s, .slice x.p x.l x.c]
def Nd.is (x : Nd) (w : World) : Prop := IsV 4 (fun _ => True) w x.k x.n x.s (.slice x.p x.l x.c) x.t
def Nd.cells (x : Nd) : List Value := [.int .i64 x.k, .int .i64 x.n, .string x.s, .slice x.p x.l x.c]
theorem Nd.below {x : Nd} {w w' : World} (h : x.is w) (hb : Below w.heap.size w w') : x.is w' := IsV.below h (Nat.le_refl _) hb
theorem nd_any (p : Option Addr) (len cap : Nat) (zs : List Int) (w : World) (h : IsRow .i64 w p len cap zs) :
    Calls Try.prog 8 #[.slice p len cap] w fun e w' => (∃ x : Nd, e = .returned (.agg #[.int .i64 x.k, .int .i64 x.n, .string x.s, .slice x.p x.l x.c]) ∧ x.is w') ∧ Below w.heap.size w w' := by
  refine (any_any p len cap zs w h).mono ?_
  rintro e w' ⟨⟨t, k, n, s, a, l, c, rfl, h1, _⟩, hb⟩
  exact ⟨⟨⟨k, n, s, a, l, c, t⟩, rfl, IsV.imp h1 fun _ _ _ => trivial⟩, hb⟩
theorem IsRow.below' {k : IntKind} {w w' : World} {a : Option Addr} {len cap : Nat} {zs : List Int} (h : IsRow k w a len cap zs) (hb : Below w.heap.size w w') : IsRow k w' a len cap zs := by
  rcases h with h | ⟨x, h1, h2, h3, h4, h5, h6⟩
  · exact Or.inl h
  · refine Or.inr ⟨x, h1, h2, h3, h4, fun i hi => ?_, h6⟩
    have := h5 i hi
    rw [hb.cell (World.block_lt_of_cell? w _ this)]
    exact this
def three (x y z : Nd) (i : Nat) : Nd := match i with | 0 => x | 1 => y | _ => z
theorem cells12 {w : World} {g : Nat} {x y z : Nd} (h : w.heap[g]? = some (.cells #[.int .i64 x.k, .int .i64 x.n, .string x.s, .slice x.p x.l x.c, .int .i64 y.k, .int .i64 y.n, .string y.s, .slice y.p y.l y.c, .int .i64 z.k, .int .i64 z.n, .string z.s, .slice z.p z.l z.c] 25 (0, 0))) (i : Nat) (hi : i < 3) :
    w.cell? ⟨g, i * 4, none⟩ = some (.int .i64 (three x y z i).k) ∧ w.cell? ⟨g, i * 4 + 1, none⟩ = some (.int .i64 (three x y z i).n) ∧ w.cell? ⟨g, i * 4 + 2, none⟩ = some (.string (three x y z i).s) ∧ w.cell? ⟨g, i * 4 + 3, none⟩ = some (.slice (three x y z i).p (three x y z i).l (three x y z i).c) := by
  rcases (show i = 0 ∨ i = 1 ∨ i = 2 by omega) with rfl | rfl | rfl <;> (refine ⟨?_, ?_, ?_, ?_⟩ <;> (rw [Lib.cell_of_heap h]; rfl))
/-- The comparison of two nodes, wherever they lie. -/
theorem nd_cmp (x y : Nd) (W : World) (hx : x.is W) (hy : y.is W) : Calls Try.prog 9 #[.agg #[.int .i64 x.k, .int .i64 x.n, .string x.s, .slice x.p x.l x.c], .agg #[.int .i64 y.k, .int .i64 y.n, .string y.s, .slice y.p y.l y.c]] W fun e w' => e = .returned (.int .i64 (tcmp 4 x.t y.t)) ∧ Below W.heap.size W w' :=
  cmp_any 4 _ _ W x.k x.n x.s _ x.t y.k y.n y.s _ y.t hx hy
theorem nd_same (x y : Nd) (W : World) (hx : x.is W) (hy : y.is W) : Calls Try.prog 10 #[.agg #[.int .i64 x.k, .int .i64 x.n, .string x.s, .slice x.p x.l x.c], .agg #[.int .i64 y.k, .int .i64 y.n, .string y.s, .slice y.p y.l y.c]] W fun e w' => e = .returned (.bool (tcmp 4 x.t y.t == 0)) ∧ Below W.heap.size W w' :=
  same_any 4 _ _ W x.k x.n x.s _ x.t y.k y.n y.s _ y.t hx hy

set_option maxRecDepth 100000 in
set_option maxHeartbeats 4000000 in
theorem valueOrder_walk (p1 : Option Addr) (l1 c1 : Nat) (zs1 : List Int) (p2 : Option Addr) (l2 c2 : Nat) (zs2 : List Int) (p3 : Option Addr) (l3 c3 : Nat) (zs3 : List Int) (w : World) (h1 : IsRow .i64 w p1 l1 c1 zs1) (h2 : IsRow .i64 w p2 l2 c2 zs2) (h3 : IsRow .i64 w p3 l3 c3 zs3) :
    Calls Try.prog 3 #[.slice p1 l1 c1, .slice p2 l2 c2, .slice p3 l3 c3] w fun e w' => e = .returned (.bool true) ∧ Below w.heap.size w w' := by
  have HI := Lib.hid (And.intro h1 (And.intro h2 h3))
  clear h1 h2 h3
  go_enter Try.func3, Try.ntmps3
  go_wp2_with fail
  refine (nd_any p1 l1 c1 zs1 w HI.out.1).mono ?_
  rintro e w1 ⟨⟨x, rfl, hx1⟩, b1⟩
  have HA := Lib.hid (And.intro hx1 b1)
  clear hx1 b1
  go_wp2_with fail
  refine (nd_any p2 l2 c2 zs2 w1 (HI.out.2.1.below' HA.out.2)).mono ?_
  rintro e w2 ⟨⟨y, rfl, hy2⟩, b2⟩
  have HB := Lib.hid (And.intro hy2 (And.intro b2 (HA.out.2.trans (b2.mono HA.out.2.size))))
  clear hy2 b2
  go_wp2_with fail
  refine (nd_any p3 l3 c3 zs3 w2 (HI.out.2.2.below' HB.out.2.2)).mono ?_
  rintro e w3 ⟨⟨z, rfl, hz3⟩, b3⟩
  have hal := (Below.refl w3.heap.size w3).alloc (Nat.le_refl _) (.cells #[.int .i64 x.k, .int .i64 x.n, .string x.s, .slice x.p x.l x.c, .int .i64 y.k, .int .i64 y.n, .string y.s, .slice y.p y.l y.c, .int .i64 z.k, .int .i64 z.n, .string z.s, .slice z.p z.l z.c] 25 (0, 0))
  have hxx := Nd.below (Nd.below (Nd.below HA.out.1 HB.out.2.1) b3) hal
  have hyy := Nd.below (Nd.below HB.out.1 b3) hal
  have hzz := Nd.below hz3 hal
  have hA := heap_alloc_new w3 (.cells #[.int .i64 x.k, .int .i64 x.n, .string x.s, .slice x.p x.l x.c, .int .i64 y.k, .int .i64 y.n, .string y.s, .slice y.p y.l y.c, .int .i64 z.k, .int .i64 z.n, .string z.s, .slice z.p z.l z.c] 25 (0, 0))
  have hbw := (HB.out.2.2.trans (b3.mono HB.out.2.2.size)).trans (hal.mono ((HB.out.2.2.trans (b3.mono HB.out.2.2.size)).size))
  have hN : ∀ i, i < 3 → (three x y z i).is (w3.alloc (.cells #[.int .i64 x.k, .int .i64 x.n, .string x.s, .slice x.p x.l x.c, .int .i64 y.k, .int .i64 y.n, .string y.s, .slice y.p y.l y.c, .int .i64 z.k, .int .i64 z.n, .string z.s, .slice z.p z.l z.c] 25 (0, 0))) := fun i hi => by
    rcases (show i = 0 ∨ i = 1 ∨ i = 2 by omega) with rfl | rfl | rfl
    · exact hxx
    · exact hyy
    · exact hzz
  have HN := Lib.hid (And.intro hN (And.intro hA hbw))
  clear hal hxx hyy hzz hA hbw hN hz3 b3
  go_upto_region 2 with fail
  have hn := HN.out
  clear HN HA HB
  generalize w3.alloc (.cells #[.int .i64 x.k, .int .i64 x.n, .string x.s, .slice x.p x.l x.c, .int .i64 y.k, .int .i64 y.n, .string y.s, .slice y.p y.l y.c, .int .i64 z.k, .int .i64 z.n, .string z.s, .slice z.p z.l z.c] 25 (0, 0)) = W at *
  generalize w3.heap.size = A at *
  obtain ⟨hN, hA, hbw⟩ := hn
  have HW := Lib.hid (And.intro hN (And.intro hA hbw))
  clear hN hA hbw
  go_wp2_with fail
  go_loopw [23] (fun iv wr => ∃ i : Nat, iv = .int .i64 i ∧ i ≤ 3 ∧ Below W.heap.size W wr) (fun iv _ => 3 - (intOf iv).toNat)
  case atStart => exact ⟨0, rfl, by decide, Below.refl _ _⟩
  case round =>
    obtain ⟨i, rfl, hi, hb⟩ := hrel
    have wi : IntKind.i64.wrap ((i : Int) + 1) = (i : Int) + 1 := IntWalk.i64_in _ ⟨by omega, by omega⟩
    by_cases hlt : i < 3
    · have ti : (i : Int) < 3 := by omega
      have hni : ((i : Int)).toNat = i := by omega
      obtain ⟨e0, e1, e2, e3⟩ := cells12 ((hb.block A (lt_of_block HW.out.2.1)).trans HW.out.2.1) i hlt
      obtain ⟨a, ha⟩ : ∃ a, a = three x y z i := ⟨_, rfl⟩
      rw [← ha] at e0 e1 e2 e3
      have haW : a.is W := ha ▸ HW.out.1 i hlt
      clear ha
      have hal := (Below.refl wr.heap.size wr).alloc (Nat.le_refl _) (.cells #[.int .i64 a.k, .int .i64 a.n, .string a.s, .slice a.p a.l a.c] 25 (0, 0))
      have H1 := Lib.hid (And.intro (hb.trans (hal.mono hb.size)) (And.intro (heap_alloc_new wr (.cells #[.int .i64 a.k, .int .i64 a.n, .string a.s, .slice a.p a.l a.c] 25 (0, 0))) haW))
      clear hal hb haW
      go_upto_region 5 with fail
      have h1 := H1.out
      clear H1 e0 e1 e2 e3
      generalize wr.alloc (.cells #[.int .i64 a.k, .int .i64 a.n, .string a.s, .slice a.p a.l a.c] 25 (0, 0)) = Wa at *
      generalize wr.heap.size = Ta at *
      have H1 := Lib.hid h1
      clear h1
      go_wp2_with fail
      go_loopw [29] (fun jv wq => ∃ j : Nat, jv = .int .i64 j ∧ j ≤ 3 ∧ Below Wa.heap.size Wa wq) (fun jv _ => 3 - (intOf jv).toNat)
      case atStart => exact ⟨0, rfl, by decide, Below.refl _ _⟩
      case round =>
        obtain ⟨j, rfl, hj, hb⟩ := hrel
        have wj : IntKind.i64.wrap ((j : Int) + 1) = (j : Int) + 1 := IntWalk.i64_in _ ⟨by omega, by omega⟩
        have hbW := H1.out.1.trans (hb.mono H1.out.1.size)
        by_cases hlt2 : j < 3
        · have tj : (j : Int) < 3 := by omega
          have hnj : ((j : Int)).toNat = j := by omega
          obtain ⟨e0, e1, e2, e3⟩ := cells12 ((hbW.block A (lt_of_block HW.out.2.1)).trans HW.out.2.1) j hlt2
          obtain ⟨b, hb'⟩ : ∃ b, b = three x y z j := ⟨_, rfl⟩
          rw [← hb'] at e0 e1 e2 e3
          have hbis : b.is W := hb' ▸ HW.out.1 j hlt2
          clear hb'
          have hal := (Below.refl wr.heap.size wr).alloc (Nat.le_refl _) (.cells #[.int .i64 b.k, .int .i64 b.n, .string b.s, .slice b.p b.l b.c] 25 (0, 0))
          have hbb := hb.trans (hal.mono hb.size)
          have H2 := Lib.hid (And.intro hbb (And.intro (heap_alloc_new wr (.cells #[.int .i64 b.k, .int .i64 b.n, .string b.s, .slice b.p b.l b.c] 25 (0, 0))) hbis))
          clear hal hb hbb hbis hbW
          go_upto_region 8 with fail
          have h2 := H2.out
          clear H2 e0 e1 e2 e3
          generalize wr.alloc (.cells #[.int .i64 b.k, .int .i64 b.n, .string b.s, .slice b.p b.l b.c] 25 (0, 0)) = Wb at *
          generalize wr.heap.size = Tb at *
          obtain ⟨hbb, hTb, hbis⟩ := h2
          have hTa : Wb.heap[Ta]? = _ := (hbb.block Ta (lt_of_block H1.out.2.1)).trans H1.out.2.1
          have hWb := H1.out.1.trans (hbb.mono H1.out.1.size)
          have hab : a.is Wb.drew := IsV.keep (Nd.below H1.out.2.2 hWb) (Nat.le_refl _) fun _ _ _ => rfl
          have hbb2 : b.is Wb.drew := IsV.keep (Nd.below hbis hWb) (Nat.le_refl _) fun _ _ _ => rfl
          have HS := fun w' (h : Below Wb.drew.heap.size Wb.drew w') => And.intro (cells4 ((h.block _ (lt_of_block hTa)).trans hTa)).1 (cells4 ((h.block _ (lt_of_block hTb)).trans hTb)).1
          have hbI : Below Wb.drew.heap.size Wb.drew Wb.drew := Below.refl _ _
          have S0 := HS _ hbI
          have hneg := (ord_tcmp 4).neg a.t b.t
          have hval := (ord_tcmp 4).val b.t a.t
          have wD : IntKind.i64.wrap (-tcmp 4 b.t a.t) = tcmp 4 a.t b.t := by rw [hneg]; exact IntWalk.i64_in _ ⟨by omega, by omega⟩
          have H2 := Lib.hid (And.intro hbb (And.intro hTb (And.intro hbis (And.intro hTa hWb))))
          clear hbb hTb hbis hTa hWb hneg hval
          go_region_held3 (fun w' => (w'.cell? ⟨Ta, 0, none⟩ = some (.int .i64 a.k) ∧ w'.cell? ⟨Ta, 1, none⟩ = some (.int .i64 a.n) ∧ w'.cell? ⟨Ta, 2, none⟩ = some (.string a.s) ∧ w'.cell? ⟨Ta, 3, none⟩ = some (.slice a.p a.l a.c)) ∧ (w'.cell? ⟨Tb, 0, none⟩ = some (.int .i64 b.k) ∧ w'.cell? ⟨Tb, 1, none⟩ = some (.int .i64 b.n) ∧ w'.cell? ⟨Tb, 2, none⟩ = some (.string b.s) ∧ w'.cell? ⟨Tb, 3, none⟩ = some (.slice b.p b.l b.c)))
            (first | assumption | exact HS _ (by assumption))
            (first
              | (go_at_call 9; refine (nd_cmp _ _ _ (by first | exact Nd.below hab hbI | exact Nd.below hbb2 hbI) (by first | exact Nd.below hab hbI | exact Nd.below hbb2 hbI)).mono ?_; rintro e w5 ⟨rfl, hq⟩; have hbI := hbI.trans (hq.mono hbI.size); clear hq)
              | (go_at_call 10; refine (nd_same _ _ _ (by first | exact Nd.below hab hbI | exact Nd.below hbb2 hbI) (by first | exact Nd.below hab hbI | exact Nd.below hbb2 hbI)).mono ?_; rintro e w5 ⟨rfl, hq⟩; have hbI := hbI.trans (hq.mono hbI.size); clear hq))
          have hc5 : Below Wb.heap.size Wb w5 := undrew hbI
          have H3 := Lib.hid (And.intro ((hc5.block _ (lt_of_block H2.out.2.2.2.1)).trans H2.out.2.2.2.1) (And.intro ((hc5.block _ (lt_of_block H2.out.2.1)).trans H2.out.2.1) (And.intro (H2.out.2.2.2.2.trans (hc5.mono H2.out.2.2.2.2.size)) (H2.out.1.trans (hc5.mono H2.out.1.size)))))
          clear hc5 hbI HS hab hbb2 wD
          clear S0
          go_wp2_with fail
          go_loopw [53] (fun kv wz => ∃ k : Nat, kv = .int .i64 k ∧ k ≤ 3 ∧ Below w5.heap.size w5 wz) (fun kv _ => 3 - (intOf kv).toNat)
          case atStart => exact ⟨0, rfl, by decide, Below.refl _ _⟩
          case round =>
            obtain ⟨k, rfl, hk, hb⟩ := hrel
            have wk : IntKind.i64.wrap ((k : Int) + 1) = (k : Int) + 1 := IntWalk.i64_in _ ⟨by omega, by omega⟩
            by_cases hlt3 : k < 3
            · have tk : (k : Int) < 3 := by omega
              have hnk : ((k : Int)).toNat = k := by omega
              have hbW := H3.out.2.2.1.trans (hb.mono H3.out.2.2.1.size)
              obtain ⟨e0, e1, e2, e3⟩ := cells12 ((hbW.block A (lt_of_block HW.out.2.1)).trans HW.out.2.1) k hlt3
              obtain ⟨c, hc'⟩ : ∃ c, c = three x y z k := ⟨_, rfl⟩
              rw [← hc'] at e0 e1 e2 e3
              have hcis : c.is W := hc' ▸ HW.out.1 k hlt3
              clear hc'
              have hal := (Below.refl wr.heap.size wr).alloc (Nat.le_refl _) (.cells #[.int .i64 c.k, .int .i64 c.n, .string c.s, .slice c.p c.l c.c] 25 (0, 0))
              have hbc := hb.trans (hal.mono hb.size)
              have hWc := H3.out.2.2.1.trans (hbc.mono H3.out.2.2.1.size)
              have H4 := Lib.hid (And.intro ((hbc.block _ (lt_of_block H3.out.1)).trans H3.out.1) (And.intro ((hbc.block _ (lt_of_block H3.out.2.1)).trans H3.out.2.1) (And.intro (heap_alloc_new wr (.cells #[.int .i64 c.k, .int .i64 c.n, .string c.s, .slice c.p c.l c.c] 25 (0, 0))) (And.intro (Nd.below H1.out.2.2 hWc) (And.intro (Nd.below H2.out.2.2.1 hWc) (And.intro (Nd.below hcis hWc) (And.intro hbc trivial)))))))
              clear hal hb hbc hWc hcis hbW
              go_upto_region 13 with fail
              have h4 := H4.out
              clear H4 e0 e1 e2 e3
              generalize wr.alloc (.cells #[.int .i64 c.k, .int .i64 c.n, .string c.s, .slice c.p c.l c.c] 25 (0, 0)) = Wc at *
              generalize wr.heap.size = Tc at *
              have H4 := Lib.hid h4
              clear h4
              obtain ⟨⟨a0, a1, a2, a3⟩, -⟩ := cells4 H4.out.1
              obtain ⟨⟨b0, b1, b2, b3⟩, -⟩ := cells4 H4.out.2.1
              obtain ⟨⟨d0, d1, d2, d3⟩, -⟩ := cells4 H4.out.2.2.1
              have htr := (ord_tcmp 4).trans a.t b.t c.t
              by_cases hu : tcmp 4 a.t b.t ≤ 0
              · by_cases hv : tcmp 4 b.t c.t ≤ 0
                · have hr := htr hu hv
                  have tr : decide (tcmp 4 a.t c.t > 0) = false := decide_eq_false (by omega)
                  clear htr hr
                  go_wp2_with fail
                  refine (nd_cmp a b Wc H4.out.2.2.2.1 H4.out.2.2.2.2.1).mono ?_
                  rintro e w6 ⟨rfl, q6⟩
                  have Q6 := Lib.hid q6
                  obtain ⟨⟨f0, f1, f2, f3⟩, -⟩ := cells4 ((q6.block _ (lt_of_block H4.out.1)).trans H4.out.1)
                  obtain ⟨⟨g0, g1, g2, g3⟩, -⟩ := cells4 ((q6.block _ (lt_of_block H4.out.2.1)).trans H4.out.2.1)
                  obtain ⟨⟨h0, h1, h2, h3⟩, -⟩ := cells4 ((q6.block _ (lt_of_block H4.out.2.2.1)).trans H4.out.2.2.1)
                  clear q6
                  go_wp2_with fail
                  refine (nd_cmp b c w6 (Nd.below H4.out.2.2.2.2.1 Q6.out) (Nd.below H4.out.2.2.2.2.2.1 Q6.out)).mono ?_
                  rintro e w7 ⟨rfl, q7⟩
                  have q67 := Q6.out.trans (q7.mono Q6.out.size)
                  have Q7 := Lib.hid q67
                  obtain ⟨⟨l0, l1, l2, l3⟩, -⟩ := cells4 ((q67.block _ (lt_of_block H4.out.1)).trans H4.out.1)
                  obtain ⟨⟨m0, m1, m2, m3⟩, -⟩ := cells4 ((q67.block _ (lt_of_block H4.out.2.2.1)).trans H4.out.2.2.1)
                  clear q7 q67
                  go_wp2_with fail
                  refine (nd_cmp a c w7 (Nd.below H4.out.2.2.2.1 Q7.out) (Nd.below H4.out.2.2.2.2.2.1 Q7.out)).mono ?_
                  rintro e w8 ⟨rfl, q8⟩
                  have Q8 := Lib.hid (Q7.out.trans (q8.mono Q7.out.size))
                  clear q8
                  go_wp2_with fail
                  exact ⟨⟨k + 1, by simp, by omega, H4.out.2.2.2.2.2.2.1.trans (Q8.out.mono H4.out.2.2.2.2.2.2.1.size)⟩, by simp [intOf]; omega⟩
                · have tv : decide (tcmp 4 b.t c.t ≤ 0) = false := decide_eq_false hv
                  clear htr hv
                  go_wp2_with fail
                  refine (nd_cmp a b Wc H4.out.2.2.2.1 H4.out.2.2.2.2.1).mono ?_
                  rintro e w6 ⟨rfl, q6⟩
                  have Q6 := Lib.hid q6
                  obtain ⟨⟨g0, g1, g2, g3⟩, -⟩ := cells4 ((q6.block _ (lt_of_block H4.out.2.1)).trans H4.out.2.1)
                  obtain ⟨⟨h0, h1, h2, h3⟩, -⟩ := cells4 ((q6.block _ (lt_of_block H4.out.2.2.1)).trans H4.out.2.2.1)
                  clear q6
                  go_wp2_with fail
                  refine (nd_cmp b c w6 (Nd.below H4.out.2.2.2.2.1 Q6.out) (Nd.below H4.out.2.2.2.2.2.1 Q6.out)).mono ?_
                  rintro e w7 ⟨rfl, q7⟩
                  have Q7 := Lib.hid (Q6.out.trans (q7.mono Q6.out.size))
                  clear q7
                  go_wp2_with fail
                  exact ⟨⟨k + 1, by simp, by omega, H4.out.2.2.2.2.2.2.1.trans (Q7.out.mono H4.out.2.2.2.2.2.2.1.size)⟩, by simp [intOf]; omega⟩
              · have tu : decide (tcmp 4 a.t b.t ≤ 0) = false := decide_eq_false hu
                clear htr hu
                go_wp2_with fail
                refine (nd_cmp a b Wc H4.out.2.2.2.1 H4.out.2.2.2.2.1).mono ?_
                rintro e w6 ⟨rfl, q6⟩
                have Q6 := Lib.hid q6
                clear q6
                go_wp2_with fail
                exact ⟨⟨k + 1, by simp, by omega, H4.out.2.2.2.2.2.2.1.trans (Q6.out.mono H4.out.2.2.2.2.2.2.1.size)⟩, by simp [intOf]; omega⟩
            · have tk : decide ((k : Int) < 3) = false := decide_eq_false (by omega)
              have HB := Lib.hid (H3.out.2.2.2.trans (hb.mono H3.out.2.2.2.size))
              clear hb
              go_wp2_with fail
              exact ⟨⟨j + 1, by simp, by omega, HB.out⟩, by simp [intOf]; omega⟩
        · have tj : decide ((j : Int) < 3) = false := decide_eq_false (by omega)
          have HB := Lib.hid hbW
          clear hb hbW
          go_wp2_with fail
          exact ⟨⟨i + 1, by simp, by omega, HB.out⟩, by simp [intOf]; omega⟩
    · have ti : decide ((i : Int) < 3) = false := decide_eq_false (by omega)
      have HB := Lib.hid (HW.out.2.2.trans (hb.mono HW.out.2.2.size))
      have HV := Lib.hid (values_any wr)
      clear hb
      go_wp2_with fail
      refine HV.out.mono ?_
      rintro e w6 ⟨rfl, q6⟩
      have HE := Lib.hid (HB.out.trans (q6.mono HB.out.size))
      clear q6
      go_wp2_with fail
      go_ret
      exact ⟨rfl, HE.out⟩

end Go.Proofs.Ytkcpnehhcpmdgaa
