/- value.names: the names of fields are names, and no two are equal; no condition beyond those that stand there. -/
import Derived.Deep.Cut
import Derived.Test.YtkcpnehhcpmdgaaNode
namespace Go.Proofs.Ytkcpnehhcpmdgaa
open Go.RowKit

/-- The cells of a row of fields. -/
def Fds (a : Option Addr) (ns : List ByteArray) (w : World) : Prop := ∀ i, i < ns.length → ∃ b kk nn ss pa pl pc, a = some ⟨b, 0, none⟩ ∧ b < w.heap.size ∧ w.cell? ⟨b, i * 5, none⟩ = some (.string (ns.getD i ⟨#[]⟩)) ∧ w.cell? ⟨b, i * 5 + 1, none⟩ = some (.int .i64 kk) ∧ w.cell? ⟨b, i * 5 + 2, none⟩ = some (.int .i64 nn) ∧
  w.cell? ⟨b, i * 5 + 3, none⟩ = some (.string ss) ∧ w.cell? ⟨b, i * 5 + 4, none⟩ = some (.slice pa pl pc)
theorem Fds.below {a : Option Addr} {ns : List ByteArray} {w w' : World} (h : Fds a ns w) (hb : Below w.heap.size w w') : Fds a ns w' := fun i hi => by
  obtain ⟨b, kk, nn, ss, pa, pl, pc, e1, e2, e3, e4, e5, e6, e7⟩ := h i hi
  have hbk := hb.block b e2
  refine ⟨b, kk, nn, ss, pa, pl, pc, e1, Nat.lt_of_lt_of_le e2 hb.size, ?_, ?_, ?_, ?_, ?_⟩ <;> (rw [World.cell?_of_block hbk]; assumption)
theorem IsV.fds {d : Nat} {S : Nat → Prop} {w : World} {k n : Int} {s : ByteArray} {a : Option Addr} {l c : Nat} {t : TVal (d + 1)} (h : IsV (d + 1) S w k n s (.slice a l c) t) : Fds a (t.fs.map Prod.fst) w ∧ l = (t.fs.map Prod.fst).length ∧ l ≤ c ∧ c ≤ 9223372036854775807 := by
  obtain ⟨-, -, -, c', a', h4, h5, h6⟩ := h
  simp only [Value.slice.injEq] at h4
  obtain ⟨rfl, rfl, rfl⟩ := h4
  refine ⟨fun i hi => ?_, by simp, h5.1, h5.2⟩
  rw [List.length_map] at hi
  obtain ⟨b, kk, nn, ss, pp, e1, e2, e3, e4, e5, e6, e7, e8, e9⟩ := h6 i _ (List.getElem?_eq_getElem hi)
  obtain ⟨pa, pl, pc, rfl⟩ := e9.isSlice
  refine ⟨b, kk, nn, ss, pa, pl, pc, e1, e3, ?_, e5, e6, e7, e8⟩
  rw [e4]
  simp [List.getD, hi]
set_option maxRecDepth 100000 in
set_option maxHeartbeats 1000000 in
theorem same_name (x y ss : ByteArray) (kk nn : Int) (p : Value) (R : Nat) (w : World) (hR : w.cell? ⟨R, 0, none⟩ = some (.string x)) (hne : y ≠ x) :
    Calls Try.prog 79 #[.agg #[.string y, .int .i64 kk, .int .i64 nn, .string ss, p], .pointer (some ⟨R, 0, none⟩)] w fun e w' => e = .returned (.bool false) ∧ Below w.heap.size w w' := by
  have hb := (Below.refl w.heap.size w).alloc (Nat.le_refl _) (.cells #[.string y, .int .i64 kk, .int .i64 nn, .string ss, p] 33 (0, 0))
  have hx := fun o => Lib.cell?_alloc_some (W := w) o hR
  have t2 : (y.toList == x.toList) = false := by
    rw [ByteArray.toList_eq, ByteArray.toList_eq, beq_eq_false_iff_ne]
    intro e
    exact hne (ByteArray.ext (Array.toList_inj.1 e))
  have HB := Lib.hid hb
  clear hb hne
  go_enter Try.func79, Try.ntmps79
  go_wp2_with fail
  go_ret
  exact ⟨rfl, HB.out⟩
set_option maxRecDepth 100000 in
set_option maxHeartbeats 2000000 in
theorem index_none (a : Option Addr) (ns : List ByteArray) (i c : Nat) (x : ByteArray) (R : Nat) (w : World) (hil : i ≤ ns.length) (hl : ns.length ≤ 4) (hf : Fds a ns w) (hR : w.cell? ⟨R, 0, none⟩ = some (.string x)) (hRl : R < w.heap.size) (hne : ∀ j, j < i → ns.getD j ⟨#[]⟩ ≠ x) :
    Calls Try.prog 91 #[.slice a i c, .func (.func 79) #[] #[.pointer (some ⟨R, 0, none⟩)]] w fun e w' => e = .returned (.int .i64 (-1)) ∧ Below w.heap.size w w' := by
  have HI := Lib.hid (And.intro hf (And.intro hR hne))
  clear hf hR hne
  go_enter Try.func91, Try.ntmps91
  go_wp2_with fail
  go_loopw [8] (fun iv wr => ∃ j : Nat, iv = .int .i64 j ∧ j ≤ i ∧ Below w.heap.size w wr) (fun iv _ => i - (intOf iv).toNat)
  case atStart => exact ⟨0, rfl, Nat.zero_le _, Below.refl _ _⟩
  case round =>
    obtain ⟨j, rfl, hj, hb⟩ := hrel
    by_cases hlt : j < i
    · have ti : (j : Int) < (i : Int) := by omega
      have wi : IntKind.i64.wrap ((j : Int) + 1) = (j : Int) + 1 := IntWalk.i64_in _ ⟨by omega, by omega⟩
      have hni : ((j : Int)).toNat = j := by omega
      obtain ⟨b, kk, nn, ss, pa, pl, pc, rfl, e2, y0, y1, y2, y3, y4⟩ := (HI.out.1.below hb) j (by omega)
      have hR := (World.cell?_of_block (a := ⟨R, 0, none⟩) (hb.block R hRl)).trans HI.out.2.1
      have hca := Lib.hid (same_name x (ns.getD j ⟨#[]⟩) ss kk nn (.slice pa pl pc) R wr hR (HI.out.2.2 j hlt))
      generalize ns.getD j ⟨#[]⟩ = y at *
      have HB := Lib.hid hb
      clear hb hR
      go_wp2_with fail
      refine hca.out.mono ?_
      rintro e w3 ⟨rfl, hb3⟩
      have HB3 := Lib.hid (HB.out.trans (hb3.mono HB.out.size))
      clear hb3
      go_wp2_with fail
      exact ⟨⟨j + 1, by simp, by omega, HB3.out⟩, by simp [intOf]; omega⟩
    · have ti : decide ((j : Int) < (i : Int)) = false := decide_eq_false (by omega)
      go_wp2_with fail
      go_ret
      exact ⟨rfl, hb⟩
set_option maxRecDepth 100000 in
set_option maxHeartbeats 2000000 in
theorem contains_none (a : Option Addr) (ns : List ByteArray) (i c : Nat) (x : ByteArray) (R : Nat) (w : World) (hil : i ≤ ns.length) (hl : ns.length ≤ 4) (hf : Fds a ns w) (hR : w.cell? ⟨R, 0, none⟩ = some (.string x)) (hRl : R < w.heap.size) (hne : ∀ j, j < i → ns.getD j ⟨#[]⟩ ≠ x) :
    Calls Try.prog 78 #[.slice a i c, .func (.func 79) #[] #[.pointer (some ⟨R, 0, none⟩)]] w fun e w' => e = .returned (.bool false) ∧ Below w.heap.size w w' := by
  have HI := Lib.hid (index_none a ns i c x R w hil hl hf hR hRl hne)
  clear hf hR hne
  go_enter Try.func78, Try.ntmps78
  go_wp2_with fail
  refine HI.out.mono ?_
  rintro e w3 ⟨rfl, hb3⟩
  have HB3 := Lib.hid hb3
  clear hb3
  go_wp2_with fail
  go_ret
  exact ⟨rfl, HB3.out⟩
/-- A name of small letters. -/
def NmOk (t : ByteArray) : Prop := 1 ≤ t.size ∧ t.size ≤ 16 ∧ ∀ i, i < t.size → 97 ≤ (t.data.toList.getD i 0).toNat ∧ (t.data.toList.getD i 0).toNat ≤ 122
set_option maxRecDepth 100000 in
set_option maxHeartbeats 2000000 in
theorem names_any (a : Option Addr) (ns : List ByteArray) (c : Nat) (w : World) (hl : ns.length ≤ 4) (hic : ns.length ≤ c) (hc : c ≤ 9223372036854775807) (hf : Fds a ns w) (hn : ∀ i, i < ns.length → NmOk (ns.getD i ⟨#[]⟩)) (hne : ∀ i j, i < ns.length → j < i → ns.getD j ⟨#[]⟩ ≠ ns.getD i ⟨#[]⟩) :
    Calls Try.prog 72 #[.slice a ns.length c] w fun e w' => e = .returned (.int .i64 0) ∧ Below w.heap.size w w' := by
  have HI := Lib.hid (And.intro hf (And.intro hn hne))
  clear hf hn hne
  go_enter Try.func72, Try.ntmps72
  go_wp2_with fail
  go_loopw [7] (fun iv wr => ∃ i : Nat, iv = .int .i64 i ∧ i ≤ ns.length ∧ Below w.heap.size w wr) (fun iv _ => ns.length - (intOf iv).toNat)
  case atStart => exact ⟨0, rfl, Nat.zero_le _, Below.refl _ _⟩
  case round =>
    obtain ⟨i, rfl, hi, hb⟩ := hrel
    by_cases hlt : i < ns.length
    · have ti : (i : Int) < (ns.length : Int) := by omega
      have wi : IntKind.i64.wrap ((i : Int) + 1) = (i : Int) + 1 := IntWalk.i64_in _ ⟨by omega, by omega⟩
      have hni : ((i : Int)).toNat = i := by omega
      have hfr := HI.out.1.below hb
      obtain ⟨b, kk, nn, ss, pa, pl, pc, rfl, e2, y0, y1, y2, y3, y4⟩ := hfr i hlt
      have hA := (Below.refl wr.heap.size wr).alloc (Nat.le_refl _) (.cells #[.string (ns.getD i ⟨#[]⟩), .int .i64 kk, .int .i64 nn, .string ss, .slice pa pl pc] 33 (0, 0))
      have hR : (wr.alloc (.cells #[.string (ns.getD i ⟨#[]⟩), .int .i64 kk, .int .i64 nn, .string ss, .slice pa pl pc] 33 (0, 0))).heap[wr.heap.size]? = some (.cells #[.string (ns.getD i ⟨#[]⟩), .int .i64 kk, .int .i64 nn, .string ss, .slice pa pl pc] 33 (0, 0)) := heap_alloc_new wr _
      have hNm := HI.out.2.1 i hlt
      have hnm := Lib.hid (name_any (ns.getD i ⟨#[]⟩) hNm.1 hNm.2.1 hNm.2.2 (wr.alloc (.cells #[.string (ns.getD i ⟨#[]⟩), .int .i64 kk, .int .i64 nn, .string ss, .slice pa pl pc] 33 (0, 0))))
      have hdiff := fun j hj => HI.out.2.2 i j hlt hj
      generalize ns.getD i ⟨#[]⟩ = y at *
      have HB := Lib.hid (And.intro (hb.trans (hA.mono hb.size)) (And.intro (hfr.below hA) (And.intro hR hdiff)))
      clear hb hR hA hfr hNm hdiff
      have tc : i ≤ c := by omega
      have tcI : (i : Int) ≤ (c : Int) := by omega
      have t0I : (0 : Int) ≤ (i : Int) := by omega
      go_wp2_with fail
      refine hnm.out.mono ?_
      rintro e w3 ⟨rfl, hb3⟩
      have hR3 := (hb3.block _ (lt_of_block HB.out.2.2.1)).trans HB.out.2.2.1
      obtain ⟨z0, z1, z2, z3, z4⟩ := cells5 hR3
      have hco := Lib.hid (contains_none _ ns i c y wr.heap.size w3 (by omega) hl (HB.out.2.1.below hb3) z0 (lt_of_block hR3) HB.out.2.2.2)
      have HB3 := Lib.hid (HB.out.1.trans (hb3.mono HB.out.1.size))
      clear hb3 hR3
      go_wp2_with fail
      refine hco.out.mono ?_
      rintro e w4 ⟨rfl, hb4⟩
      have HB4 := Lib.hid (HB3.out.trans (hb4.mono HB3.out.size))
      clear hb4
      go_wp2_with fail
      exact ⟨⟨i + 1, by simp, by omega, HB4.out⟩, by simp [intOf]; omega⟩
    · have ti : decide ((i : Int) < (ns.length : Int)) = false := decide_eq_false (by omega)
      go_wp2_with fail
      go_ret
      exact ⟨rfl, hb⟩

end Go.Proofs.Ytkcpnehhcpmdgaa
