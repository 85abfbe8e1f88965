/- The contracts of utf.Valid and utf.Text at lists of code points that can be encoded; the fact of the code point 233. -/
import Derived.Test.YtpoolbachhelgaaUtfW
namespace Go.Proofs.Ytpoolbachhelgaa
open Go.RowKit

/-- A slice of ints that reads as a list. -/
def Sl (w : World) (v : Value) (xs : List Int) : Prop :=
  (v = .slice none 0 0 ∧ xs = []) ∨ ∃ b off cap, v = .slice (some ⟨b, off, none⟩) xs.length cap ∧ xs.length ≤ cap ∧ cap ≤ 9223372036854775807 ∧ ∀ i, i < xs.length → b < w.heap.size ∧ w.cell? ⟨b, off + i, none⟩ = some (.int .i64 (xs.getD i 0))
theorem Sl.below {w w' : World} {v : Value} {xs : List Int} (h : Sl w v xs) (hb : Below w.heap.size w w') : Sl w' v xs := by
  rcases h with h | ⟨b, off, cap, rfl, hc, hm, h⟩
  · exact Or.inl h
  · exact Or.inr ⟨b, off, cap, rfl, hc, hm, fun i hi => ⟨Nat.lt_of_lt_of_le (h i hi).1 hb.size, by rw [hb.cell (h i hi).1]; exact (h i hi).2⟩⟩
theorem Sl.of_owns {w : World} {base : Nat} {v : Value} {xs : List Int} (h : w.ownsRow base 3 1 v xs.length (xs.map (Value.int .i64))) : Sl w v xs := by
  rcases h.2 with ⟨rfl, h0⟩ | ⟨g, cap, cur, rfl, hg, hh, r⟩
  · exact Or.inl ⟨rfl, List.eq_nil_of_length_eq_zero h0⟩
  · have hlt := lt_of_block hh
    refine Or.inr ⟨g, 0, cap, rfl, r.1, r.2.1, fun i hi => ⟨hlt, ?_⟩⟩
    rw [Nat.zero_add, h.cellAt i (by omega)]
    simp [List.getD, hi]

/-- Is a number a code point that can be encoded? -/
def okR (r : Nat) : Bool := decide (r ≤ 1114111) && (decide (r < 55296) || decide (57343 < r))
def cps (l : List Nat) : List UInt8 := l.flatMap enc
theorem cps_nil : cps [] = [] := rfl
theorem cps_cons (a : Nat) (l : List Nat) : cps (a :: l) = enc a ++ cps l := rfl
theorem cps_append (a b : List Nat) : cps (a ++ b) = cps a ++ cps b := by simp [cps]
theorem cps_len (l : List Nat) : l.length ≤ (cps l).length ∧ (cps l).length ≤ 4 * l.length := by
  induction l with
  | nil => simp [cps]
  | cons a l ih => have := enc_len a; rw [cps_cons, List.length_append, List.length_cons]; omega

theorem valid_any (z : Int) (h0 : 0 ≤ z) (w : World) :
    Calls Try.prog 19 #[.int .i64 z] w fun e w' => e = .returned (.bool (okR z.toNat)) ∧ w = w' := by
  by_cases c1 : z ≤ 1114111
  · by_cases c2 : z < 55296
    · have hf := Lib.hid (show okR z.toNat = true from by unfold okR; simp <;> omega)
      go_enter Try.func19, Try.ntmps19
      go_wp2
      go_ret
      exact ⟨ret_bool hf.out.symm, rfl⟩
    · by_cases c3 : 57343 < z
      · have hf := Lib.hid (show okR z.toNat = true from by unfold okR; simp <;> omega)
        go_enter Try.func19, Try.ntmps19
        go_wp2
        go_ret
        exact ⟨ret_bool (by rw [hf.out]; try simp [c3]), rfl⟩
      · have hf := Lib.hid (show okR z.toNat = false from by unfold okR; simp <;> omega)
        go_enter Try.func19, Try.ntmps19
        go_wp2
        go_ret
        exact ⟨ret_bool (by rw [hf.out]; try simp [c3]), rfl⟩
  · have hf := Lib.hid (show okR z.toNat = false from by unfold okR; simp <;> omega)
    go_enter Try.func19, Try.ntmps19
    go_wp2
    go_ret
    exact ⟨ret_bool (by rw [hf.out]), rfl⟩

def TextRel (ps : List Nat) (w : World) (iv : Value) (wr : World) : Prop := ∃ k : Nat, k ≤ ps.length ∧ iv = .int .i64 k ∧ Bd w.heap.size w.heap.size (cps (ps.take k)) wr ∧ Below w.heap.size w wr

set_option maxRecDepth 100000 in
set_option maxHeartbeats 2000000 in
theorem utfText_any (ps : List Nat) (v : Value) (hok : ∀ r ∈ ps, okR r = true) (w : World) (h : Sl w v (intsOf ps)) (hlen : ps.length ≤ 1099511627776) :
    Calls Try.prog 20 #[v] w fun e w' => e = .returned (.tuple #[.string ⟨(cps ps).toArray⟩, .int .i64 0]) ∧ Below w.heap.size w w' := by
  have hS := fun l (wr : World) (hb : Bd w.heap.size w.heap.size l wr) => string_any _ _ l wr hb
  have HS := Lib.hid hS
  clear hS
  rcases h with ⟨rfl, h0⟩ | ⟨b, off, cap, rfl, hcap, hm, hc⟩
  · have e0 : ps = [] := by simpa [intsOf] using h0
    subst e0
    clear h0 hok hlen
    go_enter Try.func20, Try.ntmps20
    go_wp2
    go_loopw [9] (fun iv wr => iv = .int .i64 0 ∧ wr = w.alloc (.cells #[.pointer none, .slice none 0 0] 72 (0, 0))) (fun _ _ => 0)
    case atStart => exact ⟨rfl, rfl⟩
    case round =>
      obtain ⟨rfl, rfl⟩ := hrel
      go_wp2_with fail
      refine (HS.out [] _ (Bd.new w)).mono ?_; rintro e w1 ⟨rfl, k1⟩
      go_wp2_with fail
      go_ret2
      exact ⟨rfl, (by go_grown : Below w.heap.size w _).trans k1⟩
  · rw [intsOf_length] at hc hcap ⊢
    have hn : ps.length ≤ 9223372036854775807 := by omega
    have HC := Lib.hid hc
    have HO := Lib.hid hok
    have HB := Lib.hid (fun (l : List UInt8) (z : Int) (h0 : 0 ≤ z) (h1 : z ≤ 1114111) (wr : World) (hb : Bd w.heap.size w.heap.size l wr) (hl : l.length + 4 ≤ 140737488355328) => bytes_any _ _ l z h0 h1 wr hb hl)
    clear hc hok
    go_enter Try.func20, Try.ntmps20
    go_wp2
    go_loopw [9] (fun iv wr => TextRel ps w iv wr) (fun iv _ => ps.length - (intOf iv).toNat)
    case atStart => exact ⟨0, by omega, rfl, Bd.new w, by go_grown⟩
    case round =>
      obtain ⟨k, hk, rfl, hbd, hbel⟩ := hrel
      by_cases hlt : k < ps.length
      · have hcell : wr.cell? ⟨b, off + k, none⟩ = some (.int .i64 (ps[k] : Nat)) := by
          obtain ⟨hb, hx⟩ := HC.out k hlt
          rw [hbel.cell hb, hx]
          simp [intsOf, List.getD, hlt]
        have hv := HO.out ps[k] (List.getElem_mem hlt)
        obtain ⟨z, hz⟩ : ∃ z : Int, z = (ps[k] : Nat) := ⟨_, rfl⟩
        have htk : ps.take (k + 1) = ps.take k ++ [z.toNat] := by rw [hz, List.take_succ_eq_append_getElem hlt]; rfl
        rw [show ps[k] = z.toNat from by omega] at hv
        rw [← hz] at hcell
        have z0 : 0 ≤ z := by omega
        have z1 : z ≤ 1114111 := by unfold okR at hv; simp at hv; omega
        have hle := (cps_len (ps.take k)).2
        rw [List.length_take] at hle
        have hV := valid_any z z0
        rw [hv] at hV
        have HV := Lib.hid hV
        have HT := Lib.hid htk
        have HBD := Lib.hid hbd
        have HL := Lib.hid hle
        clear hz hV htk hv hbd hle
        go_wp2_with fail
        refine (HV.out _).mono ?_; rintro e w1 ⟨rfl, rfl⟩
        go_wp2_with fail
        refine (HB.out _ z z0 z1 _ HBD.out (by have := HL.out; omega)).mono ?_; rintro e w1 ⟨rfl, k1, k2⟩
        go_wp2_with fail
        refine ⟨⟨k + 1, hlt, rfl, ?_, hbel.trans k2⟩, by simp [intOf]; omega⟩
        rw [HT.out, cps_append]
        simpa [cps] using k1
      · have e : k = ps.length := by omega
        rw [e, List.take_length] at hbd
        subst e
        have HBD := Lib.hid hbd
        clear hbd
        go_wp2_with fail
        refine (HS.out _ _ HBD.out).mono ?_; rintro e w1 ⟨rfl, k1⟩
        go_wp2_with fail
        go_ret2
        exact ⟨rfl, hbel.trans k1⟩

/-- One code point. -/
theorem Sl.one (w : World) (z : Int) : Sl (w.alloc (.cells #[.int .i64 z] 3 (0, 0))) (.slice (some ⟨w.heap.size, 0, none⟩) 1 1) [z] := by
  refine Or.inr ⟨w.heap.size, 0, 1, rfl, by simp, by omega, fun i hi => ⟨by simp, ?_⟩⟩
  obtain rfl : i = 0 := by simpa using hi
  simp [World.cell?, World.alloc, -World.alloc_eq]

theorem enc233 : cps [233] = [195, 169] := by decide +kernel
set_option maxHeartbeats 400000 in
theorem coded_any (w : World) : Calls Try.prog 22 #[] w fun e w' => e = .returned (.bool true) ∧ Below w.heap.size w w' := by
  have hT := utfText_any [233] _ (by intro r hr; simp at hr; subst hr; decide) _ (Sl.one w 233) (by simp)
  rw [enc233] at hT
  have HT := Lib.hid hT
  clear hT
  go_enter Try.func22, Try.ntmps22
  go_wp2_with fail
  refine HT.out.mono ?_; rintro e w1 ⟨rfl, k1⟩
  go_wp2_with fail
  go_ret
  exact ⟨rfl, ((Below.refl _ _).alloc (Nat.le_refl _) _).trans (k1.mono (by simp))⟩

end Go.Proofs.Ytpoolbachhelgaa
