/- pattern.Quote; no condition beyond those that stand there. -/
import Derived.Test.YtebcflgdjbjkoaaBuild
import Derived.Test.YtebcflgdjbjkoaaQuoted
namespace Go.Proofs.Ytebcflgdjbjkoaa
open Go.RowKit

theorem quote_snoc (l : List UInt8) (c : UInt8) : quoteL (l ++ [c]) = quoteL l ++ (if c.toNat ∈ special then [92, c] else [c]) := by
  induction l with
  | nil => simp only [List.nil_append, quoteL]
  | cons a l ih =>
    simp only [List.cons_append, quoteL, ih]
    split <;> rfl
theorem special_index (c : Nat) (hc : c < 256) : decide (0 ≤ Lib.indexByte (⟨#[124, 42, 43, 63, 40, 41, 91, 93, 46, 92]⟩ : ByteArray).data.toList ((c : Int)).toNat.toUInt8) = decide (c ∈ special) := by
  have : ∀ c, c < 256 → decide (0 ≤ Lib.indexByte (⟨#[124, 42, 43, 63, 40, 41, 91, 93, 46, 92]⟩ : ByteArray).data.toList c.toUInt8) = decide (c ∈ special) := by decide +kernel
  exact this c hc
set_option maxRecDepth 100000 in
set_option maxHeartbeats 4000000 in
theorem quote_any (s : ByteArray) (hs : s.size ≤ 1000) (w : World) :
    Calls Try.prog 7 #[.string s] w fun e w' => e = .returned (.string ⟨(quoteL s.data.toList).toArray⟩) ∧ Below w.heap.size w w' := by
  have hB0 := Bd.new w
  have hab : Below w.heap.size w (w.alloc (.cells #[.pointer none, .slice none 0 0] 50 (0, 0))) := (Below.refl w.heap.size w).alloc (Nat.le_refl _) _
  have hsz : s.data.toList.length = s.size := by simp
  have HW := Lib.hid (fun (l : List UInt8) (c : Int) (h0 : 0 ≤ c) (h1 : c < 256) (wr : World) (hb : Bd w.heap.size w.heap.size l wr) (hl : l.length + 1 ≤ 140737488355328) => writeByte_any w.heap.size w.heap.size l c h0 h1 wr hb hl)
  have HI := Lib.hid (And.intro hB0 (And.intro hab hsz))
  clear hB0 hab hsz
  go_enter Try.func7, Try.ntmps7
  go_wp2_with fail
  have hi := HI.out
  clear HI
  generalize w.alloc (.cells #[.pointer none, .slice none 0 0] 50 (0, 0)) = W at *
  have HI := Lib.hid hi
  clear hi
  go_loopw [7] (fun iv wr => ∃ i : Nat, iv = .int .i64 i ∧ i ≤ s.size ∧ Bd w.heap.size w.heap.size (quoteL (s.data.toList.take i)) wr ∧ Below w.heap.size w wr) (fun iv _ => s.size - (intOf iv).toNat)
  case atStart => exact ⟨0, rfl, Nat.zero_le _, HI.out.1, HI.out.2.1⟩
  case round =>
    obtain ⟨i, rfl, hi, hB, hb⟩ := hrel
    by_cases hlt : i < s.size
    · have ti : (i : Int) < (s.size : Int) := by omega
      have wi : IntKind.i64.wrap ((i : Int) + 1) = (i : Int) + 1 := IntWalk.i64_in _ ⟨by omega, by omega⟩
      have hni : ((i : Int)).toNat = i := by omega
      have hx := peek_in s i hlt
      have hxl := peek_lt s i
      have htk : s.data.toList.take (i + 1) = s.data.toList.take i ++ [UInt8.ofNat (peekM s i)] := by
        rw [List.take_succ_eq_append_getElem (by rw [HI.out.2.2]; exact hlt)]
        unfold peekM
        simp [List.getD, hlt]
      have hlen : (quoteL (s.data.toList.take i)).length ≤ 2000 := by
        have h1 := (quote_len (s.data.toList.take i)).2
        rw [List.length_take] at h1
        omega
      have hq := quote_snoc (s.data.toList.take i) (UInt8.ofNat (peekM s i))
      rw [← htk] at hq
      have hof : (UInt8.ofNat (peekM s i)).toNat = peekM s i := UInt8.toNat_ofNat_of_lt' hxl
      rw [hof] at hq
      generalize peekM s i = c at *
      have hIx := Lib.hid (Try.strings_IndexByte ⟨#[124, 42, 43, 63, 40, 41, 91, 93, 46, 92]⟩ (c : Int) wr)
      have hsp := special_index c hxl
      generalize hL : quoteL (s.data.toList.take i) = L at *
      have HB := Lib.hid (And.intro hB (And.intro hb (And.intro hq (And.intro hof hlen))))
      have HS := Lib.hid hsp
      clear hB hb hq hof hlen hsp hL htk
      go_wp2_with fail
      refine hIx.out.mono ?_
      rintro e w3 ⟨rfl, rfl⟩
      clear hIx
      have hsp := HS.out
      generalize Lib.indexByte (⟨#[124, 42, 43, 63, 40, 41, 91, 93, 46, 92]⟩ : ByteArray).data.toList ((c : Int)).toNat.toUInt8 = ix at *
      by_cases hin : c ∈ special
      · have tx : decide (ix ≥ 0) = true := by rw [decide_eq_true hin] at hsp; exact hsp
        have H1 := Lib.hid (HW.out L 92 (by decide) (by decide) w3 HB.out.1 (by have := HB.out.2.2.2.2; omega))
        have HN := Lib.hid hin
        clear hsp HS hin
        go_wp2_with fail
        refine H1.out.mono ?_
        rintro e w4 ⟨rfl, hB4, hb4⟩
        have H2 := Lib.hid (HW.out (L ++ [UInt8.ofNat (92 : Int).toNat]) (c : Int) (by omega) (by omega) w4 hB4 (by have := HB.out.2.2.2.2; simp; omega))
        have HB4 := Lib.hid (HB.out.2.1.trans hb4)
        clear hB4 hb4 H1
        go_wp2_with fail
        refine H2.out.mono ?_
        rintro e w5 ⟨rfl, hB5, hb5⟩
        have hB6 : Bd w.heap.size w.heap.size (quoteL (s.data.toList.take (i + 1))) w5 := by
          rw [HB.out.2.2.1, if_pos HN.out]
          have e : L ++ [92, UInt8.ofNat c] = (L ++ [UInt8.ofNat (92 : Int).toNat]) ++ [UInt8.ofNat (c : Int).toNat] := by simp
          rw [e]
          exact hB5
        have H6 := Lib.hid (And.intro hB6 (HB4.out.trans hb5))
        clear hB5 hb5 hB6 H2
        go_wp2_with fail
        exact ⟨⟨i + 1, by simp, by omega, H6.out.1, H6.out.2⟩, by simp [intOf]; omega⟩
      · have tx : decide (ix ≥ 0) = false := by rw [decide_eq_false hin] at hsp; exact hsp
        have H2 := Lib.hid (HW.out L (c : Int) (by omega) (by omega) w3 HB.out.1 (by have := HB.out.2.2.2.2; omega))
        have HN := Lib.hid hin
        clear hsp HS hin
        go_wp2_with fail
        refine H2.out.mono ?_
        rintro e w5 ⟨rfl, hB5, hb5⟩
        have hB6 : Bd w.heap.size w.heap.size (quoteL (s.data.toList.take (i + 1))) w5 := by
          rw [HB.out.2.2.1, if_neg HN.out]
          have e : L ++ [UInt8.ofNat c] = L ++ [UInt8.ofNat (c : Int).toNat] := by simp
          rw [e]
          exact hB5
        have H6 := Lib.hid (And.intro hB6 (HB.out.2.1.trans hb5))
        clear hB5 hb5 hB6 H2
        go_wp2_with fail
        exact ⟨⟨i + 1, by simp, by omega, H6.out.1, H6.out.2⟩, by simp [intOf]; omega⟩
    · have ti : decide ((i : Int) < (s.size : Int)) = false := decide_eq_false (by omega)
      obtain rfl : i = s.size := by omega
      have ht : s.data.toList.take s.size = s.data.toList := List.take_of_length_le (by rw [HI.out.2.2]; exact Nat.le_refl _)
      rw [ht] at hB
      have HS := Lib.hid (string_any w.heap.size w.heap.size _ wr hB)
      have HB := Lib.hid hb
      clear hB hb ht
      go_wp2_with fail
      refine HS.out.mono ?_
      rintro e w5 ⟨rfl, hb5⟩
      have H6 := Lib.hid (HB.out.trans hb5)
      clear hb5 HS
      go_wp2_with fail
      go_ret
      exact ⟨rfl, H6.out⟩

end Go.Proofs.Ytebcflgdjbjkoaa
