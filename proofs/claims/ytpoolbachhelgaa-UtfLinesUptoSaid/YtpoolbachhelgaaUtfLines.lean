/- clapkeep1.UtfLines answers true at all strings of at most 2^22 bytes. -/
import Derived.Test.YtpoolbachhelgaaLines
namespace Go.Proofs.Ytpoolbachhelgaa
open Go.RowKit

theorem ln_no13 (l : List UInt8) : ∀ p, 13 ∉ ln p l := by
  induction l with
  | nil => intro p; simp [ln]
  | cons a t ih =>
    intro p h
    simp only [ln, List.mem_append] at h
    rcases h with h | h
    · unfold emit at h
      split at h
      · simp at h
      · rename_i ha
        split at h
        · simp at h
        · exact ha (List.mem_singleton.mp h).symm
    · exact ih a h
theorem ln_id (l : List UInt8) (h : 13 ∉ l) : ∀ p, p ≠ 13 → ln p l = l := by
  induction l with
  | nil => intro p _; rfl
  | cons a t ih =>
    intro p hp
    have ha : a ≠ 13 := fun e => h (by simp [e])
    simp only [ln]
    rw [ih (fun e => h (List.mem_cons_of_mem _ e)) a ha]
    unfold emit
    rw [if_neg ha, if_neg (fun e => hp e.2)]
    rfl
theorem ln_rt (l : List UInt8) (h : 13 ∉ l) : ∀ p, p ≠ 13 → ln p (rt l) = l := by
  induction l with
  | nil => intro p _; rfl
  | cons a t ih =>
    intro p hp
    have ha : a ≠ 13 := fun e => h (by simp [e])
    have ht : 13 ∉ t := fun e => h (List.mem_cons_of_mem _ e)
    have e : rt (a :: t) = rtc a ++ rt t := rfl
    rw [e]
    unfold rtc
    by_cases h10 : a = 10
    · rw [if_pos h10]
      simp only [List.cons_append, List.nil_append, ln]
      rw [ih ht 10 (by decide)]
      subst h10
      unfold emit
      rw [if_pos rfl, if_neg (by decide), if_pos ⟨rfl, rfl⟩]
      rfl
    · rw [if_neg h10]
      simp only [List.cons_append, List.nil_append, ln]
      rw [ih ht a ha]
      unfold emit
      rw [if_neg ha, if_neg (fun e => h10 e.1)]
      rfl
theorem rt_count (l : List UInt8) : (rt l).length = l.length + l.count 10 := by
  induction l with
  | nil => rfl
  | cons a t ih =>
    have e : rt (a :: t) = rtc a ++ rt t := rfl
    rw [e, List.length_append, ih]
    unfold rtc
    by_cases h10 : a = 10
    · rw [if_pos h10, h10]; simp; omega
    · rw [if_neg h10, List.count_cons_of_ne (by simpa using h10)]; simp; omega
theorem idx_none (l : List UInt8) (c : UInt8) (h : c ∉ l) : Lib.indexByte l c = -1 := by
  induction l with
  | nil => rfl
  | cons a t ih =>
    have ha : a ≠ c := fun e => h (by simp [e])
    have := ih (fun e => h (List.mem_cons_of_mem _ e))
    unfold Lib.indexByte
    simp [ha, this]

set_option maxRecDepth 100000 in
set_option maxHeartbeats 4000000 in
theorem utfLines_walk (s : ByteArray) (hs : s.size ≤ 1048576) (w : World) :
    Calls Try.prog 8 #[.string s] w fun e w' => e = .returned (.bool true) ∧ Below w.heap.size w w' := by
  have h13 := ln_no13 s.data.toList 0
  obtain ⟨l, hl⟩ : ∃ l, l = lines s.data.toList := ⟨_, rfl⟩
  have hlen : l.length ≤ s.size := by rw [hl]; exact ln_len _ 0
  have c1 := fun W => lines_any s (by omega) W
  have c2 := fun W => returns_any s (by omega) W
  have c3 := fun W => lines_any ⟨l.toArray⟩ (by show l.toArray.size ≤ _; simp; omega) W
  have c4 := fun W => lines_any ⟨(rt l).toArray⟩ (by have := rt_len l; show (rt l).toArray.size ≤ _; simp; omega) W
  have c5 := fun W => returns_any ⟨(rt l).toArray⟩ (by have := rt_len l; show (rt l).toArray.size ≤ _; simp; omega) W
  have c6 := fun W => Try.strings_Contains_one ⟨l.toArray⟩ 13 W
  have c7 := fun W => Try.strings_Count_one ⟨l.toArray⟩ 10 W
  rw [← hl] at c1 c2
  have h13' : 13 ∉ l := by rw [hl]; exact h13
  simp only [show lines l = l from ln_id l h13' 0 (by decide)] at c3
  simp only [show lines (rt l) = l from ln_rt l h13' 0 (by decide)] at c4 c5
  simp only [show Lib.indexByte l 13 = -1 from idx_none l 13 h13'] at c6
  rw [show decide ((0 : Int) ≤ -1) = false from by decide] at c6
  have hct := rt_count l
  unfold Lib.countByte at c7
  simp only [] at c7
  have hcl : l.count 10 ≤ l.length := List.count_le_length
  generalize l.count 10 = C at *
  have C0 := Lib.hid (And.intro c1 (And.intro c2 (And.intro c3 (And.intro c4 (And.intro c5 (And.intro c6 c7))))))
  have z1 : (⟨l.toArray⟩ : ByteArray).size = l.length := by simp [ByteArray.size]
  have z2 : (⟨(rt l).toArray⟩ : ByteArray).size = l.length + C := by rw [← hct]; simp [ByteArray.size]
  clear c1 c2 c3 c4 c5 c6 c7 h13 h13' hl hct
  go_enter Try.func8, Try.ntmps8
  go_wp2_with fail
  refine (C0.out.1 _).mono ?_; rintro e w1 ⟨rfl, k1⟩
  have K1 := Lib.hid k1
  clear k1
  go_wp2_with fail
  refine (C0.out.2.1 _).mono ?_; rintro e w2 ⟨rfl, k2⟩
  have K2 := Lib.hid k2
  clear k2
  go_wp2_with fail
  refine (coded_any _).mono ?_; rintro e w3 ⟨rfl, k3⟩
  have K3 := Lib.hid k3
  clear k3
  go_wp2_with fail
  refine (C0.out.2.2.2.2.2.1 _).mono ?_; rintro e w4 ⟨rfl, rfl⟩
  go_wp2_with fail
  refine (C0.out.2.2.1 _).mono ?_; rintro e w5 ⟨rfl, k5⟩
  have K5 := Lib.hid k5
  clear k5
  go_wp2_with fail
  refine (C0.out.2.2.2.1 _).mono ?_; rintro e w6 ⟨rfl, k6⟩
  have K6 := Lib.hid k6
  clear k6
  go_wp2_with fail
  refine (C0.out.2.2.2.2.1 _).mono ?_; rintro e w7 ⟨rfl, k7⟩
  have K7 := Lib.hid k7
  clear k7
  go_wp2_with fail
  refine (C0.out.2.2.2.2.2.2 _).mono ?_; rintro e w8 ⟨rfl, rfl⟩
  go_wp2_with fail
  go_ret
  have q1 := K1.out.size
  have q2 := K2.out.size
  have q3 := K3.out.size
  have q5 := K5.out.size
  have q6 := K6.out.size
  refine ⟨ret_bool ?_, ?_⟩
  · rfl
  · exact ((((K1.out.trans (K2.out.mono q1)).trans (K3.out.mono (by omega))).trans (K5.out.mono (by omega))).trans (K6.out.mono (by omega))).trans (K7.out.mono (by omega))

end Go.Proofs.Ytpoolbachhelgaa
