/- The contract of utf.Runes at the bytes of code points. -/
import Derived.Test.YtpoolbachhelgaaUtfNx
namespace Go.Proofs.Ytpoolbachhelgaa
open Go.RowKit Go.Proofs.Ytpoolbachhelgaa.PUtfMended Go.Proofs.YtpoolbachhelgaaW.PrintWords Go.Proofs.YtpoolbachhelgaaW.PrintLast Go.Proofs.YtpoolbachhelgaaW.PrintMore

theorem runes_l0 (rest : List Nat) : ∀ (done : List Nat) (k : Nat), (∀ r ∈ rest, okR r = true) → (cps (done ++ rest)).length < 1099511627776 → rest.length + 10 ≤ k →
    utf_Runes.l0 k (sL (cps (done ++ rest))) (intsOf done) ((cps done).length : Nat) = some (intsOf (done ++ rest), 0, 0) := by
  induction rest with
  | nil =>
    intro done k _ _ hk
    obtain ⟨k, rfl⟩ : ∃ m, k = m + 1 := ⟨k - 1, by omega⟩
    simp only [utf_Runes.l0, List.append_nil]
    rw [if_neg (by rw [sL_size]; omega)]
  | cons r rest ih =>
    intro done k hok hlen hk
    obtain ⟨k, rfl⟩ : ∃ m, k = m + 1 := ⟨k - 1, by omega⟩
    have hr := hok r (List.mem_cons_self ..)
    have he := enc_len r
    have hl : (cps (done ++ r :: rest)).length = (cps done).length + (enc r).length + (cps rest).length := by
      rw [cps_append, cps_cons, List.length_append, List.length_append]; omega
    have hd : (cps (done ++ r :: rest)).drop (cps done).length = enc r ++ cps rest := by
      rw [cps_append, cps_cons, List.drop_left]
    have hn := next_f (enc r ++ cps rest) (by intro h; rw [List.append_eq_nil_iff] at h; rw [h.1] at he; simp at he) (by rw [List.length_append]; omega) k (by simp at hk; omega)
    rw [nx_enc r hr] at hn
    have hdl := (cps_len done).1
    have hst := ih (done ++ [r]) k (fun x hx => hok x (List.mem_cons_of_mem _ hx)) (by rw [List.append_assoc]; exact hlen) (by simp at hk; omega)
    rw [List.append_assoc, List.singleton_append] at hst
    simp only [utf_Runes.l0]
    rw [if_pos (by rw [sL_size]; omega), if_pos (by omega), if_pos (by rw [sL_size]; omega), Int.toNat_natCast, sL_drop, hd, hn]
    simp only [Option.bind_some]
    rw [if_neg (by omega), if_pos (by rw [intsOf_length]; omega)]
    have e1 : wrap64 (((cps done).length : Int) + ((enc r).length : Int)) = ((cps (done ++ [r])).length : Int) := by
      rw [cps_append, List.length_append]
      have e : (cps [r]).length = (enc r).length := by simp [cps]
      rw [e]
      unfold wrap64; omega
    have e2 : intsOf done ++ [(r : Int)] = intsOf (done ++ [r]) := by simp [intsOf]
    rw [e1, e2]
    exact hst

theorem runes_any (ps : List Nat) (hok : ∀ r ∈ ps, okR r = true) (hlen : ps.length ≤ 1000000) (w : World) :
    Calls Try.prog 21 #[.string (sL (cps ps))] w fun e w' => ∃ v, e = .returned (.tuple #[v, .int .i64 0, .int .i64 0]) ∧ w'.ownsRow w.heap.size 3 1 v ps.length ((intsOf ps).map (Value.int .i64)) ∧ Below w.heap.size w w' := by
  have hl := (cps_len ps).2
  have hf : utf_Runes.f (ps.length + 10) (sL (cps ps)) = some (intsOf ps, 0, 0) := runes_l0 ps [] _ hok (by rw [List.nil_append]; omega) (by omega)
  refine (utf_Runes.calls _ _ _ _ _ w hf).mono ?_
  rintro e w' ⟨v, rfl, hR, hb⟩
  have ho := Kd.own_of_R hR
  rw [intsOf_length] at ho
  exact ⟨v, rfl, ho, hb⟩

end Go.Proofs.Ytpoolbachhelgaa
