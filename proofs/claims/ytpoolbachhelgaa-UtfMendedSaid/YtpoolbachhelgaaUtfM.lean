/- clapkeep1.UtfMended answers true at all strings and ints. -/
import Derived.Test.YtpoolbachhelgaaUtfP
import Derived.Test.YtpoolbachhelgaaBelow
import Derived.OpenShut
import Derived.WalkSmall
namespace Go.Proofs.Ytpoolbachhelgaa
open Go.RowKit Go.Proofs.Ytpoolbachhelgaa.PUtfMended

def MendRel (l : List UInt8) (w : World) (iv : Value) (wr : World) : Prop :=
  ∃ (k : Nat) (done : List Nat), k ≤ l.length ∧ iv = .int .i64 k ∧ done ++ mp (l.drop k) = mp l ∧ done.length ≤ k ∧ Bd w.heap.size w.heap.size (cps done) wr ∧ Below w.heap.size w wr

set_option maxRecDepth 100000 in
set_option maxHeartbeats 2000000 in
theorem mend_any (l : List UInt8) (hlen : l.length ≤ 1000000) (w : World) :
    Calls Try.prog 24 #[.string (sL l)] w fun e w' => e = .returned (.string (sL (cps (mp l)))) ∧ Below w.heap.size w w' := by
  have HS := Lib.hid (fun b (wr : World) (hb : Bd w.heap.size w.heap.size b wr) => string_any _ _ b wr hb)
  have HB := Lib.hid (fun (b : List UInt8) (z : Int) (h0 : 0 ≤ z) (h1 : z ≤ 1114111) (wr : World) (hb : Bd w.heap.size w.heap.size b wr) (hl : b.length + 4 ≤ 140737488355328) => bytes_any _ _ b z h0 h1 wr hb hl)
  have hsz : (sL l).size = l.length := sL_size l
  have HZ := Lib.hid hsz
  have hsz1 : (sL l).size ≤ 1000000 := by omega
  clear hsz
  go_enter Try.func24, Try.ntmps24
  go_wp2
  go_loopw [4] (fun iv wr => MendRel l w iv wr) (fun iv _ => l.length - (intOf iv).toNat)
  case atStart => exact ⟨0, [], by omega, rfl, rfl, by simp, Bd.new w, by go_grown⟩
  case round =>
    obtain ⟨k, done, hk, rfl, hmp, hdl, hbd, hbel⟩ := hrel
    by_cases hlt : k < l.length
    · have h0 : l.drop k ≠ [] := by intro h; have := congrArg List.length h; simp at this; omega
      have hltz : k < (sL l).size := by rw [HZ.out]; exact hlt
      have hNx := next_any (l.drop k) h0 (by rw [List.length_drop]; omega)
      have hle := (cps_len done).2
      have hleD : done.length ≤ 1000000 := by omega
      by_cases hz : (nx (l.drop k)).2 = 0
      · have hm := mp_bad _ h0 hz
        rw [List.drop_drop] at hm
        rw [hm] at hmp
        have hs : done ++ [65533] ++ mp (l.drop (k + 1)) = mp l := by rw [← hmp, List.append_assoc]; rfl
        rw [hz] at hNx
        generalize (nx (l.drop k)).1 = r0 at hNx
        have C := Lib.hid (And.intro hNx (And.intro hs (And.intro hbd hle)))
        clear hm hmp hs hz hNx hbd hle h0
        go_wp2_with fail
        rw [sL_drop]
        refine (C.out.1 _).mono ?_; rintro e w1 ⟨rfl, d, rfl⟩
        go_wp2_with fail
        refine (HB.out _ 65533 (by omega) (by omega) _ (⟨C.out.2.2.1.1, C.out.2.2.1.2⟩ : Bd w.heap.size w.heap.size (cps done) (wr.drewN d)) (by have := C.out.2.2.2; omega)).mono ?_; rintro e w2 ⟨rfl, b2, k2⟩
        go_wp2_with fail
        refine ⟨⟨k + 1, done ++ [65533], by omega, rfl, C.out.2.1, by simp; omega, ?_, (below_drewN hbel d).trans k2⟩, by simp [intOf]; omega⟩
        rw [cps_append, show cps [65533] = enc 65533 from by simp [cps]]
        exact b2
      · have hm := mp_good _ h0 hz
        rw [List.drop_drop] at hm
        rw [hm] at hmp
        have hnl := nx_len _ hz
        rw [List.length_drop] at hnl
        have hr := okR_le _ (nx_spec _ hz).1
        generalize (nx (l.drop k)).1 = r at *
        generalize (nx (l.drop k)).2 = n at *
        have hs : done ++ [r] ++ mp (l.drop (k + n)) = mp l := by rw [← hmp, List.append_assoc]; rfl
        have hn1 : n ≤ l.length - k := hnl.1
        have hzb : ((n : Int) == 0) = false := beq_eq_false_iff_ne.2 (by omega)
        have hr' : (r : Int) ≤ 1114111 := by omega
        have hn4 : n ≤ 4 := hnl.2
        have C := Lib.hid (And.intro hNx (And.intro hs (And.intro hbd (And.intro hle (And.intro hn1 hz)))))
        clear hm hmp hs hz hNx hbd hle h0 hnl hn1 hr
        go_wp2_with fail
        rw [sL_drop]
        refine (C.out.1 _).mono ?_; rintro e w1 ⟨rfl, d, rfl⟩
        go_wp2_with fail
        refine (HB.out _ (r : Int) (by omega) hr' _ (⟨C.out.2.2.1.1, C.out.2.2.1.2⟩ : Bd w.heap.size w.heap.size (cps done) (wr.drewN d)) (by have := C.out.2.2.2.1; omega)).mono ?_; rintro e w2 ⟨rfl, b2, k2⟩
        go_wp2_with fail
        have hn1 := C.out.2.2.2.2.1
        have hz := C.out.2.2.2.2.2
        refine ⟨⟨k + n, done ++ [r], by omega, by congr 1, C.out.2.1, by simp; omega, ?_, (below_drewN hbel d).trans k2⟩, by simp [intOf]; omega⟩
        rw [cps_append, show cps [r] = enc r from by simp [cps]]
        exact b2
    · have e : k = l.length := by omega
      rw [e, List.drop_length, mp_nil, List.append_nil] at hmp
      rw [hmp] at hbd
      subst e
      have hge : ¬ l.length < (sL l).size := by rw [HZ.out]; omega
      have HBD := Lib.hid hbd
      clear hbd hmp
      go_wp2_with fail
      refine (HS.out _ _ HBD.out).mono ?_; rintro e w1 ⟨rfl, k1⟩
      go_wp2_with fail
      go_ret
      exact ⟨rfl, hbel.trans k1⟩

end Go.Proofs.Ytpoolbachhelgaa
