/- clapmake.Any: a value tree for every list of raw numbers; no condition beyond those that stand there. -/
import Derived.Deep.Cut
import Derived.Test.YtkcpnehhcpmdgaaArg
import Derived.Test.YtkcpnehhcpmdgaaTyp
import Derived.Test.YtkcpnehhcpmdgaaValLeaf
import Derived.Test.YtkcpnehhcpmdgaaValRec
import Derived.Test.YtkcpnehhcpmdgaaValCho
import Derived.Test.YtkcpnehhcpmdgaaValLst
import Derived.Test.YtkcpnehhcpmdgaaValMap
namespace Go.Proofs.Ytkcpnehhcpmdgaa
open Go.RowKit

theorem val_leafs (d B s : Nat) (w : World) (kd : Int) (nm : ByteArray) (lo hi : Int) (pat : ByteArray) (a : Option Addr) (l c dp : Nat) (h : StAt B s w) (hl : LeafOk kd lo hi pat) :
    Calls Try.prog 31 #[.slice none 0 0, tyV kd nm lo hi pat (.slice a l c), .pointer (some ⟨s, 0, none⟩), .int .i64 dp] w (ValPost d B s w) := by
  rcases hl with rfl | ⟨rfl, h1⟩ | ⟨rfl, h1⟩ | rfl | ⟨rfl, h1⟩ | ⟨rfl, h1⟩
  · exact val_unit d B s w nm lo hi pat a l c dp h
  · exact val_num1 d B s w nm lo hi pat a l c dp h1 h
  · exact val_num2 d B s w nm lo hi pat a l c dp h1 h
  · exact val_float d B s w nm lo hi pat a l c dp h
  · exact val_num4 d B s w nm lo hi pat a l c dp h1 h
  · exact val_text d B s w nm lo hi pat a l c dp h1 h
theorem val_any : ∀ d, ValSaid d
  | 0 => fun B s S w kd nm lo hi pat a l c dp h ht _ _ => val_leafs 0 B s w kd nm lo hi pat a l c dp h ht
  | d + 1 => fun B s S w kd nm lo hi pat a l c dp h ht hS hdp => by
    have ih := val_any d
    by_cases hk : 6 ≤ kd
    · obtain ⟨hkind, hp⟩ := parts_of ht hk
      rcases hkind with ⟨rfl, h1⟩ | ⟨rfl, h1⟩ | ⟨rfl, h1, h2⟩ | ⟨rfl, h1, h2⟩
      · exact val_record d B s w nm lo hi pat a l c dp ih S hS hdp hp h1 h
      · exact val_choice d B s w nm lo hi pat a l c dp ih S hS hdp hp h1 h
      · exact val_list d B s w nm lo hi pat a l c dp ih S hS hdp hp (by omega) h2 h
      · exact val_map d B s w nm lo hi pat a l c dp ih S hS hdp hp (by omega) h2 h
    · rcases ht with hl | ⟨n, cap, a1, _, _, hkind, _⟩
      · exact val_leafs (d + 1) B s w kd nm lo hi pat a l c dp h hl
      · unfold KindOk at hkind; omega
set_option maxRecDepth 100000 in
set_option maxHeartbeats 4000000 in
theorem any_any (p : Option Addr) (len cap : Nat) (zs : List Int) (w : World) (h : IsRow .i64 w p len cap zs) :
    Calls Try.prog 8 #[.slice p len cap] w fun e w' => (∃ (t : TVal 4) (k n : Int) (str : ByteArray) (a : Option Addr) (l c : Nat), e = .returned (vV k n str (.slice a l c)) ∧ IsV 4 (w.heap.size ≤ ·) w' k n str (.slice a l c) t ∧ OkT 4 t) ∧ Below w.heap.size w w' := by
  have hlc : len ≤ cap ∧ cap ≤ 9223372036854775807 := by
    rcases h with ⟨_, h1, h2, _⟩ | ⟨x, _, h1, h2, _⟩
    · omega
    · unfold maxLen at h2; omega
  have hraw : RawAt w.heap.size w p len := by
    rcases h.cases with ⟨h1, _⟩ | ⟨b, off, rfl, h1, _, hc⟩
    · exact Or.inl h1
    · rcases Nat.eq_zero_or_pos len with h0 | h0
      · exact Or.inl h0
      · exact Or.inr ⟨b, off, rfl, (hc 0 (by omega)).1, fun i hi => ⟨_, (hc i (by omega)).2⟩⟩
  have hab : Below w.heap.size w ((w.alloc (.cells #[.int .i64 0, .int .i64 0, .string ⟨#[]⟩, .slice none 0 0] 25 (0, 0))).alloc (.cells #[.slice p len cap] 59 (0, 0))) := ((Below.refl w.heap.size w).alloc (Nat.le_refl _) _).alloc (by simp) _
  have hst : StAt w.heap.size (w.heap.size + 1) ((w.alloc (.cells #[.int .i64 0, .int .i64 0, .string ⟨#[]⟩, .slice none 0 0] 25 (0, 0))).alloc (.cells #[.slice p len cap] 59 (0, 0))) :=
    ⟨Nat.le_succ _, p, len, cap, pair2 w _ _, hlc.1, hlc.2, hraw.keep (s := w.heap.size + 1) (Nat.le_succ _) (KeepS.of_below hab)⟩
  have e1 := pair1 w (.cells #[.int .i64 0, .int .i64 0, .string ⟨#[]⟩, .slice none 0 0] 25 (0, 0)) (.cells #[.slice p len cap] 59 (0, 0))
  have HS := Lib.hid (And.intro hst (And.intro hab e1))
  clear h hraw hlc hst hab e1
  go_enter Try.func8, Try.ntmps8
  go_upto_region 2 with fail
  have hs := HS.out
  clear HS
  have hsz : ((w.alloc (.cells #[.int .i64 0, .int .i64 0, .string ⟨#[]⟩, .slice none 0 0] 25 (0, 0))).alloc (.cells #[.slice p len cap] 59 (0, 0))).heap.size = w.heap.size + 1 + 1 := by simp
  generalize (w.alloc (.cells #[.int .i64 0, .int .i64 0, .string ⟨#[]⟩, .slice none 0 0] 25 (0, 0))).alloc (.cells #[.slice p len cap] 59 (0, 0)) = W at *
  obtain ⟨hst, hab, e1⟩ := hs
  have hty := typ_any 3 (by decide) w.heap.size (w.heap.size + 1) W hst
  have HT := Lib.hid (And.intro hty (And.intro hab (And.intro e1 hsz)))
  clear hty hst hab e1 hsz
  go_wp2_with fail
  refine HT.out.1.mono ?_
  rintro e w3 ⟨⟨kd, nm, lo, hi, pat, a, l, c, rfl, ht⟩, t3, k3⟩
  have hv := val_any 3 w.heap.size (w.heap.size + 1) (W.heap.size ≤ ·) w3 kd nm lo hi pat a l c 0 t3 ht (fun k hk => by have := HT.out.2.2.2; have : W.heap.size ≤ k := hk; omega) (by decide)
  have HV := Lib.hid (And.intro hv (And.intro k3 t3))
  clear hv ht k3 t3
  go_wp2_with fail
  refine HV.out.1.mono ?_
  rintro e w4 ⟨⟨t, k, n, str, q, rfl, hv, hok⟩, t4, k4⟩
  obtain ⟨aq, cq, rfl, -⟩ := hv.slice
  have z3 := HV.out.2.1.size
  have z4 := k4.size
  have hWs := HT.out.2.2.2
  have e4 : w4.heap[w.heap.size]? = some (.cells #[.int .i64 0, .int .i64 0, .string ⟨#[]⟩, .slice none 0 0] 25 (0, 0)) := (k4.block _ (by omega) (by omega)).trans ((HV.out.2.1.block _ (by omega) (by omega)).trans HT.out.2.2.1)
  obtain ⟨⟨a0, a1, a2, a3⟩, a4, a5, a6, a7⟩ := cells4 e4
  have hbel : Below w.heap.size w w4 := HT.out.2.1.trans ((KeepS.below HV.out.2.1 (by omega) (by omega)).trans (KeepS.below k4 (by omega) (by omega)))
  have H4 := Lib.hid (And.intro hv (And.intro hok (And.intro e4 hbel)))
  clear hv hok t4 k4 e4 hbel
  unfold vV
  go_wp2_with fail
  refine bodyPost_ret (results_cell_row rfl _ _ w.heap.size 25 #[.int .i64 k, .int .i64 n, .string str, .slice aq t.fs.length cq] (0, 0) _ rfl (set4 H4.out.2.2.1 _ _ _ _) Try.underlying25 rfl (by kernel_rfl)) rfl ?_
  have hb4 := below4 (n := w.heap.size) w4 (Nat.le_refl _) (.int .i64 k) (.int .i64 n) (.string str) (.slice aq t.fs.length cq)
  have hk4 := keep4 (n := w4.heap.size) (g := w.heap.size) w4 (.int .i64 k) (.int .i64 n) (.string str) (.slice aq t.fs.length cq)
  refine ⟨⟨t, k, n, str, aq, _, cq, rfl, (H4.out.1.keep hk4.size fun j h1 h2 => hk4.block j h2 ?_).imp fun j h1 _ => ?_, H4.out.2.1⟩, H4.out.2.2.2.trans hb4⟩
  · have : w3.heap.size ≤ j := h1
    omega
  · have : w3.heap.size ≤ j := h1
    show w.heap.size ≤ j
    omega

end Go.Proofs.Ytkcpnehhcpmdgaa
