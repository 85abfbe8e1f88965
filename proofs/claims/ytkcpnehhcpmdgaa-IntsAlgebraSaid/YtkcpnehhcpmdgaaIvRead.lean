/- What is read of a row of ranges: Count, At, Place, Has, Same; no condition beyond those that stand there. -/
import Derived.Test.YtkcpnehhcpmdgaaIv
namespace Go.Proofs.Ytkcpnehhcpmdgaa
open Go.RowKit

def cnt : List Rg → Int
  | [] => 0
  | r :: rs => (r.2 - r.1 + 1) + cnt rs
def atF : List Rg → Int → Option Int
  | [], _ => none
  | r :: rs, k => if k < r.2 - r.1 + 1 then some (r.1 + k) else atF rs (k - (r.2 - r.1 + 1))
def atErr (res : Option Int) : Int := if res.isSome then 0 else 4
def placeF : List Rg → Int → Int → Option Int
  | [], _, _ => none
  | r :: rs, n, k => if n < r.1 then none else if n ≤ r.2 then some (k + n - r.1) else placeF rs n (k + (r.2 - r.1 + 1))
theorem cnt_bounds : ∀ (rs : List Rg) (lo hi : Int), Ok rs → Within lo hi rs → lo ≤ hi + 1 → 0 ≤ cnt rs ∧ cnt rs ≤ hi - lo + 1
  | [], lo, hi, _, _, h => by simp only [cnt]; omega
  | r :: rs, lo, hi, h, hw, hl => by
    have hr := (ok_cons r rs).1 h
    have h1 := hw r (List.mem_cons_self ..)
    have h2 : Within (r.2 + 1) hi rs := fun x hx => ⟨by have := hr.2.1 x hx; omega, (hw x (List.mem_cons_of_mem _ hx)).2⟩
    have := cnt_bounds rs (r.2 + 1) hi hr.2.2 h2 (by omega)
    simp only [cnt]; omega
theorem cnt_append (a b : List Rg) : cnt (a ++ b) = cnt a + cnt b := by
  induction a with
  | nil => simp [cnt]
  | cons r a ih => simp only [List.cons_append, cnt, ih]; omega
theorem Small.cnt {rs : List Rg} (h : Small rs) : 0 ≤ cnt rs ∧ cnt rs ≤ 81 := by
  have := cnt_bounds rs (-40) 40 h.1 h.2 (by decide)
  omega
theorem ok_drop {rs : List Rg} (h : Ok rs) (i : Nat) : Ok (rs.drop i) := ⟨fun r hr => h.1 r (List.mem_of_mem_drop hr), List.Pairwise.sublist (List.drop_sublist i rs) h.2⟩
theorem Small.drop {rs : List Rg} (h : Small rs) (i : Nat) : Small (rs.drop i) := ⟨ok_drop h.1 i, fun r hr => h.2 r (List.mem_of_mem_drop hr)⟩
theorem atF_none : ∀ (rs : List Rg) (k : Int), (∀ r ∈ rs, r.1 ≤ r.2) → cnt rs ≤ k → atF rs k = none
  | [], _, _, _ => rfl
  | r :: rs, k, h, hk => by
    have h1 := h r (List.mem_cons_self ..)
    have h2 : 0 ≤ cnt rs := by
      have : ∀ l : List Rg, (∀ r ∈ l, r.1 ≤ r.2) → 0 ≤ cnt l := by
        intro l hl
        induction l with
        | nil => simp [cnt]
        | cons x l ih =>
          have := ih fun y hy => hl y (List.mem_cons_of_mem _ hy)
          have := hl x (List.mem_cons_self ..)
          simp only [cnt]; omega
      exact this rs fun y hy => h y (List.mem_cons_of_mem _ hy)
    simp only [cnt] at hk
    rw [atF, if_neg (by omega)]
    exact atF_none rs _ (fun y hy => h y (List.mem_cons_of_mem _ hy)) (by omega)
theorem atF_some : ∀ (rs : List Rg) (k : Int), 0 ≤ k → k < cnt rs → ∃ n, atF rs k = some n
  | [], k, h0, h => by simp only [cnt] at h; omega
  | r :: rs, k, h0, h => by
    simp only [cnt] at h
    rw [atF]
    by_cases hk : k < r.2 - r.1 + 1
    · rw [if_pos hk]; exact ⟨_, rfl⟩
    · rw [if_neg hk]; exact atF_some rs _ (by omega) (by omega)
theorem at_place : ∀ (rs : List Rg) (k n : Int), Ok rs → 0 ≤ k → atF rs k = some n → Mem n rs ∧ ∀ j, placeF rs n j = some (j + k)
  | [], k, n, _, _, h => by simp [atF] at h
  | r :: rs, k, n, ho, h0, h => by
    have hr := (ok_cons r rs).1 ho
    rw [atF] at h
    by_cases hk : k < r.2 - r.1 + 1
    · rw [if_pos hk] at h
      obtain rfl : r.1 + k = n := by simpa using h
      refine ⟨(mem_cons _ _ _).2 (Or.inl ⟨by omega, by omega⟩), fun j => ?_⟩
      rw [placeF, if_neg (by omega), if_pos (by omega)]
      congr 1; omega
    · rw [if_neg hk] at h
      obtain ⟨h1, h2⟩ := at_place rs _ n hr.2.2 (by omega) h
      have h3 := mem_tail ho h1
      refine ⟨(mem_cons _ _ _).2 (Or.inr h1), fun j => ?_⟩
      rw [placeF, if_neg (by omega), if_neg (by omega), h2]
      congr 1; omega

set_option maxRecDepth 100000 in
set_option maxHeartbeats 4000000 in
theorem both_any (b b' : Nat) (v v' : Value) (rs rs' : List Rg) (hs : Small rs) (hs' : Small rs') (w : World) (h : RowR b w v rs) (h' : RowR b' w v' rs') :
    Calls Try.prog 48 #[v, v'] w fun e w' => e = .returned (.int .i64 0) ∧ Below w.heap.size w w' := by
  obtain ⟨p, c, rfl⟩ := h.slice
  obtain ⟨p', c', rfl⟩ := h'.slice
  have H := Lib.hid (And.intro h h')
  have L := Lib.hid (And.intro hs hs')
  clear h h' hs hs'
  go_enter Try.func48, Try.ntmps48
  go_wp2_with fail
  refine (check_any b _ rs L.out.1 w H.out.1).mono ?_; rintro e w1 ⟨rfl, k1⟩
  have h1 := H.out.2.below k1
  have K1 := Lib.hid (And.intro k1 h1)
  clear k1 h1
  go_wp2_with fail
  refine (check_any b' _ rs' L.out.2 w1 K1.out.2).mono ?_; rintro e w2 ⟨rfl, k2⟩
  go_wp2_with fail
  go_ret
  exact ⟨rfl, K1.out.1.trans (k2.mono K1.out.1.size)⟩
set_option maxRecDepth 100000 in
theorem limited_any (p : Option Addr) (l c : Nat) (hl : l ≤ 500) (w : World) :
    Calls Try.prog 43 #[.slice p l c] w fun e w' => e = .returned (.tuple #[.slice p l c, .int .i64 0]) ∧ w = w' := by
  have t0 : decide ((l : Int) > 500) = false := decide_eq_false (by omega)
  go_enter Try.func43, Try.ntmps43
  go_wp2_with fail
  go_ret2
  exact ⟨rfl, rfl⟩

set_option maxRecDepth 100000 in
set_option maxHeartbeats 4000000 in
theorem count_any (b : Nat) (v : Value) (rs : List Rg) (hs : Small rs) (w : World) (h : RowR b w v rs) :
    Calls Try.prog 21 #[v] w fun e w' => e = .returned (.tuple #[.int .i64 (cnt rs), .int .i64 0]) ∧ Below w.heap.size w w' := by
  obtain ⟨p, c, rfl⟩ := h.slice
  have hl := hs.length
  go_enter Try.func21, Try.ntmps21
  go_wp2_with fail
  refine (check_any b _ rs hs w h).mono ?_; rintro e w1 ⟨rfl, k1⟩
  have h1 := h.below k1
  go_wp2_with fail
  go_loopw [15, 5] (fun iv nv wr => ∃ (i : Nat) (n : Int), i ≤ rs.length ∧ iv = .int .i64 i ∧ nv = .int .i64 n ∧ n + cnt (rs.drop i) = cnt rs ∧ 0 ≤ n ∧ Below w1.heap.size w1 wr) (fun iv _ _ => rs.length - (intOf iv).toNat)
  case atStart => exact ⟨0, 0, by omega, rfl, rfl, by simp, by decide, Below.refl _ _⟩
  case round =>
    obtain ⟨i, n, hi, rfl, rfl, hn, hn0, hb⟩ := hrel
    have wi : IntKind.i64.wrap ((i : Int) + 1) = (i : Int) + 1 := IntWalk.i64_in _ ⟨by omega, by omega⟩
    by_cases hlt : i < rs.length
    · obtain ⟨q, rfl, c0, c1, hq, -, -, hcc⟩ := h1.cells i hlt
      have hg := hs.get i hlt
      rw [← hb.cell (show (⟨q, i * 2, none⟩ : Addr).block < w1.heap.size from hq)] at c0
      rw [← hb.cell (show (⟨q, i * 2 + 1, none⟩ : Addr).block < w1.heap.size from hq)] at c1
      have hni : ((i : Int)).toNat = i := by omega
      have ti : (i : Int) < (rs.length : Int) := by omega
      rw [List.drop_eq_getElem_cons hlt, cnt] at hn
      have hc0 := (hs.drop (i + 1)).cnt
      have hc1 := hs.cnt
      generalize rs[i].1 = x at *
      generalize rs[i].2 = y at *
      obtain ⟨g1, g2, g3⟩ := hg
      have a1 : IntKind.i64.wrap (y - x) = y - x := IntWalk.i64_in _ ⟨by omega, by omega⟩
      have a2 : IntKind.i64.wrap (y - x + 1) = y - x + 1 := IntWalk.i64_in _ ⟨by omega, by omega⟩
      have a3 : IntKind.i64.wrap (n + (y - x + 1)) = n + (y - x + 1) := IntWalk.i64_in _ ⟨by omega, by omega⟩
      have HB := Lib.hid (And.intro hb (show n + (y - x + 1) + cnt (rs.drop (i + 1)) = cnt rs by omega))
      clear hn hc0 hc1 hb
      go_wp2_with fail
      refine ⟨⟨i + 1, _, by omega, by simp, rfl, HB.out.2, by omega, HB.out.1.alloc (by have := HB.out.1.size; omega) _⟩, by simp [intOf]; omega⟩
    · have ti : decide ((i : Int) < (rs.length : Int)) = false := decide_eq_false (by omega)
      have hn' : n = cnt rs := by
        rw [List.drop_eq_nil_of_le (by omega)] at hn
        simpa [cnt] using hn
      clear hn
      go_wp2_with fail
      go_ret2
      exact ⟨by rw [hn']; rfl, k1.trans (hb.mono k1.size)⟩

set_option maxRecDepth 100000 in
set_option maxHeartbeats 4000000 in
theorem at_any (b : Nat) (v : Value) (rs : List Rg) (hs : Small rs) (k : Int) (hk0 : 0 ≤ k) (hk1 : k ≤ 100) (res : Option Int) (hr : atF rs k = res) (w : World) (h : RowR b w v rs) :
    Calls Try.prog 25 #[v, .int .i64 k] w fun e w' => e = .returned (.tuple #[.int .i64 (res.getD 0), .int .i64 (atErr res)]) ∧ Below w.heap.size w w' := by
  obtain ⟨p, c, rfl⟩ := h.slice
  have hl := hs.length
  have HR := Lib.hid hr
  clear hr
  have t0 : decide (k < 0) = false := decide_eq_false (by omega)
  go_enter Try.func25, Try.ntmps25
  go_wp2_with fail
  refine (check_any b _ rs hs w h).mono ?_; rintro e w1 ⟨rfl, k1⟩
  have h1 := h.below k1
  go_wp2_with fail
  go_loopw [19, 1] (fun iv nv wr => ∃ (i : Nat) (n : Int), i ≤ rs.length ∧ iv = .int .i64 i ∧ nv = .int .i64 n ∧ atF (rs.drop i) n = res ∧ 0 ≤ n ∧ n ≤ 100 ∧ Below w1.heap.size w1 wr) (fun iv _ _ => rs.length - (intOf iv).toNat)
  case atStart => exact ⟨0, k, by omega, rfl, rfl, HR.out, hk0, hk1, Below.refl _ _⟩
  case round =>
    obtain ⟨i, n, hi, rfl, rfl, hn, hn0, hn1, hb⟩ := hrel
    have wi : IntKind.i64.wrap ((i : Int) + 1) = (i : Int) + 1 := IntWalk.i64_in _ ⟨by omega, by omega⟩
    by_cases hlt : i < rs.length
    · obtain ⟨q, rfl, c0, c1, hq, -, -, hcc⟩ := h1.cells i hlt
      have hg := hs.get i hlt
      rw [← hb.cell (show (⟨q, i * 2, none⟩ : Addr).block < w1.heap.size from hq)] at c0
      rw [← hb.cell (show (⟨q, i * 2 + 1, none⟩ : Addr).block < w1.heap.size from hq)] at c1
      have hni : ((i : Int)).toNat = i := by omega
      have ti : (i : Int) < (rs.length : Int) := by omega
      rw [List.drop_eq_getElem_cons hlt, atF] at hn
      generalize rs[i].1 = x at *
      generalize rs[i].2 = y at *
      obtain ⟨g1, g2, g3⟩ := hg
      have a1 : IntKind.i64.wrap (y - x) = y - x := IntWalk.i64_in _ ⟨by omega, by omega⟩
      have a2 : IntKind.i64.wrap (y - x + 1) = y - x + 1 := IntWalk.i64_in _ ⟨by omega, by omega⟩
      have a3 : IntKind.i64.wrap (n - (y - x + 1)) = n - (y - x + 1) := IntWalk.i64_in _ ⟨by omega, by omega⟩
      have a4 : IntKind.i64.wrap (x + n) = x + n := IntWalk.i64_in _ ⟨by omega, by omega⟩
      have HB := Lib.hid (And.intro hb hn)
      clear hn hb
      by_cases ht : n < y - x + 1
      · have t1 : decide (n < y - x + 1) = true := decide_eq_true ht
        go_wp2_with fail
        go_ret2
        have hn := HB.out.2
        rw [if_pos (by omega)] at hn
        exact ⟨by rw [← hn]; rfl, k1.trans ((HB.out.1.alloc (by have := HB.out.1.size; omega) _).mono k1.size)⟩
      · have t1 : decide (n < y - x + 1) = false := decide_eq_false ht
        go_wp2_with fail
        have hn := HB.out.2
        rw [if_neg (by omega)] at hn
        refine ⟨⟨i + 1, _, by omega, by simp, rfl, hn, by omega, by omega, HB.out.1.alloc (by have := HB.out.1.size; omega) _⟩, by simp [intOf]; omega⟩
    · have ti : decide ((i : Int) < (rs.length : Int)) = false := decide_eq_false (by omega)
      have hn' : res = none := by
        rw [List.drop_eq_nil_of_le (by omega)] at hn
        exact hn.symm
      clear hn
      go_wp2_with fail
      go_ret2
      exact ⟨by rw [hn']; rfl, k1.trans (hb.mono k1.size)⟩

set_option maxRecDepth 100000 in
set_option maxHeartbeats 4000000 in
theorem place_any (b : Nat) (v : Value) (rs : List Rg) (hs : Small rs) (n : Int) (hn0 : -40 ≤ n) (hn1 : n ≤ 40) (res : Option Int) (hr : placeF rs n 0 = res) (w : World) (h : RowR b w v rs) :
    Calls Try.prog 26 #[v, .int .i64 n] w fun e w' => e = .returned (.tuple #[.int .i64 (res.getD 0), .int .i64 (atErr res)]) ∧ Below w.heap.size w w' := by
  obtain ⟨p, c, rfl⟩ := h.slice
  have hl := hs.length
  have HR := Lib.hid hr
  clear hr
  go_enter Try.func26, Try.ntmps26
  go_wp2_with fail
  refine (check_any b _ rs hs w h).mono ?_; rintro e w1 ⟨rfl, k1⟩
  have h1 := h.below k1
  go_wp2_with fail
  go_loopw [17, 7] (fun iv kv wr => ∃ (i : Nat) (k : Int), i ≤ rs.length ∧ iv = .int .i64 i ∧ kv = .int .i64 k ∧ placeF (rs.drop i) n k = res ∧ k + cnt (rs.drop i) = cnt rs ∧ 0 ≤ k ∧ Below w1.heap.size w1 wr) (fun iv _ _ => rs.length - (intOf iv).toNat)
  case atStart => exact ⟨0, 0, by omega, rfl, rfl, HR.out, by simp, by omega, Below.refl _ _⟩
  case round =>
    obtain ⟨i, k, hi, rfl, rfl, hn, hc, hk0, hb⟩ := hrel
    have wi : IntKind.i64.wrap ((i : Int) + 1) = (i : Int) + 1 := IntWalk.i64_in _ ⟨by omega, by omega⟩
    by_cases hlt : i < rs.length
    · obtain ⟨q, rfl, c0, c1, hq, -, -, hcc⟩ := h1.cells i hlt
      have hg := hs.get i hlt
      rw [← hb.cell (show (⟨q, i * 2, none⟩ : Addr).block < w1.heap.size from hq)] at c0
      rw [← hb.cell (show (⟨q, i * 2 + 1, none⟩ : Addr).block < w1.heap.size from hq)] at c1
      have hni : ((i : Int)).toNat = i := by omega
      have ti : (i : Int) < (rs.length : Int) := by omega
      rw [List.drop_eq_getElem_cons hlt, placeF] at hn
      rw [List.drop_eq_getElem_cons hlt, cnt] at hc
      have hc0 := (hs.drop (i + 1)).cnt
      have hc1 := hs.cnt
      generalize rs[i].1 = x at *
      generalize rs[i].2 = y at *
      obtain ⟨g1, g2, g3⟩ := hg
      have a1 : IntKind.i64.wrap (y - x) = y - x := IntWalk.i64_in _ ⟨by omega, by omega⟩
      have a2 : IntKind.i64.wrap (y - x + 1) = y - x + 1 := IntWalk.i64_in _ ⟨by omega, by omega⟩
      have a3 : IntKind.i64.wrap (k + (y - x + 1)) = k + (y - x + 1) := IntWalk.i64_in _ ⟨by omega, by omega⟩
      have a4 : IntKind.i64.wrap (k + n) = k + n := IntWalk.i64_in _ ⟨by omega, by omega⟩
      have a5 : IntKind.i64.wrap (k + n - x) = k + n - x := IntWalk.i64_in _ ⟨by omega, by omega⟩
      have HB := Lib.hid (And.intro hb (And.intro hn (show k + (y - x + 1) + cnt (rs.drop (i + 1)) = cnt rs by omega)))
      clear hn hb hc hc0 hc1
      by_cases ht : n < x
      · have t1 : decide (n < x) = true := decide_eq_true ht
        go_wp2_with fail
        go_ret2
        have hn := HB.out.2.1
        rw [if_pos (by omega)] at hn
        exact ⟨by rw [← hn]; rfl, k1.trans ((HB.out.1.alloc (by have := HB.out.1.size; omega) _).mono k1.size)⟩
      · have t1 : decide (n < x) = false := decide_eq_false ht
        by_cases hu : n ≤ y
        · have t2 : decide (n ≤ y) = true := decide_eq_true hu
          go_wp2_with fail
          go_ret2
          have hn := HB.out.2.1
          rw [if_neg (by omega), if_pos (by omega)] at hn
          exact ⟨by rw [← hn]; rfl, k1.trans ((HB.out.1.alloc (by have := HB.out.1.size; omega) _).mono k1.size)⟩
        · have t2 : decide (n ≤ y) = false := decide_eq_false hu
          go_wp2_with fail
          have hn := HB.out.2.1
          rw [if_neg (by omega), if_neg (by omega)] at hn
          refine ⟨⟨i + 1, _, by omega, by simp, rfl, hn, HB.out.2.2, by omega, HB.out.1.alloc (by have := HB.out.1.size; omega) _⟩, by simp [intOf]; omega⟩
    · have ti : decide ((i : Int) < (rs.length : Int)) = false := decide_eq_false (by omega)
      have hn' : res = none := by
        rw [List.drop_eq_nil_of_le (by omega)] at hn
        exact hn.symm
      clear hn
      go_wp2_with fail
      go_ret2
      exact ⟨by rw [hn']; rfl, k1.trans (hb.mono k1.size)⟩

end Go.Proofs.Ytkcpnehhcpmdgaa
