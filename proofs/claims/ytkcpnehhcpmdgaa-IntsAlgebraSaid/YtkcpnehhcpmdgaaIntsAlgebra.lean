/- clapkeep1.IntsAlgebra answers true. -/
import Derived.Test.YtkcpnehhcpmdgaaIvSet
import Derived.Test.YtkcpnehhcpmdgaaIvCom
import Derived.Test.YtkcpnehhcpmdgaaIvUnion
import Derived.Test.YtkcpnehhcpmdgaaIvCount
namespace Go.Proofs.Ytkcpnehhcpmdgaa
open Go.RowKit

/-- What the law says of four sets made of two. -/
structure Four (a b u c d k : List Rg) : Prop where
  sa : Small a
  sb : Small b
  su : Small u
  sc : Small c
  sd : Small d
  hu : ∀ n, hasF u n = (hasF a n || hasF b n)
  hc : ∀ n, hasF c n = (hasF a n && hasF b n)
  hd : ∀ n, hasF d n = (hasF a n && !(hasF b n))
  back : k = a
  sum : cnt u + cnt c = cnt a + cnt b
theorem four {a b u k : List Rg} (ha : Small a) (hb : Small b) (hu : Small u) (mu : ∀ n, Mem n u ↔ Mem n a ∨ Mem n b) (hk : Small k) (mk : ∀ n, Mem n k ↔ Mem n (comF a b) ∨ Mem n (minF a b)) : Four a b u (comF a b) (minF a b) k := by
  have mc := (com_law _ a b (Nat.le_refl _) ha.1 hb.1).2
  have md := (min_law b hb.1 a ha.1).2
  have h1 : ∀ n, hasF u n = (hasF a n || hasF b n) := fun n => has_eq (by rw [Bool.or_eq_true, hasF_iff, hasF_iff]; exact mu n)
  have h2 : ∀ n, hasF (comF a b) n = (hasF a n && hasF b n) := fun n => has_eq (by rw [Bool.and_eq_true, hasF_iff, hasF_iff]; exact mc n)
  have h3 : ∀ n, hasF (minF a b) n = (hasF a n && !(hasF b n)) := fun n => has_eq (by
    rw [Bool.and_eq_true, hasF_iff, md n, Bool.not_eq_true', ← Bool.not_eq_true, hasF_iff])
  refine ⟨ha, hb, hu, small_com ha hb, small_min ha hb, h1, h2, h3, ok_unique _ _ hk.1 ha.1 fun n => ?_, cnt_both ha hb hu (small_com ha hb) h1 h2⟩
  rw [mk n, mc n, md n]
  constructor
  · rintro (h | h)
    · exact h.1
    · exact h.1
  · intro h
    by_cases hb' : Mem n b
    · exact Or.inl ⟨h, hb'⟩
    · exact Or.inr ⟨h, hb'⟩
/-- The rows of the sets, in a world. -/
structure Rows6 (B : Nat) (w : World) (va vb vu vc vd vk : Value) (a b u c d k : List Rg) : Prop where
  a : RowR B w va a
  b : RowR B w vb b
  u : RowR B w vu u
  c : RowR B w vc c
  d : RowR B w vd d
  k : RowR B w vk k
theorem Rows6.below {B : Nat} {w w' : World} {va vb vu vc vd vk : Value} {a b u c d k : List Rg} (h : Rows6 B w va vb vu vc vd vk a b u c d k) (hb : Below w.heap.size w w') : Rows6 B w' va vb vu vc vd vk a b u c d k :=
  ⟨h.a.below hb, h.b.below hb, h.u.below hb, h.c.below hb, h.d.below hb, h.k.below hb⟩

theorem isRow_below {kd : IntKind} {w w' : World} {a : Option Addr} {len cap : Nat} {zs : List Int} (h : IsRow kd w a len cap zs) (hb : Below w.heap.size w w') : IsRow kd w' a len cap zs := by
  rcases h with h | ⟨x, h1, h2, h3, h4, h5, h6⟩
  · exact Or.inl h
  · exact Or.inr ⟨x, h1, h2, h3, h4, fun i hi => by rw [hb.cell (World.block_lt_of_cell? w _ (h5 i hi))]; exact h5 i hi, h6⟩
theorem zeros8 (i : Nat) (h : i < 8) : (#[Value.int .i64 0, .int .i64 0, .int .i64 0, .int .i64 0, .int .i64 0, .int .i64 0, .int .i64 0, .int .i64 0] : Array Value)[i]? = some (.int .i64 0) := by
  match i, h with
  | 0, _ => rfl
  | 1, _ => rfl
  | 2, _ => rfl
  | 3, _ => rfl
  | 4, _ => rfl
  | 5, _ => rfl
  | 6, _ => rfl
  | 7, _ => rfl

set_option maxRecDepth 100000 in
set_option maxHeartbeats 8000000 in
theorem intsAlgebra_walk (p : Option Addr) (len cap : Nat) (xs : List Int) (p' : Option Addr) (len' cap' : Nat) (xs' : List Int) (n0 : Int) (w : World) (h : IsRow .i64 w p len cap xs) (h' : IsRow .i64 w p' len' cap' xs') :
    Calls Try.prog 7 #[.slice p len cap, .slice p' len' cap', .int .i64 n0] w fun e w' => e = .returned (.bool true) ∧ Below w.heap.size w w' := by
  go_enter Try.func7, Try.ntmps7
  go_wp2_with fail
  refine (set_any p len cap xs w h).mono ?_; rintro e w1 ⟨q1, c1, a, rfl, ra, k1, ha⟩
  obtain ⟨n1, hn1⟩ : ∃ n, n = a.length := ⟨_, rfl⟩
  have z1 := k1.size
  have h2 : IsRow .i64 w1 p' len' cap' xs' := isRow_below h' k1
  rw [← hn1] at ra ⊢
  have K1 := Lib.hid (And.intro ra (And.intro k1 (And.intro ha h2)))
  clear h h' ra k1 ha h2 hn1
  go_wp2_with fail
  refine (set_any p' len' cap' xs' w1 K1.out.2.2.2).mono ?_; rintro e w2 ⟨q2, c2, b, rfl, rb, k2, hb⟩
  obtain ⟨n2, hn2⟩ : ∃ n, n = b.length := ⟨_, rfl⟩
  have z2 := k2.size
  rw [← hn2] at rb ⊢
  have K2 := Lib.hid (And.intro (K1.out.1.below k2) (And.intro (rb.mono z1) (And.intro (K1.out.2.1.trans (k2.mono z1)) (And.intro K1.out.2.2.1 hb))))
  clear rb k2 hb hn2
  go_wp2_with fail
  refine (union_any _ _ _ _ a b K2.out.2.2.2.1 K2.out.2.2.2.2 w2 K2.out.1 K2.out.2.1).mono ?_; rintro e w3 ⟨q3, c3, u, rfl, ru, k3, hu, mu⟩
  obtain ⟨n3, hn3⟩ : ∃ n, n = u.length := ⟨_, rfl⟩
  have z3 := k3.size
  rw [← hn3] at ru ⊢
  have K3 := Lib.hid (And.intro (K2.out.1.below k3) (And.intro (K2.out.2.1.below k3) (And.intro (ru.mono (show w.heap.size ≤ _ by omega)) (And.intro (K2.out.2.2.1.trans (k3.mono (by omega))) (And.intro hu mu)))))
  clear ru k3 hu mu hn3
  go_wp2_with fail
  refine (common_any _ _ _ _ a b K2.out.2.2.2.1 K2.out.2.2.2.2 w3 K3.out.1 K3.out.2.1).mono ?_; rintro e w4 ⟨q4, c4, rfl, rc, k4⟩
  obtain ⟨n4, hn4⟩ : ∃ n, n = (comF a b).length := ⟨_, rfl⟩
  have z4 := k4.size
  rw [← hn4] at rc ⊢
  have K4 := Lib.hid (And.intro (K3.out.1.below k4) (And.intro (K3.out.2.1.below k4) (And.intro (K3.out.2.2.1.below k4) (And.intro (rc.mono (show w.heap.size ≤ _ by omega)) (K3.out.2.2.2.1.trans (k4.mono (by omega)))))))
  clear rc k4 hn4
  go_wp2_with fail
  refine (minus_any _ _ _ _ a b K2.out.2.2.2.1 K2.out.2.2.2.2 w4 K4.out.1 K4.out.2.1).mono ?_; rintro e w5 ⟨q5, c5, rfl, rd, k5⟩
  obtain ⟨n5, hn5⟩ : ∃ n, n = (minF a b).length := ⟨_, rfl⟩
  have z5 := k5.size
  rw [← hn5] at rd ⊢
  have K5 := Lib.hid (And.intro (K4.out.1.below k5) (And.intro (K4.out.2.1.below k5) (And.intro (K4.out.2.2.1.below k5) (And.intro (K4.out.2.2.2.1.below k5) (And.intro (rd.mono (show w.heap.size ≤ _ by omega)) (K4.out.2.2.2.2.trans (k5.mono (by omega))))))))
  clear rd k5 hn5
  go_wp2_with fail
  refine (union_any _ _ _ _ (comF a b) (minF a b) (small_com K2.out.2.2.2.1 K2.out.2.2.2.2) (small_min K2.out.2.2.2.1 K2.out.2.2.2.2) w5 K5.out.2.2.2.1 K5.out.2.2.2.2.1).mono ?_; rintro e w6 ⟨q6, c6, k, rfl, rk, k6, hk, mk⟩
  obtain ⟨n6, hn6⟩ : ∃ n, n = k.length := ⟨_, rfl⟩
  have z6 := k6.size
  rw [← hn6] at rk ⊢
  have F := Lib.hid (four K2.out.2.2.2.1 K2.out.2.2.2.2 K3.out.2.2.2.2.1 K3.out.2.2.2.2.2 hk mk)
  have R6 := Lib.hid (Rows6.mk (K5.out.1.below k6) (K5.out.2.1.below k6) (K5.out.2.2.1.below k6) (K5.out.2.2.2.1.below k6) (K5.out.2.2.2.2.1.below k6) (rk.mono (show w.heap.size ≤ _ by omega)))
  have B6 := Lib.hid (K5.out.2.2.2.2.2.trans (k6.mono (show w.heap.size ≤ _ by omega)))
  clear rk k6 hk mk hn6 K1 K2 K3 K4 K5
  generalize comF a b = c at *
  generalize minF a b = d at *
  obtain ⟨x, hx⟩ : ∃ x, x = cnt u := ⟨_, rfl⟩
  obtain ⟨y, hy⟩ : ∃ x, x = cnt c := ⟨_, rfl⟩
  obtain ⟨pp, hpp⟩ : ∃ x, x = cnt a := ⟨_, rfl⟩
  obtain ⟨qq, hqq⟩ : ∃ x, x = cnt b := ⟨_, rfl⟩
  have bx := F.out.su.cnt
  have bY := F.out.sc.cnt
  have bp := F.out.sa.cnt
  have bq := F.out.sb.cnt
  have hsum := F.out.sum
  rw [← hx, ← hy, ← hpp, ← hqq] at hsum
  rw [← hx] at bx
  rw [← hy] at bY
  rw [← hpp] at bp
  rw [← hqq] at bq
  have s1 : IntKind.i64.wrap (x + y) = x + y := IntWalk.i64_in _ ⟨by omega, by omega⟩
  have s2 : IntKind.i64.wrap (pp + qq) = pp + qq := IntWalk.i64_in _ ⟨by omega, by omega⟩
  have s3 : (x + y == pp + qq) = true := by rw [hsum]; exact beq_self_eq_true _
  have s4 : decide (x + y = pp + qq) = true := decide_eq_true hsum
  have HX := Lib.hid (And.intro hx (And.intro hy (And.intro hpp hqq)))
  clear hsum bx bY bp bq hx hy hpp hqq
  go_wp2_with fail
  have hc7 := count_any _ _ u F.out.su w6 R6.out.u
  rw [← HX.out.1] at hc7
  refine hc7.mono ?_; rintro e w7 ⟨rfl, k7⟩
  have z7 := k7.size
  have R7 := Lib.hid (R6.out.below k7)
  have B7 := Lib.hid (B6.out.trans (k7.mono (by omega)))
  clear k7 R6 B6 hc7
  go_wp2_with fail
  have hc8 := count_any _ _ c F.out.sc w7 R7.out.c
  rw [← HX.out.2.1] at hc8
  refine hc8.mono ?_; rintro e w8 ⟨rfl, k8⟩
  have z8 := k8.size
  have R8 := Lib.hid (R7.out.below k8)
  have B8 := Lib.hid (B7.out.trans (k8.mono (by omega)))
  clear k8 R7 B7 hc8
  go_wp2_with fail
  have hc9 := count_any _ _ a F.out.sa w8 R8.out.a
  rw [← HX.out.2.2.1] at hc9
  refine hc9.mono ?_; rintro e w9 ⟨rfl, k9⟩
  have z9 := k9.size
  have R9 := Lib.hid (R8.out.below k9)
  have B9 := Lib.hid (B8.out.trans (k9.mono (by omega)))
  clear k9 R8 B8 hc9
  go_wp2_with fail
  have hc10 := count_any _ _ b F.out.sb w9 R9.out.b
  rw [← HX.out.2.2.2] at hc10
  refine hc10.mono ?_; rintro e w10 ⟨rfl, k10⟩
  have z10 := k10.size
  have R10 := Lib.hid (R9.out.below k10)
  have B10 := Lib.hid (B9.out.trans (k10.mono (by omega)))
  clear k10 R9 B9 hc10
  go_wp2_with fail
  refine (below_any n0 70 (by decide) (by decide) _).mono ?_; rintro e w10' ⟨rfl, rfl⟩
  have y0 : 0 ≤ n0 % 70 := by omega
  have y1 : n0 % 70 < 70 := by omega
  generalize n0 % 70 = z at *
  obtain ⟨n, hn⟩ : ∃ n, n = z - 35 := ⟨_, rfl⟩
  have wz : IntKind.i64.wrap (z - 35) = n := by rw [hn]; exact IntWalk.i64_in _ ⟨by omega, by omega⟩
  clear hn
  go_wp2_with fail
  go_loopw [90] (fun iv wr => ∃ i : Nat, i ≤ 8 ∧ iv = .int .i64 i ∧ wr.heap[w10.heap.size]? = some (.cells #[.int .i64 0, .int .i64 0, .int .i64 0, .int .i64 0, .int .i64 0, .int .i64 0, .int .i64 0, .int .i64 0] 39 (0, 0)) ∧ Below w10.heap.size w10 wr) (fun iv _ => 8 - (intOf iv).toNat)
  case atStart => exact ⟨0, by omega, rfl, heap_alloc_new _ _, (Below.refl _ _).alloc (Nat.le_refl _) _⟩
  case round =>
    obtain ⟨i, hi, rfl, hz, hb⟩ := hrel
    have wi : IntKind.i64.wrap ((i : Int) + 1) = (i : Int) + 1 := IntWalk.i64_in _ ⟨by omega, by omega⟩
    by_cases hlt : i < 8
    · have c0 : wr.cell? ⟨w10.heap.size, i, none⟩ = some (.int .i64 0) := by rw [Lib.cell_of_heap hz]; exact zeros8 i hlt
      have hni : ((i : Int)).toNat = i := by omega
      have ti : (i : Int) < 8 := by omega
      have HZ := Lib.hid (And.intro hz hb)
      clear hz hb
      go_wp2_with fail
      refine ⟨⟨i + 1, by omega, by simp, HZ.out.1, HZ.out.2⟩, by simp [intOf]; omega⟩
    · have ti : decide (i < 8) = false := decide_eq_false hlt
      have zr := hb.size
      have R11 := Lib.hid (R10.out.below hb)
      have B11 := Lib.hid (B10.out.trans (hb.mono (by omega)))
      obtain ⟨ba, hba⟩ : ∃ x, x = hasF a n := ⟨_, rfl⟩
      obtain ⟨bb, hbb⟩ : ∃ x, x = hasF b n := ⟨_, rfl⟩
      have fu := F.out.hu n
      have fc := F.out.hc n
      have fd := F.out.hd n
      rw [← hba, ← hbb] at fu fc fd
      have HF := Lib.hid (And.intro hba (And.intro hbb (And.intro fu (And.intro fc fd))))
      clear hba hbb fu fc fd hz hb R10 B10
      cases ba <;> cases bb
      all_goals
        go_wp2_with fail
        have hk12 := has_any w.heap.size (.slice q1 n1 c1) a F.out.sa n wr R11.out.a
        rw [← HF.out.1] at hk12
        refine hk12.mono ?_; rintro e v12 ⟨rfl, j12⟩
        have y12z := j12.size
        have R12 := Lib.hid (R11.out.below j12)
        have B12 := Lib.hid (B11.out.trans (j12.mono (by omega)))
        clear j12 R11 B11 hk12
        go_wp2_with fail
        have hk13 := has_any w.heap.size (.slice q2 n2 c2) b F.out.sb n v12 R12.out.b
        rw [← HF.out.2.1] at hk13
        refine hk13.mono ?_; rintro e v13 ⟨rfl, j13⟩
        have y13z := j13.size
        have R13 := Lib.hid (R12.out.below j13)
        have B13 := Lib.hid (B12.out.trans (j13.mono (by omega)))
        clear j13 R12 B12 hk13
        go_wp2_with fail
        have hk14 := ranged_any v13
        refine hk14.mono ?_; rintro e v14 ⟨rfl, j14⟩
        have y14z := j14.size
        have R14 := Lib.hid (R13.out.below j14)
        have B14 := Lib.hid (B13.out.trans (j14.mono (by omega)))
        clear j14 R13 B13 hk14
        go_wp2_with fail
        have hk15 := same_any w.heap.size w.heap.size (.slice q6 n6 c6) (.slice q1 n1 c1) a (by have := F.out.sa.length; omega) v14 (by have := R14.out.k; rw [F.out.back] at this; exact this) R14.out.a
        refine hk15.mono ?_; rintro e v15 ⟨rfl, j15⟩
        have y15z := j15.size
        have R15 := Lib.hid (R14.out.below j15)
        have B15 := Lib.hid (B14.out.trans (j15.mono (by omega)))
        clear j15 R14 B14 hk15
        go_wp2_with fail
        have hk16 := has_any w.heap.size (.slice q3 n3 c3) u F.out.su n v15 R15.out.u
        rw [HF.out.2.2.1] at hk16
        refine hk16.mono ?_; rintro e v16 ⟨rfl, j16⟩
        have y16z := j16.size
        have R16 := Lib.hid (R15.out.below j16)
        have B16 := Lib.hid (B15.out.trans (j16.mono (by omega)))
        clear j16 R15 B15 hk16
        go_wp2_with fail
        have hk17 := has_any w.heap.size (.slice q4 n4 c4) c F.out.sc n v16 R16.out.c
        rw [HF.out.2.2.2.1] at hk17
        refine hk17.mono ?_; rintro e v17 ⟨rfl, j17⟩
        have y17z := j17.size
        have R17 := Lib.hid (R16.out.below j17)
        have B17 := Lib.hid (B16.out.trans (j17.mono (by omega)))
        clear j17 R16 B16 hk17
        go_wp2_with fail
        have hk18 := has_any w.heap.size (.slice q5 n5 c5) d F.out.sd n v17 R17.out.d
        rw [HF.out.2.2.2.2] at hk18
        refine hk18.mono ?_; rintro e v18 ⟨rfl, j18⟩
        have y18z := j18.size
        have R18 := Lib.hid (R17.out.below j18)
        have B18 := Lib.hid (B17.out.trans (j18.mono (by omega)))
        clear j18 R17 B17 hk18
        go_wp2_with fail
        go_ret
        exact ⟨rfl, B18.out⟩

end Go.Proofs.Ytkcpnehhcpmdgaa
