/- What utf.next answers, as a plain function on lists of bytes; it is the inverse of the bytes of code points. -/
import Derived.Test.YtpoolbachhelgaaPUtfMendedx2
import Derived.Test.YtpoolbachhelgaaUtfT
namespace Go.Proofs.Ytpoolbachhelgaa
open Go.RowKit Go.Proofs.Ytpoolbachhelgaa.PUtfMended Go.Proofs.YtpoolbachhelgaaW.PrintWords Go.Proofs.YtpoolbachhelgaaW.PrintLast Go.Proofs.YtpoolbachhelgaaW.PrintMore

def sL (l : List UInt8) : ByteArray := ⟨l.toArray⟩
theorem sL_size (l : List UInt8) : (sL l).size = l.length := by simp [sL, ByteArray.size]
theorem sL_data (s : ByteArray) : sL s.data.toList = s := by simp [sL]
theorem bt_sL (l : List UInt8) (n : Nat) : bt (sL l) (n : Int) = ((l.getD n 0).toNat : Int) := by
  unfold bt
  split
  · rename_i h
    have h' : n < l.length := by simpa [sL_size] using h
    simp only [Int.toNat_natCast]
    congr 2
    show (sL l).data[n] = _
    simp [sL, List.getD, h']
  · rename_i h
    have h' : l.length ≤ n := by simpa [sL_size] using h
    simp [List.getD, List.getElem?_eq_none h']
theorem sL_drop (l : List UInt8) (n : Nat) : (sL l).extract n (sL l).size = sL (l.drop n) := by
  apply ByteArray.ext
  apply Array.ext'
  rw [ByteArray.data_extract, Array.toList_extract]
  simp only [sL, ByteArray.size, List.extract, List.size_toArray]
  rw [List.take_of_length_le (by rw [List.length_drop]; omega)]
theorem sL_take (l : List UInt8) (n : Nat) : (sL l).extract 0 n = sL (l.take n) := by
  apply ByteArray.ext
  apply Array.ext'
  rw [ByteArray.data_extract, Array.toList_extract]
  simp [sL, List.extract]

/-- The bytes that go on. -/
def tl : Nat → List UInt8 → Nat → Option Nat
  | 0, _, r => some r
  | _ + 1, [], _ => none
  | k + 1, d :: t, r => if 128 ≤ d.toNat ∧ d.toNat < 192 then tl k t (r * 64 + d.toNat % 64) else none
/-- How many bytes, the highest bits, the least. -/
def sz (c : Nat) : Nat × Nat × Nat :=
  if c < 128 then (1, c, 0) else if 192 ≤ c ∧ c < 224 then (2, c % 32, 128) else if 224 ≤ c ∧ c < 240 then (3, c % 16, 2048) else if 240 ≤ c ∧ c < 248 then (4, c % 8, 65536) else (0, 0, 0)
def nxR (n least : Nat) : Option Nat → Nat × Nat
  | none => (0, 0)
  | some r => if r < least ∨ okR r = false then (0, 0) else (r, n)
/-- The code point at the head and its bytes; 0: there is none. -/
def nx : List UInt8 → Nat × Nat
  | [] => (0, 0)
  | c :: t => if (sz c.toNat).1 = 0 then (0, 0) else nxR (sz c.toNat).1 (sz c.toNat).2.2 (tl ((sz c.toNat).1 - 1) t (sz c.toNat).2.1)

theorem and192 (x : Int) (h0 : 0 ≤ x) (h1 : x ≤ 255) : (Go.bits .and .u8 x 192 = 128) ↔ (128 ≤ x ∧ x < 192) := by
  obtain ⟨n, rfl⟩ := Int.eq_ofNat_of_zero_le h0
  have h : ∀ n : Fin 256, (Go.bits .and .u8 (n.1 : Int) 192 = 128) ↔ (128 ≤ (n.1 : Int) ∧ (n.1 : Int) < 192) := by decide +kernel
  exact h ⟨n, by omega⟩
theorem valid_f (r : Nat) : utf_Valid.f (r : Int) = some (okR r) := by
  unfold utf_Valid.f okR
  rw [if_pos (by omega)]
  by_cases h1 : r ≤ 1114111
  · rw [if_pos (by omega)]
    by_cases h2 : r < 55296
    · rw [if_pos (by omega)]; simp [h1, h2]
    · rw [if_neg (by omega)]
      have e : decide ((r : Int) > 57343) = decide (57343 < r) := by rw [decide_eq_decide]; omega
      rw [e]; simp [h1, h2]
  · rw [if_neg (by omega)]; simp [h1]

theorem next_step (r c : Nat) (hr : (r + 1) * 64 ≤ 16777216) (hc : c < 256) (i : Nat) (hi : i < 140737488355328) :
    wrap64 ((r : Int) * 64) = ((r * 64 : Nat) : Int) ∧ wrap64 (Go.bits .and .u8 (c : Int) 63) = ((c % 64 : Nat) : Int) ∧ Go.bits .or .i64 ((r * 64 : Nat) : Int) ((c % 64 : Nat) : Int) = ((r * 64 + c % 64 : Nat) : Int) ∧ wrap64 ((i : Int) + 1) = ((i + 1 : Nat) : Int) := by
  refine ⟨by unfold wrap64; omega, by rw [u8_and63 _ (by omega) (by omega)]; unfold wrap64; omega, ?_, by unfold wrap64; omega⟩
  have h := i64_join ((r * 64 : Nat) : Int) ((c % 64 : Nat) : Int) 6 (by omega) (by omega) (by omega) (by rw [show (2 : Int) ^ 6 = 64 from by decide]; omega) (by omega) (by rw [show (2 : Int) ^ 6 = 64 from by decide]; omega)
  rw [h]; omega

def Bnd (r d : Nat) : Prop := (r + 1) * 64 ^ d ≤ 16777216
theorem Bnd.step {r d c : Nat} (h : Bnd r (d + 1)) (hc : c < 64) : (r + 1) * 64 ≤ 16777216 ∧ Bnd (r * 64 + c) d := by
  unfold Bnd at h ⊢
  have hp : 1 ≤ 64 ^ d := Nat.one_le_pow _ _ (by decide)
  rw [Nat.pow_succ', ← Nat.mul_assoc] at h
  exact ⟨Nat.le_trans (Nat.le_mul_of_pos_right _ hp) h, Nat.le_trans (Nat.mul_le_mul_right _ (by omega)) h⟩

theorem next_l0 (l : List UInt8) (n least : Nat) (hn : n ≤ l.length) (hl : l.length < 140737488355328) (d : Nat) : ∀ (i r : Nat), i + d = n → Bnd r d → ∀ k, d < k →
    utf_next.l0 k (sL l) (n : Int) (r : Int) (least : Int) (i : Int) = some (((nxR n least (tl d (l.drop i) r)).1 : Int), ((nxR n least (tl d (l.drop i) r)).2 : Int)) := by
  induction d with
  | zero =>
    intro i r hi hr k hk
    obtain ⟨k, rfl⟩ : ∃ m, k = m + 1 := ⟨k - 1, by omega⟩
    simp only [utf_next.l0, tl, nxR]
    rw [if_neg (by omega)]
    by_cases h1 : r < least
    · rw [if_pos (by omega), if_pos (Or.inl h1)]; rfl
    · rw [if_neg (by omega), valid_f]
      simp only [Option.bind_some]
      cases hv : okR r with
      | true => rw [if_pos rfl, if_neg (by simp [h1])]
      | false => rw [if_neg (by simp), if_pos (Or.inr rfl)]; rfl
  | succ d ih =>
    intro i r hi hr k hk
    obtain ⟨k, rfl⟩ : ∃ m, k = m + 1 := ⟨k - 1, by omega⟩
    have hil : i < l.length := by omega
    have hd : l.drop i = l[i] :: l.drop (i + 1) := List.drop_eq_getElem_cons hil
    have hg : l.getD i 0 = l[i] := by simp [List.getD, hil]
    generalize l[i] = c at hd hg
    simp only [utf_next.l0]
    rw [if_pos (by omega), if_pos (by omega), if_pos (by rw [sL_size]; omega), bt_sL, hg, hd]
    have hb : c.toNat < 256 := c.toNat_lt
    have hs := and192 (c.toNat : Int) (by omega) (by omega)
    simp only [tl]
    obtain ⟨hr1, hr2⟩ := hr.step (Nat.mod_lt c.toNat (show 0 < 64 by decide))
    by_cases h1 : 128 ≤ c.toNat ∧ c.toNat < 192
    · rw [if_pos (hs.mpr (by omega)), if_pos h1]
      obtain ⟨e1, e2, e3, e4⟩ := next_step r c.toNat hr1 hb i (by omega)
      rw [e1, e2, e3, e4]
      exact ih (i + 1) _ (by omega) hr2 k (by omega)
    · rw [if_neg (by rw [hs]; omega), if_neg h1]
      rfl

theorem size_f3 : ∀ c : Fin 256, utf_size.f 3 (c.1 : Int) = some (((sz c.1).1 : Int), ((sz c.1).2.1 : Int), ((sz c.1).2.2 : Int)) := by decide +kernel
theorem size_f (c : Nat) (hc : c < 256) (k : Nat) (hk : 3 ≤ k) : utf_size.f k (c : Int) = some (((sz c).1 : Int), ((sz c).2.1 : Int), ((sz c).2.2 : Int)) :=
  at_rounds (fun k => utf_size.mono (c : Int) k) hk (size_f3 ⟨c, hc⟩)

theorem sz_bnd (c : Nat) (hc : c < 256) : (sz c).1 ≤ 4 ∧ ((sz c).1 ≠ 0 → Bnd (sz c).2.1 ((sz c).1 - 1)) := by
  unfold sz Bnd
  split
  · exact ⟨by omega, fun _ => by show (c + 1) * 64 ^ 0 ≤ _; omega⟩
  · split
    · exact ⟨by omega, fun _ => by show (c % 32 + 1) * 64 ^ 1 ≤ _; omega⟩
    · split
      · exact ⟨by omega, fun _ => by show (c % 16 + 1) * 64 ^ 2 ≤ _; omega⟩
      · split
        · exact ⟨by omega, fun _ => by show (c % 8 + 1) * 64 ^ 3 ≤ _; omega⟩
        · exact ⟨by omega, fun h => absurd rfl h⟩

theorem tl_short (d : Nat) : ∀ (l : List UInt8) (r : Nat), l.length < d → tl d l r = none := by
  induction d with
  | zero => intro l r h; omega
  | succ d ih =>
    intro l r h
    cases l with
    | nil => rfl
    | cons c t =>
      simp only [tl]
      split
      · exact ih t _ (by simpa using h)
      · rfl

theorem next_f (l : List UInt8) (h0 : l ≠ []) (hl : l.length < 140737488355328) (k : Nat) (hk : 9 ≤ k) : utf_next.f k (sL l) = some (((nx l).1 : Int), ((nx l).2 : Int)) := by
  cases l with
  | nil => exact absurd rfl h0
  | cons c t =>
    have hb : c.toNat < 256 := c.toNat_lt
    unfold utf_next.f
    rw [if_pos (by rw [sL_size]; simp), show bt (sL (c :: t)) 0 = (c.toNat : Int) from bt_sL (c :: t) 0, size_f c.toNat hb k (by omega)]
    simp only [Option.bind_some]
    obtain ⟨g1, g2⟩ := sz_bnd c.toNat hb
    simp only [nx]
    generalize hn : (sz c.toNat).1 = n at *
    generalize (sz c.toNat).2.1 = r at *
    generalize (sz c.toNat).2.2 = least at *
    obtain ⟨k, rfl⟩ : ∃ m, k = m + 1 := ⟨k - 1, by omega⟩
    by_cases hz : n = 0
    · rw [if_pos (by omega), if_pos hz]
      simp only [utf_next.j0]
      rfl
    · rw [if_neg (by omega), if_neg hz]
      simp only [utf_next.j0]
      have hd := g2 hz
      by_cases hlen : n > (c :: t).length
      · have e : decide ((n : Int) > ((sL (c :: t)).size : Int)) = true := decide_eq_true (by rw [sL_size]; omega)
        rw [e, if_pos rfl, tl_short (n - 1) t r (by simp at hlen; omega)]
        rfl
      · have e : decide ((n : Int) > ((sL (c :: t)).size : Int)) = false := decide_eq_false (by rw [sL_size]; omega)
        rw [e, if_neg (by simp)]
        have := next_l0 (c :: t) n least (by omega) hl (n - 1) 1 r (by omega) hd k (by omega)
        rw [show (c :: t).drop 1 = t from rfl] at this
        exact this

theorem next_any (l : List UInt8) (h0 : l ≠ []) (hl : l.length < 140737488355328) (w : World) :
    Calls Try.prog 47 #[.string (sL l)] w fun e w' => e = .returned (.tuple #[.int .i64 ((nx l).1 : Nat), .int .i64 ((nx l).2 : Nat)]) ∧ ∃ d, w' = w.drewN d := by
  refine (utf_next.calls 9 (sL l) _ _ w (next_f l h0 hl 9 (by omega))).mono ?_
  rintro e w' ⟨rfl, h⟩
  exact ⟨rfl, h.out⟩

/-! the bytes of code points are read back, and what is read has these bytes -/
theorem u8_toNat (n : Nat) (h : n < 256) : (u8 n).toNat = n := by
  unfold u8
  exact UInt8.toNat_ofNat_of_lt' (show n < UInt8.size from h)
theorem u8_of (c : UInt8) (n : Nat) (h : n = c.toNat) : u8 n = c := by
  subst h
  exact UInt8.ofNat_toNat

theorem nx_of (c : UInt8) (t : List UInt8) (n r least : Nat) (h : sz c.toNat = (n + 1, r, least)) : nx (c :: t) = nxR (n + 1) least (tl n t r) := by
  simp only [nx, h]
  rw [if_neg (by omega)]
  rfl
theorem nx_not (c : UInt8) (t : List UInt8) (h : (sz c.toNat).1 = 0) : nx (c :: t) = (0, 0) := by
  simp only [nx]
  rw [if_pos h]
theorem sz1 (c : Nat) (h : c < 128) : sz c = (0 + 1, c, 0) := by unfold sz; rw [if_pos h]
theorem sz2 (c : Nat) (h : 192 ≤ c ∧ c < 224) : sz c = (1 + 1, c % 32, 128) := by unfold sz; rw [if_neg (by omega), if_pos h]
theorem sz3 (c : Nat) (h : 224 ≤ c ∧ c < 240) : sz c = (2 + 1, c % 16, 2048) := by unfold sz; rw [if_neg (by omega), if_neg (by omega), if_pos h]
theorem sz4 (c : Nat) (h : 240 ≤ c ∧ c < 248) : sz c = (3 + 1, c % 8, 65536) := by unfold sz; rw [if_neg (by omega), if_neg (by omega), if_neg (by omega), if_pos h]
theorem sz0 (c : Nat) (h : (128 ≤ c ∧ c < 192) ∨ 248 ≤ c) : sz c = (0, 0, 0) := by unfold sz; rw [if_neg (by omega), if_neg (by omega), if_neg (by omega), if_neg (by omega)]
theorem nxR_ok (n least r : Nat) (h : okR r = true) (hl : least ≤ r) : nxR n least (some r) = (r, n) := by
  simp only [nxR]
  rw [if_neg (by rw [h]; simp; omega)]
theorem tl_go (k : Nat) (d : UInt8) (t : List UInt8) (r : Nat) (h : 128 ≤ d.toNat ∧ d.toNat < 192) : tl (k + 1) (d :: t) r = tl k t (r * 64 + d.toNat % 64) := by
  simp only [tl]
  rw [if_pos h]

theorem nx_enc (r : Nat) (hr : okR r = true) (t : List UInt8) : nx (enc r ++ t) = (r, (enc r).length) := by
  have hr' : r ≤ 1114111 := by unfold okR at hr; simp at hr; exact hr.1
  by_cases h1 : r < 128
  · have e : enc r = [u8 r] := by unfold enc; rw [if_pos h1]
    have e0 := u8_toNat r (by omega)
    rw [e, List.cons_append, nx_of _ _ 0 r 0 (by rw [e0]; exact sz1 r h1)]
    exact nxR_ok _ _ _ hr (by omega)
  · by_cases h2 : r < 2048
    · have e : enc r = [u8 (192 + r / 64), u8 (128 + r % 64)] := by unfold enc; rw [if_neg h1, if_pos h2]
      have e0 := u8_toNat (192 + r / 64) (by omega)
      have e1 := u8_toNat (128 + r % 64) (by omega)
      rw [e, List.cons_append, nx_of _ _ 1 _ 128 (by rw [e0]; exact sz2 _ (by omega)), List.cons_append, tl_go _ _ _ _ (by rw [e1]; omega), e1]
      simp only [tl]
      rw [show (192 + r / 64) % 32 * 64 + (128 + r % 64) % 64 = r from by omega]
      exact nxR_ok _ _ _ hr (by omega)
    · by_cases h3 : r < 65536
      · have e : enc r = [u8 (224 + r / 4096), u8 (128 + r / 64 % 64), u8 (128 + r % 64)] := by unfold enc; rw [if_neg h1, if_neg h2, if_pos h3]
        have e0 := u8_toNat (224 + r / 4096) (by omega)
        have e1 := u8_toNat (128 + r / 64 % 64) (by omega)
        have e2 := u8_toNat (128 + r % 64) (by omega)
        rw [e, List.cons_append, nx_of _ _ 2 _ 2048 (by rw [e0]; exact sz3 _ (by omega)), List.cons_append, tl_go _ _ _ _ (by rw [e1]; omega), e1, List.cons_append, tl_go _ _ _ _ (by rw [e2]; omega), e2]
        simp only [tl]
        rw [show ((224 + r / 4096) % 16 * 64 + (128 + r / 64 % 64) % 64) * 64 + (128 + r % 64) % 64 = r from by omega]
        exact nxR_ok _ _ _ hr (by omega)
      · have e : enc r = [u8 (240 + r / 262144), u8 (128 + r / 4096 % 64), u8 (128 + r / 64 % 64), u8 (128 + r % 64)] := by unfold enc; rw [if_neg h1, if_neg h2, if_neg h3]
        have e0 := u8_toNat (240 + r / 262144) (by omega)
        have e1 := u8_toNat (128 + r / 4096 % 64) (by omega)
        have e2 := u8_toNat (128 + r / 64 % 64) (by omega)
        have e3 := u8_toNat (128 + r % 64) (by omega)
        rw [e, List.cons_append, nx_of _ _ 3 _ 65536 (by rw [e0]; exact sz4 _ (by omega)), List.cons_append, tl_go _ _ _ _ (by rw [e1]; omega), e1, List.cons_append, tl_go _ _ _ _ (by rw [e2]; omega), e2, List.cons_append, tl_go _ _ _ _ (by rw [e3]; omega), e3]
        simp only [tl]
        rw [show (((240 + r / 262144) % 8 * 64 + (128 + r / 4096 % 64) % 64) * 64 + (128 + r / 64 % 64) % 64) * 64 + (128 + r % 64) % 64 = r from by omega]
        exact nxR_ok _ _ _ hr (by omega)

/-- A byte that goes on. -/
theorem tl_some (k : Nat) (l : List UInt8) (r x : Nat) (h : tl (k + 1) l r = some x) : ∃ d t, l = d :: t ∧ 128 ≤ d.toNat ∧ d.toNat < 192 ∧ tl k t (r * 64 + d.toNat % 64) = some x := by
  cases l with
  | nil => cases h
  | cons d t =>
    simp only [tl] at h
    split at h
    · rename_i hd
      exact ⟨d, t, rfl, hd.1, hd.2, h⟩
    · cases h
theorem nxR_some (n least : Nat) (o : Option Nat) (h : (nxR n least o).2 ≠ 0) : ∃ r, o = some r ∧ least ≤ r ∧ okR r = true ∧ nxR n least o = (r, n) := by
  cases o with
  | none => exact absurd rfl h
  | some r =>
    simp only [nxR] at h ⊢
    split at h
    · exact absurd rfl h
    · rename_i hc
      have hc' : ¬ r < least ∧ ¬ okR r = false := not_or.mp hc
      refine ⟨r, rfl, by omega, by simpa using hc'.2, ?_⟩
      rw [if_neg hc]

theorem nx_spec (l : List UInt8) (h : (nx l).2 ≠ 0) : okR (nx l).1 = true ∧ ∃ t, l = enc (nx l).1 ++ t ∧ (nx l).2 = (enc (nx l).1).length := by
  cases l with
  | nil => exact absurd rfl h
  | cons c t =>
    have hb : c.toNat < 256 := c.toNat_lt
    by_cases h0 : (128 ≤ c.toNat ∧ c.toNat < 192) ∨ 248 ≤ c.toNat
    · rw [nx_not c t (by rw [sz0 _ h0])] at h
      exact absurd rfl h
    · by_cases h1 : c.toNat < 128
      · have e := nx_of c t 0 _ _ (sz1 _ h1)
        rw [e] at h ⊢
        obtain ⟨r, hr, hl, hv, hx⟩ := nxR_some _ _ _ h
        simp only [tl, Option.some.injEq] at hr
        subst hr
        rw [hx]
        refine ⟨hv, t, ?_, ?_⟩ <;> simp only [enc, if_pos h1]
        · rw [u8_of c _ rfl]; rfl
        · rfl
      · by_cases h2 : c.toNat < 224
        · have e := nx_of c t 1 _ _ (sz2 _ (by omega))
          rw [e] at h ⊢
          obtain ⟨r, hr, hl, hv, hx⟩ := nxR_some _ _ _ h
          rw [hx]
          obtain ⟨d1, t1, rfl, a1, b1, hr⟩ := tl_some _ _ _ _ hr
          simp only [tl, Option.some.injEq] at hr
          have ee : enc r = [c, d1] := by
            unfold enc
            rw [if_neg (by omega), if_pos (by omega), u8_of c _ (by omega), u8_of d1 _ (by omega)]
          refine ⟨hv, t1, ?_, ?_⟩ <;> simp only [ee]
          · rfl
          · rfl
        · by_cases h3 : c.toNat < 240
          · have e := nx_of c t 2 _ _ (sz3 _ (by omega))
            rw [e] at h ⊢
            obtain ⟨r, hr, hl, hv, hx⟩ := nxR_some _ _ _ h
            rw [hx]
            obtain ⟨d1, t1, rfl, a1, b1, hr⟩ := tl_some _ _ _ _ hr
            obtain ⟨d2, t2, rfl, a2, b2, hr⟩ := tl_some _ _ _ _ hr
            simp only [tl, Option.some.injEq] at hr
            have ee : enc r = [c, d1, d2] := by
              unfold enc
              rw [if_neg (by omega), if_neg (by omega), if_pos (by omega), u8_of c _ (by omega), u8_of d1 _ (by omega), u8_of d2 _ (by omega)]
            refine ⟨hv, t2, ?_, ?_⟩ <;> simp only [ee]
            · rfl
            · rfl
          · have e := nx_of c t 3 _ _ (sz4 _ (by omega))
            rw [e] at h ⊢
            obtain ⟨r, hr, hl, hv, hx⟩ := nxR_some _ _ _ h
            rw [hx]
            obtain ⟨d1, t1, rfl, a1, b1, hr⟩ := tl_some _ _ _ _ hr
            obtain ⟨d2, t2, rfl, a2, b2, hr⟩ := tl_some _ _ _ _ hr
            obtain ⟨d3, t3, rfl, a3, b3, hr⟩ := tl_some _ _ _ _ hr
            simp only [tl, Option.some.injEq] at hr
            have ee : enc r = [c, d1, d2, d3] := by
              unfold enc
              rw [if_neg (by omega), if_neg (by omega), if_neg (by omega), u8_of c _ (by omega), u8_of d1 _ (by omega), u8_of d2 _ (by omega), u8_of d3 _ (by omega)]
            refine ⟨hv, t3, ?_, ?_⟩ <;> simp only [ee]
            · rfl
            · rfl

end Go.Proofs.Ytpoolbachhelgaa
