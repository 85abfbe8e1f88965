/- spoil: the fields of a value, and those within them, are changed; what lies outside their blocks is not. No condition beyond those that stand there. -/
import Derived.Deep.Cut
import Derived.Test.YtkcpnehhcpmdgaaCopyW
namespace Go.Proofs.Ytkcpnehhcpmdgaa
open Go.RowKit

/-- v' is of v's kind; a text has at most c letters more. -/
def Like (c : Nat) (v v' : Value) : Prop := v' = v ∨ (∃ s s', v = .string s ∧ v' = .string s' ∧ s'.size ≤ s.size + c) ∨ ∃ n n', v = .int .i64 n ∧ v' = .int .i64 n'
theorem Like.trans {x y : Nat} {a b c : Value} (h : Like x a b) (k : Like y b c) : Like (x + y) a c := by
  rcases h with rfl | ⟨s, s', rfl, rfl, h⟩ | ⟨s, s', rfl, rfl⟩
  · rcases k with rfl | ⟨t, t', rfl, rfl, h1⟩ | ⟨t, t', rfl, rfl⟩
    · exact Or.inl rfl
    · exact Or.inr (Or.inl ⟨t, t', rfl, rfl, by omega⟩)
    · exact Or.inr (Or.inr ⟨t, t', rfl, rfl⟩)
  · rcases k with rfl | ⟨t, t', h1, rfl, h2⟩ | ⟨t, t', h1, rfl⟩
    · exact Or.inr (Or.inl ⟨s, s', rfl, rfl, by omega⟩)
    · injection h1 with h1
      subst h1
      exact Or.inr (Or.inl ⟨s, t', rfl, rfl, by omega⟩)
    · cases h1
  · rcases k with rfl | ⟨t, t', h1, rfl, h2⟩ | ⟨t, t', h1, rfl⟩
    · exact Or.inr (Or.inr ⟨s, s', rfl, rfl⟩)
    · cases h1
    · exact Or.inr (Or.inr ⟨s, t', rfl, rfl⟩)
theorem Like.mono {x y : Nat} {a b : Value} (h : Like x a b) (hxy : x ≤ y) : Like y a b := by
  rcases h with rfl | ⟨s, s', rfl, rfl, h⟩ | ⟨s, s', rfl, rfl⟩
  · exact Or.inl rfl
  · exact Or.inr (Or.inl ⟨s, s', rfl, rfl, by omega⟩)
  · exact Or.inr (Or.inr ⟨s, s', rfl, rfl⟩)
/-- Only cells of blocks of S are changed, and each is of the kind that it was. -/
structure Spoil (S : Nat → Prop) (c : Nat) (w w' : World) : Prop where
  os : w'.os = w.os
  tape : w'.tape = w.tape
  output : w'.output = w.output
  size : w'.heap.size = w.heap.size
  block : ∀ k, ¬ S k → w'.heap[k]? = w.heap[k]?
  like : ∀ a v, w.cell? a = some v → ∃ v', w'.cell? a = some v' ∧ Like c v v'
  frozen : ∀ a, w'.frozen? a = w.frozen? a
section
variable {S : Nat → Prop} {x y : Nat} {w w' w2 : World}
theorem Spoil.refl (S : Nat → Prop) (w : World) : Spoil S 0 w w := ⟨rfl, rfl, rfl, rfl, fun _ _ => rfl, fun _ v h => ⟨v, h, Or.inl rfl⟩, fun _ => rfl⟩
theorem Spoil.trans (h : Spoil S x w w') (k : Spoil S y w' w2) : Spoil S (x + y) w w2 :=
  ⟨k.os.trans h.os, k.tape.trans h.tape, k.output.trans h.output, k.size.trans h.size, fun b hb => (k.block b hb).trans (h.block b hb), fun a v hv => by
    obtain ⟨v1, h1, l1⟩ := h.like a v hv
    obtain ⟨v2, h2, l2⟩ := k.like a v1 h1
    exact ⟨v2, h2, l1.trans l2⟩, fun a => (k.frozen a).trans (h.frozen a)⟩
theorem Spoil.mono (h : Spoil S x w w') (hxy : x ≤ y) : Spoil S y w w' :=
  ⟨h.os, h.tape, h.output, h.size, h.block, fun a v hv => by
    obtain ⟨v1, h1, l1⟩ := h.like a v hv
    exact ⟨v1, h1, l1.mono hxy⟩, h.frozen⟩
theorem Spoil.set {b j : Nat} {u v : Value} (hS : S b) (hu : w.cell? ⟨b, j, none⟩ = some u) (hl : Like x u v) : Spoil S x w (w.setCell ⟨b, j, none⟩ v) :=
  ⟨rfl, rfl, rfl, by simp, fun k hk => Below.heap_setCell _ _ _ _ (fun e => hk (e ▸ hS)), fun a x hx => by
    by_cases he : (⟨b, j, none⟩ : Addr) = a
    · subst he
      rw [hu] at hx
      injection hx with hx
      subst hx
      exact ⟨v, World.cell?_setCell_same _ _ _ hu, hl⟩
    · exact ⟨x, (World.cell?_setCell_other _ _ _ _ he).trans hx, Or.inl rfl⟩, fun a => by simp⟩
end
/-- A slice of fields, at any depth, whose cells may be written; names have at most M letters. -/
def Sh : (d : Nat) → (M : Nat) → (Nat → Prop) → World → Value → Prop
  | 0, _, _, _, _ => False
  | d + 1, M, S, w, p => ∃ (a : Option Addr) (len cap : Nat), p = .slice a len cap ∧ (len ≤ 4 ∧ len ≤ cap ∧ cap ≤ 9223372036854775807) ∧ ∀ i, i < len → ∃ b nm kk nn ss pp,
      a = some ⟨b, 0, none⟩ ∧ (S b ∧ ∀ j, w.frozen? ⟨b, j, none⟩ = false) ∧ nm.size ≤ M ∧ w.cell? ⟨b, i * 5, none⟩ = some (.string nm) ∧ w.cell? ⟨b, i * 5 + 1, none⟩ = some (.int .i64 kk) ∧ w.cell? ⟨b, i * 5 + 2, none⟩ = some (.int .i64 nn) ∧
      w.cell? ⟨b, i * 5 + 3, none⟩ = some (.string ss) ∧ w.cell? ⟨b, i * 5 + 4, none⟩ = some pp ∧ Sh d M S w pp
theorem names_size {k : Int} {ns : List ByteArray} (h : NamesOk k ns) : ∀ x ∈ ns, x.size ≤ 4 := by
  intro x hx
  rcases h with ⟨_, _, h⟩ | ⟨_, hl, h⟩ | ⟨_, y, h, h2⟩ | ⟨_, _, h⟩ | ⟨_, _, at_, _, h⟩
  · rw [h] at hx; cases hx
  · obtain ⟨i, hi⟩ := List.getElem?_of_mem hx
    have hil := (List.getElem?_eq_some_iff.1 hi).1
    rw [h i hil] at hi
    have : ∀ y ∈ letters, y.size ≤ 4 := by decide
    exact this x (List.mem_of_getElem? hi)
  · rw [h] at hx
    obtain rfl : x = y := by simpa using hx
    have : ∀ y ∈ [sNone, sSome, ⟨#[97]⟩, ⟨#[98]⟩, ⟨#[99]⟩], y.size ≤ 4 := by decide
    exact this x h2
  · rw [h x hx]; decide
  · obtain ⟨i, hi⟩ := List.getElem?_of_mem hx
    have hil := (List.getElem?_eq_some_iff.1 hi).1
    rw [h i hil] at hi
    injection hi with hi
    rw [← hi]
    exact (by decide : (1 : Nat) ≤ 4)
theorem IsV.sh : ∀ {d : Nat} {S : Nat → Prop} {w : World} {k n : Int} {s : ByteArray} {p : Value} {t : TVal d}, IsV d S w k n s p t → OkT d t → Sh d 4 S w p
  | 0, _, _, _, _, _, _, _, h, _ => h
  | d + 1, _, _, _, _, _, _, t, h, hok => by
    have hlen := okT_len hok
    obtain ⟨-, -, -, cap, a, h4, h5, h6⟩ := h
    refine ⟨a, _, cap, h4, ⟨hlen, h5⟩, fun i hi => ?_⟩
    obtain ⟨b, kk, nn, ss, pp, e1, e2, e3, e4, e5, e6, e7, e8, e9⟩ := h6 i _ (List.getElem?_eq_getElem hi)
    have hm := List.getElem_mem hi
    exact ⟨b, _, kk, nn, ss, pp, e1, e2, names_size hok.2.2.2.1 _ (List.mem_map_of_mem (f := Prod.fst) hm), e4, e5, e6, e7, e8, e9.sh (hok.2.2.2.2 _ hm)⟩
theorem Sh.slice : ∀ {d M : Nat} {S : Nat → Prop} {w : World} {p : Value}, Sh d M S w p → ∃ a l c, p = .slice a l c
  | 0, _, _, _, _, h => h.elim
  | _ + 1, _, _, _, _, h => by
    obtain ⟨a, l, c, h, -⟩ := h
    exact ⟨a, l, c, h⟩
theorem Sh.keep : ∀ {d M c : Nat} {S : Nat → Prop} {w w' : World} {p : Value}, Sh d M S w p → Spoil S c w w' → Sh d (M + c) S w' p
  | 0, _, _, _, _, _, _, h, _ => h
  | d + 1, M, c, S, w, w', p, h, hs => by
    obtain ⟨a, len, cap, h4, h5, h6⟩ := h
    refine ⟨a, len, cap, h4, h5, fun i hi => ?_⟩
    obtain ⟨b, nm, kk, nn, ss, pp, e1, e2, e3, e4, e5, e6, e7, e8, e9⟩ := h6 i hi
    have str : ∀ {x : Addr} {s : ByteArray}, w.cell? x = some (.string s) → ∃ s', w'.cell? x = some (.string s') ∧ s'.size ≤ s.size + c := fun hx => by
      obtain ⟨v', h1, h2⟩ := hs.like _ _ hx
      rcases h2 with rfl | ⟨s, s', h, rfl, hl⟩ | ⟨s, s', h, _⟩
      · exact ⟨_, h1, Nat.le_add_right _ _⟩
      · injection h with h
        subst h
        exact ⟨_, h1, hl⟩
      · cases h
    have num : ∀ {x : Addr} {s : Int}, w.cell? x = some (.int .i64 s) → ∃ s', w'.cell? x = some (.int .i64 s') := fun hx => by
      obtain ⟨v', h1, h2⟩ := hs.like _ _ hx
      rcases h2 with rfl | ⟨s, s', h, _⟩ | ⟨s, s', _, rfl⟩
      · exact ⟨_, h1⟩
      · cases h
      · exact ⟨_, h1⟩
    obtain ⟨nm', f4, g4⟩ := str e4
    obtain ⟨kk', f5⟩ := num e5
    obtain ⟨nn', f6⟩ := num e6
    obtain ⟨ss', f7, -⟩ := str e7
    refine ⟨b, nm', kk', nn', ss', pp, e1, ⟨e2.1, fun j => (hs.frozen _).trans (e2.2 j)⟩, by omega, f4, f5, f6, f7, ?_, e9.keep hs⟩
    obtain ⟨v', h1, h2⟩ := hs.like _ _ e8
    obtain ⟨pa, pl, pc, rfl⟩ := e9.slice
    rcases h2 with rfl | ⟨s, s', h, _⟩ | ⟨s, s', h, _⟩
    · exact h1
    · cases h
    · cases h

def SpoilSaid (d : Nat) : Prop := ∀ (M : Nat) (S : Nat → Prop) (w : World) (p : Value), Sh d M S w p → M + 10 ^ d ≤ 1000000 → Calls Try.prog 18 #[p] w fun e w' => e = .returned (.tuple #[]) ∧ Spoil S (10 ^ d) w w'
set_option maxRecDepth 100000 in
set_option maxHeartbeats 4000000 in
theorem spoil_succ (d : Nat) (ih : SpoilSaid d) : SpoilSaid (d + 1) := by
  intro M S w p h hM
  have hsh := Lib.hid h
  have hK : 10 ^ (d + 1) = 10 * 10 ^ d := by rw [Nat.pow_succ, Nat.mul_comm]
  have hD : 0 < 10 ^ d := Nat.pow_pos (by decide)
  have IH := Lib.hid (fun M S w p h1 h2 => ih M S w p h1 h2)
  clear ih
  obtain ⟨K, hKd⟩ : ∃ K, K = 10 ^ d := ⟨_, rfl⟩
  rw [hK] at hM ⊢
  rw [← hKd] at hM hD IH ⊢
  clear hK hKd
  obtain ⟨a, len, cap, rfl, ⟨hl4, hc⟩, -⟩ := h
  go_enter Try.func18, Try.ntmps18
  go_wp2_with fail
  go_loopw [5] (fun iv wr => ∃ (i : Nat), iv = .int .i64 i ∧ i ≤ len ∧ Spoil S (i * (1 + K)) w wr) (fun iv _ => len - (intOf iv).toNat)
  case atStart => exact ⟨0, rfl, Nat.zero_le _, (Spoil.refl S w).mono (Nat.zero_le _)⟩
  case round =>
    obtain ⟨i, rfl, hi, hsp⟩ := hrel
    have hx : (i + 1) * (1 + K) = i * (1 + K) + (1 + K) := Nat.succ_mul _ _
    by_cases hlt : i < len
    · have ti : (i : Int) < (len : Int) := by omega
      have wi : IntKind.i64.wrap ((i : Int) + 1) = (i : Int) + 1 := IntWalk.i64_in _ ⟨by omega, by omega⟩
      have hni : ((i : Int)).toNat = i := by omega
      have hx4 : (i + 1) * (1 + K) ≤ 4 * (1 + K) := Nat.mul_le_mul_right _ (by omega)
      obtain ⟨_, _, _, e, -, hf⟩ := hsh.out.keep hsp
      cases e
      obtain ⟨b, nm, kk, nn, ss, pp, rfl, ⟨hSb, hfr⟩, hnm, y0, y1, y2, y3, y4, -⟩ := hf i hlt
      have fr0 := hfr (i * 5)
      have hns : ¬ (9223372036854775807 < nm.size + 1) := by omega
      have s1 := Lib.hid (hsp.trans (Spoil.set (x := 1) (v := .string (nm ++ ⟨#[120]⟩)) hSb y0 (Or.inr (Or.inl ⟨_, _, rfl, rfl, by simp; decide⟩))))
      clear hf hsp
      go_upto_region 4 with fail
      generalize wr.setCell ⟨b, i * 5, none⟩ (.string (nm ++ ⟨#[120]⟩)) = W1 at *
      clear hfr fr0 hns hnm y0 y1 y2 y3 y4
      obtain ⟨_, _, _, e, -, hf⟩ := hsh.out.keep s1.out
      cases e
      obtain ⟨_, nm, kk, nn, ss, pp, e, ⟨_, hfr⟩, hnm, y0, y1, y2, y3, y4, -⟩ := hf i hlt
      cases e
      have fr2 := hfr (i * 5 + 2)
      have s2 : Hid (Spoil S (i * (1 + K) + 1 + 0) w (W1.setCell ⟨b, i * 5 + 1 + 1, none⟩ (.int .i64 (wrap64 (nn + 1))))) := Lib.hid (s1.out.trans (Spoil.set (x := 0) (j := i * 5 + 1 + 1) (v := .int .i64 (wrap64 (nn + 1))) hSb y2 (Or.inr (Or.inr ⟨_, _, rfl, rfl⟩))))
      clear hf s1
      go_upto_region 5 with fail
      generalize W1.setCell ⟨b, i * 5 + 1 + 1, none⟩ (.int .i64 (wrap64 (nn + 1))) = W2 at *
      clear hfr fr2 hnm y0 y1 y2 y3 y4
      obtain ⟨_, _, _, e, -, hf⟩ := hsh.out.keep s2.out
      cases e
      obtain ⟨_, nm, kk, nn, ss, pp, e, ⟨_, hfr⟩, hnm, y0, y1, y2, y3, y4, hpp⟩ := hf i hlt
      cases e
      obtain ⟨pa, pl, pc, rfl⟩ := hpp.slice
      have y4' : W2.cell? ⟨b, i * 5 + 1 + 3, none⟩ = some (.slice pa pl pc) := y4
      have hca := Lib.hid (IH.out (M + (i * (1 + K) + 1 + 0)) S W2 _ hpp (by omega))
      clear hpp hf hfr
      go_wp2_with fail
      refine hca.out.mono ?_
      rintro e w3 ⟨rfl, s3⟩
      have s4 := Lib.hid ((s2.out.trans s3).mono (y := (i + 1) * (1 + K)) (by omega))
      clear s3
      go_wp2_with fail
      exact ⟨⟨i + 1, by simp, by omega, s4.out⟩, by simp [intOf]; omega⟩
    · have ti : decide ((i : Int) < (len : Int)) = false := decide_eq_false (by omega)
      have hx4 : i * (1 + K) ≤ 4 * (1 + K) := Nat.mul_le_mul_right _ (by omega)
      go_wp2_with fail
      go_returns
      exact ⟨rfl, hsp.mono (by omega)⟩
theorem spoil_any : ∀ d, SpoilSaid d
  | 0 => fun _ _ _ _ h => h.elim
  | d + 1 => spoil_succ d (spoil_any d)

end Go.Proofs.Ytkcpnehhcpmdgaa
