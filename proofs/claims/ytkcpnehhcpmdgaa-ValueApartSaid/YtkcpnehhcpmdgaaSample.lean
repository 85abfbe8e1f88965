/- clapmake.Sample at the patterns of which clapmake makes types; no condition beyond those that stand there. -/
import Derived.Test.YtkcpnehhcpmdgaaAlt
namespace Go.Proofs.Ytkcpnehhcpmdgaa
open Go.RowKit

set_option maxRecDepth 100000 in
set_option maxHeartbeats 4000000 in
theorem sample_of (P : ByteArray) (k m : Nat) (ha : SmOk 69 P 0 k m) (B s : Nat) (w : World) (h : StAt B s w) :
    Calls Try.prog 54 #[.string P, .pointer (some ⟨s, 0, none⟩)] w fun e w' => (∃ b : ByteArray, b.size ≤ m ∧ e = .returned (.string b)) ∧ StAt B s w' ∧ KeepS w.heap.size s w w' := by
  have hsl := h.lt
  have hal := (Below.refl w.heap.size w).alloc (Nat.le_refl _) (.cells #[.string P, .int .i64 0, .pointer (some ⟨s, 0, none⟩)] 106 (0, 0))
  have h1 : SmAt B s w.heap.size P 0 (w.alloc (.cells #[.string P, .int .i64 0, .pointer (some ⟨s, 0, none⟩)] 106 (0, 0))) := ⟨by have := h.1; omega, by omega, heap_alloc_new w _⟩
  have HS := Lib.hid (And.intro h1 (h.below hal hsl))
  have HA := Lib.hid ha
  clear h h1 ha
  go_enter Try.func54, Try.ntmps54
  go_wp2_with fail
  refine (HA.out B s w.heap.size _ HS.out.1 HS.out.2).mono ?_
  rintro e w2 ⟨⟨b, hb, rfl⟩, s2, t2, k2⟩
  have H2 := Lib.hid (And.intro t2 k2)
  clear s2 t2 k2
  go_wp2_with fail
  go_ret
  exact ⟨⟨_, hb, rfl⟩, H2.out.1, (KeepS.of_below hal).trans ((H2.out.2.mono (by simp)).keepS (Nat.le_refl _) (Nat.le_refl _))⟩

def pDot : ByteArray := ⟨#[46, 42]⟩
def pAbc : ByteArray := ⟨#[91, 97, 45, 99, 93, 42]⟩
def pTwo : ByteArray := ⟨#[40, 91, 97, 45, 99, 93, 42, 41, 45, 40, 91, 48, 45, 57, 93, 42, 41]⟩
def pDig : ByteArray := ⟨#[91, 48, 45, 57, 93]⟩
def pBar : ByteArray := ⟨#[97, 124, 98, 124, 99]⟩
theorem rest_end (P : ByteArray) (m : Nat) : Rest P m P.size P.size 0 := .stop _ _ rfl (Nat.le_refl _) (fun h => absurd h (Nat.lt_irrefl _))
theorem ok_dot : SmOk 69 pDot 0 2 5 :=
  alt_any pDot 0 2 2 5 2 0 (by decide) (by decide) (by decide) (by decide)
    (.star 0 1 2 1 0 (by decide) (by decide) (by decide) (item_dot pDot 0 (by decide) (by decide) (by decide)) (by decide) (by decide) (by decide) (.stop 2 2 rfl (by decide) (fun h => absurd h (by decide))))
    (rest_end pDot 5)
theorem ok_abc : SmOk 69 pAbc 0 6 5 :=
  alt_any pAbc 0 6 6 5 2 0 (by decide) (by decide) (by decide) (by decide)
    (.star 0 5 6 1 0 (by decide) (by decide) (by decide) (item_class pAbc 0 (by decide) (by decide) (by decide) 97 99 (by decide) (by decide) (by decide) (by decide) (by decide) (by decide) (by decide)) (by decide) (by decide) (by decide) (.stop 6 6 rfl (by decide) (fun h => absurd h (by decide))))
    (rest_end pAbc 5)
theorem ok_dig : SmOk 69 pDig 0 5 5 :=
  alt_any pDig 0 5 5 5 1 0 (by decide) (by decide) (by decide) (by decide)
    (.one 0 5 5 1 0 (by decide) (by decide) (by decide) (item_class pDig 0 (by decide) (by decide) (by decide) 48 57 (by decide) (by decide) (by decide) (by decide) (by decide) (by decide) (by decide)) (by decide) (by decide) (fun h => absurd h (by decide)) (.stop 5 5 rfl (by decide) (fun h => absurd h (by decide))))
    (rest_end pDig 5)
theorem bar_item (i : Nat) (hi : i < 5) (h : i % 2 = 0) : SmOk 90 pBar i (i + 1) 1 := by
  rcases (show i = 0 ∨ i = 2 ∨ i = 4 by omega) with rfl | rfl | rfl <;> exact item_plain pBar _ (by decide) (by decide) (by decide) (by decide) (by decide) (by decide)
theorem ok_bar : SmOk 69 pBar 0 5 5 :=
  alt_any pBar 0 1 5 5 1 2 (by decide) (by decide) (by decide) (by decide)
    (.one 0 1 1 1 0 (by decide) (by decide) (by decide) (bar_item 0 (by decide) (by decide)) (by decide) (by decide) (fun h => by revert h; decide) (.stop 1 1 rfl (by decide) (fun h => by revert h; decide)))
    (.more 1 3 5 1 1 (by decide) (by decide) (.one 2 3 3 1 0 (by decide) (by decide) (by decide) (bar_item 2 (by decide) (by decide)) (by decide) (by decide) (fun h => by revert h; decide) (.stop 3 3 rfl (by decide) (fun h => by revert h; decide))) (by decide) (by decide) (by decide)
      (.more 3 5 5 1 0 (by decide) (by decide) (.one 4 5 5 1 0 (by decide) (by decide) (by decide) (bar_item 4 (by decide) (by decide)) (by decide) (by decide) (fun h => absurd h (by decide)) (.stop 5 5 rfl (by decide) (fun h => absurd h (by decide)))) (by decide) (by decide) (by decide) (rest_end pBar 5)))
theorem two_alt (i : Nat) (hi : i = 1 ∨ i = 10) : SmOk 69 pTwo i (i + 6) 2 := by
  rcases hi with rfl | rfl
  · exact alt_any pTwo 1 7 7 2 2 0 (by decide) (by decide) (by decide) (by decide)
      (.star 1 6 7 1 0 (by decide) (by decide) (by decide) (item_class pTwo 1 (by decide) (by decide) (by decide) 97 99 (by decide) (by decide) (by decide) (by decide) (by decide) (by decide) (by decide)) (by decide) (by decide) (by decide) (.stop 7 7 rfl (by decide) (fun h => by revert h; decide)))
      (.stop 7 7 rfl (by decide) (fun h => by revert h; decide))
  · exact alt_any pTwo 10 16 16 2 2 0 (by decide) (by decide) (by decide) (by decide)
      (.star 10 15 16 1 0 (by decide) (by decide) (by decide) (item_class pTwo 10 (by decide) (by decide) (by decide) 48 57 (by decide) (by decide) (by decide) (by decide) (by decide) (by decide) (by decide)) (by decide) (by decide) (by decide) (.stop 16 16 rfl (by decide) (fun h => by revert h; decide)))
      (.stop 16 16 rfl (by decide) (fun h => by revert h; decide))
theorem ok_two : SmOk 69 pTwo 0 17 5 :=
  alt_any pTwo 0 17 17 5 5 0 (by decide) (by decide) (by decide) (by decide)
    (.one 0 8 17 2 3 (by decide) (by decide) (by decide) (item_paren pTwo 0 7 2 (by decide) (by decide) (by decide) (by decide) (two_alt 1 (by decide))) (by decide) (by decide) (fun h => by revert h; decide)
      (.one 8 9 17 1 2 (by decide) (by decide) (by decide) (item_plain pTwo 8 (by decide) (by decide) (by decide) (by decide) (by decide) (by decide)) (by decide) (by decide) (fun h => by revert h; decide)
        (.one 9 17 17 2 0 (by decide) (by decide) (by decide) (item_paren pTwo 9 16 2 (by decide) (by decide) (by decide) (by decide) (two_alt 10 (by decide))) (by decide) (by decide) (fun h => absurd h (by decide)) (.stop 17 17 rfl (by decide) (fun h => absurd h (by decide))))))
    (rest_end pTwo 5)
/-- The patterns of which clapmake makes types. -/
def pats : List ByteArray := [pDot, pAbc, pTwo, pDig, pBar, pAbc]
theorem sample_any (P : ByteArray) (hP : P ∈ pats) (B s : Nat) (w : World) (h : StAt B s w) :
    Calls Try.prog 54 #[.string P, .pointer (some ⟨s, 0, none⟩)] w fun e w' => (∃ b : ByteArray, b.size ≤ 5 ∧ e = .returned (.string b)) ∧ StAt B s w' ∧ KeepS w.heap.size s w w' := by
  simp [pats] at hP
  rcases hP with rfl | rfl | rfl | rfl | rfl | rfl
  · exact sample_of _ _ _ ok_dot B s w h
  · exact sample_of _ _ _ ok_abc B s w h
  · exact sample_of _ _ _ ok_two B s w h
  · exact sample_of _ _ _ ok_dig B s w h
  · exact sample_of _ _ _ ok_bar B s w h
  · exact sample_of _ _ _ ok_abc B s w h

end Go.Proofs.Ytkcpnehhcpmdgaa
