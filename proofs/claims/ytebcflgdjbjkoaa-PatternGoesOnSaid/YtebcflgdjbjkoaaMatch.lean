/- pattern.Match, from what pattern.build does; no condition beyond those that stand there. -/
import Derived.Lib.ConvBytes
import Derived.Test.YtebcflgdjbjkoaaHalf
namespace Go.Proofs.Ytebcflgdjbjkoaa
open Go.RowKit

theorem below_bytesW (w : World) (e : TypeId) (s : ByteArray) : Below w.heap.size w (Lib.bytesWorld w e s) :=
  ⟨rfl, rfl, rfl, by rw [Lib.bytesWorld_size]; omega, fun k hk => Lib.bytesWorld_at_old w e s k hk⟩
theorem MachAt.below {B : Nat} {cls fol : List Set4} {x : Part} {sets : List Set4} {rows : List (List Nat)} {ends : List Bool} {nv ev : Value} {W W' : World} (h : MachAt B cls fol x sets rows ends nv ev W) (hb : Below W.heap.size W W') : MachAt B cls fol x sets rows ends nv ev W' :=
  ⟨h.half, row_keepP h.nrow fun q hq => hb.block q (World.ownsRow.lt h.nrow q hq).2, row_keepP h.erow fun q hq => hb.block q (World.ownsRow.lt h.erow q hq).2⟩
set_option maxRecDepth 100000 in
set_option maxHeartbeats 4000000 in
theorem match_any (hbuild : BuildSaid) (p s : ByteArray) (cls fol : List Set4) (x : Part) (hs : s.size ≤ 140737488355328) (w : World) (h : ParsedTo p cls fol x) :
    Calls Try.prog 8 #[.string p, .string s] w fun e w' => Below w.heap.size w w' ∧ ((e = .returned (.tuple #[.bool false, .int .i64 2]) ∧ Large cls fol) ∨
      e = .returned (.tuple #[.bool (endsM x (runM cls fol s.data.toList)), .int .i64 0])) := by
  have hBu := Lib.hid (hbuild p cls fol x w h)
  have hcv := fun W => Lib.run_convert_string_bytes (P := Try.prog) W 9 46 5 s Try.underlying9 Try.underlying46 Try.underlying5
  clear h hbuild
  go_enter Try.func8, Try.ntmps8
  go_upto_region 1 with fail
  go_wp2_with (go_at_call 23; refine hBu.out.mono ?_; rintro e w1 ⟨hb1, hor⟩; rcases hor with ⟨rfl, hL⟩ | ⟨nv, ev, sets, rows, ends, rfl, hM⟩; rotate_left; obtain ⟨g, gc, rfl, hg, -⟩ := row_some hM.nrow hM.rpos; obtain ⟨g2, gc2, rfl, hg2, -⟩ := row_some hM.erow hM.epos; have HM := Lib.hid (And.intro hM (And.intro hg (And.intro hg2 hb1))); clear hM hg hg2 hb1; rotate_left)
  · go_returns
    exact ⟨hb1.trans ((Below.refl w1.heap.size w1).alloc (Nat.le_refl _) _ |>.mono hb1.size), Or.inl ⟨rfl, hL⟩⟩
  · have hal := (Below.refl w1.heap.size w1).alloc (Nat.le_refl _) (.cells #[.slice (some ⟨g, 0, none⟩) rows.length gc, .slice (some ⟨g2, 0, none⟩) ends.length gc2] 58 (0, 0))
    have eM := heap_alloc_new w1 (.cells #[.slice (some ⟨g, 0, none⟩) rows.length gc, .slice (some ⟨g2, 0, none⟩) ends.length gc2] 58 (0, 0))
    have hsa : (w1.alloc (.cells #[.slice (some ⟨g, 0, none⟩) rows.length gc, .slice (some ⟨g2, 0, none⟩) ends.length gc2] 58 (0, 0))).heap.size = w1.heap.size + 1 := by simp
    have hM2 := HM.out.1.below hal
    have HN := Lib.hid (And.intro hM2 (And.intro eM (And.intro hsa ((HM.out.2.2.2).trans (hal.mono HM.out.2.2.2.size)))))
    clear hal eM hsa hM2 HM hcv
    generalize w1.alloc (.cells #[.slice (some ⟨g, 0, none⟩) rows.length gc, .slice (some ⟨g2, 0, none⟩) ends.length gc2] 58 (0, 0)) = w2 at *
    obtain ⟨hM2, eM, hsa, hb2⟩ := HN.out
    clear HN
    have hbb := below_bytesW w2 5 s
    have hcell := fun (k : Nat) (hk : k < s.size) => Lib.bytesWorld_cell w2 5 s k hk
    have hsz := Lib.bytesWorld_size w2 5 s
    rw [hsa] at hcell hsz
    have hM3 := hM2.below hbb
    have eM3 := (hbb.block _ (lt_of_block eM)).trans eM
    have hb3 := hb2.trans (hbb.mono hb2.size)
    have hw2 : w1.heap.size < w2.heap.size := lt_of_block eM
    generalize grownCap w2 s.size 0 5 = cp
    generalize Lib.bytesWorld w2 5 s = w3 at *
    have hfst := hM3.half.first
    have HN := Lib.hid (And.intro hM3 (And.intro eM3 (And.intro hb3 (And.intro hcell (And.intro hsz hfst)))))
    have hl3 : w1.heap.size < w3.heap.size := by omega
    have hw3 : w1.heap.size + 1 < w3.heap.size := by omega
    have hg3 := (World.ownsRow.lt hM3.nrow g rfl).2
    have hg4 := (World.ownsRow.lt hM3.erow g2 rfl).2
    clear hM2 eM hsa hb2 hbb hcell hM3 eM3 hb3 hfst hsz
    go_loopw [22, 8] (fun iv kv wr => ∃ i k : Nat, iv = .int .i64 i ∧ kv = .int .i16 k ∧ i ≤ s.size ∧ sets[k]? = some (runM cls fol (s.data.toList.take i)) ∧ wr = w3) (fun iv _ _ => s.size - (intOf iv).toNat)
    case atStart => exact ⟨0, 0, rfl, rfl, Nat.zero_le _, HN.out.2.2.2.2.2, rfl⟩
    case round =>
      obtain ⟨i, k, rfl, rfl, hi, hk, rfl⟩ := hrel
      have hlen : s.data.toList.length = s.size := by simp
      have hkl := (List.getElem?_eq_some_iff.1 hk).1
      have m0 : wr.cell? ⟨w1.heap.size, 0, none⟩ = some (.slice (some ⟨g, 0, none⟩) rows.length gc) := by rw [Lib.cell_of_heap HN.out.2.1]; rfl
      have m1 : wr.cell? ⟨w1.heap.size, 1, none⟩ = some (.slice (some ⟨g2, 0, none⟩) ends.length gc2) := by rw [Lib.cell_of_heap HN.out.2.1]; rfl
      have tk1 : (k : Int) < (rows.length : Int) := by have := HN.out.1.half.rl; omega
      have tk2 : (k : Int) < (ends.length : Int) := by have := HN.out.1.half.el; omega
      have hkn : ((k : Int)).toNat = k := by omega
      by_cases hlt : i < s.size
      · have ti : (i : Int) < (s.size : Int) := by omega
        have wi : IntKind.i64.wrap ((i : Int) + 1) = (i : Int) + 1 := IntWalk.i64_in _ ⟨by omega, by omega⟩
        have hc := HN.out.2.2.2.1 i hlt
        have hb256 : (s.data.toList.getD i 0).toNat < 256 := (s.data.toList.getD i 0).toNat_lt
        obtain ⟨n, hn, hns, -⟩ := HN.out.1.step hk hb256
        have hcl := (World.ownsRow.cellAt HN.out.1.nrow (k * 256 + (s.data.toList.getD i 0).toNat) (by have := HN.out.1.half.rl; omega)).trans hn
        have hst : sets[n]? = some (runM cls fol (s.data.toList.take (i + 1))) := by
          have h1 : s.data.toList.take (i + 1) = s.data.toList.take i ++ [s.data.toList.getD i 0] := by
            rw [List.take_add_one]
            simp [List.getD, hlen, hlt]
          rw [h1, runM_app]
          exact hns
        have tb : ((s.data.toList.getD i 0).toNat : Int) < 256 := by omega
        have hbn : (((s.data.toList.getD i 0).toNat : Int)).toNat = (s.data.toList.getD i 0).toNat := by omega
        clear hn hns hlen
        generalize (s.data.toList.getD i 0).toNat = b at *
        have HS := Lib.hid hst
        clear hst hk
        go_wp2_with fail
        exact ⟨⟨i + 1, n, by simp, rfl, by omega, HS.out, trivial⟩, by simp [intOf]; omega⟩
      · have ti : decide ((i : Int) < (s.size : Int)) = false := decide_eq_false (by omega)
        have he := (World.ownsRow.cellAt HN.out.1.erow k (by omega)).trans (HN.out.1.endAt hk)
        have h1 : s.data.toList.take i = s.data.toList := List.take_of_length_le (by omega)
        rw [h1] at he
        clear h1 hlen hk
        go_wp2_with fail
        go_returns
        exact ⟨HN.out.2.2.1, Or.inr rfl⟩

end Go.Proofs.Ytebcflgdjbjkoaa
