/-
  No cell of these rows narrows 'for every input' (looked for: loops, veiled, ifaces, maps, wideKeys, modest, calm, conditions, laid).
  DERIVED. THE GIVEN ROWS OF THIS SEAT. 4 by the template 'for every input the law returns true; each argument reads behind the call as it read before'; 0 by the template 'total and deterministic' (their statements: YtebcflgdjbjkoaaTotals.lean).
  GIVEN WITH THE SEED: the statements are not yours to turn. If you find one false, say at which input.
  Laid BY PROGRAM, IN A SANDBOX (cutbox-rows.mjs): the forced cells as the released guide's own fill.sh prints them over the translation 731b6328c54e2ad9… (all of the seat's roots in one cut). By AI agents, Wed Nov 11 2026. No macro, syntax, notation, axiom, sorry.
-/
import Derived.Test.YtebcflgdjbjkoaaChecked
import GoSem.Claim
import GoSem.ClaimJoined
import GoSem.ClaimMapViews
import Derived.JoinedTies
import Derived.KernelRfl
namespace Go.Proofs.Ytebcflgdjbjkoaa
/- THE CELL 'sum', in the pinned program and in every row, IS THE sha256 OF THE DUMP (.gsa) THAT YtebcflgdjbjkoaaProg.lean LOADS. Nothing in Lean hashes anything: it is a label: what it is worth is what the hold of that sum in a sandbox is worth. -/
noncomputable def Try.pinned : Pinned := { name := "ytebcflgdjbjkoaa", sum := "731b6328c54e2ad973a8ba657169e28557ee0c216b264ccb3010290a74420361", checked := Try.checked }
namespace Rows
def none {H : Type} : Left H := { results := [], args := [] }

/-- 'clapkeep1.PatternQuoted': WHATEVER THE INPUT: true; the input reads as it did. -/
def patternQuotedSpec : ChangeSpec := { name := "patternQuoted", fn := fun _ => fun
  | [d1, d2] => { results := [.lit (.bool true)], args := [d1, d2] }
  | _ => none }
def patternQuotedRow : OpenClaim := { program := "ytebcflgdjbjkoaa", sum := "731b6328c54e2ad973a8ba657169e28557ee0c216b264ccb3010290a74420361", func := "clapperbridge/clapkeep1.PatternQuoted", spec := "patternQuoted", inPlace := ["internal/bytealg.IndexByteString", "internal/abi.NoEscape"], recurses := true, plainKeys := false, apart := false }
def PatternQuotedSaid : Prop := patternQuotedRow.holds Try.pinned (OpenSpec.ofChange patternQuotedSpec)

/-- ITS FALSE NEIGHBOUR: 'it returns false'. Refute it at one input. -/
def patternQuotedWrong : ChangeSpec := { name := "patternQuoted", fn := fun _ => fun
  | [d1, d2] => { results := [.lit (.bool false)], args := [d1, d2] }
  | _ => none }
def PatternQuotedWrongFalsely : Prop := patternQuotedRow.holds Try.pinned (OpenSpec.ofChange patternQuotedWrong)

/-- 'clapkeep1.PatternSides': WHATEVER THE INPUT: true; the input reads as it did. -/
def patternSidesSpec : ChangeSpec := { name := "patternSides", fn := fun _ => fun
  | [d1, d2] => { results := [.lit (.bool true)], args := [d1, d2] }
  | _ => none }
def patternSidesRow : OpenClaim := { program := "ytebcflgdjbjkoaa", sum := "731b6328c54e2ad973a8ba657169e28557ee0c216b264ccb3010290a74420361", func := "clapperbridge/clapkeep1.PatternSides", spec := "patternSides", inPlace := ["internal/abi.NoEscape", "internal/bytealg.IndexByteString"], unfollowed := true, recurses := true, plainKeys := false, apart := false }
def PatternSidesSaid : Prop := patternSidesRow.holds Try.pinned (OpenSpec.ofChange patternSidesSpec)

/-- ITS FALSE NEIGHBOUR: 'it returns false'. Refute it at one input. -/
def patternSidesWrong : ChangeSpec := { name := "patternSides", fn := fun _ => fun
  | [d1, d2] => { results := [.lit (.bool false)], args := [d1, d2] }
  | _ => none }
def PatternSidesWrongFalsely : Prop := patternSidesRow.holds Try.pinned (OpenSpec.ofChange patternSidesWrong)

/-- 'clapkeep1.PatternGoesOn': WHATEVER THE INPUT: true; the input reads as it did. -/
def patternGoesOnSpec : ChangeSpec := { name := "patternGoesOn", fn := fun _ => fun
  | [d1, d2] => { results := [.lit (.bool true)], args := [d1, d2] }
  | _ => none }
def patternGoesOnRow : OpenClaim := { program := "ytebcflgdjbjkoaa", sum := "731b6328c54e2ad973a8ba657169e28557ee0c216b264ccb3010290a74420361", func := "clapperbridge/clapkeep1.PatternGoesOn", spec := "patternGoesOn", inPlace := ["internal/abi.NoEscape", "internal/bytealg.IndexByteString"], unfollowed := true, recurses := true, plainKeys := false, apart := false }
def PatternGoesOnSaid : Prop := patternGoesOnRow.holds Try.pinned (OpenSpec.ofChange patternGoesOnSpec)

/-- ITS FALSE NEIGHBOUR: 'it returns false'. Refute it at one input. -/
def patternGoesOnWrong : ChangeSpec := { name := "patternGoesOn", fn := fun _ => fun
  | [d1, d2] => { results := [.lit (.bool false)], args := [d1, d2] }
  | _ => none }
def PatternGoesOnWrongFalsely : Prop := patternGoesOnRow.holds Try.pinned (OpenSpec.ofChange patternGoesOnWrong)

/-- 'clapkeep1.PatternLists': WHATEVER THE INPUT: true; the input reads as it did. -/
def patternListsSpec : ChangeSpec := { name := "patternLists", fn := fun _ => fun
  | [d1, d2] => { results := [.lit (.bool true)], args := [d1, d2] }
  | _ => none }
def patternListsRow : OpenClaim := { program := "ytebcflgdjbjkoaa", sum := "731b6328c54e2ad973a8ba657169e28557ee0c216b264ccb3010290a74420361", func := "clapperbridge/clapkeep1.PatternLists", spec := "patternLists", inPlace := ["internal/abi.NoEscape", "internal/bytealg.IndexByteString"], unfollowed := true, recurses := true, plainKeys := false, apart := false }
def PatternListsSaid : Prop := patternListsRow.holds Try.pinned (OpenSpec.ofChange patternListsSpec)

/-- ITS FALSE NEIGHBOUR: 'it returns false'. Refute it at one input. -/
def patternListsWrong : ChangeSpec := { name := "patternLists", fn := fun _ => fun
  | [d1, d2] => { results := [.lit (.bool false)], args := [d1, d2] }
  | _ => none }
def PatternListsWrongFalsely : Prop := patternListsRow.holds Try.pinned (OpenSpec.ofChange patternListsWrong)

/- THE SECOND FORM. 'bulk': how many values and letters a reading holds, each counted each time it is reached (what is shared counts as often as it is met; a slice's spare places count too). A statement '..UptoSaid' is the law's where the arguments, and the package variables that the reading takes, are together of bulk at most 1048576: NARROWER than '..Said'. Prove '..Said' where nothing that the law and all that it calls make is longer than what came in: it says more and counts as full. Else prove '..UptoSaid'. A law counts once. -/
mutual
def uptoBulk {H : Type} : DataW H → Nat
  | .lit (.string bytes) => bytes.length + 1
  | .lit _ => 1
  | .nil => 1
  | .ptr d => uptoBulk d + 1
  | .slice elems spare => uptoBulkAll elems + uptoBulkAll spare + 1
  | .agg parts => uptoBulkAll parts + 1
  | .iface _ d => uptoBulk d + 1
  | .map entries => uptoBulkEntries entries + 1
  | .held _ => 1
def uptoBulkAll {H : Type} : List (DataW H) → Nat
  | [] => 0
  | d :: r => uptoBulk d + uptoBulkAll r
def uptoBulkEntries {H : Type} : List (Lit × DataW H) → Nat
  | [] => 0
  | x :: r => uptoBulkEntry x + uptoBulkEntries r
def uptoBulkEntry {H : Type} : Lit × DataW H → Nat
  | (.string bytes, d) => bytes.length + uptoBulk d + 1
  | (_, d) => uptoBulk d + 1
 end
def uptoSmall : (H : Type) → List (DataW H) → Bool := fun _ ds => decide (uptoBulkAll ds ≤ 1048576)
def OpenSpec.upto (s : _root_.Go.ChangeSpec) : _root_.Go.OpenSpec := { _root_.Go.OpenSpec.ofChange s with cond := some uptoSmall }

/-- 'clapkeep1.PatternQuoted', WHERE WHAT IT READS IS OF BULK AT MOST 1048576: true; the input reads as it did. -/
def patternQuotedUptoRow : OpenClaim := { program := "ytebcflgdjbjkoaa", sum := "731b6328c54e2ad973a8ba657169e28557ee0c216b264ccb3010290a74420361", func := "clapperbridge/clapkeep1.PatternQuoted", spec := "patternQuoted", inPlace := ["internal/bytealg.IndexByteString", "internal/abi.NoEscape"], recurses := true, plainKeys := false, apart := false, narrowed := true }
def PatternQuotedUptoSaid : Prop := patternQuotedUptoRow.holds Try.pinned (OpenSpec.upto patternQuotedSpec)

/-- 'clapkeep1.PatternSides', WHERE WHAT IT READS IS OF BULK AT MOST 1048576: true; the input reads as it did. -/
def patternSidesUptoRow : OpenClaim := { program := "ytebcflgdjbjkoaa", sum := "731b6328c54e2ad973a8ba657169e28557ee0c216b264ccb3010290a74420361", func := "clapperbridge/clapkeep1.PatternSides", spec := "patternSides", inPlace := ["internal/abi.NoEscape", "internal/bytealg.IndexByteString"], unfollowed := true, recurses := true, plainKeys := false, apart := false, narrowed := true }
def PatternSidesUptoSaid : Prop := patternSidesUptoRow.holds Try.pinned (OpenSpec.upto patternSidesSpec)

/-- 'clapkeep1.PatternGoesOn', WHERE WHAT IT READS IS OF BULK AT MOST 1048576: true; the input reads as it did. -/
def patternGoesOnUptoRow : OpenClaim := { program := "ytebcflgdjbjkoaa", sum := "731b6328c54e2ad973a8ba657169e28557ee0c216b264ccb3010290a74420361", func := "clapperbridge/clapkeep1.PatternGoesOn", spec := "patternGoesOn", inPlace := ["internal/abi.NoEscape", "internal/bytealg.IndexByteString"], unfollowed := true, recurses := true, plainKeys := false, apart := false, narrowed := true }
def PatternGoesOnUptoSaid : Prop := patternGoesOnUptoRow.holds Try.pinned (OpenSpec.upto patternGoesOnSpec)

/-- 'clapkeep1.PatternLists', WHERE WHAT IT READS IS OF BULK AT MOST 1048576: true; the input reads as it did. -/
def patternListsUptoRow : OpenClaim := { program := "ytebcflgdjbjkoaa", sum := "731b6328c54e2ad973a8ba657169e28557ee0c216b264ccb3010290a74420361", func := "clapperbridge/clapkeep1.PatternLists", spec := "patternLists", inPlace := ["internal/abi.NoEscape", "internal/bytealg.IndexByteString"], unfollowed := true, recurses := true, plainKeys := false, apart := false, narrowed := true }
def PatternListsUptoSaid : Prop := patternListsUptoRow.holds Try.pinned (OpenSpec.upto patternListsSpec)

end Rows
end Go.Proofs.Ytebcflgdjbjkoaa
