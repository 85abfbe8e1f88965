/-
  No cell of these rows narrows 'for every input' (looked for: loops, veiled, ifaces, maps, wideKeys, modest, calm, conditions, laid).
  DERIVED. THE GIVEN ROWS OF THIS SEAT. 5 by the template 'for every input the law returns true; each argument reads behind the call as it read before'; 0 by the template 'total and deterministic' (their statements: YtkcpnehhcpmdgaaTotals.lean).
  GIVEN WITH THE SEED: the statements are not yours to turn. If you find one false, say at which input.
  Laid BY PROGRAM, IN A SANDBOX (cutbox-rows.mjs): the forced cells as the released guide's own fill.sh prints them over the translation 952a91d66e6e95b9… (all of the seat's roots in one cut). By AI agents, Wed Nov 11 2026. No macro, syntax, notation, axiom, sorry.
-/
import Derived.Test.YtkcpnehhcpmdgaaChecked
import GoSem.Claim
import GoSem.ClaimJoined
import GoSem.ClaimMapViews
import Derived.JoinedTies
import Derived.KernelRfl
namespace Go.Proofs.Ytkcpnehhcpmdgaa
/- THE CELL 'sum', in the pinned program and in every row, IS THE sha256 OF THE DUMP (.gsa) THAT YtkcpnehhcpmdgaaProg.lean LOADS. Nothing in Lean hashes anything: it is a label: what it is worth is what the hold of that sum in a sandbox is worth. -/
noncomputable def Try.pinned : Pinned := { name := "ytkcpnehhcpmdgaa", sum := "952a91d66e6e95b94ba88a878a410bbccb153b0a06456584f5eb70c22055e9ae", checked := Try.checked }
namespace Rows
def none {H : Type} : Left H := { results := [], args := [] }

/-- 'clapkeep1.ValueOrder': WHATEVER THE INPUT: true; the input reads as it did. -/
def valueOrderSpec : ChangeSpec := { name := "valueOrder", fn := fun _ => fun
  | [d1, d2, d3] => { results := [.lit (.bool true)], args := [d1, d2, d3] }
  | _ => none }
def valueOrderRow : OpenClaim := { program := "ytkcpnehhcpmdgaa", sum := "952a91d66e6e95b94ba88a878a410bbccb153b0a06456584f5eb70c22055e9ae", func := "clapperbridge/clapkeep1.ValueOrder", spec := "valueOrder", inPlace := ["internal/bytealg.abigen_runtime_cmpstring"], unfollowed := true, recurses := true, apart := false }
def ValueOrderSaid : Prop := valueOrderRow.holds Try.pinned (OpenSpec.ofChange valueOrderSpec)

/-- ITS FALSE NEIGHBOUR: 'it returns false'. Refute it at one input. -/
def valueOrderWrong : ChangeSpec := { name := "valueOrder", fn := fun _ => fun
  | [d1, d2, d3] => { results := [.lit (.bool false)], args := [d1, d2, d3] }
  | _ => none }
def ValueOrderWrongFalsely : Prop := valueOrderRow.holds Try.pinned (OpenSpec.ofChange valueOrderWrong)

/-- 'clapkeep1.ValueParts': WHATEVER THE INPUT: true; the input reads as it did. -/
def valuePartsSpec : ChangeSpec := { name := "valueParts", fn := fun _ => fun
  | [d] => { results := [.lit (.bool true)], args := [d] }
  | _ => none }
def valuePartsRow : OpenClaim := { program := "ytkcpnehhcpmdgaa", sum := "952a91d66e6e95b94ba88a878a410bbccb153b0a06456584f5eb70c22055e9ae", func := "clapperbridge/clapkeep1.ValueParts", spec := "valueParts", inPlace := ["internal/bytealg.abigen_runtime_cmpstring"], unfollowed := true, recurses := true, apart := false }
def ValuePartsSaid : Prop := valuePartsRow.holds Try.pinned (OpenSpec.ofChange valuePartsSpec)

/-- ITS FALSE NEIGHBOUR: 'it returns false'. Refute it at one input. -/
def valuePartsWrong : ChangeSpec := { name := "valueParts", fn := fun _ => fun
  | [d] => { results := [.lit (.bool false)], args := [d] }
  | _ => none }
def ValuePartsWrongFalsely : Prop := valuePartsRow.holds Try.pinned (OpenSpec.ofChange valuePartsWrong)

/-- 'clapkeep1.ValueApart': WHATEVER THE INPUT: true; the input reads as it did. -/
def valueApartSpec : ChangeSpec := { name := "valueApart", fn := fun _ => fun
  | [d] => { results := [.lit (.bool true)], args := [d] }
  | _ => none }
def valueApartRow : OpenClaim := { program := "ytkcpnehhcpmdgaa", sum := "952a91d66e6e95b94ba88a878a410bbccb153b0a06456584f5eb70c22055e9ae", func := "clapperbridge/clapkeep1.ValueApart", spec := "valueApart", inPlace := ["internal/bytealg.abigen_runtime_cmpstring"], unfollowed := true, recurses := true, apart := false }
def ValueApartSaid : Prop := valueApartRow.holds Try.pinned (OpenSpec.ofChange valueApartSpec)

/-- ITS FALSE NEIGHBOUR: 'it returns false'. Refute it at one input. -/
def valueApartWrong : ChangeSpec := { name := "valueApart", fn := fun _ => fun
  | [d] => { results := [.lit (.bool false)], args := [d] }
  | _ => none }
def ValueApartWrongFalsely : Prop := valueApartRow.holds Try.pinned (OpenSpec.ofChange valueApartWrong)

/-- 'clapkeep1.IntsTurned': WHATEVER THE INPUT: true; the input reads as it did. -/
def intsTurnedSpec : ChangeSpec := { name := "intsTurned", fn := fun _ => fun
  | [d1, d2] => { results := [.lit (.bool true)], args := [d1, d2] }
  | _ => none }
def intsTurnedRow : OpenClaim := { program := "ytkcpnehhcpmdgaa", sum := "952a91d66e6e95b94ba88a878a410bbccb153b0a06456584f5eb70c22055e9ae", func := "clapperbridge/clapkeep1.IntsTurned", spec := "intsTurned", unfollowed := true, recurses := true, apart := false }
def IntsTurnedSaid : Prop := intsTurnedRow.holds Try.pinned (OpenSpec.ofChange intsTurnedSpec)

/-- ITS FALSE NEIGHBOUR: 'it returns false'. Refute it at one input. -/
def intsTurnedWrong : ChangeSpec := { name := "intsTurned", fn := fun _ => fun
  | [d1, d2] => { results := [.lit (.bool false)], args := [d1, d2] }
  | _ => none }
def IntsTurnedWrongFalsely : Prop := intsTurnedRow.holds Try.pinned (OpenSpec.ofChange intsTurnedWrong)

/-- 'clapkeep1.IntsAlgebra': WHATEVER THE INPUT: true; the input reads as it did. -/
def intsAlgebraSpec : ChangeSpec := { name := "intsAlgebra", fn := fun _ => fun
  | [d1, d2, d3] => { results := [.lit (.bool true)], args := [d1, d2, d3] }
  | _ => none }
def intsAlgebraRow : OpenClaim := { program := "ytkcpnehhcpmdgaa", sum := "952a91d66e6e95b94ba88a878a410bbccb153b0a06456584f5eb70c22055e9ae", func := "clapperbridge/clapkeep1.IntsAlgebra", spec := "intsAlgebra", unfollowed := true, recurses := true, apart := false }
def IntsAlgebraSaid : Prop := intsAlgebraRow.holds Try.pinned (OpenSpec.ofChange intsAlgebraSpec)

/-- ITS FALSE NEIGHBOUR: 'it returns false'. Refute it at one input. -/
def intsAlgebraWrong : ChangeSpec := { name := "intsAlgebra", fn := fun _ => fun
  | [d1, d2, d3] => { results := [.lit (.bool false)], args := [d1, d2, d3] }
  | _ => none }
def IntsAlgebraWrongFalsely : Prop := intsAlgebraRow.holds Try.pinned (OpenSpec.ofChange intsAlgebraWrong)

/- THE SECOND FORM. 'bulk': how many values and letters a reading holds, each counted each time it is reached (what is shared counts as often as it is met; a slice's spare places count too). A statement '..UptoSaid' is the law's where the arguments, and the package variables that the reading takes, are together of bulk at most 1048576: NARROWER than '..Said'. Prove '..Said' where nothing that the law and all that it calls make is longer than what came in: it says more and counts as full. Else prove '..UptoSaid'. A law counts once. -/
mutual
def uptoBulk {H : Type} : DataW H → Nat
  | .lit (.string bytes) => bytes.length + 1
  | .lit _ => 1
  | .nil => 1
  | .ptr d => uptoBulk d + 1
  | .slice elems spare => uptoBulkAll elems + uptoBulkAll spare + 1
  | .agg parts => uptoBulkAll parts + 1
  | .iface _ d => uptoBulk d + 1
  | .map entries => uptoBulkEntries entries + 1
  | .held _ => 1
def uptoBulkAll {H : Type} : List (DataW H) → Nat
  | [] => 0
  | d :: r => uptoBulk d + uptoBulkAll r
def uptoBulkEntries {H : Type} : List (Lit × DataW H) → Nat
  | [] => 0
  | x :: r => uptoBulkEntry x + uptoBulkEntries r
def uptoBulkEntry {H : Type} : Lit × DataW H → Nat
  | (.string bytes, d) => bytes.length + uptoBulk d + 1
  | (_, d) => uptoBulk d + 1
 end
def uptoSmall : (H : Type) → List (DataW H) → Bool := fun _ ds => decide (uptoBulkAll ds ≤ 1048576)
def OpenSpec.upto (s : _root_.Go.ChangeSpec) : _root_.Go.OpenSpec := { _root_.Go.OpenSpec.ofChange s with cond := some uptoSmall }

/-- 'clapkeep1.ValueOrder', WHERE WHAT IT READS IS OF BULK AT MOST 1048576: true; the input reads as it did. -/
def valueOrderUptoRow : OpenClaim := { program := "ytkcpnehhcpmdgaa", sum := "952a91d66e6e95b94ba88a878a410bbccb153b0a06456584f5eb70c22055e9ae", func := "clapperbridge/clapkeep1.ValueOrder", spec := "valueOrder", inPlace := ["internal/bytealg.abigen_runtime_cmpstring"], unfollowed := true, recurses := true, apart := false, narrowed := true }
def ValueOrderUptoSaid : Prop := valueOrderUptoRow.holds Try.pinned (OpenSpec.upto valueOrderSpec)

/-- 'clapkeep1.ValueParts', WHERE WHAT IT READS IS OF BULK AT MOST 1048576: true; the input reads as it did. -/
def valuePartsUptoRow : OpenClaim := { program := "ytkcpnehhcpmdgaa", sum := "952a91d66e6e95b94ba88a878a410bbccb153b0a06456584f5eb70c22055e9ae", func := "clapperbridge/clapkeep1.ValueParts", spec := "valueParts", inPlace := ["internal/bytealg.abigen_runtime_cmpstring"], unfollowed := true, recurses := true, apart := false, narrowed := true }
def ValuePartsUptoSaid : Prop := valuePartsUptoRow.holds Try.pinned (OpenSpec.upto valuePartsSpec)

/-- 'clapkeep1.ValueApart', WHERE WHAT IT READS IS OF BULK AT MOST 1048576: true; the input reads as it did. -/
def valueApartUptoRow : OpenClaim := { program := "ytkcpnehhcpmdgaa", sum := "952a91d66e6e95b94ba88a878a410bbccb153b0a06456584f5eb70c22055e9ae", func := "clapperbridge/clapkeep1.ValueApart", spec := "valueApart", inPlace := ["internal/bytealg.abigen_runtime_cmpstring"], unfollowed := true, recurses := true, apart := false, narrowed := true }
def ValueApartUptoSaid : Prop := valueApartUptoRow.holds Try.pinned (OpenSpec.upto valueApartSpec)

/-- 'clapkeep1.IntsTurned', WHERE WHAT IT READS IS OF BULK AT MOST 1048576: true; the input reads as it did. -/
def intsTurnedUptoRow : OpenClaim := { program := "ytkcpnehhcpmdgaa", sum := "952a91d66e6e95b94ba88a878a410bbccb153b0a06456584f5eb70c22055e9ae", func := "clapperbridge/clapkeep1.IntsTurned", spec := "intsTurned", unfollowed := true, recurses := true, apart := false, narrowed := true }
def IntsTurnedUptoSaid : Prop := intsTurnedUptoRow.holds Try.pinned (OpenSpec.upto intsTurnedSpec)

/-- 'clapkeep1.IntsAlgebra', WHERE WHAT IT READS IS OF BULK AT MOST 1048576: true; the input reads as it did. -/
def intsAlgebraUptoRow : OpenClaim := { program := "ytkcpnehhcpmdgaa", sum := "952a91d66e6e95b94ba88a878a410bbccb153b0a06456584f5eb70c22055e9ae", func := "clapperbridge/clapkeep1.IntsAlgebra", spec := "intsAlgebra", unfollowed := true, recurses := true, apart := false, narrowed := true }
def IntsAlgebraUptoSaid : Prop := intsAlgebraUptoRow.holds Try.pinned (OpenSpec.upto intsAlgebraSpec)

end Rows
end Go.Proofs.Ytkcpnehhcpmdgaa
