/-
  No cell of these rows narrows 'for every input' (looked for: loops, veiled, ifaces, maps, wideKeys, modest, calm, conditions, laid).
  DERIVED. THE GIVEN ROWS OF THIS SEAT. 7 by the template 'for every input the law returns true; each argument reads behind the call as it read before'; 0 by the template 'total and deterministic' (their statements: YtpoolbachhelgaaTotals.lean).
  GIVEN WITH THE SEED: the statements are not yours to turn. If you find one false, say at which input.
  Laid BY PROGRAM, IN A SANDBOX (cutbox-rows.mjs): the forced cells as the released guide's own fill.sh prints them over the translation 8095aff92a432826… (all of the seat's roots in one cut). By AI agents, Wed Nov 11 2026. No macro, syntax, notation, axiom, sorry.
-/
import Derived.Test.YtpoolbachhelgaaChecked
import GoSem.Claim
import GoSem.ClaimJoined
import GoSem.ClaimMapViews
import Derived.JoinedTies
import Derived.KernelRfl
namespace Go.Proofs.Ytpoolbachhelgaa
/- THE CELL 'sum', in the pinned program and in every row, IS THE sha256 OF THE DUMP (.gsa) THAT YtpoolbachhelgaaProg.lean LOADS. Nothing in Lean hashes anything: it is a label: what it is worth is what the hold of that sum in a sandbox is worth. -/
noncomputable def Try.pinned : Pinned := { name := "ytpoolbachhelgaa", sum := "8095aff92a432826ce606def5c3452b01cffec17933974c03d26d3ff87d145dd", checked := Try.checked }
namespace Rows
def none {H : Type} : Left H := { results := [], args := [] }

/-- 'clapkeep1.DecimalRounded': WHATEVER THE INPUT: true; the input reads as it did. -/
def decimalRoundedSpec : ChangeSpec := { name := "decimalRounded", fn := fun _ => fun
  | [d1, d2, d3, d4] => { results := [.lit (.bool true)], args := [d1, d2, d3, d4] }
  | _ => none }
def decimalRoundedRow : OpenClaim := { program := "ytpoolbachhelgaa", sum := "8095aff92a432826ce606def5c3452b01cffec17933974c03d26d3ff87d145dd", func := "clapperbridge/clapkeep1.DecimalRounded", spec := "decimalRounded", apart := false }
def DecimalRoundedSaid : Prop := decimalRoundedRow.holds Try.pinned (OpenSpec.ofChange decimalRoundedSpec)

/-- ITS FALSE NEIGHBOUR: 'it returns false'. Refute it at one input. -/
def decimalRoundedWrong : ChangeSpec := { name := "decimalRounded", fn := fun _ => fun
  | [d1, d2, d3, d4] => { results := [.lit (.bool false)], args := [d1, d2, d3, d4] }
  | _ => none }
def DecimalRoundedWrongFalsely : Prop := decimalRoundedRow.holds Try.pinned (OpenSpec.ofChange decimalRoundedWrong)

/-- 'clapkeep1.FloatMade': WHATEVER THE INPUT: true; the input reads as it did. -/
def floatMadeSpec : ChangeSpec := { name := "floatMade", fn := fun _ => fun
  | [d1, d2] => { results := [.lit (.bool true)], args := [d1, d2] }
  | _ => none }
def floatMadeRow : OpenClaim := { program := "ytpoolbachhelgaa", sum := "8095aff92a432826ce606def5c3452b01cffec17933974c03d26d3ff87d145dd", func := "clapperbridge/clapkeep1.FloatMade", spec := "floatMade", apart := false }
def FloatMadeSaid : Prop := floatMadeRow.holds Try.pinned (OpenSpec.ofChange floatMadeSpec)

/-- ITS FALSE NEIGHBOUR: 'it returns false'. Refute it at one input. -/
def floatMadeWrong : ChangeSpec := { name := "floatMade", fn := fun _ => fun
  | [d1, d2] => { results := [.lit (.bool false)], args := [d1, d2] }
  | _ => none }
def FloatMadeWrongFalsely : Prop := floatMadeRow.holds Try.pinned (OpenSpec.ofChange floatMadeWrong)

/-- 'clapkeep1.FloatSteps': WHATEVER THE INPUT: true; the input reads as it did. -/
def floatStepsSpec : ChangeSpec := { name := "floatSteps", fn := fun _ => fun
  | [d] => { results := [.lit (.bool true)], args := [d] }
  | _ => none }
def floatStepsRow : OpenClaim := { program := "ytpoolbachhelgaa", sum := "8095aff92a432826ce606def5c3452b01cffec17933974c03d26d3ff87d145dd", func := "clapperbridge/clapkeep1.FloatSteps", spec := "floatSteps", apart := false }
def FloatStepsSaid : Prop := floatStepsRow.holds Try.pinned (OpenSpec.ofChange floatStepsSpec)

/-- ITS FALSE NEIGHBOUR: 'it returns false'. Refute it at one input. -/
def floatStepsWrong : ChangeSpec := { name := "floatSteps", fn := fun _ => fun
  | [d] => { results := [.lit (.bool false)], args := [d] }
  | _ => none }
def FloatStepsWrongFalsely : Prop := floatStepsRow.holds Try.pinned (OpenSpec.ofChange floatStepsWrong)

/-- 'clapkeep1.UtfBack': WHATEVER THE INPUT: true; the input reads as it did. -/
def utfBackSpec : ChangeSpec := { name := "utfBack", fn := fun _ => fun
  | [d1, d2, d3] => { results := [.lit (.bool true)], args := [d1, d2, d3] }
  | _ => none }
def utfBackRow : OpenClaim := { program := "ytpoolbachhelgaa", sum := "8095aff92a432826ce606def5c3452b01cffec17933974c03d26d3ff87d145dd", func := "clapperbridge/clapkeep1.UtfBack", spec := "utfBack", inPlace := ["internal/abi.NoEscape"], apart := false }
def UtfBackSaid : Prop := utfBackRow.holds Try.pinned (OpenSpec.ofChange utfBackSpec)

/-- ITS FALSE NEIGHBOUR: 'it returns false'. Refute it at one input. -/
def utfBackWrong : ChangeSpec := { name := "utfBack", fn := fun _ => fun
  | [d1, d2, d3] => { results := [.lit (.bool false)], args := [d1, d2, d3] }
  | _ => none }
def UtfBackWrongFalsely : Prop := utfBackRow.holds Try.pinned (OpenSpec.ofChange utfBackWrong)

/-- 'clapkeep1.UtfMended': WHATEVER THE INPUT: true; the input reads as it did. -/
def utfMendedSpec : ChangeSpec := { name := "utfMended", fn := fun _ => fun
  | [d1, d2] => { results := [.lit (.bool true)], args := [d1, d2] }
  | _ => none }
def utfMendedRow : OpenClaim := { program := "ytpoolbachhelgaa", sum := "8095aff92a432826ce606def5c3452b01cffec17933974c03d26d3ff87d145dd", func := "clapperbridge/clapkeep1.UtfMended", spec := "utfMended", inPlace := ["internal/abi.NoEscape"], apart := false }
def UtfMendedSaid : Prop := utfMendedRow.holds Try.pinned (OpenSpec.ofChange utfMendedSpec)

/-- ITS FALSE NEIGHBOUR: 'it returns false'. Refute it at one input. -/
def utfMendedWrong : ChangeSpec := { name := "utfMended", fn := fun _ => fun
  | [d1, d2] => { results := [.lit (.bool false)], args := [d1, d2] }
  | _ => none }
def UtfMendedWrongFalsely : Prop := utfMendedRow.holds Try.pinned (OpenSpec.ofChange utfMendedWrong)

/-- 'clapkeep1.UtfLines': WHATEVER THE INPUT: true; the input reads as it did. -/
def utfLinesSpec : ChangeSpec := { name := "utfLines", fn := fun _ => fun
  | [d] => { results := [.lit (.bool true)], args := [d] }
  | _ => none }
def utfLinesRow : OpenClaim := { program := "ytpoolbachhelgaa", sum := "8095aff92a432826ce606def5c3452b01cffec17933974c03d26d3ff87d145dd", func := "clapperbridge/clapkeep1.UtfLines", spec := "utfLines", inPlace := ["internal/abi.NoEscape", "internal/bytealg.IndexByteString", "internal/bytealg.IndexString", "internal/bytealg.CountString"], named := ["internal/bytealg.MaxLen"], apart := false }
def UtfLinesSaid : Prop := utfLinesRow.holds Try.pinned (OpenSpec.ofChange utfLinesSpec)

/-- ITS FALSE NEIGHBOUR: 'it returns false'. Refute it at one input. -/
def utfLinesWrong : ChangeSpec := { name := "utfLines", fn := fun _ => fun
  | [d] => { results := [.lit (.bool false)], args := [d] }
  | _ => none }
def UtfLinesWrongFalsely : Prop := utfLinesRow.holds Try.pinned (OpenSpec.ofChange utfLinesWrong)

/-- 'clapkeep1.BitsBack': WHATEVER THE INPUT: true; the input reads as it did. -/
def bitsBackSpec : ChangeSpec := { name := "bitsBack", fn := fun _ => fun
  | [d1, d2] => { results := [.lit (.bool true)], args := [d1, d2] }
  | _ => none }
def bitsBackRow : OpenClaim := { program := "ytpoolbachhelgaa", sum := "8095aff92a432826ce606def5c3452b01cffec17933974c03d26d3ff87d145dd", func := "clapperbridge/clapkeep1.BitsBack", spec := "bitsBack", inPlace := ["internal/abi.NoEscape"], apart := false }
def BitsBackSaid : Prop := bitsBackRow.holds Try.pinned (OpenSpec.ofChange bitsBackSpec)

/-- ITS FALSE NEIGHBOUR: 'it returns false'. Refute it at one input. -/
def bitsBackWrong : ChangeSpec := { name := "bitsBack", fn := fun _ => fun
  | [d1, d2] => { results := [.lit (.bool false)], args := [d1, d2] }
  | _ => none }
def BitsBackWrongFalsely : Prop := bitsBackRow.holds Try.pinned (OpenSpec.ofChange bitsBackWrong)

/- THE SECOND FORM. 'bulk': how many values and letters a reading holds, each counted each time it is reached (what is shared counts as often as it is met; a slice's spare places count too). A statement '..UptoSaid' is the law's where the arguments, and the package variables that the reading takes, are together of bulk at most 1048576: NARROWER than '..Said'. Prove '..Said' where nothing that the law and all that it calls make is longer than what came in: it says more and counts as full. Else prove '..UptoSaid'. A law counts once. -/
mutual
def uptoBulk {H : Type} : DataW H → Nat
  | .lit (.string bytes) => bytes.length + 1
  | .lit _ => 1
  | .nil => 1
  | .ptr d => uptoBulk d + 1
  | .slice elems spare => uptoBulkAll elems + uptoBulkAll spare + 1
  | .agg parts => uptoBulkAll parts + 1
  | .iface _ d => uptoBulk d + 1
  | .map entries => uptoBulkEntries entries + 1
  | .held _ => 1
def uptoBulkAll {H : Type} : List (DataW H) → Nat
  | [] => 0
  | d :: r => uptoBulk d + uptoBulkAll r
def uptoBulkEntries {H : Type} : List (Lit × DataW H) → Nat
  | [] => 0
  | x :: r => uptoBulkEntry x + uptoBulkEntries r
def uptoBulkEntry {H : Type} : Lit × DataW H → Nat
  | (.string bytes, d) => bytes.length + uptoBulk d + 1
  | (_, d) => uptoBulk d + 1
 end
def uptoSmall : (H : Type) → List (DataW H) → Bool := fun _ ds => decide (uptoBulkAll ds ≤ 1048576)
def OpenSpec.upto (s : _root_.Go.ChangeSpec) : _root_.Go.OpenSpec := { _root_.Go.OpenSpec.ofChange s with cond := some uptoSmall }

/-- 'clapkeep1.DecimalRounded', WHERE WHAT IT READS IS OF BULK AT MOST 1048576: true; the input reads as it did. -/
def decimalRoundedUptoRow : OpenClaim := { program := "ytpoolbachhelgaa", sum := "8095aff92a432826ce606def5c3452b01cffec17933974c03d26d3ff87d145dd", func := "clapperbridge/clapkeep1.DecimalRounded", spec := "decimalRounded", apart := false, narrowed := true }
def DecimalRoundedUptoSaid : Prop := decimalRoundedUptoRow.holds Try.pinned (OpenSpec.upto decimalRoundedSpec)

/-- 'clapkeep1.FloatMade', WHERE WHAT IT READS IS OF BULK AT MOST 1048576: true; the input reads as it did. -/
def floatMadeUptoRow : OpenClaim := { program := "ytpoolbachhelgaa", sum := "8095aff92a432826ce606def5c3452b01cffec17933974c03d26d3ff87d145dd", func := "clapperbridge/clapkeep1.FloatMade", spec := "floatMade", apart := false, narrowed := true }
def FloatMadeUptoSaid : Prop := floatMadeUptoRow.holds Try.pinned (OpenSpec.upto floatMadeSpec)

/-- 'clapkeep1.FloatSteps', WHERE WHAT IT READS IS OF BULK AT MOST 1048576: true; the input reads as it did. -/
def floatStepsUptoRow : OpenClaim := { program := "ytpoolbachhelgaa", sum := "8095aff92a432826ce606def5c3452b01cffec17933974c03d26d3ff87d145dd", func := "clapperbridge/clapkeep1.FloatSteps", spec := "floatSteps", apart := false, narrowed := true }
def FloatStepsUptoSaid : Prop := floatStepsUptoRow.holds Try.pinned (OpenSpec.upto floatStepsSpec)

/-- 'clapkeep1.UtfBack', WHERE WHAT IT READS IS OF BULK AT MOST 1048576: true; the input reads as it did. -/
def utfBackUptoRow : OpenClaim := { program := "ytpoolbachhelgaa", sum := "8095aff92a432826ce606def5c3452b01cffec17933974c03d26d3ff87d145dd", func := "clapperbridge/clapkeep1.UtfBack", spec := "utfBack", inPlace := ["internal/abi.NoEscape"], apart := false, narrowed := true }
def UtfBackUptoSaid : Prop := utfBackUptoRow.holds Try.pinned (OpenSpec.upto utfBackSpec)

/-- 'clapkeep1.UtfMended', WHERE WHAT IT READS IS OF BULK AT MOST 1048576: true; the input reads as it did. -/
def utfMendedUptoRow : OpenClaim := { program := "ytpoolbachhelgaa", sum := "8095aff92a432826ce606def5c3452b01cffec17933974c03d26d3ff87d145dd", func := "clapperbridge/clapkeep1.UtfMended", spec := "utfMended", inPlace := ["internal/abi.NoEscape"], apart := false, narrowed := true }
def UtfMendedUptoSaid : Prop := utfMendedUptoRow.holds Try.pinned (OpenSpec.upto utfMendedSpec)

/-- 'clapkeep1.UtfLines', WHERE WHAT IT READS IS OF BULK AT MOST 1048576: true; the input reads as it did. -/
def utfLinesUptoRow : OpenClaim := { program := "ytpoolbachhelgaa", sum := "8095aff92a432826ce606def5c3452b01cffec17933974c03d26d3ff87d145dd", func := "clapperbridge/clapkeep1.UtfLines", spec := "utfLines", inPlace := ["internal/abi.NoEscape", "internal/bytealg.IndexByteString", "internal/bytealg.IndexString", "internal/bytealg.CountString"], named := ["internal/bytealg.MaxLen"], apart := false, narrowed := true }
def UtfLinesUptoSaid : Prop := utfLinesUptoRow.holds Try.pinned (OpenSpec.upto utfLinesSpec)

/-- 'clapkeep1.BitsBack', WHERE WHAT IT READS IS OF BULK AT MOST 1048576: true; the input reads as it did. -/
def bitsBackUptoRow : OpenClaim := { program := "ytpoolbachhelgaa", sum := "8095aff92a432826ce606def5c3452b01cffec17933974c03d26d3ff87d145dd", func := "clapperbridge/clapkeep1.BitsBack", spec := "bitsBack", inPlace := ["internal/abi.NoEscape"], apart := false, narrowed := true }
def BitsBackUptoSaid : Prop := bitsBackUptoRow.holds Try.pinned (OpenSpec.upto bitsBackSpec)

end Rows
end Go.Proofs.Ytpoolbachhelgaa
