/- clapkeep1.PatternLists answers true. -/
import Derived.Test.YtebcflgdjbjkoaaBuildP
import Derived.Test.YtebcflgdjbjkoaaPatternLists
namespace Go.Proofs.Ytebcflgdjbjkoaa
open Go.RowKit

theorem patternLists_law (p1 : Option Addr) (l1 c1 : Nat) (zs1 : List Int) (n0 : Int) (w : World) (h1 : IsRow .i64 w p1 l1 c1 zs1) (hn0 : (Lit.int .i64 n0).wf = true) :
    Calls Try.prog 6 #[.slice p1 l1 c1, .int .i64 n0] w fun e w' => e = .returned (.bool true) ∧ Below w.heap.size w w' := patternLists_walk build_any p1 l1 c1 zs1 n0 w h1 hn0

end Go.Proofs.Ytebcflgdjbjkoaa
