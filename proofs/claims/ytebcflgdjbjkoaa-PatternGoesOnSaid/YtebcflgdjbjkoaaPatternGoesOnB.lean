/- clapkeep1.PatternGoesOn answers true. -/
import Derived.Test.YtebcflgdjbjkoaaBuildP
import Derived.Test.YtebcflgdjbjkoaaPatternGoesOn
namespace Go.Proofs.Ytebcflgdjbjkoaa
open Go.RowKit

theorem patternGoesOn_law (p1 : Option Addr) (l1 c1 : Nat) (zs1 : List Int) (n0 : Int) (w : World) (h1 : IsRow .i64 w p1 l1 c1 zs1) {q : Prop} (_ : q) :
    Calls Try.prog 5 #[.slice p1 l1 c1, .int .i64 n0] w fun e w' => e = .returned (.bool true) ∧ Below w.heap.size w w' := patternGoesOn_walk build_any p1 l1 c1 zs1 n0 w h1

end Go.Proofs.Ytebcflgdjbjkoaa
