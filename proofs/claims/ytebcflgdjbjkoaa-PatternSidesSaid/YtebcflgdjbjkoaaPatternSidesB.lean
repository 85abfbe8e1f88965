/- clapkeep1.PatternSides answers true. -/
import Derived.Test.YtebcflgdjbjkoaaBuildP
import Derived.Test.YtebcflgdjbjkoaaPatternSides
namespace Go.Proofs.Ytebcflgdjbjkoaa
open Go.RowKit

theorem patternSides_law (p1 : Option Addr) (l1 c1 : Nat) (zs1 : List Int) (p2 : Option Addr) (l2 c2 : Nat) (zs2 : List Int) (w : World) (h1 : IsRow .i64 w p1 l1 c1 zs1) (h2 : IsRow .i64 w p2 l2 c2 zs2) :
    Calls Try.prog 4 #[.slice p1 l1 c1, .slice p2 l2 c2] w fun e w' => e = .returned (.bool true) ∧ Below w.heap.size w w' := patternSides_walk build_any p1 l1 c1 zs1 p2 l2 c2 zs2 w h1 h2

end Go.Proofs.Ytebcflgdjbjkoaa
