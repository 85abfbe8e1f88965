/- clapkeep1.PatternQuoted answers true; the strings' sizes are those that a claim's row gives. -/
import Derived.Test.YtebcflgdjbjkoaaBuildP
import Derived.Test.YtebcflgdjbjkoaaPatternQuoted
namespace Go.Proofs.Ytebcflgdjbjkoaa
open Go.RowKit

theorem patternQuoted_law (s t : ByteArray) (w : World) {p q : Prop} (_ : p) (hs : s.size ≤ 140737488351232) (_ : q) (ht : t.size ≤ 140737488351232) :
    Calls Try.prog 3 #[.string s, .string t] w fun e w' => e = .returned (.bool true) ∧ Below w.heap.size w w' := patternQuoted_walk build_any s t w hs ht

end Go.Proofs.Ytebcflgdjbjkoaa
