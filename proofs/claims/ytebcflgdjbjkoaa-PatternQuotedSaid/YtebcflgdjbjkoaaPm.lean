/- What the reader of patterns makes of a text (without classes in brackets, and where it does not fail); no condition beyond those that stand there. -/
import Derived.Test.YtebcflgdjbjkoaaLink
namespace Go.Proofs.Ytebcflgdjbjkoaa
open Go.RowKit

/-- What is being read. -/
inductive Rd where
  | alt
  | altL (out : Part)
  | seq
  | seqL (out : Part)
  | item
  | atom
def pos1 (st : PSt) : PSt := ⟨st.pos + 1, st.cls, st.fol, st.bad⟩
/-- A set with all numbers below 256. -/
def sfull : Set4 := [18446744073709551615, 18446744073709551615, 18446744073709551615, 18446744073709551615]
def posG (st : PSt) (k : Set4) : Option (PSt × Part) := if st.cls.length ≤ 255 ∧ st.fol.length ≤ 255 ∧ st.pos ≤ 990 then some (posM st k) else none
def quoted : List Nat := [124, 42, 43, 63, 40, 41, 91, 93]
def readM (s : ByteArray) : Nat → Rd → PSt → Option (PSt × Part)
  | 0, _, _ => none
  | n + 1, .alt, st => (readM s n .seq st).bind fun r => readM s n (.altL r.2) r.1
  | n + 1, .altL out, st =>
    if 990 < st.pos then none
    else if moreM s st = true ∧ peekM s st.pos = 124 then (readM s n .seq (pos1 st)).bind fun r => readM s n (.altL ⟨out.em || r.2.em, sjoin out.fst r.2.fst, sjoin out.lst r.2.lst⟩) r.1
    else some (st, out)
  | n + 1, .seq, st => readM s n (.seqL ⟨true, e4, e4⟩) st
  | n + 1, .seqL out, st =>
    if moreM s st = true ∧ peekM s st.pos ≠ 124 ∧ peekM s st.pos ≠ 41 then
      (readM s n .item st).bind fun r => readM s n (.seqL ⟨out.em && r.2.em, if out.em then sjoin out.fst r.2.fst else out.fst, sjoin (if r.2.em then out.lst else e4) r.2.lst⟩) (linkM r.1 out.lst r.2.fst)
    else some (st, out)
  | n + 1, .item, st => (readM s n .atom st).bind fun r =>
    if 990 < r.1.pos then none
    else if moreM s r.1 = true ∧ (peekM s r.1.pos = 42 ∨ peekM s r.1.pos = 43 ∨ peekM s r.1.pos = 63) then
      some (if peekM s r.1.pos ≠ 63 then linkM (pos1 r.1) r.2.lst r.2.fst else pos1 r.1, ⟨r.2.em || decide (peekM s r.1.pos ≠ 43), r.2.fst, r.2.lst⟩)
    else some r
  | n + 1, .atom, st =>
    if 990 < st.pos then none
    else if peekM s st.pos = 40 then (readM s n .alt (pos1 st)).bind fun r => if r.1.bad = false ∧ peekM s r.1.pos = 41 ∧ r.1.pos < s.size ∧ r.1.pos ≤ 990 then some (pos1 r.1, r.2) else none
    else if peekM s st.pos = 46 then posG (pos1 st) sfull
    else if peekM s st.pos = 91 then none
    else if peekM s st.pos = 92 then if st.pos + 1 < s.size then posG (pos1 (pos1 st)) (sadd e4 (peekM s (st.pos + 1))) else none
    else if peekM s st.pos ∈ quoted then none
    else posG (pos1 st) (sadd e4 (peekM s st.pos))

end Go.Proofs.Ytebcflgdjbjkoaa
