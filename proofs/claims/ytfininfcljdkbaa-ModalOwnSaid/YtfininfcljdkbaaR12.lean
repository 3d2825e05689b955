/- Refinement, part Qa: accepted sets; errors, by the program. -/
import Derived.Test.YtfininfcljdkbaaR11
set_option linter.unusedSimpArgs false
set_option linter.unusedVariables false
namespace Go.Proofs.Ytfininfcljdkbaa
open Go Go.NS
structure CmpS (a b : Sp) (k : Nat) : Prop where
  m : a.Val k
  n : b.Val k
  e : a.acts = b.acts
end Go.Proofs.Ytfininfcljdkbaa
/- Refinement, part Qb: the pairs of states that are met, by the program. -/
namespace Go.Proofs.Ytfininfcljdkbaa
open Go Go.NS
end Go.Proofs.Ytfininfcljdkbaa
/- Refinement, part Qc: the way to a pair; the depth; ladders, by the program. -/
namespace Go.Proofs.Ytfininfcljdkbaa
open Go Go.NS
end Go.Proofs.Ytfininfcljdkbaa
/- Specifications, part Qd: sets that lead along a word, by the program. -/
namespace Go.Proofs.Ytfininfcljdkbaa
open Go Go.NS
end Go.Proofs.Ytfininfcljdkbaa
