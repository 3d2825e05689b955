/- Refinement, part Rg: proofs, by the program. -/
import Derived.Test.YtfininfcljdkbaaGreatR2
import Derived.Test.YtfininfcljdkbaaGreatR16
set_option linter.unusedSimpArgs false
set_option linter.unusedVariables false
namespace Go.Proofs.YtfininfcljdkbaaGreat
open Go Go.NS
end Go.Proofs.YtfininfcljdkbaaGreat
/- Refinement, part Rh: the law RefineProves. -/
namespace Go.Proofs.YtfininfcljdkbaaGreat
open Go Go.NS
structure Pf where
  lad : List Int
  pairs : List (Int × Int)
def Pf.av (p : Pf) : AV := .agg [intsA p.lad, pairsA p.pairs]
structure Pf.Small (p : Pf) : Prop where
  l : p.lad.length * 8 ≤ 140737488351232
  p : p.pairs.length * 16 ≤ 140737488351232
end Go.Proofs.YtfininfcljdkbaaGreat
