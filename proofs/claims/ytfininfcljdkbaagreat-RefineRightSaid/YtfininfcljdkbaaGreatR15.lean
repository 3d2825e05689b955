/- Refinement, part Ra: refinement is transitive (plain). -/
import Derived.Test.YtfininfcljdkbaaGreatR14
set_option linter.unusedSimpArgs false
set_option linter.unusedVariables false
namespace Go.Proofs.YtfininfcljdkbaaGreat
open Go Go.NS
section
variable {s t u : Sp} {k : Nat}
end
end Go.Proofs.YtfininfcljdkbaaGreat
/- Refinement, part Rb: the law RefineOrders. -/
namespace Go.Proofs.YtfininfcljdkbaaGreat
open Go Go.NS
end Go.Proofs.YtfininfcljdkbaaGreat
