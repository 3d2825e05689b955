/- Refinement, part Ra: refinement is transitive (plain). -/
import Derived.Test.YtfininfcljdkbaaR14
set_option linter.unusedSimpArgs false
set_option linter.unusedVariables false
namespace Go.Proofs.Ytfininfcljdkbaa
open Go Go.NS
section
variable {s t u : Sp} {k : Nat}
end
end Go.Proofs.Ytfininfcljdkbaa
