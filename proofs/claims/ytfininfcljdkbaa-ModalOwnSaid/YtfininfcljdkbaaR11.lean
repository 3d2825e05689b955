/- Specifications, part Pb: hollow states, by the reference. -/
import Derived.Test.YtfininfcljdkbaaR10
import Derived.Test.YtfininfcljdkbaaR2
set_option linter.unusedSimpArgs false
set_option linter.unusedVariables false
namespace Go.Proofs.Ytfininfcljdkbaa
open Go Go.NS
end Go.Proofs.Ytfininfcljdkbaa
/- Specifications, part Pc: the solid part, by the reference. -/
namespace Go.Proofs.Ytfininfcljdkbaa
open Go Go.NS
end Go.Proofs.Ytfininfcljdkbaa
/- Specifications, part Pd: nothing; the order of the states, by the reference. -/
namespace Go.Proofs.Ytfininfcljdkbaa
open Go Go.NS
end Go.Proofs.Ytfininfcljdkbaa
/- Specifications, part Pe: the trimmed specification, by the reference. -/
namespace Go.Proofs.Ytfininfcljdkbaa
open Go Go.NS
section
variable {s : Sp} {k : Nat}
end
end Go.Proofs.Ytfininfcljdkbaa
/- Specifications, part Pg: what is around one; sets that are not accepted; by the reference. -/
namespace Go.Proofs.Ytfininfcljdkbaa
open Go Go.NS
end Go.Proofs.Ytfininfcljdkbaa
/- Specifications, part Pi: refinement, by the reference. -/
namespace Go.Proofs.Ytfininfcljdkbaa
open Go Go.NS
end Go.Proofs.Ytfininfcljdkbaa
