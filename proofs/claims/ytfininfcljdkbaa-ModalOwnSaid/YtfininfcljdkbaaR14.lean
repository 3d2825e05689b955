/- Refinement, part Qh: Judge, by the program. -/
import Derived.Test.YtfininfcljdkbaaR13
import Derived.Test.YtfininfcljdkbaaR11
import Derived.Test.YtfininfcljdkbaaR9
set_option linter.unusedSimpArgs false
set_option linter.unusedVariables false
namespace Go.Proofs.Ytfininfcljdkbaa
open Go Go.NS
end Go.Proofs.Ytfininfcljdkbaa
/- Refinement, part Qj: Refines and Equal, by the program. -/
namespace Go.Proofs.Ytfininfcljdkbaa
open Go Go.NS
end Go.Proofs.Ytfininfcljdkbaa
/- Refinement, part Qk: orders of refinement; the smallest examples (plain). -/
namespace Go.Proofs.Ytfininfcljdkbaa
open Go Go.NS
section
variable {s t : Sp} {k : Nat}
end
end Go.Proofs.Ytfininfcljdkbaa
/- Refinement, part Ql: the reference's All; what the statements of chapter 05 begin with. -/
namespace Go.Proofs.Ytfininfcljdkbaa
open Go Go.NS
end Go.Proofs.Ytfininfcljdkbaa
/- Refinement, part Qm: what the statements of chapter 05 wait for; the law RefineMeasures. -/
namespace Go.Proofs.Ytfininfcljdkbaa
open Go Go.NS
end Go.Proofs.Ytfininfcljdkbaa
