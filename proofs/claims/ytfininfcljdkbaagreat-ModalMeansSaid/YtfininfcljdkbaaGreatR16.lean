/- Refinement, part Rc: ladders that are given; the reference's check of them. -/
import Derived.Test.YtfininfcljdkbaaGreatR15
import Derived.Test.YtfininfcljdkbaaGreatR9
set_option linter.unusedSimpArgs false
set_option linter.unusedVariables false
namespace Go.Proofs.YtfininfcljdkbaaGreat
open Go Go.NS
end Go.Proofs.YtfininfcljdkbaaGreat
/- Refinement, part Rd: the program's check of ladders. -/
namespace Go.Proofs.YtfininfcljdkbaaGreat
open Go Go.NS
end Go.Proofs.YtfininfcljdkbaaGreat
/- Refinement, part Re: what a proof asks of a pair, by the reference. -/
namespace Go.Proofs.YtfininfcljdkbaaGreat
open Go Go.NS
end Go.Proofs.YtfininfcljdkbaaGreat
/- Refinement, part Rf: proofs, by the reference. -/
namespace Go.Proofs.YtfininfcljdkbaaGreat
open Go Go.NS
end Go.Proofs.YtfininfcljdkbaaGreat
