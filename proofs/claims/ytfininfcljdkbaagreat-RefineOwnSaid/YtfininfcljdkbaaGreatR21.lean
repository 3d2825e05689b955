/- The law RefineTells. -/
import Derived.Test.YtfininfcljdkbaaGreatR20
set_option linter.unusedSimpArgs false
set_option linter.unusedVariables false
namespace Go.Proofs.YtfininfcljdkbaaGreat
open Go Go.NS
end Go.Proofs.YtfininfcljdkbaaGreat
