/- Specifications, part Pb: hollow states, by the reference. -/
import Derived.Test.YtfininfcljdkbaaGreatR10
import Derived.Test.YtfininfcljdkbaaGreatR2
set_option linter.unusedSimpArgs false
set_option linter.unusedVariables false
namespace Go.Proofs.YtfininfcljdkbaaGreat
open Go Go.NS
end Go.Proofs.YtfininfcljdkbaaGreat
/- Specifications, part Pc: the solid part, by the reference. -/
namespace Go.Proofs.YtfininfcljdkbaaGreat
open Go Go.NS
end Go.Proofs.YtfininfcljdkbaaGreat
/- Specifications, part Pd: nothing; the order of the states, by the reference. -/
namespace Go.Proofs.YtfininfcljdkbaaGreat
open Go Go.NS
end Go.Proofs.YtfininfcljdkbaaGreat
/- Specifications, part Pe: the trimmed specification, by the reference. -/
namespace Go.Proofs.YtfininfcljdkbaaGreat
open Go Go.NS
section
variable {s : Sp} {k : Nat}
end
end Go.Proofs.YtfininfcljdkbaaGreat
/- Specifications, part Pg: what is around one; sets that are not accepted; by the reference. -/
namespace Go.Proofs.YtfininfcljdkbaaGreat
open Go Go.NS
theorem mem_natsI {l : List Nat} {v : Nat} : ((v : Int) ∈ natsI l) ↔ v ∈ l := by
  simp only [natsI, List.mem_map]
  constructor
  · rintro ⟨a, h, e⟩; have : a = v := by omega
    exact this ▸ h
  · intro h; exact ⟨v, h, rfl⟩
end Go.Proofs.YtfininfcljdkbaaGreat
/- Specifications, part Pi: refinement, by the reference. -/
namespace Go.Proofs.YtfininfcljdkbaaGreat
open Go Go.NS
end Go.Proofs.YtfininfcljdkbaaGreat
