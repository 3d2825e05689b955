/-
  No cell of these rows narrows 'for every input' (looked for: loops, veiled, ifaces, maps, wideKeys, modest, calm, conditions, laid).
  DERIVED. THE GIVEN ROWS OF THIS SEAT. 6 by the template 'for every input the law returns true; each argument reads behind the call as it read before'; 0 by the template 'total and deterministic' (their statements: YtfininfcljdkbaaGreatTotals.lean).
  GIVEN WITH THE SEED: the statements are not yours to turn. If you find one false, say at which input.
  Laid BY PROGRAM, IN A SANDBOX (cutbox-rows.mjs): the forced cells as the released guide's own fill.sh prints them over the translation 240019f374fb3f4b… (all of the seat's roots in one cut). By AI agents, Wed Nov 11 2026. No macro, syntax, notation, axiom, sorry.
-/
import Derived.Test.YtfininfcljdkbaaGreatChecked
import GoSem.Claim
import GoSem.ClaimJoined
import GoSem.ClaimMapViews
import Derived.JoinedTies
import Derived.KernelRfl
namespace Go.Proofs.YtfininfcljdkbaaGreat
/- THE CELL 'sum', in the pinned program and in every row, IS THE sha256 OF THE DUMP (.gsa) THAT YtfininfcljdkbaaGreatProg.lean LOADS. Nothing in Lean hashes anything: it is a label: what it is worth is what the hold of that sum in a sandbox is worth. -/
noncomputable def Tryz.pinned : Pinned := { name := "ytfininfcljdkbaagreat", sum := "240019f374fb3f4b9b8b6c695e4d818097ed5ebbce19c8dc388ab75e9e6eea84", checked := Tryz.checked }
namespace Rows
def none {H : Type} : Left H := { results := [], args := [] }

/-- 'makeweightlaw10.ModalLeast': WHATEVER THE INPUT: true; the input reads as it did. -/
def modalLeastSpec : ChangeSpec := { name := "modalLeast", fn := fun _ => fun
  | [d1, d2] => { results := [.lit (.bool true)], args := [d1, d2] }
  | _ => none }
def modalLeastRow : OpenClaim := { program := "ytfininfcljdkbaagreat", sum := "240019f374fb3f4b9b8b6c695e4d818097ed5ebbce19c8dc388ab75e9e6eea84", func := "makeweight/makeweightlaw10.ModalLeast", spec := "modalLeast", unfollowed := true, recurses := true, plainKeys := false, apart := false }
def ModalLeastSaid : Prop := modalLeastRow.holds Tryz.pinned (OpenSpec.ofChange modalLeastSpec)

/-- ITS FALSE NEIGHBOUR: 'it returns false'. Refute it at one input. -/
def modalLeastWrong : ChangeSpec := { name := "modalLeast", fn := fun _ => fun
  | [d1, d2] => { results := [.lit (.bool false)], args := [d1, d2] }
  | _ => none }
def ModalLeastWrongFalsely : Prop := modalLeastRow.holds Tryz.pinned (OpenSpec.ofChange modalLeastWrong)

/-- 'makeweightlaw10.ModalMeans': WHATEVER THE INPUT: true; the input reads as it did. -/
def modalMeansSpec : ChangeSpec := { name := "modalMeans", fn := fun _ => fun
  | [d1, d2, d3] => { results := [.lit (.bool true)], args := [d1, d2, d3] }
  | _ => none }
def modalMeansRow : OpenClaim := { program := "ytfininfcljdkbaagreat", sum := "240019f374fb3f4b9b8b6c695e4d818097ed5ebbce19c8dc388ab75e9e6eea84", func := "makeweight/makeweightlaw10.ModalMeans", spec := "modalMeans", unfollowed := true, recurses := true, plainKeys := false, apart := false }
def ModalMeansSaid : Prop := modalMeansRow.holds Tryz.pinned (OpenSpec.ofChange modalMeansSpec)

/-- ITS FALSE NEIGHBOUR: 'it returns false'. Refute it at one input. -/
def modalMeansWrong : ChangeSpec := { name := "modalMeans", fn := fun _ => fun
  | [d1, d2, d3] => { results := [.lit (.bool false)], args := [d1, d2, d3] }
  | _ => none }
def ModalMeansWrongFalsely : Prop := modalMeansRow.holds Tryz.pinned (OpenSpec.ofChange modalMeansWrong)

/-- 'makeweightlaw05.RefineTells': WHATEVER THE INPUT: true; the input reads as it did. -/
def refineTellsSpec : ChangeSpec := { name := "refineTells", fn := fun _ => fun
  | [d1, d2] => { results := [.lit (.bool true)], args := [d1, d2] }
  | _ => none }
def refineTellsRow : OpenClaim := { program := "ytfininfcljdkbaagreat", sum := "240019f374fb3f4b9b8b6c695e4d818097ed5ebbce19c8dc388ab75e9e6eea84", func := "makeweight/makeweightlaw05.RefineTells", spec := "refineTells", unfollowed := true, recurses := true, plainKeys := false, apart := false }
def RefineTellsSaid : Prop := refineTellsRow.holds Tryz.pinned (OpenSpec.ofChange refineTellsSpec)

/-- ITS FALSE NEIGHBOUR: 'it returns false'. Refute it at one input. -/
def refineTellsWrong : ChangeSpec := { name := "refineTells", fn := fun _ => fun
  | [d1, d2] => { results := [.lit (.bool false)], args := [d1, d2] }
  | _ => none }
def RefineTellsWrongFalsely : Prop := refineTellsRow.holds Tryz.pinned (OpenSpec.ofChange refineTellsWrong)

/-- 'makeweightlaw05.RefineRight': WHATEVER THE INPUT: true; the input reads as it did. -/
def refineRightSpec : ChangeSpec := { name := "refineRight", fn := fun _ => fun
  | [d1, d2, d3] => { results := [.lit (.bool true)], args := [d1, d2, d3] }
  | _ => none }
def refineRightRow : OpenClaim := { program := "ytfininfcljdkbaagreat", sum := "240019f374fb3f4b9b8b6c695e4d818097ed5ebbce19c8dc388ab75e9e6eea84", func := "makeweight/makeweightlaw05.RefineRight", spec := "refineRight", unfollowed := true, recurses := true, plainKeys := false, apart := false }
def RefineRightSaid : Prop := refineRightRow.holds Tryz.pinned (OpenSpec.ofChange refineRightSpec)

/-- ITS FALSE NEIGHBOUR: 'it returns false'. Refute it at one input. -/
def refineRightWrong : ChangeSpec := { name := "refineRight", fn := fun _ => fun
  | [d1, d2, d3] => { results := [.lit (.bool false)], args := [d1, d2, d3] }
  | _ => none }
def RefineRightWrongFalsely : Prop := refineRightRow.holds Tryz.pinned (OpenSpec.ofChange refineRightWrong)

/-- 'makeweightlaw05.RefineOwn': WHATEVER THE INPUT: true; the input reads as it did. -/
def refineOwnSpec : ChangeSpec := { name := "refineOwn", fn := fun _ => fun
  | [d1, d2] => { results := [.lit (.bool true)], args := [d1, d2] }
  | _ => none }
def refineOwnRow : OpenClaim := { program := "ytfininfcljdkbaagreat", sum := "240019f374fb3f4b9b8b6c695e4d818097ed5ebbce19c8dc388ab75e9e6eea84", func := "makeweight/makeweightlaw05.RefineOwn", spec := "refineOwn", unfollowed := true, recurses := true, plainKeys := false, apart := false }
def RefineOwnSaid : Prop := refineOwnRow.holds Tryz.pinned (OpenSpec.ofChange refineOwnSpec)

/-- ITS FALSE NEIGHBOUR: 'it returns false'. Refute it at one input. -/
def refineOwnWrong : ChangeSpec := { name := "refineOwn", fn := fun _ => fun
  | [d1, d2] => { results := [.lit (.bool false)], args := [d1, d2] }
  | _ => none }
def RefineOwnWrongFalsely : Prop := refineOwnRow.holds Tryz.pinned (OpenSpec.ofChange refineOwnWrong)

/-- 'makeweightlaw05.RefineSound': WHATEVER THE INPUT: true; the input reads as it did. -/
def refineSoundSpec : ChangeSpec := { name := "refineSound", fn := fun _ => fun
  | [d1, d2, d3] => { results := [.lit (.bool true)], args := [d1, d2, d3] }
  | _ => none }
def refineSoundRow : OpenClaim := { program := "ytfininfcljdkbaagreat", sum := "240019f374fb3f4b9b8b6c695e4d818097ed5ebbce19c8dc388ab75e9e6eea84", func := "makeweight/makeweightlaw05.RefineSound", spec := "refineSound", unfollowed := true, recurses := true, plainKeys := false, apart := false }
def RefineSoundSaid : Prop := refineSoundRow.holds Tryz.pinned (OpenSpec.ofChange refineSoundSpec)

/-- ITS FALSE NEIGHBOUR: 'it returns false'. Refute it at one input. -/
def refineSoundWrong : ChangeSpec := { name := "refineSound", fn := fun _ => fun
  | [d1, d2, d3] => { results := [.lit (.bool false)], args := [d1, d2, d3] }
  | _ => none }
def RefineSoundWrongFalsely : Prop := refineSoundRow.holds Tryz.pinned (OpenSpec.ofChange refineSoundWrong)

/- THE SECOND FORM. 'bulk': how many values and letters a reading holds, each counted each time it is reached (what is shared counts as often as it is met; a slice's spare places count too). A statement '..UptoSaid' is the law's where the arguments, and the package variables that the reading takes, are together of bulk at most 1048576: NARROWER than '..Said'. Prove '..Said' where nothing that the law and all that it calls make is longer than what came in: it says more and counts as full. Else prove '..UptoSaid'. A law counts once. -/
mutual
def uptoBulk {H : Type} : DataW H → Nat
  | .lit (.string bytes) => bytes.length + 1
  | .lit _ => 1
  | .nil => 1
  | .ptr d => uptoBulk d + 1
  | .slice elems spare => uptoBulkAll elems + uptoBulkAll spare + 1
  | .agg parts => uptoBulkAll parts + 1
  | .iface _ d => uptoBulk d + 1
  | .map entries => uptoBulkEntries entries + 1
  | .held _ => 1
def uptoBulkAll {H : Type} : List (DataW H) → Nat
  | [] => 0
  | d :: r => uptoBulk d + uptoBulkAll r
def uptoBulkEntries {H : Type} : List (Lit × DataW H) → Nat
  | [] => 0
  | x :: r => uptoBulkEntry x + uptoBulkEntries r
def uptoBulkEntry {H : Type} : Lit × DataW H → Nat
  | (.string bytes, d) => bytes.length + uptoBulk d + 1
  | (_, d) => uptoBulk d + 1
 end
def uptoSmall : (H : Type) → List (DataW H) → Bool := fun _ ds => decide (uptoBulkAll ds ≤ 1048576)
def OpenSpec.upto (s : _root_.Go.ChangeSpec) : _root_.Go.OpenSpec := { _root_.Go.OpenSpec.ofChange s with cond := some uptoSmall }

/-- 'makeweightlaw10.ModalLeast', WHERE WHAT IT READS IS OF BULK AT MOST 1048576: true; the input reads as it did. -/
def modalLeastUptoRow : OpenClaim := { program := "ytfininfcljdkbaagreat", sum := "240019f374fb3f4b9b8b6c695e4d818097ed5ebbce19c8dc388ab75e9e6eea84", func := "makeweight/makeweightlaw10.ModalLeast", spec := "modalLeast", unfollowed := true, recurses := true, plainKeys := false, apart := false, narrowed := true }
def ModalLeastUptoSaid : Prop := modalLeastUptoRow.holds Tryz.pinned (OpenSpec.upto modalLeastSpec)

/-- 'makeweightlaw10.ModalMeans', WHERE WHAT IT READS IS OF BULK AT MOST 1048576: true; the input reads as it did. -/
def modalMeansUptoRow : OpenClaim := { program := "ytfininfcljdkbaagreat", sum := "240019f374fb3f4b9b8b6c695e4d818097ed5ebbce19c8dc388ab75e9e6eea84", func := "makeweight/makeweightlaw10.ModalMeans", spec := "modalMeans", unfollowed := true, recurses := true, plainKeys := false, apart := false, narrowed := true }
def ModalMeansUptoSaid : Prop := modalMeansUptoRow.holds Tryz.pinned (OpenSpec.upto modalMeansSpec)

/-- 'makeweightlaw05.RefineTells', WHERE WHAT IT READS IS OF BULK AT MOST 1048576: true; the input reads as it did. -/
def refineTellsUptoRow : OpenClaim := { program := "ytfininfcljdkbaagreat", sum := "240019f374fb3f4b9b8b6c695e4d818097ed5ebbce19c8dc388ab75e9e6eea84", func := "makeweight/makeweightlaw05.RefineTells", spec := "refineTells", unfollowed := true, recurses := true, plainKeys := false, apart := false, narrowed := true }
def RefineTellsUptoSaid : Prop := refineTellsUptoRow.holds Tryz.pinned (OpenSpec.upto refineTellsSpec)

/-- 'makeweightlaw05.RefineRight', WHERE WHAT IT READS IS OF BULK AT MOST 1048576: true; the input reads as it did. -/
def refineRightUptoRow : OpenClaim := { program := "ytfininfcljdkbaagreat", sum := "240019f374fb3f4b9b8b6c695e4d818097ed5ebbce19c8dc388ab75e9e6eea84", func := "makeweight/makeweightlaw05.RefineRight", spec := "refineRight", unfollowed := true, recurses := true, plainKeys := false, apart := false, narrowed := true }
def RefineRightUptoSaid : Prop := refineRightUptoRow.holds Tryz.pinned (OpenSpec.upto refineRightSpec)

/-- 'makeweightlaw05.RefineOwn', WHERE WHAT IT READS IS OF BULK AT MOST 1048576: true; the input reads as it did. -/
def refineOwnUptoRow : OpenClaim := { program := "ytfininfcljdkbaagreat", sum := "240019f374fb3f4b9b8b6c695e4d818097ed5ebbce19c8dc388ab75e9e6eea84", func := "makeweight/makeweightlaw05.RefineOwn", spec := "refineOwn", unfollowed := true, recurses := true, plainKeys := false, apart := false, narrowed := true }
def RefineOwnUptoSaid : Prop := refineOwnUptoRow.holds Tryz.pinned (OpenSpec.upto refineOwnSpec)

/-- 'makeweightlaw05.RefineSound', WHERE WHAT IT READS IS OF BULK AT MOST 1048576: true; the input reads as it did. -/
def refineSoundUptoRow : OpenClaim := { program := "ytfininfcljdkbaagreat", sum := "240019f374fb3f4b9b8b6c695e4d818097ed5ebbce19c8dc388ab75e9e6eea84", func := "makeweight/makeweightlaw05.RefineSound", spec := "refineSound", unfollowed := true, recurses := true, plainKeys := false, apart := false, narrowed := true }
def RefineSoundUptoSaid : Prop := refineSoundUptoRow.holds Tryz.pinned (OpenSpec.upto refineSoundSpec)

end Rows
end Go.Proofs.YtfininfcljdkbaaGreat
