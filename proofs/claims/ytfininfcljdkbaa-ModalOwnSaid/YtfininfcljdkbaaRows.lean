/-
  No cell of these rows narrows 'for every input' (looked for: loops, veiled, ifaces, maps, wideKeys, modest, calm, conditions, laid).
  DERIVED. THE GIVEN ROWS OF THIS SEAT. 9 by the template 'for every input the law returns true; each argument reads behind the call as it read before'; 0 by the template 'total and deterministic' (their statements: YtfininfcljdkbaaTotals.lean).
  GIVEN WITH THE SEED: the statements are not yours to turn. If you find one false, say at which input.
  Laid BY PROGRAM, IN A SANDBOX (cutbox-rows.mjs): the forced cells as the released guide's own fill.sh prints them over the translation 9f84e361c1b0d9e4… (all of the seat's roots in one cut). By AI agents, Wed Nov 11 2026. No macro, syntax, notation, axiom, sorry.
-/
import Derived.Test.YtfininfcljdkbaaChecked
import GoSem.Claim
import GoSem.ClaimJoined
import GoSem.ClaimMapViews
import Derived.JoinedTies
import Derived.KernelRfl
namespace Go.Proofs.Ytfininfcljdkbaa
/- THE CELL 'sum', in the pinned program and in every row, IS THE sha256 OF THE DUMP (.gsa) THAT YtfininfcljdkbaaProg.lean LOADS. Nothing in Lean hashes anything: it is a label: what it is worth is what the hold of that sum in a sandbox is worth. -/
noncomputable def Try.pinned : Pinned := { name := "ytfininfcljdkbaa", sum := "9f84e361c1b0d9e4b9f5fc8113ce94019e1ac44bbea503578c94d5f0d63fe54a", checked := Try.checked }
namespace Rows
def none {H : Type} : Left H := { results := [], args := [] }

/-- 'makeweightlaw10.ModalRefines': WHATEVER THE INPUT: true; the input reads as it did. -/
def modalRefinesSpec : ChangeSpec := { name := "modalRefines", fn := fun _ => fun
  | [d1, d2] => { results := [.lit (.bool true)], args := [d1, d2] }
  | _ => none }
def modalRefinesRow : OpenClaim := { program := "ytfininfcljdkbaa", sum := "9f84e361c1b0d9e4b9f5fc8113ce94019e1ac44bbea503578c94d5f0d63fe54a", func := "makeweight/makeweightlaw10.ModalRefines", spec := "modalRefines", unfollowed := true, recurses := true, plainKeys := false, apart := false }
def ModalRefinesSaid : Prop := modalRefinesRow.holds Try.pinned (OpenSpec.ofChange modalRefinesSpec)

/-- ITS FALSE NEIGHBOUR: 'it returns false'. Refute it at one input. -/
def modalRefinesWrong : ChangeSpec := { name := "modalRefines", fn := fun _ => fun
  | [d1, d2] => { results := [.lit (.bool false)], args := [d1, d2] }
  | _ => none }
def ModalRefinesWrongFalsely : Prop := modalRefinesRow.holds Try.pinned (OpenSpec.ofChange modalRefinesWrong)

/-- 'makeweightlaw10.ModalAround': WHATEVER THE INPUT: true; the input reads as it did. -/
def modalAroundSpec : ChangeSpec := { name := "modalAround", fn := fun _ => fun
  | [d] => { results := [.lit (.bool true)], args := [d] }
  | _ => none }
def modalAroundRow : OpenClaim := { program := "ytfininfcljdkbaa", sum := "9f84e361c1b0d9e4b9f5fc8113ce94019e1ac44bbea503578c94d5f0d63fe54a", func := "makeweight/makeweightlaw10.ModalAround", spec := "modalAround", unfollowed := true, recurses := true, plainKeys := false, apart := false }
def ModalAroundSaid : Prop := modalAroundRow.holds Try.pinned (OpenSpec.ofChange modalAroundSpec)

/-- ITS FALSE NEIGHBOUR: 'it returns false'. Refute it at one input. -/
def modalAroundWrong : ChangeSpec := { name := "modalAround", fn := fun _ => fun
  | [d] => { results := [.lit (.bool false)], args := [d] }
  | _ => none }
def ModalAroundWrongFalsely : Prop := modalAroundRow.holds Try.pinned (OpenSpec.ofChange modalAroundWrong)

/-- 'makeweightlaw10.ModalSpecs': WHATEVER THE INPUT: true; the input reads as it did. -/
def modalSpecsSpec : ChangeSpec := { name := "modalSpecs", fn := fun _ => fun
  | [d] => { results := [.lit (.bool true)], args := [d] }
  | _ => none }
def modalSpecsRow : OpenClaim := { program := "ytfininfcljdkbaa", sum := "9f84e361c1b0d9e4b9f5fc8113ce94019e1ac44bbea503578c94d5f0d63fe54a", func := "makeweight/makeweightlaw10.ModalSpecs", spec := "modalSpecs", unfollowed := true, recurses := true, plainKeys := false, apart := false }
def ModalSpecsSaid : Prop := modalSpecsRow.holds Try.pinned (OpenSpec.ofChange modalSpecsSpec)

/-- ITS FALSE NEIGHBOUR: 'it returns false'. Refute it at one input. -/
def modalSpecsWrong : ChangeSpec := { name := "modalSpecs", fn := fun _ => fun
  | [d] => { results := [.lit (.bool false)], args := [d] }
  | _ => none }
def ModalSpecsWrongFalsely : Prop := modalSpecsRow.holds Try.pinned (OpenSpec.ofChange modalSpecsWrong)

/-- 'makeweightlaw10.ModalMeets': WHATEVER THE INPUT: true; the input reads as it did. -/
def modalMeetsSpec : ChangeSpec := { name := "modalMeets", fn := fun _ => fun
  | [d1, d2] => { results := [.lit (.bool true)], args := [d1, d2] }
  | _ => none }
def modalMeetsRow : OpenClaim := { program := "ytfininfcljdkbaa", sum := "9f84e361c1b0d9e4b9f5fc8113ce94019e1ac44bbea503578c94d5f0d63fe54a", func := "makeweight/makeweightlaw10.ModalMeets", spec := "modalMeets", unfollowed := true, recurses := true, plainKeys := false, apart := false }
def ModalMeetsSaid : Prop := modalMeetsRow.holds Try.pinned (OpenSpec.ofChange modalMeetsSpec)

/-- ITS FALSE NEIGHBOUR: 'it returns false'. Refute it at one input. -/
def modalMeetsWrong : ChangeSpec := { name := "modalMeets", fn := fun _ => fun
  | [d1, d2] => { results := [.lit (.bool false)], args := [d1, d2] }
  | _ => none }
def ModalMeetsWrongFalsely : Prop := modalMeetsRow.holds Try.pinned (OpenSpec.ofChange modalMeetsWrong)

/-- 'makeweightlaw10.ModalOwn': WHATEVER THE INPUT: true; the input reads as it did. -/
def modalOwnSpec : ChangeSpec := { name := "modalOwn", fn := fun _ => fun
  | [d1, d2] => { results := [.lit (.bool true)], args := [d1, d2] }
  | _ => none }
def modalOwnRow : OpenClaim := { program := "ytfininfcljdkbaa", sum := "9f84e361c1b0d9e4b9f5fc8113ce94019e1ac44bbea503578c94d5f0d63fe54a", func := "makeweight/makeweightlaw10.ModalOwn", spec := "modalOwn", unfollowed := true, recurses := true, plainKeys := false, apart := false }
def ModalOwnSaid : Prop := modalOwnRow.holds Try.pinned (OpenSpec.ofChange modalOwnSpec)

/-- ITS FALSE NEIGHBOUR: 'it returns false'. Refute it at one input. -/
def modalOwnWrong : ChangeSpec := { name := "modalOwn", fn := fun _ => fun
  | [d1, d2] => { results := [.lit (.bool false)], args := [d1, d2] }
  | _ => none }
def ModalOwnWrongFalsely : Prop := modalOwnRow.holds Try.pinned (OpenSpec.ofChange modalOwnWrong)

/-- 'makeweightlaw10.ModalRight': WHATEVER THE INPUT: true; the input reads as it did. -/
def modalRightSpec : ChangeSpec := { name := "modalRight", fn := fun _ => fun
  | [d1, d2, d3] => { results := [.lit (.bool true)], args := [d1, d2, d3] }
  | _ => none }
def modalRightRow : OpenClaim := { program := "ytfininfcljdkbaa", sum := "9f84e361c1b0d9e4b9f5fc8113ce94019e1ac44bbea503578c94d5f0d63fe54a", func := "makeweight/makeweightlaw10.ModalRight", spec := "modalRight", unfollowed := true, recurses := true, plainKeys := false, apart := false }
def ModalRightSaid : Prop := modalRightRow.holds Try.pinned (OpenSpec.ofChange modalRightSpec)

/-- ITS FALSE NEIGHBOUR: 'it returns false'. Refute it at one input. -/
def modalRightWrong : ChangeSpec := { name := "modalRight", fn := fun _ => fun
  | [d1, d2, d3] => { results := [.lit (.bool false)], args := [d1, d2, d3] }
  | _ => none }
def ModalRightWrongFalsely : Prop := modalRightRow.holds Try.pinned (OpenSpec.ofChange modalRightWrong)

/-- 'makeweightlaw05.RefineMeasures': WHATEVER THE INPUT: true; the input reads as it did. -/
def refineMeasuresSpec : ChangeSpec := { name := "refineMeasures", fn := fun _ => fun
  | [d1, d2] => { results := [.lit (.bool true)], args := [d1, d2] }
  | _ => none }
def refineMeasuresRow : OpenClaim := { program := "ytfininfcljdkbaa", sum := "9f84e361c1b0d9e4b9f5fc8113ce94019e1ac44bbea503578c94d5f0d63fe54a", func := "makeweight/makeweightlaw05.RefineMeasures", spec := "refineMeasures", unfollowed := true, recurses := true, plainKeys := false, apart := false }
def RefineMeasuresSaid : Prop := refineMeasuresRow.holds Try.pinned (OpenSpec.ofChange refineMeasuresSpec)

/-- ITS FALSE NEIGHBOUR: 'it returns false'. Refute it at one input. -/
def refineMeasuresWrong : ChangeSpec := { name := "refineMeasures", fn := fun _ => fun
  | [d1, d2] => { results := [.lit (.bool false)], args := [d1, d2] }
  | _ => none }
def RefineMeasuresWrongFalsely : Prop := refineMeasuresRow.holds Try.pinned (OpenSpec.ofChange refineMeasuresWrong)

/-- 'makeweightlaw05.RefineOrders': WHATEVER THE INPUT: true; the input reads as it did. -/
def refineOrdersSpec : ChangeSpec := { name := "refineOrders", fn := fun _ => fun
  | [d1, d2, d3] => { results := [.lit (.bool true)], args := [d1, d2, d3] }
  | _ => none }
def refineOrdersRow : OpenClaim := { program := "ytfininfcljdkbaa", sum := "9f84e361c1b0d9e4b9f5fc8113ce94019e1ac44bbea503578c94d5f0d63fe54a", func := "makeweight/makeweightlaw05.RefineOrders", spec := "refineOrders", unfollowed := true, recurses := true, plainKeys := false, apart := false }
def RefineOrdersSaid : Prop := refineOrdersRow.holds Try.pinned (OpenSpec.ofChange refineOrdersSpec)

/-- ITS FALSE NEIGHBOUR: 'it returns false'. Refute it at one input. -/
def refineOrdersWrong : ChangeSpec := { name := "refineOrders", fn := fun _ => fun
  | [d1, d2, d3] => { results := [.lit (.bool false)], args := [d1, d2, d3] }
  | _ => none }
def RefineOrdersWrongFalsely : Prop := refineOrdersRow.holds Try.pinned (OpenSpec.ofChange refineOrdersWrong)

/-- 'makeweightlaw05.RefineProves': WHATEVER THE INPUT: true; the input reads as it did. -/
def refineProvesSpec : ChangeSpec := { name := "refineProves", fn := fun _ => fun
  | [d1, d2, d3] => { results := [.lit (.bool true)], args := [d1, d2, d3] }
  | _ => none }
def refineProvesRow : OpenClaim := { program := "ytfininfcljdkbaa", sum := "9f84e361c1b0d9e4b9f5fc8113ce94019e1ac44bbea503578c94d5f0d63fe54a", func := "makeweight/makeweightlaw05.RefineProves", spec := "refineProves", unfollowed := true, recurses := true, plainKeys := false, apart := false }
def RefineProvesSaid : Prop := refineProvesRow.holds Try.pinned (OpenSpec.ofChange refineProvesSpec)

/-- ITS FALSE NEIGHBOUR: 'it returns false'. Refute it at one input. -/
def refineProvesWrong : ChangeSpec := { name := "refineProves", fn := fun _ => fun
  | [d1, d2, d3] => { results := [.lit (.bool false)], args := [d1, d2, d3] }
  | _ => none }
def RefineProvesWrongFalsely : Prop := refineProvesRow.holds Try.pinned (OpenSpec.ofChange refineProvesWrong)

/- THE SECOND FORM. 'bulk': how many values and letters a reading holds, each counted each time it is reached (what is shared counts as often as it is met; a slice's spare places count too). A statement '..UptoSaid' is the law's where the arguments, and the package variables that the reading takes, are together of bulk at most 1048576: NARROWER than '..Said'. Prove '..Said' where nothing that the law and all that it calls make is longer than what came in: it says more and counts as full. Else prove '..UptoSaid'. A law counts once. -/
mutual
def uptoBulk {H : Type} : DataW H → Nat
  | .lit (.string bytes) => bytes.length + 1
  | .lit _ => 1
  | .nil => 1
  | .ptr d => uptoBulk d + 1
  | .slice elems spare => uptoBulkAll elems + uptoBulkAll spare + 1
  | .agg parts => uptoBulkAll parts + 1
  | .iface _ d => uptoBulk d + 1
  | .map entries => uptoBulkEntries entries + 1
  | .held _ => 1
def uptoBulkAll {H : Type} : List (DataW H) → Nat
  | [] => 0
  | d :: r => uptoBulk d + uptoBulkAll r
def uptoBulkEntries {H : Type} : List (Lit × DataW H) → Nat
  | [] => 0
  | x :: r => uptoBulkEntry x + uptoBulkEntries r
def uptoBulkEntry {H : Type} : Lit × DataW H → Nat
  | (.string bytes, d) => bytes.length + uptoBulk d + 1
  | (_, d) => uptoBulk d + 1
 end
def uptoSmall : (H : Type) → List (DataW H) → Bool := fun _ ds => decide (uptoBulkAll ds ≤ 1048576)
def OpenSpec.upto (s : _root_.Go.ChangeSpec) : _root_.Go.OpenSpec := { _root_.Go.OpenSpec.ofChange s with cond := some uptoSmall }

/-- 'makeweightlaw10.ModalRefines', WHERE WHAT IT READS IS OF BULK AT MOST 1048576: true; the input reads as it did. -/
def modalRefinesUptoRow : OpenClaim := { program := "ytfininfcljdkbaa", sum := "9f84e361c1b0d9e4b9f5fc8113ce94019e1ac44bbea503578c94d5f0d63fe54a", func := "makeweight/makeweightlaw10.ModalRefines", spec := "modalRefines", unfollowed := true, recurses := true, plainKeys := false, apart := false, narrowed := true }
def ModalRefinesUptoSaid : Prop := modalRefinesUptoRow.holds Try.pinned (OpenSpec.upto modalRefinesSpec)

/-- 'makeweightlaw10.ModalAround', WHERE WHAT IT READS IS OF BULK AT MOST 1048576: true; the input reads as it did. -/
def modalAroundUptoRow : OpenClaim := { program := "ytfininfcljdkbaa", sum := "9f84e361c1b0d9e4b9f5fc8113ce94019e1ac44bbea503578c94d5f0d63fe54a", func := "makeweight/makeweightlaw10.ModalAround", spec := "modalAround", unfollowed := true, recurses := true, plainKeys := false, apart := false, narrowed := true }
def ModalAroundUptoSaid : Prop := modalAroundUptoRow.holds Try.pinned (OpenSpec.upto modalAroundSpec)

/-- 'makeweightlaw10.ModalSpecs', WHERE WHAT IT READS IS OF BULK AT MOST 1048576: true; the input reads as it did. -/
def modalSpecsUptoRow : OpenClaim := { program := "ytfininfcljdkbaa", sum := "9f84e361c1b0d9e4b9f5fc8113ce94019e1ac44bbea503578c94d5f0d63fe54a", func := "makeweight/makeweightlaw10.ModalSpecs", spec := "modalSpecs", unfollowed := true, recurses := true, plainKeys := false, apart := false, narrowed := true }
def ModalSpecsUptoSaid : Prop := modalSpecsUptoRow.holds Try.pinned (OpenSpec.upto modalSpecsSpec)

/-- 'makeweightlaw10.ModalMeets', WHERE WHAT IT READS IS OF BULK AT MOST 1048576: true; the input reads as it did. -/
def modalMeetsUptoRow : OpenClaim := { program := "ytfininfcljdkbaa", sum := "9f84e361c1b0d9e4b9f5fc8113ce94019e1ac44bbea503578c94d5f0d63fe54a", func := "makeweight/makeweightlaw10.ModalMeets", spec := "modalMeets", unfollowed := true, recurses := true, plainKeys := false, apart := false, narrowed := true }
def ModalMeetsUptoSaid : Prop := modalMeetsUptoRow.holds Try.pinned (OpenSpec.upto modalMeetsSpec)

/-- 'makeweightlaw10.ModalOwn', WHERE WHAT IT READS IS OF BULK AT MOST 1048576: true; the input reads as it did. -/
def modalOwnUptoRow : OpenClaim := { program := "ytfininfcljdkbaa", sum := "9f84e361c1b0d9e4b9f5fc8113ce94019e1ac44bbea503578c94d5f0d63fe54a", func := "makeweight/makeweightlaw10.ModalOwn", spec := "modalOwn", unfollowed := true, recurses := true, plainKeys := false, apart := false, narrowed := true }
def ModalOwnUptoSaid : Prop := modalOwnUptoRow.holds Try.pinned (OpenSpec.upto modalOwnSpec)

/-- 'makeweightlaw10.ModalRight', WHERE WHAT IT READS IS OF BULK AT MOST 1048576: true; the input reads as it did. -/
def modalRightUptoRow : OpenClaim := { program := "ytfininfcljdkbaa", sum := "9f84e361c1b0d9e4b9f5fc8113ce94019e1ac44bbea503578c94d5f0d63fe54a", func := "makeweight/makeweightlaw10.ModalRight", spec := "modalRight", unfollowed := true, recurses := true, plainKeys := false, apart := false, narrowed := true }
def ModalRightUptoSaid : Prop := modalRightUptoRow.holds Try.pinned (OpenSpec.upto modalRightSpec)

/-- 'makeweightlaw05.RefineMeasures', WHERE WHAT IT READS IS OF BULK AT MOST 1048576: true; the input reads as it did. -/
def refineMeasuresUptoRow : OpenClaim := { program := "ytfininfcljdkbaa", sum := "9f84e361c1b0d9e4b9f5fc8113ce94019e1ac44bbea503578c94d5f0d63fe54a", func := "makeweight/makeweightlaw05.RefineMeasures", spec := "refineMeasures", unfollowed := true, recurses := true, plainKeys := false, apart := false, narrowed := true }
def RefineMeasuresUptoSaid : Prop := refineMeasuresUptoRow.holds Try.pinned (OpenSpec.upto refineMeasuresSpec)

/-- 'makeweightlaw05.RefineOrders', WHERE WHAT IT READS IS OF BULK AT MOST 1048576: true; the input reads as it did. -/
def refineOrdersUptoRow : OpenClaim := { program := "ytfininfcljdkbaa", sum := "9f84e361c1b0d9e4b9f5fc8113ce94019e1ac44bbea503578c94d5f0d63fe54a", func := "makeweight/makeweightlaw05.RefineOrders", spec := "refineOrders", unfollowed := true, recurses := true, plainKeys := false, apart := false, narrowed := true }
def RefineOrdersUptoSaid : Prop := refineOrdersUptoRow.holds Try.pinned (OpenSpec.upto refineOrdersSpec)

/-- 'makeweightlaw05.RefineProves', WHERE WHAT IT READS IS OF BULK AT MOST 1048576: true; the input reads as it did. -/
def refineProvesUptoRow : OpenClaim := { program := "ytfininfcljdkbaa", sum := "9f84e361c1b0d9e4b9f5fc8113ce94019e1ac44bbea503578c94d5f0d63fe54a", func := "makeweight/makeweightlaw05.RefineProves", spec := "refineProves", unfollowed := true, recurses := true, plainKeys := false, apart := false, narrowed := true }
def RefineProvesUptoSaid : Prop := refineProvesUptoRow.holds Try.pinned (OpenSpec.upto refineProvesSpec)

end Rows
end Go.Proofs.Ytfininfcljdkbaa
