/-
  No cell of these rows narrows 'for every input' (looked for: loops, veiled, ifaces, maps, wideKeys, modest, calm, conditions, laid).
  DERIVED. THE GIVEN ROWS OF THIS SEAT. 8 by the template 'for every input the law returns true; each argument reads behind the call as it read before'; 0 by the template 'total and deterministic' (their statements: YtebbiciepbbhkaaTotals.lean).
  GIVEN WITH THE SEED: the statements are not yours to turn. If you find one false, say at which input.
  Laid BY PROGRAM, IN A SANDBOX (cutbox-rows.mjs): the forced cells as the released guide's own fill.sh prints them over the translation 53d95ddc293393a4… (all of the seat's roots in one cut). By AI agents, Wed Nov 11 2026. No macro, syntax, notation, axiom, sorry.
-/
import Derived.Test.YtebbiciepbbhkaaChecked
import GoSem.Claim
import GoSem.ClaimJoined
import GoSem.ClaimMapViews
import Derived.JoinedTies
import Derived.KernelRfl
namespace Go.Proofs.Ytebbiciepbbhkaa
/- THE CELL 'sum', in the pinned program and in every row, IS THE sha256 OF THE DUMP (.gsa) THAT YtebbiciepbbhkaaProg.lean LOADS. Nothing in Lean hashes anything: it is a label: what it is worth is what the hold of that sum in a sandbox is worth. -/
noncomputable def Try.pinned : Pinned := { name := "ytebbiciepbbhkaa", sum := "53d95ddc293393a4be07c0600ddde2d2a3f2aa37103daa24c69d6df213e504da", checked := Try.checked }
namespace Rows
def none {H : Type} : Left H := { results := [], args := [] }

/-- 'makeweightlaw12.FaceOrder': WHATEVER THE INPUT: true; the input reads as it did. -/
def faceOrderSpec : ChangeSpec := { name := "faceOrder", fn := fun _ => fun
  | [d1, d2, d3] => { results := [.lit (.bool true)], args := [d1, d2, d3] }
  | _ => none }
def faceOrderRow : OpenClaim := { program := "ytebbiciepbbhkaa", sum := "53d95ddc293393a4be07c0600ddde2d2a3f2aa37103daa24c69d6df213e504da", func := "makeweight/makeweightlaw12.FaceOrder", spec := "faceOrder", unfollowed := true, recurses := true, plainKeys := false, apart := false }
def FaceOrderSaid : Prop := faceOrderRow.holds Try.pinned (OpenSpec.ofChange faceOrderSpec)

/-- ITS FALSE NEIGHBOUR: 'it returns false'. Refute it at one input. -/
def faceOrderWrong : ChangeSpec := { name := "faceOrder", fn := fun _ => fun
  | [d1, d2, d3] => { results := [.lit (.bool false)], args := [d1, d2, d3] }
  | _ => none }
def FaceOrderWrongFalsely : Prop := faceOrderRow.holds Try.pinned (OpenSpec.ofChange faceOrderWrong)

/-- 'makeweightlaw12.FaceTogether': WHATEVER THE INPUT: true; the input reads as it did. -/
def faceTogetherSpec : ChangeSpec := { name := "faceTogether", fn := fun _ => fun
  | [d1, d2] => { results := [.lit (.bool true)], args := [d1, d2] }
  | _ => none }
def faceTogetherRow : OpenClaim := { program := "ytebbiciepbbhkaa", sum := "53d95ddc293393a4be07c0600ddde2d2a3f2aa37103daa24c69d6df213e504da", func := "makeweight/makeweightlaw12.FaceTogether", spec := "faceTogether", unfollowed := true, recurses := true, plainKeys := false, apart := false }
def FaceTogetherSaid : Prop := faceTogetherRow.holds Try.pinned (OpenSpec.ofChange faceTogetherSpec)

/-- ITS FALSE NEIGHBOUR: 'it returns false'. Refute it at one input. -/
def faceTogetherWrong : ChangeSpec := { name := "faceTogether", fn := fun _ => fun
  | [d1, d2] => { results := [.lit (.bool false)], args := [d1, d2] }
  | _ => none }
def FaceTogetherWrongFalsely : Prop := faceTogetherRow.holds Try.pinned (OpenSpec.ofChange faceTogetherWrong)

/-- 'makeweightlaw12.FaceFits': WHATEVER THE INPUT: true; the input reads as it did. -/
def faceFitsSpec : ChangeSpec := { name := "faceFits", fn := fun _ => fun
  | [d1, d2, d3] => { results := [.lit (.bool true)], args := [d1, d2, d3] }
  | _ => none }
def faceFitsRow : OpenClaim := { program := "ytebbiciepbbhkaa", sum := "53d95ddc293393a4be07c0600ddde2d2a3f2aa37103daa24c69d6df213e504da", func := "makeweight/makeweightlaw12.FaceFits", spec := "faceFits", unfollowed := true, recurses := true, plainKeys := false, apart := false }
def FaceFitsSaid : Prop := faceFitsRow.holds Try.pinned (OpenSpec.ofChange faceFitsSpec)

/-- ITS FALSE NEIGHBOUR: 'it returns false'. Refute it at one input. -/
def faceFitsWrong : ChangeSpec := { name := "faceFits", fn := fun _ => fun
  | [d1, d2, d3] => { results := [.lit (.bool false)], args := [d1, d2, d3] }
  | _ => none }
def FaceFitsWrongFalsely : Prop := faceFitsRow.holds Try.pinned (OpenSpec.ofChange faceFitsWrong)

/-- 'makeweightlaw12.FaceWorlds': WHATEVER THE INPUT: true; the input reads as it did. -/
def faceWorldsSpec : ChangeSpec := { name := "faceWorlds", fn := fun _ => fun
  | [d1, d2] => { results := [.lit (.bool true)], args := [d1, d2] }
  | _ => none }
def faceWorldsRow : OpenClaim := { program := "ytebbiciepbbhkaa", sum := "53d95ddc293393a4be07c0600ddde2d2a3f2aa37103daa24c69d6df213e504da", func := "makeweight/makeweightlaw12.FaceWorlds", spec := "faceWorlds", unfollowed := true, recurses := true, plainKeys := false, apart := false }
def FaceWorldsSaid : Prop := faceWorldsRow.holds Try.pinned (OpenSpec.ofChange faceWorldsSpec)

/-- ITS FALSE NEIGHBOUR: 'it returns false'. Refute it at one input. -/
def faceWorldsWrong : ChangeSpec := { name := "faceWorlds", fn := fun _ => fun
  | [d1, d2] => { results := [.lit (.bool false)], args := [d1, d2] }
  | _ => none }
def FaceWorldsWrongFalsely : Prop := faceWorldsRow.holds Try.pinned (OpenSpec.ofChange faceWorldsWrong)

/-- 'makeweightlaw12.FaceRight': WHATEVER THE INPUT: true; the input reads as it did. -/
def faceRightSpec : ChangeSpec := { name := "faceRight", fn := fun _ => fun
  | [d1, d2, d3] => { results := [.lit (.bool true)], args := [d1, d2, d3] }
  | _ => none }
def faceRightRow : OpenClaim := { program := "ytebbiciepbbhkaa", sum := "53d95ddc293393a4be07c0600ddde2d2a3f2aa37103daa24c69d6df213e504da", func := "makeweight/makeweightlaw12.FaceRight", spec := "faceRight", unfollowed := true, recurses := true, plainKeys := false, apart := false }
def FaceRightSaid : Prop := faceRightRow.holds Try.pinned (OpenSpec.ofChange faceRightSpec)

/-- ITS FALSE NEIGHBOUR: 'it returns false'. Refute it at one input. -/
def faceRightWrong : ChangeSpec := { name := "faceRight", fn := fun _ => fun
  | [d1, d2, d3] => { results := [.lit (.bool false)], args := [d1, d2, d3] }
  | _ => none }
def FaceRightWrongFalsely : Prop := faceRightRow.holds Try.pinned (OpenSpec.ofChange faceRightWrong)

/-- 'makeweightlaw12.FaceRefines': WHATEVER THE INPUT: true; the input reads as it did. -/
def faceRefinesSpec : ChangeSpec := { name := "faceRefines", fn := fun _ => fun
  | [d1, d2] => { results := [.lit (.bool true)], args := [d1, d2] }
  | _ => none }
def faceRefinesRow : OpenClaim := { program := "ytebbiciepbbhkaa", sum := "53d95ddc293393a4be07c0600ddde2d2a3f2aa37103daa24c69d6df213e504da", func := "makeweight/makeweightlaw12.FaceRefines", spec := "faceRefines", unfollowed := true, recurses := true, plainKeys := false, apart := false }
def FaceRefinesSaid : Prop := faceRefinesRow.holds Try.pinned (OpenSpec.ofChange faceRefinesSpec)

/-- ITS FALSE NEIGHBOUR: 'it returns false'. Refute it at one input. -/
def faceRefinesWrong : ChangeSpec := { name := "faceRefines", fn := fun _ => fun
  | [d1, d2] => { results := [.lit (.bool false)], args := [d1, d2] }
  | _ => none }
def FaceRefinesWrongFalsely : Prop := faceRefinesRow.holds Try.pinned (OpenSpec.ofChange faceRefinesWrong)

/-- 'makeweightlaw12.FaceReplaces': WHATEVER THE INPUT: true; the input reads as it did. -/
def faceReplacesSpec : ChangeSpec := { name := "faceReplaces", fn := fun _ => fun
  | [d1, d2, d3] => { results := [.lit (.bool true)], args := [d1, d2, d3] }
  | _ => none }
def faceReplacesRow : OpenClaim := { program := "ytebbiciepbbhkaa", sum := "53d95ddc293393a4be07c0600ddde2d2a3f2aa37103daa24c69d6df213e504da", func := "makeweight/makeweightlaw12.FaceReplaces", spec := "faceReplaces", unfollowed := true, recurses := true, plainKeys := false, apart := false }
def FaceReplacesSaid : Prop := faceReplacesRow.holds Try.pinned (OpenSpec.ofChange faceReplacesSpec)

/-- ITS FALSE NEIGHBOUR: 'it returns false'. Refute it at one input. -/
def faceReplacesWrong : ChangeSpec := { name := "faceReplaces", fn := fun _ => fun
  | [d1, d2, d3] => { results := [.lit (.bool false)], args := [d1, d2, d3] }
  | _ => none }
def FaceReplacesWrongFalsely : Prop := faceReplacesRow.holds Try.pinned (OpenSpec.ofChange faceReplacesWrong)

/-- 'makeweightlaw12.FaceOwn': WHATEVER THE INPUT: true; the input reads as it did. -/
def faceOwnSpec : ChangeSpec := { name := "faceOwn", fn := fun _ => fun
  | [d1, d2] => { results := [.lit (.bool true)], args := [d1, d2] }
  | _ => none }
def faceOwnRow : OpenClaim := { program := "ytebbiciepbbhkaa", sum := "53d95ddc293393a4be07c0600ddde2d2a3f2aa37103daa24c69d6df213e504da", func := "makeweight/makeweightlaw12.FaceOwn", spec := "faceOwn", unfollowed := true, recurses := true, plainKeys := false, apart := false }
def FaceOwnSaid : Prop := faceOwnRow.holds Try.pinned (OpenSpec.ofChange faceOwnSpec)

/-- ITS FALSE NEIGHBOUR: 'it returns false'. Refute it at one input. -/
def faceOwnWrong : ChangeSpec := { name := "faceOwn", fn := fun _ => fun
  | [d1, d2] => { results := [.lit (.bool false)], args := [d1, d2] }
  | _ => none }
def FaceOwnWrongFalsely : Prop := faceOwnRow.holds Try.pinned (OpenSpec.ofChange faceOwnWrong)

/- THE SECOND FORM. 'bulk': how many values and letters a reading holds, each counted each time it is reached (what is shared counts as often as it is met; a slice's spare places count too). A statement '..UptoSaid' is the law's where the arguments, and the package variables that the reading takes, are together of bulk at most 1048576: NARROWER than '..Said'. Prove '..Said' where nothing that the law and all that it calls make is longer than what came in: it says more and counts as full. Else prove '..UptoSaid'. A law counts once. -/
mutual
def uptoBulk {H : Type} : DataW H → Nat
  | .lit (.string bytes) => bytes.length + 1
  | .lit _ => 1
  | .nil => 1
  | .ptr d => uptoBulk d + 1
  | .slice elems spare => uptoBulkAll elems + uptoBulkAll spare + 1
  | .agg parts => uptoBulkAll parts + 1
  | .iface _ d => uptoBulk d + 1
  | .map entries => uptoBulkEntries entries + 1
  | .held _ => 1
def uptoBulkAll {H : Type} : List (DataW H) → Nat
  | [] => 0
  | d :: r => uptoBulk d + uptoBulkAll r
def uptoBulkEntries {H : Type} : List (Lit × DataW H) → Nat
  | [] => 0
  | x :: r => uptoBulkEntry x + uptoBulkEntries r
def uptoBulkEntry {H : Type} : Lit × DataW H → Nat
  | (.string bytes, d) => bytes.length + uptoBulk d + 1
  | (_, d) => uptoBulk d + 1
 end
def uptoSmall : (H : Type) → List (DataW H) → Bool := fun _ ds => decide (uptoBulkAll ds ≤ 1048576)
def OpenSpec.upto (s : _root_.Go.ChangeSpec) : _root_.Go.OpenSpec := { _root_.Go.OpenSpec.ofChange s with cond := some uptoSmall }

/-- 'makeweightlaw12.FaceOrder', WHERE WHAT IT READS IS OF BULK AT MOST 1048576: true; the input reads as it did. -/
def faceOrderUptoRow : OpenClaim := { program := "ytebbiciepbbhkaa", sum := "53d95ddc293393a4be07c0600ddde2d2a3f2aa37103daa24c69d6df213e504da", func := "makeweight/makeweightlaw12.FaceOrder", spec := "faceOrder", unfollowed := true, recurses := true, plainKeys := false, apart := false, narrowed := true }
def FaceOrderUptoSaid : Prop := faceOrderUptoRow.holds Try.pinned (OpenSpec.upto faceOrderSpec)

/-- 'makeweightlaw12.FaceTogether', WHERE WHAT IT READS IS OF BULK AT MOST 1048576: true; the input reads as it did. -/
def faceTogetherUptoRow : OpenClaim := { program := "ytebbiciepbbhkaa", sum := "53d95ddc293393a4be07c0600ddde2d2a3f2aa37103daa24c69d6df213e504da", func := "makeweight/makeweightlaw12.FaceTogether", spec := "faceTogether", unfollowed := true, recurses := true, plainKeys := false, apart := false, narrowed := true }
def FaceTogetherUptoSaid : Prop := faceTogetherUptoRow.holds Try.pinned (OpenSpec.upto faceTogetherSpec)

/-- 'makeweightlaw12.FaceFits', WHERE WHAT IT READS IS OF BULK AT MOST 1048576: true; the input reads as it did. -/
def faceFitsUptoRow : OpenClaim := { program := "ytebbiciepbbhkaa", sum := "53d95ddc293393a4be07c0600ddde2d2a3f2aa37103daa24c69d6df213e504da", func := "makeweight/makeweightlaw12.FaceFits", spec := "faceFits", unfollowed := true, recurses := true, plainKeys := false, apart := false, narrowed := true }
def FaceFitsUptoSaid : Prop := faceFitsUptoRow.holds Try.pinned (OpenSpec.upto faceFitsSpec)

/-- 'makeweightlaw12.FaceWorlds', WHERE WHAT IT READS IS OF BULK AT MOST 1048576: true; the input reads as it did. -/
def faceWorldsUptoRow : OpenClaim := { program := "ytebbiciepbbhkaa", sum := "53d95ddc293393a4be07c0600ddde2d2a3f2aa37103daa24c69d6df213e504da", func := "makeweight/makeweightlaw12.FaceWorlds", spec := "faceWorlds", unfollowed := true, recurses := true, plainKeys := false, apart := false, narrowed := true }
def FaceWorldsUptoSaid : Prop := faceWorldsUptoRow.holds Try.pinned (OpenSpec.upto faceWorldsSpec)

/-- 'makeweightlaw12.FaceRight', WHERE WHAT IT READS IS OF BULK AT MOST 1048576: true; the input reads as it did. -/
def faceRightUptoRow : OpenClaim := { program := "ytebbiciepbbhkaa", sum := "53d95ddc293393a4be07c0600ddde2d2a3f2aa37103daa24c69d6df213e504da", func := "makeweight/makeweightlaw12.FaceRight", spec := "faceRight", unfollowed := true, recurses := true, plainKeys := false, apart := false, narrowed := true }
def FaceRightUptoSaid : Prop := faceRightUptoRow.holds Try.pinned (OpenSpec.upto faceRightSpec)

/-- 'makeweightlaw12.FaceRefines', WHERE WHAT IT READS IS OF BULK AT MOST 1048576: true; the input reads as it did. -/
def faceRefinesUptoRow : OpenClaim := { program := "ytebbiciepbbhkaa", sum := "53d95ddc293393a4be07c0600ddde2d2a3f2aa37103daa24c69d6df213e504da", func := "makeweight/makeweightlaw12.FaceRefines", spec := "faceRefines", unfollowed := true, recurses := true, plainKeys := false, apart := false, narrowed := true }
def FaceRefinesUptoSaid : Prop := faceRefinesUptoRow.holds Try.pinned (OpenSpec.upto faceRefinesSpec)

/-- 'makeweightlaw12.FaceReplaces', WHERE WHAT IT READS IS OF BULK AT MOST 1048576: true; the input reads as it did. -/
def faceReplacesUptoRow : OpenClaim := { program := "ytebbiciepbbhkaa", sum := "53d95ddc293393a4be07c0600ddde2d2a3f2aa37103daa24c69d6df213e504da", func := "makeweight/makeweightlaw12.FaceReplaces", spec := "faceReplaces", unfollowed := true, recurses := true, plainKeys := false, apart := false, narrowed := true }
def FaceReplacesUptoSaid : Prop := faceReplacesUptoRow.holds Try.pinned (OpenSpec.upto faceReplacesSpec)

/-- 'makeweightlaw12.FaceOwn', WHERE WHAT IT READS IS OF BULK AT MOST 1048576: true; the input reads as it did. -/
def faceOwnUptoRow : OpenClaim := { program := "ytebbiciepbbhkaa", sum := "53d95ddc293393a4be07c0600ddde2d2a3f2aa37103daa24c69d6df213e504da", func := "makeweight/makeweightlaw12.FaceOwn", spec := "faceOwn", unfollowed := true, recurses := true, plainKeys := false, apart := false, narrowed := true }
def FaceOwnUptoSaid : Prop := faceOwnUptoRow.holds Try.pinned (OpenSpec.upto faceOwnSpec)

end Rows
end Go.Proofs.Ytebbiciepbbhkaa
