/-
  NARROWER THAN 'FOR EVERY INPUT', by the rows' own cells (each row's printed sentence says how): ActNames: laid · ActStrings: laid · ActBack: laid · ActSets: laid · ActOwn: laid.
  DERIVED. THE GIVEN ROWS OF THIS SEAT. 5 by the template 'for every input the law returns true; each argument reads behind the call as it read before'; 0 by the template 'total and deterministic' (their statements: YtfininfcljdkbaaDoorTotals.lean).
  GIVEN WITH THE SEED: the statements are not yours to turn. If you find one false, say at which input.
  Laid BY PROGRAM, IN A SANDBOX (cutbox-rows.mjs): the forced cells as the released guide's own fill.sh prints them over the translation ed8c3cee3a879e9f… (all of the seat's roots in one cut). By AI agents, Wed Nov 11 2026. No macro, syntax, notation, axiom, sorry.
-/
import Derived.Test.YtfininfcljdkbaaDoorChecked
import GoSem.PinnedTables
import GoSem.Claim
import GoSem.ClaimJoined
import GoSem.ClaimMapViews
import Derived.JoinedTies
import Derived.KernelRfl
namespace Go.Proofs.YtfininfcljdkbaaDoor
/- THE CELL 'sum', in the pinned program and in every row, IS THE sha256 OF THE DUMP (.gsa) THAT YtfininfcljdkbaaDoorProg.lean LOADS. Nothing in Lean hashes anything: it is a label: what it is worth is what the hold of that sum in a sandbox is worth. -/
noncomputable def Tryd.pinned : Pinned := { name := "ytfininfcljdkbaadoor", sum := "ed8c3cee3a879e9fd6962410db8b0bf737c60a44c9ff764ef6fe549c0c402eba", checked := Tryd.checked }
namespace Rows
def none {H : Type} : Left H := { results := [], args := [] }

/- WHAT THE LISTED PACKAGE-LEVEL VARIABLES READ AS WHEN THE CALL BEGINS. Each datum BY PROGRAM (the guide's laid-datum.mjs) off the statement by which the dump's own 'gosem.cut.vars' lays the variable. In a bare row this is a premise. The card (YtfininfcljdkbaaDoorCards.lean) ties it to the program's text. -/
def laid_unicode_utf8_acceptRanges {H : Type} : DataW H := .agg [.agg [.lit (.int .u8 128), .lit (.int .u8 191)], .agg [.lit (.int .u8 160), .lit (.int .u8 191)], .agg [.lit (.int .u8 128), .lit (.int .u8 159)], .agg [.lit (.int .u8 144), .lit (.int .u8 191)], .agg [.lit (.int .u8 128), .lit (.int .u8 143)], .agg [.lit (.int .u8 0), .lit (.int .u8 0)], .agg [.lit (.int .u8 0), .lit (.int .u8 0)], .agg [.lit (.int .u8 0), .lit (.int .u8 0)], .agg [.lit (.int .u8 0), .lit (.int .u8 0)], .agg [.lit (.int .u8 0), .lit (.int .u8 0)], .agg [.lit (.int .u8 0), .lit (.int .u8 0)], .agg [.lit (.int .u8 0), .lit (.int .u8 0)], .agg [.lit (.int .u8 0), .lit (.int .u8 0)], .agg [.lit (.int .u8 0), .lit (.int .u8 0)], .agg [.lit (.int .u8 0), .lit (.int .u8 0)], .agg [.lit (.int .u8 0), .lit (.int .u8 0)]]
def laid_makeweight_act_errSet {H : Type} : DataW H := .iface "*errors.errorString" (.ptr (.agg [.lit (.string [110, 111, 116, 32, 97, 32, 115, 101, 116])]))
/-- One of Go's own tables, pinned by name: the form's constant. -/
def laid_unicode_utf8_first : DataW Unit := Go.Pinned.utf8First

/-- 'makeweightlaw01.ActNames': WHATEVER THE INPUT: true; the input reads as it did. -/
def actNamesSpec : ChangeSpec := { name := "actNames", fn := fun _ => fun
  | [d1, d2] => { results := [.lit (.bool true)], args := [d1, d2] }
  | _ => none }
def actNamesRow : OpenClaim := { program := "ytfininfcljdkbaadoor", sum := "ed8c3cee3a879e9fd6962410db8b0bf737c60a44c9ff764ef6fe549c0c402eba", func := "makeweight/makeweightlaw01.ActNames", spec := "actNames", inPlace := ["internal/abi.NoEscape", "internal/bytealg.MakeNoZero", "internal/bytealg.CountString", "internal/bytealg.IndexByteString", "internal/bytealg.IndexString", "internal/reflectlite.TypeOf"], unfollowed := true, recurses := true, named := ["makeweight/act.errSet", "unicode/utf8.first", "unicode/utf8.acceptRanges", "internal/bytealg.MaxLen"], apart := false, laid := [("unicode/utf8.acceptRanges", laid_unicode_utf8_acceptRanges), ("makeweight/act.errSet", laid_makeweight_act_errSet), ("unicode/utf8.first", laid_unicode_utf8_first)] }
def ActNamesSaid : Prop := actNamesRow.holds Tryd.pinned (OpenSpec.ofChange actNamesSpec)

/-- ITS FALSE NEIGHBOUR: 'it returns false'. Refute it at one input. -/
def actNamesWrong : ChangeSpec := { name := "actNames", fn := fun _ => fun
  | [d1, d2] => { results := [.lit (.bool false)], args := [d1, d2] }
  | _ => none }
def ActNamesWrongFalsely : Prop := actNamesRow.holds Tryd.pinned (OpenSpec.ofChange actNamesWrong)

/-- 'makeweightlaw01.ActStrings': WHATEVER THE INPUT: true; the input reads as it did. -/
def actStringsSpec : ChangeSpec := { name := "actStrings", fn := fun _ => fun
  | [d1, d2, d3] => { results := [.lit (.bool true)], args := [d1, d2, d3] }
  | _ => none }
def actStringsRow : OpenClaim := { program := "ytfininfcljdkbaadoor", sum := "ed8c3cee3a879e9fd6962410db8b0bf737c60a44c9ff764ef6fe549c0c402eba", func := "makeweight/makeweightlaw01.ActStrings", spec := "actStrings", inPlace := ["internal/abi.NoEscape", "internal/bytealg.MakeNoZero", "internal/bytealg.CountString", "internal/bytealg.IndexByteString", "internal/bytealg.IndexString", "internal/reflectlite.TypeOf"], unfollowed := true, recurses := true, named := ["makeweight/act.errSet", "unicode/utf8.first", "unicode/utf8.acceptRanges", "internal/bytealg.MaxLen"], apart := false, laid := [("unicode/utf8.acceptRanges", laid_unicode_utf8_acceptRanges), ("makeweight/act.errSet", laid_makeweight_act_errSet), ("unicode/utf8.first", laid_unicode_utf8_first)] }
def ActStringsSaid : Prop := actStringsRow.holds Tryd.pinned (OpenSpec.ofChange actStringsSpec)

/-- ITS FALSE NEIGHBOUR: 'it returns false'. Refute it at one input. -/
def actStringsWrong : ChangeSpec := { name := "actStrings", fn := fun _ => fun
  | [d1, d2, d3] => { results := [.lit (.bool false)], args := [d1, d2, d3] }
  | _ => none }
def ActStringsWrongFalsely : Prop := actStringsRow.holds Tryd.pinned (OpenSpec.ofChange actStringsWrong)

/-- 'makeweightlaw01.ActBack': WHATEVER THE INPUT: true; the input reads as it did. -/
def actBackSpec : ChangeSpec := { name := "actBack", fn := fun _ => fun
  | [d1, d2] => { results := [.lit (.bool true)], args := [d1, d2] }
  | _ => none }
def actBackRow : OpenClaim := { program := "ytfininfcljdkbaadoor", sum := "ed8c3cee3a879e9fd6962410db8b0bf737c60a44c9ff764ef6fe549c0c402eba", func := "makeweight/makeweightlaw01.ActBack", spec := "actBack", inPlace := ["internal/abi.NoEscape", "internal/bytealg.MakeNoZero", "internal/bytealg.CountString", "internal/bytealg.IndexByteString", "internal/bytealg.IndexString", "internal/reflectlite.TypeOf"], unfollowed := true, recurses := true, named := ["makeweight/act.errSet", "unicode/utf8.first", "unicode/utf8.acceptRanges", "internal/bytealg.MaxLen"], apart := false, laid := [("unicode/utf8.acceptRanges", laid_unicode_utf8_acceptRanges), ("makeweight/act.errSet", laid_makeweight_act_errSet), ("unicode/utf8.first", laid_unicode_utf8_first)] }
def ActBackSaid : Prop := actBackRow.holds Tryd.pinned (OpenSpec.ofChange actBackSpec)

/-- ITS FALSE NEIGHBOUR: 'it returns false'. Refute it at one input. -/
def actBackWrong : ChangeSpec := { name := "actBack", fn := fun _ => fun
  | [d1, d2] => { results := [.lit (.bool false)], args := [d1, d2] }
  | _ => none }
def ActBackWrongFalsely : Prop := actBackRow.holds Tryd.pinned (OpenSpec.ofChange actBackWrong)

/-- 'makeweightlaw01.ActSets': WHATEVER THE INPUT: true; the input reads as it did. -/
def actSetsSpec : ChangeSpec := { name := "actSets", fn := fun _ => fun
  | [d1, d2] => { results := [.lit (.bool true)], args := [d1, d2] }
  | _ => none }
def actSetsRow : OpenClaim := { program := "ytfininfcljdkbaadoor", sum := "ed8c3cee3a879e9fd6962410db8b0bf737c60a44c9ff764ef6fe549c0c402eba", func := "makeweight/makeweightlaw01.ActSets", spec := "actSets", inPlace := ["internal/abi.NoEscape", "internal/bytealg.MakeNoZero", "internal/bytealg.CountString", "internal/bytealg.IndexByteString", "internal/bytealg.IndexString", "internal/reflectlite.TypeOf"], unfollowed := true, recurses := true, named := ["makeweight/act.errSet", "unicode/utf8.first", "unicode/utf8.acceptRanges", "internal/bytealg.MaxLen"], apart := false, laid := [("unicode/utf8.acceptRanges", laid_unicode_utf8_acceptRanges), ("makeweight/act.errSet", laid_makeweight_act_errSet), ("unicode/utf8.first", laid_unicode_utf8_first)] }
def ActSetsSaid : Prop := actSetsRow.holds Tryd.pinned (OpenSpec.ofChange actSetsSpec)

/-- ITS FALSE NEIGHBOUR: 'it returns false'. Refute it at one input. -/
def actSetsWrong : ChangeSpec := { name := "actSets", fn := fun _ => fun
  | [d1, d2] => { results := [.lit (.bool false)], args := [d1, d2] }
  | _ => none }
def ActSetsWrongFalsely : Prop := actSetsRow.holds Tryd.pinned (OpenSpec.ofChange actSetsWrong)

/-- 'makeweightlaw01.ActOwn': WHATEVER THE INPUT: true; the input reads as it did. -/
def actOwnSpec : ChangeSpec := { name := "actOwn", fn := fun _ => fun
  | [d1, d2, d3] => { results := [.lit (.bool true)], args := [d1, d2, d3] }
  | _ => none }
def actOwnRow : OpenClaim := { program := "ytfininfcljdkbaadoor", sum := "ed8c3cee3a879e9fd6962410db8b0bf737c60a44c9ff764ef6fe549c0c402eba", func := "makeweight/makeweightlaw01.ActOwn", spec := "actOwn", inPlace := ["internal/abi.NoEscape", "internal/bytealg.MakeNoZero", "internal/bytealg.CountString", "internal/bytealg.IndexByteString", "internal/bytealg.IndexString", "internal/reflectlite.TypeOf"], unfollowed := true, recurses := true, named := ["makeweight/act.errSet", "unicode/utf8.first", "unicode/utf8.acceptRanges", "internal/bytealg.MaxLen"], apart := false, laid := [("unicode/utf8.acceptRanges", laid_unicode_utf8_acceptRanges), ("makeweight/act.errSet", laid_makeweight_act_errSet), ("unicode/utf8.first", laid_unicode_utf8_first)] }
def ActOwnSaid : Prop := actOwnRow.holds Tryd.pinned (OpenSpec.ofChange actOwnSpec)

/-- ITS FALSE NEIGHBOUR: 'it returns false'. Refute it at one input. -/
def actOwnWrong : ChangeSpec := { name := "actOwn", fn := fun _ => fun
  | [d1, d2, d3] => { results := [.lit (.bool false)], args := [d1, d2, d3] }
  | _ => none }
def ActOwnWrongFalsely : Prop := actOwnRow.holds Tryd.pinned (OpenSpec.ofChange actOwnWrong)

/- THE SECOND FORM. 'bulk': how many values and letters a reading holds, each counted each time it is reached (what is shared counts as often as it is met; a slice's spare places count too). A statement '..UptoSaid' is the law's where the arguments, and the package variables that the reading takes, are together of bulk at most 1048576: NARROWER than '..Said'. Prove '..Said' where nothing that the law and all that it calls make is longer than what came in: it says more and counts as full. Else prove '..UptoSaid'. A law counts once. -/
mutual
def uptoBulk {H : Type} : DataW H → Nat
  | .lit (.string bytes) => bytes.length + 1
  | .lit _ => 1
  | .nil => 1
  | .ptr d => uptoBulk d + 1
  | .slice elems spare => uptoBulkAll elems + uptoBulkAll spare + 1
  | .agg parts => uptoBulkAll parts + 1
  | .iface _ d => uptoBulk d + 1
  | .map entries => uptoBulkEntries entries + 1
  | .held _ => 1
def uptoBulkAll {H : Type} : List (DataW H) → Nat
  | [] => 0
  | d :: r => uptoBulk d + uptoBulkAll r
def uptoBulkEntries {H : Type} : List (Lit × DataW H) → Nat
  | [] => 0
  | x :: r => uptoBulkEntry x + uptoBulkEntries r
def uptoBulkEntry {H : Type} : Lit × DataW H → Nat
  | (.string bytes, d) => bytes.length + uptoBulk d + 1
  | (_, d) => uptoBulk d + 1
 end
def uptoSmall : (H : Type) → List (DataW H) → Bool := fun _ ds => decide (uptoBulkAll ds ≤ 1048576)
def OpenSpec.upto (s : _root_.Go.ChangeSpec) : _root_.Go.OpenSpec := { _root_.Go.OpenSpec.ofChange s with cond := some uptoSmall }

/-- 'makeweightlaw01.ActNames', WHERE WHAT IT READS IS OF BULK AT MOST 1048576: true; the input reads as it did. -/
def actNamesUptoRow : OpenClaim := { program := "ytfininfcljdkbaadoor", sum := "ed8c3cee3a879e9fd6962410db8b0bf737c60a44c9ff764ef6fe549c0c402eba", func := "makeweight/makeweightlaw01.ActNames", spec := "actNames", inPlace := ["internal/abi.NoEscape", "internal/bytealg.MakeNoZero", "internal/bytealg.CountString", "internal/bytealg.IndexByteString", "internal/bytealg.IndexString", "internal/reflectlite.TypeOf"], unfollowed := true, recurses := true, named := ["makeweight/act.errSet", "unicode/utf8.first", "unicode/utf8.acceptRanges", "internal/bytealg.MaxLen"], apart := false, laid := [("unicode/utf8.acceptRanges", laid_unicode_utf8_acceptRanges), ("makeweight/act.errSet", laid_makeweight_act_errSet), ("unicode/utf8.first", laid_unicode_utf8_first)], narrowed := true }
def ActNamesUptoSaid : Prop := actNamesUptoRow.holds Tryd.pinned (OpenSpec.upto actNamesSpec)

/-- 'makeweightlaw01.ActStrings', WHERE WHAT IT READS IS OF BULK AT MOST 1048576: true; the input reads as it did. -/
def actStringsUptoRow : OpenClaim := { program := "ytfininfcljdkbaadoor", sum := "ed8c3cee3a879e9fd6962410db8b0bf737c60a44c9ff764ef6fe549c0c402eba", func := "makeweight/makeweightlaw01.ActStrings", spec := "actStrings", inPlace := ["internal/abi.NoEscape", "internal/bytealg.MakeNoZero", "internal/bytealg.CountString", "internal/bytealg.IndexByteString", "internal/bytealg.IndexString", "internal/reflectlite.TypeOf"], unfollowed := true, recurses := true, named := ["makeweight/act.errSet", "unicode/utf8.first", "unicode/utf8.acceptRanges", "internal/bytealg.MaxLen"], apart := false, laid := [("unicode/utf8.acceptRanges", laid_unicode_utf8_acceptRanges), ("makeweight/act.errSet", laid_makeweight_act_errSet), ("unicode/utf8.first", laid_unicode_utf8_first)], narrowed := true }
def ActStringsUptoSaid : Prop := actStringsUptoRow.holds Tryd.pinned (OpenSpec.upto actStringsSpec)

/-- 'makeweightlaw01.ActBack', WHERE WHAT IT READS IS OF BULK AT MOST 1048576: true; the input reads as it did. -/
def actBackUptoRow : OpenClaim := { program := "ytfininfcljdkbaadoor", sum := "ed8c3cee3a879e9fd6962410db8b0bf737c60a44c9ff764ef6fe549c0c402eba", func := "makeweight/makeweightlaw01.ActBack", spec := "actBack", inPlace := ["internal/abi.NoEscape", "internal/bytealg.MakeNoZero", "internal/bytealg.CountString", "internal/bytealg.IndexByteString", "internal/bytealg.IndexString", "internal/reflectlite.TypeOf"], unfollowed := true, recurses := true, named := ["makeweight/act.errSet", "unicode/utf8.first", "unicode/utf8.acceptRanges", "internal/bytealg.MaxLen"], apart := false, laid := [("unicode/utf8.acceptRanges", laid_unicode_utf8_acceptRanges), ("makeweight/act.errSet", laid_makeweight_act_errSet), ("unicode/utf8.first", laid_unicode_utf8_first)], narrowed := true }
def ActBackUptoSaid : Prop := actBackUptoRow.holds Tryd.pinned (OpenSpec.upto actBackSpec)

/-- 'makeweightlaw01.ActSets', WHERE WHAT IT READS IS OF BULK AT MOST 1048576: true; the input reads as it did. -/
def actSetsUptoRow : OpenClaim := { program := "ytfininfcljdkbaadoor", sum := "ed8c3cee3a879e9fd6962410db8b0bf737c60a44c9ff764ef6fe549c0c402eba", func := "makeweight/makeweightlaw01.ActSets", spec := "actSets", inPlace := ["internal/abi.NoEscape", "internal/bytealg.MakeNoZero", "internal/bytealg.CountString", "internal/bytealg.IndexByteString", "internal/bytealg.IndexString", "internal/reflectlite.TypeOf"], unfollowed := true, recurses := true, named := ["makeweight/act.errSet", "unicode/utf8.first", "unicode/utf8.acceptRanges", "internal/bytealg.MaxLen"], apart := false, laid := [("unicode/utf8.acceptRanges", laid_unicode_utf8_acceptRanges), ("makeweight/act.errSet", laid_makeweight_act_errSet), ("unicode/utf8.first", laid_unicode_utf8_first)], narrowed := true }
def ActSetsUptoSaid : Prop := actSetsUptoRow.holds Tryd.pinned (OpenSpec.upto actSetsSpec)

/-- 'makeweightlaw01.ActOwn', WHERE WHAT IT READS IS OF BULK AT MOST 1048576: true; the input reads as it did. -/
def actOwnUptoRow : OpenClaim := { program := "ytfininfcljdkbaadoor", sum := "ed8c3cee3a879e9fd6962410db8b0bf737c60a44c9ff764ef6fe549c0c402eba", func := "makeweight/makeweightlaw01.ActOwn", spec := "actOwn", inPlace := ["internal/abi.NoEscape", "internal/bytealg.MakeNoZero", "internal/bytealg.CountString", "internal/bytealg.IndexByteString", "internal/bytealg.IndexString", "internal/reflectlite.TypeOf"], unfollowed := true, recurses := true, named := ["makeweight/act.errSet", "unicode/utf8.first", "unicode/utf8.acceptRanges", "internal/bytealg.MaxLen"], apart := false, laid := [("unicode/utf8.acceptRanges", laid_unicode_utf8_acceptRanges), ("makeweight/act.errSet", laid_makeweight_act_errSet), ("unicode/utf8.first", laid_unicode_utf8_first)], narrowed := true }
def ActOwnUptoSaid : Prop := actOwnUptoRow.holds Tryd.pinned (OpenSpec.upto actOwnSpec)

end Rows
end Go.Proofs.YtfininfcljdkbaaDoor
