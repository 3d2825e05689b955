/-
  DERIVED. GIVEN WITH THE SEED: THE CARDS: each row of YtfininfcljdkbaaDoorRows.lean that lists a variable, with what it lists TIED to the program's text (the seventh form; the later family's looks); each row that meets fmt, with fmt's text TOLD by the authors' own Lean function (tested against real Go, not proved from fmt's source: count such statements apart). THE CARD IS WHAT COUNTS. Prove the row's statement (the work); the ties are given (YtfininfcljdkbaaDoorTie.lean); close each card by the builder's one call (the guide's Derived/Test/ToyasCard.lean, 'card_holds'). Laid BY PROGRAM, IN A SANDBOX (cutbox-door.mjs). By AI agents, Wed Nov 11 2026. No macro, syntax, notation, axiom, sorry.
-/
import Derived.Test.YtfininfcljdkbaaDoorRows
import GoSem.ClaimSeven
namespace Go.Proofs.YtfininfcljdkbaaDoor
namespace Rows

/-- THE TIED CARD OF 'makeweightlaw01.ActNames'. -/
def actNamesCard : Claim7 := { stood := { row := actNamesRow, standIns := [], harness := (true, "8cd5c75e630700aacddb3b0008415d8951b967cf2edd0a1e4aa48fef75a9d0b4"), looks := true }, kinds := [], alts := [], laidByText := true, laidKinds := [.data, .sentinel, .pinned], laidTests := true, laidLooks := .later }
def ActNamesCardSaid : Prop := Claim7.holds Tryd.pinned (.plain (OpenSpec.ofChange actNamesSpec)) actNamesCard

/-- THE TIED CARD OF 'makeweightlaw01.ActStrings'. -/
def actStringsCard : Claim7 := { stood := { row := actStringsRow, standIns := [], harness := (true, "8cd5c75e630700aacddb3b0008415d8951b967cf2edd0a1e4aa48fef75a9d0b4"), looks := true }, kinds := [], alts := [], laidByText := true, laidKinds := [.data, .sentinel, .pinned], laidTests := true, laidLooks := .later }
def ActStringsCardSaid : Prop := Claim7.holds Tryd.pinned (.plain (OpenSpec.ofChange actStringsSpec)) actStringsCard

/-- THE TIED CARD OF 'makeweightlaw01.ActBack'. -/
def actBackCard : Claim7 := { stood := { row := actBackRow, standIns := [], harness := (true, "8cd5c75e630700aacddb3b0008415d8951b967cf2edd0a1e4aa48fef75a9d0b4"), looks := true }, kinds := [], alts := [], laidByText := true, laidKinds := [.data, .sentinel, .pinned], laidTests := true, laidLooks := .later }
def ActBackCardSaid : Prop := Claim7.holds Tryd.pinned (.plain (OpenSpec.ofChange actBackSpec)) actBackCard

/-- THE TIED CARD OF 'makeweightlaw01.ActSets'. -/
def actSetsCard : Claim7 := { stood := { row := actSetsRow, standIns := [], harness := (true, "8cd5c75e630700aacddb3b0008415d8951b967cf2edd0a1e4aa48fef75a9d0b4"), looks := true }, kinds := [], alts := [], laidByText := true, laidKinds := [.data, .sentinel, .pinned], laidTests := true, laidLooks := .later }
def ActSetsCardSaid : Prop := Claim7.holds Tryd.pinned (.plain (OpenSpec.ofChange actSetsSpec)) actSetsCard

/-- THE TIED CARD OF 'makeweightlaw01.ActOwn'. -/
def actOwnCard : Claim7 := { stood := { row := actOwnRow, standIns := [], harness := (true, "8cd5c75e630700aacddb3b0008415d8951b967cf2edd0a1e4aa48fef75a9d0b4"), looks := true }, kinds := [], alts := [], laidByText := true, laidKinds := [.data, .sentinel, .pinned], laidTests := true, laidLooks := .later }
def ActOwnCardSaid : Prop := Claim7.holds Tryd.pinned (.plain (OpenSpec.ofChange actOwnSpec)) actOwnCard

/-- THE SECOND FORM's CARD OF 'makeweightlaw01.ActNames'. -/
def actNamesUptoCard : Claim7 := { stood := { row := actNamesUptoRow, standIns := [], harness := (true, "8cd5c75e630700aacddb3b0008415d8951b967cf2edd0a1e4aa48fef75a9d0b4"), looks := true }, kinds := [], alts := [], laidByText := true, laidKinds := [.data, .sentinel, .pinned], laidTests := true, laidLooks := .later }
def ActNamesUptoCardSaid : Prop := Claim7.holds Tryd.pinned (.plain (OpenSpec.upto actNamesSpec)) actNamesUptoCard

/-- THE SECOND FORM's CARD OF 'makeweightlaw01.ActStrings'. -/
def actStringsUptoCard : Claim7 := { stood := { row := actStringsUptoRow, standIns := [], harness := (true, "8cd5c75e630700aacddb3b0008415d8951b967cf2edd0a1e4aa48fef75a9d0b4"), looks := true }, kinds := [], alts := [], laidByText := true, laidKinds := [.data, .sentinel, .pinned], laidTests := true, laidLooks := .later }
def ActStringsUptoCardSaid : Prop := Claim7.holds Tryd.pinned (.plain (OpenSpec.upto actStringsSpec)) actStringsUptoCard

/-- THE SECOND FORM's CARD OF 'makeweightlaw01.ActBack'. -/
def actBackUptoCard : Claim7 := { stood := { row := actBackUptoRow, standIns := [], harness := (true, "8cd5c75e630700aacddb3b0008415d8951b967cf2edd0a1e4aa48fef75a9d0b4"), looks := true }, kinds := [], alts := [], laidByText := true, laidKinds := [.data, .sentinel, .pinned], laidTests := true, laidLooks := .later }
def ActBackUptoCardSaid : Prop := Claim7.holds Tryd.pinned (.plain (OpenSpec.upto actBackSpec)) actBackUptoCard

/-- THE SECOND FORM's CARD OF 'makeweightlaw01.ActSets'. -/
def actSetsUptoCard : Claim7 := { stood := { row := actSetsUptoRow, standIns := [], harness := (true, "8cd5c75e630700aacddb3b0008415d8951b967cf2edd0a1e4aa48fef75a9d0b4"), looks := true }, kinds := [], alts := [], laidByText := true, laidKinds := [.data, .sentinel, .pinned], laidTests := true, laidLooks := .later }
def ActSetsUptoCardSaid : Prop := Claim7.holds Tryd.pinned (.plain (OpenSpec.upto actSetsSpec)) actSetsUptoCard

/-- THE SECOND FORM's CARD OF 'makeweightlaw01.ActOwn'. -/
def actOwnUptoCard : Claim7 := { stood := { row := actOwnUptoRow, standIns := [], harness := (true, "8cd5c75e630700aacddb3b0008415d8951b967cf2edd0a1e4aa48fef75a9d0b4"), looks := true }, kinds := [], alts := [], laidByText := true, laidKinds := [.data, .sentinel, .pinned], laidTests := true, laidLooks := .later }
def ActOwnUptoCardSaid : Prop := Claim7.holds Tryd.pinned (.plain (OpenSpec.upto actOwnSpec)) actOwnUptoCard
end Rows
end Go.Proofs.YtfininfcljdkbaaDoor
