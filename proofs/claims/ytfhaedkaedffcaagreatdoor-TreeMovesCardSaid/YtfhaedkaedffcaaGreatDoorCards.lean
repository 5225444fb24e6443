/-
  DERIVED. GIVEN WITH THE SEED: THE CARDS: each row of YtfhaedkaedffcaaGreatDoorRows.lean that lists a variable, with what it lists TIED to the program's text (the seventh form; the later family's looks); each row that meets fmt, with fmt's text TOLD by the authors' own Lean function (tested against real Go, not proved from fmt's source: count such statements apart). THE CARD IS WHAT COUNTS. Prove the row's statement (the work); the ties are given (YtfhaedkaedffcaaGreatDoorTie.lean); close each card by the builder's one call (the guide's Derived/Test/ToyasCard.lean, 'card_holds'). Laid BY PROGRAM, IN A SANDBOX (cutbox-door.mjs). By AI agents, Wed Nov 11 2026. No macro, syntax, notation, axiom, sorry.
-/
import Derived.Test.YtfhaedkaedffcaaGreatDoorRows
import GoSem.ClaimSeven
namespace Go.Proofs.YtfhaedkaedffcaaGreatDoor
namespace Rows

/-- THE TIED CARD OF 'purlinlaw14.TreeNames'. -/
def treeNamesCard : Claim7 := { stood := { row := treeNamesRow, standIns := [], harness := (true, "639a2aa98dff484791397b603aff63ab8fc1078ea5354c6c3c90bde36c6359b9"), looks := true }, kinds := [], alts := [], laidByText := true, laidKinds := [.data, .pinned], laidTests := true, laidLooks := .later }
def TreeNamesCardSaid : Prop := Claim7.holds Tryz.pinned (.plain (OpenSpec.ofChange treeNamesSpec)) treeNamesCard

/-- THE TIED CARD OF 'purlinlaw14.TreeLoops'. -/
def treeLoopsCard : Claim7 := { stood := { row := treeLoopsRow, standIns := [], harness := (true, "639a2aa98dff484791397b603aff63ab8fc1078ea5354c6c3c90bde36c6359b9"), looks := true }, kinds := [], alts := [], laidByText := true, laidKinds := [.data, .pinned], laidTests := true, laidLooks := .later }
def TreeLoopsCardSaid : Prop := Claim7.holds Tryz.pinned (.plain (OpenSpec.ofChange treeLoopsSpec)) treeLoopsCard

/-- THE TIED CARD OF 'purlinlaw14.TreeBytes'. -/
def treeBytesCard : Claim7 := { stood := { row := treeBytesRow, standIns := [], harness := (true, "639a2aa98dff484791397b603aff63ab8fc1078ea5354c6c3c90bde36c6359b9"), looks := true }, kinds := [], alts := [], laidByText := true, laidKinds := [.data, .pinned], laidTests := true, laidLooks := .later }
def TreeBytesCardSaid : Prop := Claim7.holds Tryz.pinned (.plain (OpenSpec.ofChange treeBytesSpec)) treeBytesCard

/-- THE TIED CARD OF 'purlinlaw14.TreeAppends'. -/
def treeAppendsCard : Claim7 := { stood := { row := treeAppendsRow, standIns := [], harness := (true, "639a2aa98dff484791397b603aff63ab8fc1078ea5354c6c3c90bde36c6359b9"), looks := true }, kinds := [], alts := [], laidByText := true, laidKinds := [.data, .pinned], laidTests := true, laidLooks := .later }
def TreeAppendsCardSaid : Prop := Claim7.holds Tryz.pinned (.plain (OpenSpec.ofChange treeAppendsSpec)) treeAppendsCard

/-- THE TIED CARD OF 'purlinlaw14.TreeMoves'. -/
def treeMovesCard : Claim7 := { stood := { row := treeMovesRow, standIns := [], harness := (true, "639a2aa98dff484791397b603aff63ab8fc1078ea5354c6c3c90bde36c6359b9"), looks := true }, kinds := [], alts := [], laidByText := true, laidKinds := [.data, .pinned], laidTests := true, laidLooks := .later }
def TreeMovesCardSaid : Prop := Claim7.holds Tryz.pinned (.plain (OpenSpec.ofChange treeMovesSpec)) treeMovesCard

/-- THE TIED CARD OF 'purlinlaw14.TreeLong'. -/
def treeLongCard : Claim7 := { stood := { row := treeLongRow, standIns := [], harness := (true, "639a2aa98dff484791397b603aff63ab8fc1078ea5354c6c3c90bde36c6359b9"), looks := true }, kinds := [], alts := [], laidByText := true, laidKinds := [.data, .pinned], laidTests := true, laidLooks := .later }
def TreeLongCardSaid : Prop := Claim7.holds Tryz.pinned (.plain (OpenSpec.ofChange treeLongSpec)) treeLongCard

/-- THE TIED CARD OF 'purlinlaw14.TreeNamesRise'. -/
def treeNamesRiseCard : Claim7 := { stood := { row := treeNamesRiseRow, standIns := [], harness := (true, "639a2aa98dff484791397b603aff63ab8fc1078ea5354c6c3c90bde36c6359b9"), looks := true }, kinds := [], alts := [], laidByText := true, laidKinds := [.data, .pinned], laidTests := true, laidLooks := .later }
def TreeNamesRiseCardSaid : Prop := Claim7.holds Tryz.pinned (.plain (OpenSpec.ofChange treeNamesRiseSpec)) treeNamesRiseCard

/-- THE TIED CARD OF 'purlinlaw14.TreeReads'. -/
def treeReadsCard : Claim7 := { stood := { row := treeReadsRow, standIns := [], harness := (true, "639a2aa98dff484791397b603aff63ab8fc1078ea5354c6c3c90bde36c6359b9"), looks := true }, kinds := [], alts := [], laidByText := true, laidKinds := [.data, .pinned], laidTests := true, laidLooks := .later }
def TreeReadsCardSaid : Prop := Claim7.holds Tryz.pinned (.plain (OpenSpec.ofChange treeReadsSpec)) treeReadsCard

/-- THE TIED CARD OF 'purlinlaw14.TreeFails'. -/
def treeFailsCard : Claim7 := { stood := { row := treeFailsRow, standIns := [], harness := (true, "639a2aa98dff484791397b603aff63ab8fc1078ea5354c6c3c90bde36c6359b9"), looks := true }, kinds := [], alts := [], laidByText := true, laidKinds := [.data, .pinned], laidTests := true, laidLooks := .later }
def TreeFailsCardSaid : Prop := Claim7.holds Tryz.pinned (.plain (OpenSpec.ofChange treeFailsSpec)) treeFailsCard

/-- THE TIED CARD OF 'purlinlaw14.TreeCopies'. -/
def treeCopiesCard : Claim7 := { stood := { row := treeCopiesRow, standIns := [], harness := (true, "639a2aa98dff484791397b603aff63ab8fc1078ea5354c6c3c90bde36c6359b9"), looks := true }, kinds := [], alts := [], laidByText := true, laidKinds := [.data, .pinned], laidTests := true, laidLooks := .later }
def TreeCopiesCardSaid : Prop := Claim7.holds Tryz.pinned (.plain (OpenSpec.ofChange treeCopiesSpec)) treeCopiesCard

/-- THE TIED CARD OF 'purlinlaw14.TreeScript'. -/
def treeScriptCard : Claim7 := { stood := { row := treeScriptRow, standIns := [], harness := (true, "639a2aa98dff484791397b603aff63ab8fc1078ea5354c6c3c90bde36c6359b9"), looks := true }, kinds := [], alts := [], laidByText := true, laidKinds := [.data, .pinned], laidTests := true, laidLooks := .later }
def TreeScriptCardSaid : Prop := Claim7.holds Tryz.pinned (.plain (OpenSpec.ofChange treeScriptSpec)) treeScriptCard

/-- THE TIED CARD OF 'purlinlaw14.TreeSame'. -/
def treeSameCard : Claim7 := { stood := { row := treeSameRow, standIns := [], harness := (true, "639a2aa98dff484791397b603aff63ab8fc1078ea5354c6c3c90bde36c6359b9"), looks := true }, kinds := [], alts := [], laidByText := true, laidKinds := [.data, .pinned], laidTests := true, laidLooks := .later }
def TreeSameCardSaid : Prop := Claim7.holds Tryz.pinned (.plain (OpenSpec.ofChange treeSameSpec)) treeSameCard

/-- THE SECOND FORM's CARD OF 'purlinlaw14.TreeNames'. -/
def treeNamesUptoCard : Claim7 := { stood := { row := treeNamesUptoRow, standIns := [], harness := (true, "639a2aa98dff484791397b603aff63ab8fc1078ea5354c6c3c90bde36c6359b9"), looks := true }, kinds := [], alts := [], laidByText := true, laidKinds := [.data, .pinned], laidTests := true, laidLooks := .later }
def TreeNamesUptoCardSaid : Prop := Claim7.holds Tryz.pinned (.plain (OpenSpec.upto treeNamesSpec)) treeNamesUptoCard

/-- THE SECOND FORM's CARD OF 'purlinlaw14.TreeLoops'. -/
def treeLoopsUptoCard : Claim7 := { stood := { row := treeLoopsUptoRow, standIns := [], harness := (true, "639a2aa98dff484791397b603aff63ab8fc1078ea5354c6c3c90bde36c6359b9"), looks := true }, kinds := [], alts := [], laidByText := true, laidKinds := [.data, .pinned], laidTests := true, laidLooks := .later }
def TreeLoopsUptoCardSaid : Prop := Claim7.holds Tryz.pinned (.plain (OpenSpec.upto treeLoopsSpec)) treeLoopsUptoCard

/-- THE SECOND FORM's CARD OF 'purlinlaw14.TreeBytes'. -/
def treeBytesUptoCard : Claim7 := { stood := { row := treeBytesUptoRow, standIns := [], harness := (true, "639a2aa98dff484791397b603aff63ab8fc1078ea5354c6c3c90bde36c6359b9"), looks := true }, kinds := [], alts := [], laidByText := true, laidKinds := [.data, .pinned], laidTests := true, laidLooks := .later }
def TreeBytesUptoCardSaid : Prop := Claim7.holds Tryz.pinned (.plain (OpenSpec.upto treeBytesSpec)) treeBytesUptoCard

/-- THE SECOND FORM's CARD OF 'purlinlaw14.TreeAppends'. -/
def treeAppendsUptoCard : Claim7 := { stood := { row := treeAppendsUptoRow, standIns := [], harness := (true, "639a2aa98dff484791397b603aff63ab8fc1078ea5354c6c3c90bde36c6359b9"), looks := true }, kinds := [], alts := [], laidByText := true, laidKinds := [.data, .pinned], laidTests := true, laidLooks := .later }
def TreeAppendsUptoCardSaid : Prop := Claim7.holds Tryz.pinned (.plain (OpenSpec.upto treeAppendsSpec)) treeAppendsUptoCard

/-- THE SECOND FORM's CARD OF 'purlinlaw14.TreeMoves'. -/
def treeMovesUptoCard : Claim7 := { stood := { row := treeMovesUptoRow, standIns := [], harness := (true, "639a2aa98dff484791397b603aff63ab8fc1078ea5354c6c3c90bde36c6359b9"), looks := true }, kinds := [], alts := [], laidByText := true, laidKinds := [.data, .pinned], laidTests := true, laidLooks := .later }
def TreeMovesUptoCardSaid : Prop := Claim7.holds Tryz.pinned (.plain (OpenSpec.upto treeMovesSpec)) treeMovesUptoCard

/-- THE SECOND FORM's CARD OF 'purlinlaw14.TreeLong'. -/
def treeLongUptoCard : Claim7 := { stood := { row := treeLongUptoRow, standIns := [], harness := (true, "639a2aa98dff484791397b603aff63ab8fc1078ea5354c6c3c90bde36c6359b9"), looks := true }, kinds := [], alts := [], laidByText := true, laidKinds := [.data, .pinned], laidTests := true, laidLooks := .later }
def TreeLongUptoCardSaid : Prop := Claim7.holds Tryz.pinned (.plain (OpenSpec.upto treeLongSpec)) treeLongUptoCard

/-- THE SECOND FORM's CARD OF 'purlinlaw14.TreeNamesRise'. -/
def treeNamesRiseUptoCard : Claim7 := { stood := { row := treeNamesRiseUptoRow, standIns := [], harness := (true, "639a2aa98dff484791397b603aff63ab8fc1078ea5354c6c3c90bde36c6359b9"), looks := true }, kinds := [], alts := [], laidByText := true, laidKinds := [.data, .pinned], laidTests := true, laidLooks := .later }
def TreeNamesRiseUptoCardSaid : Prop := Claim7.holds Tryz.pinned (.plain (OpenSpec.upto treeNamesRiseSpec)) treeNamesRiseUptoCard

/-- THE SECOND FORM's CARD OF 'purlinlaw14.TreeReads'. -/
def treeReadsUptoCard : Claim7 := { stood := { row := treeReadsUptoRow, standIns := [], harness := (true, "639a2aa98dff484791397b603aff63ab8fc1078ea5354c6c3c90bde36c6359b9"), looks := true }, kinds := [], alts := [], laidByText := true, laidKinds := [.data, .pinned], laidTests := true, laidLooks := .later }
def TreeReadsUptoCardSaid : Prop := Claim7.holds Tryz.pinned (.plain (OpenSpec.upto treeReadsSpec)) treeReadsUptoCard

/-- THE SECOND FORM's CARD OF 'purlinlaw14.TreeFails'. -/
def treeFailsUptoCard : Claim7 := { stood := { row := treeFailsUptoRow, standIns := [], harness := (true, "639a2aa98dff484791397b603aff63ab8fc1078ea5354c6c3c90bde36c6359b9"), looks := true }, kinds := [], alts := [], laidByText := true, laidKinds := [.data, .pinned], laidTests := true, laidLooks := .later }
def TreeFailsUptoCardSaid : Prop := Claim7.holds Tryz.pinned (.plain (OpenSpec.upto treeFailsSpec)) treeFailsUptoCard

/-- THE SECOND FORM's CARD OF 'purlinlaw14.TreeCopies'. -/
def treeCopiesUptoCard : Claim7 := { stood := { row := treeCopiesUptoRow, standIns := [], harness := (true, "639a2aa98dff484791397b603aff63ab8fc1078ea5354c6c3c90bde36c6359b9"), looks := true }, kinds := [], alts := [], laidByText := true, laidKinds := [.data, .pinned], laidTests := true, laidLooks := .later }
def TreeCopiesUptoCardSaid : Prop := Claim7.holds Tryz.pinned (.plain (OpenSpec.upto treeCopiesSpec)) treeCopiesUptoCard

/-- THE SECOND FORM's CARD OF 'purlinlaw14.TreeScript'. -/
def treeScriptUptoCard : Claim7 := { stood := { row := treeScriptUptoRow, standIns := [], harness := (true, "639a2aa98dff484791397b603aff63ab8fc1078ea5354c6c3c90bde36c6359b9"), looks := true }, kinds := [], alts := [], laidByText := true, laidKinds := [.data, .pinned], laidTests := true, laidLooks := .later }
def TreeScriptUptoCardSaid : Prop := Claim7.holds Tryz.pinned (.plain (OpenSpec.upto treeScriptSpec)) treeScriptUptoCard

/-- THE SECOND FORM's CARD OF 'purlinlaw14.TreeSame'. -/
def treeSameUptoCard : Claim7 := { stood := { row := treeSameUptoRow, standIns := [], harness := (true, "639a2aa98dff484791397b603aff63ab8fc1078ea5354c6c3c90bde36c6359b9"), looks := true }, kinds := [], alts := [], laidByText := true, laidKinds := [.data, .pinned], laidTests := true, laidLooks := .later }
def TreeSameUptoCardSaid : Prop := Claim7.holds Tryz.pinned (.plain (OpenSpec.upto treeSameSpec)) treeSameUptoCard
end Rows
end Go.Proofs.YtfhaedkaedffcaaGreatDoor
