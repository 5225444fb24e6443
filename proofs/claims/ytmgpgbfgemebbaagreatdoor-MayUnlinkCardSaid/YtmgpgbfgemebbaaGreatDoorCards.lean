/-
  DERIVED. GIVEN WITH THE SEED: THE CARDS: each row of YtmgpgbfgemebbaaGreatDoorRows.lean that lists a variable, with what it lists TIED to the program's text (the seventh form; the later family's looks); each row that meets fmt, with fmt's text TOLD by the authors' own Lean function (tested against real Go, not proved from fmt's source: count such statements apart). THE CARD IS WHAT COUNTS. Prove the row's statement (the work); the ties are given (YtmgpgbfgemebbaaGreatDoorTie.lean); close each card by the builder's one call (the guide's Derived/Test/ToyasCard.lean, 'card_holds'). Laid BY PROGRAM, IN A SANDBOX (cutbox-door.mjs). By AI agents, Wed Nov 11 2026. No macro, syntax, notation, axiom, sorry.
-/
import Derived.Test.YtmgpgbfgemebbaaGreatDoorRows
import GoSem.ClaimSeven
namespace Go.Proofs.YtmgpgbfgemebbaaGreatDoor
namespace Rows

/-- THE TIED CARD OF 'purlinlaw14.TreeScript'. -/
def treeScriptCard : Claim7 := { stood := { row := treeScriptRow, standIns := [], harness := (true, "7ff2a16c02bb565d4e3343f30f31f09bd0f7102498a977b0a90ab2e18765542d"), looks := true }, kinds := [], alts := [], laidByText := true, laidKinds := [.data, .pinned], laidTests := true, laidLooks := .later }
def TreeScriptCardSaid : Prop := Claim7.holds Tryz.pinned (.plain (OpenSpec.ofChange treeScriptSpec)) treeScriptCard

/-- THE TIED CARD OF 'purlinlaw24.MayFsync'. -/
def mayFsyncCard : Claim7 := { stood := { row := mayFsyncRow, standIns := [], harness := (true, "7ff2a16c02bb565d4e3343f30f31f09bd0f7102498a977b0a90ab2e18765542d"), looks := true }, kinds := [], alts := [], laidByText := true, laidKinds := [.data, .pinned], laidTests := true, laidLooks := .later }
def MayFsyncCardSaid : Prop := Claim7.holds Tryz.pinned (.plain (OpenSpec.ofChange mayFsyncSpec)) mayFsyncCard

/-- THE TIED CARD OF 'purlinlaw24.MayRename'. -/
def mayRenameCard : Claim7 := { stood := { row := mayRenameRow, standIns := [], harness := (true, "7ff2a16c02bb565d4e3343f30f31f09bd0f7102498a977b0a90ab2e18765542d"), looks := true }, kinds := [], alts := [], laidByText := true, laidKinds := [.data, .pinned], laidTests := true, laidLooks := .later }
def MayRenameCardSaid : Prop := Claim7.holds Tryz.pinned (.plain (OpenSpec.ofChange mayRenameSpec)) mayRenameCard

/-- THE TIED CARD OF 'purlinlaw24.MayUnlink'. -/
def mayUnlinkCard : Claim7 := { stood := { row := mayUnlinkRow, standIns := [], harness := (true, "7ff2a16c02bb565d4e3343f30f31f09bd0f7102498a977b0a90ab2e18765542d"), looks := true }, kinds := [], alts := [], laidByText := true, laidKinds := [.data, .pinned], laidTests := true, laidLooks := .later }
def MayUnlinkCardSaid : Prop := Claim7.holds Tryz.pinned (.plain (OpenSpec.ofChange mayUnlinkSpec)) mayUnlinkCard

/-- THE TIED CARD OF 'purlinlaw24.MayGrows'. -/
def mayGrowsCard : Claim7 := { stood := { row := mayGrowsRow, standIns := [], harness := (true, "7ff2a16c02bb565d4e3343f30f31f09bd0f7102498a977b0a90ab2e18765542d"), looks := true }, kinds := [], alts := [], laidByText := true, laidKinds := [.data, .pinned], laidTests := true, laidLooks := .later }
def MayGrowsCardSaid : Prop := Claim7.holds Tryz.pinned (.plain (OpenSpec.ofChange mayGrowsSpec)) mayGrowsCard

/-- THE TIED CARD OF 'purlinlaw24.MayNone'. -/
def mayNoneCard : Claim7 := { stood := { row := mayNoneRow, standIns := [], harness := (true, "7ff2a16c02bb565d4e3343f30f31f09bd0f7102498a977b0a90ab2e18765542d"), looks := true }, kinds := [], alts := [], laidByText := true, laidKinds := [.data, .pinned], laidTests := true, laidLooks := .later }
def MayNoneCardSaid : Prop := Claim7.holds Tryz.pinned (.plain (OpenSpec.ofChange mayNoneSpec)) mayNoneCard

/-- THE TIED CARD OF 'purlinlaw24.MaySync'. -/
def maySyncCard : Claim7 := { stood := { row := maySyncRow, standIns := [], harness := (true, "7ff2a16c02bb565d4e3343f30f31f09bd0f7102498a977b0a90ab2e18765542d"), looks := true }, kinds := [], alts := [], laidByText := true, laidKinds := [.data, .pinned], laidTests := true, laidLooks := .later }
def MaySyncCardSaid : Prop := Claim7.holds Tryz.pinned (.plain (OpenSpec.ofChange maySyncSpec)) maySyncCard

/-- THE TIED CARD OF 'purlinlaw24.MayFresh'. -/
def mayFreshCard : Claim7 := { stood := { row := mayFreshRow, standIns := [], harness := (true, "7ff2a16c02bb565d4e3343f30f31f09bd0f7102498a977b0a90ab2e18765542d"), looks := true }, kinds := [], alts := [], laidByText := true, laidKinds := [.data, .pinned], laidTests := true, laidLooks := .later }
def MayFreshCardSaid : Prop := Claim7.holds Tryz.pinned (.plain (OpenSpec.ofChange mayFreshSpec)) mayFreshCard

/-- THE SECOND FORM's CARD OF 'purlinlaw14.TreeScript'. -/
def treeScriptUptoCard : Claim7 := { stood := { row := treeScriptUptoRow, standIns := [], harness := (true, "7ff2a16c02bb565d4e3343f30f31f09bd0f7102498a977b0a90ab2e18765542d"), looks := true }, kinds := [], alts := [], laidByText := true, laidKinds := [.data, .pinned], laidTests := true, laidLooks := .later }
def TreeScriptUptoCardSaid : Prop := Claim7.holds Tryz.pinned (.plain (OpenSpec.upto treeScriptSpec)) treeScriptUptoCard

/-- THE SECOND FORM's CARD OF 'purlinlaw24.MayFsync'. -/
def mayFsyncUptoCard : Claim7 := { stood := { row := mayFsyncUptoRow, standIns := [], harness := (true, "7ff2a16c02bb565d4e3343f30f31f09bd0f7102498a977b0a90ab2e18765542d"), looks := true }, kinds := [], alts := [], laidByText := true, laidKinds := [.data, .pinned], laidTests := true, laidLooks := .later }
def MayFsyncUptoCardSaid : Prop := Claim7.holds Tryz.pinned (.plain (OpenSpec.upto mayFsyncSpec)) mayFsyncUptoCard

/-- THE SECOND FORM's CARD OF 'purlinlaw24.MayRename'. -/
def mayRenameUptoCard : Claim7 := { stood := { row := mayRenameUptoRow, standIns := [], harness := (true, "7ff2a16c02bb565d4e3343f30f31f09bd0f7102498a977b0a90ab2e18765542d"), looks := true }, kinds := [], alts := [], laidByText := true, laidKinds := [.data, .pinned], laidTests := true, laidLooks := .later }
def MayRenameUptoCardSaid : Prop := Claim7.holds Tryz.pinned (.plain (OpenSpec.upto mayRenameSpec)) mayRenameUptoCard

/-- THE SECOND FORM's CARD OF 'purlinlaw24.MayUnlink'. -/
def mayUnlinkUptoCard : Claim7 := { stood := { row := mayUnlinkUptoRow, standIns := [], harness := (true, "7ff2a16c02bb565d4e3343f30f31f09bd0f7102498a977b0a90ab2e18765542d"), looks := true }, kinds := [], alts := [], laidByText := true, laidKinds := [.data, .pinned], laidTests := true, laidLooks := .later }
def MayUnlinkUptoCardSaid : Prop := Claim7.holds Tryz.pinned (.plain (OpenSpec.upto mayUnlinkSpec)) mayUnlinkUptoCard

/-- THE SECOND FORM's CARD OF 'purlinlaw24.MayGrows'. -/
def mayGrowsUptoCard : Claim7 := { stood := { row := mayGrowsUptoRow, standIns := [], harness := (true, "7ff2a16c02bb565d4e3343f30f31f09bd0f7102498a977b0a90ab2e18765542d"), looks := true }, kinds := [], alts := [], laidByText := true, laidKinds := [.data, .pinned], laidTests := true, laidLooks := .later }
def MayGrowsUptoCardSaid : Prop := Claim7.holds Tryz.pinned (.plain (OpenSpec.upto mayGrowsSpec)) mayGrowsUptoCard

/-- THE SECOND FORM's CARD OF 'purlinlaw24.MayNone'. -/
def mayNoneUptoCard : Claim7 := { stood := { row := mayNoneUptoRow, standIns := [], harness := (true, "7ff2a16c02bb565d4e3343f30f31f09bd0f7102498a977b0a90ab2e18765542d"), looks := true }, kinds := [], alts := [], laidByText := true, laidKinds := [.data, .pinned], laidTests := true, laidLooks := .later }
def MayNoneUptoCardSaid : Prop := Claim7.holds Tryz.pinned (.plain (OpenSpec.upto mayNoneSpec)) mayNoneUptoCard

/-- THE SECOND FORM's CARD OF 'purlinlaw24.MaySync'. -/
def maySyncUptoCard : Claim7 := { stood := { row := maySyncUptoRow, standIns := [], harness := (true, "7ff2a16c02bb565d4e3343f30f31f09bd0f7102498a977b0a90ab2e18765542d"), looks := true }, kinds := [], alts := [], laidByText := true, laidKinds := [.data, .pinned], laidTests := true, laidLooks := .later }
def MaySyncUptoCardSaid : Prop := Claim7.holds Tryz.pinned (.plain (OpenSpec.upto maySyncSpec)) maySyncUptoCard

/-- THE SECOND FORM's CARD OF 'purlinlaw24.MayFresh'. -/
def mayFreshUptoCard : Claim7 := { stood := { row := mayFreshUptoRow, standIns := [], harness := (true, "7ff2a16c02bb565d4e3343f30f31f09bd0f7102498a977b0a90ab2e18765542d"), looks := true }, kinds := [], alts := [], laidByText := true, laidKinds := [.data, .pinned], laidTests := true, laidLooks := .later }
def MayFreshUptoCardSaid : Prop := Claim7.holds Tryz.pinned (.plain (OpenSpec.upto mayFreshSpec)) mayFreshUptoCard
end Rows
end Go.Proofs.YtmgpgbfgemebbaaGreatDoor
