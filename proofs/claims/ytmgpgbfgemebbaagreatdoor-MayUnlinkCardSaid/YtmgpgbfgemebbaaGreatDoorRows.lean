/-
  NARROWER THAN 'FOR EVERY INPUT', by the rows' own cells (each row's printed sentence says how): TreeScript: laid · MayFsync: laid · MayRename: laid · MayUnlink: laid · MayGrows: laid · MayNone: laid · MaySync: laid · MayFresh: laid.
  DERIVED. THE GIVEN ROWS OF THIS SEAT. 8 by the template 'for every input the law returns true; each argument reads behind the call as it read before'; 0 by the template 'total and deterministic' (their statements: YtmgpgbfgemebbaaGreatDoorTotals.lean).
  GIVEN WITH THE SEED: the statements are not yours to turn. If you find one false, say at which input.
  Laid BY PROGRAM, IN A SANDBOX (cutbox-rows.mjs): the forced cells as the released guide's own fill.sh prints them over the translation 5a1d783cd6e43230… (all of the seat's roots in one cut). By AI agents, Wed Nov 11 2026. No macro, syntax, notation, axiom, sorry.
-/
import Derived.Test.YtmgpgbfgemebbaaGreatDoorChecked
import GoSem.PinnedTables
import GoSem.Claim
import GoSem.ClaimJoined
import GoSem.ClaimMapViews
import Derived.JoinedTies
import Derived.KernelRfl
namespace Go.Proofs.YtmgpgbfgemebbaaGreatDoor
/- THE CELL 'sum', in the pinned program and in every row, IS THE sha256 OF THE DUMP (.gsa) THAT YtmgpgbfgemebbaaGreatDoorProg.lean LOADS. Nothing in Lean hashes anything: it is a label: what it is worth is what the hold of that sum in a sandbox is worth. -/
noncomputable def Tryz.pinned : Pinned := { name := "ytmgpgbfgemebbaagreatdoor", sum := "5a1d783cd6e432309bb881aadf28f7d1191d13db86116a7e5cda2979380acb58", checked := Tryz.checked }
namespace Rows
def none {H : Type} : Left H := { results := [], args := [] }

/- WHAT THE LISTED PACKAGE-LEVEL VARIABLES READ AS WHEN THE CALL BEGINS. Each datum BY PROGRAM (the guide's laid-datum.mjs) off the statement by which the dump's own 'gosem.cut.vars' lays the variable. In a bare row this is a premise. The card (YtmgpgbfgemebbaaGreatDoorCards.lean) ties it to the program's text. -/
def laid_unicode_utf8_acceptRanges {H : Type} : DataW H := .agg [.agg [.lit (.int .u8 128), .lit (.int .u8 191)], .agg [.lit (.int .u8 160), .lit (.int .u8 191)], .agg [.lit (.int .u8 128), .lit (.int .u8 159)], .agg [.lit (.int .u8 144), .lit (.int .u8 191)], .agg [.lit (.int .u8 128), .lit (.int .u8 143)], .agg [.lit (.int .u8 0), .lit (.int .u8 0)], .agg [.lit (.int .u8 0), .lit (.int .u8 0)], .agg [.lit (.int .u8 0), .lit (.int .u8 0)], .agg [.lit (.int .u8 0), .lit (.int .u8 0)], .agg [.lit (.int .u8 0), .lit (.int .u8 0)], .agg [.lit (.int .u8 0), .lit (.int .u8 0)], .agg [.lit (.int .u8 0), .lit (.int .u8 0)], .agg [.lit (.int .u8 0), .lit (.int .u8 0)], .agg [.lit (.int .u8 0), .lit (.int .u8 0)], .agg [.lit (.int .u8 0), .lit (.int .u8 0)], .agg [.lit (.int .u8 0), .lit (.int .u8 0)]]
/-- One of Go's own tables, pinned by name: the form's constant. -/
def laid_unicode_utf8_first : DataW Unit := Go.Pinned.utf8First

/-- 'purlinlaw14.TreeScript': WHATEVER THE INPUT: true; the input reads as it did. -/
def treeScriptSpec : ChangeSpec := { name := "treeScript", fn := fun _ => fun
  | [d1, d2] => { results := [.lit (.bool true)], args := [d1, d2] }
  | _ => none }
def treeScriptRow : OpenClaim := { program := "ytmgpgbfgemebbaagreatdoor", sum := "5a1d783cd6e432309bb881aadf28f7d1191d13db86116a7e5cda2979380acb58", func := "purlin/purlinlaw14.TreeScript", spec := "treeScript", inPlace := ["internal/bytealg.IndexByteString", "internal/bytealg.IndexString", "internal/bytealg.CountString", "internal/abi.NoEscape", "internal/bytealg.MakeNoZero", "internal/bytealg.abigen_runtime_cmpstring", "maps.clone"], unfollowed := true, recurses := true, named := ["internal/bytealg.MaxLen", "unicode/utf8.first", "unicode/utf8.acceptRanges"], plainKeys := false, apart := false, laid := [("unicode/utf8.acceptRanges", laid_unicode_utf8_acceptRanges), ("unicode/utf8.first", laid_unicode_utf8_first)] }
def TreeScriptSaid : Prop := treeScriptRow.holds Tryz.pinned (OpenSpec.ofChange treeScriptSpec)

/-- ITS FALSE NEIGHBOUR: 'it returns false'. Refute it at one input. -/
def treeScriptWrong : ChangeSpec := { name := "treeScript", fn := fun _ => fun
  | [d1, d2] => { results := [.lit (.bool false)], args := [d1, d2] }
  | _ => none }
def TreeScriptWrongFalsely : Prop := treeScriptRow.holds Tryz.pinned (OpenSpec.ofChange treeScriptWrong)

/-- 'purlinlaw24.MayFsync': WHATEVER THE INPUT: true; the input reads as it did. -/
def mayFsyncSpec : ChangeSpec := { name := "mayFsync", fn := fun _ => fun
  | [d1, d2, d3, d4] => { results := [.lit (.bool true)], args := [d1, d2, d3, d4] }
  | _ => none }
def mayFsyncRow : OpenClaim := { program := "ytmgpgbfgemebbaagreatdoor", sum := "5a1d783cd6e432309bb881aadf28f7d1191d13db86116a7e5cda2979380acb58", func := "purlin/purlinlaw24.MayFsync", spec := "mayFsync", inPlace := ["maps.clone", "internal/bytealg.IndexByteString", "internal/bytealg.IndexString", "internal/bytealg.CountString", "internal/abi.NoEscape", "internal/bytealg.MakeNoZero", "internal/bytealg.abigen_runtime_cmpstring"], unfollowed := true, recurses := true, named := ["internal/bytealg.MaxLen", "unicode/utf8.first", "unicode/utf8.acceptRanges"], plainKeys := false, apart := false, laid := [("unicode/utf8.acceptRanges", laid_unicode_utf8_acceptRanges), ("unicode/utf8.first", laid_unicode_utf8_first)] }
def MayFsyncSaid : Prop := mayFsyncRow.holds Tryz.pinned (OpenSpec.ofChange mayFsyncSpec)

/-- ITS FALSE NEIGHBOUR: 'it returns false'. Refute it at one input. -/
def mayFsyncWrong : ChangeSpec := { name := "mayFsync", fn := fun _ => fun
  | [d1, d2, d3, d4] => { results := [.lit (.bool false)], args := [d1, d2, d3, d4] }
  | _ => none }
def MayFsyncWrongFalsely : Prop := mayFsyncRow.holds Tryz.pinned (OpenSpec.ofChange mayFsyncWrong)

/-- 'purlinlaw24.MayRename': WHATEVER THE INPUT: true; the input reads as it did. -/
def mayRenameSpec : ChangeSpec := { name := "mayRename", fn := fun _ => fun
  | [d1, d2] => { results := [.lit (.bool true)], args := [d1, d2] }
  | _ => none }
def mayRenameRow : OpenClaim := { program := "ytmgpgbfgemebbaagreatdoor", sum := "5a1d783cd6e432309bb881aadf28f7d1191d13db86116a7e5cda2979380acb58", func := "purlin/purlinlaw24.MayRename", spec := "mayRename", inPlace := ["maps.clone", "internal/bytealg.IndexByteString", "internal/bytealg.IndexString", "internal/bytealg.CountString", "internal/abi.NoEscape", "internal/bytealg.MakeNoZero", "internal/bytealg.abigen_runtime_cmpstring"], unfollowed := true, recurses := true, named := ["internal/bytealg.MaxLen", "unicode/utf8.first", "unicode/utf8.acceptRanges"], plainKeys := false, apart := false, laid := [("unicode/utf8.acceptRanges", laid_unicode_utf8_acceptRanges), ("unicode/utf8.first", laid_unicode_utf8_first)] }
def MayRenameSaid : Prop := mayRenameRow.holds Tryz.pinned (OpenSpec.ofChange mayRenameSpec)

/-- ITS FALSE NEIGHBOUR: 'it returns false'. Refute it at one input. -/
def mayRenameWrong : ChangeSpec := { name := "mayRename", fn := fun _ => fun
  | [d1, d2] => { results := [.lit (.bool false)], args := [d1, d2] }
  | _ => none }
def MayRenameWrongFalsely : Prop := mayRenameRow.holds Tryz.pinned (OpenSpec.ofChange mayRenameWrong)

/-- 'purlinlaw24.MayUnlink': WHATEVER THE INPUT: true; the input reads as it did. -/
def mayUnlinkSpec : ChangeSpec := { name := "mayUnlink", fn := fun _ => fun
  | [d1, d2] => { results := [.lit (.bool true)], args := [d1, d2] }
  | _ => none }
def mayUnlinkRow : OpenClaim := { program := "ytmgpgbfgemebbaagreatdoor", sum := "5a1d783cd6e432309bb881aadf28f7d1191d13db86116a7e5cda2979380acb58", func := "purlin/purlinlaw24.MayUnlink", spec := "mayUnlink", inPlace := ["maps.clone", "internal/bytealg.IndexByteString", "internal/bytealg.IndexString", "internal/bytealg.CountString", "internal/abi.NoEscape", "internal/bytealg.MakeNoZero", "internal/bytealg.abigen_runtime_cmpstring"], unfollowed := true, recurses := true, named := ["internal/bytealg.MaxLen", "unicode/utf8.first", "unicode/utf8.acceptRanges"], plainKeys := false, apart := false, laid := [("unicode/utf8.acceptRanges", laid_unicode_utf8_acceptRanges), ("unicode/utf8.first", laid_unicode_utf8_first)] }
def MayUnlinkSaid : Prop := mayUnlinkRow.holds Tryz.pinned (OpenSpec.ofChange mayUnlinkSpec)

/-- ITS FALSE NEIGHBOUR: 'it returns false'. Refute it at one input. -/
def mayUnlinkWrong : ChangeSpec := { name := "mayUnlink", fn := fun _ => fun
  | [d1, d2] => { results := [.lit (.bool false)], args := [d1, d2] }
  | _ => none }
def MayUnlinkWrongFalsely : Prop := mayUnlinkRow.holds Tryz.pinned (OpenSpec.ofChange mayUnlinkWrong)

/-- 'purlinlaw24.MayGrows': WHATEVER THE INPUT: true; the input reads as it did. -/
def mayGrowsSpec : ChangeSpec := { name := "mayGrows", fn := fun _ => fun
  | [d] => { results := [.lit (.bool true)], args := [d] }
  | _ => none }
def mayGrowsRow : OpenClaim := { program := "ytmgpgbfgemebbaagreatdoor", sum := "5a1d783cd6e432309bb881aadf28f7d1191d13db86116a7e5cda2979380acb58", func := "purlin/purlinlaw24.MayGrows", spec := "mayGrows", inPlace := ["maps.clone", "internal/bytealg.IndexByteString", "internal/bytealg.IndexString", "internal/bytealg.CountString", "internal/abi.NoEscape", "internal/bytealg.MakeNoZero", "internal/bytealg.abigen_runtime_cmpstring"], unfollowed := true, recurses := true, named := ["internal/bytealg.MaxLen", "unicode/utf8.first", "unicode/utf8.acceptRanges"], plainKeys := false, apart := false, laid := [("unicode/utf8.acceptRanges", laid_unicode_utf8_acceptRanges), ("unicode/utf8.first", laid_unicode_utf8_first)] }
def MayGrowsSaid : Prop := mayGrowsRow.holds Tryz.pinned (OpenSpec.ofChange mayGrowsSpec)

/-- ITS FALSE NEIGHBOUR: 'it returns false'. Refute it at one input. -/
def mayGrowsWrong : ChangeSpec := { name := "mayGrows", fn := fun _ => fun
  | [d] => { results := [.lit (.bool false)], args := [d] }
  | _ => none }
def MayGrowsWrongFalsely : Prop := mayGrowsRow.holds Tryz.pinned (OpenSpec.ofChange mayGrowsWrong)

/-- 'purlinlaw24.MayNone': WHATEVER THE INPUT: true; the input reads as it did. -/
def mayNoneSpec : ChangeSpec := { name := "mayNone", fn := fun _ => fun
  | [d1, d2] => { results := [.lit (.bool true)], args := [d1, d2] }
  | _ => none }
def mayNoneRow : OpenClaim := { program := "ytmgpgbfgemebbaagreatdoor", sum := "5a1d783cd6e432309bb881aadf28f7d1191d13db86116a7e5cda2979380acb58", func := "purlin/purlinlaw24.MayNone", spec := "mayNone", inPlace := ["maps.clone", "internal/bytealg.IndexByteString", "internal/bytealg.IndexString", "internal/bytealg.CountString", "internal/abi.NoEscape", "internal/bytealg.MakeNoZero", "internal/bytealg.abigen_runtime_cmpstring"], unfollowed := true, recurses := true, named := ["internal/bytealg.MaxLen", "unicode/utf8.first", "unicode/utf8.acceptRanges"], plainKeys := false, apart := false, laid := [("unicode/utf8.acceptRanges", laid_unicode_utf8_acceptRanges), ("unicode/utf8.first", laid_unicode_utf8_first)] }
def MayNoneSaid : Prop := mayNoneRow.holds Tryz.pinned (OpenSpec.ofChange mayNoneSpec)

/-- ITS FALSE NEIGHBOUR: 'it returns false'. Refute it at one input. -/
def mayNoneWrong : ChangeSpec := { name := "mayNone", fn := fun _ => fun
  | [d1, d2] => { results := [.lit (.bool false)], args := [d1, d2] }
  | _ => none }
def MayNoneWrongFalsely : Prop := mayNoneRow.holds Tryz.pinned (OpenSpec.ofChange mayNoneWrong)

/-- 'purlinlaw24.MaySync': WHATEVER THE INPUT: true; the input reads as it did. -/
def maySyncSpec : ChangeSpec := { name := "maySync", fn := fun _ => fun
  | [d1, d2] => { results := [.lit (.bool true)], args := [d1, d2] }
  | _ => none }
def maySyncRow : OpenClaim := { program := "ytmgpgbfgemebbaagreatdoor", sum := "5a1d783cd6e432309bb881aadf28f7d1191d13db86116a7e5cda2979380acb58", func := "purlin/purlinlaw24.MaySync", spec := "maySync", inPlace := ["maps.clone", "internal/bytealg.IndexByteString", "internal/bytealg.IndexString", "internal/bytealg.CountString", "internal/abi.NoEscape", "internal/bytealg.MakeNoZero", "internal/bytealg.abigen_runtime_cmpstring"], unfollowed := true, recurses := true, named := ["internal/bytealg.MaxLen", "unicode/utf8.first", "unicode/utf8.acceptRanges"], plainKeys := false, apart := false, laid := [("unicode/utf8.acceptRanges", laid_unicode_utf8_acceptRanges), ("unicode/utf8.first", laid_unicode_utf8_first)] }
def MaySyncSaid : Prop := maySyncRow.holds Tryz.pinned (OpenSpec.ofChange maySyncSpec)

/-- ITS FALSE NEIGHBOUR: 'it returns false'. Refute it at one input. -/
def maySyncWrong : ChangeSpec := { name := "maySync", fn := fun _ => fun
  | [d1, d2] => { results := [.lit (.bool false)], args := [d1, d2] }
  | _ => none }
def MaySyncWrongFalsely : Prop := maySyncRow.holds Tryz.pinned (OpenSpec.ofChange maySyncWrong)

/-- 'purlinlaw24.MayFresh': WHATEVER THE INPUT: true; the input reads as it did. -/
def mayFreshSpec : ChangeSpec := { name := "mayFresh", fn := fun _ => fun
  | [d1, d2, d3] => { results := [.lit (.bool true)], args := [d1, d2, d3] }
  | _ => none }
def mayFreshRow : OpenClaim := { program := "ytmgpgbfgemebbaagreatdoor", sum := "5a1d783cd6e432309bb881aadf28f7d1191d13db86116a7e5cda2979380acb58", func := "purlin/purlinlaw24.MayFresh", spec := "mayFresh", inPlace := ["maps.clone", "internal/bytealg.IndexByteString", "internal/bytealg.IndexString", "internal/bytealg.CountString", "internal/abi.NoEscape", "internal/bytealg.MakeNoZero", "internal/bytealg.abigen_runtime_cmpstring"], unfollowed := true, recurses := true, named := ["internal/bytealg.MaxLen", "unicode/utf8.first", "unicode/utf8.acceptRanges"], plainKeys := false, apart := false, laid := [("unicode/utf8.acceptRanges", laid_unicode_utf8_acceptRanges), ("unicode/utf8.first", laid_unicode_utf8_first)] }
def MayFreshSaid : Prop := mayFreshRow.holds Tryz.pinned (OpenSpec.ofChange mayFreshSpec)

/-- ITS FALSE NEIGHBOUR: 'it returns false'. Refute it at one input. -/
def mayFreshWrong : ChangeSpec := { name := "mayFresh", fn := fun _ => fun
  | [d1, d2, d3] => { results := [.lit (.bool false)], args := [d1, d2, d3] }
  | _ => none }
def MayFreshWrongFalsely : Prop := mayFreshRow.holds Tryz.pinned (OpenSpec.ofChange mayFreshWrong)

/- THE SECOND FORM. 'bulk': how many values and letters a reading holds, each counted each time it is reached (what is shared counts as often as it is met; a slice's spare places count too). A statement '..UptoSaid' is the law's where the arguments, and the package variables that the reading takes, are together of bulk at most 1048576: NARROWER than '..Said'. Prove '..Said' where nothing that the law and all that it calls make is longer than what came in: it says more and counts as full. Else prove '..UptoSaid'. A law counts once. -/
mutual
def uptoBulk {H : Type} : DataW H → Nat
  | .lit (.string bytes) => bytes.length + 1
  | .lit _ => 1
  | .nil => 1
  | .ptr d => uptoBulk d + 1
  | .slice elems spare => uptoBulkAll elems + uptoBulkAll spare + 1
  | .agg parts => uptoBulkAll parts + 1
  | .iface _ d => uptoBulk d + 1
  | .map entries => uptoBulkEntries entries + 1
  | .held _ => 1
def uptoBulkAll {H : Type} : List (DataW H) → Nat
  | [] => 0
  | d :: r => uptoBulk d + uptoBulkAll r
def uptoBulkEntries {H : Type} : List (Lit × DataW H) → Nat
  | [] => 0
  | x :: r => uptoBulkEntry x + uptoBulkEntries r
def uptoBulkEntry {H : Type} : Lit × DataW H → Nat
  | (.string bytes, d) => bytes.length + uptoBulk d + 1
  | (_, d) => uptoBulk d + 1
 end
def uptoSmall : (H : Type) → List (DataW H) → Bool := fun _ ds => decide (uptoBulkAll ds ≤ 1048576)
def OpenSpec.upto (s : _root_.Go.ChangeSpec) : _root_.Go.OpenSpec := { _root_.Go.OpenSpec.ofChange s with cond := some uptoSmall }

/-- 'purlinlaw14.TreeScript', WHERE WHAT IT READS IS OF BULK AT MOST 1048576: true; the input reads as it did. -/
def treeScriptUptoRow : OpenClaim := { program := "ytmgpgbfgemebbaagreatdoor", sum := "5a1d783cd6e432309bb881aadf28f7d1191d13db86116a7e5cda2979380acb58", func := "purlin/purlinlaw14.TreeScript", spec := "treeScript", inPlace := ["internal/bytealg.IndexByteString", "internal/bytealg.IndexString", "internal/bytealg.CountString", "internal/abi.NoEscape", "internal/bytealg.MakeNoZero", "internal/bytealg.abigen_runtime_cmpstring", "maps.clone"], unfollowed := true, recurses := true, named := ["internal/bytealg.MaxLen", "unicode/utf8.first", "unicode/utf8.acceptRanges"], plainKeys := false, apart := false, laid := [("unicode/utf8.acceptRanges", laid_unicode_utf8_acceptRanges), ("unicode/utf8.first", laid_unicode_utf8_first)], narrowed := true }
def TreeScriptUptoSaid : Prop := treeScriptUptoRow.holds Tryz.pinned (OpenSpec.upto treeScriptSpec)

/-- 'purlinlaw24.MayFsync', WHERE WHAT IT READS IS OF BULK AT MOST 1048576: true; the input reads as it did. -/
def mayFsyncUptoRow : OpenClaim := { program := "ytmgpgbfgemebbaagreatdoor", sum := "5a1d783cd6e432309bb881aadf28f7d1191d13db86116a7e5cda2979380acb58", func := "purlin/purlinlaw24.MayFsync", spec := "mayFsync", inPlace := ["maps.clone", "internal/bytealg.IndexByteString", "internal/bytealg.IndexString", "internal/bytealg.CountString", "internal/abi.NoEscape", "internal/bytealg.MakeNoZero", "internal/bytealg.abigen_runtime_cmpstring"], unfollowed := true, recurses := true, named := ["internal/bytealg.MaxLen", "unicode/utf8.first", "unicode/utf8.acceptRanges"], plainKeys := false, apart := false, laid := [("unicode/utf8.acceptRanges", laid_unicode_utf8_acceptRanges), ("unicode/utf8.first", laid_unicode_utf8_first)], narrowed := true }
def MayFsyncUptoSaid : Prop := mayFsyncUptoRow.holds Tryz.pinned (OpenSpec.upto mayFsyncSpec)

/-- 'purlinlaw24.MayRename', WHERE WHAT IT READS IS OF BULK AT MOST 1048576: true; the input reads as it did. -/
def mayRenameUptoRow : OpenClaim := { program := "ytmgpgbfgemebbaagreatdoor", sum := "5a1d783cd6e432309bb881aadf28f7d1191d13db86116a7e5cda2979380acb58", func := "purlin/purlinlaw24.MayRename", spec := "mayRename", inPlace := ["maps.clone", "internal/bytealg.IndexByteString", "internal/bytealg.IndexString", "internal/bytealg.CountString", "internal/abi.NoEscape", "internal/bytealg.MakeNoZero", "internal/bytealg.abigen_runtime_cmpstring"], unfollowed := true, recurses := true, named := ["internal/bytealg.MaxLen", "unicode/utf8.first", "unicode/utf8.acceptRanges"], plainKeys := false, apart := false, laid := [("unicode/utf8.acceptRanges", laid_unicode_utf8_acceptRanges), ("unicode/utf8.first", laid_unicode_utf8_first)], narrowed := true }
def MayRenameUptoSaid : Prop := mayRenameUptoRow.holds Tryz.pinned (OpenSpec.upto mayRenameSpec)

/-- 'purlinlaw24.MayUnlink', WHERE WHAT IT READS IS OF BULK AT MOST 1048576: true; the input reads as it did. -/
def mayUnlinkUptoRow : OpenClaim := { program := "ytmgpgbfgemebbaagreatdoor", sum := "5a1d783cd6e432309bb881aadf28f7d1191d13db86116a7e5cda2979380acb58", func := "purlin/purlinlaw24.MayUnlink", spec := "mayUnlink", inPlace := ["maps.clone", "internal/bytealg.IndexByteString", "internal/bytealg.IndexString", "internal/bytealg.CountString", "internal/abi.NoEscape", "internal/bytealg.MakeNoZero", "internal/bytealg.abigen_runtime_cmpstring"], unfollowed := true, recurses := true, named := ["internal/bytealg.MaxLen", "unicode/utf8.first", "unicode/utf8.acceptRanges"], plainKeys := false, apart := false, laid := [("unicode/utf8.acceptRanges", laid_unicode_utf8_acceptRanges), ("unicode/utf8.first", laid_unicode_utf8_first)], narrowed := true }
def MayUnlinkUptoSaid : Prop := mayUnlinkUptoRow.holds Tryz.pinned (OpenSpec.upto mayUnlinkSpec)

/-- 'purlinlaw24.MayGrows', WHERE WHAT IT READS IS OF BULK AT MOST 1048576: true; the input reads as it did. -/
def mayGrowsUptoRow : OpenClaim := { program := "ytmgpgbfgemebbaagreatdoor", sum := "5a1d783cd6e432309bb881aadf28f7d1191d13db86116a7e5cda2979380acb58", func := "purlin/purlinlaw24.MayGrows", spec := "mayGrows", inPlace := ["maps.clone", "internal/bytealg.IndexByteString", "internal/bytealg.IndexString", "internal/bytealg.CountString", "internal/abi.NoEscape", "internal/bytealg.MakeNoZero", "internal/bytealg.abigen_runtime_cmpstring"], unfollowed := true, recurses := true, named := ["internal/bytealg.MaxLen", "unicode/utf8.first", "unicode/utf8.acceptRanges"], plainKeys := false, apart := false, laid := [("unicode/utf8.acceptRanges", laid_unicode_utf8_acceptRanges), ("unicode/utf8.first", laid_unicode_utf8_first)], narrowed := true }
def MayGrowsUptoSaid : Prop := mayGrowsUptoRow.holds Tryz.pinned (OpenSpec.upto mayGrowsSpec)

/-- 'purlinlaw24.MayNone', WHERE WHAT IT READS IS OF BULK AT MOST 1048576: true; the input reads as it did. -/
def mayNoneUptoRow : OpenClaim := { program := "ytmgpgbfgemebbaagreatdoor", sum := "5a1d783cd6e432309bb881aadf28f7d1191d13db86116a7e5cda2979380acb58", func := "purlin/purlinlaw24.MayNone", spec := "mayNone", inPlace := ["maps.clone", "internal/bytealg.IndexByteString", "internal/bytealg.IndexString", "internal/bytealg.CountString", "internal/abi.NoEscape", "internal/bytealg.MakeNoZero", "internal/bytealg.abigen_runtime_cmpstring"], unfollowed := true, recurses := true, named := ["internal/bytealg.MaxLen", "unicode/utf8.first", "unicode/utf8.acceptRanges"], plainKeys := false, apart := false, laid := [("unicode/utf8.acceptRanges", laid_unicode_utf8_acceptRanges), ("unicode/utf8.first", laid_unicode_utf8_first)], narrowed := true }
def MayNoneUptoSaid : Prop := mayNoneUptoRow.holds Tryz.pinned (OpenSpec.upto mayNoneSpec)

/-- 'purlinlaw24.MaySync', WHERE WHAT IT READS IS OF BULK AT MOST 1048576: true; the input reads as it did. -/
def maySyncUptoRow : OpenClaim := { program := "ytmgpgbfgemebbaagreatdoor", sum := "5a1d783cd6e432309bb881aadf28f7d1191d13db86116a7e5cda2979380acb58", func := "purlin/purlinlaw24.MaySync", spec := "maySync", inPlace := ["maps.clone", "internal/bytealg.IndexByteString", "internal/bytealg.IndexString", "internal/bytealg.CountString", "internal/abi.NoEscape", "internal/bytealg.MakeNoZero", "internal/bytealg.abigen_runtime_cmpstring"], unfollowed := true, recurses := true, named := ["internal/bytealg.MaxLen", "unicode/utf8.first", "unicode/utf8.acceptRanges"], plainKeys := false, apart := false, laid := [("unicode/utf8.acceptRanges", laid_unicode_utf8_acceptRanges), ("unicode/utf8.first", laid_unicode_utf8_first)], narrowed := true }
def MaySyncUptoSaid : Prop := maySyncUptoRow.holds Tryz.pinned (OpenSpec.upto maySyncSpec)

/-- 'purlinlaw24.MayFresh', WHERE WHAT IT READS IS OF BULK AT MOST 1048576: true; the input reads as it did. -/
def mayFreshUptoRow : OpenClaim := { program := "ytmgpgbfgemebbaagreatdoor", sum := "5a1d783cd6e432309bb881aadf28f7d1191d13db86116a7e5cda2979380acb58", func := "purlin/purlinlaw24.MayFresh", spec := "mayFresh", inPlace := ["maps.clone", "internal/bytealg.IndexByteString", "internal/bytealg.IndexString", "internal/bytealg.CountString", "internal/abi.NoEscape", "internal/bytealg.MakeNoZero", "internal/bytealg.abigen_runtime_cmpstring"], unfollowed := true, recurses := true, named := ["internal/bytealg.MaxLen", "unicode/utf8.first", "unicode/utf8.acceptRanges"], plainKeys := false, apart := false, laid := [("unicode/utf8.acceptRanges", laid_unicode_utf8_acceptRanges), ("unicode/utf8.first", laid_unicode_utf8_first)], narrowed := true }
def MayFreshUptoSaid : Prop := mayFreshUptoRow.holds Tryz.pinned (OpenSpec.upto mayFreshSpec)

end Rows
end Go.Proofs.YtmgpgbfgemebbaaGreatDoor
