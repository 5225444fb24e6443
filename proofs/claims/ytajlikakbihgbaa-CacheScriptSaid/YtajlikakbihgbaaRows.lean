/-
  No cell of these rows narrows 'for every input' (looked for: loops, veiled, ifaces, maps, wideKeys, modest, calm, conditions, laid).
  DERIVED. THE GIVEN ROWS OF THIS SEAT. 4 by the template 'for every input the law returns true; each argument reads behind the call as it read before'; 0 by the template 'total and deterministic' (their statements: YtajlikakbihgbaaTotals.lean).
  GIVEN WITH THE SEED: the statements are not yours to turn. If you find one false, say at which input.
  Laid BY PROGRAM, IN A SANDBOX (cutbox-rows.mjs): the forced cells as the released guide's own fill.sh prints them over the translation 84b60f11a1293bac… (all of the seat's roots in one cut). By AI agents, Wed Nov 11 2026. No macro, syntax, notation, axiom, sorry.
-/
import Derived.Test.YtajlikakbihgbaaChecked
import GoSem.Claim
import GoSem.ClaimJoined
import GoSem.ClaimMapViews
import Derived.JoinedTies
import Derived.KernelRfl
namespace Go.Proofs.Ytajlikakbihgbaa
/- THE CELL 'sum', in the pinned program and in every row, IS THE sha256 OF THE DUMP (.gsa) THAT YtajlikakbihgbaaProg.lean LOADS. Nothing in Lean hashes anything: it is a label: what it is worth is what the hold of that sum in a sandbox is worth. -/
noncomputable def Try.pinned : Pinned := { name := "ytajlikakbihgbaa", sum := "84b60f11a1293bac295d9217760f75c8706417935b6c695dd6cda11039e772e1", checked := Try.checked }
namespace Rows
def none {H : Type} : Left H := { results := [], args := [] }

/-- 'purlinlaw18.CacheSees': WHATEVER THE INPUT: true; the input reads as it did. -/
def cacheSeesSpec : ChangeSpec := { name := "cacheSees", fn := fun _ => fun
  | [d1, d2, d3] => { results := [.lit (.bool true)], args := [d1, d2, d3] }
  | _ => none }
def cacheSeesRow : OpenClaim := { program := "ytajlikakbihgbaa", sum := "84b60f11a1293bac295d9217760f75c8706417935b6c695dd6cda11039e772e1", func := "purlin/purlinlaw18.CacheSees", spec := "cacheSees", unfollowed := true, recurses := true, apart := false }
def CacheSeesSaid : Prop := cacheSeesRow.holds Try.pinned (OpenSpec.ofChange cacheSeesSpec)

/-- ITS FALSE NEIGHBOUR: 'it returns false'. Refute it at one input. -/
def cacheSeesWrong : ChangeSpec := { name := "cacheSees", fn := fun _ => fun
  | [d1, d2, d3] => { results := [.lit (.bool false)], args := [d1, d2, d3] }
  | _ => none }
def CacheSeesWrongFalsely : Prop := cacheSeesRow.holds Try.pinned (OpenSpec.ofChange cacheSeesWrong)

/-- 'purlinlaw18.CacheAges': WHATEVER THE INPUT: true; the input reads as it did. -/
def cacheAgesSpec : ChangeSpec := { name := "cacheAges", fn := fun _ => fun
  | [d1, d2, d3] => { results := [.lit (.bool true)], args := [d1, d2, d3] }
  | _ => none }
def cacheAgesRow : OpenClaim := { program := "ytajlikakbihgbaa", sum := "84b60f11a1293bac295d9217760f75c8706417935b6c695dd6cda11039e772e1", func := "purlin/purlinlaw18.CacheAges", spec := "cacheAges", unfollowed := true, recurses := true, apart := false }
def CacheAgesSaid : Prop := cacheAgesRow.holds Try.pinned (OpenSpec.ofChange cacheAgesSpec)

/-- ITS FALSE NEIGHBOUR: 'it returns false'. Refute it at one input. -/
def cacheAgesWrong : ChangeSpec := { name := "cacheAges", fn := fun _ => fun
  | [d1, d2, d3] => { results := [.lit (.bool false)], args := [d1, d2, d3] }
  | _ => none }
def CacheAgesWrongFalsely : Prop := cacheAgesRow.holds Try.pinned (OpenSpec.ofChange cacheAgesWrong)

/-- 'purlinlaw18.CachePins': WHATEVER THE INPUT: true; the input reads as it did. -/
def cachePinsSpec : ChangeSpec := { name := "cachePins", fn := fun _ => fun
  | [d1, d2, d3] => { results := [.lit (.bool true)], args := [d1, d2, d3] }
  | _ => none }
def cachePinsRow : OpenClaim := { program := "ytajlikakbihgbaa", sum := "84b60f11a1293bac295d9217760f75c8706417935b6c695dd6cda11039e772e1", func := "purlin/purlinlaw18.CachePins", spec := "cachePins", unfollowed := true, recurses := true, apart := false }
def CachePinsSaid : Prop := cachePinsRow.holds Try.pinned (OpenSpec.ofChange cachePinsSpec)

/-- ITS FALSE NEIGHBOUR: 'it returns false'. Refute it at one input. -/
def cachePinsWrong : ChangeSpec := { name := "cachePins", fn := fun _ => fun
  | [d1, d2, d3] => { results := [.lit (.bool false)], args := [d1, d2, d3] }
  | _ => none }
def CachePinsWrongFalsely : Prop := cachePinsRow.holds Try.pinned (OpenSpec.ofChange cachePinsWrong)

/-- 'purlinlaw18.CacheScript': WHATEVER THE INPUT: true; the input reads as it did. -/
def cacheScriptSpec : ChangeSpec := { name := "cacheScript", fn := fun _ => fun
  | [d1, d2] => { results := [.lit (.bool true)], args := [d1, d2] }
  | _ => none }
def cacheScriptRow : OpenClaim := { program := "ytajlikakbihgbaa", sum := "84b60f11a1293bac295d9217760f75c8706417935b6c695dd6cda11039e772e1", func := "purlin/purlinlaw18.CacheScript", spec := "cacheScript", unfollowed := true, recurses := true, apart := false }
def CacheScriptSaid : Prop := cacheScriptRow.holds Try.pinned (OpenSpec.ofChange cacheScriptSpec)

/-- ITS FALSE NEIGHBOUR: 'it returns false'. Refute it at one input. -/
def cacheScriptWrong : ChangeSpec := { name := "cacheScript", fn := fun _ => fun
  | [d1, d2] => { results := [.lit (.bool false)], args := [d1, d2] }
  | _ => none }
def CacheScriptWrongFalsely : Prop := cacheScriptRow.holds Try.pinned (OpenSpec.ofChange cacheScriptWrong)

/- THE SECOND FORM. 'bulk': how many values and letters a reading holds, each counted each time it is reached (what is shared counts as often as it is met; a slice's spare places count too). A statement '..UptoSaid' is the law's where the arguments, and the package variables that the reading takes, are together of bulk at most 1048576: NARROWER than '..Said'. Prove '..Said' where nothing that the law and all that it calls make is longer than what came in: it says more and counts as full. Else prove '..UptoSaid'. A law counts once. -/
mutual
def uptoBulk {H : Type} : DataW H → Nat
  | .lit (.string bytes) => bytes.length + 1
  | .lit _ => 1
  | .nil => 1
  | .ptr d => uptoBulk d + 1
  | .slice elems spare => uptoBulkAll elems + uptoBulkAll spare + 1
  | .agg parts => uptoBulkAll parts + 1
  | .iface _ d => uptoBulk d + 1
  | .map entries => uptoBulkEntries entries + 1
  | .held _ => 1
def uptoBulkAll {H : Type} : List (DataW H) → Nat
  | [] => 0
  | d :: r => uptoBulk d + uptoBulkAll r
def uptoBulkEntries {H : Type} : List (Lit × DataW H) → Nat
  | [] => 0
  | x :: r => uptoBulkEntry x + uptoBulkEntries r
def uptoBulkEntry {H : Type} : Lit × DataW H → Nat
  | (.string bytes, d) => bytes.length + uptoBulk d + 1
  | (_, d) => uptoBulk d + 1
 end
def uptoSmall : (H : Type) → List (DataW H) → Bool := fun _ ds => decide (uptoBulkAll ds ≤ 1048576)
def OpenSpec.upto (s : _root_.Go.ChangeSpec) : _root_.Go.OpenSpec := { _root_.Go.OpenSpec.ofChange s with cond := some uptoSmall }

/-- 'purlinlaw18.CacheSees', WHERE WHAT IT READS IS OF BULK AT MOST 1048576: true; the input reads as it did. -/
def cacheSeesUptoRow : OpenClaim := { program := "ytajlikakbihgbaa", sum := "84b60f11a1293bac295d9217760f75c8706417935b6c695dd6cda11039e772e1", func := "purlin/purlinlaw18.CacheSees", spec := "cacheSees", unfollowed := true, recurses := true, apart := false, narrowed := true }
def CacheSeesUptoSaid : Prop := cacheSeesUptoRow.holds Try.pinned (OpenSpec.upto cacheSeesSpec)

/-- 'purlinlaw18.CacheAges', WHERE WHAT IT READS IS OF BULK AT MOST 1048576: true; the input reads as it did. -/
def cacheAgesUptoRow : OpenClaim := { program := "ytajlikakbihgbaa", sum := "84b60f11a1293bac295d9217760f75c8706417935b6c695dd6cda11039e772e1", func := "purlin/purlinlaw18.CacheAges", spec := "cacheAges", unfollowed := true, recurses := true, apart := false, narrowed := true }
def CacheAgesUptoSaid : Prop := cacheAgesUptoRow.holds Try.pinned (OpenSpec.upto cacheAgesSpec)

/-- 'purlinlaw18.CachePins', WHERE WHAT IT READS IS OF BULK AT MOST 1048576: true; the input reads as it did. -/
def cachePinsUptoRow : OpenClaim := { program := "ytajlikakbihgbaa", sum := "84b60f11a1293bac295d9217760f75c8706417935b6c695dd6cda11039e772e1", func := "purlin/purlinlaw18.CachePins", spec := "cachePins", unfollowed := true, recurses := true, apart := false, narrowed := true }
def CachePinsUptoSaid : Prop := cachePinsUptoRow.holds Try.pinned (OpenSpec.upto cachePinsSpec)

/-- 'purlinlaw18.CacheScript', WHERE WHAT IT READS IS OF BULK AT MOST 1048576: true; the input reads as it did. -/
def cacheScriptUptoRow : OpenClaim := { program := "ytajlikakbihgbaa", sum := "84b60f11a1293bac295d9217760f75c8706417935b6c695dd6cda11039e772e1", func := "purlin/purlinlaw18.CacheScript", spec := "cacheScript", unfollowed := true, recurses := true, apart := false, narrowed := true }
def CacheScriptUptoSaid : Prop := cacheScriptUptoRow.holds Try.pinned (OpenSpec.upto cacheScriptSpec)

end Rows
end Go.Proofs.Ytajlikakbihgbaa
