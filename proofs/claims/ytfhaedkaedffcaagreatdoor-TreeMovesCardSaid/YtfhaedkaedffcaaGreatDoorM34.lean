/- TEXTS of mine, merged. -/
import Derived.Test.YtfhaedkaedffcaaGreatDoorM32
import Derived.Test.YtfhaedkaedffcaaGreatDoorM27
import Derived.Test.YtfhaedkaedffcaaGreatDoorM33
/- THE WALK of TreeNamesRise. -/
namespace Go.Proofs.YtfhaedkaedffcaaGreatDoor
open Go.RowKit Go.Own
def lowC : Qc := ⟨[20], fun _ args => .int .i64 (low (intOf (args.getD 0 undef)) (intOf (args.getD 1 undef))), [22]⟩
theorem wrap8 (n : Int) (h : 0 ≤ n ∧ n ≤ 255) : IntKind.u8.wrap n = n := by
  simp [IntKind.wrap, IntKind.bits, IntKind.signed]
  omega
end Go.Proofs.YtfhaedkaedffcaaGreatDoor
