/- TEXTS of mine, merged. -/
import Derived.Test.YtfhaedkaedffcaaGreatDoorM8
import Derived.Test.YtfhaedkaedffcaaGreatDoorM11
/- THE WALK of tree.Do: sync, tick, drop, and what is no operation. -/
namespace Go.Proofs.YtfhaedkaedffcaaGreatDoor
open Go.RowKit Go.Own
end Go.Proofs.YtfhaedkaedffcaaGreatDoor
