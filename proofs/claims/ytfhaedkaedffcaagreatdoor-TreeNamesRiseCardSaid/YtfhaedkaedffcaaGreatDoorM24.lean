/- TEXTS of mine, merged. -/
import Derived.Test.YtfhaedkaedffcaaGreatDoorM11
import Derived.Test.YtfhaedkaedffcaaGreatDoorM10
/- THE WALK of tree.open, with FTrunc too. -/
namespace Go.Proofs.YtfhaedkaedffcaaGreatDoor
open Go.RowKit Go.Own
end Go.Proofs.YtfhaedkaedffcaaGreatDoor
/- THE WALK of tree.Do: open (with FTrunc too). -/
namespace Go.Proofs.YtfhaedkaedffcaaGreatDoor
open Go.RowKit Go.Own
end Go.Proofs.YtfhaedkaedffcaaGreatDoor
