/- TEXTS of mine, merged. -/
import Derived.Test.YtfhaedkaedffcaaGreatDoorM12
import Derived.Test.YtfhaedkaedffcaaGreatDoorM20
import Derived.Test.YtfhaedkaedffcaaGreatDoorM19
import Derived.Test.YtfhaedkaedffcaaGreatDoorM13
import Derived.Test.YtfhaedkaedffcaaGreatDoorM10
/- THE WALK of tree.rename, as far as it finds both places. -/
namespace Go.Proofs.YtfhaedkaedffcaaGreatDoor
open Go.RowKit Go.Own
end Go.Proofs.YtfhaedkaedffcaaGreatDoor
