/- TEXTS of mine, merged. -/
import Derived.Test.YtmgpgbfgemebbaaGreatDoorM13
import Derived.Test.YtmgpgbfgemebbaaGreatDoorM15
import Derived.Test.YtmgpgbfgemebbaaGreatDoorM10
import Derived.Test.YtmgpgbfgemebbaaGreatDoorM12
import Derived.Test.YtmgpgbfgemebbaaGreatDoorM7
import Derived.Test.YtmgpgbfgemebbaaGreatDoorM14
import Derived.Test.YtmgpgbfgemebbaaGreatDoorM6
set_option linter.all false
namespace Go.Proofs.YtmgpgbfgemebbaaGreatDoor
open Go.RowKit Go.Own
end Go.Proofs.YtmgpgbfgemebbaaGreatDoor
namespace Go.Proofs.YtmgpgbfgemebbaaGreatDoor
open Go.RowKit Go.Own
end Go.Proofs.YtmgpgbfgemebbaaGreatDoor
namespace Go.Proofs.YtmgpgbfgemebbaaGreatDoor
open Go.RowKit Go.Own
end Go.Proofs.YtmgpgbfgemebbaaGreatDoor
namespace Go.Proofs.YtmgpgbfgemebbaaGreatDoor
open Go.RowKit Go.Own
end Go.Proofs.YtmgpgbfgemebbaaGreatDoor
