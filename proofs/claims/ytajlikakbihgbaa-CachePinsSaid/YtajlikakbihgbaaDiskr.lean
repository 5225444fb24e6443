/- THE WALK of Arm. -/
import Derived.Test.YtajlikakbihgbaaCloneO
namespace Go.Proofs.Ytajlikakbihgbaa
open Go.RowKit Go.Own Go.Dk
end Go.Proofs.Ytajlikakbihgbaa
