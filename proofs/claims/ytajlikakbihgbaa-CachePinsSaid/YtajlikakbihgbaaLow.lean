/- THE WALK of Low. -/
import Derived.Test.YtajlikakbihgbaaBase
namespace Go.Proofs.Ytajlikakbihgbaa
open Go.RowKit Go.Own
theorem lowAny (x n : Int) (w : World) (hn : 1 ≤ n) (hn' : n ≤ 9223372036854775807) :
    Calls Try.prog 10 #[.int .i64 x, .int .i64 n] w fun e w' => e = .returned (.int .i64 (low x n)) ∧ w = w' := by
  go_enter Try.func10, Try.ntmps10
  go_wp2
  go_ret
  exact ⟨by rw [← low_eq x n hn hn']; rfl, rfl⟩
end Go.Proofs.Ytajlikakbihgbaa
