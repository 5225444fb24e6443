/- THE WALK of Low. -/
import Derived.Test.YtbcilhcmjkgkgaaBase
namespace Go.Proofs.Ytbcilhcmjkgkgaa
open Go.RowKit Go.Own
theorem lowAny (x n : Int) (w : World) (hn : 1 ≤ n) (hn' : n ≤ 9223372036854775807) :
    Calls Try.prog 9 #[.int .i64 x, .int .i64 n] w fun e w' => e = .returned (.int .i64 (low x n)) ∧ w = w' := by
  go_enter Try.func9, Try.ntmps9
  go_wp2
  go_ret
  exact ⟨by rw [← low_eq x n hn hn']; rfl, rfl⟩
end Go.Proofs.Ytbcilhcmjkgkgaa
