/- THE WALK of MkfsFits. -/
import Derived.Test.YtbggnbahmdgbdaaFitsA
import Derived.Test.YtbggnbahmdgbdaaFitsB
import Derived.Test.YtbggnbahmdgbdaaFitsC
namespace Go.Proofs.Ytbggnbahmdgbdaa
open Go.RowKit Go.Own Go.Sl Go.Gm
theorem fitsWalk (n m : Int) (w : World) : Calls Try.prog 3 #[.int .i64 n, .int .i64 m] w fun e w' => e = .returned (.bool true) ∧ Below w.heap.size w w' := by
  by_cases h : low m 1000 < low n 1000
  · exact fitsA n m w h
  · by_cases hx : low n 1000 < low m 1000
    · exact fitsB n m w hx
    · exact fitsC n m w (by omega)
end Go.Proofs.Ytbggnbahmdgbdaa
