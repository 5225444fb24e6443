/- TWO BLOCKS made one behind the other. No program in sight. -/
import Derived.Test.YtbggnbahmdgbdaaOwn
namespace Go.Own
open Go.RowKit
theorem Has.two' {w : World} {L : List HP} (hO : Has w L) (o1 o2 : Obj) : Has ((w.alloc o1).alloc o2) (pt w.heap.size o1 :: pt (w.heap.size + 1) o2 :: L) := by
  have h := (hO.alloc o1).alloc o2
  rw [show (w.alloc o1).heap.size = w.heap.size + 1 from Array.size_push _] at h
  exact h.p1
end Go.Own
