/- A POOL OF BYTES that nobody writes any more: many slices, each with its own block, owned together. No program in sight. -/
import Derived.Test.YtbcilhcmjkgkgaaRow
namespace Go.Own
open Go.RowKit
/-- Each pair of the list: a slice value and its bytes. -/
def poolc (u8 : TypeId) (B : List (Value × List Int)) : HP := star (B.map fun x => row x.1 u8 1 x.2.length (bc x.2))
section
variable {w : World} {l : List HP} {u8 : TypeId} {B : List (Value × List Int)}
theorem Has.pool_open {x : Value × List Int} (h : Has w (poolc u8 B :: l)) (hx : x ∈ B) : ∃ m, Has w (row x.1 u8 1 x.2.length (bc x.2) :: m) := by
  obtain ⟨s, t, rfl⟩ := List.append_of_mem hx
  have h1 := Has.star_iff.1 h
  rw [List.map_append, List.map_cons, List.append_assoc, List.cons_append] at h1
  exact ⟨_, h1.perm List.perm_middle⟩
theorem Has.pool_rd {x : Value × List Int} (h : Has w (poolc u8 B :: l)) (hx : x ∈ B) : Rd w x.1 1 x.2.length (bc x.2) := by
  obtain ⟨m, hm⟩ := h.pool_open hx
  exact hm.rd
theorem Has.pool_nil (h : Has w l) : Has w (poolc u8 [] :: l) := Has.star_iff.2 h
theorem Has.pool_add {v : Value} {xs : List Int} (h : Has w (row v u8 1 xs.length (bc xs) :: poolc u8 B :: l)) : Has w (poolc u8 ((v, xs) :: B) :: l) := by
  refine Has.star_iff.2 ?_
  rw [List.map_cons, List.cons_append]
  have := h.p1
  have h2 := Has.star_iff.1 this
  exact h2.perm List.perm_middle
end
end Go.Own
