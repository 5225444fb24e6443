/- A POOL OF BYTES that nobody writes any more: many slices, each with its own block, owned together. No program in sight. -/
import Derived.Test.YtajlikakbihgbaaRow
namespace Go.Own
open Go.RowKit
/-- Each pair of the list: a slice value and its bytes. -/
def poolc (u8 : TypeId) (B : List (Value × List Int)) : HP := star (B.map fun x => row x.1 u8 1 x.2.length (bc x.2))
section
variable {w : World} {l : List HP} {u8 : TypeId} {B : List (Value × List Int)}
theorem Has.pool_open {x : Value × List Int} (h : Has w (poolc u8 B :: l)) (hx : x ∈ B) : ∃ m, Has w (row x.1 u8 1 x.2.length (bc x.2) :: m) := by
  obtain ⟨s, t, rfl⟩ := List.append_of_mem hx
  have h1 := Has.star_iff.1 h
  rw [List.map_append, List.map_cons, List.append_assoc, List.cons_append] at h1
  exact ⟨_, h1.perm List.perm_middle⟩
theorem Has.pool_rd {x : Value × List Int} (h : Has w (poolc u8 B :: l)) (hx : x ∈ B) : Rd w x.1 1 x.2.length (bc x.2) := by
  obtain ⟨m, hm⟩ := h.pool_open hx
  exact hm.rd
theorem Has.pool_nil (h : Has w l) : Has w (poolc u8 [] :: l) := Has.star_iff.2 h
theorem Has.pool_add {v : Value} {xs : List Int} (h : Has w (row v u8 1 xs.length (bc xs) :: poolc u8 B :: l)) : Has w (poolc u8 ((v, xs) :: B) :: l) := by
  refine Has.star_iff.2 ?_
  rw [List.map_cons, List.cons_append]
  have := h.p1
  have h2 := Has.star_iff.1 this
  exact h2.perm List.perm_middle
theorem Has.pool_snoc {v : Value} {xs : List Int} (h : Has w (row v u8 1 xs.length (bc xs) :: poolc u8 B :: l)) : Has w (poolc u8 (B ++ [(v, xs)]) :: l) := by
  refine Has.star_iff.2 ?_
  have h2 := Has.star_iff.1 h.p1
  rw [List.map_append, List.append_assoc]
  exact h2
theorem set_perm {α : Type _} : ∀ (F : List α) (k : Nat) (hk : k < F.length) (y : α), (F.set k y).Perm (y :: F.eraseIdx k)
  | _ :: _, 0, _, _ => .refl _
  | a :: F, k + 1, hk, y => ((set_perm F k (by simpa using hk) y).cons a).trans (.swap _ _ _)
theorem Has.poolPerm {B' : List (Value × List Int)} (h : Has w (poolc u8 B :: l)) (hp : B.Perm B') : Has w (poolc u8 B' :: l) := by
  refine Has.star_iff.2 ((Has.star_iff.1 h).perm ?_)
  exact (hp.map _).append_right l
/-- One text is taken out. -/
theorem Has.pool_out (h : Has w (poolc u8 B :: l)) (k : Nat) (hk : k < B.length) : Has w (row B[k].1 u8 1 B[k].2.length (bc B[k].2) :: poolc u8 (B.eraseIdx k) :: l) := by
  have := h.poolPerm (perm_pull B k hk)
  have h2 := Has.star_iff.1 this
  exact (Has.star_iff.2 (show Has w (((B.eraseIdx k).map fun x => row x.1 u8 1 x.2.length (bc x.2)) ++ (row B[k].1 u8 1 B[k].2.length (bc B[k].2) :: l)) from h2.perm List.perm_middle.symm)).p1
/-- Another comes in its place. -/
theorem Has.pool_in {k : Nat} {v : Value} {xs : List Int} (hk : k < B.length) (h : Has w (row v u8 1 xs.length (bc xs) :: poolc u8 (B.eraseIdx k) :: l)) : Has w (poolc u8 (B.set k (v, xs)) :: l) :=
  h.pool_add.poolPerm (set_perm B k hk (v, xs)).symm
end
end Go.Own
