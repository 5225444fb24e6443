/- slices.Sort, slices.Compact and slices.Contains of ints, over owned rows. -/
import Derived.Test.YtajlikakbihgbaaBase
import Derived.Test.YtajlikakbihgbaaShelf
import Derived.Test.YtajlikakbihgbaaLaid
namespace Go.Proofs.Ytajlikakbihgbaa
open Go.RowKit Go.Own
theorem ints_holds {w : World} {L : List HP} {g cap m : Nat} {l : List Int} (hO : Has w (Ints (.slice (some ⟨g, 0, none⟩) m cap) l :: L)) : Sort.Holds (Value.int .i64) w g 0 l.toArray := by
  obtain ⟨-, hc, hf, -, -⟩ := hO.row_cells
  intro j hj
  have hj' : j < l.length := by simpa using hj
  refine ⟨?_, by rw [Nat.zero_add]; exact hf j⟩
  rw [Nat.zero_add, hc j (by omega), ic, List.getElem?_map, List.getElem?_eq_getElem hj', Option.map_some, getElem!_pos _ j hj, List.getElem_toArray]
def sorted (l : List Int) : List Int := l.mergeSort fun x y => decide (x ≤ y)
theorem sorted_len (l : List Int) : (sorted l).length = l.length := List.length_mergeSort _
theorem sortInts (v : Value) (l : List Int) (w : World) (L : List HP) (hl : l.length ≤ 1000000) (hO : Has w (Ints v l :: L)) :
    Calls Try.prog 41 #[v] w fun e w' => e = .returned (.tuple #[]) ∧ Has w' (Ints v (sorted l) :: L) ∧ Keep w w' := by
  obtain ⟨h1, ⟨rfl, h2, h3, -⟩ | ⟨g, cap, cur, rfl, h2, h3, -, -, h4⟩⟩ := Has.row_cases hO
  · have hn : l = [] := List.eq_nil_of_length_eq_zero h2
    subst hn
    refine (Try.slices_Sort_int_none none 0 w).mono ?_
    rintro e w' ⟨rfl, rfl⟩
    exact ⟨rfl, by simpa [sorted] using hO, Keep.refl _⟩
  · refine (Try.slices_Sort_int g 0 cap l w (ints_holds hO) h4.lt (by omega)).mono ?_
    rintro e w' ⟨rfl, m, os, rfl⟩
    have h5 := ((Has.ahead hO m).putRow (d := (sorted l).toArray) (Value.int .i64) (by simp [sorted_len])).grow os
    refine ⟨rfl, ?_, rfl, rfl, rfl, by simp [Sort.grow, Sort.putRow, Sort.mapBlock, Sort.ahead]⟩
    unfold Ints
    rw [sorted_len]
    exact h5
end Go.Proofs.Ytajlikakbihgbaa
