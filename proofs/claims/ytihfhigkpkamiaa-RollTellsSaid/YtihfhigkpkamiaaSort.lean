/- slices.Sort, slices.Compact and slices.Contains of ints, over owned rows. -/
import Derived.Test.YtihfhigkpkamiaaBase
import Derived.Test.YtihfhigkpkamiaaShelf
import Derived.Test.YtihfhigkpkamiaaLaid
namespace Go.Proofs.Ytihfhigkpkamiaa
open Go.RowKit Go.Own
theorem ints_holds {w : World} {L : List HP} {g cap m : Nat} {l : List Int} (hO : Has w (Ints (.slice (some ⟨g, 0, none⟩) m cap) l :: L)) : Sort.Holds (Value.int .i64) w g 0 l.toArray := by
  obtain ⟨-, hc, hf, -, -⟩ := hO.row_cells
  intro j hj
  have hj' : j < l.length := by simpa using hj
  refine ⟨?_, by rw [Nat.zero_add]; exact hf j⟩
  rw [Nat.zero_add, hc j (by omega), ic, List.getElem?_map, List.getElem?_eq_getElem hj', Option.map_some, getElem!_pos _ j hj, List.getElem_toArray]
def sorted (l : List Int) : List Int := l.mergeSort fun x y => decide (x ≤ y)
theorem sorted_len (l : List Int) : (sorted l).length = l.length := List.length_mergeSort _
theorem sortInts (v : Value) (l : List Int) (w : World) (L : List HP) (hl : l.length ≤ 1000000) (hO : Has w (Ints v l :: L)) :
    Calls Try.prog 30 #[v] w fun e w' => e = .returned (.tuple #[]) ∧ Has w' (Ints v (sorted l) :: L) ∧ Keep w w' := by
  obtain ⟨h1, ⟨rfl, h2, h3, -⟩ | ⟨g, cap, cur, rfl, h2, h3, -, -, h4⟩⟩ := Has.row_cases hO
  · have hn : l = [] := List.eq_nil_of_length_eq_zero h2
    subst hn
    refine (Try.slices_Sort_int_none none 0 w).mono ?_
    rintro e w' ⟨rfl, rfl⟩
    exact ⟨rfl, by simpa [sorted] using hO, Keep.refl _⟩
  · refine (Try.slices_Sort_int g 0 cap l w (ints_holds hO) h4.lt (by omega)).mono ?_
    rintro e w' ⟨rfl, m, os, rfl⟩
    have h5 := ((Has.ahead hO m).putRow (d := (sorted l).toArray) (Value.int .i64) (by simp [sorted_len])).grow os
    refine ⟨rfl, ?_, rfl, rfl, rfl, by simp [Sort.grow, Sort.putRow, Sort.mapBlock, Sort.ahead]⟩
    unfold Ints
    rw [sorted_len]
    exact h5
theorem compactInts (v : Value) (l : List Int) (w : World) (L : List HP) (hl : l.length ≤ 1000000) (hO : Has w (Ints v l :: L)) :
    Calls Try.prog 31 #[v] w fun e w' => ∃ v', e = .returned v' ∧ Has w' (Ints v' (Lib.compact l) :: L) ∧ Keep w w' := by
  obtain ⟨h1, ⟨rfl, h2, h3, -⟩ | ⟨g, cap, cur, rfl, h2, h3, -, -, h4⟩⟩ := Has.row_cases hO
  · have hn : l = [] := List.eq_nil_of_length_eq_zero h2
    subst hn
    refine (Try.slices_Compact_int_empty none 0 w).mono ?_
    rintro e w' ⟨rfl, rfl⟩
    exact ⟨_, rfl, hO, Keep.refl _⟩
  · refine (Try.slices_Compact_int g 0 cap l w (ints_holds hO) (by omega) h2).mono ?_
    rintro e w' ⟨rfl, q, rfl⟩
    have hle := Lib.compact_length_le l
    have h5 := ((Has.ahead hO q).putRow (d := (Lib.compact l ++ List.replicate (l.length - (Lib.compact l).length) 0).toArray) (Value.int .i64) (by simp; omega)).row_take (Lib.compact l).length hle
    refine ⟨_, rfl, ?_, rfl, rfl, rfl, by simp [Sort.putRow, Sort.mapBlock, Sort.ahead]⟩
    simp only [Nat.mul_one, List.map_append] at h5
    rw [List.take_append_of_le_length (by simp), List.take_of_length_le (by simp)] at h5
    exact h5
theorem containsInt (v : Value) (l : List Int) (x : Int) (w : World) (hr : Rd w v 1 l.length (ic l)) :
    Calls Try.prog 29 #[v, .int .i64 x] w fun e w' => e = .returned (.bool (l.contains x)) ∧ w' = w := by
  obtain ⟨p, cap, rfl, hc, hl, hcs⟩ := hr.form
  by_cases h0 : l.length = 0
  · have hn : l = [] := List.eq_nil_of_length_eq_zero h0
    subst hn
    exact Try.slices_Contains_int_empty p cap x w
  · obtain ⟨g, o, rfl, hcq⟩ := hcs (by omega)
    have h := Try.slices_Contains_int g o l.length cap l x w (Nat.le_refl _) hl fun j hj => by
      rw [hcq j (by omega), ic, List.getElem?_map, List.getElem?_eq_getElem hj, Option.map_some, List.getD_eq_getElem?_getD, List.getElem?_eq_getElem hj, Option.getD_some]
    rw [List.take_of_length_le (Nat.le_refl _)] at h
    exact h
end Go.Proofs.Ytihfhigkpkamiaa
