/- WHAT IS OWNED BEHIND THE SHELF's CONTRACTS that turn a row: the world with the row's cells anew, and blocks behind it. No program in sight. -/
import Derived.Test.YtajlikakbihgbaaRow
import Derived.Sort.Row
import Derived.Sort.Grow
namespace Go.Own
open Go.RowKit
section
variable {w w' : World} {l : List HP} {v : Value} {e : TypeId} {size n : Nat} {xs : List Value}
theorem Has.grow (h : Has w l) (os : Array Obj) : Has (Sort.grow w os) l := h.frame fun k hk => by
  show (w.heap ++ os)[k]? = _
  rw [Array.getElem?_append_left hk]
theorem Has.ahead (h : Has w l) (m : Nat) : Has (Sort.ahead w m) l := h
theorem Has.putRow {α : Type} [Inhabited α] (enc : α → Value) {g cap m : Nat} {d : Array α} (h : Has w (row (.slice (some ⟨g, 0, none⟩) m cap) e 1 n xs :: l)) (hd : d.size = n) :
    Has (Sort.putRow enc w g 0 d) (row (.slice (some ⟨g, 0, none⟩) m cap) e 1 n (d.toList.map enc) :: l) := by
  obtain ⟨hl, h | ⟨g', cap', cur, e1, h1, h2, h3, h4, h5⟩⟩ := h.row_cases
  · exact absurd h.1 (by simp)
  · simp only [Value.slice.injEq, Option.some.injEq, Addr.mk.injEq] at e1
    obtain ⟨⟨rfl, -, -⟩, rfl, rfl⟩ := e1
    subst hd
    have hp : Has (Sort.putRow enc w g 0 d) (pt g (.cells (Sort.putCells enc 0 d cur) e) :: l) := by
      refine h5.turn (fun k _ hk => ?_) ?_
      · simp [Sort.putRow, Sort.mapBlock, Array.getElem?_modify, Ne.symm hk]
      · simp [Sort.putRow, Sort.mapBlock, Array.getElem?_modify, h5.lookup, Sort.onCells]
    refine hp.row_of h1 h2 (by simpa [Sort.putCells] using h3) ?_ (by simp)
    apply List.ext_getElem?
    intro k
    rw [Nat.mul_one] at h3
    by_cases hk : k < d.size
    · have hkc : k < cur.size := by omega
      rw [Nat.mul_one, List.getElem?_take, if_pos hk, Array.getElem?_toList, Sort.putCells, Array.getElem?_mapIdx, Array.getElem?_eq_getElem hkc, Option.map_some, if_pos ⟨Nat.zero_le _, by omega⟩, List.getElem?_map, Array.getElem?_toList, Nat.sub_zero,
        Array.getElem?_eq_getElem hk, Option.map_some, getElem!_pos d k hk]
    · rw [List.getElem?_eq_none (by simp; omega), List.getElem?_eq_none (by simp; omega)]
/-- The first of it. -/
theorem Has.row_take {g cap m : Nat} (h : Has w (row (.slice (some ⟨g, 0, none⟩) m cap) e size n xs :: l)) (k : Nat) (hk : k ≤ n) :
    Has w (row (.slice (some ⟨g, 0, none⟩) k cap) e size k (xs.take (k * size)) :: l) := by
  obtain ⟨hl, h | ⟨g', cap', cur, e1, h1, h2, h3, h4, h5⟩⟩ := h.row_cases
  · exact absurd h.1 (by simp)
  · simp only [Value.slice.injEq, Option.some.injEq, Addr.mk.injEq] at e1
    obtain ⟨⟨rfl, -, -⟩, rfl, rfl⟩ := e1
    have hle := Nat.mul_le_mul_right size hk
    refine h5.row_of (by omega) h2 h3 ?_ (by rw [List.length_take]; omega)
    rw [← h4, List.take_take, Nat.min_eq_left hle]
end
end Go.Own
