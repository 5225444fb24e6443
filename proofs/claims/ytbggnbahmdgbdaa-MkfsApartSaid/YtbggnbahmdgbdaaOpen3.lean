/- HOW ARGUMENTS ARE OPENED: an array of three ints, a struct of three ints. No program in sight. -/
import Derived.Test.YtbggnbahmdgbdaaOpen
import Derived.Laws.IdiomArrays
import Derived.Lib.SmallJoins
namespace Go.Own
open Go.ChangeShapes Go.WideShapes Go.ChangeAt Go.RowKit
section
variable {H : Type} {enc : TypeId × Value → H} {P : Program} {W : World} {base : Nat} {spare : Nat → Bool} {held : Bool}
theorem okWide_array {r : Reach} {t e n : Nat} {v : Value} (ht : P.underlying t = some (.array n e)) (h : Value.okWide P W r base t v) : ∃ cs, v = .agg cs ∧ cs.size = P.cellsOf t := by
  unfold Value.okWide at h
  rw [ht] at h
  obtain ⟨cs, h1, h2, -⟩ := h
  exact ⟨cs, h1, h2⟩
theorem three_cells {cs : Array Value} (h : cs.size = 3) : ∃ a b c, cs = #[a, b, c] := by
  obtain ⟨l⟩ := cs
  match l, h with
  | [a, b, c], _ => exact ⟨a, b, c, rfl⟩
theorem open_arr3 {r : Reach} {b0 : Nat} {t e : Nat} {v : Value} {d : DataW H} {ps : List MemPlace} (ht : P.underlying t = some (.array 3 e)) (he : P.underlying e = some (.int .i64)) (hce : P.cellsOf e = 1) (hc : P.cellsOf t = 3) (hv : Value.okWide P W r b0 t v)
    (h : DataW.Trod enc P W base spare held t v d ps) : ∃ x y z, v = .agg #[.int .i64 x, .int .i64 y, .int .i64 z] := by
  obtain ⟨cs, rfl, hsz⟩ := okWide_array ht hv
  obtain ⟨a, b, c, rfl⟩ := three_cells (hsz.trans hc)
  obtain ⟨fuel, hf⟩ := h
  obtain ⟨y0, y1, y2, n, -, h0, h1, h2⟩ := trod_array3 ht hce hf
  obtain ⟨x0, e0, -⟩ := DataW.trod_int he h0
  obtain ⟨x1, e1, -⟩ := DataW.trod_int he h1
  obtain ⟨x2, e2, -⟩ := DataW.trod_int he h2
  injection e0 with e0; injection e1 with e1; injection e2 with e2
  subst e0 e1 e2
  exact ⟨x0, x1, x2, rfl⟩
theorem open_struct3 {r : Reach} {b0 : Nat} {t : Nat} {f0 f1 f2 : Field} {v : Value} {d : DataW H} {ps : List MemPlace} (ht : P.underlying t = some (.struct #[f0, f1, f2])) (h0 : P.underlying f0.type = some (.int .i64)) (h1 : P.underlying f1.type = some (.int .i64)) (h2 : P.underlying f2.type = some (.int .i64))
    (hone : Deep.oneCellFields P #[f0, f1, f2] = true) (hc : P.cellsOf t = 3) (hv : Value.okWide P W r b0 t v)
    (h : DataW.Trod enc P W base spare held t v d ps) : ∃ x y z, v = .agg #[.int .i64 x, .int .i64 y, .int .i64 z] := by
  obtain ⟨v0, v1, v2, y0, y1, y2, n, rfl, -, -, k0, k1, k2⟩ := Joins.open_agg3 ht hone hc hv h
  obtain ⟨x0, e0, -⟩ := DataW.trod_int h0 k0
  obtain ⟨x1, e1, -⟩ := DataW.trod_int h1 k1
  obtain ⟨x2, e2, -⟩ := DataW.trod_int h2 k2
  injection e0 with e0; injection e1 with e1; injection e2 with e2
  subst e0 e1 e2
  exact ⟨x0, x1, x2, rfl⟩
end
end Go.Own
