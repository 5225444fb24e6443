/- A BLOCK that is made, loaded, and stored into as a whole. No program in sight. -/
import Derived.Test.YtbggnbahmdgbdaaApp
namespace Go.Own
open Go.RowKit
section
variable {P : Program} {ops : Array Oper} {rest : List Oper} {o : Oper} {a : Act} {Q : Exit → Act → World → Prop} {w : World} {l : List HP}
theorem wpList_allocAs (hgd : o.guard = none) (t : TypeId) (ho : o.op = .alloc t) (C : Array Value) (hz : ∀ w, (zeroValue t).run P w = .ok (.agg C) w)
    (h : wpList P ops Q rest (a.put o.dst (.pointer (some ⟨w.heap.size, 0, none⟩))) (w.alloc (.cells C t))) : wpList P ops Q (o :: rest) a w := by
  refine wpList_plain hgd fun K hK => ?_
  unfold Oper.wp execOp
  simp only [ho, Instr.alloc, newVar, newRow, Value.cells, Sem.run_bind, Sem.run_pure, Result.andThen_ok, hz]
  exact hK _ _ h
theorem wpList_storeAt (hgd : o.guard = none) (t : TypeId) (x y : Operand) (ho : o.op = .store t x y) (b off : Nat) (C D : Array Value) (T : TypeId) (hO : Has w (pt b (.cells C T) :: l)) (hx : a.eval x = .pointer (some ⟨b, off, none⟩)) (hy : a.eval y = .agg D)
    (hs : ∀ w, (sizeOf t).run P w = .ok D.size w) (h1 : ∀ v ∈ D.toList, v.oneCell' = true) (hfit : off + D.size ≤ C.size)
    (h : ∀ w', Has w' (pt b (.cells (C.toList.take off ++ D.toList ++ C.toList.drop (off + D.size)).toArray T) :: l) → Keep w w' → wpList P ops Q rest (a.put o.dst undef) w') : wpList P ops Q (o :: rest) a w := by
  refine wpList_plain hgd fun K hK => ?_
  have hst := run_storeCells_at P b off T D.toList 0 C w hO.lookup (by simpa using hfit) h1
  simp only [Nat.add_zero, Array.length_toList] at hst
  unfold Oper.wp execOp
  simp only [ho, Instr.storeAt, Instr.sureAddr, storeVar, Value.cells, hx, hy, Sem.run_bind, Sem.run_pure, Result.andThen_ok, hs, ne_eq, not_true, if_false, hst]
  exact hK _ _ (h _ (hO.turn (fun k _ hk => setRow_other w b k _ hk) (setRow_heap w b C _ T _ hO.lookup)) ⟨rfl, rfl, rfl, by simp⟩)
end
end Go.Own
