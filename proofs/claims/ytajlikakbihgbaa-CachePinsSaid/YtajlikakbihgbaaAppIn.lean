/- append within a slice's own block: what is put behind the first ones, whence ever it is read. No program in sight. -/
import Derived.Test.YtajlikakbihgbaaApp
namespace Go.Own
open Go.RowKit
section
variable {w : World} {l : List HP} {e : TypeId} {size n cap g : Nat} {xs : List Value}
theorem Has.appendIn {P : Program} (hO : Has w (row (.slice (some ⟨g, 0, none⟩) n cap) e size n xs :: l)) (t ty : TypeId) {z : Value} {bytes : Nat} (ht : P.underlying t = some (.slice e)) (hi : (P.info? e).map (fun i => (i.zero, i.size, i.bytes)) = some (some z, size, bytes))
    (i m : Nat) (ys : List Value) (xv : Value) (hr : Rd w xv size m ys) (h1 : ∀ u ∈ ys, u.oneCell' = true) (him : i + m ≤ n) (hs0 : 0 < size) :
    ∃ w', (Builtin.append_ #[t, t] ty #[.slice (some ⟨g, 0, none⟩) i cap, xv]).run P w = .ok (.slice (some ⟨g, 0, none⟩) (i + m) cap) w' ∧ Has w' (row (.slice (some ⟨g, 0, none⟩) n cap) e size n (xs.take (i * size) ++ ys ++ xs.drop ((i + m) * size)) :: l) ∧ Keep w w' := by
  obtain ⟨inf, hi', hz, hs, hby⟩ := info_parts hi
  obtain ⟨hxl, h2 | ⟨g', cap', cur, e1, hnc, hcm, hcs, htake, hp⟩⟩ := hO.row_cases
  · exact absurd h2.1 (by simp)
  · simp only [Value.slice.injEq, Option.some.injEq, Addr.mk.injEq, true_and] at e1
    obtain ⟨⟨rfl, -⟩, rfl⟩ := e1
    obtain ⟨hyl, hmm, p, xc, rfl, hxc, hcc⟩ := hr
    have him2 : (i + m) * size ≤ n * size := Nat.mul_le_mul_right _ him
    have hnc2 : n * size ≤ cap * size := Nat.mul_le_mul_right _ hnc
    have e3 : (i + m) * size = i * size + m * size := Nat.add_mul ..
    have hcx : cur.toList.take (i * size) = xs.take (i * size) := by rw [← htake, List.take_take, Nat.min_eq_left (by omega)]
    by_cases hm0 : m = 0
    · subst hm0
      have : ys = [] := List.eq_nil_of_length_eq_zero (by omega)
      subst this
      refine ⟨w, ?_, by rw [List.append_nil, Nat.add_zero, List.take_append_drop]; exact hO, Keep.refl w⟩
      cases p with
      | none =>
        have hic : i ≤ cap := by omega
        simp [Builtin.append_, run_underlying ht, sizeOf, typeInfo, hi', Builtin.lenOf, Builtin.firstCells, loadCells, loadCellsFrom, hic, storeCells]
      | some ad =>
        have hr := run_append_room (P := P) w t ty e inf ht hi' g i cap cur hp.lookup ad 0 xc [] (by simp) (by simp) (by simp) (by omega) (by rw [hs, hcs]; simp; omega)
        rw [hr]
        simp only [List.length_nil, Nat.add_zero, List.append_nil, List.take_append_drop, Array.toArray_toList]
        rw [setRow_self w g cur e (0, 0) hp.lookup]
    · obtain ⟨gs, os, rfl, hd⟩ := hcc (Nat.mul_pos (by omega) hs0)
      have hfit : i * inf.size + ys.length ≤ cur.size := by rw [hs, hyl, hcs]; omega
      have hr := run_append_room (P := P) w t ty e inf ht hi' g i cap cur hp.lookup ⟨gs, os, none⟩ m xc ys (by rw [hs, hyl]) (fun j u hj => by
        have hjl : j < m * size := by
          rw [← hyl]
          exact (List.getElem?_eq_some_iff.1 hj).1
        rw [add_plain, hd j hjl, hj]) h1 (by omega) hfit
      refine ⟨_, hr, ?_, ⟨rfl, rfl, rfl, by simp⟩⟩
      refine (hp.turn (fun k _ hk => setRow_other w g k _ hk) (setRow_heap w g cur _ e _ hp.lookup)).row_of hnc hcm ?_ ?_ ?_
      · simp only [List.size_toArray, List.length_append, List.length_take, List.length_drop, Array.length_toList, hs, hyl, hcs]
        omega
      · rw [hs, hyl, hcx]
        simp only [List.append_assoc]
        have hl1 : (xs.take (i * size)).length = i * size := by rw [List.length_take]; omega
        rw [List.take_append, hl1, List.take_of_length_le (by rw [hl1]; omega), List.take_append, hyl, List.take_of_length_le (l := ys) (by omega)]
        congr 2
        rw [← htake, e3, List.drop_take]
        congr 1
        omega
      · simp only [List.length_append, List.length_take, List.length_drop, hyl]
        omega
theorem wp_appendIn {P : Program} {o : Oper} {a : Act} {K : Act → World → Prop} {Q : Exit → Act → World → Prop} (s x : Operand) (t : TypeId) (ho : o.op = .call { callee := .builtin .append, args := #[s, x], argTypes := #[t, t] })
    (hO : Has w (row (.slice (some ⟨g, 0, none⟩) n cap) e size n xs :: l)) {z : Value} {bytes : Nat} (ht : P.underlying t = some (.slice e)) (hi : (P.info? e).map (fun i => (i.zero, i.size, i.bytes)) = some (some z, size, bytes))
    (i m : Nat) (ys : List Value) (xv : Value) (hs : a.eval s = .slice (some ⟨g, 0, none⟩) i cap) (hx : a.eval x = xv) (hr : Rd w xv size m ys) (h1 : ∀ u ∈ ys, u.oneCell' = true) (him : i + m ≤ n) (hs0 : 0 < size)
    (h : ∀ w', Has w' (row (.slice (some ⟨g, 0, none⟩) n cap) e size n (xs.take (i * size) ++ ys ++ xs.drop ((i + m) * size)) :: l) → Keep w w' → K (a.put o.dst (.slice (some ⟨g, 0, none⟩) (i + m) cap)) w') : o.wp P a w K Q := by
  obtain ⟨w', hrun, h2, h3⟩ := hO.appendIn (P := P) t o.type ht hi i m ys xv hr h1 him hs0
  unfold Oper.wp execOp
  simp only [ho, resolve, invoke, builtin, Sem.run_bind, Sem.run_pure, Result.andThen_ok, List.map_toArray, List.map_cons, List.map_nil, hs, hx, hrun]
  exact h w' h2 h3
end
end Go.Own
