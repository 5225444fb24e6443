/- 'append(s, x...)' of whatever reads as a row, nil let in. No program in sight. -/
import Derived.Test.YtajlikakbihgbaaRow
namespace Go.Own
open Go.RowKit
section
variable {w : World} {l : List HP} {v : Value} {e : TypeId} {size n : Nat} {xs : List Value}
theorem Has.appendNone {P : Program} (hO : Has w (row v e size n xs :: l)) (t ty : TypeId) (ht : P.underlying t = some (.slice e)) (i : TypeInfo) (hi : P.info? e = some i) (c : Nat) :
    (Builtin.append_ #[t, t] ty #[v, .slice none 0 c]).run P w = .ok v w := by
  obtain ⟨-, ⟨rfl, -⟩ | ⟨g, cap, cur, rfl, hnc, -⟩⟩ := hO.row_cases
  · simp [Builtin.append_, run_underlying ht, sizeOf, typeInfo, hi, Builtin.lenOf, Builtin.firstCells]
  · simp [Builtin.append_, run_underlying ht, sizeOf, typeInfo, hi, Builtin.lenOf, Builtin.firstCells, hnc, storeCells]
theorem Has.appendAny {P : Program} (hO : Has w (row v e size n xs :: l)) (t ty : TypeId) {z : Value} {bytes : Nat} (ht : P.underlying t = some (.slice e)) (hi : (P.info? e).map (fun i => (i.zero, i.size, i.bytes)) = some (some z, size, bytes)) (hzs : z.cells.size = size) (hsz : 0 < size)
    (x : Value) (m : Nat) (ys : List Value) (hr : Rd w x size m ys) (h1 : ∀ u ∈ ys, u.oneCell' = true) (h63 : n + m ≤ maxLen) (hbytes : (n + m) * bytes ≤ 140737488355328) :
    ∃ v' w', (Builtin.append_ #[t, t] ty #[v, x]).run P w = .ok v' w' ∧ Has w' (row v' e size (n + m) (xs ++ ys) :: l) ∧ Keep w w' ∧ (v = .slice none 0 0 → m = 0 → v' = .slice none 0 0) := by
  obtain ⟨i, hi, hz, hs, hby⟩ := info_parts hi
  obtain ⟨hyl, hm, p, cap, rfl, -, hc⟩ := hr
  rcases p with _ | ad
  · have hm0 : m = 0 := by
      rcases Nat.eq_zero_or_pos m with h | h
      · exact h
      · obtain ⟨g, o, e, -⟩ := hc (Nat.mul_pos h hsz)
        cases e
    subst hm0
    have hy : ys = [] := List.eq_nil_of_length_eq_zero (by simpa using hyl)
    subst hy
    exact ⟨v, w, hO.appendNone t ty ht i hi cap, by simpa using hO, Keep.refl w, fun h _ => h⟩
  · obtain ⟨v', w', h2, h3, h4, h5⟩ := hO.append (P := P) t ty i z bytes ht hi hz hs hby hzs ad m cap ys hyl (by
      intro j y hj
      have hjl : j < m * size := by rw [← hyl]; exact (List.getElem?_eq_some_iff.1 hj).1
      obtain ⟨g, o, e2, hc2⟩ := hc (by omega)
      cases e2
      rw [add_plain, hc2 j hjl, hj]) h1 h63 hbytes
    exact ⟨v', w', h2, h3, h4, fun a b => h5.2 ⟨a, b⟩⟩
theorem wp_appendA {P : Program} {o : Oper} {a : Act} {K : Act → World → Prop} {Q : Exit → Act → World → Prop} (s x : Operand) (t : TypeId)
    (ho : o.op = .call { callee := .builtin .append, args := #[s, x], argTypes := #[t, t] })
    {z : Value} {bytes : Nat} (ht : P.underlying t = some (.slice e)) (hi : (P.info? e).map (fun i => (i.zero, i.size, i.bytes)) = some (some z, size, bytes)) (hzs : z.cells.size = size) (hsz : 0 < size)
    (hO : Has w (row v e size n xs :: l)) (hs : a.eval s = v) (xv : Value) (m : Nat) (ys : List Value) (hx : a.eval x = xv) (hr : Rd w xv size m ys) (h1 : ∀ u ∈ ys, u.oneCell' = true) (h63 : n + m ≤ maxLen) (hbytes : (n + m) * bytes ≤ 140737488355328)
    (h : ∀ v' w', Has w' (row v' e size (n + m) (xs ++ ys) :: l) → Keep w w' → K (a.put o.dst v') w') : o.wp P a w K Q := by
  obtain ⟨v', w', hrun, h2, h3, -⟩ := hO.appendAny (P := P) t o.type ht hi hzs hsz xv m ys hr h1 h63 hbytes
  unfold Oper.wp execOp
  simp only [ho, resolve, invoke, builtin, Sem.run_bind, Sem.run_pure, Result.andThen_ok, List.map_toArray, List.map_cons, List.map_nil, hs, hx, hrun]
  exact h v' w' h2 h3
theorem wpList_appendA {P : Program} {ops : Array Oper} {rest : List Oper} {o : Oper} {a : Act} {Q : Exit → Act → World → Prop} (hgd : o.guard = none) (s x : Operand) (t : TypeId)
    (ho : o.op = .call { callee := .builtin .append, args := #[s, x], argTypes := #[t, t] })
    {z : Value} {bytes : Nat} (ht : P.underlying t = some (.slice e)) (hi : (P.info? e).map (fun i => (i.zero, i.size, i.bytes)) = some (some z, size, bytes)) (hzs : z.cells.size = size) (hsz : 0 < size)
    (hO : Has w (row v e size n xs :: l)) (hs : a.eval s = v) (xv : Value) (m : Nat) (ys : List Value) (hx : a.eval x = xv) (hr : Rd w xv size m ys) (h1 : ∀ u ∈ ys, u.oneCell' = true) (h63 : n + m ≤ maxLen) (hbytes : (n + m) * bytes ≤ 140737488355328)
    (h : ∀ v' w', Has w' (row v' e size (n + m) (xs ++ ys) :: l) → Keep w w' → wpList P ops Q rest (a.put o.dst v') w') : wpList P ops Q (o :: rest) a w :=
  wpList_plain hgd fun _ hK => wp_appendA s x t ho ht hi hzs hsz hO hs xv m ys hx hr h1 h63 hbytes fun v' w' h2 h3 => hK _ _ (h v' w' h2 h3)
/-- .. where a guard says yes. -/
theorem wpList_appendG {P : Program} {ops : Array Oper} {rest : List Oper} {o : Oper} {a : Act} {Q : Exit → Act → World → Prop} (hw : Region.wanted o (yielded ops a.tmps) = true) (s x : Operand) (t : TypeId)
    (ho : o.op = .call { callee := .builtin .append, args := #[s, x], argTypes := #[t, t] })
    {z : Value} {bytes : Nat} (ht : P.underlying t = some (.slice e)) (hi : (P.info? e).map (fun i => (i.zero, i.size, i.bytes)) = some (some z, size, bytes)) (hzs : z.cells.size = size) (hsz : 0 < size)
    (hO : Has w (row v e size n xs :: l)) (hs : a.eval s = v) (xv : Value) (m : Nat) (ys : List Value) (hx : a.eval x = xv) (hr : Rd w xv size m ys) (h1 : ∀ u ∈ ys, u.oneCell' = true) (h63 : n + m ≤ maxLen) (hbytes : (n + m) * bytes ≤ 140737488355328)
    (h : ∀ v' w', Has w' (row v' e size (n + m) (xs ++ ys) :: l) → Keep w w' → wpList P ops Q rest (a.put o.dst v') w') : wpList P ops Q (o :: rest) a w :=
  wpList_step fun K hK => by
    rw [if_pos hw]
    exact wp_appendA s x t ho ht hi hzs hsz hO hs xv m ys hx hr h1 h63 hbytes fun v' w' h2 h3 => hK _ _ (h v' w' h2 h3)
end
end Go.Own
