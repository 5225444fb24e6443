/- clear of a slice's end: what is ahead of it stays. No program in sight. -/
import Derived.Test.YtajlikakbihgbaaApp
namespace Go.Own
open Go.RowKit
section
variable {w : World} {l : List HP} {e : TypeId} {size n cap g : Nat} {xs : List Value}
theorem Has.row_less (h : Has w (row (.slice (some ⟨g, 0, none⟩) n cap) e size n xs :: l)) (k : Nat) (hk : k ≤ n) : Has w (row (.slice (some ⟨g, 0, none⟩) k cap) e size k (xs.take (k * size)) :: l) := by
  obtain ⟨hl, h1 | ⟨g', cap', cur, e1, h1, h2, h3, h4, h5⟩⟩ := h.row_cases
  · exact absurd h1.1 (by simp)
  · simp only [Value.slice.injEq, Option.some.injEq, Addr.mk.injEq, true_and] at e1
    obtain ⟨⟨rfl, -⟩, rfl⟩ := e1
    have hm : k * size ≤ n * size := Nat.mul_le_mul_right _ hk
    refine h5.row_of (by omega) h2 h3 ?_ (by rw [List.length_take]; omega)
    rw [← h4, List.take_take, Nat.min_eq_left hm]
theorem Has.clearTail {P : Program} (hO : Has w (row (.slice (some ⟨g, 0, none⟩) n cap) e size n xs :: l)) (t ty : TypeId) (ht : P.underlying t = some (.slice e)) {z : Value} (hz : ∀ w, (zeroValue e).run P w = .ok z w) (hzs : z.cells.size = size) (h1 : ∀ u ∈ z.cells.toList, u.oneCell' = true)
    (k : Nat) (hk : k ≤ n) (ad : Option Addr) (c' : Nat) (had : k < n → ad = some ⟨g, k * size, none⟩) :
    ∃ w', (Builtin.clear_ #[t] ty #[.slice ad (n - k) c']).run P w = .ok (.tuple #[]) w' ∧ Has w' (row (.slice (some ⟨g, 0, none⟩) k cap) e size k (xs.take (k * size)) :: l) ∧ Keep w w' := by
  by_cases hkn : k = n
  · subst hkn
    refine ⟨w, ?_, hO.row_less k (Nat.le_refl _), Keep.refl w⟩
    rw [Nat.sub_self]
    cases ad <;> simp [Builtin.clear_, run_underlying ht]
  · obtain rfl := had (by omega)
    obtain ⟨hl, h2 | ⟨g', cap', cur, e1, h3, h4, h5, h6, h7⟩⟩ := hO.row_cases
    · exact absurd h2.1 (by simp)
    · simp only [Value.slice.injEq, Option.some.injEq, Addr.mk.injEq, true_and] at e1
      obtain ⟨⟨rfl, -⟩, rfl⟩ := e1
      have hzl : (Builtin.zeroCells z.cells (n - k)).toList.length = (n - k) * size := by rw [Array.length_toList, size_zeroCells, hzs]
      have hone : ∀ v ∈ (Builtin.zeroCells z.cells (n - k)).toList, v.oneCell' = true := by
        intro v hv
        obtain ⟨i, hi, rfl⟩ := List.getElem_of_mem hv
        have hi2 : i < (n - k) * z.cells.size := by rw [hzs, ← hzl]; exact hi
        have hp : 0 < z.cells.size := Nat.pos_of_mul_pos_left (Nat.lt_of_le_of_lt (Nat.zero_le _) hi2)
        have : (Builtin.zeroCells z.cells (n - k)).toList[i] ∈ z.cells.toList := by
          unfold Builtin.zeroCells
          simp
          have hm := Nat.mod_lt i hp
          rw [getElem!_pos z.cells _ hm]
          exact Array.getElem_mem hm
        exact h1 _ this
      have hms : (n - k) * size + k * size = n * size := by rw [← Nat.add_mul]; congr 1; omega
      have hmc : n * size ≤ cap * size := Nat.mul_le_mul_right _ h3
      have hst := run_storeCells_at P g (k * size) e (Builtin.zeroCells z.cells (n - k)).toList 0 cur w h7.lookup (by rw [hzl, h5]; omega) hone
      simp only [Nat.add_zero] at hst
      refine ⟨w.setRow g (cur.toList.take (k * size) ++ (Builtin.zeroCells z.cells (n - k)).toList ++ cur.toList.drop (k * size + (Builtin.zeroCells z.cells (n - k)).toList.length)).toArray, ?_, ?_, ⟨rfl, rfl, rfl, by simp⟩⟩
      · obtain ⟨m, hm⟩ : ∃ m, n - k = m + 1 := ⟨n - k - 1, by omega⟩
        rw [hm] at hst ⊢
        simp [Builtin.clear_, run_underlying ht, hz, hst]
      · refine (h7.turn (fun k _ hk => setRow_other w g k _ hk) (setRow_heap w g cur _ e _ h7.lookup)).row_of (by omega) h4 ?_ ?_ (by rw [List.length_take]; omega)
        · simp only [List.size_toArray, List.length_append, List.length_take, List.length_drop, Array.length_toList, hzl]
          omega
        · simp only [List.append_assoc]
          rw [List.take_append_of_le_length (by rw [List.length_take, Array.length_toList, h5]; omega), List.take_take, Nat.min_self, ← h6, List.take_take, Nat.min_eq_left (by omega)]
theorem wpList_clearTail {P : Program} {ops : Array Oper} {rest : List Oper} {o : Oper} {a : Act} {Q : Exit → Act → World → Prop} (hgd : o.guard = none) (x : Operand) (t : TypeId) (ho : o.op = .call { callee := .builtin .clear, args := #[x], argTypes := #[t] })
    (hO : Has w (row (.slice (some ⟨g, 0, none⟩) n cap) e size n xs :: l)) (ht : P.underlying t = some (.slice e)) {z : Value} (hz : ∀ w, (zeroValue e).run P w = .ok z w) (hzs : z.cells.size = size) (h1 : ∀ u ∈ z.cells.toList, u.oneCell' = true)
    (k : Nat) (hk : k ≤ n) (ad : Option Addr) (c' : Nat) (hx : a.eval x = .slice ad (n - k) c') (had : k < n → ad = some ⟨g, k * size, none⟩)
    (h : ∀ w', Has w' (row (.slice (some ⟨g, 0, none⟩) k cap) e size k (xs.take (k * size)) :: l) → Keep w w' → wpList P ops Q rest (a.put o.dst (.tuple #[])) w') : wpList P ops Q (o :: rest) a w :=
  wpList_plain hgd fun K hK => by
    obtain ⟨w', hrun, h2, h3⟩ := hO.clearTail (P := P) t o.type ht hz hzs h1 k hk ad c' had
    unfold Oper.wp execOp
    simp only [ho, resolve, invoke, builtin, Sem.run_bind, Sem.run_pure, Result.andThen_ok, List.map_toArray, List.map_cons, List.map_nil, hx, hrun]
    exact hK _ _ (h w' h2 h3)
end
end Go.Own
