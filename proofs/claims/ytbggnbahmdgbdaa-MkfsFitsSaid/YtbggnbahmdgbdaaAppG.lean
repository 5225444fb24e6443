/- append where the row has no room: what it was made of is only read. No program in sight. -/
import Derived.Test.YtbggnbahmdgbdaaApp
import Derived.Lib.SlBytesConst
namespace Go.Own
open Go.RowKit
section
variable {w : World} {l : List HP} {e : TypeId} {size n m : Nat} {xs ys : List Value}
theorem Has.appendGrown {P : Program} (hO : Has w l) (t ty : TypeId) {z : Value} {bytes : Nat} (ht : P.underlying t = some (.slice e)) (hi : (P.info? e).map (fun i => (i.zero, i.size, i.bytes)) = some (some z, size, bytes)) (hzs : z.cells.size = size)
    (g cap : Nat) (hxl : xs.length = n * size) (holds : ∀ j u, xs[j]? = some u → w.cell? ⟨g, j, none⟩ = some u) (a : Addr) (c : Nat) (hl : ys.length = m * size) (hys : ∀ j u, ys[j]? = some u → w.cell? (a.add j) = some u)
    (hcap : cap < n + m) (h63 : n + m ≤ maxLen) (hbytes : (n + m) * bytes ≤ 140737488355328) :
    ∃ v' w', (Builtin.append_ #[t, t] ty #[.slice (some ⟨g, 0, none⟩) n cap, .slice (some a) m c]).run P w = .ok v' w' ∧ Has w' (row v' e size (n + m) (xs ++ ys) :: l) ∧ Keep w w' := by
  obtain ⟨i, hi', hz, hs, hby⟩ := info_parts hi
  subst hs hby
  have hsmall : n + m ≤ 9223372036854775807 := by simp only [maxLen] at h63; omega
  have hlen : (xs ++ ys).length = (n + m) * i.size := by rw [List.length_append, hxl, hl, Nat.add_mul]
  have hr := run_append_grow (P := P) w t ty e i z ht hi' hz ⟨g, 0, none⟩ n cap xs hxl (fun j u hj => by rw [add_plain, Nat.zero_add]; exact holds j u hj) a m c ys hl hys (by omega) (by omega) (growslice_fits (by omega) hbytes)
  have hge := grownCap_ge w (n + m) cap e
  have hcm : grownCap w (n + m) cap e ≤ maxLen := grownCap_le_maxLen w (n + m) cap e h63
  refine ⟨_, _, hr, (hO.drew.alloc _).row_of hge hcm ?_ ?_ hlen, (Keep.refl w).drew.alloc _⟩
  · simp only [Array.size_append, List.size_toArray, size_zeroCells, hzs, hxl, hl, ← Nat.add_mul]
    congr 1
    omega
  · simp only [Array.toList_append, List.append_assoc]
    rw [← List.append_assoc, ← hlen]
    exact List.take_left
theorem wpList_appendGrown {P : Program} {ops : Array Oper} {rest : List Oper} {o : Oper} {a : Act} {Q : Exit → Act → World → Prop} (hgd : o.guard = none) (s x : Operand) (t : TypeId)
    (ho : o.op = .call { callee := .builtin .append, args := #[s, x], argTypes := #[t, t] })
    {z : Value} {bytes : Nat} (ht : P.underlying t = some (.slice e)) (hi : (P.info? e).map (fun i => (i.zero, i.size, i.bytes)) = some (some z, size, bytes)) (hzs : z.cells.size = size)
    (hO : Has w l) (g n cap : Nat) (xs : List Value) (hs : a.eval s = .slice (some ⟨g, 0, none⟩) n cap) (hxl : xs.length = n * size) (holds : ∀ j u, xs[j]? = some u → w.cell? ⟨g, j, none⟩ = some u)
    (b m c : Nat) (ys : List Value) (hx : a.eval x = .slice (some ⟨b, 0, none⟩) m c) (hl : ys.length = m * size) (hys : ∀ j u, ys[j]? = some u → w.cell? ⟨b, j, none⟩ = some u)
    (hcap : cap < n + m) (h63 : n + m ≤ maxLen) (hbytes : (n + m) * bytes ≤ 140737488355328)
    (h : ∀ v' w', Has w' (row v' e size (n + m) (xs ++ ys) :: l) → Keep w w' → wpList P ops Q rest (a.put o.dst v') w') : wpList P ops Q (o :: rest) a w := by
  refine wpList_plain hgd fun K hK => ?_
  obtain ⟨v', w', hrun, h2, h3⟩ := hO.appendGrown (P := P) t o.type ht hi hzs g cap hxl holds ⟨b, 0, none⟩ c hl (fun j u hj => by rw [add_plain, Nat.zero_add]; exact hys j u hj) hcap h63 hbytes
  unfold Oper.wp execOp
  simp only [ho, resolve, invoke, builtin, Sem.run_bind, Sem.run_pure, Result.andThen_ok, List.map_toArray, List.map_cons, List.map_nil, hs, hx, hrun]
  exact hK _ _ (h v' w' h2 h3)
end
end Go.Own
