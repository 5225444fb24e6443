/- LISTS OF TEXTS that share their texts: each list its own row, the texts in one pool. -/
import Derived.Test.YtbcilhcmjkgkgaaWrt
import Derived.Test.YtbcilhcmjkgkgaaCopy
namespace Go.Proofs.Ytbcilhcmjkgkgaa
open Go.RowKit Go.Own Go.Dk
def Lst (B : Txs) (v : Value) (T : List (List Int)) : HP := ex fun R : Txs => star [fact (R.map (·.2) = T ∧ ∀ x ∈ R, x ∈ B), row v 28 1 R.length (R.map (·.1))]
abbrev Pool (B : Txs) : HP := poolc 5 B
section
variable {w : World} {L : List HP} {B B' : Txs} {v : Value} {T : List (List Int)} {g n c : Nat}
theorem lst_iff : Has w (Lst B v T :: L) ↔ ∃ R : Txs, (R.map (·.2) = T ∧ ∀ x ∈ R, x ∈ B) ∧ Has w (row v 28 1 R.length (R.map (·.1)) :: L) := by
  unfold Lst
  simp only [Has.ex_iff, Has.star_iff, List.cons_append, List.nil_append, Has.fact_iff]
theorem Lst.sub (h : Has w (Lst B v T :: L)) (hB : ∀ x ∈ B, x ∈ B') : Has w (Lst B' v T :: L) := by
  obtain ⟨R, ⟨h1, h2⟩, h3⟩ := lst_iff.1 h
  exact lst_iff.2 ⟨R, ⟨h1, fun x hx => hB x (h2 x hx)⟩, h3⟩
theorem Lst.cons (h : Has w (Lst B v T :: L)) (y : Value × List Int) : Has w (Lst (y :: B) v T :: L) := Lst.sub h fun _ h => List.mem_cons_of_mem _ h
theorem Lst.rd (h : Has w (Lst B v T :: Pool B :: L)) : RdT w v T := by
  obtain ⟨R, ⟨rfl, h1⟩, h2⟩ := lst_iff.1 h
  exact rdT_of h2 h1
theorem Lst.nil (h : Has w L) : Has w (Lst B (.slice none 0 0) [] :: L) := lst_iff.2 ⟨[], ⟨rfl, by simp⟩, h.row_nil _ _⟩
theorem Lst.rdr (h : Has w (Lst B v T :: L)) : ∃ xs, Rd w v 1 T.length xs := by
  obtain ⟨R, ⟨rfl, h1⟩, h2⟩ := lst_iff.1 h
  exact ⟨_, by simpa using h2.rd⟩
/-- An element, and what the walk wants of its cell. -/
theorem Lst.at_ (h : Has w (Lst B (.slice (some ⟨g, 0, none⟩) n c) T :: Pool B :: L)) (k : Nat) (hk : k < T.length) :
    n = T.length ∧ (∀ j, w.frozen? ⟨g, j, none⟩ = false) ∧ ∃ p m, w.cell? ⟨g, k, none⟩ = some (.slice p T[k].length m) ∧ Rd w (.slice p T[k].length m) 1 T[k].length (bc T[k]) ∧ (.slice p T[k].length m, T[k]) ∈ B := by
  obtain ⟨R, ⟨rfl, h1⟩, h2⟩ := lst_iff.1 h
  obtain ⟨rfl, hc, hf, -, -⟩ := h2.row_cells
  have hkR : k < R.length := by simpa using hk
  have hB := h1 _ (List.getElem_mem hkR)
  have hx := h2.p1.pool_rd hB
  obtain ⟨p, m, e, -⟩ := hx.form
  refine ⟨by simp, hf, p, m, ?_, ?_, ?_⟩
  · rw [hc k (by omega), List.getElem?_map, List.getElem?_eq_getElem hkR, Option.map_some, e, List.getElem_map]
  · rw [e] at hx
    simpa using hx
  · rw [List.getElem_map, ← e]; exact hB
theorem Lst.set (h : Has w (Lst B (.slice (some ⟨g, 0, none⟩) n c) T :: L)) (k : Nat) (hk : k < T.length) {u : Value} {xs : List Int} (hu : (u, xs) ∈ B) :
    Has (w.setCell ⟨g, k, none⟩ u) (Lst B (.slice (some ⟨g, 0, none⟩) n c) (T.set k xs) :: L) := by
  obtain ⟨R, ⟨rfl, h1⟩, h2⟩ := lst_iff.1 h
  have hkR : k < R.length := by simpa using hk
  refine lst_iff.2 ⟨R.set k (u, xs), ⟨by rw [List.map_set], fun x hx => ?_⟩, ?_⟩
  · rcases List.mem_or_eq_of_mem_set hx with h | rfl
    · exact h1 _ h
    · exact hu
  · rw [List.map_set, List.length_set]
    exact h2.row_set k (by omega) u
theorem Lst.made {k : Nat} (h : Has w L) (hm : k ≤ maxLen) (hB : ((.slice none 0 0 : Value), ([] : List Int)) ∈ B) : Has (w.alloc (.cells (List.replicate k (Value.slice none 0 0)).toArray 28)) (Lst B (.slice (some ⟨w.heap.size, 0, none⟩) k k) (List.replicate k []) :: L) := by
  have h1 := h.row_made (e := 28) (z := .slice none 0 0) hm
  refine lst_iff.2 ⟨List.replicate k (.slice none 0 0, []), ⟨by simp, fun x hx => ?_⟩, ?_⟩
  · rw [(List.mem_replicate.1 hx).2]; exact hB
  · rw [List.length_replicate, List.map_replicate]; exact h1
theorem row_ne {e e' : TypeId} {g' n' c' s s' m m' : Nat} {xs ys : List Value} (h : Has w (row (.slice (some ⟨g, 0, none⟩) n c) e s m xs :: row (.slice (some ⟨g', 0, none⟩) n' c') e' s' m' ys :: L)) : g ≠ g' := by
  obtain ⟨-, h1 | ⟨a, b, cc, e1, -, -, -, -, h1⟩⟩ := h.row_cases
  · exact absurd h1.1 (by simp)
  obtain ⟨-, h2 | ⟨a', b', cc', e2, -, -, -, -, h2⟩⟩ := h1.p1.row_cases
  · exact absurd h2.1 (by simp)
  simp only [Value.slice.injEq, Option.some.injEq, Addr.mk.injEq] at e1 e2
  obtain ⟨⟨rfl, -, -⟩, -, -⟩ := e1
  obtain ⟨⟨rfl, -, -⟩, -, -⟩ := e2
  exact h2.ne.symm
theorem Lst.ne {g' n' c' : Nat} {T' : List (List Int)} (h : Has w (Lst B (.slice (some ⟨g, 0, none⟩) n c) T :: Lst B' (.slice (some ⟨g', 0, none⟩) n' c') T' :: L)) : g ≠ g' := by
  obtain ⟨R, -, h1⟩ := lst_iff.1 h
  obtain ⟨R', -, h2⟩ := lst_iff.1 h1.p1
  exact (row_ne h2).symm
/-- 'copy' of one list into another of the same length: the texts are shared. -/
theorem wpList_copyLst {ops : Array Oper} {rest : List Oper} {o : Oper} {a : Act} {Q : Exit → Act → World → Prop} (hgd : o.guard = none) (d s : Operand)
    (ho : o.op = .call { callee := .builtin .copy, args := #[d, s], argTypes := #[27, 27] }) {g' n' c' : Nat} {T' : List (List Int)}
    (hO : Has w (Lst B (.slice (some ⟨g, 0, none⟩) n c) T :: Lst B (.slice (some ⟨g', 0, none⟩) n' c') T' :: Pool B :: L)) (hlen : T.length = T'.length) (hd : a.eval d = .slice (some ⟨g, 0, none⟩) n c) (hs : a.eval s = .slice (some ⟨g', 0, none⟩) n' c')
    (h : ∀ w', Has w' (Lst B (.slice (some ⟨g, 0, none⟩) n c) T' :: Lst B (.slice (some ⟨g', 0, none⟩) n' c') T' :: Pool B :: L) → Keep w w' → wpList Try.prog ops Q rest (a.put o.dst (goInt (T.length : Int))) w') : wpList Try.prog ops Q (o :: rest) a w := by
  obtain ⟨R, ⟨rfl, hR⟩, h1⟩ := lst_iff.1 hO
  obtain ⟨R', ⟨rfl, hR'⟩, h2⟩ := lst_iff.1 h1.p1
  simp only [List.length_map] at hlen
  obtain ⟨rfl, -⟩ := h1.row_cells
  obtain ⟨rfl, -⟩ := h2.row_cells
  refine wpList_copy hgd d s _ _ ho Try.underlying27 (by kernel_rfl) h1 R.length c c' _ hd hs h2.rd ?_ (by omega) fun w' h3 h4 => ?_
  · intro u hu
    obtain ⟨x, hx, rfl⟩ := List.mem_map.1 hu
    obtain ⟨p, m, e, -⟩ := (h2.p2.pool_rd (hR' x hx)).form
    rw [e]; rfl
  · have e : min R'.length R.length = R.length := by omega
    rw [e] at h3 ⊢
    rw [List.take_zero, List.nil_append, List.take_of_length_le (by simp; omega), List.drop_of_length_le (by simp), List.append_nil, hlen] at h3
    rw [show ((R.map (·.2)).length : Int) = (R.length : Int) by simp] at h
    refine h w' (lst_iff.2 ⟨R', ⟨rfl, hR'⟩, ?_⟩) h4
    rw [hlen]
    exact h3
/-- A text goes into the pool. -/
theorem Pool.add {u : Value} {xs : List Int} (h : Has w (Bytes u xs :: Pool B :: L)) : Has w (Pool ((u, xs) :: B) :: L) := h.pool_add
theorem Pool.nil1 (h : Has w L) : Has w (Pool [(.slice none 0 0, [])] :: L) := (h.pool_nil.row_nil 5 1).pool_add
end
end Go.Proofs.Ytbcilhcmjkgkgaa
