/- A LIST OF TEXTS that a statement writes. -/
import Derived.Test.YtbggnbahmdgbdaaTexts
namespace Go.Proofs.Ytbggnbahmdgbdaa
open Go.RowKit Go.Own
/-- A list of texts; some that it had once may lie about. -/
def Wrt (v : Value) (T : List (List Int)) : HP := ex fun R : Txs => ex fun B : Txs => star [fact (R.map (·.2) = T ∧ ∀ x ∈ R, x ∈ B), row v 35 1 R.length (R.map (·.1)), poolc 5 B]
theorem wrt_iff {w : World} {L : List HP} {v : Value} {T : List (List Int)} : Has w (Wrt v T :: L) ↔ ∃ R B : Txs, (R.map (·.2) = T ∧ ∀ x ∈ R, x ∈ B) ∧ Has w (row v 35 1 R.length (R.map (·.1)) :: poolc 5 B :: L) := by
  unfold Wrt
  simp only [Has.ex_iff, Has.star_iff, List.cons_append, List.nil_append, Has.fact_iff]
theorem Prts.wrt {w : World} {L : List HP} {v : Value} {T : List (List Int)} (h : Has w (Prts v T :: L)) : Has w (Wrt v T :: L) := by
  obtain ⟨R, h1, h2⟩ := prts_iff.1 h
  exact wrt_iff.2 ⟨R, R, ⟨h1, fun _ h => h⟩, h2⟩
theorem Wrt.rd {w : World} {L : List HP} {v : Value} {T : List (List Int)} (h : Has w (Wrt v T :: L)) : RdT w v T := by
  obtain ⟨R, B, ⟨rfl, h1⟩, h2⟩ := wrt_iff.1 h
  exact rdT_of h2 h1
theorem Wrt.nil {w : World} {L : List HP} (h : Has w L) : Has w (Wrt (.slice none 0 0) [] :: L) :=
  wrt_iff.2 ⟨[], [], ⟨rfl, by simp⟩, h.pool_nil.row_nil _ _⟩
theorem Wrt.form {w : World} {L : List HP} {v : Value} {T : List (List Int)} (h : Has w (Wrt v T :: L)) : (v = .slice none 0 0 ∧ T = []) ∨ ∃ g c, v = .slice (some ⟨g, 0, none⟩) T.length c := by
  obtain ⟨R, B, ⟨rfl, h1⟩, h2⟩ := wrt_iff.1 h
  obtain ⟨-, h | ⟨g, c, cur, rfl, -⟩⟩ := h2.row_cases
  · left
    have : R = [] := List.eq_nil_of_length_eq_zero h.2.1
    exact ⟨h.1, by rw [this]; rfl⟩
  · right
    exact ⟨g, c, by simp⟩
/-- An element, and what the walk wants of its cell. -/
theorem Wrt.at_ {w : World} {L : List HP} {g n c : Nat} {T : List (List Int)} (h : Has w (Wrt (.slice (some ⟨g, 0, none⟩) n c) T :: L)) (k : Nat) (hk : k < T.length) :
    n = T.length ∧ (∀ j, w.frozen? ⟨g, j, none⟩ = false) ∧ ∃ p m, w.cell? ⟨g, k, none⟩ = some (.slice p T[k].length m) ∧ Rd w (.slice p T[k].length m) 1 T[k].length (bc T[k]) := by
  obtain ⟨R, B, ⟨rfl, h1⟩, h2⟩ := wrt_iff.1 h
  obtain ⟨rfl, hc, hf, -, -⟩ := h2.row_cells
  have hkR : k < R.length := by simpa using hk
  have hx := h2.p1.pool_rd (h1 _ (List.getElem_mem hkR))
  obtain ⟨p, m, e, -⟩ := hx.form
  refine ⟨by simp, hf, p, m, ?_, ?_⟩
  · rw [hc k (by omega), List.getElem?_map, List.getElem?_eq_getElem hkR, Option.map_some, e, List.getElem_map]
  · rw [e] at hx
    simpa using hx
/-- A new text is laid into it. -/
theorem Wrt.set {w : World} {L : List HP} {g n c : Nat} {T : List (List Int)} {u : Value} {xs : List Int} (h : Has w (Bytes u xs :: Wrt (.slice (some ⟨g, 0, none⟩) n c) T :: L)) (k : Nat) (hk : k < T.length) :
    Has (w.setCell ⟨g, k, none⟩ u) (Wrt (.slice (some ⟨g, 0, none⟩) n c) (T.set k xs) :: L) := by
  obtain ⟨R, B, ⟨rfl, h1⟩, h2⟩ := wrt_iff.1 h.p1
  have hkR : k < R.length := by simpa using hk
  have h3 := (h2.p2.p2.p1.pool_add).p1.row_set k (by omega) u
  refine wrt_iff.2 ⟨R.set k (u, xs), (u, xs) :: B, ⟨by rw [List.map_set], fun x hx => ?_⟩, ?_⟩
  · rcases List.mem_or_eq_of_mem_set hx with h | rfl
    · exact List.mem_cons_of_mem _ (h1 _ h)
    · exact List.mem_cons_self
  · rw [List.map_set, List.length_set]
    exact h3
theorem made_wrt {w : World} {L : List HP} {k : Nat} (h : Has w L) (hm : k ≤ maxLen) : Has (w.alloc (.cells (List.replicate k (Value.slice none 0 0)).toArray 35)) (Wrt (.slice (some ⟨w.heap.size, 0, none⟩) k k) (List.replicate k []) :: L) := by
  have h0 : Has w (poolc 5 [(.slice none 0 0, [])] :: L) := (h.pool_nil.row_nil 5 1).pool_add
  have h1 := h0.row_made (e := 35) (z := .slice none 0 0) hm
  refine wrt_iff.2 ⟨List.replicate k (.slice none 0 0, []), [(.slice none 0 0, [])], ⟨by simp, fun x hx => ?_⟩, ?_⟩
  · rw [(List.mem_replicate.1 hx).2]; simp
  · rw [List.length_replicate, List.map_replicate]; exact h1
theorem makeBs (k : Nat) (hk : k ≤ 1000000) (w : World) : (Instr.makeSlice 31 (.int .i64 (k : Int)) (.int .i64 (k : Int))).run Try.prog w = .ok (.slice (some ⟨w.heap.size, 0, none⟩) k k) (w.alloc (.cells (List.replicate k (Value.slice none 0 0)).toArray 35)) :=
  run_make_row w _ Try.underlying31 infoBs rfl .i64 .i64 k (by omega) (le_maxLen (by omega))
theorem fillUp {α : Type} (n k : Nat) (a b : α) (h : k < n) : (List.replicate k a ++ List.replicate (n - k) b).set k a = List.replicate (k + 1) a ++ List.replicate (n - (k + 1)) b := by
  obtain ⟨m, hm⟩ : ∃ m, n - k = m + 1 := ⟨n - k - 1, by omega⟩
  rw [hm, show n - (k + 1) = m from by omega, List.set_append_right _ _ (by simp), List.replicate_succ, List.replicate_succ']
  simp
end Go.Proofs.Ytbggnbahmdgbdaa
