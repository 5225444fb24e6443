/- WHAT IS NEW BESIDE WHAT WAS: chunks that were made behind a world, together with what was owned in it. No program in sight. -/
import Derived.Test.YtajlikakbihgbaaRow
import Derived.RangeFuncNested
namespace Go.Own
open Go.RowKit
section
variable {W W' : World} {p : HP} {M : List HP} {n : Nat}
/-- What is owned beside all that was is owned beside what was owned. -/
theorem Has.over (h : Has W' [p, old W]) (hM : Has W M) : Has W' (p :: M) := by
  obtain ⟨_, hw, a, b, d, rfl, hp, hb⟩ := h
  rw [star_one] at hb
  obtain ⟨c, hc, hs⟩ := hM
  have hbk : ∀ k o, c k = some o → b k = some o := fun k o e => by rw [show b = _ from hb]; exact hc k o e
  refine ⟨Frag.join a c, fun k o e => ?_, a, c, fun k => ?_, rfl, hp, hs⟩
  · unfold Frag.join at e
    rcases d k with e' | e'
    · rw [e'] at e
      exact hw k o (by simp [Frag.join, e', hbk k o (by simpa using e)])
    · cases e2 : a k with
      | some x => rw [e2] at e; exact hw k o (by simp [Frag.join, e2]; simpa using e)
      | none =>
        rw [e2] at e
        have := hbk k o (by simpa using e)
        rw [e'] at this; cases this
  · rcases d k with e | e
    · exact .inl e
    · cases e2 : c k with
      | none => exact .inr rfl
      | some x => have := hbk k x e2; rw [e] at this; cases this
/-- p lies in cells at n or beyond. -/
def Fresh (n : Nat) (W : World) (p : HP) : Prop := ∃ h : Frag, (∀ k o, h k = some o → W.heap[k]? = some o ∧ o.isCells = true ∧ n ≤ k) ∧ p h
theorem Fresh.own (h : Fresh n W' p) (hM : Has W M) (hn : W.heap.size ≤ n) (hb : Below W.heap.size W W') : Has W' (p :: M) := by
  obtain ⟨a, ha, hp⟩ := h
  obtain ⟨c, hc, hs⟩ := hM
  have hlt : ∀ k o, c k = some o → k < W.heap.size := fun k o e => (Array.getElem?_eq_some_iff.1 (hc k o e)).1
  refine ⟨Frag.join a c, fun k o e => ?_, a, c, fun k => ?_, rfl, hp, hs⟩
  · unfold Frag.join at e
    cases e2 : a k with
    | some x => rw [e2] at e; have := (ha k x e2).1; rw [this]; simpa using e
    | none =>
      rw [e2] at e
      have e : c k = some o := by simpa using e
      rw [hb.block k (hlt k o e)]; exact hc k o e
  · cases e : a k with
    | none => exact .inl rfl
    | some x =>
      cases e2 : c k with
      | none => exact .inr rfl
      | some y => have := (ha k x e).2.2; have := hlt k y e2; omega
theorem ownFrom_fresh {β : Type} (B n : Nat) (p : β → HP) : OwnFrom B (fun s W => Fresh n W (p s)) := by
  intro s A C row hs hg hr
  obtain ⟨h, hh, hp⟩ := hs
  refine ⟨h, fun k o e => ?_, hp⟩
  obtain ⟨h1, h2, h3⟩ := hh k o e
  refine ⟨(hg.block k (Array.getElem?_eq_some_iff.1 h1).1 (fun e' => ?_)).trans h1, h2, h3⟩
  obtain ⟨_, o', ho', hc'⟩ := hr k e'.symm
  rw [h1] at ho'; cases ho'; rw [h2] at hc'; cases hc'
theorem Fresh.frame (h : Fresh n W p) (hk : ∀ k, n ≤ k → k < W.heap.size → W'.heap[k]? = W.heap[k]?) : Fresh n W' p := by
  obtain ⟨a, ha, hp⟩ := h
  refine ⟨a, fun k o e => ?_, hp⟩
  obtain ⟨h1, h2, h3⟩ := ha k o e
  exact ⟨(hk k h3 (Array.getElem?_eq_some_iff.1 h1).1).trans h1, h2, h3⟩
theorem row_isCells {e : TypeId} {v : Value} {size m : Nat} {xs : List Value} {a : Frag} (h : row v e size m xs a) : ∀ k o, a k = some o → o.isCells = true := by
  obtain ⟨-, ⟨-, -, h⟩ | ⟨g, cap, cur, -, -, -, -, -, h⟩⟩ := h
  · intro k o e; rw [show a = _ from h] at e; cases e
  · intro k o e
    rw [show a = _ from h] at e
    by_cases hk : k = g
    · simp [hk] at e; subst e; rfl
    · simp [hk] at e
/-- A row beside all that was. -/
theorem Has.fresh_row {e : TypeId} {v : Value} {size m : Nat} {xs : List Value} (h : Has W' [row v e size m xs, old W]) (hn : n ≤ W.heap.size) : Fresh n W' (row v e size m xs) := by
  obtain ⟨_, hw, a, b, d, rfl, hp, hb⟩ := h
  refine ⟨a, fun k o e => ?_, hp⟩
  have h1 := hw k o (by simp [Frag.join, e])
  rw [star_one] at hb
  have hb' : b k = W.heap[k]? := by rw [show b = _ from hb]
  have hk : W.heap.size ≤ k := by
    rcases d k with e' | e'
    · rw [e'] at e; cases e
    · rw [hb'] at e'
      exact Array.getElem?_eq_none_iff.1 e'
  exact ⟨h1, row_isCells hp k o e, Nat.le_trans hn hk⟩
end
end Go.Own
