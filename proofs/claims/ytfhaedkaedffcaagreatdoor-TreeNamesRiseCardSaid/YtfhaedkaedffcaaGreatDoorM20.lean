/- TEXTS of mine, merged. -/
import Derived.Test.YtfhaedkaedffcaaGreatDoorM19
import Derived.Test.YtfhaedkaedffcaaGreatDoorM9
import Derived.Test.YtfhaedkaedffcaaGreatDoorM10
import Derived.Test.YtfhaedkaedffcaaGreatDoorM8
import Derived.Test.YtfhaedkaedffcaaGreatDoorM2
/- THE WALK of tree.deep. -/
namespace Go.Proofs.YtfhaedkaedffcaaGreatDoor
open Go.RowKit Go.Own
end Go.Proofs.YtfhaedkaedffcaaGreatDoor
/- `delete(m, x)` as one operation of a region that draws. No program in sight. -/
namespace Go.Own
open Go.RowKit Go.Maps
section
variable {P : Program} {k e : TypeId} {κ α : Type} [DecidableEq κ] {K : Ky P k κ} {V : El P e α} {w : World} {L : List HP} {b : Nat} {t : List (κ × α)} {o : Oper} {a : Act} {Q : Exit → Act → World → Prop} {R : Act → World → Prop}
end
end Go.Own
/- A REGION THAT DRAWS ITS ORDER, TWO OF WHOSE ACTING OPERATIONS MAY COME IN EITHER ORDER: walked twice. No program in sight. -/
namespace Go.Own
open Go.RowKit
section
variable {P : Program} {ops : Array Oper} {S : World → Prop} {rd : Nat → Bool} {qc : Qc}
/-- Every pair but one may change places, where one is a reader. -/
def PairOK (ops : Array Oper) (rd : Nat → Bool) (p q : Nat) : Prop := ∀ {i k : Nat} {oi ok : Oper}, ops[i]? = some oi → ops[k]? = some ok → k < i → ¬ Anc ops i k → ¬ (k = p ∧ i = q) → ok.apart ops oi = true ∧ (rd k = true ∨ rd i = true)
def textOK2 (ops : Array Oper) (rd : Nat → Bool) (p q : Nat) : Bool :=
  let A := ahead ops
  Region.noSelect ops &&
  ((List.range ops.size).all fun i => match ops[i]? with
    | none => true
    | some oi => (oi.after.all fun e => !Region.binds .any e || decide (e.on < i)) &&
      (List.range i).all fun k => (A.getD i []).contains k || (decide (k = p) && decide (i = q)) || match ops[k]? with
        | none => true
        | some ok => ok.apart ops oi && (rd k || rd i)) &&
  ((List.range ops.size).all fun j => !(decide (p < j) && decide (j < q)) || match ops[p]?, ops[j]? with
    | some op, some oj => oj.apart ops op && rd j && !rd p
    | _, _ => false)
theorem stT_and {j : Nat} {oj : Oper} (hj : ops[j]? = some oj) (hr : rd j = true) {K K' : Act → World → Prop} {a : Act} {w : World} (hS : S w) (h1 : stT P qc ops S rd j K a w) (h2 : stT P qc ops S rd j K' a w) : stT P qc ops S rd j (fun a w => K a w ∧ K' a w) a w := by
  unfold stT at *
  simp only [hj, hr, if_true] at *
  by_cases hw : Region.wanted oj (yielded ops a.tmps) = true
  · simp only [hw, if_true] at *
    obtain ⟨v, a1, a2⟩ := h1
    obtain ⟨v', b1, b2⟩ := h2
    obtain rfl := readsAt_one hS a1 b1
    exact ⟨_, a1, a2, b2⟩
  · simp only [hw, if_false, Bool.false_eq_true] at *
    exact ⟨h1, h2⟩
theorem wpT_of_list {Q : Act → World → Prop} : ∀ (l : List Oper) (ix : List Nat) (a : Act) (w : World), ix.map (fun i => ops[i]?) = l.map some → wpl0 P qc ops S Q l a w → wpT P qc ops S (rdAt qc ops) Q ix a w
  | [], ix, a, w, hl, h => by
    have : ix = [] := by simpa using hl
    subst this
    exact h
  | o :: l, ix, a, w, hl, h => by
    cases ix with
    | nil => simp at hl
    | cons n ix =>
      rw [List.map_cons, List.map_cons, List.cons.injEq] at hl
      obtain ⟨ho, hl'⟩ := hl
      have ih : ∀ a w, wpl0 P qc ops S Q l a w → wpT P qc ops S (rdAt qc ops) Q ix a w := fun a w h => wpT_of_list l ix a w hl' h
      rw [wpT_cons]
      unfold stT
      simp only [ho]
      unfold wpl0 at h
      have hrd : rdAt qc ops n = isReader qc o := by simp [rdAt, ho]
      split
      · rename_i hw
        simp only [hw, if_true] at h
        rw [hrd]
        split
        · rename_i hr
          simp only [hr, if_true] at h
          obtain ⟨v, h1, h2⟩ := h
          exact ⟨v, h1, ih _ _ h2⟩
        · rename_i hr
          simp only [hr, if_false, Bool.false_eq_true] at h
          exact Oper.wp_mono (fun a w ⟨s1, s2⟩ => ⟨s1, ih _ _ s2⟩) h
      · rename_i hw
        simp only [hw, if_false, Bool.false_eq_true] at h
        exact ih _ _ h
end
end Go.Own
