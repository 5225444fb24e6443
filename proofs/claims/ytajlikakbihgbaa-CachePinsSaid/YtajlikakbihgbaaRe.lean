/- CHUNKS SELECTED AND ORDERED by a list of their places. No program in sight. -/
import Derived.Test.YtajlikakbihgbaaPool
namespace Go.Own
def pickE : List Nat → List HP → List HP
  | [], _ => []
  | i :: is, l => l[i]?.getD emp :: pickE is (l.set i emp)
theorem Has.out1 {w : World} {l m : List HP} (i : Nat) (h : Has w (l ++ m)) : Has w (l[i]?.getD emp :: (l.set i emp ++ m)) := by
  by_cases hi : i < l.length
  · rw [List.getElem?_eq_getElem hi, Option.getD_some]
    have h1 : Has w (l[i] :: (l.eraseIdx i ++ m)) := h.perm ((perm_pull l i hi).append_right m)
    have h2 : Has w (emp :: l[i] :: (l.eraseIdx i ++ m)) := Has.emp_iff.2 h1
    exact h2.p1.perm (((set_perm l i hi emp).symm.append_right m).cons _)
  · rw [List.getElem?_eq_none (by omega), Option.getD_none, List.set_eq_of_length_le (by omega)]
    exact Has.emp_iff.2 h
theorem Has.dropAll {w : World} {m : List HP} : ∀ (l : List HP), Has w (l ++ m) → Has w m
  | [], h => h
  | _ :: l, h => Has.dropAll l h.drop
theorem Has.reIn {w : World} {m : List HP} : ∀ (is : List Nat) (acc l : List HP), Has w (acc ++ (l ++ m)) → Has w (acc ++ (pickE is l ++ m))
  | [], acc, l, h => by
    unfold pickE
    rw [List.nil_append]
    have : Has w (l ++ (acc ++ m)) := h.perm (List.perm_append_comm_assoc _ _ _)
    exact this.dropAll
  | i :: is, acc, l, h => by
    unfold pickE
    have h1 : Has w (l ++ (acc ++ m)) := h.perm (List.perm_append_comm_assoc _ _ _)
    have h2 := h1.out1 i
    have h3 : Has w ((acc ++ [l[i]?.getD emp]) ++ (l.set i emp ++ m)) := by
      rw [List.append_assoc, List.singleton_append]
      exact h2.perm (((List.perm_append_comm_assoc _ _ _).cons _).trans List.perm_middle.symm)
    have h4 := Has.reIn is _ _ h3
    rw [List.append_assoc, List.singleton_append] at h4
    exact h4
/-- Of the first n chunks those at the places 'is', in that order; the rest of the first n are let go. -/
theorem Has.re {w : World} {l : List HP} (n : Nat) (is : List Nat) (h : Has w l) : Has w (pickE is (l.take n) ++ l.drop n) :=
  Has.reIn is [] _ (by rw [List.nil_append, List.take_append_drop]; exact h)
example {w : World} {a b c d : HP} {L : List HP} (h : Has w (a :: b :: c :: d :: L)) : Has w (c :: a :: d :: L) := h.re 3 [2, 0]
end Go.Own
