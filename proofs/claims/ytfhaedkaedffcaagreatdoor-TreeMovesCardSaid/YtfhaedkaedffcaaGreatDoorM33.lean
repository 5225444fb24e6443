/- TEXTS of mine, merged. -/
import Derived.Test.YtfhaedkaedffcaaGreatDoorM20
/- A REGION THAT DRAWS ITS ORDER, WITH ONE ALLOCATION THAT MAY COME AT ANY TIME: walked in the text's order, the allocation ahead of each acting operation, and ahead of what waits for it. No program in sight. -/
namespace Go.Own
open Go.RowKit
section
variable {P : Program} {ops : Array Oper} {S : World → Prop} {rd : Nat → Bool} {qc : Qc}
def textOKF (ops : Array Oper) (rd : Nat → Bool) (j s : Nat) : Bool :=
  let A := ahead ops
  Region.noSelect ops && !rd j && (match ops[j]? with | some oj => oj.after.isEmpty | none => false) &&
  ((List.range ops.size).all fun i => match ops[i]?, ops[j]? with
    | some oi, some oj => (oi.after.all fun e => !Region.binds .any e || decide (e.on < i)) &&
      (decide (i = j) || (decide (s ≤ i) && (A.getD i []).contains j) || (oi.apart ops oj && oj.apart ops oi && (decide (i < s) || rd i))) &&
      (List.range i).all fun k => decide (i = j) || decide (k = j) || (A.getD i []).contains k || match ops[k]? with
        | none => true
        | some ok => ok.apart ops oi && (rd k || rd i)
    | _, _ => false)
structure OKF (ops : Array Oper) (rd : Nat → Bool) (j s : Nat) : Prop where
  sel : Region.noSelect ops = true
  rdj : rd j = false
  oj : ∃ oj, ops[j]? = some oj ∧ oj.after = #[]
  edges : ∀ {i : Nat} {oi : Oper}, ops[i]? = some oi → ∀ e ∈ oi.after, Region.binds .any e = true → e.on < i
  float : ∀ {i : Nat} {oi oj : Oper}, ops[i]? = some oi → ops[j]? = some oj → i ≠ j → ¬ Anc ops i j → oi.apart ops oj = true ∧ oj.apart ops oi = true ∧ (i < s ∨ rd i = true)
  low : ∀ {i : Nat} {oi oj : Oper}, ops[i]? = some oi → ops[j]? = some oj → i ≠ j → i < s → oi.apart ops oj = true ∧ oj.apart ops oi = true
  pair : ∀ {i k : Nat} {oi ok : Oper}, ops[i]? = some oi → ops[k]? = some ok → k < i → ¬ Anc ops i k → i ≠ j → k ≠ j → ok.apart ops oi = true ∧ (rd k = true ∨ rd i = true)
/-- The text's order, j ahead of each acting operation, or behind them all. -/
def wpF (P : Program) (qc : Qc) (ops : Array Oper) (S : World → Prop) (rd : Nat → Bool) (Q : Act → World → Prop) (j : Nat) (C : List Nat) : List Nat → Act → World → Prop
  | [], a, w => wpT P qc ops S rd Q (j :: C) a w
  | i :: rest, a, w => (rd i = false → wpT P qc ops S rd Q (j :: i :: (rest ++ C)) a w) ∧ stT P qc ops S rd i (wpF P qc ops S rd Q j C rest) a w
variable {Q : Act → World → Prop} {j s : Nat} {oj : Oper}
/-! ### Operation by operation -/
def stL (P : Program) (qc : Qc) (ops : Array Oper) (S : World → Prop) (o : Oper) (K : Act → World → Prop) (a : Act) (w : World) : Prop :=
  if Region.wanted o (yielded ops a.tmps) = true then
    (if isReader qc o = true then ∃ v, readsAt P qc S o a v ∧ K (a.put o.dst v) w
    else o.wp P a w (fun a' w' => S w' ∧ K a' w') (fun _ _ _ => False))
  else K (a.put o.dst undef) w
def wpl0F (P : Program) (qc : Qc) (ops : Array Oper) (S : World → Prop) (Q : Act → World → Prop) (oj : Oper) (C : List Oper) : List Oper → Act → World → Prop
  | [], a, w => wpl0 P qc ops S Q (oj :: C) a w
  | o :: rest, a, w => (isReader qc o = false → wpl0 P qc ops S Q (oj :: o :: (rest ++ C)) a w) ∧ stL P qc ops S o (wpl0F P qc ops S Q oj C rest) a w
/-- The walk of such a region. -/
structure wpLF (P : Program) (qc : Qc) (ops : Array Oper) (S : World → Prop) (Q : Act → World → Prop) (oj : Oper) (C l : List Oper) (a : Act) (w : World) : Prop where
  out : wpl0F P qc ops S Q oj C l a w
end
end Go.Own
