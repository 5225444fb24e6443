/- TEXTS of mine, merged. -/
import Derived.Test.YtmgpgbfgemebbaaGreatDoorM13
import Derived.Test.YtmgpgbfgemebbaaGreatDoorM8
import Derived.Test.YtmgpgbfgemebbaaGreatDoorM5
import Derived.Test.YtmgpgbfgemebbaaGreatDoorM14
import Derived.Test.YtmgpgbfgemebbaaGreatDoorM7
import Derived.Test.YtmgpgbfgemebbaaGreatDoorM6
set_option linter.all false
namespace Go.Proofs.YtmgpgbfgemebbaaGreatDoor
open Go.RowKit Go.Own
end Go.Proofs.YtmgpgbfgemebbaaGreatDoor
namespace Go.Proofs.YtmgpgbfgemebbaaGreatDoor
open Go.RowKit Go.Own
end Go.Proofs.YtmgpgbfgemebbaaGreatDoor
namespace Go.Proofs.YtmgpgbfgemebbaaGreatDoor
open Go.RowKit Go.Own
end Go.Proofs.YtmgpgbfgemebbaaGreatDoor
namespace Go.Proofs.YtmgpgbfgemebbaaGreatDoor
open Go.RowKit Go.Own
end Go.Proofs.YtmgpgbfgemebbaaGreatDoor
namespace Go.Own
open Go.RowKit Go.Maps
section
variable {P : Program} {k e : TypeId} {κ α : Type} [DecidableEq κ] {K : Ky P k κ} {V : El P e α} {w : World} {L : List HP} {b : Nat} {t : List (κ × α)} {o : Oper} {a : Act} {Q : Exit → Act → World → Prop} {R : Act → World → Prop}
theorem wp_mkDel (h : Has w (Mk K V b t :: L)) (T : TypeId) (ht : P.underlying T = some (.map k e)) (m kx : Operand) (hop : o.op = Op.call { callee := Callee.builtin Builtin.delete, args := #[m, kx], argTypes := #[T, k] }) (hm : a.eval m = .map (some b)) (x : κ) (hx : K.ok x) (hk : a.eval kx = K.val x)
  (hK : ∀ w', Has w' (Mk K V b (delA t x) :: L) → Keep w w' → R (a.put o.dst (.tuple #[])) w') : o.wp P a w R Q := by
 obtain ⟨D, h1, h2⟩ := Mk.iff.1 h
 obtain ⟨w', hrun, r1, r2⟩ := h2.owns.drop K.law ht (K.spell hx) o.type
 unfold Oper.wp
 simp [execOp, hop, resolve, invoke, builtin, hm, hk, hrun, Result.andThen]
 have h3 := h2.mapTurn (grown_but r2.grown fun r e => by cases e; rfl) r1
 exact hK w' (Mk.iff.2 ⟨_, h1.del x, h3⟩) (Mk.keep r2)
end
end Go.Own
