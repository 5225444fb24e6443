/- RollBack, its arguments opened. -/
import Derived.Test.YtihfhigkpkamiaaBack
import Derived.Test.YtihfhigkpkamiaaObjO
namespace Go.Proofs.Ytihfhigkpkamiaa
open Go.RowKit Go.Own Go.Rl
theorem backOpen {H : Type} {enc : TypeId × Value → H} {base : Nat} {spare : Nat → Bool} {held : Bool} (ov : Value) (xs : List Int) (nv : Value) (ys : List Int) (v : Value) (n fuel : Nat) (cells : List Value) (turn : Int) (W : World)
    (hx : Rd W ov 1 xs.length (bc xs)) (hy : Rd W nv 1 ys.length (bc ys)) (ha : Rd W v 3 n cells)
    (he : ∀ i, i < n → ∃ x, DataW.trod enc Try.prog W base spare held fuel 31 ((cells.drop (i * 3)).take 3) = some x) :
    Calls Try.prog 3 #[ov, nv, v, .int .i64 turn] W fun e w' => e = .returned (.bool true) ∧ Below W.heap.size W w' := by
  obtain ⟨R, hR⟩ := openObjs ha he
  exact backWalk ov nv v xs ys R turn W hx hy hR
end Go.Proofs.Ytihfhigkpkamiaa
