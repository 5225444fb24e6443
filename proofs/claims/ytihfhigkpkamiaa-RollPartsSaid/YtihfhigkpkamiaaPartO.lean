/- RollParts, its arguments opened. -/
import Derived.Test.YtihfhigkpkamiaaPart
import Derived.Test.YtihfhigkpkamiaaObjO
namespace Go.Proofs.Ytihfhigkpkamiaa
open Go.RowKit Go.Own Go.Rl
theorem partOpen {H : Type} {enc : TypeId × Value → H} {base : Nat} {spare : Nat → Bool} {held : Bool} (v : Value) (n fuel : Nat) (cells : List Value) (cut : Int) (ov : Value) (xs : List Int) (sector : Int) (W : World)
    (ha : Rd W v 3 n cells) (he : ∀ i, i < n → ∃ x, DataW.trod enc Try.prog W base spare held fuel 31 ((cells.drop (i * 3)).take 3) = some x) (hx : Rd W ov 1 xs.length (bc xs)) :
    Calls Try.prog 4 #[v, .int .i64 cut, ov, .int .i64 sector] W fun e w' => e = .returned (.bool true) ∧ Below W.heap.size W w' := by
  obtain ⟨R, hR⟩ := openObjs ha he
  exact partWalk v R cut ov xs sector W hR hx
end Go.Proofs.Ytihfhigkpkamiaa
