/- RollTells, its arguments opened. -/
import Derived.Test.YtihfhigkpkamiaaTells
import Derived.Test.YtihfhigkpkamiaaObjO
namespace Go.Proofs.Ytihfhigkpkamiaa
open Go.RowKit Go.Own Go.Rl
theorem tellsOpen {H : Type} {enc : TypeId × Value → H} {base : Nat} {spare : Nat → Bool} {held : Bool} (ov : Value) (xs : List Int) (nv : Value) (ys : List Int) (s : Int) (v : Value) (n fuel : Nat) (cells : List Value) (iv : Value) (is : List Int) (W : World)
    (hx : Rd W ov 1 xs.length (bc xs)) (hy : Rd W nv 1 ys.length (bc ys)) (ha : Rd W v 3 n cells)
    (he : ∀ i, i < n → ∃ x, DataW.trod enc Try.prog W base spare held fuel 31 ((cells.drop (i * 3)).take 3) = some x) (hi : Rd W iv 1 is.length (ic is)) :
    Calls Try.prog 5 #[ov, nv, .int .i64 s, v, iv] W fun e w' => e = .returned (.bool true) ∧ Below W.heap.size W w' := by
  obtain ⟨R, hR⟩ := openObjs ha he
  exact tellsWalk ov xs nv ys s v R iv is W hx hy hR hi
end Go.Proofs.Ytihfhigkpkamiaa
