/- TableScript, its argument opened. -/
import Derived.Test.YtepdmlmnlpjhbaaTabScript
import Derived.Test.YtepdmlmnlpjhbaaOpen
namespace Go.Proofs.Ytepdmlmnlpjhbaa
open Go.RowKit Go.Own
theorem tableScriptOpen {H : Type} {enc : TypeId × Value → H} {base : Nat} {spare : Nat → Bool} {held : Bool} (a : Value) (n fuel : Nat) (xs : List Value) (W : World) (ha : Rd W a 4 n xs)
    (he : ∀ i, i < n → ∃ x, DataW.trod enc Try.prog W base spare held fuel 33 ((xs.drop (i * 4)).take 4) = some x) :
    Calls Try.prog 3 #[a] W fun e w' => e = .returned (.bool true) ∧ Below W.heap.size W w' := by
  refine tableScriptWalk a n xs W ha fun i hi => ?_
  obtain ⟨x, hx⟩ := he i hi
  obtain ⟨d, hd, -⟩ := open_int_field Try.underlying33 hx 0 _ rfl Try.underlying3 (by kernel_rfl)
  obtain ⟨f, hf, -⟩ := open_int_field Try.underlying33 hx 1 _ rfl Try.underlying3 (by kernel_rfl)
  obtain ⟨k, hk, -⟩ := open_int_field Try.underlying33 hx 2 _ rfl Try.underlying3 (by kernel_rfl)
  obtain ⟨g, hg, -⟩ := open_int_field Try.underlying33 hx 3 _ rfl Try.underlying3 (by kernel_rfl)
  refine ⟨d, f, k, g, ?_, ?_, ?_, ?_⟩
  · simpa [List.getElem?_take, List.getElem?_drop] using hd
  · simpa [List.getElem?_take, List.getElem?_drop] using hf
  · simpa [List.getElem?_take, List.getElem?_drop] using hk
  · simpa [List.getElem?_take, List.getElem?_drop] using hg
end Go.Proofs.Ytepdmlmnlpjhbaa
