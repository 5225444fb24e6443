/- DiskScript, its argument opened. -/
import Derived.Test.YtbcilhcmjkgkgaaScript4
import Derived.Test.YtbcilhcmjkgkgaaOpen2
namespace Go.Proofs.Ytbcilhcmjkgkgaa
open Go.RowKit Go.Own
section
variable {H : Type} {enc : TypeId × Value → H} {P : Program} {W : World} {base : Nat} {spare : Nat → Bool} {held : Bool}
theorem open_bool_field {t fuel : Nat} {cs : List Value} {x : DataW H × List MemPlace} {fs : Array Field} (ht : P.underlying t = some (.struct fs)) (h : DataW.trod enc P W base spare held fuel t cs = some x)
    (i : Nat) (f : Field) (hf : fs[i]? = some f) (hk : P.underlying f.type = some .bool) (hc : P.cellsOf f.type = 1) : ∃ n, cs[f.offset]? = some (.bool n) := by
  obtain ⟨m, y, hy⟩ := open_field ht h i f hf
  rw [hc] at hy
  obtain ⟨n, hn, -⟩ := DataW.trod_bool hk hy
  refine ⟨n, ?_⟩
  have := congrArg (fun l : List Value => l[0]?) hn
  simpa [List.getElem?_take, List.getElem?_drop] using this
theorem open_bools_field {t e fuel : Nat} {cs : List Value} {x : DataW H × List MemPlace} {fs : Array Field} (ht : P.underlying t = some (.struct fs)) (h : DataW.trod enc P W base spare held fuel t cs = some x)
    (i : Nat) (f : Field) (hf : fs[i]? = some f) (hk : P.underlying f.type = some (.slice e)) (he : P.underlying e = some .bool) (hc : P.cellsOf f.type = 1) (hce : P.cellsOf e = 1) : ∃ (v : Value) (zs : List Bool), cs[f.offset]? = some v ∧ Rd W v 1 zs.length (zs.map Value.bool) := by
  obtain ⟨m, y, hy⟩ := open_field ht h i f hf
  rw [hc] at hy
  obtain ⟨v, zs, hn, hr⟩ := trod_bools hk he hce hy
  refine ⟨v, zs, ?_, hr⟩
  have := congrArg (fun l : List Value => l[0]?) hn
  simpa [List.getElem?_take, List.getElem?_drop] using this
end
theorem scriptOpen {H : Type} {enc : TypeId × Value → H} {base : Nat} {spare : Nat → Bool} {held : Bool} (sec : Int) (a : Value) (n fuel : Nat) (xs : List Value) (W : World) (ha : Rd W a 5 n xs)
    (he : ∀ i, i < n → ∃ x, DataW.trod enc Try.prog W base spare held fuel 52 ((xs.drop (i * 5)).take 5) = some x) :
    Calls Try.prog 7 #[.int .i64 sec, a] W fun e w' => e = .returned (.bool true) ∧ Below W.heap.size W w' := by
  refine scriptWalk sec a n xs W ha fun i hi => ?_
  obtain ⟨x, hx⟩ := he i hi
  obtain ⟨d, hd, -⟩ := open_int_field Try.underlying52 hx 0 _ rfl Try.underlying3 (by kernel_rfl)
  obtain ⟨f, hf, -⟩ := open_int_field Try.underlying52 hx 1 _ rfl Try.underlying3 (by kernel_rfl)
  obtain ⟨k, hk, hw⟩ := open_int_field Try.underlying52 hx 2 _ rfl Try.underlying3 (by kernel_rfl)
  obtain ⟨b, h3⟩ := open_bool_field Try.underlying52 hx 3 _ rfl Try.underlying4 (by kernel_rfl)
  obtain ⟨v, zs, h4, hr⟩ := open_bools_field Try.underlying52 hx 4 _ rfl Try.underlying29 Try.underlying4 (by kernel_rfl) (by kernel_rfl)
  obtain ⟨p, c, rfl, -, -, -⟩ := hr.form
  refine ⟨d, f, k, b, p, c, zs, ?_, ?_, ?_, ?_, ?_, hr, ?_⟩
  · simpa [List.getElem?_take, List.getElem?_drop] using hd
  · simpa [List.getElem?_take, List.getElem?_drop] using hf
  · simpa [List.getElem?_take, List.getElem?_drop] using hk
  · simpa [List.getElem?_take, List.getElem?_drop] using h3
  · simpa [List.getElem?_take, List.getElem?_drop] using h4
  · simp [Lit.wf] at hw
    omega
end Go.Proofs.Ytbcilhcmjkgkgaa
