/- A SLICE OF OBJECTS, opened. -/
import Derived.Test.YtihfhigkpkamiaaRollo
import Derived.Test.YtihfhigkpkamiaaOpen2
namespace Go.Proofs.Ytihfhigkpkamiaa
open Go.RowKit Go.Own Go.Rl
section
variable {H : Type} {enc : TypeId × Value → H} {W : World} {base : Nat} {spare : Nat → Bool} {held : Bool}
theorem open_bytes_field {P : Program} {t e fuel : Nat} {cs : List Value} {x : DataW H × List MemPlace} {fs : Array Field} (ht : P.underlying t = some (.struct fs)) (h : DataW.trod enc P W base spare held fuel t cs = some x)
    (i : Nat) (f : Field) (hf : fs[i]? = some f) (hk : P.underlying f.type = some (.slice e)) (he : P.underlying e = some (.int .u8)) (hc : P.cellsOf f.type = 1) (hce : P.cellsOf e = 1) : ∃ (v : Value) (zs : List Int), cs[f.offset]? = some v ∧ Rd W v 1 zs.length (bc zs) := by
  obtain ⟨m, y, hy⟩ := open_field ht h i f hf
  rw [hc] at hy
  obtain ⟨v, zs, hn, hr⟩ := trod_scal hk he hce hy
  refine ⟨v, zs, ?_, hr⟩
  have := congrArg (fun l : List Value => l[0]?) hn
  simpa [List.getElem?_take, List.getElem?_drop] using this
theorem openObjs {a : Value} {n fuel : Nat} {xs : List Value} (ha : Rd W a 3 n xs)
    (he : ∀ i, i < n → ∃ x, DataW.trod enc Try.prog W base spare held fuel 31 ((xs.drop (i * 3)).take 3) = some x) : ∃ R : List Ob, RdO W a R := by
  have h1 : ∀ i, i < n → ∃ y : Ob, (∀ j, j < 3 → xs[i * 3 + j]? = (ocell y)[j]?) ∧ Rd W y.2 1 y.1.bytes.length (bc y.1.bytes) := by
    intro i hi
    obtain ⟨x, hx⟩ := he i hi
    obtain ⟨d, hd, -⟩ := open_int_field Try.underlying31 hx 0 _ rfl Try.underlying3 (by kernel_rfl)
    obtain ⟨f, hf, -⟩ := open_int_field Try.underlying31 hx 1 _ rfl Try.underlying3 (by kernel_rfl)
    obtain ⟨v, zs, h4, hr⟩ := open_bytes_field Try.underlying31 hx 2 _ rfl Try.underlying22 Try.underlying5 (by kernel_rfl) (by kernel_rfl)
    refine ⟨(⟨d, f, zs⟩, v), fun j hj => ?_, hr⟩
    rcases j with _ | _ | _ | j
    · simpa [List.getElem?_take, List.getElem?_drop, ocell] using hd
    · simpa [List.getElem?_take, List.getElem?_drop, ocell] using hf
    · simpa [List.getElem?_take, List.getElem?_drop, ocell] using h4
    · omega
  haveI : Inhabited Ob := ⟨(⟨0, 0, []⟩, .slice none 0 0)⟩
  obtain ⟨f, hf⟩ := Deep.choose_lt h1
  refine ⟨(List.range n).map f, ?_, ?_⟩
  · have e : xs = ocells ((List.range n).map f) := by
      apply List.ext_getElem?
      intro j
      by_cases hj : j < n * 3
      · have hq : j / 3 < n := by omega
        have h2 := (hf (j / 3) hq).1 (j % 3) (by omega)
        have h3 := ocells_at ((List.range n).map f) (j / 3) (by simpa using hq) (j % 3) (by omega)
        rw [show j / 3 * 3 + j % 3 = j by omega] at h2 h3
        rw [h2, h3]
        simp
      · rw [List.getElem?_eq_none (by have := ha.1; omega), List.getElem?_eq_none (by rw [ocells_len]; simp; omega)]
    have hl : ((List.range n).map f).length = n := by simp
    rw [← e, hl]
    exact ha
  · intro x hx
    obtain ⟨i, hi, rfl⟩ := List.mem_map.1 hx
    exact (hf i (by simpa using hi)).2
end
end Go.Proofs.Ytihfhigkpkamiaa
