/- LISTS OF TEXTS, owned, read; of the same texts. -/
import Derived.Test.YtajlikakbihgbaaParts
namespace Go.Proofs.Ytajlikakbihgbaa
open Go.RowKit Go.Own
theorem infoBs : (Try.prog.info? 33).map (fun i => (i.zero, i.size, i.bytes)) = some (some (.slice none 0 0), 1, 24) := by kernel_rfl
/-- A list of texts of its own, each of them too. -/
def Prts (v : Value) (T : List (List Int)) : HP := ex fun R : Txs => star [fact (R.map (·.2) = T), row v 33 1 R.length (R.map (·.1)), poolc 5 R]
theorem prts_iff {w : World} {L : List HP} {v : Value} {T : List (List Int)} : Has w (Prts v T :: L) ↔ ∃ R : Txs, R.map (·.2) = T ∧ Has w (row v 33 1 R.length (R.map (·.1)) :: poolc 5 R :: L) := by
  unfold Prts
  simp only [Has.ex_iff, Has.star_iff, List.cons_append, List.nil_append, Has.fact_iff]
/-- It reads as texts. -/
def RdT (w : World) (v : Value) (T : List (List Int)) : Prop := ∃ R : Txs, R.map (·.2) = T ∧ RdP w v R
theorem rdT_of {w : World} {L : List HP} {v : Value} {R : Txs} {B : Txs} (h : Has w (row v 33 1 R.length (R.map (·.1)) :: poolc 5 B :: L)) (hB : ∀ x ∈ R, x ∈ B) : RdT w v (R.map (·.2)) :=
  ⟨R, rfl, h.rd, fun x hx => h.p1.pool_rd (hB x hx)⟩
theorem Prts.rd {w : World} {L : List HP} {v : Value} {T : List (List Int)} (h : Has w (Prts v T :: L)) : RdT w v T := by
  obtain ⟨R, rfl, h2⟩ := prts_iff.1 h
  exact rdT_of h2 fun _ h => h
theorem RdT.drewN {w : World} {v : Value} {T : List (List Int)} (h : RdT w v T) (n : Nat) : RdT (w.drewN n) v T := by
  obtain ⟨R, h1, h2⟩ := h
  exact ⟨R, h1, h2.drewN n⟩
theorem sameTexts (a b : Value) (R T : List (List Int)) (w : World) (ha : RdT w a R) (hb : RdT w b T) :
    Calls Try.prog 28 #[a, b] w fun e w' => e = .returned (.bool (decide (R = T))) ∧ ∃ n, w' = w.drewN n := by
  obtain ⟨R, rfl, h1⟩ := ha
  obtain ⟨T, rfl, h2⟩ := hb
  exact sameParts a b R T w h1 h2
end Go.Proofs.Ytajlikakbihgbaa
