/- THE WALK of Flush. -/
import Derived.Test.YtajlikakbihgbaaDiskc
namespace Go.Proofs.Ytajlikakbihgbaa
open Go.RowKit Go.Own Go.Dk
theorem layAll_take (F : List Txt) (W : List (Int × Txt)) (k : Nat) (h : k < W.length) : layAll F (W.take (k + 1)) = lay (layAll F (W.take k)) W[k] := by
  rw [← List.take_append_getElem h, layAll_snoc]
theorem okFlush {B : List Txt} {D : Disk} (h : Ok B D) (n : Int) : Ok B { D with firm := layAll D.firm D.waits, waits := [], flushes := n } where
  firm := fun y hy => by
    rcases layAll_mem hy with h1 | ⟨x, hx, rfl⟩
    · exact h.firm _ h1
    · exact h.waits _ hx
  waits := by simp
  at_ := by simp
  len := fun y hy => by
    rcases layAll_mem hy with h1 | ⟨x, hx, rfl⟩
    · exact h.len _ h1
    · exact h.wlen _ hx
  wlen := by simp
  left := h.left
end Go.Proofs.Ytajlikakbihgbaa
