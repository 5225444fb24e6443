/- THE WALKS of slices.Clone. -/
import Derived.Test.YtajlikakbihgbaaDiska
namespace Go.Proofs.Ytajlikakbihgbaa
open Go.RowKit Go.Own
theorem infoBool : (Try.prog.info? 4).map (fun i => (i.zero, i.size, i.bytes)) = some (some (.bool false), 1, 1) := by kernel_rfl
theorem bool_one (xs : List Bool) : ∀ u ∈ xs.map Value.bool, u.oneCell' = true := by
  intro u hu
  obtain ⟨x, -, rfl⟩ := List.mem_map.1 hu
  rfl
end Go.Proofs.Ytajlikakbihgbaa
