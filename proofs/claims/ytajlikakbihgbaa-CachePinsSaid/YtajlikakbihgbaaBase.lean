/- What every text of walks of this seat imports. -/
import Derived.Test.YtajlikakbihgbaaRows
import Derived.Test.YtajlikakbihgbaaRow
import Derived.Test.YtajlikakbihgbaaText
import Derived.WalkLawsBesides
import Derived.Deep.QuietTactic
import Derived.BigQuiet
import Derived.StillTailTactics
import Derived.Deep.DeepCutAuto
import Derived.Deep.CutBlock
namespace Go.Proofs.Ytajlikakbihgbaa
open Go.RowKit Go.Own
theorem infoInt : (Try.prog.info? 3).map (fun i => (i.zero, i.size, i.bytes)) = some (some (.int .i64 0), 1, 8) := by kernel_rfl
def Ints (v : Value) (xs : List Int) : HP := row v 3 1 xs.length (ic xs)
theorem Ints.rd {v : Value} {xs : List Int} {w : World} {L : List HP} (h : Has w (Ints v xs :: L)) : Rd w v 1 xs.length (ic xs) := Has.rd h
theorem infoU8 : (Try.prog.info? 5).map (fun i => (i.zero, i.size, i.bytes)) = some (some (.int .u8 0), 1, 1) := by kernel_rfl
def Bytes (v : Value) (xs : List Int) : HP := row v 5 1 xs.length (bc xs)
theorem Bytes.rd {v : Value} {xs : List Int} {w : World} {L : List HP} (h : Has w (Bytes v xs :: L)) : Rd w v 1 xs.length (bc xs) := Has.rd h
/-- A number below n. -/
def low (x n : Int) : Int := IntKind.u64.wrap x % n
theorem low_in (x n : Int) (hn : 1 ≤ n) : 0 ≤ low x n ∧ low x n < n := ⟨Int.emod_nonneg _ (by omega), Int.emod_lt_of_pos _ (by omega)⟩
theorem u64_nonneg (x : Int) : 0 ≤ IntKind.u64.wrap x := by simp [IntKind.wrap, IntKind.bits, IntKind.signed]; omega
theorem low_eq (x n : Int) (hn : 1 ≤ n) (hn' : n ≤ 9223372036854775807) : wrap64 ((IntKind.u64.wrap x).tmod n) = low x n := by
  have h := low_in x n hn
  have h0 := u64_nonneg x
  rw [Int.tmod_eq_emod_of_nonneg h0]
  exact IntWalk.wrap64_in _ (by unfold low at h; omega)
end Go.Proofs.Ytajlikakbihgbaa
