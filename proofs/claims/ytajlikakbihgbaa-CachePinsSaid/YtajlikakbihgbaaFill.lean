/- THE WALK of Fill. -/
import Derived.Test.YtajlikakbihgbaaBytes
namespace Go.Proofs.Ytajlikakbihgbaa
open Go.RowKit Go.Own
/-- Byte k of number n's text. -/
def fb (n : Int) (k : Nat) : Int := (n / 2 ^ (8 * (k % 4)) + (k : Int) * 7) % 256
def fill (n : Int) (sz : Nat) : List Int := (List.range sz).map (fb n)
theorem fill_len (n : Int) (sz : Nat) : (fill n sz).length = sz := by simp [fill]
theorem fill_succ (n : Int) (k : Nat) : fill n (k + 1) = fill n k ++ [(n / 2 ^ (8 * (k % 4)) + (k : Int) * 7) % 256] := by simp [fill, List.range_succ, fb]
theorem fillAny (n : Int) (sz : Nat) (W : World) (L : List HP) (hO : Has W L) (hs : sz ≤ 30000) :
    Calls Try.prog 12 #[.int .i64 n, .int .i64 (sz : Int)] W fun e w' => ∃ v, e = .returned v ∧ Has w' (Bytes v (fill n sz) :: L) ∧ Keep W w' := by
  have HO := hid hO
  clear hO
  go_enter Try.func12, Try.ntmps12
  go_wp2
  go_loopw [6, 5] (fun i v w => ∃ k : Nat, k ≤ sz ∧ i = .int .i64 k ∧ Hid (Has w (Bytes v (fill n k) :: L)) ∧ Hid (Keep W w)) (fun i _ _ => sz - (intOf i).toNat)
  case atStart => exact ⟨0, by omega, rfl, hid (HO.out.row_nil _ _), hid (Keep.refl _)⟩
  case round =>
    obtain ⟨k, hk, rfl, HOw, HK⟩ := hrel
    by_cases hlt : k < sz
    · have hm : 0 ≤ (k : Int) % 4 ∧ (k : Int) % 4 < 4 := by omega
      go_wp2_with (at_builtin; refine wpList_append1 rfl _ _ _ rfl Try.underlying33 infoU8 rfl (.int .u8 ((n / 2 ^ (8 * (k % 4)) + (k : Int) * 7) % 256)) (HOw.out.alloc' _) rfl 1 _ rfl (by simp) rfl (le_maxLen (by rw [fill_len]; omega)) (by rw [fill_len]; omega) ?_)
      intro v' w' hO' hK'
      have HO' := hid hO'
      have HK' := hid hK'
      clear hO' hK'
      go_wp2_with fail
      go_roundw
      case rel =>
        refine ⟨k + 1, by omega, by go_num, hid ?_, hid ((HK.out.alloc _).trans HK'.out)⟩
        rw [fill_succ]
        have := HO'.out
        simpa [Bytes, bc_snoc] using this
      case measure => simp [intOf]; omega
    · obtain rfl : k = sz := by omega
      go_wp2_with fail
      go_ret
      exact ⟨_, rfl, HOw.out, HK.out⟩
end Go.Proofs.Ytajlikakbihgbaa
