/- THE WALKS of Writes, Waiting. -/
import Derived.Test.YtajlikakbihgbaaDiskw
import Derived.Test.YtajlikakbihgbaaCloneI
namespace Go.Proofs.Ytajlikakbihgbaa
open Go.RowKit Go.Own Go.Dk
theorem writesNil (w : World) : Calls Try.prog 21 #[.pointer none] w fun e w' => e = .returned (.slice none 0 0) ∧ w = w' := by
  go_enter Try.func21, Try.ntmps21
  go_wp2
  go_ret
  exact ⟨rfl, rfl⟩
theorem diskWrites (d : Nat) (D : Disk) (w : World) (L : List HP) (hw : D.writes.length ≤ 1000000000) (hO : Has w (Dsk d D :: L)) :
    Calls Try.prog 21 #[.pointer (some ⟨d, 0, none⟩)] w fun e w' => ∃ v, e = .returned v ∧ Has w' (Ints v D.writes :: Dsk d D :: L) ∧ Keep w w' := by
  have hO0 := hO
  obtain ⟨fv, wv, av, lv, B, hok, hO⟩ := dsk_iff.1 hO
  obtain ⟨lp, lc, rfl, -⟩ := hO.p4.rd.form
  have hc := hO.cells
  have H := hid (cloneInts (.slice lp D.writes.length lc) D.writes w (Dsk d D :: L) hO0 (Ints.rd hO.p4) hw)
  clear hO hO0 hok
  go_enter Try.func21, Try.ntmps21
  go_wp2_with (go_at_call 42; refine H.out.mono ?_; rintro e w' ⟨v', rfl, h, hK, -⟩; dsimp only)
  go_ret
  exact ⟨_, rfl, h, hK⟩
end Go.Proofs.Ytajlikakbihgbaa
