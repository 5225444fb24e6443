/- THE WALK of chapter 4's 'awake'. -/
import Derived.Test.YtbcilhcmjkgkgaaDiskk
import Derived.Test.YtbcilhcmjkgkgaaInts
import Derived.Test.YtbcilhcmjkgkgaaPrefm
namespace Go.Proofs.Ytbcilhcmjkgkgaa
open Go.RowKit Go.Own Go.Dk
theorem _root_.Go.Own.Has.lit {w : World} {b : Nat} {L : List HP} {x : Int} (hO : Has w (pt b (.cells #[.int .i64 x] 3) :: L)) : Has w (Ints (.slice (some ⟨b, 0, none⟩) 1 1) [x] :: L) :=
  hO.row_of (by simp) (le_maxLen (by omega)) rfl rfl rfl

theorem awake4 (w : World) (L : List HP) (hO : Has w L) :
    Calls Try.prog 8 #[] w fun e w' => e = .returned (.bool true) ∧ Has w' L ∧ Keep w w' := by
  have HO := hid hO
  clear hO
  go_enter Try.func8, Try.ntmps8
  go_wp2_with fail
  refine (kNew 3 w L (by omega) (by omega) HO.out).mono ?_
  rintro e w1 ⟨d, rfl, hO1, hK1⟩
  have HO1 := hid hO1
  have HK1 := hid hK1
  clear hO1 hK1
  try dsimp only
  go_wp2_with fail
  refine (fillAny 5 128 w1 _ HO1.out (by omega)).mono ?_
  rintro e w2 ⟨v2, rfl, hO2, hK2⟩
  have HO2 := hid hO2
  have HK2 := hid (HK1.out.trans hK2)
  clear hO2 hK2
  try dsimp only
  have E1 := hid (Bk.write_ok (D := Bk.zero 3) rfl rfl (a := 1) (by omega) (by decide) (fill128 5))
  go_wp2_with fail
  refine (kWrite d (Bk.zero 3) w2 _ HO2.out.p1 1 v2 (fill 5 128) (by decide) (by decide) (fun w' h => Bytes.rd h)).mono ?_
  rintro e w3 ⟨rfl, hO3, hK3⟩
  have HO3 := hid hO3
  have HK3 := hid ((HK2.out).trans hK3)
  clear hO3 hK3
  try dsimp only
  rw [E1.out]
  rw [E1.out] at HO3
  generalize hE : ({ Bk.zero 3 with waits := (Bk.zero 3).waits ++ [(1, fill 5 128)], writes := (Bk.zero 3).writes ++ [1] } : Bk) = E at *
  have X1 := hid (show E.waits.map (·.1) = [1] by rw [← hE]; rfl)
  have X2 := hid (show E.waits.length ≤ 1000000000 by rw [← hE]; decide)
  have X3 := hid (show (E.crash []).read 1 = (4, []) by rw [← hE]; rfl)
  have X4 := hid (show (E.crash []).boot.1 = 0 by rw [← hE]; rfl)
  have X5 := hid (show (E.crash []).boot.2.read 1 = (0, zer) by rw [← hE]; rfl)
  have X6 := hid (show (E.crash []).boot.2.firm.length = 3 by rw [← hE]; rfl)
  have X7 := hid (show (E.crash []).waits.length ≤ 1000000000 by rw [← hE]; decide)
  have X8 := hid (show (E.crash []).boot.2.waits.length ≤ 1000000000 by rw [← hE]; decide)
  clear hE E1
  go_wp2_with fail
  refine (kWaiting d E w3 _ HO3.out X2.out).mono ?_
  rintro e w4 ⟨v4, rfl, hO4, hK4⟩
  have HO4 := hid hO4
  have HK4 := hid ((HK3.out).trans hK4)
  clear hO4 hK4
  try dsimp only
  rw [X1.out] at HO4
  go_wp2_with fail
  refine (kCrash0 d E w4 _ HO4.out.p1).mono ?_
  rintro e w5 ⟨rfl, hO5, hK5⟩
  have HO5 := hid hO5
  have HK5 := hid ((HK4.out).trans hK5)
  clear hO5 hK5
  try dsimp only
  generalize E.crash [] = E2 at *
  go_wp2_with fail
  refine (kRead d E2 w5 _ HO5.out 1 X7.out).mono ?_
  rintro e w6 ⟨v6, rfl, hO6, hK6⟩
  have HO6 := hid hO6
  have HK6 := hid ((HK5.out).trans hK6)
  clear hO6 hK6
  try dsimp only
  rw [X3.out]
  rw [X3.out] at HO6
  go_wp2_with fail
  refine (kBoot d E2 w6 _ HO6.out.p1).mono ?_
  rintro e w7 ⟨rfl, hO7, hK7⟩
  have HO7 := hid hO7
  have HK7 := hid ((HK6.out).trans hK7)
  clear hO7 hK7
  try dsimp only
  rw [X4.out]
  generalize E2.boot.2 = E3 at *
  go_wp2_with fail
  refine (kRead d E3 w7 _ HO7.out 1 X8.out).mono ?_
  rintro e w8 ⟨v8, rfl, hO8, hK8⟩
  have HO8 := hid hO8
  have HK8 := hid ((HK7.out).trans hK8)
  clear hO8 hK8
  try dsimp only
  rw [X5.out]
  rw [X5.out] at HO8
  go_wp2_with fail
  refine (sameIntsYes v4 _ [1] _ (Ints.rd (HO8.out.alloc' _).p3) (Ints.rd (HO8.out.alloc _).lit)).mono ?_
  rintro e w' ⟨rfl, nq9, rfl⟩
  have HO9 := hid ((HO8.out.alloc' (.cells #[.int .i64 1] 3)).drewN nq9)
  have HK9 := hid ((HK8.out.alloc (.cells #[.int .i64 1] 3)).drewN nq9)
  try dsimp only
  generalize ((w8.alloc (.cells #[.int .i64 1] 3)).drewN nq9) = w9 at *
  have hmk := make128 w9
  have HM := hid (made128 HO9.out)
  have HKM := hid (HK9.out.alloc (.cells zeros128 5))
  go_wp2_with fail
  generalize w9.alloc (.cells zeros128 5) = wm at *
  clear hmk
  go_wp2_with fail
  refine (sameBytesYes v8 _ zer _ (Bytes.rd HM.out.p1) HM.out.rd).mono ?_
  rintro e w' ⟨rfl, nq10, rfl⟩
  have HO10 := hid ((HM.out.drop).drewN nq10)
  have HK10 := hid ((HKM.out).drewN nq10)
  try dsimp only
  generalize wm.drewN nq10 = w10 at *
  go_wp2_with fail
  refine (kSectors d E3 w10 _ HO10.out.p1).mono ?_
  rintro e w' ⟨rfl, rfl⟩
  try dsimp only
  rw [X6.out]
  go_wp2_with fail
  refine (diskNewNil 0 w10 (by omega)).mono ?_
  rintro e w' ⟨rfl, rfl⟩
  try dsimp only
  go_wp2_with fail
  go_ret
  exact ⟨by simp, HO10.out.drop.drop.drop.drop.drop, HK10.out⟩
end Go.Proofs.Ytbcilhcmjkgkgaa
