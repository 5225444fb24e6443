/- THE WALK of chapter 18's 'awake'. -/
import Derived.Test.YtajlikakbihgbaaCas
import Derived.Test.YtajlikakbihgbaaInts
import Derived.Test.YtajlikakbihgbaaPrefm
namespace Go.Proofs.Ytajlikakbihgbaa
open Go.RowKit Go.Own Go.Dk Go.Ch
theorem _root_.Go.Own.Has.lit {w : World} {b : Nat} {L : List HP} {x : Int} (hO : Has w (pt b (.cells #[.int .i64 x] 3) :: L)) : Has w (Ints (.slice (some ⟨b, 0, none⟩) 1 1) [x] :: L) :=
  hO.row_of (by simp) (le_maxLen (by omega)) rfl rfl rfl
set_option maxRecDepth 100000 in
set_option maxHeartbeats 8000000 in
theorem awake18 (w : World) (L : List HP) (hO : Has w L) :
    Calls Try.prog 7 #[] w fun e w' => e = .returned (.bool true) ∧ Has w' L ∧ Keep w w' := by
  have HO := hid hO
  clear hO
  generalize hb : fill 3 128 = bs
  have HBL := hid (show bs.length = 128 by rw [← hb]; exact fill128 3)
  have HFILL := hid (fun (w : World) (L : List HP) (hO : Has w L) => show Calls Try.prog 12 #[.int .i64 3, .int .i64 128] w fun e w' => ∃ v, e = .returned v ∧ Has w' (Bytes v bs :: L) ∧ Keep w w' from hb ▸ fillAny 3 128 w L hO (by omega))
  have E1 := hid (Bk.write_ok (D := Bk.zero 4) rfl rfl (a := 2) (by omega) (by decide) (x := bs) HBL.out)
  clear hb
  go_enter Try.func7, Try.ntmps7
  go_wp2_with fail
  refine (kNew 4 w L (by omega) (by omega) HO.out).mono ?_
  rintro e w1 ⟨d, rfl, hO1, hK1⟩
  have HO1 := hid hO1
  have HK1 := hid hK1
  clear hO1 hK1
  try dsimp only
  go_wp2_with fail
  refine (kcNew (dP d) ⟨d, 0, none⟩ rfl 1 w1 _ (by omega) HO1.out).mono ?_
  rintro e w2 ⟨q, rfl, hO2, hK2⟩
  have HO2 := hid hO2
  have HK2 := hid ((HK1.out).trans hK2)
  clear hO2 hK2
  try dsimp only
  go_wp2_with fail
  refine (HFILL.out w2 _ HO2.out).mono ?_
  rintro e w3 ⟨v3, rfl, hO3, hK3⟩
  have HO3 := hid hO3
  have HK3 := hid ((HK2.out).trans hK3)
  clear hO3 hK3
  try dsimp only
  go_wp2_with fail
  refine (kcPut q d 1 [] (Bk.zero 4) 2 v3 bs w3 (Bytes v3 bs :: L) (by decide) (by decide) (by decide) HBL.out (fun w' h => Bytes.rd h) (HO3.out.re 3 [1, 2, 0])).mono ?_
  rintro e w4 ⟨rfl, hO4, hK4⟩
  have HO4 := hid hO4
  have HK4 := hid ((HK3.out).trans hK4)
  clear hO4 hK4
  try dsimp only
  rw [show newK 1 [] ⟨2, bs, true, false⟩ = [⟨2, bs, true, false⟩] from rfl] at HO4
  go_wp2_with fail
  refine (kcGetHit q d 1 [⟨2, bs, true, false⟩] 2 0 w4 _ (by decide) (by simp) (by simp [HBL.out]) rfl (by simp) HO4.out).mono ?_
  rintro e w5 ⟨v5, rfl, hO5, hK5⟩
  have HO5 := hid hO5
  have HK5 := hid ((HK4.out).trans hK5)
  clear hO5 hK5
  try dsimp only
  rw [show newK 1 [⟨2, bs, true, false⟩] ([⟨2, bs, true, false⟩] : List Hb)[0] = [⟨2, bs, true, false⟩] from rfl] at HO5
  rw [show (([⟨2, bs, true, false⟩] : List Hb)[0]).b = bs from rfl] at HO5
  go_wp2_with fail
  refine (kcHeld q (dP d) 1 [⟨2, bs, true, false⟩] w5 _ (by simp) HO5.out.p1).mono ?_
  rintro e w6 ⟨v6, rfl, hO6, hK6⟩
  have HO6 := hid hO6
  have HK6 := hid ((HK5.out).trans hK6)
  clear hO6 hK6
  try dsimp only
  rw [show ([⟨2, bs, true, false⟩] : List Hb).map Hb.at_ = [2] from rfl] at HO6
  go_wp2_with fail
  refine (kcDrop q (dP d) 1 [⟨2, bs, true, false⟩] 9 w6 _ (by omega) (by simp) HO6.out.p1).mono ?_
  rintro e w7 ⟨rfl, hO7, hK7⟩
  have HO7 := hid hO7
  have HK7 := hid ((HK6.out).trans hK7)
  clear hO7 hK7
  try dsimp only
  rw [show dropG Hb.stay 9 [⟨2, bs, true, false⟩] = (9, [⟨2, bs, true, false⟩]) from rfl] at HO7
  rw [show ((([⟨2, bs, true, false⟩] : List Hb).length : Int) - ((dropG Hb.stay 9 [⟨2, bs, true, false⟩]).2.length : Int)) = 0 from rfl]
  go_wp2_with fail
  refine (kcClean q d 1 [⟨2, bs, true, false⟩] (Bk.zero 4) 2 0 w7 (Ints v6 [2] :: Bytes v5 bs :: Bytes v3 bs :: L) (by decide) (by simp) (by decide) (by decide) rfl (by simp) rfl (HO7.out.re 5 [0, 3, 1, 2, 4])).mono ?_
  rintro e w8 ⟨rfl, hO8, hK8⟩
  have HO8 := hid hO8
  have HK8 := hid ((HK7.out).trans hK8)
  clear hO8 hK8
  try dsimp only
  generalize hE : ({ Bk.zero 4 with waits := (Bk.zero 4).waits ++ [(2, bs)], writes := (Bk.zero 4).writes ++ [2] } : Bk) = E at E1
  have X1 := hid (show E.writes = [2] by rw [← hE]; rfl)
  clear hE
  have hw : (Bk.zero 4).write 2 (([⟨2, bs, true, false⟩] : List Hb)[0]).b = (0, E) := E1.out
  rw [hw] at HO8 ⊢
  clear hw
  have HO8 := hid (show Has w8 (Cch q (dP d) 1 [⟨2, bs, false, false⟩] :: Dk d E :: Ints v6 [2] :: Bytes v5 bs :: Bytes v3 bs :: L) from HO8.out)
  go_wp2_with fail
  refine (HFILL.out w8 _ HO8.out).mono ?_
  rintro e w9 ⟨v9, rfl, hO9, hK9⟩
  have HO9 := hid hO9
  have HK9 := hid ((HK8.out).trans hK9)
  clear hO9 hK9
  try dsimp only
  go_wp2_with fail
  refine (sameBytesYes v5 v9 bs w9 (Bytes.rd HO9.out.p4) (Bytes.rd HO9.out)).mono ?_
  rintro e w' ⟨rfl, nq10, rfl⟩
  have HO10 := hid ((HO9.out).drewN nq10)
  have HK10 := hid ((HK9.out).drewN nq10)
  try dsimp only
  generalize w9.drewN nq10 = w10 at *
  go_wp2_with fail
  refine (sameIntsYes v6 _ [2] _ (Ints.rd (HO10.out.alloc' _).p3) (Ints.rd (HO10.out.alloc _).lit)).mono ?_
  rintro e w' ⟨rfl, nq11, rfl⟩
  have HO11 := hid ((HO10.out.alloc' (.cells #[.int .i64 2] 3)).drewN nq11)
  have HK11 := hid ((HK10.out.alloc (.cells #[.int .i64 2] 3)).drewN nq11)
  try dsimp only
  generalize ((w10.alloc (.cells #[.int .i64 2] 3)).drewN nq11) = w11 at *
  go_wp2_with fail
  refine (kcDirty q (dP d) 1 [⟨2, bs, false, false⟩] w11 _ (by simp) HO11.out.p1).mono ?_
  rintro e w12 ⟨v12, rfl, hO12, hK12⟩
  have HO12 := hid hO12
  have HK12 := hid ((HK11.out).trans hK12)
  clear hO12 hK12
  try dsimp only
  rw [show sorted (dirts [⟨2, bs, false, false⟩]) = [] by simp [dirts, sorted]] at HO12
  obtain ⟨p12, c12, rfl, -⟩ := (Ints.rd HO12.out).form
  go_wp2_with fail
  refine (kWrites d E w12 _ HO12.out.p3 (by rw [X1.out]; decide)).mono ?_
  rintro e w13 ⟨v13, rfl, hO13, hK13⟩
  have HO13 := hid hO13
  have HK13 := hid ((HK12.out).trans hK13)
  clear hO13 hK13
  try dsimp only
  rw [X1.out] at HO13
  go_wp2_with fail
  refine (sameIntsYes v13 _ [2] _ (Ints.rd (HO13.out.alloc' _)) (Ints.rd (HO13.out.alloc _).lit)).mono ?_
  rintro e w' ⟨rfl, nq14, rfl⟩
  have HO14 := hid ((HO13.out.alloc' (.cells #[.int .i64 2] 3)).drewN nq14)
  have HK14 := hid ((HK13.out.alloc (.cells #[.int .i64 2] 3)).drewN nq14)
  try dsimp only
  generalize ((w13.alloc (.cells #[.int .i64 2] 3)).drewN nq14) = w14 at *
  go_wp2_with fail
  refine (kcNewNil (.pointer none) 1 w14 (.inl rfl)).mono ?_
  rintro e w' ⟨rfl, rfl⟩
  try dsimp only
  go_wp2_with fail
  refine (kcNewNil (dP d) 0 w14 (.inr ⟨by decide, ⟨d, 0, none⟩, rfl⟩)).mono ?_
  rintro e w' ⟨rfl, rfl⟩
  try dsimp only
  go_wp2_with fail
  go_ret
  exact ⟨rfl, HO14.out.drop.drop.drop.drop.drop.drop.drop.drop, HK14.out⟩
end Go.Proofs.Ytajlikakbihgbaa
