/- THE WALK of chapter 13's 'awake'. -/
import Derived.Test.YtepdmlmnlpjhbaaInts
namespace Go.Proofs.Ytepdmlmnlpjhbaa
open Go.RowKit Go.Own
theorem _root_.Go.Own.Own.lit {w : World} {b : Nat} {L : List HP} {x : Int} (hO : Own w (pt b (.cells #[.int .i64 x] 3) :: L)) : Own w (Ints (.slice (some ⟨b, 0, none⟩) 1 1) [x] :: L) :=
  hO.row_of (by simp) (le_maxLen (by omega)) rfl rfl rfl
theorem awake13 (w : World) (L : List HP) (hO : Own w L) :
    Calls Try.prog 6 #[] w fun e w' => e = .returned (.bool true) ∧ Own w' L ∧ Keep w w' := by
  have HO := hid hO
  clear hO
  go_enter Try.func6, Try.ntmps6
  go_wp2_with fail
  refine (tabNew w L HO.out).mono ?_
  rintro e w1 ⟨b, rfl, hO1, hK1⟩
  have HO1 := hid hO1
  have HK1 := hid hK1
  clear hO1 hK1
  go_wp2_with fail
  refine (tabOpen b _ 7 3 w1 L (by rfl) HO1.out).mono ?_
  rintro e w2 ⟨rfl, hO2, hK2⟩
  rw [show Tb.opn (List.replicate 16 Tb.none4) 7 3 = ((0, 0), [⟨7, 0, 3, true⟩, Tb.none4, Tb.none4, Tb.none4, Tb.none4, Tb.none4, Tb.none4, Tb.none4, Tb.none4, Tb.none4, Tb.none4, Tb.none4, Tb.none4, Tb.none4, Tb.none4, Tb.none4]) from rfl] at hO2 ⊢
  obtain ⟨T, hT⟩ : ∃ T : List Tb.Slot, T = [⟨7, 0, 3, true⟩, Tb.none4, Tb.none4, Tb.none4, Tb.none4, Tb.none4, Tb.none4, Tb.none4, Tb.none4, Tb.none4, Tb.none4, Tb.none4, Tb.none4, Tb.none4, Tb.none4, Tb.none4] := ⟨_, rfl⟩
  rw [← hT] at hO2 ⊢
  have g0 : Tb.get T 0 = (⟨7, 0, 3, true⟩, 0) := by rw [hT]; rfl
  have g1 : Tb.get T 1 = (Tb.none4, 10) := by rw [hT]; rfl
  have g2 : Tb.holds T 7 = true := by rw [hT]; rfl
  have g3 : Tb.lst T 16 = [0] := by rw [hT]; rfl
  have HT := hid (show T.length = 16 by rw [hT]; rfl)
  have G0 := hid g0
  have G1 := hid g1
  have G2 := hid g2
  have G3 := hid g3
  have HO2 := hid hO2
  have HK2 := hid (HK1.out.trans hK2)
  clear hO2 hK2 g0 g1 g2 g3 hT
  go_wp2_with fail
  refine (tabGet b T 0 w2 L HT.out HO2.out).mono ?_
  rintro e w3 ⟨rfl, hO3, hK3⟩
  rw [G0.out]
  have HO3 := hid hO3
  have HK3 := hid ((HK2.out.trans hK3))
  clear hO3 hK3
  go_wp2_with fail
  refine (tabGet b T 1 _ _ HT.out (HO3.out.alloc _).swap).mono ?_
  rintro e w4 ⟨rfl, hO4, hK4⟩
  rw [G1.out]
  have HO4 := hid hO4
  have HK4 := hid ((HK3.out.alloc _).trans hK4)
  have hc4 := hO4.swap.cells
  have hb4 := hO4.swap.lt
  clear hO4 hK4
  generalize w3.heap.size = b4 at *
  go_wp2_with fail
  refine (tabHolds b T 7 _ _ HT.out (HO4.out.alloc' _)).mono ?_
  rintro e w5 ⟨rfl, hO5, hK5⟩
  rw [G2.out]
  have HO5 := hid hO5
  have HK5 := hid ((HK4.out.alloc _).trans hK5)
  clear hO5 hK5 hc4 hb4
  go_wp2_with fail
  refine (tabList b T _ _ HT.out HO5.out).mono ?_
  rintro e w6 ⟨v, rfl, hO6, hK6⟩
  rw [G3.out] at hO6
  have HO6 := hid hO6
  have HK6 := hid (HK5.out.trans hK6)
  clear hO6 hK6
  go_wp2_with fail
  refine (sameInts _ _ [0] [0] _ (HO6.out.alloc' _).rd (HO6.out.alloc _).lit.rd).mono ?_
  rintro e w7 ⟨rfl, n, rfl⟩
  go_wp2_with fail
  go_ret
  exact ⟨by simp, ((HO6.out.alloc' _).drewN _).drop.drop.drop, (HK6.out.alloc _).drewN _⟩
end Go.Proofs.Ytepdmlmnlpjhbaa
