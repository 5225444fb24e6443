/- TableFull: as many are open as may be, each by the least number that is free; one more is refused. For every input, whatever it is. -/
import Derived.Test.YtepdmlmnlpjhbaaAwake13
namespace Go.Proofs.Ytepdmlmnlpjhbaa
open Go.RowKit Go.Own
set_option maxRecDepth 100000 in
theorem tableFullWalk (x : Int) (W : World) :
    Calls Try.prog 4 #[.int .i64 x] W fun e w' => e = .returned (.bool true) ∧ Below W.heap.size W w' := by
  have HO := hid (Own.start W)
  go_enter Try.func4, Try.ntmps4
  go_wp2_with fail
  refine (tabNew W _ HO.out).mono ?_
  rintro e w1 ⟨b, rfl, hO1, hK1⟩
  have HO1 := hid (show Own w1 (Tab b (Tb.full 0) :: [old W]) from hO1)
  have HK1 := hid hK1
  clear hO1 hK1
  go_wp2_with fail
  go_loopw [4] (fun i w => ∃ k : Nat, k ≤ 16 ∧ i = .int .i64 k ∧ Hid (Own w (Tab b (Tb.full k) :: [old W])) ∧ Hid (Keep W w)) (fun i _ => 16 - (intOf i).toNat)
  case atStart => exact ⟨0, by omega, rfl, HO1, HK1⟩
  case round =>
    obtain ⟨k, hk, rfl, HOw, HK⟩ := hrel
    by_cases hlt : k < 16
    · have G := hid (Tb.full_open k hlt)
      go_wp2_with fail
      refine (tabOpen b _ _ _ wr _ (Tb.full_len k hk) HOw.out).mono ?_
      rintro e w2 ⟨rfl, hO2, hK2⟩
      have G' := G.out
      rw [G'] at hO2 ⊢
      have HO2 := hid hO2
      have HK2 := hid (HK.out.trans hK2)
      clear hO2 hK2 G'
      go_wp2_with fail
      go_roundw
      case rel => exact ⟨k + 1, by omega, by go_num, HO2, HK2⟩
      case measure => simp [intOf]; omega
    · obtain rfl : k = 16 := by omega
      obtain ⟨j, hj⟩ : ∃ j : Nat, (j : Int) = low x 16 := ⟨(low x 16).toNat, by have := low_in x 16 (by omega); omega⟩
      have hj16 : j < 16 := by have := low_in x 16 (by omega); omega
      have HJ := hid hj
      have A1 := hid (Tb.full_close j hj16)
      have A2 := hid (Tb.full_again j hj16)
      have A3 := hid (Tb.full_no j hj16)
      have A4 := hid (Tb.full_yes j hj16)
      clear hj
      go_wp2_with fail
      refine (tabOpen b _ 1 1 wr _ (Tb.full_len 16 hk) HOw.out).mono ?_
      rintro e w2 ⟨rfl, hO2, hK2⟩
      rw [Tb.full_full] at hO2 ⊢
      have HO2 := hid hO2
      have HK2 := hid (HK.out.trans hK2)
      clear hO2 hK2
      go_wp2_with fail
      refine (lowAny x 16 w2 (by omega) (by omega)).mono ?_
      rintro e w3 ⟨rfl, rfl⟩
      rw [← HJ.out]
      go_wp2_with fail
      refine (tabClose b _ _ w2 _ (Tb.full_len 16 hk) HO2.out).mono ?_
      rintro e w3 ⟨rfl, hO3, hK3⟩
      have A := A1.out
      rw [A] at hO3 ⊢
      have HO3 := hid hO3
      have HK3 := hid (HK2.out.trans hK3)
      clear hO3 hK3 A
      go_wp2_with fail
      refine (tabOpen b _ 99 0 w3 _ (by rw [List.length_set]; exact Tb.full_len 16 hk) HO3.out).mono ?_
      rintro e w4 ⟨rfl, hO4, hK4⟩
      have A := A2.out
      rw [A] at hO4 ⊢
      have HT := hid (show ((Tb.full 16).set j ⟨99, 0, 0, true⟩).length = 16 by rw [List.length_set]; exact Tb.full_len 16 hk)
      have A3' := A3.out
      have A4' := A4.out
      generalize (Tb.full 16).set j ⟨99, 0, 0, true⟩ = T at *
      have B3 := hid A3'
      have B4 := hid A4'
      have HO4 := hid hO4
      have HK4 := hid (HK3.out.trans hK4)
      clear hO4 hK4 A A3' A4' A1 A2 A3 A4
      go_wp2_with fail
      refine (tabOpenNil 1 1 w4).mono ?_
      rintro e w5 ⟨rfl, rfl⟩
      go_wp2_with fail
      refine (tabGetNil 0 w4 _ HO4.out).mono ?_
      rintro e w5 ⟨rfl, hO5, hK5⟩
      have HO5 := hid hO5
      have HK5 := hid (HK4.out.trans hK5)
      clear hO5 hK5
      have ht : ((j : Int) + 1 == (j : Int) + 1) = true := by simp
      have ht2 : ((j : Int) == (j : Int)) = true := by simp
      go_wp2_with fail
      refine (tabHolds b T _ _ _ HT.out (HO5.out.alloc' _)).mono ?_
      rintro e w6 ⟨rfl, hO6, hK6⟩
      rw [B3.out]
      have HO6 := hid hO6
      have HK6 := hid ((HK5.out.alloc _).trans hK6)
      clear hO6 hK6
      go_wp2_with fail
      refine (tabHolds b T _ _ _ HT.out HO6.out).mono ?_
      rintro e w7 ⟨rfl, hO7, hK7⟩
      rw [B4.out]
      have HO7 := hid hO7
      have HK7 := hid (HK6.out.trans hK7)
      clear hO7 hK7
      go_wp2_with fail
      refine (tabMoveNil 0 0 w7).mono ?_
      rintro e w8 ⟨rfl, rfl⟩
      go_wp2_with fail
      refine (tabHoldsNil 1 w7 _ HO7.out).mono ?_
      rintro e w8 ⟨rfl, hO8, hK8⟩
      have HO8 := hid hO8
      have HK8 := hid (HK7.out.trans hK8)
      clear hO8 hK8
      go_wp2_with fail
      refine (tabListNil w8).mono ?_
      rintro e w9 ⟨rfl, rfl⟩
      go_wp2_with fail
      refine (awake13 w8 _ HO8.out).mono ?_
      rintro e w9 ⟨rfl, hO9, hK9⟩
      have HO9 := hid hO9
      have HK9 := hid (HK8.out.trans hK9)
      clear hO9 hK9
      go_wp2_with fail
      go_ret
      exact ⟨rfl, HO9.out.drop.below HK9.out.os HK9.out.tape HK9.out.output⟩
end Go.Proofs.Ytepdmlmnlpjhbaa
