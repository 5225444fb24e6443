/- TEXTS of mine, merged. -/
import Derived.Test.YtfhaedkaedffcaaGreatDoorM28
import Derived.Test.YtfhaedkaedffcaaGreatDoorRows
import Derived.Lay
import Derived.LaidMore
import Derived.SevenTiedAt
import Derived.HandedShaped
import Derived.Shelf.Vars
import Derived.ProofKit
import Derived.OpenShut
import Derived.Stop.Joined
import Derived.Test.YtfhaedkaedffcaaGreatDoorM1
import Derived.ShutString
import Derived.ChangeOld
import Derived.Deep.Slices
/- THE WALK of TreeNames. -/
namespace Go.Proofs.YtfhaedkaedffcaaGreatDoor
open Go.RowKit Go.Own
set_option maxRecDepth 100000 in
set_option maxHeartbeats 16000000 in
theorem namesWalk (mx : Int) (A B : ByteArray) (dv : Value) (data : List Int) (W : World) (hmx : W.cell? ⟨0, 0, none⟩ = some (.int .i64 mx)) (hA : A.size ≤ 9223372036854775807) (hB : B.size ≤ 9223372036854775807) (hr : Rd W dv 1 data.length (bc data)) :
    Calls Tryz.prog 3 #[.string A, .string B, dv] W fun e w' => e = .returned (.bool true) ∧ Below W.heap.size W w' := by
  obtain ⟨dp, dc, rfl, hdc, hdl, -⟩ := hr.form
  have HO := hid (Has.start W)
  have HM := hid (mxStart hmx)
  have HD := hid (show ∀ (w' : World), Has w' [old W] → Rd w' (.slice dp data.length dc) 1 data.length (bc data) from fun w' h => rdStart hr h)
  clear hr hmx
  by_cases hbig : ¬ (24 < A.size ∨ 24 < B.size ∨ 300 < data.length)
  · have hA1 : ¬ (24 : Int) < (A.size : Int) := by omega
    have hB1 : ¬ (24 : Int) < (B.size : Int) := by omega
    have hd1 : ¬ (300 : Int) < (data.length : Int) := by omega
    have hd3 : data.length ≤ 300 := by omega
    have hpA : (sB (47 :: A.data.toList)) = ⟨#[47]⟩ ++ A := by rw [← sB_cons, sB_of]
    have hpB : (sB (47 :: B.data.toList)) = ⟨#[47]⟩ ++ B := by rw [← sB_cons, sB_of]
    have hlA : (47 :: A.data.toList : Str).length ≤ 100 := by
      have : A.data.toList.length = A.size := by simp
      simp only [List.length_cons]; omega
    have hlB : (47 :: B.data.toList : Str).length ≤ 100 := by
      have : B.data.toList.length = B.size := by simp
      simp only [List.length_cons]; omega
    have hsA : ¬ 9223372036854775807 < 1 + A.size := by omega
    have hsB : ¬ 9223372036854775807 < 1 + B.size := by omega
    clear hA hB
    generalize (47 :: A.data.toList : Str) = p at *
    generalize (47 :: B.data.toList : Str) = r at *
    have af0 := ansF0
    have af1 := ansF1
    go_enter Tryz.func3, Tryz.ntmps3
    go_wp2_with fail
    refine (tNew W [old W] HO.out).mono ?_
    rintro e w1 ⟨q, rfl, hO1, hK1⟩
    have HO1 := hid hO1
    have HK1 := hid ((Keep.refl W).trans hK1)
    clear hO1 hK1
    try dsimp only
    clear HO
    go_upto_region 7 with fail
    generalize (⟨#[47]⟩ : ByteArray) ++ A = P at *
    generalize (⟨#[47]⟩ : ByteArray) ++ B = R at *
    go_wp2_with fail
    refine (nOpen q mx w1 ([old W]) (HM.out) hpA hlA (HO1.out)).mono ?_
    rintro e w2 ⟨c, n0, k0, l0, a2, ca2, b2, cb2, S1, rfl, hc, hO2, hK2⟩
    have HO2 := hid hO2
    have HK2 := hid ((HK1.out).trans hK2)
    clear hO2 hK2
    try dsimp only
    go_upto_region 8 with fail
    have HP2 := hid (HO2.out.alloc (.cells #[.int .i64 c, .int .i64 n0, .int .i64 k0, .int .i64 l0, .slice a2 0 ca2, .slice b2 0 cb2] 29))
    have HQ2 := hid (HK2.out.alloc (.cells #[.int .i64 c, .int .i64 n0, .int .i64 k0, .int .i64 l0, .slice a2 0 ca2, .slice b2 0 cb2] 29))
    clear HO2 HK2
    generalize w2.alloc (.cells #[.int .i64 c, .int .i64 n0, .int .i64 k0, .int .i64 l0, .slice a2 0 ca2, .slice b2 0 cb2] 29) = y2 at *
    generalize w2.heap.size = g2 at *
    have hx0 : y2.cell? ⟨g2, 0, none⟩ = some (.int .i64 c) := (HP2.out.re 3 [0]).cells 0
    rcases hc with ⟨hc, rfl⟩ | ⟨rfl, rfl, nm, hrt, rfl, hg⟩
    · have hcb : (c != 0) = true := by simpa using hc
      go_wp2_with fail
      refine (nNodes (n := 1) q y2 ([pt g2 (.cells #[.int .i64 c, .int .i64 n0, .int .i64 k0, .int .i64 l0, .slice a2 0 ca2, .slice b2 0 cb2] 29), old W]) gdx0 (by omega) filesX0 (by decide) (HP2.out.re 3 [1, 0, 2])).mono ?_
      rintro e w3 ⟨a3, ca3, rfl, hO3, hK3⟩
      have HO3 := hid hO3
      have HK3 := hid ((HQ2.out).trans hK3)
      clear hO3 hK3
      try dsimp only
      go_wp2_with fail
      refine (awake14 mx w3 _ (((HM.out).cons _).cons _) HO3.out).mono ?_
      rintro e w4 ⟨rfl, hO4, hK4⟩
      have HO4 := hid hO4
      have HK4 := hid ((HK3.out).trans hK4)
      clear hO4 hK4
      try dsimp only
      go_wp2_with fail
      go_ret
      exact ⟨rfl, (HO4.out.re 3 [2]).below HK4.out.os HK4.out.tape HK4.out.output⟩
    have hx1 : y2.cell? ⟨g2, 1, none⟩ = some (.int .i64 0) := (HP2.out.re 3 [0]).cells 1
    go_wp2_with fail
    refine (nWrite q mx y2 ([pt g2 (.cells #[.int .i64 0, .int .i64 0, .int .i64 k0, .int .i64 l0, .slice a2 0 ca2, .slice b2 0 cb2] 29), old W]) ((HM.out).cons _) hg dp dc data hd3 (fun w' h => HD.out w' (h.drop)) (HP2.out.re 3 [1, 0, 2])).mono ?_
    rintro e w3 ⟨a3, ca3, b3, cb3, wr, of, rfl, hg2, hO3, hK3⟩
    have HO3 := hid hO3
    have HK3 := hid ((HQ2.out).trans hK3)
    clear hO3 hK3
    try dsimp only
    go_upto_region 11 with fail
    have HP3 := hid (HO3.out.alloc (.cells #[.int .i64 0, .int .i64 data.length, .int .i64 0, .int .i64 0, .slice a3 0 ca3, .slice b3 0 cb3] 29))
    have HQ3 := hid (HK3.out.alloc (.cells #[.int .i64 0, .int .i64 data.length, .int .i64 0, .int .i64 0, .slice a3 0 ca3, .slice b3 0 cb3] 29))
    clear HO3 HK3
    generalize w3.alloc (.cells #[.int .i64 0, .int .i64 data.length, .int .i64 0, .int .i64 0, .slice a3 0 ca3, .slice b3 0 cb3] 29) = y3 at *
    generalize w3.heap.size = g3 at *
    go_wp2_with fail
    refine (nAgain q mx y3 ([pt g3 (.cells #[.int .i64 0, .int .i64 data.length, .int .i64 0, .int .i64 0, .slice a3 0 ca3, .slice b3 0 cb3] 29), pt g2 (.cells #[.int .i64 0, .int .i64 0, .int .i64 k0, .int .i64 l0, .slice a2 0 ca2, .slice b2 0 cb2] 29), old W]) (((HM.out).cons _).cons _) hpA hlA hrt hg2 (HP3.out.re 4 [1, 0, 2, 3])).mono ?_
    rintro e w4 ⟨a4, ca4, b4, cb4, rfl, hg3, hO4, hK4⟩
    have HO4 := hid hO4
    have HK4 := hid ((HQ3.out).trans hK4)
    clear hO4 hK4
    try dsimp only
    go_upto_region 12 with fail
    have HP4 := hid (HO4.out.alloc (.cells #[.int .i64 6, .int .i64 0, .int .i64 0, .int .i64 0, .slice a4 0 ca4, .slice b4 0 cb4] 29))
    have HQ4 := hid (HK4.out.alloc (.cells #[.int .i64 6, .int .i64 0, .int .i64 0, .int .i64 0, .slice a4 0 ca4, .slice b4 0 cb4] 29))
    clear HO4 HK4
    generalize w4.alloc (.cells #[.int .i64 6, .int .i64 0, .int .i64 0, .int .i64 0, .slice a4 0 ca4, .slice b4 0 cb4] 29) = y4 at *
    generalize w4.heap.size = g4 at *
    go_wp2_with fail
    refine (nLink q mx y4 ([pt g4 (.cells #[.int .i64 6, .int .i64 0, .int .i64 0, .int .i64 0, .slice a4 0 ca4, .slice b4 0 cb4] 29), pt g3 (.cells #[.int .i64 0, .int .i64 data.length, .int .i64 0, .int .i64 0, .slice a3 0 ca3, .slice b3 0 cb3] 29), pt g2 (.cells #[.int .i64 0, .int .i64 0, .int .i64 k0, .int .i64 l0, .slice a2 0 ca2, .slice b2 0 cb2] 29), old W]) ((((HM.out).cons _).cons _).cons _) hpA hpB hlA hlB hrt hg3 (HP4.out.re 5 [1, 0, 2, 3, 4])).mono ?_
    rintro e w5 ⟨c, n1, k1, l1, a5, ca5, b5, cb5, S1, rfl, hc, hO5, hK5⟩
    have HO5 := hid hO5
    have HK5 := hid ((HQ4.out).trans hK5)
    clear hO5 hK5
    try dsimp only
    go_upto_region 13 with fail
    have HP5 := hid (HO5.out.alloc (.cells #[.int .i64 c, .int .i64 n1, .int .i64 k1, .int .i64 l1, .slice a5 0 ca5, .slice b5 0 cb5] 29))
    have HQ5 := hid (HK5.out.alloc (.cells #[.int .i64 c, .int .i64 n1, .int .i64 k1, .int .i64 l1, .slice a5 0 ca5, .slice b5 0 cb5] 29))
    clear HO5 HK5
    generalize w5.alloc (.cells #[.int .i64 c, .int .i64 n1, .int .i64 k1, .int .i64 l1, .slice a5 0 ca5, .slice b5 0 cb5] 29) = y5 at *
    generalize w5.heap.size = g5 at *
    have hw1 : y5.cell? ⟨g3, 1, none⟩ = some (.int .i64 data.length) := (HP5.out.re 6 [3]).cells 1
    have ha0 : y5.cell? ⟨g4, 0, none⟩ = some (.int .i64 6) := (HP5.out.re 6 [2]).cells 0
    have hk0 : y5.cell? ⟨g5, 0, none⟩ = some (.int .i64 c) := (HP5.out.re 6 [0]).cells 0
    have hdd : ((data.length : Int) != (data.length : Int)) = false := by simp
    rcases hc with ⟨hc, rfl, hg4⟩ | ⟨rfl, nm', hrt', hne, rfl, hg4⟩
    · have hcb : (c != 0) = true := by simpa using hc
      go_wp2_with fail
      refine (nNodes (n := 2) q y5 ([pt g5 (.cells #[.int .i64 c, .int .i64 n1, .int .i64 k1, .int .i64 l1, .slice a5 0 ca5, .slice b5 0 cb5] 29), pt g4 (.cells #[.int .i64 6, .int .i64 0, .int .i64 0, .int .i64 0, .slice a4 0 ca4, .slice b4 0 cb4] 29), pt g3 (.cells #[.int .i64 0, .int .i64 data.length, .int .i64 0, .int .i64 0, .slice a3 0 ca3, .slice b3 0 cb3] 29), pt g2 (.cells #[.int .i64 0, .int .i64 0, .int .i64 k0, .int .i64 l0, .slice a2 0 ca2, .slice b2 0 cb2] 29), old W]) hg4 (by omega) (filesX _ _ _ _ _ _ (by simp)) (by decide) (HP5.out.re 6 [1, 0, 2, 3, 4, 5])).mono ?_
      rintro e w6 ⟨a6, ca6, rfl, hO6, hK6⟩
      have HO6 := hid hO6
      have HK6 := hid ((HQ5.out).trans hK6)
      clear hO6 hK6
      try dsimp only
      go_wp2_with fail
      refine (awake14 mx w6 _ ((((((HM.out).cons _).cons _).cons _).cons _).cons _) HO6.out).mono ?_
      rintro e w7 ⟨rfl, hO7, hK7⟩
      have HO7 := hid hO7
      have HK7 := hid ((HK6.out).trans hK7)
      clear hO7 hK7
      try dsimp only
      go_wp2_with fail
      go_ret
      exact ⟨rfl, (HO7.out.re 6 [5]).below HK7.out.os HK7.out.tape HK7.out.output⟩
    go_wp2_with fail
    refine (nStat2 q mx y5 ([pt g5 (.cells #[.int .i64 0, .int .i64 n1, .int .i64 k1, .int .i64 l1, .slice a5 0 ca5, .slice b5 0 cb5] 29), pt g4 (.cells #[.int .i64 6, .int .i64 0, .int .i64 0, .int .i64 0, .slice a4 0 ca4, .slice b4 0 cb4] 29), pt g3 (.cells #[.int .i64 0, .int .i64 data.length, .int .i64 0, .int .i64 0, .slice a3 0 ca3, .slice b3 0 cb3] 29), pt g2 (.cells #[.int .i64 0, .int .i64 0, .int .i64 k0, .int .i64 l0, .slice a2 0 ca2, .slice b2 0 cb2] 29), old W]) (((((HM.out).cons _).cons _).cons _).cons _) hpB hlB hrt' hne hg4 (HP5.out.re 6 [1, 0, 2, 3, 4, 5])).mono ?_
    rintro e w6 ⟨a6, ca6, b6, cb6, rfl, hg5, hO6, hK6⟩
    have HO6 := hid hO6
    have HK6 := hid ((HQ5.out).trans hK6)
    clear hO6 hK6
    try dsimp only
    go_upto_region 18 with fail
    have HP6 := hid (HO6.out.alloc (.cells #[.int .i64 0, .int .i64 data.length, .int .i64 1, .int .i64 2, .slice a6 0 ca6, .slice b6 0 cb6] 29))
    have HQ6 := hid (HK6.out.alloc (.cells #[.int .i64 0, .int .i64 data.length, .int .i64 1, .int .i64 2, .slice a6 0 ca6, .slice b6 0 cb6] 29))
    clear HO6 HK6
    generalize w6.alloc (.cells #[.int .i64 0, .int .i64 data.length, .int .i64 1, .int .i64 2, .slice a6 0 ca6, .slice b6 0 cb6] 29) = y6 at *
    generalize w6.heap.size = g6 at *
    clear hw1 ha0 hk0 hx0
    go_wp2_with fail
    refine (nRem1 q mx y6 ([pt g6 (.cells #[.int .i64 0, .int .i64 data.length, .int .i64 1, .int .i64 2, .slice a6 0 ca6, .slice b6 0 cb6] 29), pt g5 (.cells #[.int .i64 0, .int .i64 n1, .int .i64 k1, .int .i64 l1, .slice a5 0 ca5, .slice b5 0 cb5] 29), pt g4 (.cells #[.int .i64 6, .int .i64 0, .int .i64 0, .int .i64 0, .slice a4 0 ca4, .slice b4 0 cb4] 29), pt g3 (.cells #[.int .i64 0, .int .i64 data.length, .int .i64 0, .int .i64 0, .slice a3 0 ca3, .slice b3 0 cb3] 29), pt g2 (.cells #[.int .i64 0, .int .i64 0, .int .i64 k0, .int .i64 l0, .slice a2 0 ca2, .slice b2 0 cb2] 29), old W]) ((((((HM.out).cons _).cons _).cons _).cons _).cons _) hpA hlA hrt hne hg5 (HP6.out.re 7 [1, 0, 2, 3, 4, 5, 6])).mono ?_
    rintro e w7 ⟨a7, ca7, b7, cb7, rfl, hg6, hO7, hK7⟩
    have HO7 := hid hO7
    have HK7 := hid ((HQ6.out).trans hK7)
    clear hO7 hK7
    try dsimp only
    go_upto_region 19 with fail
    have HP7 := hid (HO7.out.alloc (.cells #[.int .i64 0, .int .i64 0, .int .i64 0, .int .i64 0, .slice a7 0 ca7, .slice b7 0 cb7] 29))
    have HQ7 := hid (HK7.out.alloc (.cells #[.int .i64 0, .int .i64 0, .int .i64 0, .int .i64 0, .slice a7 0 ca7, .slice b7 0 cb7] 29))
    clear HO7 HK7
    generalize w7.alloc (.cells #[.int .i64 0, .int .i64 0, .int .i64 0, .int .i64 0, .slice a7 0 ca7, .slice b7 0 cb7] 29) = y7 at *
    generalize w7.heap.size = g7 at *
    go_wp2_with fail
    refine (nGone q mx y7 ([pt g7 (.cells #[.int .i64 0, .int .i64 0, .int .i64 0, .int .i64 0, .slice a7 0 ca7, .slice b7 0 cb7] 29), pt g6 (.cells #[.int .i64 0, .int .i64 data.length, .int .i64 1, .int .i64 2, .slice a6 0 ca6, .slice b6 0 cb6] 29), pt g5 (.cells #[.int .i64 0, .int .i64 n1, .int .i64 k1, .int .i64 l1, .slice a5 0 ca5, .slice b5 0 cb5] 29), pt g4 (.cells #[.int .i64 6, .int .i64 0, .int .i64 0, .int .i64 0, .slice a4 0 ca4, .slice b4 0 cb4] 29), pt g3 (.cells #[.int .i64 0, .int .i64 data.length, .int .i64 0, .int .i64 0, .slice a3 0 ca3, .slice b3 0 cb3] 29), pt g2 (.cells #[.int .i64 0, .int .i64 0, .int .i64 k0, .int .i64 l0, .slice a2 0 ca2, .slice b2 0 cb2] 29), old W]) (((((((HM.out).cons _).cons _).cons _).cons _).cons _).cons _) hpA hlA hrt hne hg6 (HP7.out.re 8 [1, 0, 2, 3, 4, 5, 6, 7])).mono ?_
    rintro e w8 ⟨a8, ca8, b8, cb8, rfl, hg7, hO8, hK8⟩
    have HO8 := hid hO8
    have HK8 := hid ((HQ7.out).trans hK8)
    clear hO8 hK8
    try dsimp only
    go_upto_region 20 with fail
    have HP8 := hid (HO8.out.alloc (.cells #[.int .i64 5, .int .i64 0, .int .i64 0, .int .i64 0, .slice a8 0 ca8, .slice b8 0 cb8] 29))
    have HQ8 := hid (HK8.out.alloc (.cells #[.int .i64 5, .int .i64 0, .int .i64 0, .int .i64 0, .slice a8 0 ca8, .slice b8 0 cb8] 29))
    clear HO8 HK8
    generalize w8.alloc (.cells #[.int .i64 5, .int .i64 0, .int .i64 0, .int .i64 0, .slice a8 0 ca8, .slice b8 0 cb8] 29) = y8 at *
    generalize w8.heap.size = g8 at *
    have hx2 : y8.cell? ⟨g2, 1, none⟩ = some (.int .i64 0) := (HP8.out.re 9 [7]).cells 1
    go_wp2_with fail
    refine (nPread q mx y8 ([pt g8 (.cells #[.int .i64 5, .int .i64 0, .int .i64 0, .int .i64 0, .slice a8 0 ca8, .slice b8 0 cb8] 29), pt g7 (.cells #[.int .i64 0, .int .i64 0, .int .i64 0, .int .i64 0, .slice a7 0 ca7, .slice b7 0 cb7] 29), pt g6 (.cells #[.int .i64 0, .int .i64 data.length, .int .i64 1, .int .i64 2, .slice a6 0 ca6, .slice b6 0 cb6] 29), pt g5 (.cells #[.int .i64 0, .int .i64 n1, .int .i64 k1, .int .i64 l1, .slice a5 0 ca5, .slice b5 0 cb5] 29), pt g4 (.cells #[.int .i64 6, .int .i64 0, .int .i64 0, .int .i64 0, .slice a4 0 ca4, .slice b4 0 cb4] 29), pt g3 (.cells #[.int .i64 0, .int .i64 data.length, .int .i64 0, .int .i64 0, .slice a3 0 ca3, .slice b3 0 cb3] 29), pt g2 (.cells #[.int .i64 0, .int .i64 0, .int .i64 k0, .int .i64 l0, .slice a2 0 ca2, .slice b2 0 cb2] 29), old W]) ((((((((HM.out).cons _).cons _).cons _).cons _).cons _).cons _).cons _) (by omega) hd3 hg7 (HP8.out.re 9 [1, 0, 2, 3, 4, 5, 6, 7, 8])).mono ?_
    rintro e w9 ⟨a9, ca9, b9, cb9, rfl, hg8, hO9, hK9⟩
    have HO9 := hid hO9
    have HK9 := hid ((HQ8.out).trans hK9)
    clear hO9 hK9
    try dsimp only
    go_upto_region 21 with fail
    have HP9 := hid (HO9.out.alloc (.cells #[.int .i64 0, .int .i64 0, .int .i64 0, .int .i64 0, .slice a9 data.length ca9, .slice b9 0 cb9] 29))
    have HQ9 := hid (HK9.out.alloc (.cells #[.int .i64 0, .int .i64 0, .int .i64 0, .int .i64 0, .slice a9 data.length ca9, .slice b9 0 cb9] 29))
    clear HO9 HK9
    generalize w9.alloc (.cells #[.int .i64 0, .int .i64 0, .int .i64 0, .int .i64 0, .slice a9 data.length ca9, .slice b9 0 cb9] 29) = y9 at *
    generalize w9.heap.size = g9 at *
    clear hx2
    go_wp2_with fail
    refine (nRem2 q mx y9 ([pt g9 (.cells #[.int .i64 0, .int .i64 0, .int .i64 0, .int .i64 0, .slice a9 data.length ca9, .slice b9 0 cb9] 29), Bytes (.slice a9 data.length ca9) data, pt g8 (.cells #[.int .i64 5, .int .i64 0, .int .i64 0, .int .i64 0, .slice a8 0 ca8, .slice b8 0 cb8] 29), pt g7 (.cells #[.int .i64 0, .int .i64 0, .int .i64 0, .int .i64 0, .slice a7 0 ca7, .slice b7 0 cb7] 29), pt g6 (.cells #[.int .i64 0, .int .i64 data.length, .int .i64 1, .int .i64 2, .slice a6 0 ca6, .slice b6 0 cb6] 29), pt g5 (.cells #[.int .i64 0, .int .i64 n1, .int .i64 k1, .int .i64 l1, .slice a5 0 ca5, .slice b5 0 cb5] 29), pt g4 (.cells #[.int .i64 6, .int .i64 0, .int .i64 0, .int .i64 0, .slice a4 0 ca4, .slice b4 0 cb4] 29), pt g3 (.cells #[.int .i64 0, .int .i64 data.length, .int .i64 0, .int .i64 0, .slice a3 0 ca3, .slice b3 0 cb3] 29), pt g2 (.cells #[.int .i64 0, .int .i64 0, .int .i64 k0, .int .i64 l0, .slice a2 0 ca2, .slice b2 0 cb2] 29), old W]) ((((((((((HM.out).cons _).cons _).cons _).cons _).cons _).cons _).cons _).cons _).cons _) hpB hlB hrt' (by omega) hg8 (HP9.out.re 11 [2, 0, 1, 3, 4, 5, 6, 7, 8, 9, 10])).mono ?_
    rintro e w10 ⟨a10, ca10, b10, cb10, rfl, hg9, hO10, hK10⟩
    have HO10 := hid hO10
    have HK10 := hid ((HQ9.out).trans hK10)
    clear hO10 hK10
    try dsimp only
    go_upto_region 22 with fail
    have HP10 := hid (HO10.out.alloc (.cells #[.int .i64 0, .int .i64 0, .int .i64 0, .int .i64 0, .slice a10 0 ca10, .slice b10 0 cb10] 29))
    have HQ10 := hid (HK10.out.alloc (.cells #[.int .i64 0, .int .i64 0, .int .i64 0, .int .i64 0, .slice a10 0 ca10, .slice b10 0 cb10] 29))
    clear HO10 HK10
    generalize w10.alloc (.cells #[.int .i64 0, .int .i64 0, .int .i64 0, .int .i64 0, .slice a10 0 ca10, .slice b10 0 cb10] 29) = y10 at *
    generalize w10.heap.size = g10 at *
    have hx3 : y10.cell? ⟨g2, 1, none⟩ = some (.int .i64 0) := (HP10.out.re 12 [10]).cells 1
    go_wp2_with fail
    refine (nPread q mx y10 ([pt g10 (.cells #[.int .i64 0, .int .i64 0, .int .i64 0, .int .i64 0, .slice a10 0 ca10, .slice b10 0 cb10] 29), pt g9 (.cells #[.int .i64 0, .int .i64 0, .int .i64 0, .int .i64 0, .slice a9 data.length ca9, .slice b9 0 cb9] 29), Bytes (.slice a9 data.length ca9) data, pt g8 (.cells #[.int .i64 5, .int .i64 0, .int .i64 0, .int .i64 0, .slice a8 0 ca8, .slice b8 0 cb8] 29), pt g7 (.cells #[.int .i64 0, .int .i64 0, .int .i64 0, .int .i64 0, .slice a7 0 ca7, .slice b7 0 cb7] 29), pt g6 (.cells #[.int .i64 0, .int .i64 data.length, .int .i64 1, .int .i64 2, .slice a6 0 ca6, .slice b6 0 cb6] 29), pt g5 (.cells #[.int .i64 0, .int .i64 n1, .int .i64 k1, .int .i64 l1, .slice a5 0 ca5, .slice b5 0 cb5] 29), pt g4 (.cells #[.int .i64 6, .int .i64 0, .int .i64 0, .int .i64 0, .slice a4 0 ca4, .slice b4 0 cb4] 29), pt g3 (.cells #[.int .i64 0, .int .i64 data.length, .int .i64 0, .int .i64 0, .slice a3 0 ca3, .slice b3 0 cb3] 29), pt g2 (.cells #[.int .i64 0, .int .i64 0, .int .i64 k0, .int .i64 l0, .slice a2 0 ca2, .slice b2 0 cb2] 29), old W]) (((((((((((HM.out).cons _).cons _).cons _).cons _).cons _).cons _).cons _).cons _).cons _).cons _) (by omega) hd3 hg9 (HP10.out.re 12 [1, 0, 2, 3, 4, 5, 6, 7, 8, 9, 10, 11])).mono ?_
    rintro e w11 ⟨a11, ca11, b11, cb11, rfl, hg10, hO11, hK11⟩
    have HO11 := hid hO11
    have HK11 := hid ((HQ10.out).trans hK11)
    clear hO11 hK11
    try dsimp only
    go_upto_region 23 with fail
    have HP11 := hid (HO11.out.alloc (.cells #[.int .i64 0, .int .i64 0, .int .i64 0, .int .i64 0, .slice a11 data.length ca11, .slice b11 0 cb11] 29))
    have HQ11 := hid (HK11.out.alloc (.cells #[.int .i64 0, .int .i64 0, .int .i64 0, .int .i64 0, .slice a11 data.length ca11, .slice b11 0 cb11] 29))
    clear HO11 HK11
    generalize w11.alloc (.cells #[.int .i64 0, .int .i64 0, .int .i64 0, .int .i64 0, .slice a11 data.length ca11, .slice b11 0 cb11] 29) = y11 at *
    generalize w11.heap.size = g11 at *
    clear hx3
    have hde : ((data.length : Int) == (data.length : Int)) = true := by simp
    have hs3 : y11.cell? ⟨g6, 3, none⟩ = some (.int .i64 2) := (HP11.out.re 14 [8]).cells 3
    have hs1 : y11.cell? ⟨g6, 1, none⟩ = some (.int .i64 data.length) := (HP11.out.re 14 [8]).cells 1
    have hu0 : y11.cell? ⟨g7, 0, none⟩ = some (.int .i64 0) := (HP11.out.re 14 [7]).cells 0
    have hgo : y11.cell? ⟨g8, 0, none⟩ = some (.int .i64 5) := (HP11.out.re 14 [6]).cells 0
    have hr4 : y11.cell? ⟨g9, 4, none⟩ = some (.slice a9 data.length ca9) := (HP11.out.re 14 [4]).cells 4
    go_wp2_with fail
    refine (sameT _ _ data data y11 rfl (Bytes.rd (HP11.out.re 14 [5])) (HD.out _ (HP11.out.re 14 [13]))).mono ?_
    rintro e w' ⟨rfl, nq12, rfl⟩
    have HO12 := hid ((HP11.out).drewN nq12)
    have HK12 := hid ((HQ11.out).drewN nq12)
    try dsimp only
    generalize y11.drewN nq12 = w12 at *
    clear hs3 hs1 hu0 hgo hr4
    have hv0 : w12.cell? ⟨g10, 0, none⟩ = some (.int .i64 0) := (HO12.out.re 14 [3]).cells 0
    have hz4 : w12.cell? ⟨g11, 4, none⟩ = some (.slice a11 data.length ca11) := (HO12.out.re 14 [0]).cells 4
    go_wp2_with fail
    refine (sameT _ _ data data w12 rfl (Bytes.rd (HO12.out.re 14 [1])) (HD.out _ (HO12.out.re 14 [13]))).mono ?_
    rintro e w' ⟨rfl, nq13, rfl⟩
    have HO13 := hid ((HO12.out).drewN nq13)
    have HK13 := hid ((HK12.out).drewN nq13)
    try dsimp only
    generalize w12.drewN nq13 = w13 at *
    clear hv0 hz4
    go_wp2_with fail
    refine (nNodes (n := 1) q w13 ([pt g11 (.cells #[.int .i64 0, .int .i64 0, .int .i64 0, .int .i64 0, .slice a11 data.length ca11, .slice b11 0 cb11] 29), Bytes (.slice a11 data.length ca11) data, pt g10 (.cells #[.int .i64 0, .int .i64 0, .int .i64 0, .int .i64 0, .slice a10 0 ca10, .slice b10 0 cb10] 29), pt g9 (.cells #[.int .i64 0, .int .i64 0, .int .i64 0, .int .i64 0, .slice a9 data.length ca9, .slice b9 0 cb9] 29), Bytes (.slice a9 data.length ca9) data, pt g8 (.cells #[.int .i64 5, .int .i64 0, .int .i64 0, .int .i64 0, .slice a8 0 ca8, .slice b8 0 cb8] 29), pt g7 (.cells #[.int .i64 0, .int .i64 0, .int .i64 0, .int .i64 0, .slice a7 0 ca7, .slice b7 0 cb7] 29), pt g6 (.cells #[.int .i64 0, .int .i64 data.length, .int .i64 1, .int .i64 2, .slice a6 0 ca6, .slice b6 0 cb6] 29), pt g5 (.cells #[.int .i64 0, .int .i64 n1, .int .i64 k1, .int .i64 l1, .slice a5 0 ca5, .slice b5 0 cb5] 29), pt g4 (.cells #[.int .i64 6, .int .i64 0, .int .i64 0, .int .i64 0, .slice a4 0 ca4, .slice b4 0 cb4] 29), pt g3 (.cells #[.int .i64 0, .int .i64 data.length, .int .i64 0, .int .i64 0, .slice a3 0 ca3, .slice b3 0 cb3] 29), pt g2 (.cells #[.int .i64 0, .int .i64 0, .int .i64 k0, .int .i64 l0, .slice a2 0 ca2, .slice b2 0 cb2] 29), old W]) hg10 (by omega) (filesX _ _ _ _ _ _ (by simp)) (by decide) (HO13.out.re 14 [2, 0, 1, 3, 4, 5, 6, 7, 8, 9, 10, 11, 12, 13])).mono ?_
    rintro e w14 ⟨a14, ca14, rfl, hO14, hK14⟩
    have HO14 := hid hO14
    have HK14 := hid ((HK13.out).trans hK14)
    clear hO14 hK14
    try dsimp only
    go_wp2_with fail
    refine (awake14 mx w14 _ ((((((((((((((HM.out).cons _).cons _).cons _).cons _).cons _).cons _).cons _).cons _).cons _).cons _).cons _).cons _).cons _) HO14.out).mono ?_
    rintro e w15 ⟨rfl, hO15, hK15⟩
    have HO15 := hid hO15
    have HK15 := hid ((HK14.out).trans hK15)
    clear hO15 hK15
    try dsimp only
    go_wp2_with fail
    go_ret
    exact ⟨rfl, (HO15.out.re 14 [13]).below HK15.out.os HK15.out.tape HK15.out.output⟩
  · have hbi : (decide ((24 : Int) < (A.size : Int)) || decide ((24 : Int) < (B.size : Int)) || decide ((300 : Int) < (data.length : Int))) = true := by
      simp only [Bool.or_eq_true, decide_eq_true_eq]; omega
    have go_on : ∀ (w : World), True := fun _ => trivial
    by_cases h1 : (24 : Int) < (A.size : Int)
    · clear hbi
      go_enter Tryz.func3, Tryz.ntmps3
      go_wp2_with fail
      refine (awake14 mx W [old W] HM.out HO.out).mono ?_
      rintro e w1 ⟨rfl, hO1, hK1⟩
      have HO1 := hid hO1
      have HK1 := hid ((Keep.refl W).trans hK1)
      clear hO1 hK1
      try dsimp only
      go_wp2_with fail
      go_ret
      exact ⟨rfl, HO1.out.below HK1.out.os HK1.out.tape HK1.out.output⟩
    · by_cases h2 : (24 : Int) < (B.size : Int)
      · clear hbi
        go_enter Tryz.func3, Tryz.ntmps3
        go_wp2_with fail
        refine (awake14 mx W [old W] HM.out HO.out).mono ?_
        rintro e w1 ⟨rfl, hO1, hK1⟩
        have HO1 := hid hO1
        have HK1 := hid ((Keep.refl W).trans hK1)
        clear hO1 hK1
        try dsimp only
        go_wp2_with fail
        go_ret
        exact ⟨rfl, HO1.out.below HK1.out.os HK1.out.tape HK1.out.output⟩
      · have h3 : (300 : Int) < (data.length : Int) := by omega
        clear hbi
        go_enter Tryz.func3, Tryz.ntmps3
        go_wp2_with fail
        refine (awake14 mx W [old W] HM.out HO.out).mono ?_
        rintro e w1 ⟨rfl, hO1, hK1⟩
        have HO1 := hid hO1
        have HK1 := hid ((Keep.refl W).trans hK1)
        clear hO1 hK1
        try dsimp only
        go_wp2_with fail
        go_ret
        exact ⟨rfl, HO1.out.below HK1.out.os HK1.out.tape HK1.out.output⟩
end Go.Proofs.YtfhaedkaedffcaaGreatDoor
/- What the frames of chapter 14's cards share: the listed data met, and the world's shape kept. -/
namespace Go.Proofs.YtfhaedkaedffcaaGreatDoor
open Go.ChangeShapes Go.WideShapes Go.ChangeAt Go.RowKit
variable {H : Type} {enc : TypeId × Value → H}
theorem handed_and_shaped {a : Assume} {C : Checked} {os : Os} {f : FuncId} {fn : Func} {s : ChangeSpec} {conds : List PathCond} {apart fresh handsOn again : Bool} {X : World → Array Value → Prop}
    (hX : ∀ (w w' : World) (args : Array Value), w.heap = w'.heap → X w args → X w' args)
    (own : ownKnob C.prog.godebug = none) (started : os.Started) (noInit : C.prog.inits.idxOf? f = none) (hfn : C.prog.funcs[f]? = some fn)
    (witness : ∃ (w : World) (tape : Tape) (i : Input), w.os = os ∧ (w.forCall tape i).Shaped C.prog ∧ i.vars = [] ∧ Input.okWide C.prog (w.forCall tape i) .any w.heap.size f i ∧
      ((s.pre enc C.prog fn conds apart (w.forCall tape i).memory i.args ∧ X (w.forCall tape i).memory i.args) ∧ sizedMet enc C.prog fn (OpenSpec.ofChange s) apart (w.forCall tape i).memory i.args) ∧ a.holds C.prog (lone (Frame.enter C.prog f i.args .normal) [] (w.forCall tape i)))
    (contract : ∀ (W : World) (base : Nat) (args : Array Value) (ds gs : List (DataW H)) (before : List MemPlace),
      (∀ (j : Nat) t v, fn.params[j]? = some t → args[j]? = some v → Value.okWide C.prog W .any base t v) →
      DataW.Whole enc C.prog fn.params.toList s.vars apart W args.toList ds gs before →
      conds.all (PathCond.test C.prog ⟨fn.params.toList, ds, s.plain.varTypes C.prog, gs⟩) = true →
      (DataW.weightsEach C.prog (fn.params.toList ++ s.plain.varTypes C.prog) (ds ++ gs)).all (· ≤ reachBytes) = true → X W args → W.ShapedOpen C.prog →
      a.holds C.prog (lone (Frame.enter C.prog f args .normal) [] W) →
      Calls C.prog f args W fun e W' => ∃ v, e = .returned v ∧ s.post enc C.prog fn apart fresh handsOn again W args v W') :
    ReturnsInHanded a C os f .any (fun w args => (s.pre enc C.prog fn conds apart w args ∧ X w args) ∧ sizedMet enc C.prog fn (OpenSpec.ofChange s) apart w args) (s.post enc C.prog fn apart fresh handsOn again) := by
  refine returnsInHanded_of_calls own started noInit witness ?_
  intro w tape i _ hsh _ hok hpre hholds
  obtain ⟨_, _, _, fn', hfn', _, _, _, _, hval⟩ := hok
  have e : fn' = fn := Option.some.inj (hfn'.symm.trans hfn)
  subst e
  obtain ⟨⟨⟨ds, gs, before, hw, hc⟩, hx⟩, hz⟩ := hpre
  have hw' := DataW.Whole.of_heap (w' := w.forCall tape i) (by rfl) hw
  refine (contract (w.forCall tape i) w.heap.size i.args ds gs before hval hw' hc (hz.weights hw) (hX _ _ _ (by rfl) hx) hsh hholds).mono fun e W' ⟨v, he, hp⟩ => ?_
  subst he
  exact ChangeSpec.post_blind hp
theorem mx_shaped {W : World} (h : W.ShapedOpen Tryz.prog) : ∃ m, W.cell? ⟨0, 0, none⟩ = some (.int .i64 m) :=
  cell_of_shapedOpen_int (P := Tryz.prog) (g := 0) (t := 3) (zero := #[.int .i64 0]) h (of_decide_eq_true (by kernel_rfl)) (by kernel_rfl) rfl (by kernel_rfl) (by kernel_rfl) Tryz.underlying3
end Go.Proofs.YtfhaedkaedffcaaGreatDoor
/- HOW ARGUMENTS ARE OPENED: from the form's reading to cells. No program in sight. -/
namespace Go.Own
open Go.ChangeShapes Go.WideShapes Go.ChangeAt Go.RowKit
theorem flat_len (n size : Nat) (C : Nat → List Value) (h : ∀ i, i < n → (C i).length = size) : ((List.range n).flatMap C).length = n * size := by
  induction n with
  | zero => simp
  | succ n ih =>
    rw [List.range_succ, List.flatMap_append, List.length_append, ih fun i hi => h i (by omega)]
    simp [h n (by omega), Nat.succ_mul]
theorem flat_drop (n size : Nat) (C : Nat → List Value) (h : ∀ i, i < n → (C i).length = size) (i : Nat) (hi : i < n) :
    ∃ R, ((List.range n).flatMap C).drop (i * size) = C i ++ R := by
  induction n with
  | zero => omega
  | succ n ih =>
    rw [List.range_succ, List.flatMap_append]
    have hl := flat_len n size C fun i hi => h i (by omega)
    by_cases hin : i = n
    · subst hin
      refine ⟨[], ?_⟩
      rw [List.drop_append_of_le_length (by rw [hl]; exact Nat.le_refl _), List.drop_of_length_le (by rw [hl]; exact Nat.le_refl _)]
      simp
    · obtain ⟨R, hR⟩ := ih (fun i hi => h i (by omega)) (by omega)
      refine ⟨R ++ [n].flatMap C, ?_⟩
      rw [List.drop_append_of_le_length (by rw [hl]; exact Nat.mul_le_mul_right _ (by omega)), hR, List.append_assoc]
theorem flat_slice (n size : Nat) (C : Nat → List Value) (h : ∀ i, i < n → (C i).length = size) (i : Nat) (hi : i < n) :
    (((List.range n).flatMap C).drop (i * size)).take size = C i := by
  obtain ⟨R, hR⟩ := flat_drop n size C h i hi
  rw [hR, ← h i hi, List.take_left]
theorem flatO_at (n size : Nat) (C : Nat → List Value) (h : ∀ i, i < n → (C i).length = size) (i : Nat) (hi : i < n) (j : Nat) (hj : j < size) :
    (C i)[j]? = ((List.range n).flatMap C)[i * size + j]? := by
  rw [← flat_slice n size C h i hi, List.getElem?_take, if_pos hj, List.getElem?_drop]
theorem cells?_parts {w : World} {b : Nat} {a : Addr} {n : Nat} {cs : List Value} (h : w.cells? b a n = some cs) : cs.length = n ∧ ∀ j, j < n → w.cell? (a.add j) = cs[j]? := by
  unfold World.cells? at h
  split at h
  · have : ∀ (l : List Nat) (cs : List Value), (l.mapM fun i => w.cell? (a.add i)) = some cs → cs.length = l.length ∧ ∀ (j i : Nat), l[j]? = some i → w.cell? (a.add i) = cs[j]? := by
      intro l
      induction l with
      | nil => intro cs h; simp at h; subst h; simp
      | cons x l ih =>
        intro cs h
        simp only [List.mapM_cons, Option.pure_def, Option.bind_eq_bind] at h
        obtain ⟨y, hy, h⟩ := Option.bind_eq_some_iff.1 h
        obtain ⟨ys, hys, h⟩ := Option.bind_eq_some_iff.1 h
        cases h
        obtain ⟨h1, h2⟩ := ih ys hys
        refine ⟨by simp [h1], fun j i hj => ?_⟩
        cases j with
        | zero => simp at hj; subst hj; simpa using hy
        | succ j => simpa using h2 j i (by simpa using hj)
    obtain ⟨h1, h2⟩ := this _ _ h
    refine ⟨by simpa using h1, fun j hj => h2 j j (by simp [hj])⟩
  · cases h
section
variable {H : Type} {enc : TypeId × Value → H} {P : Program} {W : World} {base : Nat} {spare : Nat → Bool} {held : Bool}
/-- A slice of elements of whatever type: its cells in a list, each element's own cells read on. -/
theorem open_rd {t e size : Nat} {v : Value} {d : DataW H} {ps : List MemPlace} {r : Reach} {b0 : Nat} (ht : P.underlying t = some (.slice e)) (hc : P.cellsOf e = size) (hv : Value.okWide P W r b0 t v)
    (h : DataW.Trod enc P W base spare held t v d ps) :
    ∃ (n fuel : Nat) (xs : List Value), Rd W v size n xs ∧ ∀ i, i < n → ∃ x, DataW.trod enc P W base spare held fuel e ((xs.drop (i * size)).take size) = some x := by
  obtain ⟨p, len, cap, rfl⟩ := okWide_slice ht hv
  obtain ⟨fuel, hf⟩ := h
  rcases Deep.open_slice ht hf with ⟨hcs, _⟩ | ⟨a, len', cap', m, n, D, Pl, hcs, hb, hl, hm, hmm, hx, hel⟩
  · simp [Value.cells] at hcs
    obtain ⟨rfl, rfl, rfl⟩ := hcs
    exact ⟨0, 0, [], ⟨by simp, Nat.zero_le _, none, 0, rfl, Nat.le_refl _, fun h => absurd h (by simp)⟩, fun i hi => absurd hi (by simp)⟩
  · simp [Value.cells] at hcs
    obtain ⟨rfl, rfl, rfl⟩ := hcs
    rw [hc] at hel
    have hlm : len ≤ m := by rw [hmm]; split <;> omega
    obtain ⟨C, hC⟩ := Deep.choose_lt (α := List Value) (p := fun i cs' => W.cells? base (a.add (i * size)) size = some cs' ∧ DataW.trod enc P W base spare held n e cs' = some (D i, Pl i)) (fun i hi => hel i (by omega : i < m))
    have hlen : ∀ i, i < len → (C i).length = size ∧ ∀ j, j < size → W.cell? ((a.add (i * size)).add j) = (C i)[j]? := fun i hi => cells?_parts (hC i (by omega)).1
    refine ⟨len, n, (List.range len).flatMap C, ⟨flat_len len size C fun i hi => (hlen i hi).1, by omega, some a, cap, rfl, hl, fun hp => ?_⟩, fun i hi => ⟨(D i, Pl i), ?_⟩⟩
    · have hs : 0 < size := Nat.pos_of_mul_pos_left hp
      have hl0 : 0 < len := Nat.pos_of_mul_pos_right hp
      have h0 := (hlen 0 hl0).2 0 hs
      have ha : a = ⟨a.block, a.off, none⟩ := by
        refine cell_plain (w := W) (u := (C 0)[0]'(by rw [(hlen 0 hl0).1]; exact hs)) ?_
        rw [List.getElem?_eq_getElem (by rw [(hlen 0 hl0).1]; exact hs)] at h0
        simpa [Addr.add] using h0
      refine ⟨a.block, a.off, by rw [← ha], fun j hj => ?_⟩
      have hq : j / size < len := (Nat.div_lt_iff_lt_mul hs).2 hj
      have hr : j % size < size := Nat.mod_lt _ hs
      have h1 := (hlen (j / size) hq).2 (j % size) hr
      rw [Deep.add_add, ha, add_plain] at h1
      have hj' : j / size * size + j % size = j := Nat.div_add_mod' j size
      rw [hj'] at h1
      rw [h1, flatO_at len size C (fun i hi => (hlen i hi).1) (j / size) hq (j % size) hr, hj']
    · rw [flat_slice len size C (fun i hi => (hlen i hi).1) i hi]
      exact (hC i (by omega)).2
end
end Go.Own
/- HOW ARGUMENTS ARE OPENED, further: slices within structs and slices. No program in sight. -/
namespace Go.Own
open Go.ChangeShapes Go.WideShapes Go.ChangeAt Go.RowKit
section
variable {H : Type} {enc : TypeId × Value → H} {P : Program} {W : World} {base : Nat} {spare : Nat → Bool} {held : Bool}
theorem trod_rd {t e size fuel : Nat} {cs : List Value} {x : DataW H × List MemPlace} (ht : P.underlying t = some (.slice e)) (hc : P.cellsOf e = size) (h : DataW.trod enc P W base spare held fuel t cs = some x) :
    ∃ (v : Value) (n fuel : Nat) (xs : List Value), cs = [v] ∧ Rd W v size n xs ∧ ∀ i, i < n → ∃ x, DataW.trod enc P W base spare held fuel e ((xs.drop (i * size)).take size) = some x := by
  rcases Deep.open_slice ht h with ⟨hcs, _⟩ | ⟨a, len, cap, m, n, D, Pl, hcs, hb, hl, hm, hmm, hx, hel⟩
  · exact ⟨.slice none 0 0, 0, 0, [], hcs, ⟨by simp, Nat.zero_le _, none, 0, rfl, Nat.le_refl _, fun h => absurd h (by simp)⟩, fun i hi => absurd hi (by simp)⟩
  · rw [hc] at hel
    have hlm : len ≤ m := by rw [hmm]; split <;> omega
    obtain ⟨C, hC⟩ := Deep.choose_lt (α := List Value) (p := fun i cs' => W.cells? base (a.add (i * size)) size = some cs' ∧ DataW.trod enc P W base spare held n e cs' = some (D i, Pl i)) (fun i hi => hel i (by omega : i < m))
    have hlen : ∀ i, i < len → (C i).length = size ∧ ∀ j, j < size → W.cell? ((a.add (i * size)).add j) = (C i)[j]? := fun i hi => cells?_parts (hC i (by omega)).1
    refine ⟨.slice (some a) len cap, len, n, (List.range len).flatMap C, hcs, ⟨flat_len len size C fun i hi => (hlen i hi).1, by omega, some a, cap, rfl, hl, fun hp => ?_⟩, fun i hi => ⟨(D i, Pl i), ?_⟩⟩
    · have hs : 0 < size := Nat.pos_of_mul_pos_left hp
      have hl0 : 0 < len := Nat.pos_of_mul_pos_right hp
      have h0 := (hlen 0 hl0).2 0 hs
      have ha : a = ⟨a.block, a.off, none⟩ := by
        refine cell_plain (w := W) (u := (C 0)[0]'(by rw [(hlen 0 hl0).1]; exact hs)) ?_
        rw [List.getElem?_eq_getElem (by rw [(hlen 0 hl0).1]; exact hs)] at h0
        simpa [Addr.add] using h0
      refine ⟨a.block, a.off, by rw [← ha], fun j hj => ?_⟩
      have hq : j / size < len := (Nat.div_lt_iff_lt_mul hs).2 hj
      have hr : j % size < size := Nat.mod_lt _ hs
      have h1 := (hlen (j / size) hq).2 (j % size) hr
      rw [Deep.add_add, ha, add_plain] at h1
      have hj' : j / size * size + j % size = j := Nat.div_add_mod' j size
      rw [hj'] at h1
      rw [h1, flatO_at len size C (fun i hi => (hlen i hi).1) (j / size) hq (j % size) hr, hj']
    · rw [flat_slice len size C (fun i hi => (hlen i hi).1) i hi]
      exact (hC i (by omega)).2
theorem all_cells {α : Type} (f : α → Value) (l : List Value) (h : ∀ i (hi : i < l.length), ∃ k, l[i] = f k) : ∃ zs : List α, l = zs.map f := by
  induction l with
  | nil => exact ⟨[], rfl⟩
  | cons y l ih =>
    obtain ⟨k, hk⟩ := h 0 (by simp)
    obtain ⟨zs, hz⟩ := ih fun i hi => h (i + 1) (by simp; omega)
    exact ⟨k :: zs, by simp at hk; simp [hk]; exact hz⟩
theorem drop_one (l : List Value) (i : Nat) (h : i < l.length) : (l.drop i).take 1 = [l[i]] := by
  rw [List.drop_eq_getElem_cons h]; rfl
/-- A slice of integers of one kind. -/
theorem trod_scal {t e fuel : Nat} {k : IntKind} {cs : List Value} {x : DataW H × List MemPlace} (ht : P.underlying t = some (.slice e)) (he : P.underlying e = some (.int k)) (hc : P.cellsOf e = 1) (h : DataW.trod enc P W base spare held fuel t cs = some x) :
    ∃ (v : Value) (xs : List Int), cs = [v] ∧ Rd W v 1 xs.length (xs.map (Value.int k)) := by
  obtain ⟨v, n, fuel, xs, hcs, hr, hx⟩ := trod_rd ht hc h
  have hl : xs.length = n := by simpa using hr.1
  obtain ⟨zs, rfl⟩ := all_cells (Value.int k) xs fun i hi => by
    obtain ⟨x, hx⟩ := hx i (by omega)
    rw [Nat.mul_one, drop_one _ _ hi] at hx
    obtain ⟨k, hk, -⟩ := DataW.trod_int he hx
    exact ⟨k, by simpa using hk⟩
  rw [List.length_map] at hl
  exact ⟨v, zs, hcs, by rw [hl]; exact hr⟩
theorem open_rd_scal {t e : Nat} {k : IntKind} {v : Value} {d : DataW H} {ps : List MemPlace} {r : Reach} {b0 : Nat} (ht : P.underlying t = some (.slice e)) (he : P.underlying e = some (.int k)) (hc : P.cellsOf e = 1) (hv : Value.okWide P W r b0 t v)
    (h : DataW.Trod enc P W base spare held t v d ps) : ∃ xs : List Int, Rd W v 1 xs.length (xs.map (Value.int k)) := by
  obtain ⟨n, fuel, xs, hr, hx⟩ := open_rd ht hc hv h
  have hl : xs.length = n := by simpa using hr.1
  obtain ⟨zs, rfl⟩ := all_cells (Value.int k) xs fun i hi => by
    obtain ⟨x, hx⟩ := hx i (by omega)
    rw [Nat.mul_one, drop_one _ _ hi] at hx
    obtain ⟨k, hk, -⟩ := DataW.trod_int he hx
    exact ⟨k, by simpa using hk⟩
  rw [List.length_map] at hl
  exact ⟨zs, by rw [hl]; exact hr⟩
end
end Go.Own
