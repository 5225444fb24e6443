/- THE WALK of MkfsFits, both numbers alike. -/
import Derived.Test.YtbggnbahmdgbdaaAwake20
import Derived.Test.YtbggnbahmdgbdaaGeomT
import Derived.Test.YtbggnbahmdgbdaaLow
import Derived.Test.YtbggnbahmdgbdaaTwo
namespace Go.Proofs.Ytbggnbahmdgbdaa
open Go.RowKit Go.Own Go.Sl Go.Gm
set_option maxRecDepth 100000 in
set_option maxHeartbeats 8000000 in
theorem fitsC (n m : Int) (w : World) (he : low n 1000 = low m 1000) : Calls Try.prog 3 #[.int .i64 n, .int .i64 m] w fun e w' => e = .returned (.bool true) ∧ Below w.heap.size w w' := by
  have HO := hid (Has.start w)
  have HE := hid he
  clear he
  go_enter Try.func3, Try.ntmps3
  go_wp2_with fail
  refine (lowAny n 1000 w (by omega) (by omega)).mono ?_
  rintro e w' ⟨rfl, rfl⟩
  try dsimp only
  go_wp2_with fail
  refine (lowAny m 1000 w (by omega) (by omega)).mono ?_
  rintro e w' ⟨rfl, rfl⟩
  try dsimp only
  have ha := low_in n 1000 (by omega)
  have hb := low_in m 1000 (by omega)
  rw [← HE.out]
  clear hb
  clear HE
  generalize low n 1000 = a at *
  have HA := hid ha
  clear ha
  have HK := hid (Keep.refl w)
  have hx : ¬ a < a := by omega
  go_wp2_with fail
  refine (mFit a w _ HO.out).mono ?_
  rintro e w2 ⟨g1, rfl, hb1, hO2, hK2⟩
  have HO2 := hid hO2
  have HK2 := hid ((HK.out).trans hK2)
  clear hO2 hK2
  try dsimp only
  go_wp2_with fail
  refine (mFit a w2 _ HO2.out).mono ?_
  rintro e w3 ⟨g2, rfl, hb2, hO3, hK3⟩
  have HO3 := hid hO3
  have HK3 := hid ((HK2.out).trans hK3)
  clear hO3 hK3
  try dsimp only
  have HRF : Hid (∀ w' L, Has w' L → Calls Try.prog 8 #[.int .i64 a] w' fun e w'' => e = .returned (.agg #[.int .i64 g1.n, .int .i64 g1.i, .int .i64 g1.b]) ∧ Has w'' L ∧ Keep w' w'') := hid fun w' L h => (rFit a w' L h).mono fun e w'' ⟨g, h1, h2, h3⟩ => ⟨by rw [h1, h2.one hb1]; rfl, h3⟩
  have hle : blocks g1 ≤ blocks g2 := Best.blocks_le (by omega) hb1 hb2
  have hsl : sectors g2 ≤ a := Best.sectors_le (by have := HA.out; omega) hb2
  have hsl2 : sectors g2 ≤ a := by omega
  have hor := hb1.may_or
  have HO4 := hid (HO3.out.two' (.cells (gcell g1) 24) (.cells (gcell g2) 24))
  have HK4 := hid ((HK3.out.alloc (.cells (gcell g1) 24)).alloc (.cells (gcell g2) 24))
  clear hb1 hb2 HO HO2 HK HK2
  unfold geoV
  go_wp2_with fail
  generalize (w3.alloc (.cells #[.int .i64 g1.n, .int .i64 g1.i, .int .i64 g1.b] 24)).alloc (.cells #[.int .i64 g2.n, .int .i64 g2.i, .int .i64 g2.b] 24) = w4 at *
  generalize w3.heap.size = gs at *
  refine region_text (fun w' => w'.cell? ⟨gs, 0, none⟩ = some (.int .i64 g1.n) ∧ w'.cell? ⟨gs, 1, none⟩ = some (.int .i64 g1.i) ∧ w'.cell? ⟨gs, 2, none⟩ = some (.int .i64 g1.b) ∧ w'.cell? ⟨gs + 1, 0, none⟩ = some (.int .i64 g2.n) ∧ w'.cell? ⟨gs + 1, 1, none⟩ = some (.int .i64 g2.i) ∧ w'.cell? ⟨gs + 1, 2, none⟩ = some (.int .i64 g2.b)) (by kernel_rfl) (by kernel_rfl) ⟨HO4.out.drew.cells 0, HO4.out.drew.cells 1, HO4.out.drew.cells 2, HO4.out.drew.p1.cells 0, HO4.out.drew.p1.cells 1, HO4.out.drew.p1.cells 2⟩ ?_
  rcases hor with hz | hm
  · obtain rfl : g1 = ⟨0, 0, 0⟩ := hz
    repeat (first
      | (refine wpL_read (by rfl) (by rfl) ?_ ?_ ?_; rotate_left; (rintro w ⟨z0, z1, z2, z3, z4, z5⟩; go_simp; with_reducible rfl); simp only [Act.put, List.setIfInBounds_toArray, List.set_cons_zero, List.set_cons_succ]) | (refine wpL_skip (by rfl) ?_; simp only [Act.put, List.setIfInBounds_toArray, List.set_cons_zero, List.set_cons_succ]))
    try simp only [if_neg (show ¬ a < a by omega)]
    refine wpL_act (by rfl) (by rfl) (fun K hK => ?_)
    go_simp
    refine (HRF.out _ _ HO4.out.drew).mono ?_
    rintro e w5 ⟨rfl, hO5, hK5⟩
    have HO5 := hid hO5
    have HK5 := hid ((HK4.out.drew).trans hK5)
    clear hO5 hK5
    try dsimp only
    refine hK.out _ _ (⟨HO5.out.cells 0, HO5.out.cells 1, HO5.out.cells 2, HO5.out.p1.cells 0, HO5.out.p1.cells 1, HO5.out.p1.cells 2⟩) ?_
    clear hK K
    try simp only [Act.put, List.setIfInBounds_toArray, List.set_cons_zero, List.set_cons_succ]
    repeat (first
      | (refine wpL_read (by rfl) (by rfl) ?_ ?_ ?_; rotate_left; (rintro w ⟨z0, z1, z2, z3, z4, z5⟩; go_simp; with_reducible rfl); simp only [Act.put, List.setIfInBounds_toArray, List.set_cons_zero, List.set_cons_succ]) | (refine wpL_skip (by rfl) ?_; simp only [Act.put, List.setIfInBounds_toArray, List.set_cons_zero, List.set_cons_succ]))
    refine wpL_act (by rfl) (by rfl) (fun K hK => ?_)
    go_simp
    refine (gBlocks ⟨0, 0, 0⟩ _ _ HO5.out).mono ?_
    rintro e w6 ⟨rfl, hO6, hK6⟩
    have HO6 := hid hO6
    have HK6 := hid ((HK5.out).trans hK6)
    clear hO6 hK6
    try dsimp only
    refine hK.out _ _ (⟨HO6.out.cells 0, HO6.out.cells 1, HO6.out.cells 2, HO6.out.p1.cells 0, HO6.out.p1.cells 1, HO6.out.p1.cells 2⟩) ?_
    clear hK K
    try simp only [Act.put, List.setIfInBounds_toArray, List.set_cons_zero, List.set_cons_succ]
    repeat (first
      | (refine wpL_read (by rfl) (by rfl) ?_ ?_ ?_; rotate_left; (rintro w ⟨z0, z1, z2, z3, z4, z5⟩; go_simp; with_reducible rfl); simp only [Act.put, List.setIfInBounds_toArray, List.set_cons_zero, List.set_cons_succ]) | (refine wpL_skip (by rfl) ?_; simp only [Act.put, List.setIfInBounds_toArray, List.set_cons_zero, List.set_cons_succ]))
    refine wpL_act (by rfl) (by rfl) (fun K hK => ?_)
    go_simp
    refine (gBlocks g2 _ _ HO6.out).mono ?_
    rintro e w7 ⟨rfl, hO7, hK7⟩
    have HO7 := hid hO7
    have HK7 := hid ((HK6.out).trans hK7)
    clear hO7 hK7
    try dsimp only
    refine hK.out _ _ (⟨HO7.out.cells 0, HO7.out.cells 1, HO7.out.cells 2, HO7.out.p1.cells 0, HO7.out.p1.cells 1, HO7.out.p1.cells 2⟩) ?_
    clear hK K
    try simp only [Act.put, List.setIfInBounds_toArray, List.set_cons_zero, List.set_cons_succ]
    repeat (first
      | (refine wpL_read (by rfl) (by rfl) ?_ ?_ ?_; rotate_left; (rintro w ⟨z0, z1, z2, z3, z4, z5⟩; go_simp; with_reducible rfl); simp only [Act.put, List.setIfInBounds_toArray, List.set_cons_zero, List.set_cons_succ]) | (refine wpL_skip (by rfl) ?_; simp only [Act.put, List.setIfInBounds_toArray, List.set_cons_zero, List.set_cons_succ]))
    refine wpL_act (by rfl) (by rfl) (fun K hK => ?_)
    go_simp
    refine (gSectors g2 _ _ HO7.out).mono ?_
    rintro e w8 ⟨rfl, hO8, hK8⟩
    have HO8 := hid hO8
    have HK8 := hid ((HK7.out).trans hK8)
    clear hO8 hK8
    try dsimp only
    refine hK.out _ _ (⟨HO8.out.cells 0, HO8.out.cells 1, HO8.out.cells 2, HO8.out.p1.cells 0, HO8.out.p1.cells 1, HO8.out.p1.cells 2⟩) ?_
    clear hK K
    try simp only [Act.put, List.setIfInBounds_toArray, List.set_cons_zero, List.set_cons_succ]
    repeat (first
      | (refine wpL_read (by rfl) (by rfl) ?_ ?_ ?_; rotate_left; (rintro w ⟨z0, z1, z2, z3, z4, z5⟩; go_simp; with_reducible rfl); simp only [Act.put, List.setIfInBounds_toArray, List.set_cons_zero, List.set_cons_succ]) | (refine wpL_skip (by rfl) ?_; simp only [Act.put, List.setIfInBounds_toArray, List.set_cons_zero, List.set_cons_succ]))
    refine wpL_act (by rfl) (by rfl) (fun K hK => ?_)
    go_simp
    refine (awake20 _ _ HO8.out).mono ?_
    rintro e w10 ⟨rfl, hO10, hK10⟩
    have HO10 := hid hO10
    have HK10 := hid ((HK8.out).trans hK10)
    clear hO10 hK10
    try dsimp only
    refine hK.out _ _ (⟨HO10.out.cells 0, HO10.out.cells 1, HO10.out.cells 2, HO10.out.p1.cells 0, HO10.out.p1.cells 1, HO10.out.p1.cells 2⟩) ?_
    clear hK K
    try simp only [Act.put, List.setIfInBounds_toArray, List.set_cons_zero, List.set_cons_succ]
    repeat (first
      | (refine wpL_read (by rfl) (by rfl) ?_ ?_ ?_; rotate_left; (rintro w ⟨z0, z1, z2, z3, z4, z5⟩; go_simp; with_reducible rfl); simp only [Act.put, List.setIfInBounds_toArray, List.set_cons_zero, List.set_cons_succ]) | (refine wpL_skip (by rfl) ?_; simp only [Act.put, List.setIfInBounds_toArray, List.set_cons_zero, List.set_cons_succ]))
    refine wpL_nil ?_
    go_wp2_with fail
    go_ret
    exact ⟨rfl, HO10.out.drop.drop.below HK10.out.os HK10.out.tape HK10.out.output⟩
  · have e1 : (g1.n == 0) = false := by have := may_iff.1 hm; simp; omega
    have HMY : Hid (∀ w' L, Has w' L → Calls Try.prog 11 #[.agg #[.int .i64 g1.n, .int .i64 g1.i, .int .i64 g1.b]] w' fun e w'' => e = .returned (.bool true) ∧ Has w'' L ∧ Keep w' w'') := hid fun w' L h => by
      have := gMay g1 w' L h
      rwa [hm] at this
    clear hm
    repeat (first
      | (refine wpL_read (by rfl) (by rfl) ?_ ?_ ?_; rotate_left; (rintro w ⟨z0, z1, z2, z3, z4, z5⟩; go_simp; with_reducible rfl); simp only [Act.put, List.setIfInBounds_toArray, List.set_cons_zero, List.set_cons_succ]) | (refine wpL_skip (by rfl) ?_; simp only [Act.put, List.setIfInBounds_toArray, List.set_cons_zero, List.set_cons_succ]))
    try simp only [if_neg (show ¬ a < a by omega)]
    refine wpL_act (by rfl) (by rfl) (fun K hK => ?_)
    go_simp
    refine (HRF.out _ _ HO4.out.drew).mono ?_
    rintro e w5 ⟨rfl, hO5, hK5⟩
    have HO5 := hid hO5
    have HK5 := hid ((HK4.out.drew).trans hK5)
    clear hO5 hK5
    try dsimp only
    refine hK.out _ _ (⟨HO5.out.cells 0, HO5.out.cells 1, HO5.out.cells 2, HO5.out.p1.cells 0, HO5.out.p1.cells 1, HO5.out.p1.cells 2⟩) ?_
    clear hK K
    try simp only [Act.put, List.setIfInBounds_toArray, List.set_cons_zero, List.set_cons_succ]
    repeat (first
      | (refine wpL_read (by rfl) (by rfl) ?_ ?_ ?_; rotate_left; (rintro w ⟨z0, z1, z2, z3, z4, z5⟩; go_simp; with_reducible rfl); simp only [Act.put, List.setIfInBounds_toArray, List.set_cons_zero, List.set_cons_succ]) | (refine wpL_skip (by rfl) ?_; simp only [Act.put, List.setIfInBounds_toArray, List.set_cons_zero, List.set_cons_succ]))
    refine wpL_act (by rfl) (by rfl) (fun K hK => ?_)
    go_simp
    refine (gBlocks g1 _ _ HO5.out).mono ?_
    rintro e w6 ⟨rfl, hO6, hK6⟩
    have HO6 := hid hO6
    have HK6 := hid ((HK5.out).trans hK6)
    clear hO6 hK6
    try dsimp only
    refine hK.out _ _ (⟨HO6.out.cells 0, HO6.out.cells 1, HO6.out.cells 2, HO6.out.p1.cells 0, HO6.out.p1.cells 1, HO6.out.p1.cells 2⟩) ?_
    clear hK K
    try simp only [Act.put, List.setIfInBounds_toArray, List.set_cons_zero, List.set_cons_succ]
    repeat (first
      | (refine wpL_read (by rfl) (by rfl) ?_ ?_ ?_; rotate_left; (rintro w ⟨z0, z1, z2, z3, z4, z5⟩; go_simp; with_reducible rfl); simp only [Act.put, List.setIfInBounds_toArray, List.set_cons_zero, List.set_cons_succ]) | (refine wpL_skip (by rfl) ?_; simp only [Act.put, List.setIfInBounds_toArray, List.set_cons_zero, List.set_cons_succ]))
    refine wpL_act (by rfl) (by rfl) (fun K hK => ?_)
    go_simp
    refine (gBlocks g2 _ _ HO6.out).mono ?_
    rintro e w7 ⟨rfl, hO7, hK7⟩
    have HO7 := hid hO7
    have HK7 := hid ((HK6.out).trans hK7)
    clear hO7 hK7
    try dsimp only
    refine hK.out _ _ (⟨HO7.out.cells 0, HO7.out.cells 1, HO7.out.cells 2, HO7.out.p1.cells 0, HO7.out.p1.cells 1, HO7.out.p1.cells 2⟩) ?_
    clear hK K
    try simp only [Act.put, List.setIfInBounds_toArray, List.set_cons_zero, List.set_cons_succ]
    repeat (first
      | (refine wpL_read (by rfl) (by rfl) ?_ ?_ ?_; rotate_left; (rintro w ⟨z0, z1, z2, z3, z4, z5⟩; go_simp; with_reducible rfl); simp only [Act.put, List.setIfInBounds_toArray, List.set_cons_zero, List.set_cons_succ]) | (refine wpL_skip (by rfl) ?_; simp only [Act.put, List.setIfInBounds_toArray, List.set_cons_zero, List.set_cons_succ]))
    refine wpL_act (by rfl) (by rfl) (fun K hK => ?_)
    go_simp
    refine (gSectors g2 _ _ HO7.out).mono ?_
    rintro e w8 ⟨rfl, hO8, hK8⟩
    have HO8 := hid hO8
    have HK8 := hid ((HK7.out).trans hK8)
    clear hO8 hK8
    try dsimp only
    refine hK.out _ _ (⟨HO8.out.cells 0, HO8.out.cells 1, HO8.out.cells 2, HO8.out.p1.cells 0, HO8.out.p1.cells 1, HO8.out.p1.cells 2⟩) ?_
    clear hK K
    try simp only [Act.put, List.setIfInBounds_toArray, List.set_cons_zero, List.set_cons_succ]
    repeat (first
      | (refine wpL_read (by rfl) (by rfl) ?_ ?_ ?_; rotate_left; (rintro w ⟨z0, z1, z2, z3, z4, z5⟩; go_simp; with_reducible rfl); simp only [Act.put, List.setIfInBounds_toArray, List.set_cons_zero, List.set_cons_succ]) | (refine wpL_skip (by rfl) ?_; simp only [Act.put, List.setIfInBounds_toArray, List.set_cons_zero, List.set_cons_succ]))
    refine wpL_act (by rfl) (by rfl) (fun K hK => ?_)
    go_simp
    refine (HMY.out _ _ HO8.out).mono ?_
    rintro e w9 ⟨rfl, hO9, hK9⟩
    have HO9 := hid hO9
    have HK9 := hid ((HK8.out).trans hK9)
    clear hO9 hK9
    try dsimp only
    refine hK.out _ _ (⟨HO9.out.cells 0, HO9.out.cells 1, HO9.out.cells 2, HO9.out.p1.cells 0, HO9.out.p1.cells 1, HO9.out.p1.cells 2⟩) ?_
    clear hK K
    try simp only [Act.put, List.setIfInBounds_toArray, List.set_cons_zero, List.set_cons_succ]
    repeat (first
      | (refine wpL_read (by rfl) (by rfl) ?_ ?_ ?_; rotate_left; (rintro w ⟨z0, z1, z2, z3, z4, z5⟩; go_simp; with_reducible rfl); simp only [Act.put, List.setIfInBounds_toArray, List.set_cons_zero, List.set_cons_succ]) | (refine wpL_skip (by rfl) ?_; simp only [Act.put, List.setIfInBounds_toArray, List.set_cons_zero, List.set_cons_succ]))
    refine wpL_act (by rfl) (by rfl) (fun K hK => ?_)
    go_simp
    refine (awake20 _ _ HO9.out).mono ?_
    rintro e w10 ⟨rfl, hO10, hK10⟩
    have HO10 := hid hO10
    have HK10 := hid ((HK9.out).trans hK10)
    clear hO10 hK10
    try dsimp only
    refine hK.out _ _ (⟨HO10.out.cells 0, HO10.out.cells 1, HO10.out.cells 2, HO10.out.p1.cells 0, HO10.out.p1.cells 1, HO10.out.p1.cells 2⟩) ?_
    clear hK K
    try simp only [Act.put, List.setIfInBounds_toArray, List.set_cons_zero, List.set_cons_succ]
    repeat (first
      | (refine wpL_read (by rfl) (by rfl) ?_ ?_ ?_; rotate_left; (rintro w ⟨z0, z1, z2, z3, z4, z5⟩; go_simp; with_reducible rfl); simp only [Act.put, List.setIfInBounds_toArray, List.set_cons_zero, List.set_cons_succ]) | (refine wpL_skip (by rfl) ?_; simp only [Act.put, List.setIfInBounds_toArray, List.set_cons_zero, List.set_cons_succ]))
    refine wpL_nil ?_
    go_wp2_with fail
    go_ret
    exact ⟨rfl, HO10.out.drop.drop.below HK10.out.os HK10.out.tape HK10.out.output⟩
end Go.Proofs.Ytbggnbahmdgbdaa
