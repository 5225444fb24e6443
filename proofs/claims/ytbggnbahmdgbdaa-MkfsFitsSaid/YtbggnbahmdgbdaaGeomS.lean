/- THE WALKS of the reference's better and Fit. -/
import Derived.Test.YtbggnbahmdgbdaaGeomR
import Derived.Test.YtbggnbahmdgbdaaGeomF
namespace Go.Proofs.Ytbggnbahmdgbdaa
open Go.RowKit Go.Own Go.Gm
set_option maxRecDepth 100000 in
set_option maxHeartbeats 16000000 in
theorem rBetter (x y : Geo) (w : World) (L : List HP) (hO : Has w L) :
    Calls Try.prog 28 #[geoV x, geoV y] w fun e w' => e = .returned (.bool (better x y)) ∧ Has w' L ∧ Keep w w' := by
  have HO0 := hid (two_boxes (.cells (gcell x) 24) (.cells (gcell y) 24) hO)
  have HK0 := hid (((Keep.refl w).alloc (.cells (gcell x) 24)).alloc (.cells (gcell y) 24))
  clear hO
  have HCB := hid (fun g w' L (h : Has w' L) => r5Blocks g w' L h)
  have HCI := hid (fun g w' L (h : Has w' L) => r5Inodes g w' L h)
  unfold geoV at *
  go_enter Try.func28, Try.ntmps28
  go_upto_region 1 with fail
  generalize w.heap.size = r at *
  generalize hwb : (w.alloc (.cells (gcell x) 24)).alloc (.cells (gcell y) 24) = wb at *
  clear hwb
  have HO1 := hid HO0.out.drew
  have HK1 := hid HK0.out.drew
  refine region_text (fun w => w.cell? ⟨r + 1, 0, none⟩ = some (.int .i64 y.n) ∧ w.cell? ⟨r + 1, 1, none⟩ = some (.int .i64 y.i) ∧ w.cell? ⟨r + 1, 2, none⟩ = some (.int .i64 y.b) ∧ w.cell? ⟨r, 0, none⟩ = some (.int .i64 x.n) ∧ w.cell? ⟨r, 1, none⟩ = some (.int .i64 x.i) ∧ w.cell? ⟨r, 2, none⟩ = some (.int .i64 x.b)) (by kernel_rfl) (by kernel_rfl) ⟨HO1.out.cells 0, HO1.out.cells 1, HO1.out.cells 2, HO1.out.p1.cells 0, HO1.out.p1.cells 1, HO1.out.p1.cells 2⟩ ?_
  repeat (first
    | (refine wpL_read (by rfl) (by rfl) ?_ ?_ ?_; rotate_left; (rintro w ⟨z0, z1, z2, z3, z4, z5⟩; go_simp; with_reducible rfl); simp only [Act.put, List.setIfInBounds_toArray, List.set_cons_zero, List.set_cons_succ])
    | (refine wpL_skip (by rfl) ?_; simp only [Act.put, List.setIfInBounds_toArray, List.set_cons_zero, List.set_cons_succ]))
  refine wpL_act (by rfl) (by rfl) (fun K hK => ?_)
  go_simp
  refine (HCB.out x _ _ HO1.out).mono ?_
  rintro e w2 ⟨rfl, hO2, hK2⟩
  have HO2 := hid hO2
  have HK2 := hid (HK1.out.trans hK2)
  clear hO2 hK2
  try dsimp only
  refine hK.out _ _ ⟨HO2.out.cells 0, HO2.out.cells 1, HO2.out.cells 2, HO2.out.p1.cells 0, HO2.out.p1.cells 1, HO2.out.p1.cells 2⟩ ?_
  clear hK K
  try simp only [Act.put, List.setIfInBounds_toArray, List.set_cons_zero, List.set_cons_succ]
  repeat (first
    | (refine wpL_read (by rfl) (by rfl) ?_ ?_ ?_; rotate_left; (rintro w ⟨z0, z1, z2, z3, z4, z5⟩; go_simp; with_reducible rfl); simp only [Act.put, List.setIfInBounds_toArray, List.set_cons_zero, List.set_cons_succ])
    | (refine wpL_skip (by rfl) ?_; simp only [Act.put, List.setIfInBounds_toArray, List.set_cons_zero, List.set_cons_succ]))
  refine wpL_act (by rfl) (by rfl) (fun K hK => ?_)
  go_simp
  refine (HCB.out y _ _ HO2.out).mono ?_
  rintro e w3 ⟨rfl, hO3, hK3⟩
  have HO3 := hid hO3
  have HK3 := hid (HK2.out.trans hK3)
  clear hO3 hK3
  try dsimp only
  refine hK.out _ _ ⟨HO3.out.cells 0, HO3.out.cells 1, HO3.out.cells 2, HO3.out.p1.cells 0, HO3.out.p1.cells 1, HO3.out.p1.cells 2⟩ ?_
  clear hK K
  try simp only [Act.put, List.setIfInBounds_toArray, List.set_cons_zero, List.set_cons_succ]
  repeat (first
    | (refine wpL_read (by rfl) (by rfl) ?_ ?_ ?_; rotate_left; (rintro w ⟨z0, z1, z2, z3, z4, z5⟩; go_simp; with_reducible rfl); simp only [Act.put, List.setIfInBounds_toArray, List.set_cons_zero, List.set_cons_succ])
    | (refine wpL_skip (by rfl) ?_; simp only [Act.put, List.setIfInBounds_toArray, List.set_cons_zero, List.set_cons_succ]))
  refine wpL_nil ?_
  by_cases h1 : blocks x = blocks y
  · have H1 := hid h1
    rw [h1]
    clear h1
    have e1 : ∀ z : Int, (z != z) = false := fun z => by simp
    go_upto_region 4 with fail
    have HO4 := hid HO3.out.drew
    have HK4 := hid HK3.out.drew
    refine region_text (fun w => w.cell? ⟨r + 1, 0, none⟩ = some (.int .i64 y.n) ∧ w.cell? ⟨r + 1, 1, none⟩ = some (.int .i64 y.i) ∧ w.cell? ⟨r + 1, 2, none⟩ = some (.int .i64 y.b) ∧ w.cell? ⟨r, 0, none⟩ = some (.int .i64 x.n) ∧ w.cell? ⟨r, 1, none⟩ = some (.int .i64 x.i) ∧ w.cell? ⟨r, 2, none⟩ = some (.int .i64 x.b)) (by kernel_rfl) (by kernel_rfl) ⟨HO4.out.cells 0, HO4.out.cells 1, HO4.out.cells 2, HO4.out.p1.cells 0, HO4.out.p1.cells 1, HO4.out.p1.cells 2⟩ ?_
    repeat (first
      | (refine wpL_read (by rfl) (by rfl) ?_ ?_ ?_; rotate_left; (rintro w ⟨z0, z1, z2, z3, z4, z5⟩; go_simp; with_reducible rfl); simp only [Act.put, List.setIfInBounds_toArray, List.set_cons_zero, List.set_cons_succ])
      | (refine wpL_skip (by rfl) ?_; simp only [Act.put, List.setIfInBounds_toArray, List.set_cons_zero, List.set_cons_succ]))
    refine wpL_act (by rfl) (by rfl) (fun K hK => ?_)
    go_simp
    refine (HCI.out x _ _ HO4.out).mono ?_
    rintro e w5 ⟨rfl, hO5, hK5⟩
    have HO5 := hid hO5
    have HK5 := hid (HK4.out.trans hK5)
    clear hO5 hK5
    try dsimp only
    refine hK.out _ _ ⟨HO5.out.cells 0, HO5.out.cells 1, HO5.out.cells 2, HO5.out.p1.cells 0, HO5.out.p1.cells 1, HO5.out.p1.cells 2⟩ ?_
    clear hK K
    try simp only [Act.put, List.setIfInBounds_toArray, List.set_cons_zero, List.set_cons_succ]
    repeat (first
      | (refine wpL_read (by rfl) (by rfl) ?_ ?_ ?_; rotate_left; (rintro w ⟨z0, z1, z2, z3, z4, z5⟩; go_simp; with_reducible rfl); simp only [Act.put, List.setIfInBounds_toArray, List.set_cons_zero, List.set_cons_succ])
      | (refine wpL_skip (by rfl) ?_; simp only [Act.put, List.setIfInBounds_toArray, List.set_cons_zero, List.set_cons_succ]))
    refine wpL_act (by rfl) (by rfl) (fun K hK => ?_)
    go_simp
    refine (HCI.out y _ _ HO5.out).mono ?_
    rintro e w6 ⟨rfl, hO6, hK6⟩
    have HO6 := hid hO6
    have HK6 := hid (HK5.out.trans hK6)
    clear hO6 hK6
    try dsimp only
    refine hK.out _ _ ⟨HO6.out.cells 0, HO6.out.cells 1, HO6.out.cells 2, HO6.out.p1.cells 0, HO6.out.p1.cells 1, HO6.out.p1.cells 2⟩ ?_
    clear hK K
    try simp only [Act.put, List.setIfInBounds_toArray, List.set_cons_zero, List.set_cons_succ]
    repeat (first
      | (refine wpL_read (by rfl) (by rfl) ?_ ?_ ?_; rotate_left; (rintro w ⟨z0, z1, z2, z3, z4, z5⟩; go_simp; with_reducible rfl); simp only [Act.put, List.setIfInBounds_toArray, List.set_cons_zero, List.set_cons_succ])
      | (refine wpL_skip (by rfl) ?_; simp only [Act.put, List.setIfInBounds_toArray, List.set_cons_zero, List.set_cons_succ]))
    refine wpL_nil ?_
    by_cases h2 : inodes x = inodes y
    · have H2 := hid h2
      rw [h2]
      clear h2
      have c0 := HO6.out.cells
      have c1 := HO6.out.p1.cells
      go_wp2_with fail
      go_ret
      refine ⟨?_, HO6.out.drop.drop, HK6.out⟩
      rw [better, if_pos H1.out, if_pos H2.out]
      simp
    · have H2 := hid h2
      have e2 : (inodes x != inodes y) = true := by simpa using h2
      clear h2
      go_wp2_with fail
      go_ret
      refine ⟨?_, HO6.out.drop.drop, HK6.out⟩
      rw [better, if_pos H1.out, if_neg H2.out]
      simp
  · have H1 := hid h1
    have e1 : (blocks x != blocks y) = true := by simpa using h1
    clear h1
    go_wp2_with fail
    go_ret
    refine ⟨?_, HO3.out.drop.drop, HK3.out⟩
    rw [better, if_neg H1.out]
    simp
end Go.Proofs.Ytbggnbahmdgbdaa
