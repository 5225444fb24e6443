/- THE WALK of awake. -/
import Derived.Test.YtbggnbahmdgbdaaImage
import Derived.Test.YtbggnbahmdgbdaaGeomG
namespace Go.Proofs.Ytbggnbahmdgbdaa
open Go.RowKit Go.Own Go.Sl Go.Gm
set_option maxRecDepth 100000 in
set_option maxHeartbeats 4000000 in
theorem formatNil (g : Geo) (w : World) (L : List HP) (hO : Has w L) : Calls Try.prog 20 #[.pointer none, geoV g] w fun e w' => e = .returned (.int .i64 1) ∧ Has w' L ∧ Keep w w' := by
  have HO := hid (hO.alloc (.cells (gcell g) 24))
  have HK := hid ((Keep.refl w).alloc (.cells (gcell g) 24))
  clear hO
  unfold geoV at *
  go_enter Try.func20, Try.ntmps20
  go_wp2_with fail
  go_ret
  exact ⟨rfl, HO.out.drop, HK.out⟩
theorem room20 {g : Geo} {s : Int} (h : Room s g) (hs : s ≤ 20) : s = 20 ∧ g = ⟨1, 4, 16⟩ := by
  obtain ⟨hm, h2⟩ := h
  have e := sectors_of hm
  have hl := long_bound hm
  have h1 := may_iff.1 hm
  have h4 : long g = 1 + g.i / 4 + g.b := by unfold long; rw [Int.tdiv_eq_ediv_of_nonneg (by omega)]
  have h5 : 1 * long g ≤ g.n * long g := Int.mul_le_mul_of_nonneg_right (by omega) (by omega)
  have h6 : g.n * 18 ≤ g.n * long g := Int.mul_le_mul_of_nonneg_left hl.1 (by omega)
  obtain ⟨n, i, b⟩ := g
  dsimp only at *
  refine ⟨by omega, ?_⟩
  simp only [Geo.mk.injEq]
  omega
theorem room_g20 : Room 20 ⟨1, 4, 16⟩ := ⟨by decide, by decide⟩
set_option maxRecDepth 100000 in
theorem fit20 (w : World) (L : List HP) (hO : Has w L) : Calls Try.prog 7 #[.int .i64 20] w fun e w' => e = .returned (.agg #[.int .i64 1, .int .i64 4, .int .i64 16]) ∧ Has w' L ∧ Keep w w' :=
  (mFit 20 w L hO).mono fun e w' ⟨g, h1, h2, h3⟩ => by
    refine ⟨?_, h3⟩
    rcases h2 with ⟨rfl, h⟩ | ⟨h, -⟩
    · exact absurd room_g20 (h _)
    · rw [h1, (room20 h (by omega)).2]; rfl
set_option maxRecDepth 100000 in
theorem fit19 (w : World) (L : List HP) (hO : Has w L) : Calls Try.prog 7 #[.int .i64 19] w fun e w' => e = .returned (.agg #[.int .i64 0, .int .i64 0, .int .i64 0]) ∧ Has w' L ∧ Keep w w' :=
  (mFit 19 w L hO).mono fun e w' ⟨g, h1, h2, h3⟩ => by
    refine ⟨?_, h3⟩
    rcases h2 with ⟨rfl, h⟩ | ⟨h, -⟩
    · rw [h1]; rfl
    · exact absurd (room20 h (by omega)).1 (by omega)
def g20 : Geo := ⟨1, 4, 16⟩
theorem image20 (w : World) (L : List HP) (hO : Has w L) : Calls Try.prog 13 #[.agg #[.int .i64 1, .int .i64 4, .int .i64 16]] w fun e w' => ∃ g c, e = .returned (.slice (some ⟨g, 0, none⟩) 20 c) ∧ Has w' L ∧ Keep w w' :=
  (image g20 w L (by decide) hO).mono fun e w' ⟨v, h1, h2, h3⟩ => by
    have hl : (imgL g20).length = 20 := by rw [imgL_len]; decide
    rcases Wrt.form h2 with ⟨-, h⟩ | ⟨g, c, h⟩
    · rw [h] at hl; cases hl
    · exact ⟨g, c, by rw [h1, h, hl], h2.drop, h3⟩
set_option maxRecDepth 100000 in
set_option maxHeartbeats 4000000 in
theorem awake20 (w : World) (L : List HP) (hO : Has w L) : Calls Try.prog 12 #[] w fun e w' => e = .returned (.bool true) ∧ Has w' L ∧ Keep w w' := by
  have HO := hid (hO.alloc (.cells #[.int .i64 1, .int .i64 4, .int .i64 16] 24))
  have HK := hid ((Keep.refl w).alloc (.cells #[.int .i64 1, .int .i64 4, .int .i64 16] 24))
  have HF := hid (fun w' L (h : Has w' L) => formatNil g20 w' L h)
  unfold geoV g20 at HF
  clear hO
  go_enter Try.func12, Try.ntmps12
  go_wp2_with fail
  refine region_text (fun w' => w'.cell? ⟨w.heap.size, 0, none⟩ = some (.int .i64 1) ∧ w'.cell? ⟨w.heap.size, 1, none⟩ = some (.int .i64 4) ∧ w'.cell? ⟨w.heap.size, 2, none⟩ = some (.int .i64 16)) (by kernel_rfl) (by kernel_rfl) ⟨HO.out.drew.cells 0, HO.out.drew.cells 1, HO.out.drew.cells 2⟩ ?_
  repeat (first
    | (refine wpL_read (by rfl) (by rfl) ?_ ?_ ?_; rotate_left; (rintro w ⟨z0, z1, z2⟩; go_simp; with_reducible rfl); simp only [Act.put, List.setIfInBounds_toArray, List.set_cons_zero, List.set_cons_succ]) | (refine wpL_skip (by rfl) ?_; simp only [Act.put, List.setIfInBounds_toArray, List.set_cons_zero, List.set_cons_succ]))
  refine wpL_act (by rfl) (by rfl) (fun K hK => ?_)
  go_simp
  refine (image20 _ _ HO.out.drew).mono ?_
  rintro e w4 ⟨g4, c4, rfl, hO4, hK4⟩
  have HO4 := hid hO4
  have HK4 := hid ((HK.out.drew).trans hK4)
  clear hO4 hK4
  try dsimp only
  refine hK.out _ _ (⟨HO4.out.cells 0, HO4.out.cells 1, HO4.out.cells 2⟩) ?_
  clear hK K
  try simp only [Act.put, List.setIfInBounds_toArray, List.set_cons_zero, List.set_cons_succ]
  repeat (first
    | (refine wpL_read (by rfl) (by rfl) ?_ ?_ ?_; rotate_left; (rintro w ⟨z0, z1, z2⟩; go_simp; with_reducible rfl); simp only [Act.put, List.setIfInBounds_toArray, List.set_cons_zero, List.set_cons_succ]) | (refine wpL_skip (by rfl) ?_; simp only [Act.put, List.setIfInBounds_toArray, List.set_cons_zero, List.set_cons_succ]))
  refine wpL_act (by rfl) (by rfl) (fun K hK => ?_)
  go_simp
  refine (fit20 _ _ HO4.out).mono ?_
  rintro e w8 ⟨rfl, hO8, hK8⟩
  have HO8 := hid hO8
  have HK8 := hid ((HK4.out).trans hK8)
  clear hO8 hK8
  try dsimp only
  refine hK.out _ _ (⟨HO8.out.cells 0, HO8.out.cells 1, HO8.out.cells 2⟩) ?_
  clear hK K
  try simp only [Act.put, List.setIfInBounds_toArray, List.set_cons_zero, List.set_cons_succ]
  repeat (first
    | (refine wpL_read (by rfl) (by rfl) ?_ ?_ ?_; rotate_left; (rintro w ⟨z0, z1, z2⟩; go_simp; with_reducible rfl); simp only [Act.put, List.setIfInBounds_toArray, List.set_cons_zero, List.set_cons_succ]) | (refine wpL_skip (by rfl) ?_; simp only [Act.put, List.setIfInBounds_toArray, List.set_cons_zero, List.set_cons_succ]))
  refine wpL_act (by rfl) (by rfl) (fun K hK => ?_)
  go_simp
  refine (fit19 _ _ HO8.out).mono ?_
  rintro e w13 ⟨rfl, hO13, hK13⟩
  have HO13 := hid hO13
  have HK13 := hid ((HK8.out).trans hK13)
  clear hO13 hK13
  try dsimp only
  refine hK.out _ _ (⟨HO13.out.cells 0, HO13.out.cells 1, HO13.out.cells 2⟩) ?_
  clear hK K
  try simp only [Act.put, List.setIfInBounds_toArray, List.set_cons_zero, List.set_cons_succ]
  repeat (first
    | (refine wpL_read (by rfl) (by rfl) ?_ ?_ ?_; rotate_left; (rintro w ⟨z0, z1, z2⟩; go_simp; with_reducible rfl); simp only [Act.put, List.setIfInBounds_toArray, List.set_cons_zero, List.set_cons_succ]) | (refine wpL_skip (by rfl) ?_; simp only [Act.put, List.setIfInBounds_toArray, List.set_cons_zero, List.set_cons_succ]))
  refine wpL_act (by rfl) (by rfl) (fun K hK => ?_)
  go_simp
  refine (HF.out _ _ HO13.out).mono ?_
  rintro e w19 ⟨rfl, hO19, hK19⟩
  have HO19 := hid hO19
  have HK19 := hid ((HK13.out).trans hK19)
  clear hO19 hK19
  try dsimp only
  refine hK.out _ _ (⟨HO19.out.cells 0, HO19.out.cells 1, HO19.out.cells 2⟩) ?_
  clear hK K
  try simp only [Act.put, List.setIfInBounds_toArray, List.set_cons_zero, List.set_cons_succ]
  repeat (first
    | (refine wpL_read (by rfl) (by rfl) ?_ ?_ ?_; rotate_left; (rintro w ⟨z0, z1, z2⟩; go_simp; with_reducible rfl); simp only [Act.put, List.setIfInBounds_toArray, List.set_cons_zero, List.set_cons_succ]) | (refine wpL_skip (by rfl) ?_; simp only [Act.put, List.setIfInBounds_toArray, List.set_cons_zero, List.set_cons_succ]))
  refine wpL_nil ?_
  go_wp2_with fail
  go_ret
  exact ⟨rfl, HO19.out.drop, HK19.out⟩
end Go.Proofs.Ytbggnbahmdgbdaa
