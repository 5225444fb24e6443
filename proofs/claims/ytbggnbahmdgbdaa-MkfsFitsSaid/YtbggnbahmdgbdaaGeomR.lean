/- THE WALKS of the reference's numbers of a geometry. -/
import Derived.Test.YtbggnbahmdgbdaaGeomA
namespace Go.Proofs.Ytbggnbahmdgbdaa
open Go.RowKit Go.Own Go.Gm
set_option maxRecDepth 100000 in
set_option maxHeartbeats 8000000 in
theorem r5May (g : Geo) (w : World) (L : List HP) (hO : Has w L) : Calls Try.prog 39 #[geoV g] w fun e w' => e = .returned (.bool (may g)) ∧ Has w' L ∧ Keep w w' := by
  have HO := hid hO
  have FIN := hid (show ∀ b, b = may g → Ending.returned (.bool b) = .returned (.bool (may g)) ∧ Has (w.alloc (.cells (gcell g) 24)) L ∧ Keep w (w.alloc (.cells (gcell g) 24)) from fun b hb => ⟨by rw [hb], hO.alloc' _, (Keep.refl w).alloc _⟩)
  have hc := (hO.alloc (.cells (gcell g) 24)).cells
  clear hO
  have HM := hid (show may g = ((decide (1 ≤ g.n) && decide (g.n ≤ 8)) && ((decide (4 ≤ g.i) && decide (g.i ≤ 32)) && (decide (g.i.tmod 4 = 0) && (decide (16 ≤ g.b) && decide (g.b ≤ 96))))) from rfl)
  unfold geoV
  go_enter Try.func39, Try.ntmps39
  by_cases h0 : 1 ≤ g.n
  · have H0 := hid (decide_eq_true h0)
    have e0 : decide (g.n ≥ 1) = true := decide_eq_true (by omega)
    by_cases h1 : g.n ≤ 8
    · have H1 := hid (decide_eq_true h1)
      have e1 : decide (g.n ≤ 8) = true := decide_eq_true (by omega)
      by_cases h2 : 4 ≤ g.i
      · have H2 := hid (decide_eq_true h2)
        have e2 : decide (g.i ≥ 4) = true := decide_eq_true (by omega)
        by_cases h3 : g.i ≤ 32
        · have H3 := hid (decide_eq_true h3)
          have e3 : decide (g.i ≤ 32) = true := decide_eq_true (by omega)
          have hw := wrap_in (g.i.tmod 4) (by have := Int.tmod_lt_of_pos g.i (show (0 : Int) < 4 by omega); have := Int.tmod_nonneg 4 (show 0 ≤ g.i by omega); omega)
          by_cases h4 : g.i.tmod 4 = 0
          · have H4 := hid (decide_eq_true h4)
            have e4 : (g.i.tmod 4 == 0) = true := by simp [h4]
            have e4' : (g.i % 4 == 0) = true := by rw [Int.tmod_eq_emod_of_nonneg (by omega)] at h4; simp [h4]
            clear h4
            by_cases h5 : 16 ≤ g.b
            · have H5 := hid (decide_eq_true h5)
              have e5 : decide (g.b ≥ 16) = true := decide_eq_true (by omega)
              by_cases h6 : g.b ≤ 96
              · have H6 := hid (decide_eq_true h6)
                have e6 : decide (g.b ≤ 96) = true := decide_eq_true (by omega)
                go_wp2_with fail
                go_ret
                exact FIN.out _ (by rw [HM.out, H0.out, H1.out, H2.out, H3.out, H4.out, H5.out, H6.out] <;> first | rfl | simp | (simp; omega))
              · have H6 := hid (decide_eq_false h6)
                have e6 : decide (g.b ≤ 96) = false := decide_eq_false (by omega)
                go_wp2_with fail
                go_ret
                exact FIN.out _ (by rw [HM.out, H0.out, H1.out, H2.out, H3.out, H4.out, H5.out, H6.out] <;> first | rfl | simp | (simp; omega))
            · have H5 := hid (decide_eq_false h5)
              have e5 : decide (g.b ≥ 16) = false := decide_eq_false (by omega)
              go_wp2_with fail
              go_ret
              exact FIN.out _ (by rw [HM.out, H0.out, H1.out, H2.out, H3.out, H4.out, H5.out] <;> first | rfl | simp | (simp; omega))
          · have H4 := hid (decide_eq_false h4)
            have e4 : (g.i.tmod 4 == 0) = false := by simp [h4]
            have e4' : (g.i % 4 == 0) = false := by rw [Int.tmod_eq_emod_of_nonneg (by omega)] at h4; simp [h4]
            clear h4
            go_wp2_with fail
            go_ret
            exact FIN.out _ (by rw [HM.out, H0.out, H1.out, H2.out, H3.out, H4.out] <;> first | rfl | simp | (simp; omega))
        · have H3 := hid (decide_eq_false h3)
          have e3 : decide (g.i ≤ 32) = false := decide_eq_false (by omega)
          go_wp2_with fail
          go_ret
          exact FIN.out _ (by rw [HM.out, H0.out, H1.out, H2.out, H3.out] <;> first | rfl | simp | (simp; omega))
      · have H2 := hid (decide_eq_false h2)
        have e2 : decide (g.i ≥ 4) = false := decide_eq_false (by omega)
        go_wp2_with fail
        go_ret
        exact FIN.out _ (by rw [HM.out, H0.out, H1.out, H2.out] <;> first | rfl | simp | (simp; omega))
    · have H1 := hid (decide_eq_false h1)
      have e1 : decide (g.n ≤ 8) = false := decide_eq_false (by omega)
      go_wp2_with fail
      go_ret
      exact FIN.out _ (by rw [HM.out, H0.out, H1.out] <;> first | rfl | simp | (simp; omega))
  · have H0 := hid (decide_eq_false h0)
    have e0 : decide (g.n ≥ 1) = false := decide_eq_false (by omega)
    go_wp2_with fail
    go_ret
    exact FIN.out _ (by rw [HM.out, H0.out] <;> first | rfl | simp | (simp; omega))
theorem r5Long (g : Geo) (w : World) (L : List HP) (hm : may g = true) (hO : Has w L) : Calls Try.prog 54 #[geoV g] w fun e w' => e = .returned (.int .i64 (long g)) ∧ Has w' L ∧ Keep w w' := by
  have HO := hid hO
  have hc := (hO.alloc (.cells (gcell g) 24)).cells
  obtain ⟨h1, h2, h3, h4, h5, h6, h7⟩ := may_iff.1 hm
  have hq : g.i.tdiv 4 = g.i / 4 := Int.tdiv_eq_ediv_of_nonneg (by omega)
  have e1 := wrap_in (g.i / 4) (by omega)
  have e2 := wrap_in (1 + g.i / 4) (by omega)
  have e3 := wrap_in (1 + g.i / 4 + g.b) (by omega)
  have hl : long g = 1 + g.i / 4 + g.b := by rw [long, hq]
  rw [hl]
  have H := hid (And.intro h1 h2)
  clear hO hl h1 h2 h3 h4 h5 h6 h7 hm
  unfold geoV
  go_enter Try.func54, Try.ntmps54
  go_wp2_with fail
  go_ret
  refine ⟨?_, HO.out.alloc' _, (Keep.refl w).alloc _⟩
  simp [e1, e2, e3]
set_option maxRecDepth 100000 in
set_option maxHeartbeats 4000000 in
theorem r5Sectors (g : Geo) (w : World) (L : List HP) (hO : Has w L) : Calls Try.prog 27 #[geoV g] w fun e w' => e = .returned (.int .i64 (sectors g)) ∧ Has w' L ∧ Keep w w' := by
  have HO := hid (hO.alloc (.cells (gcell g) 24))
  have HK := hid ((Keep.refl w).alloc (.cells (gcell g) 24))
  have hc := (hO.alloc (.cells (gcell g) 24)).cells
  clear hO
  have HC := hid (fun w' L (h : Has w' L) => r5May g w' L h)
  have HL := hid (fun w' L hm (h : Has w' L) => r5Long g w' L hm h)
  unfold geoV at *
  go_enter Try.func27, Try.ntmps27
  go_wp2_with fail
  refine (HC.out _ _ HO.out).mono ?_
  rintro e w2 ⟨rfl, hO2, hK2⟩
  have HO2 := hid hO2
  have HK2 := hid ((HK.out).trans hK2)
  clear hO2 hK2
  try dsimp only
  clear hc
  cases hm : may g
  · have H := hid hm
    clear hm
    go_wp2_with fail
    go_ret
    exact ⟨by rw [sectors, H.out]; rfl, HO2.out.drop, HK2.out⟩
  · have H := hid hm
    clear hm
    generalize w.heap.size = b at *
    go_upto_region 3 with fail
    refine region_text (fun w => w.cell? ⟨b, 0, none⟩ = some (.int .i64 g.n) ∧ w.cell? ⟨b, 1, none⟩ = some (.int .i64 g.i) ∧ w.cell? ⟨b, 2, none⟩ = some (.int .i64 g.b)) (by kernel_rfl) (by kernel_rfl) ⟨HO2.out.drew.cells 0, HO2.out.drew.cells 1, HO2.out.drew.cells 2⟩ ?_
    repeat (first
      | (refine wpL_read (by rfl) (by rfl) ?_ ?_ ?_; rotate_left; (rintro w ⟨z0, z1, z2⟩; go_simp; with_reducible rfl); simp only [Act.put, List.setIfInBounds_toArray, List.set_cons_zero, List.set_cons_succ])
      | (refine wpL_skip (by rfl) ?_; simp only [Act.put, List.setIfInBounds_toArray, List.set_cons_zero, List.set_cons_succ]))
    refine wpL_act (by rfl) (by rfl) (fun K hK => ?_)
    go_simp
    refine (HL.out _ _ H.out HO2.out.drew).mono ?_
    rintro e w3 ⟨rfl, hO3, hK3⟩
    have HO3 := hid hO3
    have HK3 := hid (HK2.out.drew.trans hK3)
    clear hO3 hK3
    try dsimp only
    refine hK.out _ _ ⟨HO3.out.cells 0, HO3.out.cells 1, HO3.out.cells 2⟩ ?_
    clear hK K
    try simp only [Act.put, List.setIfInBounds_toArray, List.set_cons_zero, List.set_cons_succ]
    have h1 := long_in H.out
    have h2 := mul_in (a := g.n) (b := long g) ⟨h1.2.2.1, h1.2.2.2⟩ ⟨by omega, h1.2.1⟩
    have e1 := wrap_in (g.n * long g) (by omega)
    have e2 := wrap_in (2 + g.n * long g) (by omega)
    have e3 := wrapk_in (g.n * long g) (by omega)
    have e4 := wrapk_in (2 + g.n * long g) (by omega)
    clear h1 h2
    repeat (first
      | (refine wpL_read (by rfl) (by rfl) ?_ ?_ ?_; rotate_left; (rintro w ⟨z0, z1, z2⟩; go_simp; with_reducible rfl); simp only [Act.put, List.setIfInBounds_toArray, List.set_cons_zero, List.set_cons_succ])
      | (refine wpL_skip (by rfl) ?_; simp only [Act.put, List.setIfInBounds_toArray, List.set_cons_zero, List.set_cons_succ]))
    refine wpL_nil ?_
    go_wp2_with fail
    go_ret
    refine ⟨?_, HO3.out.drop, HK3.out⟩
    rw [sectors, H.out]
    simp [e1, e2, e3, e4]
set_option maxRecDepth 100000 in
set_option maxHeartbeats 4000000 in
theorem r5Inodes (g : Geo) (w : World) (L : List HP) (hO : Has w L) : Calls Try.prog 56 #[geoV g] w fun e w' => e = .returned (.int .i64 (inodes g)) ∧ Has w' L ∧ Keep w w' := by
  have HO := hid (hO.alloc (.cells (gcell g) 24))
  have HK := hid ((Keep.refl w).alloc (.cells (gcell g) 24))
  have hc := (hO.alloc (.cells (gcell g) 24)).cells
  clear hO
  have HC := hid (fun w' L (h : Has w' L) => r5May g w' L h)
  unfold geoV at *
  go_enter Try.func56, Try.ntmps56
  go_wp2_with fail
  refine (HC.out _ _ HO.out).mono ?_
  rintro e w2 ⟨rfl, hO2, hK2⟩
  have HO2 := hid hO2
  have HK2 := hid ((HK.out).trans hK2)
  clear hO2 hK2
  try dsimp only
  clear hc
  have hc := HO2.out.cells
  cases hm : may g
  · have H := hid hm
    clear hm
    go_wp2_with fail
    go_ret
    exact ⟨by rw [inodes, H.out]; rfl, HO2.out.drop, HK2.out⟩
  · have H := hid hm
    clear hm
    have h1 := may_iff.1 H.out
    have h2 := mul_in (a := g.n) (b := g.i) (by omega) (by omega)
    have e1 := wrap_in (g.n * g.i) (by omega)
    have e3 := wrapk_in (g.n * g.i) (by omega)
    clear h1 h2
    go_wp2_with fail
    go_ret
    refine ⟨?_, HO2.out.drop, HK2.out⟩
    rw [inodes, H.out]
    simp [e1, e3]
set_option maxRecDepth 100000 in
set_option maxHeartbeats 4000000 in
theorem r5Blocks (g : Geo) (w : World) (L : List HP) (hO : Has w L) : Calls Try.prog 55 #[geoV g] w fun e w' => e = .returned (.int .i64 (blocks g)) ∧ Has w' L ∧ Keep w w' := by
  have HO := hid (hO.alloc (.cells (gcell g) 24))
  have HK := hid ((Keep.refl w).alloc (.cells (gcell g) 24))
  have hc := (hO.alloc (.cells (gcell g) 24)).cells
  clear hO
  have HC := hid (fun w' L (h : Has w' L) => r5May g w' L h)
  unfold geoV at *
  go_enter Try.func55, Try.ntmps55
  go_wp2_with fail
  refine (HC.out _ _ HO.out).mono ?_
  rintro e w2 ⟨rfl, hO2, hK2⟩
  have HO2 := hid hO2
  have HK2 := hid ((HK.out).trans hK2)
  clear hO2 hK2
  try dsimp only
  clear hc
  have hc := HO2.out.cells
  cases hm : may g
  · have H := hid hm
    clear hm
    go_wp2_with fail
    go_ret
    exact ⟨by rw [blocks, H.out]; rfl, HO2.out.drop, HK2.out⟩
  · have H := hid hm
    clear hm
    have h1 := may_iff.1 H.out
    have h2 := mul_in (a := g.n) (b := g.b) (by omega) (by omega)
    have e1 := wrap_in (g.n * g.b) (by omega)
    have e3 := wrapk_in (g.n * g.b) (by omega)
    clear h1 h2
    go_wp2_with fail
    go_ret
    refine ⟨?_, HO2.out.drop, HK2.out⟩
    rw [blocks, H.out]
    simp [e1, e3]
end Go.Proofs.Ytbggnbahmdgbdaa
