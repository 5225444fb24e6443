/- THE WALKS of geom's numbers. -/
import Derived.Test.YtbggnbahmdgbdaaGeom
import Derived.Test.YtbggnbahmdgbdaaBase
namespace Go.Proofs.Ytbggnbahmdgbdaa
open Go.RowKit Go.Own Go.Gm
def geoV (g : Geo) : Value := .agg #[.int .i64 g.n, .int .i64 g.i, .int .i64 g.b]
abbrev gcell (g : Geo) : Array Value := #[.int .i64 g.n, .int .i64 g.i, .int .i64 g.b]
theorem wrap_in (n : Int) (h : -9223372036854775808 ≤ n ∧ n ≤ 9223372036854775807) : wrap64 n = n := by unfold wrap64; omega
theorem wrapk_in (n : Int) (h : -9223372036854775808 ≤ n ∧ n ≤ 9223372036854775807) : IntKind.i64.wrap n = n := by
  simp [IntKind.wrap, IntKind.bits, IntKind.signed]
  omega
theorem gBetween (n lo hi : Int) (w : World) : Calls Try.prog 30 #[.int .i64 n, .int .i64 lo, .int .i64 hi] w fun e w' => e = .returned (.bool (decide (lo ≤ n) && decide (n ≤ hi))) ∧ w = w' := by
  by_cases h : lo ≤ n
  · have d1 : decide (n ≥ lo) = true := decide_eq_true h
    have e1 : decide (lo ≤ n) = true := decide_eq_true h
    rw [e1, Bool.true_and]
    clear e1
    go_enter Try.func30, Try.ntmps30
    go_wp2
    go_ret
    exact ⟨rfl, rfl⟩
  · have d1 : decide (n ≥ lo) = false := decide_eq_false h
    have e1 : decide (lo ≤ n) = false := decide_eq_false h
    rw [e1, Bool.false_and]
    clear e1
    go_enter Try.func30, Try.ntmps30
    go_wp2
    go_ret
    exact ⟨rfl, rfl⟩
set_option maxRecDepth 100000 in
set_option maxHeartbeats 4000000 in
theorem gMay (g : Geo) (w : World) (L : List HP) (hO : Has w L) : Calls Try.prog 11 #[geoV g] w fun e w' => e = .returned (.bool (may g)) ∧ Has w' L ∧ Keep w w' := by
  have HO := hid hO
  have FIN := hid (show ∀ b, b = may g → Ending.returned (.bool b) = .returned (.bool (may g)) ∧ Has (w.alloc (.cells (gcell g) 24)) L ∧ Keep w (w.alloc (.cells (gcell g) 24)) from fun b hb => ⟨by rw [hb], hO.alloc' _, (Keep.refl w).alloc _⟩)
  have hc := (hO.alloc (.cells (gcell g) 24)).cells
  clear hO
  unfold geoV
  go_enter Try.func11, Try.ntmps11
  have HM := hid (show may g = ((decide (1 ≤ g.n) && decide (g.n ≤ 8)) && ((decide (4 ≤ g.i) && decide (g.i ≤ 32)) && (decide (g.i.tmod 4 = 0) && (decide (16 ≤ g.b) && decide (g.b ≤ 96))))) from rfl)
  go_wp2_with fail
  refine (gBetween g.n 1 8 _).mono ?_
  rintro e w' ⟨rfl, rfl⟩
  try dsimp only
  cases h1 : (decide (1 ≤ g.n) && decide (g.n ≤ 8))
  · have H1 := hid h1
    clear h1
    go_wp2_with fail
    go_ret
    exact FIN.out _ (by rw [HM.out, H1.out, Bool.false_and])
  · have H1 := hid h1
    clear h1
    go_wp2_with fail
    refine (gBetween g.i 4 32 _).mono ?_
    rintro e w' ⟨rfl, rfl⟩
    try dsimp only
    cases h2 : (decide (4 ≤ g.i) && decide (g.i ≤ 32))
    · have H2 := hid h2
      clear h2
      go_wp2_with fail
      go_ret
      exact FIN.out _ (by rw [HM.out, H1.out, H2.out, Bool.true_and, Bool.false_and])
    · have H2 := hid h2
      simp only [Bool.and_eq_true, decide_eq_true_eq] at h2
      have hw := wrap_in (g.i.tmod 4) (by have := Int.tmod_lt_of_pos g.i (show (0 : Int) < 4 by omega); have := Int.tmod_nonneg 4 (show 0 ≤ g.i by omega); omega)
      clear h2
      by_cases h3 : g.i.tmod 4 = 0
      · have H3 := hid (decide_eq_true h3)
        have e3 : (g.i.tmod 4 == 0) = true := by simp [h3]
        clear h3
        go_wp2_with fail
        refine (gBetween g.b 16 96 _).mono ?_
        rintro e w' ⟨rfl, rfl⟩
        try dsimp only
        go_wp2_with fail
        go_ret
        exact FIN.out _ (by rw [HM.out, H1.out, H2.out, H3.out, Bool.true_and, Bool.true_and, Bool.true_and])
      · have H3 := hid (decide_eq_false h3)
        have e3 : (g.i.tmod 4 == 0) = false := by simp [h3]
        clear h3
        go_wp2_with fail
        go_ret
        exact FIN.out _ (by rw [HM.out, H1.out, H2.out, H3.out, Bool.true_and, Bool.true_and, Bool.false_and])
theorem gLong (g : Geo) (w : World) (L : List HP) (hm : may g = true) (hO : Has w L) : Calls Try.prog 29 #[geoV g] w fun e w' => e = .returned (.int .i64 (long g)) ∧ Has w' L ∧ Keep w w' := by
  have HO := hid hO
  have hc := (hO.alloc (.cells (gcell g) 24)).cells
  obtain ⟨h1, h2, h3, h4, h5, h6, h7⟩ := may_iff.1 hm
  have hq : g.i.tdiv 4 = g.i / 4 := Int.tdiv_eq_ediv_of_nonneg (by omega)
  have e1 := wrap_in (g.i / 4) (by omega)
  have e2 := wrap_in (1 + g.i / 4) (by omega)
  have e3 := wrap_in (1 + g.i / 4 + g.b) (by omega)
  have hl : long g = 1 + g.i / 4 + g.b := by rw [long, hq]
  rw [hl]
  have H := hid (And.intro h1 h2)
  clear hO hl h1 h2 h3 h4 h5 h6 h7 hm
  unfold geoV
  go_enter Try.func29, Try.ntmps29
  go_wp2_with fail
  go_ret
  refine ⟨?_, HO.out.alloc' _, (Keep.refl w).alloc _⟩
  simp [e1, e2, e3]
theorem long_in {g : Geo} (hm : may g = true) : 18 ≤ long g ∧ long g ≤ 105 ∧ 1 ≤ g.n ∧ g.n ≤ 8 := by
  obtain ⟨h1, h2, h3, h4, h5, h6, h7⟩ := may_iff.1 hm
  have hq : g.i.tdiv 4 = g.i / 4 := Int.tdiv_eq_ediv_of_nonneg (by omega)
  rw [long, hq]
  omega
theorem mul_in {a b : Int} (ha : 1 ≤ a ∧ a ≤ 8) (hb : 0 ≤ b ∧ b ≤ 105) : 0 ≤ a * b ∧ a * b ≤ 840 := by
  have h1 := Int.mul_nonneg (show 0 ≤ a by omega) hb.1
  have h2 := Int.mul_le_mul ha.2 hb.2 hb.1 (show (0 : Int) ≤ 8 by omega)
  omega
set_option maxRecDepth 100000 in
set_option maxHeartbeats 4000000 in
theorem gSectors (g : Geo) (w : World) (L : List HP) (hO : Has w L) : Calls Try.prog 10 #[geoV g] w fun e w' => e = .returned (.int .i64 (sectors g)) ∧ Has w' L ∧ Keep w w' := by
  have HO := hid (hO.alloc (.cells (gcell g) 24))
  have HK := hid ((Keep.refl w).alloc (.cells (gcell g) 24))
  have hc := (hO.alloc (.cells (gcell g) 24)).cells
  clear hO
  have HC := hid (fun w' L (h : Has w' L) => gMay g w' L h)
  have HL := hid (fun w' L hm (h : Has w' L) => gLong g w' L hm h)
  unfold geoV at *
  go_enter Try.func10, Try.ntmps10
  go_wp2_with fail
  refine (HC.out _ _ HO.out).mono ?_
  rintro e w2 ⟨rfl, hO2, hK2⟩
  have HO2 := hid hO2
  have HK2 := hid ((HK.out).trans hK2)
  clear hO2 hK2
  try dsimp only
  clear hc
  cases hm : may g
  · have H := hid hm
    clear hm
    go_wp2_with fail
    go_ret
    exact ⟨by rw [sectors, H.out]; rfl, HO2.out.drop, HK2.out⟩
  · have H := hid hm
    clear hm
    generalize w.heap.size = b at *
    go_upto_region 3 with fail
    refine region_text (fun w => w.cell? ⟨b, 0, none⟩ = some (.int .i64 g.n) ∧ w.cell? ⟨b, 1, none⟩ = some (.int .i64 g.i) ∧ w.cell? ⟨b, 2, none⟩ = some (.int .i64 g.b)) (by kernel_rfl) (by kernel_rfl) ⟨HO2.out.drew.cells 0, HO2.out.drew.cells 1, HO2.out.drew.cells 2⟩ ?_
    repeat (first
      | (refine wpL_read (by rfl) (by rfl) ?_ ?_ ?_; rotate_left; (rintro w ⟨z0, z1, z2⟩; go_simp; with_reducible rfl); simp only [Act.put, List.setIfInBounds_toArray, List.set_cons_zero, List.set_cons_succ])
      | (refine wpL_skip (by rfl) ?_; simp only [Act.put, List.setIfInBounds_toArray, List.set_cons_zero, List.set_cons_succ]))
    refine wpL_act (by rfl) (by rfl) (fun K hK => ?_)
    go_simp
    refine (HL.out _ _ H.out HO2.out.drew).mono ?_
    rintro e w3 ⟨rfl, hO3, hK3⟩
    have HO3 := hid hO3
    have HK3 := hid (HK2.out.drew.trans hK3)
    clear hO3 hK3
    try dsimp only
    refine hK.out _ _ ⟨HO3.out.cells 0, HO3.out.cells 1, HO3.out.cells 2⟩ ?_
    clear hK K
    try simp only [Act.put, List.setIfInBounds_toArray, List.set_cons_zero, List.set_cons_succ]
    have h1 := long_in H.out
    have h2 := mul_in (a := g.n) (b := long g) ⟨h1.2.2.1, h1.2.2.2⟩ ⟨by omega, h1.2.1⟩
    have e1 := wrap_in (g.n * long g) (by omega)
    have e2 := wrap_in (2 + g.n * long g) (by omega)
    have e3 := wrapk_in (g.n * long g) (by omega)
    have e4 := wrapk_in (2 + g.n * long g) (by omega)
    clear h1 h2
    repeat (first
      | (refine wpL_read (by rfl) (by rfl) ?_ ?_ ?_; rotate_left; (rintro w ⟨z0, z1, z2⟩; go_simp; with_reducible rfl); simp only [Act.put, List.setIfInBounds_toArray, List.set_cons_zero, List.set_cons_succ])
      | (refine wpL_skip (by rfl) ?_; simp only [Act.put, List.setIfInBounds_toArray, List.set_cons_zero, List.set_cons_succ]))
    refine wpL_nil ?_
    go_wp2_with fail
    go_ret
    refine ⟨?_, HO3.out.drop, HK3.out⟩
    rw [sectors, H.out]
    simp [e1, e2, e3, e4]
set_option maxRecDepth 100000 in
set_option maxHeartbeats 4000000 in
theorem gInodes (g : Geo) (w : World) (L : List HP) (hO : Has w L) : Calls Try.prog 26 #[geoV g] w fun e w' => e = .returned (.int .i64 (inodes g)) ∧ Has w' L ∧ Keep w w' := by
  have HO := hid (hO.alloc (.cells (gcell g) 24))
  have HK := hid ((Keep.refl w).alloc (.cells (gcell g) 24))
  have hc := (hO.alloc (.cells (gcell g) 24)).cells
  clear hO
  have HC := hid (fun w' L (h : Has w' L) => gMay g w' L h)
  unfold geoV at *
  go_enter Try.func26, Try.ntmps26
  go_wp2_with fail
  refine (HC.out _ _ HO.out).mono ?_
  rintro e w2 ⟨rfl, hO2, hK2⟩
  have HO2 := hid hO2
  have HK2 := hid ((HK.out).trans hK2)
  clear hO2 hK2
  try dsimp only
  clear hc
  have hc := HO2.out.cells
  cases hm : may g
  · have H := hid hm
    clear hm
    go_wp2_with fail
    go_ret
    exact ⟨by rw [inodes, H.out]; rfl, HO2.out.drop, HK2.out⟩
  · have H := hid hm
    clear hm
    have h1 := may_iff.1 H.out
    have h2 := mul_in (a := g.n) (b := g.i) (by omega) (by omega)
    have e1 := wrap_in (g.n * g.i) (by omega)
    have e3 := wrapk_in (g.n * g.i) (by omega)
    clear h1 h2
    go_wp2_with fail
    go_ret
    refine ⟨?_, HO2.out.drop, HK2.out⟩
    rw [inodes, H.out]
    simp [e1, e3]
set_option maxRecDepth 100000 in
set_option maxHeartbeats 4000000 in
theorem gBlocks (g : Geo) (w : World) (L : List HP) (hO : Has w L) : Calls Try.prog 9 #[geoV g] w fun e w' => e = .returned (.int .i64 (blocks g)) ∧ Has w' L ∧ Keep w w' := by
  have HO := hid (hO.alloc (.cells (gcell g) 24))
  have HK := hid ((Keep.refl w).alloc (.cells (gcell g) 24))
  have hc := (hO.alloc (.cells (gcell g) 24)).cells
  clear hO
  have HC := hid (fun w' L (h : Has w' L) => gMay g w' L h)
  unfold geoV at *
  go_enter Try.func9, Try.ntmps9
  go_wp2_with fail
  refine (HC.out _ _ HO.out).mono ?_
  rintro e w2 ⟨rfl, hO2, hK2⟩
  have HO2 := hid hO2
  have HK2 := hid ((HK.out).trans hK2)
  clear hO2 hK2
  try dsimp only
  clear hc
  have hc := HO2.out.cells
  cases hm : may g
  · have H := hid hm
    clear hm
    go_wp2_with fail
    go_ret
    exact ⟨by rw [blocks, H.out]; rfl, HO2.out.drop, HK2.out⟩
  · have H := hid hm
    clear hm
    have h1 := may_iff.1 H.out
    have h2 := mul_in (a := g.n) (b := g.b) (by omega) (by omega)
    have e1 := wrap_in (g.n * g.b) (by omega)
    have e3 := wrapk_in (g.n * g.b) (by omega)
    clear h1 h2
    go_wp2_with fail
    go_ret
    refine ⟨?_, HO2.out.drop, HK2.out⟩
    rw [blocks, H.out]
    simp [e1, e3]
end Go.Proofs.Ytbggnbahmdgbdaa
