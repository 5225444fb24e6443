/- THE WALKS of geom's places. -/
import Derived.Test.YtbggnbahmdgbdaaGeomA
namespace Go.Proofs.Ytbggnbahmdgbdaa
open Go.RowKit Go.Own Go.Gm
theorem kmul_in {g : Geo} (hm : may g = true) {k : Int} (hk : 0 ≤ k ∧ k < g.n) : 0 ≤ k * long g ∧ k * long g ≤ 840 := by
  obtain ⟨h1, h2, h3, h4⟩ := long_in hm
  have a := Int.mul_nonneg hk.1 (show 0 ≤ long g by omega)
  have b := Int.mul_le_mul (show k ≤ 8 by omega) h2 (by omega) (show (0 : Int) ≤ 8 by omega)
  omega
set_option maxRecDepth 100000 in
set_option maxHeartbeats 4000000 in
theorem gGroup (g : Geo) (k : Int) (w : World) (L : List HP) (hm : may g = true) (hk : 0 ≤ k ∧ k < g.n) (hO : Has w L) : Calls Try.prog 36 #[geoV g, .int .i64 k] w fun e w' => e = .returned (.int .i64 (2 + k * long g)) ∧ Has w' L ∧ Keep w w' := by
  have HO := hid (hO.alloc (.cells (gcell g) 24))
  have HK := hid ((Keep.refl w).alloc (.cells (gcell g) 24))
  have hc := (hO.alloc (.cells (gcell g) 24)).cells
  have HM := hid hm
  have hb := kmul_in hm hk
  have h1 := long_in hm
  have HC := hid (fun w' L (h : Has w' L) => gMay g w' L h)
  have HL := hid (fun w' L (h : Has w' L) => gLong g w' L hm h)
  clear hO hm
  unfold geoV at *
  go_enter Try.func36, Try.ntmps36
  go_wp2_with fail
  refine (HC.out _ _ HO.out).mono ?_
  rintro e w2 ⟨rfl, hO2, hK2⟩
  have HO2 := hid hO2
  have HK2 := hid ((HK.out).trans hK2)
  clear hO2 hK2
  try dsimp only
  rw [HM.out]
  clear hc
  have hc := HO2.out.cells
  go_wp2_with fail
  refine (gBetween k 0 (g.n - 1) w2).mono ?_
  rintro e w' ⟨rfl, rfl⟩
  rw [show (decide (0 ≤ k) && decide (k ≤ g.n - 1)) = true by simp; omega]
  try dsimp only
  go_wp2_with fail
  refine (HL.out _ _ HO2.out).mono ?_
  rintro e w3 ⟨rfl, hO3, hK3⟩
  have HO3 := hid hO3
  have HK3 := hid (HK2.out.trans hK3)
  clear hO3 hK3
  try dsimp only
  obtain ⟨lg, hlg⟩ : ∃ lg, long g = lg := ⟨_, rfl⟩
  rw [hlg] at hb h1 ⊢
  have HLG := hid hlg
  clear hlg
  have e1 := wrap_in (k * lg) (by omega)
  have e2 := wrap_in (2 + k * lg) (by omega)
  go_wp2_with fail
  go_ret
  refine ⟨?_, HO3.out.drop, HK3.out⟩
  rw [HLG.out]
  simp [e1, e2]
theorem imul_in {g : Geo} (hm : may g = true) : 4 ≤ g.n * g.i ∧ g.n * g.i ≤ 256 := by
  obtain ⟨h1, h2, h3, h4, -⟩ := may_iff.1 hm
  have a := Int.mul_le_mul h1 h3 (by omega) (show 0 ≤ g.n by omega)
  have b := Int.mul_le_mul h2 h4 (by omega) (show (0 : Int) ≤ 8 by omega)
  omega
set_option maxRecDepth 100000 in
set_option maxHeartbeats 4000000 in
theorem gOfInode (g : Geo) (n : Int) (w : World) (L : List HP) (hm : may g = true) (hn : 1 ≤ n ∧ n ≤ inodes g) (hO : Has w L) : Calls Try.prog 60 #[geoV g, .int .i64 n] w fun e w' => e = .returned (.tuple #[.int .i64 ((n - 1) / g.i), .int .i64 ((n - 1) % g.i)]) ∧ Has w' L ∧ Keep w w' := by
  have HO := hid (hO.alloc (.cells (gcell g) 24))
  have HK := hid ((Keep.refl w).alloc (.cells (gcell g) 24))
  have hc := (hO.alloc (.cells (gcell g) 24)).cells
  have HM := hid hm
  have hb := imul_in hm
  have hin : inodes g = g.n * g.i := inodes_of hm
  obtain ⟨hg1, hg2, hg3, hg4, hg5, hg6, hg7⟩ := may_iff.1 hm
  have hle : n ≤ 256 := by omega
  have q1 : 0 ≤ (n - 1) / g.i := Int.ediv_nonneg (by omega) (by omega)
  have q2 : (n - 1) / g.i ≤ 256 := Int.le_trans (Int.ediv_le_self _ (by omega)) (by omega)
  have q3 : 0 ≤ (n - 1) % g.i := Int.emod_nonneg _ (by omega)
  have q4 : (n - 1) % g.i < g.i := Int.emod_lt_of_pos _ (by omega)
  have t1 : (n - 1).tdiv g.i = (n - 1) / g.i := Int.tdiv_eq_ediv_of_nonneg (by omega)
  have t2 : (n - 1).tmod g.i = (n - 1) % g.i := Int.tmod_eq_emod_of_nonneg (by omega)
  have t3 : (g.i == 0) = false := by simp; omega
  have t4 : ¬ g.i = 0 := by omega
  have HC := hid (fun w' L (h : Has w' L) => gInodes g w' L h)
  have HN := hid hn
  have w1 := wrapk_in (n - 1) (by omega)
  have w2' := wrapk_in ((n - 1) / g.i) (by omega)
  have w3' := wrapk_in ((n - 1) % g.i) (by omega)
  clear q1 q2 q3 q4
  clear hO hm hin hb hle hg1 hg2 hg3 hg4 hg5 hg6 hg7 hn
  unfold geoV at *
  go_enter Try.func60, Try.ntmps60
  go_wp2_with fail
  refine (HC.out _ _ HO.out).mono ?_
  rintro e w2 ⟨rfl, hO2, hK2⟩
  have HO2 := hid hO2
  have HK2 := hid ((HK.out).trans hK2)
  clear hO2 hK2
  try dsimp only
  clear hc
  have hc := HO2.out.cells
  go_wp2_with fail
  refine (gBetween n 1 (inodes g) w2).mono ?_
  rintro e w' ⟨rfl, rfl⟩
  rw [show (decide (1 ≤ n) && decide (n ≤ inodes g)) = true by have := HN.out; simp; omega]
  try dsimp only
  generalize w.heap.size = b0 at *
  clear hc HO HK
  go_upto_region 3 with fail
  refine region_text (fun w => w.cell? ⟨b0, 0, none⟩ = some (.int .i64 g.n) ∧ w.cell? ⟨b0, 1, none⟩ = some (.int .i64 g.i) ∧ w.cell? ⟨b0, 2, none⟩ = some (.int .i64 g.b)) (by kernel_rfl) (by kernel_rfl) ⟨HO2.out.drew.cells 0, HO2.out.drew.cells 1, HO2.out.drew.cells 2⟩ ?_
  repeat (first
    | (refine wpL_read (by rfl) (by rfl) ?_ ?_ ?_; rotate_left; (rintro w ⟨z0, z1, z2⟩; go_simp; with_reducible rfl); simp only [Act.put, List.setIfInBounds_toArray, List.set_cons_zero, List.set_cons_succ])
    | (refine wpL_skip (by rfl) ?_; simp only [Act.put, List.setIfInBounds_toArray, List.set_cons_zero, List.set_cons_succ]))
  refine wpL_nil ?_
  go_wp2_with fail
  go_ret2
  exact ⟨rfl, HO2.out.drop.drew, HK2.out.drew⟩
theorem inode_q {g : Geo} {n : Int} (hm : may g = true) (hn : 1 ≤ n ∧ n ≤ inodes g) : 0 ≤ (n - 1) / g.i ∧ (n - 1) / g.i < g.n ∧ 0 ≤ (n - 1) % g.i ∧ (n - 1) % g.i < 32 := by
  have hin : inodes g = g.n * g.i := inodes_of hm
  obtain ⟨hg1, hg2, hg3, hg4, hg5, hg6, hg7⟩ := may_iff.1 hm
  have q4 : (n - 1) % g.i < g.i := Int.emod_lt_of_pos _ (by omega)
  exact ⟨Int.ediv_nonneg (by omega) (by omega), Int.ediv_lt_of_lt_mul (by omega) (by rw [← hin]; omega), Int.emod_nonneg _ (by omega), by omega⟩
set_option maxRecDepth 100000 in
set_option maxHeartbeats 4000000 in
theorem gInode (g : Geo) (n : Int) (w : World) (L : List HP) (hm : may g = true) (hn : 1 ≤ n ∧ n ≤ inodes g) (hO : Has w L) : Calls Try.prog 37 #[geoV g, .int .i64 n] w fun e w' => e = .returned (.tuple #[.int .i64 (2 + (n - 1) / g.i * long g + 1 + (n - 1) % g.i / 4), .int .i64 ((n - 1) % g.i % 4)]) ∧ Has w' L ∧ Keep w w' := by
  have HO := hid (hO.alloc (.cells (gcell g) 24))
  have HK := hid ((Keep.refl w).alloc (.cells (gcell g) 24))
  have hc := (hO.alloc (.cells (gcell g) 24)).cells
  have hq := inode_q hm hn
  have hb := kmul_in hm ⟨hq.1, hq.2.1⟩
  have HC := hid (fun w' L (h : Has w' L) => gOfInode g n w' L hm hn h)
  have HG := hid (fun w' L (h : Has w' L) => gGroup g ((n - 1) / g.i) w' L hm ⟨hq.1, hq.2.1⟩ h)
  clear hO hm hn
  unfold geoV at *
  go_enter Try.func37, Try.ntmps37
  go_wp2_with fail
  refine (HC.out _ _ HO.out).mono ?_
  rintro e w2 ⟨rfl, hO2, hK2⟩
  have HO2 := hid hO2
  have HK2 := hid ((HK.out).trans hK2)
  clear hO2 hK2
  try dsimp only
  clear hc HC
  have hc := HO2.out.cells
  obtain ⟨hq1, hq2, hq3, hq4⟩ := hq
  generalize hqd : (n - 1) / g.i = q at *
  generalize hrd : (n - 1) % g.i = r at *
  have HQD := hid hqd
  have HRD := hid hrd
  clear hqd hrd
  have d1 : decide (q < 0) = false := decide_eq_false (by omega)
  go_wp2_with fail
  refine (HG.out _ _ HO2.out).mono ?_
  rintro e w3 ⟨rfl, hO3, hK3⟩
  have HO3 := hid hO3
  have HK3 := hid (HK2.out.trans hK3)
  clear hO3 hK3
  try dsimp only
  obtain ⟨qq, hqq⟩ : ∃ qq, q * long g = qq := ⟨_, rfl⟩
  rw [hqq] at hb ⊢
  have HQ := hid hqq
  clear hqq
  go_wp2_with fail
  go_ret2
  refine ⟨?_, HO3.out.drop, HK3.out⟩
  rw [HQD.out, HRD.out, HQ.out]
  rfl
end Go.Proofs.Ytbggnbahmdgbdaa
