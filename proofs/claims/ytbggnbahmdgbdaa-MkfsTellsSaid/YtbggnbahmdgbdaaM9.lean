/- TEXTS of mine, merged. -/
import Derived.Test.YtbggnbahmdgbdaaM5
import Derived.Test.YtbggnbahmdgbdaaM8
import Derived.Test.YtbggnbahmdgbdaaM6
import Derived.Test.YtbggnbahmdgbdaaM4
/- THE WALKS of the reference's numbers of a geometry. -/
namespace Go.Proofs.Ytbggnbahmdgbdaa
open Go.RowKit Go.Own Go.Gm
set_option maxRecDepth 100000 in
set_option maxHeartbeats 8000000 in
theorem r5May (g : Geo) (w : World) (L : List HP) (hO : Has w L) : Calls Try.prog 39 #[geoV g] w fun e w' => e = .returned (.bool (may g)) ∧ Has w' L ∧ Keep w w' := by
  have HO := hid hO
  have FIN := hid (show ∀ b, b = may g → Ending.returned (.bool b) = .returned (.bool (may g)) ∧ Has (w.alloc (.cells (gcell g) 24)) L ∧ Keep w (w.alloc (.cells (gcell g) 24)) from fun b hb => ⟨by rw [hb], hO.alloc' _, (Keep.refl w).alloc _⟩)
  have hc := (hO.alloc (.cells (gcell g) 24)).cells
  clear hO
  have HM := hid (show may g = ((decide (1 ≤ g.n) && decide (g.n ≤ 8)) && ((decide (4 ≤ g.i) && decide (g.i ≤ 32)) && (decide (g.i.tmod 4 = 0) && (decide (16 ≤ g.b) && decide (g.b ≤ 96))))) from rfl)
  unfold geoV
  go_enter Try.func39, Try.ntmps39
  by_cases h0 : 1 ≤ g.n
  · have H0 := hid (decide_eq_true h0)
    have e0 : decide (g.n ≥ 1) = true := decide_eq_true (by omega)
    by_cases h1 : g.n ≤ 8
    · have H1 := hid (decide_eq_true h1)
      have e1 : decide (g.n ≤ 8) = true := decide_eq_true (by omega)
      by_cases h2 : 4 ≤ g.i
      · have H2 := hid (decide_eq_true h2)
        have e2 : decide (g.i ≥ 4) = true := decide_eq_true (by omega)
        by_cases h3 : g.i ≤ 32
        · have H3 := hid (decide_eq_true h3)
          have e3 : decide (g.i ≤ 32) = true := decide_eq_true (by omega)
          have hw := wrap_in (g.i.tmod 4) (by have := Int.tmod_lt_of_pos g.i (show (0 : Int) < 4 by omega); have := Int.tmod_nonneg 4 (show 0 ≤ g.i by omega); omega)
          by_cases h4 : g.i.tmod 4 = 0
          · have H4 := hid (decide_eq_true h4)
            have e4 : (g.i.tmod 4 == 0) = true := by simp [h4]
            have e4' : (g.i % 4 == 0) = true := by rw [Int.tmod_eq_emod_of_nonneg (by omega)] at h4; simp [h4]
            clear h4
            by_cases h5 : 16 ≤ g.b
            · have H5 := hid (decide_eq_true h5)
              have e5 : decide (g.b ≥ 16) = true := decide_eq_true (by omega)
              by_cases h6 : g.b ≤ 96
              · have H6 := hid (decide_eq_true h6)
                have e6 : decide (g.b ≤ 96) = true := decide_eq_true (by omega)
                go_wp2_with fail
                go_ret
                exact FIN.out _ (by rw [HM.out, H0.out, H1.out, H2.out, H3.out, H4.out, H5.out, H6.out] <;> first | rfl | simp | (simp; omega))
              · have H6 := hid (decide_eq_false h6)
                have e6 : decide (g.b ≤ 96) = false := decide_eq_false (by omega)
                go_wp2_with fail
                go_ret
                exact FIN.out _ (by rw [HM.out, H0.out, H1.out, H2.out, H3.out, H4.out, H5.out, H6.out] <;> first | rfl | simp | (simp; omega))
            · have H5 := hid (decide_eq_false h5)
              have e5 : decide (g.b ≥ 16) = false := decide_eq_false (by omega)
              go_wp2_with fail
              go_ret
              exact FIN.out _ (by rw [HM.out, H0.out, H1.out, H2.out, H3.out, H4.out, H5.out] <;> first | rfl | simp | (simp; omega))
          · have H4 := hid (decide_eq_false h4)
            have e4 : (g.i.tmod 4 == 0) = false := by simp [h4]
            have e4' : (g.i % 4 == 0) = false := by rw [Int.tmod_eq_emod_of_nonneg (by omega)] at h4; simp [h4]
            clear h4
            go_wp2_with fail
            go_ret
            exact FIN.out _ (by rw [HM.out, H0.out, H1.out, H2.out, H3.out, H4.out] <;> first | rfl | simp | (simp; omega))
        · have H3 := hid (decide_eq_false h3)
          have e3 : decide (g.i ≤ 32) = false := decide_eq_false (by omega)
          go_wp2_with fail
          go_ret
          exact FIN.out _ (by rw [HM.out, H0.out, H1.out, H2.out, H3.out] <;> first | rfl | simp | (simp; omega))
      · have H2 := hid (decide_eq_false h2)
        have e2 : decide (g.i ≥ 4) = false := decide_eq_false (by omega)
        go_wp2_with fail
        go_ret
        exact FIN.out _ (by rw [HM.out, H0.out, H1.out, H2.out] <;> first | rfl | simp | (simp; omega))
    · have H1 := hid (decide_eq_false h1)
      have e1 : decide (g.n ≤ 8) = false := decide_eq_false (by omega)
      go_wp2_with fail
      go_ret
      exact FIN.out _ (by rw [HM.out, H0.out, H1.out] <;> first | rfl | simp | (simp; omega))
  · have H0 := hid (decide_eq_false h0)
    have e0 : decide (g.n ≥ 1) = false := decide_eq_false (by omega)
    go_wp2_with fail
    go_ret
    exact FIN.out _ (by rw [HM.out, H0.out] <;> first | rfl | simp | (simp; omega))
theorem r5Long (g : Geo) (w : World) (L : List HP) (hm : may g = true) (hO : Has w L) : Calls Try.prog 54 #[geoV g] w fun e w' => e = .returned (.int .i64 (long g)) ∧ Has w' L ∧ Keep w w' := by
  have HO := hid hO
  have hc := (hO.alloc (.cells (gcell g) 24)).cells
  obtain ⟨h1, h2, h3, h4, h5, h6, h7⟩ := may_iff.1 hm
  have hq : g.i.tdiv 4 = g.i / 4 := Int.tdiv_eq_ediv_of_nonneg (by omega)
  have e1 := wrap_in (g.i / 4) (by omega)
  have e2 := wrap_in (1 + g.i / 4) (by omega)
  have e3 := wrap_in (1 + g.i / 4 + g.b) (by omega)
  have hl : long g = 1 + g.i / 4 + g.b := by rw [long, hq]
  rw [hl]
  have H := hid (And.intro h1 h2)
  clear hO hl h1 h2 h3 h4 h5 h6 h7 hm
  unfold geoV
  go_enter Try.func54, Try.ntmps54
  go_wp2_with fail
  go_ret
  refine ⟨?_, HO.out.alloc' _, (Keep.refl w).alloc _⟩
  simp [e1, e2, e3]
set_option maxRecDepth 100000 in
set_option maxHeartbeats 4000000 in
theorem r5Sectors (g : Geo) (w : World) (L : List HP) (hO : Has w L) : Calls Try.prog 27 #[geoV g] w fun e w' => e = .returned (.int .i64 (sectors g)) ∧ Has w' L ∧ Keep w w' := by
  have HO := hid (hO.alloc (.cells (gcell g) 24))
  have HK := hid ((Keep.refl w).alloc (.cells (gcell g) 24))
  have hc := (hO.alloc (.cells (gcell g) 24)).cells
  clear hO
  have HC := hid (fun w' L (h : Has w' L) => r5May g w' L h)
  have HL := hid (fun w' L hm (h : Has w' L) => r5Long g w' L hm h)
  unfold geoV at *
  go_enter Try.func27, Try.ntmps27
  go_wp2_with fail
  refine (HC.out _ _ HO.out).mono ?_
  rintro e w2 ⟨rfl, hO2, hK2⟩
  have HO2 := hid hO2
  have HK2 := hid ((HK.out).trans hK2)
  clear hO2 hK2
  try dsimp only
  clear hc
  cases hm : may g
  · have H := hid hm
    clear hm
    go_wp2_with fail
    go_ret
    exact ⟨by rw [sectors, H.out]; rfl, HO2.out.drop, HK2.out⟩
  · have H := hid hm
    clear hm
    generalize w.heap.size = b at *
    go_upto_region 3 with fail
    refine region_text (fun w => w.cell? ⟨b, 0, none⟩ = some (.int .i64 g.n) ∧ w.cell? ⟨b, 1, none⟩ = some (.int .i64 g.i) ∧ w.cell? ⟨b, 2, none⟩ = some (.int .i64 g.b)) (by kernel_rfl) (by kernel_rfl) ⟨HO2.out.drew.cells 0, HO2.out.drew.cells 1, HO2.out.drew.cells 2⟩ ?_
    repeat (first
      | (refine wpL_read (by rfl) (by rfl) ?_ ?_ ?_; rotate_left; (rintro w ⟨z0, z1, z2⟩; go_simp; with_reducible rfl); simp only [Act.put, List.setIfInBounds_toArray, List.set_cons_zero, List.set_cons_succ])
      | (refine wpL_skip (by rfl) ?_; simp only [Act.put, List.setIfInBounds_toArray, List.set_cons_zero, List.set_cons_succ]))
    refine wpL_act (by rfl) (by rfl) (fun K hK => ?_)
    go_simp
    refine (HL.out _ _ H.out HO2.out.drew).mono ?_
    rintro e w3 ⟨rfl, hO3, hK3⟩
    have HO3 := hid hO3
    have HK3 := hid (HK2.out.drew.trans hK3)
    clear hO3 hK3
    try dsimp only
    refine hK.out _ _ ⟨HO3.out.cells 0, HO3.out.cells 1, HO3.out.cells 2⟩ ?_
    clear hK K
    try simp only [Act.put, List.setIfInBounds_toArray, List.set_cons_zero, List.set_cons_succ]
    have h1 := long_in H.out
    have h2 := mul_in (a := g.n) (b := long g) ⟨h1.2.2.1, h1.2.2.2⟩ ⟨by omega, h1.2.1⟩
    have e1 := wrap_in (g.n * long g) (by omega)
    have e2 := wrap_in (2 + g.n * long g) (by omega)
    have e3 := wrapk_in (g.n * long g) (by omega)
    have e4 := wrapk_in (2 + g.n * long g) (by omega)
    clear h1 h2
    repeat (first
      | (refine wpL_read (by rfl) (by rfl) ?_ ?_ ?_; rotate_left; (rintro w ⟨z0, z1, z2⟩; go_simp; with_reducible rfl); simp only [Act.put, List.setIfInBounds_toArray, List.set_cons_zero, List.set_cons_succ])
      | (refine wpL_skip (by rfl) ?_; simp only [Act.put, List.setIfInBounds_toArray, List.set_cons_zero, List.set_cons_succ]))
    refine wpL_nil ?_
    go_wp2_with fail
    go_ret
    refine ⟨?_, HO3.out.drop, HK3.out⟩
    rw [sectors, H.out]
    simp [e1, e2, e3, e4]
set_option maxRecDepth 100000 in
set_option maxHeartbeats 4000000 in
theorem r5Inodes (g : Geo) (w : World) (L : List HP) (hO : Has w L) : Calls Try.prog 56 #[geoV g] w fun e w' => e = .returned (.int .i64 (inodes g)) ∧ Has w' L ∧ Keep w w' := by
  have HO := hid (hO.alloc (.cells (gcell g) 24))
  have HK := hid ((Keep.refl w).alloc (.cells (gcell g) 24))
  have hc := (hO.alloc (.cells (gcell g) 24)).cells
  clear hO
  have HC := hid (fun w' L (h : Has w' L) => r5May g w' L h)
  unfold geoV at *
  go_enter Try.func56, Try.ntmps56
  go_wp2_with fail
  refine (HC.out _ _ HO.out).mono ?_
  rintro e w2 ⟨rfl, hO2, hK2⟩
  have HO2 := hid hO2
  have HK2 := hid ((HK.out).trans hK2)
  clear hO2 hK2
  try dsimp only
  clear hc
  have hc := HO2.out.cells
  cases hm : may g
  · have H := hid hm
    clear hm
    go_wp2_with fail
    go_ret
    exact ⟨by rw [inodes, H.out]; rfl, HO2.out.drop, HK2.out⟩
  · have H := hid hm
    clear hm
    have h1 := may_iff.1 H.out
    have h2 := mul_in (a := g.n) (b := g.i) (by omega) (by omega)
    have e1 := wrap_in (g.n * g.i) (by omega)
    have e3 := wrapk_in (g.n * g.i) (by omega)
    clear h1 h2
    go_wp2_with fail
    go_ret
    refine ⟨?_, HO2.out.drop, HK2.out⟩
    rw [inodes, H.out]
    simp [e1, e3]
set_option maxRecDepth 100000 in
set_option maxHeartbeats 4000000 in
theorem r5Blocks (g : Geo) (w : World) (L : List HP) (hO : Has w L) : Calls Try.prog 55 #[geoV g] w fun e w' => e = .returned (.int .i64 (blocks g)) ∧ Has w' L ∧ Keep w w' := by
  have HO := hid (hO.alloc (.cells (gcell g) 24))
  have HK := hid ((Keep.refl w).alloc (.cells (gcell g) 24))
  have hc := (hO.alloc (.cells (gcell g) 24)).cells
  clear hO
  have HC := hid (fun w' L (h : Has w' L) => r5May g w' L h)
  unfold geoV at *
  go_enter Try.func55, Try.ntmps55
  go_wp2_with fail
  refine (HC.out _ _ HO.out).mono ?_
  rintro e w2 ⟨rfl, hO2, hK2⟩
  have HO2 := hid hO2
  have HK2 := hid ((HK.out).trans hK2)
  clear hO2 hK2
  try dsimp only
  clear hc
  have hc := HO2.out.cells
  cases hm : may g
  · have H := hid hm
    clear hm
    go_wp2_with fail
    go_ret
    exact ⟨by rw [blocks, H.out]; rfl, HO2.out.drop, HK2.out⟩
  · have H := hid hm
    clear hm
    have h1 := may_iff.1 H.out
    have h2 := mul_in (a := g.n) (b := g.b) (by omega) (by omega)
    have e1 := wrap_in (g.n * g.b) (by omega)
    have e3 := wrapk_in (g.n * g.b) (by omega)
    clear h1 h2
    go_wp2_with fail
    go_ret
    refine ⟨?_, HO2.out.drop, HK2.out⟩
    rw [blocks, H.out]
    simp [e1, e3]
end Go.Proofs.Ytbggnbahmdgbdaa
/- THE WALKS of the document's superblock and record. -/
namespace Go.Proofs.Ytbggnbahmdgbdaa
open Go.RowKit Go.Own Go.Sl Go.Gm
set_option maxRecDepth 100000 in
set_option maxHeartbeats 8000000 in
theorem rLay6 (g : Geo) (w : World) (L : List HP) (hm : may g = true) (hO : Has w L) :
    Calls Try.prog 40 #[geoV g, .bool true] w fun e w' => ∃ v', e = .returned (.tuple #[v', .int .i64 0]) ∧ Has w' (Bytes v' (superL g) :: L) ∧ Keep w w' := by
  have HO := hid (hO.alloc (.cells (gcell g) 24))
  have HK := hid ((Keep.refl w).alloc (.cells (gcell g) 24))
  have HC := hid (fun w' L (h : Has w' L) => r5May g w' L h)
  have hc := (hO.alloc (.cells (gcell g) 24)).cells
  have HM := hid hm
  clear hO hm
  unfold geoV at *
  go_enter Try.func40, Try.ntmps40
  go_wp2_with fail
  refine (HC.out _ _ HO.out).mono ?_
  rintro e w2 ⟨rfl, hO2, hK2⟩
  have HO2 := hid hO2
  have HK2 := hid ((HK.out).trans hK2)
  clear hO2 hK2
  try dsimp only
  clear hc
  have hc := HO2.out.cells
  rw [HM.out]
  have h1 := may_iff.1 HM.out
  have e1 : g.n % 256 = g.n := by omega
  have e2 : g.i % 256 = g.i := by omega
  have e3 : g.b % 256 = g.b := by omega
  clear h1
  have HO3 := hid (bytesLit (superB g) (HO2.out.alloc (.cells #[.int .u8 80, .int .u8 82, .int .u8 76, .int .u8 1, .int .u8 g.n, .int .u8 g.i, .int .u8 g.b, .int .u8 1] 5)) rfl (by show 8 ≤ 1000000000; omega))
  have HK3 := hid (HK2.out.alloc (.cells #[.int .u8 80, .int .u8 82, .int .u8 76, .int .u8 1, .int .u8 g.n, .int .u8 g.i, .int .u8 g.b, .int .u8 1] 5))
  go_wp2_with fail
  refine (rSeal 83 (.slice (some ⟨w2.heap.size, 0, none⟩) 8 8) (superB g) _ _ (by decide) (by show 8 ≤ 123; omega) (fun w' h => Bytes.rd h) HO3.out).mono ?_
  rintro e w5 ⟨v5, rfl, hO5, hK5⟩
  have HO5 := hid hO5
  have HK5 := hid ((HK3.out).trans hK5)
  clear hO5 hK5
  try dsimp only
  go_wp2_with fail
  go_ret2
  exact ⟨v5, rfl, HO5.out.p1.drop.p1.drop, HK5.out⟩
set_option maxRecDepth 100000 in
set_option maxHeartbeats 4000000 in
theorem r10May0 (w : World) (L : List HP) (hO : Has w L) : Calls Try.prog 64 #[rec0] w fun e w' => e = .returned (.bool true) ∧ Has w' L ∧ Keep w w' := by
  have HO := hid (hO.alloc (.cells #[.bool false, .int .i64 0, .int .i64 0, .int .i64 0, .int .i64 0, .string ByteArray.empty, .string ByteArray.empty] 58))
  have HK := hid ((Keep.refl w).alloc (.cells #[.bool false, .int .i64 0, .int .i64 0, .int .i64 0, .int .i64 0, .string ByteArray.empty, .string ByteArray.empty] 58))
  have hc := (hO.alloc (.cells #[.bool false, .int .i64 0, .int .i64 0, .int .i64 0, .int .i64 0, .string ByteArray.empty, .string ByteArray.empty] 58)).cells
  clear hO
  unfold rec0
  go_enter Try.func64, Try.ntmps64
  go_wp2_with fail
  go_ret
  exact ⟨rfl, HO.out.drop, HK.out⟩
set_option maxRecDepth 100000 in
set_option maxHeartbeats 4000000 in
theorem r10Named0 (v : Value) (m : Nat) (w : World) (L : List HP) (hm : 1 ≤ m) (hm2 : m ≤ 1000) (hO : Has w (Bytes v (zs m) :: L)) : Calls Try.prog 65 #[v, .string ByteArray.empty] w fun e w' => ∃ v', e = .returned v' ∧ Has w' (Bytes v' (zs (m + 25)) :: L) ∧ Keep w w' := by
  have HL := hid (And.intro hm hm2)
  have HZ := hid (show (zs m).length = m by simp [zs])
  have HO := hid (hO.alloc (.cells #[.int .u8 0] 5))
  have HK := hid ((Keep.refl w).alloc (.cells #[.int .u8 0] 5))
  have HB := hid (show Has (w.alloc (.cells #[.int .u8 0] 5)) (row v 5 1 m (bc (zs m)) :: pt w.heap.size (.cells #[.int .u8 0] 5) :: L) from by
    have h := HO.out.p1
    unfold Bytes at h
    rwa [HZ.out] at h)
  have HRD := hid (Bytes.rd (bytesLit [0] HO.out rfl (by decide)))
  clear hO hm hm2
  go_enter Try.func65, Try.ntmps65
  go_wp2_with (at_builtin; refine wpList_appendA rfl _ _ _ rfl Try.underlying35 infoU8 rfl (by decide) HB.out rfl _ 1 (bc [0]) rfl HRD.out (bc_one _) (le_maxLen (by have := HL.out; omega)) (by have := HL.out; omega) ?_)
  intro v2 w2 h2 hk2
  have HO2 := hid (show Has w2 (row v2 5 1 (m + 1) (bc (zs (m + 1))) :: L) from by
    have e : bc (zs m) ++ bc [0] = bc (zs (m + 1)) := by
      simp only [bc, zs, List.map_replicate]
      rw [show List.map (Value.int .u8) [0] = List.replicate 1 (Value.int .u8 0) from rfl, List.replicate_append_replicate]
    have h := h2.p1.drop
    rwa [e] at h)
  have HK2 := hid (HK.out.trans hk2)
  obtain ⟨g2, c2, rfl⟩ : ∃ g2 c2, v2 = .slice (some ⟨g2, 0, none⟩) (m + 1) c2 := by
    rcases HO2.out.row_cases with ⟨-, ⟨-, h, -⟩ | ⟨g, c, cur, h, -⟩⟩
    · omega
    · exact ⟨g, c, h⟩
  clear h2 hk2 HO HK HB HRD
  go_wp2_with (at_builtin; refine wpList_appendStr rfl _ _ _ _ rfl Try.underlying35 Try.underlying9 infoU8 rfl HO2.out rfl ByteArray.empty rfl (le_maxLen (by have := HL.out; show m + 1 + 0 ≤ _; omega)) (by have := HL.out; show (m + 1 + 0) * 1 ≤ _; omega) ?_)
  intro v3 w3 h3 hk3
  have HO3 := hid (show Has w3 (row v3 5 1 (m + 1) (bc (zs (m + 1))) :: L) from by
    have e : bc (zs (m + 1)) ++ Lib.strCells ByteArray.empty = bc (zs (m + 1)) := by
      rw [show Lib.strCells ByteArray.empty = [] from rfl, List.append_nil]
    rw [e] at h3
    exact h3)
  have HK3 := hid (HK2.out.trans hk3)
  obtain ⟨p3, c3, rfl, -⟩ := HO3.out.rd.form
  clear h3 hk3 HO2 HK2
  go_wp2_with (at_builtin; refine wpList_appendZ rfl _ _ _ _ rfl Try.underlying35 underInt infoU8 rfl rfl HO3.out rfl 24 rfl (le_maxLen (by have := HL.out; omega)) (by have := HL.out; omega) ?_)
  intro v4 w4 h4 hk4
  have HO4 := hid (show Has w4 (Bytes v4 (zs (m + 25)) :: L) from by
    have e : bc (zs (m + 1)) ++ List.replicate 24 (Value.int .u8 0) = bc (zs (m + 25)) := by
      simp only [bc, zs, List.map_replicate]
      rw [List.replicate_append_replicate]
    have h5 : Has w4 (row v4 5 1 (m + 1 + 24) (bc (zs (m + 1)) ++ List.replicate 24 (Value.int .u8 0)) :: L) := h4
    rw [e] at h5
    unfold Bytes
    rwa [show (zs (m + 25)).length = m + 1 + 24 by simp [zs]])
  have HK4 := hid (HK3.out.trans hk4)
  clear h4 hk4 HO3 HK3
  go_wp2_with fail
  go_ret
  exact ⟨_, rfl, HO4.out, HK4.out⟩
set_option maxRecDepth 100000 in
set_option maxHeartbeats 8000000 in
theorem rLay10 (w : World) (L : List HP) (hO : Has w L) : Calls Try.prog 41 #[rec0] w fun e w' => ∃ v', e = .returned (.tuple #[v', .int .i64 0]) ∧ Has w' (Bytes v' (sealL 82 (zs 59)) :: L) ∧ Keep w w' := by
  have HO := hid (hO.alloc (.cells #[.bool false, .int .i64 0, .int .i64 0, .int .i64 0, .int .i64 0, .string ByteArray.empty, .string ByteArray.empty] 58))
  have HK := hid ((Keep.refl w).alloc (.cells #[.bool false, .int .i64 0, .int .i64 0, .int .i64 0, .int .i64 0, .string ByteArray.empty, .string ByteArray.empty] 58))
  have hc := (hO.alloc (.cells #[.bool false, .int .i64 0, .int .i64 0, .int .i64 0, .int .i64 0, .string ByteArray.empty, .string ByteArray.empty] 58)).cells
  have HM := hid (fun w' L (h : Has w' L) => r10May0 w' L h)
  clear hO
  unfold rec0 at *
  go_enter Try.func41, Try.ntmps41
  go_wp2_with fail
  refine (HM.out _ _ HO.out).mono ?_
  rintro e w2 ⟨rfl, hO2, hK2⟩
  have HO2 := hid hO2
  have HK2 := hid ((HK.out).trans hK2)
  clear hO2 hK2
  try dsimp only
  clear hc HO HK
  have hc := HO2.out.cells
  generalize w.heap.size = b0 at *
  have hcl := (HO2.out.alloc (.cells (bc (zs 9)).toArray 5)).p1.cells
  have HO3 := hid (bytesLit (zs 9) (HO2.out.alloc (.cells (bc (zs 9)).toArray 5)) rfl (by decide))
  have HK3 := hid (HK2.out.alloc (.cells (bc (zs 9)).toArray 5))
  have he : (bc (zs 9)).toArray = #[.int .u8 0, .int .u8 0, .int .u8 0, .int .u8 0, .int .u8 0, .int .u8 0, .int .u8 0, .int .u8 0, .int .u8 0] := rfl
  rw [he] at HO3 HK3 hcl
  clear he
  go_wp2_with fail
  clear hcl hc HO2 HK2
  refine region_text (fun w' => w'.cell? ⟨b0, 5, none⟩ = some (.string ByteArray.empty) ∧ w'.cell? ⟨b0, 6, none⟩ = some (.string ByteArray.empty)) (by kernel_rfl) (by kernel_rfl) ⟨HO3.out.drew.p1.cells 5, HO3.out.drew.p1.cells 6⟩ ?_
  have HO4 := hid HO3.out.drew
  have HK4 := hid HK3.out.drew
  generalize (w2.alloc (.cells #[.int .u8 0, .int .u8 0, .int .u8 0, .int .u8 0, .int .u8 0, .int .u8 0, .int .u8 0, .int .u8 0, .int .u8 0] 5)).drew = w4 at *
  clear HO3 HK3
  repeat (first
    | (refine wpL_read (by rfl) (by rfl) ?_ ?_ ?_; rotate_left; (rintro w ⟨z0, z1⟩; go_simp; with_reducible rfl); simp only [Act.put, List.setIfInBounds_toArray, List.set_cons_zero, List.set_cons_succ]) | (refine wpL_skip (by rfl) ?_; simp only [Act.put, List.setIfInBounds_toArray, List.set_cons_zero, List.set_cons_succ]))
  refine wpL_act (by rfl) (by rfl) (fun K hK => ?_)
  go_simp
  refine (r10Named0 _ 9 _ _ (by omega) (by omega) HO4.out).mono ?_
  rintro e w5 ⟨v5, rfl, hO5, hK5⟩
  have HO5 := hid hO5
  have HK5 := hid ((HK4.out).trans hK5)
  clear hO5 hK5
  try dsimp only
  refine hK.out _ _ (⟨HO5.out.p1.cells 5, HO5.out.p1.cells 6⟩) ?_
  clear hK K
  try simp only [Act.put, List.setIfInBounds_toArray, List.set_cons_zero, List.set_cons_succ]
  repeat (first
    | (refine wpL_read (by rfl) (by rfl) ?_ ?_ ?_; rotate_left; (rintro w ⟨z0, z1⟩; go_simp; with_reducible rfl); simp only [Act.put, List.setIfInBounds_toArray, List.set_cons_zero, List.set_cons_succ]) | (refine wpL_skip (by rfl) ?_; simp only [Act.put, List.setIfInBounds_toArray, List.set_cons_zero, List.set_cons_succ]))
  refine wpL_act (by rfl) (by rfl) (fun K hK => ?_)
  go_simp
  refine (r10Named0 _ 34 _ _ (by omega) (by omega) HO5.out).mono ?_
  rintro e w6 ⟨v6, rfl, hO6, hK6⟩
  have HO6 := hid hO6
  have HK6 := hid ((HK5.out).trans hK6)
  clear hO6 hK6
  try dsimp only
  refine hK.out _ _ (⟨HO6.out.p1.cells 5, HO6.out.p1.cells 6⟩) ?_
  clear hK K
  try simp only [Act.put, List.setIfInBounds_toArray, List.set_cons_zero, List.set_cons_succ]
  repeat (first
    | (refine wpL_read (by rfl) (by rfl) ?_ ?_ ?_; rotate_left; (rintro w ⟨z0, z1⟩; go_simp; with_reducible rfl); simp only [Act.put, List.setIfInBounds_toArray, List.set_cons_zero, List.set_cons_succ]) | (refine wpL_skip (by rfl) ?_; simp only [Act.put, List.setIfInBounds_toArray, List.set_cons_zero, List.set_cons_succ]))
  refine wpL_act (by rfl) (by rfl) (fun K hK => ?_)
  go_simp
  refine (rSeal 82 v6 (zs 59) _ _ (by decide) (by decide) (fun w' h => Bytes.rd h) HO6.out).mono ?_
  rintro e w7 ⟨v7, rfl, hO7, hK7⟩
  have HO7 := hid hO7
  have HK7 := hid ((HK6.out).trans hK7)
  clear hO7 hK7
  try dsimp only
  refine hK.out _ _ (⟨HO7.out.p2.cells 5, HO7.out.p2.cells 6⟩) ?_
  clear hK K
  try simp only [Act.put, List.setIfInBounds_toArray, List.set_cons_zero, List.set_cons_succ]
  repeat (first
    | (refine wpL_read (by rfl) (by rfl) ?_ ?_ ?_; rotate_left; (rintro w ⟨z0, z1⟩; go_simp; with_reducible rfl); simp only [Act.put, List.setIfInBounds_toArray, List.set_cons_zero, List.set_cons_succ]) | (refine wpL_skip (by rfl) ?_; simp only [Act.put, List.setIfInBounds_toArray, List.set_cons_zero, List.set_cons_succ]))
  refine wpL_nil ?_
  go_wp2_with fail
  go_ret2
  exact ⟨v7, rfl, HO7.out.p1.drop.p1.drop, HK7.out⟩
end Go.Proofs.Ytbggnbahmdgbdaa
/- THE WALKS of the document's bits and group's sector. -/
namespace Go.Proofs.Ytbggnbahmdgbdaa
open Go.RowKit Go.Own Go.Sl Go.Gm
theorem sealL_zs (k : Int) (b : List Int) (n : Nat) (h : b.length + n ≤ 123) : sealL k (b ++ zs n) = sealL k b := by
  have e : sealB k (b ++ zs n) = sealB k b := by
    simp only [sealB, zs, List.length_append, List.length_replicate, List.append_assoc, List.replicate_append_replicate]
    rw [show n + (123 - (b.length + n)) = 123 - b.length by omega]
  rw [sealL, sealL, e]
set_option maxRecDepth 100000 in
set_option maxHeartbeats 4000000 in
theorem r3With0 (v : Value) (m : Nat) (w : World) (L : List HP) (hb : 0 < m) (hl : m ≤ 1000) (hr : ∀ w', Has w' L → Rd w' v 1 m (bc (zs m))) (hO : Has w L) :
    Calls Try.prog 66 #[v, .int .i64 0, .bool true] w fun e w' => ∃ v', e = .returned v' ∧ Has w' (Bytes v' ((zs m).set 0 1) :: L) ∧ Keep w w' := by
  obtain ⟨p, c, rfl, -⟩ := (hr w hO).form
  have HO := hid hO
  have HR := hid hr
  have HL := hid hl
  have HB := hid hb
  have hbi : (0 : Int) < (m : Int) := by omega
  have hb3 : decide ((m : Int) ≤ 0) = false := decide_eq_false (by omega)
  have hb4 : ¬ (m : Int) ≤ 0 := by omega
  have hw0 : IntKind.i64.wrap 0 = 0 := by decide
  clear hO hr hl
  go_enter Try.func66, Try.ntmps66
  go_wp2_with (at_builtin; refine wpList_appendA rfl _ _ _ rfl Try.underlying35 infoU8 rfl (by decide) (HO.out.row_nil _ _) rfl _ m (bc (zs m)) rfl (HR.out w HO.out) (bc_one _) (le_maxLen (by have := HL.out; omega)) (by have := HL.out; omega) ?_)
  intro v2 w2 h2 hk2
  have HO2 := hid h2
  have HK2 := hid hk2
  obtain ⟨-, h1 | ⟨g, cap, cur, rfl, -⟩⟩ := Has.row_cases h2
  · have := h1.2.1; have := HB.out; omega
  clear h2 hk2
  have hx : w2.cell? ⟨g, 0, none⟩ = some (.int .u8 0) := by
    have := (Has.row_cells HO2.out).2.1 0 (by have := HB.out; omega)
    rw [this, bc_at _ 0 (by have := HB.out; simp [zs]; omega)]
    simp [zs]
  have ht := (Has.row_cells HO2.out).2.2.1
  try dsimp only
  go_upto_region 4 with fail
  refine region_tail1 (fun w => w.cell? ⟨g, 0, none⟩ = some (.int .u8 0)) (by kernel_rfl) (by kernel_rfl) (by kernel_rfl) (by decide) hx ?_
  repeat (first
    | (refine wpL_read (by rfl) (by rfl) ?_ ?_ ?_; rotate_left; (intro w hS; go_simp; with_reducible rfl); simp only [Act.put, List.setIfInBounds_toArray, List.set_cons_zero, List.set_cons_succ])
    | (refine wpL_skip (by rfl) ?_; simp only [Act.put, List.setIfInBounds_toArray, List.set_cons_zero, List.set_cons_succ]))
  refine wpL_nil ?_
  refine wpOp_last rfl (by rfl) ?_
  go_simp
  have e0 : Go.bits BinOp.andNot IntKind.u8 0 (IntKind.u8.wrap 1) = 0 := by decide
  have e1 : Go.bits BinOp.or IntKind.u8 0 (IntKind.u8.wrap 1) = 1 := by decide
  rw [e0]
  have HO3 := hid (show Has (w2.setCell ⟨g, 0, none⟩ (.int .u8 0)).drew (row (.slice (some ⟨g, 0, none⟩) m cap) 5 1 m (bc (zs m)) :: L) from by
    have h := (Has.row_set HO2.out 0 (by have := HB.out; omega) (.int .u8 0)).drew
    have e : (bc (zs m)).set 0 (.int .u8 0) = bc (zs m) := by
      obtain ⟨j, rfl⟩ : ∃ j, m = j + 1 := ⟨m - 1, by have := HB.out; omega⟩
      rfl
    rwa [e] at h)
  have HK3 := hid ((HK2.out.set ⟨g, 0, none⟩ (.int .u8 0)).drew)
  generalize (w2.setCell ⟨g, 0, none⟩ (.int .u8 0)).drew = w3 at *
  clear hx ht HO2 HK2
  have hx : w3.cell? ⟨g, 0, none⟩ = some (.int .u8 0) := by
    have := (Has.row_cells HO3.out).2.1 0 (by have := HB.out; omega)
    rw [this, bc_at _ 0 (by have := HB.out; simp [zs]; omega)]
    simp [zs]
  have ht := (Has.row_cells HO3.out).2.2.1
  go_upto_region 6 with fail
  refine region_tail1 (fun w => w.cell? ⟨g, 0, none⟩ = some (.int .u8 0)) (by kernel_rfl) (by kernel_rfl) (by kernel_rfl) (by decide) hx ?_
  repeat (first
    | (refine wpL_read (by rfl) (by rfl) ?_ ?_ ?_; rotate_left; (intro w hS; go_simp; with_reducible rfl); simp only [Act.put, List.setIfInBounds_toArray, List.set_cons_zero, List.set_cons_succ])
    | (refine wpL_skip (by rfl) ?_; simp only [Act.put, List.setIfInBounds_toArray, List.set_cons_zero, List.set_cons_succ]))
  refine wpL_nil ?_
  refine wpOp_last rfl (by rfl) ?_
  go_simp
  have HO4 := hid ((Has.row_set HO3.out 0 (by have := HB.out; omega) (.int .u8 1)).drew)
  have HK4 := hid ((HK3.out.set ⟨g, 0, none⟩ (.int .u8 1)).drew)
  go_wp2_with fail
  go_ret
  refine ⟨_, rfl, ?_, HK4.out⟩
  have h := HO4.out
  unfold Bytes
  rw [List.length_set, show (zs m).length = m by simp [zs], bc, List.map_set]
  exact h
/-- Of no numbers. -/
theorem madeB (m : Nat) (hm : m ≤ 1000) {w : World} {L : List HP} (h : Has w L) : ∃ w', (Instr.makeSlice 35 (.int .i64 (m : Int)) (.int .i64 (m : Int))).run Try.prog w = .ok (.slice (some ⟨w.heap.size, 0, none⟩) m m) w' ∧ Has w' (Bytes (.slice (some ⟨w.heap.size, 0, none⟩) m m) (zs m) :: L) ∧ Keep w w' :=
  ⟨_, makeN m (by omega) w, madeN m (by omega) h, (Keep.refl w).alloc _⟩
set_option maxRecDepth 100000 in
set_option maxHeartbeats 4000000 in
theorem r3Of0 (n : Int) (w : World) (L : List HP) (hn : 0 ≤ n ∧ n ≤ 1000) (hO : Has w L) :
    Calls Try.prog 43 #[.int .i64 n, .slice none 0 0] w fun e w' => ∃ v', e = .returned v' ∧ Has w' (Bytes v' (zs ((n + 7) / 8).toNat) :: L) ∧ Keep w w' := by
  obtain ⟨m, hm⟩ := Int.eq_ofNat_of_zero_le (show 0 ≤ (n + 7) / 8 by omega)
  have hm1 : m ≤ 1000 := by omega
  rw [show ((n + 7) / 8).toNat = m by omega]
  have hq : (n + 7).tdiv 8 = (m : Int) := by rw [Int.tdiv_eq_ediv_of_nonneg (by omega)]; exact hm
  obtain ⟨w1, hmk, h1, k1⟩ := madeB m hm1 hO
  have HO := hid h1
  have HK := hid k1
  have d1 : ¬ n < 0 := by omega
  have d2 : ¬ 1000 < n := by omega
  have e1 : wrap64 (n + 7) = n + 7 := wrap_in (n + 7) (by omega)
  have e2 : wrap64 (m : Int) = (m : Int) := wrap_in _ (by omega)
  clear hO h1 k1 hn hm hm1
  go_enter Try.func43, Try.ntmps43
  go_wp2_with fail
  clear hmk
  generalize w.heap.size = g at *
  go_loopw [5, 6] (fun s i w' => s = .slice (some ⟨g, 0, none⟩) m m ∧ i = .int .i64 0 ∧ w1 = w') (fun _ _ _ => 0)
  case atStart => exact ⟨rfl, rfl, rfl⟩
  case round =>
    obtain ⟨rfl, rfl, rfl⟩ := hrel
    go_wp2_with fail
    go_ret
    exact ⟨_, rfl, HO.out, HK.out⟩
set_option maxRecDepth 100000 in
set_option maxHeartbeats 4000000 in
theorem r3Of1 (n : Int) (v : Value) (w : World) (L : List HP) (hn : 1 ≤ n ∧ n ≤ 1000) (hr : ∀ w', Has w' L → Rd w' v 1 1 [.int .i64 0]) (hO : Has w L) :
    Calls Try.prog 43 #[.int .i64 n, v] w fun e w' => ∃ v', e = .returned v' ∧ Has w' (Bytes v' ((zs ((n + 7) / 8).toNat).set 0 1) :: L) ∧ Keep w w' := by
  obtain ⟨m, hm⟩ := Int.eq_ofNat_of_zero_le (show 0 ≤ (n + 7) / 8 by omega)
  have hm1 : m ≤ 1000 := by omega
  have hm0 : 0 < m := by omega
  rw [show ((n + 7) / 8).toNat = m by omega]
  have hq : (n + 7).tdiv 8 = (m : Int) := by rw [Int.tdiv_eq_ediv_of_nonneg (by omega)]; exact hm
  obtain ⟨w1, hmk, h1, k1⟩ := madeB m hm1 hO
  obtain ⟨p, c, rfl, -, -, hcs⟩ := (hr w hO).form
  obtain ⟨gs, os, rfl, -⟩ := hcs (by omega)
  have HO := hid h1
  have HK := hid k1
  have HR := hid (fun w' (h : Has w' L) => show w'.cell? ⟨gs, os, none⟩ = some (.int .i64 0) from by
    obtain ⟨p, c, e, -, -, hcs⟩ := (hr w' h).form
    obtain ⟨g', o', rfl, hd⟩ := hcs (by omega)
    injection e with e
    injection e with e
    injection e with e1 e2
    subst e1 e2
    exact hd 0 (by omega))
  have d1 : ¬ n < 0 := by omega
  have d2 : ¬ 1000 < n := by omega
  have d3 : 0 < n := by omega
  have e1 : wrap64 (n + 7) = n + 7 := wrap_in (n + 7) (by omega)
  have e2 : wrap64 (m : Int) = (m : Int) := wrap_in _ (by omega)
  have HM := hid (And.intro hm0 hm1)
  clear hO h1 k1 hn hm hm1 hcs hr hm0
  go_enter Try.func43, Try.ntmps43
  go_wp2_with fail
  clear hmk
  generalize w.heap.size = g at *
  go_loopw [5, 6] (fun s i w' => ∃ k : Nat, k ≤ 1 ∧ i = .int .i64 k ∧ Hid (Has w' (Bytes s (if k = 0 then zs m else (zs m).set 0 1) :: L)) ∧ Hid (Keep w w')) (fun _ i _ => 1 - (intOf i).toNat)
  case atStart => exact ⟨0, by omega, rfl, HO, HK⟩
  case round =>
    clear HO HK
    obtain ⟨k, hk, rfl, HO, HK⟩ := hrel
    by_cases h0 : k = 0
    · subst h0
      have hc := HR.out _ HO.out.drop
      have HO1 := hid (show Has wr (Bytes u5 (zs m) :: L) from HO.out)
      go_wp2_with fail
      refine (r3With0 u5 m wr _ HM.out.1 HM.out.2 (fun w' h => by have := Bytes.rd h; rwa [show (zs m).length = m by simp [zs]] at this) HO1.out).mono ?_
      rintro e w2 ⟨v2, rfl, hO2, hK2⟩
      have HO2 := hid hO2
      have HK2 := hid ((HK.out).trans hK2)
      clear hO2 hK2
      try dsimp only
      go_wp2_with fail
      exact ⟨⟨1, by omega, rfl, hid HO2.out.p1.drop, HK2⟩, by simp [intOf]⟩
    · obtain rfl : k = 1 := by omega
      have HO1 := hid (show Has wr (Bytes u5 ((zs m).set 0 1) :: L) from HO.out)
      go_wp2_with fail
      go_ret
      exact ⟨_, rfl, HO1.out, HK.out⟩
set_option maxRecDepth 100000 in
set_option maxHeartbeats 4000000 in
theorem r11Lay (x y : List Int) (vx vy : Value) (w : World) (L : List HP) (hx : 1 ≤ x.length ∧ x.length ≤ 4) (hy : 2 ≤ y.length ∧ y.length ≤ 12) (hrx : ∀ w', Has w' L → Rd w' vx 1 x.length (bc x)) (hry : ∀ w', Has w' L → Rd w' vy 1 y.length (bc y)) (hO : Has w L) :
    Calls Try.prog 42 #[vx, vy] w fun e w' => ∃ v', e = .returned (.tuple #[v', .int .i64 0]) ∧ Has w' (Bytes v' (sealL 71 (groupB x y)) :: L) ∧ Keep w w' := by
  obtain ⟨px, cx, rfl, -⟩ := (hrx w hO).form
  obtain ⟨py, cy, rfl, -⟩ := (hry w hO).form
  have HO := hid hO
  have HX := hid hrx
  have HY := hid hry
  have HL := hid (And.intro hx hy)
  obtain ⟨m, hm⟩ : ∃ m : Nat, (4 : Int) - (x.length : Int) = (m : Int) := ⟨4 - x.length, by omega⟩
  have HM := hid (show 4 - x.length = m by omega)
  have d1 : ¬ (x.length : Int) < 1 := by omega
  have d2 : ¬ 4 < (x.length : Int) := by omega
  have d3 : ¬ (y.length : Int) < 2 := by omega
  have d4 : ¬ 12 < (y.length : Int) := by omega
  have d5 : ¬ x = [] := by intro h; rw [h] at hx; simp at hx
  have d6 : decide ((x.length : Int) < 1) = false := decide_eq_false (by omega)
  have d7 : decide ((y.length : Int) < 2) = false := decide_eq_false (by omega)
  clear hO hrx hry hx hy
  go_enter Try.func42, Try.ntmps42
  go_wp2_with (at_builtin; refine wpList_appendA rfl _ _ _ rfl Try.underlying35 infoU8 rfl (by decide) (HO.out.row_nil _ _) rfl _ x.length (bc x) rfl (HX.out w HO.out) (bc_one _) (le_maxLen (by have := HL.out; omega)) (by have := HL.out; omega) ?_)
  intro v2 w2 h2 hk2
  have HO2 := hid (show Has w2 (row v2 5 1 x.length (bc x) :: L) from h2)
  have HK2 := hid hk2
  obtain ⟨g2, c2, rfl⟩ : ∃ g2 c2, v2 = .slice (some ⟨g2, 0, none⟩) x.length c2 := by
    rcases HO2.out.row_cases with ⟨-, ⟨-, h, -⟩ | ⟨g, c, cur, h, -⟩⟩
    · have := HL.out; omega
    · exact ⟨g, c, h⟩
  clear h2 hk2 HO
  go_wp2_with (at_builtin; refine wpList_appendZ rfl _ _ _ _ rfl Try.underlying35 underInt' infoU8 rfl rfl HO2.out rfl m rfl (le_maxLen (by have := HL.out; have := HM.out; omega)) (by have := HL.out; have := HM.out; omega) ?_)
  intro v3 w3 h3 hk3
  have HO3 := hid (show Has w3 (row v3 5 1 4 (bc (x ++ zs m)) :: L) from by
    have e : bc x ++ List.replicate m (Value.int .u8 0) = bc (x ++ zs m) := by simp [bc, zs]
    rw [e, show x.length + m = 4 by have := HL.out; have := HM.out; omega] at h3
    exact h3)
  have HK3 := hid (HK2.out.trans hk3)
  obtain ⟨p3, c3, rfl, -⟩ := HO3.out.rd.form
  clear h3 hk3 HO2 HK2 hm
  go_wp2_with (at_builtin; refine wpList_appendA rfl _ _ _ rfl Try.underlying35 infoU8 rfl (by decide) HO3.out rfl _ y.length (bc y) rfl (HY.out w3 HO3.out.drop) (bc_one _) (le_maxLen (by have := HL.out; omega)) (by have := HL.out; omega) ?_)
  intro v4 w4 h4 hk4
  have HLE := hid (show (x ++ zs m ++ y).length = 4 + y.length by have := HL.out; have := HM.out; simp [zs]; omega)
  have HO4 := hid (show Has w4 (Bytes v4 (x ++ zs m ++ y) :: L) from by
    unfold Bytes
    rw [HLE.out, show bc (x ++ zs m ++ y) = bc (x ++ zs m) ++ bc y by simp [bc]]
    exact h4)
  have HK4 := hid (HK3.out.trans hk4)
  clear h4 hk4 HO3 HK3
  go_wp2_with fail
  refine (rSeal 71 v4 (x ++ zs m ++ y) w4 _ (by decide) (by rw [HLE.out]; have := HL.out; omega) (fun w' h => Bytes.rd h) HO4.out).mono ?_
  rintro e w5 ⟨v5, rfl, hO5, hK5⟩
  have HO5 := hid hO5
  have HK5 := hid ((HK4.out).trans hK5)
  clear hO5 hK5
  try dsimp only
  go_wp2_with fail
  go_ret2
  refine ⟨v5, rfl, ?_, HK5.out⟩
  have h := HO5.out.p1.drop
  have e : sealL 71 (groupB x y) = sealL 71 (x ++ zs m ++ y) := by
    rw [groupB, HM.out, ← List.append_assoc]
    exact sealL_zs 71 _ _ (by rw [HLE.out]; have := HL.out; omega)
  rw [e]; exact h
end Go.Proofs.Ytbggnbahmdgbdaa
/- THE WALKS of the document's word, two, May of inodes. -/
namespace Go.Proofs.Ytbggnbahmdgbdaa
open Go.RowKit Go.Own Go.Sl Go.Gm
theorem r7Word (n : Int) (w : World) (hn : 0 ≤ n ∧ n ≤ 65535) : Calls Try.prog 77 #[.int .i64 n] w fun e w' => e = .returned (.bool true) ∧ w = w' := by
  have h1 : decide (n ≥ 0) = true := decide_eq_true hn.1
  have h2 : 0 ≤ n := hn.1
  have h3 : n ≤ 65535 := hn.2
  clear hn
  go_enter Try.func77, Try.ntmps77
  go_wp2
  go_ret
  exact ⟨by first | rfl | simp [h3], rfl⟩
set_option maxRecDepth 100000 in
set_option maxHeartbeats 4000000 in
theorem r7Two (v : Value) (b : List Int) (n : Int) (w : World) (L : List HP) (hb : b.length ≤ 1000) (hO : Has w (Bytes v b :: L)) :
    Calls Try.prog 68 #[v, .int .i64 n] w fun e w' => ∃ v', e = .returned v' ∧ Has w' (Bytes v' (b ++ [n / 256 % 256, n % 256]) :: L) ∧ Keep w w' := by
  have HL := hid hb
  have HO := hid (hO.alloc (.cells #[.int .u8 (n / 256 % 256), .int .u8 (n % 256)] 5))
  have HK := hid ((Keep.refl w).alloc (.cells #[.int .u8 (n / 256 % 256), .int .u8 (n % 256)] 5))
  have HRD := hid (Bytes.rd (bytesLit [n / 256 % 256, n % 256] HO.out rfl (by show 2 ≤ 1000000000; omega)))
  have HB := hid (show Has _ (row v 5 1 b.length (bc b) :: _) from HO.out.p1)
  obtain ⟨p, c, rfl, -⟩ := HB.out.rd.form
  clear hO hb
  go_enter Try.func68, Try.ntmps68
  go_wp2_with (at_builtin; refine wpList_appendA rfl _ _ _ rfl Try.underlying35 infoU8 rfl (by decide) HB.out rfl _ 2 (bc [n / 256 % 256, n % 256]) rfl HRD.out (bc_one _) (le_maxLen (by have := HL.out; omega)) (by have := HL.out; omega) ?_)
  intro v2 w2 h2 hk2
  have HO2 := hid (show Has w2 (Bytes v2 (b ++ [n / 256 % 256, n % 256]) :: L) from by
    unfold Bytes
    rw [List.length_append, show bc (b ++ [n / 256 % 256, n % 256]) = bc b ++ bc [n / 256 % 256, n % 256] by simp [bc]]
    exact h2.p1.drop)
  have HK2 := hid (HK.out.trans hk2)
  clear h2 hk2 HO HB HRD HK
  go_wp2_with fail
  go_ret
  exact ⟨_, rfl, HO2.out, HK2.out⟩
theorem r7TwoZ (v : Value) (b : List Int) (m : Nat) (w : World) (L : List HP) (hb : b.length + m ≤ 1000) (hO : Has w (Bytes v (b ++ zs m) :: L)) :
    Calls Try.prog 68 #[v, .int .i64 0] w fun e w' => ∃ v', e = .returned v' ∧ Has w' (Bytes v' (b ++ zs (m + 2)) :: L) ∧ Keep w w' := by
  have := r7Two v (b ++ zs m) 0 w L (by simp [zs]; omega) hO
  rwa [show b ++ zs m ++ [0 / 256 % 256, 0 % 256] = b ++ zs (m + 2) by rw [List.append_assoc]; congr 1; exact zs_app m 2] at this
set_option maxRecDepth 100000 in
set_option maxHeartbeats 4000000 in
theorem r7May0 (w : World) (L : List HP) (hO : Has w L) : Calls Try.prog 67 #[ino 0 0] w fun e w' => e = .returned (.bool true) ∧ Has w' L ∧ Keep w w' := by
  have HO := hid (hO.alloc (.cells (icell 0 0) 65))
  have HK := hid ((Keep.refl w).alloc (.cells (icell 0 0) 65))
  have hc := (hO.alloc (.cells (icell 0 0) 65)).cells
  clear hO
  unfold ino icell at *
  have hq : ∀ w, (Op.equalIn 9999 63 (.agg #[.int .i64 0, .int .i64 0, .int .i64 0, .int .i64 0, .int .i64 0, .int .i64 0]) (.agg #[.int .i64 0, .int .i64 0, .int .i64 0, .int .i64 0, .int .i64 0, .int .i64 0])).run Try.prog w = .ok true w := eq6
  go_enter Try.func67, Try.ntmps67
  go_wp2_with fail
  go_ret
  exact ⟨rfl, HO.out.drop, HK.out⟩
set_option maxRecDepth 100000 in
set_option maxHeartbeats 4000000 in
theorem r7May1 (w : World) (L : List HP) (hO : Has w L) : Calls Try.prog 67 #[ino 2 1] w fun e w' => e = .returned (.bool true) ∧ Has w' L ∧ Keep w w' := by
  have HO := hid (hO.alloc (.cells (icell 2 1) 65))
  have HK := hid ((Keep.refl w).alloc (.cells (icell 2 1) 65))
  have hc := (hO.alloc (.cells (icell 2 1) 65)).cells
  clear hO
  unfold ino icell at *
  go_enter Try.func67, Try.ntmps67
  go_wp2_with fail
  generalize w.alloc (.cells #[.int .i64 2, .int .i64 1, .int .i64 0, .int .i64 0, .int .i64 0, .int .i64 0, .int .i64 0, .int .i64 0, .int .i64 0, .int .i64 0, .int .i64 0] 65) = w1 at *
  generalize w.heap.size = g at *
  go_loopw [3] (fun i w' => ∃ k : Nat, k ≤ 6 ∧ i = .int .i64 k ∧ w1 = w') (fun i _ => 6 - (intOf i).toNat)
  case atStart => exact ⟨0, by omega, rfl, rfl⟩
  case round =>
    obtain ⟨k, hk, rfl, rfl⟩ := hrel
    by_cases hlt : k < 6
    · have hki : (k : Int) < 6 := by omega
      have hk0 : (0 : Int) ≤ (k : Int) := by omega
      have hx : w1.cell? ⟨g, 3 + k, none⟩ = some (.int .i64 0) := by
        rw [HO.out.cells (3 + k)]
        have : k = 0 ∨ k = 1 ∨ k = 2 ∨ k = 3 ∨ k = 4 ∨ k = 5 := by omega
        rcases this with rfl | rfl | rfl | rfl | rfl | rfl <;> rfl
      have hk1 : wrap64 ((k : Int) + 1) = ((k + 1 : Nat) : Int) := by rw [wrap_in _ (by omega)]; omega
      clear hc
      go_wp2_with fail
      refine (r7Word 0 w1 (by omega)).mono ?_
      rintro e w' ⟨rfl, rfl⟩
      try dsimp only
      go_wp2_with fail
      exact ⟨⟨k + 1, by omega, rfl, by trivial⟩, by simp [intOf]; omega⟩
    · obtain rfl : k = 6 := by omega
      clear hlt hk
      rw [show ((6 : Nat) : Int) = 6 from rfl]
      have hc := HO.out.cells
      go_wp2_with fail
      refine (r7Word 1 w1 (by omega)).mono ?_
      rintro e w' ⟨rfl, rfl⟩
      try dsimp only
      go_wp2_with fail
      refine (r7Word 0 w1 (by omega)).mono ?_
      rintro e w' ⟨rfl, rfl⟩
      try dsimp only
      go_wp2_with fail
      refine (r7Word 0 w1 (by omega)).mono ?_
      rintro e w' ⟨rfl, rfl⟩
      try dsimp only
      go_wp2_with fail
      go_ret
      exact ⟨rfl, HO.out.drop, HK.out⟩
end Go.Proofs.Ytbggnbahmdgbdaa
