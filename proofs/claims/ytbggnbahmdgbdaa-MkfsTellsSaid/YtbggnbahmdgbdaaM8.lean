/- TEXTS of mine, merged. -/
import Derived.Test.YtbggnbahmdgbdaaM7
import Derived.Test.YtbggnbahmdgbdaaM3
import Derived.Test.YtbggnbahmdgbdaaM5
/- THE WALK of mkfs.Fit. -/
namespace Go.Proofs.Ytbggnbahmdgbdaa
open Go.RowKit Go.Own Go.Gm
set_option maxRecDepth 100000 in
set_option maxHeartbeats 16000000 in
theorem mFit (s : Int) (w : World) (L : List HP) (hO : Has w L) :
    Calls Try.prog 7 #[.int .i64 s] w fun e w' => ∃ g, e = .returned (geoV g) ∧ Best (Room s) g ∧ Has w' L ∧ Keep w w' := by
  have HO := hid (two_boxes (.cells (gcell zero) 24) (.cells (gcell zero) 24) hO)
  have HK := hid (((Keep.refl w).alloc (.cells (gcell zero) 24)).alloc (.cells (gcell zero) 24))
  clear hO
  have HCB := hid (fun g w' L (h : Has w' L) => gBlocks g w' L h)
  have HCI := hid (fun g w' L (h : Has w' L) => gInodes g w' L h)
  unfold geoV at HCB HCI
  go_enter Try.func7, Try.ntmps7
  go_wp2_with fail
  go_step3
  go_wp2_with fail
  go_step3
  go_wp2_with fail
  have hz : gcell zero = #[.int .i64 0, .int .i64 0, .int .i64 0] := rfl
  rw [hz] at HO HK
  clear hz
  generalize w.heap.size = r at *
  generalize hwb : (w.alloc (.cells #[.int .i64 0, .int .i64 0, .int .i64 0] 24)).alloc (.cells #[.int .i64 0, .int .i64 0, .int .i64 0] 24) = wb at *
  clear hwb
  go_loopw [4] (fun b w' => ∃ k : Int, 1 ≤ k ∧ k ≤ 9 ∧ b = .int .i64 k ∧ Hid (∃ best, Upto s k best ∧ Has w' (pt (r + 1) (.cells #[.int .i64 best.n, .int .i64 best.i, .int .i64 best.b] 24) :: pt r (.cells #[.int .i64 0, .int .i64 0, .int .i64 0] 24) :: L)) ∧ Hid (Keep w w')) (fun b _ => (9 - intOf b).toNat)
  case atStart => exact ⟨1, by omega, by omega, rfl, hid ⟨zero, Upto.start s, HO.out⟩, HK⟩
  case round =>
    clear HO HK
    obtain ⟨k, hk1, hk2, rfl, HY, HK⟩ := hrel
    obtain ⟨best, hT, hO⟩ := HY.out
    have HT := hid hT
    have HO := hid hO
    clear hT hO HY
    by_cases hlt : k ≤ 8
    · have hki : decide (k ≤ 8) = true := decide_eq_true hlt
      go_wp2_with fail
      refine (mFits s k _ _ ⟨hk1, hlt⟩ HO.out).mono ?_
      rintro e w3 ⟨g, rfl, hG, hO3, hK3⟩
      have HG := hid hG
      have HO3 := hid (hO3.alloc (.cells #[.int .i64 g.n, .int .i64 g.i, .int .i64 g.b] 24))
      have HK3 := hid ((HK.out.trans hK3).alloc (.cells #[.int .i64 g.n, .int .i64 g.i, .int .i64 g.b] 24))
      clear hG hO3 hK3 HO HK
      try dsimp only
      unfold geoV
      go_upto_region 6 with fail
      generalize w3.heap.size = b5 at *
      generalize w3.alloc (.cells #[.int .i64 g.n, .int .i64 g.i, .int .i64 g.b] 24) = w4 at *
      refine region_text (fun w => w.cell? ⟨b5, 0, none⟩ = some (.int .i64 g.n) ∧ w.cell? ⟨b5, 1, none⟩ = some (.int .i64 g.i) ∧ w.cell? ⟨b5, 2, none⟩ = some (.int .i64 g.b) ∧ w.cell? ⟨r + 1, 0, none⟩ = some (.int .i64 best.n) ∧ w.cell? ⟨r + 1, 1, none⟩ = some (.int .i64 best.i) ∧ w.cell? ⟨r + 1, 2, none⟩ = some (.int .i64 best.b)) (by kernel_rfl) (by kernel_rfl) ⟨HO3.out.drew.cells 0, HO3.out.drew.cells 1, HO3.out.drew.cells 2, HO3.out.drew.p1.cells 0, HO3.out.drew.p1.cells 1, HO3.out.drew.p1.cells 2⟩ ?_
      repeat (first
        | (refine wpL_read (by rfl) (by rfl) ?_ ?_ ?_; rotate_left; (rintro w ⟨z0, z1, z2, z3, z4, z5⟩; go_simp; with_reducible rfl); simp only [Act.put, List.setIfInBounds_toArray, List.set_cons_zero, List.set_cons_succ])
        | (refine wpL_skip (by rfl) ?_; simp only [Act.put, List.setIfInBounds_toArray, List.set_cons_zero, List.set_cons_succ]))
      refine wpL_act (by rfl) (by rfl) (fun K hK => ?_)
      go_simp
      refine (HCB.out g _ _ HO3.out.drew).mono ?_
      rintro e w5 ⟨rfl, hO5, hK5⟩
      have HO5 := hid hO5
      have HK5 := hid (HK3.out.drew.trans hK5)
      clear hO5 hK5
      try dsimp only
      refine hK.out _ _ ⟨HO5.out.cells 0, HO5.out.cells 1, HO5.out.cells 2, HO5.out.p1.cells 0, HO5.out.p1.cells 1, HO5.out.p1.cells 2⟩ ?_
      clear hK K
      try simp only [Act.put, List.setIfInBounds_toArray, List.set_cons_zero, List.set_cons_succ]
      repeat (first
        | (refine wpL_read (by rfl) (by rfl) ?_ ?_ ?_; rotate_left; (rintro w ⟨z0, z1, z2, z3, z4, z5⟩; go_simp; with_reducible rfl); simp only [Act.put, List.setIfInBounds_toArray, List.set_cons_zero, List.set_cons_succ])
        | (refine wpL_skip (by rfl) ?_; simp only [Act.put, List.setIfInBounds_toArray, List.set_cons_zero, List.set_cons_succ]))
      refine wpL_act (by rfl) (by rfl) (fun K hK => ?_)
      go_simp
      refine (HCB.out best _ _ HO5.out).mono ?_
      rintro e w6 ⟨rfl, hO6, hK6⟩
      have HO6 := hid hO6
      have HK6 := hid (HK5.out.trans hK6)
      clear hO6 hK6
      try dsimp only
      refine hK.out _ _ ⟨HO6.out.cells 0, HO6.out.cells 1, HO6.out.cells 2, HO6.out.p1.cells 0, HO6.out.p1.cells 1, HO6.out.p1.cells 2⟩ ?_
      clear hK K
      try simp only [Act.put, List.setIfInBounds_toArray, List.set_cons_zero, List.set_cons_succ]
      repeat (first
        | (refine wpL_read (by rfl) (by rfl) ?_ ?_ ?_; rotate_left; (rintro w ⟨z0, z1, z2, z3, z4, z5⟩; go_simp; with_reducible rfl); simp only [Act.put, List.setIfInBounds_toArray, List.set_cons_zero, List.set_cons_succ])
        | (refine wpL_skip (by rfl) ?_; simp only [Act.put, List.setIfInBounds_toArray, List.set_cons_zero, List.set_cons_succ]))
      refine wpL_nil ?_
      by_cases h1 : blocks g < blocks best
      · have H1 := hid h1
        have d1 : decide (blocks g < blocks best) = true := decide_eq_true h1
        clear h1
        generalize hA : blocks g = A at *
        generalize hB : blocks best = B at *
        have HA := hid hA
        have HB := hid hB
        clear hA hB
        go_upto_region 7 with fail
        refine region_text (fun w => w.cell? ⟨b5, 0, none⟩ = some (.int .i64 g.n) ∧ w.cell? ⟨b5, 1, none⟩ = some (.int .i64 g.i) ∧ w.cell? ⟨b5, 2, none⟩ = some (.int .i64 g.b) ∧ w.cell? ⟨r + 1, 0, none⟩ = some (.int .i64 best.n) ∧ w.cell? ⟨r + 1, 1, none⟩ = some (.int .i64 best.i) ∧ w.cell? ⟨r + 1, 2, none⟩ = some (.int .i64 best.b)) (by kernel_rfl) (by kernel_rfl) ⟨HO6.out.drew.cells 0, HO6.out.drew.cells 1, HO6.out.drew.cells 2, HO6.out.drew.p1.cells 0, HO6.out.drew.p1.cells 1, HO6.out.drew.p1.cells 2⟩ ?_
        have HO9 := hid HO6.out.drew
        have HK9 := hid HK6.out.drew
        clear HO6 HK6
        generalize w6.drew = w9 at *
        repeat (first
          | (refine wpL_read (by rfl) (by rfl) ?_ ?_ ?_; rotate_left; (rintro w ⟨z0, z1, z2, z3, z4, z5⟩; go_simp; with_reducible rfl); simp only [Act.put, List.setIfInBounds_toArray, List.set_cons_zero, List.set_cons_succ])
          | (refine wpL_skip (by rfl) ?_; simp only [Act.put, List.setIfInBounds_toArray, List.set_cons_zero, List.set_cons_succ]))
        refine wpL_nil ?_
        go_wp2_with fail
        exact ⟨⟨k + 1, by omega, by omega, by go_num, hid ⟨best, HT.out.keep HG.out (.inl (by rw [HA.out, HB.out]; exact H1.out)), HO9.out.drop⟩, HK9⟩, by simp [intOf]; omega⟩
      · have d1 : decide (blocks g < blocks best) = false := decide_eq_false h1
        by_cases h2 : blocks g = blocks best
        · have H2 := hid h2
          have H1 := hid h1
          rw [h2] at d1
          rw [h2]
          clear h1 h2
          generalize hB : blocks best = B at *
          have HB := hid hB
          clear hB
          have e2 : (B == B) = true := by simp
          go_upto_region 7 with fail
          refine region_text (fun w => w.cell? ⟨b5, 0, none⟩ = some (.int .i64 g.n) ∧ w.cell? ⟨b5, 1, none⟩ = some (.int .i64 g.i) ∧ w.cell? ⟨b5, 2, none⟩ = some (.int .i64 g.b) ∧ w.cell? ⟨r + 1, 0, none⟩ = some (.int .i64 best.n) ∧ w.cell? ⟨r + 1, 1, none⟩ = some (.int .i64 best.i) ∧ w.cell? ⟨r + 1, 2, none⟩ = some (.int .i64 best.b)) (by kernel_rfl) (by kernel_rfl) ⟨HO6.out.drew.cells 0, HO6.out.drew.cells 1, HO6.out.drew.cells 2, HO6.out.drew.p1.cells 0, HO6.out.drew.p1.cells 1, HO6.out.drew.p1.cells 2⟩ ?_
          have HO9 := hid HO6.out.drew
          have HK9 := hid HK6.out.drew
          clear HO6 HK6
          generalize w6.drew = w9 at *
          repeat (first
            | (refine wpL_read (by rfl) (by rfl) ?_ ?_ ?_; rotate_left; (rintro w ⟨z0, z1, z2, z3, z4, z5⟩; go_simp; with_reducible rfl); simp only [Act.put, List.setIfInBounds_toArray, List.set_cons_zero, List.set_cons_succ])
            | (refine wpL_skip (by rfl) ?_; simp only [Act.put, List.setIfInBounds_toArray, List.set_cons_zero, List.set_cons_succ]))
          refine wpL_act (by rfl) (by rfl) (fun K hK => ?_)
          go_simp
          refine (HCI.out g _ _ HO9.out).mono ?_
          rintro e w7 ⟨rfl, hO7, hK7⟩
          have HO7 := hid hO7
          have HK7 := hid (HK9.out.trans hK7)
          clear hO7 hK7
          try dsimp only
          refine hK.out _ _ ⟨HO7.out.cells 0, HO7.out.cells 1, HO7.out.cells 2, HO7.out.p1.cells 0, HO7.out.p1.cells 1, HO7.out.p1.cells 2⟩ ?_
          clear hK K
          try simp only [Act.put, List.setIfInBounds_toArray, List.set_cons_zero, List.set_cons_succ]
          repeat (first
            | (refine wpL_read (by rfl) (by rfl) ?_ ?_ ?_; rotate_left; (rintro w ⟨z0, z1, z2, z3, z4, z5⟩; go_simp; with_reducible rfl); simp only [Act.put, List.setIfInBounds_toArray, List.set_cons_zero, List.set_cons_succ])
            | (refine wpL_skip (by rfl) ?_; simp only [Act.put, List.setIfInBounds_toArray, List.set_cons_zero, List.set_cons_succ]))
          refine wpL_act (by rfl) (by rfl) (fun K hK => ?_)
          go_simp
          refine (HCI.out best _ _ HO7.out).mono ?_
          rintro e w8 ⟨rfl, hO8, hK8⟩
          have HO8 := hid hO8
          have HK8 := hid (HK7.out.trans hK8)
          clear hO8 hK8
          try dsimp only
          refine hK.out _ _ ⟨HO8.out.cells 0, HO8.out.cells 1, HO8.out.cells 2, HO8.out.p1.cells 0, HO8.out.p1.cells 1, HO8.out.p1.cells 2⟩ ?_
          clear hK K
          try simp only [Act.put, List.setIfInBounds_toArray, List.set_cons_zero, List.set_cons_succ]
          by_cases h3 : inodes g ≤ inodes best
          · have H3 := hid h3
            have d3 : decide (inodes g ≤ inodes best) = true := decide_eq_true h3
            clear h3
            generalize hC : inodes g = C at *
            generalize hD : inodes best = D at *
            have HC := hid hC
            have HD := hid hD
            clear hC hD
            repeat (first
              | (refine wpL_read (by rfl) (by rfl) ?_ ?_ ?_; rotate_left; (rintro w ⟨z0, z1, z2, z3, z4, z5⟩; go_simp; with_reducible rfl); simp only [Act.put, List.setIfInBounds_toArray, List.set_cons_zero, List.set_cons_succ])
              | (refine wpL_skip (by rfl) ?_; simp only [Act.put, List.setIfInBounds_toArray, List.set_cons_zero, List.set_cons_succ]))
            refine wpL_nil ?_
            go_wp2_with fail
            exact ⟨⟨k + 1, by omega, by omega, by go_num, hid ⟨best, HT.out.keep HG.out (.inr ⟨by rw [HB.out]; exact H2.out, by rw [HC.out, HD.out]; exact H3.out⟩), HO8.out.drop⟩, HK8⟩, by simp [intOf]; omega⟩
          · have H3 := hid h3
            have d3 : decide (inodes g ≤ inodes best) = false := decide_eq_false h3
            clear h3
            generalize hC : inodes g = C at *
            generalize hD : inodes best = D at *
            have HC := hid hC
            have HD := hid hD
            clear hC hD
            repeat (first
              | (refine wpL_read (by rfl) (by rfl) ?_ ?_ ?_; rotate_left; (rintro w ⟨z0, z1, z2, z3, z4, z5⟩; go_simp; with_reducible rfl); simp only [Act.put, List.setIfInBounds_toArray, List.set_cons_zero, List.set_cons_succ])
              | (refine wpL_skip (by rfl) ?_; simp only [Act.put, List.setIfInBounds_toArray, List.set_cons_zero, List.set_cons_succ]))
            refine wpL_nil ?_
            have c0 := HO8.out.cells
            have c1 := HO8.out.p1.cells
            have t1 := HO8.out.p1.thaw
            go_wp2_with fail
            exact ⟨⟨k + 1, by omega, by omega, by go_num, hid ⟨g, HT.out.take HG.out (fun h => h.elim (fun h => by rw [HB.out] at h; exact H1.out h) (fun h => by have h := h.2; rw [HC.out, HD.out] at h; exact H3.out h)), (((HO8.out.p1.set 0 (.int .i64 g.n)).set 1 (.int .i64 g.i)).set 2 (.int .i64 g.b)).p1.drop⟩, hid (((HK8.out.set _ _).set _ _).set _ _)⟩, by simp [intOf]; omega⟩
        · have H2 := hid h2
          have H1 := hid h1
          have e2 : (blocks g == blocks best) = false := by simpa using h2
          clear h1 h2
          generalize hA : blocks g = A at *
          generalize hB : blocks best = B at *
          have HA := hid hA
          have HB := hid hB
          clear hA hB
          go_upto_region 7 with fail
          refine region_text (fun w => w.cell? ⟨b5, 0, none⟩ = some (.int .i64 g.n) ∧ w.cell? ⟨b5, 1, none⟩ = some (.int .i64 g.i) ∧ w.cell? ⟨b5, 2, none⟩ = some (.int .i64 g.b) ∧ w.cell? ⟨r + 1, 0, none⟩ = some (.int .i64 best.n) ∧ w.cell? ⟨r + 1, 1, none⟩ = some (.int .i64 best.i) ∧ w.cell? ⟨r + 1, 2, none⟩ = some (.int .i64 best.b)) (by kernel_rfl) (by kernel_rfl) ⟨HO6.out.drew.cells 0, HO6.out.drew.cells 1, HO6.out.drew.cells 2, HO6.out.drew.p1.cells 0, HO6.out.drew.p1.cells 1, HO6.out.drew.p1.cells 2⟩ ?_
          have HO9 := hid HO6.out.drew
          have HK9 := hid HK6.out.drew
          clear HO6 HK6
          generalize w6.drew = w9 at *
          repeat (first
            | (refine wpL_read (by rfl) (by rfl) ?_ ?_ ?_; rotate_left; (rintro w ⟨z0, z1, z2, z3, z4, z5⟩; go_simp; with_reducible rfl); simp only [Act.put, List.setIfInBounds_toArray, List.set_cons_zero, List.set_cons_succ])
            | (refine wpL_skip (by rfl) ?_; simp only [Act.put, List.setIfInBounds_toArray, List.set_cons_zero, List.set_cons_succ]))
          refine wpL_nil ?_
          have c0 := HO9.out.cells
          have c1 := HO9.out.p1.cells
          have t1 := HO9.out.p1.thaw
          go_wp2_with fail
          exact ⟨⟨k + 1, by omega, by omega, by go_num, hid ⟨g, HT.out.take HG.out (fun h => h.elim (fun h => by rw [HA.out, HB.out] at h; exact H1.out h) (fun h => by have h := h.1; rw [HA.out, HB.out] at h; exact H2.out h)), (((HO9.out.p1.set 0 (.int .i64 g.n)).set 1 (.int .i64 g.i)).set 2 (.int .i64 g.b)).p1.drop⟩, hid (((HK9.out.set _ _).set _ _).set _ _)⟩, by simp [intOf]; omega⟩
    · have hki : decide (k ≤ 8) = false := decide_eq_false hlt
      obtain rfl : k = 9 := by omega
      have c1 := HO.out.cells
      have c2 := HO.out.p1.cells
      have t2 := HO.out.p1.thaw
      go_wp2_with fail
      try rw [Exit.noGoto_ret]
      have HO6 := hid (show Has (((wr.setCell ⟨r, 0, none⟩ (.int .i64 best.n)).setCell ⟨r, 1, none⟩ (.int .i64 best.i)).setCell ⟨r, 2, none⟩ (.int .i64 best.b)) (pt r (.cells (gcell best) 24) :: L) from (((HO.out.p1.set 0 (.int .i64 best.n)).set 1 (.int .i64 best.i)).set 2 (.int .i64 best.b)).p1.drop)
      have HK6 := hid (((HK.out.set ⟨r, 0, none⟩ (.int .i64 best.n)).set ⟨r, 1, none⟩ (.int .i64 best.i)).set ⟨r, 2, none⟩ (.int .i64 best.b))
      refine bodyPost_ret (geo_result best rfl rfl HO6.out) rfl ?_
      exact ⟨_, rfl, HT.out.all, HO6.out.drop, HK6.out⟩
end Go.Proofs.Ytbggnbahmdgbdaa
/- THE WALK of awake. -/
namespace Go.Proofs.Ytbggnbahmdgbdaa
open Go.RowKit Go.Own Go.Sl Go.Gm
set_option maxRecDepth 100000 in
set_option maxHeartbeats 4000000 in
theorem formatNil (g : Geo) (w : World) (L : List HP) (hO : Has w L) : Calls Try.prog 20 #[.pointer none, geoV g] w fun e w' => e = .returned (.int .i64 1) ∧ Has w' L ∧ Keep w w' := by
  have HO := hid (hO.alloc (.cells (gcell g) 24))
  have HK := hid ((Keep.refl w).alloc (.cells (gcell g) 24))
  clear hO
  unfold geoV at *
  go_enter Try.func20, Try.ntmps20
  go_wp2_with fail
  go_ret
  exact ⟨rfl, HO.out.drop, HK.out⟩
theorem room20 {g : Geo} {s : Int} (h : Room s g) (hs : s ≤ 20) : s = 20 ∧ g = ⟨1, 4, 16⟩ := by
  obtain ⟨hm, h2⟩ := h
  have e := sectors_of hm
  have hl := long_bound hm
  have h1 := may_iff.1 hm
  have h4 : long g = 1 + g.i / 4 + g.b := by unfold long; rw [Int.tdiv_eq_ediv_of_nonneg (by omega)]
  have h5 : 1 * long g ≤ g.n * long g := Int.mul_le_mul_of_nonneg_right (by omega) (by omega)
  have h6 : g.n * 18 ≤ g.n * long g := Int.mul_le_mul_of_nonneg_left hl.1 (by omega)
  obtain ⟨n, i, b⟩ := g
  dsimp only at *
  refine ⟨by omega, ?_⟩
  simp only [Geo.mk.injEq]
  omega
theorem room_g20 : Room 20 ⟨1, 4, 16⟩ := ⟨by decide, by decide⟩
set_option maxRecDepth 100000 in
theorem fit20 (w : World) (L : List HP) (hO : Has w L) : Calls Try.prog 7 #[.int .i64 20] w fun e w' => e = .returned (.agg #[.int .i64 1, .int .i64 4, .int .i64 16]) ∧ Has w' L ∧ Keep w w' :=
  (mFit 20 w L hO).mono fun e w' ⟨g, h1, h2, h3⟩ => by
    refine ⟨?_, h3⟩
    rcases h2 with ⟨rfl, h⟩ | ⟨h, -⟩
    · exact absurd room_g20 (h _)
    · rw [h1, (room20 h (by omega)).2]; rfl
set_option maxRecDepth 100000 in
theorem fit19 (w : World) (L : List HP) (hO : Has w L) : Calls Try.prog 7 #[.int .i64 19] w fun e w' => e = .returned (.agg #[.int .i64 0, .int .i64 0, .int .i64 0]) ∧ Has w' L ∧ Keep w w' :=
  (mFit 19 w L hO).mono fun e w' ⟨g, h1, h2, h3⟩ => by
    refine ⟨?_, h3⟩
    rcases h2 with ⟨rfl, h⟩ | ⟨h, -⟩
    · rw [h1]; rfl
    · exact absurd (room20 h (by omega)).1 (by omega)
def g20 : Geo := ⟨1, 4, 16⟩
theorem image20 (w : World) (L : List HP) (hO : Has w L) : Calls Try.prog 13 #[.agg #[.int .i64 1, .int .i64 4, .int .i64 16]] w fun e w' => ∃ g c, e = .returned (.slice (some ⟨g, 0, none⟩) 20 c) ∧ Has w' L ∧ Keep w w' :=
  (image g20 w L (by decide) hO).mono fun e w' ⟨v, h1, h2, h3⟩ => by
    have hl : (imgL g20).length = 20 := by rw [imgL_len]; decide
    rcases Wrt.form h2 with ⟨-, h⟩ | ⟨g, c, h⟩
    · rw [h] at hl; cases hl
    · exact ⟨g, c, by rw [h1, h, hl], h2.drop, h3⟩
set_option maxRecDepth 100000 in
set_option maxHeartbeats 4000000 in
theorem awake20 (w : World) (L : List HP) (hO : Has w L) : Calls Try.prog 12 #[] w fun e w' => e = .returned (.bool true) ∧ Has w' L ∧ Keep w w' := by
  have HO := hid (hO.alloc (.cells #[.int .i64 1, .int .i64 4, .int .i64 16] 24))
  have HK := hid ((Keep.refl w).alloc (.cells #[.int .i64 1, .int .i64 4, .int .i64 16] 24))
  have HF := hid (fun w' L (h : Has w' L) => formatNil g20 w' L h)
  unfold geoV g20 at HF
  clear hO
  go_enter Try.func12, Try.ntmps12
  go_wp2_with fail
  refine region_text (fun w' => w'.cell? ⟨w.heap.size, 0, none⟩ = some (.int .i64 1) ∧ w'.cell? ⟨w.heap.size, 1, none⟩ = some (.int .i64 4) ∧ w'.cell? ⟨w.heap.size, 2, none⟩ = some (.int .i64 16)) (by kernel_rfl) (by kernel_rfl) ⟨HO.out.drew.cells 0, HO.out.drew.cells 1, HO.out.drew.cells 2⟩ ?_
  repeat (first
    | (refine wpL_read (by rfl) (by rfl) ?_ ?_ ?_; rotate_left; (rintro w ⟨z0, z1, z2⟩; go_simp; with_reducible rfl); simp only [Act.put, List.setIfInBounds_toArray, List.set_cons_zero, List.set_cons_succ]) | (refine wpL_skip (by rfl) ?_; simp only [Act.put, List.setIfInBounds_toArray, List.set_cons_zero, List.set_cons_succ]))
  refine wpL_act (by rfl) (by rfl) (fun K hK => ?_)
  go_simp
  refine (image20 _ _ HO.out.drew).mono ?_
  rintro e w4 ⟨g4, c4, rfl, hO4, hK4⟩
  have HO4 := hid hO4
  have HK4 := hid ((HK.out.drew).trans hK4)
  clear hO4 hK4
  try dsimp only
  refine hK.out _ _ (⟨HO4.out.cells 0, HO4.out.cells 1, HO4.out.cells 2⟩) ?_
  clear hK K
  try simp only [Act.put, List.setIfInBounds_toArray, List.set_cons_zero, List.set_cons_succ]
  repeat (first
    | (refine wpL_read (by rfl) (by rfl) ?_ ?_ ?_; rotate_left; (rintro w ⟨z0, z1, z2⟩; go_simp; with_reducible rfl); simp only [Act.put, List.setIfInBounds_toArray, List.set_cons_zero, List.set_cons_succ]) | (refine wpL_skip (by rfl) ?_; simp only [Act.put, List.setIfInBounds_toArray, List.set_cons_zero, List.set_cons_succ]))
  refine wpL_act (by rfl) (by rfl) (fun K hK => ?_)
  go_simp
  refine (fit20 _ _ HO4.out).mono ?_
  rintro e w8 ⟨rfl, hO8, hK8⟩
  have HO8 := hid hO8
  have HK8 := hid ((HK4.out).trans hK8)
  clear hO8 hK8
  try dsimp only
  refine hK.out _ _ (⟨HO8.out.cells 0, HO8.out.cells 1, HO8.out.cells 2⟩) ?_
  clear hK K
  try simp only [Act.put, List.setIfInBounds_toArray, List.set_cons_zero, List.set_cons_succ]
  repeat (first
    | (refine wpL_read (by rfl) (by rfl) ?_ ?_ ?_; rotate_left; (rintro w ⟨z0, z1, z2⟩; go_simp; with_reducible rfl); simp only [Act.put, List.setIfInBounds_toArray, List.set_cons_zero, List.set_cons_succ]) | (refine wpL_skip (by rfl) ?_; simp only [Act.put, List.setIfInBounds_toArray, List.set_cons_zero, List.set_cons_succ]))
  refine wpL_act (by rfl) (by rfl) (fun K hK => ?_)
  go_simp
  refine (fit19 _ _ HO8.out).mono ?_
  rintro e w13 ⟨rfl, hO13, hK13⟩
  have HO13 := hid hO13
  have HK13 := hid ((HK8.out).trans hK13)
  clear hO13 hK13
  try dsimp only
  refine hK.out _ _ (⟨HO13.out.cells 0, HO13.out.cells 1, HO13.out.cells 2⟩) ?_
  clear hK K
  try simp only [Act.put, List.setIfInBounds_toArray, List.set_cons_zero, List.set_cons_succ]
  repeat (first
    | (refine wpL_read (by rfl) (by rfl) ?_ ?_ ?_; rotate_left; (rintro w ⟨z0, z1, z2⟩; go_simp; with_reducible rfl); simp only [Act.put, List.setIfInBounds_toArray, List.set_cons_zero, List.set_cons_succ]) | (refine wpL_skip (by rfl) ?_; simp only [Act.put, List.setIfInBounds_toArray, List.set_cons_zero, List.set_cons_succ]))
  refine wpL_act (by rfl) (by rfl) (fun K hK => ?_)
  go_simp
  refine (HF.out _ _ HO13.out).mono ?_
  rintro e w19 ⟨rfl, hO19, hK19⟩
  have HO19 := hid hO19
  have HK19 := hid ((HK13.out).trans hK19)
  clear hO19 hK19
  try dsimp only
  refine hK.out _ _ (⟨HO19.out.cells 0, HO19.out.cells 1, HO19.out.cells 2⟩) ?_
  clear hK K
  try simp only [Act.put, List.setIfInBounds_toArray, List.set_cons_zero, List.set_cons_succ]
  repeat (first
    | (refine wpL_read (by rfl) (by rfl) ?_ ?_ ?_; rotate_left; (rintro w ⟨z0, z1, z2⟩; go_simp; with_reducible rfl); simp only [Act.put, List.setIfInBounds_toArray, List.set_cons_zero, List.set_cons_succ]) | (refine wpL_skip (by rfl) ?_; simp only [Act.put, List.setIfInBounds_toArray, List.set_cons_zero, List.set_cons_succ]))
  refine wpL_nil ?_
  go_wp2_with fail
  go_ret
  exact ⟨rfl, HO19.out.drop, HK19.out⟩
end Go.Proofs.Ytbggnbahmdgbdaa
/- THE PLAIN LAW of an image: what stands in each sector. -/
namespace Go.Proofs.Ytbggnbahmdgbdaa
open Go.RowKit Go.Own Go.Sl Go.Gm
/-- A list with some places laid over. -/
def setsT (T : List (List Int)) (f : Nat → Nat) (v : Nat → List Int) : Nat → List (List Int)
  | 0 => T
  | k + 1 => (setsT T f v k).set (f k) (v k)
theorem setsT_len (T : List (List Int)) (f : Nat → Nat) (v : Nat → List Int) : ∀ k, (setsT T f v k).length = T.length
  | 0 => rfl
  | k + 1 => by rw [setsT, List.length_set, setsT_len T f v k]
theorem setsT_none (T : List (List Int)) (f : Nat → Nat) (v : Nat → List Int) (j : Nat) : ∀ K, (∀ k, k < K → f k ≠ j) → (setsT T f v K)[j]? = T[j]?
  | 0, _ => rfl
  | K + 1, h => by
    rw [setsT, List.getElem?_set_ne (h K (by omega))]
    exact setsT_none T f v j K fun k hk => h k (by omega)
theorem setsT_some (T : List (List Int)) (f : Nat → Nat) (v : Nat → List Int) (j : Nat) (hj : j < T.length) : ∀ K k, k < K → f k = j → (∀ a, a < K → f a = j → v a = v k) → (setsT T f v K)[j]? = some (v k)
  | 0, k, h, _, _ => by omega
  | K + 1, k, h, e, hu => by
    rw [setsT]
    by_cases hK : f K = j
    · rw [hK, List.getElem?_set_self (by rw [setsT_len]; exact hj), hu K (by omega) hK]
    · rw [List.getElem?_set_ne hK]
      have : k ≠ K := fun h => hK (by rw [← h]; exact e)
      exact setsT_some T f v j hj K k (by omega) e fun a ha => hu a (by omega)
theorem grpT_sets (g : Geo) (T : List (List Int)) : ∀ k, grpT g T k = setsT T (fun k => (2 + (k : Int) * long g).toNat) (grpL g) k
  | 0 => rfl
  | k + 1 => by rw [grpT, setsT, grpT_sets g T k]
theorem inoT_sets (g : Geo) (T : List (List Int)) : ∀ k, inoT g T k = setsT T (inoI g) inoS k
  | 0 => rfl
  | k + 1 => by rw [inoT, setsT, inoT_sets g T k]
/-- One place, one way to write it. -/
theorem two_ways {l k r k' r' : Nat} (h : k * l + r = k' * l + r') (hr : r < l) (hr' : r' < l) : k = k' ∧ r = r' := by
  have h1 : (k * l + r) / l = k := by rw [Nat.mul_comm, Nat.mul_add_div (by omega), Nat.div_eq_of_lt hr, Nat.add_zero]
  have h2 : (k' * l + r') / l = k' := by rw [Nat.mul_comm, Nat.mul_add_div (by omega), Nat.div_eq_of_lt hr', Nat.add_zero]
  have : k = k' := by rw [← h1, h, h2]
  subst this
  exact ⟨rfl, by omega⟩
/-- The numbers of a geometry that may be. -/
structure Gn (g : Geo) (n m b : Nat) : Prop where
  hg : g = ⟨(n : Int), 4 * (m : Int), (b : Int)⟩
  hn : 1 ≤ n ∧ n ≤ 8
  hm : 1 ≤ m ∧ m ≤ 8
  hb : 16 ≤ b ∧ b ≤ 96
theorem gn_of {g : Geo} (h : may g = true) : ∃ n m b, Gn g n m b := by
  have := may_iff.1 h
  refine ⟨g.n.toNat, (g.i / 4).toNat, g.b.toNat, ?_, by omega, by omega, by omega⟩
  cases g
  simp only [Geo.mk.injEq] at this ⊢
  omega
theorem Gn.long {g : Geo} {n m b : Nat} (h : Gn g n m b) : long g = ((1 + m + b : Nat) : Int) := by
  rw [h.hg]
  unfold Gm.long
  have : (4 * (m : Int)).tdiv 4 = m := by rw [Int.tdiv_eq_ediv_of_nonneg (by omega)]; omega
  dsimp only
  rw [this]; omega
theorem Gn.may {g : Geo} {n m b : Nat} (h : Gn g n m b) : may g = true := by
  rw [may_iff, h.hg]
  have := h.hn; have := h.hm; have := h.hb
  dsimp only
  omega
theorem Gn.sectors {g : Geo} {n m b : Nat} (h : Gn g n m b) : (sectors g).toNat = 2 + n * (1 + m + b) := by
  rw [sectors_of h.may, h.long]
  have e : g.n = (n : Int) := by rw [h.hg]
  rw [e, ← Int.natCast_mul]
  omega
theorem Gn.four {g : Geo} {n m b : Nat} (h : Gn g n m b) : (inodes g / 4).toNat = n * m := by
  rw [inodes_of h.may]
  have e : g.n = (n : Int) := by rw [h.hg]
  have e2 : g.i = 4 * (m : Int) := by rw [h.hg]
  rw [e, e2, show (n : Int) * (4 * (m : Int)) = 4 * ((n * m : Nat) : Int) from by rw [Int.natCast_mul, ← Int.mul_assoc, Int.mul_comm (n : Int) 4, Int.mul_assoc]]
  omega
theorem Gn.grpAt {g : Geo} {n m b : Nat} (h : Gn g n m b) (k : Nat) : (2 + (k : Int) * Gm.long g).toNat = 2 + k * (1 + m + b) := by
  rw [h.long, ← Int.natCast_mul]; omega
theorem Gn.inoAt {g : Geo} {n m b : Nat} (h : Gn g n m b) (k r : Nat) (hr : r < m) : inoI g (k * m + r) = 2 + (k * (1 + m + b) + (1 + r)) := by
  unfold inoI
  have e2 : g.i = ((4 * m : Nat) : Int) := by rw [h.hg]; simp
  rw [h.long, e2, show 4 * ((k * m + r : Nat) : Int) = ((4 * (k * m + r) : Nat) : Int) from by omega, ← Int.natCast_ediv, ← Int.natCast_emod,
    Nat.mul_div_mul_left _ _ (by omega), Nat.mul_mod_mul_left]
  have h1 : (k * m + r) / m = k := by rw [Nat.mul_comm, Nat.mul_add_div (by omega), Nat.div_eq_of_lt hr, Nat.add_zero]
  have h2 : (k * m + r) % m = r := by rw [Nat.mul_comm, Nat.mul_add_mod, Nat.mod_eq_of_lt hr]
  rw [h1, h2, ← Int.natCast_mul]
  omega
/-- What stands behind the first two. -/
def secR (g : Geo) (m : Nat) (k r : Nat) : List Int := if r = 0 then grpL g k else if r ≤ m then inoS (k * m + (r - 1)) else zs 128
theorem img_0 {g : Geo} (h : may g = true) : (imgL g)[0]? = some (superL g) := by
  obtain ⟨n, m, b, H⟩ := gn_of h
  have hb := H.hb
  rw [imgL, H.sectors, inoT_sets, setsT_none, grpT_sets, setsT_none, startT]
  · rw [List.getElem?_set_ne (by omega), List.getElem?_set_self (by simp; omega)]
  · intro k _
    rw [H.grpAt]; omega
  · intro q hq
    rw [H.four] at hq
    have := H.inoAt (q / m) (q % m) (Nat.mod_lt _ (by have := H.hm; omega))
    rw [Nat.div_add_mod'] at this
    rw [this]; omega
theorem img_1 {g : Geo} (h : may g = true) : (imgL g)[1]? = some (sealL 82 (zs 59)) := by
  obtain ⟨n, m, b, H⟩ := gn_of h
  have hb := H.hb
  have hn : 1 * (1 + m + b) ≤ n * (1 + m + b) := Nat.mul_le_mul_right _ H.hn.1
  rw [imgL, H.sectors, inoT_sets, setsT_none, grpT_sets, setsT_none, startT]
  · rw [List.getElem?_set_self (by simp; omega)]
  · intro k _
    rw [H.grpAt]; omega
  · intro q hq
    rw [H.four] at hq
    have := H.inoAt (q / m) (q % m) (Nat.mod_lt _ (by have := H.hm; omega))
    rw [Nat.div_add_mod'] at this
    rw [this]; omega
theorem img_r {g : Geo} {n m b : Nat} (H : Gn g n m b) {k r : Nat} (hk : k < n) (hr : r < 1 + m + b) : (imgL g)[2 + (k * (1 + m + b) + r)]? = some (secR g m k r) := by
  have hb := H.hb
  have hm := H.hm
  have hkl : k * (1 + m + b) + (1 + m + b) ≤ n * (1 + m + b) := by
    have := Nat.mul_le_mul_right (1 + m + b) (show k + 1 ≤ n by omega)
    rwa [Nat.add_mul, Nat.one_mul] at this
  have four : ∀ q, inoI g q = 2 + (q / m * (1 + m + b) + (1 + q % m)) := fun q => by
    have := H.inoAt (q / m) (q % m) (Nat.mod_lt _ (by omega))
    rwa [Nat.div_add_mod'] at this
  rw [imgL, H.sectors, H.four, inoT_sets, show g.n.toNat = n by rw [H.hg]; simp, grpT_sets]
  unfold secR
  by_cases h0 : r = 0
  · subst h0
    rw [if_pos rfl, setsT_none, setsT_some _ _ _ _ (by rw [startT_len]; omega) n k hk (H.grpAt k)]
    · intro a _ e
      rw [H.grpAt] at e
      obtain ⟨rfl, -⟩ := two_ways (l := 1 + m + b) (r := 0) (r' := 0) (show a * (1 + m + b) + 0 = k * (1 + m + b) + 0 by omega) (by omega) (by omega)
      rfl
    · intro q _ e
      rw [four] at e
      have := Nat.mod_lt q (show 0 < m by omega)
      have := (two_ways (l := 1 + m + b) (r := 1 + q % m) (r' := 0) (show q / m * (1 + m + b) + (1 + q % m) = k * (1 + m + b) + 0 by omega) (by omega) (by omega)).2
      omega
  · rw [if_neg h0]
    by_cases h1 : r ≤ m
    · rw [if_pos h1, setsT_some _ _ _ _ (by rw [setsT_len, startT_len]; omega) (n * m) (k * m + (r - 1))]
      · have := Nat.mul_le_mul_right m (show k + 1 ≤ n by omega)
        rw [Nat.add_mul, Nat.one_mul] at this
        omega
      · rw [H.inoAt k (r - 1) (by omega)]; omega
      · intro a _ e
        rw [four] at e
        have := Nat.mod_lt a (show 0 < m by omega)
        obtain ⟨e1, e2⟩ := two_ways (l := 1 + m + b) (r := 1 + a % m) (r' := r) (show a / m * (1 + m + b) + (1 + a % m) = k * (1 + m + b) + r by omega) (by omega) (by omega)
        have := Nat.div_add_mod' a m
        rw [e1] at this
        rw [show k * m + (r - 1) = a by omega]
    · rw [if_neg h1, setsT_none, setsT_none, startT, List.getElem?_set_ne (by omega), List.getElem?_set_ne (by omega), List.getElem?_replicate, if_pos (by omega)]
      · intro a _ e
        rw [H.grpAt] at e
        have := (two_ways (l := 1 + m + b) (r := 0) (r' := r) (show a * (1 + m + b) + 0 = k * (1 + m + b) + r by omega) (by omega) (by omega)).2
        omega
      · intro q _ e
        rw [four] at e
        have := Nat.mod_lt q (show 0 < m by omega)
        have := (two_ways (l := 1 + m + b) (r := 1 + q % m) (r' := r) (show q / m * (1 + m + b) + (1 + q % m) = k * (1 + m + b) + r by omega) (by omega) (by omega)).2
        omega
theorem sealL_ne {k : Int} (hk : k ≠ 0) (b : List Int) : sealL k b ≠ zs 128 := by
  intro h
  have := congrArg List.head? h
  rw [sealL, sealB] at this
  simp [zs] at this
  exact hk this
theorem superL_inj {g h : Geo} (e : superL g = superL h) : g = h := by
  have e5 := congrArg (fun l => l[5]?) e
  have e6 := congrArg (fun l => l[6]?) e
  have e7 := congrArg (fun l => l[7]?) e
  simp [superL, sealL, sealB, superB] at e5 e6 e7
  cases g; cases h
  simp_all
theorem imgL_inj {g h : Geo} (hg : may g = true) (hh : may h = true) (e : imgL g = imgL h) : g = h := by
  have a := img_0 hg
  rw [e, img_0 hh] at a
  exact (superL_inj (Option.some.inj a)).symm
/-- How many of the first ones are zeros alone. -/
def zeroN (T : List (List Int)) (j : Nat) : Nat := (T.take j).countP fun x => decide (x = zs 128)
theorem zeroN_succ {T : List (List Int)} {j : Nat} {x : List Int} (h : T[j]? = some x) : zeroN T (j + 1) = zeroN T j + if x = zs 128 then 1 else 0 := by
  obtain ⟨hj, rfl⟩ := List.getElem?_eq_some_iff.1 h
  rw [zeroN, List.take_succ_eq_append_getElem hj, List.countP_append, ← zeroN]
  simp [List.countP_cons]
theorem zeroN_r {g : Geo} {n m b : Nat} (H : Gn g n m b) {k : Nat} (hk : k < n) (h0 : zeroN (imgL g) (2 + (k * (1 + m + b))) = k * b) : ∀ r, r ≤ 1 + m + b → zeroN (imgL g) (2 + (k * (1 + m + b) + r)) = k * b + (r - (1 + m))
  | 0, _ => by simpa using h0
  | r + 1, h => by
    have := zeroN_succ (img_r H hk (r := r) (by omega))
    rw [show 2 + (k * (1 + m + b) + (r + 1)) = 2 + (k * (1 + m + b) + r) + 1 from rfl, this, zeroN_r H hk h0 r (by omega), secR]
    by_cases e0 : r = 0
    · rw [if_pos e0, if_neg (show grpL g k ≠ zs 128 from sealL_ne (by decide) _)]; omega
    · rw [if_neg e0]
      by_cases e1 : r ≤ m
      · rw [if_pos e1, if_neg (show inoS (k * m + (r - 1)) ≠ zs 128 from sealL_ne (by decide) _)]; omega
      · rw [if_neg e1, if_pos rfl]; omega
theorem zeroN_k {g : Geo} {n m b : Nat} (H : Gn g n m b) : ∀ k, k ≤ n → zeroN (imgL g) (2 + k * (1 + m + b)) = k * b
  | 0, _ => by
    have h2 := zeroN_succ (img_0 H.may)
    have h3 := zeroN_succ (img_1 H.may)
    rw [if_neg (show superL g ≠ zs 128 from sealL_ne (by decide) _)] at h2
    rw [if_neg (show sealL 82 (zs 59) ≠ zs 128 from sealL_ne (by decide) _)] at h3
    rw [show 2 + 0 * (1 + m + b) = 0 + 1 + 1 by omega, h3, h2]
    rw [Nat.zero_mul]; rfl
  | k + 1, h => by
    have := zeroN_r H (k := k) (by omega) (zeroN_k H k (by omega)) (1 + m + b) (by omega)
    rw [show 2 + (k + 1) * (1 + m + b) = 2 + (k * (1 + m + b) + (1 + m + b)) by rw [Nat.add_mul]; omega, this, Nat.add_mul]
    omega
theorem zeroN_all {g : Geo} (h : may g = true) : (zeroN (imgL g) (imgL g).length : Int) = blocks g := by
  obtain ⟨n, m, b, H⟩ := gn_of h
  rw [imgL_len, H.sectors, zeroN_k H n (by omega), blocks_of h, H.hg, Int.natCast_mul]
theorem zeroN_le (T : List (List Int)) (j : Nat) : zeroN T j ≤ j := by
  unfold zeroN
  exact Nat.le_trans List.countP_le_length (by simp; omega)
end Go.Proofs.Ytbggnbahmdgbdaa
/- THE WALKS of the document's Sum and Seal. -/
namespace Go.Proofs.Ytbggnbahmdgbdaa
open Go.RowKit Go.Own Go.Sl Go.Gm
set_option maxRecDepth 100000 in
set_option maxHeartbeats 4000000 in
theorem rSum (v : Value) (xs : List Int) (w : World) (hr : Rd w v 1 xs.length (bc xs)) (hl : xs.length ≤ 1000000) :
    Calls Try.prog 75 #[v] w fun e w' => e = .returned (.int .u32 (sumL xs)) ∧ w = w' := by
  obtain ⟨p, c, rfl, -, -, hcs⟩ := hr.form
  have HC := hid hcs
  clear hcs hr
  go_enter Try.func75, Try.ntmps75
  go_wp2_with fail
  go_loopw [3, 4] (fun s i w' => ∃ k : Nat, ∃ n : Int, k ≤ xs.length ∧ i = .int .i64 k ∧ s = .int .u32 n ∧ Hid ((xs.take k).foldl sum1 2166136261 = n) ∧ w = w') (fun _ i _ => xs.length - (intOf i).toNat)
  case atStart => exact ⟨0, _, by omega, rfl, rfl, hid rfl, rfl⟩
  case round =>
    obtain ⟨k, n, hk, rfl, rfl, HN, rfl⟩ := hrel
    by_cases hlt : k < xs.length
    · have hki : (k : Int) < (xs.length : Int) := by omega
      obtain ⟨g, o, rfl, hc⟩ := HC.out (by omega)
      have hx := hc k (by omega)
      rw [bc, List.getElem?_map, List.getElem?_eq_getElem hlt, Option.map_some] at hx
      have HS := hid (fold_snoc xs k hlt)
      have hk1 : wrap64 ((k : Int) + 1) = ((k + 1 : Nat) : Int) := by rw [wrap_in _ (by omega)]; omega
      clear hc
      generalize xs[k] = x at *
      go_wp2_with fail
      exact ⟨⟨k + 1, _, by omega, rfl, rfl, hid (by rw [HS.out, HN.out]; rfl), by trivial⟩, by simp [intOf]; omega⟩
    · have hki : ¬ (k : Int) < (xs.length : Int) := by omega
      have e : xs.foldl sum1 2166136261 = n := by have := HN.out; rwa [List.take_of_length_le (by omega)] at this
      have HE := hid (show sumL xs = sumF n by rw [sumL, e])
      clear e HN
      go_wp2_with fail
      go_ret
      exact ⟨by rw [HE.out]; rfl, rfl⟩
theorem underInt' : Try.prog.underlying 3 = some (.int .i64) := Try.underlying3
set_option maxRecDepth 100000 in
set_option maxHeartbeats 4000000 in
theorem rSeal (k : Int) (v : Value) (b : List Int) (w : World) (L : List HP) (hk : k ≠ 0) (hl : b.length ≤ 123) (hr : ∀ w', Has w' L → Rd w' v 1 b.length (bc b)) (hO : Has w L) :
    Calls Try.prog 63 #[.int .u8 k, v] w fun e w' => ∃ v', e = .returned (.tuple #[v', .int .i64 0]) ∧ Has w' (Bytes v' (sealL k b) :: L) ∧ Keep w w' := by
  obtain ⟨p, c, rfl, -⟩ := (hr w hO).form
  have HR := hid hr
  have HO := hid (show Has (w.alloc (.cells #[.int .u8 k] 5)) (row (.slice (some ⟨w.heap.size, 0, none⟩) 1 1) 5 1 1 [.int .u8 k] :: L) from (hO.alloc _).row_of (by omega) (le_maxLen (by omega)) rfl rfl rfl)
  have HK := hid ((Keep.refl w).alloc (.cells #[.int .u8 k] 5))
  have hk0 : (k == 0) = false := by simpa using hk
  have hli : ¬ (123 : Int) < (b.length : Int) := by omega
  have HRD := hid (hr _ HO.out.drop)
  have HL := hid hl
  obtain ⟨m, hm⟩ : ∃ m : Nat, (123 : Int) - (b.length : Int) = (m : Int) := ⟨123 - b.length, by omega⟩
  have HM := hid (show 123 - b.length = m by omega)
  clear hr hk hO hl
  go_enter Try.func63, Try.ntmps63
  go_wp2_with (at_builtin; refine wpList_appendA rfl _ _ _ rfl Try.underlying35 infoU8 rfl (by decide) HO.out rfl _ b.length (bc b) rfl HRD.out (bc_one _) (le_maxLen (by have := HL.out; omega)) (by have := HL.out; omega) ?_)
  intro v2 w2 h2 hk2
  have HO2 := hid h2
  have HK2 := hid (HK.out.trans hk2)
  obtain ⟨p2, c2, rfl, -⟩ := HO2.out.rd.form
  clear h2 hk2 HO HK HRD
  go_wp2_with (at_builtin; refine wpList_appendZ rfl _ _ _ _ rfl Try.underlying35 underInt' infoU8 rfl rfl HO2.out rfl m rfl (le_maxLen (by have := HL.out; have := HM.out; omega)) (by have := HL.out; have := HM.out; omega) ?_)
  intro v3 w3 h3 hk3
  have HO3 := hid (show Has w3 (Bytes v3 (sealB k b) :: L) from by
    unfold Bytes
    rw [sealB_len HL.out]
    have e : 1 + b.length + m = 124 := by have := HM.out; have := HL.out; omega
    rw [e] at h3
    have e2 : Value.int .u8 k :: (bc b ++ List.replicate m (.int .u8 0)) = bc (sealB k b) := by
      simp [bc, sealB, zs, HM.out]
    rwa [e2] at h3)
  have HK3 := hid (HK2.out.trans hk3)
  clear h3 hk3 HO2 HK2 hm
  go_wp2_with fail
  refine (rSum v3 (sealB k b) w3 (Bytes.rd HO3.out) (by rw [sealB_len HL.out]; omega)).mono ?_
  rintro e w' ⟨rfl, rfl⟩
  try dsimp only
  obtain ⟨p3, c3, rfl, -⟩ := (Bytes.rd HO3.out).form
  have HSL := hid (sealB_len (k := k) HL.out)
  have HSB := hid (show sealL k b = sealB k b ++ sumB (sumL (sealB k b)) from rfl)
  rw [HSL.out]
  generalize sealB k b = sb at *
  have HO4 := hid (show Has (w3.alloc (.cells #[.int .u8 (sumL sb / 16777216 % 256), .int .u8 (sumL sb / 65536 % 256), .int .u8 (sumL sb / 256 % 256), .int .u8 (sumL sb % 256)] 5)) (pt w3.heap.size (.cells (bc (sumB (sumL sb))).toArray 5) :: Bytes (.slice p3 sb.length c3) sb :: L) from HO3.out.alloc _)
  have HK4 := hid (HK3.out.alloc (.cells #[.int .u8 (sumL sb / 16777216 % 256), .int .u8 (sumL sb / 65536 % 256), .int .u8 (sumL sb / 256 % 256), .int .u8 (sumL sb % 256)] 5))
  have HRD := hid (Bytes.rd (bytesLit (sumB (sumL sb)) HO4.out rfl (by show 4 ≤ 1000000000; omega)))
  have HO5 := hid (show Has _ (row (.slice p3 124 c3) 5 1 124 (bc sb) :: _) from by have h := HO4.out.p1; unfold Bytes at h; rwa [HSL.out] at h)
  go_wp2_with (at_builtin; refine wpList_appendA rfl _ _ _ rfl Try.underlying35 infoU8 rfl (by decide) HO5.out rfl _ 4 (bc (sumB (sumL sb))) rfl HRD.out (bc_one _) (le_maxLen (by omega)) (by omega) ?_)
  intro v6 w6 h6 hk6
  have HO6 := hid h6
  have HK6 := hid (HK4.out.trans hk6)
  clear h6 hk6 HO5 HK4 HRD HO4 HO3 HK3
  go_wp2_with fail
  go_ret2
  refine ⟨v6, rfl, ?_, HK6.out⟩
  have h := HO6.out.p1.drop
  have e : (sealL k b).length = 128 := by rw [HSB.out, List.length_append, HSL.out]; rfl
  unfold Bytes
  rw [e, HSB.out]
  simpa [bc] using h
end Go.Proofs.Ytbggnbahmdgbdaa
