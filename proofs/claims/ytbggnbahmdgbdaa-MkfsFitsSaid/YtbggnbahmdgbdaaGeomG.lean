/- THE WALK of mkfs.Fit. -/
import Derived.Test.YtbggnbahmdgbdaaGeomF
namespace Go.Proofs.Ytbggnbahmdgbdaa
open Go.RowKit Go.Own Go.Gm
set_option maxRecDepth 100000 in
set_option maxHeartbeats 16000000 in
theorem mFit (s : Int) (w : World) (L : List HP) (hO : Has w L) :
    Calls Try.prog 7 #[.int .i64 s] w fun e w' => ∃ g, e = .returned (geoV g) ∧ Best (Room s) g ∧ Has w' L ∧ Keep w w' := by
  have HO := hid (two_boxes (.cells (gcell zero) 24) (.cells (gcell zero) 24) hO)
  have HK := hid (((Keep.refl w).alloc (.cells (gcell zero) 24)).alloc (.cells (gcell zero) 24))
  clear hO
  have HCB := hid (fun g w' L (h : Has w' L) => gBlocks g w' L h)
  have HCI := hid (fun g w' L (h : Has w' L) => gInodes g w' L h)
  unfold geoV at HCB HCI
  go_enter Try.func7, Try.ntmps7
  go_wp2_with fail
  go_step3
  go_wp2_with fail
  go_step3
  go_wp2_with fail
  have hz : gcell zero = #[.int .i64 0, .int .i64 0, .int .i64 0] := rfl
  rw [hz] at HO HK
  clear hz
  generalize w.heap.size = r at *
  generalize hwb : (w.alloc (.cells #[.int .i64 0, .int .i64 0, .int .i64 0] 24)).alloc (.cells #[.int .i64 0, .int .i64 0, .int .i64 0] 24) = wb at *
  clear hwb
  go_loopw [4] (fun b w' => ∃ k : Int, 1 ≤ k ∧ k ≤ 9 ∧ b = .int .i64 k ∧ Hid (∃ best, Upto s k best ∧ Has w' (pt (r + 1) (.cells #[.int .i64 best.n, .int .i64 best.i, .int .i64 best.b] 24) :: pt r (.cells #[.int .i64 0, .int .i64 0, .int .i64 0] 24) :: L)) ∧ Hid (Keep w w')) (fun b _ => (9 - intOf b).toNat)
  case atStart => exact ⟨1, by omega, by omega, rfl, hid ⟨zero, Upto.start s, HO.out⟩, HK⟩
  case round =>
    clear HO HK
    obtain ⟨k, hk1, hk2, rfl, HY, HK⟩ := hrel
    obtain ⟨best, hT, hO⟩ := HY.out
    have HT := hid hT
    have HO := hid hO
    clear hT hO HY
    by_cases hlt : k ≤ 8
    · have hki : decide (k ≤ 8) = true := decide_eq_true hlt
      go_wp2_with fail
      refine (mFits s k _ _ ⟨hk1, hlt⟩ HO.out).mono ?_
      rintro e w3 ⟨g, rfl, hG, hO3, hK3⟩
      have HG := hid hG
      have HO3 := hid (hO3.alloc (.cells #[.int .i64 g.n, .int .i64 g.i, .int .i64 g.b] 24))
      have HK3 := hid ((HK.out.trans hK3).alloc (.cells #[.int .i64 g.n, .int .i64 g.i, .int .i64 g.b] 24))
      clear hG hO3 hK3 HO HK
      try dsimp only
      unfold geoV
      go_upto_region 6 with fail
      generalize w3.heap.size = b5 at *
      generalize w3.alloc (.cells #[.int .i64 g.n, .int .i64 g.i, .int .i64 g.b] 24) = w4 at *
      refine region_text (fun w => w.cell? ⟨b5, 0, none⟩ = some (.int .i64 g.n) ∧ w.cell? ⟨b5, 1, none⟩ = some (.int .i64 g.i) ∧ w.cell? ⟨b5, 2, none⟩ = some (.int .i64 g.b) ∧ w.cell? ⟨r + 1, 0, none⟩ = some (.int .i64 best.n) ∧ w.cell? ⟨r + 1, 1, none⟩ = some (.int .i64 best.i) ∧ w.cell? ⟨r + 1, 2, none⟩ = some (.int .i64 best.b)) (by kernel_rfl) (by kernel_rfl) ⟨HO3.out.drew.cells 0, HO3.out.drew.cells 1, HO3.out.drew.cells 2, HO3.out.drew.p1.cells 0, HO3.out.drew.p1.cells 1, HO3.out.drew.p1.cells 2⟩ ?_
      repeat (first
        | (refine wpL_read (by rfl) (by rfl) ?_ ?_ ?_; rotate_left; (rintro w ⟨z0, z1, z2, z3, z4, z5⟩; go_simp; with_reducible rfl); simp only [Act.put, List.setIfInBounds_toArray, List.set_cons_zero, List.set_cons_succ])
        | (refine wpL_skip (by rfl) ?_; simp only [Act.put, List.setIfInBounds_toArray, List.set_cons_zero, List.set_cons_succ]))
      refine wpL_act (by rfl) (by rfl) (fun K hK => ?_)
      go_simp
      refine (HCB.out g _ _ HO3.out.drew).mono ?_
      rintro e w5 ⟨rfl, hO5, hK5⟩
      have HO5 := hid hO5
      have HK5 := hid (HK3.out.drew.trans hK5)
      clear hO5 hK5
      try dsimp only
      refine hK.out _ _ ⟨HO5.out.cells 0, HO5.out.cells 1, HO5.out.cells 2, HO5.out.p1.cells 0, HO5.out.p1.cells 1, HO5.out.p1.cells 2⟩ ?_
      clear hK K
      try simp only [Act.put, List.setIfInBounds_toArray, List.set_cons_zero, List.set_cons_succ]
      repeat (first
        | (refine wpL_read (by rfl) (by rfl) ?_ ?_ ?_; rotate_left; (rintro w ⟨z0, z1, z2, z3, z4, z5⟩; go_simp; with_reducible rfl); simp only [Act.put, List.setIfInBounds_toArray, List.set_cons_zero, List.set_cons_succ])
        | (refine wpL_skip (by rfl) ?_; simp only [Act.put, List.setIfInBounds_toArray, List.set_cons_zero, List.set_cons_succ]))
      refine wpL_act (by rfl) (by rfl) (fun K hK => ?_)
      go_simp
      refine (HCB.out best _ _ HO5.out).mono ?_
      rintro e w6 ⟨rfl, hO6, hK6⟩
      have HO6 := hid hO6
      have HK6 := hid (HK5.out.trans hK6)
      clear hO6 hK6
      try dsimp only
      refine hK.out _ _ ⟨HO6.out.cells 0, HO6.out.cells 1, HO6.out.cells 2, HO6.out.p1.cells 0, HO6.out.p1.cells 1, HO6.out.p1.cells 2⟩ ?_
      clear hK K
      try simp only [Act.put, List.setIfInBounds_toArray, List.set_cons_zero, List.set_cons_succ]
      repeat (first
        | (refine wpL_read (by rfl) (by rfl) ?_ ?_ ?_; rotate_left; (rintro w ⟨z0, z1, z2, z3, z4, z5⟩; go_simp; with_reducible rfl); simp only [Act.put, List.setIfInBounds_toArray, List.set_cons_zero, List.set_cons_succ])
        | (refine wpL_skip (by rfl) ?_; simp only [Act.put, List.setIfInBounds_toArray, List.set_cons_zero, List.set_cons_succ]))
      refine wpL_nil ?_
      by_cases h1 : blocks g < blocks best
      · have H1 := hid h1
        have d1 : decide (blocks g < blocks best) = true := decide_eq_true h1
        clear h1
        generalize hA : blocks g = A at *
        generalize hB : blocks best = B at *
        have HA := hid hA
        have HB := hid hB
        clear hA hB
        go_upto_region 7 with fail
        refine region_text (fun w => w.cell? ⟨b5, 0, none⟩ = some (.int .i64 g.n) ∧ w.cell? ⟨b5, 1, none⟩ = some (.int .i64 g.i) ∧ w.cell? ⟨b5, 2, none⟩ = some (.int .i64 g.b) ∧ w.cell? ⟨r + 1, 0, none⟩ = some (.int .i64 best.n) ∧ w.cell? ⟨r + 1, 1, none⟩ = some (.int .i64 best.i) ∧ w.cell? ⟨r + 1, 2, none⟩ = some (.int .i64 best.b)) (by kernel_rfl) (by kernel_rfl) ⟨HO6.out.drew.cells 0, HO6.out.drew.cells 1, HO6.out.drew.cells 2, HO6.out.drew.p1.cells 0, HO6.out.drew.p1.cells 1, HO6.out.drew.p1.cells 2⟩ ?_
        have HO9 := hid HO6.out.drew
        have HK9 := hid HK6.out.drew
        clear HO6 HK6
        generalize w6.drew = w9 at *
        repeat (first
          | (refine wpL_read (by rfl) (by rfl) ?_ ?_ ?_; rotate_left; (rintro w ⟨z0, z1, z2, z3, z4, z5⟩; go_simp; with_reducible rfl); simp only [Act.put, List.setIfInBounds_toArray, List.set_cons_zero, List.set_cons_succ])
          | (refine wpL_skip (by rfl) ?_; simp only [Act.put, List.setIfInBounds_toArray, List.set_cons_zero, List.set_cons_succ]))
        refine wpL_nil ?_
        go_wp2_with fail
        exact ⟨⟨k + 1, by omega, by omega, by go_num, hid ⟨best, HT.out.keep HG.out (.inl (by rw [HA.out, HB.out]; exact H1.out)), HO9.out.drop⟩, HK9⟩, by simp [intOf]; omega⟩
      · have d1 : decide (blocks g < blocks best) = false := decide_eq_false h1
        by_cases h2 : blocks g = blocks best
        · have H2 := hid h2
          have H1 := hid h1
          rw [h2] at d1
          rw [h2]
          clear h1 h2
          generalize hB : blocks best = B at *
          have HB := hid hB
          clear hB
          have e2 : (B == B) = true := by simp
          go_upto_region 7 with fail
          refine region_text (fun w => w.cell? ⟨b5, 0, none⟩ = some (.int .i64 g.n) ∧ w.cell? ⟨b5, 1, none⟩ = some (.int .i64 g.i) ∧ w.cell? ⟨b5, 2, none⟩ = some (.int .i64 g.b) ∧ w.cell? ⟨r + 1, 0, none⟩ = some (.int .i64 best.n) ∧ w.cell? ⟨r + 1, 1, none⟩ = some (.int .i64 best.i) ∧ w.cell? ⟨r + 1, 2, none⟩ = some (.int .i64 best.b)) (by kernel_rfl) (by kernel_rfl) ⟨HO6.out.drew.cells 0, HO6.out.drew.cells 1, HO6.out.drew.cells 2, HO6.out.drew.p1.cells 0, HO6.out.drew.p1.cells 1, HO6.out.drew.p1.cells 2⟩ ?_
          have HO9 := hid HO6.out.drew
          have HK9 := hid HK6.out.drew
          clear HO6 HK6
          generalize w6.drew = w9 at *
          repeat (first
            | (refine wpL_read (by rfl) (by rfl) ?_ ?_ ?_; rotate_left; (rintro w ⟨z0, z1, z2, z3, z4, z5⟩; go_simp; with_reducible rfl); simp only [Act.put, List.setIfInBounds_toArray, List.set_cons_zero, List.set_cons_succ])
            | (refine wpL_skip (by rfl) ?_; simp only [Act.put, List.setIfInBounds_toArray, List.set_cons_zero, List.set_cons_succ]))
          refine wpL_act (by rfl) (by rfl) (fun K hK => ?_)
          go_simp
          refine (HCI.out g _ _ HO9.out).mono ?_
          rintro e w7 ⟨rfl, hO7, hK7⟩
          have HO7 := hid hO7
          have HK7 := hid (HK9.out.trans hK7)
          clear hO7 hK7
          try dsimp only
          refine hK.out _ _ ⟨HO7.out.cells 0, HO7.out.cells 1, HO7.out.cells 2, HO7.out.p1.cells 0, HO7.out.p1.cells 1, HO7.out.p1.cells 2⟩ ?_
          clear hK K
          try simp only [Act.put, List.setIfInBounds_toArray, List.set_cons_zero, List.set_cons_succ]
          repeat (first
            | (refine wpL_read (by rfl) (by rfl) ?_ ?_ ?_; rotate_left; (rintro w ⟨z0, z1, z2, z3, z4, z5⟩; go_simp; with_reducible rfl); simp only [Act.put, List.setIfInBounds_toArray, List.set_cons_zero, List.set_cons_succ])
            | (refine wpL_skip (by rfl) ?_; simp only [Act.put, List.setIfInBounds_toArray, List.set_cons_zero, List.set_cons_succ]))
          refine wpL_act (by rfl) (by rfl) (fun K hK => ?_)
          go_simp
          refine (HCI.out best _ _ HO7.out).mono ?_
          rintro e w8 ⟨rfl, hO8, hK8⟩
          have HO8 := hid hO8
          have HK8 := hid (HK7.out.trans hK8)
          clear hO8 hK8
          try dsimp only
          refine hK.out _ _ ⟨HO8.out.cells 0, HO8.out.cells 1, HO8.out.cells 2, HO8.out.p1.cells 0, HO8.out.p1.cells 1, HO8.out.p1.cells 2⟩ ?_
          clear hK K
          try simp only [Act.put, List.setIfInBounds_toArray, List.set_cons_zero, List.set_cons_succ]
          by_cases h3 : inodes g ≤ inodes best
          · have H3 := hid h3
            have d3 : decide (inodes g ≤ inodes best) = true := decide_eq_true h3
            clear h3
            generalize hC : inodes g = C at *
            generalize hD : inodes best = D at *
            have HC := hid hC
            have HD := hid hD
            clear hC hD
            repeat (first
              | (refine wpL_read (by rfl) (by rfl) ?_ ?_ ?_; rotate_left; (rintro w ⟨z0, z1, z2, z3, z4, z5⟩; go_simp; with_reducible rfl); simp only [Act.put, List.setIfInBounds_toArray, List.set_cons_zero, List.set_cons_succ])
              | (refine wpL_skip (by rfl) ?_; simp only [Act.put, List.setIfInBounds_toArray, List.set_cons_zero, List.set_cons_succ]))
            refine wpL_nil ?_
            go_wp2_with fail
            exact ⟨⟨k + 1, by omega, by omega, by go_num, hid ⟨best, HT.out.keep HG.out (.inr ⟨by rw [HB.out]; exact H2.out, by rw [HC.out, HD.out]; exact H3.out⟩), HO8.out.drop⟩, HK8⟩, by simp [intOf]; omega⟩
          · have H3 := hid h3
            have d3 : decide (inodes g ≤ inodes best) = false := decide_eq_false h3
            clear h3
            generalize hC : inodes g = C at *
            generalize hD : inodes best = D at *
            have HC := hid hC
            have HD := hid hD
            clear hC hD
            repeat (first
              | (refine wpL_read (by rfl) (by rfl) ?_ ?_ ?_; rotate_left; (rintro w ⟨z0, z1, z2, z3, z4, z5⟩; go_simp; with_reducible rfl); simp only [Act.put, List.setIfInBounds_toArray, List.set_cons_zero, List.set_cons_succ])
              | (refine wpL_skip (by rfl) ?_; simp only [Act.put, List.setIfInBounds_toArray, List.set_cons_zero, List.set_cons_succ]))
            refine wpL_nil ?_
            have c0 := HO8.out.cells
            have c1 := HO8.out.p1.cells
            have t1 := HO8.out.p1.thaw
            go_wp2_with fail
            exact ⟨⟨k + 1, by omega, by omega, by go_num, hid ⟨g, HT.out.take HG.out (fun h => h.elim (fun h => by rw [HB.out] at h; exact H1.out h) (fun h => by have h := h.2; rw [HC.out, HD.out] at h; exact H3.out h)), (((HO8.out.p1.set 0 (.int .i64 g.n)).set 1 (.int .i64 g.i)).set 2 (.int .i64 g.b)).p1.drop⟩, hid (((HK8.out.set _ _).set _ _).set _ _)⟩, by simp [intOf]; omega⟩
        · have H2 := hid h2
          have H1 := hid h1
          have e2 : (blocks g == blocks best) = false := by simpa using h2
          clear h1 h2
          generalize hA : blocks g = A at *
          generalize hB : blocks best = B at *
          have HA := hid hA
          have HB := hid hB
          clear hA hB
          go_upto_region 7 with fail
          refine region_text (fun w => w.cell? ⟨b5, 0, none⟩ = some (.int .i64 g.n) ∧ w.cell? ⟨b5, 1, none⟩ = some (.int .i64 g.i) ∧ w.cell? ⟨b5, 2, none⟩ = some (.int .i64 g.b) ∧ w.cell? ⟨r + 1, 0, none⟩ = some (.int .i64 best.n) ∧ w.cell? ⟨r + 1, 1, none⟩ = some (.int .i64 best.i) ∧ w.cell? ⟨r + 1, 2, none⟩ = some (.int .i64 best.b)) (by kernel_rfl) (by kernel_rfl) ⟨HO6.out.drew.cells 0, HO6.out.drew.cells 1, HO6.out.drew.cells 2, HO6.out.drew.p1.cells 0, HO6.out.drew.p1.cells 1, HO6.out.drew.p1.cells 2⟩ ?_
          have HO9 := hid HO6.out.drew
          have HK9 := hid HK6.out.drew
          clear HO6 HK6
          generalize w6.drew = w9 at *
          repeat (first
            | (refine wpL_read (by rfl) (by rfl) ?_ ?_ ?_; rotate_left; (rintro w ⟨z0, z1, z2, z3, z4, z5⟩; go_simp; with_reducible rfl); simp only [Act.put, List.setIfInBounds_toArray, List.set_cons_zero, List.set_cons_succ])
            | (refine wpL_skip (by rfl) ?_; simp only [Act.put, List.setIfInBounds_toArray, List.set_cons_zero, List.set_cons_succ]))
          refine wpL_nil ?_
          have c0 := HO9.out.cells
          have c1 := HO9.out.p1.cells
          have t1 := HO9.out.p1.thaw
          go_wp2_with fail
          exact ⟨⟨k + 1, by omega, by omega, by go_num, hid ⟨g, HT.out.take HG.out (fun h => h.elim (fun h => by rw [HA.out, HB.out] at h; exact H1.out h) (fun h => by have h := h.1; rw [HA.out, HB.out] at h; exact H2.out h)), (((HO9.out.p1.set 0 (.int .i64 g.n)).set 1 (.int .i64 g.i)).set 2 (.int .i64 g.b)).p1.drop⟩, hid (((HK9.out.set _ _).set _ _).set _ _)⟩, by simp [intOf]; omega⟩
    · have hki : decide (k ≤ 8) = false := decide_eq_false hlt
      obtain rfl : k = 9 := by omega
      have c1 := HO.out.cells
      have c2 := HO.out.p1.cells
      have t2 := HO.out.p1.thaw
      go_wp2_with fail
      try rw [Exit.noGoto_ret]
      have HO6 := hid (show Has (((wr.setCell ⟨r, 0, none⟩ (.int .i64 best.n)).setCell ⟨r, 1, none⟩ (.int .i64 best.i)).setCell ⟨r, 2, none⟩ (.int .i64 best.b)) (pt r (.cells (gcell best) 24) :: L) from (((HO.out.p1.set 0 (.int .i64 best.n)).set 1 (.int .i64 best.i)).set 2 (.int .i64 best.b)).p1.drop)
      have HK6 := hid (((HK.out.set ⟨r, 0, none⟩ (.int .i64 best.n)).set ⟨r, 1, none⟩ (.int .i64 best.i)).set ⟨r, 2, none⟩ (.int .i64 best.b))
      refine bodyPost_ret (geo_result best rfl rfl HO6.out) rfl ?_
      exact ⟨_, rfl, HT.out.all, HO6.out.drop, HK6.out⟩
end Go.Proofs.Ytbggnbahmdgbdaa
