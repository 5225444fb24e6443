/- THE WALK of roll.Diff. -/
import Derived.Test.YtihfhigkpkamiaaRollb
import Derived.Test.YtihfhigkpkamiaaRollo
import Derived.Test.YtihfhigkpkamiaaCloneB
import Derived.Test.YtihfhigkpkamiaaAppS
namespace Go.Proofs.Ytihfhigkpkamiaa
open Go.RowKit Go.Own Go.Rl
/-- The two sectors. -/
theorem bytes_cell {w : World} {L : List HP} {g n cap : Nat} {xs : List Int} (h : Has w (Bytes (.slice (some ⟨g, 0, none⟩) n cap) xs :: L)) (k : Nat) (hk : k < xs.length) : w.cell? ⟨g, k, none⟩ = some (.int .u8 xs[k]) := by
  obtain ⟨-, hc, -⟩ := Has.row_cells h
  rw [hc k (by omega), bc, List.getElem?_map, List.getElem?_eq_getElem hk, Option.map_some]
theorem sub_rd {w : World} {L : List HP} {g n cap : Nat} {xs : List Int} (h : Has w (Bytes (.slice (some ⟨g, 0, none⟩) n cap) xs :: L)) (a b : Nat) (hab : a ≤ b) (hb : b ≤ xs.length) : Rd w (.slice (some ⟨g, a, none⟩) (b - a) (cap - a)) 1 ((xs.drop a).take (b - a)).length (bc ((xs.drop a).take (b - a))) := by
  obtain ⟨hn, hc, -, h1, h2⟩ := Has.row_cells h
  have hl : ((xs.drop a).take (b - a)).length = b - a := by rw [List.length_take, List.length_drop]; omega
  refine ⟨by rw [bc_len, Nat.mul_one], by rw [hl]; omega, some ⟨g, a, none⟩, cap - a, by rw [hl], by rw [hl]; omega, fun hp => ⟨g, a, rfl, fun j hj => ?_⟩⟩
  rw [hl, Nat.mul_one] at hj
  rw [hc (a + j) (by omega), bc, bc, List.getElem?_map, List.getElem?_map, List.getElem?_take, if_pos hj, List.getElem?_drop]
set_option maxRecDepth 100000 in
set_option maxHeartbeats 8000000 in
theorem rollDiff (s : Int) (old now : Value) (xs ys : List Int) (w : World) (L : List HP) (hx : ∀ w', Has w' L → Rd w' old 1 xs.length (bc xs)) (hy : ∀ w', Has w' L → Rd w' now 1 ys.length (bc ys)) (hO : Has w L) :
    Calls Try.prog 10 #[.int .i64 s, old, now] w fun e w' => ∃ v', e = .returned v' ∧ Has w' (Objs v' (diff s xs ys) :: L) ∧ Keep w w' := by
  have HX := hid hx
  have HY := hid hy
  have HO0 := hid hO
  clear hx hy hO
  by_cases hs : s < 0
  · go_enter Try.func10, Try.ntmps10
    go_wp2_with fail
    go_ret
    refine ⟨_, rfl, ?_, Keep.refl w⟩
    rw [diff, if_pos hs]
    exact HO0.out.nil'
  · have hD : diff s xs ys = diffs s (whole xs) (whole ys) 0 := by rw [diff, if_neg hs]
    rw [hD]
    clear hD
    go_enter Try.func10, Try.ntmps10
    go_wp2_with fail
    refine (rollWhole old xs w L (HX.out w HO0.out) HO0.out).mono ?_
    rintro e w1 ⟨ga, rfl, hO1, hK1⟩
    have HO1 := hid hO1
    have HK1 := hid hK1
    clear hO1 hK1
    try dsimp only
    go_wp2_with fail
    refine (rollWhole now ys w1 _ (HY.out w1 HO1.out.drop) HO1.out).mono ?_
    rintro e w2 ⟨gb, rfl, hO2, hK2⟩
    have HO2 := hid hO2
    have HK2 := hid (HK1.out.trans hK2)
    clear hO2 hK2 HO1 HK1 HO0
    try dsimp only
    have HA := hid (whole_len xs)
    have HB := hid (whole_len ys)
    clear HX HY
    generalize hA : whole xs = A at *
    generalize hB : whole ys = B at *
    have HEA := hid hA
    have HEB := hid hB
    clear hA hB
    go_wp2_with fail
    go_loopw [9, 10] (fun v i w' => ∃ k : Nat, k ≤ 129 ∧ i = .int .i64 k ∧ Hid (∃ T, T.length ≤ k ∧ T ++ diffs s A B k = diffs s A B 0 ∧ Has w' (Objs v T :: Bytes (.slice (some ⟨gb, 0, none⟩) 128 128) B :: Bytes (.slice (some ⟨ga, 0, none⟩) 128 128) A :: L)) ∧ Hid (Keep w w')) (fun _ i _ => 129 - (intOf i).toNat)
    case atStart => exact ⟨0, by omega, rfl, hid ⟨[], by simp, rfl, HO2.out.nil'⟩, HK2⟩
    case round =>
      clear HO2 HK2
      obtain ⟨k, hk, rfl, HY, HK⟩ := hrel
      obtain ⟨T, hT, hTD, hO⟩ := HY.out
      have HO := hid hO
      have HTD := hid hTD
      clear hO hTD HY
      by_cases hlt : k < 128
      · have hki : (k : Int) < 128 := by omega
        have HCA := hid (fun q (hq : q < A.length) => bytes_cell HO.out.p2 q hq)
        have HCB := hid (fun q (hq : q < B.length) => bytes_cell HO.out.p1 q hq)
        go_upto_block 2 with fail
        go_cut [10] (fun i wx => ∃ q m : Nat, k ≤ q ∧ q ≤ 128 ∧ i = .int .i64 q ∧ wx = wr.drewN m ∧ Hid (run A B k = q - k))
        case first =>
          go_wp2_with fail
          go_loopw [10] (fun i wx => ∃ q m : Nat, k ≤ q ∧ q ≤ 128 ∧ i = .int .i64 q ∧ wx = wr.drewN m ∧ Hid (run A B k = (q - k) + run A B q)) (fun i _ => 128 - (intOf i).toNat)
          case atStart => exact ⟨k, 0, by omega, by omega, rfl, rfl, hid (by omega)⟩
          case round =>
            obtain ⟨q, m, hkq, hq, rfl, rfl, HRN⟩ := hrel
            by_cases hlq : q < 128
            · have hqi : (q : Int) < 128 := by omega
              have hqa : q < A.length := by rw [HA.out]; exact hlq
              have hqb : q < B.length := by rw [HB.out]; exact hlq
              have x0 := HCA.out q hqa
              have x1 := HCB.out q hqb
              have hgo := run_go hqa hqb
              by_cases he : A[q] = B[q]
              · have HE := hid (show run A B q = 0 by rw [hgo, if_neg (by simpa using he)])
                have hne : (A[q] != B[q]) = false := by simp [he]
                clear he hgo
                generalize A[q] = aq at *
                generalize B[q] = bq at *
                go_wp2_with fail
                refine region_text (fun w => w.cell? ⟨ga, q, none⟩ = some (.int .u8 aq) ∧ w.cell? ⟨gb, q, none⟩ = some (.int .u8 bq)) (by kernel_rfl) (by kernel_rfl) ⟨x0, x1⟩ ?_
                repeat (first
                  | (refine wpL_read (by rfl) (by rfl) ?_ ?_ ?_; rotate_left; (rintro w ⟨hS, hS1⟩; go_simp; with_reducible rfl); simp only [Act.put, List.setIfInBounds_toArray, List.set_cons_zero, List.set_cons_succ])
                  | (refine wpL_skip (by rfl) ?_; simp only [Act.put, List.setIfInBounds_toArray, List.set_cons_zero, List.set_cons_succ]))
                refine wpL_nil ?_
                go_wp2_with fail
                go_meet
                exact ⟨q, m + 1, hkq, hq, rfl, rfl, hid (by rw [HRN.out, HE.out]; omega)⟩
              · have HE := hid (show run A B q = run A B (q + 1) + 1 by rw [hgo, if_pos (by simpa using he)])
                have hne : (A[q] != B[q]) = true := by simp [he]
                clear he hgo
                generalize A[q] = aq at *
                generalize B[q] = bq at *
                go_wp2_with fail
                refine region_text (fun w => w.cell? ⟨ga, q, none⟩ = some (.int .u8 aq) ∧ w.cell? ⟨gb, q, none⟩ = some (.int .u8 bq)) (by kernel_rfl) (by kernel_rfl) ⟨x0, x1⟩ ?_
                repeat (first
                  | (refine wpL_read (by rfl) (by rfl) ?_ ?_ ?_; rotate_left; (rintro w ⟨hS, hS1⟩; go_simp; with_reducible rfl); simp only [Act.put, List.setIfInBounds_toArray, List.set_cons_zero, List.set_cons_succ])
                  | (refine wpL_skip (by rfl) ?_; simp only [Act.put, List.setIfInBounds_toArray, List.set_cons_zero, List.set_cons_succ]))
                refine wpL_nil ?_
                go_wp2_with fail
                exact ⟨⟨q + 1, m + 1, by omega, by omega, rfl, rfl, hid (by rw [HRN.out, HE.out]; omega)⟩, by simp [intOf]; omega⟩
            · have HE := hid (show run A B q = 0 from run_end (by rw [HA.out]; omega))
              obtain rfl : q = 128 := by omega
              rw [show ((128 : Nat) : Int) = 128 from rfl]
              go_wp2_with fail
              refine region_text (fun w => True) (by kernel_rfl) (by kernel_rfl) trivial ?_
              iterate 5 (first
                | (refine wpL_read (by rfl) (by rfl) ?_ ?_ ?_; rotate_left; (intro w hS; go_simp; with_reducible rfl); simp only [Act.put, List.setIfInBounds_toArray, List.set_cons_zero, List.set_cons_succ])
                | (refine wpL_skip (by rfl) ?_; simp only [Act.put, List.setIfInBounds_toArray, List.set_cons_zero, List.set_cons_succ]))
              iterate 9 (refine wpL_skip (by rfl) ?_; simp only [Act.put, List.setIfInBounds_toArray, List.set_cons_zero, List.set_cons_succ])
              refine wpL_read (by rfl) (by rfl) (.bool false) ?_ ?_
              · intro w hS; go_simp
              simp only [Act.put, List.setIfInBounds_toArray, List.set_cons_zero, List.set_cons_succ]
              refine wpL_nil ?_
              go_wp2_with fail
              go_meet
              exact ⟨128, m + 1, hkq, hq, rfl, rfl, hid (by rw [HRN.out, HE.out]; omega)⟩
        case rest =>
          obtain ⟨q, m, hkq, hq, rfl, rfl, HRN⟩ := hcut
          have HK1 := hid (HK.out.drewN m)
          have HO1 := hid (HO.out.drewN m)
          have HD1 := hid (show diffs s A B k = (if 0 < q - k then [⟨s, k, (B.drop k).take (q - k)⟩] else []) ++ diffs s A B (q + 1) by
            rw [diffs, dif_pos (by rw [HA.out]; exact hlt), HRN.out, show k + (q - k) + 1 = q + 1 by omega])
          clear HRN HCA HCB HK HO
          generalize wr.drewN m = wq at *
          by_cases hkq2 : k < q
          · have hlen : ((B.drop k).take (q - k)).length = q - k := by rw [List.length_take, List.length_drop, HB.out]; omega
            obtain ⟨R, rfl, hO⟩ := objs_iff.1 HO1.out
            rw [List.length_map] at hT
            have HO2 := hid hO
            clear HO1 hO
            have HR := hid (sub_rd HO2.out.p2 k q (by omega) (by rw [HB.out]; omega))
            have HL := hid hlen
            clear hlen
            generalize hys : (B.drop k).take (q - k) = ys at *
            go_wp2_with fail
            refine (cloneBytes _ ys wq _ HO2.out (by have := HR.out; rw [HL.out] at *; exact this) (by rw [HL.out]; omega)).mono ?_
            rintro e w3 ⟨v3, rfl, hO3, hK3, -⟩
            have hO3' := hO3
            unfold Bytes at hO3'
            obtain ⟨p3, c3, rfl, -⟩ := hO3'.rd.form
            rw [HL.out]
            have HO3 := hid (hO3.alloc (.cells #[.int .i64 s, .int .i64 k, .slice p3 (q - k) c3] 31))
            have HO3b := hid (HO3.out.p2)
            have HK3 := hid (((HK1.out.trans hK3).alloc (.cells #[.int .i64 s, .int .i64 k, .slice p3 (q - k) c3] 31)))
            clear hO3 hK3 HO2 HK1 HR hO3'
            try dsimp only
            go_wp2_with (at_builtin; refine wpList_appendS rfl _ _ _ rfl Try.underlying23 infoObj rfl [.int .i64 s, .int .i64 k, .slice p3 (q - k) c3] rfl HO3b.out rfl 1 _ rfl (fun j => by simp) (by simp [Value.oneCell']) (le_maxLen (by omega)) (by omega) ?_)
            intro v4 w4 h4 hk4
            have HO4 := hid (show Has w4 (Objs v4 (R.map (·.1) ++ [⟨s, k, ys⟩]) :: Bytes (.slice (some ⟨gb, 0, none⟩) 128 128) B :: Bytes (.slice (some ⟨ga, 0, none⟩) 128 128) A :: L) from by
              have h5 := h4.p1.drop
              refine objs_iff.2 ⟨R ++ [(⟨s, k, ys⟩, .slice p3 (q - k) c3)], by simp, ?_⟩
              have e1 : ocells R ++ [.int .i64 s, .int .i64 k, .slice p3 (q - k) c3] = ocells (R ++ [((⟨s, k, ys⟩ : Piece), (.slice p3 (q - k) c3 : Value))]) := by rw [ocells_snoc]; rfl
              rw [e1] at h5
              rw [List.length_append, List.length_singleton]
              rw [HL.out] at h5
              have h6 := h5.p1
              unfold Bytes at h6
              have h7 := (Has.pool_snoc (v := .slice p3 (q - k) c3) (xs := ys) (h6.re 3 [0, 2, 1])).p1
              simp only [opool, List.map_append, List.map_cons, List.map_nil]
              exact h7)
            have HK4 := hid (HK3.out.trans hk4)
            clear h4 hk4 HO3 HO3b HK3
            go_wp2_with fail
            refine ⟨⟨q + 1, by omega, rfl, hid ⟨R.map (·.1) ++ [⟨s, k, ys⟩], by simp; omega, ?_, HO4.out⟩, HK4⟩, by simp [intOf]; omega⟩
            have h := HTD.out
            rw [HD1.out, if_pos (by omega)] at h
            rw [← h, List.append_assoc]
          · go_wp2_with fail
            refine ⟨⟨q + 1, by omega, rfl, hid ⟨T, by omega, ?_, HO1.out⟩, HK1⟩, by simp [intOf]; omega⟩
            have h := HTD.out
            rw [HD1.out, if_neg (by omega)] at h
            exact h
      · have hki : ¬ (k : Int) < 128 := by omega
        go_wp2_with fail
        go_ret
        have h := HTD.out
        rw [diffs, dif_neg (by rw [HA.out]; exact hlt), List.append_nil] at h
        have hA := HEA.out
        have hB := HEB.out
        subst hA hB
        rw [← h]
        exact ⟨_, rfl, (HO.out.re 3 [0]), HK.out⟩
end Go.Proofs.Ytihfhigkpkamiaa
