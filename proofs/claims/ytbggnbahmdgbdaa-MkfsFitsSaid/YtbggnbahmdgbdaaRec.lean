/- THE WALKS of record's May, named and Lay at no rename. -/
import Derived.Test.YtbggnbahmdgbdaaSeal
import Derived.Test.YtbggnbahmdgbdaaAppZ
import Derived.Test.YtbggnbahmdgbdaaRe
namespace Go.Proofs.Ytbggnbahmdgbdaa
open Go.RowKit Go.Own Go.Sl
theorem underInt : Try.prog.underlying 3 = some (.int .i64) := Try.underlying3
def rec0 : Value := .agg #[.bool false, .int .i64 0, .int .i64 0, .int .i64 0, .int .i64 0, .string ByteArray.empty, .string ByteArray.empty]
set_option maxRecDepth 100000 in
set_option maxHeartbeats 4000000 in
theorem recMay0 (w : World) (L : List HP) (hO : Has w L) : Calls Try.prog 58 #[rec0] w fun e w' => e = .returned (.bool true) ∧ Has w' L ∧ Keep w w' := by
  have HO := hid (hO.alloc (.cells #[.bool false, .int .i64 0, .int .i64 0, .int .i64 0, .int .i64 0, .string ByteArray.empty, .string ByteArray.empty] 58))
  have HK := hid ((Keep.refl w).alloc (.cells #[.bool false, .int .i64 0, .int .i64 0, .int .i64 0, .int .i64 0, .string ByteArray.empty, .string ByteArray.empty] 58))
  have hc := (hO.alloc (.cells #[.bool false, .int .i64 0, .int .i64 0, .int .i64 0, .int .i64 0, .string ByteArray.empty, .string ByteArray.empty] 58)).cells
  clear hO
  unfold rec0
  go_enter Try.func58, Try.ntmps58
  go_wp2_with fail
  go_ret
  exact ⟨rfl, HO.out.drop, HK.out⟩
set_option maxRecDepth 100000 in
set_option maxHeartbeats 4000000 in
theorem recNamed0 (w : World) (L : List HP) (hO : Has w L) : Calls Try.prog 59 #[.string ByteArray.empty] w fun e w' => ∃ v', e = .returned v' ∧ Has w' (Bytes v' (zs 25) :: L) ∧ Keep w w' := by
  have HO := hid (show Has (w.alloc (.cells #[.int .u8 0] 5)) (row (.slice (some ⟨w.heap.size, 0, none⟩) 1 1) 5 1 1 [.int .u8 0] :: L) from (hO.alloc _).row_of (by omega) (le_maxLen (by omega)) rfl rfl rfl)
  have HK := hid ((Keep.refl w).alloc (.cells #[.int .u8 0] 5))
  clear hO
  go_enter Try.func59, Try.ntmps59
  go_wp2_with (at_builtin; refine wpList_appendStr rfl _ _ _ _ rfl Try.underlying35 Try.underlying9 infoU8 rfl HO.out rfl ByteArray.empty rfl (le_maxLen (by decide)) (by decide) ?_)
  intro v2 w2 h2 hk2
  have HO2 := hid (show Has w2 (row v2 5 1 1 [.int .u8 0] :: L) from h2)
  have HK2 := hid (HK.out.trans hk2)
  obtain ⟨p2, c2, rfl, -⟩ := HO2.out.rd.form
  clear h2 hk2 HO HK
  go_wp2_with (at_builtin; refine wpList_appendZ rfl _ _ _ _ rfl Try.underlying35 underInt infoU8 rfl rfl HO2.out rfl 24 rfl (le_maxLen (by omega)) (by omega) ?_)
  intro v3 w3 h3 hk3
  have HO3 := hid (show Has w3 (Bytes v3 (zs 25) :: L) from h3)
  have HK3 := hid (HK2.out.trans hk3)
  clear h3 hk3 HO2 HK2
  go_wp2_with fail
  go_ret
  exact ⟨_, rfl, HO3.out, HK3.out⟩
set_option maxRecDepth 100000 in
set_option maxHeartbeats 8000000 in
theorem recLay0 (w : World) (L : List HP) (hO : Has w L) : Calls Try.prog 32 #[rec0] w fun e w' => ∃ v', e = .returned (.tuple #[v', .int .i64 0]) ∧ Has w' (Bytes v' (sealL 82 (zs 59)) :: L) ∧ Keep w w' := by
  have HO := hid (hO.alloc (.cells #[.bool false, .int .i64 0, .int .i64 0, .int .i64 0, .int .i64 0, .string ByteArray.empty, .string ByteArray.empty] 58))
  have HK := hid ((Keep.refl w).alloc (.cells #[.bool false, .int .i64 0, .int .i64 0, .int .i64 0, .int .i64 0, .string ByteArray.empty, .string ByteArray.empty] 58))
  have hc := (hO.alloc (.cells #[.bool false, .int .i64 0, .int .i64 0, .int .i64 0, .int .i64 0, .string ByteArray.empty, .string ByteArray.empty] 58)).cells
  have HM := hid (fun w' L (h : Has w' L) => recMay0 w' L h)
  clear hO
  unfold rec0 at *
  go_enter Try.func32, Try.ntmps32
  go_wp2_with fail
  refine (HM.out _ _ HO.out).mono ?_
  rintro e w2 ⟨rfl, hO2, hK2⟩
  have HO2 := hid hO2
  have HK2 := hid ((HK.out).trans hK2)
  clear hO2 hK2
  try dsimp only
  clear hc HO HK
  have hc := HO2.out.cells
  generalize w.heap.size = b0 at *
  have hc2 := (HO2.out.alloc (.cells #[.int .u8 0] 5)).p1.cells
  have HO3 := hid (show Has ((w2.alloc (.cells #[.int .u8 0] 5)).alloc (.cells #[.int .i64 0, .int .i64 0, .int .i64 0, .int .i64 0] 3)) (pt (w2.heap.size + 1) (.cells #[.int .i64 0, .int .i64 0, .int .i64 0, .int .i64 0] 3) :: Bytes (.slice (some ⟨w2.heap.size, 0, none⟩) 1 1) (zs 1) :: pt b0 (.cells #[.bool false, .int .i64 0, .int .i64 0, .int .i64 0, .int .i64 0, .string ByteArray.empty, .string ByteArray.empty] 58) :: L) from by
    have h := (HO2.out.alloc (.cells #[.int .u8 0] 5))
    have h2 : Has (w2.alloc (.cells #[.int .u8 0] 5)) (Bytes (.slice (some ⟨w2.heap.size, 0, none⟩) 1 1) (zs 1) :: pt b0 (.cells #[.bool false, .int .i64 0, .int .i64 0, .int .i64 0, .int .i64 0, .string ByteArray.empty, .string ByteArray.empty] 58) :: L) := h.row_of (by simp [zs]) (le_maxLen (by omega)) rfl rfl rfl
    have h3 := h2.alloc (.cells #[.int .i64 0, .int .i64 0, .int .i64 0, .int .i64 0] 3)
    rwa [show (w2.alloc (.cells #[.int .u8 0] 5)).heap.size = w2.heap.size + 1 from Array.size_push _] at h3)
  have HK3 := hid ((HK2.out.alloc (.cells #[.int .u8 0] 5)).alloc (.cells #[.int .i64 0, .int .i64 0, .int .i64 0, .int .i64 0] 3))
  go_wp2_with fail
  clear hc hc2 HO2 HK2
  generalize (w2.alloc (.cells #[.int .u8 0] 5)).alloc (.cells #[.int .i64 0, .int .i64 0, .int .i64 0, .int .i64 0] 3) = w3 at *
  generalize w2.heap.size = g at *
  go_loopw [4, 25] (fun s i w' => ∃ k : Nat, k ≤ 4 ∧ i = .int .i64 k ∧ Hid (Has w' (pt (g + 1) (.cells #[.int .i64 0, .int .i64 0, .int .i64 0, .int .i64 0] 3) :: Bytes s (zs (1 + 2 * k)) :: pt b0 (.cells #[.bool false, .int .i64 0, .int .i64 0, .int .i64 0, .int .i64 0, .string ByteArray.empty, .string ByteArray.empty] 58) :: L)) ∧ Hid (Keep w w')) (fun _ i _ => 4 - (intOf i).toNat)
  case atStart => exact ⟨0, by omega, rfl, HO3, HK3⟩
  case round =>
    clear HO3 HK3
    obtain ⟨k, hk, rfl, HO, HK⟩ := hrel
    by_cases hlt : k < 4
    · have hki : (k : Int) < 4 := by omega
      have hx : wr.cell? ⟨g + 1, k, none⟩ = some (.int .i64 0) := by
        rw [HO.out.cells k]
        rcases k with _ | _ | _ | _ | k
        · rfl
        · rfl
        · rfl
        · rfl
        · omega
      have HA := hid (HO.out.alloc (.cells #[.int .u8 0, .int .u8 0] 5))
      have HB := hid (show Has (wr.alloc (.cells #[.int .u8 0, .int .u8 0] 5)) (row u4 5 1 (1 + 2 * k) (bc (zs (1 + 2 * k))) :: pt wr.heap.size (.cells #[.int .u8 0, .int .u8 0] 5) :: pt (g + 1) (.cells #[.int .i64 0, .int .i64 0, .int .i64 0, .int .i64 0] 3) :: pt b0 (.cells #[.bool false, .int .i64 0, .int .i64 0, .int .i64 0, .int .i64 0, .string ByteArray.empty, .string ByteArray.empty] 58) :: L) from by
        have h := HA.out.p2
        unfold Bytes at h
        rwa [show (zs (1 + 2 * k)).length = 1 + 2 * k by simp [zs]] at h)
      have HRD := hid (Bytes.rd (bytesLit [0, 0] HA.out rfl (by decide)))
      have HKA := hid (HK.out.alloc (.cells #[.int .u8 0, .int .u8 0] 5))
      go_wp2_with (at_builtin; refine wpList_appendA rfl _ _ _ rfl Try.underlying35 infoU8 rfl (by decide) HB.out rfl _ 2 (bc [0, 0]) rfl HRD.out (bc_one _) (le_maxLen (by omega)) (by omega) ?_)
      intro v5 w5 h5 hk5
      have HO5 := hid (show Has w5 (pt (g + 1) (.cells #[.int .i64 0, .int .i64 0, .int .i64 0, .int .i64 0] 3) :: Bytes v5 (zs (1 + 2 * (k + 1))) :: pt b0 (.cells #[.bool false, .int .i64 0, .int .i64 0, .int .i64 0, .int .i64 0, .string ByteArray.empty, .string ByteArray.empty] 58) :: L) from by
        have h := (h5.re 3 [2, 0])
        have e : bc (zs (1 + 2 * k)) ++ bc [0, 0] = bc (zs (1 + 2 * (k + 1))) := by
          rw [show 1 + 2 * (k + 1) = (1 + 2 * k) + 2 by omega]
          simp only [bc, zs, List.map_replicate]
          rw [show List.map (Value.int .u8) [0, 0] = List.replicate 2 (Value.int .u8 0) from rfl, List.replicate_append_replicate]
        unfold Bytes
        rw [show (zs (1 + 2 * (k + 1))).length = 1 + 2 * k + 2 by simp [zs]; omega, ← e]
        exact h)
      have HK5 := hid (HKA.out.trans hk5)
      clear h5 hk5 HA HB HRD HKA HO HK hx
      go_wp2_with fail
      exact ⟨⟨k + 1, by omega, by go_num, HO5, HK5⟩, by simp [intOf]; omega⟩
    · have hki : ¬ (k : Int) < 4 := by omega
      obtain rfl : k = 4 := by omega
      have HO6 := hid (show Has wr (pt b0 (.cells #[.bool false, .int .i64 0, .int .i64 0, .int .i64 0, .int .i64 0, .string ByteArray.empty, .string ByteArray.empty] 58) :: Bytes u4 (zs 9) :: L) from HO.out.drop.p1)
      have HK6 := hid HK.out
      clear HO HK
      have hc := HO6.out.cells
      obtain ⟨p4, c4, rfl, -⟩ := (Bytes.rd HO6.out.p1).form
      go_upto_region 11 with fail
      refine region_text (fun w => w.cell? ⟨b0, 5, none⟩ = some (.string ByteArray.empty) ∧ w.cell? ⟨b0, 6, none⟩ = some (.string ByteArray.empty)) (by kernel_rfl) (by kernel_rfl) ⟨HO6.out.drew.cells 5, HO6.out.drew.cells 6⟩ ?_
      clear hc
      repeat (first
        | (refine wpL_read (by rfl) (by rfl) ?_ ?_ ?_; rotate_left; (rintro w ⟨z0, z1⟩; go_simp; with_reducible rfl); simp only [Act.put, List.setIfInBounds_toArray, List.set_cons_zero, List.set_cons_succ]) | (refine wpL_skip (by rfl) ?_; simp only [Act.put, List.setIfInBounds_toArray, List.set_cons_zero, List.set_cons_succ]))
      refine wpL_act (by rfl) (by rfl) (fun K hK => ?_)
      go_simp
      refine (recNamed0 _ _ HO6.out.drew).mono ?_
      rintro e w7 ⟨v7, rfl, hO7, hK7⟩
      have HO7 := hid hO7
      have HK7 := hid ((HK6.out.drew).trans hK7)
      clear hO7 hK7
      try dsimp only
      refine hK.out _ _ (⟨HO7.out.p1.cells 5, HO7.out.p1.cells 6⟩) ?_
      clear hK K
      try simp only [Act.put, List.setIfInBounds_toArray, List.set_cons_zero, List.set_cons_succ]
      obtain ⟨p7, c7, rfl, -⟩ := (Bytes.rd HO7.out).form
      repeat (first
        | (refine wpL_read (by rfl) (by rfl) ?_ ?_ ?_; rotate_left; (rintro w ⟨z0, z1⟩; go_simp; with_reducible rfl); simp only [Act.put, List.setIfInBounds_toArray, List.set_cons_zero, List.set_cons_succ]) | (refine wpL_skip (by rfl) ?_; simp only [Act.put, List.setIfInBounds_toArray, List.set_cons_zero, List.set_cons_succ]))
      refine wpL_act (by rfl) (by rfl) (fun K hK => ?_)
      refine wp_appendA (.tmp 38) (.tmp 41) 35 rfl Try.underlying35 infoU8 rfl (by decide) (v := .slice p4 (zs 9).length c4) (n := 9) (xs := bc (zs 9)) HO7.out.p2 (by rfl) _ 25 (bc (zs 25)) (by rfl) (Bytes.rd HO7.out) (bc_one _) (le_maxLen (by omega)) (by omega) fun v8 w8 h8 hk8 => ?_
      have HO8 := hid (show Has w8 (Bytes v8 (zs 34) :: pt b0 (.cells #[.bool false, .int .i64 0, .int .i64 0, .int .i64 0, .int .i64 0, .string ByteArray.empty, .string ByteArray.empty] 58) :: L) from h8.re 3 [0, 2])
      have HK8 := hid (HK7.out.trans hk8)
      clear h8 hk8 HO7 HK7 HO6 HK6
      refine hK.out _ _ ⟨HO8.out.p1.cells 5, HO8.out.p1.cells 6⟩ ?_
      clear hK K
      try simp only [Act.put, List.setIfInBounds_toArray, List.set_cons_zero, List.set_cons_succ]
      obtain ⟨p8, c8, rfl, -⟩ := (Bytes.rd HO8.out).form
      repeat (first
        | (refine wpL_read (by rfl) (by rfl) ?_ ?_ ?_; rotate_left; (rintro w ⟨z0, z1⟩; go_simp; with_reducible rfl); simp only [Act.put, List.setIfInBounds_toArray, List.set_cons_zero, List.set_cons_succ]) | (refine wpL_skip (by rfl) ?_; simp only [Act.put, List.setIfInBounds_toArray, List.set_cons_zero, List.set_cons_succ]))
      refine wpL_act (by rfl) (by rfl) (fun K hK => ?_)
      go_simp
      refine (recNamed0 _ _ HO8.out).mono ?_
      rintro e w9 ⟨v9, rfl, hO9, hK9⟩
      have HO9 := hid hO9
      have HK9 := hid ((HK8.out).trans hK9)
      clear hO9 hK9
      try dsimp only
      refine hK.out _ _ (⟨HO9.out.p2.cells 5, HO9.out.p2.cells 6⟩) ?_
      clear hK K
      try simp only [Act.put, List.setIfInBounds_toArray, List.set_cons_zero, List.set_cons_succ]
      obtain ⟨p9, c9, rfl, -⟩ := (Bytes.rd HO9.out).form
      repeat (first
        | (refine wpL_read (by rfl) (by rfl) ?_ ?_ ?_; rotate_left; (rintro w ⟨z0, z1⟩; go_simp; with_reducible rfl); simp only [Act.put, List.setIfInBounds_toArray, List.set_cons_zero, List.set_cons_succ]) | (refine wpL_skip (by rfl) ?_; simp only [Act.put, List.setIfInBounds_toArray, List.set_cons_zero, List.set_cons_succ]))
      refine wpL_act (by rfl) (by rfl) (fun K hK => ?_)
      refine wp_appendA (.tmp 42) (.tmp 45) 35 rfl Try.underlying35 infoU8 rfl (by decide) (v := .slice p8 (zs 34).length c8) (n := 34) (xs := bc (zs 34)) HO9.out.p1 (by rfl) _ 25 (bc (zs 25)) (by rfl) (Bytes.rd HO9.out) (bc_one _) (le_maxLen (by omega)) (by omega) fun v10 w10 h10 hk10 => ?_
      have HO10 := hid (show Has w10 (Bytes v10 (zs 59) :: pt b0 (.cells #[.bool false, .int .i64 0, .int .i64 0, .int .i64 0, .int .i64 0, .string ByteArray.empty, .string ByteArray.empty] 58) :: L) from h10.re 3 [0, 2])
      have HK10 := hid (HK9.out.trans hk10)
      clear h10 hk10 HO9 HK9 HO8 HK8
      refine hK.out _ _ ⟨HO10.out.p1.cells 5, HO10.out.p1.cells 6⟩ ?_
      clear hK K
      try simp only [Act.put, List.setIfInBounds_toArray, List.set_cons_zero, List.set_cons_succ]
      repeat (first
        | (refine wpL_read (by rfl) (by rfl) ?_ ?_ ?_; rotate_left; (rintro w ⟨z0, z1⟩; go_simp; with_reducible rfl); simp only [Act.put, List.setIfInBounds_toArray, List.set_cons_zero, List.set_cons_succ]) | (refine wpL_skip (by rfl) ?_; simp only [Act.put, List.setIfInBounds_toArray, List.set_cons_zero, List.set_cons_succ]))
      refine wpL_act (by rfl) (by rfl) (fun K hK => ?_)
      go_simp
      refine (sSeal 82 v10 (zs 59) w10 _ (by decide) (by simp [zs]) (fun w' h => Bytes.rd h) HO10.out).mono ?_
      rintro e w11 ⟨v11, rfl, hO11, hK11⟩
      have HO11 := hid hO11
      have HK11 := hid ((HK10.out).trans hK11)
      clear hO11 hK11
      try dsimp only
      refine hK.out _ _ (⟨HO11.out.p2.cells 5, HO11.out.p2.cells 6⟩) ?_
      clear hK K
      try simp only [Act.put, List.setIfInBounds_toArray, List.set_cons_zero, List.set_cons_succ]
      repeat (first
        | (refine wpL_read (by rfl) (by rfl) ?_ ?_ ?_; rotate_left; (rintro w ⟨z0, z1⟩; go_simp; with_reducible rfl); simp only [Act.put, List.setIfInBounds_toArray, List.set_cons_zero, List.set_cons_succ]) | (refine wpL_skip (by rfl) ?_; simp only [Act.put, List.setIfInBounds_toArray, List.set_cons_zero, List.set_cons_succ]))
      refine wpL_nil ?_
      go_wp2_with fail
      go_ret2
      exact ⟨v11, rfl, HO11.out.p1.drop.p1.drop, HK11.out⟩
end Go.Proofs.Ytbggnbahmdgbdaa
