/- TEXTS of mine, merged. -/
import Derived.Test.YtbggnbahmdgbdaaM3
/- THE WALKS of record's May, named and Lay at no rename. -/
namespace Go.Proofs.Ytbggnbahmdgbdaa
open Go.RowKit Go.Own Go.Sl
theorem underInt : Try.prog.underlying 3 = some (.int .i64) := Try.underlying3
def rec0 : Value := .agg #[.bool false, .int .i64 0, .int .i64 0, .int .i64 0, .int .i64 0, .string ByteArray.empty, .string ByteArray.empty]
set_option maxRecDepth 100000 in
set_option maxHeartbeats 4000000 in
theorem recMay0 (w : World) (L : List HP) (hO : Has w L) : Calls Try.prog 58 #[rec0] w fun e w' => e = .returned (.bool true) ∧ Has w' L ∧ Keep w w' := by
  have HO := hid (hO.alloc (.cells #[.bool false, .int .i64 0, .int .i64 0, .int .i64 0, .int .i64 0, .string ByteArray.empty, .string ByteArray.empty] 58))
  have HK := hid ((Keep.refl w).alloc (.cells #[.bool false, .int .i64 0, .int .i64 0, .int .i64 0, .int .i64 0, .string ByteArray.empty, .string ByteArray.empty] 58))
  have hc := (hO.alloc (.cells #[.bool false, .int .i64 0, .int .i64 0, .int .i64 0, .int .i64 0, .string ByteArray.empty, .string ByteArray.empty] 58)).cells
  clear hO
  unfold rec0
  go_enter Try.func58, Try.ntmps58
  go_wp2_with fail
  go_ret
  exact ⟨rfl, HO.out.drop, HK.out⟩
set_option maxRecDepth 100000 in
set_option maxHeartbeats 4000000 in
theorem recNamed0 (w : World) (L : List HP) (hO : Has w L) : Calls Try.prog 59 #[.string ByteArray.empty] w fun e w' => ∃ v', e = .returned v' ∧ Has w' (Bytes v' (zs 25) :: L) ∧ Keep w w' := by
  have HO := hid (show Has (w.alloc (.cells #[.int .u8 0] 5)) (row (.slice (some ⟨w.heap.size, 0, none⟩) 1 1) 5 1 1 [.int .u8 0] :: L) from (hO.alloc _).row_of (by omega) (le_maxLen (by omega)) rfl rfl rfl)
  have HK := hid ((Keep.refl w).alloc (.cells #[.int .u8 0] 5))
  clear hO
  go_enter Try.func59, Try.ntmps59
  go_wp2_with (at_builtin; refine wpList_appendStr rfl _ _ _ _ rfl Try.underlying35 Try.underlying9 infoU8 rfl HO.out rfl ByteArray.empty rfl (le_maxLen (by decide)) (by decide) ?_)
  intro v2 w2 h2 hk2
  have HO2 := hid (show Has w2 (row v2 5 1 1 [.int .u8 0] :: L) from h2)
  have HK2 := hid (HK.out.trans hk2)
  obtain ⟨p2, c2, rfl, -⟩ := HO2.out.rd.form
  clear h2 hk2 HO HK
  go_wp2_with (at_builtin; refine wpList_appendZ rfl _ _ _ _ rfl Try.underlying35 underInt infoU8 rfl rfl HO2.out rfl 24 rfl (le_maxLen (by omega)) (by omega) ?_)
  intro v3 w3 h3 hk3
  have HO3 := hid (show Has w3 (Bytes v3 (zs 25) :: L) from h3)
  have HK3 := hid (HK2.out.trans hk3)
  clear h3 hk3 HO2 HK2
  go_wp2_with fail
  go_ret
  exact ⟨_, rfl, HO3.out, HK3.out⟩
set_option maxRecDepth 100000 in
set_option maxHeartbeats 8000000 in
theorem recLay0 (w : World) (L : List HP) (hO : Has w L) : Calls Try.prog 32 #[rec0] w fun e w' => ∃ v', e = .returned (.tuple #[v', .int .i64 0]) ∧ Has w' (Bytes v' (sealL 82 (zs 59)) :: L) ∧ Keep w w' := by
  have HO := hid (hO.alloc (.cells #[.bool false, .int .i64 0, .int .i64 0, .int .i64 0, .int .i64 0, .string ByteArray.empty, .string ByteArray.empty] 58))
  have HK := hid ((Keep.refl w).alloc (.cells #[.bool false, .int .i64 0, .int .i64 0, .int .i64 0, .int .i64 0, .string ByteArray.empty, .string ByteArray.empty] 58))
  have hc := (hO.alloc (.cells #[.bool false, .int .i64 0, .int .i64 0, .int .i64 0, .int .i64 0, .string ByteArray.empty, .string ByteArray.empty] 58)).cells
  have HM := hid (fun w' L (h : Has w' L) => recMay0 w' L h)
  clear hO
  unfold rec0 at *
  go_enter Try.func32, Try.ntmps32
  go_wp2_with fail
  refine (HM.out _ _ HO.out).mono ?_
  rintro e w2 ⟨rfl, hO2, hK2⟩
  have HO2 := hid hO2
  have HK2 := hid ((HK.out).trans hK2)
  clear hO2 hK2
  try dsimp only
  clear hc HO HK
  have hc := HO2.out.cells
  generalize w.heap.size = b0 at *
  have hc2 := (HO2.out.alloc (.cells #[.int .u8 0] 5)).p1.cells
  have HO3 := hid (show Has ((w2.alloc (.cells #[.int .u8 0] 5)).alloc (.cells #[.int .i64 0, .int .i64 0, .int .i64 0, .int .i64 0] 3)) (pt (w2.heap.size + 1) (.cells #[.int .i64 0, .int .i64 0, .int .i64 0, .int .i64 0] 3) :: Bytes (.slice (some ⟨w2.heap.size, 0, none⟩) 1 1) (zs 1) :: pt b0 (.cells #[.bool false, .int .i64 0, .int .i64 0, .int .i64 0, .int .i64 0, .string ByteArray.empty, .string ByteArray.empty] 58) :: L) from by
    have h := (HO2.out.alloc (.cells #[.int .u8 0] 5))
    have h2 : Has (w2.alloc (.cells #[.int .u8 0] 5)) (Bytes (.slice (some ⟨w2.heap.size, 0, none⟩) 1 1) (zs 1) :: pt b0 (.cells #[.bool false, .int .i64 0, .int .i64 0, .int .i64 0, .int .i64 0, .string ByteArray.empty, .string ByteArray.empty] 58) :: L) := h.row_of (by simp [zs]) (le_maxLen (by omega)) rfl rfl rfl
    have h3 := h2.alloc (.cells #[.int .i64 0, .int .i64 0, .int .i64 0, .int .i64 0] 3)
    rwa [show (w2.alloc (.cells #[.int .u8 0] 5)).heap.size = w2.heap.size + 1 from Array.size_push _] at h3)
  have HK3 := hid ((HK2.out.alloc (.cells #[.int .u8 0] 5)).alloc (.cells #[.int .i64 0, .int .i64 0, .int .i64 0, .int .i64 0] 3))
  go_wp2_with fail
  clear hc hc2 HO2 HK2
  generalize (w2.alloc (.cells #[.int .u8 0] 5)).alloc (.cells #[.int .i64 0, .int .i64 0, .int .i64 0, .int .i64 0] 3) = w3 at *
  generalize w2.heap.size = g at *
  go_loopw [4, 25] (fun s i w' => ∃ k : Nat, k ≤ 4 ∧ i = .int .i64 k ∧ Hid (Has w' (pt (g + 1) (.cells #[.int .i64 0, .int .i64 0, .int .i64 0, .int .i64 0] 3) :: Bytes s (zs (1 + 2 * k)) :: pt b0 (.cells #[.bool false, .int .i64 0, .int .i64 0, .int .i64 0, .int .i64 0, .string ByteArray.empty, .string ByteArray.empty] 58) :: L)) ∧ Hid (Keep w w')) (fun _ i _ => 4 - (intOf i).toNat)
  case atStart => exact ⟨0, by omega, rfl, HO3, HK3⟩
  case round =>
    clear HO3 HK3
    obtain ⟨k, hk, rfl, HO, HK⟩ := hrel
    by_cases hlt : k < 4
    · have hki : (k : Int) < 4 := by omega
      have hx : wr.cell? ⟨g + 1, k, none⟩ = some (.int .i64 0) := by
        rw [HO.out.cells k]
        rcases k with _ | _ | _ | _ | k
        · rfl
        · rfl
        · rfl
        · rfl
        · omega
      have HA := hid (HO.out.alloc (.cells #[.int .u8 0, .int .u8 0] 5))
      have HB := hid (show Has (wr.alloc (.cells #[.int .u8 0, .int .u8 0] 5)) (row u4 5 1 (1 + 2 * k) (bc (zs (1 + 2 * k))) :: pt wr.heap.size (.cells #[.int .u8 0, .int .u8 0] 5) :: pt (g + 1) (.cells #[.int .i64 0, .int .i64 0, .int .i64 0, .int .i64 0] 3) :: pt b0 (.cells #[.bool false, .int .i64 0, .int .i64 0, .int .i64 0, .int .i64 0, .string ByteArray.empty, .string ByteArray.empty] 58) :: L) from by
        have h := HA.out.p2
        unfold Bytes at h
        rwa [show (zs (1 + 2 * k)).length = 1 + 2 * k by simp [zs]] at h)
      have HRD := hid (Bytes.rd (bytesLit [0, 0] HA.out rfl (by decide)))
      have HKA := hid (HK.out.alloc (.cells #[.int .u8 0, .int .u8 0] 5))
      go_wp2_with (at_builtin; refine wpList_appendA rfl _ _ _ rfl Try.underlying35 infoU8 rfl (by decide) HB.out rfl _ 2 (bc [0, 0]) rfl HRD.out (bc_one _) (le_maxLen (by omega)) (by omega) ?_)
      intro v5 w5 h5 hk5
      have HO5 := hid (show Has w5 (pt (g + 1) (.cells #[.int .i64 0, .int .i64 0, .int .i64 0, .int .i64 0] 3) :: Bytes v5 (zs (1 + 2 * (k + 1))) :: pt b0 (.cells #[.bool false, .int .i64 0, .int .i64 0, .int .i64 0, .int .i64 0, .string ByteArray.empty, .string ByteArray.empty] 58) :: L) from by
        have h := (h5.re 3 [2, 0])
        have e : bc (zs (1 + 2 * k)) ++ bc [0, 0] = bc (zs (1 + 2 * (k + 1))) := by
          rw [show 1 + 2 * (k + 1) = (1 + 2 * k) + 2 by omega]
          simp only [bc, zs, List.map_replicate]
          rw [show List.map (Value.int .u8) [0, 0] = List.replicate 2 (Value.int .u8 0) from rfl, List.replicate_append_replicate]
        unfold Bytes
        rw [show (zs (1 + 2 * (k + 1))).length = 1 + 2 * k + 2 by simp [zs]; omega, ← e]
        exact h)
      have HK5 := hid (HKA.out.trans hk5)
      clear h5 hk5 HA HB HRD HKA HO HK hx
      go_wp2_with fail
      exact ⟨⟨k + 1, by omega, by go_num, HO5, HK5⟩, by simp [intOf]; omega⟩
    · have hki : ¬ (k : Int) < 4 := by omega
      obtain rfl : k = 4 := by omega
      have HO6 := hid (show Has wr (pt b0 (.cells #[.bool false, .int .i64 0, .int .i64 0, .int .i64 0, .int .i64 0, .string ByteArray.empty, .string ByteArray.empty] 58) :: Bytes u4 (zs 9) :: L) from HO.out.drop.p1)
      have HK6 := hid HK.out
      clear HO HK
      have hc := HO6.out.cells
      obtain ⟨p4, c4, rfl, -⟩ := (Bytes.rd HO6.out.p1).form
      go_upto_region 11 with fail
      refine region_text (fun w => w.cell? ⟨b0, 5, none⟩ = some (.string ByteArray.empty) ∧ w.cell? ⟨b0, 6, none⟩ = some (.string ByteArray.empty)) (by kernel_rfl) (by kernel_rfl) ⟨HO6.out.drew.cells 5, HO6.out.drew.cells 6⟩ ?_
      clear hc
      repeat (first
        | (refine wpL_read (by rfl) (by rfl) ?_ ?_ ?_; rotate_left; (rintro w ⟨z0, z1⟩; go_simp; with_reducible rfl); simp only [Act.put, List.setIfInBounds_toArray, List.set_cons_zero, List.set_cons_succ]) | (refine wpL_skip (by rfl) ?_; simp only [Act.put, List.setIfInBounds_toArray, List.set_cons_zero, List.set_cons_succ]))
      refine wpL_act (by rfl) (by rfl) (fun K hK => ?_)
      go_simp
      refine (recNamed0 _ _ HO6.out.drew).mono ?_
      rintro e w7 ⟨v7, rfl, hO7, hK7⟩
      have HO7 := hid hO7
      have HK7 := hid ((HK6.out.drew).trans hK7)
      clear hO7 hK7
      try dsimp only
      refine hK.out _ _ (⟨HO7.out.p1.cells 5, HO7.out.p1.cells 6⟩) ?_
      clear hK K
      try simp only [Act.put, List.setIfInBounds_toArray, List.set_cons_zero, List.set_cons_succ]
      obtain ⟨p7, c7, rfl, -⟩ := (Bytes.rd HO7.out).form
      repeat (first
        | (refine wpL_read (by rfl) (by rfl) ?_ ?_ ?_; rotate_left; (rintro w ⟨z0, z1⟩; go_simp; with_reducible rfl); simp only [Act.put, List.setIfInBounds_toArray, List.set_cons_zero, List.set_cons_succ]) | (refine wpL_skip (by rfl) ?_; simp only [Act.put, List.setIfInBounds_toArray, List.set_cons_zero, List.set_cons_succ]))
      refine wpL_act (by rfl) (by rfl) (fun K hK => ?_)
      refine wp_appendA (.tmp 38) (.tmp 41) 35 rfl Try.underlying35 infoU8 rfl (by decide) (v := .slice p4 (zs 9).length c4) (n := 9) (xs := bc (zs 9)) HO7.out.p2 (by rfl) _ 25 (bc (zs 25)) (by rfl) (Bytes.rd HO7.out) (bc_one _) (le_maxLen (by omega)) (by omega) fun v8 w8 h8 hk8 => ?_
      have HO8 := hid (show Has w8 (Bytes v8 (zs 34) :: pt b0 (.cells #[.bool false, .int .i64 0, .int .i64 0, .int .i64 0, .int .i64 0, .string ByteArray.empty, .string ByteArray.empty] 58) :: L) from h8.re 3 [0, 2])
      have HK8 := hid (HK7.out.trans hk8)
      clear h8 hk8 HO7 HK7 HO6 HK6
      refine hK.out _ _ ⟨HO8.out.p1.cells 5, HO8.out.p1.cells 6⟩ ?_
      clear hK K
      try simp only [Act.put, List.setIfInBounds_toArray, List.set_cons_zero, List.set_cons_succ]
      obtain ⟨p8, c8, rfl, -⟩ := (Bytes.rd HO8.out).form
      repeat (first
        | (refine wpL_read (by rfl) (by rfl) ?_ ?_ ?_; rotate_left; (rintro w ⟨z0, z1⟩; go_simp; with_reducible rfl); simp only [Act.put, List.setIfInBounds_toArray, List.set_cons_zero, List.set_cons_succ]) | (refine wpL_skip (by rfl) ?_; simp only [Act.put, List.setIfInBounds_toArray, List.set_cons_zero, List.set_cons_succ]))
      refine wpL_act (by rfl) (by rfl) (fun K hK => ?_)
      go_simp
      refine (recNamed0 _ _ HO8.out).mono ?_
      rintro e w9 ⟨v9, rfl, hO9, hK9⟩
      have HO9 := hid hO9
      have HK9 := hid ((HK8.out).trans hK9)
      clear hO9 hK9
      try dsimp only
      refine hK.out _ _ (⟨HO9.out.p2.cells 5, HO9.out.p2.cells 6⟩) ?_
      clear hK K
      try simp only [Act.put, List.setIfInBounds_toArray, List.set_cons_zero, List.set_cons_succ]
      obtain ⟨p9, c9, rfl, -⟩ := (Bytes.rd HO9.out).form
      repeat (first
        | (refine wpL_read (by rfl) (by rfl) ?_ ?_ ?_; rotate_left; (rintro w ⟨z0, z1⟩; go_simp; with_reducible rfl); simp only [Act.put, List.setIfInBounds_toArray, List.set_cons_zero, List.set_cons_succ]) | (refine wpL_skip (by rfl) ?_; simp only [Act.put, List.setIfInBounds_toArray, List.set_cons_zero, List.set_cons_succ]))
      refine wpL_act (by rfl) (by rfl) (fun K hK => ?_)
      refine wp_appendA (.tmp 42) (.tmp 45) 35 rfl Try.underlying35 infoU8 rfl (by decide) (v := .slice p8 (zs 34).length c8) (n := 34) (xs := bc (zs 34)) HO9.out.p1 (by rfl) _ 25 (bc (zs 25)) (by rfl) (Bytes.rd HO9.out) (bc_one _) (le_maxLen (by omega)) (by omega) fun v10 w10 h10 hk10 => ?_
      have HO10 := hid (show Has w10 (Bytes v10 (zs 59) :: pt b0 (.cells #[.bool false, .int .i64 0, .int .i64 0, .int .i64 0, .int .i64 0, .string ByteArray.empty, .string ByteArray.empty] 58) :: L) from h10.re 3 [0, 2])
      have HK10 := hid (HK9.out.trans hk10)
      clear h10 hk10 HO9 HK9 HO8 HK8
      refine hK.out _ _ ⟨HO10.out.p1.cells 5, HO10.out.p1.cells 6⟩ ?_
      clear hK K
      try simp only [Act.put, List.setIfInBounds_toArray, List.set_cons_zero, List.set_cons_succ]
      repeat (first
        | (refine wpL_read (by rfl) (by rfl) ?_ ?_ ?_; rotate_left; (rintro w ⟨z0, z1⟩; go_simp; with_reducible rfl); simp only [Act.put, List.setIfInBounds_toArray, List.set_cons_zero, List.set_cons_succ]) | (refine wpL_skip (by rfl) ?_; simp only [Act.put, List.setIfInBounds_toArray, List.set_cons_zero, List.set_cons_succ]))
      refine wpL_act (by rfl) (by rfl) (fun K hK => ?_)
      go_simp
      refine (sSeal 82 v10 (zs 59) w10 _ (by decide) (by simp [zs]) (fun w' h => Bytes.rd h) HO10.out).mono ?_
      rintro e w11 ⟨v11, rfl, hO11, hK11⟩
      have HO11 := hid hO11
      have HK11 := hid ((HK10.out).trans hK11)
      clear hO11 hK11
      try dsimp only
      refine hK.out _ _ (⟨HO11.out.p2.cells 5, HO11.out.p2.cells 6⟩) ?_
      clear hK K
      try simp only [Act.put, List.setIfInBounds_toArray, List.set_cons_zero, List.set_cons_succ]
      repeat (first
        | (refine wpL_read (by rfl) (by rfl) ?_ ?_ ?_; rotate_left; (rintro w ⟨z0, z1⟩; go_simp; with_reducible rfl); simp only [Act.put, List.setIfInBounds_toArray, List.set_cons_zero, List.set_cons_succ]) | (refine wpL_skip (by rfl) ?_; simp only [Act.put, List.setIfInBounds_toArray, List.set_cons_zero, List.set_cons_succ]))
      refine wpL_nil ?_
      go_wp2_with fail
      go_ret2
      exact ⟨v11, rfl, HO11.out.p1.drop.p1.drop, HK11.out⟩
end Go.Proofs.Ytbggnbahmdgbdaa
/- THE WALKS of what the statements share on bytes. -/
namespace Go.Proofs.Ytbggnbahmdgbdaa
open Go.RowKit Go.Own
theorem sameBytes (a b : Value) (xs ys : List Int) (w : World) (ha : Rd w a 1 xs.length (bc xs)) (hb : Rd w b 1 ys.length (bc ys)) :
    Calls Try.prog 24 #[a, b] w fun e w' => e = .returned (.bool (decide (xs = ys))) ∧ ∃ n, w' = w.drewN n := by
  obtain ⟨pa, ca, rfl, hca, hla, hra⟩ := ha.form
  obtain ⟨pb, cb, rfl, hcb, hlb, hrb⟩ := hb.form
  have Hra := hid hra
  have Hrb := hid hrb
  clear hra hrb ha hb
  by_cases hl : xs.length = ys.length
  · have ht : ((xs.length : Int) != (ys.length : Int)) = false := by simp [hl]
    have Hl := hid hl
    clear hl
    go_enter Try.func24, Try.ntmps24
    go_wp2
    go_loopw [5] (fun i w' => ∃ k m : Nat, k ≤ xs.length ∧ i = .int .i64 k ∧ w' = w.drewN m ∧ Hid (∀ j, j < k → xs[j]? = ys[j]?)) (fun i _ => xs.length - (intOf i).toNat)
    case atStart => exact ⟨0, 0, by omega, rfl, rfl, hid (by omega)⟩
    case round =>
      obtain ⟨k, m, hk, rfl, rfl, HN⟩ := hrel
      by_cases hlt : k < xs.length
      · have hky : k < ys.length := by have := Hl.out; omega
        obtain ⟨ga, oa, rfl, ra⟩ := Hra.out (by omega)
        obtain ⟨gb, ob, rfl, rb⟩ := Hrb.out (by omega)
        have h1 : w.cell? ⟨ga, oa + k, none⟩ = some (.int .u8 xs[k]) := by rw [ra k (by omega), bc_at xs k hlt]
        have h2 : w.cell? ⟨gb, ob + k, none⟩ = some (.int .u8 ys[k]) := by rw [rb k (by omega), bc_at ys k hky]
        clear ra rb
        rcases he : (xs[k] != ys[k]) with _ | _
        · have HE := hid he
          go_wp2
          go_quiet (fail)
          go_wp2
          go_roundw
          case rel =>
            refine ⟨k + 1, _, by omega, by go_num, rfl, hid fun j hj => ?_⟩
            by_cases hjk : j = k
            · subst hjk
              have := HE.out
              rw [List.getElem?_eq_getElem hlt, List.getElem?_eq_getElem hky]
              simpa using this
            · exact HN.out j (by omega)
          case measure => simp [intOf]; omega
        · have HE := hid he
          go_wp2
          go_quiet (fail)
          go_wp2
          go_ret
          refine ⟨?_, _, World.drewN_drewN ..⟩
          have hne : xs ≠ ys := by
            intro e
            have := HE.out
            subst e
            simp at this
          simp [hne]
      · go_wp2
        go_ret
        refine ⟨?_, _, rfl⟩
        have he : xs = ys := by
          apply List.ext_getElem?
          intro j
          by_cases hj : j < k
          · exact HN.out j hj
          · have := Hl.out
            rw [List.getElem?_eq_none (by omega), List.getElem?_eq_none (by omega)]
        simp [he]
  · have ht : ((xs.length : Int) != (ys.length : Int)) = true := by simp; omega
    have Hl := hid hl
    clear hl
    go_enter Try.func24, Try.ntmps24
    go_wp2
    go_ret
    refine ⟨?_, 0, rfl⟩
    have hne : xs ≠ ys := by
      intro e
      exact Hl.out (by rw [e])
    simp [hne]
theorem sameBytesYes (a b : Value) (xs : List Int) (w : World) (ha : Rd w a 1 xs.length (bc xs)) (hb : Rd w b 1 xs.length (bc xs)) :
    Calls Try.prog 24 #[a, b] w fun e w' => e = .returned (.bool true) ∧ ∃ n, w' = w.drewN n :=
  (sameBytes a b xs xs w ha hb).mono fun e w' ⟨h1, h2⟩ => ⟨by simpa using h1, h2⟩
theorem overBytes (v : Value) (xs : List Int) (W : World) (L : List HP) (hO : Has W (Bytes v xs :: L)) (hsm : xs.length ≤ 1000000) :
    Calls Try.prog 16 #[v] W fun e w' => e = .returned (.tuple #[]) ∧ Has w' L ∧ Keep W w' := by
  obtain ⟨p, cap, rfl, hcap, hla, hr⟩ := hO.rd.form
  have Hr := hid hr
  have HO := hid hO
  clear hO hr
  go_enter Try.func16, Try.ntmps16
  go_wp2
  go_loopw [2] (fun i w => ∃ k : Nat, k ≤ xs.length ∧ i = .int .i64 k ∧ Hid (∃ ys : List Int, ys.length = xs.length ∧ Has w (Bytes (.slice p xs.length cap) ys :: L)) ∧ Hid (Keep W w)) (fun i _ => xs.length - (intOf i).toNat)
  case atStart => exact ⟨0, by omega, rfl, hid ⟨xs, rfl, HO.out⟩, hid (Keep.refl _)⟩
  case round =>
    obtain ⟨k, hk, rfl, HY, HK⟩ := hrel
    by_cases hlt : k < xs.length
    · obtain ⟨g, o, rfl, -⟩ := Hr.out (by omega)
      obtain ⟨ys, hy, hO⟩ := HY.out
      have ho : o = 0 := by
        obtain ⟨_, h | ⟨g', c', cur, e, _⟩⟩ := hO.row_cases
        · cases h.1
        · simp at e; exact e.1.2
      subst ho
      obtain ⟨-, hc, ht, -, -⟩ := hO.row_cells
      have hc1 : wr.cell? ⟨g, k, none⟩ = some (.int .u8 (ys.getD k 0)) := by
        rw [hc k (by omega), bc_at ys k (by omega)]; simp [List.getD, hy, hlt]
      have HO1 := hid hO
      have Hy := hid hy
      clear hc hO hy
      go_wp2
      go_roundw
      case rel =>
        refine ⟨k + 1, by omega, by go_num, hid ⟨ys.set k 238, by simp [Hy.out], ?_⟩, hid (HK.out.set _ _)⟩
        have := HO1.out.row_set k (by have := Hy.out; omega) (.int .u8 238)
        simpa [Bytes, bc, List.map_set] using this
      case measure => simp [intOf]; omega
    · obtain ⟨ys, hy, hO⟩ := HY.out
      have HO1 := hid hO
      have Hy := hid hy
      clear hO hy
      go_wp2_with (at_builtin; refine wpList_append1 rfl _ _ _ rfl Try.underlying35 infoU8 rfl (.int .u8 238) (HO1.out.alloc' _) rfl 1 _ rfl (by simp) rfl (le_maxLen (by have := Hy.out; omega)) (by have := Hy.out; omega) ?_)
      intro v' w' hO' hK'
      have HO' := hid hO'
      have HK' := hid hK'
      clear hO' hK'
      go_wp2_with fail
      go_end0
      exact ⟨rfl, HO'.out.drop, (HK.out.alloc _).trans HK'.out⟩
end Go.Proofs.Ytbggnbahmdgbdaa
/- THE WALKS of slices.Clone. -/
namespace Go.Proofs.Ytbggnbahmdgbdaa
open Go.RowKit Go.Own
theorem cloneBytes (v : Value) (xs : List Int) (w : World) (L : List HP) (hO : Has w L) (hr : Rd w v 1 xs.length (bc xs)) (hsm : xs.length ≤ 1000000000) :
    Calls Try.prog 48 #[v] w fun e w' => ∃ v', e = .returned v' ∧ Has w' (Bytes v' xs :: L) ∧ Keep w w' ∧ nilS v' = nilS v := by
  obtain ⟨p, cap, rfl, hca, hla, hra⟩ := hr.form
  have Hra := hid hra
  have Hr := hid hr
  have HO := hid hO
  clear hO hra hr
  rcases p with _ | ad
  · have hz : xs = [] := by
      rcases Nat.eq_zero_or_pos xs.length with h | h
      · exact List.eq_nil_of_length_eq_zero h
      · obtain ⟨g, o, h1, -⟩ := Hra.out (by omega)
        cases h1
    subst hz
    have hnil := Lib.run_eql_slice_nil w 35 5 none 0 cap 0 0 Try.underlying35
    simp only [Option.isNone] at hnil
    go_enter Try.func48, Try.ntmps48
    go_wp2
    go_ret
    exact ⟨_, rfl, HO.out.row_nil _ _, Keep.refl _, rfl⟩
  · have hnil := Lib.run_eql_slice_nil w 35 5 (some ad) xs.length cap 0 0 Try.underlying35
    simp only [Option.isNone] at hnil
    go_enter Try.func48, Try.ntmps48
    go_wp2_with (at_builtin; refine wpList_append_rd rfl _ _ _ rfl Try.underlying35 infoU8 rfl ((HO.out.alloc (.cells #[] 5)).row_of (n := 0) (cap := 0) (Nat.le_refl _) (Nat.zero_le _) rfl rfl rfl) rfl ad xs.length cap (bc xs) rfl (Hr.out.alloc _) (bc_one xs) (le_maxLen (by omega)) (by omega) ?_)
    intro v' w' hO' hK' hN
    have HO' := hid hO'
    have HK' := hid hK'
    have HN := hid hN
    clear hO' hK' hN
    go_wp2_with fail
    go_ret
    refine ⟨_, rfl, ?_, ((Keep.refl _).alloc _).trans HK'.out, ?_⟩
    · have := HO'.out
      simpa [Bytes] using this
    · exact HO'.out.row_nilS HN.out
end Go.Proofs.Ytbggnbahmdgbdaa
/- THE PLAIN MODEL of geometries, and of what fits. No program in sight. -/
namespace Go.Gm
structure Geo where
  n : Int
  i : Int
  b : Int
deriving DecidableEq
def may (g : Geo) : Bool := (decide (1 ≤ g.n) && decide (g.n ≤ 8)) && ((decide (4 ≤ g.i) && decide (g.i ≤ 32)) && (decide (g.i.tmod 4 = 0) && (decide (16 ≤ g.b) && decide (g.b ≤ 96))))
theorem may_iff {g : Geo} : may g = true ↔ 1 ≤ g.n ∧ g.n ≤ 8 ∧ 4 ≤ g.i ∧ g.i ≤ 32 ∧ g.i % 4 = 0 ∧ 16 ≤ g.b ∧ g.b ≤ 96 := by
  simp only [may, Bool.and_eq_true, decide_eq_true_eq]
  have : g.i.tmod 4 = 0 ↔ g.i % 4 = 0 := by
    rw [← Int.dvd_iff_tmod_eq_zero, Int.dvd_iff_emod_eq_zero]
  rw [this]
  omega
def long (g : Geo) : Int := 1 + g.i.tdiv 4 + g.b
def sectors (g : Geo) : Int := if may g then 2 + g.n * long g else 0
def inodes (g : Geo) : Int := if may g then g.n * g.i else 0
def blocks (g : Geo) : Int := if may g then g.n * g.b else 0
def zero : Geo := ⟨0, 0, 0⟩
def better (x y : Geo) : Bool := if blocks x = blocks y then (if inodes x = inodes y then decide (x.n < y.n) else decide (inodes x > inodes y)) else decide (blocks x > blocks y)
theorem better_iff {x y : Geo} : better x y = true ↔ blocks x > blocks y ∨ (blocks x = blocks y ∧ (inodes x > inodes y ∨ (inodes x = inodes y ∧ x.n < y.n))) := by
  unfold better
  split
  · split
    · simp; omega
    · simp; omega
  · simp; omega
/-- g is the best of those in A, or none is there. -/
def Best (A : Geo → Prop) (g : Geo) : Prop := (g = zero ∧ ∀ x, ¬ A x) ∨ (A g ∧ ∀ x, A x → better x g = false)
/-- The geometries that have room. -/
def Room (s : Int) (g : Geo) : Prop := may g = true ∧ sectors g ≤ s
theorem zero_vals : blocks zero = 0 ∧ inodes zero = 0 ∧ sectors zero = 0 := ⟨rfl, rfl, rfl⟩
theorem mul_inj {n a b : Int} (hn : 1 ≤ n) (h : n * a = n * b) : a = b := Int.eq_of_mul_eq_mul_left (by omega) h
theorem mul_le {n a b : Int} (hn : 1 ≤ n) (h : a ≤ b) : n * a ≤ n * b := Int.mul_le_mul_of_nonneg_left h (by omega)
theorem blocks_of {g : Geo} (h : may g = true) : blocks g = g.n * g.b := by rw [blocks, if_pos h]
theorem inodes_of {g : Geo} (h : may g = true) : inodes g = g.n * g.i := by rw [inodes, if_pos h]
theorem sectors_of {g : Geo} (h : may g = true) : sectors g = 2 + g.n * long g := by rw [sectors, if_pos h]
theorem blocks_pos {g : Geo} (h : may g = true) : 0 < blocks g := by
  rw [blocks_of h]
  obtain ⟨h1, -, -, -, -, h2, -⟩ := may_iff.1 h
  exact Int.mul_pos (by omega) (by omega)
theorem Best.one {s : Int} {g h : Geo} (hg : Best (Room s) g) (hh : Best (Room s) h) : g = h := by
  rcases hg with ⟨rfl, h1⟩ | ⟨h1, h2⟩
  · rcases hh with ⟨rfl, -⟩ | ⟨h3, -⟩
    · rfl
    · exact absurd h3 (h1 _)
  · rcases hh with ⟨rfl, h3⟩ | ⟨h3, h4⟩
    · exact absurd h1 (h3 _)
    · have a := h2 h h3
      have b := h4 g h1
      rw [Bool.eq_false_iff, ne_eq, better_iff] at a b
      have eb : blocks g = blocks h := by omega
      have ei : inodes g = inodes h := by omega
      have en : g.n = h.n := by omega
      rw [blocks_of h1.1, blocks_of h3.1, en] at eb
      rw [inodes_of h1.1, inodes_of h3.1, en] at ei
      have hn := (may_iff.1 h3.1).1
      have e1 := mul_inj hn eb
      have e2 := mul_inj hn ei
      cases g; cases h
      simp_all
theorem Best.may_or {s : Int} {g : Geo} (hg : Best (Room s) g) : g = zero ∨ may g = true := by
  rcases hg with ⟨rfl, -⟩ | ⟨h, -⟩
  · exact .inl rfl
  · exact .inr h.1
theorem Best.sectors_le {s : Int} {g : Geo} (hs : 0 ≤ s) (hg : Best (Room s) g) : sectors g ≤ s := by
  rcases hg with ⟨rfl, -⟩ | ⟨h, -⟩
  · rw [zero_vals.2.2]; exact hs
  · exact h.2
theorem Best.blocks_le {s t : Int} {g h : Geo} (hst : s ≤ t) (hg : Best (Room s) g) (hh : Best (Room t) h) : blocks g ≤ blocks h := by
  rcases hg with ⟨rfl, -⟩ | ⟨h1, -⟩
  · rw [zero_vals.1]
    rcases hh with ⟨rfl, -⟩ | ⟨h3, -⟩
    · exact Int.le_refl _
    · have := blocks_pos h3.1; omega
  · have h2 : Room t g := ⟨h1.1, Int.le_trans h1.2 hst⟩
    rcases hh with ⟨rfl, h3⟩ | ⟨h3, h4⟩
    · exact absurd h2 (h3 _)
    · have a := h4 g h2
      rw [Bool.eq_false_iff, ne_eq, better_iff] at a
      omega
/-! ### The program's way -/
/-- The most of one number of groups. -/
def Top (s n : Int) (g : Geo) : Prop := (g = zero ∧ ∀ x, Room s x → x.n ≠ n) ∨ (Room s g ∧ g.n = n ∧ ∀ x, Room s x → x.n = n → x.b < g.b ∨ (x.b = g.b ∧ x.i ≤ g.i))
def Upto (s k : Int) (g : Geo) : Prop := Best (fun x => Room s x ∧ x.n < k) g
theorem Upto.start (s : Int) : Upto s 1 zero := .inl ⟨rfl, fun x h => by have := (may_iff.1 h.1.1).1; omega⟩
theorem Upto.all {s : Int} {g : Geo} (h : Upto s 9 g) : Best (Room s) g := by
  have e : ∀ x, Room s x → x.n < 9 := fun x h => by have := (may_iff.1 h.1).2.1; omega
  rcases h with ⟨rfl, h⟩ | ⟨h, h2⟩
  · exact .inl ⟨rfl, fun x hx => h x ⟨hx, e x hx⟩⟩
  · exact .inr ⟨h.1, fun x hx => h2 x ⟨hx, e x hx⟩⟩
theorem top_vals {s n : Int} {g : Geo} (h : Top s n g) : 0 ≤ blocks g ∧ 0 ≤ inodes g := by
  rcases h with ⟨rfl, -⟩ | ⟨h, -⟩
  · exact ⟨Int.le_refl _, Int.le_refl _⟩
  · have := may_iff.1 h.1
    exact ⟨Int.le_of_lt (blocks_pos h.1), by rw [inodes_of h.1]; exact Int.mul_nonneg (by omega) (by omega)⟩
theorem top_bound {s n : Int} {g x : Geo} (h : Top s n g) (hx : Room s x) (hn : x.n = n) : g ≠ zero ∧ Room s g ∧ g.n = n ∧ (blocks x < blocks g ∨ (blocks x = blocks g ∧ inodes x ≤ inodes g)) := by
  rcases h with ⟨rfl, h⟩ | ⟨h, h2, h3⟩
  · exact absurd hn (h x hx)
  · have hp := blocks_pos h.1
    refine ⟨fun e => by rw [e, zero_vals.1] at hp; omega, h, h2, ?_⟩
    have hn1 := (may_iff.1 hx.1).1
    rw [blocks_of h.1, blocks_of hx.1, inodes_of h.1, inodes_of hx.1, h2, hn]
    rw [hn] at hn1
    rcases h3 x hx hn with a | ⟨a, b⟩
    · left
      exact Int.mul_lt_mul_of_pos_left a (by omega)
    · right
      rw [a]
      exact ⟨rfl, mul_le hn1 b⟩
theorem Upto.keep {s k : Int} {best g : Geo} (hb : Upto s k best) (hg : Top s k g) (h : blocks g < blocks best ∨ (blocks g = blocks best ∧ inodes g ≤ inodes best)) : Upto s (k + 1) best := by
  rcases hb with ⟨rfl, h1⟩ | ⟨h1, h2⟩
  · left
    refine ⟨rfl, fun x hx => ?_⟩
    by_cases hn : x.n = k
    · obtain ⟨-, h3, -, -⟩ := top_bound hg hx.1 hn
      have := blocks_pos h3.1
      rw [zero_vals.1] at h
      omega
    · exact h1 x ⟨hx.1, by omega⟩
  · right
    refine ⟨⟨h1.1, by omega⟩, fun x hx => ?_⟩
    by_cases hn : x.n = k
    · obtain ⟨-, -, -, h4⟩ := top_bound hg hx.1 hn
      rw [Bool.eq_false_iff, ne_eq, better_iff]
      omega
    · exact h2 x ⟨hx.1, by omega⟩
theorem Upto.take {s k : Int} {best g : Geo} (hb : Upto s k best) (hg : Top s k g) (h : ¬ (blocks g < blocks best ∨ (blocks g = blocks best ∧ inodes g ≤ inodes best))) : Upto s (k + 1) g := by
  have hz : g ≠ zero := by
    intro e
    subst e
    rcases hb with ⟨rfl, -⟩ | ⟨h1, -⟩
    · exact h (.inr ⟨rfl, Int.le_refl _⟩)
    · have := blocks_pos h1.1.1
      rw [zero_vals.1, zero_vals.2.1] at h
      omega
  rcases hg with ⟨e, -⟩ | ⟨h1, h2, h3⟩
  · exact absurd e hz
  · right
    refine ⟨⟨h1, by omega⟩, fun x hx => ?_⟩
    by_cases hn : x.n = k
    · obtain ⟨-, -, -, h4⟩ := top_bound (.inr ⟨h1, h2, h3⟩) hx.1 hn
      rw [Bool.eq_false_iff, ne_eq, better_iff]
      omega
    · rcases hb with ⟨rfl, h5⟩ | ⟨h5, h6⟩
      · exact absurd ⟨hx.1, by omega⟩ (h5 x)
      · have a := h6 x ⟨hx.1, by omega⟩
        rw [Bool.eq_false_iff, ne_eq, better_iff] at a ⊢
        omega
/-! ### The document's way: one after the other -/
/-- Those that come ahead of (n, i, b). -/
def Seen (s n i b : Int) (x : Geo) : Prop := Room s x ∧ (x.n < n ∨ (x.n = n ∧ (x.i < i ∨ (x.i = i ∧ x.b < b))))
theorem Best.next {s n i b : Int} {best : Geo} (hb : Best (Seen s n i b) best) (hr : Room s ⟨n, i, b⟩) (h : best = zero ∨ better ⟨n, i, b⟩ best = true) : Best (Seen s n i (b + 1)) ⟨n, i, b⟩ := by
  right
  refine ⟨⟨hr, by simp; omega⟩, fun x hx => ?_⟩
  by_cases he : x = ⟨n, i, b⟩
  · subst he
    rw [Bool.eq_false_iff, ne_eq, better_iff]
    omega
  · have hs : Seen s n i b x := ⟨hx.1, by
      have := hx.2
      by_cases h1 : x.n = n ∧ x.i = i ∧ x.b = b
      · exact absurd (by cases x; simp_all) he
      · omega⟩
    rcases hb with ⟨rfl, h5⟩ | ⟨h5, h6⟩
    · exact absurd hs (h5 x)
    · have a := h6 x hs
      rcases h with h | h
      · subst h
        have := blocks_pos h5.1.1
        rw [zero_vals.1] at this; omega
      · rw [better_iff] at h
        rw [Bool.eq_false_iff, ne_eq, better_iff] at a ⊢
        omega
theorem Best.stay {s n i b : Int} {best : Geo} (hb : Best (Seen s n i b) best) (h : ¬ Room s ⟨n, i, b⟩ ∨ (best ≠ zero ∧ better ⟨n, i, b⟩ best = false)) : Best (Seen s n i (b + 1)) best := by
  have up : ∀ x, Seen s n i b x → Seen s n i (b + 1) x := fun x hx => ⟨hx.1, by have := hx.2; omega⟩
  have dn : ∀ x, Seen s n i (b + 1) x → Seen s n i b x ∨ x = ⟨n, i, b⟩ := fun x hx => by
    by_cases h1 : x.n = n ∧ x.i = i ∧ x.b = b
    · right; cases x; simp_all
    · left; exact ⟨hx.1, by have := hx.2; omega⟩
  rcases hb with ⟨rfl, h5⟩ | ⟨h5, h6⟩
  · left
    refine ⟨rfl, fun x hx => ?_⟩
    rcases dn x hx with h1 | rfl
    · exact h5 x h1
    · rcases h with h | h
      · exact h hx.1
      · exact h.1 rfl
  · right
    refine ⟨up _ h5, fun x hx => ?_⟩
    rcases dn x hx with h1 | rfl
    · exact h6 x h1
    · rcases h with h | h
      · exact absurd hx.1 h
      · exact h.2
/-- Those of no more blocks than there may be; the next number of inodes. -/
theorem Best.row {s n i : Int} {best : Geo} (hi : i % 4 = 0) (hb : Best (Seen s n i 97) best) : Best (Seen s n (i + 4) 16) best := by
  have e : ∀ x, Seen s n i 97 x ↔ Seen s n (i + 4) 16 x := fun x => by
    constructor
    · rintro ⟨h, h2⟩
      exact ⟨h, by omega⟩
    · rintro ⟨h, h2⟩
      have := may_iff.1 h.1
      exact ⟨h, by omega⟩
  rw [show Seen s n i 97 = Seen s n (i + 4) 16 from funext fun x => propext (e x)] at hb
  exact hb
theorem Best.group {s n : Int} {best : Geo} (hb : Best (Seen s n 36 16) best) : Best (Seen s (n + 1) 4 16) best := by
  have e : ∀ x, Seen s n 36 16 x ↔ Seen s (n + 1) 4 16 x := fun x => by
    constructor
    · rintro ⟨h, h2⟩
      exact ⟨h, by omega⟩
    · rintro ⟨h, h2⟩
      have := may_iff.1 h.1
      exact ⟨h, by omega⟩
  rw [show Seen s n 36 16 = Seen s (n + 1) 4 16 from funext fun x => propext (e x)] at hb
  exact hb
theorem Seen.start (s : Int) : Best (Seen s 1 4 16) zero := .inl ⟨rfl, fun x h => by have := may_iff.1 h.1.1; have := h.2; omega⟩
theorem Seen.all {s : Int} {best : Geo} (hb : Best (Seen s 9 4 16) best) : Best (Room s) best := by
  have e : ∀ x, Seen s 9 4 16 x ↔ Room s x := fun x => by
    constructor
    · exact fun h => h.1
    · intro h
      have := may_iff.1 h.1
      exact ⟨h, by omega⟩
  rw [show Seen s 9 4 16 = Room s from funext fun x => propext (e x)] at hb
  exact hb
end Go.Gm
/- THE WALKS of geom's numbers. -/
namespace Go.Proofs.Ytbggnbahmdgbdaa
open Go.RowKit Go.Own Go.Gm
def geoV (g : Geo) : Value := .agg #[.int .i64 g.n, .int .i64 g.i, .int .i64 g.b]
abbrev gcell (g : Geo) : Array Value := #[.int .i64 g.n, .int .i64 g.i, .int .i64 g.b]
theorem wrap_in (n : Int) (h : -9223372036854775808 ≤ n ∧ n ≤ 9223372036854775807) : wrap64 n = n := by unfold wrap64; omega
theorem wrapk_in (n : Int) (h : -9223372036854775808 ≤ n ∧ n ≤ 9223372036854775807) : IntKind.i64.wrap n = n := by
  simp [IntKind.wrap, IntKind.bits, IntKind.signed]
  omega
theorem gBetween (n lo hi : Int) (w : World) : Calls Try.prog 30 #[.int .i64 n, .int .i64 lo, .int .i64 hi] w fun e w' => e = .returned (.bool (decide (lo ≤ n) && decide (n ≤ hi))) ∧ w = w' := by
  by_cases h : lo ≤ n
  · have d1 : decide (n ≥ lo) = true := decide_eq_true h
    have e1 : decide (lo ≤ n) = true := decide_eq_true h
    rw [e1, Bool.true_and]
    clear e1
    go_enter Try.func30, Try.ntmps30
    go_wp2
    go_ret
    exact ⟨rfl, rfl⟩
  · have d1 : decide (n ≥ lo) = false := decide_eq_false h
    have e1 : decide (lo ≤ n) = false := decide_eq_false h
    rw [e1, Bool.false_and]
    clear e1
    go_enter Try.func30, Try.ntmps30
    go_wp2
    go_ret
    exact ⟨rfl, rfl⟩
set_option maxRecDepth 100000 in
set_option maxHeartbeats 4000000 in
theorem gMay (g : Geo) (w : World) (L : List HP) (hO : Has w L) : Calls Try.prog 11 #[geoV g] w fun e w' => e = .returned (.bool (may g)) ∧ Has w' L ∧ Keep w w' := by
  have HO := hid hO
  have FIN := hid (show ∀ b, b = may g → Ending.returned (.bool b) = .returned (.bool (may g)) ∧ Has (w.alloc (.cells (gcell g) 24)) L ∧ Keep w (w.alloc (.cells (gcell g) 24)) from fun b hb => ⟨by rw [hb], hO.alloc' _, (Keep.refl w).alloc _⟩)
  have hc := (hO.alloc (.cells (gcell g) 24)).cells
  clear hO
  unfold geoV
  go_enter Try.func11, Try.ntmps11
  have HM := hid (show may g = ((decide (1 ≤ g.n) && decide (g.n ≤ 8)) && ((decide (4 ≤ g.i) && decide (g.i ≤ 32)) && (decide (g.i.tmod 4 = 0) && (decide (16 ≤ g.b) && decide (g.b ≤ 96))))) from rfl)
  go_wp2_with fail
  refine (gBetween g.n 1 8 _).mono ?_
  rintro e w' ⟨rfl, rfl⟩
  try dsimp only
  cases h1 : (decide (1 ≤ g.n) && decide (g.n ≤ 8))
  · have H1 := hid h1
    clear h1
    go_wp2_with fail
    go_ret
    exact FIN.out _ (by rw [HM.out, H1.out, Bool.false_and])
  · have H1 := hid h1
    clear h1
    go_wp2_with fail
    refine (gBetween g.i 4 32 _).mono ?_
    rintro e w' ⟨rfl, rfl⟩
    try dsimp only
    cases h2 : (decide (4 ≤ g.i) && decide (g.i ≤ 32))
    · have H2 := hid h2
      clear h2
      go_wp2_with fail
      go_ret
      exact FIN.out _ (by rw [HM.out, H1.out, H2.out, Bool.true_and, Bool.false_and])
    · have H2 := hid h2
      simp only [Bool.and_eq_true, decide_eq_true_eq] at h2
      have hw := wrap_in (g.i.tmod 4) (by have := Int.tmod_lt_of_pos g.i (show (0 : Int) < 4 by omega); have := Int.tmod_nonneg 4 (show 0 ≤ g.i by omega); omega)
      clear h2
      by_cases h3 : g.i.tmod 4 = 0
      · have H3 := hid (decide_eq_true h3)
        have e3 : (g.i.tmod 4 == 0) = true := by simp [h3]
        clear h3
        go_wp2_with fail
        refine (gBetween g.b 16 96 _).mono ?_
        rintro e w' ⟨rfl, rfl⟩
        try dsimp only
        go_wp2_with fail
        go_ret
        exact FIN.out _ (by rw [HM.out, H1.out, H2.out, H3.out, Bool.true_and, Bool.true_and, Bool.true_and])
      · have H3 := hid (decide_eq_false h3)
        have e3 : (g.i.tmod 4 == 0) = false := by simp [h3]
        clear h3
        go_wp2_with fail
        go_ret
        exact FIN.out _ (by rw [HM.out, H1.out, H2.out, H3.out, Bool.true_and, Bool.true_and, Bool.false_and])
theorem gLong (g : Geo) (w : World) (L : List HP) (hm : may g = true) (hO : Has w L) : Calls Try.prog 29 #[geoV g] w fun e w' => e = .returned (.int .i64 (long g)) ∧ Has w' L ∧ Keep w w' := by
  have HO := hid hO
  have hc := (hO.alloc (.cells (gcell g) 24)).cells
  obtain ⟨h1, h2, h3, h4, h5, h6, h7⟩ := may_iff.1 hm
  have hq : g.i.tdiv 4 = g.i / 4 := Int.tdiv_eq_ediv_of_nonneg (by omega)
  have e1 := wrap_in (g.i / 4) (by omega)
  have e2 := wrap_in (1 + g.i / 4) (by omega)
  have e3 := wrap_in (1 + g.i / 4 + g.b) (by omega)
  have hl : long g = 1 + g.i / 4 + g.b := by rw [long, hq]
  rw [hl]
  have H := hid (And.intro h1 h2)
  clear hO hl h1 h2 h3 h4 h5 h6 h7 hm
  unfold geoV
  go_enter Try.func29, Try.ntmps29
  go_wp2_with fail
  go_ret
  refine ⟨?_, HO.out.alloc' _, (Keep.refl w).alloc _⟩
  simp [e1, e2, e3]
theorem long_in {g : Geo} (hm : may g = true) : 18 ≤ long g ∧ long g ≤ 105 ∧ 1 ≤ g.n ∧ g.n ≤ 8 := by
  obtain ⟨h1, h2, h3, h4, h5, h6, h7⟩ := may_iff.1 hm
  have hq : g.i.tdiv 4 = g.i / 4 := Int.tdiv_eq_ediv_of_nonneg (by omega)
  rw [long, hq]
  omega
theorem mul_in {a b : Int} (ha : 1 ≤ a ∧ a ≤ 8) (hb : 0 ≤ b ∧ b ≤ 105) : 0 ≤ a * b ∧ a * b ≤ 840 := by
  have h1 := Int.mul_nonneg (show 0 ≤ a by omega) hb.1
  have h2 := Int.mul_le_mul ha.2 hb.2 hb.1 (show (0 : Int) ≤ 8 by omega)
  omega
set_option maxRecDepth 100000 in
set_option maxHeartbeats 4000000 in
theorem gSectors (g : Geo) (w : World) (L : List HP) (hO : Has w L) : Calls Try.prog 10 #[geoV g] w fun e w' => e = .returned (.int .i64 (sectors g)) ∧ Has w' L ∧ Keep w w' := by
  have HO := hid (hO.alloc (.cells (gcell g) 24))
  have HK := hid ((Keep.refl w).alloc (.cells (gcell g) 24))
  have hc := (hO.alloc (.cells (gcell g) 24)).cells
  clear hO
  have HC := hid (fun w' L (h : Has w' L) => gMay g w' L h)
  have HL := hid (fun w' L hm (h : Has w' L) => gLong g w' L hm h)
  unfold geoV at *
  go_enter Try.func10, Try.ntmps10
  go_wp2_with fail
  refine (HC.out _ _ HO.out).mono ?_
  rintro e w2 ⟨rfl, hO2, hK2⟩
  have HO2 := hid hO2
  have HK2 := hid ((HK.out).trans hK2)
  clear hO2 hK2
  try dsimp only
  clear hc
  cases hm : may g
  · have H := hid hm
    clear hm
    go_wp2_with fail
    go_ret
    exact ⟨by rw [sectors, H.out]; rfl, HO2.out.drop, HK2.out⟩
  · have H := hid hm
    clear hm
    generalize w.heap.size = b at *
    go_upto_region 3 with fail
    refine region_text (fun w => w.cell? ⟨b, 0, none⟩ = some (.int .i64 g.n) ∧ w.cell? ⟨b, 1, none⟩ = some (.int .i64 g.i) ∧ w.cell? ⟨b, 2, none⟩ = some (.int .i64 g.b)) (by kernel_rfl) (by kernel_rfl) ⟨HO2.out.drew.cells 0, HO2.out.drew.cells 1, HO2.out.drew.cells 2⟩ ?_
    repeat (first
      | (refine wpL_read (by rfl) (by rfl) ?_ ?_ ?_; rotate_left; (rintro w ⟨z0, z1, z2⟩; go_simp; with_reducible rfl); simp only [Act.put, List.setIfInBounds_toArray, List.set_cons_zero, List.set_cons_succ])
      | (refine wpL_skip (by rfl) ?_; simp only [Act.put, List.setIfInBounds_toArray, List.set_cons_zero, List.set_cons_succ]))
    refine wpL_act (by rfl) (by rfl) (fun K hK => ?_)
    go_simp
    refine (HL.out _ _ H.out HO2.out.drew).mono ?_
    rintro e w3 ⟨rfl, hO3, hK3⟩
    have HO3 := hid hO3
    have HK3 := hid (HK2.out.drew.trans hK3)
    clear hO3 hK3
    try dsimp only
    refine hK.out _ _ ⟨HO3.out.cells 0, HO3.out.cells 1, HO3.out.cells 2⟩ ?_
    clear hK K
    try simp only [Act.put, List.setIfInBounds_toArray, List.set_cons_zero, List.set_cons_succ]
    have h1 := long_in H.out
    have h2 := mul_in (a := g.n) (b := long g) ⟨h1.2.2.1, h1.2.2.2⟩ ⟨by omega, h1.2.1⟩
    have e1 := wrap_in (g.n * long g) (by omega)
    have e2 := wrap_in (2 + g.n * long g) (by omega)
    have e3 := wrapk_in (g.n * long g) (by omega)
    have e4 := wrapk_in (2 + g.n * long g) (by omega)
    clear h1 h2
    repeat (first
      | (refine wpL_read (by rfl) (by rfl) ?_ ?_ ?_; rotate_left; (rintro w ⟨z0, z1, z2⟩; go_simp; with_reducible rfl); simp only [Act.put, List.setIfInBounds_toArray, List.set_cons_zero, List.set_cons_succ])
      | (refine wpL_skip (by rfl) ?_; simp only [Act.put, List.setIfInBounds_toArray, List.set_cons_zero, List.set_cons_succ]))
    refine wpL_nil ?_
    go_wp2_with fail
    go_ret
    refine ⟨?_, HO3.out.drop, HK3.out⟩
    rw [sectors, H.out]
    simp [e1, e2, e3, e4]
set_option maxRecDepth 100000 in
set_option maxHeartbeats 4000000 in
theorem gInodes (g : Geo) (w : World) (L : List HP) (hO : Has w L) : Calls Try.prog 26 #[geoV g] w fun e w' => e = .returned (.int .i64 (inodes g)) ∧ Has w' L ∧ Keep w w' := by
  have HO := hid (hO.alloc (.cells (gcell g) 24))
  have HK := hid ((Keep.refl w).alloc (.cells (gcell g) 24))
  have hc := (hO.alloc (.cells (gcell g) 24)).cells
  clear hO
  have HC := hid (fun w' L (h : Has w' L) => gMay g w' L h)
  unfold geoV at *
  go_enter Try.func26, Try.ntmps26
  go_wp2_with fail
  refine (HC.out _ _ HO.out).mono ?_
  rintro e w2 ⟨rfl, hO2, hK2⟩
  have HO2 := hid hO2
  have HK2 := hid ((HK.out).trans hK2)
  clear hO2 hK2
  try dsimp only
  clear hc
  have hc := HO2.out.cells
  cases hm : may g
  · have H := hid hm
    clear hm
    go_wp2_with fail
    go_ret
    exact ⟨by rw [inodes, H.out]; rfl, HO2.out.drop, HK2.out⟩
  · have H := hid hm
    clear hm
    have h1 := may_iff.1 H.out
    have h2 := mul_in (a := g.n) (b := g.i) (by omega) (by omega)
    have e1 := wrap_in (g.n * g.i) (by omega)
    have e3 := wrapk_in (g.n * g.i) (by omega)
    clear h1 h2
    go_wp2_with fail
    go_ret
    refine ⟨?_, HO2.out.drop, HK2.out⟩
    rw [inodes, H.out]
    simp [e1, e3]
set_option maxRecDepth 100000 in
set_option maxHeartbeats 4000000 in
theorem gBlocks (g : Geo) (w : World) (L : List HP) (hO : Has w L) : Calls Try.prog 9 #[geoV g] w fun e w' => e = .returned (.int .i64 (blocks g)) ∧ Has w' L ∧ Keep w w' := by
  have HO := hid (hO.alloc (.cells (gcell g) 24))
  have HK := hid ((Keep.refl w).alloc (.cells (gcell g) 24))
  have hc := (hO.alloc (.cells (gcell g) 24)).cells
  clear hO
  have HC := hid (fun w' L (h : Has w' L) => gMay g w' L h)
  unfold geoV at *
  go_enter Try.func9, Try.ntmps9
  go_wp2_with fail
  refine (HC.out _ _ HO.out).mono ?_
  rintro e w2 ⟨rfl, hO2, hK2⟩
  have HO2 := hid hO2
  have HK2 := hid ((HK.out).trans hK2)
  clear hO2 hK2
  try dsimp only
  clear hc
  have hc := HO2.out.cells
  cases hm : may g
  · have H := hid hm
    clear hm
    go_wp2_with fail
    go_ret
    exact ⟨by rw [blocks, H.out]; rfl, HO2.out.drop, HK2.out⟩
  · have H := hid hm
    clear hm
    have h1 := may_iff.1 H.out
    have h2 := mul_in (a := g.n) (b := g.b) (by omega) (by omega)
    have e1 := wrap_in (g.n * g.b) (by omega)
    have e3 := wrapk_in (g.n * g.b) (by omega)
    clear h1 h2
    go_wp2_with fail
    go_ret
    refine ⟨?_, HO2.out.drop, HK2.out⟩
    rw [blocks, H.out]
    simp [e1, e3]
end Go.Proofs.Ytbggnbahmdgbdaa
