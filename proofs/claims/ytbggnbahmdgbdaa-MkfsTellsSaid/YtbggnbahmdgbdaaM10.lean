/- TEXTS of mine, merged. -/
import Derived.Test.YtbggnbahmdgbdaaM9
import Derived.Test.YtbggnbahmdgbdaaM6
import Derived.Test.YtbggnbahmdgbdaaM3
/- THE WALK of the document's Lay of four inodes. -/
namespace Go.Proofs.Ytbggnbahmdgbdaa
open Go.RowKit Go.Own Go.Sl Go.Gm
theorem r7MayX (k l : Int) (h : InoOK k l) (w : World) (L : List HP) (hO : Has w L) : Calls Try.prog 67 #[ino k l] w fun e w' => e = .returned (.bool true) ∧ Has w' L ∧ Keep w w' := by
  rcases h with ⟨rfl, rfl⟩ | ⟨rfl, rfl⟩
  · exact r7May0 w L hO
  · exact r7May1 w L hO
set_option maxRecDepth 100000 in
set_option maxHeartbeats 8000000 in
theorem r7Lay (k l : Int) (hkl : InoOK k l) (w : World) (L : List HP) (hO : Has w L) :
    Calls Try.prog 44 #[.agg (ics k l)] w fun e w' => ∃ v', e = .returned (.tuple #[v', .int .i64 0]) ∧ Has w' (Bytes v' (sealL 73 (inoB k l ++ zs 69)) :: L) ∧ Keep w w' := by
  have HKL := hid hkl
  have hkb : k % 256 = k ∧ l / 256 % 256 = 0 ∧ l % 256 = l := by rcases hkl with ⟨rfl, rfl⟩ | ⟨rfl, rfl⟩ <;> decide
  obtain ⟨hk256, hl1, hl2⟩ := hkb
  clear hkl
  have HO := hid ((hO.alloc (.cells (ics k l) 66)).row_nil 5 1)
  have HK := hid ((Keep.refl w).alloc (.cells (ics k l) 66))
  clear hO
  have HSZ := hid (ics_size k l)
  go_enter Try.func44, Try.ntmps44
  go_wp2_with fail
  generalize w.alloc (.cells (ics k l) 66) = w1 at *
  generalize w.heap.size = b0 at *
  go_loopw [4, 5] (fun s i w' => ∃ j : Nat, j ≤ 4 ∧ i = .int .i64 j ∧ Hid (Has w' (Bytes s (bodyB k l j) :: pt b0 (.cells (ics k l) 66) :: L)) ∧ Hid (Keep w w')) (fun _ i _ => 4 - (intOf i).toNat)
  case atStart => exact ⟨0, by omega, rfl, HO, HK⟩
  case round =>
    clear HO HK
    obtain ⟨j, hj, rfl, HO, HK⟩ := hrel
    by_cases hlt : j < 4
    · have hji : (j : Int) < 4 := by omega
      have hj0 : (0 : Int) ≤ (j : Int) := by omega
      obtain ⟨k', l', e1, e2, e3⟩ := bodyB_next k l HKL.out j
      have hkb : k' % 256 = k' ∧ l' / 256 % 256 = 0 ∧ l' % 256 = l' := by rcases e2 with ⟨rfl, rfl⟩ | ⟨rfl, rfl⟩ <;> decide
      obtain ⟨hk256, hl1, hl2⟩ := hkb
      have hkw : IntKind.u8.wrap k' = k' := by rcases e2 with ⟨rfl, rfl⟩ | ⟨rfl, rfl⟩ <;> decide
      have HI := hid e2
      have HB := hid e3
      have hcs : wr.cell? ⟨b0, j * 11, none⟩ = some (.int .i64 k') ∧ wr.cell? ⟨b0, j * 11 + 1, none⟩ = some (.int .i64 l') ∧ wr.cell? ⟨b0, j * 11 + 2, none⟩ = some (.int .i64 0) ∧ wr.cell? ⟨b0, j * 11 + 3, none⟩ = some (.int .i64 0) ∧ wr.cell? ⟨b0, j * 11 + 4, none⟩ = some (.int .i64 0) ∧ wr.cell? ⟨b0, j * 11 + 5, none⟩ = some (.int .i64 0) ∧ wr.cell? ⟨b0, j * 11 + 6, none⟩ = some (.int .i64 0) ∧ wr.cell? ⟨b0, j * 11 + 7, none⟩ = some (.int .i64 0) ∧ wr.cell? ⟨b0, j * 11 + 8, none⟩ = some (.int .i64 0) ∧ wr.cell? ⟨b0, j * 11 + 9, none⟩ = some (.int .i64 0) ∧ wr.cell? ⟨b0, j * 11 + 10, none⟩ = some (.int .i64 0) := by
        have h := HO.out.p1.cells
        rcases j with _ | _ | _ | _ | j
        · cases e1; exact ⟨h 0, h 1, h 2, h 3, h 4, h 5, h 6, h 7, h 8, h 9, h 10⟩
        · cases e1; exact ⟨h 11, h 12, h 13, h 14, h 15, h 16, h 17, h 18, h 19, h 20, h 21⟩
        · cases e1; exact ⟨h 22, h 23, h 24, h 25, h 26, h 27, h 28, h 29, h 30, h 31, h 32⟩
        · cases e1; exact ⟨h 33, h 34, h 35, h 36, h 37, h 38, h 39, h 40, h 41, h 42, h 43⟩
        · omega
      clear e1 e2 e3
      obtain ⟨c0, c1, c2, c3, c4, c5, c6, c7, c8, c9, c10⟩ := hcs
      have HA := hid (HO.out.alloc (.cells #[.int .i64 k', .int .i64 l', .int .i64 0, .int .i64 0, .int .i64 0, .int .i64 0, .int .i64 0, .int .i64 0, .int .i64 0, .int .i64 0, .int .i64 0] 65))
      have HKA := hid (HK.out.alloc (.cells #[.int .i64 k', .int .i64 l', .int .i64 0, .int .i64 0, .int .i64 0, .int .i64 0, .int .i64 0, .int .i64 0, .int .i64 0, .int .i64 0, .int .i64 0] 65))
      have HMY := hid (fun w' L (h : Has w' L) => r7MayX k' l' HI.out w' L h)
      unfold ino at HMY
      go_wp2_with fail
      refine (HMY.out _ _ HA.out).mono ?_
      rintro e w5 ⟨rfl, hO5, hK5⟩
      have HO5 := hid hO5
      have HK5 := hid ((HKA.out).trans hK5)
      clear hO5 hK5
      try dsimp only
      clear c0 c1 c2 c3 c4 c5 c6 c7 c8 c9 c10 HA HKA HMY HO HK
      generalize wr.heap.size = g at *
      generalize hB0 : bodyB k l j = B0 at *
      have HBL := hid (show B0.length = 23 * j by rw [← hB0, bodyB_len])
      clear hB0
      have hc := HO5.out.cells
      go_upto_region 8 with fail
      clear hc
      refine region_text (fun w' => w'.cell? ⟨g, 0, none⟩ = some (.int .i64 k') ∧ w'.cell? ⟨g, 1, none⟩ = some (.int .i64 l')) (by kernel_rfl) (by kernel_rfl) ⟨HO5.out.drew.cells 0, HO5.out.drew.cells 1⟩ ?_
      have HO6 := hid HO5.out.drew
      have HK6 := hid HK5.out.drew
      generalize w5.drew = w6 at *
      clear HO5 HK5
      repeat (first
        | (refine wpL_read (by rfl) (by rfl) ?_ ?_ ?_; rotate_left; (rintro w ⟨z0, z1⟩; go_simp; with_reducible rfl); simp only [Act.put, List.setIfInBounds_toArray, List.set_cons_zero, List.set_cons_succ]) | (refine wpL_skip (by rfl) ?_; simp only [Act.put, List.setIfInBounds_toArray, List.set_cons_zero, List.set_cons_succ]))
      refine wpL_act (by rfl) (by rfl) (fun K hK => ?_)
      go_simp
      have HO7 := hid (HO6.out.alloc (.cells #[.int .u8 k'] 5))
      have HK7 := hid (HK6.out.alloc (.cells #[.int .u8 k'] 5))
      refine hK.out _ _ (⟨HO7.out.p1.cells 0, HO7.out.p1.cells 1⟩) ?_
      clear hK K
      try simp only [Act.put, List.setIfInBounds_toArray, List.set_cons_zero, List.set_cons_succ]
      have HRD := hid (Bytes.rd (bytesLit [k'] HO7.out rfl (by show 1 ≤ 1000000000; omega)))
      have HB7 := hid (show Has _ (row u4 5 1 B0.length (bc B0) :: _) from HO7.out.p2)
      refine wpL_act (by rfl) (by rfl) (fun K hK => ?_)
      refine wp_appendA (.tmp 18) (.tmp 22) 35 rfl Try.underlying35 infoU8 rfl (by decide) HB7.out (by rfl) _ 1 (bc [k']) (by rfl) HRD.out (bc_one _) (le_maxLen (by rw [HBL.out]; omega)) (by rw [HBL.out]; omega) fun v8 w8 h8 hk8 => ?_
      have HO8 := hid (show Has w8 (Bytes v8 (B0 ++ [k']) :: pt g (.cells #[.int .i64 k', .int .i64 l', .int .i64 0, .int .i64 0, .int .i64 0, .int .i64 0, .int .i64 0, .int .i64 0, .int .i64 0, .int .i64 0, .int .i64 0] 65) :: pt b0 (.cells (ics k l) 66) :: L) from by
        unfold Bytes
        rw [List.length_append, show bc (B0 ++ [k']) = bc B0 ++ bc [k'] by simp [bc]]
        exact h8.re 4 [0, 2, 3])
      have HK8 := hid (HK7.out.trans hk8)
      clear h8 hk8 HO7 HK7 HRD HB7 HO6 HK6
      refine hK.out _ _ (⟨HO8.out.p1.cells 0, HO8.out.p1.cells 1⟩) ?_
      clear hK K
      try simp only [Act.put, List.setIfInBounds_toArray, List.set_cons_zero, List.set_cons_succ]
      repeat (first
        | (refine wpL_read (by rfl) (by rfl) ?_ ?_ ?_; rotate_left; (rintro w ⟨z0, z1⟩; go_simp; with_reducible rfl); simp only [Act.put, List.setIfInBounds_toArray, List.set_cons_zero, List.set_cons_succ]) | (refine wpL_skip (by rfl) ?_; simp only [Act.put, List.setIfInBounds_toArray, List.set_cons_zero, List.set_cons_succ]))
      refine wpL_act (by rfl) (by rfl) (fun K hK => ?_)
      go_simp
      refine (r7Two v8 (B0 ++ [k']) l' _ _ (by simp [HBL.out]; omega) HO8.out).mono ?_
      rintro e w9 ⟨v9, rfl, hO9, hK9⟩
      have HO9 := hid hO9
      have HK9 := hid ((HK8.out).trans hK9)
      clear hO9 hK9
      try dsimp only
      refine hK.out _ _ (⟨HO9.out.p1.cells 0, HO9.out.p1.cells 1⟩) ?_
      clear hK K
      try simp only [Act.put, List.setIfInBounds_toArray, List.set_cons_zero, List.set_cons_succ]
      repeat (first
        | (refine wpL_read (by rfl) (by rfl) ?_ ?_ ?_; rotate_left; (rintro w ⟨z0, z1⟩; go_simp; with_reducible rfl); simp only [Act.put, List.setIfInBounds_toArray, List.set_cons_zero, List.set_cons_succ]) | (refine wpL_skip (by rfl) ?_; simp only [Act.put, List.setIfInBounds_toArray, List.set_cons_zero, List.set_cons_succ]))
      refine wpL_nil ?_
      have HOa := hid (show Has w9 (Bytes v9 ((B0 ++ [k'] ++ [l' / 256 % 256, l' % 256]) ++ zs 0) :: pt g (.cells #[.int .i64 k', .int .i64 l', .int .i64 0, .int .i64 0, .int .i64 0, .int .i64 0, .int .i64 0, .int .i64 0, .int .i64 0, .int .i64 0, .int .i64 0] 65) :: pt b0 (.cells (ics k l) 66) :: L) from by
        rw [show zs 0 = [] from rfl, List.append_nil]; exact HO9.out)
      have HBE := hid (show B0 ++ [k'] ++ [l' / 256 % 256, l' % 256] ++ zs 20 = bodyB k l (j + 1) by
        rw [← HB.out, inoB]
        simp [fixL, hk256])
      have HCL := hid (show (B0 ++ [k'] ++ [l' / 256 % 256, l' % 256]).length ≤ 100 by simp [HBL.out]; omega)
      generalize B0 ++ [k'] ++ [l' / 256 % 256, l' % 256] = C0 at *
      clear HO8 HK8 HB HO9
      go_wp2_with fail
      refine region_text (fun w' => w'.cell? ⟨g, 2, none⟩ = some (.int .i64 0) ∧ True) (by kernel_rfl) (by kernel_rfl) ⟨HOa.out.drew.p1.cells 2, trivial⟩ ?_
      have HOb := hid HOa.out.drew
      have HKb := hid HK9.out.drew
      generalize w9.drew = wb at *
      clear HOa HK9
      have hband : Go.bits BinOp.and IntKind.i64 0 65535 = 0 := by decide
      repeat (first
        | (refine wpL_read (by rfl) (by rfl) ?_ ?_ ?_; rotate_left; (rintro w ⟨z0, z1⟩; go_simp; with_reducible rfl); simp only [Act.put, List.setIfInBounds_toArray, List.set_cons_zero, List.set_cons_succ]) | (refine wpL_skip (by rfl) ?_; simp only [Act.put, List.setIfInBounds_toArray, List.set_cons_zero, List.set_cons_succ]))
      refine wpL_act (by rfl) (by rfl) (fun K hK => ?_)
      go_simp
      refine (r7TwoZ _ C0 0 _ _ (by have := HCL.out; omega) HOb.out).mono ?_
      rintro e w10 ⟨v10, rfl, hO10, hK10⟩
      have HO10 := hid hO10
      have HK10 := hid ((HKb.out).trans hK10)
      clear hO10 hK10
      try dsimp only
      refine hK.out _ _ (⟨HO10.out.p1.cells 2, trivial⟩) ?_
      clear hK K
      try simp only [Act.put, List.setIfInBounds_toArray, List.set_cons_zero, List.set_cons_succ]
      repeat (first
        | (refine wpL_read (by rfl) (by rfl) ?_ ?_ ?_; rotate_left; (rintro w ⟨z0, z1⟩; go_simp; with_reducible rfl); simp only [Act.put, List.setIfInBounds_toArray, List.set_cons_zero, List.set_cons_succ]) | (refine wpL_skip (by rfl) ?_; simp only [Act.put, List.setIfInBounds_toArray, List.set_cons_zero, List.set_cons_succ]))
      refine wpL_act (by rfl) (by rfl) (fun K hK => ?_)
      go_simp
      refine (r7TwoZ _ C0 2 _ _ (by have := HCL.out; omega) HO10.out).mono ?_
      rintro e w11 ⟨v11, rfl, hO11, hK11⟩
      have HO11 := hid hO11
      have HK11 := hid ((HK10.out).trans hK11)
      clear hO11 hK11
      try dsimp only
      refine hK.out _ _ (⟨HO11.out.p1.cells 2, trivial⟩) ?_
      clear hK K
      try simp only [Act.put, List.setIfInBounds_toArray, List.set_cons_zero, List.set_cons_succ]
      repeat (first
        | (refine wpL_read (by rfl) (by rfl) ?_ ?_ ?_; rotate_left; (rintro w ⟨z0, z1⟩; go_simp; with_reducible rfl); simp only [Act.put, List.setIfInBounds_toArray, List.set_cons_zero, List.set_cons_succ]) | (refine wpL_skip (by rfl) ?_; simp only [Act.put, List.setIfInBounds_toArray, List.set_cons_zero, List.set_cons_succ]))
      refine wpL_nil ?_
      clear HO10 HK10 HOb HKb hband
      go_wp2_with fail
      go_loopw [4, 7] (fun s i w' => ∃ q : Nat, q ≤ 6 ∧ i = .int .i64 q ∧ Hid (Has w' (Bytes s (C0 ++ zs (4 + 2 * q)) :: pt g (.cells #[.int .i64 k', .int .i64 l', .int .i64 0, .int .i64 0, .int .i64 0, .int .i64 0, .int .i64 0, .int .i64 0, .int .i64 0, .int .i64 0, .int .i64 0] 65) :: pt b0 (.cells (ics k l) 66) :: L)) ∧ Hid (Keep w w')) (fun _ i _ => 6 - (intOf i).toNat)
      case atStart => exact ⟨0, by omega, rfl, HO11, HK11⟩
      case round =>
        clear HO11 HK11
        obtain ⟨q, hq, rfl, HO, HK⟩ := hrel
        by_cases hlq : q < 6
        · have hqi : (q : Int) < 6 := by omega
          have hq0 : (0 : Int) ≤ (q : Int) := by omega
          have hx := HO.out.p1.cells (3 + q)
          have hxv : (#[.int .i64 k', .int .i64 l', .int .i64 0, .int .i64 0, .int .i64 0, .int .i64 0, .int .i64 0, .int .i64 0, .int .i64 0, .int .i64 0, .int .i64 0] : Array Value)[3 + q]? = some (.int .i64 0) := by
            have : q = 0 ∨ q = 1 ∨ q = 2 ∨ q = 3 ∨ q = 4 ∨ q = 5 := by omega
            rcases this with rfl | rfl | rfl | rfl | rfl | rfl <;> rfl
          rw [hxv] at hx
          clear hxv
          go_wp2_with fail
          refine (r7TwoZ _ C0 (4 + 2 * q) _ _ (by have := HCL.out; omega) HO.out).mono ?_
          rintro e w12 ⟨v12, rfl, h12, k12⟩
          have HO12 := hid h12
          have HK12 := hid (HK.out.trans k12)
          clear h12 k12
          try dsimp only
          clear hx
          have HO13 := hid (show Has w12 (Bytes v12 (C0 ++ zs (4 + 2 * (q + 1))) :: pt g (.cells #[.int .i64 k', .int .i64 l', .int .i64 0, .int .i64 0, .int .i64 0, .int .i64 0, .int .i64 0, .int .i64 0, .int .i64 0, .int .i64 0, .int .i64 0] 65) :: pt b0 (.cells (ics k l) 66) :: L) from HO12.out)
          go_wp2_with fail
          exact ⟨⟨q + 1, by omega, rfl, HO13, HK12⟩, by simp [intOf]; omega⟩
        · obtain rfl : q = 6 := by omega
          clear hlq hq
          rw [show ((6 : Nat) : Int) = 6 from rfl]
          have HO14 := hid (show Has wr (Bytes u4 (C0 ++ zs 16) :: _) from HO.out)
          clear HO
          go_wp2_with fail
          refine region_text (fun w' => w'.cell? ⟨g, 9, none⟩ = some (.int .i64 0) ∧ w'.cell? ⟨g, 10, none⟩ = some (.int .i64 0)) (by kernel_rfl) (by kernel_rfl) ⟨HO14.out.drew.p1.cells 9, HO14.out.drew.p1.cells 10⟩ ?_
          have HO15 := hid HO14.out.drew
          have HK15 := hid HK.out.drew
          generalize wr.drew = w15 at *
          clear HO14 HK
          repeat (first
            | (refine wpL_read (by rfl) (by rfl) ?_ ?_ ?_; rotate_left; (rintro w ⟨z0, z1⟩; go_simp; with_reducible rfl); simp only [Act.put, List.setIfInBounds_toArray, List.set_cons_zero, List.set_cons_succ]) | (refine wpL_skip (by rfl) ?_; simp only [Act.put, List.setIfInBounds_toArray, List.set_cons_zero, List.set_cons_succ]))
          refine wpL_act (by rfl) (by rfl) (fun K hK => ?_)
          go_simp
          refine (r7TwoZ _ C0 16 _ _ (by have := HCL.out; omega) HO15.out).mono ?_
          rintro e w16 ⟨v16, rfl, hO16, hK16⟩
          have HO16 := hid hO16
          have HK16 := hid ((HK15.out).trans hK16)
          clear hO16 hK16
          try dsimp only
          refine hK.out _ _ (⟨HO16.out.p1.cells 9, HO16.out.p1.cells 10⟩) ?_
          clear hK K
          try simp only [Act.put, List.setIfInBounds_toArray, List.set_cons_zero, List.set_cons_succ]
          repeat (first
            | (refine wpL_read (by rfl) (by rfl) ?_ ?_ ?_; rotate_left; (rintro w ⟨z0, z1⟩; go_simp; with_reducible rfl); simp only [Act.put, List.setIfInBounds_toArray, List.set_cons_zero, List.set_cons_succ]) | (refine wpL_skip (by rfl) ?_; simp only [Act.put, List.setIfInBounds_toArray, List.set_cons_zero, List.set_cons_succ]))
          refine wpL_act (by rfl) (by rfl) (fun K hK => ?_)
          go_simp
          refine (r7TwoZ _ C0 18 _ _ (by have := HCL.out; omega) HO16.out).mono ?_
          rintro e w17 ⟨v17, rfl, hO17, hK17⟩
          have HO17 := hid hO17
          have HK17 := hid ((HK16.out).trans hK17)
          clear hO17 hK17
          try dsimp only
          refine hK.out _ _ (⟨HO17.out.p1.cells 9, HO17.out.p1.cells 10⟩) ?_
          clear hK K
          try simp only [Act.put, List.setIfInBounds_toArray, List.set_cons_zero, List.set_cons_succ]
          repeat (first
            | (refine wpL_read (by rfl) (by rfl) ?_ ?_ ?_; rotate_left; (rintro w ⟨z0, z1⟩; go_simp; with_reducible rfl); simp only [Act.put, List.setIfInBounds_toArray, List.set_cons_zero, List.set_cons_succ]) | (refine wpL_skip (by rfl) ?_; simp only [Act.put, List.setIfInBounds_toArray, List.set_cons_zero, List.set_cons_succ]))
          refine wpL_nil ?_
          have HO18 := hid (show Has w17 (Bytes v17 (bodyB k l (j + 1)) :: pt b0 (.cells (ics k l) 66) :: L) from by
            have h := HO17.out.p1.drop
            rwa [← HBE.out])
          clear HO15 HK15 HO16 HK16 HO17
          go_wp2_with fail
          exact ⟨⟨j + 1, by omega, rfl, HO18, HK17⟩, by simp [intOf]; omega⟩
    · obtain rfl : j = 4 := by omega
      clear hlt hj
      rw [show ((4 : Nat) : Int) = 4 from rfl]
      go_wp2_with fail
      refine (rSeal 73 u4 (bodyB k l 4) wr _ (by decide) (by rw [bodyB_len]; decide) (fun w' h => Bytes.rd h) HO.out).mono ?_
      rintro e w5 ⟨v5, rfl, hO5, hK5⟩
      have HO5 := hid hO5
      have HK5 := hid ((HK.out).trans hK5)
      clear hO5 hK5
      try dsimp only
      go_wp2_with fail
      go_ret2
      exact ⟨v5, rfl, HO5.out.p1.drop.p1.drop, HK5.out⟩
end Go.Proofs.Ytbggnbahmdgbdaa
/- A TEXT appended to a list of texts; two texts as a list. -/
namespace Go.Proofs.Ytbggnbahmdgbdaa
open Go.RowKit Go.Own
theorem Wrt.two {w : World} {L : List HP} {q : Nat} {u v : Value} {xs ys : List Int} (h : Has w (pt q (.cells #[u, v] 35) :: Bytes v ys :: Bytes u xs :: L)) : Has w (Wrt (.slice (some ⟨q, 0, none⟩) 2 2) [xs, ys] :: L) := by
  have h2 : Has w (Bytes u xs :: Bytes v ys :: pt q (.cells #[u, v] 35) :: L) := h.re 3 [2, 1, 0]
  have h3 : Has w (poolc 5 [] :: Bytes u xs :: Bytes v ys :: pt q (.cells #[u, v] 35) :: L) := h2.pool_nil
  have h4 : Has w (poolc 5 [(u, xs)] :: Bytes v ys :: pt q (.cells #[u, v] 35) :: L) := (h3.p1).pool_add
  have h5 : Has w (poolc 5 [(v, ys), (u, xs)] :: pt q (.cells #[u, v] 35) :: L) := (h4.p1).pool_add
  have h6 : Has w (row (.slice (some ⟨q, 0, none⟩) 2 2) 35 1 2 [u, v] :: poolc 5 [(v, ys), (u, xs)] :: L) := (h5.p1).row_of (Nat.le_refl _) (le_maxLen (by omega)) rfl rfl rfl
  exact wrt_iff.2 ⟨[(u, xs), (v, ys)], [(v, ys), (u, xs)], ⟨rfl, by simp⟩, h6⟩
theorem wpList_appendT {ops : Array Oper} {rest : List Oper} {o : Oper} {a : Act} {Q : Exit → Act → World → Prop} (hgd : o.guard = none) (s x : Operand)
    (ho : o.op = .call { callee := .builtin .append, args := #[s, x], argTypes := #[31, 31] })
    {w : World} {L : List HP} {q : Nat} {u v : Value} {xs : List Int} {T : List (List Int)} (hO : Has w (pt q (.cells #[u] 35) :: Bytes u xs :: Wrt v T :: L)) (hs : a.eval s = v) (hx : a.eval x = .slice (some ⟨q, 0, none⟩) 1 1) (hl : T.length ≤ 1000000)
    (h : ∀ v' w', Has w' (Wrt v' (T ++ [xs]) :: L) → Keep w w' → wpList Try.prog ops Q rest (a.put o.dst v') w') : wpList Try.prog ops Q (o :: rest) a w := by
  obtain ⟨R, B, ⟨rfl, hB⟩, h1⟩ := wrt_iff.1 hO.p2
  rw [List.length_map] at hl
  have hrd : Rd w (.slice (some ⟨q, 0, none⟩) 1 1) 1 1 [u] := (hO.row_of (n := 1) (cap := 1) (size := 1) (xs := [u]) (by omega) (le_maxLen (by omega)) rfl rfl rfl).rd
  refine wpList_appendA hgd s x 31 ho Try.underlying31 infoBs rfl (by decide) h1 hs _ 1 [u] hx hrd ?_ (le_maxLen (by omega)) (by omega) ?_
  · intro y hy
    obtain ⟨p, c, rfl, -⟩ := (Bytes.rd hO.p1).form
    rw [List.mem_singleton] at hy
    subst hy
    rfl
  · intro v' w' h2 hk
    have h3 : Has w' (row v' 35 1 (R.length + 1) (R.map (·.1) ++ [u]) :: poolc 5 B :: pt q (.cells #[u] 35) :: Bytes u xs :: L) := h2
    have h4 : Has w' (Bytes u xs :: poolc 5 B :: row v' 35 1 (R.length + 1) (R.map (·.1) ++ [u]) :: L) := h3.re 4 [3, 1, 0]
    have h5 : Has w' (row v' 35 1 (R.length + 1) (R.map (·.1) ++ [u]) :: poolc 5 ((u, xs) :: B) :: L) := h4.pool_add.p1
    refine h v' w' (wrt_iff.2 ⟨R ++ [(u, xs)], (u, xs) :: B, ⟨by simp, ?_⟩, ?_⟩) hk
    · intro y hy
      rcases List.mem_append.1 hy with hy | hy
      · exact List.mem_cons_of_mem _ (hB y hy)
      · rw [List.mem_singleton.1 hy]; exact List.mem_cons_self
    · simpa using h5
theorem wpList_buildZ {P : Program} {ops : Array Oper} {rest : List Oper} {o : Oper} {a : Act} {Q : Exit → Act → World → Prop} {w : World} (hgd : o.guard = none) (t n e s : Nat) (ho : o.op = .build t #[]) (C : Array Value) (hu : P.underlying t = some (.array n e)) (hsz : ∀ w, (sizeOf e).run P w = .ok s w) (hz : ∀ w, (zeroValue t).run P w = .ok (.agg C) w)
    (h : wpList P ops Q rest (a.put o.dst (.agg C)) w) : wpList P ops Q (o :: rest) a w := by
  refine wpList_plain hgd fun K hK => ?_
  unfold Oper.wp execOp
  simp only [ho, Instr.build, Array.map_empty, Value.cells, Sem.run_bind, Sem.run_pure, Result.andThen_ok, hz, run_underlying hu, hsz, Instr.fill]
  exact hK _ _ h
theorem take_snoc {T : List (List Int)} {i : Nat} {x : List Int} (h : T[i]? = some x) : T.take i ++ [x] = T.take (i + 1) := by
  obtain ⟨hi, rfl⟩ := List.getElem?_eq_some_iff.1 h
  rw [List.take_succ_eq_append_getElem hi]
end Go.Proofs.Ytbggnbahmdgbdaa
