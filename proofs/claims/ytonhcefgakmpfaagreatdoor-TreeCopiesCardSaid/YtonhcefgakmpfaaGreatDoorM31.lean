/- TEXTS of mine, merged. -/
import Derived.Test.YtonhcefgakmpfaaGreatDoorM30
import Derived.Test.YtonhcefgakmpfaaGreatDoorM27
import Derived.Test.YtonhcefgakmpfaaGreatDoorRows
import Derived.Lay
import Derived.LaidMore
import Derived.SevenTiedAt
import Derived.HandedShaped
import Derived.Shelf.Vars
import Derived.ProofKit
import Derived.OpenShut
import Derived.Stop.Joined
/- THE WALK of TreeCopies. -/
namespace Go.Proofs.YtonhcefgakmpfaaGreatDoor
open Go.RowKit Go.Own
set_option maxRecDepth 100000 in
set_option maxHeartbeats 16000000 in
theorem copiesWalk (mx : Int) (v0 : Value) (R0 : List Oq) (v1 : Value) (R1 : List Oq) (v2 : Value) (R2 : List Oq) (W : World) (hmx : W.cell? ⟨0, 0, none⟩ = some (.int .i64 mx)) (hR0 : RdOps W v0 R0) (hR1 : RdOps W v1 R1) (hR2 : RdOps W v2 R2) :
    Calls Tryz.prog 3 #[v0, v1, v2] W fun e w' => e = .returned (.bool true) ∧ Below W.heap.size W w' := by
  obtain ⟨vp0, vc0, rfl, hvc0, hvl0⟩ := hR0.form
  obtain ⟨vp1, vc1, rfl, hvc1, hvl1⟩ := hR1.form
  obtain ⟨vp2, vc2, rfl, hvc2, hvl2⟩ := hR2.form
  have HM := hid (mxStart hmx)
  have HR0 := hid (show ∀ w', Has w' [old W] → RdOps w' (.slice vp0 R0.length vc0) R0 from fun w' h => hR0.start h)
  have HR1 := hid (show ∀ w', Has w' [old W] → RdOps w' (.slice vp1 R1.length vc1) R1 from fun w' h => hR1.start h)
  have HR2 := hid (show ∀ w', Has w' [old W] → RdOps w' (.slice vp2 R2.length vc2) R2 from fun w' h => hR2.start h)
  have HW0 := hid hR0
  have HW1 := hid hR1
  have HW2 := hid hR2
  have HO := hid (Has.start W)
  have HT0 := hid gdx0
  clear hmx hR0 hR1 hR2
  go_enter Tryz.func3, Tryz.ntmps3
  go_wp2_with fail
  refine (greatOps (.slice vp0 R0.length vc0) R0 25 (by decide) W W [] HW0.out HO.out).mono ?_
  rintro e w1 ⟨rfl, hO1, hK1⟩
  have HO1 := hid hO1
  have HK1 := hid ((Keep.refl W).trans hK1)
  clear hO1 hK1
  try dsimp only
  clear HO
  cases hg0 : greatOpsM R0 25
  · have HGO0 := hid (greatOpsM_no hg0)
    have hR25 := HGO0.out.1
    have HGR0 := hid HGO0.out.2
    clear hg0 HGO0
    go_wp2_with fail
    refine (greatOps (.slice vp1 R1.length vc1) R1 15 (by decide) W w1 [] HW1.out HO1.out).mono ?_
    rintro e w2 ⟨rfl, hO2, hK2⟩
    have HO2 := hid hO2
    have HK2 := hid ((HK1.out).trans hK2)
    clear hO2 hK2
    try dsimp only
    clear HO1 HK1
    cases hg1 : greatOpsM R1 15
    · have HGO1 := hid (greatOpsM_no hg1)
      have hR15 := HGO1.out.1
      have HGR1 := hid HGO1.out.2
      clear hg1 HGO1
      go_wp2_with fail
      refine (greatOps (.slice vp2 R2.length vc2) R2 15 (by decide) W w2 [] HW2.out HO2.out).mono ?_
      rintro e w3 ⟨rfl, hO3, hK3⟩
      have HO3 := hid hO3
      have HK3 := hid ((HK2.out).trans hK3)
      clear hO3 hK3
      try dsimp only
      clear HO2 HK2
      cases hg2 : greatOpsM R2 15
      · have HGO2 := hid (greatOpsM_no hg2)
        have hR2l := HGO2.out.1
        have HGR2 := hid HGO2.out.2
        clear hg2 HGO2
        go_wp2_with fail
        refine (tNew w3 _ HO3.out).mono ?_
        rintro e w4 ⟨q, rfl, hO4, hK4⟩
        have HO4 := hid hO4
        have HK4 := hid ((HK3.out).trans hK4)
        clear hO4 hK4
        try dsimp only
        clear HO3 HK3
        go_wp2_with fail
        refine (tNew w4 _ HO4.out).mono ?_
        rintro e w5 ⟨u, rfl, hO5, hK5⟩
        have HO5 := hid hO5
        have HK5 := hid ((HK4.out).trans hK5)
        clear hO5 hK5
        try dsimp only
        clear HO4 HK4
        have HP5 := hid (HO5.out.re 2 [1, 0])
        clear HO5
        go_wp2_with fail
        go_loopw [9] (fun i w => ∃ (k : Nat) (w0 : World), w0 = w ∧ k ≤ R0.length ∧ i = .int .i64 k ∧ Hid (Has w0 (Trc q (runM tre0 (R0.take k)) :: Trc u (runM tre0 (R0.take k)) :: [old W])) ∧ Hid (Keep W w0)) (fun i _ => R0.length - (intOf i).toNat)
        case atStart => exact ⟨0, _, rfl, by omega, rfl, HP5, HK5⟩
        case round =>
          clear HP5 HK5
          obtain ⟨k, w0, rfl, hk, rfl, HOw, HKw⟩ := hrel
          by_cases hlt : k < R0.length
          · have hki : (k : Int) < (R0.length : Int) := by omega
            have hk0 : (0 : Int) ≤ (k : Int) := by omega
            obtain ⟨g, o, c, pp, mm, hv, hdv, c0, c1, c2, c3, c4, c5, c6, c7⟩ := (HR0.out _ (HOw.out.drop.drop)).eight k hlt
            simp only [Value.slice.injEq] at hv
            obtain ⟨rfl, -, rfl⟩ := hv
            have hrd0 := (HR0.out _ (HOw.out.drop.drop)).2 _ (List.getElem_mem hlt)
            obtain ⟨yy, hyy⟩ : ∃ yy, R0[k] = yy := ⟨_, rfl⟩
            rw [hyy] at hdv c0 c1 c2 c3 c4 c5 c6 c7 hrd0
            have HRD := hid (show ∀ w', Has w' [old W] → Rd w' (.slice pp yy.data.length mm) 1 yy.data.length (bc yy.data) from fun w' h => by
              have := (HR0.out _ h).2 R0[k] (List.getElem_mem hlt)
              rw [hyy] at this
              have h2 := this.1
              rw [hdv] at h2
              exact h2)
            have HCL := hid (show ∀ w', Has w' [old W] → w'.cell? ⟨g, o + k * 8, none⟩ = some (.int .i64 yy.op.kind) ∧ w'.cell? ⟨g, o + k * 8 + 1, none⟩ = some (.int .i64 yy.op.fd) ∧ w'.cell? ⟨g, o + k * 8 + 2, none⟩ = some (.int .i64 yy.op.n) ∧ w'.cell? ⟨g, o + k * 8 + 3, none⟩ = some (.int .i64 yy.op.off) ∧ w'.cell? ⟨g, o + k * 8 + 4, none⟩ = some (.int .i64 yy.op.flags) ∧ w'.cell? ⟨g, o + k * 8 + 5, none⟩ = some (sV yy.op.path) ∧ w'.cell? ⟨g, o + k * 8 + 6, none⟩ = some (sV yy.op.dest) ∧ w'.cell? ⟨g, o + k * 8 + 7, none⟩ = some (.slice pp yy.data.length mm) from fun w' h => by
              obtain ⟨g', o', c', pp', mm', hv', hdv', c0', c1', c2', c3', c4', c5', c6', c7'⟩ := (HR0.out _ h).eight k hlt
              simp only [Value.slice.injEq, Option.some.injEq, Addr.mk.injEq] at hv'
              obtain ⟨⟨rfl, rfl, -⟩, -, rfl⟩ := hv'
              rw [hyy] at hdv' c0' c1' c2' c3' c4' c5' c6' c7'
              rw [hdv] at hdv'
              simp only [Value.slice.injEq, true_and] at hdv'
              obtain ⟨rfl, rfl⟩ := hdv'
              exact ⟨c0', c1', c2', c3', c4', c5', c6', c7'⟩)
            have HYY := hid hyy
            have HW := hid hrd0.2
            clear hyy hdv hrd0
            have hgy : greatM yy = false := by rw [← HYY.out]; exact HGR0.out _ (List.getElem_mem hlt)
            have HGY := hid hgy
            have HTK := hid (show runM tre0 (R0.take (k + 1)) = ((runM tre0 (R0.take k)).doM yy.op yy.data).2 from by rw [runM_take _ _ _ hlt, HYY.out])
            have HGK := hid (runGd HT0.out HGR0.out k (by omega))
            clear hgy HYY
            obtain ⟨Sk, hSk⟩ : ∃ Sk, runM tre0 (R0.take k) = Sk := ⟨_, rfl⟩
            rw [hSk] at HOw HTK HGK
            clear hSk
            obtain ⟨an, S', hans⟩ : ∃ an S', Sk.doM yy.op yy.data = (an, S') := ⟨_, _, rfl⟩
            have HAN := hid hans
            rw [hans] at HTK
            dsimp only at HTK
            clear hans
            go_upto_region 9 with fail
            have HOd := hid HOw.out.drew
            have HKd := hid HKw.out.drew
            clear HOw HKw c0 c1 c2 c3 c4 c5 c6 c7
            refine region_text (fun w' => w'.cell? ⟨g, o + k * 8, none⟩ = some (.int .i64 yy.op.kind) ∧ w'.cell? ⟨g, o + k * 8 + 1, none⟩ = some (.int .i64 yy.op.fd) ∧ w'.cell? ⟨g, o + k * 8 + 2, none⟩ = some (.int .i64 yy.op.n) ∧ w'.cell? ⟨g, o + k * 8 + 3, none⟩ = some (.int .i64 yy.op.off) ∧ w'.cell? ⟨g, o + k * 8 + 4, none⟩ = some (.int .i64 yy.op.flags) ∧ w'.cell? ⟨g, o + k * 8 + 5, none⟩ = some (sV yy.op.path) ∧ w'.cell? ⟨g, o + k * 8 + 6, none⟩ = some (sV yy.op.dest) ∧ w'.cell? ⟨g, o + k * 8 + 7, none⟩ = some (.slice pp yy.data.length mm)) (by kernel_rfl) (by kernel_rfl) (HCL.out _ (HOd.out.drop.drop)) ?_
            repeat (first
              | (refine wpL_read (by rfl) (by rfl) ?_ ?_ ?_; rotate_left; (rintro w ⟨z0, z1, z2, z3, z4, z5, z6, z7⟩; go_simp; with_reducible rfl); simp only [Act.put, List.setIfInBounds_toArray, List.set_cons_zero, List.set_cons_succ]) | (refine wpL_skip (by rfl) ?_; simp only [Act.put, List.setIfInBounds_toArray, List.set_cons_zero, List.set_cons_succ]))
            refine wpL_act (by rfl) (by rfl) (fun K hK => ?_)
            go_simp
            refine (stepOqA q mx w0.drew _ HGK.out (by omega) ((HM.out.cons _)) yy pp mm HGY.out HW.out (fun w' h => HRD.out w' (h.drop)) an S' HAN.out HOd.out).mono ?_
            rintro e w41 ⟨a41, ca41, b41, cb41, rfl, hO41, hK41⟩
            have HO41 := hid hO41
            have HK41 := hid ((HKd.out).trans hK41)
            clear hO41 hK41
            try dsimp only
            refine hK.out _ _ ((HCL.out _ (HO41.out.drop.drop.drop.drop))) ?_
            clear hK K
            try simp only [Act.put, List.setIfInBounds_toArray, List.set_cons_zero, List.set_cons_succ]
            clear HOd HKd
            repeat (first
              | (refine wpL_read (by rfl) (by rfl) ?_ ?_ ?_; rotate_left; (rintro w ⟨z0, z1, z2, z3, z4, z5, z6, z7⟩; go_simp; with_reducible rfl); simp only [Act.put, List.setIfInBounds_toArray, List.set_cons_zero, List.set_cons_succ]) | (refine wpL_skip (by rfl) ?_; simp only [Act.put, List.setIfInBounds_toArray, List.set_cons_zero, List.set_cons_succ]))
            refine wpL_act (by rfl) (by rfl) (fun K hK => ?_)
            go_simp
            refine (stepOqA u mx w41 _ HGK.out (by omega) ((((HM.out.cons _).cons _).cons _)) yy pp mm HGY.out HW.out (fun w' h => HRD.out w' (h.drop.drop.drop)) an S' HAN.out (HO41.out.re 4 [3, 0, 1, 2])).mono ?_
            rintro e w42 ⟨a42, ca42, b42, cb42, rfl, hO42, hK42⟩
            have HO42 := hid hO42
            have HK42 := hid ((HK41.out).trans hK42)
            clear hO42 hK42
            try dsimp only
            refine hK.out _ _ ((HCL.out _ (HO42.out.drop.drop.drop.drop.drop.drop))) ?_
            clear hK K
            try simp only [Act.put, List.setIfInBounds_toArray, List.set_cons_zero, List.set_cons_succ]
            clear HO41 HK41
            repeat (first
              | (refine wpL_read (by rfl) (by rfl) ?_ ?_ ?_; rotate_left; (rintro w ⟨z0, z1, z2, z3, z4, z5, z6, z7⟩; go_simp; with_reducible rfl); simp only [Act.put, List.setIfInBounds_toArray, List.set_cons_zero, List.set_cons_succ]) | (refine wpL_skip (by rfl) ?_; simp only [Act.put, List.setIfInBounds_toArray, List.set_cons_zero, List.set_cons_succ]))
            refine wpL_act (by rfl) (by rfl) (fun K hK => ?_)
            go_simp
            refine (answerYes an a41 ca41 b41 cb41 a42 ca42 b42 cb42 w42 _ HO42.out (Bytes.rd HO42.out.p3) (Bytes.rd HO42.out) (Strs.rd HO42.out.p4) (Strs.rd HO42.out.p1)).mono ?_
            rintro e w43 ⟨rfl, hO43, hK43⟩
            have HO43 := hid hO43
            have HK43 := hid ((HK42.out).trans hK43)
            clear hO43 hK43
            try dsimp only
            refine hK.out _ _ ((HCL.out _ (HO43.out.drop.drop.drop.drop.drop.drop))) ?_
            clear hK K
            try simp only [Act.put, List.setIfInBounds_toArray, List.set_cons_zero, List.set_cons_succ]
            clear HO42 HK42
            repeat (first
              | (refine wpL_read (by rfl) (by rfl) ?_ ?_ ?_; rotate_left; (rintro w ⟨z0, z1, z2, z3, z4, z5, z6, z7⟩; go_simp; with_reducible rfl); simp only [Act.put, List.setIfInBounds_toArray, List.set_cons_zero, List.set_cons_succ]) | (refine wpL_skip (by rfl) ?_; simp only [Act.put, List.setIfInBounds_toArray, List.set_cons_zero, List.set_cons_succ]))
            refine wpL_nil ?_
            go_wp2_with fail
            go_roundw
            case rel => exact ⟨k + 1, _, rfl, by omega, by go_num, hid (by rw [HTK.out]; exact HO43.out.re 6 [5, 2]), HK43⟩
            case measure => simp [intOf]; omega
          · obtain rfl : k = R0.length := by omega
            have hki : ¬ (R0.length : Int) < (R0.length : Int) := by omega
            have HOr := hid HOw.out
            rw [List.take_length] at HOr
            clear HOw
            have HG0 := hid (gdRun HGR0.out)
            obtain ⟨S, hS⟩ : ∃ S, runM tre0 R0 = S := ⟨_, rfl⟩
            rw [hS] at HOr HG0
            clear hS
            go_wp2_with fail
            refine (stepCopy q w0 _ HG0.out (by omega) HOr.out).mono ?_
            rintro e w7 ⟨c, rfl, hO7, hK7⟩
            have HO7 := hid hO7
            have HK7 := hid ((HKw.out).trans hK7)
            clear hO7 hK7
            try dsimp only
            clear HOr HKw
            have HP7 := hid (HO7.out.re 2 [1, 0])
            clear HO7
            go_wp2_with fail
            go_loopw [11] (fun i w => ∃ (k : Nat) (w0 : World), w0 = w ∧ k ≤ R1.length ∧ i = .int .i64 k ∧ Hid (Has w0 (Trc q (runM S (R1.take k)) :: Trc c S :: Trc u S :: [old W])) ∧ Hid (Keep W w0)) (fun i _ => R1.length - (intOf i).toNat)
            case atStart => exact ⟨0, _, rfl, by omega, rfl, HP7, HK7⟩
            case round =>
              clear HP7 HK7
              obtain ⟨k, w0, rfl, hk, rfl, HOw, HKw⟩ := hrel
              by_cases hlt : k < R1.length
              · have hki : (k : Int) < (R1.length : Int) := by omega
                have hk0 : (0 : Int) ≤ (k : Int) := by omega
                obtain ⟨g, o, c, pp, mm, hv, hdv, c0, c1, c2, c3, c4, c5, c6, c7⟩ := (HR1.out _ (HOw.out.drop.drop.drop)).eight k hlt
                simp only [Value.slice.injEq] at hv
                obtain ⟨rfl, -, rfl⟩ := hv
                have hrd0 := (HR1.out _ (HOw.out.drop.drop.drop)).2 _ (List.getElem_mem hlt)
                obtain ⟨yy, hyy⟩ : ∃ yy, R1[k] = yy := ⟨_, rfl⟩
                rw [hyy] at hdv c0 c1 c2 c3 c4 c5 c6 c7 hrd0
                have HRD := hid (show ∀ w', Has w' [old W] → Rd w' (.slice pp yy.data.length mm) 1 yy.data.length (bc yy.data) from fun w' h => by
                  have := (HR1.out _ h).2 R1[k] (List.getElem_mem hlt)
                  rw [hyy] at this
                  have h2 := this.1
                  rw [hdv] at h2
                  exact h2)
                have HCL := hid (show ∀ w', Has w' [old W] → w'.cell? ⟨g, o + k * 8, none⟩ = some (.int .i64 yy.op.kind) ∧ w'.cell? ⟨g, o + k * 8 + 1, none⟩ = some (.int .i64 yy.op.fd) ∧ w'.cell? ⟨g, o + k * 8 + 2, none⟩ = some (.int .i64 yy.op.n) ∧ w'.cell? ⟨g, o + k * 8 + 3, none⟩ = some (.int .i64 yy.op.off) ∧ w'.cell? ⟨g, o + k * 8 + 4, none⟩ = some (.int .i64 yy.op.flags) ∧ w'.cell? ⟨g, o + k * 8 + 5, none⟩ = some (sV yy.op.path) ∧ w'.cell? ⟨g, o + k * 8 + 6, none⟩ = some (sV yy.op.dest) ∧ w'.cell? ⟨g, o + k * 8 + 7, none⟩ = some (.slice pp yy.data.length mm) from fun w' h => by
                  obtain ⟨g', o', c', pp', mm', hv', hdv', c0', c1', c2', c3', c4', c5', c6', c7'⟩ := (HR1.out _ h).eight k hlt
                  simp only [Value.slice.injEq, Option.some.injEq, Addr.mk.injEq] at hv'
                  obtain ⟨⟨rfl, rfl, -⟩, -, rfl⟩ := hv'
                  rw [hyy] at hdv' c0' c1' c2' c3' c4' c5' c6' c7'
                  rw [hdv] at hdv'
                  simp only [Value.slice.injEq, true_and] at hdv'
                  obtain ⟨rfl, rfl⟩ := hdv'
                  exact ⟨c0', c1', c2', c3', c4', c5', c6', c7'⟩)
                have HYY := hid hyy
                have HW := hid hrd0.2
                clear hyy hdv hrd0
                go_wp2_with fail
                refine (loopAtG HG0.out (by omega) q mx w0 _ HGR1.out hlt (by omega) (((HM.out.cons _).cons _)) yy HYY.out pp mm HW.out (fun w' h => HRD.out w' (h.drop.drop)) HOw.out).mono ?_
                rintro e w41 ⟨v41, rfl, hO41, hK41⟩
                have HO41 := hid hO41
                have HK41 := hid ((HKw.out).trans hK41)
                clear hO41 hK41
                try dsimp only
                clear HOw HKw c0 c1 c2 c3 c4 c5 c6 c7 HRD HYY HW HCL
                go_wp2_with fail
                go_roundw
                case rel => exact ⟨k + 1, _, rfl, by omega, by go_num, HO41, HK41⟩
                case measure => simp [intOf]; omega
              · obtain rfl : k = R1.length := by omega
                have hki : ¬ (R1.length : Int) < (R1.length : Int) := by omega
                have HOr := hid HOw.out
                rw [List.take_length] at HOr
                clear HOw
                have HG1 := hid (runGd HG0.out HGR1.out R1.length (Nat.le_refl _))
                rw [List.take_length] at HG1
                obtain ⟨S1, hS1⟩ : ∃ S1, runM S R1 = S1 := ⟨_, rfl⟩
                rw [hS1] at HOr HG1
                clear hS1
                -- Trc q S1 :: Trc c S :: Trc u S :: [old W]
                go_wp2_with fail
                refine (stepNodes' c w0 _ HG0.out (by omega) (HOr.out.re 2 [1, 0])).mono ?_
                rintro e w8 ⟨p8, c8, os8, rfl, hp8, hs8, hO8, hK8⟩
                have HO8 := hid hO8
                have HK8 := hid ((HKw.out).trans hK8)
                clear hO8 hK8
                try dsimp only
                have HPU := hid hp8
                have HSU := hid hs8
                clear hp8 hs8 HOr HKw
                go_wp2_with fail
                refine (stepNodes' u w8 _ HG0.out (by omega) (HO8.out.re 4 [3, 0, 1, 2])).mono ?_
                rintro e w9 ⟨p9, c9, os9, rfl, hp9, hs9, hO9, hK9⟩
                have HO9 := hid hO9
                have HK9 := hid ((HK8.out).trans hK9)
                clear hO9 hK9
                try dsimp only
                have HPT := hid (keysOne HG0.out HPU.out hp9 HSU.out hs9)
                clear hp9 hs9 HO8 HK8 HPU HSU
                go_wp2_with fail
                refine (nodesYes _ _ os8 os9 w9 (rdNs_of (HO9.out.re 3 [2])) (rdNs_of HO9.out) HPT.out).mono ?_
                rintro e w' ⟨rfl, nq10, rfl⟩
                have HO10 := hid ((HO9.out).drewN nq10)
                have HK10 := hid ((HK9.out).drewN nq10)
                try dsimp only
                clear HO9 HK9 HPT
                generalize w9.drewN nq10 = w10 at *
                -- Sns9, Trc u, Sns8, Trc c, Trc q
                go_wp2_with fail
                refine (stepNodes' q w10 _ HG1.out (by omega) (show Has w10 (Trc q S1 :: Trc c S :: Trc u S :: [old W]) from HO10.out.re 5 [4, 3, 1])).mono ?_
                rintro e w11 ⟨p11, c11, osw, rfl, hp11, hs11, hO11, hK11⟩
                have HO11 := hid hO11
                have HK11 := hid ((HK10.out).trans hK11)
                clear hO11 hK11
                try dsimp only
                have HPS := hid hp11
                have HSS := hid hs11
                clear hp11 hs11 HO10 HK10
                have HP11 := hid (HO11.out.re 4 [2, 3, 0, 1])
                clear HO11
                go_wp2_with fail
                go_loopw [13] (fun i w => ∃ (k : Nat) (w0 : World), w0 = w ∧ k ≤ R2.length ∧ i = .int .i64 k ∧ Hid (Has w0 (Trc c (runM S (R2.take k)) :: Trc u (runM S (R2.take k)) :: Sns (.slice p11 osw.length c11) osw :: Trc q S1 :: [old W])) ∧ Hid (Keep W w0)) (fun i _ => R2.length - (intOf i).toNat)
                case atStart => exact ⟨0, _, rfl, by omega, rfl, HP11, HK11⟩
                case round =>
                  clear HP11 HK11
                  obtain ⟨k, w0, rfl, hk, rfl, HOw, HKw⟩ := hrel
                  by_cases hlt : k < R2.length
                  · have hki : (k : Int) < (R2.length : Int) := by omega
                    have hk0 : (0 : Int) ≤ (k : Int) := by omega
                    obtain ⟨g, o, c, pp, mm, hv, hdv, c0, c1, c2, c3, c4, c5, c6, c7⟩ := (HR2.out _ (HOw.out.drop.drop.drop.drop)).eight k hlt
                    simp only [Value.slice.injEq] at hv
                    obtain ⟨rfl, -, rfl⟩ := hv
                    have hrd0 := (HR2.out _ (HOw.out.drop.drop.drop.drop)).2 _ (List.getElem_mem hlt)
                    obtain ⟨yy, hyy⟩ : ∃ yy, R2[k] = yy := ⟨_, rfl⟩
                    rw [hyy] at hdv c0 c1 c2 c3 c4 c5 c6 c7 hrd0
                    have HRD := hid (show ∀ w', Has w' [old W] → Rd w' (.slice pp yy.data.length mm) 1 yy.data.length (bc yy.data) from fun w' h => by
                      have := (HR2.out _ h).2 R2[k] (List.getElem_mem hlt)
                      rw [hyy] at this
                      have h2 := this.1
                      rw [hdv] at h2
                      exact h2)
                    have HCL := hid (show ∀ w', Has w' [old W] → w'.cell? ⟨g, o + k * 8, none⟩ = some (.int .i64 yy.op.kind) ∧ w'.cell? ⟨g, o + k * 8 + 1, none⟩ = some (.int .i64 yy.op.fd) ∧ w'.cell? ⟨g, o + k * 8 + 2, none⟩ = some (.int .i64 yy.op.n) ∧ w'.cell? ⟨g, o + k * 8 + 3, none⟩ = some (.int .i64 yy.op.off) ∧ w'.cell? ⟨g, o + k * 8 + 4, none⟩ = some (.int .i64 yy.op.flags) ∧ w'.cell? ⟨g, o + k * 8 + 5, none⟩ = some (sV yy.op.path) ∧ w'.cell? ⟨g, o + k * 8 + 6, none⟩ = some (sV yy.op.dest) ∧ w'.cell? ⟨g, o + k * 8 + 7, none⟩ = some (.slice pp yy.data.length mm) from fun w' h => by
                      obtain ⟨g', o', c', pp', mm', hv', hdv', c0', c1', c2', c3', c4', c5', c6', c7'⟩ := (HR2.out _ h).eight k hlt
                      simp only [Value.slice.injEq, Option.some.injEq, Addr.mk.injEq] at hv'
                      obtain ⟨⟨rfl, rfl, -⟩, -, rfl⟩ := hv'
                      rw [hyy] at hdv' c0' c1' c2' c3' c4' c5' c6' c7'
                      rw [hdv] at hdv'
                      simp only [Value.slice.injEq, true_and] at hdv'
                      obtain ⟨rfl, rfl⟩ := hdv'
                      exact ⟨c0', c1', c2', c3', c4', c5', c6', c7'⟩)
                    have HYY := hid hyy
                    have HW := hid hrd0.2
                    clear hyy hdv hrd0
                    have hgy : greatM yy = false := by rw [← HYY.out]; exact HGR2.out _ (List.getElem_mem hlt)
                    have HGY := hid hgy
                    have HTK := hid (show runM S (R2.take (k + 1)) = ((runM S (R2.take k)).doM yy.op yy.data).2 from by rw [runM_take _ _ _ hlt, HYY.out])
                    have HGK := hid (runGd HG0.out HGR2.out k (by omega))
                    clear hgy HYY
                    obtain ⟨Sk, hSk⟩ : ∃ Sk, runM S (R2.take k) = Sk := ⟨_, rfl⟩
                    rw [hSk] at HOw HTK HGK
                    clear hSk
                    obtain ⟨an, S', hans⟩ : ∃ an S', Sk.doM yy.op yy.data = (an, S') := ⟨_, _, rfl⟩
                    have HAN := hid hans
                    rw [hans] at HTK
                    dsimp only at HTK
                    clear hans
                    go_upto_region 24 with fail
                    have HOd := hid HOw.out.drew
                    have HKd := hid HKw.out.drew
                    clear HOw HKw c0 c1 c2 c3 c4 c5 c6 c7
                    refine region_text (fun w' => w'.cell? ⟨g, o + k * 8, none⟩ = some (.int .i64 yy.op.kind) ∧ w'.cell? ⟨g, o + k * 8 + 1, none⟩ = some (.int .i64 yy.op.fd) ∧ w'.cell? ⟨g, o + k * 8 + 2, none⟩ = some (.int .i64 yy.op.n) ∧ w'.cell? ⟨g, o + k * 8 + 3, none⟩ = some (.int .i64 yy.op.off) ∧ w'.cell? ⟨g, o + k * 8 + 4, none⟩ = some (.int .i64 yy.op.flags) ∧ w'.cell? ⟨g, o + k * 8 + 5, none⟩ = some (sV yy.op.path) ∧ w'.cell? ⟨g, o + k * 8 + 6, none⟩ = some (sV yy.op.dest) ∧ w'.cell? ⟨g, o + k * 8 + 7, none⟩ = some (.slice pp yy.data.length mm)) (by kernel_rfl) (by kernel_rfl) (HCL.out _ (HOd.out.drop.drop.drop.drop)) ?_
                    repeat (first
                      | (refine wpL_read (by rfl) (by rfl) ?_ ?_ ?_; rotate_left; (rintro w ⟨z0, z1, z2, z3, z4, z5, z6, z7⟩; go_simp; with_reducible rfl); simp only [Act.put, List.setIfInBounds_toArray, List.set_cons_zero, List.set_cons_succ]) | (refine wpL_skip (by rfl) ?_; simp only [Act.put, List.setIfInBounds_toArray, List.set_cons_zero, List.set_cons_succ]))
                    refine wpL_act (by rfl) (by rfl) (fun K hK => ?_)
                    go_simp
                    refine (stepOqA c mx w0.drew _ HGK.out (by omega) ((((HM.out.cons _).cons _).cons _)) yy pp mm HGY.out HW.out (fun w' h => HRD.out w' (h.drop.drop.drop)) an S' HAN.out HOd.out).mono ?_
                    rintro e w41 ⟨a41, ca41, b41, cb41, rfl, hO41, hK41⟩
                    have HO41 := hid hO41
                    have HK41 := hid ((HKd.out).trans hK41)
                    clear hO41 hK41
                    try dsimp only
                    refine hK.out _ _ ((HCL.out _ (HO41.out.drop.drop.drop.drop.drop.drop))) ?_
                    clear hK K
                    try simp only [Act.put, List.setIfInBounds_toArray, List.set_cons_zero, List.set_cons_succ]
                    clear HOd HKd
                    repeat (first
                      | (refine wpL_read (by rfl) (by rfl) ?_ ?_ ?_; rotate_left; (rintro w ⟨z0, z1, z2, z3, z4, z5, z6, z7⟩; go_simp; with_reducible rfl); simp only [Act.put, List.setIfInBounds_toArray, List.set_cons_zero, List.set_cons_succ]) | (refine wpL_skip (by rfl) ?_; simp only [Act.put, List.setIfInBounds_toArray, List.set_cons_zero, List.set_cons_succ]))
                    refine wpL_act (by rfl) (by rfl) (fun K hK => ?_)
                    go_simp
                    refine (stepOqA u mx w41 _ HGK.out (by omega) ((((((HM.out.cons _).cons _).cons _).cons _).cons _)) yy pp mm HGY.out HW.out (fun w' h => HRD.out w' (h.drop.drop.drop.drop.drop)) an S' HAN.out (HO41.out.re 4 [3, 0, 1, 2])).mono ?_
                    rintro e w42 ⟨a42, ca42, b42, cb42, rfl, hO42, hK42⟩
                    have HO42 := hid hO42
                    have HK42 := hid ((HK41.out).trans hK42)
                    clear hO42 hK42
                    try dsimp only
                    refine hK.out _ _ ((HCL.out _ (HO42.out.drop.drop.drop.drop.drop.drop.drop.drop))) ?_
                    clear hK K
                    try simp only [Act.put, List.setIfInBounds_toArray, List.set_cons_zero, List.set_cons_succ]
                    clear HO41 HK41
                    repeat (first
                      | (refine wpL_read (by rfl) (by rfl) ?_ ?_ ?_; rotate_left; (rintro w ⟨z0, z1, z2, z3, z4, z5, z6, z7⟩; go_simp; with_reducible rfl); simp only [Act.put, List.setIfInBounds_toArray, List.set_cons_zero, List.set_cons_succ]) | (refine wpL_skip (by rfl) ?_; simp only [Act.put, List.setIfInBounds_toArray, List.set_cons_zero, List.set_cons_succ]))
                    refine wpL_act (by rfl) (by rfl) (fun K hK => ?_)
                    go_simp
                    refine (answerYes an a41 ca41 b41 cb41 a42 ca42 b42 cb42 w42 _ HO42.out (Bytes.rd HO42.out.p3) (Bytes.rd HO42.out) (Strs.rd HO42.out.p4) (Strs.rd HO42.out.p1)).mono ?_
                    rintro e w43 ⟨rfl, hO43, hK43⟩
                    have HO43 := hid hO43
                    have HK43 := hid ((HK42.out).trans hK43)
                    clear hO43 hK43
                    try dsimp only
                    refine hK.out _ _ ((HCL.out _ (HO43.out.drop.drop.drop.drop.drop.drop.drop.drop))) ?_
                    clear hK K
                    try simp only [Act.put, List.setIfInBounds_toArray, List.set_cons_zero, List.set_cons_succ]
                    clear HO42 HK42
                    repeat (first
                      | (refine wpL_read (by rfl) (by rfl) ?_ ?_ ?_; rotate_left; (rintro w ⟨z0, z1, z2, z3, z4, z5, z6, z7⟩; go_simp; with_reducible rfl); simp only [Act.put, List.setIfInBounds_toArray, List.set_cons_zero, List.set_cons_succ]) | (refine wpL_skip (by rfl) ?_; simp only [Act.put, List.setIfInBounds_toArray, List.set_cons_zero, List.set_cons_succ]))
                    refine wpL_nil ?_
                    go_wp2_with fail
                    go_roundw
                    case rel => exact ⟨k + 1, _, rfl, by omega, by go_num, hid (by rw [HTK.out]; exact HO43.out.re 6 [5, 2]), HK43⟩
                    case measure => simp [intOf]; omega
                  · obtain rfl : k = R2.length := by omega
                    have hki : ¬ (R2.length : Int) < (R2.length : Int) := by omega
                    have HOr := hid HOw.out
                    rw [List.take_length] at HOr
                    clear HOw
                    have HGC := hid (runGd HG0.out HGR2.out R2.length (Nat.le_refl _))
                    rw [List.take_length] at HGC
                    obtain ⟨S2, hS2⟩ : ∃ S2, runM S R2 = S2 := ⟨_, rfl⟩
                    rw [hS2] at HOr HGC
                    clear hS2
                    go_wp2_with fail
                    refine (stepNeed c w0 _ HGC.out (by omega) HOr.out).mono ?_
                    rintro e w12 ⟨rfl, hO12, hK12⟩
                    have HO12 := hid hO12
                    have HK12 := hid ((HKw.out).trans hK12)
                    clear hO12 hK12
                    try dsimp only
                    clear HOr HKw
                    go_wp2_with fail
                    refine (stepNeed u w12 _ HGC.out (by omega) (HO12.out.re 2 [1, 0])).mono ?_
                    rintro e w13 ⟨rfl, hO13, hK13⟩
                    have HO13 := hid hO13
                    have HK13 := hid ((HK12.out).trans hK13)
                    clear hO13 hK13
                    try dsimp only
                    clear HO12 HK12
                    generalize needSumG S2.nodes = nd at *
                    generalize (S2.nodes.length : Int) = nl at *
                    have hnd : (nd == nd) = true := by simp
                    have hnl : (nl == nl) = true := by simp
                    -- Trc u S2 :: Trc c S2 :: Sns ws os :: Trc q S1 :: [old W]
                    go_wp2_with fail
                    refine (stepNodes' q w13 _ HG1.out (by omega) (HO13.out.re 4 [3, 0, 1, 2])).mono ?_
                    rintro e w14 ⟨p14, c14, os14, rfl, hp14, hs14, hO14, hK14⟩
                    have HO14 := hid hO14
                    have HK14 := hid ((HK13.out).trans hK14)
                    clear hO14 hK14
                    try dsimp only
                    have HPT := hid (keysOne HG1.out hp14 HPS.out hs14 HSS.out)
                    clear hp14 hs14 HO13 HK13
                    -- Sns 14 :: Trc q S1 :: Trc u S2 :: Trc c S2 :: Sns os
                    go_wp2_with fail
                    refine (nodesYes _ _ os14 osw w14 (rdNs_of HO14.out) (rdNs_of (HO14.out.re 5 [4])) HPT.out).mono ?_
                    rintro e w' ⟨rfl, nq15, rfl⟩
                    have HO15 := hid ((HO14.out).drewN nq15)
                    have HK15 := hid ((HK14.out).drewN nq15)
                    try dsimp only
                    clear HO14 HK14 HPT
                    generalize w14.drewN nq15 = w15 at *
                    go_wp2_with fail
                    refine (stepNodes' c w15 _ HGC.out (by omega) (HO15.out.re 4 [3, 0, 1, 2])).mono ?_
                    rintro e w16 ⟨p16, c16, os16, rfl, hp16, hs16, hO16, hK16⟩
                    have HO16 := hid hO16
                    have HK16 := hid ((HK15.out).trans hK16)
                    clear hO16 hK16
                    try dsimp only
                    have HPU := hid hp16
                    have HSU := hid hs16
                    clear hp16 hs16 HO15 HK15
                    -- Sns16, Trc c, Sns14, Trc q, Trc u, Sns os
                    go_wp2_with fail
                    refine (stepNodes' u w16 _ HGC.out (by omega) (HO16.out.re 5 [4, 0, 1, 2, 3])).mono ?_
                    rintro e w17 ⟨p17, c17, os17, rfl, hp17, hs17, hO17, hK17⟩
                    have HO17 := hid hO17
                    have HK17 := hid ((HK16.out).trans hK17)
                    clear hO17 hK17
                    try dsimp only
                    have HPT := hid (keysOne HGC.out HPU.out hp17 HSU.out hs17)
                    clear hp17 hs17 HO16 HK16 HPU HSU
                    go_wp2_with fail
                    refine (nodesYes _ _ os16 os17 w17 (rdNs_of (HO17.out.re 3 [2])) (rdNs_of HO17.out) HPT.out).mono ?_
                    rintro e w' ⟨rfl, nq18, rfl⟩
                    have HO18 := hid ((HO17.out).drewN nq18)
                    have HK18 := hid ((HK17.out).drewN nq18)
                    try dsimp only
                    clear HO17 HK17
                    generalize w17.drewN nq18 = w18 at *
                    go_wp2_with fail
                    refine (awake14 mx w18 _ (fun w' h => HM.out w' h.drop.drop.drop.drop.drop.drop.drop) HO18.out).mono ?_
                    rintro e w19 ⟨rfl, hO19, hK19⟩
                    have HO19 := hid hO19
                    have HK19 := hid ((HK18.out).trans hK19)
                    clear hO19 hK19
                    try dsimp only
                    go_wp2_with fail
                    go_ret
                    exact ⟨rfl, (HO19.out.re 8 [7]).below HK19.out.os HK19.out.tape HK19.out.output⟩
      · go_wp2_with fail
        refine (awake14 mx w3 _ HM.out HO3.out).mono ?_
        rintro e w4 ⟨rfl, hO4, hK4⟩
        have HO4 := hid hO4
        have HK4 := hid ((HK3.out).trans hK4)
        clear hO4 hK4
        try dsimp only
        go_wp2_with fail
        go_ret
        exact ⟨rfl, HO4.out.below HK4.out.os HK4.out.tape HK4.out.output⟩
    · go_wp2_with fail
      refine (awake14 mx w2 _ HM.out HO2.out).mono ?_
      rintro e w3 ⟨rfl, hO3, hK3⟩
      have HO3 := hid hO3
      have HK3 := hid ((HK2.out).trans hK3)
      clear hO3 hK3
      try dsimp only
      go_wp2_with fail
      go_ret
      exact ⟨rfl, HO3.out.below HK3.out.os HK3.out.tape HK3.out.output⟩
  · go_wp2_with fail
    refine (awake14 mx w1 _ HM.out HO1.out).mono ?_
    rintro e w2 ⟨rfl, hO2, hK2⟩
    have HO2 := hid hO2
    have HK2 := hid ((HK1.out).trans hK2)
    clear hO2 hK2
    try dsimp only
    go_wp2_with fail
    go_ret
    exact ⟨rfl, HO2.out.below HK2.out.os HK2.out.tape HK2.out.output⟩
end Go.Proofs.YtonhcefgakmpfaaGreatDoor
/- What the frames of chapter 14's cards share: the listed data met, and the world's shape kept. -/
namespace Go.Proofs.YtonhcefgakmpfaaGreatDoor
open Go.ChangeShapes Go.WideShapes Go.ChangeAt Go.RowKit
variable {H : Type} {enc : TypeId × Value → H}
theorem handed_and_shaped {a : Assume} {C : Checked} {os : Os} {f : FuncId} {fn : Func} {s : ChangeSpec} {conds : List PathCond} {apart fresh handsOn again : Bool} {X : World → Array Value → Prop}
    (hX : ∀ (w w' : World) (args : Array Value), w.heap = w'.heap → X w args → X w' args)
    (own : ownKnob C.prog.godebug = none) (started : os.Started) (noInit : C.prog.inits.idxOf? f = none) (hfn : C.prog.funcs[f]? = some fn)
    (witness : ∃ (w : World) (tape : Tape) (i : Input), w.os = os ∧ (w.forCall tape i).Shaped C.prog ∧ i.vars = [] ∧ Input.okWide C.prog (w.forCall tape i) .any w.heap.size f i ∧
      ((s.pre enc C.prog fn conds apart (w.forCall tape i).memory i.args ∧ X (w.forCall tape i).memory i.args) ∧ sizedMet enc C.prog fn (OpenSpec.ofChange s) apart (w.forCall tape i).memory i.args) ∧ a.holds C.prog (lone (Frame.enter C.prog f i.args .normal) [] (w.forCall tape i)))
    (contract : ∀ (W : World) (base : Nat) (args : Array Value) (ds gs : List (DataW H)) (before : List MemPlace),
      (∀ (j : Nat) t v, fn.params[j]? = some t → args[j]? = some v → Value.okWide C.prog W .any base t v) →
      DataW.Whole enc C.prog fn.params.toList s.vars apart W args.toList ds gs before →
      conds.all (PathCond.test C.prog ⟨fn.params.toList, ds, s.plain.varTypes C.prog, gs⟩) = true →
      (DataW.weightsEach C.prog (fn.params.toList ++ s.plain.varTypes C.prog) (ds ++ gs)).all (· ≤ reachBytes) = true → X W args → W.ShapedOpen C.prog →
      a.holds C.prog (lone (Frame.enter C.prog f args .normal) [] W) →
      Calls C.prog f args W fun e W' => ∃ v, e = .returned v ∧ s.post enc C.prog fn apart fresh handsOn again W args v W') :
    ReturnsInHanded a C os f .any (fun w args => (s.pre enc C.prog fn conds apart w args ∧ X w args) ∧ sizedMet enc C.prog fn (OpenSpec.ofChange s) apart w args) (s.post enc C.prog fn apart fresh handsOn again) := by
  refine returnsInHanded_of_calls own started noInit witness ?_
  intro w tape i _ hsh _ hok hpre hholds
  obtain ⟨_, _, _, fn', hfn', _, _, _, _, hval⟩ := hok
  have e : fn' = fn := Option.some.inj (hfn'.symm.trans hfn)
  subst e
  obtain ⟨⟨⟨ds, gs, before, hw, hc⟩, hx⟩, hz⟩ := hpre
  have hw' := DataW.Whole.of_heap (w' := w.forCall tape i) (by rfl) hw
  refine (contract (w.forCall tape i) w.heap.size i.args ds gs before hval hw' hc (hz.weights hw) (hX _ _ _ (by rfl) hx) hsh hholds).mono fun e W' ⟨v, he, hp⟩ => ?_
  subst he
  exact ChangeSpec.post_blind hp
theorem mx_shaped {W : World} (h : W.ShapedOpen Tryz.prog) : ∃ m, W.cell? ⟨0, 0, none⟩ = some (.int .i64 m) :=
  cell_of_shapedOpen_int (P := Tryz.prog) (g := 0) (t := 3) (zero := #[.int .i64 0]) h (of_decide_eq_true (by kernel_rfl)) (by kernel_rfl) rfl (by kernel_rfl) (by kernel_rfl) Tryz.underlying3
end Go.Proofs.YtonhcefgakmpfaaGreatDoor
