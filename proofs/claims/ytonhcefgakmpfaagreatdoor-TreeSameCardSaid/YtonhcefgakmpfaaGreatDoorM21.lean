/- TEXTS of mine, merged. -/
import Derived.Test.YtonhcefgakmpfaaGreatDoorM12
import Derived.Test.YtonhcefgakmpfaaGreatDoorM20
import Derived.Test.YtonhcefgakmpfaaGreatDoorM19
import Derived.Test.YtonhcefgakmpfaaGreatDoorM13
import Derived.Test.YtonhcefgakmpfaaGreatDoorM10
/- THE WALK of tree.rename, as far as it finds both places. -/
namespace Go.Proofs.YtonhcefgakmpfaaGreatDoor
open Go.RowKit Go.Own
set_option maxRecDepth 100000 in
set_option maxHeartbeats 32000000 in
theorem tRename (q : Nat) (S : Tre) (rk : Int → Nat) (o : Opm) (ov : Value) (mx : Int) (w : World) (L : List HP) (hW : Wk S) (hY : Wy S rk) (hM : MxL mx L) (hp : o.path.length ≤ 100000) (hd : o.dest.length ≤ 100000)
    (hKO1 : (S.place o.path).2 = 0 → (S.place o.path).1.node ≠ 0 → KidOk S (S.place o.path).1 ∧ ∀ x, fnd S.nodes (S.place o.path).1.node = some x → 1 ≤ x.links) (hKO2 : (S.place o.dest).2 = 0 → DirOk S (S.place o.dest).1 ∧ (S.place o.dest).1.name.length ≤ 24 ∧ ((S.place o.dest).1.node ≠ 0 → KidOk S (S.place o.dest).1))
    (hup : ∀ n x, fnd S.nodes n = some x → x.above ≠ 0 → (∃ y, fnd S.nodes x.above = some y) ∧ rk x.above < rk n) (hnm : ∀ n x, fnd S.nodes n = some x → ∀ e ∈ x.names, rk n < rk e.2 ∧ e.1.length ≤ 24 ∧ ∃ z, fnd S.nodes e.2 = some z) (hO : Has w (Trc q S :: L)) :
    Calls Tryz.prog 64 #[.pointer (some ⟨q, 0, none⟩), opV o ov] w fun e w' => e = .returned (ansV (S.rename o.path o.dest).1 nilV nilV) ∧ Has w' (Trc q (S.rename o.path o.dest).2 :: L) ∧ Keep w w' := by
  have HL1 := hid (fun (w : World) (L' : List HP) (hM : MxL mx L') (hO : Has w L') => pLast o.path mx w L' hM hp (by have := split_len o.path; omega) (by have := last_joins o.path; omega) hO)
  have HL2 := hid (fun (w : World) (L' : List HP) (hM : MxL mx L') (hO : Has w L') => pLast o.dest mx w L' hM hd (by have := split_len o.dest; omega) (by have := last_joins o.dest; omega) hO)
  have HP1 := hid (fun (w : World) (L' : List HP) (hM : MxL mx L') (hO : Has w (Trc q S :: L')) => tPlace q S rk o.path mx w L' hW hY hM hp hO)
  have HP2 := hid (fun (w : World) (L' : List HP) (hM : MxL mx L') (hO : Has w (Trc q S :: L')) => tPlace q S rk o.dest mx w L' hW hY hM hd hO)
  have HKO1 := hid hKO1
  have HKO2 := hid hKO2
  have HUP := hid hup
  have HNMS := hid hnm
  clear hKO1 hKO2 hup hnm
  generalize hR : S.rename o.path o.dest = R
  unfold Tre.rename at hR
  generalize lastM o.path = M1 at *
  generalize lastM o.dest = M2 at *
  generalize S.place o.path = F1 at *
  generalize S.place o.dest = F2 at *
  obtain ⟨ah1, nm1, l1⟩ := M1
  obtain ⟨ah2, nm2, l2⟩ := M2
  obtain ⟨s, e2⟩ := F1
  obtain ⟨t, e3⟩ := F2
  dsimp only at *
  have HR := hid hR
  have HM := hid hM
  have HO := hid hO
  have HWY := hid (And.intro hW hY)
  clear hO hR hW hM hp hd hY
  unfold opV opC
  go_enter Tryz.func64, Tryz.ntmps64
  go_upto_region 1 with fail
  have h1 := (HO.out.alloc (.cells (opC o ov) 35)).alloc (.cells (ansC (ansE 0) nilV nilV) 32)
  have HK1 := hid (((Keep.refl w).alloc (.cells (opC o ov) 35)).alloc (.cells (ansC (ansE 0) nilV nilV) 32))
  unfold opC ansC ansE at h1 HK1
  have e1 : (w.alloc (.cells #[.int .i64 o.kind, .int .i64 o.fd, .int .i64 o.n, .int .i64 o.off, .int .i64 o.flags, sV o.path, sV o.dest, ov] 35)).heap.size = w.heap.size + 1 := by show (Array.push _ _).size = _; rw [Array.size_push]
  rw [e1] at h1
  have HO1 := hid h1
  clear h1 e1 HO
  generalize (w.alloc (.cells #[.int .i64 o.kind, .int .i64 o.fd, .int .i64 o.n, .int .i64 o.off, .int .i64 o.flags, sV o.path, sV o.dest, ov] 35)).alloc (.cells #[.int .i64 0, .int .i64 0, .int .i64 0, .int .i64 0, nilV, nilV] 32) = w1 at *
  generalize w.heap.size = g3 at *
  generalize g3 + 1 = g4 at *
  have hp5 : w1.cell? ⟨g3, 5, none⟩ = some (sV o.path) := HO1.out.p1.cells 5
  have hp6 : w1.cell? ⟨g3, 6, none⟩ = some (sV o.dest) := HO1.out.p1.cells 6
  have HMG := hid (show MxL mx (Trc q S :: pt g4 (.cells (ansC (ansE 0) nilV nilV) 32) :: pt g3 (.cells (opC o ov) 35) :: L) from ((HM.out.cons _).cons _).cons _)
  have HOb := hid (show Has (w1.alloc (.cells #[sV o.path, sV o.dest] tStr)) (pt w1.heap.size (.cells #[sV o.path, sV o.dest] tStr) :: Trc q S :: pt g4 (.cells (ansC (ansE 0) nilV nilV) 32) :: pt g3 (.cells (opC o ov) 35) :: L) from (HO1.out.alloc (.cells #[sV o.path, sV o.dest] tStr)).re 4 [0, 3, 1, 2])
  have HKb := hid (HK1.out.alloc (.cells #[sV o.path, sV o.dest] tStr))
  go_wp2_with fail
  go_loopw [22] (fun i w' => ∃ (j : Nat) (w2 : World), w2 = w' ∧ j ≤ 2 ∧ i = .int .i64 j ∧ (1 ≤ j → l1 = 0) ∧ (2 ≤ j → l2 = 0) ∧ Hid (Has w2 (pt w1.heap.size (.cells #[sV o.path, sV o.dest] tStr) :: Trc q S :: pt g4 (.cells (ansC (ansE 0) nilV nilV) 32) :: pt g3 (.cells (opC o ov) 35) :: L)) ∧ Hid (Keep w w2)) (fun i _ => 2 - (intOf i).toNat)
  case atStart => exact ⟨0, _, rfl, by omega, rfl, by omega, by omega, HOb, HKb⟩
  case round =>
    clear HOb HKb HO1 HK1 hp5 hp6
    generalize w1.heap.size = ga at *
    obtain ⟨j, w2, rfl, hj, rfl, hj1, hj2, HO2, HK2⟩ := hrel
    have HJ := hid (And.intro hj1 hj2)
    clear hj1 hj2
    rcases (show j = 0 ∨ j = 1 ∨ j = 2 by omega) with rfl | rfl | rfl
    · rw [show ((0 : Nat) : Int) = 0 from rfl]
      have hc0 : w2.cell? ⟨ga, 0, none⟩ = some (sV o.path) := HO2.out.cells 0
      go_wp2_with fail
      refine (HL1.out w2 _ (HMG.out.cons _) HO2.out).mono ?_
      rintro e w3 ⟨rfl, hO3, hK3⟩
      have HO3 := hid hO3
      have HK3 := hid ((HK2.out).trans hK3)
      clear hO3 hK3
      try dsimp only
      clear HO2 HK2 hc0
      by_cases hl1 : l1 = 0
      · have hl1b : (l1 != 0) = false := by simp [hl1]
        go_wp2_with fail
        go_roundw
        case rel => exact ⟨1, _, rfl, by omega, rfl, fun _ => hl1, by omega, HO3, HK3⟩
        case measure => decide
      · have HOa := hid (show Has w3 (pt g4 (.cells (ansC (ansE 0) nilV nilV) 32) :: Trc q S :: L) from HO3.out.re 4 [2, 1])
        have HRR := hid (show R = (ansE l1, S) from by rw [← HR.out, if_pos hl1])
        have hz0 : w3.cell? ⟨g4, 0, none⟩ = some (.int .i64 0) := (HOa.out).cells 0
        have hz1 : w3.cell? ⟨g4, 1, none⟩ = some (.int .i64 0) := (HOa.out).cells 1
        have hz2 : w3.cell? ⟨g4, 2, none⟩ = some (.int .i64 0) := (HOa.out).cells 2
        have hz3 : w3.cell? ⟨g4, 3, none⟩ = some (.int .i64 0) := (HOa.out).cells 3
        have hz4 : w3.cell? ⟨g4, 4, none⟩ = some (.slice none 0 0) := (HOa.out).cells 4
        have hz5 : w3.cell? ⟨g4, 5, none⟩ = some (.slice none 0 0) := (HOa.out).cells 5
        have hy0 := (HOa.out).thaw 0
        have hy1 := (HOa.out).thaw 1
        have hy2 := (HOa.out).thaw 2
        have hy3 := (HOa.out).thaw 3
        have hy4 := (HOa.out).thaw 4
        have hy5 := (HOa.out).thaw 5
        go_wp2_with fail
        refine (tCode (l1 : Int) w3 _ HOa.out).mono ?_
        rintro e w15 ⟨rfl, hO15, hK15⟩
        have HO15 := hid hO15
        have HK15 := hid ((HK3.out).trans hK15)
        clear hO15 hK15
        unfold ansV ansC ansE
        clear hz0 hz1 hz2 hz3 hz4 hz5 hy0 hy1 hy2 hy3 hy4 hy5
        have hz0 : w15.cell? ⟨g4, 0, none⟩ = some (.int .i64 0) := (HO15.out).cells 0
        have hz1 : w15.cell? ⟨g4, 1, none⟩ = some (.int .i64 0) := (HO15.out).cells 1
        have hz2 : w15.cell? ⟨g4, 2, none⟩ = some (.int .i64 0) := (HO15.out).cells 2
        have hz3 : w15.cell? ⟨g4, 3, none⟩ = some (.int .i64 0) := (HO15.out).cells 3
        have hz4 : w15.cell? ⟨g4, 4, none⟩ = some (.slice none 0 0) := (HO15.out).cells 4
        have hz5 : w15.cell? ⟨g4, 5, none⟩ = some (.slice none 0 0) := (HO15.out).cells 5
        have hy0 := (HO15.out).thaw 0
        have hy1 := (HO15.out).thaw 1
        have hy2 := (HO15.out).thaw 2
        have hy3 := (HO15.out).thaw 3
        have hy4 := (HO15.out).thaw 4
        have hy5 := (HO15.out).thaw 5
        go_wp2_with fail
        have h1 := ((show Has w15 (pt g4 (.cells (ansC (ansE 0) nilV nilV) 32) :: Trc q S :: L) from HO15.out)).ans (ansE (l1 : Int)) nilV nilV
        refine bodyPost_ret (ans_result rfl rfl h1) rfl ?_
        rw [HRR.out]
        exact ⟨rfl, h1.drop, HK15.out.ans _ _ _ _ _ _ _⟩
    · rw [show ((1 : Nat) : Int) = 1 from rfl]
      have hl1 := HJ.out.1 (by omega)
      have hc1 : w2.cell? ⟨ga, 1, none⟩ = some (sV o.dest) := HO2.out.cells 1
      go_wp2_with fail
      refine (HL2.out w2 _ (HMG.out.cons _) HO2.out).mono ?_
      rintro e w3 ⟨rfl, hO3, hK3⟩
      have HO3 := hid hO3
      have HK3 := hid ((HK2.out).trans hK3)
      clear hO3 hK3
      try dsimp only
      clear HO2 HK2 hc1
      by_cases hl2 : l2 = 0
      · have hl2b : (l2 != 0) = false := by simp [hl2]
        go_wp2_with fail
        go_roundw
        case rel => exact ⟨2, _, rfl, by omega, rfl, fun _ => hl1, fun _ => hl2, HO3, HK3⟩
        case measure => decide
      · have HOa := hid (show Has w3 (pt g4 (.cells (ansC (ansE 0) nilV nilV) 32) :: Trc q S :: L) from HO3.out.re 4 [2, 1])
        have HRR := hid (show R = (ansE l2, S) from by rw [← HR.out, if_neg (fun h => h hl1), if_pos hl2])
        have hz0 : w3.cell? ⟨g4, 0, none⟩ = some (.int .i64 0) := (HOa.out).cells 0
        have hz1 : w3.cell? ⟨g4, 1, none⟩ = some (.int .i64 0) := (HOa.out).cells 1
        have hz2 : w3.cell? ⟨g4, 2, none⟩ = some (.int .i64 0) := (HOa.out).cells 2
        have hz3 : w3.cell? ⟨g4, 3, none⟩ = some (.int .i64 0) := (HOa.out).cells 3
        have hz4 : w3.cell? ⟨g4, 4, none⟩ = some (.slice none 0 0) := (HOa.out).cells 4
        have hz5 : w3.cell? ⟨g4, 5, none⟩ = some (.slice none 0 0) := (HOa.out).cells 5
        have hy0 := (HOa.out).thaw 0
        have hy1 := (HOa.out).thaw 1
        have hy2 := (HOa.out).thaw 2
        have hy3 := (HOa.out).thaw 3
        have hy4 := (HOa.out).thaw 4
        have hy5 := (HOa.out).thaw 5
        go_wp2_with fail
        refine (tCode (l2 : Int) w3 _ HOa.out).mono ?_
        rintro e w15 ⟨rfl, hO15, hK15⟩
        have HO15 := hid hO15
        have HK15 := hid ((HK3.out).trans hK15)
        clear hO15 hK15
        unfold ansV ansC ansE
        clear hz0 hz1 hz2 hz3 hz4 hz5 hy0 hy1 hy2 hy3 hy4 hy5
        have hz0 : w15.cell? ⟨g4, 0, none⟩ = some (.int .i64 0) := (HO15.out).cells 0
        have hz1 : w15.cell? ⟨g4, 1, none⟩ = some (.int .i64 0) := (HO15.out).cells 1
        have hz2 : w15.cell? ⟨g4, 2, none⟩ = some (.int .i64 0) := (HO15.out).cells 2
        have hz3 : w15.cell? ⟨g4, 3, none⟩ = some (.int .i64 0) := (HO15.out).cells 3
        have hz4 : w15.cell? ⟨g4, 4, none⟩ = some (.slice none 0 0) := (HO15.out).cells 4
        have hz5 : w15.cell? ⟨g4, 5, none⟩ = some (.slice none 0 0) := (HO15.out).cells 5
        have hy0 := (HO15.out).thaw 0
        have hy1 := (HO15.out).thaw 1
        have hy2 := (HO15.out).thaw 2
        have hy3 := (HO15.out).thaw 3
        have hy4 := (HO15.out).thaw 4
        have hy5 := (HO15.out).thaw 5
        go_wp2_with fail
        have h1 := ((show Has w15 (pt g4 (.cells (ansC (ansE 0) nilV nilV) 32) :: Trc q S :: L) from HO15.out)).ans (ansE (l2 : Int)) nilV nilV
        refine bodyPost_ret (ans_result rfl rfl h1) rfl ?_
        rw [HRR.out]
        exact ⟨rfl, h1.drop, HK15.out.ans _ _ _ _ _ _ _⟩
    · rw [show ((2 : Nat) : Int) = 2 from rfl]
      have hl1 := HJ.out.1 (by omega)
      have hl2 := HJ.out.2 (by omega)
      have HR2 := hid ((if_neg (fun h => h hl2)).symm.trans ((if_neg (fun h => h hl1)).symm.trans HR.out))
      clear HR HJ HL1 HL2 hl1 hl2
      have hp5 : w2.cell? ⟨g3, 5, none⟩ = some (sV o.path) := HO2.out.p3.cells 5
      go_upto_region 8 with fail
      go_cut [10, 11] (fun p10 e11 wx => ∃ (w3 : World) (g10 : Nat), w3 = wx ∧ e11 = .int .i64 e2 ∧ p10 = .pointer (some ⟨g10, 0, none⟩) ∧ Hid (Has w3 (Trc q S :: pt g10 (.cells (spC s) 93) :: pt g4 (.cells (ansC (ansE 0) nilV nilV) 32) :: pt g3 (.cells (opC o ov) 35) :: L)) ∧ Hid (Keep w w3))
      case first =>
        go_wp2_with fail
        refine (HP1.out w2 _ ((HM.out.cons _).cons _) HO2.out.drop).mono ?_
        rintro e w3 ⟨rfl, hO3, hK3⟩
        have HO3 := hid hO3
        have HK3 := hid ((HK2.out).trans hK3)
        clear hO3 hK3
        try dsimp only
        unfold spV spC
        go_wp2_with fail
        go_meet
        exact ⟨_, _, rfl, rfl, rfl, hid ((HO3.out.alloc (.cells (spC s) 93)).p1), hid (HK3.out.alloc _)⟩
      case rest =>
        obtain ⟨w3, g10, rfl, rfl, rfl, HO3, HK3⟩ := hcut
        clear HO2 HK2 hp5 HP1
        have HOa := hid (show Has w3 (pt g4 (.cells (ansC (ansE 0) nilV nilV) 32) :: Trc q S :: L) from HO3.out.re 4 [2, 0])
        by_cases he2 : e2 = 0
        · subst he2
          have hs0 : w3.cell? ⟨g10, 0, none⟩ = some (.int .i64 s.node) := HO3.out.p1.cells 0
          by_cases hz : s.node = 0
          · have hzb : (s.node == 0) = true := by simp [hz]
            have HRR := hid (show R = (ansE 5, S) from by rw [← HR2.out, if_neg (fun h => h rfl), if_pos hz])
            have hz0 : w3.cell? ⟨g4, 0, none⟩ = some (.int .i64 0) := (HOa.out).cells 0
            have hz1 : w3.cell? ⟨g4, 1, none⟩ = some (.int .i64 0) := (HOa.out).cells 1
            have hz2 : w3.cell? ⟨g4, 2, none⟩ = some (.int .i64 0) := (HOa.out).cells 2
            have hz3 : w3.cell? ⟨g4, 3, none⟩ = some (.int .i64 0) := (HOa.out).cells 3
            have hz4 : w3.cell? ⟨g4, 4, none⟩ = some (.slice none 0 0) := (HOa.out).cells 4
            have hz5 : w3.cell? ⟨g4, 5, none⟩ = some (.slice none 0 0) := (HOa.out).cells 5
            have hy0 := (HOa.out).thaw 0
            have hy1 := (HOa.out).thaw 1
            have hy2 := (HOa.out).thaw 2
            have hy3 := (HOa.out).thaw 3
            have hy4 := (HOa.out).thaw 4
            have hy5 := (HOa.out).thaw 5
            go_wp2_with fail
            refine (tCode (5 : Int) w3 _ HOa.out).mono ?_
            rintro e w15 ⟨rfl, hO15, hK15⟩
            have HO15 := hid hO15
            have HK15 := hid ((HK3.out).trans hK15)
            clear hO15 hK15
            unfold ansV ansC ansE
            clear hz0 hz1 hz2 hz3 hz4 hz5 hy0 hy1 hy2 hy3 hy4 hy5
            have hz0 : w15.cell? ⟨g4, 0, none⟩ = some (.int .i64 0) := (HO15.out).cells 0
            have hz1 : w15.cell? ⟨g4, 1, none⟩ = some (.int .i64 0) := (HO15.out).cells 1
            have hz2 : w15.cell? ⟨g4, 2, none⟩ = some (.int .i64 0) := (HO15.out).cells 2
            have hz3 : w15.cell? ⟨g4, 3, none⟩ = some (.int .i64 0) := (HO15.out).cells 3
            have hz4 : w15.cell? ⟨g4, 4, none⟩ = some (.slice none 0 0) := (HO15.out).cells 4
            have hz5 : w15.cell? ⟨g4, 5, none⟩ = some (.slice none 0 0) := (HO15.out).cells 5
            have hy0 := (HO15.out).thaw 0
            have hy1 := (HO15.out).thaw 1
            have hy2 := (HO15.out).thaw 2
            have hy3 := (HO15.out).thaw 3
            have hy4 := (HO15.out).thaw 4
            have hy5 := (HO15.out).thaw 5
            go_wp2_with fail
            have h1 := ((show Has w15 (pt g4 (.cells (ansC (ansE 0) nilV nilV) 32) :: Trc q S :: L) from HO15.out)).ans (ansE (5 : Int)) nilV nilV
            refine bodyPost_ret (ans_result rfl rfl h1) rfl ?_
            rw [HRR.out]
            exact ⟨rfl, h1.drop, HK15.out.ans _ _ _ _ _ _ _⟩
          · have hzb : (s.node == 0) = false := by simp [hz]
            have HR3 := hid ((if_neg hz).symm.trans ((if_neg (fun h => h rfl)).symm.trans HR2.out))
            have hp6 : w3.cell? ⟨g3, 6, none⟩ = some (sV o.dest) := HO3.out.p3.cells 6
            clear HR2
            go_upto_region 13 with fail
            go_cut [12, 11] (fun p12 e11 wx => ∃ (w5 : World) (g12 : Nat), w5 = wx ∧ e11 = .int .i64 e3 ∧ p12 = .pointer (some ⟨g12, 0, none⟩) ∧ Hid (Has w5 (Trc q S :: pt g12 (.cells (spC t) 93) :: pt g10 (.cells (spC s) 93) :: pt g4 (.cells (ansC (ansE 0) nilV nilV) 32) :: L)) ∧ Hid (Keep w w5))
            case first =>
              go_wp2_with fail
              refine (HP2.out w3 _ (((HM.out.cons _).cons _).cons _) HO3.out).mono ?_
              rintro e w4 ⟨rfl, hO4, hK4⟩
              have HO4 := hid hO4
              have HK4 := hid ((HK3.out).trans hK4)
              clear hO4 hK4
              try dsimp only
              unfold spV spC
              go_wp2_with fail
              go_meet
              exact ⟨_, _, rfl, rfl, rfl, hid ((HO4.out.alloc (.cells (spC t) 93)).re 5 [1, 0, 2, 3]), hid (HK4.out.alloc _)⟩
            case rest =>
              obtain ⟨w5, g12, rfl, rfl, rfl, HO5, HK5⟩ := hcut
              clear HO3 HK3 hp6 HP2 hs0 HOa
              have HOa := hid (show Has w5 (pt g4 (.cells (ansC (ansE 0) nilV nilV) 32) :: Trc q S :: L) from HO5.out.re 4 [3, 0])
              by_cases he3 : e3 = 0
              · subst he3
                obtain ⟨⟨d, x, hd, hdk, hdn, hx, hne, hln, hlk, hnl⟩, hpos⟩ := HKO1.out rfl hz
                obtain ⟨⟨td, htd, htdk, htl, htn⟩, ht24, hKt⟩ := HKO2.out rfl
                have hat : S.at_ s.node = x := by unfold Tre.at_; rw [hx]; rfl
                have HR4 := hid (show (if x.kind = 2 ∧ S.within t.dir s.node = true then (ansE 2, S) else if x.kind = 2 ∧ S.deep s.node (S.way t.dir ++ [t.name]) = true then (ansE 11, S) else if t.node = s.node then (ansE 0, S) else if t.node ≠ 0 ∧ x.kind = 2 ∧ (S.at_ t.node).kind ≠ 2 then (ansE 7, S) else if t.node ≠ 0 ∧ x.kind = 2 ∧ 0 < (S.at_ t.node).names.length then (ansE 9, S) else if t.node ≠ 0 ∧ x.kind ≠ 2 ∧ (S.at_ t.node).kind = 2 then (ansE 8, S) else (ansE 0, (if t.node ≠ 0 then S.take t.dir t.name else S).mv1 s t)) = R from by
                  have h := HR3.out
                  rw [if_neg (fun h => h rfl)] at h
                  try dsimp only at h
                  rw [hat] at h
                  exact h)
                have HKT := hid hKt
                have HDX := hid (show (fnd S.nodes s.dir = some d ∧ fnd d.names s.name = some s.node) ∧ fnd S.nodes s.node = some x ∧ fnd S.nodes t.dir = some td from ⟨⟨hd, hdn⟩, hx, htd⟩)
                have HPOS := hid (hpos x hx)
                clear HR3 hKt hpos HKO1 HKO2
                obtain ⟨m, f, P, hPT, h⟩ := trc_iff.1 HO5.out.drew
                have HPT := hid hPT
                have hxP := hx
                rw [← hPT.1] at hxP
                obtain ⟨b, hb, hl⟩ := Trb.look h hxP
                have hq := (Trb.cells h).1
                obtain ⟨A0, B0, dv0, wv0, nm0, -, -, hN0⟩ := Trb.take h hb
                have hb0 := hN0.cells 0
                have hs0 : w5.drew.cell? ⟨g10, 0, none⟩ = some (.int .i64 s.node) := h.p2.cells 0
                have HO6 := hid h
                have HK6 := hid HK5.out.drew
                have HB := hid hb
                have HNDP := hid (Trb.nodup h)
                clear h hN0 hxP hPT hd hdn hx htd hat hb HOa HO5 HK5
                go_upto_region 16 with fail
                refine region_text (fun w' => w'.cell? ⟨q, 0, none⟩ = some (.map (some m)) ∧ w'.cell? ⟨g10, 0, none⟩ = some (.int .i64 s.node) ∧ (Instr.lookup tNo (.map (some m)) (.int .i64 s.node) false).run Tryz.prog w' = .ok (.pointer (some ⟨b, 0, none⟩)) w' ∧ w'.cell? ⟨b, 0, none⟩ = some (.int .i64 x.kind)) (by kernel_rfl) (by kernel_rfl) ⟨hq, hs0, hl, hb0⟩ ?_
                repeat (first
                  | (refine wpL_read (by rfl) (by rfl) ?_ ?_ ?_; rotate_left; (rintro w ⟨z0, z1, z2, z3⟩; go_simp; with_reducible rfl); simp only [Act.put, List.setIfInBounds_toArray, List.set_cons_zero, List.set_cons_succ]) | (refine wpL_skip (by rfl) ?_; simp only [Act.put, List.setIfInBounds_toArray, List.set_cons_zero, List.set_cons_succ]))
                refine wpL_nil ?_
                clear hq hs0 hl hb0
                generalize w5.drew = w6 at *
                obtain ⟨mv, hmv⟩ : ∃ mv, (x.kind == 2) = mv := ⟨_, rfl⟩
                rw [hmv]
                have HMV := hid hmv
                clear hmv
                go_upto_block 3 with fail
                go_cut [] (fun wx => ∃ (w7 : World), w7 = wx ∧ ¬ (x.kind = 2 ∧ S.within t.dir s.node = true) ∧ ¬ (x.kind = 2 ∧ S.deep s.node (S.way t.dir ++ [t.name]) = true) ∧ t.node ≠ s.node ∧ Hid (Has w7 (Trb q m f P S.last S.tab :: pt g12 (.cells (spC t) 93) :: pt g10 (.cells (spC s) 93) :: pt g4 (.cells (ansC (ansE 0) nilV nilV) 32) :: L)) ∧ Hid (Keep w w7))
                case first => as_aux_lemma =>
                  have ht1 : w6.cell? ⟨g12, 1, none⟩ = some (.int .i64 t.dir) := HO6.out.p1.cells 1
                  have hs0 : w6.cell? ⟨g10, 0, none⟩ = some (.int .i64 s.node) := HO6.out.p2.cells 0
                  cases mv
                  · have hk : x.kind ≠ 2 := by simpa using HMV.out
                    go_upto_region 19 with fail
                    go_cut [94] (fun c wx => ∃ (w7 : World), w7 = wx ∧ c = .bool false ∧ Hid (Has w7 (Trb q m f P S.last S.tab :: pt g12 (.cells (spC t) 93) :: pt g10 (.cells (spC s) 93) :: pt g4 (.cells (ansC (ansE 0) nilV nilV) 32) :: L)) ∧ Hid (Keep w w7))
                    case first =>
                      refine region_text2 (qc := noQ) (fun _ => True) 8 11 [_, _, _, _, _, _, _, _] [_, _] _ _ _ (by kernel_rfl) (by kernel_rfl) (by rfl) rfl rfl rfl trivial ?_
                      simp only [List.cons_append, List.nil_append]
                      repeat (first
                        | (refine wpL_read (by rfl) (by rfl) ?_ ?_ ?_; rotate_left; (intro w hS; go_simp; with_reducible rfl); simp only [Act.put, List.setIfInBounds_toArray, List.set_cons_zero, List.set_cons_succ]) | (refine wpL_skip (by rfl) ?_; simp only [Act.put, List.setIfInBounds_toArray, List.set_cons_zero, List.set_cons_succ]))
                      refine wpL_nil ⟨?_, ?_⟩
                      · repeat (first
                          | (refine wpL_read (by rfl) (by rfl) ?_ ?_ ?_; rotate_left; (intro w hS; go_simp; with_reducible rfl); simp only [Act.put, List.setIfInBounds_toArray, List.set_cons_zero, List.set_cons_succ]) | (refine wpL_skip (by rfl) ?_; simp only [Act.put, List.setIfInBounds_toArray, List.set_cons_zero, List.set_cons_succ]))
                        refine wpL_nil ?_
                        go_wp2_with fail
                        go_meet
                        exact ⟨_, rfl, rfl, hid HO6.out.drew, hid HK6.out.drew⟩
                      · repeat (first
                          | (refine wpL_read (by rfl) (by rfl) ?_ ?_ ?_; rotate_left; (intro w hS; go_simp; with_reducible rfl); simp only [Act.put, List.setIfInBounds_toArray, List.set_cons_zero, List.set_cons_succ]) | (refine wpL_skip (by rfl) ?_; simp only [Act.put, List.setIfInBounds_toArray, List.set_cons_zero, List.set_cons_succ]))
                        refine wpL_nil ?_
                        go_wp2_with fail
                        go_meet
                        exact ⟨_, rfl, rfl, hid HO6.out.drew, hid HK6.out.drew⟩
                    case rest =>
                      obtain ⟨w7, rfl, rfl, HO7, HK7⟩ := hcut
                      clear HO6 HK6 ht1 hs0
                      have ht0 : w7.cell? ⟨g12, 0, none⟩ = some (.int .i64 t.node) := HO7.out.p1.cells 0
                      have hs0 : w7.cell? ⟨g10, 0, none⟩ = some (.int .i64 s.node) := HO7.out.p2.cells 0
                      by_cases hts : t.node = s.node
                      · have htsb : (t.node == s.node) = true := by simp [hts]
                        have HOa := hid (show Has w7 (pt g4 (.cells (ansC (ansE 0) nilV nilV) 32) :: Trc q S :: L) from (trc_iff.2 ⟨m, f, P, HPT.out, (HO7.out).re 4 [0, 3]⟩ : Has w7 (Trc q S :: pt g4 (.cells (ansC (ansE 0) nilV nilV) 32) :: L)).re 2 [1, 0])
                        have HRR := hid (show R = (ansE 0, S) from by rw [← HR4.out, if_neg (fun h => hk h.1), if_neg (fun h => hk h.1), if_pos hts])
                        have hz0 : w7.cell? ⟨g4, 0, none⟩ = some (.int .i64 0) := (HOa.out).cells 0
                        have hz1 : w7.cell? ⟨g4, 1, none⟩ = some (.int .i64 0) := (HOa.out).cells 1
                        have hz2 : w7.cell? ⟨g4, 2, none⟩ = some (.int .i64 0) := (HOa.out).cells 2
                        have hz3 : w7.cell? ⟨g4, 3, none⟩ = some (.int .i64 0) := (HOa.out).cells 3
                        have hz4 : w7.cell? ⟨g4, 4, none⟩ = some (.slice none 0 0) := (HOa.out).cells 4
                        have hz5 : w7.cell? ⟨g4, 5, none⟩ = some (.slice none 0 0) := (HOa.out).cells 5
                        have hy0 := (HOa.out).thaw 0
                        have hy1 := (HOa.out).thaw 1
                        have hy2 := (HOa.out).thaw 2
                        have hy3 := (HOa.out).thaw 3
                        have hy4 := (HOa.out).thaw 4
                        have hy5 := (HOa.out).thaw 5
                        go_wp2_with fail
                        have h1 := HOa.out.ans (ansE 0) nilV nilV
                        refine bodyPost_ret (ans_result rfl rfl h1) rfl ?_
                        rw [HRR.out]
                        exact ⟨rfl, h1.drop, HK7.out.ans _ _ _ _ _ _ _⟩
                      · have htsb : (t.node == s.node) = false := by simp [hts]
                        go_wp2_with fail
                        go_meet
                        exact ⟨_, rfl, fun h => hk h.1, fun h => hk h.1, hts, HO7, HK7⟩
                  · have hk : x.kind = 2 := by simpa using HMV.out
                    go_wp2_with fail
                    refine (tWithin q S rk t.dir s.node td w6 _ HUP.out HDX.out.2.2 (HWY.out.2.low _) (trc_iff.2 ⟨m, f, P, HPT.out, HO6.out⟩)).mono ?_
                    rintro e w' ⟨rfl, rfl⟩
                    try dsimp only
                    cases hwi : S.within t.dir s.node
                    · have HWI := hid hwi
                      clear hwi
                      go_upto_region 19 with fail
                      go_cut [94] (fun c wx => ∃ (w7 : World), w7 = wx ∧ c = .bool (S.deep s.node (S.way t.dir ++ [t.name])) ∧ Hid (Has w7 (Trb q m f P S.last S.tab :: pt g12 (.cells (spC t) 93) :: pt g10 (.cells (spC s) 93) :: pt g4 (.cells (ansC (ansE 0) nilV nilV) 32) :: L)) ∧ Hid (Keep w w7))
                      case first =>
                        have hnd := Trb.nodup HO6.out
                        have HWL := hid (way_len HWY.out.2 20 _ _ HDX.out.2.2 (HWY.out.2.low _))
                        have HDW := hid (show ∀ (v : Value) (w : World) (L' : List HP), Has w (Strs v (S.way t.dir ++ [t.name]) :: Trb q m f P S.last S.tab :: L') → Calls Tryz.prog 131 #[.pointer (some ⟨q, 0, none⟩), .int .i64 s.node, v] w fun e w' => e = .returned (.bool (S.deep s.node (S.way t.dir ++ [t.name]))) ∧ Has w' (Strs v (S.way t.dir ++ [t.name]) :: Trb q m f P S.last S.tab :: L') ∧ Keep w w' from fun v w L' h => by
                          have hmem : ∀ y ∈ P, fnd S.nodes y.1 = some y.2.2 := fun y hy => by
                            rw [← HPT.out.1]
                            exact fnd_mem (by rw [pnN_keys]; exact hnd) (List.mem_map.2 ⟨y, hy, rfl⟩)
                          have h9 := tDeep q m f P S.last S.tab rk hnd (fun y _ => by have := HWY.out.2.low y.1; omega) (fun y hy e he => by
                            obtain ⟨h1, h2, z, h3⟩ := HNMS.out y.1 y.2.2 (hmem y hy) e he
                            refine ⟨h1, h2, ?_⟩
                            rw [← HPT.out.1] at h3
                            obtain ⟨z', hz', hze⟩ := List.mem_map.1 (fnd_some h3)
                            exact ⟨z', hz', congrArg Prod.fst hze⟩) 22 s.node b x (S.way t.dir ++ [t.name]) P v w L' (by omega) (by have := HWY.out.2.low s.node; omega) HB.out (by have := HWL.out; rw [List.length_append, List.length_singleton]; omega) (fun p' hp' => (List.mem_append.1 hp').elim (way_short HWY.out.2 20 _ _ HDX.out.2.2 (HWY.out.2.low _) p') (fun h => by rw [List.mem_singleton.1 h]; exact ht24)) (fun y hy _ => hy) h
                          rw [HPT.out.1] at h9
                          exact h9)
                        have HOd := hid HO6.out.drew
                        have HKd := hid HK6.out.drew
                        clear hnd ht1 hs0
                        refine region_text2 (qc := noQ) (fun w' => w'.cell? ⟨g10, 0, none⟩ = some (.int .i64 s.node) ∧ w'.cell? ⟨g12, 1, none⟩ = some (.int .i64 t.dir) ∧ w'.cell? ⟨g12, 2, none⟩ = some (sV t.name)) 8 11 [_, _, _, _, _, _, _, _] [_, _] _ _ _ (by kernel_rfl) (by kernel_rfl) (by rfl) rfl rfl rfl ⟨HOd.out.p2.cells 0, HOd.out.p1.cells 1, HOd.out.p1.cells 2⟩ ?_
                        simp only [List.cons_append, List.nil_append]
                        repeat (first
                          | (refine wpL_read (by rfl) (by rfl) ?_ ?_ ?_; rotate_left; (rintro w ⟨z0, z1, z2⟩; go_simp; with_reducible rfl); simp only [Act.put, List.setIfInBounds_toArray, List.set_cons_zero, List.set_cons_succ]) | (refine wpL_skip (by rfl) ?_; simp only [Act.put, List.setIfInBounds_toArray, List.set_cons_zero, List.set_cons_succ]))
                        refine wpL_nil ⟨?_, ?_⟩
                        · refine wpL_act (by rfl) (by rfl) (fun K hK => ?_)
                          go_simp
                          refine (tWay q m f P S rk t.dir td _ _ HWY.out.2 HDX.out.2.2 HPT.out HOd.out).mono ?_
                          rintro e w8 ⟨v8, rfl, hO8, hK8⟩
                          have HO8 := hid hO8
                          have HK8 := hid ((HKd.out).trans hK8)
                          clear hO8 hK8
                          try dsimp only
                          refine hK.out _ _ (⟨HO8.out.p3.cells 0, HO8.out.p2.cells 1, HO8.out.p2.cells 2⟩) ?_
                          clear hK K
                          try simp only [Act.put, List.setIfInBounds_toArray, List.set_cons_zero, List.set_cons_succ]
                          obtain ⟨p8, c8, rfl, -⟩ := (Strs.rd HO8.out).form
                          refine wpL_act (by rfl) (by rfl) (fun K hK => ?_)
                          go_simp
                          have HO9 := hid (HO8.out.alloc (.cells #[sV t.name] 9)).p1
                          have HK9 := hid (HK8.out.alloc (.cells #[sV t.name] 9))
                          refine hK.out _ _ ⟨HO9.out.p4.cells 0, HO9.out.p3.cells 1, HO9.out.p3.cells 2⟩ ?_
                          clear hK K
                          try simp only [Act.put, List.setIfInBounds_toArray, List.set_cons_zero, List.set_cons_succ]
                          have HO9 := hid (show Has _ (Strs (.slice p8 (S.way t.dir).length c8) (S.way t.dir) :: pt w8.heap.size (.cells #[sV t.name] 9) :: Trb q m f P S.last S.tab :: pt g12 (.cells (spC t) 93) :: pt g10 (.cells (spC s) 93) :: pt g4 (.cells (ansC (ansE 0) nilV nilV) 32) :: L) from HO9.out)
                          have hcx := HO9.out.p1.cells
                          refine wpL_act (by rfl) (by rfl) (fun K hK => ?_)
                          refine wp_append1 (.tmp 103) (.tmp 106) 30 rfl Tryz.underlying30 infoStr rfl [sV t.name] rfl HO9.out (by rfl) 1 _ (by rfl) (fun j => (hcx j).trans (by simp)) (by simp [Value.oneCell']) (le_maxLen (by have := HWL.out; omega)) (by have := HWL.out; omega) fun v10 w10 h10 hk10 => ?_
                          have HO10 := hid (strsSnoc (h10.re 3 [0, 2]) (by simp))
                          have HK10 := hid (HK9.out.trans hk10)
                          clear h10 hk10 hcx
                          refine hK.out _ _ ⟨HO10.out.p3.cells 0, HO10.out.p2.cells 1, HO10.out.p2.cells 2⟩ ?_
                          clear hK K
                          try simp only [Act.put, List.setIfInBounds_toArray, List.set_cons_zero, List.set_cons_succ]
                          obtain ⟨p10, c10, rfl, -⟩ := (Strs.rd HO10.out).form
                          generalize (S.way t.dir ++ [t.name]).length = zl at *
                          refine wpL_act (by rfl) (by rfl) (fun K hK => ?_)
                          go_simp
                          refine (HDW.out _ w10 _ HO10.out).mono ?_
                          rintro e w12 ⟨rfl, hO12, hK12⟩
                          have HO12 := hid hO12
                          have HK12 := hid ((HK10.out).trans hK12)
                          clear hO12 hK12
                          try dsimp only
                          refine hK.out _ _ (⟨HO12.out.p3.cells 0, HO12.out.p2.cells 1, HO12.out.p2.cells 2⟩) ?_
                          clear hK K
                          try simp only [Act.put, List.setIfInBounds_toArray, List.set_cons_zero, List.set_cons_succ]
                          repeat (first
                            | (refine wpL_read (by rfl) (by rfl) ?_ ?_ ?_; rotate_left; (rintro w ⟨z0, z1, z2⟩; go_simp; with_reducible rfl); simp only [Act.put, List.setIfInBounds_toArray, List.set_cons_zero, List.set_cons_succ]) | (refine wpL_skip (by rfl) ?_; simp only [Act.put, List.setIfInBounds_toArray, List.set_cons_zero, List.set_cons_succ]))
                          refine wpL_nil ?_
                          go_wp2_with fail
                          go_meet
                          exact ⟨_, rfl, rfl, hid HO12.out.drop, HK12⟩
                        · refine wpL_act (by rfl) (by rfl) (fun K hK => ?_)
                          go_simp
                          have HO7 := hid (HOd.out.alloc (.cells #[sV t.name] 9)).p1
                          have HK7 := hid (HKd.out.alloc (.cells #[sV t.name] 9))
                          refine hK.out _ _ ⟨HO7.out.p3.cells 0, HO7.out.p2.cells 1, HO7.out.p2.cells 2⟩ ?_
                          clear hK K
                          try simp only [Act.put, List.setIfInBounds_toArray, List.set_cons_zero, List.set_cons_succ]
                          refine wpL_act (by rfl) (by rfl) (fun K hK => ?_)
                          go_simp
                          refine (tWay q m f P S rk t.dir td _ _ HWY.out.2 HDX.out.2.2 HPT.out HO7.out).mono ?_
                          rintro e w8 ⟨v8, rfl, hO8, hK8⟩
                          have HO8 := hid hO8
                          have HK8 := hid ((HK7.out).trans hK8)
                          clear hO8 hK8
                          try dsimp only
                          refine hK.out _ _ (⟨HO8.out.p4.cells 0, HO8.out.p3.cells 1, HO8.out.p3.cells 2⟩) ?_
                          clear hK K
                          try simp only [Act.put, List.setIfInBounds_toArray, List.set_cons_zero, List.set_cons_succ]
                          obtain ⟨p8, c8, rfl, -⟩ := (Strs.rd HO8.out).form
                          have HO9 := hid (HO8.out.re 3 [0, 2, 1])
                          have HK9 := HK8
                          have HO9 := hid (show Has _ (Strs (.slice p8 (S.way t.dir).length c8) (S.way t.dir) :: pt w6.drew.heap.size (.cells #[sV t.name] 9) :: Trb q m f P S.last S.tab :: pt g12 (.cells (spC t) 93) :: pt g10 (.cells (spC s) 93) :: pt g4 (.cells (ansC (ansE 0) nilV nilV) 32) :: L) from HO8.out.re 3 [0, 2, 1])
                          have hcx := HO9.out.p1.cells
                          refine wpL_act (by rfl) (by rfl) (fun K hK => ?_)
                          refine wp_append1 (.tmp 103) (.tmp 106) 30 rfl Tryz.underlying30 infoStr rfl [sV t.name] rfl HO9.out (by rfl) 1 _ (by rfl) (fun j => (hcx j).trans (by simp)) (by simp [Value.oneCell']) (le_maxLen (by have := HWL.out; omega)) (by have := HWL.out; omega) fun v10 w10 h10 hk10 => ?_
                          have HO10 := hid (strsSnoc (h10.re 3 [0, 2]) (by simp))
                          have HK10 := hid (HK9.out.trans hk10)
                          clear h10 hk10 hcx
                          refine hK.out _ _ ⟨HO10.out.p3.cells 0, HO10.out.p2.cells 1, HO10.out.p2.cells 2⟩ ?_
                          clear hK K
                          try simp only [Act.put, List.setIfInBounds_toArray, List.set_cons_zero, List.set_cons_succ]
                          obtain ⟨p10, c10, rfl, -⟩ := (Strs.rd HO10.out).form
                          generalize (S.way t.dir ++ [t.name]).length = zl at *
                          refine wpL_act (by rfl) (by rfl) (fun K hK => ?_)
                          go_simp
                          refine (HDW.out _ w10 _ HO10.out).mono ?_
                          rintro e w12 ⟨rfl, hO12, hK12⟩
                          have HO12 := hid hO12
                          have HK12 := hid ((HK10.out).trans hK12)
                          clear hO12 hK12
                          try dsimp only
                          refine hK.out _ _ (⟨HO12.out.p3.cells 0, HO12.out.p2.cells 1, HO12.out.p2.cells 2⟩) ?_
                          clear hK K
                          try simp only [Act.put, List.setIfInBounds_toArray, List.set_cons_zero, List.set_cons_succ]
                          repeat (first
                            | (refine wpL_read (by rfl) (by rfl) ?_ ?_ ?_; rotate_left; (rintro w ⟨z0, z1, z2⟩; go_simp; with_reducible rfl); simp only [Act.put, List.setIfInBounds_toArray, List.set_cons_zero, List.set_cons_succ]) | (refine wpL_skip (by rfl) ?_; simp only [Act.put, List.setIfInBounds_toArray, List.set_cons_zero, List.set_cons_succ]))
                          refine wpL_nil ?_
                          go_wp2_with fail
                          go_meet
                          exact ⟨_, rfl, rfl, hid HO12.out.drop, HK12⟩
                      case rest =>
                        obtain ⟨w7, rfl, rfl, HO7, HK7⟩ := hcut
                        clear HO6 HK6 ht1 hs0
                        have ht0 : w7.cell? ⟨g12, 0, none⟩ = some (.int .i64 t.node) := HO7.out.p1.cells 0
                        have hs0 : w7.cell? ⟨g10, 0, none⟩ = some (.int .i64 s.node) := HO7.out.p2.cells 0
                        cases hdp : S.deep s.node (S.way t.dir ++ [t.name])
                        · have HDP := hid hdp
                          clear hdp
                          by_cases hts : t.node = s.node
                          · have htsb : (t.node == s.node) = true := by simp [hts]
                            have HOa := hid (show Has w7 (pt g4 (.cells (ansC (ansE 0) nilV nilV) 32) :: Trc q S :: L) from (trc_iff.2 ⟨m, f, P, HPT.out, (HO7.out).re 4 [0, 3]⟩ : Has w7 (Trc q S :: pt g4 (.cells (ansC (ansE 0) nilV nilV) 32) :: L)).re 2 [1, 0])
                            have HRR := hid (show R = (ansE 0, S) from by rw [← HR4.out, if_neg (fun h => absurd (HWI.out.symm.trans h.2) (by decide)), if_neg (fun h => absurd (HDP.out.symm.trans h.2) (by decide)), if_pos hts])
                            have hz0 : w7.cell? ⟨g4, 0, none⟩ = some (.int .i64 0) := (HOa.out).cells 0
                            have hz1 : w7.cell? ⟨g4, 1, none⟩ = some (.int .i64 0) := (HOa.out).cells 1
                            have hz2 : w7.cell? ⟨g4, 2, none⟩ = some (.int .i64 0) := (HOa.out).cells 2
                            have hz3 : w7.cell? ⟨g4, 3, none⟩ = some (.int .i64 0) := (HOa.out).cells 3
                            have hz4 : w7.cell? ⟨g4, 4, none⟩ = some (.slice none 0 0) := (HOa.out).cells 4
                            have hz5 : w7.cell? ⟨g4, 5, none⟩ = some (.slice none 0 0) := (HOa.out).cells 5
                            have hy0 := (HOa.out).thaw 0
                            have hy1 := (HOa.out).thaw 1
                            have hy2 := (HOa.out).thaw 2
                            have hy3 := (HOa.out).thaw 3
                            have hy4 := (HOa.out).thaw 4
                            have hy5 := (HOa.out).thaw 5
                            go_wp2_with fail
                            have h1 := HOa.out.ans (ansE 0) nilV nilV
                            refine bodyPost_ret (ans_result rfl rfl h1) rfl ?_
                            rw [HRR.out]
                            exact ⟨rfl, h1.drop, HK7.out.ans _ _ _ _ _ _ _⟩
                          · have htsb : (t.node == s.node) = false := by simp [hts]
                            go_wp2_with fail
                            go_meet
                            exact ⟨_, rfl, fun h => absurd (HWI.out.symm.trans h.2) (by decide), fun h => absurd (HDP.out.symm.trans h.2) (by decide), hts, HO7, HK7⟩
                        · have HDP := hid hdp
                          clear hdp
                          have HOa := hid (show Has w7 (pt g4 (.cells (ansC (ansE 0) nilV nilV) 32) :: Trc q S :: L) from (trc_iff.2 ⟨m, f, P, HPT.out, (HO7.out).re 4 [0, 3]⟩ : Has w7 (Trc q S :: pt g4 (.cells (ansC (ansE 0) nilV nilV) 32) :: L)).re 2 [1, 0])
                          have HRR := hid (show R = (ansE 11, S) from by rw [← HR4.out, if_neg (fun h => absurd (HWI.out.symm.trans h.2) (by decide)), if_pos ⟨hk, HDP.out⟩])
                          have hz0 : w7.cell? ⟨g4, 0, none⟩ = some (.int .i64 0) := (HOa.out).cells 0
                          have hz1 : w7.cell? ⟨g4, 1, none⟩ = some (.int .i64 0) := (HOa.out).cells 1
                          have hz2 : w7.cell? ⟨g4, 2, none⟩ = some (.int .i64 0) := (HOa.out).cells 2
                          have hz3 : w7.cell? ⟨g4, 3, none⟩ = some (.int .i64 0) := (HOa.out).cells 3
                          have hz4 : w7.cell? ⟨g4, 4, none⟩ = some (.slice none 0 0) := (HOa.out).cells 4
                          have hz5 : w7.cell? ⟨g4, 5, none⟩ = some (.slice none 0 0) := (HOa.out).cells 5
                          have hy0 := (HOa.out).thaw 0
                          have hy1 := (HOa.out).thaw 1
                          have hy2 := (HOa.out).thaw 2
                          have hy3 := (HOa.out).thaw 3
                          have hy4 := (HOa.out).thaw 4
                          have hy5 := (HOa.out).thaw 5
                          go_wp2_with fail
                          refine (tCode (11 : Int) w7 _ HOa.out).mono ?_
                          rintro e w15 ⟨rfl, hO15, hK15⟩
                          have HO15 := hid hO15
                          have HK15 := hid ((HK7.out).trans hK15)
                          clear hO15 hK15
                          unfold ansV ansC ansE
                          clear hz0 hz1 hz2 hz3 hz4 hz5 hy0 hy1 hy2 hy3 hy4 hy5
                          have hz0 : w15.cell? ⟨g4, 0, none⟩ = some (.int .i64 0) := (HO15.out).cells 0
                          have hz1 : w15.cell? ⟨g4, 1, none⟩ = some (.int .i64 0) := (HO15.out).cells 1
                          have hz2 : w15.cell? ⟨g4, 2, none⟩ = some (.int .i64 0) := (HO15.out).cells 2
                          have hz3 : w15.cell? ⟨g4, 3, none⟩ = some (.int .i64 0) := (HO15.out).cells 3
                          have hz4 : w15.cell? ⟨g4, 4, none⟩ = some (.slice none 0 0) := (HO15.out).cells 4
                          have hz5 : w15.cell? ⟨g4, 5, none⟩ = some (.slice none 0 0) := (HO15.out).cells 5
                          have hy0 := (HO15.out).thaw 0
                          have hy1 := (HO15.out).thaw 1
                          have hy2 := (HO15.out).thaw 2
                          have hy3 := (HO15.out).thaw 3
                          have hy4 := (HO15.out).thaw 4
                          have hy5 := (HO15.out).thaw 5
                          go_wp2_with fail
                          have h1 := ((show Has w15 (pt g4 (.cells (ansC (ansE 0) nilV nilV) 32) :: Trc q S :: L) from HO15.out)).ans (ansE (11 : Int)) nilV nilV
                          refine bodyPost_ret (ans_result rfl rfl h1) rfl ?_
                          rw [HRR.out]
                          exact ⟨rfl, h1.drop, HK15.out.ans _ _ _ _ _ _ _⟩
                    · have HWI := hid hwi
                      clear hwi
                      have HOa := hid (show Has w6 (pt g4 (.cells (ansC (ansE 0) nilV nilV) 32) :: Trc q S :: L) from (trc_iff.2 ⟨m, f, P, HPT.out, (HO6.out).re 4 [0, 3]⟩ : Has w6 (Trc q S :: pt g4 (.cells (ansC (ansE 0) nilV nilV) 32) :: L)).re 2 [1, 0])
                      have HRR := hid (show R = (ansE 2, S) from by rw [← HR4.out, if_pos ⟨hk, HWI.out⟩])
                      have hz0 : w6.cell? ⟨g4, 0, none⟩ = some (.int .i64 0) := (HOa.out).cells 0
                      have hz1 : w6.cell? ⟨g4, 1, none⟩ = some (.int .i64 0) := (HOa.out).cells 1
                      have hz2 : w6.cell? ⟨g4, 2, none⟩ = some (.int .i64 0) := (HOa.out).cells 2
                      have hz3 : w6.cell? ⟨g4, 3, none⟩ = some (.int .i64 0) := (HOa.out).cells 3
                      have hz4 : w6.cell? ⟨g4, 4, none⟩ = some (.slice none 0 0) := (HOa.out).cells 4
                      have hz5 : w6.cell? ⟨g4, 5, none⟩ = some (.slice none 0 0) := (HOa.out).cells 5
                      have hy0 := (HOa.out).thaw 0
                      have hy1 := (HOa.out).thaw 1
                      have hy2 := (HOa.out).thaw 2
                      have hy3 := (HOa.out).thaw 3
                      have hy4 := (HOa.out).thaw 4
                      have hy5 := (HOa.out).thaw 5
                      go_wp2_with fail
                      refine (tCode (2 : Int) w6 _ HOa.out).mono ?_
                      rintro e w15 ⟨rfl, hO15, hK15⟩
                      have HO15 := hid hO15
                      have HK15 := hid ((HK6.out).trans hK15)
                      clear hO15 hK15
                      unfold ansV ansC ansE
                      clear hz0 hz1 hz2 hz3 hz4 hz5 hy0 hy1 hy2 hy3 hy4 hy5
                      have hz0 : w15.cell? ⟨g4, 0, none⟩ = some (.int .i64 0) := (HO15.out).cells 0
                      have hz1 : w15.cell? ⟨g4, 1, none⟩ = some (.int .i64 0) := (HO15.out).cells 1
                      have hz2 : w15.cell? ⟨g4, 2, none⟩ = some (.int .i64 0) := (HO15.out).cells 2
                      have hz3 : w15.cell? ⟨g4, 3, none⟩ = some (.int .i64 0) := (HO15.out).cells 3
                      have hz4 : w15.cell? ⟨g4, 4, none⟩ = some (.slice none 0 0) := (HO15.out).cells 4
                      have hz5 : w15.cell? ⟨g4, 5, none⟩ = some (.slice none 0 0) := (HO15.out).cells 5
                      have hy0 := (HO15.out).thaw 0
                      have hy1 := (HO15.out).thaw 1
                      have hy2 := (HO15.out).thaw 2
                      have hy3 := (HO15.out).thaw 3
                      have hy4 := (HO15.out).thaw 4
                      have hy5 := (HO15.out).thaw 5
                      go_wp2_with fail
                      have h1 := ((show Has w15 (pt g4 (.cells (ansC (ansE 0) nilV nilV) 32) :: Trc q S :: L) from HO15.out)).ans (ansE (2 : Int)) nilV nilV
                      refine bodyPost_ret (ans_result rfl rfl h1) rfl ?_
                      rw [HRR.out]
                      exact ⟨rfl, h1.drop, HK15.out.ans _ _ _ _ _ _ _⟩
                case rest =>
                  obtain ⟨w7, rfl, hnw, hndp, hts, HO7, HK7⟩ := hcut
                  clear HO6 HK6
                  have HR5 := hid (show (if t.node ≠ 0 ∧ x.kind = 2 ∧ (S.at_ t.node).kind ≠ 2 then (ansE 7, S) else if t.node ≠ 0 ∧ x.kind = 2 ∧ 0 < (S.at_ t.node).names.length then (ansE 9, S) else if t.node ≠ 0 ∧ x.kind ≠ 2 ∧ (S.at_ t.node).kind = 2 then (ansE 8, S) else (ansE 0, (if t.node ≠ 0 then S.take t.dir t.name else S).mv1 s t)) = R from by
                    have h := HR4.out
                    rw [if_neg hnw, if_neg hndp, if_neg hts] at h
                    exact h)
                  clear HR4 hndp
                  obtain ⟨S1, hS1⟩ : ∃ S1, (if t.node ≠ 0 then S.take t.dir t.name else S) = S1 := ⟨_, rfl⟩
                  rw [hS1] at HR5
                  have HS1 := hid hS1
                  have HNW := hid hnw
                  clear hS1 hnw
                  have htd0 : w7.cell? ⟨g12, 0, none⟩ = some (.int .i64 t.node) := HO7.out.p1.cells 0
                  go_upto_if 120 with fail
                  go_cut [] (fun wx => ∃ (w8 : World) (P1 : List Pn), w8 = wx ∧ R = (ansE 0, S1.mv1 s t) ∧ (pnN P1 = S1.nodes ∧ S1.tab.length = 16) ∧ (∀ e ∈ P1, ∃ y, (e.1, e.2.1, y) ∈ P) ∧ ((∃ d1, fnd S1.nodes s.dir = some d1 ∧ d1.kind = 2) ∧ fnd S1.nodes s.node = some x ∧ ∃ td1, fnd S1.nodes t.dir = some td1 ∧ td1.kind = 2 ∧ td1.names.length < 1000000) ∧ Hid (Has w8 (Trb q m f P1 S1.last S1.tab :: pt g12 (.cells (spC t) 93) :: pt g10 (.cells (spC s) 93) :: pt g4 (.cells (ansC (ansE 0) nilV nilV) 32) :: L)) ∧ Hid (Keep w w8))
                  case first => as_aux_lemma =>
                    by_cases ht : t.node = 0
                    · have htb : (t.node != 0) = false := by simp [ht]
                      have hS : S1 = S := by rw [← HS1.out, if_neg (fun h => h ht)]
                      have hRR : R = (ansE 0, S1.mv1 s t) := by rw [← HR5.out, if_neg (fun h => h.1 ht), if_neg (fun h => h.1 ht), if_neg (fun h => h.1 ht)]
                      subst hS
                      go_wp2_with fail
                      go_meet
                      exact ⟨_, P, rfl, hRR, HPT.out, fun e he => ⟨e.2.2, he⟩, ⟨⟨d, HDX.out.1.1, hdk⟩, HDX.out.2.1, td, HDX.out.2.2, htdk, htn⟩, HO7, HK7⟩
                    · have htb : (t.node != 0) = true := by simpa using ht
                      obtain ⟨td', y, htd', -, htc, hy, hne2, hln2, hlk2, hnl2⟩ := HKT.out ht
                      have htde : td' = td := by have h := HDX.out.2.2; rw [htd'] at h; exact Option.some.inj h
                      subst htde
                      have hay : S.at_ t.node = y := by unfold Tre.at_; rw [hy]; rfl
                      have HR6 := hid (show (if x.kind = 2 ∧ y.kind ≠ 2 then (ansE 7, S) else if x.kind = 2 ∧ 0 < y.names.length then (ansE 9, S) else if x.kind ≠ 2 ∧ y.kind = 2 then (ansE 8, S) else (ansE 0, S1.mv1 s t)) = R from by
                        have h := HR5.out
                        rw [hay] at h
                        simpa [ht] using h)
                      have hS : S1 = S.take t.dir t.name := by rw [← HS1.out, if_pos ht]
                      have HFT := hid (show s.dir ≠ t.node → (∃ d1, fnd S1.nodes s.dir = some d1 ∧ d1.kind = 2) ∧ fnd S1.nodes s.node = some x ∧ ∃ td1, fnd S1.nodes t.dir = some td1 ∧ td1.kind = 2 ∧ td1.names.length < 1000000 from fun hsd => by
                        rw [hS]
                        have h1 := take_fnd HDX.out.2.2 htc
                        refine ⟨?_, ?_, ?_⟩
                        · rw [h1 _ hsd]
                          split
                          · exact ⟨_, rfl, htdk⟩
                          · exact ⟨d, HDX.out.1.1, hdk⟩
                        · rw [h1 _ (fun e => hts e.symm), if_neg]
                          · exact HDX.out.2.1
                          · intro e
                            have h2 := HDX.out.2.1
                            rw [e, HDX.out.2.2] at h2
                            have h3 := Option.some.inj h2
                            exact HNW.out ⟨by rw [← h3]; exact htdk, by rw [e]; exact within_refl _ _⟩
                        · rw [h1 _ hne2, if_pos rfl]
                          exact ⟨_, rfl, htdk, Nat.lt_of_le_of_lt (delA_le _ _) htn⟩)
                      have hyP := hy
                      rw [← HPT.out.1] at hyP
                      obtain ⟨by_, hby, hly⟩ := Trb.look HO7.out.drew hyP
                      have hqd := (Trb.cells HO7.out.drew).1
                      have htd0d : w7.drew.cell? ⟨g12, 0, none⟩ = some (.int .i64 t.node) := htd0
                      go_upto_region 24 with fail
                      refine region_text (fun w' => w'.cell? ⟨q, 0, none⟩ = some (.map (some m)) ∧ w'.cell? ⟨g12, 0, none⟩ = some (.int .i64 t.node) ∧ (Instr.lookup tNo (.map (some m)) (.int .i64 t.node) false).run Tryz.prog w' = .ok (.pointer (some ⟨by_, 0, none⟩)) w') (by kernel_rfl) (by kernel_rfl) ⟨hqd, htd0d, hly⟩ ?_
                      repeat (first
                        | (refine wpL_read (by rfl) (by rfl) ?_ ?_ ?_; rotate_left; (rintro w ⟨z0, z1, z2⟩; go_simp; with_reducible rfl); simp only [Act.put, List.setIfInBounds_toArray, List.set_cons_zero, List.set_cons_succ]) | (refine wpL_skip (by rfl) ?_; simp only [Act.put, List.setIfInBounds_toArray, List.set_cons_zero, List.set_cons_succ]))
                      refine wpL_nil ?_
                      have HO8 := hid HO7.out.drew
                      have HK8 := hid HK7.out.drew
                      clear hqd HO7 HK7 htd0 htd0d hly hyP
                      generalize w7.drew = w8 at *
                      obtain ⟨nm2, hy0, hy3, hylen, -⟩ := Trb.facts HO8.out hby
                      have htd1 : w8.cell? ⟨g12, 1, none⟩ = some (.int .i64 t.dir) := HO8.out.p1.cells 1
                      have htd2 : w8.cell? ⟨g12, 2, none⟩ = some (sV t.name) := HO8.out.p1.cells 2
                      cases mv
                      · have hk : x.kind ≠ 2 := by simpa using HMV.out
                        by_cases hyk : y.kind = 2
                        · have hyb : (y.kind == 2) = true := by simp [hyk]
                          have HOa := hid (show Has w8 (pt g4 (.cells (ansC (ansE 0) nilV nilV) 32) :: Trc q S :: L) from (trc_iff.2 ⟨m, f, P, HPT.out, HO8.out.re 4 [0, 3]⟩ : Has w8 (Trc q S :: pt g4 (.cells (ansC (ansE 0) nilV nilV) 32) :: L)).re 2 [1, 0])
                          have HRR := hid (show R = (ansE 8, S) from by rw [← HR6.out, if_neg (fun h => hk h.1), if_neg (fun h => hk h.1), if_pos ⟨hk, hyk⟩])
                          have hz0 : w8.cell? ⟨g4, 0, none⟩ = some (.int .i64 0) := (HOa.out).cells 0
                          have hz1 : w8.cell? ⟨g4, 1, none⟩ = some (.int .i64 0) := (HOa.out).cells 1
                          have hz2 : w8.cell? ⟨g4, 2, none⟩ = some (.int .i64 0) := (HOa.out).cells 2
                          have hz3 : w8.cell? ⟨g4, 3, none⟩ = some (.int .i64 0) := (HOa.out).cells 3
                          have hz4 : w8.cell? ⟨g4, 4, none⟩ = some (.slice none 0 0) := (HOa.out).cells 4
                          have hz5 : w8.cell? ⟨g4, 5, none⟩ = some (.slice none 0 0) := (HOa.out).cells 5
                          have hy0 := (HOa.out).thaw 0
                          have hy1 := (HOa.out).thaw 1
                          have hy2 := (HOa.out).thaw 2
                          have hy3 := (HOa.out).thaw 3
                          have hy4 := (HOa.out).thaw 4
                          have hy5 := (HOa.out).thaw 5
                          go_wp2_with fail
                          refine (tCode (8 : Int) w8 _ HOa.out).mono ?_
                          rintro e w15 ⟨rfl, hO15, hK15⟩
                          have HO15 := hid hO15
                          have HK15 := hid ((HK8.out).trans hK15)
                          clear hO15 hK15
                          unfold ansV ansC ansE
                          clear hz0 hz1 hz2 hz3 hz4 hz5 hy0 hy1 hy2 hy3 hy4 hy5
                          have hz0 : w15.cell? ⟨g4, 0, none⟩ = some (.int .i64 0) := (HO15.out).cells 0
                          have hz1 : w15.cell? ⟨g4, 1, none⟩ = some (.int .i64 0) := (HO15.out).cells 1
                          have hz2 : w15.cell? ⟨g4, 2, none⟩ = some (.int .i64 0) := (HO15.out).cells 2
                          have hz3 : w15.cell? ⟨g4, 3, none⟩ = some (.int .i64 0) := (HO15.out).cells 3
                          have hz4 : w15.cell? ⟨g4, 4, none⟩ = some (.slice none 0 0) := (HO15.out).cells 4
                          have hz5 : w15.cell? ⟨g4, 5, none⟩ = some (.slice none 0 0) := (HO15.out).cells 5
                          have hy0 := (HO15.out).thaw 0
                          have hy1 := (HO15.out).thaw 1
                          have hy2 := (HO15.out).thaw 2
                          have hy3 := (HO15.out).thaw 3
                          have hy4 := (HO15.out).thaw 4
                          have hy5 := (HO15.out).thaw 5
                          go_wp2_with fail
                          have h1 := ((show Has w15 (pt g4 (.cells (ansC (ansE 0) nilV nilV) 32) :: Trc q S :: L) from HO15.out)).ans (ansE (8 : Int)) nilV nilV
                          refine bodyPost_ret (ans_result rfl rfl h1) rfl ?_
                          rw [HRR.out]
                          exact ⟨rfl, h1.drop, HK15.out.ans _ _ _ _ _ _ _⟩
                        · have hyb : (y.kind == 2) = false := by simp [hyk]
                          have HSD : s.dir ≠ t.node := by
                            intro e
                            have h2 := HDX.out.1.1
                            rw [e, hy] at h2
                            rw [Option.some.inj h2] at hyk
                            exact hyk hdk
                          have hRR : R = (ansE 0, S1.mv1 s t) := by rw [← HR6.out, if_neg (fun h => hk h.1), if_neg (fun h => hk h.1), if_neg (fun h => hyk h.2)]
                          go_wp2_with fail
                          refine (tTakeB q m f P S t.dir t.name t.node _ y w8 _ HDX.out.2.2 htc hy hne2 htdk hln2 hlk2.1 hlk2.2 HPT.out HO8.out).mono ?_
                          rintro e w9 ⟨rfl, P1, hp1, hO9, hK9⟩
                          have HK9 := hid (HK8.out.trans hK9)
                          clear htd1 htd2 hy0 hy3 hylen
                          go_wp2_with fail
                          go_meet
                          rw [← hS] at hp1 hO9
                          exact ⟨_, P1, rfl, hRR, hp1.1, hp1.2, HFT.out HSD, hid hO9, HK9⟩
                      · have hk : x.kind = 2 := by simpa using HMV.out
                        by_cases hyk : y.kind = 2
                        · have hyb : (y.kind != 2) = false := by simp [hyk]
                          by_cases hyn : 0 < y.names.length
                          · have hyni : (0 : Int) < (y.names.length : Int) := by omega
                            have HOa := hid (show Has w8 (pt g4 (.cells (ansC (ansE 0) nilV nilV) 32) :: Trc q S :: L) from (trc_iff.2 ⟨m, f, P, HPT.out, HO8.out.re 4 [0, 3]⟩ : Has w8 (Trc q S :: pt g4 (.cells (ansC (ansE 0) nilV nilV) 32) :: L)).re 2 [1, 0])
                            have HRR := hid (show R = (ansE 9, S) from by rw [← HR6.out, if_neg (fun h => h.2 hyk), if_pos ⟨hk, hyn⟩])
                            have hz0 : w8.cell? ⟨g4, 0, none⟩ = some (.int .i64 0) := (HOa.out).cells 0
                            have hz1 : w8.cell? ⟨g4, 1, none⟩ = some (.int .i64 0) := (HOa.out).cells 1
                            have hz2 : w8.cell? ⟨g4, 2, none⟩ = some (.int .i64 0) := (HOa.out).cells 2
                            have hz3 : w8.cell? ⟨g4, 3, none⟩ = some (.int .i64 0) := (HOa.out).cells 3
                            have hz4 : w8.cell? ⟨g4, 4, none⟩ = some (.slice none 0 0) := (HOa.out).cells 4
                            have hz5 : w8.cell? ⟨g4, 5, none⟩ = some (.slice none 0 0) := (HOa.out).cells 5
                            have hy0 := (HOa.out).thaw 0
                            have hy1 := (HOa.out).thaw 1
                            have hy2 := (HOa.out).thaw 2
                            have hy3 := (HOa.out).thaw 3
                            have hy4 := (HOa.out).thaw 4
                            have hy5 := (HOa.out).thaw 5
                            go_wp2_with fail
                            refine (tCode (9 : Int) w8 _ HOa.out).mono ?_
                            rintro e w15 ⟨rfl, hO15, hK15⟩
                            have HO15 := hid hO15
                            have HK15 := hid ((HK8.out).trans hK15)
                            clear hO15 hK15
                            unfold ansV ansC ansE
                            clear hz0 hz1 hz2 hz3 hz4 hz5 hy0 hy1 hy2 hy3 hy4 hy5
                            have hz0 : w15.cell? ⟨g4, 0, none⟩ = some (.int .i64 0) := (HO15.out).cells 0
                            have hz1 : w15.cell? ⟨g4, 1, none⟩ = some (.int .i64 0) := (HO15.out).cells 1
                            have hz2 : w15.cell? ⟨g4, 2, none⟩ = some (.int .i64 0) := (HO15.out).cells 2
                            have hz3 : w15.cell? ⟨g4, 3, none⟩ = some (.int .i64 0) := (HO15.out).cells 3
                            have hz4 : w15.cell? ⟨g4, 4, none⟩ = some (.slice none 0 0) := (HO15.out).cells 4
                            have hz5 : w15.cell? ⟨g4, 5, none⟩ = some (.slice none 0 0) := (HO15.out).cells 5
                            have hy0 := (HO15.out).thaw 0
                            have hy1 := (HO15.out).thaw 1
                            have hy2 := (HO15.out).thaw 2
                            have hy3 := (HO15.out).thaw 3
                            have hy4 := (HO15.out).thaw 4
                            have hy5 := (HO15.out).thaw 5
                            go_wp2_with fail
                            have h1 := ((show Has w15 (pt g4 (.cells (ansC (ansE 0) nilV nilV) 32) :: Trc q S :: L) from HO15.out)).ans (ansE (9 : Int)) nilV nilV
                            refine bodyPost_ret (ans_result rfl rfl h1) rfl ?_
                            rw [HRR.out]
                            exact ⟨rfl, h1.drop, HK15.out.ans _ _ _ _ _ _ _⟩
                          · have hyni : ¬ (0 : Int) < (y.names.length : Int) := by omega
                            have HSD : s.dir ≠ t.node := by
                              intro e
                              have h2 := HDX.out.1.1
                              rw [e, hy] at h2
                              rw [Option.some.inj h2] at hyn
                              have h3 := List.length_pos_of_mem (fnd_some HDX.out.1.2)
                              omega
                            have hRR : R = (ansE 0, S1.mv1 s t) := by rw [← HR6.out, if_neg (fun h => h.2 hyk), if_neg (fun h => hyn h.2), if_neg (fun h => h.1 hk)]
                            go_wp2_with fail
                            refine (tTakeB q m f P S t.dir t.name t.node _ y w8 _ HDX.out.2.2 htc hy hne2 htdk hln2 hlk2.1 hlk2.2 HPT.out HO8.out).mono ?_
                            rintro e w9 ⟨rfl, P1, hp1, hO9, hK9⟩
                            have HK9 := hid (HK8.out.trans hK9)
                            clear htd1 htd2 hy0 hy3 hylen
                            go_wp2_with fail
                            go_meet
                            rw [← hS] at hp1 hO9
                            exact ⟨_, P1, rfl, hRR, hp1.1, hp1.2, HFT.out HSD, hid hO9, HK9⟩
                        · have hyb : (y.kind != 2) = true := by simpa using hyk
                          have HOa := hid (show Has w8 (pt g4 (.cells (ansC (ansE 0) nilV nilV) 32) :: Trc q S :: L) from (trc_iff.2 ⟨m, f, P, HPT.out, HO8.out.re 4 [0, 3]⟩ : Has w8 (Trc q S :: pt g4 (.cells (ansC (ansE 0) nilV nilV) 32) :: L)).re 2 [1, 0])
                          have HRR := hid (show R = (ansE 7, S) from by rw [← HR6.out, if_pos ⟨hk, hyk⟩])
                          have hz0 : w8.cell? ⟨g4, 0, none⟩ = some (.int .i64 0) := (HOa.out).cells 0
                          have hz1 : w8.cell? ⟨g4, 1, none⟩ = some (.int .i64 0) := (HOa.out).cells 1
                          have hz2 : w8.cell? ⟨g4, 2, none⟩ = some (.int .i64 0) := (HOa.out).cells 2
                          have hz3 : w8.cell? ⟨g4, 3, none⟩ = some (.int .i64 0) := (HOa.out).cells 3
                          have hz4 : w8.cell? ⟨g4, 4, none⟩ = some (.slice none 0 0) := (HOa.out).cells 4
                          have hz5 : w8.cell? ⟨g4, 5, none⟩ = some (.slice none 0 0) := (HOa.out).cells 5
                          have hy0 := (HOa.out).thaw 0
                          have hy1 := (HOa.out).thaw 1
                          have hy2 := (HOa.out).thaw 2
                          have hy3 := (HOa.out).thaw 3
                          have hy4 := (HOa.out).thaw 4
                          have hy5 := (HOa.out).thaw 5
                          go_wp2_with fail
                          refine (tCode (7 : Int) w8 _ HOa.out).mono ?_
                          rintro e w15 ⟨rfl, hO15, hK15⟩
                          have HO15 := hid hO15
                          have HK15 := hid ((HK8.out).trans hK15)
                          clear hO15 hK15
                          unfold ansV ansC ansE
                          clear hz0 hz1 hz2 hz3 hz4 hz5 hy0 hy1 hy2 hy3 hy4 hy5
                          have hz0 : w15.cell? ⟨g4, 0, none⟩ = some (.int .i64 0) := (HO15.out).cells 0
                          have hz1 : w15.cell? ⟨g4, 1, none⟩ = some (.int .i64 0) := (HO15.out).cells 1
                          have hz2 : w15.cell? ⟨g4, 2, none⟩ = some (.int .i64 0) := (HO15.out).cells 2
                          have hz3 : w15.cell? ⟨g4, 3, none⟩ = some (.int .i64 0) := (HO15.out).cells 3
                          have hz4 : w15.cell? ⟨g4, 4, none⟩ = some (.slice none 0 0) := (HO15.out).cells 4
                          have hz5 : w15.cell? ⟨g4, 5, none⟩ = some (.slice none 0 0) := (HO15.out).cells 5
                          have hy0 := (HO15.out).thaw 0
                          have hy1 := (HO15.out).thaw 1
                          have hy2 := (HO15.out).thaw 2
                          have hy3 := (HO15.out).thaw 3
                          have hy4 := (HO15.out).thaw 4
                          have hy5 := (HO15.out).thaw 5
                          go_wp2_with fail
                          have h1 := ((show Has w15 (pt g4 (.cells (ansC (ansE 0) nilV nilV) 32) :: Trc q S :: L) from HO15.out)).ans (ansE (7 : Int)) nilV nilV
                          refine bodyPost_ret (ans_result rfl rfl h1) rfl ?_
                          rw [HRR.out]
                          exact ⟨rfl, h1.drop, HK15.out.ans _ _ _ _ _ _ _⟩
                  case rest => as_aux_lemma =>
                    obtain ⟨w8, P1, rfl, hRR, hPT1, hsub, ⟨⟨d1, hd1, hd1k⟩, hx1, td1, htd1, htd1k, htd1n⟩, HO8, HK8⟩ := hcut
                    clear HO7 HK7 htd0 HR5
                    obtain ⟨b1, R1, hperm⟩ : ∃ b1 R1, P1.Perm ((s.dir, b1, d1) :: (s.node, b, x) :: R1) := by
                      have h1 := hd1
                      have h2 := hx1
                      rw [← hPT1.1] at h1 h2
                      obtain ⟨b1, b2, R1, hp⟩ := pn_split2 h1 h2 hne
                      obtain ⟨y', hy'⟩ := hsub (s.node, b2, x) (hp.mem_iff.2 (by simp))
                      have h3 := fnd_mem HNDP.out hy'
                      rw [fnd_mem HNDP.out HB.out] at h3
                      have h4 := congrArg Prod.fst (Option.some.inj h3)
                      dsimp only at h4
                      subst h4
                      exact ⟨b1, R1, hp⟩
                    have HND1 := hid (Trb.nodup HO8.out)
                    have h1 := (Trg.pullP (Trg.of HO8.out) hperm).re 2 [1, 0]
                    have h2 := Trg.pullP h1 (.refl _)
                    obtain ⟨dv2, wv2, nm2, hnm2, h3⟩ := ndc_iff.1 h2
                    obtain ⟨dv, wv, nm, hnm, h4⟩ := ndc_iff.1 (h3.re 6 [5, 0, 1, 2, 3, 4])
                    obtain ⟨mm, rfl⟩ := hnm hd1k
                    have HOo := hid (show Has w8 (Mk kStr vInt mm d1.names :: pt b1 (.cells (nodC d1 dv wv (some mm)) 83) :: Dat d1.kind dv d1.data :: Bools wv d1.wr :: pt b (.cells (nodC x dv2 wv2 nm2) 83) :: Dat x.kind dv2 x.data :: Bools wv2 x.wr :: Nms nm2 x.names :: Trg q m f P1 S1.last S1.tab R1 :: pt g12 (.cells (spC t) 93) :: pt g10 (.cells (spC s) 93) :: pt g4 (.cells (ansC (ansE 0) nilV nilV) 32) :: L) from h4.re 4 [3, 0, 1, 2])
                    have HNM2 := hid hnm2
                    have HPM := hid hperm
                    have HX1 := hid (And.intro hd1 (And.intro hx1 htd1))
                    have HPT1 := hid hPT1
                    have HRR0 := hid hRR
                    have HSS := hid (show ∀ (w' : World) (ns : List (Str × Int)), Has w' (Mk kStr vInt mm ns :: pt b1 (.cells (nodC d1 dv wv (some mm)) 83) :: Dat d1.kind dv d1.data :: Bools wv d1.wr :: pt b (.cells (nodC x dv2 wv2 nm2) 83) :: Dat x.kind dv2 x.data :: Bools wv2 x.wr :: Nms nm2 x.names :: Trg q m f P1 S1.last S1.tab R1 :: pt g12 (.cells (spC t) 93) :: pt g10 (.cells (spC s) 93) :: pt g4 (.cells (ansC (ansE 0) nilV nilV) 32) :: L) → w'.cell? ⟨q, 0, none⟩ = some (.map (some m)) ∧ w'.cell? ⟨g10, 1, none⟩ = some (.int .i64 s.dir) ∧ w'.cell? ⟨g10, 2, none⟩ = some (sV s.name) ∧ (Instr.lookup tNo (.map (some m)) (.int .i64 s.dir) false).run Tryz.prog w' = .ok (.pointer (some ⟨b1, 0, none⟩)) w' ∧ w'.cell? ⟨b1, 3, none⟩ = some (.map (some mm)) from fun w' ns h => ⟨(Trg.cells (h.re 9 [8])).1, (h.re 11 [10]).cells 1, (h.re 11 [10]).cells 2, Trg.look (x := d1) (h.re 9 [8]) (hperm.mem_iff.2 (by simp)), h.p1.cells 3⟩)
                    clear h1 h2 h3 h4 hnm hnm2 hperm hd1 hx1 htd1 hPT1 hsub hRR
                    have hsl : s.name.length ≤ maxLen := Nat.le_trans hln (le_maxLen (by omega))
                    have wx : IntKind.i64.wrap (x.links - 1) = x.links - 1 := wrapk_in _ (by have := hlk; omega)
                    go_upto_region 32 with fail
                    refine region_text (fun w' => w'.cell? ⟨q, 0, none⟩ = some (.map (some m)) ∧ w'.cell? ⟨g10, 1, none⟩ = some (.int .i64 s.dir) ∧ w'.cell? ⟨g10, 2, none⟩ = some (sV s.name) ∧ (Instr.lookup tNo (.map (some m)) (.int .i64 s.dir) false).run Tryz.prog w' = .ok (.pointer (some ⟨b1, 0, none⟩)) w' ∧ w'.cell? ⟨b1, 3, none⟩ = some (.map (some mm))) (by kernel_rfl) (by kernel_rfl) (HSS.out _ _ HOo.out.drew) ?_
                    repeat (first
                      | (refine wpL_read (by rfl) (by rfl) ?_ ?_ ?_; rotate_left; (rintro w ⟨z0, z1, z2, z3, z4⟩; go_simp; with_reducible rfl); simp only [Act.put, List.setIfInBounds_toArray, List.set_cons_zero, List.set_cons_succ]) | (refine wpL_skip (by rfl) ?_; simp only [Act.put, List.setIfInBounds_toArray, List.set_cons_zero, List.set_cons_succ]))
                    refine wpL_act (by rfl) (by rfl) (fun K hK => ?_)
                    refine wp_mkDel HOo.out.drew tNm undNm _ _ rfl rfl s.name hsl rfl ?_
                    intro w9 hO9 hK9
                    refine hK.out _ _ (HSS.out _ _ hO9) ?_
                    clear hK K
                    try simp only [Act.put, List.setIfInBounds_toArray, List.set_cons_zero, List.set_cons_succ]
                    have HO9 := hid hO9
                    have HK9 := hid (HK8.out.drew.trans hK9)
                    clear hO9 hK9 HOo HO8 HK8
                    refine wpL_nil ?_
                    have hy5 : w9.cell? ⟨b, 5, none⟩ = some (.int .i64 x.links) := (HO9.out.re 5 [4]).cells 5
                    have hz5 := (HO9.out.re 5 [4]).thaw 5
                    go_upto_region 34 with fail
                    obtain ⟨S2, hS2⟩ : ∃ S2, (S1.setN s.dir (Tre.dirTake d1 s.name)).setN s.node { x with links := x.links - 1 } = S2 := ⟨_, rfl⟩
                    have HO10 := hid (show Has (w9.setCell ⟨b, 5, none⟩ (.int .i64 (x.links - 1))) (Trc q S2 :: pt g12 (.cells (spC t) 93) :: pt g10 (.cells (spC s) 93) :: pt g4 (.cells (ansC (ansE 0) nilV nilV) 32) :: L) from by
                      have h0 : Has (w9.setCell ⟨b, 5, none⟩ (.int .i64 (x.links - 1))) (pt b (.cells (nodC { x with links := x.links - 1 } dv2 wv2 nm2) 83) :: pt b1 (.cells (nodC (Tre.dirTake d1 s.name) dv wv (some mm)) 83) :: Mk kStr vInt mm (delA d1.names s.name) :: Dat d1.kind dv d1.data :: Bools wv d1.wr :: Dat x.kind dv2 x.data :: Bools wv2 x.wr :: Nms nm2 x.names :: Trg q m f P1 S1.last S1.tab R1 :: pt g12 (.cells (spC t) 93) :: pt g10 (.cells (spC s) 93) :: pt g4 (.cells (ansC (ansE 0) nilV nilV) 32) :: L) := (HO9.out.re 5 [4, 1, 0, 2, 3]).set 5 (.int .i64 (x.links - 1))
                      have g1 : Has _ (Ndc b { x with links := x.links - 1 } :: pt b1 (.cells (nodC (Tre.dirTake d1 s.name) dv wv (some mm)) 83) :: Mk kStr vInt mm (delA d1.names s.name) :: Dat d1.kind dv d1.data :: Bools wv d1.wr :: Trg q m f P1 S1.last S1.tab R1 :: pt g12 (.cells (spC t) 93) :: pt g10 (.cells (spC s) 93) :: pt g4 (.cells (ansC (ansE 0) nilV nilV) 32) :: L) := ndc_iff.2 ⟨dv2, wv2, nm2, HNM2.out, h0.re 8 [0, 5, 6, 7, 1, 2, 3, 4]⟩
                      have g2 : Has _ (Ndc b1 (Tre.dirTake d1 s.name) :: Ndc b { x with links := x.links - 1 } :: Trg q m f P1 S1.last S1.tab R1 :: pt g12 (.cells (spC t) 93) :: pt g10 (.cells (spC s) 93) :: pt g4 (.cells (ansC (ansE 0) nilV nilV) 32) :: L) := ndc_iff.2 ⟨dv, wv, some mm, fun _ => ⟨mm, rfl⟩, g1.re 5 [1, 3, 4, 2, 0]⟩
                      have g3 := Trg.push s.node (g2.re 3 [1, 2, 0])
                      have g4 := Trg.push s.dir (g3.re 2 [1, 0])
                      rw [← hS2]
                      refine Trg.close (P := P1.map (rep2 s.dir (Tre.dirTake d1 s.name) s.node { x with links := x.links - 1 })) g4 (rep2_perm HPM.out HND1.out hne).symm rep2_pnB ?_ rfl rfl HPT1.out.2
                      rw [rep2_pnN (by rw [pnN_keys]; exact (HPM.out.map Prod.fst).mem_iff.2 (by simp)) (by rw [pnN_keys]; exact (HPM.out.map Prod.fst).mem_iff.2 (by simp)), HPT1.out.1]
                      rfl)
                    have HK10 := hid (HK9.out.set ⟨b, 5, none⟩ (.int .i64 (x.links - 1)))
                    have HMV1 := hid (show S1.mv1 s t = S2.add t.dir t.name s.node from by
                      have a1 : S1.at_ s.dir = d1 := by unfold Tre.at_; rw [HX1.out.1]; rfl
                      have a2 : S1.at_ s.node = x := by unfold Tre.at_; rw [HX1.out.2.1]; rfl
                      rw [← hS2]
                      unfold Tre.mv1
                      rw [a1, a2])
                    have htds : t.dir ≠ s.node := by
                      intro e
                      have h2 := HDX.out.2.2
                      rw [e, HDX.out.2.1] at h2
                      exact HNW.out ⟨by rw [Option.some.inj h2]; exact htdk, by rw [e]; exact within_refl _ _⟩
                    obtain ⟨td2, htd2, htd2k, htd2n⟩ : ∃ td2, fnd S2.nodes t.dir = some td2 ∧ td2.kind = 2 ∧ td2.names.length < 1000000 := by
                      rw [← hS2, setN_fnd, if_neg htds, setN_fnd]
                      by_cases e : t.dir = s.dir
                      · rw [if_pos e]
                        refine ⟨_, rfl, hd1k, ?_⟩
                        have h2 := HX1.out.2.2
                        rw [e, HX1.out.1] at h2
                        rw [← Option.some.inj h2] at htd1n
                        exact Nat.lt_of_le_of_lt (delA_le _ _) htd1n
                      · rw [if_neg e]
                        exact ⟨td1, HX1.out.2.2, htd1k, htd1n⟩
                    have hx2 : fnd S2.nodes s.node = some { x with links := x.links - 1 } := by rw [← hS2, setN_fnd, if_pos rfl]
                    clear HO9 HK9 hy5 hz5 HSS wx hS2
                    generalize w9.setCell ⟨b, 5, none⟩ (.int .i64 (x.links - 1)) = w10 at *
                    have hc1 : w10.cell? ⟨g12, 1, none⟩ = some (.int .i64 t.dir) := HO10.out.p1.cells 1
                    have hc2 : w10.cell? ⟨g12, 2, none⟩ = some (sV t.name) := HO10.out.p1.cells 2
                    have hc3 : w10.cell? ⟨g10, 0, none⟩ = some (.int .i64 s.node) := HO10.out.p2.cells 0
                    go_wp2_with fail
                    refine (tAdd q S2 t.dir t.name s.node td2 _ w10 (pt g4 (.cells (ansC (ansE 0) nilV nilV) 32) :: L) htd2 hx2 htds htd2k htl htd2n (by show 0 ≤ x.links - 1; have := HPOS.out; omega) (by show x.links - 1 < 1000000; have := hlk; omega) (HO10.out.re 4 [0, 3])).mono ?_
                    rintro e w11 ⟨rfl, hO11, hK11⟩
                    have HO11 := hid hO11
                    have HK11 := hid ((HK10.out).trans hK11)
                    clear hO11 hK11
                    try dsimp only
                    clear HO10 HK10 hc1 hc2 hc3
                    have HRR := hid (show R = (ansE 0, S2.add t.dir t.name s.node) from by rw [HRR0.out, HMV1.out])
                    have HOz := hid (show Has w11 (pt g4 (.cells (ansC (ansE 0) nilV nilV) 32) :: Trc q (S2.add t.dir t.name s.node) :: L) from HO11.out.re 2 [1, 0])
                    have hz0 : w11.cell? ⟨g4, 0, none⟩ = some (.int .i64 0) := (HOz.out).cells 0
                    have hz1 : w11.cell? ⟨g4, 1, none⟩ = some (.int .i64 0) := (HOz.out).cells 1
                    have hz2 : w11.cell? ⟨g4, 2, none⟩ = some (.int .i64 0) := (HOz.out).cells 2
                    have hz3 : w11.cell? ⟨g4, 3, none⟩ = some (.int .i64 0) := (HOz.out).cells 3
                    have hz4 : w11.cell? ⟨g4, 4, none⟩ = some (.slice none 0 0) := (HOz.out).cells 4
                    have hz5 : w11.cell? ⟨g4, 5, none⟩ = some (.slice none 0 0) := (HOz.out).cells 5
                    have hy0 := (HOz.out).thaw 0
                    have hy1 := (HOz.out).thaw 1
                    have hy2 := (HOz.out).thaw 2
                    have hy3 := (HOz.out).thaw 3
                    have hy4 := (HOz.out).thaw 4
                    have hy5 := (HOz.out).thaw 5
                    go_wp2_with fail
                    have h1 := HOz.out.ans (ansE 0) nilV nilV
                    refine bodyPost_ret (ans_result rfl rfl h1) rfl ?_
                    rw [HRR.out]
                    exact ⟨rfl, h1.drop, HK11.out.ans _ _ _ _ _ _ _⟩
              · have he3b : (e3 != 0) = true := by simpa using he3
                have HRR := hid (show R = (ansE e3, S) from by rw [← HR3.out, if_pos he3])
                have hz0 : w5.cell? ⟨g4, 0, none⟩ = some (.int .i64 0) := (HOa.out).cells 0
                have hz1 : w5.cell? ⟨g4, 1, none⟩ = some (.int .i64 0) := (HOa.out).cells 1
                have hz2 : w5.cell? ⟨g4, 2, none⟩ = some (.int .i64 0) := (HOa.out).cells 2
                have hz3 : w5.cell? ⟨g4, 3, none⟩ = some (.int .i64 0) := (HOa.out).cells 3
                have hz4 : w5.cell? ⟨g4, 4, none⟩ = some (.slice none 0 0) := (HOa.out).cells 4
                have hz5 : w5.cell? ⟨g4, 5, none⟩ = some (.slice none 0 0) := (HOa.out).cells 5
                have hy0 := (HOa.out).thaw 0
                have hy1 := (HOa.out).thaw 1
                have hy2 := (HOa.out).thaw 2
                have hy3 := (HOa.out).thaw 3
                have hy4 := (HOa.out).thaw 4
                have hy5 := (HOa.out).thaw 5
                go_wp2_with fail
                refine (tCode (e3 : Int) w5 _ HOa.out).mono ?_
                rintro e w15 ⟨rfl, hO15, hK15⟩
                have HO15 := hid hO15
                have HK15 := hid ((HK5.out).trans hK15)
                clear hO15 hK15
                unfold ansV ansC ansE
                clear hz0 hz1 hz2 hz3 hz4 hz5 hy0 hy1 hy2 hy3 hy4 hy5
                have hz0 : w15.cell? ⟨g4, 0, none⟩ = some (.int .i64 0) := (HO15.out).cells 0
                have hz1 : w15.cell? ⟨g4, 1, none⟩ = some (.int .i64 0) := (HO15.out).cells 1
                have hz2 : w15.cell? ⟨g4, 2, none⟩ = some (.int .i64 0) := (HO15.out).cells 2
                have hz3 : w15.cell? ⟨g4, 3, none⟩ = some (.int .i64 0) := (HO15.out).cells 3
                have hz4 : w15.cell? ⟨g4, 4, none⟩ = some (.slice none 0 0) := (HO15.out).cells 4
                have hz5 : w15.cell? ⟨g4, 5, none⟩ = some (.slice none 0 0) := (HO15.out).cells 5
                have hy0 := (HO15.out).thaw 0
                have hy1 := (HO15.out).thaw 1
                have hy2 := (HO15.out).thaw 2
                have hy3 := (HO15.out).thaw 3
                have hy4 := (HO15.out).thaw 4
                have hy5 := (HO15.out).thaw 5
                go_wp2_with fail
                have h1 := ((show Has w15 (pt g4 (.cells (ansC (ansE 0) nilV nilV) 32) :: Trc q S :: L) from HO15.out)).ans (ansE (e3 : Int)) nilV nilV
                refine bodyPost_ret (ans_result rfl rfl h1) rfl ?_
                rw [HRR.out]
                exact ⟨rfl, h1.drop, HK15.out.ans _ _ _ _ _ _ _⟩
        · have he2b : (e2 != 0) = true := by simpa using he2
          have HRR := hid (show R = (ansE e2, S) from by rw [← HR2.out, if_pos he2])
          have hz0 : w3.cell? ⟨g4, 0, none⟩ = some (.int .i64 0) := (HOa.out).cells 0
          have hz1 : w3.cell? ⟨g4, 1, none⟩ = some (.int .i64 0) := (HOa.out).cells 1
          have hz2 : w3.cell? ⟨g4, 2, none⟩ = some (.int .i64 0) := (HOa.out).cells 2
          have hz3 : w3.cell? ⟨g4, 3, none⟩ = some (.int .i64 0) := (HOa.out).cells 3
          have hz4 : w3.cell? ⟨g4, 4, none⟩ = some (.slice none 0 0) := (HOa.out).cells 4
          have hz5 : w3.cell? ⟨g4, 5, none⟩ = some (.slice none 0 0) := (HOa.out).cells 5
          have hy0 := (HOa.out).thaw 0
          have hy1 := (HOa.out).thaw 1
          have hy2 := (HOa.out).thaw 2
          have hy3 := (HOa.out).thaw 3
          have hy4 := (HOa.out).thaw 4
          have hy5 := (HOa.out).thaw 5
          go_wp2_with fail
          refine (tCode (e2 : Int) w3 _ HOa.out).mono ?_
          rintro e w15 ⟨rfl, hO15, hK15⟩
          have HO15 := hid hO15
          have HK15 := hid ((HK3.out).trans hK15)
          clear hO15 hK15
          unfold ansV ansC ansE
          clear hz0 hz1 hz2 hz3 hz4 hz5 hy0 hy1 hy2 hy3 hy4 hy5
          have hz0 : w15.cell? ⟨g4, 0, none⟩ = some (.int .i64 0) := (HO15.out).cells 0
          have hz1 : w15.cell? ⟨g4, 1, none⟩ = some (.int .i64 0) := (HO15.out).cells 1
          have hz2 : w15.cell? ⟨g4, 2, none⟩ = some (.int .i64 0) := (HO15.out).cells 2
          have hz3 : w15.cell? ⟨g4, 3, none⟩ = some (.int .i64 0) := (HO15.out).cells 3
          have hz4 : w15.cell? ⟨g4, 4, none⟩ = some (.slice none 0 0) := (HO15.out).cells 4
          have hz5 : w15.cell? ⟨g4, 5, none⟩ = some (.slice none 0 0) := (HO15.out).cells 5
          have hy0 := (HO15.out).thaw 0
          have hy1 := (HO15.out).thaw 1
          have hy2 := (HO15.out).thaw 2
          have hy3 := (HO15.out).thaw 3
          have hy4 := (HO15.out).thaw 4
          have hy5 := (HO15.out).thaw 5
          go_wp2_with fail
          have h1 := ((show Has w15 (pt g4 (.cells (ansC (ansE 0) nilV nilV) 32) :: Trc q S :: L) from HO15.out)).ans (ansE (e2 : Int)) nilV nilV
          refine bodyPost_ret (ans_result rfl rfl h1) rfl ?_
          rw [HRR.out]
          exact ⟨rfl, h1.drop, HK15.out.ans _ _ _ _ _ _ _⟩
end Go.Proofs.YtonhcefgakmpfaaGreatDoor
