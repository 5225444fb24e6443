/- TEXTS of mine, merged. -/
import Derived.Test.YtonhcefgakmpfaaGreatDoorM10
import Derived.Test.YtonhcefgakmpfaaGreatDoorM7
import Derived.Test.YtonhcefgakmpfaaGreatDoorM12
import Derived.Test.YtonhcefgakmpfaaGreatDoorM8
import Derived.Test.YtonhcefgakmpfaaGreatDoorM11
/- THE WALK of tree.fresh. -/
namespace Go.Proofs.YtonhcefgakmpfaaGreatDoor
open Go.RowKit Go.Own
set_option maxRecDepth 100000 in
set_option maxHeartbeats 8000000 in
theorem tFresh (q : Nat) (S : Tre) (rk : Int → Nat) (p : Str) (mx : Int) (w : World) (L : List HP) (hW : Wk S) (hY : Wy S rk) (hM : MxL mx L) (hp : p.length ≤ 100000) (hO : Has w (Trc q S :: L)) :
    Calls Tryz.prog 58 #[.pointer (some ⟨q, 0, none⟩), sV p] w fun e w' => e = .returned (.tuple #[spV (S.fresh p).1, .int .i64 (S.fresh p).2]) ∧ Has w' (Trc q S :: L) ∧ Keep w w' := by
  have HPL := hid (fun (w : World) (L' : List HP) (hM : MxL mx L') (hO : Has w (Trc q S :: L')) => tPlace q S rk p mx w L' hW hY hM hp hO)
  generalize hR : S.fresh p = R
  unfold Tre.fresh at hR
  generalize S.place p = F at *
  obtain ⟨s2, e2⟩ := F
  dsimp only at *
  have HR := hid hR
  have HM := hid hM
  have HO := hid hO
  clear hM hO hp hW hR hY
  go_enter Tryz.func58, Tryz.ntmps58
  go_upto_region 1 with fail
  generalize hg4 : w.heap.size = g4 at *
  go_cut [6, 7] (fun p9 e9 wx => ∃ (w3 : World) (g9 : Nat), w3 = wx ∧ e9 = .int .i64 e2 ∧ p9 = .pointer (some ⟨g9, 0, none⟩) ∧ Hid (Has w3 (pt g9 (.cells (spC s2) 93) :: pt g4 (.cells (spC spt0) 93) :: Trc q S :: L)) ∧ Hid (Keep w w3))
  case first =>
    subst hg4
    go_wp2_with fail
    refine (HPL.out _ _ (HM.out.cons (pt w.heap.size (.cells (spC spt0) 93))) ((HO.out.alloc (.cells (spC spt0) 93)).re 2 [1, 0])).mono ?_
    rintro e w2 ⟨rfl, hO2, hK2⟩
    have HO2 := hid hO2
    have HK2 := hid (((Keep.refl w).alloc _).trans hK2)
    clear hO2 hK2
    try dsimp only
    unfold spV spC
    go_wp2_with fail
    go_meet
    exact ⟨_, _, rfl, rfl, rfl, hid ((HO2.out.alloc (.cells (spC s2) 93)).re 3 [0, 2, 1]), hid (HK2.out.alloc _)⟩
  case rest =>
    obtain ⟨w3, g9, rfl, rfl, rfl, HO3, HK3⟩ := hcut
    have hc80 : w3.cell? ⟨g4, 0, none⟩ = some (.int .i64 0) := HO3.out.p1.cells 0
    have hc81 : w3.cell? ⟨g4, 1, none⟩ = some (.int .i64 0) := HO3.out.p1.cells 1
    have hc82 : w3.cell? ⟨g4, 2, none⟩ = some (sV []) := HO3.out.p1.cells 2
    have ht80 := HO3.out.p1.thaw 0
    have ht81 := HO3.out.p1.thaw 1
    have ht82 := HO3.out.p1.thaw 2
    have hc90 : w3.cell? ⟨g9, 0, none⟩ = some (.int .i64 s2.node) := HO3.out.cells 0
    have hc91 : w3.cell? ⟨g9, 1, none⟩ = some (.int .i64 s2.dir) := HO3.out.cells 1
    have hc92 : w3.cell? ⟨g9, 2, none⟩ = some (sV s2.name) := HO3.out.cells 2
    by_cases he2 : e2 = 0
    · subst he2
      by_cases hn : s2.node = 0
      · have HRR := hid (show R = (s2, 0) from by rw [← HR.out, if_neg (fun h => h rfl), if_neg (fun h => h hn)])
        clear HR
        obtain ⟨n2, d2, nm2⟩ := s2
        dsimp only at *
        subst hn
        go_wp2_with fail
        have h1 := (show Has w3 (pt g4 (.cells (spC spt0) 93) :: Trc q S :: L) from HO3.out.re 3 [1, 2]).spt ⟨0, d2, nm2⟩
        refine bodyPost_ret (spt_result ⟨0, d2, nm2⟩ rfl rfl rfl h1) rfl ?_
        rw [HRR.out]
        exact ⟨rfl, h1.drop, HK3.out.spt _ _ _ _⟩
      · have HRR := hid (show R = (spt0, 6) from by rw [← HR.out, if_neg (fun h => h rfl), if_pos hn])
        go_wp2_with fail
        have h1 := (show Has w3 (pt g4 (.cells (spC spt0) 93) :: Trc q S :: L) from HO3.out.re 3 [1, 2]).spt spt0
        refine bodyPost_ret (spt_result spt0 rfl rfl rfl h1) rfl ?_
        rw [HRR.out]
        exact ⟨rfl, h1.drop, HK3.out.spt _ _ _ _⟩
    · have HRR := hid (show R = (spt0, e2) from by rw [← HR.out, if_pos he2])
      go_wp2_with fail
      have h1 := (show Has w3 (pt g4 (.cells (spC spt0) 93) :: Trc q S :: L) from HO3.out.re 3 [1, 2]).spt spt0
      refine bodyPost_ret (spt_result spt0 rfl rfl rfl h1) rfl ?_
      rw [HRR.out]
      exact ⟨rfl, h1.drop, HK3.out.spt _ _ _ _⟩
end Go.Proofs.YtonhcefgakmpfaaGreatDoor
/- THE WALK of tree.link. -/
namespace Go.Proofs.YtonhcefgakmpfaaGreatDoor
open Go.RowKit Go.Own
/-- A place at which nothing stands. -/
def DirOk (S : Tre) (s : Spt) : Prop := ∃ d, fnd S.nodes s.dir = some d ∧ d.kind = 2 ∧ s.name.length ≤ 1000000 ∧ d.names.length < 1000000
set_option maxRecDepth 100000 in
set_option maxHeartbeats 8000000 in
theorem tLink (q : Nat) (S : Tre) (rk : Int → Nat) (o : Opm) (ov : Value) (mx : Int) (w : World) (L : List HP) (hW : Wk S) (hY : Wy S rk) (hM : MxL mx L) (hp : o.path.length ≤ 100000) (hd : o.dest.length ≤ 100000) (hlk : ∀ n x, fnd S.nodes n = some x → 0 ≤ x.links ∧ x.links < 1000000) (hDO : (S.fresh o.dest).2 = 0 → DirOk S (S.fresh o.dest).1) (hO : Has w (Trc q S :: L)) :
    Calls Tryz.prog 61 #[.pointer (some ⟨q, 0, none⟩), opV o ov] w fun e w' => e = .returned (ansV (S.link o.path o.dest).1 nilV nilV) ∧ Has w' (Trc q (S.link o.path o.dest).2 :: L) ∧ Keep w w' := by
  have HF := hid (fun (w : World) (L' : List HP) (hM : MxL mx L') (hO : Has w (Trc q S :: L')) => tFind q S o.path false mx w L' hW hM hp hO)
  have HFR := hid (fun (w : World) (L' : List HP) (hM : MxL mx L') (hO : Has w (Trc q S :: L')) => tFresh q S rk o.dest mx w L' hW hY hM hd hO)
  have HTH := hid (find_there hW o.path false)
  have HDO := hid hDO
  clear hDO
  generalize hR : S.link o.path o.dest = R
  unfold Tre.link at hR
  generalize S.find o.path false = F at *
  generalize S.fresh o.dest = F3 at *
  obtain ⟨s2, e2⟩ := F
  obtain ⟨s3, e3⟩ := F3
  dsimp only at *
  have HR := hid hR
  have HM := hid hM
  have HO := hid hO
  have HLK := hid hlk
  clear hO hR hW hM hp hd hY hlk
  unfold opV opC
  go_enter Tryz.func61, Tryz.ntmps61
  go_upto_region 1 with fail
  have h1 := (HO.out.alloc (.cells (opC o ov) 35)).alloc (.cells (ansC (ansE 0) nilV nilV) 32)
  have HK1 := hid (((Keep.refl w).alloc (.cells (opC o ov) 35)).alloc (.cells (ansC (ansE 0) nilV nilV) 32))
  unfold opC ansC ansE at h1 HK1
  have e1 : (w.alloc (.cells #[.int .i64 o.kind, .int .i64 o.fd, .int .i64 o.n, .int .i64 o.off, .int .i64 o.flags, sV o.path, sV o.dest, ov] 35)).heap.size = w.heap.size + 1 := by show (Array.push _ _).size = _; rw [Array.size_push]
  rw [e1] at h1
  have HO1 := hid h1
  clear h1 e1 HO
  generalize (w.alloc (.cells #[.int .i64 o.kind, .int .i64 o.fd, .int .i64 o.n, .int .i64 o.off, .int .i64 o.flags, sV o.path, sV o.dest, ov] 35)).alloc (.cells #[.int .i64 0, .int .i64 0, .int .i64 0, .int .i64 0, nilV, nilV] 32) = w1 at *
  generalize w.heap.size = g3 at *
  generalize g3 + 1 = g4 at *
  have hp5 : w1.cell? ⟨g3, 5, none⟩ = some (sV o.path) := HO1.out.p1.cells 5
  have hp6 : w1.cell? ⟨g3, 6, none⟩ = some (sV o.dest) := HO1.out.p1.cells 6
  have HMG := hid (show MxL mx (pt g4 (.cells (ansC (ansE 0) nilV nilV) 32) :: pt g3 (.cells (opC o ov) 35) :: L) from (HM.out.cons _).cons _)
  go_cut [5, 6] (fun p5 e6 wx => ∃ (w3 : World) (g5 : Nat), w3 = wx ∧ e6 = .int .i64 e2 ∧ p5 = .pointer (some ⟨g5, 0, none⟩) ∧ Hid (Has w3 (Trc q S :: pt g5 (.cells (spC s2) 93) :: pt g4 (.cells (ansC (ansE 0) nilV nilV) 32) :: pt g3 (.cells (opC o ov) 35) :: L)) ∧ Hid (Keep w w3))
  case first =>
    go_wp2_with fail
    refine (HF.out w1 _ HMG.out (HO1.out.re 3 [2, 0, 1])).mono ?_
    rintro e w2 ⟨rfl, hO2, hK2⟩
    have HO2 := hid hO2
    have HK2 := hid ((HK1.out).trans hK2)
    clear hO2 hK2
    try dsimp only
    unfold spV spC
    go_wp2_with fail
    go_meet
    exact ⟨_, _, rfl, rfl, rfl, hid ((HO2.out.alloc (.cells (spC s2) 93)).p1), hid (HK2.out.alloc _)⟩
  case rest =>
    obtain ⟨w3, g5, rfl, rfl, rfl, HO3, HK3⟩ := hcut
    clear HO1 HK1 hp5 hp6 HF
    have HOa := hid (show Has w3 (pt g4 (.cells (ansC (ansE 0) nilV nilV) 32) :: Trc q S :: L) from HO3.out.re 4 [2, 0])
    by_cases he : e2 = 0
    · subst he
      obtain ⟨x, hx⟩ := HTH.out rfl
      have hat : S.at_ s2.node = x := by unfold Tre.at_; rw [hx]; rfl
      have HR1 := hid (show (if x.kind = 2 then (ansE 16, S) else if e3 ≠ 0 then (ansE e3, S) else (ansE 0, S.add s3.dir s3.name s2.node)) = R from by
        have h := HR.out
        rw [if_neg (fun h => h rfl), hat] at h
        exact h)
      have HLX := hid (HLK.out _ _ hx)
      clear HR HLK
      obtain ⟨m, b, nm, dv, ⟨hq, hl⟩, hb0, -⟩ := Trc.node HO3.out.drew hx
      have hs0d : w3.drew.cell? ⟨g5, 0, none⟩ = some (.int .i64 s2.node) := HO3.out.drew.p1.cells 0
      go_upto_region 4 with fail
      refine region_text (fun w' => w'.cell? ⟨q, 0, none⟩ = some (.map (some m)) ∧ w'.cell? ⟨g5, 0, none⟩ = some (.int .i64 s2.node) ∧ (Instr.lookup tNo (.map (some m)) (.int .i64 s2.node) false).run Tryz.prog w' = .ok (.pointer (some ⟨b, 0, none⟩)) w' ∧ w'.cell? ⟨b, 0, none⟩ = some (.int .i64 x.kind)) (by kernel_rfl) (by kernel_rfl) ⟨hq, hs0d, hl, hb0⟩ ?_
      repeat (first
        | (refine wpL_read (by rfl) (by rfl) ?_ ?_ ?_; rotate_left; (rintro w ⟨z0, z1, z2, z3⟩; go_simp; with_reducible rfl); simp only [Act.put, List.setIfInBounds_toArray, List.set_cons_zero, List.set_cons_succ]) | (refine wpL_skip (by rfl) ?_; simp only [Act.put, List.setIfInBounds_toArray, List.set_cons_zero, List.set_cons_succ]))
      have HO4 := hid HO3.out.drew
      have HK4 := hid HK3.out.drew
      clear hq hs0d hl hb0 HO3 HK3 HOa
      generalize w3.drew = w4 at *
      refine wpL_nil ?_
      have HOb := hid (show Has w4 (pt g4 (.cells (ansC (ansE 0) nilV nilV) 32) :: Trc q S :: L) from HO4.out.re 4 [2, 0])
      by_cases hk : x.kind = 2
      · have hk1 : (x.kind == 2) = true := by simp [hk]
        have HRR := hid (show R = (ansE 16, S) from by rw [← HR1.out, if_pos hk])
        have hz0 : w4.cell? ⟨g4, 0, none⟩ = some (.int .i64 0) := (HOb.out).cells 0
        have hz1 : w4.cell? ⟨g4, 1, none⟩ = some (.int .i64 0) := (HOb.out).cells 1
        have hz2 : w4.cell? ⟨g4, 2, none⟩ = some (.int .i64 0) := (HOb.out).cells 2
        have hz3 : w4.cell? ⟨g4, 3, none⟩ = some (.int .i64 0) := (HOb.out).cells 3
        have hz4 : w4.cell? ⟨g4, 4, none⟩ = some (.slice none 0 0) := (HOb.out).cells 4
        have hz5 : w4.cell? ⟨g4, 5, none⟩ = some (.slice none 0 0) := (HOb.out).cells 5
        have hy0 := (HOb.out).thaw 0
        have hy1 := (HOb.out).thaw 1
        have hy2 := (HOb.out).thaw 2
        have hy3 := (HOb.out).thaw 3
        have hy4 := (HOb.out).thaw 4
        have hy5 := (HOb.out).thaw 5
        go_wp2_with fail
        refine (tCode (16 : Int) w4 _ HOb.out).mono ?_
        rintro e w15 ⟨rfl, hO15, hK15⟩
        have HO15 := hid hO15
        have HK15 := hid ((HK4.out).trans hK15)
        clear hO15 hK15
        unfold ansV ansC ansE
        clear hz0 hz1 hz2 hz3 hz4 hz5 hy0 hy1 hy2 hy3 hy4 hy5
        have hz0 : w15.cell? ⟨g4, 0, none⟩ = some (.int .i64 0) := (HO15.out).cells 0
        have hz1 : w15.cell? ⟨g4, 1, none⟩ = some (.int .i64 0) := (HO15.out).cells 1
        have hz2 : w15.cell? ⟨g4, 2, none⟩ = some (.int .i64 0) := (HO15.out).cells 2
        have hz3 : w15.cell? ⟨g4, 3, none⟩ = some (.int .i64 0) := (HO15.out).cells 3
        have hz4 : w15.cell? ⟨g4, 4, none⟩ = some (.slice none 0 0) := (HO15.out).cells 4
        have hz5 : w15.cell? ⟨g4, 5, none⟩ = some (.slice none 0 0) := (HO15.out).cells 5
        have hy0 := (HO15.out).thaw 0
        have hy1 := (HO15.out).thaw 1
        have hy2 := (HO15.out).thaw 2
        have hy3 := (HO15.out).thaw 3
        have hy4 := (HO15.out).thaw 4
        have hy5 := (HO15.out).thaw 5
        go_wp2_with fail
        have h1 := ((show Has w15 (pt g4 (.cells (ansC (ansE 0) nilV nilV) 32) :: Trc q S :: L) from HO15.out)).ans (ansE (16 : Int)) nilV nilV
        refine bodyPost_ret (ans_result rfl rfl h1) rfl ?_
        rw [HRR.out]
        exact ⟨rfl, h1.drop, HK15.out.ans _ _ _ _ _ _ _⟩
      · have hk1 : (x.kind == 2) = false := by simp [hk]
        have HR2 := hid ((if_neg hk).symm.trans HR1.out)
        clear HR1
        have hp6 : w4.cell? ⟨g3, 6, none⟩ = some (sV o.dest) := HO4.out.p3.cells 6
        rw [hk1]
        go_upto_region 6 with fail
        go_cut [6, 7] (fun e6 p7 wx => ∃ (w5 : World) (g7 : Nat), w5 = wx ∧ e6 = .int .i64 e3 ∧ p7 = .pointer (some ⟨g7, 0, none⟩) ∧ Hid (Has w5 (Trc q S :: pt g7 (.cells (spC s3) 93) :: pt g5 (.cells (spC s2) 93) :: pt g4 (.cells (ansC (ansE 0) nilV nilV) 32) :: L)) ∧ Hid (Keep w w5))
        case first =>
          go_wp2_with fail
          refine (HFR.out w4 _ (HMG.out.cons _) HO4.out).mono ?_
          rintro e w2 ⟨rfl, hO2, hK2⟩
          have HO2 := hid hO2
          have HK2 := hid ((HK4.out).trans hK2)
          clear hO2 hK2
          try dsimp only
          unfold spV spC
          go_wp2_with fail
          go_meet
          exact ⟨_, _, rfl, rfl, rfl, hid ((HO2.out.alloc (.cells (spC s3) 93)).re 5 [1, 0, 2, 3]), hid (HK2.out.alloc _)⟩
        case rest =>
          obtain ⟨w5, g7, rfl, rfl, rfl, HO5, HK5⟩ := hcut
          clear HO4 HK4 hp6 HFR HOb
          have HOc := hid (show Has w5 (pt g4 (.cells (ansC (ansE 0) nilV nilV) 32) :: Trc q S :: L) from HO5.out.re 4 [3, 0])
          by_cases he3 : e3 = 0
          · subst he3
            obtain ⟨d, hd, hdk, hdn, hdl⟩ := HDO.out rfl
            have hne : s3.dir ≠ s2.node := by intro e; rw [e, hx] at hd; cases hd; exact hk hdk
            have HRR := hid (show R = (ansE 0, S.add s3.dir s3.name s2.node) from by rw [← HR2.out, if_neg (fun h => h rfl)])
            have hc1 : w5.cell? ⟨g7, 1, none⟩ = some (.int .i64 s3.dir) := HO5.out.p1.cells 1
            have hc2 : w5.cell? ⟨g7, 2, none⟩ = some (sV s3.name) := HO5.out.p1.cells 2
            have hc3 : w5.cell? ⟨g5, 0, none⟩ = some (.int .i64 s2.node) := HO5.out.p2.cells 0
            go_wp2_with fail
            refine (tAdd q S s3.dir s3.name s2.node d x w5 (pt g4 (.cells (ansC (ansE 0) nilV nilV) 32) :: L) hd hx hne hdk hdn hdl HLX.out.1 HLX.out.2 (HO5.out.re 4 [0, 3])).mono ?_
            rintro e w8 ⟨rfl, hO8, hK8⟩
            have HO8 := hid hO8
            have HK8 := hid ((HK5.out).trans hK8)
            clear hO8 hK8
            try dsimp only
            have HO9 := hid (show Has w8 (pt g4 (.cells (ansC (ansE 0) nilV nilV) 32) :: Trc q (S.add s3.dir s3.name s2.node) :: L) from HO8.out.re 2 [1, 0])
            have hz0 : w8.cell? ⟨g4, 0, none⟩ = some (.int .i64 0) := (HO9.out).cells 0
            have hz1 : w8.cell? ⟨g4, 1, none⟩ = some (.int .i64 0) := (HO9.out).cells 1
            have hz2 : w8.cell? ⟨g4, 2, none⟩ = some (.int .i64 0) := (HO9.out).cells 2
            have hz3 : w8.cell? ⟨g4, 3, none⟩ = some (.int .i64 0) := (HO9.out).cells 3
            have hz4 : w8.cell? ⟨g4, 4, none⟩ = some (.slice none 0 0) := (HO9.out).cells 4
            have hz5 : w8.cell? ⟨g4, 5, none⟩ = some (.slice none 0 0) := (HO9.out).cells 5
            have hy0 := (HO9.out).thaw 0
            have hy1 := (HO9.out).thaw 1
            have hy2 := (HO9.out).thaw 2
            have hy3 := (HO9.out).thaw 3
            have hy4 := (HO9.out).thaw 4
            have hy5 := (HO9.out).thaw 5
            go_wp2_with fail
            have h1 := HO9.out.ans (ansE 0) nilV nilV
            refine bodyPost_ret (ans_result rfl rfl h1) rfl ?_
            rw [HRR.out]
            exact ⟨rfl, h1.drop, HK8.out.ans _ _ _ _ _ _ _⟩
          · have HRR := hid (show R = (ansE e3, S) from by rw [← HR2.out, if_pos he3])
            have hz0 : w5.cell? ⟨g4, 0, none⟩ = some (.int .i64 0) := (HOc.out).cells 0
            have hz1 : w5.cell? ⟨g4, 1, none⟩ = some (.int .i64 0) := (HOc.out).cells 1
            have hz2 : w5.cell? ⟨g4, 2, none⟩ = some (.int .i64 0) := (HOc.out).cells 2
            have hz3 : w5.cell? ⟨g4, 3, none⟩ = some (.int .i64 0) := (HOc.out).cells 3
            have hz4 : w5.cell? ⟨g4, 4, none⟩ = some (.slice none 0 0) := (HOc.out).cells 4
            have hz5 : w5.cell? ⟨g4, 5, none⟩ = some (.slice none 0 0) := (HOc.out).cells 5
            have hy0 := (HOc.out).thaw 0
            have hy1 := (HOc.out).thaw 1
            have hy2 := (HOc.out).thaw 2
            have hy3 := (HOc.out).thaw 3
            have hy4 := (HOc.out).thaw 4
            have hy5 := (HOc.out).thaw 5
            go_wp2_with fail
            refine (tCode e3 w5 _ HOc.out).mono ?_
            rintro e w15 ⟨rfl, hO15, hK15⟩
            have HO15 := hid hO15
            have HK15 := hid ((HK5.out).trans hK15)
            clear hO15 hK15
            unfold ansV ansC ansE
            clear hz0 hz1 hz2 hz3 hz4 hz5 hy0 hy1 hy2 hy3 hy4 hy5
            have hz0 : w15.cell? ⟨g4, 0, none⟩ = some (.int .i64 0) := (HO15.out).cells 0
            have hz1 : w15.cell? ⟨g4, 1, none⟩ = some (.int .i64 0) := (HO15.out).cells 1
            have hz2 : w15.cell? ⟨g4, 2, none⟩ = some (.int .i64 0) := (HO15.out).cells 2
            have hz3 : w15.cell? ⟨g4, 3, none⟩ = some (.int .i64 0) := (HO15.out).cells 3
            have hz4 : w15.cell? ⟨g4, 4, none⟩ = some (.slice none 0 0) := (HO15.out).cells 4
            have hz5 : w15.cell? ⟨g4, 5, none⟩ = some (.slice none 0 0) := (HO15.out).cells 5
            have hy0 := (HO15.out).thaw 0
            have hy1 := (HO15.out).thaw 1
            have hy2 := (HO15.out).thaw 2
            have hy3 := (HO15.out).thaw 3
            have hy4 := (HO15.out).thaw 4
            have hy5 := (HO15.out).thaw 5
            go_wp2_with fail
            have h1 := ((show Has w15 (pt g4 (.cells (ansC (ansE 0) nilV nilV) 32) :: Trc q S :: L) from HO15.out)).ans (ansE e3) nilV nilV
            refine bodyPost_ret (ans_result rfl rfl h1) rfl ?_
            rw [HRR.out]
            exact ⟨rfl, h1.drop, HK15.out.ans _ _ _ _ _ _ _⟩
    · have HRR := hid (show R = (ansE e2, S) from by rw [← HR.out, if_pos he])
      have hz0 : w3.cell? ⟨g4, 0, none⟩ = some (.int .i64 0) := (HOa.out).cells 0
      have hz1 : w3.cell? ⟨g4, 1, none⟩ = some (.int .i64 0) := (HOa.out).cells 1
      have hz2 : w3.cell? ⟨g4, 2, none⟩ = some (.int .i64 0) := (HOa.out).cells 2
      have hz3 : w3.cell? ⟨g4, 3, none⟩ = some (.int .i64 0) := (HOa.out).cells 3
      have hz4 : w3.cell? ⟨g4, 4, none⟩ = some (.slice none 0 0) := (HOa.out).cells 4
      have hz5 : w3.cell? ⟨g4, 5, none⟩ = some (.slice none 0 0) := (HOa.out).cells 5
      have hy0 := (HOa.out).thaw 0
      have hy1 := (HOa.out).thaw 1
      have hy2 := (HOa.out).thaw 2
      have hy3 := (HOa.out).thaw 3
      have hy4 := (HOa.out).thaw 4
      have hy5 := (HOa.out).thaw 5
      go_wp2_with fail
      refine (tCode e2 w3 _ HOa.out).mono ?_
      rintro e w15 ⟨rfl, hO15, hK15⟩
      have HO15 := hid hO15
      have HK15 := hid ((HK3.out).trans hK15)
      clear hO15 hK15
      unfold ansV ansC ansE
      clear hz0 hz1 hz2 hz3 hz4 hz5 hy0 hy1 hy2 hy3 hy4 hy5
      have hz0 : w15.cell? ⟨g4, 0, none⟩ = some (.int .i64 0) := (HO15.out).cells 0
      have hz1 : w15.cell? ⟨g4, 1, none⟩ = some (.int .i64 0) := (HO15.out).cells 1
      have hz2 : w15.cell? ⟨g4, 2, none⟩ = some (.int .i64 0) := (HO15.out).cells 2
      have hz3 : w15.cell? ⟨g4, 3, none⟩ = some (.int .i64 0) := (HO15.out).cells 3
      have hz4 : w15.cell? ⟨g4, 4, none⟩ = some (.slice none 0 0) := (HO15.out).cells 4
      have hz5 : w15.cell? ⟨g4, 5, none⟩ = some (.slice none 0 0) := (HO15.out).cells 5
      have hy0 := (HO15.out).thaw 0
      have hy1 := (HO15.out).thaw 1
      have hy2 := (HO15.out).thaw 2
      have hy3 := (HO15.out).thaw 3
      have hy4 := (HO15.out).thaw 4
      have hy5 := (HO15.out).thaw 5
      go_wp2_with fail
      have h1 := ((show Has w15 (pt g4 (.cells (ansC (ansE 0) nilV nilV) 32) :: Trc q S :: L) from HO15.out)).ans (ansE e2) nilV nilV
      refine bodyPost_ret (ans_result rfl rfl h1) rfl ?_
      rw [HRR.out]
      exact ⟨rfl, h1.drop, HK15.out.ans _ _ _ _ _ _ _⟩
end Go.Proofs.YtonhcefgakmpfaaGreatDoor
/- THE WALK of tree.Do at mkdir. -/
namespace Go.Proofs.YtonhcefgakmpfaaGreatDoor
open Go.RowKit Go.Own
theorem fresh_there {S : Tre} (hW : Wk S) (p : Str) (h0 : (S.fresh p).2 = 0) : (∃ d, fnd S.nodes (S.fresh p).1.dir = some d ∧ d.kind = 2) ∧ (S.fresh p).1.name.length ≤ 24 := by
  unfold Tre.fresh at *
  by_cases h1 : (S.place p).2 ≠ 0
  · rw [if_pos h1] at h0; exact absurd h0 h1
  · rw [if_neg h1] at *
    by_cases h2 : (S.place p).1.node ≠ 0
    · rw [if_pos h2] at h0; simp at h0
    · rw [if_neg h2]
      have := place_there hW p (by simpa using h1)
      exact ⟨this.1, this.2.1⟩
set_option maxRecDepth 100000 in
set_option maxHeartbeats 8000000 in
theorem doMkdir (q : Nat) (S : Tre) (fd n off flags : Int) (path dest : Str) (ov : Value) (w : World) (L : List HP) (rk : Int → Nat) (mx : Int) (hW : Wk S) (hY : Wy S rk) (hB : Opb S) (hM : MxL mx L) (hp : path.length ≤ 100000) (hO : Has w (Trc q S :: L)) :
    Calls Tryz.prog 17 #[.pointer (some ⟨q, 0, none⟩), opV ⟨9, fd, n, off, flags, path, dest⟩ (ov)] w fun e w' => e = .returned (ansV (S.mkdir path).1 nilV nilV) ∧ Has w' (Trc q (S.mkdir path).2 :: L) ∧ Keep w w' := by
  have HX := hid (fun (w : World) (L' : List HP) (hM : MxL mx L') (hO : Has w (Trc q S :: L')) => tFresh q S rk path mx w L' hW hY hM hp hO)
  have HTF := hid (fresh_there hW path)
  have HB := hid hB
  have HM := hid hM
  clear hM
  generalize hR : S.mkdir path = R at *
  unfold Tre.mkdir at hR
  generalize S.fresh path = F at *
  obtain ⟨s1, e1⟩ := F
  dsimp only at *
  have HR := hid hR
  clear hR hW hY hB hp
  have HO := hid hO
  clear hO
  unfold opV opC
  go_enter Tryz.func17, Tryz.ntmps17
  go_upto_region 1 with fail
  have h1 := (HO.out.alloc (.cells #[.int .i64 9, .int .i64 fd, .int .i64 n, .int .i64 off, .int .i64 flags, sV path, sV dest, ov] 35)).alloc (.cells (ansC (ansE 0) nilV nilV) 32)
  have HK1 := hid (((Keep.refl w).alloc (.cells #[.int .i64 9, .int .i64 fd, .int .i64 n, .int .i64 off, .int .i64 flags, sV path, sV dest, ov] 35)).alloc (.cells (ansC (ansE 0) nilV nilV) 32))
  unfold ansC ansE at h1 HK1
  have e3 : (w.alloc (.cells #[.int .i64 9, .int .i64 fd, .int .i64 n, .int .i64 off, .int .i64 flags, sV path, sV dest, ov] 35)).heap.size = w.heap.size + 1 := by show (Array.push _ _).size = _; rw [Array.size_push]
  rw [e3] at h1
  have HO1 := hid h1
  clear h1 e3 HO
  generalize (w.alloc (.cells #[.int .i64 9, .int .i64 fd, .int .i64 n, .int .i64 off, .int .i64 flags, sV path, sV dest, ov] 35)).alloc (.cells #[.int .i64 0, .int .i64 0, .int .i64 0, .int .i64 0, nilV, nilV] 32) = w1 at *
  generalize w.heap.size = g3 at *
  generalize g3 + 1 = g4 at *
  have hp0 : w1.cell? ⟨g3, 0, none⟩ = some (.int .i64 9) := HO1.out.p1.cells 0
  have hp1 : w1.cell? ⟨g3, 1, none⟩ = some (.int .i64 fd) := HO1.out.p1.cells 1
  have hp2 : w1.cell? ⟨g3, 2, none⟩ = some (.int .i64 n) := HO1.out.p1.cells 2
  have hp3 : w1.cell? ⟨g3, 3, none⟩ = some (.int .i64 off) := HO1.out.p1.cells 3
  have hp4 : w1.cell? ⟨g3, 4, none⟩ = some (.int .i64 flags) := HO1.out.p1.cells 4
  have hp5 : w1.cell? ⟨g3, 5, none⟩ = some (sV path) := HO1.out.p1.cells 5
  have hp6 : w1.cell? ⟨g3, 6, none⟩ = some (sV dest) := HO1.out.p1.cells 6
  have hp7 : w1.cell? ⟨g3, 7, none⟩ = some (ov) := HO1.out.p1.cells 7
  go_upto_region 19 with fail
  go_cut [5, 6] (fun p5 e6 wx => ∃ (w3 : World) (g5 : Nat), w3 = wx ∧ e6 = .int .i64 e1 ∧ p5 = .pointer (some ⟨g5, 0, none⟩) ∧ Hid (Has w3 (Trc q S :: pt g5 (.cells (spC s1) 93) :: pt g4 (.cells (ansC (ansE 0) nilV nilV) 32) :: L)) ∧ Hid (Keep w w3))
  case first =>
    go_wp2_with fail
    refine (HX.out w1 _ ((HM.out.cons (pt g3 (.cells #[.int .i64 9, .int .i64 fd, .int .i64 n, .int .i64 off, .int .i64 flags, sV path, sV dest, ov] 35))).cons (pt g4 (.cells (ansC (ansE 0) nilV nilV) 32))) (HO1.out.re 3 [2, 0, 1])).mono ?_
    rintro e w2 ⟨rfl, hO2, hK2⟩
    have HO2 := hid hO2
    have HK2 := hid ((HK1.out).trans hK2)
    clear hO2 hK2
    try dsimp only
    unfold spV spC
    go_wp2_with fail
    go_meet
    exact ⟨_, _, rfl, rfl, rfl, hid ((HO2.out.alloc (.cells (spC s1) 93)).re 4 [1, 0, 2]), hid (HK2.out.alloc _)⟩
  case rest =>
    obtain ⟨w3, g5, rfl, rfl, rfl, HO3, HK3⟩ := hcut
    clear HO1 HK1 hp0 hp1 hp2 hp3 hp4 hp5 hp6 hp7 HX
    by_cases he : e1 = 0
    · subst he
      have HRR := hid (show R = (ansE 0, S.make s1 2 []) from by rw [← HR.out, if_neg (fun h => h rfl)])
      obtain ⟨⟨d, hd, hdk⟩, hln⟩ := HTF.out rfl
      have k0 : w3.cell? ⟨g5, 0, none⟩ = some (.int .i64 s1.node) := (HO3.out.p1).cells 0
      have k1 : w3.cell? ⟨g5, 1, none⟩ = some (.int .i64 s1.dir) := (HO3.out.p1).cells 1
      have k2 : w3.cell? ⟨g5, 2, none⟩ = some (sV s1.name) := (HO3.out.p1).cells 2
      have kt0 := (HO3.out.p1).thaw 0
      have kt1 := (HO3.out.p1).thaw 1
      have kt2 := (HO3.out.p1).thaw 2
      have HMK := hid (tMake q S s1 2 d w3 (pt g5 (.cells (spC s1) 93) :: pt g4 (.cells (ansC (ansE 0) nilV nilV) 32) :: L) (by decide) hd hdk (by omega) (HB.out.small _ _ hd).2.2 HB.out.last0 HB.out.last1 HB.out.free HB.out.many HO3.out)
      unfold spV spC at HMK
      clear hd hdk
      go_wp2_with fail
      refine (HMK.out).mono ?_
      rintro e w4 ⟨rfl, hO4, hK4⟩
      have HO4 := hid hO4
      have HK4 := hid ((HK3.out).trans hK4)
      clear hO4 hK4
      try dsimp only
      have HO5 := hid (show Has w4 (pt g4 (.cells (ansC (ansE 0) nilV nilV) 32) :: Trc q (S.make s1 2 []) :: L) from HO4.out.re 3 [2, 0])
      have hz0 : w4.cell? ⟨g4, 0, none⟩ = some (.int .i64 0) := (HO5.out).cells 0
      have hz1 : w4.cell? ⟨g4, 1, none⟩ = some (.int .i64 0) := (HO5.out).cells 1
      have hz2 : w4.cell? ⟨g4, 2, none⟩ = some (.int .i64 0) := (HO5.out).cells 2
      have hz3 : w4.cell? ⟨g4, 3, none⟩ = some (.int .i64 0) := (HO5.out).cells 3
      have hz4 : w4.cell? ⟨g4, 4, none⟩ = some (.slice none 0 0) := (HO5.out).cells 4
      have hz5 : w4.cell? ⟨g4, 5, none⟩ = some (.slice none 0 0) := (HO5.out).cells 5
      have hy0 := (HO5.out).thaw 0
      have hy1 := (HO5.out).thaw 1
      have hy2 := (HO5.out).thaw 2
      have hy3 := (HO5.out).thaw 3
      have hy4 := (HO5.out).thaw 4
      have hy5 := (HO5.out).thaw 5
      go_wp2_with fail
      refine (tCode (0 : Int) w4 _ HO5.out).mono ?_
      rintro e w6 ⟨rfl, hO6, hK6⟩
      have HO6 := hid hO6
      have HK6 := hid ((HK4.out).trans hK6)
      clear hO6 hK6
      unfold ansV ansC ansE
      clear hz0 hz1 hz2 hz3 hz4 hz5 hy0 hy1 hy2 hy3 hy4 hy5
      have hz0 : w6.cell? ⟨g4, 0, none⟩ = some (.int .i64 0) := (HO6.out).cells 0
      have hz1 : w6.cell? ⟨g4, 1, none⟩ = some (.int .i64 0) := (HO6.out).cells 1
      have hz2 : w6.cell? ⟨g4, 2, none⟩ = some (.int .i64 0) := (HO6.out).cells 2
      have hz3 : w6.cell? ⟨g4, 3, none⟩ = some (.int .i64 0) := (HO6.out).cells 3
      have hz4 : w6.cell? ⟨g4, 4, none⟩ = some (.slice none 0 0) := (HO6.out).cells 4
      have hz5 : w6.cell? ⟨g4, 5, none⟩ = some (.slice none 0 0) := (HO6.out).cells 5
      have hy0 := (HO6.out).thaw 0
      have hy1 := (HO6.out).thaw 1
      have hy2 := (HO6.out).thaw 2
      have hy3 := (HO6.out).thaw 3
      have hy4 := (HO6.out).thaw 4
      have hy5 := (HO6.out).thaw 5
      go_wp2_with fail
      have h1 := ((show Has w6 (pt g4 (.cells (ansC (ansE 0) nilV nilV) 32) :: Trc q (S.make s1 2 []) :: L) from HO6.out)).ans (ansE (0 : Int)) nilV nilV
      refine bodyPost_ret (ans_result rfl rfl h1) rfl ?_
      rw [HRR.out]
      exact ⟨rfl, h1.drop, HK6.out.ans _ _ _ _ _ _ _⟩
    · have HRR := hid (show R = (ansE e1, S) from by rw [← HR.out, if_pos he])
      have HO5 := hid (show Has w3 (pt g4 (.cells (ansC (ansE 0) nilV nilV) 32) :: Trc q S :: L) from HO3.out.re 3 [2, 0])
      have heb : (e1 == 0) = false := by simpa using he
      have hz0 : w3.cell? ⟨g4, 0, none⟩ = some (.int .i64 0) := (HO5.out).cells 0
      have hz1 : w3.cell? ⟨g4, 1, none⟩ = some (.int .i64 0) := (HO5.out).cells 1
      have hz2 : w3.cell? ⟨g4, 2, none⟩ = some (.int .i64 0) := (HO5.out).cells 2
      have hz3 : w3.cell? ⟨g4, 3, none⟩ = some (.int .i64 0) := (HO5.out).cells 3
      have hz4 : w3.cell? ⟨g4, 4, none⟩ = some (.slice none 0 0) := (HO5.out).cells 4
      have hz5 : w3.cell? ⟨g4, 5, none⟩ = some (.slice none 0 0) := (HO5.out).cells 5
      have hy0 := (HO5.out).thaw 0
      have hy1 := (HO5.out).thaw 1
      have hy2 := (HO5.out).thaw 2
      have hy3 := (HO5.out).thaw 3
      have hy4 := (HO5.out).thaw 4
      have hy5 := (HO5.out).thaw 5
      go_wp2_with fail
      refine (tCode e1 w3 _ HO5.out).mono ?_
      rintro e w6 ⟨rfl, hO6, hK6⟩
      have HO6 := hid hO6
      have HK6 := hid ((HK3.out).trans hK6)
      clear hO6 hK6
      unfold ansV ansC ansE
      clear hz0 hz1 hz2 hz3 hz4 hz5 hy0 hy1 hy2 hy3 hy4 hy5
      have hz0 : w6.cell? ⟨g4, 0, none⟩ = some (.int .i64 0) := (HO6.out).cells 0
      have hz1 : w6.cell? ⟨g4, 1, none⟩ = some (.int .i64 0) := (HO6.out).cells 1
      have hz2 : w6.cell? ⟨g4, 2, none⟩ = some (.int .i64 0) := (HO6.out).cells 2
      have hz3 : w6.cell? ⟨g4, 3, none⟩ = some (.int .i64 0) := (HO6.out).cells 3
      have hz4 : w6.cell? ⟨g4, 4, none⟩ = some (.slice none 0 0) := (HO6.out).cells 4
      have hz5 : w6.cell? ⟨g4, 5, none⟩ = some (.slice none 0 0) := (HO6.out).cells 5
      have hy0 := (HO6.out).thaw 0
      have hy1 := (HO6.out).thaw 1
      have hy2 := (HO6.out).thaw 2
      have hy3 := (HO6.out).thaw 3
      have hy4 := (HO6.out).thaw 4
      have hy5 := (HO6.out).thaw 5
      go_wp2_with fail
      have h1 := ((show Has w6 (pt g4 (.cells (ansC (ansE 0) nilV nilV) 32) :: Trc q S :: L) from HO6.out)).ans (ansE e1) nilV nilV
      refine bodyPost_ret (ans_result rfl rfl h1) rfl ?_
      rw [HRR.out]
      exact ⟨rfl, h1.drop, HK6.out.ans _ _ _ _ _ _ _⟩
end Go.Proofs.YtonhcefgakmpfaaGreatDoor
/- WHAT EVERY TREE KEEPS: what the walks ask for; where paths lead. No program in sight. -/
namespace Go.Proofs.YtonhcefgakmpfaaGreatDoor
open Go.RowKit Go.Own
structure Gd (S : Tre) (rk : Int → Nat) (k : Nat) : Prop where
  x : Gx S.nodes rk k 0
  num : ∀ n x, fnd S.nodes n = some x → 1 ≤ n ∧ n ≤ S.last
  last : S.last ≤ k + 1
  many : S.nodes.length ≤ k + 1
  tab16 : S.tab.length = 16
  opn : ∀ fd s, Tb.look S.tab fd = some s → (∃ x, fnd S.nodes s.node = some x ∧ x.kind ≠ 3) ∧ 0 ≤ s.off ∧ s.off ≤ 1099511627776
theorem at_of {S : Tre} {n : Int} {x : Nod} (h : fnd S.nodes n = some x) : S.at_ n = x := by unfold Tre.at_; rw [h]; rfl
variable {S : Tre} {rk : Int → Nat} {k : Nat}
theorem Gd.nod (h : Gd S rk k) {n : Int} {x : Nod} (hx : fnd S.nodes n = some x) : Ndo S.nodes rk k 0 n x := h.x.nod n x hx
theorem Gd.ne0 (h : Gd S rk k) {n : Int} {x : Nod} (hx : fnd S.nodes n = some x) : n ≠ 0 := by rintro rfl; rw [h.x.zero] at hx; cases hx
theorem Gd.last1 (h : Gd S rk k) : 1 ≤ S.last := by
  obtain ⟨x, hx⟩ := h.x.has1
  exact (h.num _ _ hx).2
theorem Gd.wk (h : Gd S rk k) : Wk S where
  root := h.x.has1
  child n x hx p c hc := by
    obtain ⟨_, _, y, hy, _⟩ := (h.nod hx).ents (p, c) (fnd_some hc)
    exact ⟨y, hy⟩
  above n x hx ha := by
    obtain ⟨_, _, _, y, _, hy, _⟩ := (h.nod hx).above (h.ne0 hx) ha
    exact ⟨y, hy⟩
  data n x hx _ := (h.nod hx).size.1
/-- A directory's one entry. -/
theorem Gd.one (h : Gd S rk k) {n : Int} {x : Nod} (hx : fnd S.nodes n = some x) (ha : x.above ≠ 0) : ∃ y nm, fnd S.nodes x.above = some y ∧ y.names.filter (fun p => decide (p.2 = n)) = [(nm, n)] ∧ rk n = rk x.above + 1 ∧ (nm, n) ∈ y.names ∧ NameOk nm ∧ y.kind = 2 ∧ (x.above = 1 ∨ y.above ≠ 0) := by
  have H := h.nod hx
  obtain ⟨h1, h2, h3, y, nm, hy, hm⟩ := H.above (h.ne0 hx) ha
  have HY := h.nod hy
  have hl := H.links (h.ne0 hx) h2
  have hc : cntN y n ≤ 1 := by
    have := cntN_le hy n
    omega
  have hm2 : (nm, n) ∈ y.names.filter fun p => decide (p.2 = n) := List.mem_filter.2 ⟨hm, by simp⟩
  unfold cntN at hc
  obtain ⟨e1, e2, u, hu, e3⟩ := HY.ents _ hm
  have hux : u = x := by rw [hx] at hu; cases hu; rfl
  subst hux
  have hyk : y.kind = 2 := Classical.byContradiction fun h2 => by
    have := (HY.file h2).1
    rw [this] at hm
    cases hm
  refine ⟨y, nm, hy, ?_, (e3 h1).2, hm, e1, hyk, ?_⟩
  · generalize y.names.filter (fun p => decide (p.2 = n)) = q at *
    match q, hm2, hc with
    | [a], hm2, _ => rw [List.mem_singleton.1 hm2]
    | a :: b :: r, _, hc => simp at hc
  · refine Classical.byContradiction fun hno => ?_
    simp only [not_or, ne_eq, Classical.not_not] at hno
    have := (HY.loose (h.ne0 hy) hyk hno.1 hno.2).1
    rw [this] at hm
    cases hm
theorem Gd.wy (h : Gd S rk k) : Wy S rk where
  rank n x hx _ ha := by
    obtain ⟨y, nm, h1, h2, h3, _, h5, _⟩ := h.one hx ha
    exact ⟨y, nm, h1, h2, by omega, h5.2.1⟩
  low := h.x.rk20
theorem Gd.opb (h : Gd S rk k) (hk : k < 900000) : Opb S where
  last0 := by have := h.last1; omega
  last1 := by have := h.last; omega
  free := by
    cases hf : fnd S.nodes (S.last + 1) with
    | none => rfl
    | some x => have := (h.num _ _ hf).2; omega
  many := by have := h.many; omega
  zero := h.x.zero
  small n x hx := by
    have := (h.nod hx).size
    exact ⟨this.1, this.2.1, by omega⟩
theorem Gd.op (h : Gd S rk k) : Opn S where
  there fd s hs := by
    obtain ⟨⟨x, hx, _⟩, _⟩ := h.opn fd s hs
    exact ⟨x, hx⟩
  off fd s hs := by
    obtain ⟨_, h1, h2⟩ := h.opn fd s hs
    exact ⟨h1, by omega⟩
  data n x hx := (h.nod hx).size.1
  wr n x hx := (h.nod hx).size.2.1
  nolink fd s hs := by
    obtain ⟨⟨x, hx, h3⟩, _⟩ := h.opn fd s hs
    rw [at_of hx]
    exact h3
/-- A node that a path may lead to. -/
def Att (S : Tre) (n : Int) : Prop := ∃ x, fnd S.nodes n = some x ∧ (x.kind = 2 → n = 1 ∨ x.above ≠ 0)
structure SpOk (S : Tre) (s : Spt) : Prop where
  node : Att S s.node
  dir : s.dir ≠ 0 → Att S s.dir ∧ ∃ d, fnd S.nodes s.dir = some d ∧ d.kind = 2 ∧ fnd d.names s.name = some s.node
  none : s.dir = 0 → (S.at_ s.node).kind = 2
theorem Gd.att1 (h : Gd S rk k) : Att S 1 := by
  obtain ⟨x, hx⟩ := h.x.has1
  exact ⟨x, hx, fun _ => .inl rfl⟩
theorem Gd.root2 (h : Gd S rk k) : (S.at_ 1).kind = 2 := by
  obtain ⟨x, hx⟩ := h.x.has1
  rw [at_of hx]
  exact ((h.nod hx).root rfl).1
theorem Gd.attUp (h : Gd S rk k) {n : Int} (ha : Att S n) (h2 : (S.at_ n).kind = 2) : Att S (S.up n) ∧ (S.at_ (S.up n)).kind = 2 := by
  obtain ⟨x, hx, hat⟩ := ha
  unfold Tre.up
  rw [at_of hx] at h2 ⊢
  by_cases h0 : x.above = 0
  · rw [if_pos h0]
    exact ⟨⟨x, hx, hat⟩, by rw [at_of hx]; exact h2⟩
  · rw [if_neg h0]
    obtain ⟨y, nm, h1, _, _, _, _, h5, h6⟩ := h.one hx h0
    exact ⟨⟨y, h1, fun _ => h6⟩, by rw [at_of h1]; exact h5⟩
theorem Gd.walk_ok (h : Gd S rk k) (fo : Bool) (s : Spt) (hops : Nat) (ps : List Str) (hs : SpOk S s) (hfo : fo = true → (S.at_ s.node).kind ≠ 3) (h0 : (S.walk s hops ps fo).2 = 0) : SpOk S (S.walk s hops ps fo).1 ∧ (fo = true → (S.at_ (S.walk s hops ps fo).1.node).kind ≠ 3) := by
  fun_induction Tre.walk S s hops ps fo
  case case1 => exact ⟨hs, hfo⟩
  case case2 => simp at h0
  case case3 =>
    rename_i hk ih
    have hk2 := Classical.not_not.1 hk
    obtain ⟨u1, u2⟩ := h.attUp hs.node hk2
    exact ih ⟨u1, fun e => absurd rfl e, fun _ => u2⟩ (fun _ => by show (S.at_ (S.up _)).kind ≠ 3; rw [u2]; decide) h0
  case case4 => simp at h0
  case case5 => simp at h0
  case case6 =>
    rename_i s0 _ _ _ hk _ c _ _ _ ih
    have hk2 := Classical.not_not.1 hk
    have hx : ∀ n : Int, n = 1 ∨ n = s0.node → Att S n ∧ (S.at_ n).kind = 2 := by
      rintro n (rfl | rfl)
      · exact ⟨h.att1, h.root2⟩
      · exact ⟨hs.node, hk2⟩
    obtain ⟨u1, u2⟩ := hx (if _h : (targetM (strOf (S.at_ c).data)).2.1 = true then (1 : Int) else s0.node) (by split <;> simp)
    exact ih ⟨u1, fun e => absurd rfl e, fun _ => u2⟩ (fun _ e3 => absurd (u2.symm.trans e3) (by decide)) h0
  case case7 =>
    rename_i s0 _ _ _ hk _ c hf hn ih
    have hk2 := Classical.not_not.1 hk
    obtain ⟨x, hx, hat⟩ := hs.node
    rw [at_of hx] at hf hk2
    obtain ⟨e1, e2, y, hy, e3⟩ := (h.nod hx).ents _ (fnd_some hf)
    refine ih ⟨⟨y, hy, fun hy2 => .inr ?_⟩, fun _ => ⟨⟨x, hx, hat⟩, x, hx, hk2, hf⟩, fun e => absurd e (h.ne0 hx)⟩ ?_ h0
    · rw [(e3 hy2).1]
      exact h.ne0 hx
    · intro hfo2 h3
      exact hn ⟨h3, .inr hfo2⟩
theorem Gd.find_ok (h : Gd S rk k) (p : Str) (fo : Bool) (h0 : (S.find p fo).2 = 0) : SpOk S (S.find p fo).1 ∧ (fo = true → (S.at_ (S.find p fo).1.node).kind ≠ 3) := by
  unfold Tre.find at *
  by_cases h1 : (splitM p).2 ≠ 0
  · rw [if_pos h1] at h0; exact absurd h0 h1
  · rw [if_neg h1] at h0 ⊢
    exact h.walk_ok fo _ _ _ ⟨h.att1, fun e => absurd rfl e, fun _ => h.root2⟩ (fun _ => by show (S.at_ 1).kind ≠ 3; rw [h.root2]; decide) h0
/-- As many names lead to a directory as its rank says. -/
theorem Gd.wayLen (h : Gd S rk k) : ∀ (r : Nat) (n : Int) (x : Nod), fnd S.nodes n = some x → x.kind = 2 → (n = 1 ∨ x.above ≠ 0) → rk n = r → (S.way n).length = r := by
  intro r
  induction r with
  | zero =>
    intro n x hx h2 hat hr
    by_cases h1 : n = 1
    · rw [way_stop (.inl h1)]; rfl
    · obtain ⟨y, nm, a1, a2, a3, _⟩ := h.one hx (hat.resolve_left h1)
      omega
  | succ r ih =>
    intro n x hx h2 hat hr
    by_cases h1 : n = 1
    · rw [h1, h.x.rk1] at hr; omega
    · have ha := hat.resolve_left h1
      obtain ⟨y, nm, a1, a2, a3, a4, a5, a6, a7⟩ := h.one hx ha
      obtain ⟨y', nm', b1, b2, b3, b4, e⟩ := way_step h.wy hx h1 ha
      rw [e, List.length_append, ih _ _ a1 a6 a7 (by omega)]
      rfl
structure PlOk (S : Tre) (rk : Int → Nat) (s : Spt) : Prop where
  name : NameOk s.name
  low : rk s.dir < 20
  dir : ∃ d, fnd S.nodes s.dir = some d ∧ d.kind = 2 ∧ (s.dir = 1 ∨ d.above ≠ 0) ∧ (s.node ≠ 0 → fnd d.names s.name = some s.node) ∧ (s.node = 0 → fnd d.names s.name = none)
theorem Gd.place_ok (h : Gd S rk k) (p : Str) (h0 : (S.place p).2 = 0) : PlOk S rk (S.place p).1 := by
  unfold Tre.place at *
  by_cases h1 : (lastM p).2.2 ≠ 0
  · rw [if_pos h1] at h0; exact absurd h0 h1
  rw [if_neg h1] at h0 ⊢
  by_cases h2 : (S.find (lastM p).1 true).2 ≠ 0
  · rw [if_pos h2] at h0; exact absurd h0 h2
  rw [if_neg h2] at h0 ⊢
  by_cases h3 : (S.at_ (S.find (lastM p).1 true).1.node).kind ≠ 2
  · rw [if_pos h3] at h0; simp at h0
  rw [if_neg h3] at h0 ⊢
  by_cases h4 : Tre.longM (S.way (S.find (lastM p).1 true).1.node ++ [(lastM p).2.1]) = true
  · rw [if_pos h4] at h0; simp at h0
  rw [if_neg h4]
  have hl := lastM_ok p (Classical.not_not.1 h1)
  obtain ⟨x, hx, hat⟩ := (h.find_ok _ true (Classical.not_not.1 h2)).1.node
  generalize (S.find (lastM p).1 true).1.node = n at *
  have hk2 : x.kind = 2 := by rw [at_of hx] at h3; exact Classical.not_not.1 h3
  refine ⟨⟨hl.1.1, hl.1.2.2.1, hl.1.2.2.2, hl.2⟩, ?_, ⟨x, hx, hk2, hat hk2, ?_, ?_⟩⟩
  · have := h.wayLen _ n x hx hk2 (hat hk2) rfl
    unfold Tre.longM at h4
    simp only [Bool.or_eq_true, decide_eq_true_eq, not_or, List.length_append, List.length_cons, List.length_nil] at h4
    show rk n < 20
    omega
  · show (fnd (S.at_ n).names _).getD 0 ≠ 0 → fnd x.names (lastM p).2.1 = some ((fnd (S.at_ n).names _).getD 0)
    rw [at_of hx]
    cases hf : fnd x.names (lastM p).2.1 with
    | none => intro e; exact absurd rfl e
    | some c => intro _; rfl
  · show (fnd (S.at_ n).names _).getD 0 = 0 → fnd x.names (lastM p).2.1 = none
    rw [at_of hx]
    cases hf : fnd x.names (lastM p).2.1 with
    | none => intro _; rfl
    | some c =>
      intro e
      have e' : c = 0 := e
      obtain ⟨_, _, y, hy, _⟩ := (h.nod hx).ents _ (fnd_some hf)
      exact absurd e' (h.ne0 hy)
theorem fresh_place {S : Tre} {p : Str} (h0 : (S.fresh p).2 = 0) : (S.place p).2 = 0 ∧ (S.place p).1.node = 0 ∧ S.fresh p = ((S.place p).1, 0) := by
  unfold Tre.fresh at *
  by_cases h1 : (S.place p).2 ≠ 0
  · rw [if_pos h1] at h0; exact absurd h0 h1
  rw [if_neg h1] at h0 ⊢
  by_cases h2 : (S.place p).1.node ≠ 0
  · rw [if_pos h2] at h0; simp at h0
  rw [if_neg h2]
  exact ⟨Classical.not_not.1 h1, Classical.not_not.1 h2, rfl⟩
theorem Gd.kidOk (h : Gd S rk k) (hk : k < 900000) (p : Str) (h0 : (S.place p).2 = 0) (hn : (S.place p).1.node ≠ 0) : KidOk S (S.place p).1 ∧ ∀ x, fnd S.nodes (S.place p).1.node = some x → 1 ≤ x.links := by
  have P := h.place_ok p h0
  generalize (S.place p).1 = s at *
  obtain ⟨d, hd, h2, _, hc, _⟩ := P.dir
  have hc := hc hn
  obtain ⟨e1, e2, y, hy, e3⟩ := (h.nod hd).ents _ (fnd_some hc)
  have hs := (h.nod hy).size
  have hcn : 1 ≤ cnt S.nodes s.node := cnt_has hd (fnd_some hc)
  refine ⟨⟨d, y, hd, h2, hc, hy, ?_, by have := P.name.2.1; omega, ⟨by omega, by omega⟩, by omega⟩, ?_⟩
  · intro e
    rw [← e] at hy
    rw [hd] at hy
    cases hy
    have := (e3 h2).2
    dsimp only at this
    rw [← e] at this
    omega
  · intro x hx
    have hx' : fnd S.nodes s.node = some x := hx
    have H := h.nod hx'
    by_cases h1 : s.node = 1
    · have := (H.root h1).2.2.1; omega
    · have := H.links (h.ne0 hx') h1
      omega
theorem Gd.dirOk (h : Gd S rk k) (hk : k < 900000) (p : Str) (h0 : (S.place p).2 = 0) : DirOk S (S.place p).1 := by
  have P := h.place_ok p h0
  obtain ⟨d, hd, h2, _⟩ := P.dir
  have hs := (h.nod hd).size
  exact ⟨d, hd, h2, by have := P.name.2.1; omega, by omega⟩
theorem Gd.up_rk (h : Gd S rk k) : ∀ n x, fnd S.nodes n = some x → x.above ≠ 0 → (∃ y, fnd S.nodes x.above = some y) ∧ rk x.above < rk n := by
  intro n x hx ha
  obtain ⟨y, nm, h1, _, h3, _⟩ := h.one hx ha
  exact ⟨⟨y, h1⟩, by omega⟩
theorem Gd.nm_rk (h : Gd S rk k) : ∀ n x, fnd S.nodes n = some x → ∀ e ∈ x.names, rk n < rk e.2 ∧ e.1.length ≤ 24 ∧ ∃ z, fnd S.nodes e.2 = some z := by
  intro n x hx e he
  obtain ⟨e1, e2, y, hy, e3⟩ := (h.nod hx).ents e he
  refine ⟨?_, e1.2.1, y, hy⟩
  by_cases h2 : y.kind = 2
  · have := (e3 h2).2; omega
  · have := ((h.nod hy).file h2).2.2; omega
end Go.Proofs.YtonhcefgakmpfaaGreatDoor
/- WHAT EVERY TREE KEEPS: kept by making, naming, taking away. No program in sight. -/
namespace Go.Proofs.YtonhcefgakmpfaaGreatDoor
open Go.RowKit Go.Own
theorem putA_len {κ α : Type} [DecidableEq κ] {t : List (κ × α)} {x : κ} {a b : α} (h : fnd t x = some b) : (putA t x a).length = t.length := by
  unfold putA
  rw [if_pos (List.mem_map.2 ⟨_, fnd_some h, rfl⟩), List.length_map]
theorem putA_len1 {κ α : Type} [DecidableEq κ] (t : List (κ × α)) (x : κ) (a : α) : (putA t x a).length ≤ t.length + 1 := by
  unfold putA
  split <;> simp
theorem putA_mem {κ α : Type} [DecidableEq κ] {t : List (κ × α)} {x : κ} {b : α} (h : fnd t x = some b) : x ∈ t.map Prod.fst := List.mem_map.2 ⟨_, fnd_some h, rfl⟩
theorem putA_comm {κ α : Type} [DecidableEq κ] {t : List (κ × α)} {x y : κ} {a b : α} (hxy : x ≠ y) (hx : x ∈ t.map Prod.fst) (hy : y ∈ t.map Prod.fst) : putA (putA t x a) y b = putA (putA t y b) x a := by
  have e1 : putA t x a = t.map fun p => if p.1 = x then (x, a) else p := if_pos hx
  have e2 : putA t y b = t.map fun p => if p.1 = y then (y, b) else p := if_pos hy
  have k1 : y ∈ (putA t x a).map Prod.fst := by rw [e1, putA_keys t x a hx]; exact hy
  have k2 : x ∈ (putA t y b).map Prod.fst := by rw [e2, putA_keys t y b hy]; exact hx
  rw [show putA (putA t x a) y b = (putA t x a).map fun p => if p.1 = y then (y, b) else p from if_pos k1, show putA (putA t y b) x a = (putA t y b).map fun p => if p.1 = x then (x, a) else p from if_pos k2, e1, e2, List.map_map, List.map_map]
  refine List.map_congr_left fun p _ => ?_
  simp only [Function.comp]
  by_cases h1 : p.1 = x
  · have h2 : ¬ x = y := hxy
    simp [h1, h2]
  · by_cases h2 : p.1 = y
    · have h3 : ¬ y = x := fun e => hxy e.symm
      simp [h2, h3]
    · simp [h1, h2]
variable {S : Tre} {rk : Int → Nat} {k : Nat}
theorem Gd.of (h : Gd S rk k) {S' : Tre} {rk' : Int → Nat} {k' : Nat} (hx : Gx S'.nodes rk' k' 0) (h1 : S.last ≤ S'.last) (h2 : S'.last ≤ k' + 1) (h3 : S'.nodes.length ≤ k' + 1) (ht : S'.tab = S.tab)
    (hn : ∀ n x, fnd S'.nodes n = some x → (∃ y, fnd S.nodes n = some y) ∨ (1 ≤ n ∧ n ≤ S'.last))
    (hk : ∀ n x, fnd S.nodes n = some x → (∃ fd s, Tb.look S.tab fd = some s ∧ s.node = n) → ∃ y, fnd S'.nodes n = some y ∧ y.kind = x.kind) : Gd S' rk' k' where
  x := hx
  num n x hx := by
    rcases hn n x hx with ⟨y, hy⟩ | h
    · have := h.num n y hy
      omega
    · exact h
  last := h2
  many := h3
  tab16 := by rw [ht]; exact h.tab16
  opn fd s hs := by
    rw [ht] at hs
    obtain ⟨⟨x, hx, h3⟩, h4⟩ := h.opn fd s hs
    obtain ⟨y, hy, e⟩ := hk _ _ hx ⟨fd, s, hs, rfl⟩
    exact ⟨⟨y, hy, by rw [e]; exact h3⟩, h4⟩
theorem Gd.mono (h : Gd S rk k) {k' : Nat} (hk : k ≤ k') : Gd S rk k' where
  x := h.x.mono hk
  num := h.num
  last := by have := h.last; omega
  many := by have := h.many; omega
  tab16 := h.tab16
  opn := h.opn
theorem Gd.tab (h : Gd S rk k) {T : List Tb.Slot} (hl : T.length = 16) (ho : ∀ fd s, Tb.look T fd = some s → (∃ x, fnd S.nodes s.node = some x ∧ x.kind ≠ 3) ∧ 0 ≤ s.off ∧ s.off ≤ 1099511627776) : Gd { S with tab := T } rk k where
  x := h.x
  num := h.num
  last := h.last
  many := h.many
  tab16 := hl
  opn := ho
/-- Bytes are changed. -/
theorem Gd.dat (h : Gd S rk k) {n : Int} {x : Nod} (hx : fnd S.nodes n = some x) (h2 : x.kind ≠ 2) (y : Nod) (hy : y.kind = x.kind ∧ y.names = x.names ∧ y.most = x.most ∧ y.links = x.links ∧ y.above = x.above)
    (hs : y.data.length ≤ 100000 ∧ y.wr.length ≤ 100000) : Gd (S.setN n y) rk k := by
  have H := h.nod hx
  have hf := H.file h2
  have h1 : n ≠ 1 := fun e => h2 (H.root e).1
  obtain ⟨G1, hc⟩ := (h.x.opened h1).fix hx y hy.1 hy.2.1 hy.2.2.1 ⟨hs.1, hs.2, by rw [hy.2.2.2.1]; exact H.size.2.2.2.2.2.1, by rw [hy.2.2.2.1]; exact H.size.2.2.2.2.2.2⟩ (fun _ => by rw [hy.2.2.2.2]; exact hf.2.1) (fun e => absurd e h2)
  have hnx : fnd (putA S.nodes n y) n = some y := by rw [fnd_putA, if_pos rfl]
  have G2 := G1.closed hnx (by rw [hc, hy.2.2.2.1]; exact H.links (h.ne0 hx) h1) (fun e => absurd (by rw [hy.2.2.2.2]; exact hf.2.1) e) (fun e => absurd (by rw [← hy.1]; exact e) h2)
  refine h.of G2 (Int.le_refl _) h.last (by show (putA S.nodes n y).length ≤ _; rw [putA_len hx]; exact h.many) rfl ?_ ?_
  · intro m u hu
    left
    have hu' : fnd (putA S.nodes n y) m = some u := hu
    rw [fnd_putA] at hu'
    by_cases hm : m = n
    · exact ⟨x, by rw [hm]; exact hx⟩
    · rw [if_neg hm] at hu'; exact ⟨u, hu'⟩
  · intro m u hu _
    show ∃ v, fnd (putA S.nodes n y) m = some v ∧ _
    rw [fnd_putA]
    by_cases hm : m = n
    · rw [if_pos hm]
      rw [hm, hx] at hu
      cases hu
      exact ⟨y, rfl, hy.1⟩
    · rw [if_neg hm]; exact ⟨u, hu, rfl⟩
/-- A new node, and its entry. -/
theorem Gd.make (h : Gd S rk k) {s : Spt} (P : PlOk S rk s) (hs0 : s.node = 0) (c : Int) (hc : c = 1 ∨ c = 2 ∨ c = 3) (ds : Str) (hds : ds.length ≤ 100000) : Gd (S.make s c ds) (fun n => if n = S.last + 1 then (if c = 2 then rk s.dir + 1 else 20) else rk n) (k + 1) := by
  obtain ⟨d, hd, hd2, hat, _, hnm⟩ := P.dir
  have hnm := hnm hs0
  have hl1 := h.last1
  have hnew : fnd S.nodes (S.last + 1) = none := by
    cases hf : fnd S.nodes (S.last + 1) with
    | none => rfl
    | some x => have := (h.num _ _ hf).2; omega
  have hdm : s.dir ≠ S.last + 1 := by intro e; rw [e, hnew] at hd; cases hd
  generalize hm : S.last + 1 = m at *
  generalize hx0 : (⟨c, if c = 3 then bytesOf ds else [], [], [], 0, 0, 0⟩ : Nod) = x0
  have hxk : x0.kind = c := by rw [← hx0]
  have hxn : x0.names = [] := by rw [← hx0]
  have hxl : x0.links = 0 := by rw [← hx0]
  have hxa : x0.above = 0 := by rw [← hx0]
  have hxm : x0.most = 0 := by rw [← hx0]
  have hxd : x0.data.length ≤ 100000 := by
    rw [← hx0]
    show (if c = 3 then bytesOf ds else []).length ≤ _
    split
    · simp [bytesOf]; exact hds
    · simp
  have hxw : x0.wr.length ≤ 100000 := by rw [← hx0]; simp
  have he : S.make s c ds = { S with last := m, nodes := putA (putA (putA S.nodes m x0) s.dir (Tre.dirAdd d s.name m)) m (Tre.nodAdd x0 s.dir) } := by
    unfold Tre.make Tre.add Tre.setN
    rw [hm, hx0]
    have e1 : (Tre.mk (putA S.nodes m x0) m S.tab).at_ s.dir = d := by
      unfold Tre.at_
      dsimp only
      rw [fnd_putA, if_neg hdm, hd]
      rfl
    have e2 : (Tre.mk (putA S.nodes m x0) m S.tab).at_ m = x0 := by
      unfold Tre.at_
      dsimp only
      rw [fnd_putA, if_pos rfl]
      rfl
    dsimp only
    rw [e1, e2]
  have hr : (if c = 2 then rk s.dir + 1 else 20) ≤ 20 := by
    have := P.low
    split <;> omega
  obtain ⟨G1, c1, c0⟩ := h.x.newN hnew (by omega) (by omega) x0 hxn (by rw [hxk]; exact hc) (fun _ => hxa) ⟨hxd, hxw, by omega, by omega, by omega, by omega⟩ _ hr (fun h2 => by rw [hxk] at h2; rw [if_neg h2])
  have hm0 : fnd (putA S.nodes m x0) m = some x0 := by rw [fnd_putA, if_pos rfl]
  have hd0 : fnd (putA S.nodes m x0) s.dir = some d := by rw [fnd_putA, if_neg hdm]; exact hd
  have hN : (Tre.nodAdd x0 s.dir).kind = c ∧ (Tre.nodAdd x0 s.dir).names = [] ∧ (Tre.nodAdd x0 s.dir).most = 0 ∧ (Tre.nodAdd x0 s.dir).links = 1 ∧ (Tre.nodAdd x0 s.dir).above = (if c = 2 then s.dir else 0) ∧ (Tre.nodAdd x0 s.dir).data = x0.data ∧ (Tre.nodAdd x0 s.dir).wr = x0.wr := by
    unfold Tre.nodAdd
    rw [hxk]
    by_cases h2 : c = 2
    · rw [if_pos h2, if_pos h2]
      exact ⟨rfl, hxn, hxm, rfl, rfl, rfl, rfl⟩
    · rw [if_neg h2, if_neg h2]
      exact ⟨rfl, hxn, hxm, by show x0.links + 1 = 1; omega, hxa, rfl, rfl⟩
  obtain ⟨n1, n2, n3, n4, n5, n6, n7⟩ := hN
  generalize Tre.nodAdd x0 s.dir = x1 at *
  obtain ⟨G2, c2⟩ := G1.fix hm0 x1 (by rw [n1, hxk]) (by rw [n2, hxn]) (by rw [n3, hxm]) ⟨by rw [n6]; exact hxd, by rw [n7]; exact hxw, by omega, by omega⟩ (fun h2 => by rw [n5, if_neg (by rw [← hxk]; exact h2)]) (fun _ => by rw [c1]; exact c0)
  have hd1 : fnd (putA (putA S.nodes m x0) m x1) s.dir = some d := by rw [fnd_putA, if_neg hdm]; exact hd0
  have hm1 : fnd (putA (putA S.nodes m x0) m x1) m = some x1 := by rw [fnd_putA, if_pos rfl]
  obtain ⟨G3, c3⟩ := G2.putE hd1 hd2 hdm hat P.name hnm (by rw [if_neg hdm]; exact P.low) hm1 (fun h2 => by
    rw [n1] at h2
    refine ⟨by rw [n5, if_pos h2], ?_⟩
    rw [if_pos rfl, if_neg hdm, if_pos h2])
  rw [← putA_comm hdm (putA_mem hd0) (putA_mem hm0)] at G3 c3
  have hm3 : fnd (putA (putA (putA S.nodes m x0) s.dir (Tre.dirAdd d s.name m)) m x1) m = some x1 := by rw [fnd_putA, if_pos rfl]
  have hd3 : fnd (putA (putA (putA S.nodes m x0) s.dir (Tre.dirAdd d s.name m)) m x1) s.dir = some (Tre.dirAdd d s.name m) := by rw [fnd_putA, if_neg hdm, fnd_putA, if_pos rfl]
  have G4 := G3.closed hm3 (by rw [c3, c2, c1, c0, if_pos rfl, n4]; rfl) (fun h2 => by
    have hc2 : c = 2 := Classical.byContradiction fun hc2 => h2 (by rw [n5, if_neg hc2])
    refine ⟨by rw [n1]; exact hc2, n4, Tre.dirAdd d s.name m, s.name, ?_, ?_⟩
    · rw [n5, if_pos hc2]; exact hd3
    · show (s.name, m) ∈ putA d.names s.name m
      rw [putA_new _ (fnd_none.1 hnm)]
      exact List.mem_append_right _ List.mem_cons_self) (fun h2 h3 => by
    rw [n1] at h2
    rw [n5, if_pos h2] at h3
    exact absurd h3 (h.ne0 hd))
  rw [he]
  refine h.of G4 (by show S.last ≤ m; omega) (by show m ≤ _; have := h.last; omega) ?_ rfl ?_ ?_
  · show (putA (putA (putA S.nodes m x0) s.dir (Tre.dirAdd d s.name m)) m x1).length ≤ _
    have h5 : fnd (putA (putA S.nodes m x0) s.dir (Tre.dirAdd d s.name m)) m = some x0 := by rw [fnd_putA, if_neg (fun e => hdm e.symm)]; exact hm0
    rw [putA_len h5, putA_len hd0]
    have := putA_len1 S.nodes m x0
    have := h.many
    omega
  · intro n u hu
    have hu' : fnd (putA (putA (putA S.nodes m x0) s.dir (Tre.dirAdd d s.name m)) m x1) n = some u := hu
    rw [fnd_putA] at hu'
    by_cases h5 : n = m
    · right
      show 1 ≤ n ∧ n ≤ m
      omega
    · left
      rw [if_neg h5, fnd_putA] at hu'
      by_cases h6 : n = s.dir
      · exact ⟨d, by rw [h6]; exact hd⟩
      · rw [if_neg h6, fnd_putA, if_neg h5] at hu'
        exact ⟨u, hu'⟩
  · intro n u hu _
    show ∃ v, fnd (putA (putA (putA S.nodes m x0) s.dir (Tre.dirAdd d s.name m)) m x1) n = some v ∧ _
    have hnm5 : n ≠ m := by rintro rfl; rw [hnew] at hu; cases hu
    rw [fnd_putA, if_neg hnm5, fnd_putA]
    by_cases h6 : n = s.dir
    · rw [if_pos h6]
      rw [h6, hd] at hu
      cases hu
      exact ⟨_, rfl, rfl⟩
    · rw [if_neg h6, fnd_putA, if_neg hnm5]
      exact ⟨u, hu, rfl⟩
/-- One more name. -/
theorem Gd.addN (h : Gd S rk k) {s : Spt} (P : PlOk S rk s) (hs0 : s.node = 0) {n : Int} {x : Nod} (hx : fnd S.nodes n = some x) (h2 : x.kind ≠ 2) : Gd (S.add s.dir s.name n) rk (k + 1) := by
  obtain ⟨d, hd, hd2, hat, _, hnm⟩ := P.dir
  have hnm := hnm hs0
  have H := h.nod hx
  have hf := H.file h2
  have h1 : n ≠ 1 := fun e => h2 (H.root e).1
  have hdn : s.dir ≠ n := by intro e; rw [e, hx] at hd; cases hd; exact h2 hd2
  have he : S.add s.dir s.name n = { S with nodes := putA (putA S.nodes s.dir (Tre.dirAdd d s.name n)) n { x with links := x.links + 1 } } := by
    unfold Tre.add Tre.setN
    rw [at_of hd, at_of hx]
    unfold Tre.nodAdd
    rw [if_neg h2]
  have hsz := H.size
  obtain ⟨G2, c2⟩ := (h.x.opened h1).putE hd hd2 hdn hat P.name hnm P.low hx (fun e => absurd e h2)
  have hx1 : fnd (putA S.nodes s.dir (Tre.dirAdd d s.name n)) n = some x := by rw [fnd_putA, if_neg (fun e => hdn e.symm)]; exact hx
  obtain ⟨G3, c3⟩ := G2.fix hx1 { x with links := x.links + 1 } rfl rfl rfl ⟨hsz.1, hsz.2.1, by show 0 ≤ x.links + 1; omega, by show x.links + 1 ≤ _; omega⟩ (fun _ => hf.2.1) (fun e => absurd e h2)
  have hx3 : fnd (putA (putA S.nodes s.dir (Tre.dirAdd d s.name n)) n { x with links := x.links + 1 }) n = some { x with links := x.links + 1 } := by rw [fnd_putA, if_pos rfl]
  have G4 := G3.closed hx3 (by rw [c3, c2, if_pos rfl]; show x.links + 1 = _; rw [H.links (h.ne0 hx) h1]; omega) (fun e => absurd hf.2.1 e) (fun e => absurd e h2)
  rw [he]
  refine h.of G4 (Int.le_refl _) (by show S.last ≤ _; have := h.last; omega) ?_ rfl ?_ ?_
  · show (putA (putA S.nodes s.dir (Tre.dirAdd d s.name n)) n { x with links := x.links + 1 }).length ≤ _
    rw [putA_len hx1, putA_len hd]
    have := h.many
    omega
  · intro m u hu
    left
    have hu' : fnd (putA (putA S.nodes s.dir (Tre.dirAdd d s.name n)) n { x with links := x.links + 1 }) m = some u := hu
    rw [fnd_putA] at hu'
    by_cases h5 : m = n
    · exact ⟨x, by rw [h5]; exact hx⟩
    · rw [if_neg h5, fnd_putA] at hu'
      by_cases h6 : m = s.dir
      · exact ⟨d, by rw [h6]; exact hd⟩
      · rw [if_neg h6] at hu'
        exact ⟨u, hu'⟩
  · intro m u hu _
    show ∃ v, fnd (putA (putA S.nodes s.dir (Tre.dirAdd d s.name n)) n { x with links := x.links + 1 }) m = some v ∧ _
    rw [fnd_putA]
    by_cases h5 : m = n
    · rw [if_pos h5]
      rw [h5, hx] at hu
      cases hu
      exact ⟨_, rfl, rfl⟩
    · rw [if_neg h5, fnd_putA]
      by_cases h6 : m = s.dir
      · rw [if_pos h6]
        rw [h6, hd] at hu
        cases hu
        exact ⟨_, rfl, rfl⟩
      · rw [if_neg h6]
        exact ⟨u, hu, rfl⟩
end Go.Proofs.YtonhcefgakmpfaaGreatDoor
