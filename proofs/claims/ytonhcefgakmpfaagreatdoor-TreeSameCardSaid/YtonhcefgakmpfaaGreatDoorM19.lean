/- TEXTS of mine, merged. -/
import Derived.Test.YtonhcefgakmpfaaGreatDoorM12
import Derived.Test.YtonhcefgakmpfaaGreatDoorM13
import Derived.Test.YtonhcefgakmpfaaGreatDoorM8
import Derived.Test.YtonhcefgakmpfaaGreatDoorM18
import Derived.Test.YtonhcefgakmpfaaGreatDoorM11
import Derived.Test.YtonhcefgakmpfaaGreatDoorM7
import Derived.Test.YtonhcefgakmpfaaGreatDoorM9
import Derived.Test.YtonhcefgakmpfaaGreatDoorM1
import Derived.Test.YtonhcefgakmpfaaGreatDoorM10
/- THE WALK of tree.symlink. -/
namespace Go.Proofs.YtonhcefgakmpfaaGreatDoor
open Go.RowKit Go.Own
set_option maxRecDepth 100000 in
set_option maxHeartbeats 8000000 in
theorem tSymlink (q : Nat) (S : Tre) (rk : Int → Nat) (o : Opm) (ov : Value) (mx : Int) (w : World) (L : List HP) (hW : Wk S) (hY : Wy S rk) (hM : MxL mx L) (hp : o.path.length ≤ 100000) (hd : o.dest.length ≤ 100000) (hB : Opb S) (hDO : (S.fresh o.dest).2 = 0 → DirOk S (S.fresh o.dest).1) (hO : Has w (Trc q S :: L)) :
    Calls Tryz.prog 62 #[.pointer (some ⟨q, 0, none⟩), opV o ov] w fun e w' => e = .returned (ansV (S.symlink o.path o.dest).1 nilV nilV) ∧ Has w' (Trc q (S.symlink o.path o.dest).2 :: L) ∧ Keep w w' := by
  have HF := hid (fun (w : World) (L' : List HP) (hM : MxL mx L') (hO : Has w L') => pTarget o.path mx w L' hM hp hO)
  have HFR := hid (fun (w : World) (L' : List HP) (hM : MxL mx L') (hO : Has w (Trc q S :: L')) => tFresh q S rk o.dest mx w L' hW hY hM hd hO)
  have HDO := hid hDO
  have HB := hid hB
  have HPL := hid hp
  clear hDO hB
  generalize hR : S.symlink o.path o.dest = R
  unfold Tre.symlink at hR
  generalize targetM o.path = F at *
  generalize S.fresh o.dest = F3 at *
  obtain ⟨ms, wh, e2⟩ := F
  obtain ⟨s3, e3⟩ := F3
  dsimp only at *
  have HR := hid hR
  have HM := hid hM
  have HO := hid hO
  clear hO hR hW hM hp hd hY
  unfold opV opC
  go_enter Tryz.func62, Tryz.ntmps62
  go_upto_region 1 with fail
  have h1 := (HO.out.alloc (.cells (opC o ov) 35)).alloc (.cells (ansC (ansE 0) nilV nilV) 32)
  have HK1 := hid (((Keep.refl w).alloc (.cells (opC o ov) 35)).alloc (.cells (ansC (ansE 0) nilV nilV) 32))
  unfold opC ansC ansE at h1 HK1
  have e1 : (w.alloc (.cells #[.int .i64 o.kind, .int .i64 o.fd, .int .i64 o.n, .int .i64 o.off, .int .i64 o.flags, sV o.path, sV o.dest, ov] 35)).heap.size = w.heap.size + 1 := by show (Array.push _ _).size = _; rw [Array.size_push]
  rw [e1] at h1
  have HO1 := hid h1
  clear h1 e1 HO
  generalize (w.alloc (.cells #[.int .i64 o.kind, .int .i64 o.fd, .int .i64 o.n, .int .i64 o.off, .int .i64 o.flags, sV o.path, sV o.dest, ov] 35)).alloc (.cells #[.int .i64 0, .int .i64 0, .int .i64 0, .int .i64 0, nilV, nilV] 32) = w1 at *
  generalize w.heap.size = g3 at *
  generalize g3 + 1 = g4 at *
  have hp5 : w1.cell? ⟨g3, 5, none⟩ = some (sV o.path) := HO1.out.p1.cells 5
  have hp6 : w1.cell? ⟨g3, 6, none⟩ = some (sV o.dest) := HO1.out.p1.cells 6
  have HMG := hid (show MxL mx (pt g4 (.cells (ansC (ansE 0) nilV nilV) 32) :: pt g3 (.cells (opC o ov) 35) :: L) from (HM.out.cons _).cons _)
  go_cut [7] (fun e7 wx => ∃ (w3 : World), w3 = wx ∧ e7 = .int .i64 e2 ∧ Hid (Has w3 (Trc q S :: pt g4 (.cells (ansC (ansE 0) nilV nilV) 32) :: pt g3 (.cells (opC o ov) 35) :: L)) ∧ Hid (Keep w w3))
  case first =>
    go_wp2_with fail
    refine (HF.out w1 _ (HMG.out.cons _) (HO1.out.re 3 [2, 0, 1])).mono ?_
    rintro e w2 ⟨v2, rfl, hO2, hK2⟩
    have HO2 := hid hO2
    have HK2 := hid ((HK1.out).trans hK2)
    clear hO2 hK2
    try dsimp only
    go_wp2_with fail
    go_meet
    exact ⟨_, rfl, rfl, hid HO2.out.drop, HK2⟩
  case rest =>
    obtain ⟨w3, rfl, rfl, HO3, HK3⟩ := hcut
    clear HO1 HK1 hp5 hp6 HF
    have HOa := hid (show Has w3 (pt g4 (.cells (ansC (ansE 0) nilV nilV) 32) :: Trc q S :: L) from HO3.out.re 3 [1, 0])
    by_cases he : e2 = 0
    · subst he
      have HR2 := hid ((if_neg (fun h => h rfl)).symm.trans HR.out)
      clear HR
      have hp6 : w3.cell? ⟨g3, 6, none⟩ = some (sV o.dest) := HO3.out.p2.cells 6
      go_upto_region 4 with fail
      go_cut [8, 9] (fun p7 e6 wx => ∃ (w5 : World) (g7 : Nat), w5 = wx ∧ e6 = .int .i64 e3 ∧ p7 = .pointer (some ⟨g7, 0, none⟩) ∧ Hid (Has w5 (Trc q S :: pt g7 (.cells (spC s3) 93) :: pt g4 (.cells (ansC (ansE 0) nilV nilV) 32) :: pt g3 (.cells (opC o ov) 35) :: L)) ∧ Hid (Keep w w5))
      case first =>
        go_wp2_with fail
        refine (HFR.out w3 _ HMG.out HO3.out).mono ?_
        rintro e w2 ⟨rfl, hO2, hK2⟩
        have HO2 := hid hO2
        have HK2 := hid ((HK3.out).trans hK2)
        clear hO2 hK2
        try dsimp only
        unfold spV spC
        go_wp2_with fail
        go_meet
        exact ⟨_, _, rfl, rfl, rfl, hid ((HO2.out.alloc (.cells (spC s3) 93)).re 4 [1, 0, 2, 3]), hid (HK2.out.alloc _)⟩
      case rest =>
        obtain ⟨w5, g7, rfl, rfl, rfl, HO5, HK5⟩ := hcut
        clear HO3 HK3 hp6 HFR HOa
        have HOc := hid (show Has w5 (pt g4 (.cells (ansC (ansE 0) nilV nilV) 32) :: Trc q S :: L) from HO5.out.re 4 [2, 0])
        by_cases he3 : e3 = 0
        · subst he3
          obtain ⟨d, hd, hdk, hdn, hdl⟩ := HDO.out rfl
          have HRR := hid (show R = (ansE 0, S.make s3 3 o.path) from by rw [← HR2.out, if_neg (fun h => h rfl)])
          have hp5 : w5.cell? ⟨g3, 5, none⟩ = some (sV o.path) := HO5.out.p3.cells 5
          have k0 : w5.cell? ⟨g7, 0, none⟩ = some (.int .i64 s3.node) := (HO5.out.p1).cells 0
          have k1 : w5.cell? ⟨g7, 1, none⟩ = some (.int .i64 s3.dir) := (HO5.out.p1).cells 1
          have k2 : w5.cell? ⟨g7, 2, none⟩ = some (sV s3.name) := (HO5.out.p1).cells 2
          have kt0 := (HO5.out.p1).thaw 0
          have kt1 := (HO5.out.p1).thaw 1
          have kt2 := (HO5.out.p1).thaw 2
          have HMK := hid (tMake3 q S s3 o.path d w5 (pt g7 (.cells (spC s3) 93) :: pt g4 (.cells (ansC (ansE 0) nilV nilV) 32) :: pt g3 (.cells (opC o ov) 35) :: L) (by have := HPL.out; omega) hd hdk hdn hdl HB.out.last0 HB.out.last1 HB.out.free HB.out.many HO5.out)
          unfold spV spC at HMK
          clear hd hdk
          go_wp2_with fail
          refine (HMK.out).mono ?_
          rintro e w8 ⟨rfl, hO8, hK8⟩
          have HO8 := hid hO8
          have HK8 := hid ((HK5.out).trans hK8)
          clear hO8 hK8
          try dsimp only
          have HO9 := hid (show Has w8 (pt g4 (.cells (ansC (ansE 0) nilV nilV) 32) :: Trc q (S.make s3 3 o.path) :: L) from HO8.out.re 4 [2, 0])
          have hz0 : w8.cell? ⟨g4, 0, none⟩ = some (.int .i64 0) := (HO9.out).cells 0
          have hz1 : w8.cell? ⟨g4, 1, none⟩ = some (.int .i64 0) := (HO9.out).cells 1
          have hz2 : w8.cell? ⟨g4, 2, none⟩ = some (.int .i64 0) := (HO9.out).cells 2
          have hz3 : w8.cell? ⟨g4, 3, none⟩ = some (.int .i64 0) := (HO9.out).cells 3
          have hz4 : w8.cell? ⟨g4, 4, none⟩ = some (.slice none 0 0) := (HO9.out).cells 4
          have hz5 : w8.cell? ⟨g4, 5, none⟩ = some (.slice none 0 0) := (HO9.out).cells 5
          have hy0 := (HO9.out).thaw 0
          have hy1 := (HO9.out).thaw 1
          have hy2 := (HO9.out).thaw 2
          have hy3 := (HO9.out).thaw 3
          have hy4 := (HO9.out).thaw 4
          have hy5 := (HO9.out).thaw 5
          go_wp2_with fail
          have h1 := HO9.out.ans (ansE 0) nilV nilV
          refine bodyPost_ret (ans_result rfl rfl h1) rfl ?_
          rw [HRR.out]
          exact ⟨rfl, h1.drop, HK8.out.ans _ _ _ _ _ _ _⟩
        · have HRR := hid (show R = (ansE e3, S) from by rw [← HR2.out, if_pos he3])
          have hz0 : w5.cell? ⟨g4, 0, none⟩ = some (.int .i64 0) := (HOc.out).cells 0
          have hz1 : w5.cell? ⟨g4, 1, none⟩ = some (.int .i64 0) := (HOc.out).cells 1
          have hz2 : w5.cell? ⟨g4, 2, none⟩ = some (.int .i64 0) := (HOc.out).cells 2
          have hz3 : w5.cell? ⟨g4, 3, none⟩ = some (.int .i64 0) := (HOc.out).cells 3
          have hz4 : w5.cell? ⟨g4, 4, none⟩ = some (.slice none 0 0) := (HOc.out).cells 4
          have hz5 : w5.cell? ⟨g4, 5, none⟩ = some (.slice none 0 0) := (HOc.out).cells 5
          have hy0 := (HOc.out).thaw 0
          have hy1 := (HOc.out).thaw 1
          have hy2 := (HOc.out).thaw 2
          have hy3 := (HOc.out).thaw 3
          have hy4 := (HOc.out).thaw 4
          have hy5 := (HOc.out).thaw 5
          go_wp2_with fail
          refine (tCode e3 w5 _ HOc.out).mono ?_
          rintro e w15 ⟨rfl, hO15, hK15⟩
          have HO15 := hid hO15
          have HK15 := hid ((HK5.out).trans hK15)
          clear hO15 hK15
          unfold ansV ansC ansE
          clear hz0 hz1 hz2 hz3 hz4 hz5 hy0 hy1 hy2 hy3 hy4 hy5
          have hz0 : w15.cell? ⟨g4, 0, none⟩ = some (.int .i64 0) := (HO15.out).cells 0
          have hz1 : w15.cell? ⟨g4, 1, none⟩ = some (.int .i64 0) := (HO15.out).cells 1
          have hz2 : w15.cell? ⟨g4, 2, none⟩ = some (.int .i64 0) := (HO15.out).cells 2
          have hz3 : w15.cell? ⟨g4, 3, none⟩ = some (.int .i64 0) := (HO15.out).cells 3
          have hz4 : w15.cell? ⟨g4, 4, none⟩ = some (.slice none 0 0) := (HO15.out).cells 4
          have hz5 : w15.cell? ⟨g4, 5, none⟩ = some (.slice none 0 0) := (HO15.out).cells 5
          have hy0 := (HO15.out).thaw 0
          have hy1 := (HO15.out).thaw 1
          have hy2 := (HO15.out).thaw 2
          have hy3 := (HO15.out).thaw 3
          have hy4 := (HO15.out).thaw 4
          have hy5 := (HO15.out).thaw 5
          go_wp2_with fail
          have h1 := ((show Has w15 (pt g4 (.cells (ansC (ansE 0) nilV nilV) 32) :: Trc q S :: L) from HO15.out)).ans (ansE e3) nilV nilV
          refine bodyPost_ret (ans_result rfl rfl h1) rfl ?_
          rw [HRR.out]
          exact ⟨rfl, h1.drop, HK15.out.ans _ _ _ _ _ _ _⟩
    · have HRR := hid (show R = (ansE e2, S) from by rw [← HR.out, if_pos he])
      have hz0 : w3.cell? ⟨g4, 0, none⟩ = some (.int .i64 0) := (HOa.out).cells 0
      have hz1 : w3.cell? ⟨g4, 1, none⟩ = some (.int .i64 0) := (HOa.out).cells 1
      have hz2 : w3.cell? ⟨g4, 2, none⟩ = some (.int .i64 0) := (HOa.out).cells 2
      have hz3 : w3.cell? ⟨g4, 3, none⟩ = some (.int .i64 0) := (HOa.out).cells 3
      have hz4 : w3.cell? ⟨g4, 4, none⟩ = some (.slice none 0 0) := (HOa.out).cells 4
      have hz5 : w3.cell? ⟨g4, 5, none⟩ = some (.slice none 0 0) := (HOa.out).cells 5
      have hy0 := (HOa.out).thaw 0
      have hy1 := (HOa.out).thaw 1
      have hy2 := (HOa.out).thaw 2
      have hy3 := (HOa.out).thaw 3
      have hy4 := (HOa.out).thaw 4
      have hy5 := (HOa.out).thaw 5
      go_wp2_with fail
      refine (tCode e2 w3 _ HOa.out).mono ?_
      rintro e w15 ⟨rfl, hO15, hK15⟩
      have HO15 := hid hO15
      have HK15 := hid ((HK3.out).trans hK15)
      clear hO15 hK15
      unfold ansV ansC ansE
      clear hz0 hz1 hz2 hz3 hz4 hz5 hy0 hy1 hy2 hy3 hy4 hy5
      have hz0 : w15.cell? ⟨g4, 0, none⟩ = some (.int .i64 0) := (HO15.out).cells 0
      have hz1 : w15.cell? ⟨g4, 1, none⟩ = some (.int .i64 0) := (HO15.out).cells 1
      have hz2 : w15.cell? ⟨g4, 2, none⟩ = some (.int .i64 0) := (HO15.out).cells 2
      have hz3 : w15.cell? ⟨g4, 3, none⟩ = some (.int .i64 0) := (HO15.out).cells 3
      have hz4 : w15.cell? ⟨g4, 4, none⟩ = some (.slice none 0 0) := (HO15.out).cells 4
      have hz5 : w15.cell? ⟨g4, 5, none⟩ = some (.slice none 0 0) := (HO15.out).cells 5
      have hy0 := (HO15.out).thaw 0
      have hy1 := (HO15.out).thaw 1
      have hy2 := (HO15.out).thaw 2
      have hy3 := (HO15.out).thaw 3
      have hy4 := (HO15.out).thaw 4
      have hy5 := (HO15.out).thaw 5
      go_wp2_with fail
      have h1 := ((show Has w15 (pt g4 (.cells (ansC (ansE 0) nilV nilV) 32) :: Trc q S :: L) from HO15.out)).ans (ansE e2) nilV nilV
      refine bodyPost_ret (ans_result rfl rfl h1) rfl ?_
      rw [HRR.out]
      exact ⟨rfl, h1.drop, HK15.out.ans _ _ _ _ _ _ _⟩
end Go.Proofs.YtonhcefgakmpfaaGreatDoor
/- THE WALK of tree.Do: symlink. -/
namespace Go.Proofs.YtonhcefgakmpfaaGreatDoor
open Go.RowKit Go.Own
set_option maxRecDepth 100000 in
set_option maxHeartbeats 8000000 in
theorem doSymlink (q : Nat) (S : Tre) (fd n off flags : Int) (path dest : Str) (ov : Value) (w : World) (L : List HP) (rk : Int → Nat) (mx : Int) (hW : Wk S) (hY : Wy S rk) (hM : MxL mx L) (hp : path.length ≤ 100000) (hd : dest.length ≤ 100000) (hB : Opb S) (hDO : (S.fresh dest).2 = 0 → DirOk S (S.fresh dest).1) (hO : Has w (Trc q S :: L)) :
    Calls Tryz.prog 17 #[.pointer (some ⟨q, 0, none⟩), opV ⟨13, fd, n, off, flags, path, dest⟩ (ov)] w fun e w' => e = .returned (ansV (S.symlink path dest).1 nilV nilV) ∧ Has w' (Trc q (S.symlink path dest).2 :: L) ∧ Keep w w' := by
  have HX0 := (fun (w : World) (L' : List HP) (hM : MxL mx L') (hO : Has w (Trc q S :: L')) => tSymlink q S rk ⟨13, fd, n, off, flags, path, dest⟩ ov mx w L' hW hY hM hp hd hB hDO hO)
  try dsimp only at HX0
  have HX := hid HX0
  clear HX0
  have HM := hid hM
  clear hM
  generalize S.symlink path dest = R at *
  have HO := hid hO
  clear hO
  try unfold opV opC at HX
  unfold opV opC
  go_enter Tryz.func17, Tryz.ntmps17
  go_upto_region 1 with fail
  have h1 := (HO.out.alloc (.cells #[.int .i64 13, .int .i64 fd, .int .i64 n, .int .i64 off, .int .i64 flags, sV path, sV dest, ov] 35)).alloc (.cells (ansC (ansE 0) nilV nilV) 32)
  have HK1 := hid (((Keep.refl w).alloc (.cells #[.int .i64 13, .int .i64 fd, .int .i64 n, .int .i64 off, .int .i64 flags, sV path, sV dest, ov] 35)).alloc (.cells (ansC (ansE 0) nilV nilV) 32))
  unfold ansC ansE at h1 HK1
  have e1 : (w.alloc (.cells #[.int .i64 13, .int .i64 fd, .int .i64 n, .int .i64 off, .int .i64 flags, sV path, sV dest, ov] 35)).heap.size = w.heap.size + 1 := by show (Array.push _ _).size = _; rw [Array.size_push]
  rw [e1] at h1
  have HO1 := hid h1
  clear h1 e1 HO
  generalize (w.alloc (.cells #[.int .i64 13, .int .i64 fd, .int .i64 n, .int .i64 off, .int .i64 flags, sV path, sV dest, ov] 35)).alloc (.cells #[.int .i64 0, .int .i64 0, .int .i64 0, .int .i64 0, nilV, nilV] 32) = w1 at *
  generalize w.heap.size = g3 at *
  generalize g3 + 1 = g4 at *
  have hp0 : w1.cell? ⟨g3, 0, none⟩ = some (.int .i64 13) := HO1.out.p1.cells 0
  have hp1 : w1.cell? ⟨g3, 1, none⟩ = some (.int .i64 fd) := HO1.out.p1.cells 1
  have hp2 : w1.cell? ⟨g3, 2, none⟩ = some (.int .i64 n) := HO1.out.p1.cells 2
  have hp3 : w1.cell? ⟨g3, 3, none⟩ = some (.int .i64 off) := HO1.out.p1.cells 3
  have hp4 : w1.cell? ⟨g3, 4, none⟩ = some (.int .i64 flags) := HO1.out.p1.cells 4
  have hp5 : w1.cell? ⟨g3, 5, none⟩ = some (sV path) := HO1.out.p1.cells 5
  have hp6 : w1.cell? ⟨g3, 6, none⟩ = some (sV dest) := HO1.out.p1.cells 6
  have hp7 : w1.cell? ⟨g3, 7, none⟩ = some (ov) := HO1.out.p1.cells 7
  go_wp2_with fail
  refine (HX.out w1 _ ((HM.out.cons (pt g3 (.cells #[.int .i64 13, .int .i64 fd, .int .i64 n, .int .i64 off, .int .i64 flags, sV path, sV dest, ov] 35))).cons (pt g4 (.cells #[.int .i64 0, .int .i64 0, .int .i64 0, .int .i64 0, nilV, nilV] 32))) (HO1.out.re 3 [2, 0, 1])).mono ?_
  rintro e w2 ⟨rfl, hO2, hK2⟩
  have HO2 := hid hO2
  have HK2 := hid ((HK1.out).trans hK2)
  clear hO2 hK2
  try dsimp only
  have HO3 := hid (show Has w2 (pt g4 (.cells (ansC (ansE 0) nilV nilV) 32) :: Trc q R.2 :: L) from HO2.out.re 3 [1, 0])
  have hz0 : w2.cell? ⟨g4, 0, none⟩ = some (.int .i64 0) := (HO3.out).cells 0
  have hz1 : w2.cell? ⟨g4, 1, none⟩ = some (.int .i64 0) := (HO3.out).cells 1
  have hz2 : w2.cell? ⟨g4, 2, none⟩ = some (.int .i64 0) := (HO3.out).cells 2
  have hz3 : w2.cell? ⟨g4, 3, none⟩ = some (.int .i64 0) := (HO3.out).cells 3
  have hz4 : w2.cell? ⟨g4, 4, none⟩ = some (.slice none 0 0) := (HO3.out).cells 4
  have hz5 : w2.cell? ⟨g4, 5, none⟩ = some (.slice none 0 0) := (HO3.out).cells 5
  have hy0 := (HO3.out).thaw 0
  have hy1 := (HO3.out).thaw 1
  have hy2 := (HO3.out).thaw 2
  have hy3 := (HO3.out).thaw 3
  have hy4 := (HO3.out).thaw 4
  have hy5 := (HO3.out).thaw 5
  unfold ansV ansC
  go_wp2_with fail
  have h1 := HO3.out.ans R.1 nilV nilV
  refine bodyPost_ret (ans_result rfl rfl h1) rfl ?_
  exact ⟨rfl, h1.drop, HK2.out.ans _ _ _ _ _ _ _⟩
end Go.Proofs.YtonhcefgakmpfaaGreatDoor
/- THE WALK of tree.within. -/
namespace Go.Proofs.YtonhcefgakmpfaaGreatDoor
open Go.RowKit Go.Own
theorem withinF_up {S : Tre} {rk : Int → Nat} (hup : ∀ n x, fnd S.nodes n = some x → x.above ≠ 0 → (∃ y, fnd S.nodes x.above = some y) ∧ rk x.above < rk n) (d : Int) : ∀ (k j : Nat) (n : Int) (x : Nod), fnd S.nodes n = some x → rk n ≤ k → rk n ≤ j → S.withinF k n d = S.withinF j n d := by
  intro k
  induction k with
  | zero =>
    intro j n x hn h1 h2
    have hz : rk n = 0 := by omega
    cases j with
    | zero => rfl
    | succ j =>
      have hat : S.at_ n = x := by unfold Tre.at_; rw [hn]; rfl
      show (n == d) = (if n ≠ d ∧ (S.at_ n).above ≠ 0 then _ else n == d)
      rw [if_neg]
      rintro ⟨-, h⟩
      rw [hat] at h
      have := (hup n x hn h).2
      omega
  | succ k ih =>
    intro j n x hn h1 h2
    have hat : S.at_ n = x := by unfold Tre.at_; rw [hn]; rfl
    cases j with
    | zero =>
      show (if n ≠ d ∧ (S.at_ n).above ≠ 0 then _ else n == d) = (n == d)
      rw [if_neg]
      rintro ⟨-, h⟩
      rw [hat] at h
      have := (hup n x hn h).2
      omega
    | succ j =>
      show (if n ≠ d ∧ (S.at_ n).above ≠ 0 then S.withinF k (S.at_ n).above d else n == d) = (if n ≠ d ∧ (S.at_ n).above ≠ 0 then S.withinF j (S.at_ n).above d else n == d)
      by_cases h : n ≠ d ∧ (S.at_ n).above ≠ 0
      · rw [if_pos h, if_pos h, hat]
        have h3 := h.2
        rw [hat] at h3
        obtain ⟨⟨y, hy⟩, hr⟩ := hup n x hn h3
        exact ih j _ y hy (by omega) (by omega)
      · rw [if_neg h, if_neg h]
set_option maxRecDepth 100000 in
set_option maxHeartbeats 8000000 in
theorem tWithin (q : Nat) (S : Tre) (rk : Int → Nat) (n d : Int) (x : Nod) (w : World) (L : List HP) (hup : ∀ n x, fnd S.nodes n = some x → x.above ≠ 0 → (∃ y, fnd S.nodes x.above = some y) ∧ rk x.above < rk n) (hn : fnd S.nodes n = some x) (hrk : rk n ≤ 20) (hO : Has w (Trc q S :: L)) :
    Calls Tryz.prog 130 #[.pointer (some ⟨q, 0, none⟩), .int .i64 n, .int .i64 d] w fun e w' => e = .returned (.bool (S.within n d)) ∧ w = w' := by
  obtain ⟨m, f, P, hPT, h⟩ := trc_iff.1 hO
  have hq := (Trb.cells h).1
  have HL := hid (show ∀ n x, fnd S.nodes n = some x → ∃ b, (Instr.lookup tNo (.map (some m)) (.int .i64 n) false).run Tryz.prog w = .ok (.pointer (some ⟨b, 0, none⟩)) w ∧ w.cell? ⟨b, 6, none⟩ = some (.int .i64 x.above) from fun n x hn => by
    rw [← hPT.1] at hn
    obtain ⟨b, hb, hl⟩ := Trb.look h hn
    obtain ⟨A, B, dv, wv, nm, -, -, hP⟩ := Trb.take h hb
    exact ⟨b, hl, hP.cells 6⟩)
  have HUP := hid hup
  have HST := hid (fun k j n x => withinF_up hup d k j n x)
  obtain ⟨R, hR⟩ : ∃ R, S.within n d = R := ⟨_, rfl⟩
  have HR0 := hid (show S.withinF (rk n) n d = R from by rw [← hR]; exact withinF_up hup d _ _ n x hn (Nat.le_refl _) (by omega))
  rw [hR]
  clear h hO hPT hup hR
  go_enter Tryz.func130, Tryz.ntmps130
  go_wp2_with fail
  go_loopw [1] (fun v w' => ∃ (n1 : Int) (x1 : Nod), v = .int .i64 n1 ∧ w' = w ∧ fnd S.nodes n1 = some x1 ∧ Hid (S.withinF (rk n1) n1 d = R)) (fun v _ => rk (intOf v))
  case atStart => exact ⟨n, x, rfl, rfl, hn, HR0⟩
  case round =>
    clear HR0 hn hrk
    obtain ⟨n1, x1, rfl, rfl, hn1, HR1⟩ := hrel
    have hat : S.at_ n1 = x1 := by unfold Tre.at_; rw [hn1]; rfl
    obtain ⟨b, hl, hc⟩ := HL.out n1 x1 hn1
    by_cases hnd : n1 = d
    · subst hnd
      have h1 : (n1 != n1) = false := by simp
      have h2 : (n1 == n1) = true := by simp
      have HRR := hid (show R = true from by
        rw [← HR1.out]
        cases hk : rk n1 with
        | zero => show (n1 == n1) = true; simp
        | succ k => show (if n1 ≠ n1 ∧ _ then _ else n1 == n1) = true; rw [if_neg (by simp)]; simp)
      go_wp2_with fail
      go_ret
      exact ⟨by rw [HRR.out]; rfl, rfl⟩
    · have h1 : (n1 != d) = true := by simpa using hnd
      have h2 : (n1 == d) = false := by simpa using hnd
      by_cases ha : x1.above = 0
      · have h3 : (x1.above != 0) = false := by simp [ha]
        have HRR := hid (show R = false from by
          rw [← HR1.out]
          cases hk : rk n1 with
          | zero => exact h2
          | succ k => show (if n1 ≠ d ∧ (S.at_ n1).above ≠ 0 then _ else n1 == d) = false; rw [if_neg (by rw [hat]; exact fun h => h.2 ha)]; exact h2)
        go_wp2_with fail
        go_ret
        exact ⟨by rw [HRR.out]; rfl, rfl⟩
      · have h3 : (x1.above != 0) = true := by simpa using ha
        obtain ⟨⟨y, hy⟩, hr⟩ := HUP.out n1 x1 hn1 ha
        have HR2 := hid (show S.withinF (rk x1.above) x1.above d = R from by
          rw [← HR1.out]
          cases hk : rk n1 with
          | zero => omega
          | succ k =>
            show _ = (if n1 ≠ d ∧ (S.at_ n1).above ≠ 0 then S.withinF k (S.at_ n1).above d else n1 == d)
            rw [if_pos (by rw [hat]; exact ⟨hnd, ha⟩), hat]
            exact HST.out _ _ _ y hy (Nat.le_refl _) (by omega))
        have HLT := hid hr
        clear HR1 hat
        go_wp2_with fail
        go_roundw
        case rel => exact ⟨x1.above, y, rfl, trivial, hy, HR2⟩
        case measure => exact HLT.out
end Go.Proofs.YtonhcefgakmpfaaGreatDoor
/- THE WALK of cmp.Or of two strings. -/
namespace Go.Proofs.YtonhcefgakmpfaaGreatDoor
open Go.RowKit Go.Own
def orM (p : Str) : Str := if p = [] then [47] else p
set_option maxRecDepth 100000 in
theorem cmpOr (g : Nat) (p : Str) (w : World) (h0 : w.cell? ⟨g, 0, none⟩ = some (sV p)) (h1 : w.cell? ⟨g, 1, none⟩ = some (sV [47])) : Calls Tryz.prog 71 #[.slice (some ⟨g, 0, none⟩) 2 2] w fun e w' => e = .returned (sV (orM p)) ∧ w = w' := by
  go_enter Tryz.func71, Tryz.ntmps71
  go_wp2_with fail
  go_loopw [8] (fun kv w' => w' = w ∧ ((kv = .int .i64 0) ∨ (kv = .int .i64 1 ∧ p = []))) (fun kv _ => 2 - (intOf kv).toNat)
  case atStart => exact ⟨rfl, .inl rfl⟩
  case round =>
    obtain ⟨rfl, rfl | ⟨rfl, rfl⟩⟩ := hrel
    · by_cases hp : p = []
      · subst hp
        go_wp2_with fail
        exact ⟨⟨trivial, .inr ⟨rfl, trivial⟩⟩, by simp [intOf]⟩
      · have HR := hid (show orM p = p from if_neg hp)
        have he : p.isEmpty = false := by simpa using hp
        have he2 : (p == []) = false := by simpa using hp
        have he3 : (p != []) = true := by simpa using hp
        clear hp
        go_wp2_with fail
        try rw [Exit.noGoto_ret]
        go_ret
        rw [HR.out]
        exact ⟨rfl, rfl⟩
    · have HR := hid (show orM [] = [47] from rfl)
      go_wp2_with fail
      try rw [Exit.noGoto_ret]
      go_ret
      rw [HR.out]
      exact ⟨rfl, rfl⟩
end Go.Proofs.YtonhcefgakmpfaaGreatDoor
/- A range over no map. -/
namespace Go.Proofs.YtonhcefgakmpfaaGreatDoor
open Go.RowKit Go.Own
theorem range_nil (w : World) : (Instr.range tNm (.map none)).run Tryz.prog w = .ok (.pointer (some ⟨w.heap.size, 0, none⟩)) (w.alloc (.mapIter none 0 #[] 0)) := by
  unfold Instr.range
  simp only [Sem.run_bind, run_underlying undNm, Result.andThen_ok, Sem.run_pure]
  rfl
theorem next_nil (r : Nat) (w : World) (T : TypeId) (h : w.heap[r]? = some (.mapIter none 0 #[] 0)) : (Instr.next (.pointer (some ⟨r, 0, none⟩)) false T).run Tryz.prog w = .ok (.tuple #[.bool false]) w := by
  unfold Instr.next
  have e : (getObj r).run Tryz.prog w = .ok (.mapIter none 0 #[] 0) w := by
    simp [getObj, Sem.run, h]
  simp only [Sem.run_bind, e, Result.andThen_ok, Sem.run_pure]
end Go.Proofs.YtonhcefgakmpfaaGreatDoor
/- append of one element of more cells. No program in sight. -/
namespace Go.Own
open Go.RowKit
end Go.Own
/- THE WALK of the closure of tree.Nodes (see). -/
namespace Go.Proofs.YtonhcefgakmpfaaGreatDoor
open Go.RowKit Go.Own
/-- A file as it is seen. -/
structure Sn where
  path : Str
  num : Int
  kind : Int
  links : Int
  data : List Int
  dv : Value
def oneV : Value → Value
  | .slice p n c => .slice p n c
  | _ => .slice none 0 0
def Sn.enc (s : Sn) : List Value := [sV s.path, .int .i64 s.num, .int .i64 s.kind, .int .i64 s.links, oneV s.dv]
def snEnc : List Sn → List Value
  | [] => []
  | s :: r => s.enc ++ snEnc r
theorem snEnc_app (a b : List Sn) : snEnc (a ++ b) = snEnc a ++ snEnc b := by
  induction a with
  | nil => rfl
  | cons s a ih => simp [snEnc, ih, List.append_assoc]
theorem infoNode : (Tryz.prog.info? 55).map (fun i => (i.zero, i.size, i.bytes)) = some (some (.agg #[.string ⟨#[]⟩, .int .i64 0, .int .i64 0, .int .i64 0, .slice none 0 0]), 5, 64) := by kernel_rfl
/-- What was seen so far: the elements, and their bytes. -/
def Sns (v : Value) (os : List Sn) : HP := star (row v 55 5 os.length (snEnc os) :: os.map fun s => Bytes s.dv s.data)
theorem sns_iff {w : World} {L : List HP} {v : Value} {os : List Sn} : Has w (Sns v os :: L) ↔ Has w (row v 55 5 os.length (snEnc os) :: (os.map (fun s => Bytes s.dv s.data) ++ L)) := by
  unfold Sns
  rw [Has.star_iff]
  rfl
/-- All below a node, by all its paths (the order: any). -/
def seen (S : List (Int × Nod)) : Nat → Int → Str → List (Str × Int × Nod)
  | 0, _, _ => []
  | k + 1, n, p => (orM p, n, (fnd S n).getD nod0) :: ((fnd S n).getD nod0).names.flatMap fun e => seen S k e.2 (p ++ 47 :: e.1)
theorem sB_app (a b : Str) : sB a ++ sB b = sB (a ++ b) := by
  apply ByteArray.ext
  simp [sB]
theorem names_step {t : List (Str × Int)} {rem : List Str} {k : Str} {c : Int} (hn : (t.map Prod.fst).Nodup) (hm : (k, c) ∈ t) (hr : k ∈ rem) :
    (t.filter fun e => decide (e.1 ∈ rem)).Perm ((k, c) :: t.filter fun e => decide (e.1 ∈ rem.filter fun y => !decide (y = k))) ∧ (t.filter fun e => !decide (e.1 ∈ rem.filter fun y => !decide (y = k))).Perm ((k, c) :: t.filter fun e => !decide (e.1 ∈ rem)) := by
  obtain ⟨X, Y, rfl⟩ := List.append_of_mem hm
  have hX : ∀ e ∈ X, (e.1 ∈ rem.filter fun y => !decide (y = k)) ↔ e.1 ∈ rem := by
    intro e he
    have : e.1 ≠ k := by
      rintro rfl
      simp only [List.map_append, List.map_cons, List.nodup_append] at hn
      exact hn.2.2 e.1 (List.mem_map_of_mem he) e.1 (by simp) rfl
    simp [this]
  have hY : ∀ e ∈ Y, (e.1 ∈ rem.filter fun y => !decide (y = k)) ↔ e.1 ∈ rem := by
    intro e he
    have : e.1 ≠ k := by
      rintro rfl
      simp only [List.map_append, List.map_cons, List.nodup_append, List.nodup_cons] at hn
      exact hn.2.1.1 (List.mem_map_of_mem he)
    simp [this]
  have e1 : X.filter (fun e => decide (e.1 ∈ rem.filter fun y => !decide (y = k))) = X.filter fun e => decide (e.1 ∈ rem) := List.filter_congr fun e he => by rw [decide_eq_decide]; exact hX e he
  have e2 : Y.filter (fun e => decide (e.1 ∈ rem.filter fun y => !decide (y = k))) = Y.filter fun e => decide (e.1 ∈ rem) := List.filter_congr fun e he => by rw [decide_eq_decide]; exact hY e he
  have e3 : X.filter (fun e => !decide (e.1 ∈ rem.filter fun y => !decide (y = k))) = X.filter fun e => !decide (e.1 ∈ rem) := List.filter_congr fun e he => by congr 1; rw [decide_eq_decide]; exact hX e he
  have e4 : Y.filter (fun e => !decide (e.1 ∈ rem.filter fun y => !decide (y = k))) = Y.filter fun e => !decide (e.1 ∈ rem) := List.filter_congr fun e he => by congr 1; rw [decide_eq_decide]; exact hY e he
  have hk : ¬ (k ∈ rem.filter fun y => !decide (y = k)) := by simp
  refine ⟨?_, ?_⟩
  · rw [List.filter_append, List.filter_append, List.filter_cons, List.filter_cons, e1, e2]
    dsimp only
    rw [if_pos (by simpa using hr), if_neg (by rw [decide_eq_true_iff]; exact hk)]
    exact List.perm_middle
  · rw [List.filter_append, List.filter_append, List.filter_cons, List.filter_cons, e3, e4]
    dsimp only
    rw [if_pos (by rw [decide_eq_false hk]; rfl), if_neg (by rw [decide_eq_true hr]; decide)]
    exact List.perm_middle
theorem flat_le {α β : Type} (f : α → List β) : ∀ (l : List α) (e : α), e ∈ l → (f e).length ≤ (l.flatMap f).length
  | a :: l, e, h => by
    rw [List.flatMap_cons, List.length_append]
    rcases List.mem_cons.1 h with rfl | h
    · omega
    · have := flat_le f l e h
      omega
theorem sns_snoc {w : World} {L : List HP} {v : Value} {os : List Sn} (s : Sn) (h : Has w (row v 55 5 (os.length + 1) (snEnc os ++ s.enc) :: Bytes s.dv s.data :: (os.map (fun s => Bytes s.dv s.data) ++ L))) : Has w (Sns v (os ++ [s]) :: L) := by
  refine sns_iff.2 ?_
  rw [snEnc_app, List.length_append, List.map_append]
  have e : snEnc [s] = s.enc := by simp [snEnc]
  rw [e]
  refine h.perm (.cons _ ?_)
  rw [List.append_assoc]
  exact List.perm_middle.symm
theorem seen_front {a r b : HP} {X M L : List HP} : (a :: r :: b :: (X ++ (M ++ L))).Perm (r :: b :: (M ++ (a :: (X ++ L)))) := by
  refine (List.Perm.swap _ _ _).trans (.cons _ ((List.Perm.swap _ _ _).trans (.cons _ ?_)))
  show ((a :: X) ++ (M ++ L)).Perm (M ++ ((a :: X) ++ L))
  rw [← List.append_assoc, ← List.append_assoc]
  exact List.Perm.append_right L List.perm_append_comm
def Sn.key (s : Sn) : Str × Int × Int × Int × List Int := (s.path, s.num, s.kind, s.links, s.data)
def keyE (e : Str × Int × Nod) : Str × Int × Int × Int × List Int := (e.1, e.2.1, e.2.2.kind, e.2.2.links, e.2.2.data)
set_option maxRecDepth 100000 in
set_option maxHeartbeats 8000000 in
theorem tSee (q m f gt gs go : Nat) (P : List Pn) (last : Int) (T : List Tb.Slot) (rk : Int → Nat) (hxd : ∀ y ∈ P, y.2.2.data.length ≤ 100000) (hnd : (P.map Prod.fst).Nodup) (hlow : ∀ y ∈ P, rk y.1 ≤ 21) (hrk : ∀ y ∈ P, ∀ e ∈ y.2.2.names, rk y.1 < rk e.2 ∧ e.1.length ≤ 24 ∧ ∃ z ∈ P, z.1 = e.2) : ∀ (d : Nat) (n : Int) (b : Nat) (x : Nod) (p : Str) (PC : List Pn) (ov : Value) (os : List Sn) (w : World) (L : List HP), 22 ≤ rk n + d → rk n ≤ 21 → (n, b, x) ∈ P → p.length ≤ 25 * rk n → (∀ y ∈ P, rk n ≤ rk y.1 → y ∈ PC) → os.length + (seen (pnN P) d n p).length ≤ 1000000 →
    Has w (Sns ov os :: pt go (.cells #[ov] 37) :: pt gt (.cells #[.pointer (some ⟨q, 0, none⟩)] 25) :: pt gs (.cells #[(.func (.func 70) #[] #[.pointer (some ⟨gt, 0, none⟩), .pointer (some ⟨go, 0, none⟩), .pointer (some ⟨gs, 0, none⟩)])] 106) :: Trg q m f P last T PC :: L) →
    Calls Tryz.prog 70 #[.int .i64 n, sV p, .pointer (some ⟨gt, 0, none⟩), .pointer (some ⟨go, 0, none⟩), .pointer (some ⟨gs, 0, none⟩)] w fun e w' => e = .returned (.tuple #[]) ∧ ∃ ov' os', (os'.map Sn.key).Perm ((seen (pnN P) d n p).map keyE) ∧ Has w' (Sns ov' (os ++ os') :: pt go (.cells #[ov'] 37) :: pt gt (.cells #[.pointer (some ⟨q, 0, none⟩)] 25) :: pt gs (.cells #[(.func (.func 70) #[] #[.pointer (some ⟨gt, 0, none⟩), .pointer (some ⟨go, 0, none⟩), .pointer (some ⟨gs, 0, none⟩)])] 106) :: Trg q m f P last T PC :: L) ∧ Keep w w' := by
  intro d
  induction d with
  | zero => intro n b x p PC ov os w L h1 h2; omega
  | succ d ih =>
  intro n b x p PC ov os w L hr1 hr2 hin hp hall hos hO
  obtain ⟨A, B, hPC⟩ := List.append_of_mem (hall _ hin (Nat.le_refl _))
  have hat : (fnd (pnN P) n).getD nod0 = x := by
    rw [fnd_mem (by rw [pnN_keys]; exact hnd) (show (n, x) ∈ pnN P from List.mem_map.2 ⟨_, hin, rfl⟩)]
    rfl
  have hsn : seen (pnN P) (d + 1) n p = (orM p, n, x) :: x.names.flatMap fun e => seen (pnN P) d e.2 (p ++ 47 :: e.1) := by
    rw [seen, hat]
  rw [hsn] at hos ⊢
  simp only [List.length_cons] at hos
  have hxl := hxd _ hin
  have HIH := hid ih
  have HALL := hid hall
  have HPCe := hid hPC
  clear ih hall hat hsn
  have hlk := Trg.look hO.drop.drop.drop.drop hin
  have hq0 := (Trg.cells hO.drop.drop.drop.drop).1
  have hgt : w.cell? ⟨gt, 0, none⟩ = some (.pointer (some ⟨q, 0, none⟩)) := hO.p2.cells 0
  have h1 : Has w (Trg q m f P last T (A ++ (n, b, x) :: B) :: Sns ov os :: pt go (.cells #[ov] 37) :: pt gt (.cells #[.pointer (some ⟨q, 0, none⟩)] 25) :: pt gs (.cells #[(.func (.func 70) #[] #[.pointer (some ⟨gt, 0, none⟩), .pointer (some ⟨go, 0, none⟩), .pointer (some ⟨gs, 0, none⟩)])] 106) :: L) := by rw [← hPC]; exact hO.re 5 [4, 0, 1, 2, 3]
  obtain ⟨dv, wv, nm, hnm, h2⟩ := ndc_iff.1 (Trg.pull h1)
  have HNM := hid hnm
  obtain ⟨pd, cd, rfl, -⟩ := (Dat.rd h2.p1).form
  have HO := hid (show Has w (row ov 55 5 os.length (snEnc os) :: pt go (.cells #[ov] 37) :: pt b (.cells (nodC x (.slice pd x.data.length cd) wv nm) 83) :: Dat x.kind (.slice pd x.data.length cd) x.data :: Bools wv x.wr :: Nms nm x.names :: Trg q m f P last T (A ++ B) :: pt gt (.cells #[.pointer (some ⟨q, 0, none⟩)] 25) :: pt gs (.cells #[(.func (.func 70) #[] #[.pointer (some ⟨gt, 0, none⟩), .pointer (some ⟨go, 0, none⟩), .pointer (some ⟨gs, 0, none⟩)])] 106) :: (os.map (fun s => Bytes s.dv s.data) ++ L)) from by
    have h3 := (h2.re 9 [5, 6, 0, 1, 2, 3, 4, 7, 8])
    have h4 := sns_iff.1 h3
    refine h4.perm (.cons _ ?_)
    refine List.Perm.trans (l₂ := (os.map fun s => Bytes s.dv s.data) ++ ([pt go (.cells #[ov] 37), pt b (.cells (nodC x (.slice pd x.data.length cd) wv nm) 83), Dat x.kind (.slice pd x.data.length cd) x.data, Bools wv x.wr, Nms nm x.names, Trg q m f P last T (A ++ B), pt gt (.cells #[.pointer (some ⟨q, 0, none⟩)] 25), pt gs (.cells #[(.func (.func 70) #[] #[.pointer (some ⟨gt, 0, none⟩), .pointer (some ⟨go, 0, none⟩), .pointer (some ⟨gs, 0, none⟩)])] 106)] ++ L)) (.refl _) ?_
    rw [← List.append_assoc]
    refine (List.Perm.append_right L List.perm_append_comm).trans ?_
    rw [List.append_assoc]
    exact .refl _)
  clear h1 h2 hO hnm
  go_enter Tryz.func70, Tryz.ntmps70
  go_upto_region 1 with fail
  have HO2 := hid HO.out.drew
  have HK2 := hid (Keep.refl w).drew
  obtain ⟨po, co, hov, -⟩ := (Has.rd HO.out).form
  refine region_tail1 (fun w' => w'.cell? ⟨go, 0, none⟩ = some ov ∧ w'.cell? ⟨b, 0, none⟩ = some (.int .i64 x.kind) ∧ w'.cell? ⟨b, 5, none⟩ = some (.int .i64 x.links) ∧ w'.cell? ⟨b, 1, none⟩ = some (.slice pd x.data.length cd)) (by kernel_rfl) (by kernel_rfl) (by kernel_rfl) (by decide) ⟨HO2.out.p1.cells 0, HO2.out.p2.cells 0, HO2.out.p2.cells 5, HO2.out.p2.cells 1⟩ ?_
  clear HO hlk hq0 hgt
  generalize w.drew = w2 at *
  subst hov
  repeat (first
    | (refine wpL_read (by rfl) (by rfl) ?_ ?_ ?_; rotate_left; (rintro w ⟨z0, z1, z2, z3⟩; go_simp; with_reducible rfl); simp only [Act.put, List.setIfInBounds_toArray, List.set_cons_zero, List.set_cons_succ]) | (refine wpL_skip (by rfl) ?_; simp only [Act.put, List.setIfInBounds_toArray, List.set_cons_zero, List.set_cons_succ]))
  refine wpL_act (by rfl) (by rfl) (fun K hK => ?_)
  go_simp
  have HO3 := hid (HO2.out.alloc (.cells #[sV p, sV [47]] 9))
  have HK3 := hid (HK2.out.alloc (.cells #[sV p, sV [47]] 9))
  refine hK.out _ _ ⟨HO3.out.p2.cells 0, HO3.out.p3.cells 0, HO3.out.p3.cells 5, HO3.out.p3.cells 1⟩ ?_
  clear hK K HO2 HK2
  try simp only [Act.put, List.setIfInBounds_toArray, List.set_cons_zero, List.set_cons_succ]
  generalize w2.heap.size = g6 at *
  generalize w2.alloc (.cells #[sV p, sV [47]] 9) = w3 at *
  refine wpL_act (by rfl) (by rfl) (fun K hK => ?_)
  go_simp
  refine (cmpOr g6 p w3 (HO3.out.cells 0) (HO3.out.cells 1)).mono ?_
  rintro e w' ⟨rfl, rfl⟩
  try dsimp only
  refine hK.out _ _ ⟨HO3.out.p2.cells 0, HO3.out.p3.cells 0, HO3.out.p3.cells 5, HO3.out.p3.cells 1⟩ ?_
  clear hK K
  try simp only [Act.put, List.setIfInBounds_toArray, List.set_cons_zero, List.set_cons_succ]
  repeat (first
    | (refine wpL_read (by rfl) (by rfl) ?_ ?_ ?_; rotate_left; (rintro w ⟨z0, z1, z2, z3⟩; go_simp; with_reducible rfl); simp only [Act.put, List.setIfInBounds_toArray, List.set_cons_zero, List.set_cons_succ]) | (refine wpL_skip (by rfl) ?_; simp only [Act.put, List.setIfInBounds_toArray, List.set_cons_zero, List.set_cons_succ]))
  refine wpL_act (by rfl) (by rfl) (fun K hK => ?_)
  go_simp
  refine (cloneBy _ x.data _ _ HO3.out (Dat.rd (HO3.out.re 5 [4])) (by have := hxl; dsimp only at this; omega)).mono ?_
  rintro e w4 ⟨v4, rfl, hO4, hK4⟩
  have HO4 := hid hO4
  have HK4 := hid ((HK3.out).trans hK4)
  clear hO4 hK4
  try dsimp only
  refine hK.out _ _ (⟨(HO4.out.re 4 [3]).cells 0, (HO4.out.re 5 [4]).cells 0, (HO4.out.re 5 [4]).cells 5, (HO4.out.re 5 [4]).cells 1⟩) ?_
  clear hK K
  try simp only [Act.put, List.setIfInBounds_toArray, List.set_cons_zero, List.set_cons_succ]
  obtain ⟨p4, c4, hv4, -⟩ := (Bytes.rd HO4.out).form
  subst hv4
  repeat (first
    | (refine wpL_read (by rfl) (by rfl) ?_ ?_ ?_; rotate_left; (rintro w ⟨z0, z1, z2, z3⟩; go_simp; with_reducible rfl); simp only [Act.put, List.setIfInBounds_toArray, List.set_cons_zero, List.set_cons_succ]) | (refine wpL_skip (by rfl) ?_; simp only [Act.put, List.setIfInBounds_toArray, List.set_cons_zero, List.set_cons_succ]))
  refine wpL_act (by rfl) (by rfl) (fun K hK => ?_)
  go_simp
  have HO5 := hid (HO4.out.alloc (.cells #[sV (orM p), .int .i64 n, .int .i64 x.kind, .int .i64 x.links, .slice p4 x.data.length c4] 55))
  have HK5 := hid (HK4.out.alloc (.cells #[sV (orM p), .int .i64 n, .int .i64 x.kind, .int .i64 x.links, .slice p4 x.data.length c4] 55))
  refine hK.out _ _ ⟨(HO5.out.re 5 [4]).cells 0, (HO5.out.re 6 [5]).cells 0, (HO5.out.re 6 [5]).cells 5, (HO5.out.re 6 [5]).cells 1⟩ ?_
  clear hK K HO4 HK4 HO3 HK3
  try simp only [Act.put, List.setIfInBounds_toArray, List.set_cons_zero, List.set_cons_succ]
  generalize w4.heap.size = g7 at *
  generalize w4.alloc (.cells #[sV (orM p), .int .i64 n, .int .i64 x.kind, .int .i64 x.links, .slice p4 x.data.length c4] 55) = w5 at *
  refine wpL_act (by rfl) (by rfl) (fun K hK => ?_)
  have hcs := HO5.out.cells
  refine wp_append1 _ _ 37 rfl Tryz.underlying37 infoNode rfl [sV (orM p), .int .i64 n, .int .i64 x.kind, .int .i64 x.links, .slice p4 x.data.length c4] rfl (HO5.out.re 4 [3, 0, 1, 2]) rfl 1 g7 rfl (fun j => by rw [hcs j]; simp) (by intro u hu; simp at hu; rcases hu with rfl | rfl | rfl | rfl | rfl <;> rfl) (le_maxLen (by omega)) (by omega) ?_
  intro v6 w6 h6 k6
  refine hK.out _ _ ⟨(h6.re 5 [4]).cells 0, (h6.re 6 [5]).cells 0, (h6.re 6 [5]).cells 5, (h6.re 6 [5]).cells 1⟩ ?_
  clear hK K hcs
  try simp only [Act.put, List.setIfInBounds_toArray, List.set_cons_zero, List.set_cons_succ]
  refine wpL_nil ?_
  obtain ⟨p6, c6, hv6, -⟩ := (Has.rd h6).form
  subst hv6
  have hcg : w6.cell? ⟨go, 0, none⟩ = some (.slice po os.length co) := (h6.re 5 [4]).cells 0
  have htg := (h6.re 5 [4]).thaw 0
  have HO7 := hid (show Has (w6.setCell ⟨go, 0, none⟩ (.slice p6 (os.length + 1) c6)) (pt go (.cells #[.slice p6 (os.length + 1) c6] 37) :: row (.slice p6 (os.length + 1) c6) 55 5 (os.length + 1) (snEnc os ++ [sV (orM p), .int .i64 n, .int .i64 x.kind, .int .i64 x.links, .slice p4 x.data.length c4]) :: Bytes (.slice p4 x.data.length c4) x.data :: pt b (.cells (nodC x (.slice pd x.data.length cd) wv nm) 83) :: Dat x.kind (.slice pd x.data.length cd) x.data :: Bools wv x.wr :: Nms nm x.names :: Trg q m f P last T (A ++ B) :: pt gt (.cells #[.pointer (some ⟨q, 0, none⟩)] 25) :: pt gs (.cells #[(.func (.func 70) #[] #[.pointer (some ⟨gt, 0, none⟩), .pointer (some ⟨go, 0, none⟩), .pointer (some ⟨gs, 0, none⟩)])] 106) :: (os.map (fun s => Bytes s.dv s.data) ++ L)) from
    (show Has w6 (pt go (.cells #[.slice po os.length co] 37) :: _) from h6.re 12 [4, 0, 2, 5, 6, 7, 8, 9, 10, 11]).set 0 (.slice p6 (os.length + 1) c6))
  have HK7 := hid ((HK5.out.trans k6).set ⟨go, 0, none⟩ (.slice p6 (os.length + 1) c6))
  refine wpOp_last rfl (by rfl) ?_
  go_simp
  clear h6 k6 hcg htg HO5 HK5
  generalize w6.setCell ⟨go, 0, none⟩ (.slice p6 (os.length + 1) c6) = w7 at *
  have hc3 : w7.cell? ⟨b, 3, none⟩ = some (.map nm) := (HO7.out.re 4 [3]).cells 3
  cases nm with
  | none =>
    have hrn := range_nil
    have hnx := next_nil w7.heap.size (w7.alloc (.mapIter none 0 #[] 0)) 0 (by show (Array.push _ _)[_]? = _; simp)
    go_wp2_with fail
    go_loopw [] (fun w' => w' = w7.alloc (.mapIter none 0 #[] 0)) (fun _ => 0)
    case atStart => rfl
    case round =>
      subst hrel
      have HO8 := hid (sns_snoc ⟨orM p, n, x.kind, x.links, x.data, .slice p4 x.data.length c4⟩ (HO7.out.perm (seen_front (X := [_, _, _, _, _, _, _]))))
      go_wp2_with fail
      go_end0
      have hnn : x.names = [] := (Has.fact_iff.1 (show Has w7 (fact (x.names = []) :: _) from HO8.out.re 6 [5])).1
      refine ⟨rfl, .slice p6 (os.length + 1) c6, [⟨orM p, n, x.kind, x.links, x.data, .slice p4 x.data.length c4⟩], ?_, ?_, HK7.out.alloc _⟩
      · rw [hnn]
        exact .refl _
      · have h9 := (HO8.out.re 9 [2, 3, 4, 5, 6, 0, 1, 7, 8]).alloc' (.mapIter none 0 #[] 0)
        have h10 := Trg.push n (ndc_iff.2 ⟨_, _, _, HNM.out, h9⟩ : Has _ (Ndc b x :: _))
        have h11 := Trg.perm h10 (PC' := PC) (by rw [HPCe.out]; exact List.perm_middle.symm)
        exact h11.re 5 [1, 2, 3, 4, 0]
  | some mm =>
    have HO8 := hid (sns_snoc ⟨orM p, n, x.kind, x.links, x.data, .slice p4 x.data.length c4⟩ (HO7.out.perm (seen_front (X := [_, _, _, _, _, _, _]))))
    have HO9 := hid (show Has w7 (Mk kStr vInt mm x.names :: _) from HO8.out.re 9 [5, 0, 1, 2, 3, 4, 6, 7, 8])
    have HNDN := hid (Mk.nodup HO9.out)
    clear HO7 HO8
    go_wp2_with (at_range; refine wpList_mkStart HO9.out tNm undNm rfl _ rfl rfl ?_; intro w8 hO8 hK8 hs8)
    try go_frame
    have HO8 := hid hO8
    have HK8 := hid (HK7.out.trans hK8)
    clear hO8 hK8 hs8 HO9 HK7 hc3
    generalize w7.heap.size = r at *
    go_loopw [] (fun w' => ∃ (rem : List Str) (cnt : Nat) (ov1 : Value) (os1 : List Sn), (∀ s ∈ rem, s ∈ x.names.map Prod.fst) ∧ os1.length + ((x.names.filter fun e => decide (e.1 ∈ rem)).flatMap fun e => seen (pnN P) d e.2 (p ++ 47 :: e.1)).length ≤ (x.names.flatMap fun e => seen (pnN P) d e.2 (p ++ 47 :: e.1)).length + 1 ∧ Hid ((os1.map Sn.key).Perm (keyE (orM p, n, x) :: ((x.names.filter fun e => !decide (e.1 ∈ rem)).flatMap fun e => seen (pnN P) d e.2 (p ++ 47 :: e.1)).map keyE)) ∧ Hid (Has w' (Mr kStr vInt mm r x.names rem cnt :: Sns ov1 (os ++ os1) :: pt go (.cells #[ov1] 37) :: pt b (.cells (nodC x (.slice pd x.data.length cd) wv (some mm)) 83) :: Dat x.kind (.slice pd x.data.length cd) x.data :: Bools wv x.wr :: Trg q m f P last T (A ++ B) :: pt gt (.cells #[.pointer (some ⟨q, 0, none⟩)] 25) :: pt gs (.cells #[(.func (.func 70) #[] #[.pointer (some ⟨gt, 0, none⟩), .pointer (some ⟨go, 0, none⟩), .pointer (some ⟨gs, 0, none⟩)])] 106) :: L)) ∧ Hid (Keep w w')) (fun w' => w'.rangeLeft mm r)
    case atStart =>
      have hall : ∀ e ∈ x.names, e.1 ∈ x.names.map Prod.fst := fun e he => List.mem_map_of_mem he
      refine ⟨x.names.map Prod.fst, x.names.length, _, [⟨orM p, n, x.kind, x.links, x.data, .slice p4 x.data.length c4⟩], fun s hs => hs, ?_, hid ?_, HO8, HK8⟩
      · rw [List.filter_eq_self.2 (fun e he => decide_eq_true (hall e he))]
        simp only [List.length_singleton]
        omega
      · rw [List.filter_eq_nil_iff.2 (fun e he => by simp [hall e he])]
        exact .refl _
    case round =>
      clear HO8 HK8
      obtain ⟨rem, cnt, ov1, os1, hsub, hlen1, HPM, HO, HK⟩ := hrel
      have hleft := Mr.left HO.out
      have HLF := hid hleft
      have HSUB := hid hsub
      have HLEN := hid hlen1
      clear hsub hlen1
      go_wp2_with (at_next; refine wpList_mkNext HO.out rfl _ rfl rfl ?_ ?_)
      · intro hrem
        subst hrem
        have HO5 := hid (show Has wr (Sns ov1 (os ++ os1) :: pt go (.cells #[ov1] 37) :: pt gt (.cells #[.pointer (some ⟨q, 0, none⟩)] 25) :: pt gs (.cells #[(.func (.func 70) #[] #[.pointer (some ⟨gt, 0, none⟩), .pointer (some ⟨go, 0, none⟩), .pointer (some ⟨gs, 0, none⟩)])] 106) :: Trg q m f P last T PC :: L) from by
          have h9 := (Mr.end HO.out).re 9 [3, 4, 5, 0, 6, 1, 2, 7, 8]
          have h10 := Trg.push n (ndc_iff.2 ⟨_, _, _, HNM.out, h9⟩ : Has _ (Ndc b x :: _))
          have h11 := Trg.perm h10 (PC' := PC) (by rw [HPCe.out]; exact List.perm_middle.symm)
          exact h11.re 5 [1, 2, 3, 4, 0])
        clear HO hleft
        go_wp2_with fail
        go_end0
        refine ⟨rfl, ov1, os1, ?_, HO5.out, HK.out⟩
        have h1 := HPM.out
        rw [List.filter_eq_self.2 (fun e _ => by simp)] at h1
        exact h1
      · rintro k c w9 cnt' hp9 hr9 hky hO9 hlt9 hK9 hsz hen
        simp only [kStr_val, vInt_val] at hen ⊢
        have hen2 := hen
        obtain ⟨hk1, hk2, ⟨c', b', x'⟩, hz, hzc⟩ := hrk _ hin (k, c) hp9
        dsimp only at hk1 hk2 hzc
        subst hzc
        obtain ⟨hNA, hNB⟩ := names_step HNDN.out hp9 hr9
        have hfl := flat_le (fun e : Str × Int => seen (pnN P) d e.2 (p ++ 47 :: e.1)) (x.names.filter fun e => decide (e.1 ∈ rem)) (k, c') (List.mem_filter.2 ⟨hp9, decide_eq_true hr9⟩)
        dsimp only at hfl
        have hpl : (p ++ 47 :: k).length ≤ 25 * rk c' := by simp only [List.length_append, List.length_cons]; omega
        have hall2 : ∀ y ∈ P, rk c' ≤ rk y.1 → y ∈ A ++ B := by
          intro y hy hyr
          have h1 := HALL.out y hy (by omega)
          rw [HPCe.out] at h1
          rcases List.mem_append.1 h1 with h | h
          · exact List.mem_append_left _ h
          · rcases List.mem_cons.1 h with h | h
            · rw [h] at hyr; dsimp only at hyr; omega
            · exact List.mem_append_right _ h
        have hgs : w9.cell? ⟨gs, 0, none⟩ = some (.func (.func 70) #[] #[.pointer (some ⟨gt, 0, none⟩), .pointer (some ⟨go, 0, none⟩), .pointer (some ⟨gs, 0, none⟩)]) := (show Has w9 (pt gs _ :: _) from hO9.re 9 [8]).cells 0
        have HX := hid (HIH.out c' b' x' (p ++ 47 :: k) (A ++ B) ov1 (os ++ os1) w9 _ (by omega) (hlow _ hz) hz hpl hall2 (by have h1 := HLEN.out; rw [List.length_append]; omega) (hO9.re 9 [1, 2, 7, 8, 6, 0, 3, 4, 5]))
        have HNA := hid hNA
        have HNB := hid hNB
        have HL9 := hid hlt9
        have HK9 := hid (HK.out.trans hK9)
        clear hp9 hr9 hky hO9 hlt9 hK9 hsz hleft HO HK hNA hNB hfl hall2 hpl
        go_wp2_with fail
        rw [show sB p ++ (⟨#[47]⟩ : ByteArray) ++ sB k = sB (p ++ 47 :: k) from by rw [show (⟨#[47]⟩ : ByteArray) = sB [47] from rfl, sB_app, sB_app, List.append_assoc]; rfl]
        refine HX.out.mono ?_
        rintro e w10 ⟨rfl, ov2, os2, hpm2, hO2, hK2⟩
        rw [List.append_assoc] at hO2
        have HO10 := hid (show Has w10 (Mr kStr vInt mm r x.names (rem.filter fun y => !decide (y = k)) cnt' :: _) from hO2.re 9 [5, 0, 1, 6, 7, 8, 4, 2, 3])
        have HK10 := hid (HK9.out.trans hK2)
        have HPM2 := hid hpm2
        have hleft := Mr.left HO10.out
        clear hO2 hK2 HX HK9 hen hen2 hgs hpm2
        try dsimp only
        go_wp2_with fail
        refine ⟨⟨_, cnt', ov2, os1 ++ os2, fun s hs => HSUB.out s (List.mem_filter.1 hs).1, ?_, hid ?_, HO10, HK10⟩, by rw [hleft, HLF.out]; exact HL9.out⟩
        · have h1 := HLEN.out
          have h2 := (HNA.out.flatMap_right fun e : Str × Int => seen (pnN P) d e.2 (p ++ 47 :: e.1)).length_eq
          rw [List.flatMap_cons, List.length_append] at h2
          have h3 := HPM2.out.length_eq
          rw [List.length_map, List.length_map] at h3
          rw [List.length_append]
          dsimp only at h2
          omega
        · have h2 := (HNB.out.flatMap_right fun e : Str × Int => seen (pnN P) d e.2 (p ++ 47 :: e.1)).map keyE
          rw [List.flatMap_cons, List.map_append] at h2
          rw [List.map_append]
          refine (HPM.out.append HPM2.out).trans ?_
          rw [List.cons_append]
          refine .cons _ ?_
          exact List.perm_append_comm.trans h2.symm
end Go.Proofs.YtonhcefgakmpfaaGreatDoor
