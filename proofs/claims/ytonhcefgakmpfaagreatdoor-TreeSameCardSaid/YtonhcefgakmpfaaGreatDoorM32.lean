/- TEXTS of mine, merged. -/
import Derived.Test.YtonhcefgakmpfaaGreatDoorM30
import Derived.Test.YtonhcefgakmpfaaGreatDoorM31
import Derived.Test.YtonhcefgakmpfaaGreatDoorRows
import Derived.Lay
import Derived.LaidMore
import Derived.SevenTiedAt
import Derived.HandedShaped
import Derived.Shelf.Vars
import Derived.ProofKit
import Derived.OpenShut
import Derived.Stop.Joined
/- THE WALK of TreeSame. -/
namespace Go.Proofs.YtonhcefgakmpfaaGreatDoor
open Go.RowKit Go.Own
theorem str_nm3 : ∀ a : Fin 26, strOf [97 + (a.val : Int), 122, 113] = nm3 a.val := by decide
theorem conv3 {a : Nat} (ha : (a : Int) < 26) {w : World} {L : List HP} {g : Nat} (h : Has w (pt g (.cells #[.int .u8 (97 + (a : Int)), .int .u8 122, .int .u8 113] 5) :: L)) : (convert 29 9 (.slice (some ⟨g, 0, none⟩) 3 3)).run Tryz.prog w = .ok (.string (sB (nm3 a))) w := by
  have e := str_nm3 ⟨a, by omega⟩
  dsimp only at e
  rw [← e]
  refine strOf_conv (xs := [97 + (a : Int), 122, 113]) ⟨rfl, (show 3 ≤ maxLen by decide), some ⟨g, 0, none⟩, 3, rfl, Nat.le_refl 3, fun _ => ⟨g, 0, rfl, fun j _ => ?_⟩⟩
  rw [Nat.zero_add, h.cells j]
  simp [bc]
set_option maxRecDepth 100000 in
set_option maxHeartbeats 16000000 in
theorem sameWalk (mx : Int) (v : Value) (R : List Oq) (name : Int) (W : World) (hmx : W.cell? ⟨0, 0, none⟩ = some (.int .i64 mx)) (hR : RdOps W v R) :
    Calls Tryz.prog 5 #[v, .int .i64 name] W fun e w' => e = .returned (.bool true) ∧ Below W.heap.size W w' := by
  obtain ⟨vp, vc, rfl, hvc, hvl⟩ := hR.form
  have HM := hid (mxStart hmx)
  have HR := hid (show ∀ w', Has w' [old W] → RdOps w' (.slice vp R.length vc) R from fun w' h => hR.start h)
  have HRW := hid hR
  have HO := hid (Has.start W)
  have HT0 := hid gdx0
  obtain ⟨a, ha0, ha1⟩ := low_nat name 26 (by decide)
  have HA := hid ha0
  clear hmx hR ha0
  have af0 := ansF0
  go_enter Tryz.func5, Tryz.ntmps5
  go_wp2_with fail
  refine (greatOps (.slice vp R.length vc) R 30 (by decide) W W [] HRW.out HO.out).mono ?_
  rintro e w1 ⟨rfl, hO1, hK1⟩
  have HO1 := hid hO1
  have HK1 := hid ((Keep.refl W).trans hK1)
  clear hO1 hK1
  try dsimp only
  clear HO
  cases hg0 : greatOpsM R 30
  · have HGO := hid (greatOpsM_no hg0)
    have hR30 := HGO.out.1
    have HGR := hid HGO.out.2
    clear hg0 HGO
    go_wp2_with fail
    refine (tNew w1 _ HO1.out).mono ?_
    rintro e w2 ⟨q, rfl, hO2, hK2⟩
    have HO2 := hid hO2
    have HK2 := hid ((HK1.out).trans hK2)
    clear hO2 hK2
    try dsimp only
    clear HO1 HK1
    go_wp2_with fail
    go_loopw [6] (fun i w => ∃ (k : Nat) (w0 : World), w0 = w ∧ k ≤ R.length ∧ i = .int .i64 k ∧ Hid (Has w0 (Trc q (runM tre0 (R.take k)) :: [old W])) ∧ Hid (Keep W w0)) (fun i _ => R.length - (intOf i).toNat)
    case atStart => exact ⟨0, _, rfl, by omega, rfl, HO2, HK2⟩
    case round =>
      clear HO2 HK2
      obtain ⟨k, w0, rfl, hk, rfl, HOw, HKw⟩ := hrel
      by_cases hlt : k < R.length
      · have hki : (k : Int) < (R.length : Int) := by omega
        have hk0 : (0 : Int) ≤ (k : Int) := by omega
        obtain ⟨g, o, c, pp, mm, hv, hdv, c0, c1, c2, c3, c4, c5, c6, c7⟩ := (HR.out _ (HOw.out.drop)).eight k hlt
        simp only [Value.slice.injEq] at hv
        obtain ⟨rfl, -, rfl⟩ := hv
        have hrd0 := (HR.out _ (HOw.out.drop)).2 _ (List.getElem_mem hlt)
        obtain ⟨yy, hyy⟩ : ∃ yy, R[k] = yy := ⟨_, rfl⟩
        rw [hyy] at hdv c0 c1 c2 c3 c4 c5 c6 c7 hrd0
        have HRD := hid (show ∀ w', Has w' [old W] → Rd w' (.slice pp yy.data.length mm) 1 yy.data.length (bc yy.data) from fun w' h => by
          have := (HR.out _ h).2 R[k] (List.getElem_mem hlt)
          rw [hyy] at this
          have h2 := this.1
          rw [hdv] at h2
          exact h2)
        have HCL := hid (show ∀ w', Has w' [old W] → w'.cell? ⟨g, o + k * 8, none⟩ = some (.int .i64 yy.op.kind) ∧ w'.cell? ⟨g, o + k * 8 + 1, none⟩ = some (.int .i64 yy.op.fd) ∧ w'.cell? ⟨g, o + k * 8 + 2, none⟩ = some (.int .i64 yy.op.n) ∧ w'.cell? ⟨g, o + k * 8 + 3, none⟩ = some (.int .i64 yy.op.off) ∧ w'.cell? ⟨g, o + k * 8 + 4, none⟩ = some (.int .i64 yy.op.flags) ∧ w'.cell? ⟨g, o + k * 8 + 5, none⟩ = some (sV yy.op.path) ∧ w'.cell? ⟨g, o + k * 8 + 6, none⟩ = some (sV yy.op.dest) ∧ w'.cell? ⟨g, o + k * 8 + 7, none⟩ = some (.slice pp yy.data.length mm) from fun w' h => by
          obtain ⟨g', o', c', pp', mm', hv', hdv', c0', c1', c2', c3', c4', c5', c6', c7'⟩ := (HR.out _ h).eight k hlt
          simp only [Value.slice.injEq, Option.some.injEq, Addr.mk.injEq] at hv'
          obtain ⟨⟨rfl, rfl, -⟩, -, rfl⟩ := hv'
          rw [hyy] at hdv' c0' c1' c2' c3' c4' c5' c6' c7'
          rw [hdv] at hdv'
          simp only [Value.slice.injEq, true_and] at hdv'
          obtain ⟨rfl, rfl⟩ := hdv'
          exact ⟨c0', c1', c2', c3', c4', c5', c6', c7'⟩)
        have HYY := hid hyy
        have HW := hid hrd0.2
        clear hyy hdv hrd0
        go_wp2_with fail
        refine (loopAtG HT0.out (by omega) q mx w0 _ HGR.out hlt (by omega) (HM.out) yy HYY.out pp mm HW.out (fun w' h => HRD.out w' (h)) HOw.out).mono ?_
        rintro e w41 ⟨v41, rfl, hO41, hK41⟩
        have HO41 := hid hO41
        have HK41 := hid ((HKw.out).trans hK41)
        clear hO41 hK41
        try dsimp only
        clear HOw HKw c0 c1 c2 c3 c4 c5 c6 c7 HRD HYY HW HCL
        go_wp2_with fail
        go_roundw
        case rel => exact ⟨k + 1, _, rfl, by omega, by go_num, HO41, HK41⟩
        case measure => simp [intOf]; omega
      · obtain rfl : k = R.length := by omega
        have hki : ¬ (R.length : Int) < (R.length : Int) := by omega
        have HOr := hid HOw.out
        rw [List.take_length] at HOr
        clear HOw
        obtain ⟨S, hS⟩ : ∃ S, runM tre0 R = S := ⟨_, rfl⟩
        have HGD := hid (show Gdx S R.length from hS ▸ gdRun HGR.out)
        rw [hS] at HOr
        clear hS
        go_wp2_with fail
        refine (stepNodes' q w0 _ HGD.out (by omega) HOr.out).mono ?_
        rintro e w10 ⟨pa, ca, osa, rfl, hpa, hsa, hO10, hK10⟩
        have HO10 := hid hO10
        have HK10 := hid ((HKw.out).trans hK10)
        clear hO10 hK10
        try dsimp only
        have HPA := hid hpa
        have HSA := hid hsa
        clear hpa hsa HOr HKw
        go_wp2_with fail
        refine (stepNodes' q w10 _ HGD.out (by omega) (HO10.out.re 2 [1, 0])).mono ?_
        rintro e w11 ⟨pb, cb, osb, rfl, hpb, hsb, hO11, hK11⟩
        have HO11 := hid hO11
        have HK11 := hid ((HK10.out).trans hK11)
        clear hO11 hK11
        try dsimp only
        have HPB := hid hpb
        have HKEY := hid (keysOne HGD.out HPA.out hpb HSA.out hsb)
        clear hpb hsb HO10 HK10
        have hob : osb.length ≤ 100000 := by
          rw [lens_of HGD.out HPB.out]
          obtain ⟨rk, hgd⟩ := HGD.out
          have h1 := hgd.files_few
          have h2 : (R.length + 1) * R.length ≤ 31 * 30 := Nat.mul_le_mul (by omega) hR30
          omega
        have HP11 := hid (HO11.out.re 3 [0, 2, 1])
        clear HO11
        go_wp2_with fail
        go_loopw [9] (fun i w => ∃ (k : Nat) (w0 : World), w0 = w ∧ k ≤ osb.length ∧ i = .int .i64 k ∧ Hid (Has w0 (Sns (.slice pb osb.length cb) (upto7 osb k) :: Sns (.slice pa osa.length ca) osa :: Trc q S :: [old W])) ∧ Hid (Keep W w0)) (fun i _ => osb.length - (intOf i).toNat)
        case atStart => exact ⟨0, _, rfl, by omega, rfl, HP11, HK11⟩
        case round =>
          clear HP11 HK11
          obtain ⟨k, w0, rfl, hk, rfl, HOw, HKw⟩ := hrel
          by_cases hlt : k < osb.length
          · have hki : (k : Int) < (osb.length : Int) := by omega
            have hk0 : (0 : Int) ≤ (k : Int) := by omega
            have hku : k < (upto7 osb k).length := by rw [upto7_len]; exact hlt
            obtain ⟨g, rfl, -, hc1, hf1, hset⟩ := sns_put HOw.out k hku
            rw [upto7_at osb k hlt hku] at hc1 hset
            have hnm := nums_low HGD.out HPB.out _ (List.getElem_mem hlt)
            have HST := hid (show Has (w0.setCell ⟨g, k * 5 + 1, none⟩ (.int .i64 (osb[k].num * 7 + 3))) (Sns (.slice (some ⟨g, 0, none⟩) osb.length cb) (upto7 osb (k + 1)) :: Sns (.slice pa osa.length ca) osa :: Trc q S :: [old W]) from by rw [← upto7_next osb k hlt]; exact hset _)
            clear hset hku
            generalize osb[k].num = z at *
            obtain ⟨hz1, hz2⟩ := hnm
            have hz3 : z ≤ 1000 := by omega
            clear hz2
            go_wp2_with fail
            go_roundw
            case rel => exact ⟨k + 1, _, rfl, by omega, by go_num, HST, hid (HKw.out.set _ _)⟩
            case measure => simp [intOf]; omega
          · obtain rfl : k = osb.length := by omega
            have hki : ¬ (osb.length : Int) < (osb.length : Int) := by omega
            have HOr := hid HOw.out
            clear HOw
            rw [upto7_all] at HOr
            go_wp2_with fail
            refine (stepCopy q w0 _ HGD.out (by omega) (HOr.out.re 3 [2, 0, 1])).mono ?_
            rintro e w16 ⟨c, rfl, hO16, hK16⟩
            have HO16 := hid hO16
            have HK16 := hid ((HKw.out).trans hK16)
            clear hO16 hK16
            try dsimp only
            clear HOr HKw
            -- Trc c S :: Trc q S :: Sns b :: Sns a :: [old W]
            have HLE := hid (show osb.length = osa.length from by rw [lens_of HGD.out HPB.out, lens_of HGD.out HPA.out])
            have HLM := hid (show (osb.map mul7).length = osa.length from by rw [List.length_map]; exact HLE.out)
            have HLO := hid (show osa.length ≤ 100000 from by
              rw [lens_of HGD.out HPA.out]
              obtain ⟨rk, hgd⟩ := HGD.out
              have h1 := hgd.files_few
              have h2 : (R.length + 1) * R.length ≤ 31 * 30 := Nat.mul_le_mul (by omega) hR30
              omega)
            have HAT := hid (show ∀ (k : Nat) (h : k < osa.length) (h' : k < (osb.map mul7).length), (osb.map mul7)[k].path = osa[k].path ∧ (osb.map mul7)[k].kind = osa[k].kind ∧ (osb.map mul7)[k].links = osa[k].links ∧ (osb.map mul7)[k].data = osa[k].data ∧ (osb.map mul7)[k].num = osa[k].num * 7 + 3 ∧ 1 ≤ osa[k].num ∧ osa[k].num ≤ 1000 from by
              intro k h h'
              have hb : k < osb.length := by have := HLE.out; omega
              have h1 := nodesKey HKEY.out k h hb
              have h2 := nums_low HGD.out HPA.out _ (List.getElem_mem h)
              rw [List.getElem_map]
              simp only [Sn.key, Prod.mk.injEq] at h1
              obtain ⟨e1, e2, e3, e4, e5⟩ := h1
              exact ⟨e1.symm, e3.symm, e4.symm, e5.symm, by show osb[k].num * 7 + 3 = _; rw [e2], h2.1, by omega⟩)
            go_wp2_with fail
            refine (sameYes (fun n m => m = n * 7 + 3) ⟨fun n m m' h h' => by rw [h, h'], fun n n' m h h' => by omega⟩ (.slice pa osa.length ca) (.slice pb osb.length cb) osa (osb.map mul7) w16 (Trc c S :: Trc q S :: Sns (.slice pb osb.length cb) (osb.map mul7) :: Sns (.slice pa osa.length ca) osa :: [old W]) (fun w' h => rdNs_of (h.re 4 [3])) (fun w' h => by have := rdNs_of (h.re 3 [2]); exact this) HLM.out HLO.out (fun k h h' => by obtain ⟨e1, e2, e3, e4, e5, e6, e7⟩ := HAT.out k h h'; exact ⟨e1, e2, e3, e4, e5, by omega, by omega, by omega, by omega⟩) HO16.out).mono ?_
            rintro e w17 ⟨rfl, hO17, hK17⟩
            have HO17 := hid hO17
            have HK17 := hid ((HK16.out).trans hK17)
            clear hO17 hK17
            try dsimp only
            clear HO16 HK16
            go_wp2_with fail
            refine (sameYes (fun m n => m = n * 7 + 3) ⟨fun n m m' h h' => by omega, fun n n' m h h' => by rw [h, h']⟩ (.slice pb osb.length cb) (.slice pa osa.length ca) (osb.map mul7) osa w17 (Trc c S :: Trc q S :: Sns (.slice pb osb.length cb) (osb.map mul7) :: Sns (.slice pa osa.length ca) osa :: [old W]) (fun w' h => by have := rdNs_of (h.re 3 [2]); exact this) (fun w' h => rdNs_of (h.re 4 [3])) HLM.out.symm (by have := HLO.out; have := HLM.out; omega) (fun k h h' => by obtain ⟨e1, e2, e3, e4, e5, e6, e7⟩ := HAT.out k h' h; exact ⟨e1.symm, e2.symm, e3.symm, e4.symm, e5, by omega, by omega, by omega, by omega⟩) HO17.out).mono ?_
            rintro e w18 ⟨rfl, hO18, hK18⟩
            have HO18 := hid hO18
            have HK18 := hid ((HK17.out).trans hK18)
            clear hO18 hK18
            try dsimp only
            clear HO17 HK17
            go_wp2_with fail
            refine (lowN name 26 a w18 (by decide) (by decide) HA.out).mono ?_
            rintro e w' ⟨rfl, rfl⟩
            try dsimp only
            have wa : IntKind.i64.wrap (97 + (a : Int)) = 97 + (a : Int) := wrapk_in _ (by omega)
            have ua : IntKind.u8.wrap (97 + (a : Int)) = 97 + (a : Int) := wrap8 _ (by omega)
            have hcv := conv3 ha1 (HO18.out.alloc (.cells #[.int .u8 (97 + (a : Int)), .int .u8 122, .int .u8 113] 5))
            have hsz : ¬ 9223372036854775807 < 1 + (sB (nm3 a)).size := by rw [sB_size]; show ¬ 9223372036854775807 < 1 + 3; omega
            obtain ⟨ans, S2, hans⟩ : ∃ ans S2, S.doM ⟨9, 0, 0, 0, 0, 47 :: nm3 a, []⟩ [] = (ans, S2) := ⟨_, _, rfl⟩
            have HAN := hid hans
            clear hans
            go_wp2_with fail
            refine (stepDo0 c mx _ (Trc q S :: Sns (.slice pb osb.length cb) (osb.map mul7) :: Sns (.slice pa osa.length ca) osa :: [old W]) HGD.out (by omega) (((HM.out.cons _).cons _).cons _) ⟨9, 0, 0, 0, 0, 47 :: nm3 a, []⟩ (sB_cons _).symm rfl (show (0 : Int) ≤ 9223372036854775807 by decide) (by simp [nm3]) (by simp) ans S2 HAN.out (HO18.out.alloc (.cells #[.int .u8 (97 + (a : Int)), .int .u8 122, .int .u8 113] 5)).drop).mono ?_
            rintro e w19 ⟨a20, ca20, b20, cb20, rfl, hg2, hO19, hK19⟩
            have HO19 := hid hO19
            have HK19 := hid (((HK18.out.alloc (.cells #[.int .u8 (97 + (a : Int)), .int .u8 122, .int .u8 113] 5))).trans hK19)
            clear hO19 hK19
            try dsimp only
            have HG2 := hid hg2
            clear hg2 HO18 HK18 hcv hsz
            obtain ⟨code, an, ak, al, adata, anames⟩ := ans
            dsimp only at HO19
            unfold ansY
            dsimp only
            go_upto_region 20 with fail
            have HP19 := hid (HO19.out.alloc (.cells #[.int .i64 code, .int .i64 an, .int .i64 ak, .int .i64 al, .slice a20 adata.length ca20, .slice b20 anames.length cb20] 32))
            have HQ19 := hid (HK19.out.alloc (.cells #[.int .i64 code, .int .i64 an, .int .i64 ak, .int .i64 al, .slice a20 adata.length ca20, .slice b20 anames.length cb20] 32))
            clear HO19 HK19
            generalize w19.alloc (.cells #[.int .i64 code, .int .i64 an, .int .i64 ak, .int .i64 al, .slice a20 adata.length ca20, .slice b20 anames.length cb20] 32) = y19 at *
            generalize w19.heap.size = g11 at *
            go_wp2_with fail
            refine (zNeed _).mono ?_
            rintro e w' ⟨rfl, rfl⟩
            try dsimp only
            have hcd : y19.cell? ⟨g11, 0, none⟩ = some (.int .i64 code) := HP19.out.cells 0
            by_cases hc0 : code = 0
            · have hcb : (code != 0) = false := by simp [hc0]
              have hmk : S.doM ⟨9, 0, 0, 0, 0, 47 :: nm3 a, []⟩ [] = S.mkdir (47 :: nm3 a) := by simp [Tre.doM]
              have HMO := hid (show (filesP S).length < (filesP S2).length from by
                have h1 := mkdir_more HGD.out (good_nm3 ⟨a, by omega⟩)
                dsimp only at h1
                have h2 := HAN.out
                rw [hmk] at h2
                rw [h2] at h1
                exact h1 hc0)
              go_wp2_with fail
              refine (stepNodes' c y19 [Sns (.slice pa osa.length ca) osa, old W] HG2.out (by omega) (HP19.out.re 7 [3, 6])).mono ?_
              rintro e w20 ⟨p20, c20, os20, rfl, hp20, hs20, hO20, hK20⟩
              have HO20 := hid hO20
              have HK20 := hid ((HQ19.out).trans hK20)
              clear hO20 hK20
              try dsimp only
              have HNE := hid (show osa.length ≠ os20.length from by
                rw [lens_of HGD.out HPA.out, lens_of HG2.out hp20]
                have := HMO.out
                omega)
              clear HP19 HQ19 hcd hp20 hs20 hmk
              go_wp2_with fail
              refine (sameNo (.slice pa osa.length ca) (.slice p20 os20.length c20) osa os20 w20 (rdNs_of (HO20.out.re 3 [2])) (rdNs_of HO20.out) HNE.out).mono ?_
              rintro e w' ⟨rfl, rfl⟩
              try dsimp only
              go_wp2_with fail
              refine (zDo w20 _ HO20.out).mono ?_
              rintro e w21 ⟨rfl, hO21, hK21⟩
              have HO21 := hid hO21
              have HK21 := hid ((HK20.out).trans hK21)
              clear hO21 hK21
              try dsimp only
              clear HO20 HK20
              go_wp2_with fail
              refine (zNodes w21 _ HO21.out).mono ?_
              rintro e w22 ⟨rfl, hO22, hK22⟩
              have HO22 := hid hO22
              have HK22 := hid ((HK21.out).trans hK22)
              clear hO22 hK22
              try dsimp only
              clear HO21 HK21
              go_wp2_with fail
              refine (zNumber _ _).mono ?_
              rintro e w' ⟨rfl, rfl⟩
              try dsimp only
              go_wp2_with fail
              refine (zCopy _).mono ?_
              rintro e w' ⟨rfl, rfl⟩
              try dsimp only
              go_wp2_with fail
              refine (awake14 mx w22 _ (fun w' h => HM.out w' h.drop.drop.drop) HO22.out).mono ?_
              rintro e w23 ⟨rfl, hO23, hK23⟩
              have HO23 := hid hO23
              have HK23 := hid ((HK22.out).trans hK23)
              clear hO23 hK23
              try dsimp only
              go_wp2_with fail
              go_ret
              exact ⟨rfl, (HO23.out.re 4 [3]).below HK23.out.os HK23.out.tape HK23.out.output⟩
            · have hcb : (code != 0) = true := by simp [hc0]
              go_wp2_with fail
              refine (zDo y19 _ HP19.out).mono ?_
              rintro e w20 ⟨rfl, hO20, hK20⟩
              have HO20 := hid hO20
              have HK20 := hid ((HQ19.out).trans hK20)
              clear hO20 hK20
              try dsimp only
              clear HP19 HQ19
              go_wp2_with fail
              refine (zNodes w20 _ HO20.out).mono ?_
              rintro e w21 ⟨rfl, hO21, hK21⟩
              have HO21 := hid hO21
              have HK21 := hid ((HK20.out).trans hK21)
              clear hO21 hK21
              try dsimp only
              clear HO20 HK20
              go_wp2_with fail
              refine (zNumber _ _).mono ?_
              rintro e w' ⟨rfl, rfl⟩
              try dsimp only
              go_wp2_with fail
              refine (zCopy _).mono ?_
              rintro e w' ⟨rfl, rfl⟩
              try dsimp only
              go_wp2_with fail
              refine (awake14 mx w21 _ (fun w' h => HM.out w' h.drop.drop.drop.drop.drop.drop.drop) HO21.out).mono ?_
              rintro e w22 ⟨rfl, hO22, hK22⟩
              have HO22 := hid hO22
              have HK22 := hid ((HK21.out).trans hK22)
              clear hO22 hK22
              try dsimp only
              go_wp2_with fail
              go_ret
              exact ⟨rfl, (HO22.out.re 8 [7]).below HK22.out.os HK22.out.tape HK22.out.output⟩

  · go_wp2_with fail
    refine (awake14 mx w1 _ HM.out HO1.out).mono ?_
    rintro e w2 ⟨rfl, hO2, hK2⟩
    have HO2 := hid hO2
    have HK2 := hid ((HK1.out).trans hK2)
    clear hO2 hK2
    try dsimp only
    go_wp2_with fail
    go_ret
    exact ⟨rfl, HO2.out.below HK2.out.os HK2.out.tape HK2.out.output⟩
end Go.Proofs.YtonhcefgakmpfaaGreatDoor
/- What the frames of chapter 14's cards share: the listed data met, and the world's shape kept. -/
namespace Go.Proofs.YtonhcefgakmpfaaGreatDoor
open Go.ChangeShapes Go.WideShapes Go.ChangeAt Go.RowKit
variable {H : Type} {enc : TypeId × Value → H}
theorem handed_and_shaped {a : Assume} {C : Checked} {os : Os} {f : FuncId} {fn : Func} {s : ChangeSpec} {conds : List PathCond} {apart fresh handsOn again : Bool} {X : World → Array Value → Prop}
    (hX : ∀ (w w' : World) (args : Array Value), w.heap = w'.heap → X w args → X w' args)
    (own : ownKnob C.prog.godebug = none) (started : os.Started) (noInit : C.prog.inits.idxOf? f = none) (hfn : C.prog.funcs[f]? = some fn)
    (witness : ∃ (w : World) (tape : Tape) (i : Input), w.os = os ∧ (w.forCall tape i).Shaped C.prog ∧ i.vars = [] ∧ Input.okWide C.prog (w.forCall tape i) .any w.heap.size f i ∧
      ((s.pre enc C.prog fn conds apart (w.forCall tape i).memory i.args ∧ X (w.forCall tape i).memory i.args) ∧ sizedMet enc C.prog fn (OpenSpec.ofChange s) apart (w.forCall tape i).memory i.args) ∧ a.holds C.prog (lone (Frame.enter C.prog f i.args .normal) [] (w.forCall tape i)))
    (contract : ∀ (W : World) (base : Nat) (args : Array Value) (ds gs : List (DataW H)) (before : List MemPlace),
      (∀ (j : Nat) t v, fn.params[j]? = some t → args[j]? = some v → Value.okWide C.prog W .any base t v) →
      DataW.Whole enc C.prog fn.params.toList s.vars apart W args.toList ds gs before →
      conds.all (PathCond.test C.prog ⟨fn.params.toList, ds, s.plain.varTypes C.prog, gs⟩) = true →
      (DataW.weightsEach C.prog (fn.params.toList ++ s.plain.varTypes C.prog) (ds ++ gs)).all (· ≤ reachBytes) = true → X W args → W.ShapedOpen C.prog →
      a.holds C.prog (lone (Frame.enter C.prog f args .normal) [] W) →
      Calls C.prog f args W fun e W' => ∃ v, e = .returned v ∧ s.post enc C.prog fn apart fresh handsOn again W args v W') :
    ReturnsInHanded a C os f .any (fun w args => (s.pre enc C.prog fn conds apart w args ∧ X w args) ∧ sizedMet enc C.prog fn (OpenSpec.ofChange s) apart w args) (s.post enc C.prog fn apart fresh handsOn again) := by
  refine returnsInHanded_of_calls own started noInit witness ?_
  intro w tape i _ hsh _ hok hpre hholds
  obtain ⟨_, _, _, fn', hfn', _, _, _, _, hval⟩ := hok
  have e : fn' = fn := Option.some.inj (hfn'.symm.trans hfn)
  subst e
  obtain ⟨⟨⟨ds, gs, before, hw, hc⟩, hx⟩, hz⟩ := hpre
  have hw' := DataW.Whole.of_heap (w' := w.forCall tape i) (by rfl) hw
  refine (contract (w.forCall tape i) w.heap.size i.args ds gs before hval hw' hc (hz.weights hw) (hX _ _ _ (by rfl) hx) hsh hholds).mono fun e W' ⟨v, he, hp⟩ => ?_
  subst he
  exact ChangeSpec.post_blind hp
theorem mx_shaped {W : World} (h : W.ShapedOpen Tryz.prog) : ∃ m, W.cell? ⟨0, 0, none⟩ = some (.int .i64 m) :=
  cell_of_shapedOpen_int (P := Tryz.prog) (g := 0) (t := 3) (zero := #[.int .i64 0]) h (of_decide_eq_true (by kernel_rfl)) (by kernel_rfl) rfl (by kernel_rfl) (by kernel_rfl) Tryz.underlying3
end Go.Proofs.YtonhcefgakmpfaaGreatDoor
