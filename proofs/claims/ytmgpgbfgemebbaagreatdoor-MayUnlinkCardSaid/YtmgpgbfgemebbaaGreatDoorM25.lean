/- TEXTS of mine, merged. -/
import Derived.Test.YtmgpgbfgemebbaaGreatDoorM24
import Derived.Test.YtmgpgbfgemebbaaGreatDoorRows
import Derived.Lay
import Derived.LaidMore
import Derived.SevenTiedAt
import Derived.HandedShaped
import Derived.Shelf.Vars
import Derived.ProofKit
import Derived.OpenShut
import Derived.Stop.Joined
set_option linter.all false
namespace Go.Proofs.YtmgpgbfgemebbaaGreatDoor
open Go.RowKit Go.Own
theorem nv_ok {l : List Nv} (h : (l.all fun x => decide (x.path.length ≤ 100000) && x.data.isEmpty && nilS x.dv) = true) (h2 : ∀ x ∈ l, x.dv = nilV) : ∀ x ∈ l, x.path.length ≤ 100000 ∧ x.dv = nilV ∧ x.data = [] := fun x hx => by
 have h1 := List.all_eq_true.1 h x hx
 simp only [Bool.and_eq_true, decide_eq_true_eq, List.isEmpty_iff] at h1
 exact ⟨h1.1.1, h2 x hx, h1.1.2⟩
def oOf : Opm := ⟨1, 0, 0, 0, 1, [47, 102], []⟩
def oMg : Opm := ⟨9, 0, 0, 0, 0, [47, 103], []⟩
def oLh : Opm := ⟨12, 0, 0, 0, 0, [47, 102], [47, 104]⟩
def oUf : Opm := ⟨11, 0, 0, 0, 0, [47, 102], []⟩
def unS1 : Ans × Tre := tre0.openAt ⟨0, 1, [102]⟩ 1
def unS2 : Tre := unS1.2.make ⟨0, 1, [103]⟩ 2 []
def unS3 : Tre := unS2.add 1 [104] 2
def unT : Ans × Tre := unS3.removeT 11 ⟨2, 1, [102]⟩
def unF : Ans × Tre := unS2.removeT 11 ⟨2, 1, [102]⟩
def un1 : His := h24.did oOf 5 unS1.1 unS1.2
def un2 : His := un1.did oMg 6 (ansE 0) unS2
def un3 : His := un2.did oLh 0 (ansE 0) unS3
def un4T : His := un3.did oSync 0 (ansE 0) unS3
def un5T : His := un4T.did oUf 0 unT.1 unT.2
def un6T : His := un5T.did oSync 0 (ansE 0) unT.2
def un4F : His := un2.did oSync 0 (ansE 0) unS2
def un5F : His := un4F.did oUf 0 unF.1 unF.2
def un6F : His := un5F.did oSync 0 (ansE 0) unF.2
theorem where_E {S : Tre} {p : Str} {r : Rch} (h : S.findE p true = some r) (h0 : r.2.2.2 = 0) (hd : (r.2.1 != 0) = true) : whereOk S p = true ∧ whereE S p = (r.2.1, r.2.2.1) := by
 unfold whereOk whereE
 rw [find_E h]
 refine ⟨?_, rfl⟩
 show (r.2.2.2 == 0 && r.2.1 != 0) = true
 rw [h0, hd]
 rfl
def h24_E : His := His.beginI tre0 [(1, 1)]
def un1_E : His := h24_E.didI oOf 5 unS1.1 unS1.2 true (1, [102])
theorem un1_I : un1 = un1_E := by unfold un1 un1_E; rw [show h24 = h24_E from h24_I]; exact did_I _ _ _ _ _ _ _ (fun _ => where_E (r := (2, 1, [102], 0)) (by decide +kernel) rfl (by decide))
theorem un1_S : un1.S = unS1.2 := lasts_S _ _
def un2_E : His := un1_E.didI oMg 6 (ansE 0) unS2 false (0, [])
theorem un2_I : un2 = un2_E := by unfold un2 un2_E; rw [un1_I]; exact did_I _ _ _ _ _ _ _ (fun h => by cases h)
theorem un2_S : un2.S = unS2 := lasts_S _ _
def un3_E : His := un2_E.didI oLh 0 (ansE 0) unS3 false (0, [])
theorem un3_I : un3 = un3_E := by unfold un3 un3_E; rw [un2_I]; exact did_I _ _ _ _ _ _ _ (fun h => by cases h)
theorem un3_S : un3.S = unS3 := lasts_S _ _
def un4T_E : His := un3_E.didI oSync 0 (ansE 0) unS3 false (0, [])
theorem un4T_I : un4T = un4T_E := by unfold un4T un4T_E; rw [un3_I]; exact did_I _ _ _ _ _ _ _ (fun h => by cases h)
theorem un4T_S : un4T.S = unS3 := lasts_S _ _
def un5T_E : His := un4T_E.didI oUf 0 unT.1 unT.2 false (0, [])
theorem un5T_I : un5T = un5T_E := by unfold un5T un5T_E; rw [un4T_I]; exact did_I _ _ _ _ _ _ _ (fun h => by cases h)
theorem un5T_S : un5T.S = unT.2 := lasts_S _ _
def un6T_E : His := un5T_E.didI oSync 0 (ansE 0) unT.2 false (0, [])
theorem un6T_I : un6T = un6T_E := by unfold un6T un6T_E; rw [un5T_I]; exact did_I _ _ _ _ _ _ _ (fun h => by cases h)
def un4F_E : His := un2_E.didI oSync 0 (ansE 0) unS2 false (0, [])
theorem un4F_I : un4F = un4F_E := by unfold un4F un4F_E; rw [un2_I]; exact did_I _ _ _ _ _ _ _ (fun h => by cases h)
theorem un4F_S : un4F.S = unS2 := lasts_S _ _
def un5F_E : His := un4F_E.didI oUf 0 unF.1 unF.2 false (0, [])
theorem un5F_I : un5F = un5F_E := by unfold un5F un5F_E; rw [un4F_I]; exact did_I _ _ _ _ _ _ _ (fun h => by cases h)
theorem un5F_S : un5F.S = unF.2 := lasts_S _ _
def un6F_E : His := un5F_E.didI oSync 0 (ansE 0) unF.2 false (0, [])
theorem un6F_I : un6F = un6F_E := by unfold un6F un6F_E; rw [un5F_I]; exact did_I _ _ _ _ _ _ _ (fun h => by cases h)
theorem un1_D : h24.S.doM oOf [] = (unS1.1, unS1.2) := by
 show tre0.openFd [47, 102] 1 = _
 rw [open_E (d := 1) (nm := [102]) (by decide +kernel) (by decide) (by decide) (by decide)]
 rfl
theorem un2_D : un1.S.doM oMg [] = (ansE 0, unS2) := by
 rw [un1_S]
 show unS1.2.mkdir [47, 103] = _
 rw [mkdir_E (d := 1) (nm := [103]) (by decide +kernel)]
 rfl
theorem un3_D : un2.S.doM oLh [] = (ansE 0, unS3) := by
 rw [un2_S]
 show unS2.link [47, 102] [47, 104] = _
 rw [link_E (r := (2, 1, [102], 0)) (d := 1) (nm := [104]) (by decide +kernel) rfl (by decide +kernel) (by decide +kernel)]
 rfl
theorem un5T_D : un4T.S.doM oUf [] = (unT.1, unT.2) := by
 rw [un4T_S]
 show unS3.remove 11 [47, 102] = _
 rw [remove_E (r := (2, 1, [102], 0)) (by decide +kernel) rfl]
 rfl
theorem un5F_D : un4F.S.doM oUf [] = (unF.1, unF.2) := by
 rw [un4F_S]
 show unS2.remove 11 [47, 102] = _
 rw [remove_E (r := (2, 1, [102], 0)) (by decide +kernel) rfl]
 rfl
theorem un1_st : Stp1 h24 0 oOf 5 unS1.1 unS1.2 := hgo0.st (by omega) un1_D (by decide) (by decide) (by decide) (fun _ => by decide +kernel) (by decide +kernel)
theorem un2_st : Stp1 un1 1 oMg 6 (ansE 0) unS2 := un1_st.hgo.st (by omega) un2_D (by decide) (by decide) (by decide) (fun h => by cases h) (by decide +kernel)
theorem un3_st : Stp1 un2 2 oLh 0 (ansE 0) unS3 := un2_st.hgo.st (by omega) un3_D (by decide) (by decide) (by decide) (fun h => by cases h) (by decide +kernel)
theorem un4T_st : Stp1 un3 3 oSync 0 (ansE 0) unS3 := un3_st.hgo.st (by omega) ((doM_sync _).trans (congrArg (Prod.mk (ansE 0)) un3_S)) (by decide) (by decide) (by decide) (fun h => by cases h) (by decide +kernel)
theorem un5T_st : Stp1 un4T 4 oUf 0 unT.1 unT.2 := un4T_st.hgo.st (by omega) un5T_D (by decide) (by decide) (by decide) (fun h => by cases h) (by decide +kernel)
theorem un6T_st : Stp1 un5T 5 oSync 0 (ansE 0) unT.2 := un5T_st.hgo.st (by omega) ((doM_sync _).trans (congrArg (Prod.mk (ansE 0)) un5T_S)) (by decide) (by decide) (by decide) (fun h => by cases h) (by decide +kernel)
theorem un4F_st : Stp1 un2 2 oSync 0 (ansE 0) unS2 := un2_st.hgo.st (by omega) ((doM_sync _).trans (congrArg (Prod.mk (ansE 0)) un2_S)) (by decide) (by decide) (by decide) (fun h => by cases h) (by decide +kernel)
theorem un5F_st : Stp1 un4F 3 oUf 0 unF.1 unF.2 := un4F_st.hgo.st (by omega) un5F_D (by decide) (by decide) (by decide) (fun h => by cases h) (by decide +kernel)
theorem un6F_st : Stp1 un5F 4 oSync 0 (ansE 0) unF.2 := un5F_st.hgo.st (by omega) ((doM_sync _).trans (congrArg (Prod.mk (ansE 0)) un5F_S)) (by decide) (by decide) (by decide) (fun h => by cases h) (by decide +kernel)
theorem doc_eq {S : Tre} {o : Opm} {ov : Value} {L : List HP} {x : Ans × Tre} {A : Ans} {S' : Tre} (h : DoC S o ov L x.1 x.2) (e : x = (A, S')) : DoC S o ov L A S' := by
 subst e
 exact h
theorem Hgo.docx {H : His} {j : Nat} (h : Hgo H j) (hj : j ≤ 40) : ∃ rk, Gd H.S rk j ∧ j < 900000 := by
 obtain ⟨rk, hg⟩ := h.gd
 exact ⟨rk, hg, by omega⟩
section
variable {mx : Int} {L : List HP} (hM : MxL mx L)
include hM
theorem un1_C : DoC h24.S oOf nilV L unS1.1 unS1.2 := by
 obtain ⟨rk, hg, hk⟩ := hgo0.docx (by omega)
 exact doc_eq (docOpen hg hk hM [47, 102] 1 (by decide) (by decide)) un1_D
theorem un2_C : DoC un1.S oMg nilV L (ansE 0) unS2 := by
 obtain ⟨rk, hg, hk⟩ := un1_st.hgo.docx (by omega)
 exact doc_eq (docMkdir hg hk hM [47, 103] (by decide)) un2_D
theorem un3_C : DoC un2.S oLh nilV L (ansE 0) unS3 := by
 obtain ⟨rk, hg, hk⟩ := un2_st.hgo.docx (by omega)
 exact doc_eq (docLink hg hk hM [47, 102] [47, 104] (by decide) (by decide)) un3_D
theorem un5T_C : DoC un4T.S oUf nilV L unT.1 unT.2 := by
 obtain ⟨rk, hg, hk⟩ := un4T_st.hgo.docx (by omega)
 exact doc_eq (docUnlink hg hk hM [47, 102] (by decide)) un5T_D
theorem un5F_C : DoC un4F.S oUf nilV L unF.1 unF.2 := by
 obtain ⟨rk, hg, hk⟩ := un4F_st.hgo.docx (by omega)
 exact doc_eq (docUnlink hg hk hM [47, 102] (by decide)) un5F_D
end
theorem uv0 : un6T.allows [(⟨[47], 1, 2, 1, nilV, []⟩ : Nv), (⟨[47, 103], 6, 2, 1, nilV, []⟩ : Nv), (⟨[47, 104], 5, 1, 1, nilV, []⟩ : Nv)] = true := by rw [un6T_I]; decide +kernel
theorem uv1 : un6T.allows [(⟨[47], 1, 2, 1, nilV, []⟩ : Nv), (⟨[47, 103], 6, 2, 1, nilV, []⟩ : Nv), (⟨[47, 102], 5, 1, 2, nilV, []⟩ : Nv), (⟨[47, 104], 5, 1, 2, nilV, []⟩ : Nv)] = false := by rw [un6T_I]; decide +kernel
theorem uv2 : un6T.allows [(⟨[47], 1, 2, 1, nilV, []⟩ : Nv), (⟨[47, 103], 6, 2, 1, nilV, []⟩ : Nv)] = false := by rw [un6T_I]; decide +kernel
theorem uv3 : un6T.allows [(⟨[47], 1, 2, 1, nilV, []⟩ : Nv), (⟨[47, 104], 5, 1, 1, nilV, []⟩ : Nv)] = false := by rw [un6T_I]; decide +kernel
theorem uv4 : un5T.allows [(⟨[47], 1, 2, 1, nilV, []⟩ : Nv), (⟨[47, 103], 6, 2, 1, nilV, []⟩ : Nv), (⟨[47, 104], 5, 1, 1, nilV, []⟩ : Nv)] = true := by rw [un5T_I]; decide +kernel
theorem uv5 : un5T.allows [(⟨[47], 1, 2, 1, nilV, []⟩ : Nv), (⟨[47, 103], 6, 2, 1, nilV, []⟩ : Nv), (⟨[47, 102], 5, 1, 2, nilV, []⟩ : Nv), (⟨[47, 104], 5, 1, 2, nilV, []⟩ : Nv)] = true := by rw [un5T_I]; decide +kernel
theorem uv6 : un5T.allows [(⟨[47], 1, 2, 1, nilV, []⟩ : Nv), (⟨[47, 103], 6, 2, 1, nilV, []⟩ : Nv)] = false := by rw [un5T_I]; decide +kernel
theorem uv7 : un5T.allows [(⟨[47], 1, 2, 1, nilV, []⟩ : Nv), (⟨[47, 104], 5, 1, 1, nilV, []⟩ : Nv)] = false := by rw [un5T_I]; decide +kernel
theorem uv8 : un6F.allows [(⟨[47], 1, 2, 1, nilV, []⟩ : Nv), (⟨[47, 103], 6, 2, 1, nilV, []⟩ : Nv)] = true := by rw [un6F_I]; decide +kernel
theorem uv9 : un6F.allows [(⟨[47], 1, 2, 1, nilV, []⟩ : Nv), (⟨[47, 103], 6, 2, 1, nilV, []⟩ : Nv), (⟨[47, 102], 5, 1, 1, nilV, []⟩ : Nv)] = false := by rw [un6F_I]; decide +kernel
theorem uv10 : un6F.allows [(⟨[47], 1, 2, 1, nilV, []⟩ : Nv), (⟨[47, 102], 5, 1, 1, nilV, []⟩ : Nv)] = false := by rw [un6F_I]; decide +kernel
theorem uv11 : un6F.allows [(⟨[47], 1, 2, 1, nilV, []⟩ : Nv), (⟨[47, 103], 6, 2, 1, nilV, []⟩ : Nv), (⟨[47, 104], 5, 1, 1, nilV, []⟩ : Nv)] = false := by rw [un6F_I]; decide +kernel
theorem uv12 : un5F.allows [(⟨[47], 1, 2, 1, nilV, []⟩ : Nv), (⟨[47, 103], 6, 2, 1, nilV, []⟩ : Nv)] = true := by rw [un5F_I]; decide +kernel
theorem uv13 : un5F.allows [(⟨[47], 1, 2, 1, nilV, []⟩ : Nv), (⟨[47, 103], 6, 2, 1, nilV, []⟩ : Nv), (⟨[47, 102], 5, 1, 1, nilV, []⟩ : Nv)] = true := by rw [un5F_I]; decide +kernel
theorem uv14 : un5F.allows [(⟨[47], 1, 2, 1, nilV, []⟩ : Nv), (⟨[47, 102], 5, 1, 1, nilV, []⟩ : Nv)] = false := by rw [un5F_I]; decide +kernel
theorem uv15 : un5F.allows [(⟨[47], 1, 2, 1, nilV, []⟩ : Nv), (⟨[47, 103], 6, 2, 1, nilV, []⟩ : Nv), (⟨[47, 104], 5, 1, 1, nilV, []⟩ : Nv)] = false := by rw [un5F_I]; decide +kernel
set_option maxRecDepth 100000 in
set_option maxHeartbeats 8000000 in
theorem unlinkTS (mx : Int) (w : World) (L : List HP) (hM : MxL mx L) (hO : Has w L) :
  Calls Tryz.prog 6 #[.bool true, .bool true] w fun e w' => e = .returned (.bool true) ∧ Has w' L ∧ Keep w w' := by
 have HO := hid hO
 have HM := hid hM
 clear hO hM
 go_enter Tryz.func6, Tryz.ntmps6
 go_wp2_with fail
 refine (mNew w L HO.out).mono ?_
 rintro e w1 ⟨q, rfl, h1, k1⟩
 have HS1 := hid (show Has w1 (Hsc q h24 :: L) from h1)
 have HK1 := hid k1
 clear h1 k1 HO
 try dsimp only
 go_wp2_with fail
 refine (show Calls Tryz.prog _ _ _ (fun e w' => e = .returned (.bool true) ∧ Has w' (Hsc q un1 :: L) ∧ Keep _ w') from stepOne q h24 0 oOf nilV 5 unS1.1 unS1.2 mx w1 _ un1_st HM.out (un1_C HM.out) HS1.out).mono ?_
 rintro e w2 ⟨rfl, h2, k2⟩
 have HS2 := hid h2
 have HK2 := hid (HK1.out.trans k2)
 clear h2 k2 HS1 HK1
 try dsimp only
 go_wp2_with fail
 refine (show Calls Tryz.prog _ _ _ (fun e w' => e = .returned (.bool true) ∧ Has w' (Hsc q un2 :: L) ∧ Keep _ w') from stepOne q un1 1 oMg nilV 6 (ansE 0) unS2 mx w2 _ un2_st HM.out (un2_C HM.out) HS2.out).mono ?_
 rintro e w3 ⟨rfl, h3, k3⟩
 have HS3 := hid h3
 have HK3 := hid (HK2.out.trans k3)
 clear h3 k3 HS2 HK2
 try dsimp only
 go_wp2_with fail
 refine (show Calls Tryz.prog _ _ _ (fun e w' => e = .returned (.bool true) ∧ Has w' (Hsc q un3 :: L) ∧ Keep _ w') from stepOne q un2 2 oLh nilV 0 (ansE 0) unS3 mx w3 _ un3_st HM.out (un3_C HM.out) HS3.out).mono ?_
 rintro e w4 ⟨rfl, h4, k4⟩
 have HS4 := hid h4
 have HK4 := hid (HK3.out.trans k4)
 clear h4 k4 HS3 HK3
 try dsimp only
 go_wp2_with fail
 refine (show Calls Tryz.prog _ _ _ (fun e w' => e = .returned (.bool true) ∧ Has w' (Hsc q un4T :: L) ∧ Keep _ w') from stepOne q un3 3 oSync nilV 0 (ansE 0) unS3 mx w4 _ un4T_st HM.out (by rw [un3_S]; exact docSync) HS4.out).mono ?_
 rintro e w5 ⟨rfl, h5, k5⟩
 have HS5 := hid h5
 have HK5 := hid (HK4.out.trans k5)
 clear h5 k5 HS4 HK4
 try dsimp only
 go_wp2_with fail
 refine (show Calls Tryz.prog _ _ _ (fun e w' => e = .returned (.bool true) ∧ Has w' (Hsc q un5T :: L) ∧ Keep _ w') from stepOne q un4T 4 oUf nilV 0 unT.1 unT.2 mx w5 _ un5T_st HM.out (un5T_C HM.out) HS5.out).mono ?_
 rintro e w6 ⟨rfl, h6, k6⟩
 have HS6 := hid h6
 have HK6 := hid (HK5.out.trans k6)
 clear h6 k6 HS5 HK5
 try dsimp only
 go_wp2_with fail
 refine (show Calls Tryz.prog _ _ _ (fun e w' => e = .returned (.bool true) ∧ Has w' (Hsc q un6T :: L) ∧ Keep _ w') from stepOne q un5T 5 oSync nilV 0 (ansE 0) unT.2 mx w6 _ un6T_st HM.out (by rw [un5T_S]; exact docSync) HS6.out).mono ?_
 rintro e w7 ⟨rfl, h7, k7⟩
 have HS7 := hid h7
 have HK7 := hid (HK6.out.trans k7)
 clear h7 k7 HS6 HK6
 try dsimp only
 have hz := ((((HS7.out.alloc (.cells #[.string ⟨#[47]⟩, .int .i64 1, .int .i64 2, .int .i64 1, .slice none 0 0] 57)).alloc (.cells #[.string ⟨#[47, 103]⟩, .int .i64 6, .int .i64 2, .int .i64 1, .slice none 0 0] 57)).alloc (.cells #[.string ⟨#[47, 102]⟩, .int .i64 5, .int .i64 1, .int .i64 1, .slice none 0 0] 57)).alloc (.cells #[.string ⟨#[47, 104]⟩, .int .i64 5, .int .i64 1, .int .i64 1, .slice none 0 0] 57))
 have e1 : (w7.alloc (.cells #[.string ⟨#[47]⟩, .int .i64 1, .int .i64 2, .int .i64 1, .slice none 0 0] 57)).heap.size = w7.heap.size + 1 := by show (Array.push _ _).size = _; rw [Array.size_push]
 have e2 : ((w7.alloc (.cells #[.string ⟨#[47]⟩, .int .i64 1, .int .i64 2, .int .i64 1, .slice none 0 0] 57)).alloc (.cells #[.string ⟨#[47, 103]⟩, .int .i64 6, .int .i64 2, .int .i64 1, .slice none 0 0] 57)).heap.size = w7.heap.size + 2 := by show (Array.push _ _).size = _; rw [Array.size_push, e1]
 have e3 : (((w7.alloc (.cells #[.string ⟨#[47]⟩, .int .i64 1, .int .i64 2, .int .i64 1, .slice none 0 0] 57)).alloc (.cells #[.string ⟨#[47, 103]⟩, .int .i64 6, .int .i64 2, .int .i64 1, .slice none 0 0] 57)).alloc (.cells #[.string ⟨#[47, 102]⟩, .int .i64 5, .int .i64 1, .int .i64 1, .slice none 0 0] 57)).heap.size = w7.heap.size + 3 := by show (Array.push _ _).size = _; rw [Array.size_push, e2]
 rw [e3, e2, e1] at hz
 have HZ := hid hz
 have HK8 := hid ((((HK7.out.alloc (.cells #[.string ⟨#[47]⟩, .int .i64 1, .int .i64 2, .int .i64 1, .slice none 0 0] 57)).alloc (.cells #[.string ⟨#[47, 103]⟩, .int .i64 6, .int .i64 2, .int .i64 1, .slice none 0 0] 57)).alloc (.cells #[.string ⟨#[47, 102]⟩, .int .i64 5, .int .i64 1, .int .i64 1, .slice none 0 0] 57)).alloc (.cells #[.string ⟨#[47, 104]⟩, .int .i64 5, .int .i64 1, .int .i64 1, .slice none 0 0] 57))
 clear hz e1 e2 e3 HS7 HK7
 go_upto_region 11 with fail
 generalize ((((w7.alloc (.cells #[.string ⟨#[47]⟩, .int .i64 1, .int .i64 2, .int .i64 1, .slice none 0 0] 57)).alloc (.cells #[.string ⟨#[47, 103]⟩, .int .i64 6, .int .i64 2, .int .i64 1, .slice none 0 0] 57)).alloc (.cells #[.string ⟨#[47, 102]⟩, .int .i64 5, .int .i64 1, .int .i64 1, .slice none 0 0] 57)).alloc (.cells #[.string ⟨#[47, 104]⟩, .int .i64 5, .int .i64 1, .int .i64 1, .slice none 0 0] 57)) = w8 at *
 generalize w7.heap.size + 3 = gk at *
 generalize w7.heap.size + 2 = gf at *
 generalize w7.heap.size + 1 = gg at *
 generalize w7.heap.size = gr at *
 have HS8 := hid (show Has w8 (Hsc q un6T :: pt gr (.cells #[.string ⟨#[47]⟩, .int .i64 1, .int .i64 2, .int .i64 1, .slice none 0 0] 57) :: pt gg (.cells #[.string ⟨#[47, 103]⟩, .int .i64 6, .int .i64 2, .int .i64 1, .slice none 0 0] 57) :: pt gf (.cells #[.string ⟨#[47, 102]⟩, .int .i64 5, .int .i64 1, .int .i64 1, .slice none 0 0] 57) :: pt gk (.cells #[.string ⟨#[47, 104]⟩, .int .i64 5, .int .i64 1, .int .i64 1, .slice none 0 0] 57) :: L) from HZ.out.re 5 [4, 3, 2, 1, 0])
 clear HZ
 have hs3 : w8.cell? ⟨gf, 3, none⟩ = some (.int .i64 1) := (show Has w8 (pt gf (.cells #[.string ⟨#[47, 102]⟩, .int .i64 5, .int .i64 1, .int .i64 1, .slice none 0 0] 57) :: _) from HS8.out.re 4 [3]).cells 3
 have ht3 := (show Has w8 (pt gf (.cells #[.string ⟨#[47, 102]⟩, .int .i64 5, .int .i64 1, .int .i64 1, .slice none 0 0] 57) :: _) from HS8.out.re 4 [3]).thaw 3
 go_upto_region 12 with fail
 have HZ := hid ((show Has w8 (pt gf (.cells #[.string ⟨#[47, 102]⟩, .int .i64 5, .int .i64 1, .int .i64 1, .slice none 0 0] 57) :: _) from HS8.out.re 5 [3, 0, 1, 2, 4]).set 3 (.int .i64 2))
 have HK9 := hid (HK8.out.set ⟨gf, 3, none⟩ (.int .i64 2))
 generalize w8.setCell ⟨gf, 3, none⟩ (.int .i64 2) = w9 at *
 have HS9 := hid (show Has w9 (Hsc q un6T :: pt gr (.cells #[.string ⟨#[47]⟩, .int .i64 1, .int .i64 2, .int .i64 1, .slice none 0 0] 57) :: pt gg (.cells #[.string ⟨#[47, 103]⟩, .int .i64 6, .int .i64 2, .int .i64 1, .slice none 0 0] 57) :: pt gf (.cells #[.string ⟨#[47, 102]⟩, .int .i64 5, .int .i64 1, .int .i64 2, .slice none 0 0] 57) :: pt gk (.cells #[.string ⟨#[47, 104]⟩, .int .i64 5, .int .i64 1, .int .i64 1, .slice none 0 0] 57) :: L) from HZ.out.re 5 [1, 2, 3, 0, 4])
 clear HZ hs3 ht3 HS8 HK8
 have hc_gk := (show Has w9 (pt gk (.cells #[.string ⟨#[47, 104]⟩, .int .i64 5, .int .i64 1, .int .i64 1, .slice none 0 0] 57) :: _) from HS9.out.re 5 [4]).cells
 have f_gk0 : w9.cell? ⟨gk, 0, none⟩ = some (.string ⟨#[47, 104]⟩) := hc_gk 0
 have f_gk1 : w9.cell? ⟨gk, 1, none⟩ = some (.int .i64 5) := hc_gk 1
 have f_gk2 : w9.cell? ⟨gk, 2, none⟩ = some (.int .i64 1) := hc_gk 2
 have f_gk3 : w9.cell? ⟨gk, 3, none⟩ = some (.int .i64 1) := hc_gk 3
 have f_gk4 : w9.cell? ⟨gk, 4, none⟩ = some (.slice none 0 0) := hc_gk 4
 clear hc_gk
 have hz := (HS9.out.alloc (.cells #[.string ⟨#[47, 104]⟩, .int .i64 5, .int .i64 1, .int .i64 1, .slice none 0 0] 57))
 have HZ := hid hz
 have HK10 := hid (HK9.out.alloc (.cells #[.string ⟨#[47, 104]⟩, .int .i64 5, .int .i64 1, .int .i64 1, .slice none 0 0] 57))
 clear hz  HS9 HK9
 go_upto_region 13 with fail
 generalize (w9.alloc (.cells #[.string ⟨#[47, 104]⟩, .int .i64 5, .int .i64 1, .int .i64 1, .slice none 0 0] 57)) = w10 at *
 generalize w9.heap.size = gb at *
 have HS10 := hid (show Has w10 (Hsc q un6T :: pt gb (.cells #[.string ⟨#[47, 104]⟩, .int .i64 5, .int .i64 1, .int .i64 1, .slice none 0 0] 57) :: pt gr (.cells #[.string ⟨#[47]⟩, .int .i64 1, .int .i64 2, .int .i64 1, .slice none 0 0] 57) :: pt gg (.cells #[.string ⟨#[47, 103]⟩, .int .i64 6, .int .i64 2, .int .i64 1, .slice none 0 0] 57) :: pt gf (.cells #[.string ⟨#[47, 102]⟩, .int .i64 5, .int .i64 1, .int .i64 2, .slice none 0 0] 57) :: pt gk (.cells #[.string ⟨#[47, 104]⟩, .int .i64 5, .int .i64 1, .int .i64 1, .slice none 0 0] 57) :: L) from HZ.out.re 2 [1, 0])
 clear HZ
 clear f_gk0 f_gk1 f_gk2 f_gk3 f_gk4
 have hs3 : w10.cell? ⟨gb, 3, none⟩ = some (.int .i64 1) := (show Has w10 (pt gb (.cells #[.string ⟨#[47, 104]⟩, .int .i64 5, .int .i64 1, .int .i64 1, .slice none 0 0] 57) :: _) from HS10.out.re 2 [1]).cells 3
 have ht3 := (show Has w10 (pt gb (.cells #[.string ⟨#[47, 104]⟩, .int .i64 5, .int .i64 1, .int .i64 1, .slice none 0 0] 57) :: _) from HS10.out.re 2 [1]).thaw 3
 go_upto_region 14 with fail
 have HZ := hid ((show Has w10 (pt gb (.cells #[.string ⟨#[47, 104]⟩, .int .i64 5, .int .i64 1, .int .i64 1, .slice none 0 0] 57) :: _) from HS10.out.re 6 [1, 0, 2, 3, 4, 5]).set 3 (.int .i64 2))
 have HK11 := hid (HK10.out.set ⟨gb, 3, none⟩ (.int .i64 2))
 generalize w10.setCell ⟨gb, 3, none⟩ (.int .i64 2) = w11 at *
 have HS11 := hid (show Has w11 (Hsc q un6T :: pt gb (.cells #[.string ⟨#[47, 104]⟩, .int .i64 5, .int .i64 1, .int .i64 2, .slice none 0 0] 57) :: pt gr (.cells #[.string ⟨#[47]⟩, .int .i64 1, .int .i64 2, .int .i64 1, .slice none 0 0] 57) :: pt gg (.cells #[.string ⟨#[47, 103]⟩, .int .i64 6, .int .i64 2, .int .i64 1, .slice none 0 0] 57) :: pt gf (.cells #[.string ⟨#[47, 102]⟩, .int .i64 5, .int .i64 1, .int .i64 2, .slice none 0 0] 57) :: pt gk (.cells #[.string ⟨#[47, 104]⟩, .int .i64 5, .int .i64 1, .int .i64 1, .slice none 0 0] 57) :: L) from HZ.out.re 6 [1, 0, 2, 3, 4, 5])
 clear HZ hs3 ht3 HS10 HK10
 have hc_gr := (show Has w11 (pt gr (.cells #[.string ⟨#[47]⟩, .int .i64 1, .int .i64 2, .int .i64 1, .slice none 0 0] 57) :: _) from HS11.out.re 3 [2]).cells
 have f_gr0 : w11.cell? ⟨gr, 0, none⟩ = some (.string ⟨#[47]⟩) := hc_gr 0
 have f_gr1 : w11.cell? ⟨gr, 1, none⟩ = some (.int .i64 1) := hc_gr 1
 have f_gr2 : w11.cell? ⟨gr, 2, none⟩ = some (.int .i64 2) := hc_gr 2
 have f_gr3 : w11.cell? ⟨gr, 3, none⟩ = some (.int .i64 1) := hc_gr 3
 have f_gr4 : w11.cell? ⟨gr, 4, none⟩ = some (.slice none 0 0) := hc_gr 4
 clear hc_gr
 have hc_gg := (show Has w11 (pt gg (.cells #[.string ⟨#[47, 103]⟩, .int .i64 6, .int .i64 2, .int .i64 1, .slice none 0 0] 57) :: _) from HS11.out.re 4 [3]).cells
 have f_gg0 : w11.cell? ⟨gg, 0, none⟩ = some (.string ⟨#[47, 103]⟩) := hc_gg 0
 have f_gg1 : w11.cell? ⟨gg, 1, none⟩ = some (.int .i64 6) := hc_gg 1
 have f_gg2 : w11.cell? ⟨gg, 2, none⟩ = some (.int .i64 2) := hc_gg 2
 have f_gg3 : w11.cell? ⟨gg, 3, none⟩ = some (.int .i64 1) := hc_gg 3
 have f_gg4 : w11.cell? ⟨gg, 4, none⟩ = some (.slice none 0 0) := hc_gg 4
 clear hc_gg
 have hc_gk := (show Has w11 (pt gk (.cells #[.string ⟨#[47, 104]⟩, .int .i64 5, .int .i64 1, .int .i64 1, .slice none 0 0] 57) :: _) from HS11.out.re 6 [5]).cells
 have f_gk0 : w11.cell? ⟨gk, 0, none⟩ = some (.string ⟨#[47, 104]⟩) := hc_gk 0
 have f_gk1 : w11.cell? ⟨gk, 1, none⟩ = some (.int .i64 5) := hc_gk 1
 have f_gk2 : w11.cell? ⟨gk, 2, none⟩ = some (.int .i64 1) := hc_gk 2
 have f_gk3 : w11.cell? ⟨gk, 3, none⟩ = some (.int .i64 1) := hc_gk 3
 have f_gk4 : w11.cell? ⟨gk, 4, none⟩ = some (.slice none 0 0) := hc_gk 4
 clear hc_gk
 go_wp2_with fail
 refine (stepAllows q _ un6T 6 [(⟨[47], 1, 2, 1, nilV, []⟩ : Nv), (⟨[47, 103], 6, 2, 1, nilV, []⟩ : Nv), (⟨[47, 104], 5, 1, 1, nilV, []⟩ : Nv)] #[.string ⟨#[47]⟩, .int .i64 1, .int .i64 2, .int .i64 1, .slice none 0 0, .string ⟨#[47, 103]⟩, .int .i64 6, .int .i64 2, .int .i64 1, .slice none 0 0, .string ⟨#[47, 104]⟩, .int .i64 5, .int .i64 1, .int .i64 1, .slice none 0 0] _ (pt gb (.cells #[.string ⟨#[47, 104]⟩, .int .i64 5, .int .i64 1, .int .i64 2, .slice none 0 0] 57) :: pt gr (.cells #[.string ⟨#[47]⟩, .int .i64 1, .int .i64 2, .int .i64 1, .slice none 0 0] 57) :: pt gg (.cells #[.string ⟨#[47, 103]⟩, .int .i64 6, .int .i64 2, .int .i64 1, .slice none 0 0] 57) :: pt gf (.cells #[.string ⟨#[47, 102]⟩, .int .i64 5, .int .i64 1, .int .i64 2, .slice none 0 0] 57) :: pt gk (.cells #[.string ⟨#[47, 104]⟩, .int .i64 5, .int .i64 1, .int .i64 1, .slice none 0 0] 57) :: L) un6T_st.hgo (by omega) rfl (by decide) (nv_ok (by decide) (by intro x hx; simp only [List.mem_cons, List.not_mem_nil, or_false] at hx; rcases hx with rfl | rfl | rfl <;> rfl)) (HS11.out.alloc (.cells #[.string ⟨#[47]⟩, .int .i64 1, .int .i64 2, .int .i64 1, .slice none 0 0, .string ⟨#[47, 103]⟩, .int .i64 6, .int .i64 2, .int .i64 1, .slice none 0 0, .string ⟨#[47, 104]⟩, .int .i64 5, .int .i64 1, .int .i64 1, .slice none 0 0] 57))).mono ?_
 rintro e w12 ⟨rfl, h12, k12⟩
 have HS12 := hid h12
 have HK12 := hid ((HK11.out.alloc (.cells #[.string ⟨#[47]⟩, .int .i64 1, .int .i64 2, .int .i64 1, .slice none 0 0, .string ⟨#[47, 103]⟩, .int .i64 6, .int .i64 2, .int .i64 1, .slice none 0 0, .string ⟨#[47, 104]⟩, .int .i64 5, .int .i64 1, .int .i64 1, .slice none 0 0] 57)).trans k12)
 clear h12 k12 HS11 HK11 f_gr0 f_gr1 f_gr2 f_gr3 f_gr4 f_gg0 f_gg1 f_gg2 f_gg3 f_gg4 f_gk0 f_gk1 f_gk2 f_gk3 f_gk4
 rw [uv0]
 try dsimp only
 have hc_gr := (show Has w12 (pt gr (.cells #[.string ⟨#[47]⟩, .int .i64 1, .int .i64 2, .int .i64 1, .slice none 0 0] 57) :: _) from HS12.out.re 3 [2]).cells
 have f_gr0 : w12.cell? ⟨gr, 0, none⟩ = some (.string ⟨#[47]⟩) := hc_gr 0
 have f_gr1 : w12.cell? ⟨gr, 1, none⟩ = some (.int .i64 1) := hc_gr 1
 have f_gr2 : w12.cell? ⟨gr, 2, none⟩ = some (.int .i64 2) := hc_gr 2
 have f_gr3 : w12.cell? ⟨gr, 3, none⟩ = some (.int .i64 1) := hc_gr 3
 have f_gr4 : w12.cell? ⟨gr, 4, none⟩ = some (.slice none 0 0) := hc_gr 4
 clear hc_gr
 have hc_gg := (show Has w12 (pt gg (.cells #[.string ⟨#[47, 103]⟩, .int .i64 6, .int .i64 2, .int .i64 1, .slice none 0 0] 57) :: _) from HS12.out.re 4 [3]).cells
 have f_gg0 : w12.cell? ⟨gg, 0, none⟩ = some (.string ⟨#[47, 103]⟩) := hc_gg 0
 have f_gg1 : w12.cell? ⟨gg, 1, none⟩ = some (.int .i64 6) := hc_gg 1
 have f_gg2 : w12.cell? ⟨gg, 2, none⟩ = some (.int .i64 2) := hc_gg 2
 have f_gg3 : w12.cell? ⟨gg, 3, none⟩ = some (.int .i64 1) := hc_gg 3
 have f_gg4 : w12.cell? ⟨gg, 4, none⟩ = some (.slice none 0 0) := hc_gg 4
 clear hc_gg
 have hc_gf := (show Has w12 (pt gf (.cells #[.string ⟨#[47, 102]⟩, .int .i64 5, .int .i64 1, .int .i64 2, .slice none 0 0] 57) :: _) from HS12.out.re 5 [4]).cells
 have f_gf0 : w12.cell? ⟨gf, 0, none⟩ = some (.string ⟨#[47, 102]⟩) := hc_gf 0
 have f_gf1 : w12.cell? ⟨gf, 1, none⟩ = some (.int .i64 5) := hc_gf 1
 have f_gf2 : w12.cell? ⟨gf, 2, none⟩ = some (.int .i64 1) := hc_gf 2
 have f_gf3 : w12.cell? ⟨gf, 3, none⟩ = some (.int .i64 2) := hc_gf 3
 have f_gf4 : w12.cell? ⟨gf, 4, none⟩ = some (.slice none 0 0) := hc_gf 4
 clear hc_gf
 have hc_gb := (show Has w12 (pt gb (.cells #[.string ⟨#[47, 104]⟩, .int .i64 5, .int .i64 1, .int .i64 2, .slice none 0 0] 57) :: _) from HS12.out.re 2 [1]).cells
 have f_gb0 : w12.cell? ⟨gb, 0, none⟩ = some (.string ⟨#[47, 104]⟩) := hc_gb 0
 have f_gb1 : w12.cell? ⟨gb, 1, none⟩ = some (.int .i64 5) := hc_gb 1
 have f_gb2 : w12.cell? ⟨gb, 2, none⟩ = some (.int .i64 1) := hc_gb 2
 have f_gb3 : w12.cell? ⟨gb, 3, none⟩ = some (.int .i64 2) := hc_gb 3
 have f_gb4 : w12.cell? ⟨gb, 4, none⟩ = some (.slice none 0 0) := hc_gb 4
 clear hc_gb
 go_wp2_with fail
 refine (stepAllows q _ un6T 6 [(⟨[47], 1, 2, 1, nilV, []⟩ : Nv), (⟨[47, 103], 6, 2, 1, nilV, []⟩ : Nv), (⟨[47, 102], 5, 1, 2, nilV, []⟩ : Nv), (⟨[47, 104], 5, 1, 2, nilV, []⟩ : Nv)] #[.string ⟨#[47]⟩, .int .i64 1, .int .i64 2, .int .i64 1, .slice none 0 0, .string ⟨#[47, 103]⟩, .int .i64 6, .int .i64 2, .int .i64 1, .slice none 0 0, .string ⟨#[47, 102]⟩, .int .i64 5, .int .i64 1, .int .i64 2, .slice none 0 0, .string ⟨#[47, 104]⟩, .int .i64 5, .int .i64 1, .int .i64 2, .slice none 0 0] _ (pt gb (.cells #[.string ⟨#[47, 104]⟩, .int .i64 5, .int .i64 1, .int .i64 2, .slice none 0 0] 57) :: pt gr (.cells #[.string ⟨#[47]⟩, .int .i64 1, .int .i64 2, .int .i64 1, .slice none 0 0] 57) :: pt gg (.cells #[.string ⟨#[47, 103]⟩, .int .i64 6, .int .i64 2, .int .i64 1, .slice none 0 0] 57) :: pt gf (.cells #[.string ⟨#[47, 102]⟩, .int .i64 5, .int .i64 1, .int .i64 2, .slice none 0 0] 57) :: pt gk (.cells #[.string ⟨#[47, 104]⟩, .int .i64 5, .int .i64 1, .int .i64 1, .slice none 0 0] 57) :: L) un6T_st.hgo (by omega) rfl (by decide) (nv_ok (by decide) (by intro x hx; simp only [List.mem_cons, List.not_mem_nil, or_false] at hx; rcases hx with rfl | rfl | rfl | rfl <;> rfl)) (HS12.out.alloc (.cells #[.string ⟨#[47]⟩, .int .i64 1, .int .i64 2, .int .i64 1, .slice none 0 0, .string ⟨#[47, 103]⟩, .int .i64 6, .int .i64 2, .int .i64 1, .slice none 0 0, .string ⟨#[47, 102]⟩, .int .i64 5, .int .i64 1, .int .i64 2, .slice none 0 0, .string ⟨#[47, 104]⟩, .int .i64 5, .int .i64 1, .int .i64 2, .slice none 0 0] 57))).mono ?_
 rintro e w13 ⟨rfl, h13, k13⟩
 have HS13 := hid h13
 have HK13 := hid ((HK12.out.alloc (.cells #[.string ⟨#[47]⟩, .int .i64 1, .int .i64 2, .int .i64 1, .slice none 0 0, .string ⟨#[47, 103]⟩, .int .i64 6, .int .i64 2, .int .i64 1, .slice none 0 0, .string ⟨#[47, 102]⟩, .int .i64 5, .int .i64 1, .int .i64 2, .slice none 0 0, .string ⟨#[47, 104]⟩, .int .i64 5, .int .i64 1, .int .i64 2, .slice none 0 0] 57)).trans k13)
 clear h13 k13 HS12 HK12 f_gr0 f_gr1 f_gr2 f_gr3 f_gr4 f_gg0 f_gg1 f_gg2 f_gg3 f_gg4 f_gf0 f_gf1 f_gf2 f_gf3 f_gf4 f_gb0 f_gb1 f_gb2 f_gb3 f_gb4
 rw [uv1]
 try dsimp only
 have hc_gr := (show Has w13 (pt gr (.cells #[.string ⟨#[47]⟩, .int .i64 1, .int .i64 2, .int .i64 1, .slice none 0 0] 57) :: _) from HS13.out.re 3 [2]).cells
 have f_gr0 : w13.cell? ⟨gr, 0, none⟩ = some (.string ⟨#[47]⟩) := hc_gr 0
 have f_gr1 : w13.cell? ⟨gr, 1, none⟩ = some (.int .i64 1) := hc_gr 1
 have f_gr2 : w13.cell? ⟨gr, 2, none⟩ = some (.int .i64 2) := hc_gr 2
 have f_gr3 : w13.cell? ⟨gr, 3, none⟩ = some (.int .i64 1) := hc_gr 3
 have f_gr4 : w13.cell? ⟨gr, 4, none⟩ = some (.slice none 0 0) := hc_gr 4
 clear hc_gr
 have hc_gg := (show Has w13 (pt gg (.cells #[.string ⟨#[47, 103]⟩, .int .i64 6, .int .i64 2, .int .i64 1, .slice none 0 0] 57) :: _) from HS13.out.re 4 [3]).cells
 have f_gg0 : w13.cell? ⟨gg, 0, none⟩ = some (.string ⟨#[47, 103]⟩) := hc_gg 0
 have f_gg1 : w13.cell? ⟨gg, 1, none⟩ = some (.int .i64 6) := hc_gg 1
 have f_gg2 : w13.cell? ⟨gg, 2, none⟩ = some (.int .i64 2) := hc_gg 2
 have f_gg3 : w13.cell? ⟨gg, 3, none⟩ = some (.int .i64 1) := hc_gg 3
 have f_gg4 : w13.cell? ⟨gg, 4, none⟩ = some (.slice none 0 0) := hc_gg 4
 clear hc_gg
 go_wp2_with fail
 refine (stepAllows q _ un6T 6 [(⟨[47], 1, 2, 1, nilV, []⟩ : Nv), (⟨[47, 103], 6, 2, 1, nilV, []⟩ : Nv)] #[.string ⟨#[47]⟩, .int .i64 1, .int .i64 2, .int .i64 1, .slice none 0 0, .string ⟨#[47, 103]⟩, .int .i64 6, .int .i64 2, .int .i64 1, .slice none 0 0] _ (pt gb (.cells #[.string ⟨#[47, 104]⟩, .int .i64 5, .int .i64 1, .int .i64 2, .slice none 0 0] 57) :: pt gr (.cells #[.string ⟨#[47]⟩, .int .i64 1, .int .i64 2, .int .i64 1, .slice none 0 0] 57) :: pt gg (.cells #[.string ⟨#[47, 103]⟩, .int .i64 6, .int .i64 2, .int .i64 1, .slice none 0 0] 57) :: pt gf (.cells #[.string ⟨#[47, 102]⟩, .int .i64 5, .int .i64 1, .int .i64 2, .slice none 0 0] 57) :: pt gk (.cells #[.string ⟨#[47, 104]⟩, .int .i64 5, .int .i64 1, .int .i64 1, .slice none 0 0] 57) :: L) un6T_st.hgo (by omega) rfl (by decide) (nv_ok (by decide) (by intro x hx; simp only [List.mem_cons, List.not_mem_nil, or_false] at hx; rcases hx with rfl | rfl <;> rfl)) (HS13.out.alloc (.cells #[.string ⟨#[47]⟩, .int .i64 1, .int .i64 2, .int .i64 1, .slice none 0 0, .string ⟨#[47, 103]⟩, .int .i64 6, .int .i64 2, .int .i64 1, .slice none 0 0] 57))).mono ?_
 rintro e w14 ⟨rfl, h14, k14⟩
 have HS14 := hid h14
 have HK14 := hid ((HK13.out.alloc (.cells #[.string ⟨#[47]⟩, .int .i64 1, .int .i64 2, .int .i64 1, .slice none 0 0, .string ⟨#[47, 103]⟩, .int .i64 6, .int .i64 2, .int .i64 1, .slice none 0 0] 57)).trans k14)
 clear h14 k14 HS13 HK13 f_gr0 f_gr1 f_gr2 f_gr3 f_gr4 f_gg0 f_gg1 f_gg2 f_gg3 f_gg4
 rw [uv2]
 try dsimp only
 have hc_gr := (show Has w14 (pt gr (.cells #[.string ⟨#[47]⟩, .int .i64 1, .int .i64 2, .int .i64 1, .slice none 0 0] 57) :: _) from HS14.out.re 3 [2]).cells
 have f_gr0 : w14.cell? ⟨gr, 0, none⟩ = some (.string ⟨#[47]⟩) := hc_gr 0
 have f_gr1 : w14.cell? ⟨gr, 1, none⟩ = some (.int .i64 1) := hc_gr 1
 have f_gr2 : w14.cell? ⟨gr, 2, none⟩ = some (.int .i64 2) := hc_gr 2
 have f_gr3 : w14.cell? ⟨gr, 3, none⟩ = some (.int .i64 1) := hc_gr 3
 have f_gr4 : w14.cell? ⟨gr, 4, none⟩ = some (.slice none 0 0) := hc_gr 4
 clear hc_gr
 have hc_gk := (show Has w14 (pt gk (.cells #[.string ⟨#[47, 104]⟩, .int .i64 5, .int .i64 1, .int .i64 1, .slice none 0 0] 57) :: _) from HS14.out.re 6 [5]).cells
 have f_gk0 : w14.cell? ⟨gk, 0, none⟩ = some (.string ⟨#[47, 104]⟩) := hc_gk 0
 have f_gk1 : w14.cell? ⟨gk, 1, none⟩ = some (.int .i64 5) := hc_gk 1
 have f_gk2 : w14.cell? ⟨gk, 2, none⟩ = some (.int .i64 1) := hc_gk 2
 have f_gk3 : w14.cell? ⟨gk, 3, none⟩ = some (.int .i64 1) := hc_gk 3
 have f_gk4 : w14.cell? ⟨gk, 4, none⟩ = some (.slice none 0 0) := hc_gk 4
 clear hc_gk
 go_wp2_with fail
 refine (stepAllows q _ un6T 6 [(⟨[47], 1, 2, 1, nilV, []⟩ : Nv), (⟨[47, 104], 5, 1, 1, nilV, []⟩ : Nv)] #[.string ⟨#[47]⟩, .int .i64 1, .int .i64 2, .int .i64 1, .slice none 0 0, .string ⟨#[47, 104]⟩, .int .i64 5, .int .i64 1, .int .i64 1, .slice none 0 0] _ (pt gb (.cells #[.string ⟨#[47, 104]⟩, .int .i64 5, .int .i64 1, .int .i64 2, .slice none 0 0] 57) :: pt gr (.cells #[.string ⟨#[47]⟩, .int .i64 1, .int .i64 2, .int .i64 1, .slice none 0 0] 57) :: pt gg (.cells #[.string ⟨#[47, 103]⟩, .int .i64 6, .int .i64 2, .int .i64 1, .slice none 0 0] 57) :: pt gf (.cells #[.string ⟨#[47, 102]⟩, .int .i64 5, .int .i64 1, .int .i64 2, .slice none 0 0] 57) :: pt gk (.cells #[.string ⟨#[47, 104]⟩, .int .i64 5, .int .i64 1, .int .i64 1, .slice none 0 0] 57) :: L) un6T_st.hgo (by omega) rfl (by decide) (nv_ok (by decide) (by intro x hx; simp only [List.mem_cons, List.not_mem_nil, or_false] at hx; rcases hx with rfl | rfl <;> rfl)) (HS14.out.alloc (.cells #[.string ⟨#[47]⟩, .int .i64 1, .int .i64 2, .int .i64 1, .slice none 0 0, .string ⟨#[47, 104]⟩, .int .i64 5, .int .i64 1, .int .i64 1, .slice none 0 0] 57))).mono ?_
 rintro e w15 ⟨rfl, h15, k15⟩
 have HS15 := hid h15
 have HK15 := hid ((HK14.out.alloc (.cells #[.string ⟨#[47]⟩, .int .i64 1, .int .i64 2, .int .i64 1, .slice none 0 0, .string ⟨#[47, 104]⟩, .int .i64 5, .int .i64 1, .int .i64 1, .slice none 0 0] 57)).trans k15)
 clear h15 k15 HS14 HK14 f_gr0 f_gr1 f_gr2 f_gr3 f_gr4 f_gk0 f_gk1 f_gk2 f_gk3 f_gk4
 rw [uv3]
 try dsimp only
 go_wp2_with fail
 refine (awake24 mx w15 _ (((((HM.out.cons _).cons _).cons _).cons _).cons _) HS15.out.drop).mono ?_
 rintro e wz ⟨rfl, hz, kz⟩
 have HSZ := hid hz
 have HKZ := hid (HK15.out.trans kz)
 clear hz kz HS15 HK15
 try dsimp only
 go_wp2_with fail
 go_ret
 exact ⟨rfl, HSZ.out.re 5 [], HKZ.out⟩
set_option maxRecDepth 100000 in
set_option maxHeartbeats 8000000 in
theorem unlinkT (mx : Int) (w : World) (L : List HP) (hM : MxL mx L) (hO : Has w L) :
  Calls Tryz.prog 6 #[.bool true, .bool false] w fun e w' => e = .returned (.bool true) ∧ Has w' L ∧ Keep w w' := by
 have HO := hid hO
 have HM := hid hM
 clear hO hM
 go_enter Tryz.func6, Tryz.ntmps6
 go_wp2_with fail
 refine (mNew w L HO.out).mono ?_
 rintro e w1 ⟨q, rfl, h1, k1⟩
 have HS1 := hid (show Has w1 (Hsc q h24 :: L) from h1)
 have HK1 := hid k1
 clear h1 k1 HO
 try dsimp only
 go_wp2_with fail
 refine (show Calls Tryz.prog _ _ _ (fun e w' => e = .returned (.bool true) ∧ Has w' (Hsc q un1 :: L) ∧ Keep _ w') from stepOne q h24 0 oOf nilV 5 unS1.1 unS1.2 mx w1 _ un1_st HM.out (un1_C HM.out) HS1.out).mono ?_
 rintro e w2 ⟨rfl, h2, k2⟩
 have HS2 := hid h2
 have HK2 := hid (HK1.out.trans k2)
 clear h2 k2 HS1 HK1
 try dsimp only
 go_wp2_with fail
 refine (show Calls Tryz.prog _ _ _ (fun e w' => e = .returned (.bool true) ∧ Has w' (Hsc q un2 :: L) ∧ Keep _ w') from stepOne q un1 1 oMg nilV 6 (ansE 0) unS2 mx w2 _ un2_st HM.out (un2_C HM.out) HS2.out).mono ?_
 rintro e w3 ⟨rfl, h3, k3⟩
 have HS3 := hid h3
 have HK3 := hid (HK2.out.trans k3)
 clear h3 k3 HS2 HK2
 try dsimp only
 go_wp2_with fail
 refine (show Calls Tryz.prog _ _ _ (fun e w' => e = .returned (.bool true) ∧ Has w' (Hsc q un3 :: L) ∧ Keep _ w') from stepOne q un2 2 oLh nilV 0 (ansE 0) unS3 mx w3 _ un3_st HM.out (un3_C HM.out) HS3.out).mono ?_
 rintro e w4 ⟨rfl, h4, k4⟩
 have HS4 := hid h4
 have HK4 := hid (HK3.out.trans k4)
 clear h4 k4 HS3 HK3
 try dsimp only
 go_wp2_with fail
 refine (show Calls Tryz.prog _ _ _ (fun e w' => e = .returned (.bool true) ∧ Has w' (Hsc q un4T :: L) ∧ Keep _ w') from stepOne q un3 3 oSync nilV 0 (ansE 0) unS3 mx w4 _ un4T_st HM.out (by rw [un3_S]; exact docSync) HS4.out).mono ?_
 rintro e w5 ⟨rfl, h5, k5⟩
 have HS5 := hid h5
 have HK5 := hid (HK4.out.trans k5)
 clear h5 k5 HS4 HK4
 try dsimp only
 go_wp2_with fail
 refine (show Calls Tryz.prog _ _ _ (fun e w' => e = .returned (.bool true) ∧ Has w' (Hsc q un5T :: L) ∧ Keep _ w') from stepOne q un4T 4 oUf nilV 0 unT.1 unT.2 mx w5 _ un5T_st HM.out (un5T_C HM.out) HS5.out).mono ?_
 rintro e w6 ⟨rfl, h6, k6⟩
 have HS6 := hid h6
 have HK6 := hid (HK5.out.trans k6)
 clear h6 k6 HS5 HK5
 try dsimp only
 have hz := ((((HS6.out.alloc (.cells #[.string ⟨#[47]⟩, .int .i64 1, .int .i64 2, .int .i64 1, .slice none 0 0] 57)).alloc (.cells #[.string ⟨#[47, 103]⟩, .int .i64 6, .int .i64 2, .int .i64 1, .slice none 0 0] 57)).alloc (.cells #[.string ⟨#[47, 102]⟩, .int .i64 5, .int .i64 1, .int .i64 1, .slice none 0 0] 57)).alloc (.cells #[.string ⟨#[47, 104]⟩, .int .i64 5, .int .i64 1, .int .i64 1, .slice none 0 0] 57))
 have e1 : (w6.alloc (.cells #[.string ⟨#[47]⟩, .int .i64 1, .int .i64 2, .int .i64 1, .slice none 0 0] 57)).heap.size = w6.heap.size + 1 := by show (Array.push _ _).size = _; rw [Array.size_push]
 have e2 : ((w6.alloc (.cells #[.string ⟨#[47]⟩, .int .i64 1, .int .i64 2, .int .i64 1, .slice none 0 0] 57)).alloc (.cells #[.string ⟨#[47, 103]⟩, .int .i64 6, .int .i64 2, .int .i64 1, .slice none 0 0] 57)).heap.size = w6.heap.size + 2 := by show (Array.push _ _).size = _; rw [Array.size_push, e1]
 have e3 : (((w6.alloc (.cells #[.string ⟨#[47]⟩, .int .i64 1, .int .i64 2, .int .i64 1, .slice none 0 0] 57)).alloc (.cells #[.string ⟨#[47, 103]⟩, .int .i64 6, .int .i64 2, .int .i64 1, .slice none 0 0] 57)).alloc (.cells #[.string ⟨#[47, 102]⟩, .int .i64 5, .int .i64 1, .int .i64 1, .slice none 0 0] 57)).heap.size = w6.heap.size + 3 := by show (Array.push _ _).size = _; rw [Array.size_push, e2]
 rw [e3, e2, e1] at hz
 have HZ := hid hz
 have HK7 := hid ((((HK6.out.alloc (.cells #[.string ⟨#[47]⟩, .int .i64 1, .int .i64 2, .int .i64 1, .slice none 0 0] 57)).alloc (.cells #[.string ⟨#[47, 103]⟩, .int .i64 6, .int .i64 2, .int .i64 1, .slice none 0 0] 57)).alloc (.cells #[.string ⟨#[47, 102]⟩, .int .i64 5, .int .i64 1, .int .i64 1, .slice none 0 0] 57)).alloc (.cells #[.string ⟨#[47, 104]⟩, .int .i64 5, .int .i64 1, .int .i64 1, .slice none 0 0] 57))
 clear hz e1 e2 e3 HS6 HK6
 go_upto_region 11 with fail
 generalize ((((w6.alloc (.cells #[.string ⟨#[47]⟩, .int .i64 1, .int .i64 2, .int .i64 1, .slice none 0 0] 57)).alloc (.cells #[.string ⟨#[47, 103]⟩, .int .i64 6, .int .i64 2, .int .i64 1, .slice none 0 0] 57)).alloc (.cells #[.string ⟨#[47, 102]⟩, .int .i64 5, .int .i64 1, .int .i64 1, .slice none 0 0] 57)).alloc (.cells #[.string ⟨#[47, 104]⟩, .int .i64 5, .int .i64 1, .int .i64 1, .slice none 0 0] 57)) = w7 at *
 generalize w6.heap.size + 3 = gk at *
 generalize w6.heap.size + 2 = gf at *
 generalize w6.heap.size + 1 = gg at *
 generalize w6.heap.size = gr at *
 have HS7 := hid (show Has w7 (Hsc q un5T :: pt gr (.cells #[.string ⟨#[47]⟩, .int .i64 1, .int .i64 2, .int .i64 1, .slice none 0 0] 57) :: pt gg (.cells #[.string ⟨#[47, 103]⟩, .int .i64 6, .int .i64 2, .int .i64 1, .slice none 0 0] 57) :: pt gf (.cells #[.string ⟨#[47, 102]⟩, .int .i64 5, .int .i64 1, .int .i64 1, .slice none 0 0] 57) :: pt gk (.cells #[.string ⟨#[47, 104]⟩, .int .i64 5, .int .i64 1, .int .i64 1, .slice none 0 0] 57) :: L) from HZ.out.re 5 [4, 3, 2, 1, 0])
 clear HZ
 have hs3 : w7.cell? ⟨gf, 3, none⟩ = some (.int .i64 1) := (show Has w7 (pt gf (.cells #[.string ⟨#[47, 102]⟩, .int .i64 5, .int .i64 1, .int .i64 1, .slice none 0 0] 57) :: _) from HS7.out.re 4 [3]).cells 3
 have ht3 := (show Has w7 (pt gf (.cells #[.string ⟨#[47, 102]⟩, .int .i64 5, .int .i64 1, .int .i64 1, .slice none 0 0] 57) :: _) from HS7.out.re 4 [3]).thaw 3
 go_upto_region 12 with fail
 have HZ := hid ((show Has w7 (pt gf (.cells #[.string ⟨#[47, 102]⟩, .int .i64 5, .int .i64 1, .int .i64 1, .slice none 0 0] 57) :: _) from HS7.out.re 5 [3, 0, 1, 2, 4]).set 3 (.int .i64 2))
 have HK8 := hid (HK7.out.set ⟨gf, 3, none⟩ (.int .i64 2))
 generalize w7.setCell ⟨gf, 3, none⟩ (.int .i64 2) = w8 at *
 have HS8 := hid (show Has w8 (Hsc q un5T :: pt gr (.cells #[.string ⟨#[47]⟩, .int .i64 1, .int .i64 2, .int .i64 1, .slice none 0 0] 57) :: pt gg (.cells #[.string ⟨#[47, 103]⟩, .int .i64 6, .int .i64 2, .int .i64 1, .slice none 0 0] 57) :: pt gf (.cells #[.string ⟨#[47, 102]⟩, .int .i64 5, .int .i64 1, .int .i64 2, .slice none 0 0] 57) :: pt gk (.cells #[.string ⟨#[47, 104]⟩, .int .i64 5, .int .i64 1, .int .i64 1, .slice none 0 0] 57) :: L) from HZ.out.re 5 [1, 2, 3, 0, 4])
 clear HZ hs3 ht3 HS7 HK7
 have hc_gk := (show Has w8 (pt gk (.cells #[.string ⟨#[47, 104]⟩, .int .i64 5, .int .i64 1, .int .i64 1, .slice none 0 0] 57) :: _) from HS8.out.re 5 [4]).cells
 have f_gk0 : w8.cell? ⟨gk, 0, none⟩ = some (.string ⟨#[47, 104]⟩) := hc_gk 0
 have f_gk1 : w8.cell? ⟨gk, 1, none⟩ = some (.int .i64 5) := hc_gk 1
 have f_gk2 : w8.cell? ⟨gk, 2, none⟩ = some (.int .i64 1) := hc_gk 2
 have f_gk3 : w8.cell? ⟨gk, 3, none⟩ = some (.int .i64 1) := hc_gk 3
 have f_gk4 : w8.cell? ⟨gk, 4, none⟩ = some (.slice none 0 0) := hc_gk 4
 clear hc_gk
 have hz := (HS8.out.alloc (.cells #[.string ⟨#[47, 104]⟩, .int .i64 5, .int .i64 1, .int .i64 1, .slice none 0 0] 57))
 have HZ := hid hz
 have HK9 := hid (HK8.out.alloc (.cells #[.string ⟨#[47, 104]⟩, .int .i64 5, .int .i64 1, .int .i64 1, .slice none 0 0] 57))
 clear hz  HS8 HK8
 go_upto_region 13 with fail
 generalize (w8.alloc (.cells #[.string ⟨#[47, 104]⟩, .int .i64 5, .int .i64 1, .int .i64 1, .slice none 0 0] 57)) = w9 at *
 generalize w8.heap.size = gb at *
 have HS9 := hid (show Has w9 (Hsc q un5T :: pt gb (.cells #[.string ⟨#[47, 104]⟩, .int .i64 5, .int .i64 1, .int .i64 1, .slice none 0 0] 57) :: pt gr (.cells #[.string ⟨#[47]⟩, .int .i64 1, .int .i64 2, .int .i64 1, .slice none 0 0] 57) :: pt gg (.cells #[.string ⟨#[47, 103]⟩, .int .i64 6, .int .i64 2, .int .i64 1, .slice none 0 0] 57) :: pt gf (.cells #[.string ⟨#[47, 102]⟩, .int .i64 5, .int .i64 1, .int .i64 2, .slice none 0 0] 57) :: pt gk (.cells #[.string ⟨#[47, 104]⟩, .int .i64 5, .int .i64 1, .int .i64 1, .slice none 0 0] 57) :: L) from HZ.out.re 2 [1, 0])
 clear HZ
 clear f_gk0 f_gk1 f_gk2 f_gk3 f_gk4
 have hs3 : w9.cell? ⟨gb, 3, none⟩ = some (.int .i64 1) := (show Has w9 (pt gb (.cells #[.string ⟨#[47, 104]⟩, .int .i64 5, .int .i64 1, .int .i64 1, .slice none 0 0] 57) :: _) from HS9.out.re 2 [1]).cells 3
 have ht3 := (show Has w9 (pt gb (.cells #[.string ⟨#[47, 104]⟩, .int .i64 5, .int .i64 1, .int .i64 1, .slice none 0 0] 57) :: _) from HS9.out.re 2 [1]).thaw 3
 go_upto_region 14 with fail
 have HZ := hid ((show Has w9 (pt gb (.cells #[.string ⟨#[47, 104]⟩, .int .i64 5, .int .i64 1, .int .i64 1, .slice none 0 0] 57) :: _) from HS9.out.re 6 [1, 0, 2, 3, 4, 5]).set 3 (.int .i64 2))
 have HK10 := hid (HK9.out.set ⟨gb, 3, none⟩ (.int .i64 2))
 generalize w9.setCell ⟨gb, 3, none⟩ (.int .i64 2) = w10 at *
 have HS10 := hid (show Has w10 (Hsc q un5T :: pt gb (.cells #[.string ⟨#[47, 104]⟩, .int .i64 5, .int .i64 1, .int .i64 2, .slice none 0 0] 57) :: pt gr (.cells #[.string ⟨#[47]⟩, .int .i64 1, .int .i64 2, .int .i64 1, .slice none 0 0] 57) :: pt gg (.cells #[.string ⟨#[47, 103]⟩, .int .i64 6, .int .i64 2, .int .i64 1, .slice none 0 0] 57) :: pt gf (.cells #[.string ⟨#[47, 102]⟩, .int .i64 5, .int .i64 1, .int .i64 2, .slice none 0 0] 57) :: pt gk (.cells #[.string ⟨#[47, 104]⟩, .int .i64 5, .int .i64 1, .int .i64 1, .slice none 0 0] 57) :: L) from HZ.out.re 6 [1, 0, 2, 3, 4, 5])
 clear HZ hs3 ht3 HS9 HK9
 have hc_gr := (show Has w10 (pt gr (.cells #[.string ⟨#[47]⟩, .int .i64 1, .int .i64 2, .int .i64 1, .slice none 0 0] 57) :: _) from HS10.out.re 3 [2]).cells
 have f_gr0 : w10.cell? ⟨gr, 0, none⟩ = some (.string ⟨#[47]⟩) := hc_gr 0
 have f_gr1 : w10.cell? ⟨gr, 1, none⟩ = some (.int .i64 1) := hc_gr 1
 have f_gr2 : w10.cell? ⟨gr, 2, none⟩ = some (.int .i64 2) := hc_gr 2
 have f_gr3 : w10.cell? ⟨gr, 3, none⟩ = some (.int .i64 1) := hc_gr 3
 have f_gr4 : w10.cell? ⟨gr, 4, none⟩ = some (.slice none 0 0) := hc_gr 4
 clear hc_gr
 have hc_gg := (show Has w10 (pt gg (.cells #[.string ⟨#[47, 103]⟩, .int .i64 6, .int .i64 2, .int .i64 1, .slice none 0 0] 57) :: _) from HS10.out.re 4 [3]).cells
 have f_gg0 : w10.cell? ⟨gg, 0, none⟩ = some (.string ⟨#[47, 103]⟩) := hc_gg 0
 have f_gg1 : w10.cell? ⟨gg, 1, none⟩ = some (.int .i64 6) := hc_gg 1
 have f_gg2 : w10.cell? ⟨gg, 2, none⟩ = some (.int .i64 2) := hc_gg 2
 have f_gg3 : w10.cell? ⟨gg, 3, none⟩ = some (.int .i64 1) := hc_gg 3
 have f_gg4 : w10.cell? ⟨gg, 4, none⟩ = some (.slice none 0 0) := hc_gg 4
 clear hc_gg
 have hc_gk := (show Has w10 (pt gk (.cells #[.string ⟨#[47, 104]⟩, .int .i64 5, .int .i64 1, .int .i64 1, .slice none 0 0] 57) :: _) from HS10.out.re 6 [5]).cells
 have f_gk0 : w10.cell? ⟨gk, 0, none⟩ = some (.string ⟨#[47, 104]⟩) := hc_gk 0
 have f_gk1 : w10.cell? ⟨gk, 1, none⟩ = some (.int .i64 5) := hc_gk 1
 have f_gk2 : w10.cell? ⟨gk, 2, none⟩ = some (.int .i64 1) := hc_gk 2
 have f_gk3 : w10.cell? ⟨gk, 3, none⟩ = some (.int .i64 1) := hc_gk 3
 have f_gk4 : w10.cell? ⟨gk, 4, none⟩ = some (.slice none 0 0) := hc_gk 4
 clear hc_gk
 go_wp2_with fail
 refine (stepAllows q _ un5T 5 [(⟨[47], 1, 2, 1, nilV, []⟩ : Nv), (⟨[47, 103], 6, 2, 1, nilV, []⟩ : Nv), (⟨[47, 104], 5, 1, 1, nilV, []⟩ : Nv)] #[.string ⟨#[47]⟩, .int .i64 1, .int .i64 2, .int .i64 1, .slice none 0 0, .string ⟨#[47, 103]⟩, .int .i64 6, .int .i64 2, .int .i64 1, .slice none 0 0, .string ⟨#[47, 104]⟩, .int .i64 5, .int .i64 1, .int .i64 1, .slice none 0 0] _ (pt gb (.cells #[.string ⟨#[47, 104]⟩, .int .i64 5, .int .i64 1, .int .i64 2, .slice none 0 0] 57) :: pt gr (.cells #[.string ⟨#[47]⟩, .int .i64 1, .int .i64 2, .int .i64 1, .slice none 0 0] 57) :: pt gg (.cells #[.string ⟨#[47, 103]⟩, .int .i64 6, .int .i64 2, .int .i64 1, .slice none 0 0] 57) :: pt gf (.cells #[.string ⟨#[47, 102]⟩, .int .i64 5, .int .i64 1, .int .i64 2, .slice none 0 0] 57) :: pt gk (.cells #[.string ⟨#[47, 104]⟩, .int .i64 5, .int .i64 1, .int .i64 1, .slice none 0 0] 57) :: L) un5T_st.hgo (by omega) rfl (by decide) (nv_ok (by decide) (by intro x hx; simp only [List.mem_cons, List.not_mem_nil, or_false] at hx; rcases hx with rfl | rfl | rfl <;> rfl)) (HS10.out.alloc (.cells #[.string ⟨#[47]⟩, .int .i64 1, .int .i64 2, .int .i64 1, .slice none 0 0, .string ⟨#[47, 103]⟩, .int .i64 6, .int .i64 2, .int .i64 1, .slice none 0 0, .string ⟨#[47, 104]⟩, .int .i64 5, .int .i64 1, .int .i64 1, .slice none 0 0] 57))).mono ?_
 rintro e w11 ⟨rfl, h11, k11⟩
 have HS11 := hid h11
 have HK11 := hid ((HK10.out.alloc (.cells #[.string ⟨#[47]⟩, .int .i64 1, .int .i64 2, .int .i64 1, .slice none 0 0, .string ⟨#[47, 103]⟩, .int .i64 6, .int .i64 2, .int .i64 1, .slice none 0 0, .string ⟨#[47, 104]⟩, .int .i64 5, .int .i64 1, .int .i64 1, .slice none 0 0] 57)).trans k11)
 clear h11 k11 HS10 HK10 f_gr0 f_gr1 f_gr2 f_gr3 f_gr4 f_gg0 f_gg1 f_gg2 f_gg3 f_gg4 f_gk0 f_gk1 f_gk2 f_gk3 f_gk4
 rw [uv4]
 try dsimp only
 have hc_gr := (show Has w11 (pt gr (.cells #[.string ⟨#[47]⟩, .int .i64 1, .int .i64 2, .int .i64 1, .slice none 0 0] 57) :: _) from HS11.out.re 3 [2]).cells
 have f_gr0 : w11.cell? ⟨gr, 0, none⟩ = some (.string ⟨#[47]⟩) := hc_gr 0
 have f_gr1 : w11.cell? ⟨gr, 1, none⟩ = some (.int .i64 1) := hc_gr 1
 have f_gr2 : w11.cell? ⟨gr, 2, none⟩ = some (.int .i64 2) := hc_gr 2
 have f_gr3 : w11.cell? ⟨gr, 3, none⟩ = some (.int .i64 1) := hc_gr 3
 have f_gr4 : w11.cell? ⟨gr, 4, none⟩ = some (.slice none 0 0) := hc_gr 4
 clear hc_gr
 have hc_gg := (show Has w11 (pt gg (.cells #[.string ⟨#[47, 103]⟩, .int .i64 6, .int .i64 2, .int .i64 1, .slice none 0 0] 57) :: _) from HS11.out.re 4 [3]).cells
 have f_gg0 : w11.cell? ⟨gg, 0, none⟩ = some (.string ⟨#[47, 103]⟩) := hc_gg 0
 have f_gg1 : w11.cell? ⟨gg, 1, none⟩ = some (.int .i64 6) := hc_gg 1
 have f_gg2 : w11.cell? ⟨gg, 2, none⟩ = some (.int .i64 2) := hc_gg 2
 have f_gg3 : w11.cell? ⟨gg, 3, none⟩ = some (.int .i64 1) := hc_gg 3
 have f_gg4 : w11.cell? ⟨gg, 4, none⟩ = some (.slice none 0 0) := hc_gg 4
 clear hc_gg
 have hc_gf := (show Has w11 (pt gf (.cells #[.string ⟨#[47, 102]⟩, .int .i64 5, .int .i64 1, .int .i64 2, .slice none 0 0] 57) :: _) from HS11.out.re 5 [4]).cells
 have f_gf0 : w11.cell? ⟨gf, 0, none⟩ = some (.string ⟨#[47, 102]⟩) := hc_gf 0
 have f_gf1 : w11.cell? ⟨gf, 1, none⟩ = some (.int .i64 5) := hc_gf 1
 have f_gf2 : w11.cell? ⟨gf, 2, none⟩ = some (.int .i64 1) := hc_gf 2
 have f_gf3 : w11.cell? ⟨gf, 3, none⟩ = some (.int .i64 2) := hc_gf 3
 have f_gf4 : w11.cell? ⟨gf, 4, none⟩ = some (.slice none 0 0) := hc_gf 4
 clear hc_gf
 have hc_gb := (show Has w11 (pt gb (.cells #[.string ⟨#[47, 104]⟩, .int .i64 5, .int .i64 1, .int .i64 2, .slice none 0 0] 57) :: _) from HS11.out.re 2 [1]).cells
 have f_gb0 : w11.cell? ⟨gb, 0, none⟩ = some (.string ⟨#[47, 104]⟩) := hc_gb 0
 have f_gb1 : w11.cell? ⟨gb, 1, none⟩ = some (.int .i64 5) := hc_gb 1
 have f_gb2 : w11.cell? ⟨gb, 2, none⟩ = some (.int .i64 1) := hc_gb 2
 have f_gb3 : w11.cell? ⟨gb, 3, none⟩ = some (.int .i64 2) := hc_gb 3
 have f_gb4 : w11.cell? ⟨gb, 4, none⟩ = some (.slice none 0 0) := hc_gb 4
 clear hc_gb
 go_wp2_with fail
 refine (stepAllows q _ un5T 5 [(⟨[47], 1, 2, 1, nilV, []⟩ : Nv), (⟨[47, 103], 6, 2, 1, nilV, []⟩ : Nv), (⟨[47, 102], 5, 1, 2, nilV, []⟩ : Nv), (⟨[47, 104], 5, 1, 2, nilV, []⟩ : Nv)] #[.string ⟨#[47]⟩, .int .i64 1, .int .i64 2, .int .i64 1, .slice none 0 0, .string ⟨#[47, 103]⟩, .int .i64 6, .int .i64 2, .int .i64 1, .slice none 0 0, .string ⟨#[47, 102]⟩, .int .i64 5, .int .i64 1, .int .i64 2, .slice none 0 0, .string ⟨#[47, 104]⟩, .int .i64 5, .int .i64 1, .int .i64 2, .slice none 0 0] _ (pt gb (.cells #[.string ⟨#[47, 104]⟩, .int .i64 5, .int .i64 1, .int .i64 2, .slice none 0 0] 57) :: pt gr (.cells #[.string ⟨#[47]⟩, .int .i64 1, .int .i64 2, .int .i64 1, .slice none 0 0] 57) :: pt gg (.cells #[.string ⟨#[47, 103]⟩, .int .i64 6, .int .i64 2, .int .i64 1, .slice none 0 0] 57) :: pt gf (.cells #[.string ⟨#[47, 102]⟩, .int .i64 5, .int .i64 1, .int .i64 2, .slice none 0 0] 57) :: pt gk (.cells #[.string ⟨#[47, 104]⟩, .int .i64 5, .int .i64 1, .int .i64 1, .slice none 0 0] 57) :: L) un5T_st.hgo (by omega) rfl (by decide) (nv_ok (by decide) (by intro x hx; simp only [List.mem_cons, List.not_mem_nil, or_false] at hx; rcases hx with rfl | rfl | rfl | rfl <;> rfl)) (HS11.out.alloc (.cells #[.string ⟨#[47]⟩, .int .i64 1, .int .i64 2, .int .i64 1, .slice none 0 0, .string ⟨#[47, 103]⟩, .int .i64 6, .int .i64 2, .int .i64 1, .slice none 0 0, .string ⟨#[47, 102]⟩, .int .i64 5, .int .i64 1, .int .i64 2, .slice none 0 0, .string ⟨#[47, 104]⟩, .int .i64 5, .int .i64 1, .int .i64 2, .slice none 0 0] 57))).mono ?_
 rintro e w12 ⟨rfl, h12, k12⟩
 have HS12 := hid h12
 have HK12 := hid ((HK11.out.alloc (.cells #[.string ⟨#[47]⟩, .int .i64 1, .int .i64 2, .int .i64 1, .slice none 0 0, .string ⟨#[47, 103]⟩, .int .i64 6, .int .i64 2, .int .i64 1, .slice none 0 0, .string ⟨#[47, 102]⟩, .int .i64 5, .int .i64 1, .int .i64 2, .slice none 0 0, .string ⟨#[47, 104]⟩, .int .i64 5, .int .i64 1, .int .i64 2, .slice none 0 0] 57)).trans k12)
 clear h12 k12 HS11 HK11 f_gr0 f_gr1 f_gr2 f_gr3 f_gr4 f_gg0 f_gg1 f_gg2 f_gg3 f_gg4 f_gf0 f_gf1 f_gf2 f_gf3 f_gf4 f_gb0 f_gb1 f_gb2 f_gb3 f_gb4
 rw [uv5]
 try dsimp only
 have hc_gr := (show Has w12 (pt gr (.cells #[.string ⟨#[47]⟩, .int .i64 1, .int .i64 2, .int .i64 1, .slice none 0 0] 57) :: _) from HS12.out.re 3 [2]).cells
 have f_gr0 : w12.cell? ⟨gr, 0, none⟩ = some (.string ⟨#[47]⟩) := hc_gr 0
 have f_gr1 : w12.cell? ⟨gr, 1, none⟩ = some (.int .i64 1) := hc_gr 1
 have f_gr2 : w12.cell? ⟨gr, 2, none⟩ = some (.int .i64 2) := hc_gr 2
 have f_gr3 : w12.cell? ⟨gr, 3, none⟩ = some (.int .i64 1) := hc_gr 3
 have f_gr4 : w12.cell? ⟨gr, 4, none⟩ = some (.slice none 0 0) := hc_gr 4
 clear hc_gr
 have hc_gg := (show Has w12 (pt gg (.cells #[.string ⟨#[47, 103]⟩, .int .i64 6, .int .i64 2, .int .i64 1, .slice none 0 0] 57) :: _) from HS12.out.re 4 [3]).cells
 have f_gg0 : w12.cell? ⟨gg, 0, none⟩ = some (.string ⟨#[47, 103]⟩) := hc_gg 0
 have f_gg1 : w12.cell? ⟨gg, 1, none⟩ = some (.int .i64 6) := hc_gg 1
 have f_gg2 : w12.cell? ⟨gg, 2, none⟩ = some (.int .i64 2) := hc_gg 2
 have f_gg3 : w12.cell? ⟨gg, 3, none⟩ = some (.int .i64 1) := hc_gg 3
 have f_gg4 : w12.cell? ⟨gg, 4, none⟩ = some (.slice none 0 0) := hc_gg 4
 clear hc_gg
 go_wp2_with fail
 refine (stepAllows q _ un5T 5 [(⟨[47], 1, 2, 1, nilV, []⟩ : Nv), (⟨[47, 103], 6, 2, 1, nilV, []⟩ : Nv)] #[.string ⟨#[47]⟩, .int .i64 1, .int .i64 2, .int .i64 1, .slice none 0 0, .string ⟨#[47, 103]⟩, .int .i64 6, .int .i64 2, .int .i64 1, .slice none 0 0] _ (pt gb (.cells #[.string ⟨#[47, 104]⟩, .int .i64 5, .int .i64 1, .int .i64 2, .slice none 0 0] 57) :: pt gr (.cells #[.string ⟨#[47]⟩, .int .i64 1, .int .i64 2, .int .i64 1, .slice none 0 0] 57) :: pt gg (.cells #[.string ⟨#[47, 103]⟩, .int .i64 6, .int .i64 2, .int .i64 1, .slice none 0 0] 57) :: pt gf (.cells #[.string ⟨#[47, 102]⟩, .int .i64 5, .int .i64 1, .int .i64 2, .slice none 0 0] 57) :: pt gk (.cells #[.string ⟨#[47, 104]⟩, .int .i64 5, .int .i64 1, .int .i64 1, .slice none 0 0] 57) :: L) un5T_st.hgo (by omega) rfl (by decide) (nv_ok (by decide) (by intro x hx; simp only [List.mem_cons, List.not_mem_nil, or_false] at hx; rcases hx with rfl | rfl <;> rfl)) (HS12.out.alloc (.cells #[.string ⟨#[47]⟩, .int .i64 1, .int .i64 2, .int .i64 1, .slice none 0 0, .string ⟨#[47, 103]⟩, .int .i64 6, .int .i64 2, .int .i64 1, .slice none 0 0] 57))).mono ?_
 rintro e w13 ⟨rfl, h13, k13⟩
 have HS13 := hid h13
 have HK13 := hid ((HK12.out.alloc (.cells #[.string ⟨#[47]⟩, .int .i64 1, .int .i64 2, .int .i64 1, .slice none 0 0, .string ⟨#[47, 103]⟩, .int .i64 6, .int .i64 2, .int .i64 1, .slice none 0 0] 57)).trans k13)
 clear h13 k13 HS12 HK12 f_gr0 f_gr1 f_gr2 f_gr3 f_gr4 f_gg0 f_gg1 f_gg2 f_gg3 f_gg4
 rw [uv6]
 try dsimp only
 have hc_gr := (show Has w13 (pt gr (.cells #[.string ⟨#[47]⟩, .int .i64 1, .int .i64 2, .int .i64 1, .slice none 0 0] 57) :: _) from HS13.out.re 3 [2]).cells
 have f_gr0 : w13.cell? ⟨gr, 0, none⟩ = some (.string ⟨#[47]⟩) := hc_gr 0
 have f_gr1 : w13.cell? ⟨gr, 1, none⟩ = some (.int .i64 1) := hc_gr 1
 have f_gr2 : w13.cell? ⟨gr, 2, none⟩ = some (.int .i64 2) := hc_gr 2
 have f_gr3 : w13.cell? ⟨gr, 3, none⟩ = some (.int .i64 1) := hc_gr 3
 have f_gr4 : w13.cell? ⟨gr, 4, none⟩ = some (.slice none 0 0) := hc_gr 4
 clear hc_gr
 have hc_gk := (show Has w13 (pt gk (.cells #[.string ⟨#[47, 104]⟩, .int .i64 5, .int .i64 1, .int .i64 1, .slice none 0 0] 57) :: _) from HS13.out.re 6 [5]).cells
 have f_gk0 : w13.cell? ⟨gk, 0, none⟩ = some (.string ⟨#[47, 104]⟩) := hc_gk 0
 have f_gk1 : w13.cell? ⟨gk, 1, none⟩ = some (.int .i64 5) := hc_gk 1
 have f_gk2 : w13.cell? ⟨gk, 2, none⟩ = some (.int .i64 1) := hc_gk 2
 have f_gk3 : w13.cell? ⟨gk, 3, none⟩ = some (.int .i64 1) := hc_gk 3
 have f_gk4 : w13.cell? ⟨gk, 4, none⟩ = some (.slice none 0 0) := hc_gk 4
 clear hc_gk
 go_wp2_with fail
 refine (stepAllows q _ un5T 5 [(⟨[47], 1, 2, 1, nilV, []⟩ : Nv), (⟨[47, 104], 5, 1, 1, nilV, []⟩ : Nv)] #[.string ⟨#[47]⟩, .int .i64 1, .int .i64 2, .int .i64 1, .slice none 0 0, .string ⟨#[47, 104]⟩, .int .i64 5, .int .i64 1, .int .i64 1, .slice none 0 0] _ (pt gb (.cells #[.string ⟨#[47, 104]⟩, .int .i64 5, .int .i64 1, .int .i64 2, .slice none 0 0] 57) :: pt gr (.cells #[.string ⟨#[47]⟩, .int .i64 1, .int .i64 2, .int .i64 1, .slice none 0 0] 57) :: pt gg (.cells #[.string ⟨#[47, 103]⟩, .int .i64 6, .int .i64 2, .int .i64 1, .slice none 0 0] 57) :: pt gf (.cells #[.string ⟨#[47, 102]⟩, .int .i64 5, .int .i64 1, .int .i64 2, .slice none 0 0] 57) :: pt gk (.cells #[.string ⟨#[47, 104]⟩, .int .i64 5, .int .i64 1, .int .i64 1, .slice none 0 0] 57) :: L) un5T_st.hgo (by omega) rfl (by decide) (nv_ok (by decide) (by intro x hx; simp only [List.mem_cons, List.not_mem_nil, or_false] at hx; rcases hx with rfl | rfl <;> rfl)) (HS13.out.alloc (.cells #[.string ⟨#[47]⟩, .int .i64 1, .int .i64 2, .int .i64 1, .slice none 0 0, .string ⟨#[47, 104]⟩, .int .i64 5, .int .i64 1, .int .i64 1, .slice none 0 0] 57))).mono ?_
 rintro e w14 ⟨rfl, h14, k14⟩
 have HS14 := hid h14
 have HK14 := hid ((HK13.out.alloc (.cells #[.string ⟨#[47]⟩, .int .i64 1, .int .i64 2, .int .i64 1, .slice none 0 0, .string ⟨#[47, 104]⟩, .int .i64 5, .int .i64 1, .int .i64 1, .slice none 0 0] 57)).trans k14)
 clear h14 k14 HS13 HK13 f_gr0 f_gr1 f_gr2 f_gr3 f_gr4 f_gk0 f_gk1 f_gk2 f_gk3 f_gk4
 rw [uv7]
 try dsimp only
 go_wp2_with fail
 refine (awake24 mx w14 _ (((((HM.out.cons _).cons _).cons _).cons _).cons _) HS14.out.drop).mono ?_
 rintro e wz ⟨rfl, hz, kz⟩
 have HSZ := hid hz
 have HKZ := hid (HK14.out.trans kz)
 clear hz kz HS14 HK14
 try dsimp only
 go_wp2_with fail
 go_ret
 exact ⟨rfl, HSZ.out.re 5 [], HKZ.out⟩
set_option maxRecDepth 100000 in
set_option maxHeartbeats 8000000 in
theorem unlinkFS (mx : Int) (w : World) (L : List HP) (hM : MxL mx L) (hO : Has w L) :
  Calls Tryz.prog 6 #[.bool false, .bool true] w fun e w' => e = .returned (.bool true) ∧ Has w' L ∧ Keep w w' := by
 have HO := hid hO
 have HM := hid hM
 clear hO hM
 go_enter Tryz.func6, Tryz.ntmps6
 go_wp2_with fail
 refine (mNew w L HO.out).mono ?_
 rintro e w1 ⟨q, rfl, h1, k1⟩
 have HS1 := hid (show Has w1 (Hsc q h24 :: L) from h1)
 have HK1 := hid k1
 clear h1 k1 HO
 try dsimp only
 go_wp2_with fail
 refine (show Calls Tryz.prog _ _ _ (fun e w' => e = .returned (.bool true) ∧ Has w' (Hsc q un1 :: L) ∧ Keep _ w') from stepOne q h24 0 oOf nilV 5 unS1.1 unS1.2 mx w1 _ un1_st HM.out (un1_C HM.out) HS1.out).mono ?_
 rintro e w2 ⟨rfl, h2, k2⟩
 have HS2 := hid h2
 have HK2 := hid (HK1.out.trans k2)
 clear h2 k2 HS1 HK1
 try dsimp only
 go_wp2_with fail
 refine (show Calls Tryz.prog _ _ _ (fun e w' => e = .returned (.bool true) ∧ Has w' (Hsc q un2 :: L) ∧ Keep _ w') from stepOne q un1 1 oMg nilV 6 (ansE 0) unS2 mx w2 _ un2_st HM.out (un2_C HM.out) HS2.out).mono ?_
 rintro e w3 ⟨rfl, h3, k3⟩
 have HS3 := hid h3
 have HK3 := hid (HK2.out.trans k3)
 clear h3 k3 HS2 HK2
 try dsimp only
 go_wp2_with fail
 refine (show Calls Tryz.prog _ _ _ (fun e w' => e = .returned (.bool true) ∧ Has w' (Hsc q un4F :: L) ∧ Keep _ w') from stepOne q un2 2 oSync nilV 0 (ansE 0) unS2 mx w3 _ un4F_st HM.out (by rw [un2_S]; exact docSync) HS3.out).mono ?_
 rintro e w4 ⟨rfl, h4, k4⟩
 have HS4 := hid h4
 have HK4 := hid (HK3.out.trans k4)
 clear h4 k4 HS3 HK3
 try dsimp only
 go_wp2_with fail
 refine (show Calls Tryz.prog _ _ _ (fun e w' => e = .returned (.bool true) ∧ Has w' (Hsc q un5F :: L) ∧ Keep _ w') from stepOne q un4F 3 oUf nilV 0 unF.1 unF.2 mx w4 _ un5F_st HM.out (un5F_C HM.out) HS4.out).mono ?_
 rintro e w5 ⟨rfl, h5, k5⟩
 have HS5 := hid h5
 have HK5 := hid (HK4.out.trans k5)
 clear h5 k5 HS4 HK4
 try dsimp only
 go_wp2_with fail
 refine (show Calls Tryz.prog _ _ _ (fun e w' => e = .returned (.bool true) ∧ Has w' (Hsc q un6F :: L) ∧ Keep _ w') from stepOne q un5F 4 oSync nilV 0 (ansE 0) unF.2 mx w5 _ un6F_st HM.out (by rw [un5F_S]; exact docSync) HS5.out).mono ?_
 rintro e w6 ⟨rfl, h6, k6⟩
 have HS6 := hid h6
 have HK6 := hid (HK5.out.trans k6)
 clear h6 k6 HS5 HK5
 try dsimp only
 have hz := ((((HS6.out.alloc (.cells #[.string ⟨#[47]⟩, .int .i64 1, .int .i64 2, .int .i64 1, .slice none 0 0] 57)).alloc (.cells #[.string ⟨#[47, 103]⟩, .int .i64 6, .int .i64 2, .int .i64 1, .slice none 0 0] 57)).alloc (.cells #[.string ⟨#[47, 102]⟩, .int .i64 5, .int .i64 1, .int .i64 1, .slice none 0 0] 57)).alloc (.cells #[.string ⟨#[47, 104]⟩, .int .i64 5, .int .i64 1, .int .i64 1, .slice none 0 0] 57))
 have e1 : (w6.alloc (.cells #[.string ⟨#[47]⟩, .int .i64 1, .int .i64 2, .int .i64 1, .slice none 0 0] 57)).heap.size = w6.heap.size + 1 := by show (Array.push _ _).size = _; rw [Array.size_push]
 have e2 : ((w6.alloc (.cells #[.string ⟨#[47]⟩, .int .i64 1, .int .i64 2, .int .i64 1, .slice none 0 0] 57)).alloc (.cells #[.string ⟨#[47, 103]⟩, .int .i64 6, .int .i64 2, .int .i64 1, .slice none 0 0] 57)).heap.size = w6.heap.size + 2 := by show (Array.push _ _).size = _; rw [Array.size_push, e1]
 have e3 : (((w6.alloc (.cells #[.string ⟨#[47]⟩, .int .i64 1, .int .i64 2, .int .i64 1, .slice none 0 0] 57)).alloc (.cells #[.string ⟨#[47, 103]⟩, .int .i64 6, .int .i64 2, .int .i64 1, .slice none 0 0] 57)).alloc (.cells #[.string ⟨#[47, 102]⟩, .int .i64 5, .int .i64 1, .int .i64 1, .slice none 0 0] 57)).heap.size = w6.heap.size + 3 := by show (Array.push _ _).size = _; rw [Array.size_push, e2]
 rw [e3, e2, e1] at hz
 have HZ := hid hz
 have HK7 := hid ((((HK6.out.alloc (.cells #[.string ⟨#[47]⟩, .int .i64 1, .int .i64 2, .int .i64 1, .slice none 0 0] 57)).alloc (.cells #[.string ⟨#[47, 103]⟩, .int .i64 6, .int .i64 2, .int .i64 1, .slice none 0 0] 57)).alloc (.cells #[.string ⟨#[47, 102]⟩, .int .i64 5, .int .i64 1, .int .i64 1, .slice none 0 0] 57)).alloc (.cells #[.string ⟨#[47, 104]⟩, .int .i64 5, .int .i64 1, .int .i64 1, .slice none 0 0] 57))
 clear hz e1 e2 e3 HS6 HK6
 go_upto_region 15 with fail
 generalize ((((w6.alloc (.cells #[.string ⟨#[47]⟩, .int .i64 1, .int .i64 2, .int .i64 1, .slice none 0 0] 57)).alloc (.cells #[.string ⟨#[47, 103]⟩, .int .i64 6, .int .i64 2, .int .i64 1, .slice none 0 0] 57)).alloc (.cells #[.string ⟨#[47, 102]⟩, .int .i64 5, .int .i64 1, .int .i64 1, .slice none 0 0] 57)).alloc (.cells #[.string ⟨#[47, 104]⟩, .int .i64 5, .int .i64 1, .int .i64 1, .slice none 0 0] 57)) = w7 at *
 generalize w6.heap.size + 3 = gk at *
 generalize w6.heap.size + 2 = gf at *
 generalize w6.heap.size + 1 = gg at *
 generalize w6.heap.size = gr at *
 have HS7 := hid (show Has w7 (Hsc q un6F :: pt gr (.cells #[.string ⟨#[47]⟩, .int .i64 1, .int .i64 2, .int .i64 1, .slice none 0 0] 57) :: pt gg (.cells #[.string ⟨#[47, 103]⟩, .int .i64 6, .int .i64 2, .int .i64 1, .slice none 0 0] 57) :: pt gf (.cells #[.string ⟨#[47, 102]⟩, .int .i64 5, .int .i64 1, .int .i64 1, .slice none 0 0] 57) :: pt gk (.cells #[.string ⟨#[47, 104]⟩, .int .i64 5, .int .i64 1, .int .i64 1, .slice none 0 0] 57) :: L) from HZ.out.re 5 [4, 3, 2, 1, 0])
 clear HZ
 have hc_gr := (show Has w7 (pt gr (.cells #[.string ⟨#[47]⟩, .int .i64 1, .int .i64 2, .int .i64 1, .slice none 0 0] 57) :: _) from HS7.out.re 2 [1]).cells
 have f_gr0 : w7.cell? ⟨gr, 0, none⟩ = some (.string ⟨#[47]⟩) := hc_gr 0
 have f_gr1 : w7.cell? ⟨gr, 1, none⟩ = some (.int .i64 1) := hc_gr 1
 have f_gr2 : w7.cell? ⟨gr, 2, none⟩ = some (.int .i64 2) := hc_gr 2
 have f_gr3 : w7.cell? ⟨gr, 3, none⟩ = some (.int .i64 1) := hc_gr 3
 have f_gr4 : w7.cell? ⟨gr, 4, none⟩ = some (.slice none 0 0) := hc_gr 4
 clear hc_gr
 have hc_gg := (show Has w7 (pt gg (.cells #[.string ⟨#[47, 103]⟩, .int .i64 6, .int .i64 2, .int .i64 1, .slice none 0 0] 57) :: _) from HS7.out.re 3 [2]).cells
 have f_gg0 : w7.cell? ⟨gg, 0, none⟩ = some (.string ⟨#[47, 103]⟩) := hc_gg 0
 have f_gg1 : w7.cell? ⟨gg, 1, none⟩ = some (.int .i64 6) := hc_gg 1
 have f_gg2 : w7.cell? ⟨gg, 2, none⟩ = some (.int .i64 2) := hc_gg 2
 have f_gg3 : w7.cell? ⟨gg, 3, none⟩ = some (.int .i64 1) := hc_gg 3
 have f_gg4 : w7.cell? ⟨gg, 4, none⟩ = some (.slice none 0 0) := hc_gg 4
 clear hc_gg
 go_wp2_with fail
 refine (stepAllows q _ un6F 5 [(⟨[47], 1, 2, 1, nilV, []⟩ : Nv), (⟨[47, 103], 6, 2, 1, nilV, []⟩ : Nv)] #[.string ⟨#[47]⟩, .int .i64 1, .int .i64 2, .int .i64 1, .slice none 0 0, .string ⟨#[47, 103]⟩, .int .i64 6, .int .i64 2, .int .i64 1, .slice none 0 0] _ (pt gr (.cells #[.string ⟨#[47]⟩, .int .i64 1, .int .i64 2, .int .i64 1, .slice none 0 0] 57) :: pt gg (.cells #[.string ⟨#[47, 103]⟩, .int .i64 6, .int .i64 2, .int .i64 1, .slice none 0 0] 57) :: pt gf (.cells #[.string ⟨#[47, 102]⟩, .int .i64 5, .int .i64 1, .int .i64 1, .slice none 0 0] 57) :: pt gk (.cells #[.string ⟨#[47, 104]⟩, .int .i64 5, .int .i64 1, .int .i64 1, .slice none 0 0] 57) :: L) un6F_st.hgo (by omega) rfl (by decide) (nv_ok (by decide) (by intro x hx; simp only [List.mem_cons, List.not_mem_nil, or_false] at hx; rcases hx with rfl | rfl <;> rfl)) (HS7.out.alloc (.cells #[.string ⟨#[47]⟩, .int .i64 1, .int .i64 2, .int .i64 1, .slice none 0 0, .string ⟨#[47, 103]⟩, .int .i64 6, .int .i64 2, .int .i64 1, .slice none 0 0] 57))).mono ?_
 rintro e w8 ⟨rfl, h8, k8⟩
 have HS8 := hid h8
 have HK8 := hid ((HK7.out.alloc (.cells #[.string ⟨#[47]⟩, .int .i64 1, .int .i64 2, .int .i64 1, .slice none 0 0, .string ⟨#[47, 103]⟩, .int .i64 6, .int .i64 2, .int .i64 1, .slice none 0 0] 57)).trans k8)
 clear h8 k8 HS7 HK7 f_gr0 f_gr1 f_gr2 f_gr3 f_gr4 f_gg0 f_gg1 f_gg2 f_gg3 f_gg4
 rw [uv8]
 try dsimp only
 have hc_gr := (show Has w8 (pt gr (.cells #[.string ⟨#[47]⟩, .int .i64 1, .int .i64 2, .int .i64 1, .slice none 0 0] 57) :: _) from HS8.out.re 2 [1]).cells
 have f_gr0 : w8.cell? ⟨gr, 0, none⟩ = some (.string ⟨#[47]⟩) := hc_gr 0
 have f_gr1 : w8.cell? ⟨gr, 1, none⟩ = some (.int .i64 1) := hc_gr 1
 have f_gr2 : w8.cell? ⟨gr, 2, none⟩ = some (.int .i64 2) := hc_gr 2
 have f_gr3 : w8.cell? ⟨gr, 3, none⟩ = some (.int .i64 1) := hc_gr 3
 have f_gr4 : w8.cell? ⟨gr, 4, none⟩ = some (.slice none 0 0) := hc_gr 4
 clear hc_gr
 have hc_gg := (show Has w8 (pt gg (.cells #[.string ⟨#[47, 103]⟩, .int .i64 6, .int .i64 2, .int .i64 1, .slice none 0 0] 57) :: _) from HS8.out.re 3 [2]).cells
 have f_gg0 : w8.cell? ⟨gg, 0, none⟩ = some (.string ⟨#[47, 103]⟩) := hc_gg 0
 have f_gg1 : w8.cell? ⟨gg, 1, none⟩ = some (.int .i64 6) := hc_gg 1
 have f_gg2 : w8.cell? ⟨gg, 2, none⟩ = some (.int .i64 2) := hc_gg 2
 have f_gg3 : w8.cell? ⟨gg, 3, none⟩ = some (.int .i64 1) := hc_gg 3
 have f_gg4 : w8.cell? ⟨gg, 4, none⟩ = some (.slice none 0 0) := hc_gg 4
 clear hc_gg
 have hc_gf := (show Has w8 (pt gf (.cells #[.string ⟨#[47, 102]⟩, .int .i64 5, .int .i64 1, .int .i64 1, .slice none 0 0] 57) :: _) from HS8.out.re 4 [3]).cells
 have f_gf0 : w8.cell? ⟨gf, 0, none⟩ = some (.string ⟨#[47, 102]⟩) := hc_gf 0
 have f_gf1 : w8.cell? ⟨gf, 1, none⟩ = some (.int .i64 5) := hc_gf 1
 have f_gf2 : w8.cell? ⟨gf, 2, none⟩ = some (.int .i64 1) := hc_gf 2
 have f_gf3 : w8.cell? ⟨gf, 3, none⟩ = some (.int .i64 1) := hc_gf 3
 have f_gf4 : w8.cell? ⟨gf, 4, none⟩ = some (.slice none 0 0) := hc_gf 4
 clear hc_gf
 go_wp2_with fail
 refine (stepAllows q _ un6F 5 [(⟨[47], 1, 2, 1, nilV, []⟩ : Nv), (⟨[47, 103], 6, 2, 1, nilV, []⟩ : Nv), (⟨[47, 102], 5, 1, 1, nilV, []⟩ : Nv)] #[.string ⟨#[47]⟩, .int .i64 1, .int .i64 2, .int .i64 1, .slice none 0 0, .string ⟨#[47, 103]⟩, .int .i64 6, .int .i64 2, .int .i64 1, .slice none 0 0, .string ⟨#[47, 102]⟩, .int .i64 5, .int .i64 1, .int .i64 1, .slice none 0 0] _ (pt gr (.cells #[.string ⟨#[47]⟩, .int .i64 1, .int .i64 2, .int .i64 1, .slice none 0 0] 57) :: pt gg (.cells #[.string ⟨#[47, 103]⟩, .int .i64 6, .int .i64 2, .int .i64 1, .slice none 0 0] 57) :: pt gf (.cells #[.string ⟨#[47, 102]⟩, .int .i64 5, .int .i64 1, .int .i64 1, .slice none 0 0] 57) :: pt gk (.cells #[.string ⟨#[47, 104]⟩, .int .i64 5, .int .i64 1, .int .i64 1, .slice none 0 0] 57) :: L) un6F_st.hgo (by omega) rfl (by decide) (nv_ok (by decide) (by intro x hx; simp only [List.mem_cons, List.not_mem_nil, or_false] at hx; rcases hx with rfl | rfl | rfl <;> rfl)) (HS8.out.alloc (.cells #[.string ⟨#[47]⟩, .int .i64 1, .int .i64 2, .int .i64 1, .slice none 0 0, .string ⟨#[47, 103]⟩, .int .i64 6, .int .i64 2, .int .i64 1, .slice none 0 0, .string ⟨#[47, 102]⟩, .int .i64 5, .int .i64 1, .int .i64 1, .slice none 0 0] 57))).mono ?_
 rintro e w9 ⟨rfl, h9, k9⟩
 have HS9 := hid h9
 have HK9 := hid ((HK8.out.alloc (.cells #[.string ⟨#[47]⟩, .int .i64 1, .int .i64 2, .int .i64 1, .slice none 0 0, .string ⟨#[47, 103]⟩, .int .i64 6, .int .i64 2, .int .i64 1, .slice none 0 0, .string ⟨#[47, 102]⟩, .int .i64 5, .int .i64 1, .int .i64 1, .slice none 0 0] 57)).trans k9)
 clear h9 k9 HS8 HK8 f_gr0 f_gr1 f_gr2 f_gr3 f_gr4 f_gg0 f_gg1 f_gg2 f_gg3 f_gg4 f_gf0 f_gf1 f_gf2 f_gf3 f_gf4
 rw [uv9]
 try dsimp only
 have hc_gr := (show Has w9 (pt gr (.cells #[.string ⟨#[47]⟩, .int .i64 1, .int .i64 2, .int .i64 1, .slice none 0 0] 57) :: _) from HS9.out.re 2 [1]).cells
 have f_gr0 : w9.cell? ⟨gr, 0, none⟩ = some (.string ⟨#[47]⟩) := hc_gr 0
 have f_gr1 : w9.cell? ⟨gr, 1, none⟩ = some (.int .i64 1) := hc_gr 1
 have f_gr2 : w9.cell? ⟨gr, 2, none⟩ = some (.int .i64 2) := hc_gr 2
 have f_gr3 : w9.cell? ⟨gr, 3, none⟩ = some (.int .i64 1) := hc_gr 3
 have f_gr4 : w9.cell? ⟨gr, 4, none⟩ = some (.slice none 0 0) := hc_gr 4
 clear hc_gr
 have hc_gf := (show Has w9 (pt gf (.cells #[.string ⟨#[47, 102]⟩, .int .i64 5, .int .i64 1, .int .i64 1, .slice none 0 0] 57) :: _) from HS9.out.re 4 [3]).cells
 have f_gf0 : w9.cell? ⟨gf, 0, none⟩ = some (.string ⟨#[47, 102]⟩) := hc_gf 0
 have f_gf1 : w9.cell? ⟨gf, 1, none⟩ = some (.int .i64 5) := hc_gf 1
 have f_gf2 : w9.cell? ⟨gf, 2, none⟩ = some (.int .i64 1) := hc_gf 2
 have f_gf3 : w9.cell? ⟨gf, 3, none⟩ = some (.int .i64 1) := hc_gf 3
 have f_gf4 : w9.cell? ⟨gf, 4, none⟩ = some (.slice none 0 0) := hc_gf 4
 clear hc_gf
 go_wp2_with fail
 refine (stepAllows q _ un6F 5 [(⟨[47], 1, 2, 1, nilV, []⟩ : Nv), (⟨[47, 102], 5, 1, 1, nilV, []⟩ : Nv)] #[.string ⟨#[47]⟩, .int .i64 1, .int .i64 2, .int .i64 1, .slice none 0 0, .string ⟨#[47, 102]⟩, .int .i64 5, .int .i64 1, .int .i64 1, .slice none 0 0] _ (pt gr (.cells #[.string ⟨#[47]⟩, .int .i64 1, .int .i64 2, .int .i64 1, .slice none 0 0] 57) :: pt gg (.cells #[.string ⟨#[47, 103]⟩, .int .i64 6, .int .i64 2, .int .i64 1, .slice none 0 0] 57) :: pt gf (.cells #[.string ⟨#[47, 102]⟩, .int .i64 5, .int .i64 1, .int .i64 1, .slice none 0 0] 57) :: pt gk (.cells #[.string ⟨#[47, 104]⟩, .int .i64 5, .int .i64 1, .int .i64 1, .slice none 0 0] 57) :: L) un6F_st.hgo (by omega) rfl (by decide) (nv_ok (by decide) (by intro x hx; simp only [List.mem_cons, List.not_mem_nil, or_false] at hx; rcases hx with rfl | rfl <;> rfl)) (HS9.out.alloc (.cells #[.string ⟨#[47]⟩, .int .i64 1, .int .i64 2, .int .i64 1, .slice none 0 0, .string ⟨#[47, 102]⟩, .int .i64 5, .int .i64 1, .int .i64 1, .slice none 0 0] 57))).mono ?_
 rintro e w10 ⟨rfl, h10, k10⟩
 have HS10 := hid h10
 have HK10 := hid ((HK9.out.alloc (.cells #[.string ⟨#[47]⟩, .int .i64 1, .int .i64 2, .int .i64 1, .slice none 0 0, .string ⟨#[47, 102]⟩, .int .i64 5, .int .i64 1, .int .i64 1, .slice none 0 0] 57)).trans k10)
 clear h10 k10 HS9 HK9 f_gr0 f_gr1 f_gr2 f_gr3 f_gr4 f_gf0 f_gf1 f_gf2 f_gf3 f_gf4
 rw [uv10]
 try dsimp only
 have hc_gr := (show Has w10 (pt gr (.cells #[.string ⟨#[47]⟩, .int .i64 1, .int .i64 2, .int .i64 1, .slice none 0 0] 57) :: _) from HS10.out.re 2 [1]).cells
 have f_gr0 : w10.cell? ⟨gr, 0, none⟩ = some (.string ⟨#[47]⟩) := hc_gr 0
 have f_gr1 : w10.cell? ⟨gr, 1, none⟩ = some (.int .i64 1) := hc_gr 1
 have f_gr2 : w10.cell? ⟨gr, 2, none⟩ = some (.int .i64 2) := hc_gr 2
 have f_gr3 : w10.cell? ⟨gr, 3, none⟩ = some (.int .i64 1) := hc_gr 3
 have f_gr4 : w10.cell? ⟨gr, 4, none⟩ = some (.slice none 0 0) := hc_gr 4
 clear hc_gr
 have hc_gg := (show Has w10 (pt gg (.cells #[.string ⟨#[47, 103]⟩, .int .i64 6, .int .i64 2, .int .i64 1, .slice none 0 0] 57) :: _) from HS10.out.re 3 [2]).cells
 have f_gg0 : w10.cell? ⟨gg, 0, none⟩ = some (.string ⟨#[47, 103]⟩) := hc_gg 0
 have f_gg1 : w10.cell? ⟨gg, 1, none⟩ = some (.int .i64 6) := hc_gg 1
 have f_gg2 : w10.cell? ⟨gg, 2, none⟩ = some (.int .i64 2) := hc_gg 2
 have f_gg3 : w10.cell? ⟨gg, 3, none⟩ = some (.int .i64 1) := hc_gg 3
 have f_gg4 : w10.cell? ⟨gg, 4, none⟩ = some (.slice none 0 0) := hc_gg 4
 clear hc_gg
 have hc_gk := (show Has w10 (pt gk (.cells #[.string ⟨#[47, 104]⟩, .int .i64 5, .int .i64 1, .int .i64 1, .slice none 0 0] 57) :: _) from HS10.out.re 5 [4]).cells
 have f_gk0 : w10.cell? ⟨gk, 0, none⟩ = some (.string ⟨#[47, 104]⟩) := hc_gk 0
 have f_gk1 : w10.cell? ⟨gk, 1, none⟩ = some (.int .i64 5) := hc_gk 1
 have f_gk2 : w10.cell? ⟨gk, 2, none⟩ = some (.int .i64 1) := hc_gk 2
 have f_gk3 : w10.cell? ⟨gk, 3, none⟩ = some (.int .i64 1) := hc_gk 3
 have f_gk4 : w10.cell? ⟨gk, 4, none⟩ = some (.slice none 0 0) := hc_gk 4
 clear hc_gk
 go_wp2_with fail
 refine (stepAllows q _ un6F 5 [(⟨[47], 1, 2, 1, nilV, []⟩ : Nv), (⟨[47, 103], 6, 2, 1, nilV, []⟩ : Nv), (⟨[47, 104], 5, 1, 1, nilV, []⟩ : Nv)] #[.string ⟨#[47]⟩, .int .i64 1, .int .i64 2, .int .i64 1, .slice none 0 0, .string ⟨#[47, 103]⟩, .int .i64 6, .int .i64 2, .int .i64 1, .slice none 0 0, .string ⟨#[47, 104]⟩, .int .i64 5, .int .i64 1, .int .i64 1, .slice none 0 0] _ (pt gr (.cells #[.string ⟨#[47]⟩, .int .i64 1, .int .i64 2, .int .i64 1, .slice none 0 0] 57) :: pt gg (.cells #[.string ⟨#[47, 103]⟩, .int .i64 6, .int .i64 2, .int .i64 1, .slice none 0 0] 57) :: pt gf (.cells #[.string ⟨#[47, 102]⟩, .int .i64 5, .int .i64 1, .int .i64 1, .slice none 0 0] 57) :: pt gk (.cells #[.string ⟨#[47, 104]⟩, .int .i64 5, .int .i64 1, .int .i64 1, .slice none 0 0] 57) :: L) un6F_st.hgo (by omega) rfl (by decide) (nv_ok (by decide) (by intro x hx; simp only [List.mem_cons, List.not_mem_nil, or_false] at hx; rcases hx with rfl | rfl | rfl <;> rfl)) (HS10.out.alloc (.cells #[.string ⟨#[47]⟩, .int .i64 1, .int .i64 2, .int .i64 1, .slice none 0 0, .string ⟨#[47, 103]⟩, .int .i64 6, .int .i64 2, .int .i64 1, .slice none 0 0, .string ⟨#[47, 104]⟩, .int .i64 5, .int .i64 1, .int .i64 1, .slice none 0 0] 57))).mono ?_
 rintro e w11 ⟨rfl, h11, k11⟩
 have HS11 := hid h11
 have HK11 := hid ((HK10.out.alloc (.cells #[.string ⟨#[47]⟩, .int .i64 1, .int .i64 2, .int .i64 1, .slice none 0 0, .string ⟨#[47, 103]⟩, .int .i64 6, .int .i64 2, .int .i64 1, .slice none 0 0, .string ⟨#[47, 104]⟩, .int .i64 5, .int .i64 1, .int .i64 1, .slice none 0 0] 57)).trans k11)
 clear h11 k11 HS10 HK10 f_gr0 f_gr1 f_gr2 f_gr3 f_gr4 f_gg0 f_gg1 f_gg2 f_gg3 f_gg4 f_gk0 f_gk1 f_gk2 f_gk3 f_gk4
 rw [uv11]
 try dsimp only
 go_wp2_with fail
 refine (awake24 mx w11 _ ((((HM.out.cons _).cons _).cons _).cons _) HS11.out.drop).mono ?_
 rintro e wz ⟨rfl, hz, kz⟩
 have HSZ := hid hz
 have HKZ := hid (HK11.out.trans kz)
 clear hz kz HS11 HK11
 try dsimp only
 go_wp2_with fail
 go_ret
 exact ⟨rfl, HSZ.out.re 4 [], HKZ.out⟩
set_option maxRecDepth 100000 in
set_option maxHeartbeats 8000000 in
theorem unlinkF (mx : Int) (w : World) (L : List HP) (hM : MxL mx L) (hO : Has w L) :
  Calls Tryz.prog 6 #[.bool false, .bool false] w fun e w' => e = .returned (.bool true) ∧ Has w' L ∧ Keep w w' := by
 have HO := hid hO
 have HM := hid hM
 clear hO hM
 go_enter Tryz.func6, Tryz.ntmps6
 go_wp2_with fail
 refine (mNew w L HO.out).mono ?_
 rintro e w1 ⟨q, rfl, h1, k1⟩
 have HS1 := hid (show Has w1 (Hsc q h24 :: L) from h1)
 have HK1 := hid k1
 clear h1 k1 HO
 try dsimp only
 go_wp2_with fail
 refine (show Calls Tryz.prog _ _ _ (fun e w' => e = .returned (.bool true) ∧ Has w' (Hsc q un1 :: L) ∧ Keep _ w') from stepOne q h24 0 oOf nilV 5 unS1.1 unS1.2 mx w1 _ un1_st HM.out (un1_C HM.out) HS1.out).mono ?_
 rintro e w2 ⟨rfl, h2, k2⟩
 have HS2 := hid h2
 have HK2 := hid (HK1.out.trans k2)
 clear h2 k2 HS1 HK1
 try dsimp only
 go_wp2_with fail
 refine (show Calls Tryz.prog _ _ _ (fun e w' => e = .returned (.bool true) ∧ Has w' (Hsc q un2 :: L) ∧ Keep _ w') from stepOne q un1 1 oMg nilV 6 (ansE 0) unS2 mx w2 _ un2_st HM.out (un2_C HM.out) HS2.out).mono ?_
 rintro e w3 ⟨rfl, h3, k3⟩
 have HS3 := hid h3
 have HK3 := hid (HK2.out.trans k3)
 clear h3 k3 HS2 HK2
 try dsimp only
 go_wp2_with fail
 refine (show Calls Tryz.prog _ _ _ (fun e w' => e = .returned (.bool true) ∧ Has w' (Hsc q un4F :: L) ∧ Keep _ w') from stepOne q un2 2 oSync nilV 0 (ansE 0) unS2 mx w3 _ un4F_st HM.out (by rw [un2_S]; exact docSync) HS3.out).mono ?_
 rintro e w4 ⟨rfl, h4, k4⟩
 have HS4 := hid h4
 have HK4 := hid (HK3.out.trans k4)
 clear h4 k4 HS3 HK3
 try dsimp only
 go_wp2_with fail
 refine (show Calls Tryz.prog _ _ _ (fun e w' => e = .returned (.bool true) ∧ Has w' (Hsc q un5F :: L) ∧ Keep _ w') from stepOne q un4F 3 oUf nilV 0 unF.1 unF.2 mx w4 _ un5F_st HM.out (un5F_C HM.out) HS4.out).mono ?_
 rintro e w5 ⟨rfl, h5, k5⟩
 have HS5 := hid h5
 have HK5 := hid (HK4.out.trans k5)
 clear h5 k5 HS4 HK4
 try dsimp only
 have hz := ((((HS5.out.alloc (.cells #[.string ⟨#[47]⟩, .int .i64 1, .int .i64 2, .int .i64 1, .slice none 0 0] 57)).alloc (.cells #[.string ⟨#[47, 103]⟩, .int .i64 6, .int .i64 2, .int .i64 1, .slice none 0 0] 57)).alloc (.cells #[.string ⟨#[47, 102]⟩, .int .i64 5, .int .i64 1, .int .i64 1, .slice none 0 0] 57)).alloc (.cells #[.string ⟨#[47, 104]⟩, .int .i64 5, .int .i64 1, .int .i64 1, .slice none 0 0] 57))
 have e1 : (w5.alloc (.cells #[.string ⟨#[47]⟩, .int .i64 1, .int .i64 2, .int .i64 1, .slice none 0 0] 57)).heap.size = w5.heap.size + 1 := by show (Array.push _ _).size = _; rw [Array.size_push]
 have e2 : ((w5.alloc (.cells #[.string ⟨#[47]⟩, .int .i64 1, .int .i64 2, .int .i64 1, .slice none 0 0] 57)).alloc (.cells #[.string ⟨#[47, 103]⟩, .int .i64 6, .int .i64 2, .int .i64 1, .slice none 0 0] 57)).heap.size = w5.heap.size + 2 := by show (Array.push _ _).size = _; rw [Array.size_push, e1]
 have e3 : (((w5.alloc (.cells #[.string ⟨#[47]⟩, .int .i64 1, .int .i64 2, .int .i64 1, .slice none 0 0] 57)).alloc (.cells #[.string ⟨#[47, 103]⟩, .int .i64 6, .int .i64 2, .int .i64 1, .slice none 0 0] 57)).alloc (.cells #[.string ⟨#[47, 102]⟩, .int .i64 5, .int .i64 1, .int .i64 1, .slice none 0 0] 57)).heap.size = w5.heap.size + 3 := by show (Array.push _ _).size = _; rw [Array.size_push, e2]
 rw [e3, e2, e1] at hz
 have HZ := hid hz
 have HK6 := hid ((((HK5.out.alloc (.cells #[.string ⟨#[47]⟩, .int .i64 1, .int .i64 2, .int .i64 1, .slice none 0 0] 57)).alloc (.cells #[.string ⟨#[47, 103]⟩, .int .i64 6, .int .i64 2, .int .i64 1, .slice none 0 0] 57)).alloc (.cells #[.string ⟨#[47, 102]⟩, .int .i64 5, .int .i64 1, .int .i64 1, .slice none 0 0] 57)).alloc (.cells #[.string ⟨#[47, 104]⟩, .int .i64 5, .int .i64 1, .int .i64 1, .slice none 0 0] 57))
 clear hz e1 e2 e3 HS5 HK5
 go_upto_region 15 with fail
 generalize ((((w5.alloc (.cells #[.string ⟨#[47]⟩, .int .i64 1, .int .i64 2, .int .i64 1, .slice none 0 0] 57)).alloc (.cells #[.string ⟨#[47, 103]⟩, .int .i64 6, .int .i64 2, .int .i64 1, .slice none 0 0] 57)).alloc (.cells #[.string ⟨#[47, 102]⟩, .int .i64 5, .int .i64 1, .int .i64 1, .slice none 0 0] 57)).alloc (.cells #[.string ⟨#[47, 104]⟩, .int .i64 5, .int .i64 1, .int .i64 1, .slice none 0 0] 57)) = w6 at *
 generalize w5.heap.size + 3 = gk at *
 generalize w5.heap.size + 2 = gf at *
 generalize w5.heap.size + 1 = gg at *
 generalize w5.heap.size = gr at *
 have HS6 := hid (show Has w6 (Hsc q un5F :: pt gr (.cells #[.string ⟨#[47]⟩, .int .i64 1, .int .i64 2, .int .i64 1, .slice none 0 0] 57) :: pt gg (.cells #[.string ⟨#[47, 103]⟩, .int .i64 6, .int .i64 2, .int .i64 1, .slice none 0 0] 57) :: pt gf (.cells #[.string ⟨#[47, 102]⟩, .int .i64 5, .int .i64 1, .int .i64 1, .slice none 0 0] 57) :: pt gk (.cells #[.string ⟨#[47, 104]⟩, .int .i64 5, .int .i64 1, .int .i64 1, .slice none 0 0] 57) :: L) from HZ.out.re 5 [4, 3, 2, 1, 0])
 clear HZ
 have hc_gr := (show Has w6 (pt gr (.cells #[.string ⟨#[47]⟩, .int .i64 1, .int .i64 2, .int .i64 1, .slice none 0 0] 57) :: _) from HS6.out.re 2 [1]).cells
 have f_gr0 : w6.cell? ⟨gr, 0, none⟩ = some (.string ⟨#[47]⟩) := hc_gr 0
 have f_gr1 : w6.cell? ⟨gr, 1, none⟩ = some (.int .i64 1) := hc_gr 1
 have f_gr2 : w6.cell? ⟨gr, 2, none⟩ = some (.int .i64 2) := hc_gr 2
 have f_gr3 : w6.cell? ⟨gr, 3, none⟩ = some (.int .i64 1) := hc_gr 3
 have f_gr4 : w6.cell? ⟨gr, 4, none⟩ = some (.slice none 0 0) := hc_gr 4
 clear hc_gr
 have hc_gg := (show Has w6 (pt gg (.cells #[.string ⟨#[47, 103]⟩, .int .i64 6, .int .i64 2, .int .i64 1, .slice none 0 0] 57) :: _) from HS6.out.re 3 [2]).cells
 have f_gg0 : w6.cell? ⟨gg, 0, none⟩ = some (.string ⟨#[47, 103]⟩) := hc_gg 0
 have f_gg1 : w6.cell? ⟨gg, 1, none⟩ = some (.int .i64 6) := hc_gg 1
 have f_gg2 : w6.cell? ⟨gg, 2, none⟩ = some (.int .i64 2) := hc_gg 2
 have f_gg3 : w6.cell? ⟨gg, 3, none⟩ = some (.int .i64 1) := hc_gg 3
 have f_gg4 : w6.cell? ⟨gg, 4, none⟩ = some (.slice none 0 0) := hc_gg 4
 clear hc_gg
 go_wp2_with fail
 refine (stepAllows q _ un5F 4 [(⟨[47], 1, 2, 1, nilV, []⟩ : Nv), (⟨[47, 103], 6, 2, 1, nilV, []⟩ : Nv)] #[.string ⟨#[47]⟩, .int .i64 1, .int .i64 2, .int .i64 1, .slice none 0 0, .string ⟨#[47, 103]⟩, .int .i64 6, .int .i64 2, .int .i64 1, .slice none 0 0] _ (pt gr (.cells #[.string ⟨#[47]⟩, .int .i64 1, .int .i64 2, .int .i64 1, .slice none 0 0] 57) :: pt gg (.cells #[.string ⟨#[47, 103]⟩, .int .i64 6, .int .i64 2, .int .i64 1, .slice none 0 0] 57) :: pt gf (.cells #[.string ⟨#[47, 102]⟩, .int .i64 5, .int .i64 1, .int .i64 1, .slice none 0 0] 57) :: pt gk (.cells #[.string ⟨#[47, 104]⟩, .int .i64 5, .int .i64 1, .int .i64 1, .slice none 0 0] 57) :: L) un5F_st.hgo (by omega) rfl (by decide) (nv_ok (by decide) (by intro x hx; simp only [List.mem_cons, List.not_mem_nil, or_false] at hx; rcases hx with rfl | rfl <;> rfl)) (HS6.out.alloc (.cells #[.string ⟨#[47]⟩, .int .i64 1, .int .i64 2, .int .i64 1, .slice none 0 0, .string ⟨#[47, 103]⟩, .int .i64 6, .int .i64 2, .int .i64 1, .slice none 0 0] 57))).mono ?_
 rintro e w7 ⟨rfl, h7, k7⟩
 have HS7 := hid h7
 have HK7 := hid ((HK6.out.alloc (.cells #[.string ⟨#[47]⟩, .int .i64 1, .int .i64 2, .int .i64 1, .slice none 0 0, .string ⟨#[47, 103]⟩, .int .i64 6, .int .i64 2, .int .i64 1, .slice none 0 0] 57)).trans k7)
 clear h7 k7 HS6 HK6 f_gr0 f_gr1 f_gr2 f_gr3 f_gr4 f_gg0 f_gg1 f_gg2 f_gg3 f_gg4
 rw [uv12]
 try dsimp only
 have hc_gr := (show Has w7 (pt gr (.cells #[.string ⟨#[47]⟩, .int .i64 1, .int .i64 2, .int .i64 1, .slice none 0 0] 57) :: _) from HS7.out.re 2 [1]).cells
 have f_gr0 : w7.cell? ⟨gr, 0, none⟩ = some (.string ⟨#[47]⟩) := hc_gr 0
 have f_gr1 : w7.cell? ⟨gr, 1, none⟩ = some (.int .i64 1) := hc_gr 1
 have f_gr2 : w7.cell? ⟨gr, 2, none⟩ = some (.int .i64 2) := hc_gr 2
 have f_gr3 : w7.cell? ⟨gr, 3, none⟩ = some (.int .i64 1) := hc_gr 3
 have f_gr4 : w7.cell? ⟨gr, 4, none⟩ = some (.slice none 0 0) := hc_gr 4
 clear hc_gr
 have hc_gg := (show Has w7 (pt gg (.cells #[.string ⟨#[47, 103]⟩, .int .i64 6, .int .i64 2, .int .i64 1, .slice none 0 0] 57) :: _) from HS7.out.re 3 [2]).cells
 have f_gg0 : w7.cell? ⟨gg, 0, none⟩ = some (.string ⟨#[47, 103]⟩) := hc_gg 0
 have f_gg1 : w7.cell? ⟨gg, 1, none⟩ = some (.int .i64 6) := hc_gg 1
 have f_gg2 : w7.cell? ⟨gg, 2, none⟩ = some (.int .i64 2) := hc_gg 2
 have f_gg3 : w7.cell? ⟨gg, 3, none⟩ = some (.int .i64 1) := hc_gg 3
 have f_gg4 : w7.cell? ⟨gg, 4, none⟩ = some (.slice none 0 0) := hc_gg 4
 clear hc_gg
 have hc_gf := (show Has w7 (pt gf (.cells #[.string ⟨#[47, 102]⟩, .int .i64 5, .int .i64 1, .int .i64 1, .slice none 0 0] 57) :: _) from HS7.out.re 4 [3]).cells
 have f_gf0 : w7.cell? ⟨gf, 0, none⟩ = some (.string ⟨#[47, 102]⟩) := hc_gf 0
 have f_gf1 : w7.cell? ⟨gf, 1, none⟩ = some (.int .i64 5) := hc_gf 1
 have f_gf2 : w7.cell? ⟨gf, 2, none⟩ = some (.int .i64 1) := hc_gf 2
 have f_gf3 : w7.cell? ⟨gf, 3, none⟩ = some (.int .i64 1) := hc_gf 3
 have f_gf4 : w7.cell? ⟨gf, 4, none⟩ = some (.slice none 0 0) := hc_gf 4
 clear hc_gf
 go_wp2_with fail
 refine (stepAllows q _ un5F 4 [(⟨[47], 1, 2, 1, nilV, []⟩ : Nv), (⟨[47, 103], 6, 2, 1, nilV, []⟩ : Nv), (⟨[47, 102], 5, 1, 1, nilV, []⟩ : Nv)] #[.string ⟨#[47]⟩, .int .i64 1, .int .i64 2, .int .i64 1, .slice none 0 0, .string ⟨#[47, 103]⟩, .int .i64 6, .int .i64 2, .int .i64 1, .slice none 0 0, .string ⟨#[47, 102]⟩, .int .i64 5, .int .i64 1, .int .i64 1, .slice none 0 0] _ (pt gr (.cells #[.string ⟨#[47]⟩, .int .i64 1, .int .i64 2, .int .i64 1, .slice none 0 0] 57) :: pt gg (.cells #[.string ⟨#[47, 103]⟩, .int .i64 6, .int .i64 2, .int .i64 1, .slice none 0 0] 57) :: pt gf (.cells #[.string ⟨#[47, 102]⟩, .int .i64 5, .int .i64 1, .int .i64 1, .slice none 0 0] 57) :: pt gk (.cells #[.string ⟨#[47, 104]⟩, .int .i64 5, .int .i64 1, .int .i64 1, .slice none 0 0] 57) :: L) un5F_st.hgo (by omega) rfl (by decide) (nv_ok (by decide) (by intro x hx; simp only [List.mem_cons, List.not_mem_nil, or_false] at hx; rcases hx with rfl | rfl | rfl <;> rfl)) (HS7.out.alloc (.cells #[.string ⟨#[47]⟩, .int .i64 1, .int .i64 2, .int .i64 1, .slice none 0 0, .string ⟨#[47, 103]⟩, .int .i64 6, .int .i64 2, .int .i64 1, .slice none 0 0, .string ⟨#[47, 102]⟩, .int .i64 5, .int .i64 1, .int .i64 1, .slice none 0 0] 57))).mono ?_
 rintro e w8 ⟨rfl, h8, k8⟩
 have HS8 := hid h8
 have HK8 := hid ((HK7.out.alloc (.cells #[.string ⟨#[47]⟩, .int .i64 1, .int .i64 2, .int .i64 1, .slice none 0 0, .string ⟨#[47, 103]⟩, .int .i64 6, .int .i64 2, .int .i64 1, .slice none 0 0, .string ⟨#[47, 102]⟩, .int .i64 5, .int .i64 1, .int .i64 1, .slice none 0 0] 57)).trans k8)
 clear h8 k8 HS7 HK7 f_gr0 f_gr1 f_gr2 f_gr3 f_gr4 f_gg0 f_gg1 f_gg2 f_gg3 f_gg4 f_gf0 f_gf1 f_gf2 f_gf3 f_gf4
 rw [uv13]
 try dsimp only
 have hc_gr := (show Has w8 (pt gr (.cells #[.string ⟨#[47]⟩, .int .i64 1, .int .i64 2, .int .i64 1, .slice none 0 0] 57) :: _) from HS8.out.re 2 [1]).cells
 have f_gr0 : w8.cell? ⟨gr, 0, none⟩ = some (.string ⟨#[47]⟩) := hc_gr 0
 have f_gr1 : w8.cell? ⟨gr, 1, none⟩ = some (.int .i64 1) := hc_gr 1
 have f_gr2 : w8.cell? ⟨gr, 2, none⟩ = some (.int .i64 2) := hc_gr 2
 have f_gr3 : w8.cell? ⟨gr, 3, none⟩ = some (.int .i64 1) := hc_gr 3
 have f_gr4 : w8.cell? ⟨gr, 4, none⟩ = some (.slice none 0 0) := hc_gr 4
 clear hc_gr
 have hc_gf := (show Has w8 (pt gf (.cells #[.string ⟨#[47, 102]⟩, .int .i64 5, .int .i64 1, .int .i64 1, .slice none 0 0] 57) :: _) from HS8.out.re 4 [3]).cells
 have f_gf0 : w8.cell? ⟨gf, 0, none⟩ = some (.string ⟨#[47, 102]⟩) := hc_gf 0
 have f_gf1 : w8.cell? ⟨gf, 1, none⟩ = some (.int .i64 5) := hc_gf 1
 have f_gf2 : w8.cell? ⟨gf, 2, none⟩ = some (.int .i64 1) := hc_gf 2
 have f_gf3 : w8.cell? ⟨gf, 3, none⟩ = some (.int .i64 1) := hc_gf 3
 have f_gf4 : w8.cell? ⟨gf, 4, none⟩ = some (.slice none 0 0) := hc_gf 4
 clear hc_gf
 go_wp2_with fail
 refine (stepAllows q _ un5F 4 [(⟨[47], 1, 2, 1, nilV, []⟩ : Nv), (⟨[47, 102], 5, 1, 1, nilV, []⟩ : Nv)] #[.string ⟨#[47]⟩, .int .i64 1, .int .i64 2, .int .i64 1, .slice none 0 0, .string ⟨#[47, 102]⟩, .int .i64 5, .int .i64 1, .int .i64 1, .slice none 0 0] _ (pt gr (.cells #[.string ⟨#[47]⟩, .int .i64 1, .int .i64 2, .int .i64 1, .slice none 0 0] 57) :: pt gg (.cells #[.string ⟨#[47, 103]⟩, .int .i64 6, .int .i64 2, .int .i64 1, .slice none 0 0] 57) :: pt gf (.cells #[.string ⟨#[47, 102]⟩, .int .i64 5, .int .i64 1, .int .i64 1, .slice none 0 0] 57) :: pt gk (.cells #[.string ⟨#[47, 104]⟩, .int .i64 5, .int .i64 1, .int .i64 1, .slice none 0 0] 57) :: L) un5F_st.hgo (by omega) rfl (by decide) (nv_ok (by decide) (by intro x hx; simp only [List.mem_cons, List.not_mem_nil, or_false] at hx; rcases hx with rfl | rfl <;> rfl)) (HS8.out.alloc (.cells #[.string ⟨#[47]⟩, .int .i64 1, .int .i64 2, .int .i64 1, .slice none 0 0, .string ⟨#[47, 102]⟩, .int .i64 5, .int .i64 1, .int .i64 1, .slice none 0 0] 57))).mono ?_
 rintro e w9 ⟨rfl, h9, k9⟩
 have HS9 := hid h9
 have HK9 := hid ((HK8.out.alloc (.cells #[.string ⟨#[47]⟩, .int .i64 1, .int .i64 2, .int .i64 1, .slice none 0 0, .string ⟨#[47, 102]⟩, .int .i64 5, .int .i64 1, .int .i64 1, .slice none 0 0] 57)).trans k9)
 clear h9 k9 HS8 HK8 f_gr0 f_gr1 f_gr2 f_gr3 f_gr4 f_gf0 f_gf1 f_gf2 f_gf3 f_gf4
 rw [uv14]
 try dsimp only
 have hc_gr := (show Has w9 (pt gr (.cells #[.string ⟨#[47]⟩, .int .i64 1, .int .i64 2, .int .i64 1, .slice none 0 0] 57) :: _) from HS9.out.re 2 [1]).cells
 have f_gr0 : w9.cell? ⟨gr, 0, none⟩ = some (.string ⟨#[47]⟩) := hc_gr 0
 have f_gr1 : w9.cell? ⟨gr, 1, none⟩ = some (.int .i64 1) := hc_gr 1
 have f_gr2 : w9.cell? ⟨gr, 2, none⟩ = some (.int .i64 2) := hc_gr 2
 have f_gr3 : w9.cell? ⟨gr, 3, none⟩ = some (.int .i64 1) := hc_gr 3
 have f_gr4 : w9.cell? ⟨gr, 4, none⟩ = some (.slice none 0 0) := hc_gr 4
 clear hc_gr
 have hc_gg := (show Has w9 (pt gg (.cells #[.string ⟨#[47, 103]⟩, .int .i64 6, .int .i64 2, .int .i64 1, .slice none 0 0] 57) :: _) from HS9.out.re 3 [2]).cells
 have f_gg0 : w9.cell? ⟨gg, 0, none⟩ = some (.string ⟨#[47, 103]⟩) := hc_gg 0
 have f_gg1 : w9.cell? ⟨gg, 1, none⟩ = some (.int .i64 6) := hc_gg 1
 have f_gg2 : w9.cell? ⟨gg, 2, none⟩ = some (.int .i64 2) := hc_gg 2
 have f_gg3 : w9.cell? ⟨gg, 3, none⟩ = some (.int .i64 1) := hc_gg 3
 have f_gg4 : w9.cell? ⟨gg, 4, none⟩ = some (.slice none 0 0) := hc_gg 4
 clear hc_gg
 have hc_gk := (show Has w9 (pt gk (.cells #[.string ⟨#[47, 104]⟩, .int .i64 5, .int .i64 1, .int .i64 1, .slice none 0 0] 57) :: _) from HS9.out.re 5 [4]).cells
 have f_gk0 : w9.cell? ⟨gk, 0, none⟩ = some (.string ⟨#[47, 104]⟩) := hc_gk 0
 have f_gk1 : w9.cell? ⟨gk, 1, none⟩ = some (.int .i64 5) := hc_gk 1
 have f_gk2 : w9.cell? ⟨gk, 2, none⟩ = some (.int .i64 1) := hc_gk 2
 have f_gk3 : w9.cell? ⟨gk, 3, none⟩ = some (.int .i64 1) := hc_gk 3
 have f_gk4 : w9.cell? ⟨gk, 4, none⟩ = some (.slice none 0 0) := hc_gk 4
 clear hc_gk
 go_wp2_with fail
 refine (stepAllows q _ un5F 4 [(⟨[47], 1, 2, 1, nilV, []⟩ : Nv), (⟨[47, 103], 6, 2, 1, nilV, []⟩ : Nv), (⟨[47, 104], 5, 1, 1, nilV, []⟩ : Nv)] #[.string ⟨#[47]⟩, .int .i64 1, .int .i64 2, .int .i64 1, .slice none 0 0, .string ⟨#[47, 103]⟩, .int .i64 6, .int .i64 2, .int .i64 1, .slice none 0 0, .string ⟨#[47, 104]⟩, .int .i64 5, .int .i64 1, .int .i64 1, .slice none 0 0] _ (pt gr (.cells #[.string ⟨#[47]⟩, .int .i64 1, .int .i64 2, .int .i64 1, .slice none 0 0] 57) :: pt gg (.cells #[.string ⟨#[47, 103]⟩, .int .i64 6, .int .i64 2, .int .i64 1, .slice none 0 0] 57) :: pt gf (.cells #[.string ⟨#[47, 102]⟩, .int .i64 5, .int .i64 1, .int .i64 1, .slice none 0 0] 57) :: pt gk (.cells #[.string ⟨#[47, 104]⟩, .int .i64 5, .int .i64 1, .int .i64 1, .slice none 0 0] 57) :: L) un5F_st.hgo (by omega) rfl (by decide) (nv_ok (by decide) (by intro x hx; simp only [List.mem_cons, List.not_mem_nil, or_false] at hx; rcases hx with rfl | rfl | rfl <;> rfl)) (HS9.out.alloc (.cells #[.string ⟨#[47]⟩, .int .i64 1, .int .i64 2, .int .i64 1, .slice none 0 0, .string ⟨#[47, 103]⟩, .int .i64 6, .int .i64 2, .int .i64 1, .slice none 0 0, .string ⟨#[47, 104]⟩, .int .i64 5, .int .i64 1, .int .i64 1, .slice none 0 0] 57))).mono ?_
 rintro e w10 ⟨rfl, h10, k10⟩
 have HS10 := hid h10
 have HK10 := hid ((HK9.out.alloc (.cells #[.string ⟨#[47]⟩, .int .i64 1, .int .i64 2, .int .i64 1, .slice none 0 0, .string ⟨#[47, 103]⟩, .int .i64 6, .int .i64 2, .int .i64 1, .slice none 0 0, .string ⟨#[47, 104]⟩, .int .i64 5, .int .i64 1, .int .i64 1, .slice none 0 0] 57)).trans k10)
 clear h10 k10 HS9 HK9 f_gr0 f_gr1 f_gr2 f_gr3 f_gr4 f_gg0 f_gg1 f_gg2 f_gg3 f_gg4 f_gk0 f_gk1 f_gk2 f_gk3 f_gk4
 rw [uv15]
 try dsimp only
 go_wp2_with fail
 refine (awake24 mx w10 _ ((((HM.out.cons _).cons _).cons _).cons _) HS10.out.drop).mono ?_
 rintro e wz ⟨rfl, hz, kz⟩
 have HSZ := hid hz
 have HKZ := hid (HK10.out.trans kz)
 clear hz kz HS10 HK10
 try dsimp only
 go_wp2_with fail
 go_ret
 exact ⟨rfl, HSZ.out.re 4 [], HKZ.out⟩
theorem unlinkWalk (mx : Int) (two sync : Bool) (W : World) (hmx : W.cell? ⟨0, 0, none⟩ = some (.int .i64 mx)) :
  Calls Tryz.prog 6 #[.bool two, .bool sync] W fun e w' => e = .returned (.bool true) ∧ Below W.heap.size W w' := by
 have H : Calls Tryz.prog 6 #[.bool two, .bool sync] W fun e w' => e = .returned (.bool true) ∧ Has w' [old W] ∧ Keep W w' := by
  cases two <;> cases sync
  ·exact unlinkF mx W [old W] (mxStart hmx) (Has.start W)
  ·exact unlinkFS mx W [old W] (mxStart hmx) (Has.start W)
  ·exact unlinkT mx W [old W] (mxStart hmx) (Has.start W)
  ·exact unlinkTS mx W [old W] (mxStart hmx) (Has.start W)
 refine H.mono ?_
 rintro e w' ⟨rfl, h1, h2⟩
 exact ⟨rfl, h1.below h2.os h2.tape h2.output⟩
end Go.Proofs.YtmgpgbfgemebbaaGreatDoor
namespace Go.Proofs.YtmgpgbfgemebbaaGreatDoor
open Go.ChangeShapes Go.WideShapes Go.ChangeAt Go.RowKit
variable {H : Type} {enc : TypeId × Value → H}
theorem handed_and_shaped {a : Assume} {C : Checked} {os : Os} {f : FuncId} {fn : Func} {s : ChangeSpec} {conds : List PathCond} {apart fresh handsOn again : Bool} {X : World → Array Value → Prop}
  (hX : ∀ (w w' : World) (args : Array Value), w.heap = w'.heap → X w args → X w' args)
  (own : ownKnob C.prog.godebug = none) (started : os.Started) (noInit : C.prog.inits.idxOf? f = none) (hfn : C.prog.funcs[f]? = some fn)
  (witness : ∃ (w : World) (tape : Tape) (i : Input), w.os = os ∧ (w.forCall tape i).Shaped C.prog ∧ i.vars = [] ∧ Input.okWide C.prog (w.forCall tape i) .any w.heap.size f i ∧
   ((s.pre enc C.prog fn conds apart (w.forCall tape i).memory i.args ∧ X (w.forCall tape i).memory i.args) ∧ sizedMet enc C.prog fn (OpenSpec.ofChange s) apart (w.forCall tape i).memory i.args) ∧ a.holds C.prog (lone (Frame.enter C.prog f i.args .normal) [] (w.forCall tape i)))
  (contract : ∀ (W : World) (base : Nat) (args : Array Value) (ds gs : List (DataW H)) (before : List MemPlace),
   (∀ (j : Nat) t v, fn.params[j]? = some t → args[j]? = some v → Value.okWide C.prog W .any base t v) →
   DataW.Whole enc C.prog fn.params.toList s.vars apart W args.toList ds gs before →
   conds.all (PathCond.test C.prog ⟨fn.params.toList, ds, s.plain.varTypes C.prog, gs⟩) = true →
   (DataW.weightsEach C.prog (fn.params.toList ++ s.plain.varTypes C.prog) (ds ++ gs)).all (· ≤ reachBytes) = true → X W args → W.ShapedOpen C.prog →
   a.holds C.prog (lone (Frame.enter C.prog f args .normal) [] W) →
   Calls C.prog f args W fun e W' => ∃ v, e = .returned v ∧ s.post enc C.prog fn apart fresh handsOn again W args v W') :
  ReturnsInHanded a C os f .any (fun w args => (s.pre enc C.prog fn conds apart w args ∧ X w args) ∧ sizedMet enc C.prog fn (OpenSpec.ofChange s) apart w args) (s.post enc C.prog fn apart fresh handsOn again) := by
 refine returnsInHanded_of_calls own started noInit witness ?_
 intro w tape i _ hsh _ hok hpre hholds
 obtain ⟨_, _, _, fn', hfn', _, _, _, _, hval⟩ := hok
 have e : fn' = fn := Option.some.inj (hfn'.symm.trans hfn)
 subst e
 obtain ⟨⟨⟨ds, gs, before, hw, hc⟩, hx⟩, hz⟩ := hpre
 have hw' := DataW.Whole.of_heap (w' := w.forCall tape i) (by rfl) hw
 refine (contract (w.forCall tape i) w.heap.size i.args ds gs before hval hw' hc (hz.weights hw) (hX _ _ _ (by rfl) hx) hsh hholds).mono fun e W' ⟨v, he, hp⟩ => ?_
 subst he
 exact ChangeSpec.post_blind hp
theorem mx_shaped {W : World} (h : W.ShapedOpen Tryz.prog) : ∃ m, W.cell? ⟨0, 0, none⟩ = some (.int .i64 m) :=
 cell_of_shapedOpen_int (P := Tryz.prog) (g := 0) (t := 3) (zero := #[.int .i64 0]) h (of_decide_eq_true (by kernel_rfl)) (by kernel_rfl) rfl (by kernel_rfl) (by kernel_rfl) Tryz.underlying3
end Go.Proofs.YtmgpgbfgemebbaaGreatDoor
