/- TEXTS of mine, merged. -/
import Derived.Test.YtmgpgbfgemebbaaGreatDoorM18
set_option linter.all false
namespace Go.Proofs.YtmgpgbfgemebbaaGreatDoor
open Go.RowKit Go.Own
def holdK (F : Fil) (ds : List Int) (k : Nat) : Bool := ((fnd F.blocks (k : Int)).getD [zsS]).any fun b => (strOf ((ds.drop (k * 128)).take 128)).isPrefixOf b
def Fil.holds (F : Fil) (ds : List Int) : Bool := decide ((ds.length : Int) ∈ F.sizes) && (List.range (needM ds.length)).all (holdK F ds)
theorem need_low {n k : Nat} (h : k < needM n) : k * 128 < n := by
 unfold needM at h
 split at h <;> omega
theorem hold_any {hs : List (Value × List Int)} {bl : List Str} (h : hs.map (fun x => strOf x.2) = bl) (t : Str) : (hs.any fun x => t.isPrefixOf (strOf x.2)) = bl.any fun b => t.isPrefixOf b := by
 rw [← h, List.any_map]; rfl
theorem take_len (l : List Int) (n : Nat) : l.take (l.take n).length = l.take n := by
 rw [List.length_take]
 rcases Nat.le_total n l.length with h | h
 ·rw [Nat.min_eq_left h]
 ·rw [Nat.min_eq_right h, List.take_of_length_le (Nat.le_refl _), List.take_of_length_le h]
open Classical in
theorem pmD1 (A B M S : HP) (Z Z0 L : List HP) (h : Z.Perm (S :: Z0)) : (A :: B :: M :: (Z ++ L)).Perm (A :: B :: M :: S :: (Z0 ++ L)) := by
 refine List.perm_iff_count.2 fun x => ?_
 have e1 := h.count_eq x
 simp only [List.count_append, List.count_cons] at *
 omega
set_option maxRecDepth 100000 in
set_option maxHeartbeats 8000000 in
theorem mHolds (b : Nat) (F : Fil) (v : Value) (ds : List Int) (K : Nat) (w : World) (L : List HP) (hF : FilOk F K) (hK : K ≤ 100000) (hds : ds.length ≤ 100000) (hrd : ∀ w', Has w' L → Rd w' v 1 ds.length (bc ds)) (hO : Has w (FilC b F :: L)) :
  Calls Tryz.prog 159 #[.pointer (some ⟨b, 0, none⟩), v] w fun e w' => e = .returned (.bool (F.holds ds)) ∧ Has w' (FilC b F :: L) ∧ Keep w w' := by
 obtain ⟨sv, mb, hO1⟩ := filC_iff.1 hO
 obtain ⟨ps, cs, rfl, -⟩ := (Has.rdF hO1.p1).form
 obtain ⟨pv, cv, rfl, hcv, -⟩ := (hrd w hO1.drop.drop.drop).form
 have HCT := hid (mContainsI (.slice ps F.sizes.length cs) F.sizes (ds.length : Int) w (Has.rdF hO1.p1) (by have := hF.szl; omega))
 have hc2 : w.cell? ⟨b, 2, none⟩ = some (.slice ps F.sizes.length cs) := hO1.cells 2
 have HO := hid hO1
 have HF := hid hF
 have HRD := hid hrd
 have HK0 := hid hK
 have hdi : (ds.length : Int) ≤ 100000 := by omega
 have hdc : ds.length ≤ cv := hcv
 have hdci : (ds.length : Int) ≤ (cv : Int) := by omega
 have hnil := fun (w : World) (a : Option Addr) (n c : Nat) => Lib.run_eql_slice_nil (P := Tryz.prog) w 259 31 a n c 0 0 Tryz.underlying259
 clear hO hO1 hF hrd hK hcv
 by_cases hm : (ds.length : Int) ∈ F.sizes
 ·have HR := hid (show F.holds ds = (List.range (needM ds.length)).all (holdK F ds) from by unfold Fil.holds; rw [decide_eq_true hm]; rfl)
  have HDC := hid (show ∀ inst : Decidable ((ds.length : Int) ∈ F.sizes), @decide _ inst = true from fun _ => decide_eq_true hm)
  clear hm
  have HND := hid (nNeed ds.length w (by omega))
  have HN162 := hid (needM_162' ds.length)
  have HLOW := hid (fun k (h : k < needM ds.length) => need_low h)
  obtain ⟨N, hN⟩ : ∃ N, needM ds.length = N := ⟨_, rfl⟩
  rw [hN] at HND HN162 HLOW HR
  clear hN
  go_enter Tryz.func159, Tryz.ntmps159
  go_wp2_with fail
  refine HCT.out.mono ?_
  rintro e w' ⟨rfl, rfl⟩
  rw [HDC.out]
  try dsimp only
  go_wp2_with fail
  refine HND.out.mono ?_
  rintro e w' ⟨rfl, rfl⟩
  try dsimp only
  have hN : (N : Int) ≤ 162 := by have := HN162.out; omega
  have HK := hid (Keep.refl w)
  clear HND HCT hc2 HDC
  go_wp2_with fail
  go_loopw [19] (fun i wx => ∃ (k : Nat) (w1 : World), w1 = wx ∧ k ≤ N ∧ i = .int .i64 k ∧ Hid (∀ j, j < k → holdK F ds j = true) ∧ Hid (Has w1 (pt b (.cells #[.int .i64 F.kind, sV F.target, .slice ps F.sizes.length cs, .map (some mb)] 216) :: rowF (.slice ps F.sizes.length cs) 3 F.sizes.length (ic F.sizes) :: Zm kInt vSB mb (fun s ls => Blk (slvV s) ls) F.blocks :: L)) ∧ Hid (Keep w w1)) (fun i _ => N - (intOf i).toNat)
  case atStart => exact ⟨0, w, by trivial, by omega, rfl, hid (by omega), HO, HK⟩
  case round =>
   obtain ⟨k, w1, rfl, hk, rfl, HH, HO3, HK3⟩ := hrel
   clear HO HK
   by_cases hlt : k < N
   ·have hki : (k : Int) < (N : Int) := by omega
    have hk0 : (0 : Int) ≤ (k : Int) := by omega
    have HLT := hid hlt
    have hk162 : k < 162 := by have := HN162.out; omega
    have hwf : (Lit.int .i64 (k : Int)).wf = true := wf_small (k : Int) (by omega) (by omega)
    have HLO := hid (HLOW.out k hlt)
    obtain ⟨X, hX, h4⟩ := fw_in.1 HO3.out
    have hnd : (X.map Prod.fst).Nodup := by have h1 := Mk.nodup h4.p2; rw [zH_keys] at h1; exact h1
    have hlook := Mk.look0 h4.p2 undBm hwf
    obtain ⟨X0, hcase, -⟩ := z_zip (fun s ls => Blk (slvV s) ls) X (k : Int) hnd
    have hcb : w1.cell? ⟨b, 3, none⟩ = some (.map (some mb)) := h4.cells 3
    rw [hX] at hcase
    clear hnd hlt hk hwf
    rcases hcase with ⟨h1, h2, h30⟩ | ⟨s, ls, h1, h2, h3⟩
    ·rw [h2] at hlook
     have hl0 : (Instr.lookup tBm (.map (some mb)) (.int .i64 (k : Int)) false).run Tryz.prog w1 = .ok (.slice none 0 0) w1 := hlook
     have HHB := hid (show (fnd F.blocks (k : Int)).getD [zsS] = [zsS] from by rw [h1]; rfl)
     have HP0 := hid (show Calls Tryz.prog 213 #[.slice none 0 0, .int .i64 0] w1 _ from mPart (.slice none 0 0) [] 0 w1 _ (by omega) (by simp) (fun w' h' => Bytes.rd (h'.row_nil _ _)) HO3.out)
     clear hlook h1 h2 h30 h4 hX
     go_wp2_with fail
     refine HP0.out.mono ?_
     rintro e w5 ⟨g5, c5, rfl, h5, k5⟩
     have HO5 := hid (h5.alloc (.cells #[.slice (some ⟨g5, 0, none⟩) 128 c5] 31))
     have HK5 := hid ((HK3.out.trans k5).alloc (.cells #[.slice (some ⟨g5, 0, none⟩) 128 c5] 31))
     clear h5 k5 HP0
     try dsimp only
     have HPL := hid (show [((.slice (some ⟨g5, 0, none⟩) 128 c5 : Value), partM [] 0)].map (fun x => strOf x.2) = (fnd F.blocks (k : Int)).getD [zsS] from by rw [HHB.out]; rfl)
     have HO6 := hid (show Has (w5.alloc (.cells #[.slice (some ⟨g5, 0, none⟩) 128 c5] 31)) (rowF (.slice (some ⟨w5.heap.size, 0, none⟩) [((.slice (some ⟨g5, 0, none⟩) 128 c5 : Value), partM [] 0)].length 1) 31 [((.slice (some ⟨g5, 0, none⟩) 128 c5 : Value), partM [] 0)].length ([((.slice (some ⟨g5, 0, none⟩) 128 c5 : Value), partM [] 0)].map Prod.fst) :: poolc 5 [((.slice (some ⟨g5, 0, none⟩) 128 c5 : Value), partM [] 0)] :: pt b (.cells #[.int .i64 F.kind, sV F.target, .slice ps F.sizes.length cs, .map (some mb)] 216) :: rowF (.slice ps F.sizes.length cs) 3 F.sizes.length (ic F.sizes) :: Zm kInt vSB mb (fun s ls => Blk (slvV s) ls) F.blocks :: L) from by
      have h6 : Has _ (rowF (.slice (some ⟨w5.heap.size, 0, none⟩) 1 1) 31 1 [.slice (some ⟨g5, 0, none⟩) 128 c5] :: _) := HO5.out.rowF_of (by decide) (by decide) rfl rfl rfl
      exact ((Has.pool_nil (u8 := 5) (h6.p1)).pool_add_of).p1)
     have HRS := hid (fun (w' : World) (h : Has w' (rowF (.slice (some ⟨w5.heap.size, 0, none⟩) [((.slice (some ⟨g5, 0, none⟩) 128 c5 : Value), partM [] 0)].length 1) 31 [((.slice (some ⟨g5, 0, none⟩) 128 c5 : Value), partM [] 0)].length ([((.slice (some ⟨g5, 0, none⟩) 128 c5 : Value), partM [] 0)].map Prod.fst) :: poolc 5 [((.slice (some ⟨g5, 0, none⟩) 128 c5 : Value), partM [] 0)] :: pt b (.cells #[.int .i64 F.kind, sV F.target, .slice ps F.sizes.length cs, .map (some mb)] 216) :: rowF (.slice ps F.sizes.length cs) 3 F.sizes.length (ic F.sizes) :: Zm kInt vSB mb (fun s ls => Blk (slvV s) ls) F.blocks :: L)) => h.drop.drop)
     go_upto_region 9 with fail
     generalize w5.alloc (.cells #[.slice (some ⟨g5, 0, none⟩) 128 c5] 31) = w2 at *
     generalize w5.heap.size = g6 at *
     have hl1 : [((.slice (some ⟨g5, 0, none⟩) 128 c5 : Value), partM [] 0)].length = 1 := rfl
     have hl2 : (([((.slice (some ⟨g5, 0, none⟩) 128 c5 : Value), partM [] 0)].length : Nat) : Int) ≤ 1000000 := by simp
     generalize [((.slice (some ⟨g5, 0, none⟩) 128 c5 : Value), partM [] 0)] = hs at *
     rw [show Value.slice (some ⟨g6, 0, none⟩) 1 1 = .slice (some ⟨g6, 0, none⟩) hs.length 1 from by rw [hl1]]
     clear hl1 HO5 hcb hl0
     obtain ⟨lv, hlv⟩ : ∃ lv, Value.slice (some ⟨g6, 0, none⟩) hs.length 1 = lv := ⟨_, rfl⟩
     rw [hlv] at HO6 HRS ⊢
     clear hlv
     have hk1 : (k : Int) * 128 ≤ (ds.length : Int) := by have := HLO.out; omega
     have hk2 : (0 : Int) ≤ (k : Int) * 128 := by omega
     go_upto_region 10 with fail
     obtain ⟨ys, hys⟩ : ∃ ys, (ds.drop (k * 128)).take 128 = ys := ⟨_, rfl⟩
     have hyl : (min (((k : Int) + 1) * 128) (ds.length : Int)).toNat - k * 128 = ys.length := by rw [← hys, List.length_take, List.length_drop]; have := HLO.out; omega
     rw [hyl]
     have HRY := hid (fun (w' : World) (h : Has w' (rowF lv 31 hs.length (hs.map Prod.fst) :: poolc 5 hs :: pt b (.cells #[.int .i64 F.kind, sV F.target, .slice ps F.sizes.length cs, .map (some mb)] 216) :: rowF (.slice ps F.sizes.length cs) 3 F.sizes.length (ic F.sizes) :: Zm kInt vSB mb (fun s ls => Blk (slvV s) ls) F.blocks :: L)) => (show Rd w' (.slice (if cv = k * 128 then pv else Option.map (fun x => x.add (k * 128)) pv) ys.length (cv - k * 128)) 1 ys.length (bc ys) from by
      have h1 := (HRD.out w' (HRS.out w' h).drop.drop.drop).dropS (k * 128) (by have := HLO.out; omega)
      have h2 := h1.takeS ys.length (by rw [← hys, List.length_take, List.length_drop]; exact Nat.min_le_right _ _)
      rw [Nat.mul_one, Nat.mul_one] at h2
      have e : ((bc ds).drop (k * 128)).take ys.length = bc ys := by
       have e1 : ys = (ds.drop (k * 128)).take ys.length := by
        rw [← hys]; exact (take_len _ _).symm
       rw [show (bc ds).drop (k * 128) = bc (ds.drop (k * 128)) from (List.map_drop ..).symm, show (bc (ds.drop (k * 128))).take ys.length = bc ((ds.drop (k * 128)).take ys.length) from (List.map_take ..).symm, ← e1]
      rw [e] at h2
      exact h2))
     have HKK := hid (show holdK F ds k = hs.any fun x => (strOf ys).isPrefixOf (strOf x.2) from by unfold holdK; rw [hys]; exact (hold_any HPL.out _).symm)
     clear hys hyl hk1 hk2
     generalize (Value.slice (if cv = k * 128 then pv else Option.map (fun x => x.add (k * 128)) pv) ys.length (cv - k * 128)) = sm at *
     have HO7 := hid (HO6.out.alloc (.cells #[sm] 31))
     have HK7 := hid (HK5.out.alloc (.cells #[sm] 31))
     generalize w2.alloc (.cells #[sm] 31) = w3 at *
     generalize w2.heap.size = g7 at *
     have HCF := hid (mContainsFB lv sm hs ys g7 w3 (by omega) (Has.rdF HO7.out.p1) (fun x hx => HO7.out.p2.pool_rd hx) (HRY.out w3 HO7.out.drop) (HO7.out.cells 0))
     rw [← HKK.out] at HCF
     have HO8 := hid (HRS.out w3 HO7.out.drop)
     clear HO6 HO7 HK5 HRY HRS
     go_wp2_with fail
     refine HCF.out.mono ?_
     rintro e w' ⟨rfl, rfl⟩
     try dsimp only
     obtain ⟨r, hr⟩ : ∃ r, holdK F ds k = r := ⟨_, rfl⟩
     rw [hr]
     have HRR := hid hr
     clear hr HCF HKK
     cases r with
     | true =>
      go_wp2_with fail
      refine ⟨⟨k + 1, w3, by trivial, by have := HLT.out; omega, by go_num, hid fun j hj => ?_, HO8, HK7⟩, by have := HLT.out; simp [intOf]; omega⟩
      by_cases hjk : j = k
      ·subst hjk; exact HRR.out
      ·exact HH.out j (by omega)
     | false =>
      have HALL := hid (show (List.range N).all (holdK F ds) = false from by
       rw [List.all_eq_false]
       exact ⟨k, List.mem_range.2 HLT.out, by rw [HRR.out]; decide⟩)
      go_wp2_with fail
      go_ret
      rw [HR.out, HALL.out]
      exact ⟨rfl, filC_iff.2 ⟨_, mb, HO8.out⟩, HK7.out⟩
    ·have hll := HF.out.bl _ (fnd_some h1)
     obtain ⟨s2, hs2, hsp⟩ := Blk.form (show Has w1 (Blk (slvV s) ls :: _) from (h4.perm (pmD1 _ _ _ _ _ _ _ h3)).p3) hll.1
     rw [h2] at hlook
     have hl9 : (Instr.lookup tBm (.map (some mb)) (.int .i64 (k : Int)) false).run Tryz.prog w1 = .ok (slvV s2) w1 := by rw [← hs2]; exact hlook
     have h5 := (h4.perm (pmD1 _ _ _ _ _ _ _ h3)).p3
     obtain ⟨hs, hh, h6⟩ := blk_iff.1 h5
     rw [hs2] at h6
     have hlen : ls.length = hs.length := by rw [← hh, List.length_map]
     rw [hlen] at h6
     have HPL := hid (show hs.map (fun x => strOf x.2) = (fnd F.blocks (k : Int)).getD [zsS] from by rw [h1]; exact hh)
     obtain ⟨p2, n2, c2⟩ := s2
     obtain ⟨⟨g2, o2⟩, rfl⟩ : ∃ z, p2 = some z := by cases p2 with | none => exact absurd rfl hsp | some z => exact ⟨z, rfl⟩
     obtain rfl : n2 = hs.length := by
      obtain ⟨p9, c9, e9, -⟩ := (Has.rdF h6).form
      simp only [slvV, Value.slice.injEq] at e9
      exact e9.2.1
     have hl2 : (hs.length : Int) ≤ 1000000 := by have h9 : ls.length ≤ K := hll.2; have := HK0.out; omega
     have hl0 : (Instr.lookup tBm (.map (some mb)) (.int .i64 (k : Int)) false).run Tryz.prog w1 = .ok (.slice (some ⟨g2, o2, none⟩) hs.length c2) w1 := hl9
     have HO6 := hid (show Has w1 (rowF (.slice (some ⟨g2, o2, none⟩) hs.length c2) 31 hs.length (hs.map Prod.fst) :: poolc 5 hs :: pt b (.cells #[.int .i64 F.kind, sV F.target, .slice ps F.sizes.length cs, .map (some mb)] 216) :: rowF (.slice ps F.sizes.length cs) 3 F.sizes.length (ic F.sizes) :: Mk kInt vSB mb (zH X) :: (zC (fun s ls => Blk (slvV s) ls) X0 ++ L)) from h6)
     have HRS := hid (fun (w' : World) (h : Has w' (rowF (.slice (some ⟨g2, o2, none⟩) hs.length c2) 31 hs.length (hs.map Prod.fst) :: poolc 5 hs :: pt b (.cells #[.int .i64 F.kind, sV F.target, .slice ps F.sizes.length cs, .map (some mb)] 216) :: rowF (.slice ps F.sizes.length cs) 3 F.sizes.length (ic F.sizes) :: Mk kInt vSB mb (zH X) :: (zC (fun s ls => Blk (slvV s) ls) X0 ++ L))) => (show Has w' (pt b (.cells #[.int .i64 F.kind, sV F.target, .slice ps F.sizes.length cs, .map (some mb)] 216) :: rowF (.slice ps F.sizes.length cs) 3 F.sizes.length (ic F.sizes) :: Zm kInt vSB mb (fun s ls => Blk (slvV s) ls) F.blocks :: L) from by
      have e1 : Has w' (Blk (slvV s) ls :: _) := blk_iff.2 ⟨hs, hh, by rw [hs2, hlen]; exact h⟩
      exact fw_in.2 ⟨X, hX, (e1.b3).perm (pmD1 _ _ _ _ _ _ _ h3).symm⟩))
     clear hlook h1 h2 h3 h4 h5 h6 hh hlen hll hs2 hsp hX hl9
     go_upto_region 9 with fail
     clear hcb hl0
     obtain ⟨lv, hlv⟩ : ∃ lv, Value.slice (some ⟨g2, o2, none⟩) hs.length c2 = lv := ⟨_, rfl⟩
     rw [hlv] at HO6 HRS ⊢
     clear hlv
     have hk1 : (k : Int) * 128 ≤ (ds.length : Int) := by have := HLO.out; omega
     have hk2 : (0 : Int) ≤ (k : Int) * 128 := by omega
     go_upto_region 10 with fail
     obtain ⟨ys, hys⟩ : ∃ ys, (ds.drop (k * 128)).take 128 = ys := ⟨_, rfl⟩
     have hyl : (min (((k : Int) + 1) * 128) (ds.length : Int)).toNat - k * 128 = ys.length := by rw [← hys, List.length_take, List.length_drop]; have := HLO.out; omega
     rw [hyl]
     have HRY := hid (fun (w' : World) (h : Has w' (rowF lv 31 hs.length (hs.map Prod.fst) :: poolc 5 hs :: pt b (.cells #[.int .i64 F.kind, sV F.target, .slice ps F.sizes.length cs, .map (some mb)] 216) :: rowF (.slice ps F.sizes.length cs) 3 F.sizes.length (ic F.sizes) :: Mk kInt vSB mb (zH X) :: (zC (fun s ls => Blk (slvV s) ls) X0 ++ L))) => (show Rd w' (.slice (if cv = k * 128 then pv else Option.map (fun x => x.add (k * 128)) pv) ys.length (cv - k * 128)) 1 ys.length (bc ys) from by
      have h1 := (HRD.out w' (HRS.out w' h).drop.drop.drop).dropS (k * 128) (by have := HLO.out; omega)
      have h2 := h1.takeS ys.length (by rw [← hys, List.length_take, List.length_drop]; exact Nat.min_le_right _ _)
      rw [Nat.mul_one, Nat.mul_one] at h2
      have e : ((bc ds).drop (k * 128)).take ys.length = bc ys := by
       have e1 : ys = (ds.drop (k * 128)).take ys.length := by
        rw [← hys]; exact (take_len _ _).symm
       rw [show (bc ds).drop (k * 128) = bc (ds.drop (k * 128)) from (List.map_drop ..).symm, show (bc (ds.drop (k * 128))).take ys.length = bc ((ds.drop (k * 128)).take ys.length) from (List.map_take ..).symm, ← e1]
      rw [e] at h2
      exact h2))
     have HKK := hid (show holdK F ds k = hs.any fun x => (strOf ys).isPrefixOf (strOf x.2) from by unfold holdK; rw [hys]; exact (hold_any HPL.out _).symm)
     clear hys hyl hk1 hk2
     generalize (Value.slice (if cv = k * 128 then pv else Option.map (fun x => x.add (k * 128)) pv) ys.length (cv - k * 128)) = sm at *
     have HO7 := hid (HO6.out.alloc (.cells #[sm] 31))
     have HK7 := hid (HK3.out.alloc (.cells #[sm] 31))
     generalize w1.alloc (.cells #[sm] 31) = w3 at *
     generalize w1.heap.size = g7 at *
     have HCF := hid (mContainsFB lv sm hs ys g7 w3 (by omega) (Has.rdF HO7.out.p1) (fun x hx => HO7.out.p2.pool_rd hx) (HRY.out w3 HO7.out.drop) (HO7.out.cells 0))
     rw [← HKK.out] at HCF
     have HO8 := hid (HRS.out w3 HO7.out.drop)
     clear HO6 HO7 HK3 HRY HRS
     go_wp2_with fail
     refine HCF.out.mono ?_
     rintro e w' ⟨rfl, rfl⟩
     try dsimp only
     obtain ⟨r, hr⟩ : ∃ r, holdK F ds k = r := ⟨_, rfl⟩
     rw [hr]
     have HRR := hid hr
     clear hr HCF HKK
     cases r with
     | true =>
      go_wp2_with fail
      refine ⟨⟨k + 1, w3, by trivial, by have := HLT.out; omega, by go_num, hid fun j hj => ?_, HO8, HK7⟩, by have := HLT.out; simp [intOf]; omega⟩
      by_cases hjk : j = k
      ·subst hjk; exact HRR.out
      ·exact HH.out j (by omega)
     | false =>
      have HALL := hid (show (List.range N).all (holdK F ds) = false from by
       rw [List.all_eq_false]
       exact ⟨k, List.mem_range.2 HLT.out, by rw [HRR.out]; decide⟩)
      go_wp2_with fail
      go_ret
      rw [HR.out, HALL.out]
      exact ⟨rfl, filC_iff.2 ⟨_, mb, HO8.out⟩, HK7.out⟩
   ·have hki : ¬ (k : Int) < (N : Int) := by omega
    have HALL := hid (show (List.range N).all (holdK F ds) = true from by
     rw [List.all_eq_true]
     intro j hj
     exact HH.out j (by have := List.mem_range.1 hj; omega))
    clear hlt hk
    go_wp2_with fail
    go_ret
    rw [HR.out, HALL.out]
    exact ⟨rfl, filC_iff.2 ⟨_, mb, HO3.out⟩, HK3.out⟩
 ·have HR := hid (show F.holds ds = false from by unfold Fil.holds; rw [decide_eq_false hm]; rfl)
  have HDC := hid (show ∀ inst : Decidable ((ds.length : Int) ∈ F.sizes), @decide _ inst = false from fun _ => decide_eq_false hm)
  clear hm
  go_enter Tryz.func159, Tryz.ntmps159
  go_wp2_with fail
  refine HCT.out.mono ?_
  rintro e w' ⟨rfl, rfl⟩
  rw [HDC.out]
  try dsimp only
  go_wp2_with fail
  go_ret
  rw [HR.out]
  exact ⟨rfl, filC_iff.2 ⟨_, mb, HO.out⟩, Keep.refl w⟩
end Go.Proofs.YtmgpgbfgemebbaaGreatDoor
namespace Go.Proofs.YtmgpgbfgemebbaaGreatDoor
open Go.RowKit Go.Own
structure Nv where
 path : Str
 num : Int
 kind : Int
 links : Int
 dv : Value
 data : List Int
def nvC (x : Nv) : List Value := [sV x.path, .int .i64 x.num, .int .i64 x.kind, .int .i64 x.links, x.dv]
def nvs (ns : List Nv) : List Value := ns.flatMap nvC
def RdN (w : World) (v : Value) (ns : List Nv) : Prop := Rd w v 5 ns.length (nvs ns) ∧ ∀ x ∈ ns, Rd w x.dv 1 x.data.length (bc x.data)
theorem nvs_at : ∀ (ns : List Nv) (k : Nat) (x : Nv) (j : Nat), ns[k]? = some x → j < 5 → (nvs ns)[k * 5 + j]? = (nvC x)[j]?
 | [], k, x, j, h, _ => by simp at h
 | y :: ns, 0, x, j, h, hj => by
  simp only [List.getElem?_cons_zero, Option.some.injEq] at h
  subst h
  show (nvC y ++ nvs ns)[0 * 5 + j]? = _
  rw [Nat.zero_mul, Nat.zero_add, List.getElem?_append_left (by show j < 5; exact hj)]
 | y :: ns, k + 1, x, j, h, hj => by
  simp only [List.getElem?_cons_succ] at h
  show (nvC y ++ nvs ns)[(k + 1) * 5 + j]? = _
  rw [List.getElem?_append_right (by show 5 ≤ _; omega), ← nvs_at ns k x j h hj]
  congr 1
  show (k + 1) * 5 + j - 5 = _
  omega
theorem RdN.cells {w : World} {p : Option Addr} {n c : Nat} {ns : List Nv} (h : RdN w (.slice p n c) ns) {k : Nat} {x : Nv} (hx : ns[k]? = some x) : ∃ g o, p = some ⟨g, o, none⟩ ∧ w.cell? ⟨g, o + k * 5, none⟩ = some (sV x.path) ∧ w.cell? ⟨g, o + k * 5 + 1, none⟩ = some (.int .i64 x.num) ∧ w.cell? ⟨g, o + k * 5 + 2, none⟩ = some (.int .i64 x.kind) ∧ w.cell? ⟨g, o + k * 5 + 3, none⟩ = some (.int .i64 x.links) ∧ w.cell? ⟨g, o + k * 5 + 4, none⟩ = some x.dv := by
 obtain ⟨p', c', e, h2, h3, h4⟩ := h.1.form
 injection e with e1 e2 e3
 subst e1
 have hk : k < ns.length := (List.getElem?_eq_some_iff.1 hx).1
 obtain ⟨g, o, rfl, h5⟩ := h4 (by omega)
 have key : ∀ j, j < 5 → w.cell? ⟨g, o + k * 5 + j, none⟩ = (nvC x)[j]? := fun j hj => by
  rw [Nat.add_assoc, h5 (k * 5 + j) (by omega), nvs_at ns k x j hx hj]
 exact ⟨g, o, rfl, key 0 (by omega), key 1 (by omega), key 2 (by omega), key 3 (by omega), key 4 (by omega)⟩
theorem flz_none {w : World} {L : List HP} {bf : Nat} {Y : List (Int × Fil)} {n : Int} (h : Has w (Flz bf Y :: L)) (hn : (Lit.int .i64 n).wf = true) (hF : fnd Y n = none) : (Instr.lookup tFm (.map (some bf)) (.int .i64 n) false).run Tryz.prog w = .ok (.pointer none) w := by
 obtain ⟨X, hX, h1⟩ := zm_iff.1 h
 have hlk := Mk.look0 h1 undFm hn
 have e : fnd (zH X) n = none := by
  rw [← hX] at hF
  exact fnd_none.2 (by rw [zH_keys, ← zB_keys]; exact fnd_none.1 hF)
 rw [e] at hlk
 exact hlk
theorem flz_some {w : World} {L : List HP} {bf : Nat} {Y : List (Int × Fil)} {n : Int} {F : Fil} (h : Has w (Flz bf Y :: L)) (hn : (Lit.int .i64 n).wf = true) (hF : fnd Y n = some F) : ∃ (b : Nat) (R : List HP), Has w (FilC b F :: R) ∧ (∀ w', Has w' (FilC b F :: R) → Has w' (Flz bf Y :: L) ∧ (Instr.lookup tFm (.map (some bf)) (.int .i64 n) false).run Tryz.prog w' = .ok (.pointer (some ⟨b, 0, none⟩)) w') := by
 obtain ⟨X, hX, h1⟩ := zm_iff.1 h
 obtain ⟨es, cl, h2⟩ := Mx.of_mk h1
 rw [← hX] at hF
 obtain ⟨b, Y0, hH, hP, -⟩ := FlX.pull h2 hF
 have key : ∀ w', Has w' (FilC b F :: FlX bf es cl X :: (zC FilPC Y0 ++ L)) → Has w' (Mk kInt vPf bf (zH X) :: (zC FilPC X ++ L)) := fun w' h3 => Mx.mk (h3.perm (pmC2 _ _ _ _ _ hP).symm)
 refine ⟨b, FlX bf es cl X :: (zC FilPC Y0 ++ L), h2.perm (pmC2 _ _ _ _ _ hP), fun w' h3 => ⟨zm_iff.2 ⟨X, hX, key w' h3⟩, ?_⟩⟩
 ·have hlk := Mk.look0 (key w' h3) undFm hn
  rw [hH] at hlk
  exact hlk
def seenL (N : List (Int × Int)) (Y : List (Int × Fil)) : List Nv → List (Str × Int) → Option (List (Str × Int))
 | [], m => some m
 | x :: xs, m => if (fnd m x.path).isSome = true ∨ nodeM N x.num = 0 ∨ (fnd Y (nodeM N x.num)).map Fil.kind ≠ some x.kind then none else seenL N Y xs (putA m x.path (nodeM N x.num))
def seenM (N : List (Int × Int)) (Y : List (Int × Fil)) (ns : List Nv) : Option (List (Str × Int)) := match seenL N Y ns [] with
 | some m => if (fnd m [47]).getD 0 = 1 then some m else none
 | none => none
theorem nodeM_wf {N : List (Int × Int)} (h : ∀ x ∈ N, (Lit.int .i64 x.1).wf = true) (n : Int) : (Lit.int .i64 (nodeM N n)).wf = true := by
 have key : ∀ num, (Lit.int .i64 (youngM N num)).wf = true := fun num => by
  obtain ⟨-, -, h3⟩ := young_fold num N 0
  rcases h3 with h3 | ⟨x, hx, -, he⟩
  ·show (Lit.int .i64 (N.foldl _ 0)).wf = true
   rw [h3]; rfl
  ·show (Lit.int .i64 (N.foldl _ 0)).wf = true
   rw [← he]; exact h x hx
 unfold nodeM
 split
 ·rfl
 ·split
  ·exact key _
  ·exact key _
abbrev tAt : TypeId := 79
theorem undAt : Tryz.prog.underlying tAt = some (.map tStr tInt) := by kernel_rfl
theorem seenL_bad {N : List (Int × Int)} {Y : List (Int × Fil)} {x : Nv} {xs : List Nv} {m : List (Str × Int)} (h : (fnd m x.path).isSome = true ∨ nodeM N x.num = 0 ∨ (fnd Y (nodeM N x.num)).map Fil.kind ≠ some x.kind) : seenL N Y (x :: xs) m = none := by unfold seenL; rw [if_pos h]
theorem seenL_ok {N : List (Int × Int)} {Y : List (Int × Fil)} {x : Nv} {xs : List Nv} {m : List (Str × Int)} {F : Fil} (h1 : fnd m x.path = none) (h2 : nodeM N x.num ≠ 0) (h3 : fnd Y (nodeM N x.num) = some F) (h4 : F.kind = x.kind) : seenL N Y (x :: xs) m = seenL N Y xs (m ++ [(x.path, nodeM N x.num)]) := by
 rw [seenL, if_neg, show putA m x.path (nodeM N x.num) = m ++ [(x.path, nodeM N x.num)] from by unfold putA; rw [if_neg (fnd_none.1 h1)]]
 rintro (h | h | h)
 ·rw [h1] at h; cases h
 ·exact h2 h
 ·rw [h3] at h; exact h (by rw [← h4]; rfl)
set_option maxRecDepth 100000 in
set_option maxHeartbeats 8000000 in
theorem mSeen (q bn bf : Nat) (C : Array Value) (N : List (Int × Int)) (Y : List (Int × Fil)) (v : Value) (ns : List Nv) (w : World) (L : List HP) (hC1 : C[1]? = some (.map (some bn))) (hC2 : C[2]? = some (.map (some bf))) (hN : ∀ x ∈ N, (Lit.int .i64 x.1).wf = true) (hl : ns.length ≤ 100000) (hpl : ∀ x ∈ ns, x.path.length ≤ 1000000) (hrd : ∀ w', Has w' L → RdN w' v ns) (hO : Has w (pt q (.cells C 142) :: Mk kInt vInt bn N :: Flz bf Y :: L)) :
  Calls Tryz.prog 96 #[.pointer (some ⟨q, 0, none⟩), v] w fun e w' => ((∃ m at_, seenM N Y ns = some at_ ∧ e = .returned (.tuple #[.map (some m), .bool true]) ∧ Has w' (Mk kStr vInt m at_ :: pt q (.cells C 142) :: Mk kInt vInt bn N :: Flz bf Y :: L)) ∨ (seenM N Y ns = none ∧ e = .returned (.tuple #[.map none, .bool false]) ∧ Has w' (pt q (.cells C 142) :: Mk kInt vInt bn N :: Flz bf Y :: L))) ∧ Keep w w' := by
 obtain ⟨p, c, rfl, hc, -⟩ := (hrd w hO.drop.drop.drop).1.form
 have HC1 := hid hC1
 have HC2 := hid (fun (w : World) (L' : List HP) (h : Has w (pt q (.cells C 142) :: L')) => (show w.cell? ⟨q, 2, none⟩ = some (.map (some bf)) from (h.cells 2).trans hC2))
 have HN := hid (nodeM_wf hN)
 have HPL := hid hpl
 have HRD := hid hrd
 have hli : (ns.length : Int) ≤ 100000 := by omega
 have HL := hid hl
 have HO := hid (show Has (w.alloc (.map #[] 0)) (Mk kStr vInt w.heap.size [] :: pt q (.cells C 142) :: Mk kInt vInt bn N :: Flz bf Y :: L) from Mk.made hO kStr vInt)
 have HK := hid ((Keep.refl w).alloc (.map #[] 0))
 have hmm := @run_makeMap Tryz.prog
 have HS := hid (show seenM N Y ns = (match seenL N Y ns [] with | some m => if (fnd m [47]).getD 0 = 1 then some m else none | none => none) from rfl)
 obtain ⟨SM, hSM⟩ : ∃ SM, seenM N Y ns = SM := ⟨_, rfl⟩
 rw [hSM] at HS ⊢
 clear hO hC1 hC2 hN hpl hrd hl hSM hc
 go_enter Tryz.func96, Tryz.ntmps96
 go_upto_region 2 with fail
 clear hmm
 generalize w.alloc (.map #[] 0) = w1 at *
 generalize w.heap.size = m at *
 go_wp2_with fail
 go_loopw [15] (fun i wx => ∃ (k : Nat) (at_ : List (Str × Int)), k ≤ ns.length ∧ at_.length ≤ k ∧ i = .int .i64 k ∧ Hid (seenL N Y ns [] = seenL N Y (ns.drop k) at_) ∧ Hid (Has wx (Mk kStr vInt m at_ :: pt q (.cells C 142) :: Mk kInt vInt bn N :: Flz bf Y :: L)) ∧ Hid (Keep w wx)) (fun i _ => ns.length - (intOf i).toNat)
 case atStart => exact ⟨0, [], by omega, by simp, rfl, hid (by rw [List.drop_zero]), HO, HK⟩
 case round =>
  clear HO HK
  obtain ⟨k, at_, hk, hal, rfl, HSL, HO, HK⟩ := hrel
  by_cases hlt : k < ns.length
  ·have hk0 : (0 : Int) ≤ (k : Int) := by omega
   have hk1 : (k : Int) < (ns.length : Int) := by omega
   obtain ⟨x, hx⟩ : ∃ x, ns[k]? = some x := ⟨_, List.getElem?_eq_getElem hlt⟩
   have hrn := HRD.out _ HO.out.drop.drop.drop.drop
   obtain ⟨g, o, rfl, c0, c1, c2, c3, c4⟩ := RdN.cells hrn hx
   have hxm : x ∈ ns := List.mem_of_getElem? hx
   have HXP := hid (HPL.out x hxm)
   have HDR := hid (show ns.drop k = x :: ns.drop (k + 1) from by
    rw [List.drop_eq_getElem_cons hlt]
    rw [List.getElem?_eq_getElem hlt] at hx
    rw [Option.some.inj hx])
   have HLT := hid hlt
   have HAL := hid hal
   rw [HDR.out] at HSL
   obtain ⟨pd, cd, hdv, -⟩ := (hrn.2 x hxm).form
   rw [hdv] at c4
   have HDV := hid hdv
   have HO2 := hid (HO.out.alloc (.cells #[sV x.path, .int .i64 x.num, .int .i64 x.kind, .int .i64 x.links, .slice pd x.data.length cd] 57))
   have HK2 := hid (HK.out.alloc (.cells #[sV x.path, .int .i64 x.num, .int .i64 x.kind, .int .i64 x.links, .slice pd x.data.length cd] 57))
   clear hrn hx hxm hlt hk hal HO HK hdv
   go_upto_region 5 with fail
   clear c0 c1 c2 c3 c4
   generalize wr.alloc (.cells #[sV x.path, .int .i64 x.num, .int .i64 x.kind, .int .i64 x.links, .slice pd x.data.length cd] 57) = w2 at *
   generalize wr.heap.size = g8 at *
   have hg1 : w2.cell? ⟨g8, 1, none⟩ = some (.int .i64 x.num) := HO2.out.cells 1
   have HND := hid (mNode q bn C N x.num w2 _ HC1.out (HO2.out.re 4 [2, 3, 0, 1]))
   go_wp2_with fail
   refine HND.out.mono ?_
   rintro e w3 ⟨rfl, h3, k3⟩
   have HO3 := hid (show Has w3 (Mk kStr vInt m at_ :: pt g8 (.cells #[sV x.path, .int .i64 x.num, .int .i64 x.kind, .int .i64 x.links, .slice pd x.data.length cd] 57) :: pt q (.cells C 142) :: Mk kInt vInt bn N :: Flz bf Y :: L) from h3.re 4 [3, 2, 0, 1])
   have HK3 := hid (HK2.out.trans k3)
   clear h3 k3 HO2 HK2 HND hg1
   try dsimp only
   have HWF := hid (HN.out x.num)
   have HBAD := hid (@seenL_bad N Y x (ns.drop (k + 1)) at_)
   have HGOOD := hid (fun F => @seenL_ok N Y x (ns.drop (k + 1)) at_ F)
   generalize nodeM N x.num = n at *
   have hg0 : w3.cell? ⟨g8, 0, none⟩ = some (sV x.path) := HO3.out.p1.cells 0
   have hlk : (Instr.lookup tAt (.map (some m)) (sV x.path) true).run Tryz.prog w3 = .ok (.tuple #[.int .i64 ((fnd at_ x.path).getD 0), .bool (fnd at_ x.path).isSome]) w3 := by
    have h1 := Mk.look (V := vInt) HO3.out undAt (x := x.path) (le_maxLen (by have h : x.path.length ≤ 1000000 := HXP.out; omega))
    have hd : ∀ inst : Decidable (x.path ∈ at_.map Prod.fst), @decide _ inst = (fnd at_ x.path).isSome := by
     intro inst
     cases hf : fnd at_ x.path with
     | none => exact decide_eq_false (fnd_none.1 hf)
     | some a => exact decide_eq_true (mem_of_fnd hf)
    rw [hd] at h1
    exact h1
   generalize (fnd at_ x.path).getD 0 = y0 at *
   go_upto_region 7 with fail
   clear hg0 hlk
   have HO4 := hid HO3.out.drew
   have HK4 := hid HK3.out.drew
   by_cases h1 : (fnd at_ x.path).isSome = true
   ·have HR := hid (HBAD.out (.inl h1))
    rw [h1]
    refine region_text (fun w' => True ∧ True) (by kernel_rfl) (by kernel_rfl) ⟨trivial, trivial⟩ ?_
    generalize w3.drew = w4 at *
    repeat (first | refine wr2 ?_ | refine wk ?_)
    refine wpL_nil ?_
    go_wp2_with fail
    go_ret2
    exact ⟨.inr ⟨by rw [HS.out, HSL.out, HR.out], rfl, HO4.out.drop.drop⟩, HK4.out⟩
   ·have hf1 : (fnd at_ x.path).isSome = false := by simpa using h1
    rw [hf1]
    have HF1 := hid (show fnd at_ x.path = none from by cases hf : fnd at_ x.path with | none => rfl | some a => rw [hf] at h1; exact absurd rfl h1)
    clear h1 hf1
    by_cases h2 : n = 0
    ·have HR := hid (HBAD.out (.inr (.inl h2)))
     have hb2 : (n == 0) = true := by simp [h2]
     clear h2
     refine region_text (fun w' => True ∧ True) (by kernel_rfl) (by kernel_rfl) ⟨trivial, trivial⟩ ?_
     generalize w3.drew = w4 at *
     repeat (first | refine wr2 ?_ | refine wk ?_)
     refine wpL_nil ?_
     go_wp2_with fail
     go_ret2
     exact ⟨.inr ⟨by rw [HS.out, HSL.out, HR.out], rfl, HO4.out.drop.drop⟩, HK4.out⟩
    ·have hb2 : (n == 0) = false := by simp [h2]
     have HN0 := hid h2
     clear h2
     rcases hfy : fnd Y n with _ | F
     ·have HR := hid (HBAD.out (.inr (.inr (by rw [hfy]; intro h; cases h))))
      have hl1 := flz_none (show Has _ (Flz bf Y :: _) from HO4.out.p4) HWF.out hfy
      clear hfy
      refine region_text (fun w' => w'.cell? ⟨q, 2, none⟩ = some (.map (some bf)) ∧ (Instr.lookup tFm (.map (some bf)) (.int .i64 n) false).run Tryz.prog w' = .ok (.pointer none) w') (by kernel_rfl) (by kernel_rfl) ⟨HC2.out _ _ HO4.out.p2, hl1⟩ ?_
      generalize w3.drew = w4 at *
      repeat (first | refine wr2 ?_ | refine wk ?_)
      refine wpL_nil ?_
      go_wp2_with fail
      go_ret2
      exact ⟨.inr ⟨by rw [HS.out, HSL.out, HR.out], rfl, HO4.out.drop.drop⟩, HK4.out⟩
     ·obtain ⟨b, R, hR, hback⟩ := flz_some (show Has _ (Flz bf Y :: _) from HO4.out.p4) HWF.out hfy
      have hl1 := (hback _ hR).2
      obtain ⟨sv, mb, hFc⟩ := filC_iff.1 hR
      have hk0 : w3.drew.cell? ⟨b, 0, none⟩ = some (.int .i64 F.kind) := hFc.cells 0
      clear hback hR hFc
      by_cases h4 : F.kind = x.kind
      ·have hb4 : (F.kind != x.kind) = false := by simp [h4]
       have HG := hid (HGOOD.out F HF1.out HN0.out hfy h4)
       clear h4 hfy
       refine region_text (fun w' => w'.cell? ⟨q, 2, none⟩ = some (.map (some bf)) ∧ (Instr.lookup tFm (.map (some bf)) (.int .i64 n) false).run Tryz.prog w' = .ok (.pointer (some ⟨b, 0, none⟩)) w' ∧ w'.cell? ⟨b, 0, none⟩ = some (.int .i64 F.kind) ∧ w'.cell? ⟨g8, 2, none⟩ = some (.int .i64 x.kind)) (by kernel_rfl) (by kernel_rfl) ⟨HC2.out _ _ HO4.out.p2, hl1, hk0, HO4.out.p1.cells 2⟩ ?_
       clear hl1 hk0
       generalize w3.drew = w4 at *
       repeat (first | refine wr4 ?_ | refine wk ?_)
       refine wpL_nil ?_
       have hg0 : w4.cell? ⟨g8, 0, none⟩ = some (sV x.path) := HO4.out.p1.cells 0
       go_wp2_with (refine wpList_mkPut HO4.out (by have := HAL.out; have := HLT.out; have := HL.out; omega) tAt undAt rfl _ _ _ rfl rfl x.path (le_maxLen (by have h : x.path.length ≤ 1000000 := HXP.out; omega)) rfl n HWF.out rfl ?_; intro w5 hO5 hK5; simp only [Act.put])
       have h5 : Has w5 (Mk kStr vInt m (at_ ++ [(x.path, n)]) :: pt g8 (.cells #[sV x.path, .int .i64 x.num, .int .i64 x.kind, .int .i64 x.links, .slice pd x.data.length cd] 57) :: pt q (.cells C 142) :: Mk kInt vInt bn N :: Flz bf Y :: L) := by
        rw [← putA_new _ (fnd_none.1 HF1.out)]; exact hO5
       try go_wp2_with fail
       exact ⟨⟨k + 1, _, by have := HLT.out; omega, by rw [List.length_append, List.length_singleton]; have := HAL.out; omega, by go_num, hid (HSL.out.trans HG.out), hid (h5.re 3 [0, 2]), hid (HK4.out.trans hK5)⟩, by have := HLT.out; simp [intOf]; omega⟩
      ·have hb4 : (F.kind != x.kind) = true := by simp [h4]
       have HR := hid (HBAD.out (.inr (.inr (by rw [hfy]; intro h; exact h4 (Option.some.inj h)))))
       clear h4 hfy
       refine region_text (fun w' => w'.cell? ⟨q, 2, none⟩ = some (.map (some bf)) ∧ (Instr.lookup tFm (.map (some bf)) (.int .i64 n) false).run Tryz.prog w' = .ok (.pointer (some ⟨b, 0, none⟩)) w' ∧ w'.cell? ⟨b, 0, none⟩ = some (.int .i64 F.kind) ∧ w'.cell? ⟨g8, 2, none⟩ = some (.int .i64 x.kind)) (by kernel_rfl) (by kernel_rfl) ⟨HC2.out _ _ HO4.out.p2, hl1, hk0, HO4.out.p1.cells 2⟩ ?_
       clear hl1 hk0
       generalize w3.drew = w4 at *
       repeat (first | refine wr4 ?_ | refine wk ?_)
       refine wpL_nil ?_
       go_wp2_with fail
       go_ret2
       exact ⟨.inr ⟨by rw [HS.out, HSL.out, HR.out], rfl, HO4.out.drop.drop⟩, HK4.out⟩
  ·have hk1 : ¬ (k : Int) < (ns.length : Int) := by omega
   have HSE := hid (show seenL N Y ns [] = some at_ from by rw [HSL.out, List.drop_eq_nil_of_le (by omega)]; rfl)
   clear hlt hk hal
   have hlk : (Instr.lookup tAt (.map (some m)) (.string ⟨#[47]⟩) false).run Tryz.prog wr = .ok (.int .i64 ((fnd at_ [47]).getD 0)) wr := Mk.look0 (V := vInt) HO.out undAt (x := ([47] : Str)) (le_maxLen (by decide))
   by_cases h1 : (fnd at_ [47]).getD 0 = 1
   ·have HR := hid (show SM = some at_ from by rw [HS.out, HSE.out]; exact if_pos h1)
    rw [h1] at hlk
    clear h1
    go_wp2_with fail
    go_ret2
    exact ⟨.inl ⟨m, at_, HR.out, rfl, HO.out⟩, HK.out⟩
   ·have HR := hid (show SM = none from by rw [HS.out, HSE.out]; exact if_neg h1)
    have hb : ((fnd at_ [47]).getD 0 != 1) = true := by simp [h1]
    clear h1
    generalize (fnd at_ [47]).getD 0 = y at *
    go_wp2_with fail
    go_ret2
    exact ⟨.inr ⟨HR.out, rfl, HO.out.drop⟩, HK.out⟩
end Go.Proofs.YtmgpgbfgemebbaaGreatDoor
namespace Go.Proofs.YtmgpgbfgemebbaaGreatDoor
open Go.RowKit Go.Own
theorem flx_file {w : World} {L : List HP} {bf cl : Nat} {es : Array MapEntry} {X : List (Int × Option Nat × Fil)} {n : Int} {F : Fil} (h : Has w (FlX bf es cl X :: (zC FilPC X ++ L))) (hn : (Lit.int .i64 n).wf = true) (hF : fnd (zB X) n = some F) :
  ∃ (b : Nat) (Y0 : List (Int × Option Nat × Fil)), fnd (zH X) n = some (some b) ∧ (zC FilPC X).Perm (FilC b F :: zC FilPC Y0) ∧ ∀ (w' : World) (L' : List HP), Has w' (FlX bf es cl X :: (zC FilPC X ++ L')) → (Instr.lookup tFm (.map (some bf)) (.int .i64 n) false).run Tryz.prog w' = .ok (.pointer (some ⟨b, 0, none⟩)) w' ∧ w'.cell? ⟨b, 0, none⟩ = some (.int .i64 F.kind) ∧ w'.cell? ⟨b, 1, none⟩ = some (sV F.target) := by
 obtain ⟨b, Y0, hH, hP, -⟩ := FlX.pull h hF
 refine ⟨b, Y0, hH, hP, fun w' L' h2 => ?_⟩
 have hlk := Mk.look0 (Mx.mk h2) undFm hn
 rw [hH] at hlk
 obtain ⟨sv, mb, h3⟩ := filC_iff.1 (h2.perm (pmC2 _ _ _ _ _ hP))
 exact ⟨hlk, h3.cells 0, h3.cells 1⟩
def entOk (E : List (Ent × List Int)) (Y : List (Int × Fil)) (m : List (Str × Int)) (p : Str) (n : Int) : Bool :=
 decide (p = [47]) || ((partedM p).2.2 && decide ((fnd m (partedM p).1).getD 0 ≠ 0) && decide (kindF Y ((fnd m (partedM p).1).getD 0) = 2) && decide (n ∈ valuesE E ((fnd m (partedM p).1).getD 0, (partedM p).2.1)))
def kindOk (many : List (Int × Int)) (x : Nv) (n : Int) (F : Fil) : Bool :=
 if F.kind = 2 then decide (x.links = 1) && decide (x.data.length = 0)
 else if F.kind = 3 then decide (x.links = (fnd many n).getD 0) && decide (strOf x.data = F.target)
 else decide (x.links = (fnd many n).getD 0) && F.holds x.data
open Classical in
theorem pmE1 (G A E T M F : HP) (Z L : List HP) : (G :: A :: E :: T :: M :: F :: (Z ++ L)).Perm (F :: (Z ++ (G :: A :: E :: T :: M :: L))) := by
 refine List.perm_iff_count.2 fun x => ?_
 simp only [List.count_append, List.count_cons] at *
 omega
theorem parted_len (p : Str) : (partedM p).1.length ≤ p.length + 1 ∧ (partedM p).2.1.length ≤ p.length := by
 unfold partedM
 split
 ·simp
 ·split
  ·simp
  ·simp only [List.length_take, List.length_drop]; omega
theorem _root_.Go.Own.Has.p1' {w : World} {G A E : HP} {R : List HP} (h : Has w (G :: A :: E :: R)) : Has w (A :: E :: G :: R) := h.re 3 [1, 2, 0]
theorem _root_.Go.Own.Has.back {w : World} {G A E : HP} {R : List HP} (h : Has w (A :: E :: G :: R)) : Has w (G :: A :: E :: R) := h.re 3 [2, 0, 1]
abbrev nodeC (x : Nv) (pd : Option Addr) (cd : Nat) : Obj := .cells #[sV x.path, .int .i64 x.num, .int .i64 x.kind, .int .i64 x.links, .slice pd x.data.length cd] 57
set_option maxRecDepth 100000 in
set_option maxHeartbeats 8000000 in
theorem mFits (q b bf ma mm clf K : Nat) (esf : Array MapEntry) (C : Array Value) (E : List (Ent × List Int)) (X : List (Int × Option Nat × Fil)) (m : List (Str × Int)) (many : List (Int × Int)) (x : Nv) (n : Int) (F : Fil) (w : World) (L : List HP) (hC2 : C[2]? = some (.map (some bf))) (hC : C[4]? = some (.map (some b)))
  (hm : ∀ y ∈ m, (Lit.int .i64 y.2).wf = true ∧ (y.2 ≠ 0 → ∃ F, fnd (zB X) y.2 = some F)) (hx : fnd m x.path = some n) (hF : fnd (zB X) n = some F) (hFK : FilOk F K) (hKb : K ≤ 100000) (hve : ∀ e, (valuesE E e).length ≤ 1000000) (hpl : x.path.length ≤ 100000) (hdl : x.data.length ≤ 100000) (hrd : ∀ w', Has w' L → Rd w' x.dv 1 x.data.length (bc x.data)) (hO : Has w (pt q (.cells C 142) :: Ety b E :: Mk kStr vInt ma m :: Mk kInt vInt mm many :: FlX bf esf clf X :: (zC FilPC X ++ L))) :
  Calls Tryz.prog 97 #[.pointer (some ⟨q, 0, none⟩), .agg #[sV x.path, .int .i64 x.num, .int .i64 x.kind, .int .i64 x.links, x.dv], .map (some ma), .map (some mm)] w fun e w' => e = .returned (.bool (entOk E (zB X) m x.path n && kindOk many x n F)) ∧ Has w' (pt q (.cells C 142) :: Ety b E :: Mk kStr vInt ma m :: Mk kInt vInt mm many :: FlX bf esf clf X :: (zC FilPC X ++ L)) ∧ Keep w w' := by
 have hL : ∀ w', Has w' (pt q (.cells C 142) :: Ety b E :: Mk kStr vInt ma m :: Mk kInt vInt mm many :: FlX bf esf clf X :: (zC FilPC X ++ L)) → Has w' L := fun w' h => has_drops _ h.drop.drop.drop.drop.drop
 obtain ⟨pd, cd, hdv, -⟩ := (hrd w (hL w hO)).form
 rw [hdv] at hrd ⊢
 have HRD := hid (fun (w' : World) h => hrd w' (hL w' h))
 have HRDL := hid hrd
 have hwn := (hm _ (fnd_some hx)).1
 have HX := hid hx
 have HMM := hid hm
 have HF := hid hF
 have HFK := hid hFK
 have HKB := hid hKb
 have HVE := hid hve
 have HPL := hid hpl
 have HDL := hid hdl
 have HC2 := hid (fun (w : World) (L' : List HP) (h : Has w (pt q (.cells C 142) :: L')) => (show w.cell? ⟨q, 2, none⟩ = some (.map (some bf)) from (h.cells 2).trans hC2))
 have HC := hid hC
 have HO1 := hid (hO.alloc (nodeC x pd cd))
 have HK1 := hid ((Keep.refl w).alloc (nodeC x pd cd))
 obtain ⟨bF, Y0, hH, hP, hfx⟩ := flx_file (HO1.out.perm (pmE1 _ _ _ _ _ _ _ _)) hwn hF
 have HP := hid hP
 have HFX := hid hfx
 have HWN := hid hwn
 obtain ⟨EO, hEO⟩ : ∃ EO, entOk E (zB X) m x.path n = EO := ⟨_, rfl⟩
 obtain ⟨KO, hKO⟩ : ∃ KO, kindOk many x n F = KO := ⟨_, rfl⟩
 rw [hEO, hKO]
 have HEO := hid hEO
 have HKO := hid hKO
 clear hO hC hC2 hm hx hF hFK hKb hve hpl hdl hrd hL hdv hwn hH hP hfx hEO hKO
 go_enter Tryz.func97, Tryz.ntmps97
 go_upto_region 1 with fail
 unfold nodeC at HO1 HK1
 generalize w.alloc (.cells #[sV x.path, .int .i64 x.num, .int .i64 x.kind, .int .i64 x.links, .slice pd x.data.length cd] 57) = w1 at *
 generalize w.heap.size = g5 at *
 have hg0 : w1.cell? ⟨g5, 0, none⟩ = some (sV x.path) := HO1.out.cells 0
 have hlk : (Instr.lookup tAt (.map (some ma)) (sV x.path) false).run Tryz.prog w1 = .ok (.int .i64 n) w1 := by
  have h1 := Mk.look0 (V := vInt) HO1.out.p3 undAt (x := x.path) (le_maxLen (by have := HPL.out; omega))
  rw [HX.out] at h1
  exact h1
 have hq2 := HC2.out w1 _ HO1.out.p1
 obtain ⟨hl2, hk0, hk1⟩ := HFX.out w1 _ (HO1.out.perm (pmE1 _ _ _ _ _ _ _ _))
 obtain ⟨c, hc⟩ : ∃ c, decide (x.path = [47]) = c := ⟨_, rfl⟩
 have hcb1 : (x.path == [47]) = c := by rw [← hc]; by_cases h : x.path = [47] <;> simp [h]
 have hcb2 : (x.path != [47]) = !c := by rw [← hcb1]; rfl
 have hcb3 : ((sB x.path).toList == [47]) = c := by rw [sBm_toList]; exact hcb1
 have HCB := hid hc
 clear hc
 go_upto_region 3 with fail
 go_cut [27] (fun a wx => wx = w1 ∧ a = .bool !c)
 case first =>
  go_wp2_with fail
  try go_meet
  exact ⟨rfl, rfl⟩
 case rest =>
 obtain ⟨hwx, rfl⟩ := hcut
 have hwx := hwx.symm
 subst hwx
 go_upto_if 27 with fail
 go_cut [] (fun wx => ∃ w4 : World, w4 = wx ∧ Hid (EO = true) ∧ Hid (Has w4 (pt g5 (.cells #[sV x.path, .int .i64 x.num, .int .i64 x.kind, .int .i64 x.links, .slice pd x.data.length cd] 57) :: pt q (.cells C 142) :: Ety b E :: Mk kStr vInt ma m :: Mk kInt vInt mm many :: FlX bf esf clf X :: (zC FilPC X ++ L))) ∧ Hid (Keep w w4))
 case first =>
  cases c with
  | true =>
   have HE1 := hid (show EO = true from by rw [← HEO.out]; unfold entOk; rw [HCB.out]; rfl)
   go_wp2_with fail
   go_meet
   exact ⟨_, rfl, HE1, HO1, HK1⟩
  | false =>
   have HPT := hid (mParted x.path w1 HPL.out)
   go_wp2_with fail
   refine HPT.out.mono ?_
   rintro e w' ⟨rfl, nq, rfl⟩
   have HO2 := hid (HO1.out.drewN nq)
   have HK2 := hid (HK1.out.drewN nq)
   clear HPT hg0 hlk hq2 hl2 hk0 hk1 HO1 HK1
   generalize w1.drewN nq = w2 at *
   try dsimp only
   have HPLN := hid (parted_len x.path)
   obtain ⟨⟨dp, nm, okb⟩, hpt⟩ : ∃ r, partedM x.path = r := ⟨_, rfl⟩
   rw [hpt] at HPLN ⊢
   have HPT2 := hid hpt
   clear hpt
   try dsimp only
   obtain ⟨dir, hdir⟩ : ∃ dir, (fnd m dp).getD 0 = dir := ⟨_, rfl⟩
   have HDIR := hid hdir
   have hlk2 : (Instr.lookup tAt (.map (some ma)) (sV dp) false).run Tryz.prog w2 = .ok (.int .i64 dir) w2 := by
    have h1 := Mk.look0 (V := vInt) HO2.out.p3 undAt (x := dp) (le_maxLen (by have h9 : dp.length ≤ x.path.length + 1 := HPLN.out.1; have := HPL.out; omega))
    rw [show (fnd m dp).getD vInt.z = dir from hdir] at h1
    exact h1
   clear hdir
   cases okb with
   | false =>
    have HE0 := hid (show EO = false from by rw [← HEO.out]; unfold entOk; rw [HCB.out, HPT2.out]; rfl)
    skip
    go_wp2_with fail
    go_ret
    exact ⟨by rw [HE0.out]; rfl, HO2.out.drop, HK2.out⟩
   | true =>
    by_cases h0 : dir = 0
    ·have hb0 : (dir == 0) = true := by simp [h0]
     have HE0 := hid (show EO = false from by rw [← HEO.out]; unfold entOk; rw [HCB.out, HPT2.out]; dsimp only; rw [HDIR.out, h0]; rfl)
     clear h0
     go_wp2_with fail
     go_ret
     exact ⟨by rw [HE0.out]; rfl, HO2.out.drop, HK2.out⟩
    ·have hb0 : (dir == 0) = false := by simp [h0]
     obtain ⟨hwd, hfd⟩ : (Lit.int .i64 dir).wf = true ∧ ∃ F, fnd (zB X) dir = some F := by
      cases hf : fnd m dp with
      | none => exact absurd (by rw [← HDIR.out, hf]; rfl) h0
      | some y =>
       have hy : y = dir := by rw [← HDIR.out, hf]; rfl
       have h1 := HMM.out _ (fnd_some hf)
       rw [hy] at h1
       exact ⟨h1.1, h1.2 h0⟩
     obtain ⟨F2, hF2⟩ := hfd
     have hF2' := hF2
     obtain ⟨b2, Y2, -, -, hf2⟩ := flx_file (HO2.out.perm (pmE1 _ _ _ _ _ _ _ _)) hwd hF2
     obtain ⟨hl3, hk3, -⟩ := hf2 w2 _ (HO2.out.perm (pmE1 _ _ _ _ _ _ _ _))
     have hq2 := HC2.out w2 _ HO2.out.p1
     have HKF := hid (show kindF (zB X) dir = F2.kind from by unfold kindF; rw [hF2]; rfl)
     have HD0 := hid h0
     clear hf2 hF2 hF2' h0
     by_cases h2 : F2.kind = 2
     ·have hb2 : (F2.kind != 2) = false := by simp [h2]
      have HVA := hid (mValues q b C E (dir, nm) w2 _ HC.out ⟨hwd, show nm.length ≤ maxLen from le_maxLen (by have h9 : nm.length ≤ x.path.length := HPLN.out.2; have := HPL.out; omega)⟩ HO2.out.p1')
      have HEV := hid (show EO = decide (n ∈ valuesE E (dir, nm)) from by rw [← HEO.out]; unfold entOk; rw [HCB.out, HPT2.out]; dsimp only; rw [HDIR.out, HKF.out, decide_eq_true h2, decide_eq_true HD0.out]; rfl)
      clear h2 hwd
      go_wp2_with fail
      refine HVA.out.mono ?_
      rintro e w3 ⟨v, rfl, hrv, h3, k3⟩
      have HO3 := hid (show Has w3 (pt g5 (.cells #[sV x.path, .int .i64 x.num, .int .i64 x.kind, .int .i64 x.links, .slice pd x.data.length cd] 57) :: pt q (.cells C 142) :: Ety b E :: Mk kStr vInt ma m :: Mk kInt vInt mm many :: FlX bf esf clf X :: (zC FilPC X ++ L)) from h3.back)
      have HK3 := hid (HK2.out.trans k3)
      obtain ⟨pv, cv, rfl, -⟩ := hrv.form
      have HCT := hid (mContainsI _ _ n w3 hrv (HVE.out _))
      clear hrv h3 k3 HO2 HK2 HVA hlk2 hl3 hk3 hq2
      try dsimp only
      by_cases hin : n ∈ valuesE E (dir, nm)
      ·have HE1 := hid (show EO = true from by rw [HEV.out]; exact decide_eq_true hin)
       have HDC := hid (show ∀ inst : Decidable (n ∈ valuesE E (dir, nm)), @decide _ inst = true from fun _ => decide_eq_true hin)
       clear hin
       go_wp2_with fail
       refine HCT.out.mono ?_
       rintro e w' ⟨rfl, rfl⟩
       rw [HDC.out]
       try dsimp only
       go_wp2_with fail
       go_meet
       exact ⟨_, rfl, HE1, HO3, HK3⟩
      ·have HE0 := hid (show EO = false from by rw [HEV.out]; exact decide_eq_false hin)
       have HDC := hid (show ∀ inst : Decidable (n ∈ valuesE E (dir, nm)), @decide _ inst = false from fun _ => decide_eq_false hin)
       clear hin
       go_wp2_with fail
       refine HCT.out.mono ?_
       rintro e w' ⟨rfl, rfl⟩
       rw [HDC.out]
       try dsimp only
       go_wp2_with fail
       go_ret
       exact ⟨by rw [HE0.out]; rfl, HO3.out.drop, HK3.out⟩
     ·have hb2 : (F2.kind != 2) = true := by simp [h2]
      have HE0 := hid (show EO = false from by rw [← HEO.out]; unfold entOk; rw [HCB.out, HPT2.out]; dsimp only; rw [HDIR.out, HKF.out, decide_eq_false h2, Bool.and_false]; rfl)
      clear h2
      go_wp2_with fail
      go_ret
      exact ⟨by rw [HE0.out]; rfl, HO2.out.drop, HK2.out⟩
 case rest =>
  obtain ⟨w4, rfl, HE1, HO4, HK4⟩ := hcut
  clear hg0 hlk hq2 hl2 hk0 hk1 HO1 HK1
  obtain ⟨hl2, hk0, hk1⟩ := HFX.out w4 _ (HO4.out.perm (pmE1 _ _ _ _ _ _ _ _))
  have hg3 : w4.cell? ⟨g5, 3, none⟩ = some (.int .i64 x.links) := HO4.out.cells 3
  have hg4 : w4.cell? ⟨g5, 4, none⟩ = some (.slice pd x.data.length cd) := HO4.out.cells 4
  obtain ⟨mn, hmn⟩ : ∃ mn, (fnd many n).getD 0 = mn := ⟨_, rfl⟩
  have hlm : (Instr.lookup tNu (.map (some mm)) (.int .i64 n) false).run Tryz.prog w4 = .ok (.int .i64 mn) w4 := by
   have h1 := Mk.look0 (V := vInt) (HO4.out.re 5 [4]) undNu (x := n) HWN.out
   rw [show (fnd many n).getD vInt.z = mn from hmn] at h1
   exact h1
  by_cases h2 : F.kind = 2
  ·have hb2 : (F.kind == 2) = true := by simp [h2]
   have HK2 := hid (show KO = (decide (x.links = 1) && decide (x.data.length = 0)) from by rw [← HKO.out]; unfold kindOk; rw [if_pos h2])
   clear h2 hmn
   by_cases h3 : x.links = 1
   ·have hb3 : (x.links == 1) = true := by simp [h3]
    rw [decide_eq_true h3] at HK2
    clear h3
    by_cases h4 : x.data.length = 0
    ·have hb4 : ((x.data.length : Int) == 0) = true := by simp [h4]
     rw [decide_eq_true h4] at HK2
     clear h4
     go_wp2_with fail
     go_ret
     exact ⟨by rw [HE1.out, HK2.out]; rfl, HO4.out.drop, HK4.out⟩
    ·have hb4 : ((x.data.length : Int) == 0) = false := by simp [h4]
     rw [decide_eq_false h4] at HK2
     clear h4
     go_wp2_with fail
     go_ret
     exact ⟨by rw [HE1.out, HK2.out]; rfl, HO4.out.drop, HK4.out⟩
   ·have hb3 : (x.links == 1) = false := by simp [h3]
    rw [decide_eq_false h3] at HK2
    clear h3
    go_wp2_with fail
    go_ret
    exact ⟨by rw [HE1.out, HK2.out]; rfl, HO4.out.drop, HK4.out⟩
  ·have hb2 : (F.kind == 2) = false := by simp [h2]
   by_cases h5 : F.kind = 3
   ·have hb5 : (F.kind == 3) = true := by simp [h5]
    have HK2 := hid (show KO = (decide (x.links = mn) && decide (strOf x.data = F.target)) from by rw [← HKO.out, ← hmn]; unfold kindOk; rw [if_neg h2, if_pos h5])
    have hcv := strOf_conv (HRD.out w4.drew HO4.out.drew.drop)
    have hlm2 : (Instr.lookup tNu (.map (some mm)) (.int .i64 n) false).run Tryz.prog w4.drew = .ok (.int .i64 mn) w4.drew := by
     have h1 := Mk.look0 (V := vInt) (HO4.out.drew.re 5 [4]) undNu (x := n) HWN.out
     rw [show (fnd many n).getD vInt.z = mn from hmn] at h1
     exact h1
    obtain ⟨-, -, hk1d⟩ := HFX.out w4.drew _ (HO4.out.drew.perm (pmE1 _ _ _ _ _ _ _ _))
    clear h2 h5 hmn
    obtain ⟨sd, hsd⟩ : ∃ sd, strOf x.data = sd := ⟨_, rfl⟩
    rw [hsd] at HK2 hcv
    clear hsd
    obtain ⟨r, hr⟩ : ∃ r, decide (sd = F.target) = r := ⟨_, rfl⟩
    rw [hr] at HK2
    have hbs : (sd == F.target) = r := by rw [← hr]; by_cases h : sd = F.target <;> simp [h]
    clear hr
    go_upto_region 12 with fail
    have HO5 := hid HO4.out.drew
    have HK5 := hid HK4.out.drew
    by_cases h3 : x.links = mn
    ·have hb3 : (x.links == mn) = true := by simp [h3]
     rw [decide_eq_true h3] at HK2
     clear h3
     refine region_text (fun w' => w'.cell? ⟨g5, 3, none⟩ = some (.int .i64 x.links) ∧ (Instr.lookup tNu (.map (some mm)) (.int .i64 n) false).run Tryz.prog w' = .ok (.int .i64 mn) w' ∧ w'.cell? ⟨g5, 4, none⟩ = some (.slice pd x.data.length cd) ∧ (convert 31 9 (.slice pd x.data.length cd)).run Tryz.prog w' = .ok (sV sd) w' ∧ w'.cell? ⟨bF, 1, none⟩ = some (sV F.target)) (by kernel_rfl) (by kernel_rfl) ⟨HO5.out.cells 3, hlm2, HO5.out.cells 4, hcv, hk1d⟩ ?_
     clear hlm2 hcv hk1d hlm hl2 hk0 hk1 hg3 hg4 HO4 HK4
     generalize w4.drew = w5 at *
     repeat (first | refine wr5 ?_ | refine wk ?_)
     refine wpL_nil ?_
     go_wp2_with fail
     go_ret
     exact ⟨by rw [HE1.out, HK2.out]; rfl, HO5.out.drop, HK5.out⟩
    ·have hb3 : (x.links == mn) = false := by simp [h3]
     rw [decide_eq_false h3] at HK2
     clear h3
     refine region_text (fun w' => w'.cell? ⟨g5, 3, none⟩ = some (.int .i64 x.links) ∧ (Instr.lookup tNu (.map (some mm)) (.int .i64 n) false).run Tryz.prog w' = .ok (.int .i64 mn) w') (by kernel_rfl) (by kernel_rfl) ⟨HO5.out.cells 3, hlm2⟩ ?_
     clear hlm2 hcv hk1d hlm hl2 hk0 hk1 hg3 hg4 HO4 HK4
     generalize w4.drew = w5 at *
     repeat (first | refine wr2 ?_ | refine wk ?_)
     refine wpL_nil ?_
     go_wp2_with fail
     go_ret
     exact ⟨by rw [HE1.out, HK2.out]; rfl, HO5.out.drop, HK5.out⟩
   ·have hb5 : (F.kind == 3) = false := by simp [h5]
    have HK2 := hid (show KO = (decide (x.links = mn) && F.holds x.data) from by rw [← HKO.out, ← hmn]; unfold kindOk; rw [if_neg h2, if_neg h5])
    clear h2 h5 hmn
    by_cases h3 : x.links = mn
    ·have hb3 : (x.links == mn) = true := by simp [h3]
     rw [decide_eq_true h3] at HK2
     clear h3
     have HHD := hid (mHolds bF F (.slice pd x.data.length cd) x.data K w4 (FlX bf esf clf X :: (zC FilPC Y0 ++ (pt g5 (.cells #[sV x.path, .int .i64 x.num, .int .i64 x.kind, .int .i64 x.links, .slice pd x.data.length cd] 57) :: pt q (.cells C 142) :: Ety b E :: Mk kStr vInt ma m :: Mk kInt vInt mm many :: L))) HFK.out HKB.out HDL.out (fun w' h' => HRDL.out w' (has_drops _ h'.drop).drop.drop.drop.drop.drop) (((HO4.out.perm (pmE1 _ _ _ _ _ _ _ _))).perm (pmC2 _ _ _ _ _ HP.out)))
     go_wp2_with fail
     refine HHD.out.mono ?_
     rintro e w5 ⟨rfl, h5, k5⟩
     have HO5 := hid ((h5.perm (pmC2 _ _ _ _ _ HP.out).symm).perm (pmE1 _ _ _ _ _ _ _ _).symm)
     have HK5 := hid (HK4.out.trans k5)
     clear h5 k5
     try dsimp only
     generalize F.holds x.data = r at *
     go_wp2_with fail
     go_ret
     exact ⟨by rw [HE1.out, HK2.out]; rfl, HO5.out.drop, HK5.out⟩
    ·have hb3 : (x.links == mn) = false := by simp [h3]
     rw [decide_eq_false h3] at HK2
     clear h3
     go_wp2_with fail
     go_ret
     exact ⟨by rw [HE1.out, HK2.out]; rfl, HO4.out.drop, HK4.out⟩
end Go.Proofs.YtmgpgbfgemebbaaGreatDoor
namespace Go.Proofs.YtmgpgbfgemebbaaGreatDoor
open Go.RowKit Go.Own
def cntM (m : List (Str × Int)) (n : Int) : Int := ((m.filter fun x => decide (x.2 = n)).length : Nat)
def cntR (m : List (Str × Int)) (rem : List Str) (n : Int) : Int := ((m.filter fun x => decide (x.1 ∉ rem) && decide (x.2 = n)).length : Nat)
theorem cntR_all (m : List (Str × Int)) (n : Int) : cntR m (m.map Prod.fst) n = 0 := by
 unfold cntR
 rw [List.filter_eq_nil_iff.2]
 ·rfl
 ·intro x hx
  simp [List.mem_map_of_mem (f := Prod.fst) hx]
theorem cntR_nil (m : List (Str × Int)) (n : Int) : cntR m [] n = cntM m n := by
 simp [cntR, cntM]
theorem cntR_step (m : List (Str × Int)) (rem : List Str) (k : Str) (v n : Int) (hn : (m.map Prod.fst).Nodup) (hm : (k, v) ∈ m) (hk : k ∈ rem) : cntR m (rem.filter fun y => !decide (y = k)) n = cntR m rem n + (if v = n then 1 else 0) := by
 unfold cntR
 induction m with
 | nil => cases hm
 | cons x m ih =>
  rw [List.map_cons, List.nodup_cons] at hn
  rw [List.filter_cons, List.filter_cons]
  by_cases hx : x.1 = k
  ·have hxv : x.2 = v := by
    rcases List.mem_cons.1 hm with e | e
    ·rw [← e]
    ·exact absurd (List.mem_map_of_mem (f := Prod.fst) e) (by rw [← hx]; exact hn.1)
   have e1 : (m.filter fun z => decide (z.1 ∉ rem.filter fun y => !decide (y = k)) && decide (z.2 = n)) = m.filter fun z => decide (z.1 ∉ rem) && decide (z.2 = n) := by
    refine List.filter_congr fun z hz => ?_
    have hzk : z.1 ≠ k := fun e => hn.1 (by rw [hx, ← e]; exact List.mem_map_of_mem hz)
    congr 1
    exact decide_eq_decide.2 ⟨fun h h2 => h (List.mem_filter.2 ⟨h2, by simp [hzk]⟩), fun h h2 => h (List.mem_filter.1 h2).1⟩
   rw [e1, hx, hxv]
   have h1 : decide (k ∉ rem.filter fun y => !decide (y = k)) = true := decide_eq_true (by rw [List.mem_filter]; simp)
   have h2 : decide (k ∉ rem) = false := decide_eq_false (fun h => h hk)
   rw [h1, h2]
   by_cases hv : v = n
   ·rw [if_pos (by simp [hv]), if_neg (by simp), if_pos hv, List.length_cons]; omega
   ·rw [if_neg (by simp [hv]), if_neg (by simp), if_neg hv]; omega
  ·have hm2 : (k, v) ∈ m := by
    rcases List.mem_cons.1 hm with e | e
    ·exact absurd (by rw [← e]) hx
    ·exact e
   have h3 := ih hn.2 hm2
   have h4 : decide (x.1 ∉ rem.filter fun y => !decide (y = k)) = decide (x.1 ∉ rem) := decide_eq_decide.2 ⟨fun h h2 => h (List.mem_filter.2 ⟨h2, by simp [hx]⟩), fun h h2 => h (List.mem_filter.1 h2).1⟩
   rw [h4]
   split
   ·rw [List.length_cons, List.length_cons]; omega
   ·exact h3
theorem cntR_low (m : List (Str × Int)) (rem : List Str) (n : Int) : 0 ≤ cntR m rem n ∧ cntR m rem n ≤ (m.length : Int) := by
 unfold cntR
 have := List.length_filter_le (fun x => decide (x.1 ∉ rem) && decide (x.2 = n)) m
 omega
def kindC (c : Int) (x : Nv) (F : Fil) : Bool :=
 if F.kind = 2 then decide (x.links = 1) && decide (x.data.length = 0)
 else if F.kind = 3 then decide (x.links = c) && decide (strOf x.data = F.target)
 else decide (x.links = c) && F.holds x.data
theorem kindOk_c (many : List (Int × Int)) (x : Nv) (n : Int) (F : Fil) : kindOk many x n F = kindC ((fnd many n).getD 0) x F := rfl
def nodeOk (E : List (Ent × List Int)) (Y : List (Int × Fil)) (m : List (Str × Int)) (x : Nv) : Bool := match fnd Y ((fnd m x.path).getD 0) with
 | some F => entOk E Y m x.path ((fnd m x.path).getD 0) && kindC (cntM m ((fnd m x.path).getD 0)) x F
 | none => false
def trimS (p : Str) : Str := Go.Lib.trimSuffix p [47]
def pOk (m : List (Str × Int)) (e : Ent) (p : Str × Int) : Bool := !decide (p.2 = e.1) || (fnd m (trimS p.1 ++ 47 :: e.2)).isSome
def eOk (m : List (Str × Int)) (e : Ent × List Int) : Bool := decide ((0 : Int) ∈ e.2) || m.all (pOk m e.1)
def entsOk (E : List (Ent × List Int)) (m : List (Str × Int)) : Bool := E.all (eOk m)
theorem trimS_len (p : Str) : (trimS p).length ≤ p.length := by
 unfold trimS Go.Lib.trimSuffix
 split
 ·rw [List.length_take]; omega
 ·omega
def markOk (m : List (Str × Int)) (y : Int × Mrk) : Bool := !y.2.1 || !y.2.2.1 || decide (y.1 = 1) || !(decide (cntM m y.1 = 0) || y.2.2.2 && !decide (cntM m y.1 = 1))
def His.allows (H : His) (ns : List Nv) : Bool := match seenM H.nums H.files ns with
 | none => false
 | some m => ns.all (nodeOk H.ents H.files m) && entsOk H.ents m && H.marks.all (markOk m)
theorem seenL_mem (N : List (Int × Int)) (Y : List (Int × Fil)) : ∀ (ns : List Nv) (m r : List (Str × Int)), seenL N Y ns m = some r → (∀ y ∈ m, ∃ F, fnd Y y.2 = some F) → (∀ y ∈ r, ∃ F, fnd Y y.2 = some F) ∧ (∀ y ∈ m, y ∈ r) ∧ (∀ x ∈ ns, (x.path, nodeM N x.num) ∈ r) ∧ (∀ y ∈ r, y ∈ m ∨ ∃ x ∈ ns, y = (x.path, nodeM N x.num)) ∧ r.length = m.length + ns.length
 | [], m, r, h, hm => by
  obtain rfl : m = r := Option.some.inj h
  exact ⟨hm, fun y h => h, fun x hx => (List.not_mem_nil hx).elim, fun y h => .inl h, rfl⟩
 | x :: ns, m, r, h, hm => by
  unfold seenL at h
  split at h
  ·cases h
  ·rename_i hb
   have h1 : fnd m x.path = none := by
    cases hf : fnd m x.path with
    | none => rfl
    | some a => exact absurd (.inl (by rw [hf]; rfl)) hb
   have h2 : ∃ F, fnd Y (nodeM N x.num) = some F := by
    cases hf : fnd Y (nodeM N x.num) with
    | none => exact absurd (.inr (.inr (by rw [hf]; intro h; cases h))) hb
    | some F => exact ⟨F, rfl⟩
   rw [show putA m x.path (nodeM N x.num) = m ++ [(x.path, nodeM N x.num)] from by unfold putA; rw [if_neg (fnd_none.1 h1)]] at h
   obtain ⟨a1, a2, a3, a4, a5⟩ := seenL_mem N Y ns _ r h (fun y hy => by
    rcases List.mem_append.1 hy with hy | hy
    ·exact hm y hy
    ·rw [List.mem_singleton.1 hy]; exact h2)
   refine ⟨a1, fun y hy => a2 y (List.mem_append_left _ hy), fun z hz => ?_, fun y hy => ?_, by rw [a5, List.length_append, List.length_cons]; simp; omega⟩
   ·rcases List.mem_cons.1 hz with rfl | hz
    ·exact a2 _ (List.mem_append_right _ (List.mem_singleton.2 rfl))
    ·exact a3 z hz
   ·rcases a4 y hy with h9 | ⟨z, hz, rfl⟩
    ·rcases List.mem_append.1 h9 with h9 | h9
     ·exact .inl h9
     ·exact .inr ⟨x, List.mem_cons_self, List.mem_singleton.1 h9⟩
    ·exact .inr ⟨z, List.mem_cons_of_mem _ hz, rfl⟩
end Go.Proofs.YtmgpgbfgemebbaaGreatDoor
