/- THE WALKS of seal.Kind and seal.Open over what is sealed. -/
import Derived.Test.YtbggnbahmdgbdaaEqB
import Derived.Test.YtbggnbahmdgbdaaSeal
import Derived.Test.YtbggnbahmdgbdaaCloneB
namespace Go.Proofs.Ytbggnbahmdgbdaa
open Go.RowKit Go.Own Go.Sl
theorem _root_.Go.Own.Rd.mid {w : World} {g o n c : Nat} {xs : List Value} (h : Rd w (.slice (some ⟨g, o, none⟩) n c) 1 n xs) (a b : Nat) (hb : a + b ≤ n) : Rd w (.slice (some ⟨g, o + a, none⟩) b (c - a)) 1 b ((xs.drop a).take b) := by
  obtain ⟨h1, h2, p, c', e, h3, h4⟩ := h
  injection e with e1 e2 e3
  subst e1 e3
  refine ⟨by rw [List.length_take, List.length_drop]; omega, by omega, _, _, rfl, by omega, fun hp => ⟨g, o + a, rfl, fun j hj => ?_⟩⟩
  obtain ⟨g', o', e, hc⟩ := h4 (by omega)
  injection e with e
  injection e with e1 e2
  subst e1 e2
  rw [Nat.add_assoc, hc (a + j) (by omega), List.getElem?_take, if_pos (by omega), List.getElem?_drop]
theorem sealL_mid (k : Int) (b : List Int) (h : b.length ≤ 123) : ((bc (sealL k b)).drop 1).take 123 = bc (b ++ zs (123 - b.length)) := by
  rw [bc, ← List.map_drop, ← List.map_take, sealL, sealB]
  congr 1
  have hl : (b ++ zs (123 - b.length)).length = 123 := by simp [zs]; omega
  rw [show [k] ++ b ++ zs (123 - b.length) ++ sumB (sumL ([k] ++ b ++ zs (123 - b.length))) = k :: ((b ++ zs (123 - b.length)) ++ sumB (sumL ([k] ++ b ++ zs (123 - b.length)))) from by simp]
  rw [List.drop_succ_cons, List.drop_zero]
  exact List.take_left' hl
theorem sealL_again (k : Int) (b : List Int) (h : b.length ≤ 123) : sealL k (b ++ zs (123 - b.length)) = sealL k b := by
  have e : sealB k (b ++ zs (123 - b.length)) = sealB k b := by
    have hl : (b ++ zs (123 - b.length)).length = 123 := by simp [zs]; omega
    rw [sealB, sealB, hl]
    simp [zs]
  rw [sealL, sealL, e]
set_option maxRecDepth 100000 in
set_option maxHeartbeats 4000000 in
theorem sKind (k : Int) (v : Value) (b : List Int) (w : World) (L : List HP) (hk : k ≠ 0) (hl : b.length ≤ 123) (hr : ∀ w', Has w' L → Rd w' v 1 (sealL k b).length (bc (sealL k b))) (hO : Has w L) :
    Calls Try.prog 69 #[v] w fun e w' => e = .returned (.int .u8 k) ∧ Has w' L ∧ Keep w w' := by
  have hlen := sealL_len (k := k) hl
  have HO := hid hO
  have HK := hid (Keep.refl w)
  have HR := hid hr
  have HMID := hid (sealL_mid k b hl)
  have HAG := hid (sealL_again k b hl)
  have HBL := hid (show (b ++ zs (123 - b.length)).length = 123 by simp [zs]; omega)
  obtain ⟨p, c, hv, hca, -, hcs⟩ := (hr w hO).form
  rw [hlen] at hv hca hcs
  obtain ⟨g, o, rfl, -⟩ := hcs (by omega)
  subst hv
  have HC0 : Hid (∀ w', Has w' L → w'.cell? ⟨g, o, none⟩ = some (.int .u8 k)) := hid fun w' h => by
    obtain ⟨p, c', e, -, -, hcs⟩ := (hr w' h).form
    rw [hlen] at e hcs
    obtain ⟨g', o', rfl, hc⟩ := hcs (by omega)
    injection e with e
    injection e with e
    injection e with e1 e2
    subst e1 e2
    have := hc 0 (by omega)
    rw [bc_at _ 0 (by rw [hlen]; omega)] at this
    simpa [sealL, sealB] using this
  have HM : Hid (∀ w', Has w' L → Rd w' (.slice (some ⟨g, o + 1, none⟩) 123 (c - 1)) 1 123 (bc (b ++ zs (123 - b.length)))) := hid fun w' h => by
    have := hr w' h
    rw [hlen] at this
    have := this.mid 1 123 (by omega)
    rwa [HMID.out] at this
  have HCA := hid hca
  have hca1 : (124 : Int) ≤ (c : Int) := by omega
  have hca2 : ¬ c = 1 := by omega
  have hk0 : (k == 0) = false := by simpa using hk
  have HKN := hid hk
  have HL := hid hl
  have HLEN := hid hlen
  have h0 := HC0.out w HO.out
  clear hr hcs hlen hl hk hca hO
  generalize b ++ zs (123 - b.length) = bb at *
  go_enter Try.func69, Try.ntmps69
  go_upto_region 3 with fail
  refine region_text (fun w' => w'.cell? ⟨g, o, none⟩ = some (.int .u8 k) ∧ True) (by kernel_rfl) (by kernel_rfl) ⟨HC0.out _ HO.out.drew, trivial⟩ ?_
  repeat (first
    | (refine wpL_read (by rfl) (by rfl) ?_ ?_ ?_; rotate_left; (rintro w ⟨z0, z1⟩; go_simp; with_reducible rfl); simp only [Act.put, List.setIfInBounds_toArray, List.set_cons_zero, List.set_cons_succ]) | (refine wpL_skip (by rfl) ?_; simp only [Act.put, List.setIfInBounds_toArray, List.set_cons_zero, List.set_cons_succ]))
  refine wpL_act (by rfl) (by rfl) (fun K hK => ?_)
  go_simp
  refine (sSeal k _ bb _ _ HKN.out (by rw [HBL.out]; omega) (fun w' h => by rw [HBL.out]; exact HM.out w' h) HO.out.drew).mono ?_
  rintro e w2 ⟨v2, rfl, hO2, hK2⟩
  have HO2 := hid hO2
  have HK2 := hid ((HK.out.drew).trans hK2)
  clear hO2 hK2
  try dsimp only
  refine hK.out _ _ (⟨HC0.out _ HO2.out.drop, trivial⟩) ?_
  clear hK K
  try simp only [Act.put, List.setIfInBounds_toArray, List.set_cons_zero, List.set_cons_succ]
  repeat (first
    | (refine wpL_read (by rfl) (by rfl) ?_ ?_ ?_; rotate_left; (rintro w ⟨z0, z1⟩; go_simp; with_reducible rfl); simp only [Act.put, List.setIfInBounds_toArray, List.set_cons_zero, List.set_cons_succ]) | (refine wpL_skip (by rfl) ?_; simp only [Act.put, List.setIfInBounds_toArray, List.set_cons_zero, List.set_cons_succ]))
  refine wpL_nil ?_
  rw [HAG.out] at HO2
  have HQ : Hid (Calls Try.prog 78 #[v2, .slice (some ⟨g, o, none⟩) 128 c] w2 fun e w' => e = .returned (.bool true) ∧ ∃ n, w' = w2.drewN n) := hid (slEqual v2 _ (sealL k b) w2 (Bytes.rd HO2.out) (HR.out w2 HO2.out.drop))
  go_wp2_with fail
  refine (HQ.out).mono ?_
  rintro e w' ⟨rfl, nq3, rfl⟩
  have HO3 := hid ((HO2.out.drop).drewN nq3)
  have HK3 := hid ((HK2.out).drewN nq3)
  try dsimp only
  generalize w2.drewN nq3 = w3 at *
  have h1 := HC0.out _ HO3.out
  go_wp2_with fail
  go_ret
  exact ⟨rfl, HO3.out, HK3.out⟩
set_option maxRecDepth 100000 in
set_option maxHeartbeats 4000000 in
theorem sOpen (k : Int) (v : Value) (b : List Int) (w : World) (L : List HP) (hk : k ≠ 0) (hl : b.length ≤ 123) (hr : ∀ w', Has w' L → Rd w' v 1 (sealL k b).length (bc (sealL k b))) (hO : Has w L) :
    Calls Try.prog 52 #[.int .u8 k, v] w fun e w' => ∃ v', e = .returned (.tuple #[v', .int .i64 0]) ∧ Has w' (Bytes v' (b ++ zs (123 - b.length)) :: L) ∧ Keep w w' := by
  have hlen := sealL_len (k := k) hl
  have HO := hid hO
  have HK := hid (Keep.refl w)
  have HR := hid hr
  have HMID := hid (sealL_mid k b hl)
  have HBL := hid (show (b ++ zs (123 - b.length)).length = 123 by simp [zs]; omega)
  obtain ⟨p, c, hv, hca, -, hcs⟩ := (hr w hO).form
  rw [hlen] at hv hca hcs
  obtain ⟨g, o, rfl, -⟩ := hcs (by omega)
  subst hv
  have HM : Hid (∀ w', Has w' L → Rd w' (.slice (some ⟨g, o + 1, none⟩) 123 (c - 1)) 1 123 (bc (b ++ zs (123 - b.length)))) := hid fun w' h => by
    have := hr w' h
    rw [hlen] at this
    have := this.mid 1 123 (by omega)
    rwa [HMID.out] at this
  have hca1 : (124 : Int) ≤ (c : Int) := by omega
  have hca2 : ¬ c = 1 := by omega
  have hk0 : (k == 0) = false := by simpa using hk
  have HKN := hid hk
  have HL := hid hl
  clear hr hcs hlen hl hk hca hO
  generalize b ++ zs (123 - b.length) = bb at *
  go_enter Try.func52, Try.ntmps52
  go_wp2_with fail
  refine (sKind k _ b w _ HKN.out HL.out HR.out HO.out).mono ?_
  rintro e w2 ⟨rfl, hO2, hK2⟩
  have HO2 := hid hO2
  have HK2 := hid ((HK.out).trans hK2)
  clear hO2 hK2
  try dsimp only
  go_wp2_with fail
  refine (cloneBytes _ bb w2 _ HO2.out (by rw [HBL.out]; exact HM.out w2 HO2.out) (by rw [HBL.out]; omega)).mono ?_
  rintro e w3 ⟨v3, rfl, hO3, hK3, -⟩
  have HO3 := hid hO3
  have HK3 := hid (HK2.out.trans hK3)
  clear hO3 hK3
  try dsimp only
  go_wp2_with fail
  go_ret2
  exact ⟨v3, rfl, HO3.out, HK3.out⟩
end Go.Proofs.Ytbggnbahmdgbdaa
