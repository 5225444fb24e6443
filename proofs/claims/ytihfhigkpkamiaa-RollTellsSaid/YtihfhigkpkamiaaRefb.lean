/- THE WALK of the reference's Over. -/
import Derived.Test.YtihfhigkpkamiaaRefa
import Derived.Test.YtihfhigkpkamiaaRollc
namespace Go.Proofs.Ytihfhigkpkamiaa
open Go.RowKit Go.Own Go.Rl
theorem RdO.cells3 {w : World} {R : List Ob} {g o n c : Nat} (h : RdO w (.slice (some ⟨g, o, none⟩) n c) R) (k : Nat) (hk : k < R.length) :
    w.cell? ⟨g, o + k * 3, none⟩ = some (.int .i64 R[k].1.sec) ∧ w.cell? ⟨g, o + k * 3 + 1, none⟩ = some (.int .i64 R[k].1.pos) ∧ w.cell? ⟨g, o + k * 3 + 2, none⟩ = some R[k].2 := by
  obtain ⟨vg, vo, c', xp, xm, e, x0, x1, x2, x3, x4⟩ := h.at_ k hk
  simp only [Value.slice.injEq, Option.some.injEq, Addr.mk.injEq, and_true] at e
  obtain ⟨⟨rfl, rfl⟩, -⟩ := e
  rw [x3]
  exact ⟨x0, x1, x2⟩
set_option maxRecDepth 100000 in
set_option maxHeartbeats 8000000 in
theorem refOver (old : Value) (xs : List Int) (s : Int) (v : Value) (R : List Ob) (w : World) (L : List HP) (hr : Rd w old 1 xs.length (bc xs)) (hR : ∀ w', Has w' L → RdO w' v R) (hO : Has w L) :
    Calls Try.prog 17 #[old, .int .i64 s, v] w fun e w' => ∃ v', e = .returned v' ∧ Has w' (Bytes v' (over xs s (R.map (·.1))) :: L) ∧ Keep w w' := by
  obtain ⟨vp, vc, rfl, hvc, hvl⟩ := (hR w hO).form
  have HR := hid hR
  have HO0 := hid hO
  have Hr := hid hr
  clear hR hO hr
  go_enter Try.func17, Try.ntmps17
  go_wp2_with fail
  refine (refSector old xs w L Hr.out HO0.out).mono ?_
  rintro e w1 ⟨g, rfl, hO1, hK1⟩
  have HO1 := hid hO1
  have HK1 := hid hK1
  clear hO1 hK1 HO0 Hr
  try dsimp only
  go_wp2_with fail
  go_loopw [8] (fun i w' => ∃ k : Nat, k ≤ R.length ∧ i = .int .i64 k ∧ Hid (Has w' (Bytes (.slice (some ⟨g, 0, none⟩) 128 128) (over xs s ((R.map (·.1)).take k)) :: L)) ∧ Hid (Keep w w')) (fun i _ => R.length - (intOf i).toNat)
  case atStart => exact ⟨0, by omega, rfl, hid (by simpa [over] using HO1.out), HK1⟩
  case round =>
    clear HO1 HK1
    obtain ⟨k, hk, rfl, HO, HK⟩ := hrel
    by_cases hlt : k < R.length
    · obtain ⟨vg, vo, c', xp, xm, e, x0, x1, x2, x3, x4⟩ := (HR.out _ HO.out.drop).at_ k hlt
      simp only [Value.slice.injEq, true_and] at e
      obtain ⟨rfl, rfl⟩ := e
      have hki : (k : Int) < (R.length : Int) := by omega
      obtain ⟨⟨⟨sc, ps, bs⟩, bv⟩, hq⟩ : ∃ q, R[k] = q := ⟨_, rfl⟩
      rw [hq] at x0 x1 x2 x3 x4
      simp only at x0 x1 x2 x3 x4
      subst x3
      have HB := hid (fun w' (h : Has w' L) => by have := (HR.out w' h).2 _ (List.getElem_mem hlt); rw [hq] at this; exact this : ∀ w', Has w' L → Rd w' (.slice xp bs.length xm) 1 bs.length (bc bs))
      have HC := hid (fun w' (h : Has w' L) => by have := (HR.out w' h).cells3 k hlt; rw [hq] at this; exact this : ∀ w', Has w' L → w'.cell? ⟨vg, vo + k * 3, none⟩ = some (.int .i64 sc) ∧ w'.cell? ⟨vg, vo + k * 3 + 1, none⟩ = some (.int .i64 ps) ∧ w'.cell? ⟨vg, vo + k * 3 + 2, none⟩ = some (.slice xp bs.length xm))
      have HS := hid (show over xs s ((R.map (·.1)).take (k + 1)) = over1 s (over xs s ((R.map (·.1)).take k)) ⟨sc, ps, bs⟩ by rw [over_snoc _ _ _ k (by simpa using hlt), List.getElem_map, hq])
      have HLN := hid (over_len xs s ((R.map (·.1)).take k))
      generalize over xs s ((R.map (·.1)).take k) = out at *
      go_wp2_with fail
      refine (refMay sc ps xp xm bs _ _ x4 HO.out).mono ?_
      rintro e w3 ⟨rfl, hO3, hK3⟩
      have HO3 := hid hO3
      have HK3 := hid (HK.out.trans hK3)
      clear hO3 hK3 HO HK x0 x1 x2
      obtain ⟨y0, y1, y2⟩ := HC.out w3 HO3.out.drop
      by_cases h1 : may ⟨sc, ps, bs⟩ = true
      · rw [h1]
        try dsimp only
        by_cases h2 : sc = s
        · subst h2
          have d2 : (sc == sc) = true := by simp
          obtain ⟨b1, b3, b4, b5, b6⟩ := may_iff.1 h1
          simp only at b1 b3 b4 b5 b6
          obtain ⟨pn, rfl⟩ := Int.eq_ofNat_of_zero_le b3
          have b7 : ((pn : Nat) : Int) ≤ 128 := by omega
          go_upto_region 6 with fail
          refine region_tail1 (fun w => w.cell? ⟨vg, vo + k * 3 + 1, none⟩ = some (.int .i64 (pn : Int)) ∧ w.cell? ⟨vg, vo + k * 3 + 2, none⟩ = some (.slice xp bs.length xm)) (by kernel_rfl) (by kernel_rfl) (by kernel_rfl) (by decide) ⟨y1, y2⟩ ?_
          repeat (first
            | (refine wpL_read (by rfl) (by rfl) ?_ ?_ ?_; rotate_left; (rintro w ⟨hS, hS1⟩; go_simp; with_reducible rfl); simp only [Act.put, List.setIfInBounds_toArray, List.set_cons_zero, List.set_cons_succ])
            | (refine wpL_skip (by rfl) ?_; simp only [Act.put, List.setIfInBounds_toArray, List.set_cons_zero, List.set_cons_succ]))
          refine wpL_nil ?_
          refine wpOp_last rfl (by rfl) ?_
          have hne : ¬ 128 = pn := by omega
          rw [if_neg hne]
          have hP := HO3.out
          unfold Bytes at hP
          rw [HLN.out] at hP
          refine wp_copy _ _ _ _ rfl Try.underlying22 (by kernel_rfl) hP.drew (128 - pn) (128 - pn) xm xp rfl rfl (HB.out w3 hP.drop) (bc_one _) (by omega) ?_
          intro w4 h4 hk4
          have hmn : min bs.length (128 - pn) = bs.length := by omega
          rw [show pn = (⟨sc, (pn : Int), bs⟩ : Piece).pos.toNat from rfl, lay_bc out ⟨sc, pn, bs⟩ h1 HLN.out] at h4
          have hll := lay_len h1 HLN.out
          have HO4 := hid (show Has w4 (Bytes (.slice (some ⟨g, 0, none⟩) 128 128) (over xs sc ((R.map (·.1)).take (k + 1))) :: L) by
            rw [HS.out, over1, h1, d2]; unfold Bytes; rw [Bool.and_self, if_pos rfl, hll]; exact h4)
          have HK4 := hid (HK3.out.trans ((Keep.refl w3).drew.trans hk4))
          clear h4 hk4 hP HO3 HK3 y0 y1 y2
          try dsimp only
          go_wp2_with fail
          exact ⟨⟨k + 1, by omega, rfl, HO4, HK4⟩, by simp [intOf]; omega⟩
        · have d2 : (sc == s) = false := by simp [h2]
          go_wp2_with fail
          refine ⟨⟨k + 1, by omega, rfl, hid ?_, HK3⟩, by simp [intOf]; omega⟩
          rw [HS.out, over1, h1, d2]
          exact HO3.out
      · simp only [Bool.not_eq_true] at h1
        rw [h1]
        try dsimp only
        go_wp2_with fail
        refine ⟨⟨k + 1, by omega, rfl, hid ?_, HK3⟩, by simp [intOf]; omega⟩
        rw [HS.out, over1, h1]
        exact HO3.out
    · obtain rfl : k = R.length := by omega
      go_wp2_with fail
      go_ret
      have h := HO.out
      rw [List.take_of_length_le (by simp)] at h
      exact ⟨_, rfl, h, HK.out⟩
end Go.Proofs.Ytihfhigkpkamiaa
