/- THE WALK of SameObjects, where they are the same. -/
import Derived.Test.YtihfhigkpkamiaaRefb
namespace Go.Proofs.Ytihfhigkpkamiaa
open Go.RowKit Go.Own Go.Rl
set_option maxRecDepth 100000 in
set_option maxHeartbeats 8000000 in
theorem sameObjectsYes (v u : Value) (R T : List Ob) (w : World) (h : R.map (·.1) = T.map (·.1)) (hR : RdO w v R) (hT : RdO w u T) :
    Calls Try.prog 19 #[v, u] w fun e w' => e = .returned (.bool true) ∧ ∃ n, w' = w.drewN n := by
  have hlen : R.length = T.length := by have := congrArg List.length h; simpa using this
  obtain ⟨vp, vc, rfl, hvc, hvl⟩ := hR.form
  obtain ⟨up, uc, rfl, huc, hul⟩ := hT.form
  have HR := hid hR
  have HT := hid hT
  have HE := hid h
  clear hR hT h
  have HL := hid hlen
  rw [← hlen]
  rw [← hlen] at huc hul
  clear hlen
  go_enter Try.func19, Try.ntmps19
  go_wp2_with fail
  go_loopw [5] (fun i w' => ∃ k m : Nat, k ≤ R.length ∧ i = .int .i64 k ∧ w' = w.drewN m) (fun i _ => R.length - (intOf i).toNat)
  case atStart => exact ⟨0, 0, by omega, rfl, rfl⟩
  case round =>
    obtain ⟨k, m, hk, rfl, rfl⟩ := hrel
    by_cases hlt : k < R.length
    · have hki : (k : Int) < (R.length : Int) := by omega
      have hkT : k < T.length := by rw [← HL.out]; exact hlt
      obtain ⟨g, o, c, p1, m1, e1, x0, x1, x2, x3, x4⟩ := (HR.out.drewN m).at_ k hlt
      simp only [Value.slice.injEq, true_and] at e1
      obtain ⟨rfl, rfl⟩ := e1
      obtain ⟨g2, o2, c2, p2, m2, e2, y0, y1, y2, y3, y4⟩ := (HT.out.drewN m).at_ k hkT
      rw [← HL.out] at e2
      simp only [Value.slice.injEq, true_and] at e2
      obtain ⟨rfl, rfl⟩ := e2
      have hb1 := (HR.out.drewN m).2 _ (List.getElem_mem hlt)
      have hb2 := (HT.out.drewN m).2 _ (List.getElem_mem hkT)
      have hpe : T[k].1 = R[k].1 := by
        have := congrArg (fun l => l[k]?) HE.out
        simp only [List.getElem?_map, List.getElem?_eq_getElem hlt, List.getElem?_eq_getElem hkT, Option.map_some, Option.some.injEq] at this
        exact this.symm
      rw [x3] at hb1
      rw [y3, hpe] at hb2
      rw [hpe] at y0 y1 y2
      have HB1 := hid hb1
      have HB2 := hid hb2
      clear hb1 hb2 x3 y3 x4 y4 hpe
      obtain ⟨⟨sc, ps, bs⟩, hq⟩ : ∃ q, R[k].1 = q := ⟨_, rfl⟩
      rw [hq] at x0 x1 x2 y0 y1 y2 HB1 HB2
      simp only at x0 x1 x2 y0 y1 y2 HB1 HB2
      clear hq
      have hne : ∀ z : Int, (z != z) = false := fun z => by simp
      go_wp2_with fail
      refine region_text (fun w => w.cell? ⟨g, o + k * 3, none⟩ = some (.int .i64 sc) ∧ w.cell? ⟨g, o + k * 3 + 1, none⟩ = some (.int .i64 ps) ∧ w.cell? ⟨g, o + k * 3 + 2, none⟩ = some (.slice p1 bs.length m1) ∧ w.cell? ⟨g2, o2 + k * 3, none⟩ = some (.int .i64 sc) ∧ w.cell? ⟨g2, o2 + k * 3 + 1, none⟩ = some (.int .i64 ps) ∧ w.cell? ⟨g2, o2 + k * 3 + 2, none⟩ = some (.slice p2 bs.length m2)) (by kernel_rfl) (by kernel_rfl) ⟨x0, x1, x2, y0, y1, y2⟩ ?_
      repeat (first
        | (refine wpL_read (by rfl) (by rfl) ?_ ?_ ?_; rotate_left; (rintro w ⟨z0, z1, z2, z3, z4, z5⟩; go_simp; with_reducible rfl); simp only [Act.put, List.setIfInBounds_toArray, List.set_cons_zero, List.set_cons_succ])
        | (refine wpL_skip (by rfl) ?_; simp only [Act.put, List.setIfInBounds_toArray, List.set_cons_zero, List.set_cons_succ]))
      refine wpL_act (by rfl) (by rfl) (fun K hK => ?_)
      go_simp
      refine (sameBytesYes _ _ bs _ (HB1.out.drewN 1) (HB2.out.drewN 1)).mono ?_
      rintro e w7 ⟨rfl, nn, rfl⟩
      try dsimp only
      refine hK.out _ _ ⟨x0, x1, x2, y0, y1, y2⟩ ?_
      clear hK K
      try simp only [Act.put, List.setIfInBounds_toArray, List.set_cons_zero, List.set_cons_succ]
      repeat (first
        | (refine wpL_read (by rfl) (by rfl) ?_ ?_ ?_; rotate_left; (rintro w ⟨z0, z1, z2, z3, z4, z5⟩; go_simp; with_reducible rfl); simp only [Act.put, List.setIfInBounds_toArray, List.set_cons_zero, List.set_cons_succ])
        | (refine wpL_skip (by rfl) ?_; simp only [Act.put, List.setIfInBounds_toArray, List.set_cons_zero, List.set_cons_succ]))
      refine wpL_nil ?_
      go_wp2_with fail
      exact ⟨⟨k + 1, m + 1 + nn, by omega, rfl, rfl⟩, by simp [intOf]; omega⟩
    · have hki : ¬ (k : Int) < (R.length : Int) := by omega
      go_wp2_with fail
      go_ret
      exact ⟨rfl, m, rfl⟩
end Go.Proofs.Ytihfhigkpkamiaa
