/- TEXTS of mine, merged. -/
import Derived.Test.YtajlikakbihgbaaM15
import Derived.Test.YtajlikakbihgbaaM1
import Derived.ProofKit
import Derived.OpenShut
import Derived.ShutString
import Derived.ChangeOld
import Derived.Deep.Slices
/- CacheScript: both caches answer alike under any script. For every input. -/
namespace Go.Proofs.Ytajlikakbihgbaa
open Go.RowKit Go.Own Go.Ch Go.Dk
def ActG (xs : List Value) (i : Nat) : Prop := ∃ (do_ a n : Int) (on : Bool), xs[i * 4]? = some (.int .i64 do_) ∧ xs[i * 4 + 1]? = some (.int .i64 a) ∧ xs[i * 4 + 2]? = some (.int .i64 n) ∧ xs[i * 4 + 3]? = some (.bool on)
theorem CI.nil (most : Int) (n : Nat) (h : 0 ≤ most) : CI most n [] := ⟨by simp, by simp, by simp, .inl (by simpa using h)⟩
theorem rcc_new {w : World} {L : List HP} {r c : Nat} {most : Int} (h : Has w (pt r (.cells #[rP c, .int .i64 most, .slice none 0 0] 51) :: L)) : Has w (Rcc r (rP c) most [] :: L) :=
  rcc_iff.2 ⟨.slice none 0 0, [], [], ⟨rfl, by simp⟩, ((h.pool_nil (u8 := 5)).row_nil 92 4).re 3 [2, 0, 1]⟩
set_option maxRecDepth 100000 in
set_option maxHeartbeats 8000000 in
theorem cacheScriptWalk (most : Int) (v : Value) (n : Nat) (xs : List Value) (W : World) (ha : Rd W v 4 n xs) (hx : ∀ i, i < n → ActG xs i) :
    Calls Try.prog 6 #[.int .i64 most, v] W fun e w' => e = .returned (.bool true) ∧ Below W.heap.size W w' := by
  obtain ⟨vp, vc, rfl, hvc, hvl, hR⟩ := ha.form
  have HR := hid ha
  have HX := hid hx
  have HO0 := hid (Has.start W)
  have HRR := hid hR
  clear ha hx hR
  by_cases hbig : 60 < n
  · have hb1 : (60 : Int) < (n : Int) := by omega
    go_enter Try.func6, Try.ntmps6
    go_wp2_with fail
    refine (awake18 W _ HO0.out).mono ?_
    rintro e w1 ⟨rfl, hO1, hK1⟩
    have HO1 := hid hO1
    have HK1 := hid ((Keep.refl W).trans hK1)
    clear hO1 hK1
    try dsimp only
    go_wp2_with fail
    go_ret
    exact ⟨rfl, HO1.out.below HK1.out.os HK1.out.tape HK1.out.output⟩
  have hb1 : ¬ (60 : Int) < (n : Int) := by omega
  by_cases hsec : 20 < most
  · go_enter Try.func6, Try.ntmps6
    go_wp2_with fail
    refine (awake18 W _ HO0.out).mono ?_
    rintro e w1 ⟨rfl, hO1, hK1⟩
    have HO1 := hid hO1
    have HK1 := hid ((Keep.refl W).trans hK1)
    clear hO1 hK1
    try dsimp only
    go_wp2_with fail
    go_ret
    exact ⟨rfl, HO1.out.below HK1.out.os HK1.out.tape HK1.out.output⟩
  have hK1 := fun (d : Nat) (w : World) => kcNewNil (.pointer (some ⟨d, 0, none⟩)) most w
  have HKN := hid hK1
  clear hK1
  go_enter Try.func6, Try.ntmps6
  go_wp2_with fail
  refine (kNew 12 W _ (by omega) (by omega) HO0.out).mono ?_
  rintro e w1 ⟨d, rfl, hO1, hK1⟩
  have HO1 := hid hO1
  have HK1 := hid hK1
  clear hO1 hK1
  try dsimp only
  go_wp2_with fail
  refine (rkNew 12 w1 _ (by omega) (by omega) HO1.out).mono ?_
  rintro e w2 ⟨c, rfl, hO2, hK2⟩
  have HO2 := hid ((hO2.p1).alloc (.cells #[rP c, .int .i64 most, .slice none 0 0] 51))
  have HK2 := hid ((HK1.out.trans hK2).alloc (.cells #[rP c, .int .i64 most, .slice none 0 0] 51))
  clear hO2 hK2 HO1 HK1
  try dsimp only
  go_wp2_with fail
  generalize w2.heap.size = r at *
  by_cases hs1 : most < 1
  · refine (HKN.out d _ (.inr ⟨hs1, _, rfl⟩)).mono ?_
    rintro e w' ⟨rfl, rfl⟩
    generalize w2.alloc (.cells #[rP c, .int .i64 most, .slice none 0 0] 51) = w3 at *
    try dsimp only
    go_wp2_with fail
    refine (awake18 w3 _ HO2.out).mono ?_
    rintro e w3 ⟨rfl, hO3, hK3⟩
    have HO3 := hid hO3
    have HK3 := hid ((HK2.out).trans hK3)
    clear hO3 hK3
    try dsimp only
    go_wp2_with fail
    go_ret
    exact ⟨rfl, HO3.out.p3.below HK3.out.os HK3.out.tape HK3.out.output⟩
  have hm : 0 ≤ most ∧ most ≤ 1000000 := by omega
  refine (kcNew (.pointer (some ⟨d, 0, none⟩)) _ rfl most _ _ (by omega) HO2.out).mono ?_
  rintro e w3 ⟨q, rfl, hO3, hK3⟩
  have HO3 := hid (show Has w3 (Cch q (dP d) most [] :: Dk d (Bk.zero 12) :: Rcc r (rP c) most [] :: RDk c (Bk.zero 12) :: [old W]) from (rcc_new (hO3.re 2 [1, 0])).re 4 [1, 2, 0, 3])
  have HK3 := hid (HK2.out.trans hK3)
  have HM := hid hm
  clear hO3 hK3 HO2 HK2 hm hsec hbig HKN
  try dsimp only
  go_wp2_with fail
  go_loopw [8] (fun i w => ∃ k : Nat, k ≤ n ∧ i = .int .i64 k ∧ Hid (∃ (K : List Hb) (E : Bk), Bd E k ∧ CI most E.firm.length K ∧ E.firm.length = 12 ∧ Has w (Cch q (dP d) most K :: Dk d E :: Rcc r (rP c) most K :: RDk c E :: [old W])) ∧ Hid (Keep W w)) (fun i _ => n - (intOf i).toNat)
  case atStart => exact ⟨0, by omega, rfl, hid ⟨[], Bk.zero 12, ⟨by simp [Bk.zero], by simp [Bk.zero], by simp [Bk.zero]⟩, CI.nil _ _ HM.out.1, by simp [Bk.zero], HO3.out⟩, HK3⟩
  case round =>
    clear HO3 HK3
    obtain ⟨k, hk, rfl, HY, HK⟩ := hrel
    obtain ⟨K, E, hB, hI, hF, hO⟩ := HY.out
    have HO := hid hO
    have HB := hid hB
    have HI := hid hI
    have HF := hid hF
    clear hO hB hF hI HY
    have HCR := hid (fun (w' : World) (K' : List Hb) (l : List HP) (h : Has w' (Rcc r (rP c) most K' :: l)) => show w'.cell? ⟨r, 0, none⟩ = some (rP c) from by
      obtain ⟨v0, T0, B0, hT0, h0⟩ := rcc_iff.1 h
      exact h0.cells 0)
    by_cases hlt : k < n
    · obtain ⟨g, o, rfl, -⟩ := HRR.out (by omega)
      obtain ⟨do_, a, nn, on, x0, x1, x2, x3⟩ := HX.out k hlt
      obtain ⟨p', c', e, -, -, hcs⟩ := (HR.out.cellsOld HO.out.p4.old_look).form
      simp only [Value.slice.injEq, true_and] at e
      obtain ⟨rfl, rfl⟩ := e
      obtain ⟨g', o', e, hcs⟩ := hcs (by omega)
      simp only [Option.some.injEq, Addr.mk.injEq, and_true] at e
      obtain ⟨rfl, rfl⟩ := e
      have h0 := (hcs (k * 4) (by omega)).trans x0
      have h1 := (hcs (k * 4 + 1) (by omega)).trans x1
      have h2 := (hcs (k * 4 + 2) (by omega)).trans x2
      have h3 := (hcs (k * 4 + 3) (by omega)).trans x3
      simp only [← Nat.add_assoc] at h1 h2 h3
      have hki : (k : Int) < (n : Int) := by omega
      have hk0 : (0 : Int) ≤ (k : Int) := by omega
      have HKK := hid (show k ≤ 1000 by omega)
      have HRL := hid (fun x => Nat.le_trans (rkLen c E wr _ HO.out.p3 x) (show 128 ≤ 1000 by omega))
      have HLT := hid hlt
      clear hcs x0 x1 x2 x3 hlt hk
      go_wp2_with fail
      refine (cdAny a nn on do_ HI.out HM.out (by have := HF.out; omega) HB.out HKK.out HO.out).mono ?_
      rintro e w3 ⟨rfl, hO3, hK3⟩
      have HO3 := hid hO3
      have HK3 := hid ((HK.out).trans hK3)
      clear hO3 hK3
      try dsimp only
      have HB3 := hid (stepC_bd (most := most) (K := K) HB.out a nn on do_)
      have HI3 := hid (stepC_ci HI.out HRL.out a nn on do_)
      generalize stepC most K E do_ a nn on = KE at *
      obtain ⟨K3, E3⟩ := KE
      dsimp only at HB3 HI3 HO3
      have HF3 := hid (HB3.out.2.trans HF.out)
      rw [← HB3.out.2] at HI3
      clear HB HF HI HO HK h0 h1 h2 h3 HRL
      have HLK := hid (show K3.length ≤ 12 from by have := HI3.out.short; have := HF3.out; omega)
      go_wp2_with fail
      refine (kcHeld q (dP d) most K3 w3 _ (by have := HLK.out; omega) HO3.out).mono ?_
      rintro e w4 ⟨v4, rfl, hO4, hK4⟩
      have HO4 := hid hO4
      have HK4 := hid ((HK3.out).trans hK4)
      clear hO4 hK4
      try dsimp only
      have HL4 := hid (show (K3.map Hb.at_).length ≤ 12 from by rw [List.length_map]; exact HLK.out)
      generalize hA4 : K3.map Hb.at_ = A4 at *
      have HA4 := hid hA4
      clear hA4
      have hdir := HI3.out.dirty
      rw [HF3.out] at hdir
      have HDL := hid (show (dirS K3 12).length ≤ 12 from dirS_len K3 12)
      generalize hA5 : dirS K3 12 = A5 at *
      have HA5 := hid hA5
      have HDIR := hid hdir
      clear hA5 hdir
      obtain ⟨p4, c4, e4, -⟩ := (Ints.rd HO4.out).form
      subst e4
      go_wp2_with fail
      refine (kcDirty q (dP d) most K3 w4 _ (by have := HLK.out; omega) HO4.out.p1).mono ?_
      rintro e w5 ⟨v5, rfl, hO5, hK5⟩
      have HO5 := hid hO5
      have HK5 := hid ((HK4.out).trans hK5)
      clear hO5 hK5
      try dsimp only
      rw [HDIR.out] at HO5
      obtain ⟨p5, c5, e5, -⟩ := (Ints.rd HO5.out).form
      subst e5
      clear HO3 HK3 HO4 HK4
      obtain ⟨D, hD, hP⟩ := rdk_iff.1 HO5.out.p5
      obtain ⟨fv, wv, kv, lv, ks, left, B, hok, hP⟩ := rdsk_iff.1 hP
      have HFL := hid (show E3.firm = D.firm.map (·.2) by rw [← hD]; rfl)
      have HLL := hid (show E3.writes = D.writes by rw [← hD]; rfl)
      have HLB := hid (show E3.writes.length ≤ 1000000000 by have h := HB3.out.1.writes; have := HKK.out; omega)
      have HN12 := hid (show D.firm.length = 12 by have h := HF3.out; rw [HFL.out, List.length_map] at h; exact h)
      have HD := hid hD
      have HOK := hid hok
      obtain ⟨fp, fc, rfl, -⟩ := hP.p1.rd.form
      obtain ⟨lp, lc, rfl, -⟩ := (Ints.rd hP.p4).form
      have HP := hid hP
      have HXR := hid (HCR.out _ _ _ (hP.re 11 [10, 0]))
      clear hD hP hok HO5
      go_upto_region 15 with fail
      refine region_text (fun w => w.cell? ⟨r, 0, none⟩ = some (rP c) ∧ w.cell? ⟨c, 6, none⟩ = some (.slice lp D.writes.length lc)) (by kernel_rfl) (by kernel_rfl) ⟨HCR.out _ _ _ (HP.out.drew.re 11 [10, 0]), HP.out.drew.cells 6⟩ ?_
      repeat (first
        | (refine wpL_read (by rfl) (by rfl) ?_ ?_ ?_; rotate_left; (rintro w ⟨z0, z1⟩; go_simp; with_reducible rfl); simp only [Act.put, List.setIfInBounds_toArray, List.set_cons_zero, List.set_cons_succ]) | (refine wpL_skip (by rfl) ?_; simp only [Act.put, List.setIfInBounds_toArray, List.set_cons_zero, List.set_cons_succ]))
      refine wpL_act (by rfl) (by rfl) (fun K hK => ?_)
      go_simp
      refine (rcList r (rP c) most K3 _ _ (by have := HLK.out; omega) (HP.out.drew.re 11 [10, 0, 1, 2, 3, 4, 5, 6, 7, 8, 9])).mono ?_
      rintro e w6 ⟨v6, rfl, hO6, hK6⟩
      have HO6 := hid hO6
      have HK6 := hid ((HK5.out.drew).trans hK6)
      clear hO6 hK6
      try dsimp only
      refine hK.out _ _ (⟨HCR.out _ _ _ HO6.out.p1, HO6.out.p2.cells 6⟩) ?_
      clear hK K
      try simp only [Act.put, List.setIfInBounds_toArray, List.set_cons_zero, List.set_cons_succ]
      rw [HA4.out] at HO6
      obtain ⟨p6, c6, e6, -⟩ := (Ints.rd HO6.out).form
      subst e6
      clear HP HK5 HXR
      repeat (first
        | (refine wpL_read (by rfl) (by rfl) ?_ ?_ ?_; rotate_left; (rintro w ⟨z0, z1⟩; go_simp; with_reducible rfl); simp only [Act.put, List.setIfInBounds_toArray, List.set_cons_zero, List.set_cons_succ]) | (refine wpL_skip (by rfl) ?_; simp only [Act.put, List.setIfInBounds_toArray, List.set_cons_zero, List.set_cons_succ]))
      refine wpL_act (by rfl) (by rfl) (fun K hK => ?_)
      go_simp
      refine (sameIntsYes (.slice p4 A4.length c4) (.slice p6 A4.length c6) A4 w6 (Ints.rd (HO6.out.re 11 [10])) (Ints.rd HO6.out)).mono ?_
      rintro e w' ⟨rfl, nq7, rfl⟩
      have HO7 := hid ((HO6.out).drewN nq7)
      have HK7 := hid ((HK6.out).drewN nq7)
      try dsimp only
      refine hK.out _ _ (⟨HCR.out _ _ _ HO7.out.p1, HO7.out.p2.cells 6⟩) ?_
      clear hK K
      try simp only [Act.put, List.setIfInBounds_toArray, List.set_cons_zero, List.set_cons_succ]
      generalize w6.drewN nq7 = w7 at *
      clear HO6 HK6
      repeat (first
        | (refine wpL_read (by rfl) (by rfl) ?_ ?_ ?_; rotate_left; (rintro w ⟨z0, z1⟩; go_simp; with_reducible rfl); simp only [Act.put, List.setIfInBounds_toArray, List.set_cons_zero, List.set_cons_succ]) | (refine wpL_skip (by rfl) ?_; simp only [Act.put, List.setIfInBounds_toArray, List.set_cons_zero, List.set_cons_succ]))
      refine wpL_act (by rfl) (by rfl) (fun K hK => ?_)
      go_simp
      refine (rcDirties r c most K3 12 w7 _ (by have := HLK.out; omega) (by omega) (fun w' h => ⟨fp, fc, by rw [← HN12.out]; exact h.p1.cells 0⟩) HO7.out.p1).mono ?_
      rintro e w8 ⟨v8, rfl, hO8, hK8⟩
      have HO8 := hid hO8
      have HK8 := hid ((HK7.out).trans hK8)
      clear hO8 hK8
      try dsimp only
      refine hK.out _ _ (⟨HCR.out _ _ _ HO8.out.p1, HO8.out.p3.cells 6⟩) ?_
      clear hK K
      try simp only [Act.put, List.setIfInBounds_toArray, List.set_cons_zero, List.set_cons_succ]
      rw [HA5.out] at HO8
      obtain ⟨p8, c8, e8, -⟩ := (Ints.rd HO8.out).form
      subst e8
      clear HO7 HK7
      repeat (first
        | (refine wpL_read (by rfl) (by rfl) ?_ ?_ ?_; rotate_left; (rintro w ⟨z0, z1⟩; go_simp; with_reducible rfl); simp only [Act.put, List.setIfInBounds_toArray, List.set_cons_zero, List.set_cons_succ]) | (refine wpL_skip (by rfl) ?_; simp only [Act.put, List.setIfInBounds_toArray, List.set_cons_zero, List.set_cons_succ]))
      refine wpL_act (by rfl) (by rfl) (fun K hK => ?_)
      go_simp
      refine (sameIntsYes (.slice p5 A5.length c5) (.slice p8 A5.length c8) A5 w8 (Ints.rd (HO8.out.re 10 [9])) (Ints.rd HO8.out)).mono ?_
      rintro e w' ⟨rfl, nq9, rfl⟩
      have HO9 := hid ((HO8.out).drewN nq9)
      have HK9 := hid ((HK8.out).drewN nq9)
      try dsimp only
      refine hK.out _ _ (⟨HCR.out _ _ _ HO9.out.p1, HO9.out.p3.cells 6⟩) ?_
      clear hK K
      try simp only [Act.put, List.setIfInBounds_toArray, List.set_cons_zero, List.set_cons_succ]
      generalize w8.drewN nq9 = w9 at *
      clear HO8 HK8
      repeat (first
        | (refine wpL_read (by rfl) (by rfl) ?_ ?_ ?_; rotate_left; (rintro w ⟨z0, z1⟩; go_simp; with_reducible rfl); simp only [Act.put, List.setIfInBounds_toArray, List.set_cons_zero, List.set_cons_succ]) | (refine wpL_skip (by rfl) ?_; simp only [Act.put, List.setIfInBounds_toArray, List.set_cons_zero, List.set_cons_succ]))
      refine wpL_act (by rfl) (by rfl) (fun K hK => ?_)
      go_simp
      refine (kWrites d E3 w9 _ (HO9.out.re 13 [12, 0, 1, 2, 3, 4, 5, 6, 7, 8, 9, 10, 11]) HLB.out).mono ?_
      rintro e w10 ⟨v10, rfl, hO10, hK10⟩
      have HO10 := hid hO10
      have HK10 := hid ((HK9.out).trans hK10)
      clear hO10 hK10
      try dsimp only
      refine hK.out _ _ (⟨HCR.out _ _ _ HO10.out.p3, HO10.out.p5.cells 6⟩) ?_
      clear hK K
      try simp only [Act.put, List.setIfInBounds_toArray, List.set_cons_zero, List.set_cons_succ]
      rw [HLL.out] at HO10
      obtain ⟨p10, c10, e10, -⟩ := (Ints.rd HO10.out).form
      subst e10
      clear HO9 HK9
      repeat (first
        | (refine wpL_read (by rfl) (by rfl) ?_ ?_ ?_; rotate_left; (rintro w ⟨z0, z1⟩; go_simp; with_reducible rfl); simp only [Act.put, List.setIfInBounds_toArray, List.set_cons_zero, List.set_cons_succ]) | (refine wpL_skip (by rfl) ?_; simp only [Act.put, List.setIfInBounds_toArray, List.set_cons_zero, List.set_cons_succ]))
      refine wpL_act (by rfl) (by rfl) (fun K hK => ?_)
      go_simp
      refine (sameIntsYes (.slice p10 D.writes.length c10) (.slice lp D.writes.length lc) D.writes w10 (Ints.rd HO10.out) (Ints.rd (HO10.out.re 10 [9]))).mono ?_
      rintro e w' ⟨rfl, nq11, rfl⟩
      have HO11 := hid ((HO10.out).drewN nq11)
      have HK11 := hid ((HK10.out).drewN nq11)
      try dsimp only
      refine hK.out _ _ (⟨HCR.out _ _ _ HO11.out.p3, HO11.out.p5.cells 6⟩) ?_
      clear hK K
      try simp only [Act.put, List.setIfInBounds_toArray, List.set_cons_zero, List.set_cons_succ]
      generalize w10.drewN nq11 = w11 at *
      clear HO10 HK10
      repeat (first
        | (refine wpL_read (by rfl) (by rfl) ?_ ?_ ?_; rotate_left; (rintro w ⟨z0, z1⟩; go_simp; with_reducible rfl); simp only [Act.put, List.setIfInBounds_toArray, List.set_cons_zero, List.set_cons_succ]) | (refine wpL_skip (by rfl) ?_; simp only [Act.put, List.setIfInBounds_toArray, List.set_cons_zero, List.set_cons_succ]))
      refine wpL_nil ?_
      go_wp2_with fail
      refine (overInts (.slice p4 A4.length c4) A4 w11 _ (HO11.out.re 14 [13, 0, 1, 2, 3, 4, 5, 6, 7, 8, 9, 10, 11, 12]) (by have := HL4.out; omega)).mono ?_
      rintro e w12 ⟨rfl, h12, k12⟩
      have HO12 := hid h12
      have HK12 := hid (HK11.out.trans k12)
      clear h12 k12 HO11 HK11
      try dsimp only
      go_wp2_with fail
      refine (overInts (.slice p5 A5.length c5) A5 w12 _ (HO12.out.re 12 [11, 0, 1, 2, 3, 4, 5, 6, 7, 8, 9, 10]) (by have := HDL.out; omega)).mono ?_
      rintro e w13 ⟨rfl, h13, k13⟩
      have HO13 := hid (show Has w13 (Cch q (dP d) most K3 :: Dk d E3 :: Rcc r (rP c) most K3 :: RDk c E3 :: [old W]) from (rdk_iff.2 ⟨D, HD.out, rdsk_iff.2 ⟨_, _, _, _, ks, left, B, HOK.out, h13.re 12 [5, 6, 7, 8, 9, 10, 11, 1, 3]⟩⟩).re 4 [1, 2, 3, 0])
      have HK13 := hid (HK12.out.trans k13)
      clear h13 k13 HO12 HK12
      try dsimp only
      go_wp2_with fail
      exact ⟨⟨k + 1, by have := HLT.out; omega, by go_num, hid ⟨K3, E3, HB3.out.1, HI3.out, HF3.out, HO13.out⟩, HK13⟩, by have := HLT.out; simp [intOf]; omega⟩
    · obtain rfl : k = n := by omega
      have hki : ¬ (k : Int) < (k : Int) := by omega
      obtain ⟨D, hD, hP⟩ := rdk_iff.1 HO.out.p3
      obtain ⟨fv, wv, kv, lv, ks, left, B, hok, hP⟩ := rdsk_iff.1 hP
      have HFL := hid (show E.firm = D.firm.map (·.2) by rw [← hD]; rfl)
      have HOK := hid hok
      obtain ⟨fp, fc, rfl, -⟩ := hP.p1.rd.form
      have HP := hid hP
      clear hD hP hok hlt hk HO
      go_upto_region 19 with fail
      refine region_text (fun w => w.cell? ⟨r, 0, none⟩ = some (rP c) ∧ w.cell? ⟨c, 0, none⟩ = some (.slice fp D.firm.length fc)) (by kernel_rfl) (by kernel_rfl) ⟨HCR.out _ _ _ (HP.out.drew.re 9 [8, 0]), HP.out.drew.cells 0⟩ ?_
      repeat (first
        | (refine wpL_read (by rfl) (by rfl) ?_ ?_ ?_; rotate_left; (rintro w ⟨z0, z1⟩; go_simp; with_reducible rfl); simp only [Act.put, List.setIfInBounds_toArray, List.set_cons_zero, List.set_cons_succ]) | (refine wpL_skip (by rfl) ?_; simp only [Act.put, List.setIfInBounds_toArray, List.set_cons_zero, List.set_cons_succ]))
      refine wpL_act (by rfl) (by rfl) (fun K hK => ?_)
      go_simp
      refine (kImage d E _ _ (HP.out.drew.re 8 [7, 0, 1, 2, 3, 4, 5, 6]) (by have := HF.out; omega)).mono ?_
      rintro e w6 ⟨v6, rfl, hO6, hK6⟩
      have HO6 := hid hO6
      have HK6 := hid ((HK.out.drew).trans hK6)
      clear hO6 hK6
      try dsimp only
      refine hK.out _ _ (⟨HCR.out _ _ _ (HO6.out.re 10 [9, 0]), HO6.out.p2.cells 0⟩) ?_
      clear hK K
      try simp only [Act.put, List.setIfInBounds_toArray, List.set_cons_zero, List.set_cons_succ]
      have HRT := hid (show RdT w6 (.slice fp D.firm.length fc) E.firm from by rw [HFL.out]; exact ⟨D.firm, rfl, HO6.out.p3.rd, fun x hx => (HO6.out.re 8 [7]).pool_rd (HOK.out.1.firm x hx)⟩)
      clear HP HK
      repeat (first
        | (refine wpL_read (by rfl) (by rfl) ?_ ?_ ?_; rotate_left; (rintro w ⟨z0, z1⟩; go_simp; with_reducible rfl); simp only [Act.put, List.setIfInBounds_toArray, List.set_cons_zero, List.set_cons_succ]) | (refine wpL_skip (by rfl) ?_; simp only [Act.put, List.setIfInBounds_toArray, List.set_cons_zero, List.set_cons_succ]))
      refine wpL_act (by rfl) (by rfl) (fun K hK => ?_)
      go_simp
      refine (sameTexts v6 (.slice fp D.firm.length fc) E.firm E.firm _ (Prts.rd HO6.out) HRT.out).mono ?_
      rintro e w' ⟨rfl, nq7, rfl⟩
      have HO7 := hid ((HO6.out).drewN nq7)
      have HK7 := hid ((HK6.out).drewN nq7)
      try dsimp only
      refine hK.out _ _ (⟨HCR.out _ _ _ (HO7.out.re 10 [9, 0]), HO7.out.p2.cells 0⟩) ?_
      clear hK K
      try simp only [Act.put, List.setIfInBounds_toArray, List.set_cons_zero, List.set_cons_succ]
      simp only [decide_true]
      generalize w6.drewN nq7 = w7 at *
      clear HO6 HK6
      repeat (first
        | (refine wpL_read (by rfl) (by rfl) ?_ ?_ ?_; rotate_left; (rintro w ⟨z0, z1⟩; go_simp; with_reducible rfl); simp only [Act.put, List.setIfInBounds_toArray, List.set_cons_zero, List.set_cons_succ]) | (refine wpL_skip (by rfl) ?_; simp only [Act.put, List.setIfInBounds_toArray, List.set_cons_zero, List.set_cons_succ]))
      refine wpL_act (by rfl) (by rfl) (fun K hK => ?_)
      go_simp
      refine (awake18 w7 _ HO7.out).mono ?_
      rintro e w8 ⟨rfl, hO8, hK8⟩
      have HO8 := hid hO8
      have HK8 := hid ((HK7.out).trans hK8)
      clear hO8 hK8
      try dsimp only
      refine hK.out _ _ (⟨HCR.out _ _ _ (HO8.out.re 10 [9, 0]), HO8.out.p2.cells 0⟩) ?_
      clear hK K
      try simp only [Act.put, List.setIfInBounds_toArray, List.set_cons_zero, List.set_cons_succ]
      repeat (first
        | (refine wpL_read (by rfl) (by rfl) ?_ ?_ ?_; rotate_left; (rintro w ⟨z0, z1⟩; go_simp; with_reducible rfl); simp only [Act.put, List.setIfInBounds_toArray, List.set_cons_zero, List.set_cons_succ]) | (refine wpL_skip (by rfl) ?_; simp only [Act.put, List.setIfInBounds_toArray, List.set_cons_zero, List.set_cons_succ]))
      refine wpL_nil ?_
      go_wp2_with fail
      go_ret
      exact ⟨rfl, (HO8.out.re 11 [10]).below HK8.out.os HK8.out.tape HK8.out.output⟩
end Go.Proofs.Ytajlikakbihgbaa
/- HOW ARGUMENTS ARE OPENED: from the form's reading to cells. No program in sight. -/
namespace Go.Own
open Go.ChangeShapes Go.WideShapes Go.ChangeAt Go.RowKit
theorem flat_len (n size : Nat) (C : Nat → List Value) (h : ∀ i, i < n → (C i).length = size) : ((List.range n).flatMap C).length = n * size := by
  induction n with
  | zero => simp
  | succ n ih =>
    rw [List.range_succ, List.flatMap_append, List.length_append, ih fun i hi => h i (by omega)]
    simp [h n (by omega), Nat.succ_mul]
theorem flat_drop (n size : Nat) (C : Nat → List Value) (h : ∀ i, i < n → (C i).length = size) (i : Nat) (hi : i < n) :
    ∃ R, ((List.range n).flatMap C).drop (i * size) = C i ++ R := by
  induction n with
  | zero => omega
  | succ n ih =>
    rw [List.range_succ, List.flatMap_append]
    have hl := flat_len n size C fun i hi => h i (by omega)
    by_cases hin : i = n
    · subst hin
      refine ⟨[], ?_⟩
      rw [List.drop_append_of_le_length (by rw [hl]; exact Nat.le_refl _), List.drop_of_length_le (by rw [hl]; exact Nat.le_refl _)]
      simp
    · obtain ⟨R, hR⟩ := ih (fun i hi => h i (by omega)) (by omega)
      refine ⟨R ++ [n].flatMap C, ?_⟩
      rw [List.drop_append_of_le_length (by rw [hl]; exact Nat.mul_le_mul_right _ (by omega)), hR, List.append_assoc]
theorem flat_slice (n size : Nat) (C : Nat → List Value) (h : ∀ i, i < n → (C i).length = size) (i : Nat) (hi : i < n) :
    (((List.range n).flatMap C).drop (i * size)).take size = C i := by
  obtain ⟨R, hR⟩ := flat_drop n size C h i hi
  rw [hR, ← h i hi, List.take_left]
theorem flat_at (n size : Nat) (C : Nat → List Value) (h : ∀ i, i < n → (C i).length = size) (i : Nat) (hi : i < n) (j : Nat) (hj : j < size) :
    (C i)[j]? = ((List.range n).flatMap C)[i * size + j]? := by
  rw [← flat_slice n size C h i hi, List.getElem?_take, if_pos hj, List.getElem?_drop]
theorem cells?_parts {w : World} {b : Nat} {a : Addr} {n : Nat} {cs : List Value} (h : w.cells? b a n = some cs) : cs.length = n ∧ ∀ j, j < n → w.cell? (a.add j) = cs[j]? := by
  unfold World.cells? at h
  split at h
  · have : ∀ (l : List Nat) (cs : List Value), (l.mapM fun i => w.cell? (a.add i)) = some cs → cs.length = l.length ∧ ∀ (j i : Nat), l[j]? = some i → w.cell? (a.add i) = cs[j]? := by
      intro l
      induction l with
      | nil => intro cs h; simp at h; subst h; simp
      | cons x l ih =>
        intro cs h
        simp only [List.mapM_cons, Option.pure_def, Option.bind_eq_bind] at h
        obtain ⟨y, hy, h⟩ := Option.bind_eq_some_iff.1 h
        obtain ⟨ys, hys, h⟩ := Option.bind_eq_some_iff.1 h
        cases h
        obtain ⟨h1, h2⟩ := ih ys hys
        refine ⟨by simp [h1], fun j i hj => ?_⟩
        cases j with
        | zero => simp at hj; subst hj; simpa using hy
        | succ j => simpa using h2 j i (by simpa using hj)
    obtain ⟨h1, h2⟩ := this _ _ h
    refine ⟨by simpa using h1, fun j hj => h2 j j (by simp [hj])⟩
  · cases h
section
variable {H : Type} {enc : TypeId × Value → H} {P : Program} {W : World} {base : Nat} {spare : Nat → Bool} {held : Bool}
/-- A slice of elements of whatever type: its cells in a list, each element's own cells read on. -/
theorem open_rd {t e size : Nat} {v : Value} {d : DataW H} {ps : List MemPlace} {r : Reach} {b0 : Nat} (ht : P.underlying t = some (.slice e)) (hc : P.cellsOf e = size) (hv : Value.okWide P W r b0 t v)
    (h : DataW.Trod enc P W base spare held t v d ps) :
    ∃ (n fuel : Nat) (xs : List Value), Rd W v size n xs ∧ ∀ i, i < n → ∃ x, DataW.trod enc P W base spare held fuel e ((xs.drop (i * size)).take size) = some x := by
  obtain ⟨p, len, cap, rfl⟩ := okWide_slice ht hv
  obtain ⟨fuel, hf⟩ := h
  rcases Deep.open_slice ht hf with ⟨hcs, _⟩ | ⟨a, len', cap', m, n, D, Pl, hcs, hb, hl, hm, hmm, hx, hel⟩
  · simp [Value.cells] at hcs
    obtain ⟨rfl, rfl, rfl⟩ := hcs
    exact ⟨0, 0, [], ⟨by simp, Nat.zero_le _, none, 0, rfl, Nat.le_refl _, fun h => absurd h (by simp)⟩, fun i hi => absurd hi (by simp)⟩
  · simp [Value.cells] at hcs
    obtain ⟨rfl, rfl, rfl⟩ := hcs
    rw [hc] at hel
    have hlm : len ≤ m := by rw [hmm]; split <;> omega
    obtain ⟨C, hC⟩ := Deep.choose_lt (α := List Value) (p := fun i cs' => W.cells? base (a.add (i * size)) size = some cs' ∧ DataW.trod enc P W base spare held n e cs' = some (D i, Pl i)) (fun i hi => hel i (by omega : i < m))
    have hlen : ∀ i, i < len → (C i).length = size ∧ ∀ j, j < size → W.cell? ((a.add (i * size)).add j) = (C i)[j]? := fun i hi => cells?_parts (hC i (by omega)).1
    refine ⟨len, n, (List.range len).flatMap C, ⟨flat_len len size C fun i hi => (hlen i hi).1, by omega, some a, cap, rfl, hl, fun hp => ?_⟩, fun i hi => ⟨(D i, Pl i), ?_⟩⟩
    · have hs : 0 < size := Nat.pos_of_mul_pos_left hp
      have hl0 : 0 < len := Nat.pos_of_mul_pos_right hp
      have h0 := (hlen 0 hl0).2 0 hs
      have ha : a = ⟨a.block, a.off, none⟩ := by
        refine cell_plain (w := W) (u := (C 0)[0]'(by rw [(hlen 0 hl0).1]; exact hs)) ?_
        rw [List.getElem?_eq_getElem (by rw [(hlen 0 hl0).1]; exact hs)] at h0
        simpa [Addr.add] using h0
      refine ⟨a.block, a.off, by rw [← ha], fun j hj => ?_⟩
      have hq : j / size < len := (Nat.div_lt_iff_lt_mul hs).2 hj
      have hr : j % size < size := Nat.mod_lt _ hs
      have h1 := (hlen (j / size) hq).2 (j % size) hr
      rw [Deep.add_add, ha, add_plain] at h1
      have hj' : j / size * size + j % size = j := Nat.div_add_mod' j size
      rw [hj'] at h1
      rw [h1, flat_at len size C (fun i hi => (hlen i hi).1) (j / size) hq (j % size) hr, hj']
    · rw [flat_slice len size C (fun i hi => (hlen i hi).1) i hi]
      exact (hC i (by omega)).2
/-- A slice of ints. -/
theorem open_rd_ints {t e : Nat} {v : Value} {d : DataW H} {ps : List MemPlace} {r : Reach} {b0 : Nat} (ht : P.underlying t = some (.slice e)) (he : P.underlying e = some (.int .i64)) (hc : P.cellsOf e = 1) (hv : Value.okWide P W r b0 t v)
    (h : DataW.Trod enc P W base spare held t v d ps) : ∃ xs : List Int, Rd W v 1 xs.length (ic xs) := by
  obtain ⟨n, fuel, xs, hr, hx⟩ := open_rd ht hc hv h
  have hl : xs.length = n := by simpa using hr.1
  have hall : ∀ (l : List Value), (∀ i (hi : i < l.length), ∃ k, l[i]? = some (.int .i64 k)) → ∃ zs : List Int, l = ic zs := by
    intro l
    induction l with
    | nil => intro _; exact ⟨[], rfl⟩
    | cons y l ih =>
      intro hl
      obtain ⟨k, hk⟩ := hl 0 (by simp)
      obtain ⟨zs, hz⟩ := ih fun i hi => by obtain ⟨k, h⟩ := hl (i + 1) (by simp; omega); exact ⟨k, by simpa using h⟩
      exact ⟨k :: zs, by simp at hk; simp [ic, hk]; exact hz⟩
  obtain ⟨zs, hz⟩ := hall xs fun i hi => by
    obtain ⟨x, hx⟩ := hx i (by omega)
    rw [Nat.mul_one] at hx
    obtain ⟨k, hk, -⟩ := DataW.trod_int he hx
    refine ⟨k, ?_⟩
    have := congrArg (fun l : List Value => l[0]?) hk
    simpa using this
  subst hz
  refine ⟨zs, ?_⟩
  rw [ic_len] at hl
  rw [hl]; exact hr
/-- A struct's field, read on. -/
theorem open_field {t fuel : Nat} {cs : List Value} {x : DataW H × List MemPlace} {fs : Array Field} (ht : P.underlying t = some (.struct fs)) (h : DataW.trod enc P W base spare held fuel t cs = some x)
    (i : Nat) (f : Field) (hf : fs[i]? = some f) : ∃ m y, DataW.trod enc P W base spare held m f.type ((cs.drop f.offset).take (P.cellsOf f.type)) = some y := by
  obtain ⟨xs, n, -, -, -, hl, hx⟩ := DataW.trod_struct ht h
  have hi : i < xs.length := by rw [hl]; exact (Array.getElem?_eq_some_iff.1 hf).1
  exact ⟨n, xs[i], by rw [hx i f hf, List.getElem?_eq_getElem hi]⟩
/-- A field that is an int. -/
theorem open_int_field {t fuel : Nat} {cs : List Value} {x : DataW H × List MemPlace} {fs : Array Field} {k : IntKind} (ht : P.underlying t = some (.struct fs)) (h : DataW.trod enc P W base spare held fuel t cs = some x)
    (i : Nat) (f : Field) (hf : fs[i]? = some f) (hk : P.underlying f.type = some (.int k)) (hc : P.cellsOf f.type = 1) : ∃ n, cs[f.offset]? = some (.int k n) ∧ (Lit.int k n).wf = true := by
  obtain ⟨m, y, hy⟩ := open_field ht h i f hf
  rw [hc] at hy
  obtain ⟨n, hn, -, hw⟩ := DataW.trod_int hk hy
  refine ⟨n, ?_, hw⟩
  have := congrArg (fun l : List Value => l[0]?) hn
  simpa using this
end
end Go.Own
/- HOW ARGUMENTS ARE OPENED, further: slices within structs and slices. No program in sight. -/
namespace Go.Own
open Go.ChangeShapes Go.WideShapes Go.ChangeAt Go.RowKit
section
variable {H : Type} {enc : TypeId × Value → H} {P : Program} {W : World} {base : Nat} {spare : Nat → Bool} {held : Bool}
theorem trod_rd {t e size fuel : Nat} {cs : List Value} {x : DataW H × List MemPlace} (ht : P.underlying t = some (.slice e)) (hc : P.cellsOf e = size) (h : DataW.trod enc P W base spare held fuel t cs = some x) :
    ∃ (v : Value) (n fuel : Nat) (xs : List Value), cs = [v] ∧ Rd W v size n xs ∧ ∀ i, i < n → ∃ x, DataW.trod enc P W base spare held fuel e ((xs.drop (i * size)).take size) = some x := by
  rcases Deep.open_slice ht h with ⟨hcs, _⟩ | ⟨a, len, cap, m, n, D, Pl, hcs, hb, hl, hm, hmm, hx, hel⟩
  · exact ⟨.slice none 0 0, 0, 0, [], hcs, ⟨by simp, Nat.zero_le _, none, 0, rfl, Nat.le_refl _, fun h => absurd h (by simp)⟩, fun i hi => absurd hi (by simp)⟩
  · rw [hc] at hel
    have hlm : len ≤ m := by rw [hmm]; split <;> omega
    obtain ⟨C, hC⟩ := Deep.choose_lt (α := List Value) (p := fun i cs' => W.cells? base (a.add (i * size)) size = some cs' ∧ DataW.trod enc P W base spare held n e cs' = some (D i, Pl i)) (fun i hi => hel i (by omega : i < m))
    have hlen : ∀ i, i < len → (C i).length = size ∧ ∀ j, j < size → W.cell? ((a.add (i * size)).add j) = (C i)[j]? := fun i hi => cells?_parts (hC i (by omega)).1
    refine ⟨.slice (some a) len cap, len, n, (List.range len).flatMap C, hcs, ⟨flat_len len size C fun i hi => (hlen i hi).1, by omega, some a, cap, rfl, hl, fun hp => ?_⟩, fun i hi => ⟨(D i, Pl i), ?_⟩⟩
    · have hs : 0 < size := Nat.pos_of_mul_pos_left hp
      have hl0 : 0 < len := Nat.pos_of_mul_pos_right hp
      have h0 := (hlen 0 hl0).2 0 hs
      have ha : a = ⟨a.block, a.off, none⟩ := by
        refine cell_plain (w := W) (u := (C 0)[0]'(by rw [(hlen 0 hl0).1]; exact hs)) ?_
        rw [List.getElem?_eq_getElem (by rw [(hlen 0 hl0).1]; exact hs)] at h0
        simpa [Addr.add] using h0
      refine ⟨a.block, a.off, by rw [← ha], fun j hj => ?_⟩
      have hq : j / size < len := (Nat.div_lt_iff_lt_mul hs).2 hj
      have hr : j % size < size := Nat.mod_lt _ hs
      have h1 := (hlen (j / size) hq).2 (j % size) hr
      rw [Deep.add_add, ha, add_plain] at h1
      have hj' : j / size * size + j % size = j := Nat.div_add_mod' j size
      rw [hj'] at h1
      rw [h1, flat_at len size C (fun i hi => (hlen i hi).1) (j / size) hq (j % size) hr, hj']
    · rw [flat_slice len size C (fun i hi => (hlen i hi).1) i hi]
      exact (hC i (by omega)).2
theorem all_cells {α : Type} (f : α → Value) (l : List Value) (h : ∀ i (hi : i < l.length), ∃ k, l[i] = f k) : ∃ zs : List α, l = zs.map f := by
  induction l with
  | nil => exact ⟨[], rfl⟩
  | cons y l ih =>
    obtain ⟨k, hk⟩ := h 0 (by simp)
    obtain ⟨zs, hz⟩ := ih fun i hi => h (i + 1) (by simp; omega)
    exact ⟨k :: zs, by simp at hk; simp [hk]; exact hz⟩
theorem drop_one (l : List Value) (i : Nat) (h : i < l.length) : (l.drop i).take 1 = [l[i]] := by
  rw [List.drop_eq_getElem_cons h]; rfl
/-- A slice of integers of one kind. -/
theorem trod_scal {t e fuel : Nat} {k : IntKind} {cs : List Value} {x : DataW H × List MemPlace} (ht : P.underlying t = some (.slice e)) (he : P.underlying e = some (.int k)) (hc : P.cellsOf e = 1) (h : DataW.trod enc P W base spare held fuel t cs = some x) :
    ∃ (v : Value) (xs : List Int), cs = [v] ∧ Rd W v 1 xs.length (xs.map (Value.int k)) := by
  obtain ⟨v, n, fuel, xs, hcs, hr, hx⟩ := trod_rd ht hc h
  have hl : xs.length = n := by simpa using hr.1
  obtain ⟨zs, rfl⟩ := all_cells (Value.int k) xs fun i hi => by
    obtain ⟨x, hx⟩ := hx i (by omega)
    rw [Nat.mul_one, drop_one _ _ hi] at hx
    obtain ⟨k, hk, -⟩ := DataW.trod_int he hx
    exact ⟨k, by simpa using hk⟩
  rw [List.length_map] at hl
  exact ⟨v, zs, hcs, by rw [hl]; exact hr⟩
theorem trod_bools {t e fuel : Nat} {cs : List Value} {x : DataW H × List MemPlace} (ht : P.underlying t = some (.slice e)) (he : P.underlying e = some .bool) (hc : P.cellsOf e = 1) (h : DataW.trod enc P W base spare held fuel t cs = some x) :
    ∃ (v : Value) (xs : List Bool), cs = [v] ∧ Rd W v 1 xs.length (xs.map Value.bool) := by
  obtain ⟨v, n, fuel, xs, hcs, hr, hx⟩ := trod_rd ht hc h
  have hl : xs.length = n := by simpa using hr.1
  obtain ⟨zs, rfl⟩ := all_cells Value.bool xs fun i hi => by
    obtain ⟨x, hx⟩ := hx i (by omega)
    rw [Nat.mul_one, drop_one _ _ hi] at hx
    obtain ⟨k, hk, -⟩ := DataW.trod_bool he hx
    exact ⟨k, by simpa using hk⟩
  rw [List.length_map] at hl
  exact ⟨v, zs, hcs, by rw [hl]; exact hr⟩
/-- A slice of slices of bytes: its texts. -/
theorem texts_of {n fuel tb e : Nat} {xs : List Value} {v : Value} (ht : P.underlying tb = some (.slice e)) (he : P.underlying e = some (.int .u8)) (hc : P.cellsOf e = 1) (hr : Rd W v 1 n xs)
    (hel : ∀ i, i < n → ∃ x, DataW.trod enc P W base spare held fuel tb ((xs.drop (i * 1)).take 1) = some x) :
    ∃ R : List (Value × List Int), Rd W v 1 R.length (R.map (·.1)) ∧ ∀ x ∈ R, Rd W x.1 1 x.2.length (bc x.2) := by
  have hl : xs.length = n := by simpa using hr.1
  have key : ∀ (l : List Value), (∀ u ∈ l, ∃ ys : List Int, Rd W u 1 ys.length (bc ys)) → ∃ R : List (Value × List Int), R.map (·.1) = l ∧ ∀ x ∈ R, Rd W x.1 1 x.2.length (bc x.2) := by
    intro l
    induction l with
    | nil => intro _; exact ⟨[], rfl, by simp⟩
    | cons u l ih =>
      intro h
      obtain ⟨ys, hy⟩ := h u (by simp)
      obtain ⟨R, h1, h2⟩ := ih fun u hu => h u (by simp [hu])
      exact ⟨(u, ys) :: R, by simp [h1], fun x hx => (List.mem_cons.1 hx).elim (fun e => by rw [e]; exact hy) (h2 x)⟩
  obtain ⟨R, h1, h2⟩ := key xs fun u hu => by
    obtain ⟨i, hi, rfl⟩ := List.getElem_of_mem hu
    obtain ⟨x, hx⟩ := hel i (by omega)
    rw [Nat.mul_one, drop_one _ _ hi] at hx
    obtain ⟨v, ys, hcs, hr⟩ := trod_scal ht he hc hx
    simp only [List.cons.injEq, and_true] at hcs
    exact ⟨ys, by rw [hcs]; exact hr⟩
  subst h1
  rw [List.length_map] at hl
  exact ⟨R, by rw [hl]; exact hr, h2⟩
theorem open_rd_bools {t e : Nat} {v : Value} {d : DataW H} {ps : List MemPlace} {r : Reach} {b0 : Nat} (ht : P.underlying t = some (.slice e)) (he : P.underlying e = some .bool) (hc : P.cellsOf e = 1) (hv : Value.okWide P W r b0 t v)
    (h : DataW.Trod enc P W base spare held t v d ps) : ∃ xs : List Bool, Rd W v 1 xs.length (xs.map Value.bool) := by
  obtain ⟨n, fuel, xs, hr, hx⟩ := open_rd ht hc hv h
  have hl : xs.length = n := by simpa using hr.1
  obtain ⟨zs, rfl⟩ := all_cells Value.bool xs fun i hi => by
    obtain ⟨x, hx⟩ := hx i (by omega)
    rw [Nat.mul_one, drop_one _ _ hi] at hx
    obtain ⟨k, hk, -⟩ := DataW.trod_bool he hx
    exact ⟨k, by simpa using hk⟩
  rw [List.length_map] at hl
  exact ⟨zs, by rw [hl]; exact hr⟩
theorem open_rd_scal {t e : Nat} {k : IntKind} {v : Value} {d : DataW H} {ps : List MemPlace} {r : Reach} {b0 : Nat} (ht : P.underlying t = some (.slice e)) (he : P.underlying e = some (.int k)) (hc : P.cellsOf e = 1) (hv : Value.okWide P W r b0 t v)
    (h : DataW.Trod enc P W base spare held t v d ps) : ∃ xs : List Int, Rd W v 1 xs.length (xs.map (Value.int k)) := by
  obtain ⟨n, fuel, xs, hr, hx⟩ := open_rd ht hc hv h
  have hl : xs.length = n := by simpa using hr.1
  obtain ⟨zs, rfl⟩ := all_cells (Value.int k) xs fun i hi => by
    obtain ⟨x, hx⟩ := hx i (by omega)
    rw [Nat.mul_one, drop_one _ _ hi] at hx
    obtain ⟨k, hk, -⟩ := DataW.trod_int he hx
    exact ⟨k, by simpa using hk⟩
  rw [List.length_map] at hl
  exact ⟨zs, by rw [hl]; exact hr⟩
theorem open_rd_texts {t tb e : Nat} {v : Value} {d : DataW H} {ps : List MemPlace} {r : Reach} {b0 : Nat} (ht : P.underlying t = some (.slice tb)) (htc : P.cellsOf tb = 1) (htb : P.underlying tb = some (.slice e)) (he : P.underlying e = some (.int .u8)) (hc : P.cellsOf e = 1) (hv : Value.okWide P W r b0 t v)
    (h : DataW.Trod enc P W base spare held t v d ps) : ∃ R : List (Value × List Int), Rd W v 1 R.length (R.map (·.1)) ∧ ∀ x ∈ R, Rd W x.1 1 x.2.length (bc x.2) := by
  obtain ⟨n, fuel, xs, hr, hx⟩ := open_rd ht htc hv h
  exact texts_of htb he hc hr hx
end
end Go.Own
/- CacheScript, its argument opened. -/
namespace Go.Proofs.Ytajlikakbihgbaa
open Go.RowKit Go.Own
section
variable {H : Type} {enc : TypeId × Value → H} {P : Program} {W : World} {base : Nat} {spare : Nat → Bool} {held : Bool}
theorem open_bool_field {t fuel : Nat} {cs : List Value} {x : DataW H × List MemPlace} {fs : Array Field} (ht : P.underlying t = some (.struct fs)) (h : DataW.trod enc P W base spare held fuel t cs = some x)
    (i : Nat) (f : Field) (hf : fs[i]? = some f) (hk : P.underlying f.type = some .bool) (hc : P.cellsOf f.type = 1) : ∃ n, cs[f.offset]? = some (.bool n) := by
  obtain ⟨m, y, hy⟩ := open_field ht h i f hf
  rw [hc] at hy
  obtain ⟨n, hn, -⟩ := DataW.trod_bool hk hy
  refine ⟨n, ?_⟩
  have := congrArg (fun l : List Value => l[0]?) hn
  simpa [List.getElem?_take, List.getElem?_drop] using this
end
theorem cacheScriptOpen {H : Type} {enc : TypeId × Value → H} {base : Nat} {spare : Nat → Bool} {held : Bool} (most : Int) (a : Value) (n fuel : Nat) (xs : List Value) (W : World) (ha : Rd W a 4 n xs)
    (he : ∀ i, i < n → ∃ x, DataW.trod enc Try.prog W base spare held fuel 54 ((xs.drop (i * 4)).take 4) = some x) :
    Calls Try.prog 6 #[.int .i64 most, a] W fun e w' => e = .returned (.bool true) ∧ Below W.heap.size W w' := by
  refine cacheScriptWalk most a n xs W ha fun i hi => ?_
  obtain ⟨x, hx⟩ := he i hi
  obtain ⟨d, hd, -⟩ := open_int_field Try.underlying54 hx 0 _ rfl Try.underlying3 (by kernel_rfl)
  obtain ⟨f, hf, -⟩ := open_int_field Try.underlying54 hx 1 _ rfl Try.underlying3 (by kernel_rfl)
  obtain ⟨k, hk, hw⟩ := open_int_field Try.underlying54 hx 2 _ rfl Try.underlying3 (by kernel_rfl)
  obtain ⟨b, h3⟩ := open_bool_field Try.underlying54 hx 3 _ rfl Try.underlying4 (by kernel_rfl)
  refine ⟨d, f, k, b, ?_, ?_, ?_, ?_⟩
  · simpa [List.getElem?_take, List.getElem?_drop] using hd
  · simpa [List.getElem?_take, List.getElem?_drop] using hf
  · simpa [List.getElem?_take, List.getElem?_drop] using hk
  · simpa [List.getElem?_take, List.getElem?_drop] using h3
end Go.Proofs.Ytajlikakbihgbaa
