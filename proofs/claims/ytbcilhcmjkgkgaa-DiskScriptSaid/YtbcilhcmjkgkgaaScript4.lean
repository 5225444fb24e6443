/- DiskScript: whatever is read, written, flushed, armed and lost, each call answers as the document says. For every input. -/
import Derived.Test.YtbcilhcmjkgkgaaDone
import Derived.Test.YtbcilhcmjkgkgaaInts
import Derived.Test.YtbcilhcmjkgkgaaPref
import Derived.Test.YtbcilhcmjkgkgaaOpen2
namespace Go.Proofs.Ytbcilhcmjkgkgaa
open Go.RowKit Go.Own Go.Dk
theorem poolc_head {w : World} {L : List HP} {u8 : TypeId} {x : Value × List Int} {B : List (Value × List Int)} (h : Has w (poolc u8 (x :: B) :: L)) : Has w (row x.1 u8 1 x.2.length (bc x.2) :: poolc u8 B :: L) :=
  h.pool_out 0 (by simp)
theorem dkLens {w : World} {L : List HP} {d : Nat} {E : Bk} (hO : Has w (Dk d E :: L)) : ∀ x ∈ E.firm, x.length = 128 := by
  obtain ⟨D, rfl, h⟩ := dk_iff.1 hO
  obtain ⟨fv, wv, av, lv, B, hok, hP⟩ := dsk_iff.1 h
  intro x hx
  obtain ⟨y, hy, rfl⟩ := List.mem_map.1 hx
  exact hok.len y hy
/-- An act as it is read. -/
def ActR (W : World) (xs : List Value) (i : Nat) : Prop := ∃ (do_ at_ n : Int) (short : Bool) (kp : Option Addr) (kc : Nat) (keep : List Bool),
  xs[i * 5]? = some (.int .i64 do_) ∧ xs[i * 5 + 1]? = some (.int .i64 at_) ∧ xs[i * 5 + 2]? = some (.int .i64 n) ∧ xs[i * 5 + 3]? = some (.bool short) ∧ xs[i * 5 + 4]? = some (.slice kp keep.length kc) ∧
  Rd W (.slice kp keep.length kc) 1 keep.length (keep.map Value.bool) ∧ n ≤ 9223372036854775807
set_option maxRecDepth 100000 in
set_option maxHeartbeats 8000000 in
theorem scriptWalk (sec : Int) (v : Value) (n : Nat) (xs : List Value) (W : World) (ha : Rd W v 5 n xs) (hx : ∀ i, i < n → ActR W xs i) :
    Calls Try.prog 7 #[.int .i64 sec, v] W fun e w' => e = .returned (.bool true) ∧ Below W.heap.size W w' := by
  obtain ⟨vp, vc, rfl, hvc, hvl, hR⟩ := ha.form
  have HR := hid ha
  have HX := hid hx
  have HO0 := hid (Has.start W)
  have HRR := hid hR
  clear ha hx hR
  by_cases hbig : 60 < n
  · go_enter Try.func7, Try.ntmps7
    go_wp2_with fail
    refine (awake4 W _ HO0.out).mono ?_
    rintro e w1 ⟨rfl, hO1, hK1⟩
    have HO1 := hid hO1
    have HK1 := hid ((Keep.refl W).trans hK1)
    clear hO1 hK1
    try dsimp only
    go_wp2_with fail
    go_ret
    exact ⟨rfl, HO1.out.below HK1.out.os HK1.out.tape HK1.out.output⟩
  have hb1 : decide ((60 : Int) < (n : Int)) = false := by simp; omega
  by_cases hsec : 12 < sec
  · have hb2 : decide ((12 : Int) < sec) = true := by simp; omega
    go_enter Try.func7, Try.ntmps7
    go_wp2_with fail
    refine (awake4 W _ HO0.out).mono ?_
    rintro e w1 ⟨rfl, hO1, hK1⟩
    have HO1 := hid hO1
    have HK1 := hid ((Keep.refl W).trans hK1)
    clear hO1 hK1
    try dsimp only
    go_wp2_with fail
    go_ret
    exact ⟨rfl, HO1.out.below HK1.out.os HK1.out.tape HK1.out.output⟩
  have hb2 : decide ((12 : Int) < sec) = false := by simp; omega
  by_cases hs1 : sec < 1
  · go_enter Try.func7, Try.ntmps7
    go_wp2_with fail
    refine (diskNewNil sec W (.inl hs1)).mono ?_
    rintro e w' ⟨rfl, rfl⟩
    try dsimp only
    go_wp2_with fail
    refine (rNewNil sec W (.inl hs1)).mono ?_
    rintro e w' ⟨rfl, rfl⟩
    try dsimp only
    go_wp2_with fail
    refine (awake4 W _ HO0.out).mono ?_
    rintro e w1 ⟨rfl, hO1, hK1⟩
    have HO1 := hid hO1
    have HK1 := hid ((Keep.refl W).trans hK1)
    clear hO1 hK1
    try dsimp only
    go_wp2_with fail
    go_ret
    exact ⟨rfl, HO1.out.below HK1.out.os HK1.out.tape HK1.out.output⟩
  obtain ⟨m, rfl⟩ := Int.eq_ofNat_of_zero_le (show 0 ≤ sec by omega)
  have hm1 : 1 ≤ m := by omega
  have hm2 : m ≤ 12 := by omega
  clear hsec hs1
  go_enter Try.func7, Try.ntmps7
  go_wp2_with fail
  refine (kNew m W _ (by omega) (by omega) HO0.out).mono ?_
  rintro e w1 ⟨d, rfl, hO1, hK1⟩
  have HO1 := hid hO1
  have HK1 := hid hK1
  clear hO1 hK1
  try dsimp only
  go_wp2_with fail
  refine (rkNew m w1 _ (by omega) (by omega) HO1.out).mono ?_
  rintro e w2 ⟨c, rfl, hO2, hK2⟩
  have HO2 := hid hO2.p1
  have HK2 := hid (HK1.out.trans hK2)
  clear hO2 hK2 HO1 HK1
  try dsimp only
  go_wp2_with fail
  go_loopw [7] (fun i w => ∃ k : Nat, k ≤ n ∧ i = .int .i64 k ∧ Hid (∃ E : Bk, Bd E k ∧ E.firm.length = m ∧ Has w (Dk d E :: RDk c E :: [old W])) ∧ Hid (Keep W w)) (fun i _ => n - (intOf i).toNat)
  case atStart => exact ⟨0, by omega, rfl, hid ⟨Bk.zero m, ⟨by simp [Bk.zero], by simp [Bk.zero], by simp [Bk.zero]⟩, by simp [Bk.zero], HO2.out⟩, HK2⟩
  case round =>
    clear HO2 HK2
    obtain ⟨k, hk, rfl, HY, HK⟩ := hrel
    obtain ⟨E, hB, hF, hO⟩ := HY.out
    have HO := hid hO
    have HB := hid hB
    have HF := hid hF
    clear hO hB hF HY
    by_cases hlt : k < n
    · obtain ⟨g, o, rfl, -⟩ := HRR.out (by omega)
      obtain ⟨do_, at_, nn, short, kp, kc, keep, x0, x1, x2, x3, x4, hkr, hnn⟩ := HX.out k hlt
      obtain ⟨p', c', e, -, -, hcs⟩ := (Rd.start HR.out HO.out.p2).form
      simp only [Value.slice.injEq, true_and] at e
      obtain ⟨rfl, rfl⟩ := e
      obtain ⟨g', o', e, hcs⟩ := hcs (by omega)
      simp only [Option.some.injEq, Addr.mk.injEq, and_true] at e
      obtain ⟨rfl, rfl⟩ := e
      have h0 := (hcs (k * 5) (by omega)).trans x0
      have h1 := (hcs (k * 5 + 1) (by omega)).trans x1
      have h2 := (hcs (k * 5 + 2) (by omega)).trans x2
      have h3 := (hcs (k * 5 + 3) (by omega)).trans x3
      have h4 := (hcs (k * 5 + 4) (by omega)).trans x4
      simp only [← Nat.add_assoc] at h1 h2 h3 h4
      have HKR := hid hkr
      have hki : (k : Int) < (n : Int) := by omega
      clear hcs x0 x1 x2 x3 x4 hkr
      by_cases hkl : 20 < keep.length
      · go_wp2_with fail
        refine (awake4 wr _ HO.out).mono ?_
        rintro e w3 ⟨rfl, hO3, hK3⟩
        have HO3 := hid hO3
        have HK3 := hid ((HK.out).trans hK3)
        clear hO3 hK3
        try dsimp only
        go_wp2_with fail
        go_ret
        exact ⟨rfl, HO3.out.p2.below HK3.out.os HK3.out.tape HK3.out.output⟩
      · go_wp2_with fail
        refine (doneAny d c E k at_ nn short kp keep.length kc keep wr [old W] HB.out (by omega) hnn (by omega) (fun w' h => Rd.start HKR.out h) HO.out do_).mono ?_
        rintro e w3 ⟨rfl, hO3, hK3⟩
        have HO3 := hid hO3
        have HK3 := hid ((HK.out).trans hK3)
        clear hO3 hK3
        try dsimp only
        have HB3 := hid (HB.out.step do_ at_ nn short keep)
        have HF3 := hid ((step_len E do_ at_ nn short keep).trans HF.out)
        generalize stepBk E do_ at_ nn short keep = E3 at *
        clear HB HF HO HK h0 h1 h2 h3 h4
        go_wp2_with fail
        refine (kImage d E3 w3 _ HO3.out (by rw [HF3.out]; omega)).mono ?_
        rintro e w4 ⟨v4, rfl, hO4, hK4⟩
        have HO4 := hid hO4
        have HK4 := hid ((HK3.out).trans hK4)
        clear hO4 hK4
        try dsimp only
        go_wp2_with fail
        refine (kWaiting d E3 w4 _ HO4.out.p1 (by have := HB3.out.waits; omega)).mono ?_
        rintro e w5 ⟨v5, rfl, hO5, hK5⟩
        have HO5 := hid hO5
        have HK5 := hid ((HK4.out).trans hK5)
        clear hO5 hK5
        try dsimp only
        go_wp2_with fail
        refine (kWrites d E3 w5 _ HO5.out.p1 (by have := HB3.out.writes; omega)).mono ?_
        rintro e w6 ⟨v6, rfl, hO6, hK6⟩
        have HO6 := hid hO6
        have HK6 := hid ((HK5.out).trans hK6)
        clear hO6 hK6
        try dsimp only
        clear HO3 HK3 HO4 HK4 HO5 HK5
        obtain ⟨D, hD, hP⟩ := rdk_iff.1 HO6.out.p4
        obtain ⟨fv, wv, kv, lv, ks, left, B, hok, hP⟩ := rdsk_iff.1 hP
        have HFL := hid (show E3.firm = D.firm.map (·.2) by rw [← hD]; rfl)
        have HWL := hid (show E3.waits.map (·.1) = D.waits.map (·.1) by rw [← hD]; simp [Disk.bk, Function.comp_def])
        have HLL := hid (show E3.writes = D.writes by rw [← hD]; rfl)
        have HFS := hid (show E3.flushes = D.flushes by rw [← hD]; rfl)
        have HON := hid (show E3.on = D.on by rw [← hD]; rfl)
        have HWB3 := hid (show D.waits.length ≤ 60 by have h := HB3.out.waits; rw [← hD] at h; simp [Disk.bk] at h; omega)
        have HLB3 := hid (show D.writes.length ≤ 60 by have h := HB3.out.writes; rw [← hD] at h; simp [Disk.bk] at h; omega)
        have HWB := hid (show D.waits.length ≤ 1000000000 by have h := HB3.out.waits; rw [← hD] at h; simp [Disk.bk] at h; omega)
        have HLEN := hid (dkLens HO6.out.p1)
        have HD := hid hD
        have HOK := hid hok
        obtain ⟨fp, fc, rfl, -⟩ := hP.p1.rd.form
        obtain ⟨lp, lc, rfl, -⟩ := (Ints.rd hP.p4).form
        rw [HLL.out, HWL.out] at hP
        have HP := hid hP
        clear hD hP hok HO6
        have ht1 : (D.flushes != D.flushes) = false := by simp
        have ht2 : (D.on == !D.on) = false := by cases D.on <;> rfl
        go_wp2_with fail
        refine region_text (fun w => w.cell? ⟨c, 0, none⟩ = some (.slice fp D.firm.length fc) ∧ w.cell? ⟨c, 6, none⟩ = some (.slice lp D.writes.length lc) ∧ w.cell? ⟨c, 4, none⟩ = some (.int .i64 D.flushes) ∧ w.cell? ⟨c, 2, none⟩ = some (.bool (!D.on))) (by kernel_rfl) (by kernel_rfl) ⟨HP.out.drew.cells 0, HP.out.drew.cells 6, HP.out.drew.cells 4, HP.out.drew.cells 2⟩ ?_
        repeat (first
          | (refine wpL_read (by rfl) (by rfl) ?_ ?_ ?_; rotate_left; (rintro w ⟨hS, hS1, hS2, hS3⟩; go_simp; with_reducible rfl); simp only [Act.put, List.setIfInBounds_toArray, List.set_cons_zero, List.set_cons_succ])
          | (refine wpL_skip (by rfl) ?_; simp only [Act.put, List.setIfInBounds_toArray, List.set_cons_zero, List.set_cons_succ]))
        refine wpL_act (by rfl) (by rfl) (fun K hK => ?_)
        go_simp
        refine (sameTexts v4 _ E3.firm E3.firm _ (Prts.rd (HP.out.drew.re 10 [9])) (by rw [HFL.out]; exact ⟨D.firm, rfl, HP.out.drew.p1.rd, fun x hx => (HP.out.drew.re 6 [5]).pool_rd (HOK.out.1.firm x hx)⟩)).mono ?_
        rintro e w' ⟨rfl, nq7, rfl⟩
        have HO7 := hid ((HP.out.drew).drewN nq7)
        have HK7 := hid ((HK6.out.drew).drewN nq7)
        try dsimp only
        refine hK.out _ _ (⟨HP.out.drew.cells 0, HP.out.drew.cells 6, HP.out.drew.cells 4, HP.out.drew.cells 2⟩) ?_
        clear hK K
        try simp only [Act.put, List.setIfInBounds_toArray, List.set_cons_zero, List.set_cons_succ]
        simp only [decide_true]
        generalize w6.drew.drewN nq7 = w7 at *
        repeat (first
          | (refine wpL_read (by rfl) (by rfl) ?_ ?_ ?_; rotate_left; (rintro w ⟨hS, hS1, hS2, hS3⟩; go_simp; with_reducible rfl); simp only [Act.put, List.setIfInBounds_toArray, List.set_cons_zero, List.set_cons_succ])
          | (refine wpL_skip (by rfl) ?_; simp only [Act.put, List.setIfInBounds_toArray, List.set_cons_zero, List.set_cons_succ]))
        refine wpL_act (by rfl) (by rfl) (fun K hK => ?_)
        go_simp
        refine (rWaitO c _ _ _ _ _ left _ D.waits _ _ HWB.out (HO7.out.re 3 [0, 2, 1])).mono ?_
        rintro e w8 ⟨v8, rfl, hO8, hK8⟩
        have HO8 := hid hO8
        have HK8 := hid ((HK7.out).trans hK8)
        clear hO8 hK8
        try dsimp only
        refine hK.out _ _ (⟨HO8.out.p1.cells 0, HO8.out.p1.cells 6, HO8.out.p1.cells 4, HO8.out.p1.cells 2⟩) ?_
        clear hK K
        try simp only [Act.put, List.setIfInBounds_toArray, List.set_cons_zero, List.set_cons_succ]
        repeat (first
          | (refine wpL_read (by rfl) (by rfl) ?_ ?_ ?_; rotate_left; (rintro w ⟨hS, hS1, hS2, hS3⟩; go_simp; with_reducible rfl); simp only [Act.put, List.setIfInBounds_toArray, List.set_cons_zero, List.set_cons_succ])
          | (refine wpL_skip (by rfl) ?_; simp only [Act.put, List.setIfInBounds_toArray, List.set_cons_zero, List.set_cons_succ]))
        refine wpL_act (by rfl) (by rfl) (fun K hK => ?_)
        go_simp
        refine (sameIntsYes v5 v8 (D.waits.map (·.1)) _ (Ints.rd (HO8.out.re 10 [9])) (Ints.rd HO8.out)).mono ?_
        rintro e w' ⟨rfl, nq9, rfl⟩
        have HO9 := hid ((HO8.out).drewN nq9)
        have HK9 := hid ((HK8.out).drewN nq9)
        try dsimp only
        refine hK.out _ _ (⟨HO9.out.p1.cells 0, HO9.out.p1.cells 6, HO9.out.p1.cells 4, HO9.out.p1.cells 2⟩) ?_
        clear hK K
        try simp only [Act.put, List.setIfInBounds_toArray, List.set_cons_zero, List.set_cons_succ]
        generalize w8.drewN nq9 = w9 at *
        repeat (first
          | (refine wpL_read (by rfl) (by rfl) ?_ ?_ ?_; rotate_left; (rintro w ⟨hS, hS1, hS2, hS3⟩; go_simp; with_reducible rfl); simp only [Act.put, List.setIfInBounds_toArray, List.set_cons_zero, List.set_cons_succ])
          | (refine wpL_skip (by rfl) ?_; simp only [Act.put, List.setIfInBounds_toArray, List.set_cons_zero, List.set_cons_succ]))
        refine wpL_act (by rfl) (by rfl) (fun K hK => ?_)
        go_simp
        refine (sameIntsYes v6 _ D.writes _ (Ints.rd (HO9.out.re 8 [7])) (Ints.rd (HO9.out.re 6 [5]))).mono ?_
        rintro e w' ⟨rfl, nq10, rfl⟩
        have HO10 := hid ((HO9.out).drewN nq10)
        have HK10 := hid ((HK9.out).drewN nq10)
        try dsimp only
        refine hK.out _ _ (⟨HO10.out.p1.cells 0, HO10.out.p1.cells 6, HO10.out.p1.cells 4, HO10.out.p1.cells 2⟩) ?_
        clear hK K
        try simp only [Act.put, List.setIfInBounds_toArray, List.set_cons_zero, List.set_cons_succ]
        generalize w9.drewN nq10 = w10 at *
        repeat (first
          | (refine wpL_read (by rfl) (by rfl) ?_ ?_ ?_; rotate_left; (rintro w ⟨hS, hS1, hS2, hS3⟩; go_simp; with_reducible rfl); simp only [Act.put, List.setIfInBounds_toArray, List.set_cons_zero, List.set_cons_succ])
          | (refine wpL_skip (by rfl) ?_; simp only [Act.put, List.setIfInBounds_toArray, List.set_cons_zero, List.set_cons_succ]))
        refine wpL_act (by rfl) (by rfl) (fun K hK => ?_)
        go_simp
        refine (kFlushes d E3 _ _ (HO10.out.re 9 [8])).mono ?_
        rintro e w' ⟨rfl, rfl⟩
        try dsimp only
        rw [HFS.out]
        refine hK.out _ _ (⟨HO10.out.p1.cells 0, HO10.out.p1.cells 6, HO10.out.p1.cells 4, HO10.out.p1.cells 2⟩) ?_
        clear hK K
        try simp only [Act.put, List.setIfInBounds_toArray, List.set_cons_zero, List.set_cons_succ]
        repeat (first
          | (refine wpL_read (by rfl) (by rfl) ?_ ?_ ?_; rotate_left; (rintro w ⟨hS, hS1, hS2, hS3⟩; go_simp; with_reducible rfl); simp only [Act.put, List.setIfInBounds_toArray, List.set_cons_zero, List.set_cons_succ])
          | (refine wpL_skip (by rfl) ?_; simp only [Act.put, List.setIfInBounds_toArray, List.set_cons_zero, List.set_cons_succ]))
        refine wpL_act (by rfl) (by rfl) (fun K hK => ?_)
        go_simp
        refine (kOn d E3 _ _ (HO10.out.re 9 [8])).mono ?_
        rintro e w' ⟨rfl, rfl⟩
        try dsimp only
        rw [HON.out]
        refine hK.out _ _ (⟨HO10.out.p1.cells 0, HO10.out.p1.cells 6, HO10.out.p1.cells 4, HO10.out.p1.cells 2⟩) ?_
        clear hK K
        try simp only [Act.put, List.setIfInBounds_toArray, List.set_cons_zero, List.set_cons_succ]
        repeat (first
          | (refine wpL_read (by rfl) (by rfl) ?_ ?_ ?_; rotate_left; (rintro w ⟨hS, hS1, hS2, hS3⟩; go_simp; with_reducible rfl); simp only [Act.put, List.setIfInBounds_toArray, List.set_cons_zero, List.set_cons_succ])
          | (refine wpL_skip (by rfl) ?_; simp only [Act.put, List.setIfInBounds_toArray, List.set_cons_zero, List.set_cons_succ]))
        refine wpL_nil ?_
        have HO11 := hid (((rdk_iff.2 ⟨D, HD.out, rdsk_iff.2 ⟨_, _, _, _, ks, left, B, HOK.out, HO10.out.re 12 [1, 3, 2, 4, 5, 6, 10, 8, 7, 9, 11]⟩⟩).p1))
        clear HO7 HK7 HO8 HK8 HO9 HK9 HP
        go_wp2_with fail
        obtain ⟨R, hR, hP⟩ := prts_iff.1 HO11.out
        have hRL : R.length ≤ 12 := by have := HF3.out; rw [← hR, List.length_map] at this; omega
        have HRN := hid (show ∀ x ∈ R, x.2.length = 128 from fun x hx => HLEN.out x.2 (by rw [← hR]; exact List.mem_map.2 ⟨x, hx, rfl⟩))
        obtain ⟨mp, mc, rfl, -⟩ := hP.rd.form
        have HP := hid hP
        clear HO11 hP hR HLEN
        go_loopw [11] (fun i w => ∃ q : Nat, q ≤ R.length ∧ i = .int .i64 q ∧ Hid (Has w (row (.slice mp R.length mc) 28 1 R.length (R.map (·.1)) :: poolc 5 (R.drop q) :: RDk c E3 :: Dk d E3 :: Ints v6 D.writes :: Ints v5 (D.waits.map (·.1)) :: [old W])) ∧ Hid (Keep W w)) (fun i _ => R.length - (intOf i).toNat)
        case atStart => exact ⟨0, by omega, rfl, HP, HK10⟩
        case round =>
          clear HP HK10
          obtain ⟨q, hq, rfl, HO, HK⟩ := hrel
          by_cases hlt : q < R.length
          · obtain ⟨p', c', e, -, -, hcs⟩ := HO.out.rd.form
            simp only [Value.slice.injEq, true_and] at e
            obtain ⟨rfl, rfl⟩ := e
            obtain ⟨g, o, rfl, hcq⟩ := hcs (by omega)
            have h1 : wr.cell? ⟨g, o + q, none⟩ = some R[q].1 := by
              rw [hcq q (by omega), List.getElem?_map, List.getElem?_eq_getElem hlt, Option.map_some]
            have hO' := HO.out.p1
            rw [List.drop_eq_getElem_cons hlt] at hO'
            have hO' := poolc_head hO'
            have hl := HRN.out _ (List.getElem_mem hlt)
            generalize R[q].1 = v1 at h1 hO'
            generalize R[q].2 = x1 at hl hO'
            have HX1 := hid hO'
            have HXL := hid hl
            clear hcs hcq hO' hl
            go_wp2_with fail
            refine (overBytes v1 x1 wr _ HX1.out (by rw [HXL.out]; omega)).mono ?_
            rintro e w12 ⟨rfl, hO12, hK12⟩
            have HO12 := hid hO12.p1
            have HK12 := hid (HK.out.trans hK12)
            clear hO12 hK12 HX1 HK HO h1
            try dsimp only
            go_wp2_with fail
            exact ⟨⟨q + 1, by omega, rfl, HO12, HK12⟩, by simp [intOf]; omega⟩
          · obtain rfl : q = R.length := by omega
            have HO12 := hid (HO.out.drop.drop)
            clear HO
            go_wp2_with fail
            refine (overInts v5 (D.waits.map (·.1)) wr _ HO12.out.p3 (by rw [List.length_map]; exact Nat.le_trans HWB3.out (by omega))).mono ?_
            rintro e w12 ⟨rfl, hO12, hK12⟩
            have HO13 := hid hO12
            have HK13 := hid (HK.out.trans hK12)
            clear hO12 hK12 HO12 HK
            try dsimp only
            go_wp2_with fail
            refine (overInts v6 D.writes w12 _ HO13.out.p2 (Nat.le_trans HLB3.out (by omega))).mono ?_
            rintro e w14 ⟨rfl, hO12, hK12⟩
            have HO14 := hid hO12.p1
            have HK14 := hid (HK13.out.trans hK12)
            clear hO12 hK12 HO13 HK13
            try dsimp only
            go_wp2_with fail
            exact ⟨⟨k + 1, by omega, rfl, hid ⟨E3, HB3.out, HF3.out, HO14.out⟩, HK14⟩, by simp [intOf]; omega⟩
    · obtain rfl : k = n := by omega
      have ht : ((m : Int) == (m : Int)) = true := by simp
      go_wp2_with fail
      refine (kSectors d E wr _ HO.out).mono ?_
      rintro e w' ⟨rfl, rfl⟩
      try dsimp only
      rw [HF.out]
      go_wp2_with fail
      refine (awake4 wr _ HO.out).mono ?_
      rintro e w3 ⟨rfl, hO3, hK3⟩
      have HO3 := hid hO3
      have HK3 := hid ((HK.out).trans hK3)
      clear hO3 hK3
      try dsimp only
      go_wp2_with fail
      go_ret
      exact ⟨rfl, HO3.out.p2.below HK3.out.os HK3.out.tape HK3.out.output⟩
end Go.Proofs.Ytbcilhcmjkgkgaa
