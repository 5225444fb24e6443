/- THE WALKS of the reference's disk: Read, Waiting, New. -/
import Derived.Test.YtbcilhcmjkgkgaaRdskc
import Derived.Test.YtbcilhcmjkgkgaaRe
namespace Go.Proofs.Ytbcilhcmjkgkgaa
open Go.RowKit Go.Own Go.Dk
theorem rlast_none (D : Disk) (x : Int) (h : ∀ z ∈ D.waits, z.1 ≠ x) : D.last x = D.firm.getD x.toNat (.slice none 0 0, []) := by
  unfold Disk.last
  have : D.waits.reverse.find? (fun y => y.1 == x) = none := by
    rw [List.find?_eq_none]
    intro y hy
    simpa using h y (by simpa using hy)
  rw [this]
theorem rlast_some (D : Disk) (x : Int) (m : Nat) (hm : m < D.waits.length) (h1 : D.waits[m].1 = x) (h : ∀ z ∈ D.waits.drop (m + 1), z.1 ≠ x) : D.last x = D.waits[m].2 := by
  unfold Disk.last
  have : D.waits.reverse.find? (fun y => y.1 == x) = some D.waits[m] := by
    have e : D.waits = D.waits.take m ++ D.waits[m] :: D.waits.drop (m + 1) := by rw [List.getElem_cons_drop, List.take_append_drop]
    have e2 : D.waits.reverse = (D.waits.drop (m + 1)).reverse ++ (D.waits[m] :: (D.waits.take m).reverse) := by
      conv => lhs; rw [e]
      simp
    rw [e2, List.find?_append]
    have h3 : List.find? (fun y : Int × Txt => y.1 == x) (D.waits.drop (m + 1)).reverse = none := by
      rw [List.find?_eq_none]
      intro y hy
      simpa using h y (by simpa using hy)
    rw [h3]
    simp [List.find?_cons, h1]
  rw [this]
theorem bc_one' (xs : List Int) : ∀ u ∈ bc xs, u.oneCell' = true := bc_one xs
set_option maxHeartbeats 2000000 in
theorem rRead (c : Nat) (D : Disk) (x : Int) (w : World) (L : List HP) (hw : D.waits.length ≤ 1000000000) (hO : Has w (RDsk c D :: L)) :
    Calls Try.prog 40 #[.pointer (some ⟨c, 0, none⟩), .int .i64 x] w fun e w' => ∃ v, e = .returned (.tuple #[v, .int .i64 (D.read x).1]) ∧ Has w' (Bytes v (D.read x).2 :: RDsk c D :: L) ∧ Keep w w' := by
  have HO := hid hO
  obtain ⟨fv, wv, kv, lv, ks, left, B, hok, hP⟩ := rdsk_iff.1 hO
  obtain ⟨fp, fc, rfl, -, hfl, hfr⟩ := hP.p1.rd.form
  have hc0 : w.cell? ⟨c, 0, none⟩ = some (.slice fp D.firm.length fc) := hP.cells 0
  rcases hon : D.on with _ | _
  · have hc : w.cell? ⟨c, 2, none⟩ = some (.bool true) := by have := hP.cells 2; rw [hon] at this; exact this
    have HF := hid (show D.read x = (4, []) by unfold Disk.read; rw [asked_off hon]; rfl)
    clear hO hP hok hon hfr
    go_enter Try.func40, Try.ntmps40
    go_wp2_with fail
    go_ret2
    rw [HF.out]
    exact ⟨_, rfl, HO.out.row_nil _ _, Keep.refl _⟩
  · have hc : w.cell? ⟨c, 2, none⟩ = some (.bool false) := by have := hP.cells 2; rw [hon] at this; exact this
    by_cases h1 : x < 0
    · have HF := hid (show D.read x = (2, []) by unfold Disk.read; rw [show D.there x = false by simp [Disk.there]; omega]; simp [Disk.asked, hon])
      clear hO hP hok hon hfr
      go_enter Try.func40, Try.ntmps40
      go_wp2_with fail
      go_ret2
      rw [HF.out]
      exact ⟨_, rfl, HO.out.row_nil _ _, Keep.refl _⟩
    have h1' : decide (x < 0) = false := by simp; omega
    by_cases h2 : (D.firm.length : Int) ≤ x
    · have HF := hid (show D.read x = (2, []) by unfold Disk.read; rw [show D.there x = false by simp [Disk.there]; omega]; simp [Disk.asked, hon])
      clear hO hP hok hon hfr
      go_enter Try.func40, Try.ntmps40
      go_wp2_with fail
      go_ret2
      rw [HF.out]
      exact ⟨_, rfl, HO.out.row_nil _ _, Keep.refl _⟩
    have h2' : decide ((D.firm.length : Int) ≤ x) = false := by simp; omega
    have HF := hid (show D.read x = (0, (D.last x).2) by unfold Disk.read; rw [show D.there x = true by simp [Disk.there]; omega]; simp [Disk.asked, hon])
    obtain ⟨q, rfl⟩ := Int.eq_ofNat_of_zero_le (show 0 ≤ x by omega)
    have hq : q < D.firm.length := by omega
    obtain ⟨fg, fo, rfl, hfcc⟩ := hfr (by omega)
    obtain ⟨wp, wc, rfl, hwc, hwl, -⟩ := hP.p2.rd.form
    have hc1 : w.cell? ⟨c, 1, none⟩ = some (.slice wp D.waits.length wc) := hP.cells 1
    have HP := hid hP
    have HOK := hid hok
    have HFC := hid hfcc
    clear hO hP hok hon hfcc h1 h2
    go_enter Try.func40, Try.ntmps40
    go_wp2_with fail
    go_loop [6] (fun i => ∃ m : Nat, m ≤ D.waits.length ∧ i = .int .i64 ((m : Int) - 1) ∧ Hid (∀ z ∈ D.waits.drop m, z.1 ≠ (q : Int))) (fun i => (intOf i + 1).toNat)
    case atStart => exact ⟨D.waits.length, Nat.le_refl _, rfl, hid (by simp)⟩
    case round =>
      obtain ⟨m, hm, rfl, HN⟩ := hrel
      rcases m with _ | m
      · have hrd := HP.out.p5.pool_rd (HOK.out.1.firm _ (List.getElem_mem hq))
        obtain ⟨yp, yc, hy, -⟩ := hrd.form
        have hyl := HOK.out.1.len _ (List.getElem_mem hq)
        have hfq := HFC.out q (by omega)
        rw [List.getElem?_map, List.getElem?_eq_getElem hq, Option.map_some, hy] at hfq
        rw [hy] at hrd
        have HRD := hid hrd
        have HL := hid (show (D.last (q : Int)).2 = D.firm[q].2 by rw [rlast_none D q (by simpa using HN.out)]; simp [hq])
        have HYL := hid hyl
        clear hrd hy hyl
        have hqi : (q : Int) < (D.firm.length : Int) := by omega
        go_wp2_with (at_builtin; refine wpList_appendA rfl _ _ _ rfl Try.underlying28 infoU8 rfl (by decide) (HO.out.row_nil 5 1) rfl _ D.firm[q].2.length _ rfl HRD.out (bc_one _) (le_maxLen (by have := HYL.out; omega)) (by have := HYL.out; omega) ?_)
        intro v' w' h hk
        have h := bytes_of h
        go_wp2_with fail
        go_ret2
        rw [HF.out, HL.out]
        exact ⟨_, rfl, h, hk⟩
      · have e1 : ((m + 1 : Nat) : Int) - 1 = (m : Int) := by omega
        rw [e1]
        have hmw : m < D.waits.length := hm
        obtain ⟨g, c', e, hw1, hw2⟩ := wcellsT HP.out.p2 m hmw
        simp only [Value.slice.injEq, true_and] at e
        obtain ⟨rfl, rfl⟩ := e
        obtain ⟨xp, xc, hx⟩ := okSlicesP HOK.out.1 HP.out.p5 _ (List.getElem_mem hmw)
        have hrd := HP.out.p5.pool_rd (HOK.out.1.waits _ (List.getElem_mem hmw))
        have hwl2 := HOK.out.1.wlen _ (List.getElem_mem hmw)
        rw [hx] at hw2 hrd
        have hmi : (m : Int) < (D.waits.length : Int) := by omega
        have hmi0 : (0 : Int) ≤ (m : Int) := by omega
        have HRD := hid hrd
        have HWL := hid hwl2
        clear hrd hwl2 hx e1
        by_cases hat : D.waits[m].1 = (q : Int)
        · have htt : (D.waits[m].1 == (q : Int)) = true := by simp [hat]
          have HL := hid (show (D.last (q : Int)).2 = D.waits[m].2.2 by rw [rlast_some D q m hmw hat HN.out])
          clear hat
          go_wp2_with (at_builtin; refine wpList_appendA rfl _ _ _ rfl Try.underlying28 infoU8 rfl (by decide) (HO.out.row_nil 5 1) rfl _ D.waits[m].2.2.length _ rfl (by rw [HWL.out]; have := HRD.out; rw [HWL.out] at this; exact this) (bc_one _) (le_maxLen (by have := HWL.out; omega)) (by have := HWL.out; omega) ?_)
          intro v' w' h hk
          have h := bytes_of h
          go_wp2_with fail
          go_ret2
          rw [HF.out, HL.out]
          exact ⟨_, rfl, h, hk⟩
        · have htt : (D.waits[m].1 == (q : Int)) = false := by simp [hat]
          have HN2 := hid (show ∀ z ∈ D.waits.drop m, z.1 ≠ (q : Int) by
            intro z hz
            rw [← List.getElem_cons_drop hmw] at hz
            rcases List.mem_cons.1 hz with rfl | hz
            · exact hat
            · exact HN.out z hz)
          clear hat
          go_wp2_with fail
          exact ⟨⟨m, by omega, rfl, HN2⟩, by simp [intOf]⟩
theorem rWaitO (c : Nat) (fv wv kv lv : Value) (off : Bool) (left fl : Int) (Q : List (Int × Txt)) (w : World) (L : List HP) (hw : Q.length ≤ 1000000000) (hO : Has w (pt c (.cells #[fv, wv, .bool off, .int .i64 left, .int .i64 fl, kv, lv] 56) :: row wv 81 2 Q.length (wenc Q) :: L)) :
    Calls Try.prog 30 #[.pointer (some ⟨c, 0, none⟩)] w fun e w' => ∃ v, e = .returned v ∧ Has w' (Ints v (Q.map (·.1)) :: pt c (.cells #[fv, wv, .bool off, .int .i64 left, .int .i64 fl, kv, lv] 56) :: row wv 81 2 Q.length (wenc Q) :: L) ∧ Keep w w' := by
  have HO := hid hO
  obtain ⟨wp, wc, rfl, hwc, hwl, -⟩ := hO.p1.rd.form
  clear hO
  go_enter Try.func30, Try.ntmps30
  go_wp2_with fail
  go_loopw [4, 3] (fun i v w' => ∃ k : Nat, k ≤ Q.length ∧ i = .int .i64 k ∧ Hid (Has w' (Ints v ((Q.take k).map (·.1)) :: pt c (.cells #[fv, .slice wp Q.length wc, .bool off, .int .i64 left, .int .i64 fl, kv, lv] 56) :: row (.slice wp Q.length wc) 81 2 Q.length (wenc Q) :: L)) ∧ Hid (Keep w w')) (fun i _ _ => Q.length - (intOf i).toNat)
  case atStart => exact ⟨0, by omega, rfl, hid (HO.out.row_nil _ _), hid (Keep.refl _)⟩
  case round =>
    clear HO
    obtain ⟨k, hk, rfl, HX, HK⟩ := hrel
    have hc1 : wr.cell? ⟨c, 1, none⟩ = some (.slice wp Q.length wc) := HX.out.p1.cells 1
    by_cases hlt : k < Q.length
    · obtain ⟨g, c', e, hw1, hw2⟩ := wcellsT HX.out.p2 k hlt
      simp only [Value.slice.injEq, true_and] at e
      obtain ⟨rfl, rfl⟩ := e
      have HT := hid (show (Q.take (k + 1)).map (·.1) = (Q.take k).map (·.1) ++ [Q[k].1] from by rw [← List.take_append_getElem hlt, List.map_append]; rfl)
      have hlen : ((Q.take k).map (·.1)).length = k := by simp; omega
      have hki : (k : Int) < (Q.length : Int) := by omega
      clear hw2
      go_wp2_with (at_builtin; refine wpList_append1 rfl _ _ _ rfl Try.underlying22 infoInt rfl (.int .i64 Q[k].1) (HX.out.alloc' _) rfl 1 _ rfl (by simp) rfl (le_maxLen (by omega)) (by omega) ?_)
      intro v' w' h hk
      have HO4 := hid h
      have HK4 := hid ((HK.out.alloc _).trans hk)
      clear h hk
      go_wp2_with fail
      refine ⟨⟨k + 1, by omega, by go_num, hid ?_, HK4⟩, by simp [intOf]; omega⟩
      rw [HT.out]
      have := HO4.out
      have hm : min k Q.length = k := by omega
      simpa [Ints, ic_snoc, hm] using this
    · obtain rfl : k = Q.length := by omega
      go_wp2_with fail
      go_ret
      have h := HX.out
      rw [List.take_length] at h
      exact ⟨_, rfl, h, HK.out⟩
theorem rWaiting (c : Nat) (D : Disk) (w : World) (L : List HP) (hw : D.waits.length ≤ 1000000000) (hO : Has w (RDsk c D :: L)) :
    Calls Try.prog 30 #[.pointer (some ⟨c, 0, none⟩)] w fun e w' => ∃ v, e = .returned v ∧ Has w' (Ints v (D.waits.map (·.1)) :: RDsk c D :: L) ∧ Keep w w' := by
  obtain ⟨fv, wv, kv, lv, ks, left, B, hok, hP⟩ := rdsk_iff.1 hO
  refine (rWaitO c fv wv kv lv _ left D.flushes D.waits w _ hw (hP.re 3 [0, 2, 1])).mono ?_
  rintro e w' ⟨v, he, h, hK⟩
  exact ⟨v, he, (rdsk_iff.2 ⟨fv, wv, kv, lv, ks, left, B, hok, h.re 7 [1, 3, 2, 4, 5, 6, 0]⟩).p1, hK⟩
theorem rNewNil (n : Int) (w : World) (h : n < 1 ∨ 2048 < n) : Calls Try.prog 27 #[.int .i64 n] w fun e w' => e = .returned (.pointer none) ∧ w = w' := by
  by_cases h1 : n < 1
  · go_enter Try.func27, Try.ntmps27
    go_wp2
    go_ret
    exact ⟨rfl, rfl⟩
  · have h1' : decide (n < 1) = false := by simp; omega
    have h2 : decide ((2048 : Int) < n) = true := by simp; omega
    go_enter Try.func27, Try.ntmps27
    go_wp2
    go_ret
    exact ⟨rfl, rfl⟩
set_option maxHeartbeats 1000000 in
theorem rNew (n : Nat) (W : World) (L : List HP) (h1 : 1 ≤ n) (h2 : n ≤ 2048) (hO : Has W L) :
    Calls Try.prog 27 #[.int .i64 (n : Int)] W fun e w' => ∃ (d : Nat) (F : List Txt), e = .returned (.pointer (some ⟨d, 0, none⟩)) ∧ F.length = n ∧ (∀ x ∈ F, x.2 = zer) ∧ Has w' (RDsk d ⟨F, [], true, none, [], 0⟩ :: L) ∧ Keep W w' := by
  have HO := hid hO
  clear hO
  have hn1 : decide ((n : Int) < 1) = false := by simp; omega
  have hn2 : decide ((2048 : Int) < (n : Int)) = false := by simp; omega
  go_enter Try.func27, Try.ntmps27
  go_wp2_with fail
  have HN := hid (HO.out.alloc (.cells #[.slice none 0 0, .slice none 0 0, .bool false, .int .i64 (-1), .int .i64 0, .slice none 0 0, .slice none 0 0] 56))
  have HK0 := hid ((Keep.refl W).alloc (.cells #[.slice none 0 0, .slice none 0 0, .bool false, .int .i64 (-1), .int .i64 0, .slice none 0 0, .slice none 0 0] 56))
  generalize W.heap.size = d at *
  go_loopw [4] (fun i w => ∃ k : Nat, k ≤ n ∧ i = .int .i64 k ∧ Hid (∃ (fv : Value) (F : List Txt), F.length = k ∧ (∀ x ∈ F, x.2 = zer) ∧ Has w (pt d (.cells #[fv, .slice none 0 0, .bool false, .int .i64 (-1), .int .i64 0, .slice none 0 0, .slice none 0 0] 56) :: row fv 28 1 k (F.map (·.1)) :: poolc 5 F :: L)) ∧ Hid (Keep W w)) (fun i _ => n - (intOf i).toNat)
  case atStart => exact ⟨0, by omega, rfl, hid ⟨.slice none 0 0, [], rfl, by simp, (HN.out.pool_nil.row_nil _ _).p2⟩, HK0⟩
  case round =>
    obtain ⟨k, hk, rfl, HY, HK⟩ := hrel
    obtain ⟨fv, F, hF, hz, hO⟩ := HY.out
    by_cases hlt : k < n
    · have hc := hO.cells
      have ht := hO.thaw
      have HO1 := hid hO
      have HF := hid hF
      have HZ := hid hz
      clear hO hF hz
      go_wp2_with fail
      refine region_tail1 (fun w => w.cell? ⟨d, 0, none⟩ = some fv) (by kernel_rfl) (by kernel_rfl) (by kernel_rfl) (by decide) (HO1.out.drew.cells 0) ?_
      repeat (first
        | (refine wpL_read (by rfl) (by rfl) ?_ ?_ ?_; rotate_left; (intro w hS; go_simp; with_reducible rfl); simp only [Act.put, List.setIfInBounds_toArray, List.set_cons_zero, List.set_cons_succ]) | (refine wpL_skip (by rfl) ?_; simp only [Act.put, List.setIfInBounds_toArray, List.set_cons_zero, List.set_cons_succ]))
      refine wpL_act (by rfl) (by rfl) (fun K hK => ?_)
      go_simp
      rw [make128]
      go_simp
      have HO2 := hid (made128 HO1.out).drew
      generalize wr.heap.size = b at *
      refine hK.out _ _ (HO2.out.p1.cells 0) ?_
      clear hK K
      try simp only [Act.put, List.setIfInBounds_toArray, List.set_cons_zero, List.set_cons_succ]
      have HK2 := hid ((HK.out.alloc (.cells zeros128 5)).drew)
      clear HO1 HK hc ht HN HO
      generalize (wr.alloc (.cells zeros128 5)).drew = w2 at *
      repeat (first
        | (refine wpL_read (by rfl) (by rfl) ?_ ?_ ?_; rotate_left; (intro w hS; go_simp; with_reducible rfl); simp only [Act.put, List.setIfInBounds_toArray, List.set_cons_zero, List.set_cons_succ]) | (refine wpL_skip (by rfl) ?_; simp only [Act.put, List.setIfInBounds_toArray, List.set_cons_zero, List.set_cons_succ]))
      refine wpL_act (by rfl) (by rfl) (fun K hK => ?_)
      go_simp
      have HO3 := hid (HO2.out.alloc (.cells #[.slice (some ⟨b, 0, none⟩) 128 128] 28))
      have HK3 := hid (HK2.out.alloc (.cells #[.slice (some ⟨b, 0, none⟩) 128 128] 28))
      generalize w2.heap.size = b2 at *
      refine hK.out _ _ (HO3.out.p2.cells 0) ?_
      clear hK K
      try simp only [Act.put, List.setIfInBounds_toArray, List.set_cons_zero, List.set_cons_succ]
      generalize w2.alloc (.cells #[.slice (some ⟨b, 0, none⟩) 128 128] 28) = w3 at *
      refine wpL_act (by rfl) (by rfl) (fun K hK => ?_)
      refine wp_append1 (.tmp 22) (.tmp 24) 27 rfl Try.underlying27 infoBs rfl [.slice (some ⟨b, 0, none⟩) 128 128] rfl HO3.out.p3 (by rfl) 1 b2 (by rfl) (fun j => by simpa using HO3.out.cells j) (by simp [Value.oneCell']) (le_maxLen (by omega)) (by omega) fun v' w' h2 h3 => ?_
      obtain ⟨vp, vc, rfl, -⟩ := h2.rd.form
      have HO4 := hid h2
      have HK4 := hid (HK3.out.trans h3)
      clear h2 h3 HO3 HK3 HO2 HK2
      refine hK.out _ _ (HO4.out.p3.cells 0) ?_
      clear hK K
      try simp only [Act.put, List.setIfInBounds_toArray, List.set_cons_zero, List.set_cons_succ]
      repeat (first
        | (refine wpL_read (by rfl) (by rfl) ?_ ?_ ?_; rotate_left; (intro w hS; go_simp; with_reducible rfl); simp only [Act.put, List.setIfInBounds_toArray, List.set_cons_zero, List.set_cons_succ]) | (refine wpL_skip (by rfl) ?_; simp only [Act.put, List.setIfInBounds_toArray, List.set_cons_zero, List.set_cons_succ]))
      refine wpL_nil ?_
      refine wpOp_last rfl (by rfl) ?_
      have ht := HO4.out.p3.thaw
      have hc := HO4.out.p3.cells
      go_simp
      have HO5 := hid (HO4.out.p3.set 0 (.slice vp (k + 1) vc))
      have HK5 := hid (HK4.out.set ⟨d, 0, none⟩ (.slice vp (k + 1) vc))
      clear HO4 HK4 ht hc
      go_wp2_with fail
      refine ⟨⟨k + 1, by omega, rfl, hid ⟨.slice vp (k + 1) vc, F ++ [(.slice (some ⟨b, 0, none⟩) 128 128, zer)], ?_, ?_, ?_⟩, HK5⟩, ?_⟩
      · rw [List.length_append, HF.out]; rfl
      · intro x hx
        rcases List.mem_append.1 hx with h | h
        · exact HZ.out x h
        · rw [List.mem_singleton.1 h]
      · rw [List.map_append]
        exact HO5.out.p2.drop.p2.p3.p1.pool_snoc.b2
      · simp only [intOf]; omega
    · have hc := hO.cells
      have ht := hO.thaw
      have e : k = n := by omega
      subst e
      have HO1 := hid hO
      have HF := hid hF
      have HZ := hid hz
      clear hO hF hz
      go_wp2_with fail
      go_ret
      refine ⟨d, F, rfl, HF.out, HZ.out, rdsk_iff.2 ⟨fv, .slice none 0 0, .slice none 0 0, .slice none 0 0, [], -1, F, ⟨⟨fun _ h => h, by simp, by simp, fun x hx => by rw [HZ.out x hx]; rfl, by simp, by simp⟩, rfl⟩, ?_⟩, HK.out⟩
      have hF := HF.out
      have h1 := (((HO1.out.row_nil 3 1).row_nil 4 1).row_nil 81 2)
      rw [← hF] at h1
      exact h1.p3.p4.p1
end Go.Proofs.Ytbcilhcmjkgkgaa
