/- TEXTS of mine, merged. -/
import Derived.Test.YtonhcefgakmpfaaGreatDoorM9
import Derived.Test.YtonhcefgakmpfaaGreatDoorM16
import Derived.Test.YtonhcefgakmpfaaGreatDoorM10
import Derived.Test.YtonhcefgakmpfaaGreatDoorM11
/- THE WALK of tree.seek. -/
namespace Go.Proofs.YtonhcefgakmpfaaGreatDoor
open Go.RowKit Go.Own
set_option maxRecDepth 100000 in
set_option maxHeartbeats 8000000 in
theorem tSeek (q : Nat) (S : Tre) (o : Opm) (ov : Value) (w : World) (L : List HP) (hop : Opn S) (hO : Has w (Trc q S :: L)) :
    Calls Tryz.prog 56 #[.pointer (some ⟨q, 0, none⟩), opV o ov] w fun e w' => ∃ dv, e = .returned (ansV (S.seek o.fd o.n o.off).1 dv nilV) ∧ Has w' (Bytes dv (S.seek o.fd o.n o.off).1.data :: Trc q (S.seek o.fd o.n o.off).2 :: L) ∧ Keep w w' := by
  obtain ⟨m, f, P, hPT, h⟩ := trc_iff.1 hO
  have HF := hid (fun (w : World) (L' : List HP) (hO : Has w (Trb q m f P S.last S.tab :: L')) => tFile q m f P S o.fd false w L' (fun s hs => hop.there _ s hs) hPT hO)
  have HOF := hid (hop.file o.fd false)
  generalize hR : S.seek o.fd o.n o.off = R
  unfold Tre.seek at hR
  generalize S.file o.fd false = g at *
  obtain ⟨s, eg⟩ := g
  dsimp only at *
  have HR := hid hR
  have HPT := hid hPT
  have HDL := hid hop.data
  have HO := hid h
  clear hO hR h hop hPT
  unfold opV opC
  go_enter Tryz.func56, Tryz.ntmps56
  go_upto_region 1 with fail
  have h1 := (HO.out.alloc (.cells (opC o ov) 35)).alloc (.cells (ansC (ansE 0) nilV nilV) 32)
  have HK1 := hid (((Keep.refl w).alloc (.cells (opC o ov) 35)).alloc (.cells (ansC (ansE 0) nilV nilV) 32))
  unfold opC ansC ansE at h1 HK1
  have e1 : (w.alloc (.cells #[.int .i64 o.kind, .int .i64 o.fd, .int .i64 o.n, .int .i64 o.off, .int .i64 o.flags, sV o.path, sV o.dest, ov] 35)).heap.size = w.heap.size + 1 := by show (Array.push _ _).size = _; rw [Array.size_push]
  rw [e1] at h1
  have HO1 := hid h1
  clear h1 e1 HO
  generalize (w.alloc (.cells #[.int .i64 o.kind, .int .i64 o.fd, .int .i64 o.n, .int .i64 o.off, .int .i64 o.flags, sV o.path, sV o.dest, ov] 35)).alloc (.cells #[.int .i64 0, .int .i64 0, .int .i64 0, .int .i64 0, nilV, nilV] 32) = w1 at *
  generalize w.heap.size = g3 at *
  generalize g3 + 1 = g4 at *
  have hp1 : w1.cell? ⟨g3, 1, none⟩ = some (.int .i64 o.fd) := HO1.out.p1.cells 1
  go_cut [5, 6, 7] (fun p5 p6 e7 wx => ∃ (w3 : World) (g5 : Nat) (pv : Value), w3 = wx ∧ e7 = .int .i64 eg ∧ p5 = .pointer (some ⟨g5, 0, none⟩) ∧ p6 = pv ∧ (eg = 0 → ∃ b x, (s.node, b, x) ∈ P ∧ fnd S.nodes s.node = some x ∧ x.kind ≠ 2 ∧ pv = .pointer (some ⟨b, 0, none⟩)) ∧ Hid (Has w3 (Trb q m f P S.last S.tab :: pt g5 (.cells (filC s) 98) :: pt g4 (.cells (ansC (ansE 0) nilV nilV) 32) :: pt g3 (.cells (opC o ov) 35) :: L)) ∧ Hid (Keep w w3))
  case first =>
    go_wp2_with fail
    refine (HF.out _ _ (HO1.out.re 3 [2, 0, 1])).mono ?_
    rintro e w2 ⟨pv, rfl, hpv, hO2, hK2⟩
    unfold filC
    go_wp2_with fail
    go_meet
    exact ⟨_, _, pv, rfl, rfl, rfl, rfl, hpv, hid ((hO2.alloc (.cells (filC s) 98)).re 4 [1, 0, 2, 3]), hid ((HK1.out.trans hK2).alloc _)⟩
  case rest =>
    obtain ⟨w3, g5, pv, rfl, rfl, rfl, rfl, hpv, HO3, HK3⟩ := hcut
    clear HO1 HK1 hp1 HF
    have HOa := hid (show Has w3 (pt g4 (.cells (ansC (ansE 0) nilV nilV) 32) :: Trb q m f P S.last S.tab :: L) from HO3.out.re 4 [2, 0])
    have hz0 : w3.cell? ⟨g4, 0, none⟩ = some (.int .i64 0) := (HOa.out).cells 0
    have hz1 : w3.cell? ⟨g4, 1, none⟩ = some (.int .i64 0) := (HOa.out).cells 1
    have hz2 : w3.cell? ⟨g4, 2, none⟩ = some (.int .i64 0) := (HOa.out).cells 2
    have hz3 : w3.cell? ⟨g4, 3, none⟩ = some (.int .i64 0) := (HOa.out).cells 3
    have hz4 : w3.cell? ⟨g4, 4, none⟩ = some (.slice none 0 0) := (HOa.out).cells 4
    have hz5 : w3.cell? ⟨g4, 5, none⟩ = some (.slice none 0 0) := (HOa.out).cells 5
    have hy0 := (HOa.out).thaw 0
    have hy1 := (HOa.out).thaw 1
    have hy2 := (HOa.out).thaw 2
    have hy3 := (HOa.out).thaw 3
    have hy4 := (HOa.out).thaw 4
    have hy5 := (HOa.out).thaw 5
    have hp0 : w3.cell? ⟨g3, 0, none⟩ = some (.int .i64 o.kind) := HO3.out.p3.cells 0
    have hp1 : w3.cell? ⟨g3, 1, none⟩ = some (.int .i64 o.fd) := HO3.out.p3.cells 1
    have hp2 : w3.cell? ⟨g3, 2, none⟩ = some (.int .i64 o.n) := HO3.out.p3.cells 2
    have hp3 : w3.cell? ⟨g3, 3, none⟩ = some (.int .i64 o.off) := HO3.out.p3.cells 3
    have hf1 : w3.cell? ⟨g5, 1, none⟩ = some (.int .i64 s.off) := HO3.out.p1.cells 1
    by_cases he : eg = 0
    · subst he
      obtain ⟨b, x, hb, hx, hxk, rfl⟩ := hpv rfl
      have HOFF := hid (HOF.out rfl)
      have hat : S.at_ s.node = x := by unfold Tre.at_; rw [hx]; rfl
      have HXL := hid (HDL.out _ _ hx)
      replace HR := hid ((if_neg (fun h => h rfl)).symm.trans HR.out)
      rw [hat] at HR
      have HOz := HOFF.out
      have hlz : (x.data.length : Int) ≤ 100000 := by have := HXL.out; omega
      have hlz0 : (0 : Int) ≤ (x.data.length : Int) := by omega
      obtain ⟨hs0, hs9⟩ := HOz
      by_cases hn0 : o.n = 0
      · rw [hn0] at HR hp2
        replace HR := hid (show (if o.off < - (0 : Int) ∨ o.off > 1099511627776 - (0 : Int) then (ansE 2, S) else ((⟨0, o.off, 0, 0, [], []⟩ : Ans), { S with tab := (Tb.mov S.tab o.fd (o.off)).2 })) = R from by
          have h0 : (if o.off < - (0 : Int) ∨ o.off > 1099511627776 - (0 : Int) then (ansE 2, S) else ((⟨0, (0 : Int) + o.off, 0, 0, [], []⟩ : Ans), { S with tab := (Tb.mov S.tab o.fd ((0 : Int) + o.off)).2 })) = R := by rw [← HR.out]; rfl
          rwa [Int.zero_add] at h0)
        by_cases hb1 : o.off < - (0 : Int)
        · have HRR := hid (show R = (ansE 2, S) from by rw [← HR.out, if_pos (.inl hb1)])
          skip
          go_wp2_with fail
          refine (tCode (2 : Int) w3 _ HOa.out).mono ?_
          rintro e w5 ⟨rfl, hO5, hK5⟩
          have HO5 := hid hO5
          have HK5 := hid ((HK3.out).trans hK5)
          clear hO5 hK5
          unfold ansV ansC ansE
          clear hz0 hz1 hz2 hz3 hz4 hz5 hy0 hy1 hy2 hy3 hy4 hy5
          have hz0 : w5.cell? ⟨g4, 0, none⟩ = some (.int .i64 0) := (HO5.out).cells 0
          have hz1 : w5.cell? ⟨g4, 1, none⟩ = some (.int .i64 0) := (HO5.out).cells 1
          have hz2 : w5.cell? ⟨g4, 2, none⟩ = some (.int .i64 0) := (HO5.out).cells 2
          have hz3 : w5.cell? ⟨g4, 3, none⟩ = some (.int .i64 0) := (HO5.out).cells 3
          have hz4 : w5.cell? ⟨g4, 4, none⟩ = some (.slice none 0 0) := (HO5.out).cells 4
          have hz5 : w5.cell? ⟨g4, 5, none⟩ = some (.slice none 0 0) := (HO5.out).cells 5
          have hy0 := (HO5.out).thaw 0
          have hy1 := (HO5.out).thaw 1
          have hy2 := (HO5.out).thaw 2
          have hy3 := (HO5.out).thaw 3
          have hy4 := (HO5.out).thaw 4
          have hy5 := (HO5.out).thaw 5
          go_wp2_with fail
          have h1 := ((show Has w5 (pt g4 (.cells (ansC (ansE 0) nilV nilV) 32) :: Trb q m f P S.last S.tab :: L) from HO5.out)).ans (ansE (2 : Int)) nilV nilV
          refine bodyPost_ret (ans_result rfl rfl h1) rfl ?_
          rw [HRR.out]
          exact ⟨_, rfl, (trc_iff.2 ⟨m, f, P, HPT.out, h1.drop⟩ : Has _ (Trc q S :: L)).row_nil 5 1, HK5.out.ans _ _ _ _ _ _ _⟩
        by_cases hb2 : o.off > 1099511627776 - (0 : Int)
        · have HRR := hid (show R = (ansE 2, S) from by rw [← HR.out, if_pos (.inr hb2)])
          skip
          go_wp2_with fail
          refine (tCode (2 : Int) w3 _ HOa.out).mono ?_
          rintro e w5 ⟨rfl, hO5, hK5⟩
          have HO5 := hid hO5
          have HK5 := hid ((HK3.out).trans hK5)
          clear hO5 hK5
          unfold ansV ansC ansE
          clear hz0 hz1 hz2 hz3 hz4 hz5 hy0 hy1 hy2 hy3 hy4 hy5
          have hz0 : w5.cell? ⟨g4, 0, none⟩ = some (.int .i64 0) := (HO5.out).cells 0
          have hz1 : w5.cell? ⟨g4, 1, none⟩ = some (.int .i64 0) := (HO5.out).cells 1
          have hz2 : w5.cell? ⟨g4, 2, none⟩ = some (.int .i64 0) := (HO5.out).cells 2
          have hz3 : w5.cell? ⟨g4, 3, none⟩ = some (.int .i64 0) := (HO5.out).cells 3
          have hz4 : w5.cell? ⟨g4, 4, none⟩ = some (.slice none 0 0) := (HO5.out).cells 4
          have hz5 : w5.cell? ⟨g4, 5, none⟩ = some (.slice none 0 0) := (HO5.out).cells 5
          have hy0 := (HO5.out).thaw 0
          have hy1 := (HO5.out).thaw 1
          have hy2 := (HO5.out).thaw 2
          have hy3 := (HO5.out).thaw 3
          have hy4 := (HO5.out).thaw 4
          have hy5 := (HO5.out).thaw 5
          go_wp2_with fail
          have h1 := ((show Has w5 (pt g4 (.cells (ansC (ansE 0) nilV nilV) 32) :: Trb q m f P S.last S.tab :: L) from HO5.out)).ans (ansE (2 : Int)) nilV nilV
          refine bodyPost_ret (ans_result rfl rfl h1) rfl ?_
          rw [HRR.out]
          exact ⟨_, rfl, (trc_iff.2 ⟨m, f, P, HPT.out, h1.drop⟩ : Has _ (Trc q S :: L)).row_nil 5 1, HK5.out.ans _ _ _ _ _ _ _⟩
        replace HR := hid ((if_neg (by rintro (h | h); exact hb1 h; exact hb2 h)).symm.trans HR.out)
        skip
        clear hz0 hz1 hz2 hz3 hz4 hz5 hy0 hy1 hy2 hy3 hy4 hy5
        have HTb := hid (show Has w3.drew (Tab f S.tab :: Trt q m f P S.last :: pt g5 (.cells (filC s) 98) :: pt g4 (.cells (ansC (ansE 0) nilV nilV) 32) :: pt g3 (.cells (opC o ov) 35) :: L) from Trb.tab.1 HO3.out.drew)
        have hq2 := (Trb.cells HO3.out.drew).2.2
        have hr1 : w3.drew.cell? ⟨g3, 1, none⟩ = some (.int .i64 o.fd) := hp1
        have hr3 : w3.drew.cell? ⟨g3, 3, none⟩ = some (.int .i64 o.off) := hp3
        go_upto_region 14 with fail
        refine region_text (fun w' => w'.cell? ⟨q, 2, none⟩ = some (.pointer (some ⟨f, 0, none⟩)) ∧ w'.cell? ⟨g3, 1, none⟩ = some (.int .i64 o.fd) ∧ w'.cell? ⟨g3, 3, none⟩ = some (.int .i64 o.off)) (by kernel_rfl) (by kernel_rfl) ⟨hq2, hr1, hr3⟩ ?_
        repeat (first
          | (refine wpL_read (by rfl) (by rfl) ?_ ?_ ?_; rotate_left; (rintro w ⟨z0, z1, z2⟩; go_simp; with_reducible rfl); simp only [Act.put, List.setIfInBounds_toArray, List.set_cons_zero, List.set_cons_succ]) | (refine wpL_skip (by rfl) ?_; simp only [Act.put, List.setIfInBounds_toArray, List.set_cons_zero, List.set_cons_succ]))
        try rw [wrapk_in (o.off) (by omega)]
        refine wpL_act (by rfl) (by rfl) (fun K hK => ?_)
        go_simp
        refine (tabMove f S.tab o.fd (o.off) _ _ HPT.out.2 HTb.out).mono ?_
        rintro e w8 ⟨rfl, hO8, hK8⟩
        have HO8 := hid hO8
        have HK8 := hid ((HK3.out.drew).trans hK8)
        clear hO8 hK8
        try dsimp only
        refine hK.out _ _ (⟨(Trb.cells (Trb.tab.2 HO8.out)).2.2, HO8.out.p4.cells 1, HO8.out.p4.cells 3⟩) ?_
        clear hK K
        try simp only [Act.put, List.setIfInBounds_toArray, List.set_cons_zero, List.set_cons_succ]
        refine wpL_nil ?_
        have HO9 := hid (show Has w8 (pt g4 (.cells (ansC (ansE 0) nilV nilV) 32) :: pt g3 (.cells (opC o ov) 35) :: Trb q m f P S.last (Tb.mov S.tab o.fd (o.off)).2 :: L) from (Trb.tab.2 HO8.out).re 4 [2, 3, 0])
        have hz0 : w8.cell? ⟨g4, 0, none⟩ = some (.int .i64 0) := (HO9.out).cells 0
        have hz1 : w8.cell? ⟨g4, 1, none⟩ = some (.int .i64 0) := (HO9.out).cells 1
        have hz2 : w8.cell? ⟨g4, 2, none⟩ = some (.int .i64 0) := (HO9.out).cells 2
        have hz3 : w8.cell? ⟨g4, 3, none⟩ = some (.int .i64 0) := (HO9.out).cells 3
        have hz4 : w8.cell? ⟨g4, 4, none⟩ = some (.slice none 0 0) := (HO9.out).cells 4
        have hz5 : w8.cell? ⟨g4, 5, none⟩ = some (.slice none 0 0) := (HO9.out).cells 5
        have hy0 := (HO9.out).thaw 0
        have hy1 := (HO9.out).thaw 1
        have hy2 := (HO9.out).thaw 2
        have hy3 := (HO9.out).thaw 3
        have hy4 := (HO9.out).thaw 4
        have hy5 := (HO9.out).thaw 5
        have hs3 : w8.cell? ⟨g3, 3, none⟩ = some (.int .i64 o.off) := HO9.out.p1.cells 3
        go_wp2_with fail
        have h1 := HO9.out.ans ⟨0, o.off, 0, 0, [], []⟩ nilV nilV
        refine bodyPost_ret (ans_result rfl rfl h1) rfl ?_
        rw [← HR.out]
        exact ⟨_, rfl, (show Has _ (Trc q { S with tab := (Tb.mov S.tab o.fd (o.off)).2 } :: L) from trc_iff.2 ⟨m, f, P, ⟨HPT.out.1, Tb.mov_len _ _ _ HPT.out.2⟩, h1.drop.drop⟩).row_nil 5 1, HK8.out.ans _ _ _ _ _ _ _⟩
      by_cases hn1 : o.n = 1
      · rw [hn1] at HR hp2
        replace HR := hid (show (if o.off < - s.off ∨ o.off > 1099511627776 - s.off then (ansE 2, S) else ((⟨0, s.off + o.off, 0, 0, [], []⟩ : Ans), { S with tab := (Tb.mov S.tab o.fd (s.off + o.off)).2 })) = R from by rw [← HR.out]; rfl)
        by_cases hb1 : o.off < - s.off
        · have HRR := hid (show R = (ansE 2, S) from by rw [← HR.out, if_pos (.inl hb1)])
          skip
          go_wp2_with fail
          refine (tCode (2 : Int) w3 _ HOa.out).mono ?_
          rintro e w5 ⟨rfl, hO5, hK5⟩
          have HO5 := hid hO5
          have HK5 := hid ((HK3.out).trans hK5)
          clear hO5 hK5
          unfold ansV ansC ansE
          clear hz0 hz1 hz2 hz3 hz4 hz5 hy0 hy1 hy2 hy3 hy4 hy5
          have hz0 : w5.cell? ⟨g4, 0, none⟩ = some (.int .i64 0) := (HO5.out).cells 0
          have hz1 : w5.cell? ⟨g4, 1, none⟩ = some (.int .i64 0) := (HO5.out).cells 1
          have hz2 : w5.cell? ⟨g4, 2, none⟩ = some (.int .i64 0) := (HO5.out).cells 2
          have hz3 : w5.cell? ⟨g4, 3, none⟩ = some (.int .i64 0) := (HO5.out).cells 3
          have hz4 : w5.cell? ⟨g4, 4, none⟩ = some (.slice none 0 0) := (HO5.out).cells 4
          have hz5 : w5.cell? ⟨g4, 5, none⟩ = some (.slice none 0 0) := (HO5.out).cells 5
          have hy0 := (HO5.out).thaw 0
          have hy1 := (HO5.out).thaw 1
          have hy2 := (HO5.out).thaw 2
          have hy3 := (HO5.out).thaw 3
          have hy4 := (HO5.out).thaw 4
          have hy5 := (HO5.out).thaw 5
          go_wp2_with fail
          have h1 := ((show Has w5 (pt g4 (.cells (ansC (ansE 0) nilV nilV) 32) :: Trb q m f P S.last S.tab :: L) from HO5.out)).ans (ansE (2 : Int)) nilV nilV
          refine bodyPost_ret (ans_result rfl rfl h1) rfl ?_
          rw [HRR.out]
          exact ⟨_, rfl, (trc_iff.2 ⟨m, f, P, HPT.out, h1.drop⟩ : Has _ (Trc q S :: L)).row_nil 5 1, HK5.out.ans _ _ _ _ _ _ _⟩
        by_cases hb2 : o.off > 1099511627776 - s.off
        · have HRR := hid (show R = (ansE 2, S) from by rw [← HR.out, if_pos (.inr hb2)])
          skip
          go_wp2_with fail
          refine (tCode (2 : Int) w3 _ HOa.out).mono ?_
          rintro e w5 ⟨rfl, hO5, hK5⟩
          have HO5 := hid hO5
          have HK5 := hid ((HK3.out).trans hK5)
          clear hO5 hK5
          unfold ansV ansC ansE
          clear hz0 hz1 hz2 hz3 hz4 hz5 hy0 hy1 hy2 hy3 hy4 hy5
          have hz0 : w5.cell? ⟨g4, 0, none⟩ = some (.int .i64 0) := (HO5.out).cells 0
          have hz1 : w5.cell? ⟨g4, 1, none⟩ = some (.int .i64 0) := (HO5.out).cells 1
          have hz2 : w5.cell? ⟨g4, 2, none⟩ = some (.int .i64 0) := (HO5.out).cells 2
          have hz3 : w5.cell? ⟨g4, 3, none⟩ = some (.int .i64 0) := (HO5.out).cells 3
          have hz4 : w5.cell? ⟨g4, 4, none⟩ = some (.slice none 0 0) := (HO5.out).cells 4
          have hz5 : w5.cell? ⟨g4, 5, none⟩ = some (.slice none 0 0) := (HO5.out).cells 5
          have hy0 := (HO5.out).thaw 0
          have hy1 := (HO5.out).thaw 1
          have hy2 := (HO5.out).thaw 2
          have hy3 := (HO5.out).thaw 3
          have hy4 := (HO5.out).thaw 4
          have hy5 := (HO5.out).thaw 5
          go_wp2_with fail
          have h1 := ((show Has w5 (pt g4 (.cells (ansC (ansE 0) nilV nilV) 32) :: Trb q m f P S.last S.tab :: L) from HO5.out)).ans (ansE (2 : Int)) nilV nilV
          refine bodyPost_ret (ans_result rfl rfl h1) rfl ?_
          rw [HRR.out]
          exact ⟨_, rfl, (trc_iff.2 ⟨m, f, P, HPT.out, h1.drop⟩ : Has _ (Trc q S :: L)).row_nil 5 1, HK5.out.ans _ _ _ _ _ _ _⟩
        replace HR := hid ((if_neg (by rintro (h | h); exact hb1 h; exact hb2 h)).symm.trans HR.out)
        skip
        clear hz0 hz1 hz2 hz3 hz4 hz5 hy0 hy1 hy2 hy3 hy4 hy5
        have HTb := hid (show Has w3.drew (Tab f S.tab :: Trt q m f P S.last :: pt g5 (.cells (filC s) 98) :: pt g4 (.cells (ansC (ansE 0) nilV nilV) 32) :: pt g3 (.cells (opC o ov) 35) :: L) from Trb.tab.1 HO3.out.drew)
        have hq2 := (Trb.cells HO3.out.drew).2.2
        have hr1 : w3.drew.cell? ⟨g3, 1, none⟩ = some (.int .i64 o.fd) := hp1
        have hr3 : w3.drew.cell? ⟨g3, 3, none⟩ = some (.int .i64 o.off) := hp3
        go_upto_region 14 with fail
        refine region_text (fun w' => w'.cell? ⟨q, 2, none⟩ = some (.pointer (some ⟨f, 0, none⟩)) ∧ w'.cell? ⟨g3, 1, none⟩ = some (.int .i64 o.fd) ∧ w'.cell? ⟨g3, 3, none⟩ = some (.int .i64 o.off)) (by kernel_rfl) (by kernel_rfl) ⟨hq2, hr1, hr3⟩ ?_
        repeat (first
          | (refine wpL_read (by rfl) (by rfl) ?_ ?_ ?_; rotate_left; (rintro w ⟨z0, z1, z2⟩; go_simp; with_reducible rfl); simp only [Act.put, List.setIfInBounds_toArray, List.set_cons_zero, List.set_cons_succ]) | (refine wpL_skip (by rfl) ?_; simp only [Act.put, List.setIfInBounds_toArray, List.set_cons_zero, List.set_cons_succ]))
        try rw [wrapk_in (s.off + o.off) (by omega)]
        refine wpL_act (by rfl) (by rfl) (fun K hK => ?_)
        go_simp
        refine (tabMove f S.tab o.fd (s.off + o.off) _ _ HPT.out.2 HTb.out).mono ?_
        rintro e w8 ⟨rfl, hO8, hK8⟩
        have HO8 := hid hO8
        have HK8 := hid ((HK3.out.drew).trans hK8)
        clear hO8 hK8
        try dsimp only
        refine hK.out _ _ (⟨(Trb.cells (Trb.tab.2 HO8.out)).2.2, HO8.out.p4.cells 1, HO8.out.p4.cells 3⟩) ?_
        clear hK K
        try simp only [Act.put, List.setIfInBounds_toArray, List.set_cons_zero, List.set_cons_succ]
        refine wpL_nil ?_
        have HO9 := hid (show Has w8 (pt g4 (.cells (ansC (ansE 0) nilV nilV) 32) :: pt g3 (.cells (opC o ov) 35) :: Trb q m f P S.last (Tb.mov S.tab o.fd (s.off + o.off)).2 :: L) from (Trb.tab.2 HO8.out).re 4 [2, 3, 0])
        have hz0 : w8.cell? ⟨g4, 0, none⟩ = some (.int .i64 0) := (HO9.out).cells 0
        have hz1 : w8.cell? ⟨g4, 1, none⟩ = some (.int .i64 0) := (HO9.out).cells 1
        have hz2 : w8.cell? ⟨g4, 2, none⟩ = some (.int .i64 0) := (HO9.out).cells 2
        have hz3 : w8.cell? ⟨g4, 3, none⟩ = some (.int .i64 0) := (HO9.out).cells 3
        have hz4 : w8.cell? ⟨g4, 4, none⟩ = some (.slice none 0 0) := (HO9.out).cells 4
        have hz5 : w8.cell? ⟨g4, 5, none⟩ = some (.slice none 0 0) := (HO9.out).cells 5
        have hy0 := (HO9.out).thaw 0
        have hy1 := (HO9.out).thaw 1
        have hy2 := (HO9.out).thaw 2
        have hy3 := (HO9.out).thaw 3
        have hy4 := (HO9.out).thaw 4
        have hy5 := (HO9.out).thaw 5
        have hs3 : w8.cell? ⟨g3, 3, none⟩ = some (.int .i64 o.off) := HO9.out.p1.cells 3
        go_wp2_with fail
        have h1 := HO9.out.ans ⟨0, s.off + o.off, 0, 0, [], []⟩ nilV nilV
        refine bodyPost_ret (ans_result rfl rfl h1) rfl ?_
        rw [← HR.out]
        exact ⟨_, rfl, (show Has _ (Trc q { S with tab := (Tb.mov S.tab o.fd (s.off + o.off)).2 } :: L) from trc_iff.2 ⟨m, f, P, ⟨HPT.out.1, Tb.mov_len _ _ _ HPT.out.2⟩, h1.drop.drop⟩).row_nil 5 1, HK8.out.ans _ _ _ _ _ _ _⟩
      by_cases hn2 : o.n = 2
      · rw [hn2] at HR hp2
        replace HR := hid (show (if o.off < - (x.data.length : Int) ∨ o.off > 1099511627776 - (x.data.length : Int) then (ansE 2, S) else ((⟨0, (x.data.length : Int) + o.off, 0, 0, [], []⟩ : Ans), { S with tab := (Tb.mov S.tab o.fd ((x.data.length : Int) + o.off)).2 })) = R from by rw [← HR.out]; rfl)
        obtain ⟨A, B, dv, wv, nm, hPe, hnm, hHP⟩ := Trb.take HO3.out hb
        have hcb1 : w3.cell? ⟨b, 1, none⟩ = some dv := hHP.cells 1
        obtain ⟨pd, cd, rfl, hcap, -⟩ := (Dat.rd hHP.p1).form
        clear hPe hnm hHP
        by_cases hb1 : o.off < - (x.data.length : Int)
        · have HRR := hid (show R = (ansE 2, S) from by rw [← HR.out, if_pos (.inl hb1)])
          skip
          go_wp2_with fail
          refine (tCode (2 : Int) w3 _ HOa.out).mono ?_
          rintro e w5 ⟨rfl, hO5, hK5⟩
          have HO5 := hid hO5
          have HK5 := hid ((HK3.out).trans hK5)
          clear hO5 hK5
          unfold ansV ansC ansE
          clear hz0 hz1 hz2 hz3 hz4 hz5 hy0 hy1 hy2 hy3 hy4 hy5
          have hz0 : w5.cell? ⟨g4, 0, none⟩ = some (.int .i64 0) := (HO5.out).cells 0
          have hz1 : w5.cell? ⟨g4, 1, none⟩ = some (.int .i64 0) := (HO5.out).cells 1
          have hz2 : w5.cell? ⟨g4, 2, none⟩ = some (.int .i64 0) := (HO5.out).cells 2
          have hz3 : w5.cell? ⟨g4, 3, none⟩ = some (.int .i64 0) := (HO5.out).cells 3
          have hz4 : w5.cell? ⟨g4, 4, none⟩ = some (.slice none 0 0) := (HO5.out).cells 4
          have hz5 : w5.cell? ⟨g4, 5, none⟩ = some (.slice none 0 0) := (HO5.out).cells 5
          have hy0 := (HO5.out).thaw 0
          have hy1 := (HO5.out).thaw 1
          have hy2 := (HO5.out).thaw 2
          have hy3 := (HO5.out).thaw 3
          have hy4 := (HO5.out).thaw 4
          have hy5 := (HO5.out).thaw 5
          go_wp2_with fail
          have h1 := ((show Has w5 (pt g4 (.cells (ansC (ansE 0) nilV nilV) 32) :: Trb q m f P S.last S.tab :: L) from HO5.out)).ans (ansE (2 : Int)) nilV nilV
          refine bodyPost_ret (ans_result rfl rfl h1) rfl ?_
          rw [HRR.out]
          exact ⟨_, rfl, (trc_iff.2 ⟨m, f, P, HPT.out, h1.drop⟩ : Has _ (Trc q S :: L)).row_nil 5 1, HK5.out.ans _ _ _ _ _ _ _⟩
        by_cases hb2 : o.off > 1099511627776 - (x.data.length : Int)
        · have HRR := hid (show R = (ansE 2, S) from by rw [← HR.out, if_pos (.inr hb2)])
          skip
          go_wp2_with fail
          refine (tCode (2 : Int) w3 _ HOa.out).mono ?_
          rintro e w5 ⟨rfl, hO5, hK5⟩
          have HO5 := hid hO5
          have HK5 := hid ((HK3.out).trans hK5)
          clear hO5 hK5
          unfold ansV ansC ansE
          clear hz0 hz1 hz2 hz3 hz4 hz5 hy0 hy1 hy2 hy3 hy4 hy5
          have hz0 : w5.cell? ⟨g4, 0, none⟩ = some (.int .i64 0) := (HO5.out).cells 0
          have hz1 : w5.cell? ⟨g4, 1, none⟩ = some (.int .i64 0) := (HO5.out).cells 1
          have hz2 : w5.cell? ⟨g4, 2, none⟩ = some (.int .i64 0) := (HO5.out).cells 2
          have hz3 : w5.cell? ⟨g4, 3, none⟩ = some (.int .i64 0) := (HO5.out).cells 3
          have hz4 : w5.cell? ⟨g4, 4, none⟩ = some (.slice none 0 0) := (HO5.out).cells 4
          have hz5 : w5.cell? ⟨g4, 5, none⟩ = some (.slice none 0 0) := (HO5.out).cells 5
          have hy0 := (HO5.out).thaw 0
          have hy1 := (HO5.out).thaw 1
          have hy2 := (HO5.out).thaw 2
          have hy3 := (HO5.out).thaw 3
          have hy4 := (HO5.out).thaw 4
          have hy5 := (HO5.out).thaw 5
          go_wp2_with fail
          have h1 := ((show Has w5 (pt g4 (.cells (ansC (ansE 0) nilV nilV) 32) :: Trb q m f P S.last S.tab :: L) from HO5.out)).ans (ansE (2 : Int)) nilV nilV
          refine bodyPost_ret (ans_result rfl rfl h1) rfl ?_
          rw [HRR.out]
          exact ⟨_, rfl, (trc_iff.2 ⟨m, f, P, HPT.out, h1.drop⟩ : Has _ (Trc q S :: L)).row_nil 5 1, HK5.out.ans _ _ _ _ _ _ _⟩
        replace HR := hid ((if_neg (by rintro (h | h); exact hb1 h; exact hb2 h)).symm.trans HR.out)
        skip
        clear hz0 hz1 hz2 hz3 hz4 hz5 hy0 hy1 hy2 hy3 hy4 hy5
        have HTb := hid (show Has w3.drew (Tab f S.tab :: Trt q m f P S.last :: pt g5 (.cells (filC s) 98) :: pt g4 (.cells (ansC (ansE 0) nilV nilV) 32) :: pt g3 (.cells (opC o ov) 35) :: L) from Trb.tab.1 HO3.out.drew)
        have hq2 := (Trb.cells HO3.out.drew).2.2
        have hr1 : w3.drew.cell? ⟨g3, 1, none⟩ = some (.int .i64 o.fd) := hp1
        have hr3 : w3.drew.cell? ⟨g3, 3, none⟩ = some (.int .i64 o.off) := hp3
        go_upto_region 14 with fail
        refine region_text (fun w' => w'.cell? ⟨q, 2, none⟩ = some (.pointer (some ⟨f, 0, none⟩)) ∧ w'.cell? ⟨g3, 1, none⟩ = some (.int .i64 o.fd) ∧ w'.cell? ⟨g3, 3, none⟩ = some (.int .i64 o.off)) (by kernel_rfl) (by kernel_rfl) ⟨hq2, hr1, hr3⟩ ?_
        repeat (first
          | (refine wpL_read (by rfl) (by rfl) ?_ ?_ ?_; rotate_left; (rintro w ⟨z0, z1, z2⟩; go_simp; with_reducible rfl); simp only [Act.put, List.setIfInBounds_toArray, List.set_cons_zero, List.set_cons_succ]) | (refine wpL_skip (by rfl) ?_; simp only [Act.put, List.setIfInBounds_toArray, List.set_cons_zero, List.set_cons_succ]))
        try rw [wrapk_in ((x.data.length : Int) + o.off) (by omega)]
        refine wpL_act (by rfl) (by rfl) (fun K hK => ?_)
        go_simp
        refine (tabMove f S.tab o.fd ((x.data.length : Int) + o.off) _ _ HPT.out.2 HTb.out).mono ?_
        rintro e w8 ⟨rfl, hO8, hK8⟩
        have HO8 := hid hO8
        have HK8 := hid ((HK3.out.drew).trans hK8)
        clear hO8 hK8
        try dsimp only
        refine hK.out _ _ (⟨(Trb.cells (Trb.tab.2 HO8.out)).2.2, HO8.out.p4.cells 1, HO8.out.p4.cells 3⟩) ?_
        clear hK K
        try simp only [Act.put, List.setIfInBounds_toArray, List.set_cons_zero, List.set_cons_succ]
        refine wpL_nil ?_
        have HO9 := hid (show Has w8 (pt g4 (.cells (ansC (ansE 0) nilV nilV) 32) :: pt g3 (.cells (opC o ov) 35) :: Trb q m f P S.last (Tb.mov S.tab o.fd ((x.data.length : Int) + o.off)).2 :: L) from (Trb.tab.2 HO8.out).re 4 [2, 3, 0])
        have hz0 : w8.cell? ⟨g4, 0, none⟩ = some (.int .i64 0) := (HO9.out).cells 0
        have hz1 : w8.cell? ⟨g4, 1, none⟩ = some (.int .i64 0) := (HO9.out).cells 1
        have hz2 : w8.cell? ⟨g4, 2, none⟩ = some (.int .i64 0) := (HO9.out).cells 2
        have hz3 : w8.cell? ⟨g4, 3, none⟩ = some (.int .i64 0) := (HO9.out).cells 3
        have hz4 : w8.cell? ⟨g4, 4, none⟩ = some (.slice none 0 0) := (HO9.out).cells 4
        have hz5 : w8.cell? ⟨g4, 5, none⟩ = some (.slice none 0 0) := (HO9.out).cells 5
        have hy0 := (HO9.out).thaw 0
        have hy1 := (HO9.out).thaw 1
        have hy2 := (HO9.out).thaw 2
        have hy3 := (HO9.out).thaw 3
        have hy4 := (HO9.out).thaw 4
        have hy5 := (HO9.out).thaw 5
        have hs3 : w8.cell? ⟨g3, 3, none⟩ = some (.int .i64 o.off) := HO9.out.p1.cells 3
        go_wp2_with fail
        have h1 := HO9.out.ans ⟨0, (x.data.length : Int) + o.off, 0, 0, [], []⟩ nilV nilV
        refine bodyPost_ret (ans_result rfl rfl h1) rfl ?_
        rw [← HR.out]
        exact ⟨_, rfl, (show Has _ (Trc q { S with tab := (Tb.mov S.tab o.fd ((x.data.length : Int) + o.off)).2 } :: L) from trc_iff.2 ⟨m, f, P, ⟨HPT.out.1, Tb.mov_len _ _ _ HPT.out.2⟩, h1.drop.drop⟩).row_nil 5 1, HK8.out.ans _ _ _ _ _ _ _⟩
      · have HRR := hid (show R = (ansE 2, S) from by rw [← HR.out, if_pos (by rintro (h | h | h); exact hn0 h; exact hn1 h; exact hn2 h)])
        have hm0 : (o.n == 0) = false := by simpa using hn0
        have hm1 : (o.n == 1) = false := by simpa using hn1
        have hm2 : (o.n == 2) = false := by simpa using hn2
        go_wp2_with fail
        refine (tCode (2 : Int) w3 _ HOa.out).mono ?_
        rintro e w5 ⟨rfl, hO5, hK5⟩
        have HO5 := hid hO5
        have HK5 := hid ((HK3.out).trans hK5)
        clear hO5 hK5
        unfold ansV ansC ansE
        clear hz0 hz1 hz2 hz3 hz4 hz5 hy0 hy1 hy2 hy3 hy4 hy5
        have hz0 : w5.cell? ⟨g4, 0, none⟩ = some (.int .i64 0) := (HO5.out).cells 0
        have hz1 : w5.cell? ⟨g4, 1, none⟩ = some (.int .i64 0) := (HO5.out).cells 1
        have hz2 : w5.cell? ⟨g4, 2, none⟩ = some (.int .i64 0) := (HO5.out).cells 2
        have hz3 : w5.cell? ⟨g4, 3, none⟩ = some (.int .i64 0) := (HO5.out).cells 3
        have hz4 : w5.cell? ⟨g4, 4, none⟩ = some (.slice none 0 0) := (HO5.out).cells 4
        have hz5 : w5.cell? ⟨g4, 5, none⟩ = some (.slice none 0 0) := (HO5.out).cells 5
        have hy0 := (HO5.out).thaw 0
        have hy1 := (HO5.out).thaw 1
        have hy2 := (HO5.out).thaw 2
        have hy3 := (HO5.out).thaw 3
        have hy4 := (HO5.out).thaw 4
        have hy5 := (HO5.out).thaw 5
        go_wp2_with fail
        have h1 := ((show Has w5 (pt g4 (.cells (ansC (ansE 0) nilV nilV) 32) :: Trb q m f P S.last S.tab :: L) from HO5.out)).ans (ansE (2 : Int)) nilV nilV
        refine bodyPost_ret (ans_result rfl rfl h1) rfl ?_
        rw [HRR.out]
        exact ⟨_, rfl, (trc_iff.2 ⟨m, f, P, HPT.out, h1.drop⟩ : Has _ (Trc q S :: L)).row_nil 5 1, HK5.out.ans _ _ _ _ _ _ _⟩
    · have HRR := hid (show R = (ansE eg, S) from by rw [← HR.out, if_pos he])
      go_wp2_with fail
      refine (tCode eg w3 _ HOa.out).mono ?_
      rintro e w5 ⟨rfl, hO5, hK5⟩
      have HO5 := hid hO5
      have HK5 := hid ((HK3.out).trans hK5)
      clear hO5 hK5
      unfold ansV ansC ansE
      clear hz0 hz1 hz2 hz3 hz4 hz5 hy0 hy1 hy2 hy3 hy4 hy5
      have hz0 : w5.cell? ⟨g4, 0, none⟩ = some (.int .i64 0) := (HO5.out).cells 0
      have hz1 : w5.cell? ⟨g4, 1, none⟩ = some (.int .i64 0) := (HO5.out).cells 1
      have hz2 : w5.cell? ⟨g4, 2, none⟩ = some (.int .i64 0) := (HO5.out).cells 2
      have hz3 : w5.cell? ⟨g4, 3, none⟩ = some (.int .i64 0) := (HO5.out).cells 3
      have hz4 : w5.cell? ⟨g4, 4, none⟩ = some (.slice none 0 0) := (HO5.out).cells 4
      have hz5 : w5.cell? ⟨g4, 5, none⟩ = some (.slice none 0 0) := (HO5.out).cells 5
      have hy0 := (HO5.out).thaw 0
      have hy1 := (HO5.out).thaw 1
      have hy2 := (HO5.out).thaw 2
      have hy3 := (HO5.out).thaw 3
      have hy4 := (HO5.out).thaw 4
      have hy5 := (HO5.out).thaw 5
      go_wp2_with fail
      have h1 := ((show Has w5 (pt g4 (.cells (ansC (ansE 0) nilV nilV) 32) :: Trb q m f P S.last S.tab :: L) from HO5.out)).ans (ansE eg) nilV nilV
      refine bodyPost_ret (ans_result rfl rfl h1) rfl ?_
      rw [HRR.out]
      exact ⟨_, rfl, (trc_iff.2 ⟨m, f, P, HPT.out, h1.drop⟩ : Has _ (Trc q S :: L)).row_nil 5 1, HK5.out.ans _ _ _ _ _ _ _⟩
end Go.Proofs.YtonhcefgakmpfaaGreatDoor
/- THE WALK of tree.Do, by the kinds of operations. -/
namespace Go.Proofs.YtonhcefgakmpfaaGreatDoor
open Go.RowKit Go.Own
set_option maxRecDepth 100000 in
set_option maxHeartbeats 8000000 in
theorem doRead3 (q : Nat) (S : Tre) (fd n off flags : Int) (path dest : Str) (ov : Value) (w : World) (L : List HP) (hop : Opn S) (ho : off ≤ 9223372036854775807) (hO : Has w (Trc q S :: L)) :
    Calls Tryz.prog 17 #[.pointer (some ⟨q, 0, none⟩), opV ⟨3, fd, n, off, flags, path, dest⟩ (ov)] w fun e w' => ∃ dv, e = .returned (ansV (S.read 3 fd n off).1 dv nilV) ∧ Has w' (Bytes dv ((S.read 3 fd n off).1).data :: Trc q (S.read 3 fd n off).2 :: L) ∧ Keep w w' := by
  have HX0 := (fun (w : World) (L' : List HP) (hO : Has w (Trc q S :: L')) => tRead q S ⟨3, fd, n, off, flags, path, dest⟩ ov w L' (.inl rfl) hop ho hO)
  dsimp only at HX0
  have HX := hid HX0
  clear HX0
  skip
  generalize S.read 3 fd n off = R at *
  have HO := hid hO
  clear hO
  unfold opV opC at HX ⊢
  go_enter Tryz.func17, Tryz.ntmps17
  go_upto_region 1 with fail
  have h1 := (HO.out.alloc (.cells #[.int .i64 3, .int .i64 fd, .int .i64 n, .int .i64 off, .int .i64 flags, sV path, sV dest, ov] 35)).alloc (.cells (ansC (ansE 0) nilV nilV) 32)
  have HK1 := hid (((Keep.refl w).alloc (.cells #[.int .i64 3, .int .i64 fd, .int .i64 n, .int .i64 off, .int .i64 flags, sV path, sV dest, ov] 35)).alloc (.cells (ansC (ansE 0) nilV nilV) 32))
  unfold ansC ansE at h1 HK1
  have e1 : (w.alloc (.cells #[.int .i64 3, .int .i64 fd, .int .i64 n, .int .i64 off, .int .i64 flags, sV path, sV dest, ov] 35)).heap.size = w.heap.size + 1 := by show (Array.push _ _).size = _; rw [Array.size_push]
  rw [e1] at h1
  have HO1 := hid h1
  clear h1 e1 HO
  generalize (w.alloc (.cells #[.int .i64 3, .int .i64 fd, .int .i64 n, .int .i64 off, .int .i64 flags, sV path, sV dest, ov] 35)).alloc (.cells #[.int .i64 0, .int .i64 0, .int .i64 0, .int .i64 0, nilV, nilV] 32) = w1 at *
  generalize w.heap.size = g3 at *
  generalize g3 + 1 = g4 at *
  have hp0 : w1.cell? ⟨g3, 0, none⟩ = some (.int .i64 3) := HO1.out.p1.cells 0
  have hp1 : w1.cell? ⟨g3, 1, none⟩ = some (.int .i64 fd) := HO1.out.p1.cells 1
  have hp2 : w1.cell? ⟨g3, 2, none⟩ = some (.int .i64 n) := HO1.out.p1.cells 2
  have hp3 : w1.cell? ⟨g3, 3, none⟩ = some (.int .i64 off) := HO1.out.p1.cells 3
  have hp4 : w1.cell? ⟨g3, 4, none⟩ = some (.int .i64 flags) := HO1.out.p1.cells 4
  have hp5 : w1.cell? ⟨g3, 5, none⟩ = some (sV path) := HO1.out.p1.cells 5
  have hp6 : w1.cell? ⟨g3, 6, none⟩ = some (sV dest) := HO1.out.p1.cells 6
  have hp7 : w1.cell? ⟨g3, 7, none⟩ = some (ov) := HO1.out.p1.cells 7
  go_wp2_with fail
  refine (HX.out w1 _ (HO1.out.re 3 [2, 0, 1])).mono ?_
  rintro e w2 ⟨dv, rfl, hO2, hK2⟩
  have HO2 := hid hO2
  have HK2 := hid ((HK1.out).trans hK2)
  clear hO2 hK2
  try dsimp only
  obtain ⟨pd, cd, rfl, -⟩ := (Bytes.rd HO2.out).form
  generalize R.1.data.length = dl at *
  have HO3 := hid (show Has w2 (pt g4 (.cells (ansC (ansE 0) nilV nilV) 32) :: Bytes (.slice pd dl cd) R.1.data :: Trc q R.2 :: L) from HO2.out.re 4 [2, 0, 1])
  have hz0 : w2.cell? ⟨g4, 0, none⟩ = some (.int .i64 0) := (HO3.out).cells 0
  have hz1 : w2.cell? ⟨g4, 1, none⟩ = some (.int .i64 0) := (HO3.out).cells 1
  have hz2 : w2.cell? ⟨g4, 2, none⟩ = some (.int .i64 0) := (HO3.out).cells 2
  have hz3 : w2.cell? ⟨g4, 3, none⟩ = some (.int .i64 0) := (HO3.out).cells 3
  have hz4 : w2.cell? ⟨g4, 4, none⟩ = some (.slice none 0 0) := (HO3.out).cells 4
  have hz5 : w2.cell? ⟨g4, 5, none⟩ = some (.slice none 0 0) := (HO3.out).cells 5
  have hy0 := (HO3.out).thaw 0
  have hy1 := (HO3.out).thaw 1
  have hy2 := (HO3.out).thaw 2
  have hy3 := (HO3.out).thaw 3
  have hy4 := (HO3.out).thaw 4
  have hy5 := (HO3.out).thaw 5
  unfold ansV ansC
  go_wp2_with fail
  have h1 := HO3.out.ans R.1 (.slice pd dl cd) nilV
  refine bodyPost_ret (ans_result rfl rfl h1) rfl ?_
  exact ⟨_, rfl, h1.drop, HK2.out.ans _ _ _ _ _ _ _⟩
end Go.Proofs.YtonhcefgakmpfaaGreatDoor
/- THE WALK of tree.Do, by the kinds of operations. -/
namespace Go.Proofs.YtonhcefgakmpfaaGreatDoor
open Go.RowKit Go.Own
set_option maxRecDepth 100000 in
set_option maxHeartbeats 8000000 in
theorem doRead5 (q : Nat) (S : Tre) (fd n off flags : Int) (path dest : Str) (ov : Value) (w : World) (L : List HP) (hop : Opn S) (ho : off ≤ 9223372036854775807) (hO : Has w (Trc q S :: L)) :
    Calls Tryz.prog 17 #[.pointer (some ⟨q, 0, none⟩), opV ⟨5, fd, n, off, flags, path, dest⟩ (ov)] w fun e w' => ∃ dv, e = .returned (ansV (S.read 5 fd n off).1 dv nilV) ∧ Has w' (Bytes dv ((S.read 5 fd n off).1).data :: Trc q (S.read 5 fd n off).2 :: L) ∧ Keep w w' := by
  have HX0 := (fun (w : World) (L' : List HP) (hO : Has w (Trc q S :: L')) => tRead q S ⟨5, fd, n, off, flags, path, dest⟩ ov w L' (.inr rfl) hop ho hO)
  dsimp only at HX0
  have HX := hid HX0
  clear HX0
  skip
  generalize S.read 5 fd n off = R at *
  have HO := hid hO
  clear hO
  unfold opV opC at HX ⊢
  go_enter Tryz.func17, Tryz.ntmps17
  go_upto_region 1 with fail
  have h1 := (HO.out.alloc (.cells #[.int .i64 5, .int .i64 fd, .int .i64 n, .int .i64 off, .int .i64 flags, sV path, sV dest, ov] 35)).alloc (.cells (ansC (ansE 0) nilV nilV) 32)
  have HK1 := hid (((Keep.refl w).alloc (.cells #[.int .i64 5, .int .i64 fd, .int .i64 n, .int .i64 off, .int .i64 flags, sV path, sV dest, ov] 35)).alloc (.cells (ansC (ansE 0) nilV nilV) 32))
  unfold ansC ansE at h1 HK1
  have e1 : (w.alloc (.cells #[.int .i64 5, .int .i64 fd, .int .i64 n, .int .i64 off, .int .i64 flags, sV path, sV dest, ov] 35)).heap.size = w.heap.size + 1 := by show (Array.push _ _).size = _; rw [Array.size_push]
  rw [e1] at h1
  have HO1 := hid h1
  clear h1 e1 HO
  generalize (w.alloc (.cells #[.int .i64 5, .int .i64 fd, .int .i64 n, .int .i64 off, .int .i64 flags, sV path, sV dest, ov] 35)).alloc (.cells #[.int .i64 0, .int .i64 0, .int .i64 0, .int .i64 0, nilV, nilV] 32) = w1 at *
  generalize w.heap.size = g3 at *
  generalize g3 + 1 = g4 at *
  have hp0 : w1.cell? ⟨g3, 0, none⟩ = some (.int .i64 5) := HO1.out.p1.cells 0
  have hp1 : w1.cell? ⟨g3, 1, none⟩ = some (.int .i64 fd) := HO1.out.p1.cells 1
  have hp2 : w1.cell? ⟨g3, 2, none⟩ = some (.int .i64 n) := HO1.out.p1.cells 2
  have hp3 : w1.cell? ⟨g3, 3, none⟩ = some (.int .i64 off) := HO1.out.p1.cells 3
  have hp4 : w1.cell? ⟨g3, 4, none⟩ = some (.int .i64 flags) := HO1.out.p1.cells 4
  have hp5 : w1.cell? ⟨g3, 5, none⟩ = some (sV path) := HO1.out.p1.cells 5
  have hp6 : w1.cell? ⟨g3, 6, none⟩ = some (sV dest) := HO1.out.p1.cells 6
  have hp7 : w1.cell? ⟨g3, 7, none⟩ = some (ov) := HO1.out.p1.cells 7
  go_wp2_with fail
  refine (HX.out w1 _ (HO1.out.re 3 [2, 0, 1])).mono ?_
  rintro e w2 ⟨dv, rfl, hO2, hK2⟩
  have HO2 := hid hO2
  have HK2 := hid ((HK1.out).trans hK2)
  clear hO2 hK2
  try dsimp only
  obtain ⟨pd, cd, rfl, -⟩ := (Bytes.rd HO2.out).form
  generalize R.1.data.length = dl at *
  have HO3 := hid (show Has w2 (pt g4 (.cells (ansC (ansE 0) nilV nilV) 32) :: Bytes (.slice pd dl cd) R.1.data :: Trc q R.2 :: L) from HO2.out.re 4 [2, 0, 1])
  have hz0 : w2.cell? ⟨g4, 0, none⟩ = some (.int .i64 0) := (HO3.out).cells 0
  have hz1 : w2.cell? ⟨g4, 1, none⟩ = some (.int .i64 0) := (HO3.out).cells 1
  have hz2 : w2.cell? ⟨g4, 2, none⟩ = some (.int .i64 0) := (HO3.out).cells 2
  have hz3 : w2.cell? ⟨g4, 3, none⟩ = some (.int .i64 0) := (HO3.out).cells 3
  have hz4 : w2.cell? ⟨g4, 4, none⟩ = some (.slice none 0 0) := (HO3.out).cells 4
  have hz5 : w2.cell? ⟨g4, 5, none⟩ = some (.slice none 0 0) := (HO3.out).cells 5
  have hy0 := (HO3.out).thaw 0
  have hy1 := (HO3.out).thaw 1
  have hy2 := (HO3.out).thaw 2
  have hy3 := (HO3.out).thaw 3
  have hy4 := (HO3.out).thaw 4
  have hy5 := (HO3.out).thaw 5
  unfold ansV ansC
  go_wp2_with fail
  have h1 := HO3.out.ans R.1 (.slice pd dl cd) nilV
  refine bodyPost_ret (ans_result rfl rfl h1) rfl ?_
  exact ⟨_, rfl, h1.drop, HK2.out.ans _ _ _ _ _ _ _⟩
end Go.Proofs.YtonhcefgakmpfaaGreatDoor
/- THE WALK of tree.Do, by the kinds of operations. -/
namespace Go.Proofs.YtonhcefgakmpfaaGreatDoor
open Go.RowKit Go.Own
set_option maxRecDepth 100000 in
set_option maxHeartbeats 8000000 in
theorem doWrite4 (q : Nat) (S : Tre) (fd n off flags : Int) (path dest : Str) (po : Option Addr) (co : Nat) (ds : List Int) (w : World) (L : List HP) (hop : Opn S) (ho : off ≤ 9223372036854775807) (hds : ds.length ≤ 100000) (hrd : ∀ w', Has w' L → Rd w' (.slice po ds.length co) 1 ds.length (bc ds)) (hO : Has w (Trc q S :: L)) :
    Calls Tryz.prog 17 #[.pointer (some ⟨q, 0, none⟩), opV ⟨4, fd, n, off, flags, path, dest⟩ (.slice po ds.length co)] w fun e w' => ∃ dv, e = .returned (ansV (S.write 4 fd off ds).1 dv nilV) ∧ Has w' (Bytes dv ((S.write 4 fd off ds).1).data :: Trc q (S.write 4 fd off ds).2 :: L) ∧ Keep w w' := by
  have HX0 := (fun (w : World) (L' : List HP) (hrd : ∀ w', Has w' L' → Rd w' (.slice po ds.length co) 1 ds.length (bc ds)) (hO : Has w (Trc q S :: L')) => tWrite q S ⟨4, fd, n, off, flags, path, dest⟩ po co w L' ds (.inl rfl) hop ho hds hrd hO)
  dsimp only at HX0
  have HX := hid HX0
  clear HX0
  have HRD := hid hrd
  clear hrd
  generalize S.write 4 fd off ds = R at *
  have HO := hid hO
  clear hO
  unfold opV opC at HX ⊢
  go_enter Tryz.func17, Tryz.ntmps17
  go_upto_region 1 with fail
  have h1 := (HO.out.alloc (.cells #[.int .i64 4, .int .i64 fd, .int .i64 n, .int .i64 off, .int .i64 flags, sV path, sV dest, .slice po ds.length co] 35)).alloc (.cells (ansC (ansE 0) nilV nilV) 32)
  have HK1 := hid (((Keep.refl w).alloc (.cells #[.int .i64 4, .int .i64 fd, .int .i64 n, .int .i64 off, .int .i64 flags, sV path, sV dest, .slice po ds.length co] 35)).alloc (.cells (ansC (ansE 0) nilV nilV) 32))
  unfold ansC ansE at h1 HK1
  have e1 : (w.alloc (.cells #[.int .i64 4, .int .i64 fd, .int .i64 n, .int .i64 off, .int .i64 flags, sV path, sV dest, .slice po ds.length co] 35)).heap.size = w.heap.size + 1 := by show (Array.push _ _).size = _; rw [Array.size_push]
  rw [e1] at h1
  have HO1 := hid h1
  clear h1 e1 HO
  generalize (w.alloc (.cells #[.int .i64 4, .int .i64 fd, .int .i64 n, .int .i64 off, .int .i64 flags, sV path, sV dest, .slice po ds.length co] 35)).alloc (.cells #[.int .i64 0, .int .i64 0, .int .i64 0, .int .i64 0, nilV, nilV] 32) = w1 at *
  generalize w.heap.size = g3 at *
  generalize g3 + 1 = g4 at *
  have hp0 : w1.cell? ⟨g3, 0, none⟩ = some (.int .i64 4) := HO1.out.p1.cells 0
  have hp1 : w1.cell? ⟨g3, 1, none⟩ = some (.int .i64 fd) := HO1.out.p1.cells 1
  have hp2 : w1.cell? ⟨g3, 2, none⟩ = some (.int .i64 n) := HO1.out.p1.cells 2
  have hp3 : w1.cell? ⟨g3, 3, none⟩ = some (.int .i64 off) := HO1.out.p1.cells 3
  have hp4 : w1.cell? ⟨g3, 4, none⟩ = some (.int .i64 flags) := HO1.out.p1.cells 4
  have hp5 : w1.cell? ⟨g3, 5, none⟩ = some (sV path) := HO1.out.p1.cells 5
  have hp6 : w1.cell? ⟨g3, 6, none⟩ = some (sV dest) := HO1.out.p1.cells 6
  have hp7 : w1.cell? ⟨g3, 7, none⟩ = some (.slice po ds.length co) := HO1.out.p1.cells 7
  go_wp2_with fail
  refine (HX.out w1 _ (fun w' h => HRD.out w' h.drop.drop) (HO1.out.re 3 [2, 0, 1])).mono ?_
  rintro e w2 ⟨dv, rfl, hO2, hK2⟩
  have HO2 := hid hO2
  have HK2 := hid ((HK1.out).trans hK2)
  clear hO2 hK2
  try dsimp only
  obtain ⟨pd, cd, rfl, -⟩ := (Bytes.rd HO2.out).form
  generalize R.1.data.length = dl at *
  have HO3 := hid (show Has w2 (pt g4 (.cells (ansC (ansE 0) nilV nilV) 32) :: Bytes (.slice pd dl cd) R.1.data :: Trc q R.2 :: L) from HO2.out.re 4 [2, 0, 1])
  have hz0 : w2.cell? ⟨g4, 0, none⟩ = some (.int .i64 0) := (HO3.out).cells 0
  have hz1 : w2.cell? ⟨g4, 1, none⟩ = some (.int .i64 0) := (HO3.out).cells 1
  have hz2 : w2.cell? ⟨g4, 2, none⟩ = some (.int .i64 0) := (HO3.out).cells 2
  have hz3 : w2.cell? ⟨g4, 3, none⟩ = some (.int .i64 0) := (HO3.out).cells 3
  have hz4 : w2.cell? ⟨g4, 4, none⟩ = some (.slice none 0 0) := (HO3.out).cells 4
  have hz5 : w2.cell? ⟨g4, 5, none⟩ = some (.slice none 0 0) := (HO3.out).cells 5
  have hy0 := (HO3.out).thaw 0
  have hy1 := (HO3.out).thaw 1
  have hy2 := (HO3.out).thaw 2
  have hy3 := (HO3.out).thaw 3
  have hy4 := (HO3.out).thaw 4
  have hy5 := (HO3.out).thaw 5
  unfold ansV ansC
  go_wp2_with fail
  have h1 := HO3.out.ans R.1 (.slice pd dl cd) nilV
  refine bodyPost_ret (ans_result rfl rfl h1) rfl ?_
  exact ⟨_, rfl, h1.drop, HK2.out.ans _ _ _ _ _ _ _⟩
end Go.Proofs.YtonhcefgakmpfaaGreatDoor
/- THE WALK of tree.Do, by the kinds of operations. -/
namespace Go.Proofs.YtonhcefgakmpfaaGreatDoor
open Go.RowKit Go.Own
set_option maxRecDepth 100000 in
set_option maxHeartbeats 8000000 in
theorem doWrite6 (q : Nat) (S : Tre) (fd n off flags : Int) (path dest : Str) (po : Option Addr) (co : Nat) (ds : List Int) (w : World) (L : List HP) (hop : Opn S) (ho : off ≤ 9223372036854775807) (hds : ds.length ≤ 100000) (hrd : ∀ w', Has w' L → Rd w' (.slice po ds.length co) 1 ds.length (bc ds)) (hO : Has w (Trc q S :: L)) :
    Calls Tryz.prog 17 #[.pointer (some ⟨q, 0, none⟩), opV ⟨6, fd, n, off, flags, path, dest⟩ (.slice po ds.length co)] w fun e w' => ∃ dv, e = .returned (ansV (S.write 6 fd off ds).1 dv nilV) ∧ Has w' (Bytes dv ((S.write 6 fd off ds).1).data :: Trc q (S.write 6 fd off ds).2 :: L) ∧ Keep w w' := by
  have HX0 := (fun (w : World) (L' : List HP) (hrd : ∀ w', Has w' L' → Rd w' (.slice po ds.length co) 1 ds.length (bc ds)) (hO : Has w (Trc q S :: L')) => tWrite q S ⟨6, fd, n, off, flags, path, dest⟩ po co w L' ds (.inr rfl) hop ho hds hrd hO)
  dsimp only at HX0
  have HX := hid HX0
  clear HX0
  have HRD := hid hrd
  clear hrd
  generalize S.write 6 fd off ds = R at *
  have HO := hid hO
  clear hO
  unfold opV opC at HX ⊢
  go_enter Tryz.func17, Tryz.ntmps17
  go_upto_region 1 with fail
  have h1 := (HO.out.alloc (.cells #[.int .i64 6, .int .i64 fd, .int .i64 n, .int .i64 off, .int .i64 flags, sV path, sV dest, .slice po ds.length co] 35)).alloc (.cells (ansC (ansE 0) nilV nilV) 32)
  have HK1 := hid (((Keep.refl w).alloc (.cells #[.int .i64 6, .int .i64 fd, .int .i64 n, .int .i64 off, .int .i64 flags, sV path, sV dest, .slice po ds.length co] 35)).alloc (.cells (ansC (ansE 0) nilV nilV) 32))
  unfold ansC ansE at h1 HK1
  have e1 : (w.alloc (.cells #[.int .i64 6, .int .i64 fd, .int .i64 n, .int .i64 off, .int .i64 flags, sV path, sV dest, .slice po ds.length co] 35)).heap.size = w.heap.size + 1 := by show (Array.push _ _).size = _; rw [Array.size_push]
  rw [e1] at h1
  have HO1 := hid h1
  clear h1 e1 HO
  generalize (w.alloc (.cells #[.int .i64 6, .int .i64 fd, .int .i64 n, .int .i64 off, .int .i64 flags, sV path, sV dest, .slice po ds.length co] 35)).alloc (.cells #[.int .i64 0, .int .i64 0, .int .i64 0, .int .i64 0, nilV, nilV] 32) = w1 at *
  generalize w.heap.size = g3 at *
  generalize g3 + 1 = g4 at *
  have hp0 : w1.cell? ⟨g3, 0, none⟩ = some (.int .i64 6) := HO1.out.p1.cells 0
  have hp1 : w1.cell? ⟨g3, 1, none⟩ = some (.int .i64 fd) := HO1.out.p1.cells 1
  have hp2 : w1.cell? ⟨g3, 2, none⟩ = some (.int .i64 n) := HO1.out.p1.cells 2
  have hp3 : w1.cell? ⟨g3, 3, none⟩ = some (.int .i64 off) := HO1.out.p1.cells 3
  have hp4 : w1.cell? ⟨g3, 4, none⟩ = some (.int .i64 flags) := HO1.out.p1.cells 4
  have hp5 : w1.cell? ⟨g3, 5, none⟩ = some (sV path) := HO1.out.p1.cells 5
  have hp6 : w1.cell? ⟨g3, 6, none⟩ = some (sV dest) := HO1.out.p1.cells 6
  have hp7 : w1.cell? ⟨g3, 7, none⟩ = some (.slice po ds.length co) := HO1.out.p1.cells 7
  go_wp2_with fail
  refine (HX.out w1 _ (fun w' h => HRD.out w' h.drop.drop) (HO1.out.re 3 [2, 0, 1])).mono ?_
  rintro e w2 ⟨dv, rfl, hO2, hK2⟩
  have HO2 := hid hO2
  have HK2 := hid ((HK1.out).trans hK2)
  clear hO2 hK2
  try dsimp only
  obtain ⟨pd, cd, rfl, -⟩ := (Bytes.rd HO2.out).form
  generalize R.1.data.length = dl at *
  have HO3 := hid (show Has w2 (pt g4 (.cells (ansC (ansE 0) nilV nilV) 32) :: Bytes (.slice pd dl cd) R.1.data :: Trc q R.2 :: L) from HO2.out.re 4 [2, 0, 1])
  have hz0 : w2.cell? ⟨g4, 0, none⟩ = some (.int .i64 0) := (HO3.out).cells 0
  have hz1 : w2.cell? ⟨g4, 1, none⟩ = some (.int .i64 0) := (HO3.out).cells 1
  have hz2 : w2.cell? ⟨g4, 2, none⟩ = some (.int .i64 0) := (HO3.out).cells 2
  have hz3 : w2.cell? ⟨g4, 3, none⟩ = some (.int .i64 0) := (HO3.out).cells 3
  have hz4 : w2.cell? ⟨g4, 4, none⟩ = some (.slice none 0 0) := (HO3.out).cells 4
  have hz5 : w2.cell? ⟨g4, 5, none⟩ = some (.slice none 0 0) := (HO3.out).cells 5
  have hy0 := (HO3.out).thaw 0
  have hy1 := (HO3.out).thaw 1
  have hy2 := (HO3.out).thaw 2
  have hy3 := (HO3.out).thaw 3
  have hy4 := (HO3.out).thaw 4
  have hy5 := (HO3.out).thaw 5
  unfold ansV ansC
  go_wp2_with fail
  have h1 := HO3.out.ans R.1 (.slice pd dl cd) nilV
  refine bodyPost_ret (ans_result rfl rfl h1) rfl ?_
  exact ⟨_, rfl, h1.drop, HK2.out.ans _ _ _ _ _ _ _⟩
end Go.Proofs.YtonhcefgakmpfaaGreatDoor
/- THE WALK of tree.Do, by the kinds of operations. -/
namespace Go.Proofs.YtonhcefgakmpfaaGreatDoor
open Go.RowKit Go.Own
set_option maxRecDepth 100000 in
set_option maxHeartbeats 8000000 in
theorem doSeek (q : Nat) (S : Tre) (fd n off flags : Int) (path dest : Str) (ov : Value) (w : World) (L : List HP) (hop : Opn S) (hO : Has w (Trc q S :: L)) :
    Calls Tryz.prog 17 #[.pointer (some ⟨q, 0, none⟩), opV ⟨7, fd, n, off, flags, path, dest⟩ (ov)] w fun e w' => ∃ dv, e = .returned (ansV (S.seek fd n off).1 dv nilV) ∧ Has w' (Bytes dv ((S.seek fd n off).1).data :: Trc q (S.seek fd n off).2 :: L) ∧ Keep w w' := by
  have HX0 := (fun (w : World) (L' : List HP) (hO : Has w (Trc q S :: L')) => tSeek q S ⟨7, fd, n, off, flags, path, dest⟩ ov w L' hop hO)
  dsimp only at HX0
  have HX := hid HX0
  clear HX0
  skip
  generalize S.seek fd n off = R at *
  have HO := hid hO
  clear hO
  unfold opV opC at HX ⊢
  go_enter Tryz.func17, Tryz.ntmps17
  go_upto_region 1 with fail
  have h1 := (HO.out.alloc (.cells #[.int .i64 7, .int .i64 fd, .int .i64 n, .int .i64 off, .int .i64 flags, sV path, sV dest, ov] 35)).alloc (.cells (ansC (ansE 0) nilV nilV) 32)
  have HK1 := hid (((Keep.refl w).alloc (.cells #[.int .i64 7, .int .i64 fd, .int .i64 n, .int .i64 off, .int .i64 flags, sV path, sV dest, ov] 35)).alloc (.cells (ansC (ansE 0) nilV nilV) 32))
  unfold ansC ansE at h1 HK1
  have e1 : (w.alloc (.cells #[.int .i64 7, .int .i64 fd, .int .i64 n, .int .i64 off, .int .i64 flags, sV path, sV dest, ov] 35)).heap.size = w.heap.size + 1 := by show (Array.push _ _).size = _; rw [Array.size_push]
  rw [e1] at h1
  have HO1 := hid h1
  clear h1 e1 HO
  generalize (w.alloc (.cells #[.int .i64 7, .int .i64 fd, .int .i64 n, .int .i64 off, .int .i64 flags, sV path, sV dest, ov] 35)).alloc (.cells #[.int .i64 0, .int .i64 0, .int .i64 0, .int .i64 0, nilV, nilV] 32) = w1 at *
  generalize w.heap.size = g3 at *
  generalize g3 + 1 = g4 at *
  have hp0 : w1.cell? ⟨g3, 0, none⟩ = some (.int .i64 7) := HO1.out.p1.cells 0
  have hp1 : w1.cell? ⟨g3, 1, none⟩ = some (.int .i64 fd) := HO1.out.p1.cells 1
  have hp2 : w1.cell? ⟨g3, 2, none⟩ = some (.int .i64 n) := HO1.out.p1.cells 2
  have hp3 : w1.cell? ⟨g3, 3, none⟩ = some (.int .i64 off) := HO1.out.p1.cells 3
  have hp4 : w1.cell? ⟨g3, 4, none⟩ = some (.int .i64 flags) := HO1.out.p1.cells 4
  have hp5 : w1.cell? ⟨g3, 5, none⟩ = some (sV path) := HO1.out.p1.cells 5
  have hp6 : w1.cell? ⟨g3, 6, none⟩ = some (sV dest) := HO1.out.p1.cells 6
  have hp7 : w1.cell? ⟨g3, 7, none⟩ = some (ov) := HO1.out.p1.cells 7
  go_wp2_with fail
  refine (HX.out w1 _ (HO1.out.re 3 [2, 0, 1])).mono ?_
  rintro e w2 ⟨dv, rfl, hO2, hK2⟩
  have HO2 := hid hO2
  have HK2 := hid ((HK1.out).trans hK2)
  clear hO2 hK2
  try dsimp only
  obtain ⟨pd, cd, rfl, -⟩ := (Bytes.rd HO2.out).form
  generalize R.1.data.length = dl at *
  have HO3 := hid (show Has w2 (pt g4 (.cells (ansC (ansE 0) nilV nilV) 32) :: Bytes (.slice pd dl cd) R.1.data :: Trc q R.2 :: L) from HO2.out.re 4 [2, 0, 1])
  have hz0 : w2.cell? ⟨g4, 0, none⟩ = some (.int .i64 0) := (HO3.out).cells 0
  have hz1 : w2.cell? ⟨g4, 1, none⟩ = some (.int .i64 0) := (HO3.out).cells 1
  have hz2 : w2.cell? ⟨g4, 2, none⟩ = some (.int .i64 0) := (HO3.out).cells 2
  have hz3 : w2.cell? ⟨g4, 3, none⟩ = some (.int .i64 0) := (HO3.out).cells 3
  have hz4 : w2.cell? ⟨g4, 4, none⟩ = some (.slice none 0 0) := (HO3.out).cells 4
  have hz5 : w2.cell? ⟨g4, 5, none⟩ = some (.slice none 0 0) := (HO3.out).cells 5
  have hy0 := (HO3.out).thaw 0
  have hy1 := (HO3.out).thaw 1
  have hy2 := (HO3.out).thaw 2
  have hy3 := (HO3.out).thaw 3
  have hy4 := (HO3.out).thaw 4
  have hy5 := (HO3.out).thaw 5
  unfold ansV ansC
  go_wp2_with fail
  have h1 := HO3.out.ans R.1 (.slice pd dl cd) nilV
  refine bodyPost_ret (ans_result rfl rfl h1) rfl ?_
  exact ⟨_, rfl, h1.drop, HK2.out.ans _ _ _ _ _ _ _⟩
end Go.Proofs.YtonhcefgakmpfaaGreatDoor
/- THE WALK of tree.Do, by the kinds of operations. -/
namespace Go.Proofs.YtonhcefgakmpfaaGreatDoor
open Go.RowKit Go.Own
set_option maxRecDepth 100000 in
set_option maxHeartbeats 8000000 in
theorem doTrunc (q : Nat) (S : Tre) (fd n off flags : Int) (path dest : Str) (ov : Value) (w : World) (L : List HP) (hop : Opn S) (hO : Has w (Trc q S :: L)) :
    Calls Tryz.prog 17 #[.pointer (some ⟨q, 0, none⟩), opV ⟨8, fd, n, off, flags, path, dest⟩ (ov)] w fun e w' => ∃ dv, e = .returned (ansV (S.trunc fd off).1 dv nilV) ∧ Has w' (Bytes dv ((S.trunc fd off).1).data :: Trc q (S.trunc fd off).2 :: L) ∧ Keep w w' := by
  have HX0 := (fun (w : World) (L' : List HP) (hO : Has w (Trc q S :: L')) => tTrunc q S ⟨8, fd, n, off, flags, path, dest⟩ ov w L' hop hO)
  dsimp only at HX0
  have HX := hid HX0
  clear HX0
  skip
  generalize S.trunc fd off = R at *
  have HO := hid hO
  clear hO
  unfold opV opC at HX ⊢
  go_enter Tryz.func17, Tryz.ntmps17
  go_upto_region 1 with fail
  have h1 := (HO.out.alloc (.cells #[.int .i64 8, .int .i64 fd, .int .i64 n, .int .i64 off, .int .i64 flags, sV path, sV dest, ov] 35)).alloc (.cells (ansC (ansE 0) nilV nilV) 32)
  have HK1 := hid (((Keep.refl w).alloc (.cells #[.int .i64 8, .int .i64 fd, .int .i64 n, .int .i64 off, .int .i64 flags, sV path, sV dest, ov] 35)).alloc (.cells (ansC (ansE 0) nilV nilV) 32))
  unfold ansC ansE at h1 HK1
  have e1 : (w.alloc (.cells #[.int .i64 8, .int .i64 fd, .int .i64 n, .int .i64 off, .int .i64 flags, sV path, sV dest, ov] 35)).heap.size = w.heap.size + 1 := by show (Array.push _ _).size = _; rw [Array.size_push]
  rw [e1] at h1
  have HO1 := hid h1
  clear h1 e1 HO
  generalize (w.alloc (.cells #[.int .i64 8, .int .i64 fd, .int .i64 n, .int .i64 off, .int .i64 flags, sV path, sV dest, ov] 35)).alloc (.cells #[.int .i64 0, .int .i64 0, .int .i64 0, .int .i64 0, nilV, nilV] 32) = w1 at *
  generalize w.heap.size = g3 at *
  generalize g3 + 1 = g4 at *
  have hp0 : w1.cell? ⟨g3, 0, none⟩ = some (.int .i64 8) := HO1.out.p1.cells 0
  have hp1 : w1.cell? ⟨g3, 1, none⟩ = some (.int .i64 fd) := HO1.out.p1.cells 1
  have hp2 : w1.cell? ⟨g3, 2, none⟩ = some (.int .i64 n) := HO1.out.p1.cells 2
  have hp3 : w1.cell? ⟨g3, 3, none⟩ = some (.int .i64 off) := HO1.out.p1.cells 3
  have hp4 : w1.cell? ⟨g3, 4, none⟩ = some (.int .i64 flags) := HO1.out.p1.cells 4
  have hp5 : w1.cell? ⟨g3, 5, none⟩ = some (sV path) := HO1.out.p1.cells 5
  have hp6 : w1.cell? ⟨g3, 6, none⟩ = some (sV dest) := HO1.out.p1.cells 6
  have hp7 : w1.cell? ⟨g3, 7, none⟩ = some (ov) := HO1.out.p1.cells 7
  go_wp2_with fail
  refine (HX.out w1 _ (HO1.out.re 3 [2, 0, 1])).mono ?_
  rintro e w2 ⟨dv, rfl, hO2, hK2⟩
  have HO2 := hid hO2
  have HK2 := hid ((HK1.out).trans hK2)
  clear hO2 hK2
  try dsimp only
  obtain ⟨pd, cd, rfl, -⟩ := (Bytes.rd HO2.out).form
  generalize R.1.data.length = dl at *
  have HO3 := hid (show Has w2 (pt g4 (.cells (ansC (ansE 0) nilV nilV) 32) :: Bytes (.slice pd dl cd) R.1.data :: Trc q R.2 :: L) from HO2.out.re 4 [2, 0, 1])
  have hz0 : w2.cell? ⟨g4, 0, none⟩ = some (.int .i64 0) := (HO3.out).cells 0
  have hz1 : w2.cell? ⟨g4, 1, none⟩ = some (.int .i64 0) := (HO3.out).cells 1
  have hz2 : w2.cell? ⟨g4, 2, none⟩ = some (.int .i64 0) := (HO3.out).cells 2
  have hz3 : w2.cell? ⟨g4, 3, none⟩ = some (.int .i64 0) := (HO3.out).cells 3
  have hz4 : w2.cell? ⟨g4, 4, none⟩ = some (.slice none 0 0) := (HO3.out).cells 4
  have hz5 : w2.cell? ⟨g4, 5, none⟩ = some (.slice none 0 0) := (HO3.out).cells 5
  have hy0 := (HO3.out).thaw 0
  have hy1 := (HO3.out).thaw 1
  have hy2 := (HO3.out).thaw 2
  have hy3 := (HO3.out).thaw 3
  have hy4 := (HO3.out).thaw 4
  have hy5 := (HO3.out).thaw 5
  unfold ansV ansC
  go_wp2_with fail
  have h1 := HO3.out.ans R.1 (.slice pd dl cd) nilV
  refine bodyPost_ret (ans_result rfl rfl h1) rfl ?_
  exact ⟨_, rfl, h1.drop, HK2.out.ans _ _ _ _ _ _ _⟩
end Go.Proofs.YtonhcefgakmpfaaGreatDoor
