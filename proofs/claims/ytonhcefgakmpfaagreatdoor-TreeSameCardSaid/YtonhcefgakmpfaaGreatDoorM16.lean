/- TEXTS of mine, merged. -/
import Derived.Test.YtonhcefgakmpfaaGreatDoorM11
import Derived.Test.YtonhcefgakmpfaaGreatDoorM10
import Derived.Test.YtonhcefgakmpfaaGreatDoorM15
/- THE WALK of tree.write. -/
namespace Go.Proofs.YtonhcefgakmpfaaGreatDoor
open Go.RowKit Go.Own
def slLenO : Option Value → Nat
  | some v => slLen v
  | none => 0
set_option maxRecDepth 100000 in
set_option maxHeartbeats 8000000 in
theorem tWrite (q : Nat) (S : Tre) (o : Opm) (po : Option Addr) (co : Nat) (w : World) (L : List HP) (ds : List Int) (hk : o.kind = 4 ∨ o.kind = 6) (hop : Opn S) (ho : o.off ≤ 9223372036854775807) (hds : ds.length ≤ 100000) (hrd : ∀ w', Has w' L → Rd w' (.slice po ds.length co) 1 ds.length (bc ds)) (hO : Has w (Trc q S :: L)) :
    Calls Tryz.prog 55 #[.pointer (some ⟨q, 0, none⟩), opV o (.slice po ds.length co)] w fun e w' => ∃ dv, e = .returned (ansV (S.write o.kind o.fd o.off ds).1 dv nilV) ∧ Has w' (Bytes dv (S.write o.kind o.fd o.off ds).1.data :: Trc q (S.write o.kind o.fd o.off ds).2 :: L) ∧ Keep w w' := by
  obtain ⟨m, f, P, hPT, h⟩ := trc_iff.1 hO
  have HF := hid (fun (w : World) (L' : List HP) (hO : Has w (Trb q m f P S.last S.tab :: L')) => tFile q m f P S o.fd true w L' (fun s hs => hop.there _ s hs) hPT hO)
  have HOF := hid (hop.file o.fd true)
  have HOK := hid (hop.fileK o.fd true)
  generalize hR : S.write o.kind o.fd o.off ds = R
  unfold Tre.write at hR
  generalize S.file o.fd true = g at *
  obtain ⟨s, eg⟩ := g
  dsimp only at *
  have HR := hid hR
  have HPT := hid hPT
  have HDL := hid hop.data
  have HWL := hid hop.wr
  have HRD := hid hrd
  clear hrd
  have HO := hid h
  clear hO hR h hop hPT
  unfold opV opC
  go_enter Tryz.func55, Tryz.ntmps55
  go_upto_region 1 with fail
  have h1 := (HO.out.alloc (.cells (opC o (.slice po ds.length co)) 35)).alloc (.cells (ansC (ansE 0) nilV nilV) 32)
  have HK1 := hid (((Keep.refl w).alloc (.cells (opC o (.slice po ds.length co)) 35)).alloc (.cells (ansC (ansE 0) nilV nilV) 32))
  unfold opC ansC ansE at h1 HK1
  have e1 : (w.alloc (.cells #[.int .i64 o.kind, .int .i64 o.fd, .int .i64 o.n, .int .i64 o.off, .int .i64 o.flags, sV o.path, sV o.dest, .slice po ds.length co] 35)).heap.size = w.heap.size + 1 := by show (Array.push _ _).size = _; rw [Array.size_push]
  rw [e1] at h1
  have HO1 := hid h1
  clear h1 e1 HO
  generalize (w.alloc (.cells #[.int .i64 o.kind, .int .i64 o.fd, .int .i64 o.n, .int .i64 o.off, .int .i64 o.flags, sV o.path, sV o.dest, .slice po ds.length co] 35)).alloc (.cells #[.int .i64 0, .int .i64 0, .int .i64 0, .int .i64 0, nilV, nilV] 32) = w1 at *
  generalize w.heap.size = g3 at *
  generalize (Value.agg #[.int .i64 o.kind, .int .i64 o.fd, .int .i64 o.n, .int .i64 o.off, .int .i64 o.flags, sV o.path, sV o.dest, .slice po ds.length co]) = av at *
  generalize g3 + 1 = g4 at *
  have hp1 : w1.cell? ⟨g3, 1, none⟩ = some (.int .i64 o.fd) := HO1.out.p1.cells 1
  go_cut [5, 6, 7] (fun p5 p6 e7 wx => ∃ (w3 : World) (g5 : Nat) (pv : Value), w3 = wx ∧ e7 = .int .i64 eg ∧ p5 = .pointer (some ⟨g5, 0, none⟩) ∧ p6 = pv ∧ (eg = 0 → ∃ b x, (s.node, b, x) ∈ P ∧ fnd S.nodes s.node = some x ∧ x.kind ≠ 2 ∧ pv = .pointer (some ⟨b, 0, none⟩)) ∧ Hid (Has w3 (Trb q m f P S.last S.tab :: pt g5 (.cells (filC s) 98) :: pt g4 (.cells (ansC (ansE 0) nilV nilV) 32) :: pt g3 (.cells (opC o (.slice po ds.length co)) 35) :: L)) ∧ Hid (Keep w w3))
  case first =>
    go_wp2_with fail
    refine (HF.out _ _ (HO1.out.re 3 [2, 0, 1])).mono ?_
    rintro e w2 ⟨pv, rfl, hpv, hO2, hK2⟩
    unfold filC
    go_wp2_with fail
    go_meet
    exact ⟨_, _, pv, rfl, rfl, rfl, rfl, hpv, hid ((hO2.alloc (.cells (filC s) 98)).re 4 [1, 0, 2, 3]), hid ((HK1.out.trans hK2).alloc _)⟩
  case rest =>
    obtain ⟨w3, g5, pv, rfl, rfl, rfl, rfl, hpv, HO3, HK3⟩ := hcut
    clear HO1 HK1 hp1 HF
    have HOa := hid (show Has w3 (pt g4 (.cells (ansC (ansE 0) nilV nilV) 32) :: Trb q m f P S.last S.tab :: L) from HO3.out.re 4 [2, 0])
    have hz0 : w3.cell? ⟨g4, 0, none⟩ = some (.int .i64 0) := (HOa.out).cells 0
    have hz1 : w3.cell? ⟨g4, 1, none⟩ = some (.int .i64 0) := (HOa.out).cells 1
    have hz2 : w3.cell? ⟨g4, 2, none⟩ = some (.int .i64 0) := (HOa.out).cells 2
    have hz3 : w3.cell? ⟨g4, 3, none⟩ = some (.int .i64 0) := (HOa.out).cells 3
    have hz4 : w3.cell? ⟨g4, 4, none⟩ = some (.slice none 0 0) := (HOa.out).cells 4
    have hz5 : w3.cell? ⟨g4, 5, none⟩ = some (.slice none 0 0) := (HOa.out).cells 5
    have hy0 := (HOa.out).thaw 0
    have hy1 := (HOa.out).thaw 1
    have hy2 := (HOa.out).thaw 2
    have hy3 := (HOa.out).thaw 3
    have hy4 := (HOa.out).thaw 4
    have hy5 := (HOa.out).thaw 5
    have hp0 : w3.cell? ⟨g3, 0, none⟩ = some (.int .i64 o.kind) := HO3.out.p3.cells 0
    have hp1 : w3.cell? ⟨g3, 1, none⟩ = some (.int .i64 o.fd) := HO3.out.p3.cells 1
    have hp2 : w3.cell? ⟨g3, 2, none⟩ = some (.int .i64 o.n) := HO3.out.p3.cells 2
    have hp3 : w3.cell? ⟨g3, 3, none⟩ = some (.int .i64 o.off) := HO3.out.p3.cells 3
    have hf1 : w3.cell? ⟨g5, 1, none⟩ = some (.int .i64 s.off) := HO3.out.p1.cells 1
    by_cases he : eg = 0
    · subst he
      obtain ⟨b, x, hb, hx, hxk, rfl⟩ := hpv rfl
      have HOFF := hid (HOF.out rfl)
      have hat : S.at_ s.node = x := by unfold Tre.at_; rw [hx]; rfl
      have HK3X := hid (show x.kind ≠ 3 by have h := HOK.out rfl; rw [hat] at h; exact h)
      have HXL := hid (HDL.out _ _ hx)
      replace HR := hid ((if_neg (fun h => h rfl)).symm.trans HR.out)
      rw [hat] at HR
      have HWR := hid (HWL.out _ _ hx)
      have hf2 : w3.cell? ⟨g5, 2, none⟩ = some (.int .i64 s.flags) := HO3.out.p1.cells 2
      have hp7 : w3.cell? ⟨g3, 7, none⟩ = some (.slice po ds.length co) := HO3.out.p3.cells 7
      by_cases hbad : o.kind = 6 ∧ o.off < 0
      · have HRR := hid (show R = (ansE 2, S) from by rw [← HR.out, if_pos hbad])
        obtain ⟨hbk, hbo⟩ := hbad
        rw [hbk] at hp0
        go_wp2_with fail
        refine (tCode (2 : Int) w3 _ HOa.out).mono ?_
        rintro e w5 ⟨rfl, hO5, hK5⟩
        have HO5 := hid hO5
        have HK5 := hid ((HK3.out).trans hK5)
        clear hO5 hK5
        unfold ansV ansC ansE
        clear hz0 hz1 hz2 hz3 hz4 hz5 hy0 hy1 hy2 hy3 hy4 hy5
        have hz0 : w5.cell? ⟨g4, 0, none⟩ = some (.int .i64 0) := (HO5.out).cells 0
        have hz1 : w5.cell? ⟨g4, 1, none⟩ = some (.int .i64 0) := (HO5.out).cells 1
        have hz2 : w5.cell? ⟨g4, 2, none⟩ = some (.int .i64 0) := (HO5.out).cells 2
        have hz3 : w5.cell? ⟨g4, 3, none⟩ = some (.int .i64 0) := (HO5.out).cells 3
        have hz4 : w5.cell? ⟨g4, 4, none⟩ = some (.slice none 0 0) := (HO5.out).cells 4
        have hz5 : w5.cell? ⟨g4, 5, none⟩ = some (.slice none 0 0) := (HO5.out).cells 5
        have hy0 := (HO5.out).thaw 0
        have hy1 := (HO5.out).thaw 1
        have hy2 := (HO5.out).thaw 2
        have hy3 := (HO5.out).thaw 3
        have hy4 := (HO5.out).thaw 4
        have hy5 := (HO5.out).thaw 5
        go_wp2_with fail
        have h1 := ((show Has w5 (pt g4 (.cells (ansC (ansE 0) nilV nilV) 32) :: Trb q m f P S.last S.tab :: L) from HO5.out)).ans (ansE (2 : Int)) nilV nilV
        refine bodyPost_ret (ans_result rfl rfl h1) rfl ?_
        rw [HRR.out]
        exact ⟨_, rfl, (trc_iff.2 ⟨m, f, P, HPT.out, h1.drop⟩ : Has _ (Trc q S :: L)).row_nil 5 1, HK5.out.ans _ _ _ _ _ _ _⟩
      replace HR := hid ((if_neg hbad).symm.trans HR.out)
      obtain ⟨O, hO5⟩ : ∃ O : Nat, (if o.kind = 6 then o.off else if andI s.flags 8 ≠ 0 then (x.data.length : Int) else s.off) = (O : Int) := by
        have h1 := HOFF.out
        refine ⟨(if o.kind = 6 then o.off else if andI s.flags 8 ≠ 0 then (x.data.length : Int) else s.off).toNat, ?_⟩
        by_cases hk6 : o.kind = 6
        · rw [if_pos hk6]
          have : ¬ o.off < 0 := fun h => hbad ⟨hk6, h⟩
          omega
        · rw [if_neg hk6]
          by_cases hfl : andI s.flags 8 ≠ 0
          · rw [if_pos hfl]; omega
          · rw [if_neg hfl]; omega
      have hO9 : (O : Int) ≤ 9223372036854775807 := by
        have h1 := HOFF.out
        have h2 := HXL.out
        rw [← hO5]
        by_cases hk6 : o.kind = 6
        · rw [if_pos hk6]; exact ho
        · rw [if_neg hk6]
          by_cases hfl : andI s.flags 8 ≠ 0
          · rw [if_pos hfl]; omega
          · rw [if_neg hfl]; omega
      rw [hO5] at HR
      obtain ⟨A, B, dv, wv, nm, hPe, hnm, hHP⟩ := Trb.take HO3.out hb
      have HPe := hid hPe
      have HNM := hid hnm
      have HP := hid hHP
      have hcb1 : w3.cell? ⟨b, 1, none⟩ = some dv := hHP.cells 1
      obtain ⟨pd, cd, rfl, hcap, -⟩ := (Dat.rd hHP.p1).form
      have hO0 : (0 : Int) ≤ (O : Int) := by omega
      have hd0 : (0 : Int) ≤ (ds.length : Int) := by omega
      have hd9 : (ds.length : Int) ≤ 100000 := by omega
      clear hPe hnm hHP
      have HB := hid hbad
      go_upto_region 4 with fail
      go_cut [24] (fun a wx => wx = w3 ∧ a = .bool false)
      case first =>
        rcases hk with hk | hk
        · rw [hk] at hp0
          go_wp2_with fail
          go_meet
          exact ⟨rfl, rfl⟩
        · rw [hk] at hp0
          have hbo : ¬ o.off < 0 := fun h => hbad ⟨hk, h⟩
          go_wp2_with fail
          go_meet
          exact ⟨rfl, rfl⟩
      case rest =>
      obtain ⟨hwx, rfl⟩ := hcut
      have hwx2 := hwx.symm
      subst hwx2
      go_upto_block 1 with fail
      go_cut [8] (fun a wx => wx = w3 ∧ a = .int .i64 (O : Int))
      case first =>
        rcases hk with hk | hk
        · rw [hk] at hp0 hO5
          rw [if_neg (by decide)] at hO5
          by_cases hfl : andI s.flags 8 ≠ 0
          · rw [if_pos hfl] at hO5
            have hfb : (bits BinOp.and IntKind.i64 s.flags 8 != 0) = true := by simpa [andI] using hfl
            go_wp2_with fail
            go_meet
            exact ⟨rfl, rfl⟩
          · rw [if_neg hfl] at hO5
            have hfb : (bits BinOp.and IntKind.i64 s.flags 8 != 0) = false := by simpa [andI] using hfl
            go_wp2_with fail
            go_meet
            exact ⟨rfl, rfl⟩
        · rw [hk] at hp0 hO5
          rw [if_pos rfl] at hO5
          go_wp2_with fail
          go_meet
          exact ⟨rfl, rfl⟩
      case rest =>
        obtain ⟨hwx, rfl⟩ := hcut
        have hwx2 := hwx.symm
        subst hwx2
        have HRH := hid hcap
        have hmin : ((min ds.length 20736 : Nat) : Int) = min (ds.length : Int) 20736 := by omega
        by_cases hb1 : (O : Int) > 20736 - min (ds.length : Int) 20736
        · have HRR := hid (show R = (ansE 15, S) from by rw [← HR.out, if_pos (.inl (by rw [hmin]; exact hb1))])
          go_wp2_with fail
          refine (tCode (15 : Int) w3 _ HOa.out).mono ?_
          rintro e w5 ⟨rfl, hO5, hK5⟩
          have HO5 := hid hO5
          have HK5 := hid ((HK3.out).trans hK5)
          clear hO5 hK5
          unfold ansV ansC ansE
          clear hz0 hz1 hz2 hz3 hz4 hz5 hy0 hy1 hy2 hy3 hy4 hy5
          have hz0 : w5.cell? ⟨g4, 0, none⟩ = some (.int .i64 0) := (HO5.out).cells 0
          have hz1 : w5.cell? ⟨g4, 1, none⟩ = some (.int .i64 0) := (HO5.out).cells 1
          have hz2 : w5.cell? ⟨g4, 2, none⟩ = some (.int .i64 0) := (HO5.out).cells 2
          have hz3 : w5.cell? ⟨g4, 3, none⟩ = some (.int .i64 0) := (HO5.out).cells 3
          have hz4 : w5.cell? ⟨g4, 4, none⟩ = some (.slice none 0 0) := (HO5.out).cells 4
          have hz5 : w5.cell? ⟨g4, 5, none⟩ = some (.slice none 0 0) := (HO5.out).cells 5
          have hy0 := (HO5.out).thaw 0
          have hy1 := (HO5.out).thaw 1
          have hy2 := (HO5.out).thaw 2
          have hy3 := (HO5.out).thaw 3
          have hy4 := (HO5.out).thaw 4
          have hy5 := (HO5.out).thaw 5
          go_wp2_with fail
          have h1 := ((show Has w5 (pt g4 (.cells (ansC (ansE 0) nilV nilV) 32) :: Trb q m f P S.last S.tab :: L) from HO5.out)).ans (ansE (15 : Int)) nilV nilV
          refine bodyPost_ret (ans_result rfl rfl h1) rfl ?_
          rw [HRR.out]
          exact ⟨_, rfl, (trc_iff.2 ⟨m, f, P, HPT.out, h1.drop⟩ : Has _ (Trc q S :: L)).row_nil 5 1, HK5.out.ans _ _ _ _ _ _ _⟩
        by_cases hb2 : (20736 : Int) < (ds.length : Int)
        · have HRR := hid (show R = (ansE 15, S) from by rw [← HR.out, if_pos (.inr (by omega))])
          go_wp2_with fail
          refine (tCode (15 : Int) w3 _ HOa.out).mono ?_
          rintro e w5 ⟨rfl, hO5, hK5⟩
          have HO5 := hid hO5
          have HK5 := hid ((HK3.out).trans hK5)
          clear hO5 hK5
          unfold ansV ansC ansE
          clear hz0 hz1 hz2 hz3 hz4 hz5 hy0 hy1 hy2 hy3 hy4 hy5
          have hz0 : w5.cell? ⟨g4, 0, none⟩ = some (.int .i64 0) := (HO5.out).cells 0
          have hz1 : w5.cell? ⟨g4, 1, none⟩ = some (.int .i64 0) := (HO5.out).cells 1
          have hz2 : w5.cell? ⟨g4, 2, none⟩ = some (.int .i64 0) := (HO5.out).cells 2
          have hz3 : w5.cell? ⟨g4, 3, none⟩ = some (.int .i64 0) := (HO5.out).cells 3
          have hz4 : w5.cell? ⟨g4, 4, none⟩ = some (.slice none 0 0) := (HO5.out).cells 4
          have hz5 : w5.cell? ⟨g4, 5, none⟩ = some (.slice none 0 0) := (HO5.out).cells 5
          have hy0 := (HO5.out).thaw 0
          have hy1 := (HO5.out).thaw 1
          have hy2 := (HO5.out).thaw 2
          have hy3 := (HO5.out).thaw 3
          have hy4 := (HO5.out).thaw 4
          have hy5 := (HO5.out).thaw 5
          go_wp2_with fail
          have h1 := ((show Has w5 (pt g4 (.cells (ansC (ansE 0) nilV nilV) 32) :: Trb q m f P S.last S.tab :: L) from HO5.out)).ans (ansE (15 : Int)) nilV nilV
          refine bodyPost_ret (ans_result rfl rfl h1) rfl ?_
          rw [HRR.out]
          exact ⟨_, rfl, (trc_iff.2 ⟨m, f, P, HPT.out, h1.drop⟩ : Has _ (Trc q S :: L)).row_nil 5 1, HK5.out.ans _ _ _ _ _ _ _⟩
        replace HR := hid ((if_neg (by rintro (h | h); exact hb1 (by rw [hmin] at h; exact h); exact hb2 (by omega))).symm.trans HR.out)
        by_cases hz : ds.length = 0
        · have HRR := hid (show R = (ansE 0, S) from by rw [← HR.out, if_pos hz])
          have hzi : (ds.length : Int) = 0 := by omega
          go_wp2_with fail
          have h1 := (show Has w3 (pt g4 (.cells (ansC (ansE 0) nilV nilV) 32) :: Trb q m f P S.last S.tab :: L) from HOa.out).ans (ansE 0) nilV nilV
          refine bodyPost_ret (ans_result rfl rfl h1) rfl ?_
          rw [HRR.out]
          exact ⟨_, rfl, (trc_iff.2 ⟨m, f, P, HPT.out, h1.drop⟩ : Has _ (Trc q S :: L)).row_nil 5 1, HK3.out.ans _ _ _ _ _ _ _⟩
        have HE := hid (show R = ((⟨0, ds.length, 0, 0, [], []⟩ : Ans), if o.kind = 4 then { S.setN s.node (nodWrite x O ds) with tab := (Tb.mov S.tab o.fd ((O : Int) + ds.length)).2 } else S.setN s.node (nodWrite x O ds)) from by
          rw [← HR.out, if_neg hz, Int.toNat_natCast]
          rfl)
        have hzi : ¬ (ds.length : Int) = 0 := by omega
        have HSM := hid (show O + ds.length ≤ 20736 ∧ 0 < ds.length from by omega)
        have hf0 : w3.drew.cell? ⟨g5, 0, none⟩ = some (.int .i64 s.node) := HO3.out.drew.p1.cells 0
        have hcb1d : w3.drew.cell? ⟨b, 1, none⟩ = some (.slice pd x.data.length cd) := hcb1
        go_upto_region 16 with fail
        rw [show (O : Int) + (ds.length : Int) = ((O + ds.length : Nat) : Int) from by omega] at HE ⊢
        generalize hEe : O + ds.length = E at *
        have HEE := hid hEe
        refine region_tail1 (fun w' => w'.cell? ⟨b, 1, none⟩ = some (.slice pd x.data.length cd) ∧ w'.cell? ⟨g5, 0, none⟩ = some (.int .i64 s.node)) (by kernel_rfl) (by kernel_rfl) (by kernel_rfl) (by decide) ⟨hcb1d, hf0⟩ ?_
        repeat (first
          | (refine wpL_read (by rfl) (by rfl) ?_ ?_ ?_; rotate_left; (rintro w ⟨z0, z1⟩; go_simp; with_reducible rfl); simp only [Act.put, List.setIfInBounds_toArray, List.set_cons_zero, List.set_cons_succ]) | (refine wpL_skip (by rfl) ?_; simp only [Act.put, List.setIfInBounds_toArray, List.set_cons_zero, List.set_cons_succ]))
        rw [show max (x.data.length : Int) (E : Int) = ((max x.data.length E : Nat) : Int) from by omega]
        refine wpL_nil ?_
        refine wpOp_last rfl (by rfl) ?_
        go_simp
        have HOR := hid (show Has w3.drew (Trb q m f (A ++ (s.node, b, x) :: B) S.last S.tab :: pt g5 (.cells (filC s) 98) :: pt g4 (.cells (ansC (ansE 0) nilV nilV) 32) :: pt g3 (.cells (opC o (.slice po ds.length co)) 35) :: L) from by rw [← HPe.out]; exact HO3.out.drew)
        refine (tResize q m f A B s.node b x S.last S.tab (max x.data.length E) _ _ HXL.out (by have := HXL.out; have := HSM.out; omega) HWR.out HK3X.out HOR.out).mono ?_
        rintro e w5 ⟨rfl, hO5, hK5⟩
        have HO5 := hid hO5
        have HK5 := hid (HK3.out.drew.trans hK5)
        have HND := hid (Trb.nodup HOR.out)
        clear hO5 hK5 HOR hf0 hcb1d hcb1 HP HNM HO3 HK3 HOa hz0 hz1 hz2 hz3 hz4 hz5 hy0 hy1 hy2 hy3 hy4 hy5 hp0 hp1 hp2 hp3 hp7 hf1 hf2 hb1 hb2 hbad hat
        have HYD := hid (show (nodCut x (max x.data.length E)).data.length = max x.data.length E from by
          unfold nodCut
          split
          · simp; omega
          · simp; omega)
        have HYK := hid (show (nodCut x (max x.data.length E)).kind = x.kind from by unfold nodCut; split <;> rfl)
        have HYW := hid (show (nodCut x (max x.data.length E)).wr.length ≤ 100000 from by
          have := HWR.out
          unfold nodCut
          split
          · simp; omega
          · exact this)
        have HWE := hid (show nodWrite x O ds = { nodCut x (max x.data.length E) with data := (nodCut x (max x.data.length E)).data.take O ++ ds ++ (nodCut x (max x.data.length E)).data.drop E, wr := wrSet ((nodCut x (max x.data.length E)).wr ++ List.replicate (needM E - (nodCut x (max x.data.length E)).wr.length) false) (O / 128) (needM E) } from by unfold nodWrite; rw [HEE.out])
        generalize nodCut x (max x.data.length E) = y at *
        obtain ⟨dv1, wv1, nm1, hnm1, hHP1⟩ := ndc_iff.1 (Trg.pull (Trg.of HO5.out))
        have hyk3 : y.kind ≠ 3 := by rw [HYK.out]; exact HK3X.out
        rw [dat_ne hyk3] at hHP1
        have HNM1 := hid hnm1
        try dsimp only
        obtain ⟨-, hrc⟩ := hHP1.p1.row_cases
        obtain ⟨g1, cap1, cur1, rfl, hn1, -⟩ := hrc.resolve_left (by rintro ⟨-, h, -⟩; have := HYD.out; have := HSM.out; omega)
        have HP1 := hid hHP1
        have hcb1 : w5.drew.cell? ⟨b, 1, none⟩ = some (.slice (some ⟨g1, 0, none⟩) y.data.length cap1) := HP1.out.drew.cells 1
        have hp7 : w5.drew.cell? ⟨g3, 7, none⟩ = some (.slice po ds.length co) := HO5.out.drew.p3.cells 7
        clear hHP1 hnm1 hrc
        have hxx1 : (O : Int) ≤ (y.data.length : Int) := by have := HYD.out; have := HEE.out; omega
        have hxx2 : (y.data.length : Int) ≤ (cap1 : Int) := by omega
        have hxx3 : ¬ cap1 = O := by have := HYD.out; have := HEE.out; have := HSM.out; omega
        have hxx4 : (O : Int) ≤ (cap1 : Int) := by omega
        go_upto_region 17 with fail
        refine region_tail1 (fun w' => w'.cell? ⟨b, 1, none⟩ = some (.slice (some ⟨g1, 0, none⟩) y.data.length cap1) ∧ w'.cell? ⟨g3, 7, none⟩ = some (.slice po ds.length co)) (by kernel_rfl) (by kernel_rfl) (by kernel_rfl) (by decide) ⟨hcb1, hp7⟩ ?_
        repeat (first
          | (refine wpL_read (by rfl) (by rfl) ?_ ?_ ?_; rotate_left; (rintro w ⟨z0, z1⟩; go_simp; with_reducible rfl); simp only [Act.put, List.setIfInBounds_toArray, List.set_cons_zero, List.set_cons_succ]) | (refine wpL_skip (by rfl) ?_; simp only [Act.put, List.setIfInBounds_toArray, List.set_cons_zero, List.set_cons_succ]))
        refine wpL_nil ?_
        refine wpOp_last rfl (by rfl) ?_
        have HLd := hid (HP1.out.drew.re 8 [])
        have hmn : min ds.length (y.data.length - O) = ds.length := by have := HYD.out; have := HEE.out; omega
        refine wp_copy _ _ 29 29 rfl Tryz.underlying29 (by kernel_rfl) (HP1.out.drew.re 2 [1, 0]) (y.data.length - O) (cap1 - O) co po (by rfl) rfl (HRD.out _ HLd.out) (bc_one ds) (by rw [hmn]; have := HYD.out; have := HEE.out; omega) ?_
        intro w6 h6 k6
        rw [hmn] at h6
        have HO6 := hid (show Has w6 (pt b (.cells (nodC y (.slice (some ⟨g1, 0, none⟩) y.data.length cap1) wv1 nm1) 83) :: Bytes (.slice (some ⟨g1, 0, none⟩) y.data.length cap1) (y.data.take O ++ ds ++ y.data.drop E) :: Bools wv1 y.wr :: Nms nm1 y.names :: Trg q m f (A ++ (s.node, b, y) :: B) S.last S.tab (A ++ B) :: pt g5 (.cells (filC s) 98) :: pt g4 (.cells (ansC (ansE 0) nilV nilV) 32) :: pt g3 (.cells (opC o (.slice po ds.length co)) 35) :: L) from by
          have h7 : Has w6 (Bytes (.slice (some ⟨g1, 0, none⟩) y.data.length cap1) (y.data.take O ++ ds ++ y.data.drop E) :: pt b (.cells (nodC y (.slice (some ⟨g1, 0, none⟩) y.data.length cap1) wv1 nm1) 83) :: Bools wv1 y.wr :: Nms nm1 y.names :: Trg q m f (A ++ (s.node, b, y) :: B) S.last S.tab (A ++ B) :: pt g5 (.cells (filC s) 98) :: pt g4 (.cells (ansC (ansE 0) nilV nilV) 32) :: pt g3 (.cells (opC o (.slice po ds.length co)) 35) :: L) := by
            unfold Bytes
            have e1 : (y.data.take O ++ ds ++ y.data.drop E).length = y.data.length := by
              have := HYD.out; have := HEE.out
              simp
              omega
            have e2 : bc (y.data.take O ++ ds ++ y.data.drop E) = (bc y.data).take O ++ (bc ds).take ds.length ++ (bc y.data).drop (O + ds.length) := by
              unfold bc
              rw [← HEE.out, List.map_append, List.map_append, List.map_take, List.map_drop, List.take_of_length_le (l := ds.map _) (by simp)]
            rw [e1, e2]
            exact h6
          exact h7.re 2 [1, 0])
        have HK6 := hid (HK5.out.drew.trans k6)
        have HE20 := hid (show needM E ≤ 200 from by have h1 := HEE.out; have h2 := HSM.out; unfold needM; split <;> omega)
        have HE9 := hid (show E ≤ 20736 from by have h1 := HEE.out; have h2 := HSM.out; omega)
        clear h6 k6 HP1 HO5 HK5 hcb1 hp7 hxx1 hxx2 hxx3 hxx4 hmn HLd
        obtain ⟨pw, cw, rfl, -⟩ := (Bools.rd HO6.out.p2).form
        generalize y.data.length = dl at *
        go_wp2_with fail
        go_loopw [] (fun w' => ∃ (ws : List Bool) (p : Option Addr) (c : Nat), ws.length ≤ 200000 ∧ Hid (ws ++ List.replicate (needM E - ws.length) false = y.wr ++ List.replicate (needM E - y.wr.length) false) ∧ Hid (Has w' (pt b (.cells (nodC y (.slice (some ⟨g1, 0, none⟩) dl cap1) (.slice p ws.length c) nm1) 83) :: Bytes (.slice (some ⟨g1, 0, none⟩) dl cap1) (y.data.take O ++ ds ++ y.data.drop E) :: Bools (.slice p ws.length c) ws :: Nms nm1 y.names :: Trg q m f (A ++ (s.node, b, y) :: B) S.last S.tab (A ++ B) :: pt g5 (.cells (filC s) 98) :: pt g4 (.cells (ansC (ansE 0) nilV nilV) 32) :: pt g3 (.cells (opC o (.slice po ds.length co)) 35) :: L)) ∧ Hid (Keep w w')) (fun w' => needM E - slLenO (w'.cell? ⟨b, 2, none⟩))
        case atStart => exact ⟨y.wr, pw, cw, by have := HYW.out; omega, hid rfl, HO6, HK6⟩
        case round =>
          clear HO6 HK6
          obtain ⟨ws, p, c, hwsl, HWS, HO6, HK6⟩ := hrel
          have hcw : wr.cell? ⟨b, 2, none⟩ = some (.slice p ws.length c) := HO6.out.cells 2
          have HCW := hid hcw
          have HOd := hid HO6.out.drew
          have HKd := hid HK6.out.drew
          go_upto_region 18 with fail
          refine region_text (fun w' => w'.cell? ⟨b, 2, none⟩ = some (.slice p ws.length c) ∧ True) (by kernel_rfl) (by kernel_rfl) ⟨HOd.out.cells 2, trivial⟩ ?_
          repeat (first
            | (refine wpL_read (by rfl) (by rfl) ?_ ?_ ?_; rotate_left; (rintro w ⟨z0, z1⟩; go_simp; with_reducible rfl); simp only [Act.put, List.setIfInBounds_toArray, List.set_cons_zero, List.set_cons_succ]) | (refine wpL_skip (by rfl) ?_; simp only [Act.put, List.setIfInBounds_toArray, List.set_cons_zero, List.set_cons_succ]))
          refine wpL_act (by rfl) (by rfl) (fun K hK => ?_)
          go_simp
          refine (nNeed E _ (by have := HE9.out; omega)).mono ?_
          rintro e w' ⟨rfl, rfl⟩
          try dsimp only
          refine hK.out _ _ ⟨HOd.out.cells 2, trivial⟩ ?_
          clear hK K
          try simp only [Act.put, List.setIfInBounds_toArray, List.set_cons_zero, List.set_cons_succ]
          repeat (first
            | (refine wpL_read (by rfl) (by rfl) ?_ ?_ ?_; rotate_left; (rintro w ⟨z0, z1⟩; go_simp; with_reducible rfl); simp only [Act.put, List.setIfInBounds_toArray, List.set_cons_zero, List.set_cons_succ]) | (refine wpL_skip (by rfl) ?_; simp only [Act.put, List.setIfInBounds_toArray, List.set_cons_zero, List.set_cons_succ]))
          refine wpL_nil ?_
          clear hcw HO6 HK6
          generalize wr.drew = w7 at *
          by_cases hlt : (ws.length : Int) < (needM E : Int)
          · have hcw : w7.cell? ⟨b, 2, none⟩ = some (.slice p ws.length c) := HOd.out.cells 2
            have HOa := hid (show Has (w7.alloc (.cells #[.bool false] 4)) (Bools (.slice p ws.length c) ws :: pt w7.heap.size (.cells #[.bool false] 4) :: pt b (.cells (nodC y (.slice (some ⟨g1, 0, none⟩) dl cap1) (.slice p ws.length c) nm1) 83) :: Bytes (.slice (some ⟨g1, 0, none⟩) dl cap1) (y.data.take O ++ ds ++ y.data.drop E) :: Nms nm1 y.names :: Trg q m f (A ++ (s.node, b, y) :: B) S.last S.tab (A ++ B) :: pt g5 (.cells (filC s) 98) :: pt g4 (.cells (ansC (ansE 0) nilV nilV) 32) :: pt g3 (.cells (opC o (.slice po ds.length co)) 35) :: L) from (HOd.out.alloc (.cells #[.bool false] 4)).re 9 [3, 0, 1, 2, 4, 5, 6, 7, 8])
            have hcx := HOa.out.p1.cells 0
            have HKa := hid (HKd.out.alloc (.cells #[.bool false] 4))
            clear HOd HKd
            go_wp2_with (at_builtin; refine wpList_append1 rfl _ _ _ rfl Tryz.underlying81 infoBool rfl (.bool false) HOa.out rfl 1 w7.heap.size rfl hcx rfl (le_maxLen (by omega)) (by omega) ?_; intro v8 w8 h8 k8; have hcb2 := h8.p2.cells 2; have hth2 := h8.p2.thaw 2; obtain ⟨p8, c8, rfl, -⟩ := (Has.rd h8).form)
            have e9 : (ws ++ [false]).length = ws.length + 1 := by simp
            have HO9 := hid (show Has (w8.setCell ⟨b, 2, none⟩ (.slice p8 (ws.length + 1) c8)) (pt b (.cells (nodC y (.slice (some ⟨g1, 0, none⟩) dl cap1) (.slice p8 (ws.length + 1) c8) nm1) 83) :: Bytes (.slice (some ⟨g1, 0, none⟩) dl cap1) (y.data.take O ++ ds ++ y.data.drop E) :: Bools (.slice p8 (ws.length + 1) c8) (ws ++ [false]) :: Nms nm1 y.names :: Trg q m f (A ++ (s.node, b, y) :: B) S.last S.tab (A ++ B) :: pt g5 (.cells (filC s) 98) :: pt g4 (.cells (ansC (ansE 0) nilV nilV) 32) :: pt g3 (.cells (opC o (.slice po ds.length co)) 35) :: L) from by
              have h9 : Has w8 (Bools (.slice p8 (ws.length + 1) c8) (ws ++ [false]) :: pt w7.heap.size (.cells #[.bool false] 4) :: pt b (.cells (nodC y (.slice (some ⟨g1, 0, none⟩) dl cap1) (.slice p ws.length c) nm1) 83) :: Bytes (.slice (some ⟨g1, 0, none⟩) dl cap1) (y.data.take O ++ ds ++ y.data.drop E) :: Nms nm1 y.names :: Trg q m f (A ++ (s.node, b, y) :: B) S.last S.tab (A ++ B) :: pt g5 (.cells (filC s) 98) :: pt g4 (.cells (ansC (ansE 0) nilV nilV) 32) :: pt g3 (.cells (opC o (.slice po ds.length co)) 35) :: L) := by
                unfold Bools
                rw [e9, List.map_append]
                exact h8
              exact (show Has w8 (pt b (.cells (nodC y (.slice (some ⟨g1, 0, none⟩) dl cap1) (.slice p ws.length c) nm1) 83) :: _) from h9.re 9 [2, 3, 0, 4, 5, 6, 7, 8]).set 2 (.slice p8 (ws.length + 1) c8))
            have HK9 := hid ((HKa.out.trans k8).set ⟨b, 2, none⟩ (.slice p8 (ws.length + 1) c8))
            have HWS9 := hid (show (ws ++ [false]) ++ List.replicate (needM E - (ws ++ [false]).length) false = y.wr ++ List.replicate (needM E - y.wr.length) false from by
              rw [← HWS.out, e9, List.append_assoc]
              congr 1
              rw [show needM E - ws.length = (needM E - (ws.length + 1)) + 1 from by omega, List.replicate_succ]
              rfl)
            have hm9 : slLenO ((w8.setCell ⟨b, 2, none⟩ (.slice p8 (ws.length + 1) c8)).cell? ⟨b, 2, none⟩) = ws.length + 1 := by
              rw [show (w8.setCell ⟨b, 2, none⟩ (.slice p8 (ws.length + 1) c8)).cell? ⟨b, 2, none⟩ = some (.slice p8 (ws.length + 1) c8) from HO9.out.cells 2]
              rfl
            have hm8 : slLenO (wr.cell? ⟨b, 2, none⟩) = ws.length := by rw [HCW.out]; rfl
            clear h8 k8 HOa HKa hcx hcw
            refine ⟨⟨ws ++ [false], p8, c8, by simp; have := HE20.out; omega, HWS9, by rw [e9]; exact HO9, HK9⟩, by rw [hm9, hm8]; omega⟩
          · have hWe : ws = y.wr ++ List.replicate (needM E - y.wr.length) false := by
              have := HWS.out
              rw [show needM E - ws.length = 0 from by omega] at this
              simpa using this
            have hwE : needM E ≤ ws.length := by omega
            rw [← hWe] at HWE
            clear HWS HCW hWe
            have hq0 : (0 : Int) ≤ ((O / 128 : Nat) : Int) := by omega
            have HQE := hid (show O / 128 ≤ needM E from by
              have h1 := HEE.out; have h2 := HSM.out
              unfold needM
              split <;> omega)
            go_wp2_with fail
            go_loopw [10] (fun k w' => ∃ kn : Nat, k = .int .i64 (kn : Int) ∧ O / 128 ≤ kn ∧ kn ≤ needM E ∧ Hid (Has w' (pt b (.cells (nodC y (.slice (some ⟨g1, 0, none⟩) dl cap1) (.slice p ws.length c) nm1) 83) :: Bytes (.slice (some ⟨g1, 0, none⟩) dl cap1) (y.data.take O ++ ds ++ y.data.drop E) :: Bools (.slice p ws.length c) (wrSet ws (O / 128) kn) :: Nms nm1 y.names :: Trg q m f (A ++ (s.node, b, y) :: B) S.last S.tab (A ++ B) :: pt g5 (.cells (filC s) 98) :: pt g4 (.cells (ansC (ansE 0) nilV nilV) 32) :: pt g3 (.cells (opC o (.slice po ds.length co)) 35) :: L)) ∧ Hid (Keep w w')) (fun k _ => needM E - (intOf k).toNat)
            case atStart => exact ⟨O / 128, by go_num, Nat.le_refl _, HQE.out, by rw [wrSet_same]; exact HOd, HKd⟩
            case round =>
              clear HOd HKd
              obtain ⟨kn, rfl, hk1, hk2, HO9, HK9⟩ := hrel
              have hkn0 : (0 : Int) ≤ (kn : Int) := by omega
              go_wp2_with fail
              refine (nNeed E _ (by have := HE9.out; omega)).mono ?_
              rintro e w' ⟨rfl, rfl⟩
              try dsimp only
              by_cases hlt2 : (kn : Int) < (needM E : Int)
              · have hkl : kn < ws.length := by omega
                have hkli : (kn : Int) < (ws.length : Int) := by omega
                have hwl := wrSet_len ws (O / 128) kn
                have h0 := HO9.out.p2
                obtain ⟨-, hrc⟩ := h0.row_cases
                obtain ⟨gw, cpw, curw, hpe, -⟩ := hrc.resolve_left (by rintro ⟨-, h, -⟩; rw [hwl] at h; omega)
                simp only [Value.slice.injEq] at hpe
                obtain ⟨rfl, -, rfl⟩ := hpe
                have hcw : wr.cell? ⟨b, 2, none⟩ = some (.slice (some ⟨gw, 0, none⟩) ws.length c) := HO9.out.cells 2
                obtain ⟨-, hcs, hfz, -⟩ := h0.row_cells
                have hcel : ∃ bv : Bool, wr.cell? ⟨gw, kn, none⟩ = some (.bool bv) := by
                  rw [hcs kn (by rw [hwl]; omega), List.getElem?_map, List.getElem?_eq_getElem (by rw [hwl]; exact hkl)]
                  exact ⟨_, rfl⟩
                obtain ⟨bv, hcel⟩ := hcel
                have hfk := hfz kn
                have HO10 := hid (show Has (wr.setCell ⟨gw, kn, none⟩ (.bool true)) (pt b (.cells (nodC y (.slice (some ⟨g1, 0, none⟩) dl cap1) (.slice (some ⟨gw, 0, none⟩) ws.length c) nm1) 83) :: Bytes (.slice (some ⟨g1, 0, none⟩) dl cap1) (y.data.take O ++ ds ++ y.data.drop E) :: Bools (.slice (some ⟨gw, 0, none⟩) ws.length c) (wrSet ws (O / 128) (kn + 1)) :: Nms nm1 y.names :: Trg q m f (A ++ (s.node, b, y) :: B) S.last S.tab (A ++ B) :: pt g5 (.cells (filC s) 98) :: pt g4 (.cells (ansC (ansE 0) nilV nilV) 32) :: pt g3 (.cells (opC o (.slice po ds.length co)) 35) :: L) from by
                  have h1 := (show Has wr (row (.slice (some ⟨gw, 0, none⟩) ws.length c) 4 1 (wrSet ws (O / 128) kn).length ((wrSet ws (O / 128) kn).map Value.bool) :: _) from HO9.out.re 8 [2, 0, 1, 3, 4, 5, 6, 7]).row_set kn (by rw [hwl]; omega) (.bool true)
                  rw [← List.map_set, ← wrSet_succ ws (O / 128) kn hk1 hkl, hwl] at h1
                  have h2 : Has (wr.setCell ⟨gw, kn, none⟩ (.bool true)) (Bools (.slice (some ⟨gw, 0, none⟩) ws.length c) (wrSet ws (O / 128) (kn + 1)) :: pt b (.cells (nodC y (.slice (some ⟨g1, 0, none⟩) dl cap1) (.slice (some ⟨gw, 0, none⟩) ws.length c) nm1) 83) :: Bytes (.slice (some ⟨g1, 0, none⟩) dl cap1) (y.data.take O ++ ds ++ y.data.drop E) :: Nms nm1 y.names :: Trg q m f (A ++ (s.node, b, y) :: B) S.last S.tab (A ++ B) :: pt g5 (.cells (filC s) 98) :: pt g4 (.cells (ansC (ansE 0) nilV nilV) 32) :: pt g3 (.cells (opC o (.slice po ds.length co)) 35) :: L) := by
                    unfold Bools
                    rw [wrSet_len]
                    exact h1
                  exact h2.re 8 [1, 2, 0, 3, 4, 5, 6, 7])
                clear h0 hrc hcs hfz hwl
                go_wp2_with fail
                exact ⟨⟨kn + 1, by go_num, by omega, by omega, HO10, hid (HK9.out.set _ _)⟩, by simp [intOf]; omega⟩
              · obtain rfl : kn = needM E := by omega
                have HOf := hid (show Has wr (Trb q m f (A ++ (s.node, b, nodWrite x O ds) :: B) S.last S.tab :: pt g5 (.cells (filC s) 98) :: pt g4 (.cells (ansC (ansE 0) nilV nilV) 32) :: pt g3 (.cells (opC o (.slice po ds.length co)) 35) :: L) from by
                  rw [HWE.out]
                  exact Trb.shutB (P := A ++ (s.node, b, y) :: B) (x := y) hyk3 rfl (fun h => absurd (HYK.out.symm.trans h) hxk) HO9.out)
                clear HO9
                have hp0 : wr.cell? ⟨g3, 0, none⟩ = some (.int .i64 o.kind) := HOf.out.p3.cells 0
                rcases hk with hk | hk
                · rw [hk] at hp0 HE
                  have HTb := hid (show Has wr.drew (Tab f S.tab :: Trt q m f (A ++ (s.node, b, nodWrite x O ds) :: B) S.last :: pt g5 (.cells (filC s) 98) :: pt g4 (.cells (ansC (ansE 0) nilV nilV) 32) :: pt g3 (.cells (opC o (.slice po ds.length co)) 35) :: L) from Trb.tab.1 HOf.out.drew)
                  have hq2 := (Trb.cells HOf.out.drew).2.2
                  have hr1 : wr.drew.cell? ⟨g3, 1, none⟩ = some (.int .i64 o.fd) := HOf.out.drew.p3.cells 1
                  go_upto_region 25 with fail
                  refine region_text (fun w' => w'.cell? ⟨q, 2, none⟩ = some (.pointer (some ⟨f, 0, none⟩)) ∧ w'.cell? ⟨g3, 1, none⟩ = some (.int .i64 o.fd)) (by kernel_rfl) (by kernel_rfl) ⟨hq2, hr1⟩ ?_
                  repeat (first
                    | (refine wpL_read (by rfl) (by rfl) ?_ ?_ ?_; rotate_left; (rintro w ⟨z0, z1⟩; go_simp; with_reducible rfl); simp only [Act.put, List.setIfInBounds_toArray, List.set_cons_zero, List.set_cons_succ]) | (refine wpL_skip (by rfl) ?_; simp only [Act.put, List.setIfInBounds_toArray, List.set_cons_zero, List.set_cons_succ]))
                  refine wpL_act (by rfl) (by rfl) (fun K hK => ?_)
                  go_simp
                  refine (tabMove f S.tab o.fd (E : Int) _ _ HPT.out.2 HTb.out).mono ?_
                  rintro e w13 ⟨rfl, hO13, hK13⟩
                  have HO13 := hid hO13
                  have HK13 := hid ((HK9.out.drew).trans hK13)
                  clear hO13 hK13
                  try dsimp only
                  refine hK.out _ _ (⟨(Trb.cells (Trb.tab.2 HO13.out)).2.2, HO13.out.p4.cells 1⟩) ?_
                  clear hK K
                  try simp only [Act.put, List.setIfInBounds_toArray, List.set_cons_zero, List.set_cons_succ]
                  refine wpL_nil ?_
                  have HO12 := hid (show Has w13 (pt g4 (.cells (ansC (ansE 0) nilV nilV) 32) :: pt g3 (.cells (opC o (.slice po ds.length co)) 35) :: Trb q m f (A ++ (s.node, b, nodWrite x O ds) :: B) S.last ((Tb.mov S.tab o.fd (E : Int)).2) :: L) from (Trb.tab.2 HO13.out).re 4 [2, 3, 0])
                  have hz0 : w13.cell? ⟨g4, 0, none⟩ = some (.int .i64 0) := (HO12.out).cells 0
                  have hz1 : w13.cell? ⟨g4, 1, none⟩ = some (.int .i64 0) := (HO12.out).cells 1
                  have hz2 : w13.cell? ⟨g4, 2, none⟩ = some (.int .i64 0) := (HO12.out).cells 2
                  have hz3 : w13.cell? ⟨g4, 3, none⟩ = some (.int .i64 0) := (HO12.out).cells 3
                  have hz4 : w13.cell? ⟨g4, 4, none⟩ = some (.slice none 0 0) := (HO12.out).cells 4
                  have hz5 : w13.cell? ⟨g4, 5, none⟩ = some (.slice none 0 0) := (HO12.out).cells 5
                  have hy0 := (HO12.out).thaw 0
                  have hy1 := (HO12.out).thaw 1
                  have hy2 := (HO12.out).thaw 2
                  have hy3 := (HO12.out).thaw 3
                  have hy4 := (HO12.out).thaw 4
                  have hy5 := (HO12.out).thaw 5
                  have hp7 : w13.cell? ⟨g3, 7, none⟩ = some (.slice po ds.length co) := HO12.out.p1.cells 7
                  go_wp2_with fail
                  have h1 := HO12.out.ans ⟨0, ds.length, 0, 0, [], []⟩ nilV nilV
                  refine bodyPost_ret (ans_result rfl rfl h1) rfl ?_
                  rw [HE.out]
                  refine ⟨_, rfl, (show Has _ (Trc q ((if (4 : Int) = 4 then { S.setN s.node (nodWrite x O ds) with tab := (Tb.mov S.tab o.fd (E : Int)).2 } else S.setN s.node (nodWrite x O ds) : Tre)) :: L) from ?_).row_nil 5 1, HK13.out.ans _ _ _ _ _ _ _⟩
                  refine trc_iff.2 ⟨m, f, _, ⟨?_, Tb.mov_len _ _ _ HPT.out.2⟩, h1.drop.drop⟩
                  rw [pnN_put HND.out, ← HPe.out, HPT.out.1]
                  rfl
                · rw [hk] at hp0 HE
                  have HO12 := hid (show Has wr (pt g4 (.cells (ansC (ansE 0) nilV nilV) 32) :: pt g3 (.cells (opC o (.slice po ds.length co)) 35) :: Trb q m f (A ++ (s.node, b, nodWrite x O ds) :: B) S.last (S.tab) :: L) from HOf.out.re 4 [2, 3, 0])
                  have hz0 : wr.cell? ⟨g4, 0, none⟩ = some (.int .i64 0) := (HO12.out).cells 0
                  have hz1 : wr.cell? ⟨g4, 1, none⟩ = some (.int .i64 0) := (HO12.out).cells 1
                  have hz2 : wr.cell? ⟨g4, 2, none⟩ = some (.int .i64 0) := (HO12.out).cells 2
                  have hz3 : wr.cell? ⟨g4, 3, none⟩ = some (.int .i64 0) := (HO12.out).cells 3
                  have hz4 : wr.cell? ⟨g4, 4, none⟩ = some (.slice none 0 0) := (HO12.out).cells 4
                  have hz5 : wr.cell? ⟨g4, 5, none⟩ = some (.slice none 0 0) := (HO12.out).cells 5
                  have hy0 := (HO12.out).thaw 0
                  have hy1 := (HO12.out).thaw 1
                  have hy2 := (HO12.out).thaw 2
                  have hy3 := (HO12.out).thaw 3
                  have hy4 := (HO12.out).thaw 4
                  have hy5 := (HO12.out).thaw 5
                  have hp7 : wr.cell? ⟨g3, 7, none⟩ = some (.slice po ds.length co) := HO12.out.p1.cells 7
                  go_wp2_with fail
                  have h1 := HO12.out.ans ⟨0, ds.length, 0, 0, [], []⟩ nilV nilV
                  refine bodyPost_ret (ans_result rfl rfl h1) rfl ?_
                  rw [HE.out]
                  refine ⟨_, rfl, (show Has _ (Trc q ((if (6 : Int) = 4 then { S.setN s.node (nodWrite x O ds) with tab := (Tb.mov S.tab o.fd (E : Int)).2 } else S.setN s.node (nodWrite x O ds) : Tre)) :: L) from ?_).row_nil 5 1, HK9.out.ans _ _ _ _ _ _ _⟩
                  refine trc_iff.2 ⟨m, f, _, ⟨?_, HPT.out.2⟩, h1.drop.drop⟩
                  rw [pnN_put HND.out, ← HPe.out, HPT.out.1]
                  rfl
    · have HRR := hid (show R = (ansE eg, S) from by rw [← HR.out, if_pos he])
      go_wp2_with fail
      refine (tCode eg w3 _ HOa.out).mono ?_
      rintro e w5 ⟨rfl, hO5, hK5⟩
      have HO5 := hid hO5
      have HK5 := hid ((HK3.out).trans hK5)
      clear hO5 hK5
      unfold ansV ansC ansE
      clear hz0 hz1 hz2 hz3 hz4 hz5 hy0 hy1 hy2 hy3 hy4 hy5
      have hz0 : w5.cell? ⟨g4, 0, none⟩ = some (.int .i64 0) := (HO5.out).cells 0
      have hz1 : w5.cell? ⟨g4, 1, none⟩ = some (.int .i64 0) := (HO5.out).cells 1
      have hz2 : w5.cell? ⟨g4, 2, none⟩ = some (.int .i64 0) := (HO5.out).cells 2
      have hz3 : w5.cell? ⟨g4, 3, none⟩ = some (.int .i64 0) := (HO5.out).cells 3
      have hz4 : w5.cell? ⟨g4, 4, none⟩ = some (.slice none 0 0) := (HO5.out).cells 4
      have hz5 : w5.cell? ⟨g4, 5, none⟩ = some (.slice none 0 0) := (HO5.out).cells 5
      have hy0 := (HO5.out).thaw 0
      have hy1 := (HO5.out).thaw 1
      have hy2 := (HO5.out).thaw 2
      have hy3 := (HO5.out).thaw 3
      have hy4 := (HO5.out).thaw 4
      have hy5 := (HO5.out).thaw 5
      go_wp2_with fail
      have h1 := ((show Has w5 (pt g4 (.cells (ansC (ansE 0) nilV nilV) 32) :: Trb q m f P S.last S.tab :: L) from HO5.out)).ans (ansE eg) nilV nilV
      refine bodyPost_ret (ans_result rfl rfl h1) rfl ?_
      rw [HRR.out]
      exact ⟨_, rfl, (trc_iff.2 ⟨m, f, P, HPT.out, h1.drop⟩ : Has _ (Trc q S :: L)).row_nil 5 1, HK5.out.ans _ _ _ _ _ _ _⟩
end Go.Proofs.YtonhcefgakmpfaaGreatDoor
/- THE WALK of tree.trunc. -/
namespace Go.Proofs.YtonhcefgakmpfaaGreatDoor
open Go.RowKit Go.Own
set_option maxRecDepth 100000 in
set_option maxHeartbeats 8000000 in
theorem tTrunc (q : Nat) (S : Tre) (o : Opm) (ov : Value) (w : World) (L : List HP) (hop : Opn S) (hO : Has w (Trc q S :: L)) :
    Calls Tryz.prog 57 #[.pointer (some ⟨q, 0, none⟩), opV o ov] w fun e w' => ∃ dv, e = .returned (ansV (S.trunc o.fd o.off).1 dv nilV) ∧ Has w' (Bytes dv (S.trunc o.fd o.off).1.data :: Trc q (S.trunc o.fd o.off).2 :: L) ∧ Keep w w' := by
  obtain ⟨m, f, P, hPT, h⟩ := trc_iff.1 hO
  have HF := hid (fun (w : World) (L' : List HP) (hO : Has w (Trb q m f P S.last S.tab :: L')) => tFile q m f P S o.fd true w L' (fun s hs => hop.there _ s hs) hPT hO)
  have HOF := hid (hop.file o.fd true)
  have HOK := hid (hop.fileK o.fd true)
  generalize hR : S.trunc o.fd o.off = R
  unfold Tre.trunc at hR
  generalize S.file o.fd true = g at *
  obtain ⟨s, eg⟩ := g
  dsimp only at *
  have HR := hid hR
  have HPT := hid hPT
  have HDL := hid hop.data
  have HWL := hid hop.wr
  have HO := hid h
  clear hO hR h hop hPT
  unfold opV opC
  go_enter Tryz.func57, Tryz.ntmps57
  go_upto_region 1 with fail
  have h1 := (HO.out.alloc (.cells (opC o ov) 35)).alloc (.cells (ansC (ansE 0) nilV nilV) 32)
  have HK1 := hid (((Keep.refl w).alloc (.cells (opC o ov) 35)).alloc (.cells (ansC (ansE 0) nilV nilV) 32))
  unfold opC ansC ansE at h1 HK1
  have e1 : (w.alloc (.cells #[.int .i64 o.kind, .int .i64 o.fd, .int .i64 o.n, .int .i64 o.off, .int .i64 o.flags, sV o.path, sV o.dest, ov] 35)).heap.size = w.heap.size + 1 := by show (Array.push _ _).size = _; rw [Array.size_push]
  rw [e1] at h1
  have HO1 := hid h1
  clear h1 e1 HO
  generalize (w.alloc (.cells #[.int .i64 o.kind, .int .i64 o.fd, .int .i64 o.n, .int .i64 o.off, .int .i64 o.flags, sV o.path, sV o.dest, ov] 35)).alloc (.cells #[.int .i64 0, .int .i64 0, .int .i64 0, .int .i64 0, nilV, nilV] 32) = w1 at *
  generalize w.heap.size = g3 at *
  generalize g3 + 1 = g4 at *
  have hp1 : w1.cell? ⟨g3, 1, none⟩ = some (.int .i64 o.fd) := HO1.out.p1.cells 1
  go_cut [5, 6, 7] (fun p5 p6 e7 wx => ∃ (w3 : World) (g5 : Nat) (pv : Value), w3 = wx ∧ e7 = .int .i64 eg ∧ p5 = .pointer (some ⟨g5, 0, none⟩) ∧ p6 = pv ∧ (eg = 0 → ∃ b x, (s.node, b, x) ∈ P ∧ fnd S.nodes s.node = some x ∧ x.kind ≠ 2 ∧ pv = .pointer (some ⟨b, 0, none⟩)) ∧ Hid (Has w3 (Trb q m f P S.last S.tab :: pt g5 (.cells (filC s) 98) :: pt g4 (.cells (ansC (ansE 0) nilV nilV) 32) :: pt g3 (.cells (opC o ov) 35) :: L)) ∧ Hid (Keep w w3))
  case first =>
    go_wp2_with fail
    refine (HF.out _ _ (HO1.out.re 3 [2, 0, 1])).mono ?_
    rintro e w2 ⟨pv, rfl, hpv, hO2, hK2⟩
    unfold filC
    go_wp2_with fail
    go_meet
    exact ⟨_, _, pv, rfl, rfl, rfl, rfl, hpv, hid ((hO2.alloc (.cells (filC s) 98)).re 4 [1, 0, 2, 3]), hid ((HK1.out.trans hK2).alloc _)⟩
  case rest =>
    obtain ⟨w3, g5, pv, rfl, rfl, rfl, rfl, hpv, HO3, HK3⟩ := hcut
    clear HO1 HK1 hp1 HF
    have HOa := hid (show Has w3 (pt g4 (.cells (ansC (ansE 0) nilV nilV) 32) :: Trb q m f P S.last S.tab :: L) from HO3.out.re 4 [2, 0])
    have hz0 : w3.cell? ⟨g4, 0, none⟩ = some (.int .i64 0) := (HOa.out).cells 0
    have hz1 : w3.cell? ⟨g4, 1, none⟩ = some (.int .i64 0) := (HOa.out).cells 1
    have hz2 : w3.cell? ⟨g4, 2, none⟩ = some (.int .i64 0) := (HOa.out).cells 2
    have hz3 : w3.cell? ⟨g4, 3, none⟩ = some (.int .i64 0) := (HOa.out).cells 3
    have hz4 : w3.cell? ⟨g4, 4, none⟩ = some (.slice none 0 0) := (HOa.out).cells 4
    have hz5 : w3.cell? ⟨g4, 5, none⟩ = some (.slice none 0 0) := (HOa.out).cells 5
    have hy0 := (HOa.out).thaw 0
    have hy1 := (HOa.out).thaw 1
    have hy2 := (HOa.out).thaw 2
    have hy3 := (HOa.out).thaw 3
    have hy4 := (HOa.out).thaw 4
    have hy5 := (HOa.out).thaw 5
    have hp0 : w3.cell? ⟨g3, 0, none⟩ = some (.int .i64 o.kind) := HO3.out.p3.cells 0
    have hp1 : w3.cell? ⟨g3, 1, none⟩ = some (.int .i64 o.fd) := HO3.out.p3.cells 1
    have hp2 : w3.cell? ⟨g3, 2, none⟩ = some (.int .i64 o.n) := HO3.out.p3.cells 2
    have hp3 : w3.cell? ⟨g3, 3, none⟩ = some (.int .i64 o.off) := HO3.out.p3.cells 3
    have hf1 : w3.cell? ⟨g5, 1, none⟩ = some (.int .i64 s.off) := HO3.out.p1.cells 1
    by_cases he : eg = 0
    · subst he
      obtain ⟨b, x, hb, hx, hxk, rfl⟩ := hpv rfl
      have HOFF := hid (HOF.out rfl)
      have hat : S.at_ s.node = x := by unfold Tre.at_; rw [hx]; rfl
      have HXL := hid (HDL.out _ _ hx)
      replace HR := hid ((if_neg (fun h => h rfl)).symm.trans HR.out)
      have HWR := hid (HWL.out _ _ hx)
      have HK3X := hid (show x.kind ≠ 3 by have h := HOK.out rfl; rw [hat] at h; exact h)
      have hf0 : w3.cell? ⟨g5, 0, none⟩ = some (.int .i64 s.node) := HO3.out.p1.cells 0
      by_cases ho0 : o.off < 0
      · have HRR := hid (show R = (ansE 2, S) from by rw [← HR.out, if_pos ho0])
        go_wp2_with fail
        refine (tCode (2 : Int) w3 _ HOa.out).mono ?_
        rintro e w5 ⟨rfl, hO5, hK5⟩
        have HO5 := hid hO5
        have HK5 := hid ((HK3.out).trans hK5)
        clear hO5 hK5
        unfold ansV ansC ansE
        clear hz0 hz1 hz2 hz3 hz4 hz5 hy0 hy1 hy2 hy3 hy4 hy5
        have hz0 : w5.cell? ⟨g4, 0, none⟩ = some (.int .i64 0) := (HO5.out).cells 0
        have hz1 : w5.cell? ⟨g4, 1, none⟩ = some (.int .i64 0) := (HO5.out).cells 1
        have hz2 : w5.cell? ⟨g4, 2, none⟩ = some (.int .i64 0) := (HO5.out).cells 2
        have hz3 : w5.cell? ⟨g4, 3, none⟩ = some (.int .i64 0) := (HO5.out).cells 3
        have hz4 : w5.cell? ⟨g4, 4, none⟩ = some (.slice none 0 0) := (HO5.out).cells 4
        have hz5 : w5.cell? ⟨g4, 5, none⟩ = some (.slice none 0 0) := (HO5.out).cells 5
        have hy0 := (HO5.out).thaw 0
        have hy1 := (HO5.out).thaw 1
        have hy2 := (HO5.out).thaw 2
        have hy3 := (HO5.out).thaw 3
        have hy4 := (HO5.out).thaw 4
        have hy5 := (HO5.out).thaw 5
        go_wp2_with fail
        have h1 := ((show Has w5 (pt g4 (.cells (ansC (ansE 0) nilV nilV) 32) :: Trb q m f P S.last S.tab :: L) from HO5.out)).ans (ansE (2 : Int)) nilV nilV
        refine bodyPost_ret (ans_result rfl rfl h1) rfl ?_
        rw [HRR.out]
        exact ⟨_, rfl, (trc_iff.2 ⟨m, f, P, HPT.out, h1.drop⟩ : Has _ (Trc q S :: L)).row_nil 5 1, HK5.out.ans _ _ _ _ _ _ _⟩
      by_cases ho1 : o.off > 20736
      · have HRR := hid (show R = (ansE 15, S) from by rw [← HR.out, if_neg ho0, if_pos ho1])
        go_wp2_with fail
        refine (tCode (15 : Int) w3 _ HOa.out).mono ?_
        rintro e w5 ⟨rfl, hO5, hK5⟩
        have HO5 := hid hO5
        have HK5 := hid ((HK3.out).trans hK5)
        clear hO5 hK5
        unfold ansV ansC ansE
        clear hz0 hz1 hz2 hz3 hz4 hz5 hy0 hy1 hy2 hy3 hy4 hy5
        have hz0 : w5.cell? ⟨g4, 0, none⟩ = some (.int .i64 0) := (HO5.out).cells 0
        have hz1 : w5.cell? ⟨g4, 1, none⟩ = some (.int .i64 0) := (HO5.out).cells 1
        have hz2 : w5.cell? ⟨g4, 2, none⟩ = some (.int .i64 0) := (HO5.out).cells 2
        have hz3 : w5.cell? ⟨g4, 3, none⟩ = some (.int .i64 0) := (HO5.out).cells 3
        have hz4 : w5.cell? ⟨g4, 4, none⟩ = some (.slice none 0 0) := (HO5.out).cells 4
        have hz5 : w5.cell? ⟨g4, 5, none⟩ = some (.slice none 0 0) := (HO5.out).cells 5
        have hy0 := (HO5.out).thaw 0
        have hy1 := (HO5.out).thaw 1
        have hy2 := (HO5.out).thaw 2
        have hy3 := (HO5.out).thaw 3
        have hy4 := (HO5.out).thaw 4
        have hy5 := (HO5.out).thaw 5
        go_wp2_with fail
        have h1 := ((show Has w5 (pt g4 (.cells (ansC (ansE 0) nilV nilV) 32) :: Trb q m f P S.last S.tab :: L) from HO5.out)).ans (ansE (15 : Int)) nilV nilV
        refine bodyPost_ret (ans_result rfl rfl h1) rfl ?_
        rw [HRR.out]
        exact ⟨_, rfl, (trc_iff.2 ⟨m, f, P, HPT.out, h1.drop⟩ : Has _ (Trc q S :: L)).row_nil 5 1, HK5.out.ans _ _ _ _ _ _ _⟩
      replace HR := hid ((if_neg ho1).symm.trans ((if_neg ho0).symm.trans HR.out))
      obtain ⟨N, hN⟩ : ∃ N : Nat, o.off = (N : Int) := ⟨o.off.toNat, by omega⟩
      rw [hN] at hp3 HR ho0 ho1
      obtain ⟨A, B, hPe⟩ := List.append_of_mem hb
      have HPe := hid hPe
      have hN9 : N ≤ 20736 := by omega
      rw [hPe] at HO3
      clear hz0 hz1 hz2 hz3 hz4 hz5 hy0 hy1 hy2 hy3 hy4 hy5 hPe HOa
      go_wp2_with fail
      refine (tResize q m f A B s.node b x S.last S.tab N w3 _ HXL.out (by omega) HWR.out HK3X.out HO3.out).mono ?_
      rintro e w5 ⟨rfl, hO5, hK5⟩
      have HO5 := hid hO5
      have HK5 := hid ((HK3.out).trans hK5)
      clear hO5 hK5
      try dsimp only
      have HO6 := hid (show Has w5 (pt g4 (.cells (ansC (ansE 0) nilV nilV) 32) :: Trb q m f (A ++ (s.node, b, nodCut x N) :: B) S.last S.tab :: L) from HO5.out.re 4 [2, 0])
      have hz0 : w5.cell? ⟨g4, 0, none⟩ = some (.int .i64 0) := (HO6.out).cells 0
      have hz1 : w5.cell? ⟨g4, 1, none⟩ = some (.int .i64 0) := (HO6.out).cells 1
      have hz2 : w5.cell? ⟨g4, 2, none⟩ = some (.int .i64 0) := (HO6.out).cells 2
      have hz3 : w5.cell? ⟨g4, 3, none⟩ = some (.int .i64 0) := (HO6.out).cells 3
      have hz4 : w5.cell? ⟨g4, 4, none⟩ = some (.slice none 0 0) := (HO6.out).cells 4
      have hz5 : w5.cell? ⟨g4, 5, none⟩ = some (.slice none 0 0) := (HO6.out).cells 5
      have hy0 := (HO6.out).thaw 0
      have hy1 := (HO6.out).thaw 1
      have hy2 := (HO6.out).thaw 2
      have hy3 := (HO6.out).thaw 3
      have hy4 := (HO6.out).thaw 4
      have hy5 := (HO6.out).thaw 5
      go_wp2_with fail
      have h1 := HO6.out.ans (ansE 0) nilV nilV
      refine bodyPost_ret (ans_result rfl rfl h1) rfl ?_
      rw [← HR.out, Int.toNat_natCast]
      refine ⟨_, rfl, (show Has _ (Trc q (S.resize s.node N) :: L) from ?_).row_nil 5 1, HK5.out.ans _ _ _ _ _ _ _⟩
      refine trc_iff.2 ⟨m, f, _, ⟨?_, HPT.out.2⟩, h1.drop⟩
      have hnd := Trb.nodup HO3.out
      rw [pnN_put hnd, ← HPe.out, HPT.out.1]
      show _ = putA S.nodes s.node (nodCut (S.at_ s.node) N)
      rw [hat]
    · have HRR := hid (show R = (ansE eg, S) from by rw [← HR.out, if_pos he])
      go_wp2_with fail
      refine (tCode eg w3 _ HOa.out).mono ?_
      rintro e w5 ⟨rfl, hO5, hK5⟩
      have HO5 := hid hO5
      have HK5 := hid ((HK3.out).trans hK5)
      clear hO5 hK5
      unfold ansV ansC ansE
      clear hz0 hz1 hz2 hz3 hz4 hz5 hy0 hy1 hy2 hy3 hy4 hy5
      have hz0 : w5.cell? ⟨g4, 0, none⟩ = some (.int .i64 0) := (HO5.out).cells 0
      have hz1 : w5.cell? ⟨g4, 1, none⟩ = some (.int .i64 0) := (HO5.out).cells 1
      have hz2 : w5.cell? ⟨g4, 2, none⟩ = some (.int .i64 0) := (HO5.out).cells 2
      have hz3 : w5.cell? ⟨g4, 3, none⟩ = some (.int .i64 0) := (HO5.out).cells 3
      have hz4 : w5.cell? ⟨g4, 4, none⟩ = some (.slice none 0 0) := (HO5.out).cells 4
      have hz5 : w5.cell? ⟨g4, 5, none⟩ = some (.slice none 0 0) := (HO5.out).cells 5
      have hy0 := (HO5.out).thaw 0
      have hy1 := (HO5.out).thaw 1
      have hy2 := (HO5.out).thaw 2
      have hy3 := (HO5.out).thaw 3
      have hy4 := (HO5.out).thaw 4
      have hy5 := (HO5.out).thaw 5
      go_wp2_with fail
      have h1 := ((show Has w5 (pt g4 (.cells (ansC (ansE 0) nilV nilV) 32) :: Trb q m f P S.last S.tab :: L) from HO5.out)).ans (ansE eg) nilV nilV
      refine bodyPost_ret (ans_result rfl rfl h1) rfl ?_
      rw [HRR.out]
      exact ⟨_, rfl, (trc_iff.2 ⟨m, f, P, HPT.out, h1.drop⟩ : Has _ (Trc q S :: L)).row_nil 5 1, HK5.out.ans _ _ _ _ _ _ _⟩
end Go.Proofs.YtonhcefgakmpfaaGreatDoor
