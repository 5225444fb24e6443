/- TEXTS of mine, merged. -/
import Derived.Test.YtfhaedkaedffcaaGreatDoorM8
import Derived.Test.YtfhaedkaedffcaaGreatDoorM7
import Derived.Test.YtfhaedkaedffcaaGreatDoorM1
import Derived.Sort.Row
import Derived.Sort.Grow
import Derived.Test.YtfhaedkaedffcaaGreatDoorM5
/- THE WALK of tree.read. -/
namespace Go.Proofs.YtfhaedkaedffcaaGreatDoor
open Go.RowKit Go.Own
theorem read_take (xs : List Int) (O N F M : Nat) (hF : F = min O xs.length) (hM : M = min N (xs.length - F)) : (xs.take (F + M)).drop F = (xs.drop O).take N := by
  subst hF hM
  rw [List.drop_take, show min O xs.length + min N (xs.length - min O xs.length) - min O xs.length = min N (xs.length - min O xs.length) from by omega]
  by_cases h : O ≤ xs.length
  · rw [Nat.min_eq_left h]
    by_cases h2 : N ≤ xs.length - O
    · rw [Nat.min_eq_left h2]
    · rw [Nat.min_eq_right (by omega), List.take_of_length_le (by simp), List.take_of_length_le (by simp; omega)]
  · have e : min O xs.length = xs.length := Nat.min_eq_right (by omega)
    rw [e, List.drop_of_length_le (Nat.le_refl _), List.drop_of_length_le (i := O) (by omega)]
    simp
/-- What is open is there, and stands somewhere. -/
structure Opn (S : Tre) : Prop where
  there : ∀ fd s, Tb.look S.tab fd = some s → ∃ x, fnd S.nodes s.node = some x
  off : ∀ fd s, Tb.look S.tab fd = some s → 0 ≤ s.off ∧ s.off ≤ 2000000000000
  data : ∀ n x, fnd S.nodes n = some x → x.data.length ≤ 100000
  wr : ∀ n x, fnd S.nodes n = some x → x.wr.length ≤ 100000
theorem Opn.file {S : Tre} (h : Opn S) (fd : Int) (wr : Bool) (h0 : (S.file fd wr).2 = 0) : 0 ≤ (S.file fd wr).1.off ∧ (S.file fd wr).1.off ≤ 2000000000000 := by
  unfold Tre.file at *
  by_cases h1 : (Tb.get S.tab fd).2 ≠ 0
  · rw [if_pos h1] at h0; simp at h0
  · rw [if_neg h1] at *
    by_cases h2 : wr = true ∧ andI (Tb.get S.tab fd).1.flags 32 = 0
    · rw [if_pos h2] at h0; simp at h0
    · rw [if_neg h2] at *
      by_cases h3 : (S.at_ (Tb.get S.tab fd).1.node).kind = 2
      · rw [if_pos h3] at h0; simp at h0
      · rw [if_neg h3]
        unfold Tb.get at *
        cases hl : Tb.look S.tab fd with
        | none => simp [hl] at h1
        | some s => exact h.off fd s hl
theorem wrapk_in (n : Int) (h : -9223372036854775808 ≤ n ∧ n ≤ 9223372036854775807) : IntKind.i64.wrap n = n := by
  simp [IntKind.wrap, IntKind.bits, IntKind.signed]; omega
theorem cloneBy (v : Value) (xs : List Int) (w : World) (L : List HP) (hO : Has w L) (hr : Rd w v 1 xs.length (bc xs)) (hsm : xs.length ≤ 1000000000) :
    Calls Tryz.prog 61 #[v] w fun e w' => ∃ v', e = .returned v' ∧ Has w' (Bytes v' xs :: L) ∧ Keep w w' :=
  (cloneBytes v xs w L hO hr hsm).mono fun _ _ ⟨v', h1, h2, h3, _⟩ => ⟨v', h1, h2, h3⟩
set_option maxRecDepth 100000 in
set_option maxHeartbeats 8000000 in
theorem tRead (q : Nat) (S : Tre) (o : Opm) (ov : Value) (w : World) (L : List HP) (hk : o.kind = 3 ∨ o.kind = 5) (hop : Opn S) (ho : o.off ≤ 2000000000000) (hO : Has w (Trc q S :: L)) :
    Calls Tryz.prog 46 #[.pointer (some ⟨q, 0, none⟩), opV o ov] w fun e w' => ∃ dv, e = .returned (ansV (S.read o.kind o.fd o.n o.off).1 dv nilV) ∧ Has w' (Bytes dv (S.read o.kind o.fd o.n o.off).1.data :: Trc q (S.read o.kind o.fd o.n o.off).2 :: L) ∧ Keep w w' := by
  obtain ⟨m, f, P, hPT, h⟩ := trc_iff.1 hO
  have HF := hid (fun (w : World) (L' : List HP) (hO : Has w (Trb q m f P S.last S.tab :: L')) => tFile q m f P S o.fd false w L' (fun s hs => hop.there _ s hs) hPT hO)
  have HOF := hid (hop.file o.fd false)
  generalize hR : S.read o.kind o.fd o.n o.off = R
  unfold Tre.read at hR
  generalize S.file o.fd false = g at *
  obtain ⟨s, eg⟩ := g
  dsimp only at *
  have HR := hid hR
  have HPT := hid hPT
  have HDL := hid hop.data
  have HO := hid h
  clear hO hR h hop hPT
  unfold opV opC
  go_enter Tryz.func46, Tryz.ntmps46
  go_upto_region 1 with fail
  have h1 := (HO.out.alloc (.cells (opC o ov) 32)).alloc (.cells (ansC (ansE 0) nilV nilV) 29)
  have HK1 := hid (((Keep.refl w).alloc (.cells (opC o ov) 32)).alloc (.cells (ansC (ansE 0) nilV nilV) 29))
  unfold opC ansC ansE at h1 HK1
  have e1 : (w.alloc (.cells #[.int .i64 o.kind, .int .i64 o.fd, .int .i64 o.n, .int .i64 o.off, .int .i64 o.flags, sV o.path, sV o.dest, ov] 32)).heap.size = w.heap.size + 1 := by show (Array.push _ _).size = _; rw [Array.size_push]
  rw [e1] at h1
  have HO1 := hid h1
  clear h1 e1 HO
  generalize (w.alloc (.cells #[.int .i64 o.kind, .int .i64 o.fd, .int .i64 o.n, .int .i64 o.off, .int .i64 o.flags, sV o.path, sV o.dest, ov] 32)).alloc (.cells #[.int .i64 0, .int .i64 0, .int .i64 0, .int .i64 0, nilV, nilV] 29) = w1 at *
  generalize w.heap.size = g3 at *
  generalize g3 + 1 = g4 at *
  have hp1 : w1.cell? ⟨g3, 1, none⟩ = some (.int .i64 o.fd) := HO1.out.p1.cells 1
  go_cut [5, 6, 7] (fun p5 p6 e7 wx => ∃ (w3 : World) (g5 : Nat) (pv : Value), w3 = wx ∧ e7 = .int .i64 eg ∧ p5 = .pointer (some ⟨g5, 0, none⟩) ∧ p6 = pv ∧ (eg = 0 → ∃ b x, (s.node, b, x) ∈ P ∧ fnd S.nodes s.node = some x ∧ x.kind ≠ 2 ∧ pv = .pointer (some ⟨b, 0, none⟩)) ∧ Hid (Has w3 (Trb q m f P S.last S.tab :: pt g5 (.cells (filC s) 93) :: pt g4 (.cells (ansC (ansE 0) nilV nilV) 29) :: pt g3 (.cells (opC o ov) 32) :: L)) ∧ Hid (Keep w w3))
  case first =>
    go_wp2_with fail
    refine (HF.out _ _ (HO1.out.re 3 [2, 0, 1])).mono ?_
    rintro e w2 ⟨pv, rfl, hpv, hO2, hK2⟩
    unfold filC
    go_wp2_with fail
    go_meet
    exact ⟨_, _, pv, rfl, rfl, rfl, rfl, hpv, hid ((hO2.alloc (.cells (filC s) 93)).re 4 [1, 0, 2, 3]), hid ((HK1.out.trans hK2).alloc _)⟩
  case rest =>
    obtain ⟨w3, g5, pv, rfl, rfl, rfl, rfl, hpv, HO3, HK3⟩ := hcut
    clear HO1 HK1 hp1 HF
    have HOa := hid (show Has w3 (pt g4 (.cells (ansC (ansE 0) nilV nilV) 29) :: Trb q m f P S.last S.tab :: L) from HO3.out.re 4 [2, 0])
    have hz0 : w3.cell? ⟨g4, 0, none⟩ = some (.int .i64 0) := (HOa.out).cells 0
    have hz1 : w3.cell? ⟨g4, 1, none⟩ = some (.int .i64 0) := (HOa.out).cells 1
    have hz2 : w3.cell? ⟨g4, 2, none⟩ = some (.int .i64 0) := (HOa.out).cells 2
    have hz3 : w3.cell? ⟨g4, 3, none⟩ = some (.int .i64 0) := (HOa.out).cells 3
    have hz4 : w3.cell? ⟨g4, 4, none⟩ = some (.slice none 0 0) := (HOa.out).cells 4
    have hz5 : w3.cell? ⟨g4, 5, none⟩ = some (.slice none 0 0) := (HOa.out).cells 5
    have hy0 := (HOa.out).thaw 0
    have hy1 := (HOa.out).thaw 1
    have hy2 := (HOa.out).thaw 2
    have hy3 := (HOa.out).thaw 3
    have hy4 := (HOa.out).thaw 4
    have hy5 := (HOa.out).thaw 5
    have hp0 : w3.cell? ⟨g3, 0, none⟩ = some (.int .i64 o.kind) := HO3.out.p3.cells 0
    have hp1 : w3.cell? ⟨g3, 1, none⟩ = some (.int .i64 o.fd) := HO3.out.p3.cells 1
    have hp2 : w3.cell? ⟨g3, 2, none⟩ = some (.int .i64 o.n) := HO3.out.p3.cells 2
    have hp3 : w3.cell? ⟨g3, 3, none⟩ = some (.int .i64 o.off) := HO3.out.p3.cells 3
    have hf1 : w3.cell? ⟨g5, 1, none⟩ = some (.int .i64 s.off) := HO3.out.p1.cells 1
    by_cases he : eg = 0
    · subst he
      obtain ⟨b, x, hb, hx, hxk, rfl⟩ := hpv rfl
      have HOFF := hid (HOF.out rfl)
      have hat : S.at_ s.node = x := by unfold Tre.at_; rw [hx]; rfl
      have HXL := hid (HDL.out _ _ hx)
      replace HR := hid ((if_neg (fun h => h rfl)).symm.trans HR.out)
      rw [hat] at HR
      by_cases hn0 : o.n < 0
      · have HRR := hid (show R = (ansE 2, S) from by rw [← HR.out, if_pos (.inl hn0)])
        go_wp2_with fail
        refine (tCode (2 : Int) w3 _ HOa.out).mono ?_
        rintro e w5 ⟨rfl, hO5, hK5⟩
        have HO5 := hid hO5
        have HK5 := hid ((HK3.out).trans hK5)
        clear hO5 hK5
        unfold ansV ansC ansE
        clear hz0 hz1 hz2 hz3 hz4 hz5 hy0 hy1 hy2 hy3 hy4 hy5
        have hz0 : w5.cell? ⟨g4, 0, none⟩ = some (.int .i64 0) := (HO5.out).cells 0
        have hz1 : w5.cell? ⟨g4, 1, none⟩ = some (.int .i64 0) := (HO5.out).cells 1
        have hz2 : w5.cell? ⟨g4, 2, none⟩ = some (.int .i64 0) := (HO5.out).cells 2
        have hz3 : w5.cell? ⟨g4, 3, none⟩ = some (.int .i64 0) := (HO5.out).cells 3
        have hz4 : w5.cell? ⟨g4, 4, none⟩ = some (.slice none 0 0) := (HO5.out).cells 4
        have hz5 : w5.cell? ⟨g4, 5, none⟩ = some (.slice none 0 0) := (HO5.out).cells 5
        have hy0 := (HO5.out).thaw 0
        have hy1 := (HO5.out).thaw 1
        have hy2 := (HO5.out).thaw 2
        have hy3 := (HO5.out).thaw 3
        have hy4 := (HO5.out).thaw 4
        have hy5 := (HO5.out).thaw 5
        go_wp2_with fail
        have h1 := ((show Has w5 (pt g4 (.cells (ansC (ansE 0) nilV nilV) 29) :: Trb q m f P S.last S.tab :: L) from HO5.out)).ans (ansE (2 : Int)) nilV nilV
        refine bodyPost_ret (ans_result rfl rfl h1) rfl ?_
        rw [HRR.out]
        exact ⟨_, rfl, (trc_iff.2 ⟨m, f, P, HPT.out, h1.drop⟩ : Has _ (Trc q S :: L)).row_nil 5 1, HK5.out.ans _ _ _ _ _ _ _⟩
      have hn1 : ¬ o.n < 0 := hn0
      rcases hk with hk | hk
      · rw [hk] at hp0 HR
        replace HR := hid ((if_neg (by rintro (h | h); exact hn0 h; exact absurd h.1 (by decide))).symm.trans HR.out)
        rw [if_neg (by decide)] at HR
        obtain ⟨N, hN⟩ : ∃ N : Nat, o.n = (N : Int) := ⟨o.n.toNat, by omega⟩
        obtain ⟨O, hO5⟩ : ∃ O : Nat, s.off = (O : Int) := ⟨s.off.toNat, by have := HOFF.out.1; omega⟩
        rw [hN] at hp2
        rw [hO5] at hf1
        obtain ⟨A, B, dv, wv, nm, hPe, hnm, hHP⟩ := Trb.take HO3.out hb
        have HPe := hid hPe
        have HNM := hid hnm
        have HP := hid hHP
        have hcb1 : w3.cell? ⟨b, 1, none⟩ = some dv := hHP.cells 1
        have hrd := Bytes.rd hHP.p1
        obtain ⟨pd, cd, rfl, hcap, -⟩ := hrd.form
        have HRD := hid hrd
        clear hn0 hn1 hrd hPe hnm hHP
        have hON : (O : Int) ≤ 2000000000000 := by have := HOFF.out.2; omega
        have hOz : (0 : Int) ≤ (O : Int) := by omega
        go_upto_region 10 with fail
        have hFz : min (O : Int) (x.data.length : Int) = ((min O x.data.length : Nat) : Int) := by omega
        have HFM := hid (show min O x.data.length ≤ x.data.length from Nat.min_le_right _ _)
        rw [hFz]
        generalize hF : min O x.data.length = F at *
        have hM : ∃ M : Nat, M = min N (x.data.length - F) := ⟨_, rfl⟩
        obtain ⟨M, hM⟩ := hM
        have HM := hid hM
        have hME : (F : Int) + min (N : Int) ((x.data.length : Int) - (F : Int)) = ((F + M : Nat) : Int) := by have := HFM.out; omega
        have hF0 : (0 : Int) ≤ (F : Int) := by omega
        have hFl : (F : Int) ≤ (x.data.length : Int) := by have := HFM.out; omega
        have hlen9 : (x.data.length : Int) ≤ 100000 := by have := HXL.out; omega
        have hN0 : (0 : Int) ≤ (N : Int) := by omega
        have HOd := hid HP.out.drew
        have HKd := hid HK3.out.drew
        have hb1d : w3.drew.cell? ⟨b, 1, none⟩ = some (.slice pd x.data.length cd) := hcb1
        have hp2d : w3.drew.cell? ⟨g3, 2, none⟩ = some (.int .i64 (N : Int)) := hp2
        refine region_text (fun w' => w'.cell? ⟨b, 1, none⟩ = some (.slice pd x.data.length cd) ∧ w'.cell? ⟨g3, 2, none⟩ = some (.int .i64 (N : Int))) (by kernel_rfl) (by kernel_rfl) ⟨hb1d, hp2d⟩ ?_
        repeat (first
          | (refine wpL_read (by rfl) (by rfl) ?_ ?_ ?_; rotate_left; (rintro w ⟨z0, z1⟩; go_simp; with_reducible rfl); simp only [Act.put, List.setIfInBounds_toArray, List.set_cons_zero, List.set_cons_succ]) | (refine wpL_skip (by rfl) ?_; simp only [Act.put, List.setIfInBounds_toArray, List.set_cons_zero, List.set_cons_succ]))
        have hMW : IntKind.i64.wrap ((F : Int) + min (N : Int) (IntKind.i64.wrap ((x.data.length : Int) - (F : Int)))) = ((F + M : Nat) : Int) := by
          rw [wrapk_in ((x.data.length : Int) - (F : Int)) (by omega), hME]
          exact wrapk_in _ (by have h1 := HFM.out; have h2 := HM.out; omega)
        rw [hMW]
        have hFM2 : F + M ≤ x.data.length := by have h1 := HFM.out; have h2 := HM.out; omega
        have hx1 : (0 : Int) ≤ (F : Int) := by omega
        have hx2 : (F : Int) ≤ ((F + M : Nat) : Int) := by omega
        have hx3 : ((F + M : Nat) : Int) ≤ (cd : Int) := by omega
        generalize hE : F + M = E at *
        repeat (first
          | (refine wpL_read (by rfl) (by rfl) ?_ ?_ ?_; rotate_left; (rintro w ⟨z0, z1⟩; go_simp; with_reducible rfl); simp only [Act.put, List.setIfInBounds_toArray, List.set_cons_zero, List.set_cons_succ]) | (refine wpL_skip (by rfl) ?_; simp only [Act.put, List.setIfInBounds_toArray, List.set_cons_zero, List.set_cons_succ]))
        have HDS := hid (show ((x.data.take E).drop F) = (x.data.drop O).take N from by rw [← hE]; exact read_take x.data O N F M hF.symm HM.out)
        have HRS := hid (show Rd w3.drew (.slice (if cd = F then pd else pd.map fun a => a.add F) (E - F) (cd - F)) 1 ((x.data.take E).drop F).length (bc ((x.data.take E).drop F)) from by
          have h1 := ((Bytes.rd HOd.out.p1).takeS E (by omega)).dropS F (by omega)
          have e : ((x.data.take E).drop F).length = E - F := by simp; omega
          rw [e]
          unfold bc at h1 ⊢
          simpa [List.map_take, List.map_drop] using h1)
        generalize (if cd = F then pd else pd.map fun a => a.add F) = ad at *
        have hdl : ((x.data.take E).drop F).length ≤ 100000 := by have := HXL.out; simp; omega
        generalize ((x.data.take E).drop F) = ds at *
        refine wpL_act (by rfl) (by rfl) (fun K hK => ?_)
        go_simp
        refine (cloneBy _ ds _ _ HOd.out HRS.out (by omega)).mono ?_
        rintro e w6 ⟨v6, rfl, hO6, hK6⟩
        have HO6 := hid hO6
        have HK6 := hid ((HKd.out).trans hK6)
        clear hO6 hK6
        try dsimp only
        refine hK.out _ _ (⟨HO6.out.p1.cells 1, by rw [← hN]; exact (HO6.out.re 9 [8]).cells 2⟩) ?_
        clear hK K
        try simp only [Act.put, List.setIfInBounds_toArray, List.set_cons_zero, List.set_cons_succ]
        repeat (first
          | (refine wpL_read (by rfl) (by rfl) ?_ ?_ ?_; rotate_left; (rintro w ⟨z0, z1⟩; go_simp; with_reducible rfl); simp only [Act.put, List.setIfInBounds_toArray, List.set_cons_zero, List.set_cons_succ]) | (refine wpL_skip (by rfl) ?_; simp only [Act.put, List.setIfInBounds_toArray, List.set_cons_zero, List.set_cons_succ]))
        refine wpL_nil ?_
        have HO7 := hid (show Has w6 (Trb q m f P S.last S.tab :: Bytes v6 ds :: pt g5 (.cells (filC s) 93) :: pt g4 (.cells (ansC (ansE 0) nilV nilV) 29) :: pt g3 (.cells (opC o ov) 32) :: L) from by
          have h1 := Trb.shut HPe.out HNM.out (HO6.out.re 9 [1, 2, 3, 4, 5, 0, 6, 7, 8])
          rwa [← HPe.out] at h1)
        have HK7 := HK6
        clear HO6 HK6 HOd HKd HP HRS HRD hcb1 hb1d hp2d hp0 hp1 hp2 hp3 hf1 HOa HO3 HK3 hz0 hz1 hz2 hz3 hz4 hz5 hy0 hy1 hy2 hy3 hy4 hy5
        obtain ⟨p6, c6, rfl, -⟩ := (Bytes.rd HO7.out.p1).form
        have hp0 : w6.cell? ⟨g3, 0, none⟩ = some (.int .i64 3) := by rw [← hk]; exact HO7.out.p4.cells 0
        have HTb := hid (show Has w6.drew (Tab f S.tab :: Trt q m f P S.last :: Bytes (.slice p6 ds.length c6) ds :: pt g5 (.cells (filC s) 93) :: pt g4 (.cells (ansC (ansE 0) nilV nilV) 29) :: pt g3 (.cells (opC o ov) 32) :: L) from Trb.tab.1 HO7.out.drew)
        have hq2 := (Trb.cells HO7.out.drew).2.2
        have hp1 : w6.drew.cell? ⟨g3, 1, none⟩ = some (.int .i64 o.fd) := HO7.out.drew.p4.cells 1
        go_upto_region 12 with fail
        refine region_text (fun w' => w'.cell? ⟨q, 2, none⟩ = some (.pointer (some ⟨f, 0, none⟩)) ∧ w'.cell? ⟨g3, 1, none⟩ = some (.int .i64 o.fd)) (by kernel_rfl) (by kernel_rfl) ⟨hq2, hp1⟩ ?_
        repeat (first
          | (refine wpL_read (by rfl) (by rfl) ?_ ?_ ?_; rotate_left; (rintro w ⟨z0, z1⟩; go_simp; with_reducible rfl); simp only [Act.put, List.setIfInBounds_toArray, List.set_cons_zero, List.set_cons_succ]) | (refine wpL_skip (by rfl) ?_; simp only [Act.put, List.setIfInBounds_toArray, List.set_cons_zero, List.set_cons_succ]))
        rw [wrapk_in ((O : Int) + (ds.length : Int)) (by omega)]
        refine wpL_act (by rfl) (by rfl) (fun K hK => ?_)
        go_simp
        refine (tabMove f S.tab o.fd ((O : Int) + (ds.length : Int)) _ _ HPT.out.2 HTb.out).mono ?_
        rintro e w8 ⟨rfl, hO8, hK8⟩
        have HO8 := hid hO8
        have HK8 := hid ((HK7.out.drew).trans hK8)
        clear hO8 hK8
        try dsimp only
        refine hK.out _ _ (⟨(Trb.cells (Trb.tab.2 HO8.out)).2.2, HO8.out.p5.cells 1⟩) ?_
        clear hK K
        try simp only [Act.put, List.setIfInBounds_toArray, List.set_cons_zero, List.set_cons_succ]
        refine wpL_nil ?_
        have HO9 := hid (show Has w8 (pt g4 (.cells (ansC (ansE 0) nilV nilV) 29) :: Bytes (.slice p6 ds.length c6) ds :: Trb q m f P S.last (Tb.mov S.tab o.fd ((O : Int) + (ds.length : Int))).2 :: L) from (Trb.tab.2 HO8.out).re 5 [3, 1, 0])
        have hz0 : w8.cell? ⟨g4, 0, none⟩ = some (.int .i64 0) := (HO9.out).cells 0
        have hz1 : w8.cell? ⟨g4, 1, none⟩ = some (.int .i64 0) := (HO9.out).cells 1
        have hz2 : w8.cell? ⟨g4, 2, none⟩ = some (.int .i64 0) := (HO9.out).cells 2
        have hz3 : w8.cell? ⟨g4, 3, none⟩ = some (.int .i64 0) := (HO9.out).cells 3
        have hz4 : w8.cell? ⟨g4, 4, none⟩ = some (.slice none 0 0) := (HO9.out).cells 4
        have hz5 : w8.cell? ⟨g4, 5, none⟩ = some (.slice none 0 0) := (HO9.out).cells 5
        have hy0 := (HO9.out).thaw 0
        have hy1 := (HO9.out).thaw 1
        have hy2 := (HO9.out).thaw 2
        have hy3 := (HO9.out).thaw 3
        have hy4 := (HO9.out).thaw 4
        have hy5 := (HO9.out).thaw 5
        go_wp2_with fail
        have h1 := HO9.out.ans ⟨0, 0, 0, 0, ds, []⟩ (.slice p6 ds.length c6) nilV
        refine bodyPost_ret (ans_result rfl rfl h1) rfl ?_
        rw [← HR.out]
        refine ⟨_, rfl, ?_, HK8.out.ans _ _ _ _ _ _ _⟩
        rw [hN, hO5, Int.toNat_natCast, Int.toNat_natCast, if_pos trivial]
        dsimp only
        rw [← HDS.out]
        refine (show Has _ (Trc q { S with tab := (Tb.mov S.tab o.fd ((O : Int) + (ds.length : Int))).2 } :: Bytes (.slice p6 ds.length c6) ds :: L) from trc_iff.2 ⟨m, f, P, ⟨HPT.out.1, Tb.mov_len _ _ _ HPT.out.2⟩, h1.drop.re 2 [1, 0]⟩).re 2 [1, 0]
      · rw [hk] at hp0 HR
        by_cases ho0 : o.off < 0
        · have HRR := hid (show R = (ansE 2, S) from by rw [← HR.out, if_pos (.inr ⟨rfl, ho0⟩)])
          go_wp2_with fail
          refine (tCode (2 : Int) w3 _ HOa.out).mono ?_
          rintro e w5 ⟨rfl, hO5, hK5⟩
          have HO5 := hid hO5
          have HK5 := hid ((HK3.out).trans hK5)
          clear hO5 hK5
          unfold ansV ansC ansE
          clear hz0 hz1 hz2 hz3 hz4 hz5 hy0 hy1 hy2 hy3 hy4 hy5
          have hz0 : w5.cell? ⟨g4, 0, none⟩ = some (.int .i64 0) := (HO5.out).cells 0
          have hz1 : w5.cell? ⟨g4, 1, none⟩ = some (.int .i64 0) := (HO5.out).cells 1
          have hz2 : w5.cell? ⟨g4, 2, none⟩ = some (.int .i64 0) := (HO5.out).cells 2
          have hz3 : w5.cell? ⟨g4, 3, none⟩ = some (.int .i64 0) := (HO5.out).cells 3
          have hz4 : w5.cell? ⟨g4, 4, none⟩ = some (.slice none 0 0) := (HO5.out).cells 4
          have hz5 : w5.cell? ⟨g4, 5, none⟩ = some (.slice none 0 0) := (HO5.out).cells 5
          have hy0 := (HO5.out).thaw 0
          have hy1 := (HO5.out).thaw 1
          have hy2 := (HO5.out).thaw 2
          have hy3 := (HO5.out).thaw 3
          have hy4 := (HO5.out).thaw 4
          have hy5 := (HO5.out).thaw 5
          go_wp2_with fail
          have h1 := ((show Has w5 (pt g4 (.cells (ansC (ansE 0) nilV nilV) 29) :: Trb q m f P S.last S.tab :: L) from HO5.out)).ans (ansE (2 : Int)) nilV nilV
          refine bodyPost_ret (ans_result rfl rfl h1) rfl ?_
          rw [HRR.out]
          exact ⟨_, rfl, (trc_iff.2 ⟨m, f, P, HPT.out, h1.drop⟩ : Has _ (Trc q S :: L)).row_nil 5 1, HK5.out.ans _ _ _ _ _ _ _⟩
        · replace HR := hid ((if_neg (by rintro (h | h); exact hn0 h; exact ho0 h.2)).symm.trans HR.out)
          obtain ⟨N, hN⟩ : ∃ N : Nat, o.n = (N : Int) := ⟨o.n.toNat, by omega⟩
          obtain ⟨O, hO5⟩ : ∃ O : Nat, o.off = (O : Int) := ⟨o.off.toNat, by omega⟩
          rw [hN] at hp2
          rw [hO5] at hp3
          obtain ⟨A, B, dv, wv, nm, hPe, hnm, hHP⟩ := Trb.take HO3.out hb
          have HPe := hid hPe
          have HNM := hid hnm
          have HP := hid hHP
          have hcb1 : w3.cell? ⟨b, 1, none⟩ = some dv := hHP.cells 1
          have hrd := Bytes.rd hHP.p1
          obtain ⟨pd, cd, rfl, hcap, -⟩ := hrd.form
          have HRD := hid hrd
          clear hn0 hn1 hrd hPe hnm hHP
          have hON : (O : Int) ≤ 2000000000000 := by omega
          have hOz : (0 : Int) ≤ (O : Int) := by omega
          go_upto_region 10 with fail
          have hFz : min (O : Int) (x.data.length : Int) = ((min O x.data.length : Nat) : Int) := by omega
          have HFM := hid (show min O x.data.length ≤ x.data.length from Nat.min_le_right _ _)
          rw [hFz]
          generalize hF : min O x.data.length = F at *
          have hM : ∃ M : Nat, M = min N (x.data.length - F) := ⟨_, rfl⟩
          obtain ⟨M, hM⟩ := hM
          have HM := hid hM
          have hME : (F : Int) + min (N : Int) ((x.data.length : Int) - (F : Int)) = ((F + M : Nat) : Int) := by have := HFM.out; omega
          have hF0 : (0 : Int) ≤ (F : Int) := by omega
          have hFl : (F : Int) ≤ (x.data.length : Int) := by have := HFM.out; omega
          have hlen9 : (x.data.length : Int) ≤ 100000 := by have := HXL.out; omega
          have hN0 : (0 : Int) ≤ (N : Int) := by omega
          have HOd := hid HP.out.drew
          have HKd := hid HK3.out.drew
          have hb1d : w3.drew.cell? ⟨b, 1, none⟩ = some (.slice pd x.data.length cd) := hcb1
          have hp2d : w3.drew.cell? ⟨g3, 2, none⟩ = some (.int .i64 (N : Int)) := hp2
          refine region_text (fun w' => w'.cell? ⟨b, 1, none⟩ = some (.slice pd x.data.length cd) ∧ w'.cell? ⟨g3, 2, none⟩ = some (.int .i64 (N : Int))) (by kernel_rfl) (by kernel_rfl) ⟨hb1d, hp2d⟩ ?_
          repeat (first
            | (refine wpL_read (by rfl) (by rfl) ?_ ?_ ?_; rotate_left; (rintro w ⟨z0, z1⟩; go_simp; with_reducible rfl); simp only [Act.put, List.setIfInBounds_toArray, List.set_cons_zero, List.set_cons_succ]) | (refine wpL_skip (by rfl) ?_; simp only [Act.put, List.setIfInBounds_toArray, List.set_cons_zero, List.set_cons_succ]))
          have hMW : IntKind.i64.wrap ((F : Int) + min (N : Int) (IntKind.i64.wrap ((x.data.length : Int) - (F : Int)))) = ((F + M : Nat) : Int) := by
            rw [wrapk_in ((x.data.length : Int) - (F : Int)) (by omega), hME]
            exact wrapk_in _ (by have h1 := HFM.out; have h2 := HM.out; omega)
          rw [hMW]
          have hFM2 : F + M ≤ x.data.length := by have h1 := HFM.out; have h2 := HM.out; omega
          have hx1 : (0 : Int) ≤ (F : Int) := by omega
          have hx2 : (F : Int) ≤ ((F + M : Nat) : Int) := by omega
          have hx3 : ((F + M : Nat) : Int) ≤ (cd : Int) := by omega
          generalize hE : F + M = E at *
          repeat (first
            | (refine wpL_read (by rfl) (by rfl) ?_ ?_ ?_; rotate_left; (rintro w ⟨z0, z1⟩; go_simp; with_reducible rfl); simp only [Act.put, List.setIfInBounds_toArray, List.set_cons_zero, List.set_cons_succ]) | (refine wpL_skip (by rfl) ?_; simp only [Act.put, List.setIfInBounds_toArray, List.set_cons_zero, List.set_cons_succ]))
          have HDS := hid (show ((x.data.take E).drop F) = (x.data.drop O).take N from by rw [← hE]; exact read_take x.data O N F M hF.symm HM.out)
          have HRS := hid (show Rd w3.drew (.slice (if cd = F then pd else pd.map fun a => a.add F) (E - F) (cd - F)) 1 ((x.data.take E).drop F).length (bc ((x.data.take E).drop F)) from by
            have h1 := ((Bytes.rd HOd.out.p1).takeS E (by omega)).dropS F (by omega)
            have e : ((x.data.take E).drop F).length = E - F := by simp; omega
            rw [e]
            unfold bc at h1 ⊢
            simpa [List.map_take, List.map_drop] using h1)
          generalize (if cd = F then pd else pd.map fun a => a.add F) = ad at *
          have hdl : ((x.data.take E).drop F).length ≤ 100000 := by have := HXL.out; simp; omega
          generalize ((x.data.take E).drop F) = ds at *
          refine wpL_act (by rfl) (by rfl) (fun K hK => ?_)
          go_simp
          refine (cloneBy _ ds _ _ HOd.out HRS.out (by omega)).mono ?_
          rintro e w6 ⟨v6, rfl, hO6, hK6⟩
          have HO6 := hid hO6
          have HK6 := hid ((HKd.out).trans hK6)
          clear hO6 hK6
          try dsimp only
          refine hK.out _ _ (⟨HO6.out.p1.cells 1, by rw [← hN]; exact (HO6.out.re 9 [8]).cells 2⟩) ?_
          clear hK K
          try simp only [Act.put, List.setIfInBounds_toArray, List.set_cons_zero, List.set_cons_succ]
          repeat (first
            | (refine wpL_read (by rfl) (by rfl) ?_ ?_ ?_; rotate_left; (rintro w ⟨z0, z1⟩; go_simp; with_reducible rfl); simp only [Act.put, List.setIfInBounds_toArray, List.set_cons_zero, List.set_cons_succ]) | (refine wpL_skip (by rfl) ?_; simp only [Act.put, List.setIfInBounds_toArray, List.set_cons_zero, List.set_cons_succ]))
          refine wpL_nil ?_
          have HO7 := hid (show Has w6 (Trb q m f P S.last S.tab :: Bytes v6 ds :: pt g5 (.cells (filC s) 93) :: pt g4 (.cells (ansC (ansE 0) nilV nilV) 29) :: pt g3 (.cells (opC o ov) 32) :: L) from by
            have h1 := Trb.shut HPe.out HNM.out (HO6.out.re 9 [1, 2, 3, 4, 5, 0, 6, 7, 8])
            rwa [← HPe.out] at h1)
          have HK7 := HK6
          clear HO6 HK6 HOd HKd HP HRS HRD hcb1 hb1d hp2d hp0 hp1 hp2 hp3 hf1 HOa HO3 HK3 hz0 hz1 hz2 hz3 hz4 hz5 hy0 hy1 hy2 hy3 hy4 hy5
          obtain ⟨p6, c6, rfl, -⟩ := (Bytes.rd HO7.out.p1).form
          have hp0 : w6.cell? ⟨g3, 0, none⟩ = some (.int .i64 5) := by rw [← hk]; exact HO7.out.p4.cells 0
          have HO9 := hid (show Has w6 (pt g4 (.cells (ansC (ansE 0) nilV nilV) 29) :: Bytes (.slice p6 ds.length c6) ds :: Trb q m f P S.last S.tab :: L) from HO7.out.re 5 [3, 1, 0])
          have hz0 : w6.cell? ⟨g4, 0, none⟩ = some (.int .i64 0) := (HO9.out).cells 0
          have hz1 : w6.cell? ⟨g4, 1, none⟩ = some (.int .i64 0) := (HO9.out).cells 1
          have hz2 : w6.cell? ⟨g4, 2, none⟩ = some (.int .i64 0) := (HO9.out).cells 2
          have hz3 : w6.cell? ⟨g4, 3, none⟩ = some (.int .i64 0) := (HO9.out).cells 3
          have hz4 : w6.cell? ⟨g4, 4, none⟩ = some (.slice none 0 0) := (HO9.out).cells 4
          have hz5 : w6.cell? ⟨g4, 5, none⟩ = some (.slice none 0 0) := (HO9.out).cells 5
          have hy0 := (HO9.out).thaw 0
          have hy1 := (HO9.out).thaw 1
          have hy2 := (HO9.out).thaw 2
          have hy3 := (HO9.out).thaw 3
          have hy4 := (HO9.out).thaw 4
          have hy5 := (HO9.out).thaw 5
          go_wp2_with fail
          have h1 := HO9.out.ans ⟨0, 0, 0, 0, ds, []⟩ (.slice p6 ds.length c6) nilV
          refine bodyPost_ret (ans_result rfl rfl h1) rfl ?_
          rw [← HR.out]
          refine ⟨_, rfl, ?_, HK7.out.ans _ _ _ _ _ _ _⟩
          rw [if_pos trivial, hN, hO5, Int.toNat_natCast, Int.toNat_natCast, if_neg (by decide)]
          dsimp only
          rw [← HDS.out]
          exact (show Has _ (Trc q S :: Bytes (.slice p6 ds.length c6) ds :: L) from trc_iff.2 ⟨m, f, P, HPT.out, h1.drop.re 2 [1, 0]⟩).re 2 [1, 0]
    · have HRR := hid (show R = (ansE eg, S) from by rw [← HR.out, if_pos he])
      go_wp2_with fail
      refine (tCode eg w3 _ HOa.out).mono ?_
      rintro e w5 ⟨rfl, hO5, hK5⟩
      have HO5 := hid hO5
      have HK5 := hid ((HK3.out).trans hK5)
      clear hO5 hK5
      unfold ansV ansC ansE
      clear hz0 hz1 hz2 hz3 hz4 hz5 hy0 hy1 hy2 hy3 hy4 hy5
      have hz0 : w5.cell? ⟨g4, 0, none⟩ = some (.int .i64 0) := (HO5.out).cells 0
      have hz1 : w5.cell? ⟨g4, 1, none⟩ = some (.int .i64 0) := (HO5.out).cells 1
      have hz2 : w5.cell? ⟨g4, 2, none⟩ = some (.int .i64 0) := (HO5.out).cells 2
      have hz3 : w5.cell? ⟨g4, 3, none⟩ = some (.int .i64 0) := (HO5.out).cells 3
      have hz4 : w5.cell? ⟨g4, 4, none⟩ = some (.slice none 0 0) := (HO5.out).cells 4
      have hz5 : w5.cell? ⟨g4, 5, none⟩ = some (.slice none 0 0) := (HO5.out).cells 5
      have hy0 := (HO5.out).thaw 0
      have hy1 := (HO5.out).thaw 1
      have hy2 := (HO5.out).thaw 2
      have hy3 := (HO5.out).thaw 3
      have hy4 := (HO5.out).thaw 4
      have hy5 := (HO5.out).thaw 5
      go_wp2_with fail
      have h1 := ((show Has w5 (pt g4 (.cells (ansC (ansE 0) nilV nilV) 29) :: Trb q m f P S.last S.tab :: L) from HO5.out)).ans (ansE eg) nilV nilV
      refine bodyPost_ret (ans_result rfl rfl h1) rfl ?_
      rw [HRR.out]
      exact ⟨_, rfl, (trc_iff.2 ⟨m, f, P, HPT.out, h1.drop⟩ : Has _ (Trc q S :: L)).row_nil 5 1, HK5.out.ans _ _ _ _ _ _ _⟩
end Go.Proofs.YtfhaedkaedffcaaGreatDoor
/- THE WALK of tree.find, long, way. -/
namespace Go.Proofs.YtfhaedkaedffcaaGreatDoor
open Go.RowKit Go.Own
set_option maxRecDepth 100000 in
set_option maxHeartbeats 4000000 in
theorem tFind (q : Nat) (S : Tre) (p : Str) (fo : Bool) (mx : Int) (w : World) (L : List HP) (hW : Wk S) (hM : MxL mx L) (hp : p.length ≤ 100000) (hO : Has w (Trc q S :: L)) :
    Calls Tryz.prog 65 #[.pointer (some ⟨q, 0, none⟩), sV p, .bool fo] w fun e w' => e = .returned (.tuple #[spV (S.find p fo).1, .int .i64 (S.find p fo).2]) ∧ Has w' (Trc q S :: L) ∧ Keep w w' := by
  have HPn := hid (fun (w : World) (L' : List HP) (hM : MxL mx L') (hO : Has w L') => pSplit p mx w L' hM hp hO)
  have hl := split_len p
  have h24 := split_short p
  have HF := hid (show S.find p fo = if (splitM p).2 ≠ 0 then (spt0, (splitM p).2) else S.walk ⟨1, 0, []⟩ 0 (splitM p).1 fo from rfl)
  generalize S.find p fo = R at *
  generalize splitM p = M at *
  obtain ⟨ps, me⟩ := M
  dsimp only at *
  have HM := hid hM
  have HT := hid (fun (v : Value) (w : World) (L' : List HP) (hM : MxL mx L') (hO : Has w (VwS v ps :: Trc q S :: L')) => tWalk q S 1 v ps fo mx w L' hW hM hW.root (by omega) h24 hO)
  generalize S.walk ⟨1, 0, []⟩ 0 ps fo = R2 at *
  obtain ⟨s2, e2⟩ := R2
  dsimp only at *
  have HO := hid hO
  clear hM hO hl h24 hp
  go_enter Tryz.func65, Tryz.ntmps65
  go_wp2_with fail
  refine (HPn.out _ _ ((HM.out.cons _).cons (pt w.heap.size (.cells (spC spt0) 81))) (HO.out.alloc _)).mono ?_
  rintro e w1 ⟨v1, rfl, hO1, hK1⟩
  have HO1 := hid hO1
  have HK1 := hid (((Keep.refl w).alloc _).trans hK1)
  clear hO1 hK1
  try dsimp only
  obtain ⟨p1, c1, rfl, -⟩ := (Strs.rd HO1.out).form
  generalize w.heap.size = g8 at *
  have hc80 : w1.cell? ⟨g8, 0, none⟩ = some (.int .i64 0) := HO1.out.p1.cells 0
  have hc81 : w1.cell? ⟨g8, 1, none⟩ = some (.int .i64 0) := HO1.out.p1.cells 1
  have hc82 : w1.cell? ⟨g8, 2, none⟩ = some (sV []) := HO1.out.p1.cells 2
  have ht80 := HO1.out.p1.thaw 0
  have ht81 := HO1.out.p1.thaw 1
  have ht82 := HO1.out.p1.thaw 2
  by_cases he : me = 0
  · subst he
    have HR := hid (show R = (s2, e2) from by rw [HF.out, if_neg (by simp)])
    go_wp2_with fail
    refine (HT.out _ w1 _ (HM.out.cons (pt g8 (.cells (spC spt0) 81))) (VwS.of (HO1.out.re 3 [0, 2, 1]))).mono ?_
    rintro e w2 ⟨rfl, hO2, hK2⟩
    have HO2 := hid hO2
    have HK2 := hid ((HK1.out).trans hK2)
    clear hO2 hK2
    try dsimp only
    clear hc80 hc81 hc82 ht80 ht81 ht82
    have hc80 : w2.cell? ⟨g8, 0, none⟩ = some (.int .i64 0) := HO2.out.p1.cells 0
    have hc81 : w2.cell? ⟨g8, 1, none⟩ = some (.int .i64 0) := HO2.out.p1.cells 1
    have hc82 : w2.cell? ⟨g8, 2, none⟩ = some (sV []) := HO2.out.p1.cells 2
    have ht80 := HO2.out.p1.thaw 0
    have ht81 := HO2.out.p1.thaw 1
    have ht82 := HO2.out.p1.thaw 2
    unfold spV spC
    go_wp2_with fail
    have h1 := (show Has w2 (pt g8 (.cells (spC spt0) 81) :: Trc q S :: L) from HO2.out.re 2 [1, 0]).spt s2
    refine bodyPost_ret (spt_result s2 rfl rfl rfl h1) rfl ?_
    rw [HR.out]
    exact ⟨rfl, h1.drop, HK2.out.spt _ _ _ _⟩
  · have HR := hid (show R = (spt0, me) from by rw [HF.out, if_pos he])
    clear HF
    go_wp2_with fail
    have h1 := (show Has w1 (pt g8 (.cells (spC spt0) 81) :: Trc q S :: L) from HO1.out.re 3 [1, 2]).spt spt0
    refine bodyPost_ret (spt_result spt0 rfl rfl rfl h1) rfl ?_
    rw [HR.out]
    exact ⟨rfl, h1.drop, HK1.out.spt _ _ _ _⟩
set_option maxRecDepth 100000 in
theorem tLong (v : Value) (parts : List Str) (w : World) (L : List HP) (hr : Rd w v 1 parts.length (parts.map sV)) (hl : parts.length ≤ 1000) (hj : (joinS parts).length ≤ 1000000) (hO : Has w L) :
    Calls Tryz.prog 136 #[v] w fun e w' => e = .returned (.bool (Tre.longM parts)) ∧ Has w' L ∧ Keep w w' := by
  have HJ := hid (pJoin v parts w L hr (by omega) hj hO)
  obtain ⟨p1, c1, rfl, -⟩ := hr.form
  have hm : Tre.longM parts = (decide (20 < parts.length) || decide (200 < (joinM parts).length)) := rfl
  have HO := hid hO
  generalize joinM parts = js at *
  clear hO hr hj
  by_cases h20 : (20 : Int) < (parts.length : Int)
  · have HR := hid (show Tre.longM parts = true from by rw [hm, decide_eq_true (by omega)]; rfl)
    clear hm
    go_enter Tryz.func136, Tryz.ntmps136
    go_wp2_with fail
    go_ret
    rw [HR.out]
    exact ⟨rfl, HO.out, Keep.refl _⟩
  · have HR := hid (show Tre.longM parts = decide ((200 : Int) < (js.length : Int)) from by rw [hm, decide_eq_false (by omega)]; simp; omega)
    clear hm
    go_enter Tryz.func136, Tryz.ntmps136
    go_wp2_with fail
    refine (HJ.out).mono ?_
    rintro e w1 ⟨rfl, hO1, hK1⟩
    have HO1 := hid hO1
    have HK1 := hid ((Keep.refl w).trans hK1)
    clear hO1 hK1
    try dsimp only
    go_wp2_with fail
    go_ret
    rw [HR.out]
    exact ⟨rfl, HO1.out, HK1.out⟩
end Go.Proofs.YtfhaedkaedffcaaGreatDoor
/- WHAT IS OWNED BEHIND THE SHELF's CONTRACTS that turn a row: the world with the row's cells anew, and blocks behind it. No program in sight. -/
namespace Go.Own
open Go.RowKit
section
variable {w w' : World} {l : List HP} {v : Value} {e : TypeId} {size n : Nat} {xs : List Value}
theorem Has.grow (h : Has w l) (os : Array Obj) : Has (Sort.grow w os) l := h.frame fun k hk => by
  show (w.heap ++ os)[k]? = _
  rw [Array.getElem?_append_left hk]
theorem Has.ahead (h : Has w l) (m : Nat) : Has (Sort.ahead w m) l := h
theorem Has.putRow {α : Type} [Inhabited α] (enc : α → Value) {g cap m : Nat} {d : Array α} (h : Has w (row (.slice (some ⟨g, 0, none⟩) m cap) e 1 n xs :: l)) (hd : d.size = n) :
    Has (Sort.putRow enc w g 0 d) (row (.slice (some ⟨g, 0, none⟩) m cap) e 1 n (d.toList.map enc) :: l) := by
  obtain ⟨hl, h | ⟨g', cap', cur, e1, h1, h2, h3, h4, h5⟩⟩ := h.row_cases
  · exact absurd h.1 (by simp)
  · simp only [Value.slice.injEq, Option.some.injEq, Addr.mk.injEq] at e1
    obtain ⟨⟨rfl, -, -⟩, rfl, rfl⟩ := e1
    subst hd
    have hp : Has (Sort.putRow enc w g 0 d) (pt g (.cells (Sort.putCells enc 0 d cur) e) :: l) := by
      refine h5.turn (fun k _ hk => ?_) ?_
      · simp [Sort.putRow, Sort.mapBlock, Array.getElem?_modify, Ne.symm hk]
      · simp [Sort.putRow, Sort.mapBlock, Array.getElem?_modify, h5.lookup, Sort.onCells]
    refine hp.row_of h1 h2 (by simpa [Sort.putCells] using h3) ?_ (by simp)
    apply List.ext_getElem?
    intro k
    rw [Nat.mul_one] at h3
    by_cases hk : k < d.size
    · have hkc : k < cur.size := by omega
      rw [Nat.mul_one, List.getElem?_take, if_pos hk, Array.getElem?_toList, Sort.putCells, Array.getElem?_mapIdx, Array.getElem?_eq_getElem hkc, Option.map_some, if_pos ⟨Nat.zero_le _, by omega⟩, List.getElem?_map, Array.getElem?_toList, Nat.sub_zero,
        Array.getElem?_eq_getElem hk, Option.map_some, getElem!_pos d k hk]
    · rw [List.getElem?_eq_none (by simp; omega), List.getElem?_eq_none (by simp; omega)]
/-- The first of it. -/
theorem Has.row_take {g cap m : Nat} (h : Has w (row (.slice (some ⟨g, 0, none⟩) m cap) e size n xs :: l)) (k : Nat) (hk : k ≤ n) :
    Has w (row (.slice (some ⟨g, 0, none⟩) k cap) e size k (xs.take (k * size)) :: l) := by
  obtain ⟨hl, h | ⟨g', cap', cur, e1, h1, h2, h3, h4, h5⟩⟩ := h.row_cases
  · exact absurd h.1 (by simp)
  · simp only [Value.slice.injEq, Option.some.injEq, Addr.mk.injEq] at e1
    obtain ⟨⟨rfl, -, -⟩, rfl, rfl⟩ := e1
    have hle := Nat.mul_le_mul_right size hk
    refine h5.row_of (by omega) h2 h3 ?_ (by rw [List.length_take]; omega)
    rw [← h4, List.take_take, Nat.min_eq_left hle]
end
end Go.Own
/- slices.Reverse of strings, over owned rows. -/
namespace Go.Proofs.YtfhaedkaedffcaaGreatDoor
open Go.RowKit Go.Own
theorem strs_holds {w : World} {L : List HP} {g cap m : Nat} {l : List Str} (hO : Has w (Strs (.slice (some ⟨g, 0, none⟩) m cap) l :: L)) : Sort.Holds encStr w g 0 l.toArray := by
  obtain ⟨-, hc, hf, -, -⟩ := hO.row_cells
  intro j hj
  have hj' : j < l.length := by simpa using hj
  refine ⟨?_, by rw [Nat.zero_add]; exact hf j⟩
  rw [Nat.zero_add, hc j (by omega), List.getElem?_map, List.getElem?_eq_getElem hj', Option.map_some, getElem!_pos _ j hj, List.getElem_toArray]
theorem reverseS (v : Value) (l : List Str) (w : World) (L : List HP) (hl : l.length ≤ 1000000) (hO : Has w (Strs v l :: L)) :
    Calls Tryz.prog 149 #[v] w fun e w' => e = .returned (.tuple #[]) ∧ Has w' (Strs v l.reverse :: L) ∧ Keep w w' := by
  obtain ⟨h1, ⟨rfl, h2, h3, -⟩ | ⟨g, cap, cur, rfl, h2, h3, -, -, h4⟩⟩ := Has.row_cases hO
  · have hn : l = [] := List.eq_nil_of_length_eq_zero h2
    subst hn
    refine (Tryz.slices_Reverse_string_empty none 0 w).mono ?_
    rintro e w' ⟨rfl, rfl⟩
    exact ⟨rfl, by simpa using hO, Keep.refl _⟩
  · refine (Tryz.slices_Reverse_string g 0 cap l w (strs_holds hO) (by omega)).mono ?_
    rintro e w' ⟨rfl, m, rfl⟩
    have h5 := (Has.ahead hO m).putRow (d := l.reverse.toArray) encStr (by simp)
    refine ⟨rfl, ?_, rfl, rfl, rfl, by simp [Sort.putRow, Sort.mapBlock, Sort.ahead]⟩
    unfold Strs
    rw [List.length_reverse]
    exact h5
end Go.Proofs.YtfhaedkaedffcaaGreatDoor
/- THE WALK of tree.way. -/
namespace Go.Proofs.YtfhaedkaedffcaaGreatDoor
open Go.RowKit Go.Own
theorem kStr_val (p : Str) : kStr.val p = sV p := rfl
theorem vInt_val (x : Int) : vInt.val x = .int .i64 x := rfl
def wTail (nm : Str) (rem : List Str) : List Str := if nm ∈ rem then [] else [nm]
theorem wTail_in {nm : Str} {rem : List Str} (h : nm ∈ rem) : wTail nm rem = [] := if_pos h
theorem wTail_no {nm : Str} {rem : List Str} (h : nm ∉ rem) : wTail nm rem = [nm] := if_neg h
set_option maxRecDepth 100000 in
set_option maxHeartbeats 8000000 in
theorem tWay (q m f : Nat) (P : List Pn) (S : Tre) (rk : Int → Nat) (n0 : Int) (x0 : Nod) (w : World) (L : List HP) (hW : Wy S rk) (hn : fnd S.nodes n0 = some x0) (hPT : pnN P = S.nodes ∧ S.tab.length = 16) (hO : Has w (Trb q m f P S.last S.tab :: L)) :
    Calls Tryz.prog 109 #[.pointer (some ⟨q, 0, none⟩), .int .i64 n0] w fun e w' => ∃ v, e = .returned v ∧ Has w' (Strs v (S.way n0) :: Trb q m f P S.last S.tab :: L) ∧ Keep w w' := by
  have HW := hid hW
  have HPT := hid hPT
  have HO := hid hO
  have hlow := hW.low n0
  generalize hR : S.way n0 = R
  have HR := hid hR
  clear hW hO hPT hR
  go_enter Tryz.func109, Tryz.ntmps109
  go_wp2_with fail
  go_loopw [1, 5] (fun a v w' => ∃ (n : Int) (x : Nod) (out : List Str), a = .int .i64 n ∧ fnd S.nodes n = some x ∧ out.length + rk n ≤ 20 ∧ Hid (S.way n ++ out.reverse = R) ∧ Hid (Has w' (Strs v out :: Trb q m f P S.last S.tab :: L)) ∧ Hid (Keep w w')) (fun a _ _ => rk (intOf a))
  case atStart => exact ⟨n0, x0, [], rfl, hn, by simpa using hlow, hid (by rw [← HR.out]; simp), hid (HO.out.row_nil tStr 1), hid (Keep.refl w)⟩
  case round =>
    clear HO hn hlow
    obtain ⟨n, x, out, rfl, hx, hlen, HRR, HO, HK⟩ := hrel
    obtain ⟨pv, cv, rfl, -⟩ := (Strs.rd HO.out).form
    have HT := hid (HO.out.re 2 [1, 0])
    have hx' := hx
    rw [← HPT.out.1] at hx'
    obtain ⟨b, hb, hl⟩ := Trb.look HT.out hx'
    obtain ⟨dv, wv, nm, -, hc, -⟩ := Trb.node HT.out hb
    have hcb6 : wr.cell? ⟨b, 6, none⟩ = some (.int .i64 x.above) := hc 6
    have hcq := (Trb.cells HT.out).1
    have hat : S.at_ n = x := by unfold Tre.at_; rw [hx]; rfl
    have HLEN := hid hlen
    clear hc hx' hlen
    by_cases hstop : n = 1 ∨ x.above = 0
    · have HE := hid (show out.reverse = R from by rw [← HRR.out, way_stop (by rw [hat]; exact hstop)]; rfl)
      have HOX := hid (show Has wr (Strs (.slice pv out.length cv) out :: Trb q m f P S.last S.tab :: L) from HO.out)
      have HL := hid (show out.length ≤ 1000000 from by have := HLEN.out; omega)
      by_cases h1 : n = 1
      · subst h1
        clear hstop
        go_wp2_with fail
        refine (reverseS _ out _ _ HL.out HOX.out).mono ?_
        rintro e w2 ⟨rfl, hO2, hK2⟩
        have HO2 := hid hO2
        have HK2 := hid ((HK.out).trans hK2)
        clear hO2 hK2
        try dsimp only
        go_wp2_with fail
        go_ret
        rw [← HE.out]
        exact ⟨_, rfl, HO2.out, HK2.out⟩
      · have h2 : x.above = 0 := hstop.resolve_left h1
        clear hstop
        go_wp2_with fail
        refine (reverseS _ out _ _ HL.out HOX.out).mono ?_
        rintro e w2 ⟨rfl, hO2, hK2⟩
        have HO2 := hid hO2
        have HK2 := hid ((HK.out).trans hK2)
        clear hO2 hK2
        try dsimp only
        go_wp2_with fail
        go_ret
        rw [← HE.out]
        exact ⟨_, rfl, HO2.out, HK2.out⟩
    · simp only [not_or] at hstop
      obtain ⟨h1, h2⟩ := hstop
      have h1b : (n != 1) = true := by simpa using h1
      have h2b : (x.above != 0) = true := by simpa using h2
      obtain ⟨y, nm2, hy, hf, hrk, hnl, hw2⟩ := way_step HW.out hx h1 h2
      have hyn : y.names ≠ [] := by intro e; rw [e] at hf; simp at hf
      have hy' := hy
      rw [← HPT.out.1] at hy'
      obtain ⟨A, b2, B, hPe⟩ := pn_split hy'
      have HPe := hid hPe
      have hl2 := Trg.look (x := y) (b := b2) (n := x.above) (Trg.of HT.out) (by rw [hPe]; simp)
      have HG := HT.out
      rw [hPe] at HG
      obtain ⟨dv2, wv2, nmv, hnm2, HN⟩ := ndc_iff.1 (Trg.pull (Trg.of HG))
      obtain ⟨mm, rfl⟩ : ∃ mm, nmv = some mm := by
        cases nmv with
        | none => exact absurd (Has.fact_iff.1 HN.drop.drop.drop).1 hyn
        | some mm => exact ⟨mm, rfl⟩
      have hcb3 : wr.cell? ⟨b2, 3, none⟩ = some (.map (some mm)) := HN.cells 3
      have HN2 := hid (show Has wr (Mk kStr vInt mm y.names :: pt b2 (.cells (nodC y dv2 wv2 (some mm)) 72) :: Bytes dv2 y.data :: Bools wv2 y.wr :: Trg q m f (A ++ (x.above, b2, y) :: B) S.last S.tab (A ++ B) :: Strs (.slice pv out.length cv) out :: L) from HN.re 6 [3, 0, 1, 2, 4, 5])
      have HX := hid (show ∀ p ∈ y.names, (p.2 = n → p = (nm2, n)) ∧ (p.2 ≠ n → p.1 ≠ nm2) from by
        have hin : (nm2, n) ∈ y.names := (List.mem_filter.1 (show (nm2, n) ∈ y.names.filter (fun p => decide (p.2 = n)) by rw [hf]; simp)).1
        rintro ⟨p1, p2⟩ hp
        refine ⟨?_, ?_⟩
        · rintro rfl
          have : (p1, p2) ∈ y.names.filter (fun p => decide (p.2 = p2)) := List.mem_filter.2 ⟨hp, by simp⟩
          rw [hf] at this
          exact List.mem_singleton.1 this
        · rintro h0 rfl
          have e1 := fnd_mem (Mk.nodup HN2.out) hp
          have e2 := fnd_mem (Mk.nodup HN2.out) hin
          rw [e1] at e2
          exact h0 (Option.some.inj e2))
      have HF := hid hf
      have HRK := hid hrk
      have HHN := hid hnm2
      have HW2 := hid hw2
      clear hf hrk hnl hw2 HG HN hnm2 hPe hyn hb HO
      go_wp2_with (at_range; refine wpList_mkStart HN2.out tNm undNm rfl _ rfl rfl ?_; intro w4 hO4 hK4 hs4)
      try go_frame
      have HO4 := hid (show Has w4 (Mr kStr vInt mm wr.heap.size y.names (y.names.map Prod.fst) y.names.length :: Strs (.slice pv out.length cv) (out ++ wTail nm2 (y.names.map Prod.fst)) :: pt b2 (.cells (nodC y dv2 wv2 (some mm)) 72) :: Bytes dv2 y.data :: Bools wv2 y.wr :: Trg q m f (A ++ (x.above, b2, y) :: B) S.last S.tab (A ++ B) :: L) from by
        rw [wTail_in (by
          have : (nm2, n) ∈ y.names.filter (fun p => decide (p.2 = n)) := by rw [HF.out]; simp
          exact List.mem_map_of_mem (f := Prod.fst) (List.mem_filter.1 this).1), List.append_nil]
        exact hO4.re 6 [0, 5, 1, 2, 3, 4])
      have HK4 := hid (HK.out.trans hK4)
      clear hO4 hK4 hs4 hcb6 hcq hl hl2 hcb3 HK HN2
      generalize wr.heap.size = r at *
      generalize y.names.map Prod.fst = rem0 at *
      generalize y.names.length = cnt0 at *
      go_loopw [5] (fun v w4 => ∃ (rem : List Str) (cnt : Nat), Hid (Has w4 (Mr kStr vInt mm r y.names rem cnt :: Strs v (out ++ wTail nm2 rem) :: pt b2 (.cells (nodC y dv2 wv2 (some mm)) 72) :: Bytes dv2 y.data :: Bools wv2 y.wr :: Trg q m f (A ++ (x.above, b2, y) :: B) S.last S.tab (A ++ B) :: L)) ∧ Hid (Keep w w4)) (fun _ w4 => w4.rangeLeft mm r)
      case atStart => exact ⟨_, _, HO4, HK4⟩
      case round =>
        clear HO4 HK4
        obtain ⟨rem, cnt, HO, HK⟩ := hrel
        have hleft := Mr.left HO.out
        have HLF := hid hleft
        obtain ⟨pw, cw, rfl, -⟩ := (Strs.rd HO.out.p1).form
        generalize (out ++ wTail nm2 rem).length = zl at *
        go_wp2_with (at_next; refine wpList_mkNext HO.out rfl _ rfl rfl ?_ ?_)
        · intro hrem
          subst hrem
          have HO5 := hid (show Has wr (Strs (.slice pw zl cw) (out ++ [nm2]) :: Trb q m f P S.last S.tab :: L) from by
            have h1 := (Mr.end HO.out).re 6 [2, 3, 4, 0, 5, 1]
            have h2 : Has wr (Ndc b2 y :: Trg q m f (A ++ (x.above, b2, y) :: B) S.last S.tab (A ++ B) :: Strs (.slice pw zl cw) (out ++ [nm2]) :: L) := ndc_iff.2 ⟨dv2, wv2, some mm, HHN.out, h1⟩
            have h3 := Trg.perm (Trg.push x.above h2) (List.perm_middle (l₁ := A) (l₂ := B) (a := (x.above, b2, y))).symm
            rw [← HPe.out] at h3
            exact (show Has wr (Trb q m f P S.last S.tab :: _ :: L) from h3).re 2 [1, 0])
          have HWE := hid (show S.way x.above ++ (out ++ [nm2]).reverse = R from by rw [← HRR.out, HW2.out]; simp)
          have HYX := hid hy
          clear HO hleft
          go_wp2_with fail
          exact ⟨⟨x.above, y, out ++ [nm2], rfl, HYX.out, by have h1 := HLEN.out; have h2 := HRK.out; simp; omega, HWE, HO5, HK⟩, by simpa [intOf] using HRK.out⟩
        · rintro p1 p2 w5 cnt' hp hr hky hO5 hlt5 hK5 hsz hen
          simp only [kStr_val, vInt_val] at hen ⊢
          have hen2 := hen
          have HXP := HX.out _ hp
          have HO5 := hid hO5
          have HK5 := hid (HK.out.trans hK5)
          have HL5 := hid hlt5
          have hsl : out.length ≤ 20 := by have h1 := HLEN.out; omega
          dsimp only at HXP hr
          by_cases hpn : p2 = n
          · obtain ⟨rfl, -⟩ : p1 = nm2 ∧ p2 = n := by have := HXP.1 hpn; simpa using this
            subst hpn
            rw [wTail_in hr, List.append_nil] at HO5
            have HO6 := hid (show Has (w5.alloc (.cells #[sV p1] tStr)) (Strs (.slice pw zl cw) out :: pt w5.heap.size (.cells #[sV p1] tStr) :: Mr kStr vInt mm r y.names (rem.filter fun y => !decide (y = p1)) cnt' :: pt b2 (.cells (nodC y dv2 wv2 (some mm)) 72) :: Bytes dv2 y.data :: Bools wv2 y.wr :: Trg q m f (A ++ (x.above, b2, y) :: B) S.last S.tab (A ++ B) :: L) from (HO5.out.alloc (.cells #[sV p1] tStr)).re 7 [2, 0, 1, 3, 4, 5, 6])
            have hcx := HO6.out.p1.cells 0
            have HK6 := hid (HK5.out.alloc (.cells #[sV p1] tStr))
            have HNI := hid (show wTail p1 (rem.filter fun y => !decide (y = p1)) = [p1] from wTail_no (by simp))
            clear hp hr hky hlt5 hK5 hsz hleft HO HK HO5 HK5 HXP
            go_wp2_with (at_builtin; refine wpList_append1 rfl _ _ _ rfl Tryz.underlying27 infoStr rfl (sV p1) HO6.out rfl 1 w5.heap.size rfl hcx rfl (le_maxLen (by omega)) (by omega) ?_; intro v7 w7 h7 k7)
            have HO7 := hid (show Has w7 (Mr kStr vInt mm r y.names (rem.filter fun y => !decide (y = p1)) cnt' :: Strs v7 (out ++ wTail p1 (rem.filter fun y => !decide (y = p1))) :: pt b2 (.cells (nodC y dv2 wv2 (some mm)) 72) :: Bytes dv2 y.data :: Bools wv2 y.wr :: Trg q m f (A ++ (x.above, b2, y) :: B) S.last S.tab (A ++ B) :: L) from by
              rw [HNI.out]
              have h6 : Has w7 (Strs v7 (out ++ [p1]) :: pt w5.heap.size (.cells #[sV p1] tStr) :: Mr kStr vInt mm r y.names (rem.filter fun y => !decide (y = p1)) cnt' :: pt b2 (.cells (nodC y dv2 wv2 (some mm)) 72) :: Bytes dv2 y.data :: Bools wv2 y.wr :: Trg q m f (A ++ (x.above, b2, y) :: B) S.last S.tab (A ++ B) :: L) := by
                unfold Strs
                rw [List.map_append, List.length_append]
                exact h7
              exact h6.re 7 [2, 0, 3, 4, 5, 6])
            have HK7 := hid (HK6.out.trans k7)
            have hleft := Mr.left HO7.out
            clear h7 k7 HO6 HK6 hcx hen hen2 hsl
            go_wp2_with fail
            exact ⟨⟨_, _, HO7, HK7⟩, by rw [hleft, HLF.out]; exact HL5.out⟩
          · have hpb : (p2 == n) = false := by simpa using hpn
            have HNE := hid (show wTail nm2 (rem.filter fun y => !decide (y = p1)) = wTail nm2 rem from by
              have h0 := HXP.2 hpn
              unfold wTail
              have : nm2 ∈ rem.filter (fun y => !decide (y = p1)) ↔ nm2 ∈ rem := by simp [List.mem_filter, Ne.symm h0]
              by_cases h3 : nm2 ∈ rem
              · rw [if_pos h3, if_pos (this.2 h3)]
              · rw [if_neg h3, if_neg (fun h => h3 (this.1 h))])
            have HO7 := hid (show Has w5 (Mr kStr vInt mm r y.names (rem.filter fun y => !decide (y = p1)) cnt' :: Strs (.slice pw zl cw) (out ++ wTail nm2 (rem.filter fun y => !decide (y = p1))) :: pt b2 (.cells (nodC y dv2 wv2 (some mm)) 72) :: Bytes dv2 y.data :: Bools wv2 y.wr :: Trg q m f (A ++ (x.above, b2, y) :: B) S.last S.tab (A ++ B) :: L) from by rw [HNE.out]; exact HO5.out)
            have hleft := Mr.left HO7.out
            clear hp hr hky hlt5 hK5 hsz HO HK HO5 HXP hsl hpn
            go_wp2_with fail
            exact ⟨⟨_, _, HO7, HK5⟩, by rw [hleft, HLF.out]; exact HL5.out⟩
end Go.Proofs.YtfhaedkaedffcaaGreatDoor
/- Plain facts: what is found is there; how long joined names are. No program in sight. -/
namespace Go.Proofs.YtfhaedkaedffcaaGreatDoor
open Go.RowKit Go.Own
theorem joinS_len : ∀ xs : List Str, (∀ p ∈ xs, p.length ≤ 24) → (joinS xs).length ≤ xs.length * 25
  | [], _ => by simp [joinS, Lib.join_nil]
  | x :: r, h => by
    unfold joinS
    rw [Lib.join_cons]
    have h1 : ∀ r : List Str, (∀ p ∈ r, p.length ≤ 24) → (Lib.joinTail [47] r).length ≤ r.length * 25 := by
      intro r
      induction r with
      | nil => intro _; simp [Lib.joinTail]
      | cons y r ih =>
        intro h
        have h2 := ih fun p hp => h p (List.mem_cons_of_mem _ hp)
        have h3 := h y List.mem_cons_self
        simp only [Lib.joinTail, List.map_cons, List.flatten_cons, List.length_append, List.length_cons, List.length_nil] at *
        omega
    have h4 := h1 r fun p hp => h p (List.mem_cons_of_mem _ hp)
    have h5 := h x List.mem_cons_self
    simp only [List.length_append, List.length_cons]
    omega
theorem last_joins (p : Str) : (joinS (splitM p).1.dropLast).length ≤ 1000 := by
  have h1 := joinS_len (splitM p).1.dropLast fun q hq => split_short p q ((List.dropLast_sublist _).subset hq)
  have h2 := split_len p
  have h3 : (splitM p).1.dropLast.length ≤ 20 := by rw [List.length_dropLast]; omega
  omega
theorem last_ahead (p : Str) : (lastM p).1.length ≤ 1001 := by
  unfold lastM
  split
  · simp
  · split
    · simp
    · split
      · simp
      · have := last_joins p
        simp only [joinM, List.length_cons]
        omega
theorem last_name (p : Str) : (lastM p).2.1.length ≤ 24 := by
  unfold lastM
  split
  · simp
  · split
    · simp
    · rename_i x hx
      split
      · simp
      · exact split_short p x (List.mem_of_getLast? hx)
theorem walk_there {S : Tre} (hW : Wk S) (fo : Bool) (s : Spt) (hops : Nat) (ps : List Str) (hs : ∃ x, fnd S.nodes s.node = some x) (h0 : (S.walk s hops ps fo).2 = 0) : ∃ x, fnd S.nodes (S.walk s hops ps fo).1.node = some x := by
  fun_induction Tre.walk S s hops ps fo
  case case1 => exact hs
  case case2 => simp at h0
  case case3 =>
    rename_i ih
    refine ih ?_ h0
    obtain ⟨x, hx⟩ := hs
    show ∃ y, fnd S.nodes (S.up _) = some y
    unfold Tre.up Tre.at_
    rw [hx]
    by_cases h1 : x.above = 0
    · exact ⟨x, by simp [h1, hx]⟩
    · obtain ⟨y, hy⟩ := hW.above _ _ hx h1
      exact ⟨y, by simp [h1, hy]⟩
  case case4 => simp at h0
  case case5 => simp at h0
  case case6 =>
    rename_i ih
    refine ih ?_ h0
    dsimp only
    split
    · exact hW.root
    · exact hs
  case case7 =>
    rename_i hf hn ih
    refine ih ?_ h0
    obtain ⟨x, hx⟩ := hs
    unfold Tre.at_ at hf
    rw [hx] at hf
    exact hW.child _ _ hx _ _ hf
theorem find_there {S : Tre} (hW : Wk S) (p : Str) (fo : Bool) (h0 : (S.find p fo).2 = 0) : ∃ x, fnd S.nodes (S.find p fo).1.node = some x := by
  unfold Tre.find at *
  split at h0
  · rename_i h; exact absurd h0 h
  · rename_i h
    rw [if_neg h]
    exact walk_there hW fo _ _ _ hW.root h0
theorem wrSet_len (ws : List Bool) (a b : Nat) : (wrSet ws a b).length = ws.length := by simp [wrSet]
theorem wrSet_at (ws : List Bool) (a b i : Nat) (h : i < ws.length) : (wrSet ws a b)[i]? = some (ws[i] || (decide (a ≤ i) && decide (i < b))) := by
  unfold wrSet
  rw [List.getElem?_map, List.getElem?_zipIdx, List.getElem?_eq_getElem h]
  simp
theorem wrSet_same (ws : List Bool) (a : Nat) : wrSet ws a a = ws := by
  apply List.ext_getElem?
  intro i
  by_cases h : i < ws.length
  · rw [wrSet_at ws a a i h, List.getElem?_eq_getElem h]
    have : (decide (a ≤ i) && decide (i < a)) = false := by
      by_cases h1 : a ≤ i
      · simp
      · simp [h1]
    rw [this, Bool.or_false]
  · rw [List.getElem?_eq_none (by rw [wrSet_len]; omega), List.getElem?_eq_none (by omega)]
theorem wrSet_succ (ws : List Bool) (a k : Nat) (h1 : a ≤ k) (h2 : k < ws.length) : wrSet ws a (k + 1) = (wrSet ws a k).set k true := by
  apply List.ext_getElem?
  intro i
  by_cases h : i < ws.length
  · by_cases hik : i = k
    · subst hik
      rw [wrSet_at ws a (i + 1) i h, List.getElem?_set_self (by rw [wrSet_len]; exact h)]
      simp [h1]
    · rw [List.getElem?_set_ne (Ne.symm hik), wrSet_at ws a (k + 1) i h, wrSet_at ws a k i h]
      congr 2
      by_cases h3 : i < k
      · simp [h3, Nat.lt_succ_of_lt h3]
      · have : ¬ i < k + 1 := by omega
        simp [h3, this]
  · rw [List.getElem?_eq_none (by rw [wrSet_len]; omega), List.getElem?_eq_none (by rw [List.length_set, wrSet_len]; omega)]
end Go.Proofs.YtfhaedkaedffcaaGreatDoor
