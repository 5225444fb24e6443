/- TEXTS of mine, merged. -/
import Derived.Test.YtonhcefgakmpfaaGreatDoorM8
import Derived.Test.YtonhcefgakmpfaaGreatDoorM7
import Derived.Test.YtonhcefgakmpfaaGreatDoorM1
import Derived.Sort.Row
import Derived.Sort.Grow
import Derived.Test.YtonhcefgakmpfaaGreatDoorM5
/- THE WALK of tree.read. -/
namespace Go.Proofs.YtonhcefgakmpfaaGreatDoor
open Go.RowKit Go.Own
theorem read_take (xs : List Int) (O N F M : Nat) (hF : F = min O xs.length) (hM : M = min N (xs.length - F)) : (xs.take (F + M)).drop F = (xs.drop O).take N := by
  subst hF hM
  rw [List.drop_take, show min O xs.length + min N (xs.length - min O xs.length) - min O xs.length = min N (xs.length - min O xs.length) from by omega]
  by_cases h : O ≤ xs.length
  · rw [Nat.min_eq_left h]
    by_cases h2 : N ≤ xs.length - O
    · rw [Nat.min_eq_left h2]
    · rw [Nat.min_eq_right (by omega), List.take_of_length_le (by simp), List.take_of_length_le (by simp; omega)]
  · have e : min O xs.length = xs.length := Nat.min_eq_right (by omega)
    rw [e, List.drop_of_length_le (Nat.le_refl _), List.drop_of_length_le (i := O) (by omega)]
    simp
/-- What is open is there, and stands somewhere. -/
structure Opn (S : Tre) : Prop where
  there : ∀ fd s, Tb.look S.tab fd = some s → ∃ x, fnd S.nodes s.node = some x
  off : ∀ fd s, Tb.look S.tab fd = some s → 0 ≤ s.off ∧ s.off ≤ 2000000000000
  data : ∀ n x, fnd S.nodes n = some x → x.data.length ≤ 100000
  wr : ∀ n x, fnd S.nodes n = some x → x.wr.length ≤ 100000
  nolink : ∀ fd s, Tb.look S.tab fd = some s → (S.at_ s.node).kind ≠ 3
theorem Opn.fileK {S : Tre} (h : Opn S) (fd : Int) (wr : Bool) (h0 : (S.file fd wr).2 = 0) : (S.at_ (S.file fd wr).1.node).kind ≠ 3 := by
  unfold Tre.file at *
  by_cases h1 : (Tb.get S.tab fd).2 ≠ 0
  · rw [if_pos h1] at h0; simp at h0
  · rw [if_neg h1] at *
    by_cases h2 : wr = true ∧ andI (Tb.get S.tab fd).1.flags 32 = 0
    · rw [if_pos h2] at h0; simp at h0
    · rw [if_neg h2] at *
      by_cases h3 : (S.at_ (Tb.get S.tab fd).1.node).kind = 2
      · rw [if_pos h3] at h0; simp at h0
      · rw [if_neg h3]
        unfold Tb.get at *
        cases hl : Tb.look S.tab fd with
        | none => simp [hl] at h1
        | some s => exact h.nolink fd s hl
theorem Opn.file {S : Tre} (h : Opn S) (fd : Int) (wr : Bool) (h0 : (S.file fd wr).2 = 0) : 0 ≤ (S.file fd wr).1.off ∧ (S.file fd wr).1.off ≤ 2000000000000 := by
  unfold Tre.file at *
  by_cases h1 : (Tb.get S.tab fd).2 ≠ 0
  · rw [if_pos h1] at h0; simp at h0
  · rw [if_neg h1] at *
    by_cases h2 : wr = true ∧ andI (Tb.get S.tab fd).1.flags 32 = 0
    · rw [if_pos h2] at h0; simp at h0
    · rw [if_neg h2] at *
      by_cases h3 : (S.at_ (Tb.get S.tab fd).1.node).kind = 2
      · rw [if_pos h3] at h0; simp at h0
      · rw [if_neg h3]
        unfold Tb.get at *
        cases hl : Tb.look S.tab fd with
        | none => simp [hl] at h1
        | some s => exact h.off fd s hl
theorem wrapk_in (n : Int) (h : -9223372036854775808 ≤ n ∧ n ≤ 9223372036854775807) : IntKind.i64.wrap n = n := by
  simp [IntKind.wrap, IntKind.bits, IntKind.signed]; omega
theorem cloneBy (v : Value) (xs : List Int) (w : World) (L : List HP) (hO : Has w L) (hr : Rd w v 1 xs.length (bc xs)) (hsm : xs.length ≤ 1000000000) :
    Calls Tryz.prog 67 #[v] w fun e w' => ∃ v', e = .returned v' ∧ Has w' (Bytes v' xs :: L) ∧ Keep w w' :=
  (cloneBytes v xs w L hO hr hsm).mono fun _ _ ⟨v', h1, h2, h3, _⟩ => ⟨v', h1, h2, h3⟩
set_option maxRecDepth 100000 in
set_option maxHeartbeats 8000000 in
theorem tRead (q : Nat) (S : Tre) (o : Opm) (ov : Value) (w : World) (L : List HP) (hk : o.kind = 3 ∨ o.kind = 5) (hop : Opn S) (ho : o.off ≤ 9223372036854775807) (hO : Has w (Trc q S :: L)) :
    Calls Tryz.prog 54 #[.pointer (some ⟨q, 0, none⟩), opV o ov] w fun e w' => ∃ dv, e = .returned (ansV (S.read o.kind o.fd o.n o.off).1 dv nilV) ∧ Has w' (Bytes dv (S.read o.kind o.fd o.n o.off).1.data :: Trc q (S.read o.kind o.fd o.n o.off).2 :: L) ∧ Keep w w' := by
  obtain ⟨m, f, P, hPT, h⟩ := trc_iff.1 hO
  have HF := hid (fun (w : World) (L' : List HP) (hO : Has w (Trb q m f P S.last S.tab :: L')) => tFile q m f P S o.fd false w L' (fun s hs => hop.there _ s hs) hPT hO)
  have HOF := hid (hop.file o.fd false)
  generalize hR : S.read o.kind o.fd o.n o.off = R
  unfold Tre.read at hR
  generalize S.file o.fd false = g at *
  obtain ⟨s, eg⟩ := g
  dsimp only at *
  have HR := hid hR
  have HPT := hid hPT
  have HDL := hid hop.data
  have HO := hid h
  clear hO hR h hop hPT
  unfold opV opC
  go_enter Tryz.func54, Tryz.ntmps54
  go_upto_region 1 with fail
  have h1 := (HO.out.alloc (.cells (opC o ov) 35)).alloc (.cells (ansC (ansE 0) nilV nilV) 32)
  have HK1 := hid (((Keep.refl w).alloc (.cells (opC o ov) 35)).alloc (.cells (ansC (ansE 0) nilV nilV) 32))
  unfold opC ansC ansE at h1 HK1
  have e1 : (w.alloc (.cells #[.int .i64 o.kind, .int .i64 o.fd, .int .i64 o.n, .int .i64 o.off, .int .i64 o.flags, sV o.path, sV o.dest, ov] 35)).heap.size = w.heap.size + 1 := by show (Array.push _ _).size = _; rw [Array.size_push]
  rw [e1] at h1
  have HO1 := hid h1
  clear h1 e1 HO
  generalize (w.alloc (.cells #[.int .i64 o.kind, .int .i64 o.fd, .int .i64 o.n, .int .i64 o.off, .int .i64 o.flags, sV o.path, sV o.dest, ov] 35)).alloc (.cells #[.int .i64 0, .int .i64 0, .int .i64 0, .int .i64 0, nilV, nilV] 32) = w1 at *
  generalize w.heap.size = g3 at *
  generalize g3 + 1 = g4 at *
  have hp1 : w1.cell? ⟨g3, 1, none⟩ = some (.int .i64 o.fd) := HO1.out.p1.cells 1
  go_cut [5, 6, 7] (fun p5 p6 e7 wx => ∃ (w3 : World) (g5 : Nat) (pv : Value), w3 = wx ∧ e7 = .int .i64 eg ∧ p5 = .pointer (some ⟨g5, 0, none⟩) ∧ p6 = pv ∧ (eg = 0 → ∃ b x, (s.node, b, x) ∈ P ∧ fnd S.nodes s.node = some x ∧ x.kind ≠ 2 ∧ pv = .pointer (some ⟨b, 0, none⟩)) ∧ Hid (Has w3 (Trb q m f P S.last S.tab :: pt g5 (.cells (filC s) 98) :: pt g4 (.cells (ansC (ansE 0) nilV nilV) 32) :: pt g3 (.cells (opC o ov) 35) :: L)) ∧ Hid (Keep w w3))
  case first =>
    go_wp2_with fail
    refine (HF.out _ _ (HO1.out.re 3 [2, 0, 1])).mono ?_
    rintro e w2 ⟨pv, rfl, hpv, hO2, hK2⟩
    unfold filC
    go_wp2_with fail
    go_meet
    exact ⟨_, _, pv, rfl, rfl, rfl, rfl, hpv, hid ((hO2.alloc (.cells (filC s) 98)).re 4 [1, 0, 2, 3]), hid ((HK1.out.trans hK2).alloc _)⟩
  case rest =>
    obtain ⟨w3, g5, pv, rfl, rfl, rfl, rfl, hpv, HO3, HK3⟩ := hcut
    clear HO1 HK1 hp1 HF
    have HOa := hid (show Has w3 (pt g4 (.cells (ansC (ansE 0) nilV nilV) 32) :: Trb q m f P S.last S.tab :: L) from HO3.out.re 4 [2, 0])
    have hz0 : w3.cell? ⟨g4, 0, none⟩ = some (.int .i64 0) := (HOa.out).cells 0
    have hz1 : w3.cell? ⟨g4, 1, none⟩ = some (.int .i64 0) := (HOa.out).cells 1
    have hz2 : w3.cell? ⟨g4, 2, none⟩ = some (.int .i64 0) := (HOa.out).cells 2
    have hz3 : w3.cell? ⟨g4, 3, none⟩ = some (.int .i64 0) := (HOa.out).cells 3
    have hz4 : w3.cell? ⟨g4, 4, none⟩ = some (.slice none 0 0) := (HOa.out).cells 4
    have hz5 : w3.cell? ⟨g4, 5, none⟩ = some (.slice none 0 0) := (HOa.out).cells 5
    have hy0 := (HOa.out).thaw 0
    have hy1 := (HOa.out).thaw 1
    have hy2 := (HOa.out).thaw 2
    have hy3 := (HOa.out).thaw 3
    have hy4 := (HOa.out).thaw 4
    have hy5 := (HOa.out).thaw 5
    have hp0 : w3.cell? ⟨g3, 0, none⟩ = some (.int .i64 o.kind) := HO3.out.p3.cells 0
    have hp1 : w3.cell? ⟨g3, 1, none⟩ = some (.int .i64 o.fd) := HO3.out.p3.cells 1
    have hp2 : w3.cell? ⟨g3, 2, none⟩ = some (.int .i64 o.n) := HO3.out.p3.cells 2
    have hp3 : w3.cell? ⟨g3, 3, none⟩ = some (.int .i64 o.off) := HO3.out.p3.cells 3
    have hf1 : w3.cell? ⟨g5, 1, none⟩ = some (.int .i64 s.off) := HO3.out.p1.cells 1
    by_cases he : eg = 0
    · subst he
      obtain ⟨b, x, hb, hx, hxk, rfl⟩ := hpv rfl
      have HOFF := hid (HOF.out rfl)
      have hat : S.at_ s.node = x := by unfold Tre.at_; rw [hx]; rfl
      have HXL := hid (HDL.out _ _ hx)
      replace HR := hid ((if_neg (fun h => h rfl)).symm.trans HR.out)
      rw [hat] at HR
      by_cases hn0 : o.n < 0
      · have HRR := hid (show R = (ansE 2, S) from by rw [← HR.out, if_pos (.inl hn0)])
        go_wp2_with fail
        refine (tCode (2 : Int) w3 _ HOa.out).mono ?_
        rintro e w5 ⟨rfl, hO5, hK5⟩
        have HO5 := hid hO5
        have HK5 := hid ((HK3.out).trans hK5)
        clear hO5 hK5
        unfold ansV ansC ansE
        clear hz0 hz1 hz2 hz3 hz4 hz5 hy0 hy1 hy2 hy3 hy4 hy5
        have hz0 : w5.cell? ⟨g4, 0, none⟩ = some (.int .i64 0) := (HO5.out).cells 0
        have hz1 : w5.cell? ⟨g4, 1, none⟩ = some (.int .i64 0) := (HO5.out).cells 1
        have hz2 : w5.cell? ⟨g4, 2, none⟩ = some (.int .i64 0) := (HO5.out).cells 2
        have hz3 : w5.cell? ⟨g4, 3, none⟩ = some (.int .i64 0) := (HO5.out).cells 3
        have hz4 : w5.cell? ⟨g4, 4, none⟩ = some (.slice none 0 0) := (HO5.out).cells 4
        have hz5 : w5.cell? ⟨g4, 5, none⟩ = some (.slice none 0 0) := (HO5.out).cells 5
        have hy0 := (HO5.out).thaw 0
        have hy1 := (HO5.out).thaw 1
        have hy2 := (HO5.out).thaw 2
        have hy3 := (HO5.out).thaw 3
        have hy4 := (HO5.out).thaw 4
        have hy5 := (HO5.out).thaw 5
        go_wp2_with fail
        have h1 := ((show Has w5 (pt g4 (.cells (ansC (ansE 0) nilV nilV) 32) :: Trb q m f P S.last S.tab :: L) from HO5.out)).ans (ansE (2 : Int)) nilV nilV
        refine bodyPost_ret (ans_result rfl rfl h1) rfl ?_
        rw [HRR.out]
        exact ⟨_, rfl, (trc_iff.2 ⟨m, f, P, HPT.out, h1.drop⟩ : Has _ (Trc q S :: L)).row_nil 5 1, HK5.out.ans _ _ _ _ _ _ _⟩
      have hn1 : ¬ o.n < 0 := hn0
      rcases hk with hk | hk
      · rw [hk] at hp0 HR
        replace HR := hid ((if_neg (by rintro (h | h); exact hn0 h; exact absurd h.1 (by decide))).symm.trans HR.out)
        rw [if_neg (by decide)] at HR
        obtain ⟨N, hN⟩ : ∃ N : Nat, o.n = (N : Int) := ⟨o.n.toNat, by omega⟩
        obtain ⟨O, hO5⟩ : ∃ O : Nat, s.off = (O : Int) := ⟨s.off.toNat, by have := HOFF.out.1; omega⟩
        rw [hN] at hp2
        rw [hO5] at hf1
        obtain ⟨A, B, dv, wv, nm, hPe, hnm, hHP⟩ := Trb.take HO3.out hb
        have HPe := hid hPe
        have HNM := hid hnm
        have HP := hid hHP
        have hcb1 : w3.cell? ⟨b, 1, none⟩ = some dv := hHP.cells 1
        have hrd := Dat.rd hHP.p1
        obtain ⟨pd, cd, rfl, hcap, -⟩ := hrd.form
        have HRD := hid hrd
        clear hn0 hn1 hrd hPe hnm hHP
        have hON : (O : Int) ≤ 2000000000000 := by have := HOFF.out.2; omega
        have hOz : (0 : Int) ≤ (O : Int) := by omega
        go_upto_region 10 with fail
        have hFz : min (O : Int) (x.data.length : Int) = ((min O x.data.length : Nat) : Int) := by omega
        have HFM := hid (show min O x.data.length ≤ x.data.length from Nat.min_le_right _ _)
        rw [hFz]
        generalize hF : min O x.data.length = F at *
        have hM : ∃ M : Nat, M = min N (x.data.length - F) := ⟨_, rfl⟩
        obtain ⟨M, hM⟩ := hM
        have HM := hid hM
        have hME : (F : Int) + min (N : Int) ((x.data.length : Int) - (F : Int)) = ((F + M : Nat) : Int) := by have := HFM.out; omega
        have hF0 : (0 : Int) ≤ (F : Int) := by omega
        have hFl : (F : Int) ≤ (x.data.length : Int) := by have := HFM.out; omega
        have hlen9 : (x.data.length : Int) ≤ 100000 := by have := HXL.out; omega
        have hN0 : (0 : Int) ≤ (N : Int) := by omega
        have HOd := hid HP.out.drew
        have HKd := hid HK3.out.drew
        have hb1d : w3.drew.cell? ⟨b, 1, none⟩ = some (.slice pd x.data.length cd) := hcb1
        have hp2d : w3.drew.cell? ⟨g3, 2, none⟩ = some (.int .i64 (N : Int)) := hp2
        refine region_text (fun w' => w'.cell? ⟨b, 1, none⟩ = some (.slice pd x.data.length cd) ∧ w'.cell? ⟨g3, 2, none⟩ = some (.int .i64 (N : Int))) (by kernel_rfl) (by kernel_rfl) ⟨hb1d, hp2d⟩ ?_
        repeat (first
          | (refine wpL_read (by rfl) (by rfl) ?_ ?_ ?_; rotate_left; (rintro w ⟨z0, z1⟩; go_simp; with_reducible rfl); simp only [Act.put, List.setIfInBounds_toArray, List.set_cons_zero, List.set_cons_succ]) | (refine wpL_skip (by rfl) ?_; simp only [Act.put, List.setIfInBounds_toArray, List.set_cons_zero, List.set_cons_succ]))
        have hMW : IntKind.i64.wrap ((F : Int) + min (N : Int) (IntKind.i64.wrap ((x.data.length : Int) - (F : Int)))) = ((F + M : Nat) : Int) := by
          rw [wrapk_in ((x.data.length : Int) - (F : Int)) (by omega), hME]
          exact wrapk_in _ (by have h1 := HFM.out; have h2 := HM.out; omega)
        rw [hMW]
        have hFM2 : F + M ≤ x.data.length := by have h1 := HFM.out; have h2 := HM.out; omega
        have hx1 : (0 : Int) ≤ (F : Int) := by omega
        have hx2 : (F : Int) ≤ ((F + M : Nat) : Int) := by omega
        have hx3 : ((F + M : Nat) : Int) ≤ (cd : Int) := by omega
        generalize hE : F + M = E at *
        repeat (first
          | (refine wpL_read (by rfl) (by rfl) ?_ ?_ ?_; rotate_left; (rintro w ⟨z0, z1⟩; go_simp; with_reducible rfl); simp only [Act.put, List.setIfInBounds_toArray, List.set_cons_zero, List.set_cons_succ]) | (refine wpL_skip (by rfl) ?_; simp only [Act.put, List.setIfInBounds_toArray, List.set_cons_zero, List.set_cons_succ]))
        have HDS := hid (show ((x.data.take E).drop F) = (x.data.drop O).take N from by rw [← hE]; exact read_take x.data O N F M hF.symm HM.out)
        have HRS := hid (show Rd w3.drew (.slice (if cd = F then pd else pd.map fun a => a.add F) (E - F) (cd - F)) 1 ((x.data.take E).drop F).length (bc ((x.data.take E).drop F)) from by
          have h1 := ((Dat.rd HOd.out.p1).takeS E (by omega)).dropS F (by omega)
          have e : ((x.data.take E).drop F).length = E - F := by simp; omega
          rw [e]
          unfold bc at h1 ⊢
          simpa [List.map_take, List.map_drop] using h1)
        generalize (if cd = F then pd else pd.map fun a => a.add F) = ad at *
        have hdl : ((x.data.take E).drop F).length ≤ 100000 := by have := HXL.out; simp; omega
        generalize ((x.data.take E).drop F) = ds at *
        refine wpL_act (by rfl) (by rfl) (fun K hK => ?_)
        go_simp
        refine (cloneBy _ ds _ _ HOd.out HRS.out (by omega)).mono ?_
        rintro e w6 ⟨v6, rfl, hO6, hK6⟩
        have HO6 := hid hO6
        have HK6 := hid ((HKd.out).trans hK6)
        clear hO6 hK6
        try dsimp only
        refine hK.out _ _ (⟨HO6.out.p1.cells 1, by rw [← hN]; exact (HO6.out.re 9 [8]).cells 2⟩) ?_
        clear hK K
        try simp only [Act.put, List.setIfInBounds_toArray, List.set_cons_zero, List.set_cons_succ]
        repeat (first
          | (refine wpL_read (by rfl) (by rfl) ?_ ?_ ?_; rotate_left; (rintro w ⟨z0, z1⟩; go_simp; with_reducible rfl); simp only [Act.put, List.setIfInBounds_toArray, List.set_cons_zero, List.set_cons_succ]) | (refine wpL_skip (by rfl) ?_; simp only [Act.put, List.setIfInBounds_toArray, List.set_cons_zero, List.set_cons_succ]))
        refine wpL_nil ?_
        have HO7 := hid (show Has w6 (Trb q m f P S.last S.tab :: Bytes v6 ds :: pt g5 (.cells (filC s) 98) :: pt g4 (.cells (ansC (ansE 0) nilV nilV) 32) :: pt g3 (.cells (opC o ov) 35) :: L) from by
          have h1 := Trb.shut HPe.out HNM.out (HO6.out.re 9 [1, 2, 3, 4, 5, 0, 6, 7, 8])
          rwa [← HPe.out] at h1)
        have HK7 := HK6
        clear HO6 HK6 HOd HKd HP HRS HRD hcb1 hb1d hp2d hp0 hp1 hp2 hp3 hf1 HOa HO3 HK3 hz0 hz1 hz2 hz3 hz4 hz5 hy0 hy1 hy2 hy3 hy4 hy5
        obtain ⟨p6, c6, rfl, -⟩ := (Bytes.rd HO7.out.p1).form
        have hp0 : w6.cell? ⟨g3, 0, none⟩ = some (.int .i64 3) := by rw [← hk]; exact HO7.out.p4.cells 0
        have HTb := hid (show Has w6.drew (Tab f S.tab :: Trt q m f P S.last :: Bytes (.slice p6 ds.length c6) ds :: pt g5 (.cells (filC s) 98) :: pt g4 (.cells (ansC (ansE 0) nilV nilV) 32) :: pt g3 (.cells (opC o ov) 35) :: L) from Trb.tab.1 HO7.out.drew)
        have hq2 := (Trb.cells HO7.out.drew).2.2
        have hp1 : w6.drew.cell? ⟨g3, 1, none⟩ = some (.int .i64 o.fd) := HO7.out.drew.p4.cells 1
        go_upto_region 12 with fail
        refine region_text (fun w' => w'.cell? ⟨q, 2, none⟩ = some (.pointer (some ⟨f, 0, none⟩)) ∧ w'.cell? ⟨g3, 1, none⟩ = some (.int .i64 o.fd)) (by kernel_rfl) (by kernel_rfl) ⟨hq2, hp1⟩ ?_
        repeat (first
          | (refine wpL_read (by rfl) (by rfl) ?_ ?_ ?_; rotate_left; (rintro w ⟨z0, z1⟩; go_simp; with_reducible rfl); simp only [Act.put, List.setIfInBounds_toArray, List.set_cons_zero, List.set_cons_succ]) | (refine wpL_skip (by rfl) ?_; simp only [Act.put, List.setIfInBounds_toArray, List.set_cons_zero, List.set_cons_succ]))
        rw [wrapk_in ((O : Int) + (ds.length : Int)) (by omega)]
        refine wpL_act (by rfl) (by rfl) (fun K hK => ?_)
        go_simp
        refine (tabMove f S.tab o.fd ((O : Int) + (ds.length : Int)) _ _ HPT.out.2 HTb.out).mono ?_
        rintro e w8 ⟨rfl, hO8, hK8⟩
        have HO8 := hid hO8
        have HK8 := hid ((HK7.out.drew).trans hK8)
        clear hO8 hK8
        try dsimp only
        refine hK.out _ _ (⟨(Trb.cells (Trb.tab.2 HO8.out)).2.2, HO8.out.p5.cells 1⟩) ?_
        clear hK K
        try simp only [Act.put, List.setIfInBounds_toArray, List.set_cons_zero, List.set_cons_succ]
        refine wpL_nil ?_
        have HO9 := hid (show Has w8 (pt g4 (.cells (ansC (ansE 0) nilV nilV) 32) :: Bytes (.slice p6 ds.length c6) ds :: Trb q m f P S.last (Tb.mov S.tab o.fd ((O : Int) + (ds.length : Int))).2 :: L) from (Trb.tab.2 HO8.out).re 5 [3, 1, 0])
        have hz0 : w8.cell? ⟨g4, 0, none⟩ = some (.int .i64 0) := (HO9.out).cells 0
        have hz1 : w8.cell? ⟨g4, 1, none⟩ = some (.int .i64 0) := (HO9.out).cells 1
        have hz2 : w8.cell? ⟨g4, 2, none⟩ = some (.int .i64 0) := (HO9.out).cells 2
        have hz3 : w8.cell? ⟨g4, 3, none⟩ = some (.int .i64 0) := (HO9.out).cells 3
        have hz4 : w8.cell? ⟨g4, 4, none⟩ = some (.slice none 0 0) := (HO9.out).cells 4
        have hz5 : w8.cell? ⟨g4, 5, none⟩ = some (.slice none 0 0) := (HO9.out).cells 5
        have hy0 := (HO9.out).thaw 0
        have hy1 := (HO9.out).thaw 1
        have hy2 := (HO9.out).thaw 2
        have hy3 := (HO9.out).thaw 3
        have hy4 := (HO9.out).thaw 4
        have hy5 := (HO9.out).thaw 5
        go_wp2_with fail
        have h1 := HO9.out.ans ⟨0, 0, 0, 0, ds, []⟩ (.slice p6 ds.length c6) nilV
        refine bodyPost_ret (ans_result rfl rfl h1) rfl ?_
        rw [← HR.out]
        refine ⟨_, rfl, ?_, HK8.out.ans _ _ _ _ _ _ _⟩
        rw [hN, hO5, Int.toNat_natCast, Int.toNat_natCast, if_pos trivial]
        dsimp only
        rw [← HDS.out]
        refine (show Has _ (Trc q { S with tab := (Tb.mov S.tab o.fd ((O : Int) + (ds.length : Int))).2 } :: Bytes (.slice p6 ds.length c6) ds :: L) from trc_iff.2 ⟨m, f, P, ⟨HPT.out.1, Tb.mov_len _ _ _ HPT.out.2⟩, h1.drop.re 2 [1, 0]⟩).re 2 [1, 0]
      · rw [hk] at hp0 HR
        by_cases ho0 : o.off < 0
        · have HRR := hid (show R = (ansE 2, S) from by rw [← HR.out, if_pos (.inr ⟨rfl, ho0⟩)])
          go_wp2_with fail
          refine (tCode (2 : Int) w3 _ HOa.out).mono ?_
          rintro e w5 ⟨rfl, hO5, hK5⟩
          have HO5 := hid hO5
          have HK5 := hid ((HK3.out).trans hK5)
          clear hO5 hK5
          unfold ansV ansC ansE
          clear hz0 hz1 hz2 hz3 hz4 hz5 hy0 hy1 hy2 hy3 hy4 hy5
          have hz0 : w5.cell? ⟨g4, 0, none⟩ = some (.int .i64 0) := (HO5.out).cells 0
          have hz1 : w5.cell? ⟨g4, 1, none⟩ = some (.int .i64 0) := (HO5.out).cells 1
          have hz2 : w5.cell? ⟨g4, 2, none⟩ = some (.int .i64 0) := (HO5.out).cells 2
          have hz3 : w5.cell? ⟨g4, 3, none⟩ = some (.int .i64 0) := (HO5.out).cells 3
          have hz4 : w5.cell? ⟨g4, 4, none⟩ = some (.slice none 0 0) := (HO5.out).cells 4
          have hz5 : w5.cell? ⟨g4, 5, none⟩ = some (.slice none 0 0) := (HO5.out).cells 5
          have hy0 := (HO5.out).thaw 0
          have hy1 := (HO5.out).thaw 1
          have hy2 := (HO5.out).thaw 2
          have hy3 := (HO5.out).thaw 3
          have hy4 := (HO5.out).thaw 4
          have hy5 := (HO5.out).thaw 5
          go_wp2_with fail
          have h1 := ((show Has w5 (pt g4 (.cells (ansC (ansE 0) nilV nilV) 32) :: Trb q m f P S.last S.tab :: L) from HO5.out)).ans (ansE (2 : Int)) nilV nilV
          refine bodyPost_ret (ans_result rfl rfl h1) rfl ?_
          rw [HRR.out]
          exact ⟨_, rfl, (trc_iff.2 ⟨m, f, P, HPT.out, h1.drop⟩ : Has _ (Trc q S :: L)).row_nil 5 1, HK5.out.ans _ _ _ _ _ _ _⟩
        · replace HR := hid ((if_neg (by rintro (h | h); exact hn0 h; exact ho0 h.2)).symm.trans HR.out)
          obtain ⟨N, hN⟩ : ∃ N : Nat, o.n = (N : Int) := ⟨o.n.toNat, by omega⟩
          obtain ⟨O, hO5⟩ : ∃ O : Nat, o.off = (O : Int) := ⟨o.off.toNat, by omega⟩
          rw [hN] at hp2
          rw [hO5] at hp3
          obtain ⟨A, B, dv, wv, nm, hPe, hnm, hHP⟩ := Trb.take HO3.out hb
          have HPe := hid hPe
          have HNM := hid hnm
          have HP := hid hHP
          have hcb1 : w3.cell? ⟨b, 1, none⟩ = some dv := hHP.cells 1
          have hrd := Dat.rd hHP.p1
          obtain ⟨pd, cd, rfl, hcap, -⟩ := hrd.form
          have HRD := hid hrd
          clear hn0 hn1 hrd hPe hnm hHP
          have hON : (O : Int) ≤ 9223372036854775807 := by omega
          have hOz : (0 : Int) ≤ (O : Int) := by omega
          go_upto_region 10 with fail
          have hFz : min (O : Int) (x.data.length : Int) = ((min O x.data.length : Nat) : Int) := by omega
          have HFM := hid (show min O x.data.length ≤ x.data.length from Nat.min_le_right _ _)
          rw [hFz]
          generalize hF : min O x.data.length = F at *
          have hM : ∃ M : Nat, M = min N (x.data.length - F) := ⟨_, rfl⟩
          obtain ⟨M, hM⟩ := hM
          have HM := hid hM
          have hME : (F : Int) + min (N : Int) ((x.data.length : Int) - (F : Int)) = ((F + M : Nat) : Int) := by have := HFM.out; omega
          have hF0 : (0 : Int) ≤ (F : Int) := by omega
          have hFl : (F : Int) ≤ (x.data.length : Int) := by have := HFM.out; omega
          have hlen9 : (x.data.length : Int) ≤ 100000 := by have := HXL.out; omega
          have hN0 : (0 : Int) ≤ (N : Int) := by omega
          have HOd := hid HP.out.drew
          have HKd := hid HK3.out.drew
          have hb1d : w3.drew.cell? ⟨b, 1, none⟩ = some (.slice pd x.data.length cd) := hcb1
          have hp2d : w3.drew.cell? ⟨g3, 2, none⟩ = some (.int .i64 (N : Int)) := hp2
          refine region_text (fun w' => w'.cell? ⟨b, 1, none⟩ = some (.slice pd x.data.length cd) ∧ w'.cell? ⟨g3, 2, none⟩ = some (.int .i64 (N : Int))) (by kernel_rfl) (by kernel_rfl) ⟨hb1d, hp2d⟩ ?_
          repeat (first
            | (refine wpL_read (by rfl) (by rfl) ?_ ?_ ?_; rotate_left; (rintro w ⟨z0, z1⟩; go_simp; with_reducible rfl); simp only [Act.put, List.setIfInBounds_toArray, List.set_cons_zero, List.set_cons_succ]) | (refine wpL_skip (by rfl) ?_; simp only [Act.put, List.setIfInBounds_toArray, List.set_cons_zero, List.set_cons_succ]))
          have hMW : IntKind.i64.wrap ((F : Int) + min (N : Int) (IntKind.i64.wrap ((x.data.length : Int) - (F : Int)))) = ((F + M : Nat) : Int) := by
            rw [wrapk_in ((x.data.length : Int) - (F : Int)) (by omega), hME]
            exact wrapk_in _ (by have h1 := HFM.out; have h2 := HM.out; omega)
          rw [hMW]
          have hFM2 : F + M ≤ x.data.length := by have h1 := HFM.out; have h2 := HM.out; omega
          have hx1 : (0 : Int) ≤ (F : Int) := by omega
          have hx2 : (F : Int) ≤ ((F + M : Nat) : Int) := by omega
          have hx3 : ((F + M : Nat) : Int) ≤ (cd : Int) := by omega
          generalize hE : F + M = E at *
          repeat (first
            | (refine wpL_read (by rfl) (by rfl) ?_ ?_ ?_; rotate_left; (rintro w ⟨z0, z1⟩; go_simp; with_reducible rfl); simp only [Act.put, List.setIfInBounds_toArray, List.set_cons_zero, List.set_cons_succ]) | (refine wpL_skip (by rfl) ?_; simp only [Act.put, List.setIfInBounds_toArray, List.set_cons_zero, List.set_cons_succ]))
          have HDS := hid (show ((x.data.take E).drop F) = (x.data.drop O).take N from by rw [← hE]; exact read_take x.data O N F M hF.symm HM.out)
          have HRS := hid (show Rd w3.drew (.slice (if cd = F then pd else pd.map fun a => a.add F) (E - F) (cd - F)) 1 ((x.data.take E).drop F).length (bc ((x.data.take E).drop F)) from by
            have h1 := ((Dat.rd HOd.out.p1).takeS E (by omega)).dropS F (by omega)
            have e : ((x.data.take E).drop F).length = E - F := by simp; omega
            rw [e]
            unfold bc at h1 ⊢
            simpa [List.map_take, List.map_drop] using h1)
          generalize (if cd = F then pd else pd.map fun a => a.add F) = ad at *
          have hdl : ((x.data.take E).drop F).length ≤ 100000 := by have := HXL.out; simp; omega
          generalize ((x.data.take E).drop F) = ds at *
          refine wpL_act (by rfl) (by rfl) (fun K hK => ?_)
          go_simp
          refine (cloneBy _ ds _ _ HOd.out HRS.out (by omega)).mono ?_
          rintro e w6 ⟨v6, rfl, hO6, hK6⟩
          have HO6 := hid hO6
          have HK6 := hid ((HKd.out).trans hK6)
          clear hO6 hK6
          try dsimp only
          refine hK.out _ _ (⟨HO6.out.p1.cells 1, by rw [← hN]; exact (HO6.out.re 9 [8]).cells 2⟩) ?_
          clear hK K
          try simp only [Act.put, List.setIfInBounds_toArray, List.set_cons_zero, List.set_cons_succ]
          repeat (first
            | (refine wpL_read (by rfl) (by rfl) ?_ ?_ ?_; rotate_left; (rintro w ⟨z0, z1⟩; go_simp; with_reducible rfl); simp only [Act.put, List.setIfInBounds_toArray, List.set_cons_zero, List.set_cons_succ]) | (refine wpL_skip (by rfl) ?_; simp only [Act.put, List.setIfInBounds_toArray, List.set_cons_zero, List.set_cons_succ]))
          refine wpL_nil ?_
          have HO7 := hid (show Has w6 (Trb q m f P S.last S.tab :: Bytes v6 ds :: pt g5 (.cells (filC s) 98) :: pt g4 (.cells (ansC (ansE 0) nilV nilV) 32) :: pt g3 (.cells (opC o ov) 35) :: L) from by
            have h1 := Trb.shut HPe.out HNM.out (HO6.out.re 9 [1, 2, 3, 4, 5, 0, 6, 7, 8])
            rwa [← HPe.out] at h1)
          have HK7 := HK6
          clear HO6 HK6 HOd HKd HP HRS HRD hcb1 hb1d hp2d hp0 hp1 hp2 hp3 hf1 HOa HO3 HK3 hz0 hz1 hz2 hz3 hz4 hz5 hy0 hy1 hy2 hy3 hy4 hy5
          obtain ⟨p6, c6, rfl, -⟩ := (Bytes.rd HO7.out.p1).form
          have hp0 : w6.cell? ⟨g3, 0, none⟩ = some (.int .i64 5) := by rw [← hk]; exact HO7.out.p4.cells 0
          have HO9 := hid (show Has w6 (pt g4 (.cells (ansC (ansE 0) nilV nilV) 32) :: Bytes (.slice p6 ds.length c6) ds :: Trb q m f P S.last S.tab :: L) from HO7.out.re 5 [3, 1, 0])
          have hz0 : w6.cell? ⟨g4, 0, none⟩ = some (.int .i64 0) := (HO9.out).cells 0
          have hz1 : w6.cell? ⟨g4, 1, none⟩ = some (.int .i64 0) := (HO9.out).cells 1
          have hz2 : w6.cell? ⟨g4, 2, none⟩ = some (.int .i64 0) := (HO9.out).cells 2
          have hz3 : w6.cell? ⟨g4, 3, none⟩ = some (.int .i64 0) := (HO9.out).cells 3
          have hz4 : w6.cell? ⟨g4, 4, none⟩ = some (.slice none 0 0) := (HO9.out).cells 4
          have hz5 : w6.cell? ⟨g4, 5, none⟩ = some (.slice none 0 0) := (HO9.out).cells 5
          have hy0 := (HO9.out).thaw 0
          have hy1 := (HO9.out).thaw 1
          have hy2 := (HO9.out).thaw 2
          have hy3 := (HO9.out).thaw 3
          have hy4 := (HO9.out).thaw 4
          have hy5 := (HO9.out).thaw 5
          go_wp2_with fail
          have h1 := HO9.out.ans ⟨0, 0, 0, 0, ds, []⟩ (.slice p6 ds.length c6) nilV
          refine bodyPost_ret (ans_result rfl rfl h1) rfl ?_
          rw [← HR.out]
          refine ⟨_, rfl, ?_, HK7.out.ans _ _ _ _ _ _ _⟩
          rw [if_pos trivial, hN, hO5, Int.toNat_natCast, Int.toNat_natCast, if_neg (by decide)]
          dsimp only
          rw [← HDS.out]
          exact (show Has _ (Trc q S :: Bytes (.slice p6 ds.length c6) ds :: L) from trc_iff.2 ⟨m, f, P, HPT.out, h1.drop.re 2 [1, 0]⟩).re 2 [1, 0]
    · have HRR := hid (show R = (ansE eg, S) from by rw [← HR.out, if_pos he])
      go_wp2_with fail
      refine (tCode eg w3 _ HOa.out).mono ?_
      rintro e w5 ⟨rfl, hO5, hK5⟩
      have HO5 := hid hO5
      have HK5 := hid ((HK3.out).trans hK5)
      clear hO5 hK5
      unfold ansV ansC ansE
      clear hz0 hz1 hz2 hz3 hz4 hz5 hy0 hy1 hy2 hy3 hy4 hy5
      have hz0 : w5.cell? ⟨g4, 0, none⟩ = some (.int .i64 0) := (HO5.out).cells 0
      have hz1 : w5.cell? ⟨g4, 1, none⟩ = some (.int .i64 0) := (HO5.out).cells 1
      have hz2 : w5.cell? ⟨g4, 2, none⟩ = some (.int .i64 0) := (HO5.out).cells 2
      have hz3 : w5.cell? ⟨g4, 3, none⟩ = some (.int .i64 0) := (HO5.out).cells 3
      have hz4 : w5.cell? ⟨g4, 4, none⟩ = some (.slice none 0 0) := (HO5.out).cells 4
      have hz5 : w5.cell? ⟨g4, 5, none⟩ = some (.slice none 0 0) := (HO5.out).cells 5
      have hy0 := (HO5.out).thaw 0
      have hy1 := (HO5.out).thaw 1
      have hy2 := (HO5.out).thaw 2
      have hy3 := (HO5.out).thaw 3
      have hy4 := (HO5.out).thaw 4
      have hy5 := (HO5.out).thaw 5
      go_wp2_with fail
      have h1 := ((show Has w5 (pt g4 (.cells (ansC (ansE 0) nilV nilV) 32) :: Trb q m f P S.last S.tab :: L) from HO5.out)).ans (ansE eg) nilV nilV
      refine bodyPost_ret (ans_result rfl rfl h1) rfl ?_
      rw [HRR.out]
      exact ⟨_, rfl, (trc_iff.2 ⟨m, f, P, HPT.out, h1.drop⟩ : Has _ (Trc q S :: L)).row_nil 5 1, HK5.out.ans _ _ _ _ _ _ _⟩
end Go.Proofs.YtonhcefgakmpfaaGreatDoor
/- THE WALK of tree.take. -/
namespace Go.Proofs.YtonhcefgakmpfaaGreatDoor
open Go.RowKit Go.Own
theorem fnd_putA {κ α : Type} [DecidableEq κ] {t : List (κ × α)} {x y : κ} {a : α} : fnd (putA t x a) y = if y = x then some a else fnd t y := by
  unfold putA
  by_cases hx : x ∈ t.map Prod.fst
  · rw [if_pos hx]
    unfold fnd
    induction t with
    | nil => simp at hx
    | cons p t ih =>
      rw [List.map_cons, List.find?_cons]
      by_cases hp : p.1 = x
      · rw [if_pos hp]
        by_cases hy : y = x
        · subst hy; simp
        · rw [if_neg hy]
          have h1 : decide (x = y) = false := by simp; exact fun e => hy e.symm
          have h2 : decide (p.1 = y) = false := by simp; rw [hp]; exact fun e => hy e.symm
          rw [List.find?_cons, h2]
          simp only [h1]
          by_cases hx' : x ∈ t.map Prod.fst
          · have := ih hx'
            rw [if_neg hy] at this
            exact this
          · congr 1
            rw [show List.map (fun p => if p.1 = x then (x, a) else p) t = t from by
              conv => rhs; rw [← List.map_id t]
              apply List.map_congr_left
              intro r hr
              show (if r.1 = x then (x, a) else r) = r
              rw [if_neg (fun e : r.1 = x => hx' (e ▸ List.mem_map_of_mem (f := Prod.fst) hr))]]
      · rw [if_neg hp, List.find?_cons]
        have hx' : x ∈ t.map Prod.fst := by
          rw [List.map_cons, List.mem_cons] at hx
          exact hx.resolve_left (fun e => hp e.symm)
        have := ih hx'
        by_cases hpy : p.1 = y
        · have hy : y ≠ x := fun e => hp (hpy.trans e)
          simp [hpy, hy]
        · simp only [hpy, decide_false]
          exact this
  · rw [if_neg hx]
    unfold fnd
    rw [List.find?_append]
    by_cases hy : y = x
    · subst hy
      rw [if_pos rfl]
      have : t.find? (fun p => decide (p.1 = y)) = none := by
        rw [List.find?_eq_none]
        intro p hp
        simp only [decide_eq_true_eq]
        exact fun e => hx (e ▸ List.mem_map_of_mem (f := Prod.fst) hp)
      rw [this]
      simp
    · rw [if_neg hy]
      have h1 : List.find? (fun p => decide (p.1 = y)) [(x, a)] = none := by simp; exact fun e => hy e.symm
      rw [h1]
      cases List.find? (fun p => decide (p.1 = y)) t <;> rfl
theorem Trg.closeB {w : World} {L : List HP} {q m f : Nat} {PB PC P : List Pn} {last : Int} {T : List Tb.Slot} (h : Has w (Trg q m f PB last T PC :: L)) (hp : PC.Perm P) (hb : pnB P = pnB PB) : Has w (Trb q m f P last T :: L) := by
  refine trb_iff.2 ?_
  rw [hb]
  refine (trg_iff.1 h).perm (.cons _ (.cons _ (.cons _ ?_)))
  exact List.Perm.append_right _ (hp.map _)
set_option maxRecDepth 100000 in
set_option maxHeartbeats 8000000 in
theorem tTakeB (q m f : Nat) (P : List Pn) (S : Tre) (dir : Int) (name : Str) (n : Int) (d x : Nod) (w : World) (L : List HP) (hd : fnd S.nodes dir = some d) (hc : fnd d.names name = some n) (hn : fnd S.nodes n = some x) (hne : dir ≠ n) (hk : d.kind = 2) (hl : name.length ≤ 1000000) (hx0 : -1000000 ≤ x.links) (hx1 : x.links < 1000000) (hPT : pnN P = S.nodes ∧ S.tab.length = 16) (hO : Has w (Trb q m f P S.last S.tab :: L)) :
    Calls Tryz.prog 125 #[.pointer (some ⟨q, 0, none⟩), .int .i64 dir, sV name] w fun e w' => e = .returned (.tuple #[]) ∧ ∃ P', ((pnN P' = (S.take dir name).nodes ∧ (S.take dir name).tab.length = 16) ∧ ∀ e ∈ P', ∃ y, (e.1, e.2.1, y) ∈ P) ∧ Has w' (Trb q m f P' (S.take dir name).last (S.take dir name).tab :: L) ∧ Keep w w' := by
  obtain ⟨hP, hT⟩ := hPT
  have h := hO
  have hd' := hd
  have hn' := hn
  rw [← hP] at hd' hn'
  obtain ⟨b, b2, R, hperm⟩ := pn_split2 hd' hn' hne
  have hnd := Trb.nodup h
  have hq := (Trb.cells h).1
  have hld := Trg.look (n := dir) (b := b) (x := d) (Trg.of h) (hperm.mem_iff.2 (by simp))
  have h1 := (Trg.pullP (Trg.of h) hperm).re 2 [1, 0]
  have h2 := Trg.pullP h1 (.refl _)
  obtain ⟨dv2, wv2, nm2, hnm2, h3⟩ := ndc_iff.1 h2
  obtain ⟨dv, wv, nm, hnm, h4⟩ := ndc_iff.1 (h3.re 6 [5, 0, 1, 2, 3, 4])
  obtain ⟨mm, rfl⟩ := hnm hk
  have HO := hid (show Has w (Mk kStr vInt mm d.names :: pt b (.cells (nodC d dv wv (some mm)) 83) :: Dat d.kind dv d.data :: Bools wv d.wr :: pt b2 (.cells (nodC x dv2 wv2 nm2) 83) :: Dat x.kind dv2 x.data :: Bools wv2 x.wr :: Nms nm2 x.names :: Trg q m f P S.last S.tab R :: L) from h4.re 4 [3, 0, 1, 2])
  have HPM := hid hperm
  have HND := hid hnd
  have HPT := hid (And.intro hP hT)
  have HNM := hid hnm
  have HNM2 := hid hnm2
  have HDN := hid (And.intro hd hn)
  have HC := hid hc
  have hsl : name.length ≤ maxLen := Nat.le_trans hl (le_maxLen (by omega))
  have hlc : (Instr.lookup tNm (.map (some mm)) (sV name) false).run Tryz.prog w = .ok (.int .i64 n) w := by
    have h := Mk.look0 HO.out undNm hsl
    rw [HC.out] at h
    exact h
  have hc3 : w.cell? ⟨b, 3, none⟩ = some (.map (some mm)) := HO.out.p1.cells 3
  have HMS := hid (show ∀ w', Has w' (Trg q m f P S.last S.tab R :: L) → w'.cell? ⟨q, 0, none⟩ = some (.map (some m)) ∧ (Instr.lookup tNo (.map (some m)) (.int .i64 n) false).run Tryz.prog w' = .ok (.pointer (some ⟨b2, 0, none⟩)) w' from fun w' h' => ⟨(Trg.cells h').1, Trg.look (x := x) h' (hperm.mem_iff.2 (by simp))⟩)
  clear hd' hn' hd hn h h1 h2 h3 h4 hO hperm hnd hP hT hnm hnm2 hc
  have hfin : ∀ (w' : World) (x' : Nod), x'.kind = x.kind → x'.data = x.data → x'.wr = x.wr → x'.names = x.names → Tre.nodTake x = x' → Has w' (pt b2 (.cells (nodC x' dv2 wv2 nm2) 83) :: pt b (.cells (nodC (Tre.dirTake d name) dv wv (some mm)) 83) :: Mk kStr vInt mm (delA d.names name) :: Dat d.kind dv d.data :: Bools wv d.wr :: Dat x.kind dv2 x.data :: Bools wv2 x.wr :: Nms nm2 x.names :: Trg q m f P S.last S.tab R :: L) → Has w' (Trb q m f (P.map (rep2 dir (Tre.dirTake d name) n x')) S.last S.tab :: L) ∧ pnN (P.map (rep2 dir (Tre.dirTake d name) n x')) = ((S.setN dir (Tre.dirTake d name)).setN n x').nodes := by
    intro w' x' e1 e2 e3 e4 hxe h
    have g1 : Has w' (Ndc b2 x' :: pt b (.cells (nodC (Tre.dirTake d name) dv wv (some mm)) 83) :: Mk kStr vInt mm (delA d.names name) :: Dat d.kind dv d.data :: Bools wv d.wr :: Trg q m f P S.last S.tab R :: L) := ndc_iff.2 ⟨dv2, wv2, nm2, by rw [e1]; exact HNM2.out, by rw [e1, e2, e3, e4]; exact h.re 8 [0, 5, 6, 7, 1, 2, 3, 4]⟩
    have g2 : Has w' (Ndc b (Tre.dirTake d name) :: Ndc b2 x' :: Trg q m f P S.last S.tab R :: L) := ndc_iff.2 ⟨dv, wv, some mm, fun _ => ⟨mm, rfl⟩, g1.re 5 [1, 3, 4, 2, 0]⟩
    have g3 : Has w' (Trg q m f P S.last S.tab ((n, b2, x') :: R) :: Ndc b (Tre.dirTake d name) :: L) := Trg.push n (g2.re 3 [1, 2, 0])
    have g4 : Has w' (Trg q m f P S.last S.tab ((dir, b, Tre.dirTake d name) :: (n, b2, x') :: R) :: L) := Trg.push dir (g3.re 2 [1, 0])
    refine ⟨Trg.closeB g4 (rep2_perm HPM.out HND.out hne).symm rep2_pnB, ?_⟩
    rw [rep2_pnN (by rw [pnN_keys]; exact (HPM.out.map Prod.fst).mem_iff.2 (by simp)) (by rw [pnN_keys]; exact (HPM.out.map Prod.fst).mem_iff.2 (by simp)), HPT.out.1]
    rfl
  have HFIN := hid hfin
  have HTK := hid (show S.take dir name = ((S.setN dir (Tre.dirTake d name)).setN n (Tre.nodTake x)).forget n ∧ fnd ((S.setN dir (Tre.dirTake d name)).setN n (Tre.nodTake x)).nodes n = some (Tre.nodTake x) from by
    have a1 : S.at_ dir = d := by unfold Tre.at_; rw [HDN.out.1]; rfl
    have a2 : S.at_ n = x := by unfold Tre.at_; rw [HDN.out.2]; rfl
    have a3 : S.kid dir name = n := by unfold Tre.kid; rw [a1, HC.out]; rfl
    refine ⟨by unfold Tre.take; rw [a3, a1, a2], ?_⟩
    show fnd (putA _ n _) n = _
    rw [fnd_putA, if_pos rfl])
  have wx : IntKind.i64.wrap (x.links - 1) = x.links - 1 := wrapk_in _ (by omega)
  clear hfin
  go_enter Tryz.func125, Tryz.ntmps125
  go_upto_region 3 with (at_delete; refine wpList_mkDel HO.out tNm undNm rfl _ _ rfl rfl name hsl rfl ?_; intro w2 hO2 hK2; simp only [Act.put])
  have HO2 := hid (show Has w2 (pt b2 (.cells (nodC x dv2 wv2 nm2) 83) :: pt b (.cells (nodC (Tre.dirTake d name) dv wv (some mm)) 83) :: Mk kStr vInt mm (delA d.names name) :: Dat d.kind dv d.data :: Bools wv d.wr :: Dat x.kind dv2 x.data :: Bools wv2 x.wr :: Nms nm2 x.names :: Trg q m f P S.last S.tab R :: L) from hO2.re 5 [4, 1, 0, 2, 3])
  have HK2 := hid hK2
  clear hO2 hK2 HO hlc hc3 hq hld
  obtain ⟨hq0, hln⟩ := HMS.out w2 (HO2.out.re 9 [8])
  have hy0 : w2.cell? ⟨b2, 0, none⟩ = some (.int .i64 x.kind) := HO2.out.cells 0
  have hy5 : w2.cell? ⟨b2, 5, none⟩ = some (.int .i64 x.links) := HO2.out.cells 5
  have hy6 : w2.cell? ⟨b2, 6, none⟩ = some (.int .i64 x.above) := HO2.out.cells 6
  have hz5 := HO2.out.thaw 5
  have hz6 := HO2.out.thaw 6
  have HNT := hid (show Tre.nodTake x = { x with links := x.links - 1, above := if x.kind = 2 then 0 else x.above } from rfl)
  by_cases hk2 : x.kind = 2
  · have hkt : (x.kind == 2) = true := by simp [hk2]
    go_upto_region 7 with fail
    have HO3 := hid (HFIN.out _ { x with links := x.links - 1, above := 0 } rfl rfl rfl rfl (by rw [HNT.out, if_pos hk2]) ((HO2.out.set 5 (.int .i64 (x.links - 1))).set 6 (.int .i64 0)))
    have HK3 := hid ((HK2.out.set ⟨b2, 5, none⟩ (.int .i64 (x.links - 1))).set ⟨b2, 6, none⟩ (.int .i64 0))
    clear HO2 HK2 hy0 hy5 hy6 hz5 hz6 hq0 hln HFIN
    generalize (w2.setCell ⟨b2, 5, none⟩ (.int .i64 (x.links - 1))).setCell ⟨b2, 6, none⟩ (.int .i64 0) = w3 at *
    have HNE : Tre.nodTake x = { x with links := x.links - 1, above := 0 } := by rw [HNT.out, if_pos hk2]
    have HTK2 := hid HTK.out
    rw [HNE] at HTK2
    go_wp2_with fail
    refine (tForgetB q m f _ _ n _ w3 L HTK2.out.2 ⟨HO3.out.2, HPT.out.2⟩ HO3.out.1).mono ?_
    rintro e w4 ⟨rfl, P4, hp4, hO4, hK4⟩
    have HP4 := hid hp4
    have HO4 := hid hO4
    have HK4 := hid (HK3.out.trans hK4)
    clear hp4 hO4 hK4
    try dsimp only
    go_wp2_with fail
    go_end0
    rw [HTK2.out.1]
    refine ⟨rfl, P4, ⟨HP4.out.1, fun e he => ?_⟩, HO4.out, HK4.out⟩
    obtain ⟨y, hy⟩ := HP4.out.2 e he
    obtain ⟨p, hp, hpe⟩ := List.mem_map.1 hy
    have h1 := congrArg Prod.fst hpe
    have h2 := congrArg (fun z : Pn => z.2.1) hpe
    exact ⟨p.2.2, by rw [← h1, ← h2]; exact hp⟩
  · have hkt : (x.kind == 2) = false := by simp [hk2]
    go_upto_region 7 with fail
    have HO3 := hid (HFIN.out _ { x with links := x.links - 1 } rfl rfl rfl rfl (by rw [HNT.out, if_neg hk2]) (HO2.out.set 5 (.int .i64 (x.links - 1))))
    have HK3 := hid (HK2.out.set ⟨b2, 5, none⟩ (.int .i64 (x.links - 1)))
    clear HO2 HK2 hy0 hy5 hy6 hz5 hz6 hq0 hln HFIN
    generalize w2.setCell ⟨b2, 5, none⟩ (.int .i64 (x.links - 1)) = w3 at *
    have HNE : Tre.nodTake x = { x with links := x.links - 1 } := by rw [HNT.out, if_neg hk2]
    have HTK2 := hid HTK.out
    rw [HNE] at HTK2
    go_wp2_with fail
    refine (tForgetB q m f _ _ n _ w3 L HTK2.out.2 ⟨HO3.out.2, HPT.out.2⟩ HO3.out.1).mono ?_
    rintro e w4 ⟨rfl, P4, hp4, hO4, hK4⟩
    have HP4 := hid hp4
    have HO4 := hid hO4
    have HK4 := hid (HK3.out.trans hK4)
    clear hp4 hO4 hK4
    try dsimp only
    go_wp2_with fail
    go_end0
    rw [HTK2.out.1]
    refine ⟨rfl, P4, ⟨HP4.out.1, fun e he => ?_⟩, HO4.out, HK4.out⟩
    obtain ⟨y, hy⟩ := HP4.out.2 e he
    obtain ⟨p, hp, hpe⟩ := List.mem_map.1 hy
    have h1 := congrArg Prod.fst hpe
    have h2 := congrArg (fun z : Pn => z.2.1) hpe
    exact ⟨p.2.2, by rw [← h1, ← h2]; exact hp⟩
theorem tTake (q : Nat) (S : Tre) (dir : Int) (name : Str) (n : Int) (d x : Nod) (w : World) (L : List HP) (hd : fnd S.nodes dir = some d) (hc : fnd d.names name = some n) (hn : fnd S.nodes n = some x) (hne : dir ≠ n) (hk : d.kind = 2) (hl : name.length ≤ 1000000) (hx0 : -1000000 ≤ x.links) (hx1 : x.links < 1000000) (hO : Has w (Trc q S :: L)) :
    Calls Tryz.prog 125 #[.pointer (some ⟨q, 0, none⟩), .int .i64 dir, sV name] w fun e w' => e = .returned (.tuple #[]) ∧ Has w' (Trc q (S.take dir name) :: L) ∧ Keep w w' := by
  obtain ⟨m, f, P, hPT, h⟩ := trc_iff.1 hO
  refine (tTakeB q m f P S dir name n d x w L hd hc hn hne hk hl hx0 hx1 hPT h).mono ?_
  rintro e w' ⟨rfl, P', h1, h2, h3⟩
  exact ⟨rfl, trc_iff.2 ⟨m, f, P', h1.1, h2⟩, h3⟩
end Go.Proofs.YtonhcefgakmpfaaGreatDoor
/- THE WALK of tree.find, long, way. -/
namespace Go.Proofs.YtonhcefgakmpfaaGreatDoor
open Go.RowKit Go.Own
set_option maxRecDepth 100000 in
set_option maxHeartbeats 4000000 in
theorem tFind (q : Nat) (S : Tre) (p : Str) (fo : Bool) (mx : Int) (w : World) (L : List HP) (hW : Wk S) (hM : MxL mx L) (hp : p.length ≤ 100000) (hO : Has w (Trc q S :: L)) :
    Calls Tryz.prog 88 #[.pointer (some ⟨q, 0, none⟩), sV p, .bool fo] w fun e w' => e = .returned (.tuple #[spV (S.find p fo).1, .int .i64 (S.find p fo).2]) ∧ Has w' (Trc q S :: L) ∧ Keep w w' := by
  have HPn := hid (fun (w : World) (L' : List HP) (hM : MxL mx L') (hO : Has w L') => pSplit p mx w L' hM hp hO)
  have hl := split_len p
  have h24 := split_short p
  have HF := hid (show S.find p fo = if (splitM p).2 ≠ 0 then (spt0, (splitM p).2) else S.walk ⟨1, 0, []⟩ 0 (splitM p).1 fo from rfl)
  generalize S.find p fo = R at *
  generalize splitM p = M at *
  obtain ⟨ps, me⟩ := M
  dsimp only at *
  have HM := hid hM
  have HT := hid (fun (v : Value) (w : World) (L' : List HP) (hM : MxL mx L') (hO : Has w (VwS v ps :: Trc q S :: L')) => tWalk q S 1 v ps fo mx w L' hW hM hW.root (by omega) h24 hO)
  generalize S.walk ⟨1, 0, []⟩ 0 ps fo = R2 at *
  obtain ⟨s2, e2⟩ := R2
  dsimp only at *
  have HO := hid hO
  clear hM hO hl h24 hp
  go_enter Tryz.func88, Tryz.ntmps88
  go_wp2_with fail
  refine (HPn.out _ _ ((HM.out.cons _).cons (pt w.heap.size (.cells (spC spt0) 93))) (HO.out.alloc _)).mono ?_
  rintro e w1 ⟨v1, rfl, hO1, hK1⟩
  have HO1 := hid hO1
  have HK1 := hid (((Keep.refl w).alloc _).trans hK1)
  clear hO1 hK1
  try dsimp only
  obtain ⟨p1, c1, rfl, -⟩ := (Strs.rd HO1.out).form
  generalize w.heap.size = g8 at *
  have hc80 : w1.cell? ⟨g8, 0, none⟩ = some (.int .i64 0) := HO1.out.p1.cells 0
  have hc81 : w1.cell? ⟨g8, 1, none⟩ = some (.int .i64 0) := HO1.out.p1.cells 1
  have hc82 : w1.cell? ⟨g8, 2, none⟩ = some (sV []) := HO1.out.p1.cells 2
  have ht80 := HO1.out.p1.thaw 0
  have ht81 := HO1.out.p1.thaw 1
  have ht82 := HO1.out.p1.thaw 2
  by_cases he : me = 0
  · subst he
    have HR := hid (show R = (s2, e2) from by rw [HF.out, if_neg (by simp)])
    go_wp2_with fail
    refine (HT.out _ w1 _ (HM.out.cons (pt g8 (.cells (spC spt0) 93))) (VwS.of (HO1.out.re 3 [0, 2, 1]))).mono ?_
    rintro e w2 ⟨rfl, hO2, hK2⟩
    have HO2 := hid hO2
    have HK2 := hid ((HK1.out).trans hK2)
    clear hO2 hK2
    try dsimp only
    clear hc80 hc81 hc82 ht80 ht81 ht82
    have hc80 : w2.cell? ⟨g8, 0, none⟩ = some (.int .i64 0) := HO2.out.p1.cells 0
    have hc81 : w2.cell? ⟨g8, 1, none⟩ = some (.int .i64 0) := HO2.out.p1.cells 1
    have hc82 : w2.cell? ⟨g8, 2, none⟩ = some (sV []) := HO2.out.p1.cells 2
    have ht80 := HO2.out.p1.thaw 0
    have ht81 := HO2.out.p1.thaw 1
    have ht82 := HO2.out.p1.thaw 2
    unfold spV spC
    go_wp2_with fail
    have h1 := (show Has w2 (pt g8 (.cells (spC spt0) 93) :: Trc q S :: L) from HO2.out.re 2 [1, 0]).spt s2
    refine bodyPost_ret (spt_result s2 rfl rfl rfl h1) rfl ?_
    rw [HR.out]
    exact ⟨rfl, h1.drop, HK2.out.spt _ _ _ _⟩
  · have HR := hid (show R = (spt0, me) from by rw [HF.out, if_pos he])
    clear HF
    go_wp2_with fail
    have h1 := (show Has w1 (pt g8 (.cells (spC spt0) 93) :: Trc q S :: L) from HO1.out.re 3 [1, 2]).spt spt0
    refine bodyPost_ret (spt_result spt0 rfl rfl rfl h1) rfl ?_
    rw [HR.out]
    exact ⟨rfl, h1.drop, HK1.out.spt _ _ _ _⟩
set_option maxRecDepth 100000 in
theorem tLong (v : Value) (parts : List Str) (w : World) (L : List HP) (hr : Rd w v 1 parts.length (parts.map sV)) (hl : parts.length ≤ 1000) (hj : (joinS parts).length ≤ 1000000) (hO : Has w L) :
    Calls Tryz.prog 179 #[v] w fun e w' => e = .returned (.bool (Tre.longM parts)) ∧ Has w' L ∧ Keep w w' := by
  have HJ := hid (pJoin v parts w L hr (by omega) hj hO)
  obtain ⟨p1, c1, rfl, -⟩ := hr.form
  have hm : Tre.longM parts = (decide (20 < parts.length) || decide (200 < (joinM parts).length)) := rfl
  have HO := hid hO
  generalize joinM parts = js at *
  clear hO hr hj
  by_cases h20 : (20 : Int) < (parts.length : Int)
  · have HR := hid (show Tre.longM parts = true from by rw [hm, decide_eq_true (by omega)]; rfl)
    clear hm
    go_enter Tryz.func179, Tryz.ntmps179
    go_wp2_with fail
    go_ret
    rw [HR.out]
    exact ⟨rfl, HO.out, Keep.refl _⟩
  · have HR := hid (show Tre.longM parts = decide ((200 : Int) < (js.length : Int)) from by rw [hm, decide_eq_false (by omega)]; simp; omega)
    clear hm
    go_enter Tryz.func179, Tryz.ntmps179
    go_wp2_with fail
    refine (HJ.out).mono ?_
    rintro e w1 ⟨rfl, hO1, hK1⟩
    have HO1 := hid hO1
    have HK1 := hid ((Keep.refl w).trans hK1)
    clear hO1 hK1
    try dsimp only
    go_wp2_with fail
    go_ret
    rw [HR.out]
    exact ⟨rfl, HO1.out, HK1.out⟩
end Go.Proofs.YtonhcefgakmpfaaGreatDoor
/- WHAT IS OWNED BEHIND THE SHELF's CONTRACTS that turn a row: the world with the row's cells anew, and blocks behind it. No program in sight. -/
namespace Go.Own
open Go.RowKit
section
variable {w w' : World} {l : List HP} {v : Value} {e : TypeId} {size n : Nat} {xs : List Value}
theorem Has.grow (h : Has w l) (os : Array Obj) : Has (Sort.grow w os) l := h.frame fun k hk => by
  show (w.heap ++ os)[k]? = _
  rw [Array.getElem?_append_left hk]
theorem Has.ahead (h : Has w l) (m : Nat) : Has (Sort.ahead w m) l := h
theorem Has.putRow {α : Type} [Inhabited α] (enc : α → Value) {g cap m : Nat} {d : Array α} (h : Has w (row (.slice (some ⟨g, 0, none⟩) m cap) e 1 n xs :: l)) (hd : d.size = n) :
    Has (Sort.putRow enc w g 0 d) (row (.slice (some ⟨g, 0, none⟩) m cap) e 1 n (d.toList.map enc) :: l) := by
  obtain ⟨hl, h | ⟨g', cap', cur, e1, h1, h2, h3, h4, h5⟩⟩ := h.row_cases
  · exact absurd h.1 (by simp)
  · simp only [Value.slice.injEq, Option.some.injEq, Addr.mk.injEq] at e1
    obtain ⟨⟨rfl, -, -⟩, rfl, rfl⟩ := e1
    subst hd
    have hp : Has (Sort.putRow enc w g 0 d) (pt g (.cells (Sort.putCells enc 0 d cur) e) :: l) := by
      refine h5.turn (fun k _ hk => ?_) ?_
      · simp [Sort.putRow, Sort.mapBlock, Array.getElem?_modify, Ne.symm hk]
      · simp [Sort.putRow, Sort.mapBlock, Array.getElem?_modify, h5.lookup, Sort.onCells]
    refine hp.row_of h1 h2 (by simpa [Sort.putCells] using h3) ?_ (by simp)
    apply List.ext_getElem?
    intro k
    rw [Nat.mul_one] at h3
    by_cases hk : k < d.size
    · have hkc : k < cur.size := by omega
      rw [Nat.mul_one, List.getElem?_take, if_pos hk, Array.getElem?_toList, Sort.putCells, Array.getElem?_mapIdx, Array.getElem?_eq_getElem hkc, Option.map_some, if_pos ⟨Nat.zero_le _, by omega⟩, List.getElem?_map, Array.getElem?_toList, Nat.sub_zero,
        Array.getElem?_eq_getElem hk, Option.map_some, getElem!_pos d k hk]
    · rw [List.getElem?_eq_none (by simp; omega), List.getElem?_eq_none (by simp; omega)]
end
end Go.Own
/- slices.Reverse of strings, over owned rows. -/
namespace Go.Proofs.YtonhcefgakmpfaaGreatDoor
open Go.RowKit Go.Own
theorem strs_holds {w : World} {L : List HP} {g cap m : Nat} {l : List Str} (hO : Has w (Strs (.slice (some ⟨g, 0, none⟩) m cap) l :: L)) : Sort.Holds encStr w g 0 l.toArray := by
  obtain ⟨-, hc, hf, -, -⟩ := hO.row_cells
  intro j hj
  have hj' : j < l.length := by simpa using hj
  refine ⟨?_, by rw [Nat.zero_add]; exact hf j⟩
  rw [Nat.zero_add, hc j (by omega), List.getElem?_map, List.getElem?_eq_getElem hj', Option.map_some, getElem!_pos _ j hj, List.getElem_toArray]
theorem reverseS (v : Value) (l : List Str) (w : World) (L : List HP) (hl : l.length ≤ 1000000) (hO : Has w (Strs v l :: L)) :
    Calls Tryz.prog 192 #[v] w fun e w' => e = .returned (.tuple #[]) ∧ Has w' (Strs v l.reverse :: L) ∧ Keep w w' := by
  obtain ⟨h1, ⟨rfl, h2, h3, -⟩ | ⟨g, cap, cur, rfl, h2, h3, -, -, h4⟩⟩ := Has.row_cases hO
  · have hn : l = [] := List.eq_nil_of_length_eq_zero h2
    subst hn
    refine (Tryz.slices_Reverse_string_empty none 0 w).mono ?_
    rintro e w' ⟨rfl, rfl⟩
    exact ⟨rfl, by simpa using hO, Keep.refl _⟩
  · refine (Tryz.slices_Reverse_string g 0 cap l w (strs_holds hO) (by omega)).mono ?_
    rintro e w' ⟨rfl, m, rfl⟩
    have h5 := (Has.ahead hO m).putRow (d := l.reverse.toArray) encStr (by simp)
    refine ⟨rfl, ?_, rfl, rfl, rfl, by simp [Sort.putRow, Sort.mapBlock, Sort.ahead]⟩
    unfold Strs
    rw [List.length_reverse]
    exact h5
end Go.Proofs.YtonhcefgakmpfaaGreatDoor
