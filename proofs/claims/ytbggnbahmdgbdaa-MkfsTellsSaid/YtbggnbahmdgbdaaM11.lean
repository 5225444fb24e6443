/- TEXTS of mine, merged. -/
import Derived.Test.YtbggnbahmdgbdaaM8
import Derived.Test.YtbggnbahmdgbdaaM9
import Derived.Test.YtbggnbahmdgbdaaM10
import Derived.Test.YtbggnbahmdgbdaaM3
/- THE WALK of the document's image. -/
namespace Go.Proofs.Ytbggnbahmdgbdaa
open Go.RowKit Go.Own Go.Sl Go.Gm
theorem whole_store (C D : Array Value) (h : C.size ≤ D.size) : (D.toList ++ C.toList.drop D.size).toArray = D := by
  rw [List.drop_of_length_le (by simpa using h), List.append_nil]
theorem lit0 {w : World} {L : List HP} {q : Nat} (h : Has w (pt q (.cells #[.int .i64 0] 3) :: L)) : Rd w (.slice (some ⟨q, 0, none⟩) 1 1) 1 1 [.int .i64 0] :=
  (h.row_of (n := 1) (cap := 1) (size := 1) (xs := [.int .i64 0]) (by omega) (le_maxLen (by omega)) rfl rfl rfl).rd
set_option maxRecDepth 100000 in
set_option maxHeartbeats 8000000 in
theorem rImage (g : Geo) (w : World) (L : List HP) (hm : may g = true) (hO : Has w L) :
    Calls Try.prog 15 #[geoV g] w fun e w' => ∃ v', e = .returned v' ∧ Has w' (Wrt v' (imgL g) :: L) ∧ Keep w w' := by
  have HO := hid (hO.alloc (.cells (gcell g) 24))
  have HK := hid ((Keep.refl w).alloc (.cells (gcell g) 24))
  have HM := hid hm
  obtain ⟨n, m, b, H⟩ := gn_of hm
  have eg1 : g.n = (n : Int) := by rw [H.hg]
  have eg2 : g.i = 4 * (m : Int) := by rw [H.hg]
  have eg3 : g.b = (b : Int) := by rw [H.hg]
  have HG := hid H
  have HE := hid (And.intro eg1 (And.intro eg2 eg3))
  have HLEN := hid (show (imgL g).length = 2 + n * (1 + m + b) by rw [imgL_len, H.sectors])
  have HMY : Hid (∀ w' L, Has w' L → Calls Try.prog 39 #[geoV g] w' fun e w'' => e = .returned (.bool true) ∧ Has w'' L ∧ Keep w' w'') := hid fun w' L h => by
    have := r5May g w' L h
    rwa [hm] at this
  have HL6 := hid (fun w' L (h : Has w' L) => rLay6 g w' L hm h)
  have HL10 := hid (fun w' L (h : Has w' L) => rLay10 w' L h)
  unfold rec0 at HL10
  have hc := (hO.alloc (.cells (gcell g) 24)).cells
  clear hO hm H eg1 eg2 eg3
  unfold geoV at *
  go_enter Try.func15, Try.ntmps15
  go_wp2_with fail
  refine (HMY.out _ _ HO.out).mono ?_
  rintro e w2 ⟨rfl, hO2, hK2⟩
  have HO2 := hid hO2
  have HK2 := hid ((HK.out).trans hK2)
  clear hO2 hK2
  try dsimp only
  clear hc HO HK HMY
  have hc := HO2.out.cells
  generalize w.heap.size = b0 at *
  go_wp2_with fail
  refine (HL6.out _ _ HO2.out).mono ?_
  rintro e w3 ⟨v3, rfl, hO3, hK3⟩
  have HO3 := hid hO3
  have HK3 := hid ((HK2.out).trans hK3)
  clear hO3 hK3
  try dsimp only
  clear hc HO2 HK2 HL6
  go_wp2_with fail
  refine (HL10.out _ _ HO3.out).mono ?_
  rintro e w4 ⟨v4, rfl, hO4, hK4⟩
  have HO4 := hid hO4
  have HK4 := hid ((HK3.out).trans hK4)
  clear hO4 hK4
  try dsimp only
  clear HO3 HK3 HL10
  obtain ⟨p3, c3, rfl, -⟩ := (Bytes.rd HO4.out.p1).form
  obtain ⟨p4, c4, rfl, -⟩ := (Bytes.rd HO4.out).form
  generalize hv3 : Value.slice p3 (superL g).length c3 = v3 at *
  generalize hv4 : Value.slice p4 (sealL 82 (zs 59)).length c4 = v4 at *
  have HO5 := hid (show Has (w4.alloc (.cells #[v3, v4] 35)) (Wrt (.slice (some ⟨w4.heap.size, 0, none⟩) 2 2) ((imgL g).take (2 + 0 * (1 + m + b))) :: pt b0 (.cells (gcell g) 24) :: L) from by
    have h := Wrt.two (HO4.out.alloc (.cells #[v3, v4] 35))
    have e : (imgL g).take (2 + 0 * (1 + m + b)) = [superL g, sealL 82 (zs 59)] := by
      rw [show 2 + 0 * (1 + m + b) = 0 + 1 + 1 by omega, ← take_snoc (img_1 HM.out), ← take_snoc (img_0 HM.out)]; rfl
    rwa [e])
  have HK5 := hid (HK4.out.alloc (.cells #[v3, v4] 35))
  clear HO4 HK4
  subst hv3 hv4
  go_wp2_with fail
  generalize w4.alloc (.cells #[Value.slice p3 (superL g).length c3, Value.slice p4 (sealL 82 (zs 59)).length c4] 35) = w5 at *
  generalize w4.heap.size = q5 at *
  go_loopw [7, 8] (fun s i w' => ∃ k : Nat, k ≤ n ∧ i = .int .i64 k ∧ Hid (Has w' (Wrt s ((imgL g).take (2 + k * (1 + m + b))) :: pt b0 (.cells (gcell g) 24) :: L)) ∧ Hid (Keep w w')) (fun _ i _ => n - (intOf i).toNat)
  case atStart => exact ⟨0, by omega, rfl, HO5, HK5⟩
  case round =>
    clear HO5 HK5
    obtain ⟨k, hk, rfl, HO, HK⟩ := hrel
    have hc := HO.out.p1.cells
    by_cases hlt : k < n
    · have hki : (k : Int) < g.n := by have := HE.out.1; omega
      have hk0 : (0 : Int) ≤ (k : Int) := by omega
      have HKL := hid (show k * (1 + m + b) + (1 + m + b) ≤ n * (1 + m + b) by
        have := Nat.mul_le_mul_right (1 + m + b) (show k + 1 ≤ n by omega)
        rwa [Nat.add_mul, Nat.one_mul] at this)
      have HLT := hid hlt
      clear hlt hk
      by_cases hkz : k = 0
      · have hkz1 : ((k : Int) == 0) = true := by simp [hkz]
        have HKZ := hid hkz
        clear hkz
        have HB := hid (HO.out.alloc (.cells (ics 0 0) 66))
        have e1 : (wr.alloc (.cells (ics 0 0) 66)).heap.size = wr.heap.size + 1 := Array.size_push _
        have HB2 := hid ((HB.out.alloc (.cells #[.int .i64 0] 3)).p1)
        have HKB := hid ((HK.out.alloc (.cells (ics 0 0) 66)).alloc (.cells #[.int .i64 0] 3))
        rw [e1] at HB2
        go_wp2_with (first | (with_reducible refine wpList_allocAs rfl 66 rfl (ics 0 0) zero44 ?_) | (with_reducible refine wpList_storeAt rfl 65 _ _ rfl wr.heap.size 0 (ics 0 0) (icell 2 1) 66 HB2.out rfl rfl (fun _ => rfl) (by decide) (by simp [ics, icell]) ?_))
        intro w6 h6 k6
        have HO6 := hid (show Has w6 (pt b0 (.cells (gcell g) 24) :: pt wr.heap.size (.cells (ics 2 1) 66) :: Wrt u7 ((imgL g).take (2 + k * (1 + m + b))) :: pt (wr.heap.size + 1) (.cells #[.int .i64 0] 3) :: L) from h6.re 4 [3, 0, 2, 1])
        have HK6 := hid (HKB.out.trans k6)
        clear h6 k6 HB HB2 HKB HO HK hc e1
        generalize wr.heap.size = q at *
        go_wp2_with fail
        refine region_text (fun w' => w'.cell? ⟨b0, 0, none⟩ = some (.int .i64 g.n) ∧ w'.cell? ⟨b0, 1, none⟩ = some (.int .i64 g.i) ∧ w'.cell? ⟨b0, 2, none⟩ = some (.int .i64 g.b)) (by kernel_rfl) (by kernel_rfl) ⟨HO6.out.drew.cells 0, HO6.out.drew.cells 1, HO6.out.drew.cells 2⟩ ?_
        have HO7 := hid HO6.out.drew
        have HK7 := hid HK6.out.drew
        generalize w6.drew = w7 at *
        clear HO6 HK6
        repeat (first
          | (refine wpL_read (by rfl) (by rfl) ?_ ?_ ?_; rotate_left; (rintro w ⟨z0, z1, z2⟩; go_simp; with_reducible rfl); simp only [Act.put, List.setIfInBounds_toArray, List.set_cons_zero, List.set_cons_succ]) | (refine wpL_skip (by rfl) ?_; simp only [Act.put, List.setIfInBounds_toArray, List.set_cons_zero, List.set_cons_succ]))
        refine wpL_act (by rfl) (by rfl) (fun K hK => ?_)
        go_simp
        refine (r3Of1 g.i _ _ _ (by have := may_iff.1 HM.out; omega) (fun w' h => lit0 h.p3) HO7.out).mono ?_
        rintro e w12 ⟨v12, rfl, hO12, hK12⟩
        have HO12 := hid hO12
        have HK12 := hid ((HK7.out).trans hK12)
        clear hO12 hK12
        try dsimp only
        refine hK.out _ _ (⟨HO12.out.p1.cells 0, HO12.out.p1.cells 1, HO12.out.p1.cells 2⟩) ?_
        clear hK K
        try simp only [Act.put, List.setIfInBounds_toArray, List.set_cons_zero, List.set_cons_succ]
        have HO12 := hid (show Has w12 (Bytes v12 (nodesL g k) :: pt b0 (.cells (gcell g) 24) :: pt q (.cells (ics (rootK (k * m + 0)) (rootL (k * m + 0))) 66) :: Wrt u7 ((imgL g).take (2 + k * (1 + m + b))) :: L) from by
          have h := HO12.out.re 5 [0, 1, 2, 3]
          unfold nodesL
          rw [if_pos HKZ.out, show k * m + 0 = 0 by rw [HKZ.out]; omega]
          exact h)
        obtain ⟨p12, c12, rfl, -⟩ := (Bytes.rd HO12.out).form
        repeat (first
          | (refine wpL_read (by rfl) (by rfl) ?_ ?_ ?_; rotate_left; (rintro w ⟨z0, z1, z2⟩; go_simp; with_reducible rfl); simp only [Act.put, List.setIfInBounds_toArray, List.set_cons_zero, List.set_cons_succ]) | (refine wpL_skip (by rfl) ?_; simp only [Act.put, List.setIfInBounds_toArray, List.set_cons_zero, List.set_cons_succ]))
        refine wpL_act (by rfl) (by rfl) (fun K hK => ?_)
        go_simp
        refine (r3Of0 g.b _ _ (by have := may_iff.1 HM.out; omega) HO12.out).mono ?_
        rintro e w13 ⟨v13, rfl, hO13, hK13⟩
        have HO13 := hid hO13
        have HK13 := hid ((HK12.out).trans hK13)
        clear hO13 hK13
        try dsimp only
        refine hK.out _ _ (⟨HO13.out.p2.cells 0, HO13.out.p2.cells 1, HO13.out.p2.cells 2⟩) ?_
        clear hK K
        try simp only [Act.put, List.setIfInBounds_toArray, List.set_cons_zero, List.set_cons_succ]
        obtain ⟨p13, c13, rfl, -⟩ := (Bytes.rd HO13.out).form
        repeat (first
          | (refine wpL_read (by rfl) (by rfl) ?_ ?_ ?_; rotate_left; (rintro w ⟨z0, z1, z2⟩; go_simp; with_reducible rfl); simp only [Act.put, List.setIfInBounds_toArray, List.set_cons_zero, List.set_cons_succ]) | (refine wpL_skip (by rfl) ?_; simp only [Act.put, List.setIfInBounds_toArray, List.set_cons_zero, List.set_cons_succ]))
        refine wpL_act (by rfl) (by rfl) (fun K hK => ?_)
        go_simp
        refine (r11Lay (nodesL g k) (zs ((g.b + 7) / 8).toNat) _ _ _ _ (nodes_len HM.out k) (blks_len HM.out) (fun w' h => Bytes.rd h.p1) (fun w' h => Bytes.rd h) HO13.out).mono ?_
        rintro e w14 ⟨v14, rfl, hO14, hK14⟩
        have HO14 := hid hO14
        have HK14 := hid ((HK13.out).trans hK14)
        clear hO14 hK14
        try dsimp only
        refine hK.out _ _ (⟨HO14.out.p3.cells 0, HO14.out.p3.cells 1, HO14.out.p3.cells 2⟩) ?_
        clear hK K
        try simp only [Act.put, List.setIfInBounds_toArray, List.set_cons_zero, List.set_cons_succ]
        obtain ⟨pz, cz, rfl, -⟩ := (Bytes.rd HO14.out).form
        repeat (first
          | (refine wpL_read (by rfl) (by rfl) ?_ ?_ ?_; rotate_left; (rintro w ⟨z0, z1, z2⟩; go_simp; with_reducible rfl); simp only [Act.put, List.setIfInBounds_toArray, List.set_cons_zero, List.set_cons_succ]) | (refine wpL_skip (by rfl) ?_; simp only [Act.put, List.setIfInBounds_toArray, List.set_cons_zero, List.set_cons_succ]))
        refine wpL_nil ?_
        generalize hvz : Value.slice pz (sealL 71 (groupB (nodesL g k) (zs ((g.b + 7) / 8).toNat))).length cz = vz at *
        have HO15 := hid (show Has (w14.alloc (.cells #[vz] 35)) (pt w14.heap.size (.cells #[vz] 35) :: Bytes vz (grpL g k) :: Wrt u7 ((imgL g).take (2 + k * (1 + m + b))) :: pt b0 (.cells (gcell g) 24) :: pt q (.cells (ics (rootK (k * m + 0)) (rootL (k * m + 0))) 66) :: L) from (HO14.out.alloc (.cells #[vz] 35)).re 7 [0, 1, 6, 4, 5])
        have HK15 := hid (HK14.out.alloc (.cells #[vz] 35))
        have HTL := hid (show ∀ j, ((imgL g).take j).length ≤ 1000000 from fun j => by
          rw [List.length_take, HLEN.out]
          have := HG.out.hn; have := HG.out.hm; have := HG.out.hb
          have : n * (1 + m + b) ≤ 8 * (1 + m + b) := Nat.mul_le_mul_right _ (by omega)
          omega)
        clear HO12 HK12 HO13 HK13 HO14 HK14 HO7 HK7
        subst hvz
        go_wp2_with (at_builtin; refine wpList_appendT rfl _ _ rfl HO15.out rfl rfl (HTL.out _) ?_)
        intro v16 w16 h16 k16
        have HO16 := hid (show Has w16 (Wrt v16 ((imgL g).take (2 + (k * (1 + m + b) + (1 + 0)))) :: pt b0 (.cells (gcell g) 24) :: pt q (.cells (ics (rootK (k * m + 0)) (rootL (k * m + 0))) 66) :: L) from by
          have := img_r HG.out HLT.out (r := 0) (by omega)
          rw [secR, if_pos rfl] at this
          rw [show 2 + k * (1 + m + b) = 2 + (k * (1 + m + b) + 0) by omega, take_snoc this] at h16
          exact h16)
        have HK16 := hid (HK15.out.trans k16)
        clear h16 k16 HO15 HK15
        go_wp2_with fail
        have hm4 : g.i.tdiv 4 = (m : Int) := by rw [HE.out.2.1, Int.tdiv_eq_ediv_of_nonneg (by omega)]; omega
        have HMB := hid HG.out.hm
        have hmb : (m : Int) ≤ 8 := by have := HMB.out; omega
        go_loopw [7, 13] (fun s i w' => ∃ r : Nat, r ≤ m ∧ i = .int .i64 r ∧ Hid (Has w' (Wrt s ((imgL g).take (2 + (k * (1 + m + b) + (1 + r)))) :: pt b0 (.cells (gcell g) 24) :: pt q (.cells (ics (rootK (k * m + r)) (rootL (k * m + r))) 66) :: L)) ∧ Hid (Keep w w')) (fun _ i _ => m - (intOf i).toNat)
        case atStart => exact ⟨0, by omega, rfl, HO16, HK16⟩
        case round =>
          clear HO16 HK16
          obtain ⟨r, hr, rfl, HO, HK⟩ := hrel
          have hc := HO.out.p1.cells
          by_cases hlr : r < m
          · have hri : (r : Int) < (m : Int) := by omega
            have hr0 : (0 : Int) ≤ (r : Int) := by omega
            have HLR := hid hlr
            clear hlr hr
            have HOK := hid (show InoOK (rootK (k * m + r)) (rootL (k * m + r)) from by
              unfold rootK rootL InoOK
              split
              · right; exact ⟨rfl, rfl⟩
              · left; exact ⟨rfl, rfl⟩)
            have HLY := hid (fun w' L (h : Has w' L) => r7Lay _ _ HOK.out w' L h)
            have HSZ := hid (ics_size (rootK (k * m + r)) (rootL (k * m + r)))
            have HINO := hid (show sealL 73 (inoB (rootK (k * m + r)) (rootL (k * m + r)) ++ zs 69) = inoS (k * m + r) from rfl)
            generalize ics (rootK (k * m + r)) (rootL (k * m + r)) = C at *
            rw [HINO.out] at HLY
            go_wp2_with (with_reducible refine wpList_loadAll rfl 66 _ rfl (.pointer (some ⟨q, 0, none⟩)) (.agg C) rfl (load44 C HSZ.out q wr HO.out.p2.cells) ?_)
            refine (HLY.out wr _ HO.out).mono ?_
            rintro e w17 ⟨v17, rfl, h17, k17⟩
            have HO17 := hid h17
            have HK17 := hid (HK.out.trans k17)
            clear h17 k17 hc HO HK
            try dsimp only
            obtain ⟨pv, cv, rfl, -⟩ := (Bytes.rd HO17.out).form
            have HP := hid (HO17.out.re 4 [3, 0, 1, 2])
            go_wp2_with (first | (with_reducible refine wpList_buildZ rfl 66 4 65 11 rfl (ics 0 0) Try.underlying66 (fun _ => rfl) zero44 ?_) | (refine wpList_storeAt rfl 66 _ _ rfl q 0 C (ics 0 0) 66 HP.out rfl rfl (fun _ => rfl) (by decide) (by rw [HSZ.out, ics_size]; omega) ?_))
            intro w18 h18 k18
            have h18 : Has w18 (pt q (.cells (ics 0 0) 66) :: Bytes (.slice pv (inoS (k * m + r)).length cv) (inoS (k * m + r)) :: Wrt u7 ((imgL g).take (2 + (k * (1 + m + b) + (1 + r)))) :: pt b0 (.cells (gcell g) 24) :: L) := by
              rw [whole_store C (ics 0 0) (by rw [HSZ.out, ics_size]; omega)] at h18
              exact h18
            have HO19 := hid (show Has (w18.alloc (.cells #[.slice pv (inoS (k * m + r)).length cv] 35)) (pt w18.heap.size (.cells #[.slice pv (inoS (k * m + r)).length cv] 35) :: Bytes (.slice pv (inoS (k * m + r)).length cv) (inoS (k * m + r)) :: Wrt u7 ((imgL g).take (2 + (k * (1 + m + b) + (1 + r)))) :: pt b0 (.cells (gcell g) 24) :: pt q (.cells (ics 0 0) 66) :: L) from (Has.alloc h18 (.cells #[.slice pv (inoS (k * m + r)).length cv] 35)).re 5 [0, 2, 3, 4, 1])
            have HK19 := hid ((HK17.out.trans k18).alloc (.cells #[.slice pv (inoS (k * m + r)).length cv] 35))
            clear h18 k18 HP HO17 HK17
            go_wp2_with (at_builtin; refine wpList_appendT rfl _ _ rfl HO19.out rfl rfl (HTL.out _) ?_)
            intro v20 w20 h20 k20
            have HO20 := hid (show Has w20 (Wrt v20 ((imgL g).take (2 + (k * (1 + m + b) + (1 + (r + 1))))) :: pt b0 (.cells (gcell g) 24) :: pt q (.cells (ics (rootK (k * m + (r + 1))) (rootL (k * m + (r + 1)))) 66) :: L) from by
              have := img_r HG.out HLT.out (r := 1 + r) (by have := HLR.out; omega)
              rw [secR, if_neg (by omega), if_pos (by have := HLR.out; omega), show k * m + (1 + r - 1) = k * m + r by omega] at this
              rw [take_snoc this] at h20
              rw [show rootK (k * m + (r + 1)) = 0 from if_neg (by omega), show rootL (k * m + (r + 1)) = 0 from if_neg (by omega)]
              exact h20)
            have HK20 := hid (HK19.out.trans k20)
            clear h20 k20 HO19 HK19
            go_wp2_with fail
            exact ⟨⟨r + 1, by have := HLR.out; omega, rfl, HO20, HK20⟩, by have := HLR.out; simp [intOf]; omega⟩
          · obtain rfl : r = m := by omega
            have hri : ¬ (r : Int) < (r : Int) := by omega
            clear hlr hr
            have hgb : g.b = (b : Int) := HE.out.2.2
            have hbb : (b : Int) ≤ 96 := by have := HG.out.hb; omega
            have HO21 := hid (show Has wr (Wrt u7 ((imgL g).take (2 + (k * (1 + r + b) + (1 + r + 0)))) :: pt b0 (.cells (gcell g) 24) :: pt q (.cells (ics (rootK (k * r + r)) (rootL (k * r + r))) 66) :: L) from HO.out)
            have HK21 := HK
            clear HO HK
            generalize ics (rootK (k * r + r)) (rootL (k * r + r)) = C at *
            go_wp2_with fail
            clear hc
            go_loopw [7, 16] (fun s i w' => ∃ t : Nat, t ≤ b ∧ i = .int .i64 t ∧ Hid (Has w' (Wrt s ((imgL g).take (2 + (k * (1 + r + b) + (1 + r + t)))) :: pt b0 (.cells (gcell g) 24) :: pt q (.cells C 66) :: L)) ∧ Hid (Keep w w')) (fun _ i _ => b - (intOf i).toNat)
            case atStart => exact ⟨0, by omega, rfl, HO21, HK21⟩
            case round =>
              clear HO21 HK21
              obtain ⟨t, ht, rfl, HO, HK⟩ := hrel
              have hc := HO.out.p1.cells
              by_cases hlt : t < b
              · have hti : (t : Int) < (b : Int) := by omega
                have ht0 : (0 : Int) ≤ (t : Int) := by omega
                have HLB := hid hlt
                clear hlt ht
                obtain ⟨w22, hmk, h22, k22⟩ := made_128 HO.out
                have HO23 := hid ((Has.alloc h22 (.cells #[.slice (some ⟨wr.heap.size, 0, none⟩) 128 128] 35)))
                have HK23 := hid ((HK.out.trans k22).alloc (.cells #[.slice (some ⟨wr.heap.size, 0, none⟩) 128 128] 35))
                clear h22 k22 HO HK
                go_wp2_with (at_builtin; refine wpList_appendT rfl _ _ rfl HO23.out rfl rfl (HTL.out _) ?_)
                intro v24 w24 h24 k24
                clear hmk hc
                have HO24 := hid (show Has w24 (Wrt v24 ((imgL g).take (2 + (k * (1 + r + b) + (1 + r + (t + 1))))) :: pt b0 (.cells (gcell g) 24) :: pt q (.cells C 66) :: L) from by
                  have := img_r HG.out HLT.out (r := 1 + r + t) (by have := HLB.out; omega)
                  rw [secR, if_neg (by omega), if_neg (by omega)] at this
                  rw [take_snoc this] at h24
                  exact h24)
                have HK24 := hid (HK23.out.trans k24)
                clear h24 k24 HO23 HK23
                go_wp2_with fail
                exact ⟨⟨t + 1, by have := HLB.out; omega, rfl, HO24, HK24⟩, by have := HLB.out; simp [intOf]; omega⟩
              · obtain rfl : t = b := by omega
                have hti : ¬ (t : Int) < (t : Int) := by omega
                clear hlt ht
                have HO25 := hid (show Has wr (Wrt u7 ((imgL g).take (2 + (k + 1) * (1 + r + t))) :: pt b0 (.cells (gcell g) 24) :: L) from by
                  rw [show 2 + (k + 1) * (1 + r + t) = 2 + (k * (1 + r + t) + (1 + r + t)) by rw [Nat.add_mul, Nat.one_mul]]
                  exact HO.out.re 3 [0, 1])
                have HK25 := HK
                clear HO HK
                go_wp2_with fail
                rw [show wrap64 ((k : Int) + 1) = ((k + 1 : Nat) : Int) from by rw [wrap_in _ (by have := HLT.out; have := HG.out.hn; omega)]; omega]
                exact ⟨⟨k + 1, by have := HLT.out; omega, rfl, HO25⟩, by have := HLT.out; simp [intOf]; omega⟩
      · have hkz1 : ((k : Int) == 0) = false := by simp [hkz]
        have HKZ := hid hkz
        clear hkz
        have HB := hid (HO.out.alloc (.cells (ics 0 0) 66))
        have HKB := hid (HK.out.alloc (.cells (ics 0 0) 66))
        go_wp2_with (with_reducible refine wpList_allocAs rfl 66 rfl (ics 0 0) zero44 ?_)
        have HO6 := hid (show Has (wr.alloc (.cells (ics 0 0) 66)) (pt b0 (.cells (gcell g) 24) :: pt wr.heap.size (.cells (ics 0 0) 66) :: Wrt u7 ((imgL g).take (2 + k * (1 + m + b))) :: L) from HB.out.re 3 [2, 0, 1])
        clear HB HO HK hc
        generalize wr.alloc (.cells (ics 0 0) 66) = w6 at *
        generalize wr.heap.size = q at *
        have HK6 := HKB
        clear HKB
        refine region_text (fun w' => w'.cell? ⟨b0, 0, none⟩ = some (.int .i64 g.n) ∧ w'.cell? ⟨b0, 1, none⟩ = some (.int .i64 g.i) ∧ w'.cell? ⟨b0, 2, none⟩ = some (.int .i64 g.b)) (by kernel_rfl) (by kernel_rfl) ⟨HO6.out.drew.cells 0, HO6.out.drew.cells 1, HO6.out.drew.cells 2⟩ ?_
        have HO7 := hid HO6.out.drew
        have HK7 := hid HK6.out.drew
        generalize w6.drew = w7 at *
        clear HO6 HK6
        repeat (first
          | (refine wpL_read (by rfl) (by rfl) ?_ ?_ ?_; rotate_left; (rintro w ⟨z0, z1, z2⟩; go_simp; with_reducible rfl); simp only [Act.put, List.setIfInBounds_toArray, List.set_cons_zero, List.set_cons_succ]) | (refine wpL_skip (by rfl) ?_; simp only [Act.put, List.setIfInBounds_toArray, List.set_cons_zero, List.set_cons_succ]))
        refine wpL_act (by rfl) (by rfl) (fun K hK => ?_)
        go_simp
        refine (r3Of0 g.i _ _ (by have := may_iff.1 HM.out; omega) HO7.out).mono ?_
        rintro e w12 ⟨v12, rfl, hO12, hK12⟩
        have HO12 := hid hO12
        have HK12 := hid ((HK7.out).trans hK12)
        clear hO12 hK12
        try dsimp only
        refine hK.out _ _ (⟨HO12.out.p1.cells 0, HO12.out.p1.cells 1, HO12.out.p1.cells 2⟩) ?_
        clear hK K
        try simp only [Act.put, List.setIfInBounds_toArray, List.set_cons_zero, List.set_cons_succ]
        have HO12 := hid (show Has w12 (Bytes v12 (nodesL g k) :: pt b0 (.cells (gcell g) 24) :: pt q (.cells (ics (rootK (k * m + 0)) (rootL (k * m + 0))) 66) :: Wrt u7 ((imgL g).take (2 + k * (1 + m + b))) :: L) from by
          have h := HO12.out
          have hq : k * m + 0 ≠ 0 := by
            have := Nat.mul_pos (Nat.pos_of_ne_zero HKZ.out) (show 0 < m by have := HG.out.hm; omega)
            omega
          unfold nodesL rootK rootL
          rw [if_neg HKZ.out, if_neg hq, if_neg hq]
          exact h)
        obtain ⟨p12, c12, rfl, -⟩ := (Bytes.rd HO12.out).form
        repeat (first
          | (refine wpL_read (by rfl) (by rfl) ?_ ?_ ?_; rotate_left; (rintro w ⟨z0, z1, z2⟩; go_simp; with_reducible rfl); simp only [Act.put, List.setIfInBounds_toArray, List.set_cons_zero, List.set_cons_succ]) | (refine wpL_skip (by rfl) ?_; simp only [Act.put, List.setIfInBounds_toArray, List.set_cons_zero, List.set_cons_succ]))
        refine wpL_act (by rfl) (by rfl) (fun K hK => ?_)
        go_simp
        refine (r3Of0 g.b _ _ (by have := may_iff.1 HM.out; omega) HO12.out).mono ?_
        rintro e w13 ⟨v13, rfl, hO13, hK13⟩
        have HO13 := hid hO13
        have HK13 := hid ((HK12.out).trans hK13)
        clear hO13 hK13
        try dsimp only
        refine hK.out _ _ (⟨HO13.out.p2.cells 0, HO13.out.p2.cells 1, HO13.out.p2.cells 2⟩) ?_
        clear hK K
        try simp only [Act.put, List.setIfInBounds_toArray, List.set_cons_zero, List.set_cons_succ]
        obtain ⟨p13, c13, rfl, -⟩ := (Bytes.rd HO13.out).form
        repeat (first
          | (refine wpL_read (by rfl) (by rfl) ?_ ?_ ?_; rotate_left; (rintro w ⟨z0, z1, z2⟩; go_simp; with_reducible rfl); simp only [Act.put, List.setIfInBounds_toArray, List.set_cons_zero, List.set_cons_succ]) | (refine wpL_skip (by rfl) ?_; simp only [Act.put, List.setIfInBounds_toArray, List.set_cons_zero, List.set_cons_succ]))
        refine wpL_act (by rfl) (by rfl) (fun K hK => ?_)
        go_simp
        refine (r11Lay (nodesL g k) (zs ((g.b + 7) / 8).toNat) _ _ _ _ (nodes_len HM.out k) (blks_len HM.out) (fun w' h => Bytes.rd h.p1) (fun w' h => Bytes.rd h) HO13.out).mono ?_
        rintro e w14 ⟨v14, rfl, hO14, hK14⟩
        have HO14 := hid hO14
        have HK14 := hid ((HK13.out).trans hK14)
        clear hO14 hK14
        try dsimp only
        refine hK.out _ _ (⟨HO14.out.p3.cells 0, HO14.out.p3.cells 1, HO14.out.p3.cells 2⟩) ?_
        clear hK K
        try simp only [Act.put, List.setIfInBounds_toArray, List.set_cons_zero, List.set_cons_succ]
        obtain ⟨pz, cz, rfl, -⟩ := (Bytes.rd HO14.out).form
        repeat (first
          | (refine wpL_read (by rfl) (by rfl) ?_ ?_ ?_; rotate_left; (rintro w ⟨z0, z1, z2⟩; go_simp; with_reducible rfl); simp only [Act.put, List.setIfInBounds_toArray, List.set_cons_zero, List.set_cons_succ]) | (refine wpL_skip (by rfl) ?_; simp only [Act.put, List.setIfInBounds_toArray, List.set_cons_zero, List.set_cons_succ]))
        refine wpL_nil ?_
        generalize hvz : Value.slice pz (sealL 71 (groupB (nodesL g k) (zs ((g.b + 7) / 8).toNat))).length cz = vz at *
        have HO15 := hid (show Has (w14.alloc (.cells #[vz] 35)) (pt w14.heap.size (.cells #[vz] 35) :: Bytes vz (grpL g k) :: Wrt u7 ((imgL g).take (2 + k * (1 + m + b))) :: pt b0 (.cells (gcell g) 24) :: pt q (.cells (ics (rootK (k * m + 0)) (rootL (k * m + 0))) 66) :: L) from (HO14.out.alloc (.cells #[vz] 35)).re 7 [0, 1, 6, 4, 5])
        have HK15 := hid (HK14.out.alloc (.cells #[vz] 35))
        have HTL := hid (show ∀ j, ((imgL g).take j).length ≤ 1000000 from fun j => by
          rw [List.length_take, HLEN.out]
          have := HG.out.hn; have := HG.out.hm; have := HG.out.hb
          have : n * (1 + m + b) ≤ 8 * (1 + m + b) := Nat.mul_le_mul_right _ (by omega)
          omega)
        clear HO12 HK12 HO13 HK13 HO14 HK14 HO7 HK7
        subst hvz
        go_wp2_with (at_builtin; refine wpList_appendT rfl _ _ rfl HO15.out rfl rfl (HTL.out _) ?_)
        intro v16 w16 h16 k16
        have HO16 := hid (show Has w16 (Wrt v16 ((imgL g).take (2 + (k * (1 + m + b) + (1 + 0)))) :: pt b0 (.cells (gcell g) 24) :: pt q (.cells (ics (rootK (k * m + 0)) (rootL (k * m + 0))) 66) :: L) from by
          have := img_r HG.out HLT.out (r := 0) (by omega)
          rw [secR, if_pos rfl] at this
          rw [show 2 + k * (1 + m + b) = 2 + (k * (1 + m + b) + 0) by omega, take_snoc this] at h16
          exact h16)
        have HK16 := hid (HK15.out.trans k16)
        clear h16 k16 HO15 HK15
        go_wp2_with fail
        have hm4 : g.i.tdiv 4 = (m : Int) := by rw [HE.out.2.1, Int.tdiv_eq_ediv_of_nonneg (by omega)]; omega
        have HMB := hid HG.out.hm
        have hmb : (m : Int) ≤ 8 := by have := HMB.out; omega
        go_loopw [7, 13] (fun s i w' => ∃ r : Nat, r ≤ m ∧ i = .int .i64 r ∧ Hid (Has w' (Wrt s ((imgL g).take (2 + (k * (1 + m + b) + (1 + r)))) :: pt b0 (.cells (gcell g) 24) :: pt q (.cells (ics (rootK (k * m + r)) (rootL (k * m + r))) 66) :: L)) ∧ Hid (Keep w w')) (fun _ i _ => m - (intOf i).toNat)
        case atStart => exact ⟨0, by omega, rfl, HO16, HK16⟩
        case round =>
          clear HO16 HK16
          obtain ⟨r, hr, rfl, HO, HK⟩ := hrel
          have hc := HO.out.p1.cells
          by_cases hlr : r < m
          · have hri : (r : Int) < (m : Int) := by omega
            have hr0 : (0 : Int) ≤ (r : Int) := by omega
            have HLR := hid hlr
            clear hlr hr
            have HOK := hid (show InoOK (rootK (k * m + r)) (rootL (k * m + r)) from by
              unfold rootK rootL InoOK
              split
              · right; exact ⟨rfl, rfl⟩
              · left; exact ⟨rfl, rfl⟩)
            have HLY := hid (fun w' L (h : Has w' L) => r7Lay _ _ HOK.out w' L h)
            have HSZ := hid (ics_size (rootK (k * m + r)) (rootL (k * m + r)))
            have HINO := hid (show sealL 73 (inoB (rootK (k * m + r)) (rootL (k * m + r)) ++ zs 69) = inoS (k * m + r) from rfl)
            generalize ics (rootK (k * m + r)) (rootL (k * m + r)) = C at *
            rw [HINO.out] at HLY
            go_wp2_with (with_reducible refine wpList_loadAll rfl 66 _ rfl (.pointer (some ⟨q, 0, none⟩)) (.agg C) rfl (load44 C HSZ.out q wr HO.out.p2.cells) ?_)
            refine (HLY.out wr _ HO.out).mono ?_
            rintro e w17 ⟨v17, rfl, h17, k17⟩
            have HO17 := hid h17
            have HK17 := hid (HK.out.trans k17)
            clear h17 k17 hc HO HK
            try dsimp only
            obtain ⟨pv, cv, rfl, -⟩ := (Bytes.rd HO17.out).form
            have HP := hid (HO17.out.re 4 [3, 0, 1, 2])
            go_wp2_with (first | (with_reducible refine wpList_buildZ rfl 66 4 65 11 rfl (ics 0 0) Try.underlying66 (fun _ => rfl) zero44 ?_) | (refine wpList_storeAt rfl 66 _ _ rfl q 0 C (ics 0 0) 66 HP.out rfl rfl (fun _ => rfl) (by decide) (by rw [HSZ.out, ics_size]; omega) ?_))
            intro w18 h18 k18
            have h18 : Has w18 (pt q (.cells (ics 0 0) 66) :: Bytes (.slice pv (inoS (k * m + r)).length cv) (inoS (k * m + r)) :: Wrt u7 ((imgL g).take (2 + (k * (1 + m + b) + (1 + r)))) :: pt b0 (.cells (gcell g) 24) :: L) := by
              rw [whole_store C (ics 0 0) (by rw [HSZ.out, ics_size]; omega)] at h18
              exact h18
            have HO19 := hid (show Has (w18.alloc (.cells #[.slice pv (inoS (k * m + r)).length cv] 35)) (pt w18.heap.size (.cells #[.slice pv (inoS (k * m + r)).length cv] 35) :: Bytes (.slice pv (inoS (k * m + r)).length cv) (inoS (k * m + r)) :: Wrt u7 ((imgL g).take (2 + (k * (1 + m + b) + (1 + r)))) :: pt b0 (.cells (gcell g) 24) :: pt q (.cells (ics 0 0) 66) :: L) from (Has.alloc h18 (.cells #[.slice pv (inoS (k * m + r)).length cv] 35)).re 5 [0, 2, 3, 4, 1])
            have HK19 := hid ((HK17.out.trans k18).alloc (.cells #[.slice pv (inoS (k * m + r)).length cv] 35))
            clear h18 k18 HP HO17 HK17
            go_wp2_with (at_builtin; refine wpList_appendT rfl _ _ rfl HO19.out rfl rfl (HTL.out _) ?_)
            intro v20 w20 h20 k20
            have HO20 := hid (show Has w20 (Wrt v20 ((imgL g).take (2 + (k * (1 + m + b) + (1 + (r + 1))))) :: pt b0 (.cells (gcell g) 24) :: pt q (.cells (ics (rootK (k * m + (r + 1))) (rootL (k * m + (r + 1)))) 66) :: L) from by
              have := img_r HG.out HLT.out (r := 1 + r) (by have := HLR.out; omega)
              rw [secR, if_neg (by omega), if_pos (by have := HLR.out; omega), show k * m + (1 + r - 1) = k * m + r by omega] at this
              rw [take_snoc this] at h20
              rw [show rootK (k * m + (r + 1)) = 0 from if_neg (by omega), show rootL (k * m + (r + 1)) = 0 from if_neg (by omega)]
              exact h20)
            have HK20 := hid (HK19.out.trans k20)
            clear h20 k20 HO19 HK19
            go_wp2_with fail
            exact ⟨⟨r + 1, by have := HLR.out; omega, rfl, HO20, HK20⟩, by have := HLR.out; simp [intOf]; omega⟩
          · obtain rfl : r = m := by omega
            have hri : ¬ (r : Int) < (r : Int) := by omega
            clear hlr hr
            have hgb : g.b = (b : Int) := HE.out.2.2
            have hbb : (b : Int) ≤ 96 := by have := HG.out.hb; omega
            have HO21 := hid (show Has wr (Wrt u7 ((imgL g).take (2 + (k * (1 + r + b) + (1 + r + 0)))) :: pt b0 (.cells (gcell g) 24) :: pt q (.cells (ics (rootK (k * r + r)) (rootL (k * r + r))) 66) :: L) from HO.out)
            have HK21 := HK
            clear HO HK
            generalize ics (rootK (k * r + r)) (rootL (k * r + r)) = C at *
            go_wp2_with fail
            clear hc
            go_loopw [7, 16] (fun s i w' => ∃ t : Nat, t ≤ b ∧ i = .int .i64 t ∧ Hid (Has w' (Wrt s ((imgL g).take (2 + (k * (1 + r + b) + (1 + r + t)))) :: pt b0 (.cells (gcell g) 24) :: pt q (.cells C 66) :: L)) ∧ Hid (Keep w w')) (fun _ i _ => b - (intOf i).toNat)
            case atStart => exact ⟨0, by omega, rfl, HO21, HK21⟩
            case round =>
              clear HO21 HK21
              obtain ⟨t, ht, rfl, HO, HK⟩ := hrel
              have hc := HO.out.p1.cells
              by_cases hlt : t < b
              · have hti : (t : Int) < (b : Int) := by omega
                have ht0 : (0 : Int) ≤ (t : Int) := by omega
                have HLB := hid hlt
                clear hlt ht
                obtain ⟨w22, hmk, h22, k22⟩ := made_128 HO.out
                have HO23 := hid ((Has.alloc h22 (.cells #[.slice (some ⟨wr.heap.size, 0, none⟩) 128 128] 35)))
                have HK23 := hid ((HK.out.trans k22).alloc (.cells #[.slice (some ⟨wr.heap.size, 0, none⟩) 128 128] 35))
                clear h22 k22 HO HK
                go_wp2_with (at_builtin; refine wpList_appendT rfl _ _ rfl HO23.out rfl rfl (HTL.out _) ?_)
                intro v24 w24 h24 k24
                clear hmk hc
                have HO24 := hid (show Has w24 (Wrt v24 ((imgL g).take (2 + (k * (1 + r + b) + (1 + r + (t + 1))))) :: pt b0 (.cells (gcell g) 24) :: pt q (.cells C 66) :: L) from by
                  have := img_r HG.out HLT.out (r := 1 + r + t) (by have := HLB.out; omega)
                  rw [secR, if_neg (by omega), if_neg (by omega)] at this
                  rw [take_snoc this] at h24
                  exact h24)
                have HK24 := hid (HK23.out.trans k24)
                clear h24 k24 HO23 HK23
                go_wp2_with fail
                exact ⟨⟨t + 1, by have := HLB.out; omega, rfl, HO24, HK24⟩, by have := HLB.out; simp [intOf]; omega⟩
              · obtain rfl : t = b := by omega
                have hti : ¬ (t : Int) < (t : Int) := by omega
                clear hlt ht
                have HO25 := hid (show Has wr (Wrt u7 ((imgL g).take (2 + (k + 1) * (1 + r + t))) :: pt b0 (.cells (gcell g) 24) :: L) from by
                  rw [show 2 + (k + 1) * (1 + r + t) = 2 + (k * (1 + r + t) + (1 + r + t)) by rw [Nat.add_mul, Nat.one_mul]]
                  exact HO.out.re 3 [0, 1])
                have HK25 := HK
                clear HO HK
                go_wp2_with fail
                rw [show wrap64 ((k : Int) + 1) = ((k + 1 : Nat) : Int) from by rw [wrap_in _ (by have := HLT.out; have := HG.out.hn; omega)]; omega]
                exact ⟨⟨k + 1, by have := HLT.out; omega, rfl, HO25⟩, by have := HLT.out; simp [intOf]; omega⟩
    · obtain rfl : k = n := by omega
      have hki : ¬ (k : Int) < g.n := by have := HE.out.1; omega
      go_wp2_with fail
      go_ret
      refine ⟨_, rfl, ?_, HK.out⟩
      have h := HO.out.p1.drop
      rwa [List.take_of_length_le (by rw [HLEN.out]; exact Nat.le_refl _)] at h
end Go.Proofs.Ytbggnbahmdgbdaa
/- THE PLAIN LAW OF A DISK: sectors, what waits, the power, what is armed. Each text is a slice's value with its bytes. -/
namespace Go.Dk
open Go.Own
abbrev Txt := Value × List Int
structure Disk where
  firm : List Txt
  waits : List (Int × Txt)
  on : Bool
  armed : Option (Int × List Bool)
  writes : List Int
  flushes : Int
/-- A write is laid into the sectors. -/
def lay (F : List Txt) (x : Int × Txt) : List Txt := F.set x.1.toNat x.2
def layAll (F : List Txt) (W : List (Int × Txt)) : List Txt := W.foldl lay F
/-- The writes that are kept, from the i-th on. -/
def kept (keep : List Bool) (i : Nat) : Bool := 0 < keep.length && keep.getD (i % keep.length) false
def layKept (keep : List Bool) (F : List Txt) (W : List (Int × Txt)) : List Txt := W.zipIdx.foldl (fun F x => if kept keep x.2 then lay F x.1 else F) F
def Disk.crash (D : Disk) (keep : List Bool) : Disk := { D with firm := layKept keep D.firm D.waits, waits := [], armed := none, on := false }
/-- Does the power go now? -/
def Disk.falls (D : Disk) : Bool × Disk :=
  match D.armed with
  | none => (false, D)
  | some (n, k) => if 0 < n then (false, { D with armed := some (n - 1, k) }) else (true, D.crash k)
def Disk.there (D : Disk) (at_ : Int) : Bool := decide (0 ≤ at_) && decide (at_ < D.firm.length)
def Disk.asked (D : Disk) (good : Bool) : Int := if D.on then (if good then 0 else 2) else 4
def Disk.write (D : Disk) (at_ : Int) (x : Txt) : Int × Disk :=
  if D.asked (D.there at_ && x.2.length == 128) ≠ 0 then (D.asked (D.there at_ && x.2.length == 128), D)
  else if D.falls.1 then (4, D.falls.2)
  else (0, { D.falls.2 with waits := D.falls.2.waits ++ [(at_, x)], writes := D.falls.2.writes ++ [at_] })
def Disk.flush (D : Disk) : Int × Disk :=
  if D.asked true ≠ 0 then (D.asked true, D)
  else if D.falls.1 then (4, D.falls.2)
  else (0, { D.falls.2 with firm := layAll D.falls.2.firm D.falls.2.waits, waits := [], flushes := D.falls.2.flushes + 1 })
def Disk.arm (D : Disk) (after : Int) (keep : List Bool) : Int × Disk :=
  if D.asked (decide (0 ≤ after)) ≠ 0 then (D.asked (decide (0 ≤ after)), D) else (0, { D with armed := some (after, keep) })
def Disk.boot (D : Disk) : Int × Disk := if D.on then (19, D) else (0, { D with on := true })
/-- What was written last to a sector. -/
def Disk.last (D : Disk) (at_ : Int) : Txt :=
  match D.waits.reverse.find? (fun x => x.1 == at_) with
  | some x => x.2
  | none => D.firm.getD at_.toNat (.slice none 0 0, [])
/-- All texts lie in the pool; each write's sector is there; a sector has 128 bytes. -/
structure Ok (B : List Txt) (D : Disk) : Prop where
  firm : ∀ x ∈ D.firm, x ∈ B
  waits : ∀ x ∈ D.waits, x.2 ∈ B
  at_ : ∀ x ∈ D.waits, 0 ≤ x.1 ∧ x.1 < D.firm.length
  len : ∀ x ∈ D.firm, x.2.length = 128
  wlen : ∀ x ∈ D.waits, x.2.2.length = 128
  left : ∀ n k, D.armed = some (n, k) → n ≤ 9223372036854775807
theorem lay_len (F : List Txt) (x : Int × Txt) : (lay F x).length = F.length := by simp [lay]
theorem layAll_len (F : List Txt) (W : List (Int × Txt)) : (layAll F W).length = F.length := by
  unfold layAll
  induction W generalizing F with
  | nil => rfl
  | cons x W ih => rw [List.foldl_cons, ih, lay_len]
theorem layAll_snoc (F : List Txt) (W : List (Int × Txt)) (x : Int × Txt) : layAll F (W ++ [x]) = lay (layAll F W) x := by simp [layAll]
theorem lay_mem {F : List Txt} {x : Int × Txt} {y : Txt} (h : y ∈ lay F x) : y ∈ F ∨ y = x.2 := List.mem_or_eq_of_mem_set h
theorem layKept_snoc (keep : List Bool) (F : List Txt) (W : List (Int × Txt)) (x : Int × Txt) : layKept keep F (W ++ [x]) = if kept keep W.length then lay (layKept keep F W) x else layKept keep F W := by
  simp [layKept, List.zipIdx_append]
theorem layKept_len (keep : List Bool) (F : List Txt) (W : List (Int × Txt)) : (layKept keep F W).length = F.length := by
  unfold layKept
  generalize W.zipIdx = Z
  induction Z generalizing F with
  | nil => rfl
  | cons x Z ih =>
    rw [List.foldl_cons, ih]
    split
    · rw [lay_len]
    · rfl
theorem layAll_mem {F : List Txt} {W : List (Int × Txt)} {y : Txt} (h : y ∈ layAll F W) : y ∈ F ∨ ∃ x ∈ W, y = x.2 := by
  unfold layAll at h
  induction W generalizing F with
  | nil => exact .inl h
  | cons x W ih =>
    rcases ih h with h | ⟨z, hz, rfl⟩
    · rcases lay_mem h with h | rfl
      · exact .inl h
      · exact .inr ⟨x, by simp, rfl⟩
    · exact .inr ⟨z, by simp [hz], rfl⟩
theorem layKept_mem {keep : List Bool} {F : List Txt} {W : List (Int × Txt)} {y : Txt} (h : y ∈ layKept keep F W) : y ∈ F ∨ ∃ x ∈ W, y = x.2 := by
  unfold layKept at h
  have key : ∀ (Z : List ((Int × Txt) × Nat)) (F : List Txt), y ∈ Z.foldl (fun F x => if kept keep x.2 then lay F x.1 else F) F → y ∈ F ∨ ∃ x ∈ Z, y = x.1.2 := by
    intro Z
    induction Z with
    | nil => intro F h; exact .inl h
    | cons x Z ih =>
      intro F h
      rcases ih _ h with h | ⟨z, hz, rfl⟩
      · dsimp only at h
        split at h
        · rcases lay_mem h with h | rfl
          · exact .inl h
          · exact .inr ⟨x, by simp, rfl⟩
        · exact .inl h
      · exact .inr ⟨z, by simp [hz], rfl⟩
  rcases key _ _ h with h | ⟨z, hz, rfl⟩
  · exact .inl h
  · exact .inr ⟨z.1, by have := List.fst_mem_of_mem_zipIdx hz; exact this, rfl⟩
end Go.Dk
/- HOW A DISK LIES IN MEMORY. -/
namespace Go.Proofs.Ytbggnbahmdgbdaa
open Go.RowKit Go.Own Go.Dk
def wenc (W : List (Int × Txt)) : List Value := W.flatMap fun x => [.int .i64 x.1, x.2.1]
def Bools (v : Value) (ks : List Bool) : HP := row v 4 1 ks.length (ks.map Value.bool)
def Armc (v : Value) : Option (Int × List Bool) → HP
  | none => fact (v = .pointer none)
  | some (n, k) => ex fun g => ex fun kv => star [fact (v = .pointer (some ⟨g, 0, none⟩)), pt g (.cells #[.int .i64 n, kv] 91), Bools kv k]
def Dsk (d : Nat) (D : Disk) : HP := ex fun fv => ex fun wv => ex fun av => ex fun lv => ex fun B =>
  star [fact (Ok B D), pt d (.cells #[fv, wv, .bool D.on, av, lv, .int .i64 D.flushes] 74), row fv 35 1 D.firm.length (D.firm.map (·.1)), row wv 79 2 D.waits.length (wenc D.waits), Armc av D.armed, Ints lv D.writes, poolc 5 B]
theorem dsk_iff {w : World} {L : List HP} {d : Nat} {D : Disk} : Has w (Dsk d D :: L) ↔ ∃ fv wv av lv B, Ok B D ∧
    Has w (pt d (.cells #[fv, wv, .bool D.on, av, lv, .int .i64 D.flushes] 74) :: row fv 35 1 D.firm.length (D.firm.map (·.1)) :: row wv 79 2 D.waits.length (wenc D.waits) :: Armc av D.armed :: Ints lv D.writes :: poolc 5 B :: L) := by
  unfold Dsk
  simp only [Has.ex_iff, Has.star_iff, List.cons_append, List.nil_append, Has.fact_iff]
theorem armc_some {w : World} {L : List HP} {v : Value} {n : Int} {k : List Bool} : Has w (Armc v (some (n, k)) :: L) ↔ ∃ g kv, v = .pointer (some ⟨g, 0, none⟩) ∧ Has w (pt g (.cells #[.int .i64 n, kv] 91) :: Bools kv k :: L) := by
  unfold Armc
  simp only [Has.ex_iff, Has.star_iff, List.cons_append, List.nil_append, Has.fact_iff]
theorem armc_none {w : World} {L : List HP} {v : Value} : Has w (Armc v none :: L) ↔ v = .pointer none ∧ Has w L := by
  unfold Armc
  simp only [Has.fact_iff]
/-! ### Calls of a disk that is none -/
theorem diskSectorsNil (w : World) : Calls Try.prog 50 #[.pointer none] w fun e w' => e = .returned (.int .i64 0) ∧ w = w' := by
  go_enter Try.func50, Try.ntmps50
  go_wp2
  go_ret
  exact ⟨rfl, rfl⟩
theorem diskAskedNil (b : Bool) (w : World) : Calls Try.prog 45 #[.pointer none, .bool b] w fun e w' => e = .returned (.int .i64 1) ∧ w = w' := by
  go_enter Try.func45, Try.ntmps45
  go_wp2
  go_ret
  exact ⟨rfl, rfl⟩
theorem diskSectors (d : Nat) (D : Disk) (w : World) (L : List HP) (hO : Has w (Dsk d D :: L)) :
    Calls Try.prog 50 #[.pointer (some ⟨d, 0, none⟩)] w fun e w' => e = .returned (.int .i64 D.firm.length) ∧ w = w' := by
  obtain ⟨fv, wv, av, lv, B, hok, hO⟩ := dsk_iff.1 hO
  obtain ⟨p, cap, rfl, -⟩ := hO.p1.rd.form
  have hc := hO.cells
  clear hO hok
  go_enter Try.func50, Try.ntmps50
  go_wp2
  go_ret
  exact ⟨rfl, rfl⟩
theorem diskThere (d : Nat) (D : Disk) (at_ : Int) (w : World) (L : List HP) (hO : Has w (Dsk d D :: L)) :
    Calls Try.prog 46 #[.pointer (some ⟨d, 0, none⟩), .int .i64 at_] w fun e w' => e = .returned (.bool (D.there at_)) ∧ w = w' := by
  have H := hid (diskSectors d D w L hO)
  clear hO
  by_cases h0 : 0 ≤ at_
  · go_enter Try.func46, Try.ntmps46
    go_wp2_with fail
    refine H.out.mono ?_
    rintro e w' ⟨rfl, rfl⟩
    go_wp2_with fail
    go_ret
    exact ⟨by simp [Disk.there, h0], rfl⟩
  · go_enter Try.func46, Try.ntmps46
    go_wp2_with fail
    go_ret
    exact ⟨by simp [Disk.there]; omega, rfl⟩
theorem diskAsked (d : Nat) (D : Disk) (b : Bool) (w : World) (L : List HP) (hO : Has w (Dsk d D :: L)) :
    Calls Try.prog 45 #[.pointer (some ⟨d, 0, none⟩), .bool b] w fun e w' => e = .returned (.int .i64 (D.asked b)) ∧ w = w' := by
  obtain ⟨fv, wv, av, lv, B, hok, hO⟩ := dsk_iff.1 hO
  have hc := hO.cells
  clear hO hok
  obtain ⟨F, W, on, ar, wr, fl⟩ := D
  have Ha := hid (fun (b : Bool) => show Disk.asked ⟨F, W, on, ar, wr, fl⟩ b = if on then (if b then 0 else 2) else 4 from rfl)
  simp only at hc
  cases on <;> cases b
  all_goals
    go_enter Try.func45, Try.ntmps45
    go_wp2
    go_ret
    exact ⟨by rw [Ha.out]; rfl, rfl⟩
theorem diskOnNil (w : World) : Calls Try.prog 49 #[.pointer none] w fun e w' => e = .returned (.bool false) ∧ w = w' := by
  go_enter Try.func49, Try.ntmps49
  go_wp2
  go_ret
  exact ⟨rfl, rfl⟩
theorem diskOn (d : Nat) (D : Disk) (w : World) (L : List HP) (hO : Has w (Dsk d D :: L)) :
    Calls Try.prog 49 #[.pointer (some ⟨d, 0, none⟩)] w fun e w' => e = .returned (.bool D.on) ∧ w = w' := by
  obtain ⟨fv, wv, av, lv, B, hok, hO⟩ := dsk_iff.1 hO
  have hc := hO.cells
  clear hO hok
  go_enter Try.func49, Try.ntmps49
  go_wp2
  go_ret
  exact ⟨rfl, rfl⟩
end Go.Proofs.Ytbggnbahmdgbdaa
