/- CachePins: what is pinned is held, however many others come. For every input. -/
import Derived.Test.YtajlikakbihgbaaAges
import Derived.Test.YtajlikakbihgbaaLaw18b
namespace Go.Proofs.Ytajlikakbihgbaa
open Go.RowKit Go.Own Go.Dk Go.Ch
theorem kcGetP (q d : Nat) (most : Int) (p : Int) (W : List Int) (E : Bk) (s : Int) (w : World) (L : List HP) (hm : 1 ≤ most ∧ most ≤ 1000000) (hn : W.Nodup) (hp : p ∈ W) (hl2 : W.length ≤ 10000) (hw : E.waits.length ≤ 1000000000) (hE : E.read s = (0, zer)) (hO : Has w (Cch q (dP d) most (W.map (cp zer p)) :: Dk d E :: L)) :
    Calls Try.prog 15 #[.pointer (some ⟨q, 0, none⟩), .int .i64 s] w fun e w' => ∃ (v' : Value) (Y : List Int), e = .returned (.tuple #[v', .int .i64 0]) ∧ (Y.Nodup ∧ p ∈ Y ∧ (Y.length : Int) ≤ most) ∧ Has w' (Bytes v' zer :: Cch q (dP d) most (Y.map (cp zer p)) :: Dk d E :: L) ∧ Keep w w' := by
  have hz : zer.length ≤ 1000 := by rw [zer, List.length_replicate]; omega
  have hlen : (W.map (cp zer p)).length ≤ 10000 := by simpa using hl2
  rcases hf : find (W.map (cp zer p)) s with _ | i
  · have hns := find_f_none (fun _ => rfl) hf
    obtain ⟨Y, h1, h2, h3, h4⟩ := newK_cp most zer p W s false hn hp (.inr (by simp only [Bool.false_eq, beq_eq_false_iff_ne, ne_eq]; rintro rfl; exact hns hp)) hm.1
    have h := kcGetMiss q d most (W.map (cp zer p)) E s w L ⟨by omega, hm.2⟩ hlen hw hf (by rw [hE]) (by rw [hE]; exact hz) hO
    rw [hE] at h
    dsimp only at h
    rw [h1] at h
    exact h.mono fun e w' ⟨v', e1, e2, e3⟩ => ⟨v', Y, e1, ⟨h2, h3, h4⟩, e2, e3⟩
  · obtain ⟨hi, hs⟩ := find_f (fun _ => rfl) hf
    obtain ⟨Y, h1, h2, h3, h4⟩ := newK_cp most zer p W s (s == p) hn hp (.inr rfl) hm.1
    have hi2 : i < (W.map (cp zer p)).length := by simpa using hi
    have e : (W.map (cp zer p))[i] = ⟨s, zer, false, s == p⟩ := by rw [List.getElem_map, hs]; rfl
    have h := kcGetHit q d most (W.map (cp zer p)) s i w (Dk d E :: L) ⟨by omega, hm.2⟩ hlen (fun x hx => by obtain ⟨a, -, rfl⟩ := List.mem_map.1 hx; exact hz) hf hi2 hO
    rw [e, h1] at h
    exact h.mono fun e w' ⟨v', e1, e2, e3⟩ => ⟨v', Y, e1, ⟨h2, h3, h4⟩, e2, e3⟩
set_option maxRecDepth 100000 in
set_option maxHeartbeats 8000000 in
theorem pinsWalk (which : Int) (v : Value) (xs : List Int) (most : Int) (W : World) (hr : Rd W v 1 xs.length (ic xs)) :
    Calls Try.prog 5 #[.int .i64 which, v, .int .i64 most] W fun e w' => e = .returned (.bool true) ∧ Below W.heap.size W w' := by
  obtain ⟨vp, vc, rfl, hvc, hvl, -⟩ := hr.form
  have HR := hid hr
  have HO0 := hid (Has.start W)
  clear hr
  by_cases hbig : 30 < xs.length
  · go_enter Try.func5, Try.ntmps5
    go_wp2_with fail
    refine (awake18 W _ HO0.out).mono ?_
    rintro e w1 ⟨rfl, hO1, hK1⟩
    have HO1 := hid hO1
    have HK1 := hid ((Keep.refl W).trans hK1)
    clear hO1 hK1
    try dsimp only
    go_wp2_with fail
    go_ret
    exact ⟨rfl, HO1.out.below HK1.out.os HK1.out.tape HK1.out.output⟩
  · obtain ⟨m, hm⟩ : ∃ m : Nat, (m : Int) = low most 4 := ⟨(low most 4).toNat, by have := low_in most 4 (by omega); omega⟩
    have hml : m ≤ 3 := by have := low_in most 4 (by omega); omega
    obtain ⟨p, hp⟩ : ∃ p : Nat, (p : Int) = low which 12 := ⟨(low which 12).toNat, by have := low_in which 12 (by omega); omega⟩
    have hpl : p ≤ 11 := by have := low_in which 12 (by omega); omega
    have HM := hid hm
    have HP := hid hp
    have hm0 : (0 : Int) ≤ (m : Int) := by omega
    have hm8 : (m : Int) ≤ 3 := by omega
    have HE := hid (show ∀ s : Nat, s < 12 → (Bk.zero 12).read (s : Int) = (0, zer) from fun s hs => by
      rw [Bk.read_ok rfl (by omega) (by simp [Bk.zero]; omega)]
      congr 1
      show ((List.replicate 12 zer)[(s : Int).toNat]?).getD [] = zer
      rw [List.getElem?_replicate]
      simp [hs])
    have HPL := hid hpl
    clear hm hp
    go_enter Try.func5, Try.ntmps5
    go_wp2_with fail
    refine (lowAny most 4 W (by omega) (by omega)).mono ?_
    rintro e w' ⟨rfl, rfl⟩
    try dsimp only
    rw [← HM.out]
    go_wp2_with fail
    refine (lowAny which 12 W (by omega) (by omega)).mono ?_
    rintro e w' ⟨rfl, rfl⟩
    try dsimp only
    rw [← HP.out]
    go_wp2_with fail
    refine (kNew 12 W _ (by omega) (by omega) HO0.out).mono ?_
    rintro e w1 ⟨d, rfl, hO1, hK1⟩
    have HO1 := hid hO1
    have HK1 := hid ((Keep.refl W).trans hK1)
    clear hO1 hK1
    try dsimp only
    have hmo : (1 : Int) ≤ 1 + (m : Int) := by omega
    go_wp2_with fail
    refine (kcNew (dP d) ⟨d, 0, none⟩ rfl (1 + (m : Int)) w1 _ hmo HO1.out).mono ?_
    rintro e w2 ⟨q, rfl, hO2, hK2⟩
    have HO2 := hid hO2
    have HK2 := hid ((HK1.out).trans hK2)
    clear hO2 hK2
    try dsimp only
    have HO2' := hid (show Has w2 (Cch q (dP d) (1 + (m : Int)) (([] : List Int).map (cl zer)) :: Dk d (Bk.zero 12) :: [old W]) from HO2.out)
    go_wp2_with fail
    refine (kcGetA q d (1 + (m : Int)) [] (Bk.zero 12) p w2 _ ⟨by omega, by omega⟩ List.nodup_nil (by simp; omega) (by simp) (by decide) (HE.out p (by have := HPL.out; omega)) HO2'.out).mono ?_
    rintro e w3 ⟨v3, rfl, hO3, hK3⟩
    have HO3 := hid hO3
    have HK3 := hid ((HK2.out).trans hK3)
    clear hO3 hK3
    try dsimp only
    have e3 : (stepA (1 + (m : Int)) p []).map (cl zer) = [⟨p, zer, false, false⟩] := by
      unfold stepA gotA
      rw [if_neg (by simp; omega)]
      rfl
    rw [e3] at HO3
    have hfp : find [⟨(p : Int), zer, false, false⟩] (p : Int) = some 0 := by simp [find]
    go_wp2_with fail
    refine (kcPin q (dP d) (1 + (m : Int)) [⟨(p : Int), zer, false, false⟩] p true 0 w3 _ ⟨by omega, by omega⟩ (by simp) hfp (by simp) HO3.out.p1).mono ?_
    rintro e w4 ⟨rfl, hO4, hK4⟩
    have HO4 := hid hO4
    have HK4 := hid ((HK3.out).trans hK4)
    clear hO4 hK4
    try dsimp only
    have e4 : settleK (1 + (m : Int)) (([⟨(p : Int), zer, false, false⟩] : List Hb).set 0 ⟨(([⟨(p : Int), zer, false, false⟩] : List Hb)[0]).at_, (([⟨(p : Int), zer, false, false⟩] : List Hb)[0]).b, (([⟨(p : Int), zer, false, false⟩] : List Hb)[0]).dirty, true⟩) = [(p : Int)].map (cp zer p) := by
      unfold settleK
      rw [dropG_none _ (.inl (by simp; omega))]
      simp [cp]
    have HO5 := hid (show Has w4 (Cch q (dP d) (1 + (m : Int)) ([(p : Int)].map (cp zer p)) :: Dk d (Bk.zero 12) :: [old W]) from by
      have h := HO4.out
      rw [e4] at h
      exact h.p1.drop)
    clear HO0 HO1 HO2 HO2' HO3 HO4 HK1 HK2 HK3 e3 e4 hfp
    go_wp2_with fail
    go_loopw [11] (fun i w => ∃ (k : Nat) (Y : List Int), k ≤ xs.length ∧ i = .int .i64 k ∧ Hid (Y.Nodup ∧ (p : Int) ∈ Y ∧ (Y.length : Int) ≤ 1 + (m : Int)) ∧ Hid (Has w (Cch q (dP d) (1 + (m : Int)) (Y.map (cp zer p)) :: Dk d (Bk.zero 12) :: [old W])) ∧ Hid (Keep W w)) (fun i _ => xs.length - (intOf i).toNat)
    case atStart => exact ⟨0, [(p : Int)], by omega, rfl, hid ⟨by simp, by simp, by simp; omega⟩, HO5, HK4⟩
    case round =>
      clear HO5 HK4
      obtain ⟨k, Y, hk, rfl, HY, HO, HK⟩ := hrel
      have hyl : (Y.length : Int) ≤ 4 := by have := HY.out.2.2; omega
      by_cases hlt : k < xs.length
      · have hki : (k : Int) < (xs.length : Int) := by omega
        have hk0 : (0 : Int) ≤ (k : Int) := by omega
        obtain ⟨p2, c2, e, -, -, hR⟩ := (Rd.start HR.out HO.out.p2).form
        simp only [Value.slice.injEq, true_and] at e
        obtain ⟨rfl, rfl⟩ := e
        obtain ⟨vg, vo, rfl, hc⟩ := hR (by omega)
        have hck : wr.cell? ⟨vg, vo + k, none⟩ = some (.int .i64 (nth xs k)) := by
          rw [hc k (by omega), ic_at xs k hlt]; simp [nth, hlt]
        clear hR hc
        obtain ⟨s, hs⟩ : ∃ s : Nat, (s : Int) = low (nth xs k) 12 := ⟨(low (nth xs k) 12).toNat, by have := low_in (nth xs k) 12 (by omega); omega⟩
        have hs10 : s < 12 := by have := low_in (nth xs k) 12 (by omega); omega
        have HS := hid hs
        clear hs
        go_wp2_with fail
        refine (lowAny (nth xs k) 12 wr (by omega) (by omega)).mono ?_
        rintro e w' ⟨rfl, rfl⟩
        try dsimp only
        rw [← HS.out]
        clear hck
        go_wp2_with fail
        refine (kcGetP q d (1 + (m : Int)) p Y (Bk.zero 12) s wr _ ⟨by omega, by omega⟩ HY.out.1 HY.out.2.1 (by omega) (by decide) (HE.out s hs10) HO.out).mono ?_
        rintro e w4 ⟨v4, Z, rfl, hZ, hO4, hK4⟩
        have HO4 := hid hO4
        have HK4 := hid ((HK.out).trans hK4)
        clear hO4 hK4
        try dsimp only
        have HZ := hid hZ
        clear hZ
        clear HO HK HS HY
        have hzl : (Z.length : Int) ≤ 4 := by have := HZ.out.2.2; omega
        go_wp2_with fail
        refine (kcHeld q (dP d) (1 + (m : Int)) (Z.map (cp zer p)) w4 _ (by rw [List.length_map]; omega) HO4.out.p1).mono ?_
        rintro e w5 ⟨v5, rfl, hO5, hK5⟩
        have HO5 := hid hO5
        have HK5 := hid ((HK4.out).trans hK5)
        clear hO5 hK5
        try dsimp only
        rw [ats_cp] at HO5
        obtain ⟨zp, zc, rfl, -⟩ := (Ints.rd HO5.out).form
        clear HO4 HK4
        go_wp2_with fail
        go_loopw [15, 16] (fun a i w => ∃ (j : Nat) (b : Bool), j ≤ Z.length ∧ i = .int .i64 j ∧ a = .bool b ∧ Hid (b = true ↔ (p : Int) ∈ Z.take j) ∧ Hid (Has w (Ints (.slice zp Z.length zc) Z :: Cch q (dP d) (1 + (m : Int)) (Z.map (cp zer p)) :: Bytes v4 zer :: Dk d (Bk.zero 12) :: [old W])) ∧ Hid (Keep W w)) (fun _ i _ => Z.length - (intOf i).toNat)
        case atStart => exact ⟨0, false, by omega, rfl, rfl, hid (by simp), HO5, HK5⟩
        case round =>
          clear HO5 HK5
          obtain ⟨j, b, hj, rfl, rfl, HB, HO, HK⟩ := hrel
          by_cases hjl : j < Z.length
          · have hji : (j : Int) < (Z.length : Int) := by omega
            have hj0 : (0 : Int) ≤ (j : Int) := by omega
            obtain ⟨p2, c2, e, -, -, hR⟩ := (Ints.rd HO.out).form
            simp only [Value.slice.injEq, true_and] at e
            obtain ⟨rfl, rfl⟩ := e
            obtain ⟨gw, ow, rfl, hc⟩ := hR (by omega)
            have hck : wr.cell? ⟨gw, ow + j, none⟩ = some (.int .i64 Z[j]) := by
              rw [hc j (by omega), ic_at Z j hjl]
            have HTK := hid (List.take_succ_eq_append_getElem hjl)
            have HLT := hid hjl
            generalize Z[j] = y at *
            clear hR hc hjl hj HR
            cases b
            · by_cases hy : y = (p : Int)
              · subst hy
                go_wp2_with fail
                exact ⟨⟨j + 1, true, by have := HLT.out; omega, by go_num, rfl, hid (by rw [HTK.out]; simp), HO, HK⟩, by have := HLT.out; simp [intOf]; omega⟩
              · go_wp2_with fail
                exact ⟨⟨j + 1, false, by have := HLT.out; omega, by go_num, by rw [show (y == (p : Int)) = false by simpa using hy], hid (by rw [HTK.out, List.mem_append, ← HB.out]; simp; exact fun e => hy e.symm), HO, HK⟩, by have := HLT.out; simp [intOf]; omega⟩
            · go_wp2_with fail
              exact ⟨⟨j + 1, true, by have := HLT.out; omega, by go_num, rfl, hid (by rw [HTK.out, List.mem_append, ← HB.out]; simp), HO, HK⟩, by have := HLT.out; simp [intOf]; omega⟩
          · obtain rfl : j = Z.length := by omega
            have hji : ¬ (Z.length : Int) < (Z.length : Int) := by omega
            obtain rfl : b = true := HB.out.2 (by rw [List.take_of_length_le (Nat.le_refl _)]; exact HZ.out.2.1)
            clear HB hjl hj HR
            have hmx : (Z.length : Int) ≤ 1 + (m : Int) := HZ.out.2.2
            go_wp2_with fail
            all_goals exact ⟨⟨k + 1, Z, by omega, by go_num, HZ, hid HO.out.drop.p1.drop, HK⟩, by simp [intOf]; omega⟩
      · obtain rfl : k = xs.length := by omega
        have hki : ¬ (xs.length : Int) < (xs.length : Int) := by omega
        clear hlt hk
        obtain ⟨i, hf⟩ := find_f_some (f := cp zer p) (fun _ => rfl) HY.out.2.1
        obtain ⟨hi, hip⟩ := find_f (fun _ => rfl) hf
        have hi2 : i < (Y.map (cp zer p)).length := by simpa using hi
        have e2 : (Y.map (cp zer p))[i] = cp zer p p := by rw [List.getElem_map, hip]
        have hun := unpin_cp zer p Y i hi HY.out.1 hip
        have HPIN := hid (kcPin q (dP d) (1 + (m : Int)) (Y.map (cp zer p)) p false i wr _ ⟨by omega, by omega⟩ (by rw [List.length_map]; omega) hf hi2 HO.out)
        rw [e2] at HPIN
        rw [show (⟨(cp zer p p).at_, (cp zer p p).b, (cp zer p p).dirty, false⟩ : Hb) = ⟨(p : Int), zer, false, false⟩ from rfl, hun] at HPIN
        have hset : settleK (1 + (m : Int)) (Y.map (cl zer)) = Y.map (cl zer) := by
          unfold settleK
          rw [dropG_none _ (.inl (by rw [List.length_map]; have := HY.out.2.2; omega))]
        rw [hset] at HPIN
        have hdr : dropG Hb.stay 20 (Y.map (cl zer)) = ((dropG Hb.stay 20 (Y.map (cl zer))).1, []) := by
          rw [dropped_cl zer Y 20, List.drop_of_length_le (by have : (20 : Int).toNat = 20 := rfl; omega)]
          rfl
        have hn : ((Y.map (cl zer)).length : Int) - ((dropG Hb.stay 20 (Y.map (cl zer))).2.length : Int) = (Y.length : Int) := by
          rw [hdr, List.length_map]; simp
        have hy1 : (1 : Int) ≤ (Y.length : Int) := by
          have := List.length_pos_of_mem HY.out.2.1
          omega
        have HDR := hid hdr
        have HN := hid hn
        clear hf hi hip hi2 e2 hun hset hdr hn
        go_wp2_with fail
        refine (HPIN.out).mono ?_
        rintro e w4 ⟨rfl, hO4, hK4⟩
        have HO4 := hid hO4
        have HK4 := hid ((HK.out).trans hK4)
        clear hO4 hK4
        try dsimp only
        clear HPIN
        go_wp2_with fail
        refine (kcDrop q (dP d) (1 + (m : Int)) (Y.map (cl zer)) 20 w4 _ (by omega) (by rw [List.length_map]; omega) HO4.out).mono ?_
        rintro e w5 ⟨rfl, hO5, hK5⟩
        have HO5 := hid hO5
        have HK5 := hid ((HK4.out).trans hK5)
        clear hO5 hK5
        try dsimp only
        rw [HN.out]
        rw [HDR.out] at HO5
        dsimp only at HO5
        go_wp2_with fail
        refine (kcHeld q (dP d) (1 + (m : Int)) [] w5 _ (by simp) HO5.out).mono ?_
        rintro e w6 ⟨v6, rfl, hO6, hK6⟩
        have HO6 := hid hO6
        have HK6 := hid ((HK5.out).trans hK6)
        clear hO6 hK6
        try dsimp only
        obtain ⟨p6, c6, rfl, -⟩ := (Ints.rd HO6.out).form
        go_wp2_with fail
        refine (kcPinNone q (dP d) (1 + (m : Int)) [] p true w6 _ (by simp) rfl HO6.out.p1).mono ?_
        rintro e w7 ⟨rfl, hO7, hK7⟩
        have HO7 := hid hO7
        have HK7 := hid ((HK6.out).trans hK7)
        clear hO7 hK7
        try dsimp only
        go_wp2_with fail
        refine (kWrites d (Bk.zero 12) w7 _ HO7.out.p2 (by decide)).mono ?_
        rintro e w8 ⟨v8, rfl, hO8, hK8⟩
        have HO8 := hid hO8
        have HK8 := hid ((HK7.out).trans hK8)
        clear hO8 hK8
        try dsimp only
        obtain ⟨p8, c8, rfl, -⟩ := (Ints.rd HO8.out).form
        go_wp2_with fail
        refine (awake18 w8 _ HO8.out).mono ?_
        rintro e w9 ⟨rfl, hO9, hK9⟩
        have HO9 := hid hO9
        have HK9 := hid ((HK8.out).trans hK9)
        clear hO9 hK9
        try dsimp only
        go_wp2_with fail
        go_ret
        exact ⟨rfl, HO9.out.re 5 [4] |>.below HK9.out.os HK9.out.tape HK9.out.output⟩
end Go.Proofs.Ytajlikakbihgbaa
