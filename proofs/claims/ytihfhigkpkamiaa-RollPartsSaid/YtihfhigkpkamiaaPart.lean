/- THE WALK of RollParts. -/
import Derived.Test.YtihfhigkpkamiaaLaw19b
import Derived.Test.YtihfhigkpkamiaaSplit
import Derived.Test.YtihfhigkpkamiaaComp
import Derived.Test.YtihfhigkpkamiaaBack
import Derived.BigFrame
namespace Go.Proofs.Ytihfhigkpkamiaa
open Go.RowKit Go.Own Go.Rl
theorem sectors_eq0 (os : List Piece) : sectors os = sectors0 os := rfl
theorem has_any {l : List Int} {x : Int} (k : Nat) (hk : k < l.length) : (l.take (k + 1)).contains x = ((l.take k).contains x || (l[k] == x)) := by
  rw [List.take_succ_eq_append_getElem hk, List.contains_append, List.contains_cons, List.contains_nil, Bool.or_false]
  congr 1
  exact Bool.beq_comm
set_option maxRecDepth 100000 in
set_option maxHeartbeats 8000000 in
theorem partWalk (v : Value) (R : List Ob) (cut : Int) (ov : Value) (xs : List Int) (sector : Int) (W : World) (hR : RdO W v R) (hx : Rd W ov 1 xs.length (bc xs)) :
    Calls Try.prog 4 #[v, .int .i64 cut, ov, .int .i64 sector] W fun e w' => e = .returned (.bool true) ∧ Below W.heap.size W w' := by
  obtain ⟨xp, xc, rfl, hxc, hxl, -⟩ := hx.form
  obtain ⟨vp, vc, rfl, hvc, hvl⟩ := hR.form
  have HX := hid hx
  have HR := hid hR
  have HO0 := hid (Has.start W)
  clear hx hR
  go_enter Try.func4, Try.ntmps4
  go_wp2_with fail
  refine (great19 _ R 16 W HR.out (by omega)).mono ?_
  rintro e w' ⟨u, rfl, hu, rfl⟩
  try dsimp only
  obtain ⟨b, rfl, hb⟩ := hu
  cases b
  · have HB := hid (hb rfl)
    clear hb
    by_cases hbx : xs.length ≤ 128
    · have hbxi : ¬ (128 : Int) < (xs.length : Int) := by omega
      have hRl := HB.out.1
      have hm := low_in cut ((R.length : Int) + 1) (by omega)
      obtain ⟨m, hme⟩ := Int.eq_ofNat_of_zero_le hm.1
      have hml : (m : Int) ≤ (R.length : Int) := by omega
      have HM := hid hme
      clear hm hme
      go_wp2_with fail
      refine (lowAny cut ((R.length : Int) + 1) W (by omega) (by omega)).mono ?_
      rintro e w' ⟨rfl, rfl⟩
      try dsimp only
      rw [HM.out]
      go_wp2_with fail
      refine (lowAny sector 5 W (by omega) (by omega)).mono ?_
      rintro e w' ⟨rfl, rfl⟩
      try dsimp only
      generalize low sector 5 = sec
      go_wp2_with fail
      go_loopw [9, 10] (fun f i w' => ∃ k : Nat, k ≤ m ∧ i = .int .i64 k ∧ Hid (Has w' [Ints f (upto k), old W]) ∧ Hid (Keep W w')) (fun _ i _ => m - (intOf i).toNat)
      case atStart => exact ⟨0, by omega, rfl, hid (HO0.out.row_nil _ _), hid (Keep.refl W)⟩
      case round =>
        obtain ⟨k, hk, rfl, HO, HK⟩ := hrel
        by_cases hlt : k < m
        · have hki : (k : Int) < (m : Int) := by omega
          have HO1 := hid (HO.out.alloc (.cells #[.int .i64 k] 3))
          have hul := upto_len k
          go_wp2_with (at_builtin; refine wpList_append1 rfl _ _ _ rfl Try.underlying34 infoInt rfl (.int .i64 k) HO1.out.p1 rfl 1 _ rfl (by simp) rfl (le_maxLen (by omega)) (by omega) ?_)
          intro v2 w2 h2 hk2
          have HO2 := hid (show Has w2 [Ints v2 (upto (k + 1)), old W] from by
            have h := h2.p1.drop
            rw [show ic (upto k) ++ [Value.int .i64 k] = ic (upto (k + 1)) by rw [upto_snoc, ic_snoc]] at h
            unfold Ints
            rw [show (upto (k + 1)).length = k + 1 from upto_len _]
            exact h)
          have HK2 := hid ((HK.out.alloc _).trans hk2)
          clear h2 hk2 HO1 HO HK
          go_wp2_with fail
          exact ⟨⟨k + 1, by omega, by go_num, HO2, HK2⟩, by simp [intOf]; omega⟩
        · have hki : ¬ (k : Int) < (m : Int) := by omega
          obtain rfl : k = m := by omega
          go_wp2_with fail
          refine (rollSplit _ u9 R (upto k) wr _ (by omega) (fun j hj => by have := HB.out.2 j hj; omega) (fun w' h => HR.out.old h.p1) (fun w' h => Ints.rd h) HO.out).mono ?_
          rintro e w3 ⟨va, vb, rfl, hO3, hK3⟩
          have HO3 := hid hO3
          have HK3 := hid ((HK.out).trans hK3)
          clear hO3 hK3
          try dsimp only
          rw [show Rl.pick (upto k) true (R.map (·.1)) R.length = (R.map (·.1)).take k by rw [pick_yes _ _ _ (by simp), Nat.min_eq_right (by omega)],
            show Rl.pick (upto k) false (R.map (·.1)) R.length = (R.map (·.1)).drop k by rw [pick_no _ _ _ (by simp), List.take_of_length_le (by simp)]] at HO3
          obtain ⟨Ra, hRa, ha⟩ := objs_iff.1 HO3.out
          obtain ⟨Rb, hRb, hb⟩ := objs_iff.1 ha.p2
          have hla : Ra.length = k := by have := congrArg List.length hRa; simp at this; omega
          have hlb : Rb.length = R.length - k := by have := congrArg List.length hRb; simp at this; omega
          have HQ3 := hid (show Has w3 [row va 31 3 Ra.length (ocells Ra), poolc 5 (opool Ra), row vb 31 3 Rb.length (ocells Rb), poolc 5 (opool Rb), old W] from hb.re 6 [2, 3, 0, 1, 5])
          have HRa := hid hRa
          have HRb := hid hRb
          have hsum : (Ra.length : Int) + (Rb.length : Int) = (R.length : Int) := by omega
          clear HO HK ha hb hRa hRb hlb
          obtain rfl := hla
          obtain ⟨pa, ca, rfl, -⟩ := HQ3.out.rd.form
          obtain ⟨pb, cb, rfl, -⟩ := HQ3.out.p2.rd.form
          go_wp2_with fail
          refine (rollOver _ xs sec _ R w3 _ (Rd.start HX.out HQ3.out.p4) (fun w' h => HR.out.old h.p4) HQ3.out).mono ?_
          rintro e w4 ⟨v4, rfl, hO4, hK4⟩
          have HO4 := hid hO4
          have HK4 := hid ((HK3.out).trans hK4)
          clear hO4 hK4
          try dsimp only
          go_wp2_with fail
          refine (rollOver _ xs sec _ Ra w4 _ (Rd.start HX.out HO4.out.p5) (fun w' h => objsR h.drop) HO4.out).mono ?_
          rintro e w5 ⟨v5, rfl, hO5, hK5⟩
          have HO5 := hid hO5
          have HK5 := hid ((HK4.out).trans hK5)
          clear hO5 hK5
          try dsimp only
          go_wp2_with fail
          refine (rollOver _ (over xs sec (Ra.map (·.1))) sec _ Rb w5 _ (Bytes.rd HO5.out) (fun w' h => objsR h.drop.drop.drop.drop) HO5.out).mono ?_
          rintro e w6 ⟨v6, rfl, hO6, hK6⟩
          have HO6 := hid hO6
          have HK6 := hid ((HK5.out).trans hK6)
          clear hO6 hK6
          try dsimp only
          rw [over_parts, HRa.out, HRb.out, List.take_append_drop] at HO6
          go_wp2_with fail
          refine (rollSectors _ R w6 _ (by omega) (fun w' h => HR.out.old h.drop.p6) HO6.out).mono ?_
          rintro e w7 ⟨v7, rfl, hO7, hK7⟩
          have HO7 := hid hO7
          have HK7 := hid ((HK6.out).trans hK7)
          clear hO7 hK7
          try dsimp only
          rw [sectors_eq0] at HO7
          have HO8 := hid (show Has w7 [Ints v7 (sectors0 (R.map (·.1))), Bytes v6 (over xs sec (R.map (·.1))), Bytes v4 (over xs sec (R.map (·.1))), row (.slice pa Ra.length ca) 31 3 Ra.length (ocells Ra), poolc 5 (opool Ra), row (.slice pb Rb.length cb) 31 3 Rb.length (ocells Rb), poolc 5 (opool Rb), old W] from HO7.out.re 9 [0, 1, 3, 4, 5, 6, 7, 8])
          have HK8 := hid HK7.out
          have HSL := hid (show (sectors0 (R.map (·.1))).length ≤ 16 from by
            have h1 := Lib.compact_length_le (sorted (secs (R.map (·.1))))
            rw [sorted_len] at h1
            have h2 := secs_len (R.map (·.1))
            rw [List.length_map] at h2
            have h3 : (sectors0 (R.map (·.1))).length ≤ (secs (R.map (·.1))).length := h1
            omega)
          have HOUT := hid (fun h => over_out (s := sec) (old := xs) (os := R.map (·.1)) h)
          have HSW := hid (show sectors0 ((Rb ++ Ra).map (·.1)) = sectors0 (R.map (·.1)) from by
            rw [List.map_append, HRa.out, HRb.out, sectors0_swap, List.take_append_drop])
          have HOL := hid (over_len xs sec (R.map (·.1)))
          have HNL := hid (show over xs sec (([] : List Ob).map (·.1)) = over xs sec [] from rfl)
          have HNN := hid (over_len xs sec [])
          clear HO7 HK7 HO6 HK6 HO5 HK5 HO4 HK4 HQ3 HO3 HK3 HRa HRb
          generalize over xs sec (R.map (·.1)) = Z at *
          generalize over xs sec [] = Z0 at *
          generalize sectors0 (R.map (·.1)) = S at *
          obtain ⟨p7, c7, rfl, -, -, h7⟩ := (Ints.rd HO8.out).form
          have H7 := hid h7
          have hSl : (S.length : Int) ≤ 16 := by have := HSL.out; omega
          clear h7
          go_wp2_with fail
          go_loopw [16, 17] (fun b i w' => ∃ q : Nat, q ≤ S.length ∧ i = .int .i64 q ∧ w' = w7 ∧ Hid (b = .bool ((S.take q).contains sec))) (fun _ i _ => S.length - (intOf i).toNat)
          case atStart => exact ⟨0, by omega, rfl, rfl, hid rfl⟩
          case round =>
            obtain ⟨q, hq, rfl, rfl, HQ⟩ := hrel
            obtain rfl := HQ.out
            by_cases hlt : q < S.length
            · have hqi : (q : Int) < (S.length : Int) := by omega
              obtain ⟨g7, o7, rfl, h8⟩ := H7.out (by omega)
              have x7 := h8 q (by omega)
              rw [ic, List.getElem?_map, List.getElem?_eq_getElem hlt, Option.map_some] at x7
              have HN := hid (has_any (x := sec) q hlt)
              clear h8
              cases hc : (S.take q).contains sec
              · rw [hc] at HN
                by_cases he : S[q] = sec
                · have HN2 := hid (show (S.take (q + 1)).contains sec = true by rw [HN.out, he]; simp)
                  rw [he] at x7
                  clear HN he hc
                  go_wp2_with fail
                  exact ⟨⟨q + 1, by omega, rfl, by trivial, hid (by rw [HN2.out])⟩, by simp [intOf]; omega⟩
                · have HN2 := hid (show (S.take (q + 1)).contains sec = false by rw [HN.out]; simpa using he)
                  clear HN hc
                  generalize S[q] = sq at *
                  go_wp2_with fail
                  exact ⟨⟨q + 1, by omega, rfl, by trivial, hid (by rw [HN2.out]; congr 1; simpa using he)⟩, by simp [intOf]; omega⟩
              · rw [hc] at HN
                have HN2 := hid (show (S.take (q + 1)).contains sec = true by rw [HN.out]; simp)
                clear HN hc x7
                go_wp2_with fail
                exact ⟨⟨q + 1, by omega, rfl, by trivial, hid (by rw [HN2.out])⟩, by simp [intOf]; omega⟩
            · have hqi : ¬ (q : Int) < (S.length : Int) := by omega
              obtain rfl : q = S.length := by omega
              rw [List.take_of_length_le (Nat.le_refl _)]
              have H1a := hid ((objsR (HO8.out.re 8 [3, 4, 7])).one Ra fun _ h => h)
              have H1b := hid ((objsR (HO8.out.re 8 [5, 6, 7])).one Rb fun _ h => h)
              clear H7 HQ
              cases hc : S.contains sec
              · have HZ := hid (HOUT.out (by simpa using hc))
                clear hc HOUT
                go_wp2_with fail
                refine (sameBytesYes v4 v6 Z wr (Bytes.rd HO8.out.p2) (Bytes.rd HO8.out.p1)).mono ?_
                rintro e w' ⟨rfl, nq9, rfl⟩
                have HO9 := hid ((HO8.out).drewN nq9)
                have HK9 := hid ((HK8.out).drewN nq9)
                try dsimp only
                generalize wr.drewN nq9 = w9 at *
                go_wp2_with fail
                refine (rollOver _ xs sec _ [] w9 _ (Rd.start HX.out HO9.out.drop.p6) (fun w' _ => RdO.nil w') HO9.out).mono ?_
                rintro e w10 ⟨v10, rfl, hO10, hK10⟩
                have HO10 := hid hO10
                have HK10 := hid ((HK9.out).trans hK10)
                clear hO10 hK10
                try dsimp only
                rw [HNL.out, ← HZ.out] at HO10
                go_wp2_with fail
                refine (sameBytesYes v4 v10 Z w10 (Bytes.rd HO10.out.p3) (Bytes.rd HO10.out)).mono ?_
                rintro e w' ⟨rfl, nq11, rfl⟩
                have HO11 := hid ((HO10.out.drop).drewN nq11)
                have HK11 := hid ((HK10.out).drewN nq11)
                try dsimp only
                generalize w10.drewN nq11 = w12 at *
                have HO12 := HO11
                have HK12 := HK11
                clear HO8 HK8 HO9 HK9 HO10 HK10 HO11 HK11
                go_wp2_with (at_builtin; refine wpList_appendG (by rfl) (.const (.slice none 0 0)) (.tmp 107) 23 rfl Try.underlying23 infoObj rfl (by decide) (HO12.out.row_nil 31 3) (by rfl) _ Rb.length (ocells Rb) (by rfl) HO12.out.p5.rd H1b.out (le_maxLen (by omega)) (by omega) ?_)
                intro v13 w13 h13 hk13
                have HO13 := hid h13
                have HK13 := hid (HK12.out.trans hk13)
                clear h13 hk13 HO12 HK12
                go_wp2_with (at_builtin; refine wpList_appendG (by rfl) (.tmp 108) (.tmp 109) 23 rfl Try.underlying23 infoObj rfl (by decide) HO13.out (by rfl) _ Ra.length (ocells Ra) (by rfl) HO13.out.p4.rd H1a.out (le_maxLen (by omega)) (by omega) ?_)
                intro v14 w14 h14 hk14
                have HO14 := hid (show Has w14 (row v14 31 3 (Rb ++ Ra).length (ocells (Rb ++ Ra)) :: _) from by
                  rw [← ocells_append, ← List.length_append] at h14
                  exact h14)
                have HK14 := hid (HK13.out.trans hk14)
                clear h14 hk14 HO13 HK13 H1a H1b
                have hll : (Rb ++ Ra).length ≤ 100000 := by rw [List.length_append]; omega
                go_wp2_with fail
                refine (rollSectors v14 (Rb ++ Ra) w14 _ hll (fun w' h => ⟨h.rd, fun x hx => (List.mem_append.1 hx).elim (fun h1 => (h.drop.drop.p5).pool_rd (x := (x.2, x.1.bytes)) (List.mem_map.2 ⟨x, h1, rfl⟩)) (fun h1 => (h.p5).pool_rd (x := (x.2, x.1.bytes)) (List.mem_map.2 ⟨x, h1, rfl⟩))⟩) HO14.out).mono ?_
                rintro e w15 ⟨v15, rfl, hO15, hK15⟩
                have HO15 := hid hO15
                have HK15 := hid ((HK14.out).trans hK15)
                clear hO15 hK15
                try dsimp only
                rw [sectors_eq0, HSW.out] at HO15
                go_wp2_with fail
                refine (sameIntsYes _ v15 S w15 (Ints.rd HO15.out.p2) (Ints.rd HO15.out)).mono ?_
                rintro e w' ⟨rfl, nq16, rfl⟩
                have HO16 := hid (((HO15.out.re 10 [9])).drewN nq16)
                have HK16 := hid ((HK15.out).drewN nq16)
                try dsimp only
                generalize w15.drewN nq16 = w16 at *
                go_wp2_with fail
                refine (awake19 w16 _ HO16.out).mono ?_
                rintro e w17 ⟨rfl, hO17, hK17⟩
                have HO17 := hid hO17
                have HK17 := hid ((HK16.out).trans hK17)
                clear hO17 hK17
                try dsimp only
                go_wp2_with fail
                go_ret
                exact ⟨by simp, HO17.out.below HK17.out.os HK17.out.tape HK17.out.output⟩
              · clear hc HOUT
                go_wp2_with fail
                refine (sameBytesYes v4 v6 Z wr (Bytes.rd HO8.out.p2) (Bytes.rd HO8.out.p1)).mono ?_
                rintro e w' ⟨rfl, nq9, rfl⟩
                have HO9 := hid ((HO8.out).drewN nq9)
                have HK9 := hid ((HK8.out).drewN nq9)
                try dsimp only
                generalize wr.drewN nq9 = w12 at *
                have HO12 := HO9
                have HK12 := HK9
                clear HO8 HK8 HO9 HK9
                go_wp2_with (at_builtin; refine wpList_appendG (by rfl) (.const (.slice none 0 0)) (.tmp 107) 23 rfl Try.underlying23 infoObj rfl (by decide) (HO12.out.row_nil 31 3) (by rfl) _ Rb.length (ocells Rb) (by rfl) HO12.out.p5.rd H1b.out (le_maxLen (by omega)) (by omega) ?_)
                intro v13 w13 h13 hk13
                have HO13 := hid h13
                have HK13 := hid (HK12.out.trans hk13)
                clear h13 hk13 HO12 HK12
                go_wp2_with (at_builtin; refine wpList_appendG (by rfl) (.tmp 108) (.tmp 109) 23 rfl Try.underlying23 infoObj rfl (by decide) HO13.out (by rfl) _ Ra.length (ocells Ra) (by rfl) HO13.out.p4.rd H1a.out (le_maxLen (by omega)) (by omega) ?_)
                intro v14 w14 h14 hk14
                have HO14 := hid (show Has w14 (row v14 31 3 (Rb ++ Ra).length (ocells (Rb ++ Ra)) :: _) from by
                  rw [← ocells_append, ← List.length_append] at h14
                  exact h14)
                have HK14 := hid (HK13.out.trans hk14)
                clear h14 hk14 HO13 HK13 H1a H1b
                have hll : (Rb ++ Ra).length ≤ 100000 := by rw [List.length_append]; omega
                go_wp2_with fail
                refine (rollSectors v14 (Rb ++ Ra) w14 _ hll (fun w' h => ⟨h.rd, fun x hx => (List.mem_append.1 hx).elim (fun h1 => (h.drop.drop.p5).pool_rd (x := (x.2, x.1.bytes)) (List.mem_map.2 ⟨x, h1, rfl⟩)) (fun h1 => (h.p5).pool_rd (x := (x.2, x.1.bytes)) (List.mem_map.2 ⟨x, h1, rfl⟩))⟩) HO14.out).mono ?_
                rintro e w15 ⟨v15, rfl, hO15, hK15⟩
                have HO15 := hid hO15
                have HK15 := hid ((HK14.out).trans hK15)
                clear hO15 hK15
                try dsimp only
                rw [sectors_eq0, HSW.out] at HO15
                go_wp2_with fail
                refine (sameIntsYes _ v15 S w15 (Ints.rd HO15.out.p2) (Ints.rd HO15.out)).mono ?_
                rintro e w' ⟨rfl, nq16, rfl⟩
                have HO16 := hid (((HO15.out.re 10 [9])).drewN nq16)
                have HK16 := hid ((HK15.out).drewN nq16)
                try dsimp only
                generalize w15.drewN nq16 = w16 at *
                go_wp2_with fail
                refine (awake19 w16 _ HO16.out).mono ?_
                rintro e w17 ⟨rfl, hO17, hK17⟩
                have HO17 := hid hO17
                have HK17 := hid ((HK16.out).trans hK17)
                clear hO17 hK17
                try dsimp only
                go_wp2_with fail
                go_ret
                exact ⟨by simp, HO17.out.below HK17.out.os HK17.out.tape HK17.out.output⟩
    · have hbxi : (128 : Int) < (xs.length : Int) := by omega
      go_wp2_with fail
      refine (awake19 W _ HO0.out).mono ?_
      rintro e w1 ⟨rfl, hO1, hK1⟩
      have HO1 := hid hO1
      have HK1 := hid ((Keep.refl W).trans hK1)
      clear hO1 hK1
      try dsimp only
      go_wp2_with fail
      go_ret
      exact ⟨rfl, HO1.out.below HK1.out.os HK1.out.tape HK1.out.output⟩
  · go_wp2_with fail
    refine (awake19 W _ HO0.out).mono ?_
    rintro e w1 ⟨rfl, hO1, hK1⟩
    have HO1 := hid hO1
    have HK1 := hid ((Keep.refl W).trans hK1)
    clear hO1 hK1
    try dsimp only
    go_wp2_with fail
    go_ret
    exact ⟨rfl, HO1.out.below HK1.out.os HK1.out.tape HK1.out.output⟩
end Go.Proofs.Ytihfhigkpkamiaa
