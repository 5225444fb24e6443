/- DiskPrefix: if of what waits just the first writes last, the disk is as it was behind these. For every input. -/
import Derived.Test.YtbcilhcmjkgkgaaAwake4
import Derived.Test.YtbcilhcmjkgkgaaWrt
import Derived.Test.YtbcilhcmjkgkgaaLow
namespace Go.Proofs.Ytbcilhcmjkgkgaa
open Go.RowKit Go.Own Go.Dk
def nils5 : Array Value := (List.replicate 5 (Value.slice none 0 0)).toArray
theorem makeBs5 (w : World) : (Instr.makeSlice 27 (.int .i64 5) (.int .i64 5)).run Try.prog w = .ok (.slice (some ⟨w.heap.size, 0, none⟩) 5 5) (w.alloc (.cells nils5 28)) := makeBs 5 (by omega) w
/-- An argument that lay there at the start. -/
theorem Rd.start {W w : World} {L : List HP} {v : Value} {size n : Nat} {xs : List Value} (hr : Rd W v size n xs) (h : Has w (old W :: L)) : Rd w v size n xs := hr.cellsOld h.old_look
set_option maxRecDepth 100000 in
set_option maxHeartbeats 4000000 in
theorem prefixWalk (v : Value) (xs : List Int) (many : Int) (W : World) (hr : Rd W v 1 xs.length (ic xs)) :
    Calls Try.prog 3 #[v, .int .i64 many] W fun e w' => e = .returned (.bool true) ∧ Below W.heap.size W w' := by
  obtain ⟨vp, vc, rfl, hvc, hvl, -⟩ := hr.form
  have HR := hid hr
  have HO0 := hid (Has.start W)
  clear hr
  by_cases hbig : 20 < xs.length
  · go_enter Try.func3, Try.ntmps3
    go_wp2_with fail
    refine (awake4 W _ HO0.out).mono ?_
    rintro e w1 ⟨rfl, hO1, hK1⟩
    have HO1 := hid hO1
    have HK1 := hid ((Keep.refl W).trans hK1)
    clear hO1 hK1
    try dsimp only
    go_wp2_with fail
    go_ret
    exact ⟨rfl, HO1.out.below HK1.out.os HK1.out.tape HK1.out.output⟩
  · obtain ⟨m, hm⟩ : ∃ m : Nat, (m : Int) = low many ((xs.length : Int) + 1) := ⟨(low many ((xs.length : Int) + 1)).toNat, by have := low_in many ((xs.length : Int) + 1) (by omega); omega⟩
    have HM := hid hm
    have hml : m ≤ xs.length := by have := low_in many ((xs.length : Int) + 1) (by omega); omega
    clear hm
    go_enter Try.func3, Try.ntmps3
    go_wp2_with fail
    refine (lowAny many ((xs.length : Int) + 1) W (by omega) (by omega)).mono ?_
    rintro e w' ⟨rfl, rfl⟩
    try dsimp only
    rw [← HM.out]
    go_wp2_with fail
    refine (kNew 5 W _ (by omega) (by omega) HO0.out).mono ?_
    rintro e w1 ⟨d, rfl, hO1, hK1⟩
    try dsimp only
    have HO1 := hid (show Has (w1.alloc (.cells nils5 28)) _ from made_wrt (k := 5) hO1 (le_maxLen (by omega)))
    have HK1 := hid (hK1.alloc (.cells nils5 28))
    have hbs := makeBs5 w1
    clear hO1 hK1
    go_wp2_with fail
    clear hbs
    generalize w1.heap.size = g at *
    generalize w1.alloc (.cells nils5 28) = w2 at *
    go_loopw [7] (fun i w => ∃ k : Nat, k ≤ 5 ∧ i = .int .i64 k ∧ Hid (Has w (Wrt (.slice (some ⟨g, 0, none⟩) 5 5) (List.replicate k zer ++ List.replicate (5 - k) []) :: Dk d (Bk.zero 5) :: [old W])) ∧ Hid (Keep W w)) (fun i _ => 5 - (intOf i).toNat)
    case atStart => exact ⟨0, by omega, rfl, HO1, HK1⟩
    case round =>
      obtain ⟨k, hk, rfl, HO, HK⟩ := hrel
      by_cases hlt : k < 5
      · have hmk := make128 wr
        have HO2 := hid (made128 HO.out)
        have HK2 := hid (HK.out.alloc (.cells zeros128 5))
        obtain ⟨-, ht, p, mm, hc, -⟩ := Wrt.at_ HO2.out.p1 k (by simp; omega)
        go_wp2_with fail
        refine ⟨⟨k + 1, by omega, by go_num, hid ?_, hid (HK2.out.set _ _)⟩, by simp [intOf]; omega⟩
        rw [← fillUp 5 k _ _ hlt]
        exact Wrt.set HO2.out k (by simp; omega)
      · obtain rfl : k = 5 := by omega
        rw [show ((5 : Nat) : Int) = (5 : Int) from rfl]
        have HO := hid (show Has wr (Wrt (.slice (some ⟨g, 0, none⟩) 5 5) (wantL 5 (List.replicate 5 zer) xs m 0) :: Dk d (prefD xs 0) :: [old W]) from HO.out)
        go_wp2_with fail
        go_loopw [9, 8] (fun i kv w => ∃ k : Nat, k ≤ xs.length ∧ i = .int .i64 k ∧ Hid (Has w (Bools kv (keepL m k) :: Wrt (.slice (some ⟨g, 0, none⟩) 5 5) (wantL 5 (List.replicate 5 zer) xs m k) :: Dk d (prefD xs k) :: [old W])) ∧ Hid (Keep W w)) (fun i _ _ => xs.length - (intOf i).toNat)
        case atStart => exact ⟨0, by omega, rfl, hid (HO.out.row_nil _ _), HK⟩
        case round =>
          clear HO HK
          obtain ⟨k, hk, rfl, HO, HK⟩ := hrel
          by_cases hlt : k < xs.length
          · obtain ⟨p2, c2, e, -, -, hR⟩ := (Rd.start HR.out HO.out.p3).form
            simp only [Value.slice.injEq, true_and] at e
            obtain ⟨rfl, rfl⟩ := e
            obtain ⟨vg, vo, rfl, hc⟩ := hR (by omega)
            have hck : wr.cell? ⟨vg, vo + k, none⟩ = some (.int .i64 (nth xs k)) := by
              rw [hc k (by omega), ic_at xs k hlt]; simp [nth, hlt]
            clear hR hc
            obtain ⟨q, hq⟩ : ∃ q : Nat, (q : Int) = low (nth xs k) 5 := ⟨(low (nth xs k) 5).toNat, by have := low_in (nth xs k) 5 (by omega); omega⟩
            have hq5 : q < 5 := by have := low_in (nth xs k) 5 (by omega); omega
            have E1 := hid (hq ▸ prefD_write xs k)
            have EL := hid hq
            clear hq
            go_wp2_with fail
            refine (lowAny (nth xs k) 5 wr (by omega) (by omega)).mono ?_
            rintro e w' ⟨rfl, rfl⟩
            try dsimp only
            rw [← EL.out]
            go_wp2_with fail
            refine (fillAny128 k wr _ HO.out).mono ?_
            rintro e w3 ⟨vp3, vc3, rfl, hO3, hK3⟩
            have HO3 := hid hO3
            have HK3 := hid (HK.out.trans hK3)
            clear hO3 hK3
            try dsimp only
            have X1 := hid (show (prefD xs k).waits.length ≤ 1000000000 by show (putW 5 xs k).length ≤ _; rw [putW_len]; omega)
            have X2 := hid (show (prefD xs k).writes.length ≤ 1000000000 by show (putL 5 xs k).length ≤ _; rw [putL_len]; omega)
            go_wp2_with fail
            refine (kWrite d (prefD xs k) w3 _ HO3.out.p3 q (.slice vp3 128 vc3) (fill k 128) X1.out X2.out (fun w' h => Bytes.rd h)).mono ?_
            rintro e w4 ⟨rfl, hO4, hK4⟩
            have HO4 := hid hO4
            have HK4 := hid ((HK3.out).trans hK4)
            clear hO4 hK4
            try dsimp only
            rw [E1.out]
            rw [E1.out] at HO4
            clear E1 X1 X2 HO3 HK3 HO HK hck
            by_cases hkm : k < m
            · have hd : decide ((k : Int) < (m : Int)) = true := by simp; omega
              have HD := hid hd
              clear hd
              go_wp2_with (at_builtin; refine wpList_append1 rfl _ _ _ rfl Try.underlying29 infoBool rfl (.bool true) (HO4.out.p2.alloc' _) rfl 1 _ rfl (by simp) rfl (le_maxLen (by rw [keepL_len]; omega)) (by rw [keepL_len]; omega) ?_)
              intro v5 w5 hO5 hK5
              have HO5 := hid hO5
              have HK5 := hid ((HK4.out.alloc _).trans hK5)
              clear hO5 hK5 HO4 HK4
              go_wp2_with fail
              refine (fillAny128 k w5 _ HO5.out).mono ?_
              rintro e w6 ⟨vp6, vc6, rfl, hO6, hK6⟩
              have HO6 := hid hO6
              have HK6 := hid (HK5.out.trans hK6)
              clear hO6 hK6 HO5 HK5
              try dsimp only
              obtain ⟨-, ht, p, mm, hc, -⟩ := Wrt.at_ HO6.out.p4 q (by rw [wantL_len]; simpa using hq5)
              have HQ := hid (show q < (wantL 5 (List.replicate 5 zer) xs m k).length by rw [wantL_len]; simpa using hq5)
              go_wp2_with fail
              refine ⟨⟨k + 1, by omega, by go_num, hid ?_, hid (HK6.out.set _ _)⟩, by simp [intOf]; omega⟩
              have h := Wrt.set HO6.out.p4.p1 q HQ.out
              rw [keepL_succ, show decide (k < m) = true from by simpa using hkm, wantL_succ, if_pos hkm, ← EL.out]
              exact (bools_snoc h.p1).p3.drop
            · have hd : decide ((k : Int) < (m : Int)) = false := by simp; omega
              have HD := hid (show decide (k < m) = false by simp; omega)
              go_wp2_with (at_builtin; refine wpList_append1 rfl _ _ _ rfl Try.underlying29 infoBool rfl (.bool false) (HO4.out.p2.alloc' _) rfl 1 _ rfl (by simp) rfl (le_maxLen (by rw [keepL_len]; omega)) (by rw [keepL_len]; omega) ?_)
              intro v5 w5 hO5 hK5
              have HO5 := hid hO5
              have HK5 := hid ((HK4.out.alloc _).trans hK5)
              clear hO5 hK5 HO4 HK4
              go_wp2_with fail
              refine ⟨⟨k + 1, by omega, by go_num, hid ?_, HK5⟩, by simp [intOf]; omega⟩
              rw [keepL_succ, HD.out, wantL_succ, if_neg hkm]
              exact (bools_snoc HO5.out).p2.drop.p2.p1
          · obtain rfl : k = xs.length := by omega
            have XE := hid (show ((prefD xs xs.length).crash (keepL m xs.length)).firm = wantL 5 (List.replicate 5 zer) xs m xs.length from kept_all 5 _ xs m xs.length)
            have XW := hid (show ((prefD xs xs.length).crash (keepL m xs.length)).writes.length = xs.length from putL_len 5 xs xs.length)
            have XL := hid (show (wantL 5 (List.replicate 5 zer) xs m xs.length).length = 5 by rw [wantL_len]; rfl)
            have XO := hid (show ((prefD xs xs.length).crash (keepL m xs.length)).on = false from rfl)
            have XV := hid (show ((prefD xs xs.length).crash (keepL m xs.length)).waits = [] from rfl)
            go_wp2_with fail
            refine (kCrash d (prefD xs xs.length) wr _ HO.out.p2 u8 (keepL m xs.length) (fun w' h => Has.rd h)).mono ?_
            rintro e w3 ⟨rfl, hO3, hK3⟩
            have HO3 := hid hO3
            have HK3 := hid ((HK.out).trans hK3)
            clear hO3 hK3
            try dsimp only
            generalize (prefD xs xs.length).crash (keepL m xs.length) = E at *
            generalize wantL 5 (List.replicate 5 zer) xs m xs.length = T at *
            clear HO HK
            go_wp2_with fail
            refine (kImage d E w3 _ HO3.out (by rw [XE.out, XL.out]; omega)).mono ?_
            rintro e w4 ⟨v4, rfl, hO4, hK4⟩
            have HO4 := hid hO4
            have HK4 := hid ((HK3.out).trans hK4)
            clear hO4 hK4
            try dsimp only
            rw [XE.out] at HO4
            go_wp2_with fail
            refine (sameTexts v4 _ T T w4 (Prts.rd HO4.out) (Wrt.rd HO4.out.p3)).mono ?_
            rintro e w' ⟨rfl, nq5, rfl⟩
            have HO5 := hid ((HO4.out.drop).drewN nq5)
            have HK5 := hid ((HK4.out).drewN nq5)
            try dsimp only
            simp only [decide_true]
            generalize w4.drewN nq5 = w5 at *
            clear HO3 HK3 HO4 HK4
            go_wp2_with fail
            refine (kWrites d E w5 _ HO5.out (by rw [XW.out]; omega)).mono ?_
            rintro e w6 ⟨v6, rfl, hO6, hK6⟩
            obtain ⟨vp6, vc6, rfl, -⟩ := (Ints.rd hO6).form
            rw [XW.out]
            have HO6 := hid hO6.drop
            have HK6 := hid (HK5.out.trans hK6)
            clear hO6 hK6 HO5 HK5
            try dsimp only
            have XB := hid (show E.boot = (0, { E with on := true }) by unfold Bk.boot; rw [XO.out]; rfl)
            go_wp2_with fail
            refine (kBoot d E w6 _ HO6.out).mono ?_
            rintro e w7 ⟨rfl, hO7, hK7⟩
            have HO7 := hid hO7
            have HK7 := hid ((HK6.out).trans hK7)
            clear hO7 hK7
            try dsimp only
            rw [XB.out]
            rw [XB.out] at HO7
            have XR := hid (show ∀ s : Nat, (hs : s < 5) → ({ E with on := true } : Bk).read (s : Int) = (0, T[s]'(by rw [XL.out]; exact hs)) by
              intro s hs
              rw [Bk.read_ok rfl (by omega) (by show (s : Int) < E.firm.length; rw [XE.out, XL.out]; omega), Bk.last_firm (D := { E with on := true }) XV.out]
              show (0, E.firm.getD _ _) = _
              rw [XE.out]
              have : s < T.length := by rw [XL.out]; exact hs
              simp [this])
            have XV2 := hid (show ({ E with on := true } : Bk).waits.length ≤ 1000000000 by show E.waits.length ≤ _; rw [XV.out]; simp)
            generalize ({ E with on := true } : Bk) = E2 at *
            clear XB XE XW XO XV
            go_wp2_with fail
            go_loopw [11] (fun i w => ∃ s : Nat, s ≤ 5 ∧ i = .int .i64 s ∧ Hid (Has w (Dk d E2 :: Bools u8 (keepL m xs.length) :: Wrt (.slice (some ⟨g, 0, none⟩) 5 5) T :: [old W])) ∧ Hid (Keep W w)) (fun i _ => 5 - (intOf i).toNat)
            case atStart => exact ⟨0, by omega, rfl, HO7, HK7⟩
            case round =>
              clear HO6 HK6 HO7 HK7
              obtain ⟨s, hs, rfl, HO, HK⟩ := hrel
              by_cases hlt : s < 5
              · go_wp2_with fail
                refine (kRead d E2 wr _ HO.out s XV2.out).mono ?_
                rintro e w8 ⟨v8, rfl, hO8, hK8⟩
                have HO8 := hid hO8
                have HK8 := hid ((HK.out).trans hK8)
                clear hO8 hK8
                try dsimp only
                rw [XR.out s hlt]
                rw [XR.out s hlt] at HO8
                have hsT : s < T.length := by rw [XL.out]; exact hlt
                obtain ⟨-, -, p, mm, hc, hrd⟩ := Wrt.at_ HO8.out.p3 s hsT
                have Hrd := hid hrd
                clear hrd HO HK
                go_wp2_with fail
                refine (sameBytesYes v8 _ T[s] w8 (Bytes.rd HO8.out) Hrd.out).mono ?_
                rintro e w' ⟨rfl, n9, rfl⟩
                have HO9 := hid (HO8.out.drop.drewN n9)
                have HK9 := hid (HK8.out.drewN n9)
                clear HO8 HK8
                try dsimp only
                go_wp2_with fail
                exact ⟨⟨s + 1, by omega, by go_num, HO9, HK9⟩, by simp [intOf]; omega⟩
              · obtain rfl : s = 5 := by omega
                go_wp2_with fail
                refine (awake4 wr _ HO.out).mono ?_
                rintro e w8 ⟨rfl, hO8, hK8⟩
                have HO8 := hid hO8
                have HK8 := hid ((HK.out).trans hK8)
                clear hO8 hK8
                try dsimp only
                go_wp2_with fail
                go_ret
                exact ⟨rfl, HO8.out.p3.below HK8.out.os HK8.out.tape HK8.out.output⟩
end Go.Proofs.Ytbcilhcmjkgkgaa
