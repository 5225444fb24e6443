/- DiskFalls: behind so many writes and flushes as it was armed for the power goes. For every input. -/
import Derived.Test.YtbcilhcmjkgkgaaAwake4
import Derived.Test.YtbcilhcmjkgkgaaFallm
import Derived.Test.YtbcilhcmjkgkgaaPref
namespace Go.Proofs.Ytbcilhcmjkgkgaa
open Go.RowKit Go.Own Go.Dk
def nils6 : Array Value := #[.slice none 0 0, .slice none 0 0, .slice none 0 0, .slice none 0 0, .slice none 0 0, .slice none 0 0]
theorem Arr.made {w : World} {L : List HP} {B : Txs} (h : Has w L) (hB : ((.slice none 0 0 : Value), ([] : List Int)) ∈ B) : Has (w.alloc (.cells nils6 43)) (Arr B w.heap.size (List.replicate 6 []) :: L) :=
  arr_iff.2 ⟨List.replicate 6 (.slice none 0 0, []), ⟨rfl, fun x hx => by rw [(List.mem_replicate.1 hx).2]; exact hB⟩, h.alloc _⟩
/-- What holds where the writes are over: the power is there still; or it has gone. -/
def Meet (W0 : World) (d g : Nat) (a : Nat) (keep : List Bool) (av bv : Value) (nv : Value) (w : World) : Prop :=
  ∃ (n : Nat) (F : List (List Int)) (W : List (Int × List Int)) (B : Txs) (D : Bk), nv = .int .i64 (n : Int) ∧ F.length = 6 ∧ (∀ x ∈ W, 0 ≤ x.1 ∧ x.1 < 6) ∧ W.length ≤ 30 ∧ D.writes.length ≤ 30 ∧
    ((D.on = true ∧ n ≤ a) ∨ (D.on = false ∧ D.firm = blayKept keep F W ∧ D.waits = [] ∧ D.armed = none)) ∧
    Has w (Arr B g F :: Ints av (W.map (·.1)) :: Lst B bv (W.map (·.2)) :: Pool B :: Dk d D :: [old W0])
set_option maxRecDepth 100000 in
set_option maxHeartbeats 8000000 in
theorem fallsWalk (v : Value) (xs : List Int) (fl : Int) (after : Int) (kv : Value) (keep : List Bool) (W : World) (hr : Rd W v 1 xs.length (ic xs)) (hkr : Rd W kv 1 keep.length (keep.map Value.bool)) :
    Calls Try.prog 4 #[v, .int .i64 fl, .int .i64 after, kv] W fun e w' => e = .returned (.bool true) ∧ Below W.heap.size W w' := by
  obtain ⟨vp, vc, rfl, hvc, hvl, -⟩ := hr.form
  obtain ⟨kp, kc, rfl, hkc, hkl, -⟩ := hkr.form
  have HR := hid hr
  have HKR := hid hkr
  have HO0 := hid (Has.start W)
  clear hr hkr
  by_cases hbig : 30 < xs.length
  · go_enter Try.func4, Try.ntmps4
    go_wp2_with fail
    refine (awake4 W _ HO0.out).mono ?_
    rintro e w1 ⟨rfl, hO1, hK1⟩
    have HO1 := hid hO1
    have HK1 := hid ((Keep.refl W).trans hK1)
    clear hO1 hK1
    try dsimp only
    go_wp2_with fail
    go_ret
    exact ⟨rfl, HO1.out.below HK1.out.os HK1.out.tape HK1.out.output⟩
  by_cases hkbig : 20 < keep.length
  · have hb1 : decide ((30 : Int) < (xs.length : Int)) = false := by simp; omega
    go_enter Try.func4, Try.ntmps4
    go_wp2_with fail
    refine (awake4 W _ HO0.out).mono ?_
    rintro e w1 ⟨rfl, hO1, hK1⟩
    have HO1 := hid hO1
    have HK1 := hid ((Keep.refl W).trans hK1)
    clear hO1 hK1
    try dsimp only
    go_wp2_with fail
    go_ret
    exact ⟨rfl, HO1.out.below HK1.out.os HK1.out.tape HK1.out.output⟩
  have hb1 : decide ((30 : Int) < (xs.length : Int)) = false := by simp; omega
  have hb2 : decide ((20 : Int) < (keep.length : Int)) = false := by simp; omega
  obtain ⟨a, ha⟩ : ∃ a : Nat, (a : Int) = low after 50 := ⟨(low after 50).toNat, by have := low_in after 50 (by omega); omega⟩
  have ha50 : a < 50 := by have := low_in after 50 (by omega); omega
  have HA := hid ha
  clear ha
  go_enter Try.func4, Try.ntmps4
  go_wp2_with fail
  refine (kNew 6 W _ (by omega) (by omega) HO0.out).mono ?_
  rintro e w1 ⟨d, rfl, hO1, hK1⟩
  have HO1 := hid hO1
  have HK1 := hid hK1
  clear hO1 hK1
  try dsimp only
  go_wp2_with fail
  refine (lowAny after 50 w1 (by omega) (by omega)).mono ?_
  rintro e w' ⟨rfl, rfl⟩
  try dsimp only
  rw [← HA.out]
  go_wp2_with fail
  refine (kArm d (Bk.zero 6) w1 _ HO1.out a (.slice kp keep.length kc) keep (by omega) (Rd.start HKR.out HO1.out.p1) (by omega)).mono ?_
  rintro e w2 ⟨rfl, hO2, hK2⟩
  have HO2 := hid hO2
  have HK2 := hid ((HK1.out).trans hK2)
  clear hO2 hK2
  try dsimp only
  have EA := hid (show (Bk.zero 6).arm a keep = (0, fallD (List.replicate 6 zer) [] a 0 keep [] 0) by simp [Bk.arm, Bk.asked, Bk.zero, fallD])
  rw [EA.out]
  rw [EA.out] at HO2
  have HO2' := hid (show Has (w2.alloc (.cells nils6 43)) (Arr [(.slice none 0 0, [])] w2.heap.size (List.replicate 6 []) :: Pool [(.slice none 0 0, [])] :: Dk d (fallD (List.replicate 6 zer) [] a 0 keep [] 0) :: [old W]) from Arr.made (Pool.nil1 HO2.out) (List.mem_singleton.2 rfl))
  have HK2' := hid (HK2.out.alloc (.cells nils6 43))
  clear EA HO1 HK1 HO2 HK2
  go_wp2_with fail
  rw [show (#[.slice none 0 0, .slice none 0 0, .slice none 0 0, .slice none 0 0, .slice none 0 0, .slice none 0 0] : Array Value) = nils6 from rfl]
  generalize w2.heap.size = g at *
  generalize w2.alloc (.cells nils6 43) = w3 at *
  go_loopw [11] (fun i w => ∃ k : Nat, k ≤ 6 ∧ i = .int .i64 k ∧ Hid (∃ B : Txs, Has w (Arr B g (List.replicate k zer ++ List.replicate (6 - k) []) :: Pool B :: Dk d (fallD (List.replicate 6 zer) [] a 0 keep [] 0) :: [old W])) ∧ Hid (Keep W w)) (fun i _ => 6 - (intOf i).toNat)
  case atStart => exact ⟨0, by omega, rfl, hid ⟨_, HO2'.out⟩, HK2'⟩
  case round =>
    clear HO2' HK2'
    obtain ⟨k, hk, rfl, HY, HK⟩ := hrel
    obtain ⟨B, hO⟩ := HY.out
    have HO := hid hO
    clear hO HY
    by_cases hlt : k < 6
    · have hmk := make128 wr
      have HM := hid (made128 HO.out)
      have HKM := hid (HK.out.alloc (.cells zeros128 5))
      obtain ⟨ht, p, mm, hc⟩ := Arr.at_ HM.out.drop k (by simp; omega)
      have HS := hid (Arr.set (Arr.cons (HM.out.p2.p1.pool_add.p1) (.slice (some ⟨wr.heap.size, 0, none⟩) 128 128, zer)) k List.mem_cons_self)
      go_wp2_with fail
      refine ⟨⟨k + 1, by omega, by go_num, hid ⟨(.slice (some ⟨wr.heap.size, 0, none⟩) 128 128, zer) :: B, ?_⟩, hid (HKM.out.set _ _)⟩, by simp [intOf]; omega⟩
      rw [← fillUp 6 k _ _ hlt]
      exact HS.out
    · obtain rfl : k = 6 := by omega
      rw [show ((6 : Nat) : Int) = (6 : Int) from rfl]
      have HO := hid (show Has wr (Arr B g (List.replicate 6 zer) :: Pool B :: Dk d (fallD (List.replicate 6 zer) [] a 0 keep [] 0) :: [old W]) from HO.out)
      go_upto_block 2 with fail
      go_cut [12, 13, 14] (fun av bv nv wx => Hid (Meet W d g a keep av bv nv wx) ∧ Hid (Keep W wx))
      case first =>
        go_wp2_with fail
        go_loopw [15, 14, 12, 13] (fun i nv av bv w => ∃ k n : Nat, k ≤ xs.length ∧ n ≤ a ∧ i = .int .i64 k ∧ nv = .int .i64 n ∧ Hid (∃ (F : List (List Int)) (Q : List (Int × List Int)) (B : Txs) (ws : List Int) (fs : Int), F.length = 6 ∧ (∀ x ∈ Q, 0 ≤ x.1 ∧ x.1 < 6) ∧ Q.length ≤ k ∧ ws.length ≤ k ∧ 0 ≤ fs ∧ fs ≤ k ∧
          Has w (Arr B g F :: Ints av (Q.map (·.1)) :: Lst B bv (Q.map (·.2)) :: Pool B :: Dk d (fallD F Q a n keep ws fs) :: [old W])) ∧ Hid (Keep W w)) (fun i _ _ _ _ => xs.length - (intOf i).toNat)
        case atStart => exact ⟨0, 0, by omega, by omega, rfl, rfl, hid ⟨List.replicate 6 zer, [], B, [], 0, rfl, by simp, by simp, by simp, by omega, by omega, by
          have h := (Lst.nil (B := B) HO.out).p1
          exact ((h.row_nil 3 1).p1)⟩, HK⟩
        case round =>
          clear HO HK
          obtain ⟨k, n, hk, hna, rfl, rfl, HY, HK⟩ := hrel
          obtain ⟨F, Q, B, ws, fs, hF, hQ, hQl, hws, hf0, hfk, hO⟩ := HY.out
          have HO := hid hO
          have HF := hid hF
          have HQ := hid hQ
          clear hO HY hF hQ
          by_cases hlt : k < xs.length
          · obtain ⟨p2, c2, e, -, -, hR⟩ := (Rd.start HR.out HO.out.p5).form
            simp only [Value.slice.injEq, true_and] at e
            obtain ⟨rfl, rfl⟩ := e
            obtain ⟨vg, vo, rfl, hc⟩ := hR (by omega)
            have hck : wr.cell? ⟨vg, vo + k, none⟩ = some (.int .i64 (nth xs k)) := by
              rw [hc k (by omega), ic_at xs k hlt]; simp [nth, hlt]
            clear hR hc
            obtain ⟨q, hq⟩ : ∃ q : Nat, (q : Int) = low (nth xs k) 6 := ⟨(low (nth xs k) 6).toNat, by have := low_in (nth xs k) 6 (by omega); omega⟩
            have hq6 : q < 6 := by have := low_in (nth xs k) 6 (by omega); omega
            have EL := hid hq
            clear hq
            go_wp2_with fail
            refine (lowAny (nth xs k) 6 wr (by omega) (by omega)).mono ?_
            rintro e w' ⟨rfl, rfl⟩
            try dsimp only
            rw [← EL.out]
            go_wp2_with fail
            refine (fillAny128 k wr _ HO.out).mono ?_
            rintro e w4 ⟨vp4, vc4, rfl, hO4, hK4⟩
            have HO4 := hid hO4
            have HK4 := hid (HK.out.trans hK4)
            clear hO4 hK4 HO HK
            try dsimp only
            by_cases hn : n < a
            · have EW := hid (fw_yes (F := F) (W := Q) (keep := keep) (ws := ws) (fs := fs) (q := q) (t := fill k 128) hn (by rw [HF.out]; exact hq6) (fill128 _))
              go_wp2_with fail
              refine (kWrite d (fallD F Q a n keep ws fs) w4 _ HO4.out.p5 q (.slice vp4 128 vc4) (fill k 128) (by show Q.length ≤ _; omega) (by show ws.length ≤ _; omega) (fun w' h => Bytes.rd h)).mono ?_
              rintro e w5 ⟨rfl, hO5, hK5⟩
              have HO5 := hid hO5
              have HK5 := hid ((HK4.out).trans hK5)
              clear hO5 hK5
              try dsimp only
              rw [EW.out]
              rw [EW.out] at HO5
              clear EW HO4 HK4
              go_wp2_with (at_builtin; refine wpList_append1 rfl _ _ _ rfl Try.underlying22 infoInt rfl (.int .i64 (q : Int)) (HO5.out.p3.alloc' _) rfl 1 _ rfl (by simp) rfl (le_maxLen (by rw [List.length_map]; omega)) (by rw [List.length_map]; omega) ?_)
              intro v6 w6 hO6 hK6
              have HO6 := hid (ints_snoc (xs := Q.map (·.1)) (by rw [List.length_map]; exact hO6))
              have HK6 := hid ((HK5.out.alloc _).trans hK6)
              clear hO6 hK6 HO5 HK5
              go_wp2_with fail
              refine (fillAny128 k w6 _ HO6.out).mono ?_
              rintro e w7 ⟨vp7, vc7, rfl, hO7, hK7⟩
              obtain ⟨R, hR, hO7⟩ := lst_iff.1 (hO7.p6.p1.pool_add.p5)
              have hRl : R.length = Q.length := by have := congrArg List.length hR.1; simpa using this
              have HO7 := hid hO7
              have HR7 := hid (show R.map (·.2) = Q.map (·.2) ∧ ∀ x ∈ R, x ∈ ((.slice vp7 128 vc7 : Value), fill (k : Int) 128) :: B from ⟨hR.1, fun x hx => List.mem_cons_of_mem _ (hR.2 x hx)⟩)
              have HRl := hid hRl
              have HK7 := hid (HK6.out.trans hK7)
              clear hO7 hK7 HO6 HK6 hR hRl
              try dsimp only
              go_wp2_with (at_builtin; refine wpList_append1 rfl _ _ _ rfl Try.underlying27 infoBs rfl (.slice vp7 128 vc7) (HO7.out.alloc' _) rfl 1 _ rfl (by simp) rfl (le_maxLen (by have := HRl.out; omega)) (by have := HRl.out; omega) ?_)
              intro v8 w8 hO8 hK8
              have HO8 := hid (((Arr.cons ((Lst.snoc HR7.out List.mem_cons_self hO8).p4.drop.p4) (.slice vp7 128 vc7, fill (k : Int) 128)).p3).p1)
              have HK8 := hid ((HK7.out.alloc _).trans hK8)
              clear hO8 hK8 HO7 HK7 HR7 HRl
              rw [show Q.map (·.1) ++ [(q : Int)] = (Q ++ [((q : Int), fill (k : Int) 128)]).map (·.1) by simp, show Q.map (·.2) ++ [fill (k : Int) 128] = (Q ++ [((q : Int), fill (k : Int) 128)]).map (·.2) by simp] at HO8
              have hQl' : (Q ++ [((q : Int), fill (k : Int) 128)]).length ≤ k + 1 := by simp; omega
              have hws' : (ws ++ [(q : Int)]).length ≤ k + 1 := by simp; omega
              have HQ' := hid (show ∀ x ∈ Q ++ [((q : Int), fill (k : Int) 128)], 0 ≤ x.1 ∧ x.1 < 6 from fun x hx => (List.mem_append.1 hx).elim (HQ.out x) fun e => by rw [List.mem_singleton.1 e]; exact ⟨by omega, by omega⟩)
              clear HQ
              generalize Q ++ [((q : Int), fill (k : Int) 128)] = Q' at *
              generalize ws ++ [(q : Int)] = ws' at *
              generalize ((.slice vp7 128 vc7 : Value), fill (k : Int) 128) :: B = B' at *
              obtain ⟨ap, ac, e6, hap⟩ := Ints.form HO8.out.p1
              obtain ⟨bp, bc', e8, hbp⟩ := Lst.form HO8.out.p2
              rw [List.length_map] at e6 e8 hap hbp
              subst e6 e8
              have HAP := hid hap
              have HBP := hid hbp
              clear hap hbp
              rcases hb : (bits BinOp.and IntKind.i64 (fl / 2 ^ k) 1 == 1) with _ | _
              · go_wp2_with fail
                exact ⟨⟨k + 1, n + 1, by omega, by omega, by go_num, by go_num, hid ⟨F, Q', B', ws', fs, HF.out, HQ'.out, by omega, by omega, by omega, by omega, HO8.out⟩, HK8⟩, by simp [intOf]; omega⟩
              · by_cases hn2 : n + 1 < a
                · have hn3 : (n : Int) + 1 < (a : Int) := by omega
                  have EF := hid (ff_yes (F := F) (W := Q') (keep := keep) (ws := ws') (fs := fs) hn2)
                  go_wp2_with fail
                  refine (kFlush d (fallD F Q' a (n + 1) keep ws' fs) w8 _ HO8.out.p4 (by show 0 ≤ fs; omega) (by show fs ≤ _; omega)).mono ?_
                  rintro e w9 ⟨rfl, hO9, hK9⟩
                  have HO9 := hid hO9
                  have HK9 := hid ((HK8.out).trans hK9)
                  clear hO9 hK9
                  try dsimp only
                  rw [EF.out]
                  rw [EF.out] at HO9
                  clear EF HO8 HK8
                  go_wp2_with fail
                  go_loopw [19] (fun j w => ∃ i : Nat, i ≤ Q'.length ∧ j = .int .i64 i ∧ Hid (Has w (Dk d (fallD (blayAll F Q') [] a (n + 1 + 1) keep ws' (fs + 1)) :: Arr B' g (blayAll F (Q'.take i)) :: Ints (.slice ap Q'.length ac) (Q'.map (·.1)) :: Lst B' (.slice bp Q'.length bc') (Q'.map (·.2)) :: Pool B' :: [old W])) ∧ Hid (Keep W w)) (fun j _ => Q'.length - (intOf j).toNat)
                  case atStart => exact ⟨0, by omega, rfl, hid HO9.out, HK9⟩
                  case round =>
                    clear HO9 HK9
                    obtain ⟨i, hi, rfl, HO, HK⟩ := hrel
                    by_cases hil : i < Q'.length
                    · obtain ⟨ag, rfl⟩ := HAP.out (by omega)
                      obtain ⟨bg, rfl⟩ := HBP.out (by omega)
                      have hat := HQ'.out _ (List.getElem_mem hil)
                      obtain ⟨qi, hqi⟩ := Int.eq_ofNat_of_zero_le hat.1
                      have hqi6 : qi < 6 := by omega
                      have hca := Ints.at_ HO.out.p2 i (by simpa using hil)
                      obtain ⟨-, -, pp, pm, hcb, -, hBm⟩ := Lst.at_ HO.out.p4.p4 i (by simpa using hil)
                      obtain ⟨ht, p, mm, hc⟩ := Arr.at_ HO.out.p1.p4.p1 qi (by rw [blayAll_len, HF.out]; exact hqi6)
                      simp only [List.getElem_map] at hca hcb hBm
                      rw [hqi] at hca
                      have HQI := hid hqi
                      have HBm := hid hBm
                      clear hat hqi hBm
                      have HLQ := hid (blayAll_take F Q' i hil)
                      have hz0 : (0 : Int) ≤ (qi : Int) := by omega
                      have hz6 : (qi : Int) < 6 := by omega
                      go_wp2_with fail
                      refine region_tail1 (fun w => w.cell? ⟨ag, i, none⟩ = some (.int .i64 (qi : Int)) ∧ w.cell? ⟨bg, i, none⟩ = some (.slice pp Q'[i].2.length pm)) (by kernel_rfl) (by kernel_rfl) (by kernel_rfl) (by decide) ⟨hca, hcb⟩ ?_
                      repeat (first
                        | (refine wpL_read (by rfl) (by rfl) ?_ ?_ ?_; rotate_left; (rintro w ⟨hS, hS1⟩; go_simp; with_reducible rfl); simp only [Act.put, List.setIfInBounds_toArray, List.set_cons_zero, List.set_cons_succ])
                        | (refine wpL_skip (by rfl) ?_; simp only [Act.put, List.setIfInBounds_toArray, List.set_cons_zero, List.set_cons_succ]))
                      refine wpL_nil ?_
                      refine wpOp_last rfl (by rfl) ?_
                      have HS := hid ((Arr.set HO.out.p1 qi HBm.out).drew)
                      go_simp
                      go_wp2_with fail
                      refine ⟨⟨i + 1, by omega, by go_num, hid ?_, hid ((HK.out.set _ _).drew)⟩, by simp [intOf]; omega⟩
                      rw [HLQ.out]
                      unfold blay
                      rw [HQI.out]
                      exact HS.out.p1
                    · obtain rfl : i = Q'.length := by omega
                      go_wp2_with fail
                      exact ⟨⟨k + 1, n + 1 + 1, by omega, by omega, by go_num, by go_num, hid ⟨blayAll F Q', [], B', ws', fs + 1, by rw [blayAll_len]; exact HF.out, by simp, by simp, by omega, by omega, by omega, by have h := HO.out; rw [List.take_length] at h; exact ((Lst.nil (B := B') (h.p2.drop.p2.drop.b2)).row_nil 3 1).p2⟩, HK⟩, by simp [intOf]; omega⟩
                · have hn3 : ¬ (n : Int) + 1 < (a : Int) := by omega
                  have EF := hid (ff_no (F := F) (W := Q') (keep := keep) (ws := ws') (fs := fs) hn2)
                  go_wp2_with fail
                  refine (kFlush d (fallD F Q' a (n + 1) keep ws' fs) w8 _ HO8.out.p4 (by show 0 ≤ fs; omega) (by show fs ≤ _; omega)).mono ?_
                  rintro e w9 ⟨rfl, hO9, hK9⟩
                  have HO9 := hid hO9
                  have HK9 := hid ((HK8.out).trans hK9)
                  clear hO9 hK9
                  try dsimp only
                  rw [EF.out]
                  rw [EF.out] at HO9
                  clear EF HO8 HK8
                  go_wp2_with fail
                  go_meet
                  exact ⟨hid ⟨n + 1, F, Q', B', (fallD F Q' a (n + 1) keep ws' fs).crash keep, by go_num, HF.out, HQ'.out, by omega, by show ws'.length ≤ 30; omega, .inr ⟨rfl, rfl, rfl, rfl⟩, HO9.out.b4⟩, HK9⟩
            · have EW := hid (fw_no (F := F) (W := Q) (keep := keep) (ws := ws) (fs := fs) (q := q) (t := fill k 128) hn (by rw [HF.out]; exact hq6) (fill128 _))
              go_wp2_with fail
              refine (kWrite d (fallD F Q a n keep ws fs) w4 _ HO4.out.p5 q (.slice vp4 128 vc4) (fill k 128) (by show Q.length ≤ _; omega) (by show ws.length ≤ _; omega) (fun w' h => Bytes.rd h)).mono ?_
              rintro e w5 ⟨rfl, hO5, hK5⟩
              have HO5 := hid hO5
              have HK5 := hid ((HK4.out).trans hK5)
              clear hO5 hK5
              try dsimp only
              rw [EW.out]
              rw [EW.out] at HO5
              clear EW HO4 HK4
              go_wp2_with fail
              go_meet
              exact ⟨hid ⟨n, F, Q, B, (fallD F Q a n keep ws fs).crash keep, rfl, HF.out, HQ.out, by omega, by show ws.length ≤ 30; omega, .inr ⟨rfl, rfl, rfl, rfl⟩, HO5.out.p1.drop.b4⟩, HK5⟩
          · obtain rfl : k = xs.length := by omega
            go_wp2_with fail
            go_meet
            refine ⟨hid ⟨n, F, Q, B, fallD F Q a n keep ws fs, rfl, HF.out, HQ.out, by omega, by show ws.length ≤ 30; omega, .inl ⟨rfl, by omega⟩, HO.out⟩, HK⟩
      case rest =>
        clear HO HK
        obtain ⟨HM, HK⟩ := hcut
        obtain ⟨n, F, Q, B, D, rfl, hF, hQ, hQl, hws, hD, hO⟩ := HM.out
        have HO := hid hO
        have HF := hid hF
        have HQ := hid hQ
        have HD := hid hD
        have HWS := hid hws
        clear hO hF hQ hws HM hD
        go_wp2_with fail
        refine (kOn d D wc _ HO.out.p4).mono ?_
        rintro e w' ⟨rfl, rfl⟩
        try dsimp only
        rcases hon : D.on with _ | _
        · have hD := HD.out.resolve_left (fun h => by rw [hon] at h; exact absurd h.1 (by decide))
          have HD' := hid hD
          clear hD HD
          obtain ⟨ap, ac, e6, hap⟩ := Ints.form HO.out.p1
          obtain ⟨bp, bc', e8, hbp⟩ := Lst.form HO.out.p2
          rw [List.length_map] at e6 e8 hap hbp
          subst e6 e8
          have HAP := hid hap
          have HBP := hid hbp
          clear hap hbp
          have HO := hid (show Has wc (Dk d D :: Arr B g (blayKept keep F (Q.take 0)) :: Ints (.slice ap Q.length ac) (Q.map (·.1)) :: Lst B (.slice bp Q.length bc') (Q.map (·.2)) :: Pool B :: [old W]) from HO.out.p4)
          have hon' := hid hon
          clear hon
          go_wp2_with fail
          go_loopw [20] (fun j w => ∃ i : Nat, i ≤ Q.length ∧ j = .int .i64 i ∧ Hid (Has w (Dk d D :: Arr B g (blayKept keep F (Q.take i)) :: Ints (.slice ap Q.length ac) (Q.map (·.1)) :: Lst B (.slice bp Q.length bc') (Q.map (·.2)) :: Pool B :: [old W])) ∧ Hid (Keep W w)) (fun j _ => Q.length - (intOf j).toNat)
          case atStart => exact ⟨0, by omega, rfl, HO, HK⟩
          case round =>
            clear HO HK
            obtain ⟨i, hi, rfl, HO, HK⟩ := hrel
            by_cases hil : i < Q.length
            · have HLQ := hid (blayKept_take keep F Q i hil)
              by_cases hk0 : keep.length = 0
              · have HKT := hid (show kept keep i = false by simp [kept, hk0])
                go_wp2_with fail
                refine ⟨⟨i + 1, by omega, by go_num, hid ?_, HK⟩, by simp [intOf]; omega⟩
                rw [HLQ.out, HKT.out]
                exact HO.out
              · obtain ⟨r, hr⟩ : ∃ r : Nat, (i : Int) % (keep.length : Int) = (r : Int) := ⟨i % keep.length, by omega⟩
                have hrl : (r : Int) < keep.length := by rw [← hr]; exact Int.emod_lt_of_pos _ (by omega)
                have hrl' : r < keep.length := by omega
                obtain ⟨kp', kc', ek, -, -, hkr⟩ := (Rd.start HKR.out HO.out.p5).form
                simp only [Value.slice.injEq, true_and] at ek
                obtain ⟨rfl, rfl⟩ := ek
                obtain ⟨kg, ko, rfl, hkc⟩ := hkr (by omega)
                have hkv : wr.cell? ⟨kg, ko + r, none⟩ = some (.bool keep[r]) := by
                  rw [hkc r (by omega)]; simp [hrl']
                clear hkr hkc
                have HKT := hid (show kept keep i = keep[r] from by
                  have : i % keep.length = r := by exact_mod_cast hr
                  simp [kept, this, hrl']; omega)
                generalize hkb : keep[r] = kb at *
                clear hkb
                cases kb
                · go_wp2_with fail
                  refine ⟨⟨i + 1, by omega, by go_num, hid ?_, HK⟩, by simp [intOf]; omega⟩
                  rw [HLQ.out, HKT.out]
                  exact HO.out
                · obtain ⟨ag, rfl⟩ := HAP.out (by omega)
                  obtain ⟨bg, rfl⟩ := HBP.out (by omega)
                  have hat := HQ.out _ (List.getElem_mem hil)
                  obtain ⟨qi, hqi⟩ := Int.eq_ofNat_of_zero_le hat.1
                  have hqi6 : qi < 6 := by omega
                  have hca := Ints.at_ HO.out.p2 i (by simpa using hil)
                  obtain ⟨-, -, pp, pm, hcb, -, hBm⟩ := Lst.at_ HO.out.p4.p4 i (by simpa using hil)
                  obtain ⟨ht, p, mm, hc⟩ := Arr.at_ HO.out.p1.p4.p1 qi (by rw [blayKept_len, HF.out]; exact hqi6)
                  simp only [List.getElem_map] at hca hcb hBm
                  rw [hqi] at hca
                  have HQI := hid hqi
                  have HBm := hid hBm
                  clear hat hqi hBm
                  have hz0 : (0 : Int) ≤ (qi : Int) := by omega
                  have hz6 : (qi : Int) < 6 := by omega
                  go_wp2_with fail
                  refine region_tail1 (fun w => w.cell? ⟨ag, i, none⟩ = some (.int .i64 (qi : Int)) ∧ w.cell? ⟨bg, i, none⟩ = some (.slice pp Q[i].2.length pm)) (by kernel_rfl) (by kernel_rfl) (by kernel_rfl) (by decide) ⟨hca, hcb⟩ ?_
                  repeat (first
                    | (refine wpL_read (by rfl) (by rfl) ?_ ?_ ?_; rotate_left; (rintro w ⟨hS, hS1⟩; go_simp; with_reducible rfl); simp only [Act.put, List.setIfInBounds_toArray, List.set_cons_zero, List.set_cons_succ])
                    | (refine wpL_skip (by rfl) ?_; simp only [Act.put, List.setIfInBounds_toArray, List.set_cons_zero, List.set_cons_succ]))
                  refine wpL_nil ?_
                  refine wpOp_last rfl (by rfl) ?_
                  have HS := hid ((Arr.set HO.out.p1 qi HBm.out).drew)
                  go_simp
                  go_wp2_with fail
                  refine ⟨⟨i + 1, by omega, by go_num, hid ?_, hid ((HK.out.set _ _).drew)⟩, by simp [intOf]; omega⟩
                  rw [HLQ.out, HKT.out, if_pos rfl]
                  unfold blay
                  rw [HQI.out]
                  exact HS.out.p1
            · obtain rfl : i = Q.length := by omega
              have hFl : D.firm.length = 6 := by rw [HD'.out.2.1, blayKept_len]; exact HF.out
              have HO := hid (show Has wr (Dk d D :: Arr B g D.firm :: Ints (.slice ap Q.length ac) (Q.map (·.1)) :: Lst B (.slice bp Q.length bc') (Q.map (·.2)) :: Pool B :: [old W]) by rw [HD'.out.2.1]; have h := HO.out; rw [List.take_length] at h; exact h)
              have XB := hid (show D.boot = (0, { D with on := true }) by unfold Bk.boot; rw [hon'.out]; rfl)
              have XW := hid (Bk.write_ok (D := { D with on := true }) rfl HD'.out.2.2.2 (a := 0) (by omega) (by show (0 : Int) < (D.firm.length : Int); omega) (fill128 1))
              have XL := hid (show ({ D with on := true } : Bk).waits.length ≤ 1000000000 ∧ ({ D with on := true } : Bk).writes.length ≤ 1000000000 from ⟨by show D.waits.length ≤ _; rw [HD'.out.2.2.1]; simp, by show D.writes.length ≤ _; have := HWS.out; omega⟩)
              have HFl := hid hFl
              clear hFl HD' hon'
              generalize ({ D with on := true } : Bk) = E at *
              go_wp2_with fail
              refine region_text (fun _ => True) (by kernel_rfl) (by kernel_rfl) trivial ?_
              repeat (first
                | (refine wpL_read (by rfl) (by rfl) ?_ ?_ ?_; rotate_left; (intro w hS; go_simp; with_reducible rfl); simp only [Act.put, List.setIfInBounds_toArray, List.set_cons_zero, List.set_cons_succ]) | (refine wpL_skip (by rfl) ?_; simp only [Act.put, List.setIfInBounds_toArray, List.set_cons_zero, List.set_cons_succ]))
              refine wpL_act (by rfl) (by rfl) (fun K hK => ?_)
              go_simp
              refine (kImage d D _ _ HO.out.drew (by rw [HFl.out]; omega)).mono ?_
              rintro e w5 ⟨v5, rfl, hO5, hK5⟩
              have HO5 := hid hO5
              have HK5 := hid ((HK.out.drew).trans hK5)
              clear hO5 hK5
              try dsimp only
              refine hK.out _ _ (trivial) ?_
              clear hK K
              try simp only [Act.put, List.setIfInBounds_toArray, List.set_cons_zero, List.set_cons_succ]
              repeat (first
                | (refine wpL_read (by rfl) (by rfl) ?_ ?_ ?_; rotate_left; (intro w hS; go_simp; with_reducible rfl); simp only [Act.put, List.setIfInBounds_toArray, List.set_cons_zero, List.set_cons_succ]) | (refine wpL_skip (by rfl) ?_; simp only [Act.put, List.setIfInBounds_toArray, List.set_cons_zero, List.set_cons_succ]))
              refine wpL_act (by rfl) (by rfl) (fun K hK => ?_)
              go_simp
              refine (sameTexts v5 _ D.firm D.firm w5 (Prts.rd HO5.out) (Arr.rd HO5.out.p2.p5.p1 HFl.out)).mono ?_
              rintro e w' ⟨rfl, nq6, rfl⟩
              have HO6 := hid ((HO5.out.drop).drewN nq6)
              have HK6 := hid ((HK5.out).drewN nq6)
              try dsimp only
              refine hK.out _ _ (trivial) ?_
              clear hK K
              try simp only [Act.put, List.setIfInBounds_toArray, List.set_cons_zero, List.set_cons_succ]
              simp only [decide_true]
              repeat (first
                | (refine wpL_read (by rfl) (by rfl) ?_ ?_ ?_; rotate_left; (intro w hS; go_simp; with_reducible rfl); simp only [Act.put, List.setIfInBounds_toArray, List.set_cons_zero, List.set_cons_succ]) | (refine wpL_skip (by rfl) ?_; simp only [Act.put, List.setIfInBounds_toArray, List.set_cons_zero, List.set_cons_succ]))
              refine wpL_act (by rfl) (by rfl) (fun K hK => ?_)
              go_simp
              refine (kBoot d D _ _ HO6.out).mono ?_
              rintro e w7 ⟨rfl, hO7, hK7⟩
              have HO7 := hid hO7
              have HK7 := hid ((HK6.out).trans hK7)
              clear hO7 hK7
              try dsimp only
              refine hK.out _ _ (trivial) ?_
              clear hK K
              try simp only [Act.put, List.setIfInBounds_toArray, List.set_cons_zero, List.set_cons_succ]
              rw [XB.out]
              rw [XB.out] at HO7
              repeat (first
                | (refine wpL_read (by rfl) (by rfl) ?_ ?_ ?_; rotate_left; (intro w hS; go_simp; with_reducible rfl); simp only [Act.put, List.setIfInBounds_toArray, List.set_cons_zero, List.set_cons_succ]) | (refine wpL_skip (by rfl) ?_; simp only [Act.put, List.setIfInBounds_toArray, List.set_cons_zero, List.set_cons_succ]))
              refine wpL_act (by rfl) (by rfl) (fun K hK => ?_)
              go_simp
              refine (fillAny128 1 w7 _ HO7.out).mono ?_
              rintro e w8 ⟨vp8, vc8, rfl, hO8, hK8⟩
              have HO8 := hid hO8
              have HK8 := hid (HK7.out.trans hK8)
              clear hO8 hK8
              try dsimp only
              refine hK.out _ _ trivial ?_
              clear hK K
              try simp only [Act.put, List.setIfInBounds_toArray, List.set_cons_zero, List.set_cons_succ]
              refine wpL_act (by rfl) (by rfl) (fun K hK => ?_)
              go_simp
              refine (kWrite d E w8 _ HO8.out.p1 0 (.slice vp8 128 vc8) (fill 1 128) XL.out.1 XL.out.2 (fun w' h => Bytes.rd h)).mono ?_
              rintro e w9 ⟨rfl, hO9, hK9⟩
              have HO9 := hid hO9
              have HK9 := hid ((HK8.out).trans hK9)
              clear hO9 hK9
              try dsimp only
              refine hK.out _ _ (trivial) ?_
              clear hK K
              try simp only [Act.put, List.setIfInBounds_toArray, List.set_cons_zero, List.set_cons_succ]
              rw [XW.out]
              repeat (first
                | (refine wpL_read (by rfl) (by rfl) ?_ ?_ ?_; rotate_left; (intro w hS; go_simp; with_reducible rfl); simp only [Act.put, List.setIfInBounds_toArray, List.set_cons_zero, List.set_cons_succ]) | (refine wpL_skip (by rfl) ?_; simp only [Act.put, List.setIfInBounds_toArray, List.set_cons_zero, List.set_cons_succ]))
              refine wpL_act (by rfl) (by rfl) (fun K hK => ?_)
              go_simp
              refine (awake4 w9 _ HO9.out).mono ?_
              rintro e w10 ⟨rfl, hO10, hK10⟩
              have HO10 := hid hO10
              have HK10 := hid ((HK9.out).trans hK10)
              clear hO10 hK10
              try dsimp only
              refine hK.out _ _ (trivial) ?_
              clear hK K
              try simp only [Act.put, List.setIfInBounds_toArray, List.set_cons_zero, List.set_cons_succ]
              repeat (first
                | (refine wpL_read (by rfl) (by rfl) ?_ ?_ ?_; rotate_left; (intro w hS; go_simp; with_reducible rfl); simp only [Act.put, List.setIfInBounds_toArray, List.set_cons_zero, List.set_cons_succ]) | (refine wpL_skip (by rfl) ?_; simp only [Act.put, List.setIfInBounds_toArray, List.set_cons_zero, List.set_cons_succ]))
              refine wpL_nil ?_
              go_wp2_with fail
              go_ret
              exact ⟨rfl, HO10.out.p6.below HK10.out.os HK10.out.tape HK10.out.output⟩
        · have hD := HD.out.resolve_right (fun h => by rw [hon] at h; exact absurd h.1 (by decide))
          have hna : n ≤ a := hD.2
          clear hD HD
          go_wp2_with fail
          refine (awake4 wc _ HO.out).mono ?_
          rintro e w5 ⟨rfl, hO5, hK5⟩
          have HO5 := hid hO5
          have HK5 := hid ((HK.out).trans hK5)
          clear hO5 hK5
          try dsimp only
          go_wp2_with fail
          go_ret
          exact ⟨rfl, HO5.out.p5.below HK5.out.os HK5.out.tape HK5.out.output⟩
end Go.Proofs.Ytbcilhcmjkgkgaa
