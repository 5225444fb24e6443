/- TEXTS of mine, merged. -/
import Derived.Test.YtbggnbahmdgbdaaM8
import Derived.Test.YtbggnbahmdgbdaaM11
import Derived.Test.YtbggnbahmdgbdaaM14
import Derived.Test.YtbggnbahmdgbdaaM1
import Derived.ProofKit
import Derived.OpenShut
import Derived.ShutString
import Derived.ChangeOld
import Derived.Deep.Slices
/- THE WALK of MkfsTells. -/
namespace Go.Proofs.Ytbggnbahmdgbdaa
open Go.RowKit Go.Own Go.Sl Go.Gm Go.Dk
theorem Rd.start {W w : World} {L : List HP} {v : Value} {size n : Nat} {xs : List Value} (hr : Rd W v size n xs) (h : Has w (old W :: L)) : Rd w v size n xs := hr.cellsOld h.old_look
/-- Low leaves the world as it is. -/
def lowQ : Qc := ⟨[6], fun _ args => .int .i64 (low (intOf (args.getD 0 undef)) (intOf (args.getD 1 undef)))⟩
set_option maxRecDepth 100000 in
set_option maxHeartbeats 4000000 in
theorem rImageNo (g : Geo) (w : World) (L : List HP) (hm : may g = false) (hO : Has w L) :
    Calls Try.prog 15 #[geoV g] w fun e w' => e = .returned (.slice none 0 0) ∧ Has w' L ∧ Keep w w' := by
  have HO := hid (hO.alloc (.cells (gcell g) 24))
  have HK := hid ((Keep.refl w).alloc (.cells (gcell g) 24))
  have HMY : Hid (∀ w' L, Has w' L → Calls Try.prog 39 #[geoV g] w' fun e w'' => e = .returned (.bool false) ∧ Has w'' L ∧ Keep w' w'') := hid fun w' L h => by
    have := r5May g w' L h
    rwa [hm] at this
  have hc := (hO.alloc (.cells (gcell g) 24)).cells
  clear hO hm
  unfold geoV at *
  go_enter Try.func15, Try.ntmps15
  go_wp2_with fail
  refine (HMY.out _ _ HO.out).mono ?_
  rintro e w2 ⟨rfl, hO2, hK2⟩
  have HO2 := hid hO2
  have HK2 := hid ((HK.out).trans hK2)
  clear hO2 hK2
  try dsimp only
  go_wp2_with fail
  go_ret
  exact ⟨rfl, HO2.out.drop, HK2.out⟩
/-- The image of any geometry. -/
def imgA (g : Geo) : List (List Int) := if may g = true then imgL g else []
theorem imageAny (g : Geo) (w : World) (L : List HP) (hO : Has w L) : Calls Try.prog 13 #[geoV g] w fun e w' => ∃ v', e = .returned v' ∧ Has w' (Wrt v' (imgA g) :: L) ∧ Keep w w' := by
  unfold imgA
  by_cases hm : may g = true
  · rw [if_pos hm]; exact image g w L hm hO
  · rw [if_neg hm]
    exact (imageNo g w L (by simpa using hm) hO).mono fun e w' ⟨h1, h2, h3⟩ => ⟨_, h1, Wrt.nil h2, h3⟩
theorem rImageAny (g : Geo) (w : World) (L : List HP) (hO : Has w L) : Calls Try.prog 15 #[geoV g] w fun e w' => ∃ v', e = .returned v' ∧ Has w' (Wrt v' (imgA g) :: L) ∧ Keep w w' := by
  unfold imgA
  by_cases hm : may g = true
  · rw [if_pos hm]; exact rImage g w L hm hO
  · rw [if_neg hm]
    exact (rImageNo g w L (by simpa using hm) hO).mono fun e w' ⟨h1, h2, h3⟩ => ⟨_, h1, Wrt.nil h2, h3⟩
theorem imgA_len (g : Geo) : (imgA g).length ≤ 842 := by
  unfold imgA
  split
  · rename_i hm
    obtain ⟨n, hn, -, hb⟩ := sectors_nat hm
    rw [imgL_len, hn]
    omega
  · simp
/-- The same slices, the same lengths. -/
def Like (B B' : Txs) : Prop := B'.map (fun x => (x.1, x.2.length)) = B.map (fun x => (x.1, x.2.length))
theorem Like.at_ {B B' : Txs} (h : Like B B') {x : Value × List Int} (hx : x ∈ B) : ∃ (j : Nat) (hj : j < B'.length), B'[j].1 = x.1 ∧ B'[j].2.length = x.2.length := by
  obtain ⟨j, hj, e⟩ := List.getElem_of_mem hx
  have hl : B'.length = B.length := by have := congrArg List.length h; simpa using this
  refine ⟨j, by omega, ?_⟩
  have h2 := congrArg (fun l => l[j]?) h
  simp only [List.getElem?_map, List.getElem?_eq_getElem hj, List.getElem?_eq_getElem (show j < B'.length by omega), Option.map_some, Option.some.injEq, Prod.mk.injEq] at h2
  rw [e] at h2
  exact h2
theorem Like.set {B B' : Txs} (h : Like B B') {j : Nat} (hj : j < B'.length) {ys : List Int} (hy : ys.length = B'[j].2.length) : Like B (B'.set j (B'[j].1, ys)) := by
  unfold Like at *
  rw [List.map_set, ← h]
  apply List.ext_getElem?
  intro i
  rw [List.getElem?_set]
  split
  · rename_i e
    subst e
    simp [hj, hy]
  · rfl
set_option maxRecDepth 100000 in
set_option maxHeartbeats 8000000 in
theorem tells20Walk (x y z s : Int) (v : Value) (ds : List Int) (w : World) (hr : Rd w v 1 ds.length (ic ds)) : Calls Try.prog 4 #[.agg #[.int .i64 x, .int .i64 y, .int .i64 z], .int .i64 s, v] w fun e w' => e = .returned (.bool true) ∧ Below w.heap.size w w' := by
  obtain ⟨g, ex, ey, ez⟩ : ∃ g : Geo, g.n = x ∧ g.i = y ∧ g.b = z := ⟨⟨x, y, z⟩, rfl, rfl, rfl⟩
  subst ex ey ez
  have HO := hid ((Has.start w).alloc (.cells (gcell g) 24))
  have HK := hid ((Keep.refl w).alloc (.cells (gcell g) 24))
  obtain ⟨vp, vc, rfl, hvc, hvl, -⟩ := hr.form
  have HR := hid hr
  have HI := hid (fun w' L (h : Has w' L) => imageAny g w' L h)
  have HJ := hid (fun w' L (h : Has w' L) => rImageAny g w' L h)
  have hc := ((Has.start w).alloc (.cells (gcell g) 24)).cells
  have HLEN := hid (imgA_len g)
  clear hr
  unfold geoV at HI HJ
  by_cases hs4 : 400 < s
  · go_enter Try.func4, Try.ntmps4
    go_wp2_with fail
    refine (awake20 _ _ HO.out).mono ?_
    rintro e w2 ⟨rfl, hO2, hK2⟩
    have HO2 := hid hO2
    have HK2 := hid ((HK.out).trans hK2)
    clear hO2 hK2
    try dsimp only
    go_wp2_with fail
    go_ret
    exact ⟨rfl, HO2.out.drop.below HK2.out.os HK2.out.tape HK2.out.output⟩
  · by_cases hd2 : 20 < ds.length
    · have hd2i : (20 : Int) < (ds.length : Int) := by omega
      go_enter Try.func4, Try.ntmps4
      go_wp2_with fail
      refine (awake20 _ _ HO.out).mono ?_
      rintro e w2 ⟨rfl, hO2, hK2⟩
      have HO2 := hid hO2
      have HK2 := hid ((HK.out).trans hK2)
      clear hO2 hK2
      try dsimp only
      go_wp2_with fail
      go_ret
      exact ⟨rfl, HO2.out.drop.below HK2.out.os HK2.out.tape HK2.out.output⟩
    · have hd2i : ¬ (20 : Int) < (ds.length : Int) := by omega
      have HDL := hid (show ds.length ≤ 20 by omega)
      have HS4 := hid hs4
      go_enter Try.func4, Try.ntmps4
      go_wp2_with fail
      refine (HI.out _ _ HO.out).mono ?_
      rintro e w2 ⟨v2, rfl, hO2, hK2⟩
      have HO2 := hid hO2
      have HK2 := hid ((HK.out).trans hK2)
      clear hO2 hK2
      try dsimp only
      clear hc HO HK hs4 hd2 hd2i
      generalize w.heap.size = g0 at *
      have hc := HO2.out.p1.cells
      go_wp2_with fail
      refine (HJ.out _ _ HO2.out).mono ?_
      rintro e w3 ⟨v3, rfl, hO3, hK3⟩
      have HO3 := hid hO3
      have HK3 := hid ((HK2.out).trans hK3)
      clear hO3 hK3
      try dsimp only
      clear hc HO2 HK2
      have HSM := hid (sameTexts v2 v3 (imgA g) (imgA g) w3 (Wrt.rd HO3.out.p1) (Wrt.rd HO3.out))
      rw [decide_eq_true rfl] at HSM
      go_wp2_with fail
      refine (HSM.out).mono ?_
      rintro e w' ⟨rfl, nq4, rfl⟩
      have HO4 := hid ((HO3.out.p1).drewN nq4)
      have HK4 := hid ((HK3.out).drewN nq4)
      try dsimp only
      generalize w3.drewN nq4 = w4 at *
      clear HSM HO3 HK3
      obtain ⟨R, B, ⟨hR, hBB⟩, h5⟩ := wrt_iff.1 HO4.out
      have HO5 := hid (show Has w4 (row v2 35 1 R.length (R.map (·.1)) :: poolc 5 B :: pt g0 (.cells (gcell g) 24) :: [old w]) from h5.re 4 [0, 1, 3])
      have HRL := hid (show R.length ≤ 842 by
        have := HLEN.out
        rw [← hR, List.length_map] at this
        exact this)
      have HBB := hid hBB
      have HXL : Hid (∀ x ∈ R, x.2.length ≤ 1000) := hid fun x hx => by
        have hm : x.2 ∈ imgA g := by rw [← hR]; exact List.mem_map_of_mem hx
        unfold imgA at hm
        split at hm
        · rename_i hmay
          obtain ⟨j, hj, e⟩ := List.getElem_of_mem hm
          rw [img_128 hmay (j := j) (x := x.2) (by rw [List.getElem?_eq_getElem hj, e])]
          omega
        · cases hm
      obtain ⟨p2, c2, rfl, -, -, hcs2⟩ := HO5.out.rd.form
      clear h5 hR hBB HO4 hcs2
      go_wp2_with fail
      go_loopw [8] (fun i w' => ∃ k : Nat, k ≤ R.length ∧ i = .int .i64 k ∧ Hid (∃ B' : Txs, Like B B' ∧ Has w' (row (.slice p2 R.length c2) 35 1 R.length (R.map (·.1)) :: poolc 5 B' :: pt g0 (.cells (gcell g) 24) :: [old w])) ∧ Hid (Keep w w')) (fun i _ => R.length - (intOf i).toNat)
      case atStart => exact ⟨0, by omega, rfl, hid ⟨B, rfl, HO5.out⟩, HK4⟩
      case round =>
        clear HO5 HK4
        obtain ⟨k, hk, rfl, HX, HK⟩ := hrel
        obtain ⟨B', hL, hO⟩ := HX.out
        have HO := hid hO
        have HL := hid hL
        clear hO hL HX
        by_cases hlt : k < R.length
        · have hki : (k : Int) < (R.length : Int) := by omega
          have hk0 : (0 : Int) ≤ (k : Int) := by omega
          have hnb : (R.length : Int) ≤ 842 := by have := HRL.out; omega
          obtain ⟨gr, rfl⟩ : ∃ gr, p2 = some ⟨gr, 0, none⟩ := by
            obtain ⟨-, h | ⟨gr, cap, cur, e, -⟩⟩ := HO.out.row_cases
            · have := h.2.1; omega
            · injection e with e; exact ⟨gr, e⟩
          have hcx : wr.cell? ⟨gr, k, none⟩ = some R[k].1 := by
            rw [(HO.out.row_cells).2.1 k (by omega), List.getElem?_map, List.getElem?_eq_getElem hlt]; rfl
          obtain ⟨j, hj, e1, e2⟩ := HL.out.at_ (HBB.out _ (List.getElem_mem hlt))
          have HE2 := hid (show B'[j].2.length ≤ 1000 by rw [e2]; exact HXL.out _ (List.getElem_mem hlt))
          have HP := hid (show Has wr (Bytes B'[j].1 B'[j].2 :: poolc 5 (B'.eraseIdx j) :: row (.slice (some ⟨gr, 0, none⟩) R.length c2) 35 1 R.length (R.map (·.1)) :: pt g0 (.cells (gcell g) 24) :: [old w]) from HO.out.p1.pool_out j hj)
          have HKO := hid (overKeep B'[j].1 B'[j].2 wr _ HP.out (by have := HE2.out; omega))
          rw [e1] at HKO
          have HE1 := hid e1
          clear hk HO HP e1 e2
          have HLT := hid hlt
          generalize hrk : R[k].1 = xk at *
          clear hrk hlt
          go_wp2_with fail
          refine HKO.out.mono ?_
          rintro e w6 ⟨rfl, ⟨ys, hy, h6⟩, k6⟩
          have HO6 := hid (show Has w6 (row (.slice (some ⟨gr, 0, none⟩) R.length c2) 35 1 R.length (R.map (·.1)) :: poolc 5 (B'.set j (B'[j].1, ys)) :: pt g0 (.cells (gcell g) 24) :: [old w]) from by
            rw [HE1.out]
            exact (Has.pool_in hj h6).p1)
          have HL6 := hid (HL.out.set hj hy)
          have HK6 := hid (HK.out.trans k6)
          clear h6 k6 hy HKO hcx HL
          try dsimp only
          go_wp2_with fail
          exact ⟨⟨k + 1, by have := HLT.out; omega, rfl, hid ⟨_, HL6.out, HO6.out⟩, HK6⟩, by have := HLT.out; simp [intOf]; omega⟩
        · have hki : ¬ (k : Int) < (R.length : Int) := by omega
          have HO7 := hid (show Has wr (pt g0 (.cells (gcell g) 24) :: [old w]) from HO.out.re 3 [2])
          clear hlt hk HO HL
          have HK7 := HK
          clear HK HXL HBB
          go_wp2_with fail
          by_cases hq : s < 1
          · refine (diskNewNil s wr (.inl hq)).mono ?_
            rintro e w' ⟨rfl, rfl⟩
            try dsimp only
            go_wp2_with fail
            refine (awake20 _ _ HO7.out).mono ?_
            rintro e w8 ⟨rfl, hO8, hK8⟩
            have HO8 := hid hO8
            have HK8 := hid ((HK7.out).trans hK8)
            clear hO8 hK8
            try dsimp only
            go_wp2_with fail
            go_ret
            exact ⟨rfl, HO8.out.drop.below HK8.out.os HK8.out.tape HK8.out.output⟩
          · obtain ⟨q, rfl⟩ := Int.eq_ofNat_of_zero_le (show 0 ≤ s by omega)
            have HQ := hid (show 1 ≤ q ∧ q ≤ 400 by have := HS4.out; omega)
            refine (kNew q wr _ HQ.out.1 (by have := HQ.out.2; omega) HO7.out).mono ?_
            rintro e w8 ⟨d, rfl, h8, k8⟩
            have HO8 := hid h8
            have HK8 := hid (HK7.out.trans k8)
            clear h8 k8 hq HO7 HK7 HS4
            try dsimp only
            go_wp2_with fail
            have HF0 := hid (firmD_ok q HQ.out.1 [] (fun _ => false) 0)
            go_loopw [10] (fun i w' => ∃ k : Nat, k ≤ ds.length ∧ i = .int .i64 k ∧ Hid (∃ E : Bk, FirmOk q E k 0 ∧ Has w' (Dk d E :: pt g0 (.cells (gcell g) 24) :: [old w])) ∧ Hid (Keep w w')) (fun i _ => ds.length - (intOf i).toNat)
            case atStart => exact ⟨0, by omega, rfl, hid ⟨_, HF0.out, HO8.out⟩, HK8⟩
            case round =>
              clear HO8 HK8 HF0
              obtain ⟨k, hk, rfl, HX, HK⟩ := hrel
              obtain ⟨E, hE, hO⟩ := HX.out
              have HO := hid hO
              have HE := hid hE
              clear hO hE HX
              by_cases hlt : k < ds.length
              · obtain ⟨p, c, e, -, -, hR⟩ := (Rd.start HR.out (HO.out.re 2 [])).form
                simp only [Value.slice.injEq, true_and] at e
                obtain ⟨rfl, rfl⟩ := e
                obtain ⟨vg, vo, rfl, -⟩ := hR (by omega)
                clear hR
                have HCK : Hid (∀ w', Has w' [old w] → w'.cell? ⟨vg, vo + k, none⟩ = some (.int .i64 (nth ds k))) := hid fun w' h => by
                  obtain ⟨p, c, e, -, -, hR⟩ := (Rd.start HR.out h).form
                  obtain ⟨g', o', rfl, hd⟩ := hR (by omega)
                  injection e with e
                  injection e with e
                  injection e with e1 e2
                  subst e1 e2
                  rw [hd k (by omega), ic_at ds k hlt]; simp [nth, hlt]
                have hki : (k : Int) < (ds.length : Int) := by omega
                have hk0 : (0 : Int) ≤ (k : Int) := by omega
                have hnb : (ds.length : Int) ≤ 20 := by have := HDL.out; omega
                have HLT := hid hlt
                have HLO := hid (low_in (nth ds k) q (by have := HQ.out.1; omega))
                have HLW := hid (fun (w' : World) => lowAny (nth ds k) q w' (by have := HQ.out.1; omega) (by have := HQ.out.2; omega))
                clear hlt hk
                go_wp2_with fail
                refine region_textC lowQ (fun w' => w'.cell? ⟨vg, vo + k, none⟩ = some (.int .i64 (nth ds k)) ∧ True) (by kernel_rfl) (by kernel_rfl) ⟨HCK.out _ (HO.out.drew.re 2 []), trivial⟩ ?_
                have HO9 := hid HO.out.drew
                have HK9 := hid HK.out.drew
                generalize wr.drew = w9 at *
                clear HO HK
                repeat (first
                  | (refine wpL_read (by rfl) (by rfl) ?_ ?_ ?_; rotate_left; (rintro w ⟨z0, z1⟩; go_simp; with_reducible rfl); simp only [Act.put, List.setIfInBounds_toArray, List.set_cons_zero, List.set_cons_succ]) | (refine wpL_skip (by rfl) ?_; simp only [Act.put, List.setIfInBounds_toArray, List.set_cons_zero, List.set_cons_succ]))
                refine wpL_call (by rfl) (by rfl) 6 #[.int .i64 (nth ds k), .int .i64 (q : Int)] (.int .i64 (low (nth ds k) q)) rfl (by rintro w ⟨z0, z1⟩; go_simp) (fun w' _ => HLW.out w') ?_
                try simp only [Act.put, List.setIfInBounds_toArray, List.set_cons_zero, List.set_cons_succ]
                repeat (first
                  | (refine wpL_read (by rfl) (by rfl) ?_ ?_ ?_; rotate_left; (rintro w ⟨z0, z1⟩; go_simp; with_reducible rfl); simp only [Act.put, List.setIfInBounds_toArray, List.set_cons_zero, List.set_cons_succ]) | (refine wpL_skip (by rfl) ?_; simp only [Act.put, List.setIfInBounds_toArray, List.set_cons_zero, List.set_cons_succ]))
                refine wpL_act (by rfl) (by rfl) (fun K hK => ?_)
                go_simp
                refine (fillAny (nth ds k) 128 _ _ HO9.out (by omega)).mono ?_
                rintro e w10 ⟨v10, rfl, hO10, hK10⟩
                have HO10 := hid hO10
                have HK10 := hid ((HK9.out).trans hK10)
                clear hO10 hK10
                try dsimp only
                refine hK.out _ _ (⟨HCK.out _ (HO10.out.re 3 []), trivial⟩) ?_
                clear hK K
                try simp only [Act.put, List.setIfInBounds_toArray, List.set_cons_zero, List.set_cons_succ]
                repeat (first
                  | (refine wpL_read (by rfl) (by rfl) ?_ ?_ ?_; rotate_left; (rintro w ⟨z0, z1⟩; go_simp; with_reducible rfl); simp only [Act.put, List.setIfInBounds_toArray, List.set_cons_zero, List.set_cons_succ]) | (refine wpL_skip (by rfl) ?_; simp only [Act.put, List.setIfInBounds_toArray, List.set_cons_zero, List.set_cons_succ]))
                have HWR := hid (HE.out.write (low (nth ds k) q) HLO.out.1 HLO.out.2 (fill (nth ds k) 128) (fill_len _ _))
                have HKW := hid (kWrite d E w10 _ HO10.out.p1 (low (nth ds k) q) v10 (fill (nth ds k) 128) (by have := HE.out.waits; have := HLT.out; have := HDL.out; omega) (by have := HE.out.writes; have := HLT.out; have := HDL.out; omega) (fun w' h => Bytes.rd h))
                rw [HWR.out.1] at HKW
                refine wpL_act (by rfl) (by rfl) (fun K hK => ?_)
                go_simp
                refine (HKW.out).mono ?_
                rintro e w11 ⟨rfl, hO11, hK11⟩
                have HO11 := hid hO11
                have HK11 := hid ((HK10.out).trans hK11)
                clear hO11 hK11
                try dsimp only
                refine hK.out _ _ (⟨HCK.out _ (HO11.out.re 3 []), trivial⟩) ?_
                clear hK K
                try simp only [Act.put, List.setIfInBounds_toArray, List.set_cons_zero, List.set_cons_succ]
                refine wpL_nil ?_
                have HE2 := hid HWR.out.2
                rw [HWR.out.1] at HE2
                have HO12 := hid (HO11.out.p1.drop)
                clear HO9 HK9 HO10 HK10 HKW HWR HLW HLO HCK HO11
                go_wp2_with fail
                exact ⟨⟨k + 1, by have := HLT.out; omega, rfl, hid ⟨_, HE2.out, HO12.out⟩, HK11⟩, by have := HLT.out; simp [intOf]; omega⟩
              · have hki : ¬ (k : Int) < (ds.length : Int) := by omega
                have HMY := hid (fun w' L (h : Has w' L) => gMay g w' L h)
                have HSC := hid (fun w' L (h : Has w' L) => gSectors g w' L h)
                have HKD := hid (show k ≤ 1000 by have := HDL.out; omega)
                unfold geoV at HMY HSC
                have hc := HO.out.p1.cells
                clear hlt hk
                by_cases hm : may g = true
                · rw [hm] at HMY
                  by_cases hq : sectors g = (q : Int)
                  · have HQS := hid hq
                    have HFM := hid (fmtGo d q k 0 E g wr _ hm hq HE.out HKD.out (by omega) HO.out)
                    have HJ2 := hid (fun w' L (h : Has w' L) => rImage g w' L hm h)
                    rw [hq] at HSC
                    unfold geoV at HFM HJ2
                    clear hm hq
                    go_wp2_with fail
                    refine HFM.out.mono ?_
                    rintro e w13 ⟨rfl, ⟨E', hon, har, hfi, hwa, h13⟩, k13⟩
                    have HO13 := hid h13
                    have HK13 := hid (HK.out.trans k13)
                    have HCF := hid (show (E'.crash []).firm = imgL g from by
                      show blayKept [] E'.firm E'.waits = imgL g
                      rw [hwa, hfi]; rfl)
                    have HCO := hid (show (E'.crash []).on = false from rfl)
                    clear h13 k13 hon har hfi hwa hc HO HK HFM
                    try dsimp only
                    have hc := HO13.out.p1.cells
                    go_wp2_with fail
                    refine (HMY.out _ _ HO13.out).mono ?_
                    rintro e w14 ⟨rfl, hO14, hK14⟩
                    have HO14 := hid hO14
                    have HK14 := hid ((HK13.out).trans hK14)
                    clear hO14 hK14
                    try dsimp only
                    clear hc HO13 HK13
                    have hc := HO14.out.p1.cells
                    go_wp2_with fail
                    refine (HSC.out _ _ HO14.out).mono ?_
                    rintro e w15 ⟨rfl, hO15, hK15⟩
                    have HO15 := hid hO15
                    have HK15 := hid ((HK14.out).trans hK15)
                    clear hO15 hK15
                    try dsimp only
                    clear hc HO14 HK14
                    have HCR := hid (kCrash0 d E' w15 _ HO15.out)
                    go_wp2_with fail
                    refine (HCR.out).mono ?_
                    rintro e w16 ⟨rfl, hO16, hK16⟩
                    have HO16 := hid hO16
                    have HK16 := hid ((HK15.out).trans hK16)
                    clear hO16 hK16
                    try dsimp only
                    clear HO15 HK15 HCR
                    generalize E'.crash [] = E2 at *
                    go_wp2_with fail
                    refine region_text (fun w' => w'.cell? ⟨g0, 0, none⟩ = some (.int .i64 g.n) ∧ w'.cell? ⟨g0, 1, none⟩ = some (.int .i64 g.i) ∧ w'.cell? ⟨g0, 2, none⟩ = some (.int .i64 g.b)) (by kernel_rfl) (by kernel_rfl) ⟨HO16.out.drew.p1.cells 0, HO16.out.drew.p1.cells 1, HO16.out.drew.p1.cells 2⟩ ?_
                    have HO17 := hid HO16.out.drew
                    have HK17 := hid HK16.out.drew
                    generalize w16.drew = w17 at *
                    clear HO16 HK16
                    have HIM := hid (kImage d E2 w17 _ HO17.out (by rw [HCF.out, imgL_len, HQS.out]; have := HQ.out.2; show q ≤ _; omega))
                    rw [HCF.out] at HIM
                    repeat (first
                      | (refine wpL_read (by rfl) (by rfl) ?_ ?_ ?_; rotate_left; (rintro w ⟨z0, z1, z2⟩; go_simp; with_reducible rfl); simp only [Act.put, List.setIfInBounds_toArray, List.set_cons_zero, List.set_cons_succ]) | (refine wpL_skip (by rfl) ?_; simp only [Act.put, List.setIfInBounds_toArray, List.set_cons_zero, List.set_cons_succ]))
                    refine wpL_act (by rfl) (by rfl) (fun K hK => ?_)
                    go_simp
                    refine (HIM.out).mono ?_
                    rintro e w18 ⟨v18, rfl, hO18, hK18⟩
                    have HO18 := hid hO18
                    have HK18 := hid ((HK17.out).trans hK18)
                    clear hO18 hK18
                    try dsimp only
                    refine hK.out _ _ (⟨HO18.out.p2.cells 0, HO18.out.p2.cells 1, HO18.out.p2.cells 2⟩) ?_
                    clear hK K
                    try simp only [Act.put, List.setIfInBounds_toArray, List.set_cons_zero, List.set_cons_succ]
                    repeat (first
                      | (refine wpL_read (by rfl) (by rfl) ?_ ?_ ?_; rotate_left; (rintro w ⟨z0, z1, z2⟩; go_simp; with_reducible rfl); simp only [Act.put, List.setIfInBounds_toArray, List.set_cons_zero, List.set_cons_succ]) | (refine wpL_skip (by rfl) ?_; simp only [Act.put, List.setIfInBounds_toArray, List.set_cons_zero, List.set_cons_succ]))
                    refine wpL_act (by rfl) (by rfl) (fun K hK => ?_)
                    go_simp
                    refine (HJ2.out _ _ HO18.out).mono ?_
                    rintro e w19 ⟨v19, rfl, hO19, hK19⟩
                    have HO19 := hid hO19
                    have HK19 := hid ((HK18.out).trans hK19)
                    clear hO19 hK19
                    try dsimp only
                    refine hK.out _ _ (⟨HO19.out.p3.cells 0, HO19.out.p3.cells 1, HO19.out.p3.cells 2⟩) ?_
                    clear hK K
                    try simp only [Act.put, List.setIfInBounds_toArray, List.set_cons_zero, List.set_cons_succ]
                    repeat (first
                      | (refine wpL_read (by rfl) (by rfl) ?_ ?_ ?_; rotate_left; (rintro w ⟨z0, z1, z2⟩; go_simp; with_reducible rfl); simp only [Act.put, List.setIfInBounds_toArray, List.set_cons_zero, List.set_cons_succ]) | (refine wpL_skip (by rfl) ?_; simp only [Act.put, List.setIfInBounds_toArray, List.set_cons_zero, List.set_cons_succ]))
                    have HST := hid (sameTexts v18 v19 (imgL g) (imgL g) w19 (Prts.rd HO19.out.p1) (Wrt.rd HO19.out))
                    rw [decide_eq_true rfl] at HST
                    refine wpL_act (by rfl) (by rfl) (fun K hK => ?_)
                    go_simp
                    refine (HST.out).mono ?_
                    rintro e w' ⟨rfl, nq20, rfl⟩
                    have HO20 := hid ((HO19.out).drewN nq20)
                    have HK20 := hid ((HK19.out).drewN nq20)
                    try dsimp only
                    refine hK.out _ _ (⟨HO20.out.p3.cells 0, HO20.out.p3.cells 1, HO20.out.p3.cells 2⟩) ?_
                    clear hK K
                    try simp only [Act.put, List.setIfInBounds_toArray, List.set_cons_zero, List.set_cons_succ]
                    generalize w19.drewN nq20 = w20 at *
                    repeat (first
                      | (refine wpL_read (by rfl) (by rfl) ?_ ?_ ?_; rotate_left; (rintro w ⟨z0, z1, z2⟩; go_simp; with_reducible rfl); simp only [Act.put, List.setIfInBounds_toArray, List.set_cons_zero, List.set_cons_succ]) | (refine wpL_skip (by rfl) ?_; simp only [Act.put, List.setIfInBounds_toArray, List.set_cons_zero, List.set_cons_succ]))
                    have HFO := hid (fmtOff d E2 g w20 _ HO20.out.p2 HCO.out)
                    unfold geoV at HFO
                    refine wpL_act (by rfl) (by rfl) (fun K hK => ?_)
                    go_simp
                    refine (HFO.out).mono ?_
                    rintro e w21 ⟨rfl, hO21, hK21⟩
                    have HO21 := hid hO21
                    have HK21 := hid ((HK20.out).trans hK21)
                    clear hO21 hK21
                    try dsimp only
                    refine hK.out _ _ (⟨HO21.out.p3.cells 0, HO21.out.p3.cells 1, HO21.out.p3.cells 2⟩) ?_
                    clear hK K
                    try simp only [Act.put, List.setIfInBounds_toArray, List.set_cons_zero, List.set_cons_succ]
                    repeat (first
                      | (refine wpL_read (by rfl) (by rfl) ?_ ?_ ?_; rotate_left; (rintro w ⟨z0, z1, z2⟩; go_simp; with_reducible rfl); simp only [Act.put, List.setIfInBounds_toArray, List.set_cons_zero, List.set_cons_succ]) | (refine wpL_skip (by rfl) ?_; simp only [Act.put, List.setIfInBounds_toArray, List.set_cons_zero, List.set_cons_succ]))
                    refine wpL_act (by rfl) (by rfl) (fun K hK => ?_)
                    go_simp
                    refine (awake20 _ _ HO21.out).mono ?_
                    rintro e w22 ⟨rfl, hO22, hK22⟩
                    have HO22 := hid hO22
                    have HK22 := hid ((HK21.out).trans hK22)
                    clear hO22 hK22
                    try dsimp only
                    refine hK.out _ _ (⟨HO22.out.p3.cells 0, HO22.out.p3.cells 1, HO22.out.p3.cells 2⟩) ?_
                    clear hK K
                    try simp only [Act.put, List.setIfInBounds_toArray, List.set_cons_zero, List.set_cons_succ]
                    repeat (first
                      | (refine wpL_read (by rfl) (by rfl) ?_ ?_ ?_; rotate_left; (rintro w ⟨z0, z1, z2⟩; go_simp; with_reducible rfl); simp only [Act.put, List.setIfInBounds_toArray, List.set_cons_zero, List.set_cons_succ]) | (refine wpL_skip (by rfl) ?_; simp only [Act.put, List.setIfInBounds_toArray, List.set_cons_zero, List.set_cons_succ]))
                    refine wpL_nil ?_
                    go_wp2_with fail
                    go_ret
                    exact ⟨rfl, (HO22.out.re 4 []).below HK22.out.os HK22.out.tape HK22.out.output⟩
                  · have HFM := hid (fmtLen d E g wr _ HO.out HE.out.on hm (by rw [HE.out.len]; exact hq))
                    unfold geoV at HFM
                    go_wp2_with fail
                    refine (HFM.out).mono ?_
                    rintro e w13 ⟨rfl, hO13, hK13⟩
                    have HO13 := hid hO13
                    have HK13 := hid ((HK.out).trans hK13)
                    clear hO13 hK13
                    try dsimp only
                    clear hc HO HK
                    have hc := HO13.out.p1.cells
                    go_wp2_with fail
                    refine (HMY.out _ _ HO13.out).mono ?_
                    rintro e w14 ⟨rfl, hO14, hK14⟩
                    have HO14 := hid hO14
                    have HK14 := hid ((HK13.out).trans hK14)
                    clear hO14 hK14
                    try dsimp only
                    clear hc HO13 HK13
                    have hc := HO14.out.p1.cells
                    have hqb : (sectors g != (q : Int)) = true := by simpa using hq
                    go_wp2_with fail
                    refine (HSC.out _ _ HO14.out).mono ?_
                    rintro e w15 ⟨rfl, hO15, hK15⟩
                    have HO15 := hid hO15
                    have HK15 := hid ((HK14.out).trans hK15)
                    clear hO15 hK15
                    try dsimp only
                    clear hc HO14 HK14
                    go_wp2_with fail
                    refine (awake20 _ _ HO15.out).mono ?_
                    rintro e w16 ⟨rfl, hO16, hK16⟩
                    have HO16 := hid hO16
                    have HK16 := hid ((HK15.out).trans hK16)
                    clear hO16 hK16
                    try dsimp only
                    go_wp2_with fail
                    go_ret
                    exact ⟨rfl, HO16.out.drop.drop.below HK16.out.os HK16.out.tape HK16.out.output⟩
                · have hm2 : may g = false := by simpa using hm
                  rw [hm2] at HMY
                  have HFM := hid (fmtNot d E g wr _ HO.out HE.out.on hm2)
                  unfold geoV at HFM
                  go_wp2_with fail
                  refine (HFM.out).mono ?_
                  rintro e w13 ⟨rfl, hO13, hK13⟩
                  have HO13 := hid hO13
                  have HK13 := hid ((HK.out).trans hK13)
                  clear hO13 hK13
                  try dsimp only
                  clear hc HO HK
                  have hc := HO13.out.p1.cells
                  go_wp2_with fail
                  refine (HMY.out _ _ HO13.out).mono ?_
                  rintro e w14 ⟨rfl, hO14, hK14⟩
                  have HO14 := hid hO14
                  have HK14 := hid ((HK13.out).trans hK14)
                  clear hO14 hK14
                  try dsimp only
                  clear hc HO13 HK13
                  go_wp2_with fail
                  refine (awake20 _ _ HO14.out).mono ?_
                  rintro e w15 ⟨rfl, hO15, hK15⟩
                  have HO15 := hid hO15
                  have HK15 := hid ((HK14.out).trans hK15)
                  clear hO15 hK15
                  try dsimp only
                  go_wp2_with fail
                  go_ret
                  exact ⟨rfl, HO15.out.drop.drop.below HK15.out.os HK15.out.tape HK15.out.output⟩
end Go.Proofs.Ytbggnbahmdgbdaa
/- HOW ARGUMENTS ARE OPENED: from the form's reading to cells. No program in sight. -/
namespace Go.Own
open Go.ChangeShapes Go.WideShapes Go.ChangeAt Go.RowKit
theorem flat_len (n size : Nat) (C : Nat → List Value) (h : ∀ i, i < n → (C i).length = size) : ((List.range n).flatMap C).length = n * size := by
  induction n with
  | zero => simp
  | succ n ih =>
    rw [List.range_succ, List.flatMap_append, List.length_append, ih fun i hi => h i (by omega)]
    simp [h n (by omega), Nat.succ_mul]
theorem flat_drop (n size : Nat) (C : Nat → List Value) (h : ∀ i, i < n → (C i).length = size) (i : Nat) (hi : i < n) :
    ∃ R, ((List.range n).flatMap C).drop (i * size) = C i ++ R := by
  induction n with
  | zero => omega
  | succ n ih =>
    rw [List.range_succ, List.flatMap_append]
    have hl := flat_len n size C fun i hi => h i (by omega)
    by_cases hin : i = n
    · subst hin
      refine ⟨[], ?_⟩
      rw [List.drop_append_of_le_length (by rw [hl]; exact Nat.le_refl _), List.drop_of_length_le (by rw [hl]; exact Nat.le_refl _)]
      simp
    · obtain ⟨R, hR⟩ := ih (fun i hi => h i (by omega)) (by omega)
      refine ⟨R ++ [n].flatMap C, ?_⟩
      rw [List.drop_append_of_le_length (by rw [hl]; exact Nat.mul_le_mul_right _ (by omega)), hR, List.append_assoc]
theorem flat_slice (n size : Nat) (C : Nat → List Value) (h : ∀ i, i < n → (C i).length = size) (i : Nat) (hi : i < n) :
    (((List.range n).flatMap C).drop (i * size)).take size = C i := by
  obtain ⟨R, hR⟩ := flat_drop n size C h i hi
  rw [hR, ← h i hi, List.take_left]
theorem flat_at (n size : Nat) (C : Nat → List Value) (h : ∀ i, i < n → (C i).length = size) (i : Nat) (hi : i < n) (j : Nat) (hj : j < size) :
    (C i)[j]? = ((List.range n).flatMap C)[i * size + j]? := by
  rw [← flat_slice n size C h i hi, List.getElem?_take, if_pos hj, List.getElem?_drop]
theorem cells?_parts {w : World} {b : Nat} {a : Addr} {n : Nat} {cs : List Value} (h : w.cells? b a n = some cs) : cs.length = n ∧ ∀ j, j < n → w.cell? (a.add j) = cs[j]? := by
  unfold World.cells? at h
  split at h
  · have : ∀ (l : List Nat) (cs : List Value), (l.mapM fun i => w.cell? (a.add i)) = some cs → cs.length = l.length ∧ ∀ (j i : Nat), l[j]? = some i → w.cell? (a.add i) = cs[j]? := by
      intro l
      induction l with
      | nil => intro cs h; simp at h; subst h; simp
      | cons x l ih =>
        intro cs h
        simp only [List.mapM_cons, Option.pure_def, Option.bind_eq_bind] at h
        obtain ⟨y, hy, h⟩ := Option.bind_eq_some_iff.1 h
        obtain ⟨ys, hys, h⟩ := Option.bind_eq_some_iff.1 h
        cases h
        obtain ⟨h1, h2⟩ := ih ys hys
        refine ⟨by simp [h1], fun j i hj => ?_⟩
        cases j with
        | zero => simp at hj; subst hj; simpa using hy
        | succ j => simpa using h2 j i (by simpa using hj)
    obtain ⟨h1, h2⟩ := this _ _ h
    refine ⟨by simpa using h1, fun j hj => h2 j j (by simp [hj])⟩
  · cases h
section
variable {H : Type} {enc : TypeId × Value → H} {P : Program} {W : World} {base : Nat} {spare : Nat → Bool} {held : Bool}
/-- A slice of elements of whatever type: its cells in a list, each element's own cells read on. -/
theorem open_rd {t e size : Nat} {v : Value} {d : DataW H} {ps : List MemPlace} {r : Reach} {b0 : Nat} (ht : P.underlying t = some (.slice e)) (hc : P.cellsOf e = size) (hv : Value.okWide P W r b0 t v)
    (h : DataW.Trod enc P W base spare held t v d ps) :
    ∃ (n fuel : Nat) (xs : List Value), Rd W v size n xs ∧ ∀ i, i < n → ∃ x, DataW.trod enc P W base spare held fuel e ((xs.drop (i * size)).take size) = some x := by
  obtain ⟨p, len, cap, rfl⟩ := okWide_slice ht hv
  obtain ⟨fuel, hf⟩ := h
  rcases Deep.open_slice ht hf with ⟨hcs, _⟩ | ⟨a, len', cap', m, n, D, Pl, hcs, hb, hl, hm, hmm, hx, hel⟩
  · simp [Value.cells] at hcs
    obtain ⟨rfl, rfl, rfl⟩ := hcs
    exact ⟨0, 0, [], ⟨by simp, Nat.zero_le _, none, 0, rfl, Nat.le_refl _, fun h => absurd h (by simp)⟩, fun i hi => absurd hi (by simp)⟩
  · simp [Value.cells] at hcs
    obtain ⟨rfl, rfl, rfl⟩ := hcs
    rw [hc] at hel
    have hlm : len ≤ m := by rw [hmm]; split <;> omega
    obtain ⟨C, hC⟩ := Deep.choose_lt (α := List Value) (p := fun i cs' => W.cells? base (a.add (i * size)) size = some cs' ∧ DataW.trod enc P W base spare held n e cs' = some (D i, Pl i)) (fun i hi => hel i (by omega : i < m))
    have hlen : ∀ i, i < len → (C i).length = size ∧ ∀ j, j < size → W.cell? ((a.add (i * size)).add j) = (C i)[j]? := fun i hi => cells?_parts (hC i (by omega)).1
    refine ⟨len, n, (List.range len).flatMap C, ⟨flat_len len size C fun i hi => (hlen i hi).1, by omega, some a, cap, rfl, hl, fun hp => ?_⟩, fun i hi => ⟨(D i, Pl i), ?_⟩⟩
    · have hs : 0 < size := Nat.pos_of_mul_pos_left hp
      have hl0 : 0 < len := Nat.pos_of_mul_pos_right hp
      have h0 := (hlen 0 hl0).2 0 hs
      have ha : a = ⟨a.block, a.off, none⟩ := by
        refine cell_plain (w := W) (u := (C 0)[0]'(by rw [(hlen 0 hl0).1]; exact hs)) ?_
        rw [List.getElem?_eq_getElem (by rw [(hlen 0 hl0).1]; exact hs)] at h0
        simpa [Addr.add] using h0
      refine ⟨a.block, a.off, by rw [← ha], fun j hj => ?_⟩
      have hq : j / size < len := (Nat.div_lt_iff_lt_mul hs).2 hj
      have hr : j % size < size := Nat.mod_lt _ hs
      have h1 := (hlen (j / size) hq).2 (j % size) hr
      rw [Deep.add_add, ha, add_plain] at h1
      have hj' : j / size * size + j % size = j := Nat.div_add_mod' j size
      rw [hj'] at h1
      rw [h1, flat_at len size C (fun i hi => (hlen i hi).1) (j / size) hq (j % size) hr, hj']
    · rw [flat_slice len size C (fun i hi => (hlen i hi).1) i hi]
      exact (hC i (by omega)).2
/-- A slice of ints. -/
theorem open_rd_ints {t e : Nat} {v : Value} {d : DataW H} {ps : List MemPlace} {r : Reach} {b0 : Nat} (ht : P.underlying t = some (.slice e)) (he : P.underlying e = some (.int .i64)) (hc : P.cellsOf e = 1) (hv : Value.okWide P W r b0 t v)
    (h : DataW.Trod enc P W base spare held t v d ps) : ∃ xs : List Int, Rd W v 1 xs.length (ic xs) := by
  obtain ⟨n, fuel, xs, hr, hx⟩ := open_rd ht hc hv h
  have hl : xs.length = n := by simpa using hr.1
  have hall : ∀ (l : List Value), (∀ i (hi : i < l.length), ∃ k, l[i]? = some (.int .i64 k)) → ∃ zs : List Int, l = ic zs := by
    intro l
    induction l with
    | nil => intro _; exact ⟨[], rfl⟩
    | cons y l ih =>
      intro hl
      obtain ⟨k, hk⟩ := hl 0 (by simp)
      obtain ⟨zs, hz⟩ := ih fun i hi => by obtain ⟨k, h⟩ := hl (i + 1) (by simp; omega); exact ⟨k, by simpa using h⟩
      exact ⟨k :: zs, by simp at hk; simp [ic, hk]; exact hz⟩
  obtain ⟨zs, hz⟩ := hall xs fun i hi => by
    obtain ⟨x, hx⟩ := hx i (by omega)
    rw [Nat.mul_one] at hx
    obtain ⟨k, hk, -⟩ := DataW.trod_int he hx
    refine ⟨k, ?_⟩
    have := congrArg (fun l : List Value => l[0]?) hk
    simpa using this
  subst hz
  refine ⟨zs, ?_⟩
  rw [ic_len] at hl
  rw [hl]; exact hr
/-- A struct's field, read on. -/
theorem open_field {t fuel : Nat} {cs : List Value} {x : DataW H × List MemPlace} {fs : Array Field} (ht : P.underlying t = some (.struct fs)) (h : DataW.trod enc P W base spare held fuel t cs = some x)
    (i : Nat) (f : Field) (hf : fs[i]? = some f) : ∃ m y, DataW.trod enc P W base spare held m f.type ((cs.drop f.offset).take (P.cellsOf f.type)) = some y := by
  obtain ⟨xs, n, -, -, -, hl, hx⟩ := DataW.trod_struct ht h
  have hi : i < xs.length := by rw [hl]; exact (Array.getElem?_eq_some_iff.1 hf).1
  exact ⟨n, xs[i], by rw [hx i f hf, List.getElem?_eq_getElem hi]⟩
/-- A field that is an int. -/
theorem open_int_field {t fuel : Nat} {cs : List Value} {x : DataW H × List MemPlace} {fs : Array Field} {k : IntKind} (ht : P.underlying t = some (.struct fs)) (h : DataW.trod enc P W base spare held fuel t cs = some x)
    (i : Nat) (f : Field) (hf : fs[i]? = some f) (hk : P.underlying f.type = some (.int k)) (hc : P.cellsOf f.type = 1) : ∃ n, cs[f.offset]? = some (.int k n) ∧ (Lit.int k n).wf = true := by
  obtain ⟨m, y, hy⟩ := open_field ht h i f hf
  rw [hc] at hy
  obtain ⟨n, hn, -, hw⟩ := DataW.trod_int hk hy
  refine ⟨n, ?_, hw⟩
  have := congrArg (fun l : List Value => l[0]?) hn
  simpa using this
end
end Go.Own
