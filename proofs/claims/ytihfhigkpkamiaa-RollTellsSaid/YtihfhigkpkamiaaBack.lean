/- THE WALK of RollBack. -/
import Derived.Test.YtihfhigkpkamiaaLaw19b
import Derived.Test.YtihfhigkpkamiaaLow
import Derived.Test.YtihfhigkpkamiaaApp
namespace Go.Proofs.Ytihfhigkpkamiaa
open Go.RowKit Go.Own Go.Rl
theorem ocells_drop (R : List Ob) (m : Nat) : (ocells R).drop (m * 3) = ocells (R.drop m) := by
  induction R generalizing m with
  | nil => simp [ocells]
  | cons x R ih =>
    cases m with
    | zero => simp
    | succ m =>
      have := ih m
      simp only [ocells, List.flatMap_cons, List.drop_succ_cons] at *
      rw [← this, List.drop_append, show (ocell x).length = 3 from rfl, List.drop_of_length_le (by simp [ocell]; omega), List.nil_append]
      congr 1; omega
theorem ocells_take (R : List Ob) (m : Nat) : (ocells R).take (m * 3) = ocells (R.take m) := by
  have h := ocells_append (R.take m) (R.drop m)
  rw [List.take_append_drop, ← ocells_drop] at h
  by_cases hm : m ≤ R.length
  · rw [h, List.take_left' (by rw [ocells_len, List.length_take]; omega)]
  · rw [List.take_of_length_le (by rw [ocells_len]; omega), List.take_of_length_le (by omega)]
theorem _root_.Go.Own.Rd.dropS {w : World} {p : Option Addr} {n c size : Nat} {xs : List Value} (h : Rd w (.slice p n c) size n xs) (m : Nat) (hm : m ≤ n) : Rd w (.slice (if c = m then p else p.map fun a => a.add (m * size)) (n - m) (c - m)) size (n - m) (xs.drop (m * size)) := by
  obtain ⟨h1, h2, p', c', e, h3, h4⟩ := h
  injection e with e1 e2 e3
  subst e1 e3
  refine ⟨by rw [List.length_drop, h1, Nat.sub_mul], by omega, _, _, rfl, by omega, fun hp => ?_⟩
  have hlt : 0 < n - m := Nat.pos_of_mul_pos_right hp
  have hs : 0 < size := Nat.pos_of_mul_pos_left hp
  obtain ⟨g, o, rfl, hc⟩ := h4 (Nat.mul_pos (by omega) hs)
  refine ⟨g, o + m * size, ?_, fun j hj => ?_⟩
  · rw [if_neg (by omega), Option.map_some, add_plain]
  · rw [List.getElem?_drop, ← hc (m * size + j) (by rw [Nat.sub_mul] at hj; omega), Nat.add_assoc]
theorem _root_.Go.Own.Rd.takeS {w : World} {p : Option Addr} {n c size : Nat} {xs : List Value} (h : Rd w (.slice p n c) size n xs) (m : Nat) (hm : m ≤ n) : Rd w (.slice p m c) size m (xs.take (m * size)) := by
  obtain ⟨h1, h2, p', c', e, h3, h4⟩ := h
  injection e with e1 e2 e3
  subst e1 e3
  have hle := Nat.mul_le_mul_right size hm
  refine ⟨by rw [List.length_take]; omega, by omega, _, _, rfl, by omega, fun hp => ?_⟩
  obtain ⟨g, o, rfl, hc⟩ := h4 (by omega)
  refine ⟨g, o, rfl, fun j hj => ?_⟩
  rw [hc j (by omega), List.getElem?_take, if_pos hj]
theorem RdO.one {w : World} {v : Value} {R : List Ob} (h : RdO w v R) (T : List Ob) (hT : ∀ x ∈ T, x ∈ R) : ∀ u ∈ ocells T, u.oneCell' = true := by
  intro u hu
  obtain ⟨x, hx, hxu⟩ := List.mem_flatMap.1 hu
  obtain ⟨p, c, hp, -⟩ := (h.2 x (hT x hx)).form
  exact ocell_one x p _ c hp u hxu
theorem RdO.nil (w : World) : RdO w (.slice none 0 0) [] := ⟨⟨rfl, Nat.zero_le _, none, 0, rfl, Nat.le_refl _, fun h => absurd h (by simp)⟩, by simp⟩
set_option maxRecDepth 100000 in
set_option maxHeartbeats 8000000 in
theorem backWalk (ov nv v : Value) (xs ys : List Int) (R : List Ob) (turn : Int) (W : World) (hx : Rd W ov 1 xs.length (bc xs)) (hy : Rd W nv 1 ys.length (bc ys)) (hR : RdO W v R) :
    Calls Try.prog 3 #[ov, nv, v, .int .i64 turn] W fun e w' => e = .returned (.bool true) ∧ Below W.heap.size W w' := by
  obtain ⟨xp, xc, rfl, hxc, hxl, -⟩ := hx.form
  obtain ⟨yp, yc, rfl, hyc, hyl, -⟩ := hy.form
  obtain ⟨vp, vc, rfl, hvc, hvl⟩ := hR.form
  have HX := hid hx
  have HY := hid hy
  have HR := hid hR
  have HO0 := hid (Has.start W)
  clear hx hy hR
  by_cases hbx : xs.length ≤ 128
  · have hbxi : ¬ (128 : Int) < (xs.length : Int) := by omega
    by_cases hby : ys.length ≤ 128
    · have hbyi : ¬ (128 : Int) < (ys.length : Int) := by omega
      go_enter Try.func3, Try.ntmps3
      go_wp2_with fail
      refine (great19 _ R 12 W HR.out (by omega)).mono ?_
      rintro e w' ⟨u, rfl, hu, rfl⟩
      try dsimp only
      obtain ⟨b, rfl, hb⟩ := hu
      cases b
      · have HB := hid (hb rfl)
        clear hb
        go_wp2_with fail
        refine (rollOver _ xs 0 _ [] W _ HX.out (fun w' _ => RdO.nil w') HO0.out).mono ?_
        rintro e w1 ⟨v1, rfl, hO1, hK1⟩
        have HO1 := hid hO1
        have HK1 := hid ((Keep.refl W).trans hK1)
        clear hO1 hK1
        try dsimp only
        rw [show over xs 0 (([] : List Ob).map (·.1)) = whole xs from rfl] at HO1
        go_wp2_with fail
        refine (rollOver _ ys 0 _ [] w1 _ (Rd.start HY.out HO1.out.p1) (fun w' _ => RdO.nil w') HO1.out).mono ?_
        rintro e w2 ⟨v2, rfl, hO2, hK2⟩
        have HO2 := hid hO2
        have HK2 := hid ((HK1.out).trans hK2)
        clear hO2 hK2
        try dsimp only
        rw [show over ys 0 (([] : List Ob).map (·.1)) = whole ys from rfl] at HO2
        clear HO1 HK1
        go_wp2_with fail
        refine (rollDiff 5 _ _ xs ys w2 _ (fun w' h => Rd.start HX.out h.p2) (fun w' h => Rd.start HY.out h.p2) HO2.out).mono ?_
        rintro e w3 ⟨v3, rfl, hO3, hK3⟩
        have HO3 := hid hO3
        have HK3 := hid ((HK2.out).trans hK3)
        clear hO3 hK3
        try dsimp only
        obtain ⟨R3, hR3, hO⟩ := objs_iff.1 HO3.out
        have HR3 := hid hR3
        have HO3 := hid hO
        clear hR3 hO
        go_wp2_with fail
        refine (rollOver _ xs 5 _ R3 w3 _ (Rd.start HX.out HO3.out.p4) (fun w' h => objsR h) HO3.out).mono ?_
        rintro e w4 ⟨v4, rfl, hO4, hK4⟩
        have HO4 := hid hO4
        have HK4 := hid ((HK3.out).trans hK4)
        clear hO4 hK4
        try dsimp only
        rw [HR3.out, over_diff 5 (by decide)] at HO4
        go_wp2_with fail
        refine (sameBytesYes v4 v2 (whole ys) w4 (Bytes.rd HO4.out) (Bytes.rd HO4.out.p3)).mono ?_
        rintro e w' ⟨rfl, nq5, rfl⟩
        have HO5 := hid ((HO4.out.re 6 [3, 4, 5]).drewN nq5)
        have HK5 := hid ((HK4.out).drewN nq5)
        try dsimp only
        generalize w4.drewN nq5 = w5 at *
        clear HO4 HK4 HO3 HK3 HR3 HO2 HK2
        replace HO5 : Hid (Has w5 [Bytes v2 (whole ys), Bytes v1 (whole xs), old W]) := HO5
        go_wp2_with fail
        refine (rollDiff 5 _ _ ys xs w5 _ (fun w' h => Rd.start HY.out h.p2) (fun w' h => Rd.start HX.out h.p2) HO5.out).mono ?_
        rintro e w6 ⟨v6, rfl, hO6, hK6⟩
        have HO6 := hid hO6
        have HK6 := hid ((HK5.out).trans hK6)
        clear hO6 hK6
        try dsimp only
        obtain ⟨R6, hR6, hO⟩ := objs_iff.1 HO6.out
        have HR6 := hid hR6
        have HO6 := hid hO
        clear hR6 hO
        go_wp2_with fail
        refine (rollOver _ ys 5 _ R6 w6 _ (Rd.start HY.out HO6.out.p4) (fun w' h => objsR h) HO6.out).mono ?_
        rintro e w7 ⟨v7, rfl, hO7, hK7⟩
        have HO7 := hid hO7
        have HK7 := hid ((HK6.out).trans hK7)
        clear hO7 hK7
        try dsimp only
        rw [HR6.out, over_diff 5 (by decide)] at HO7
        go_wp2_with fail
        refine (sameBytesYes v7 v1 (whole xs) w7 (Bytes.rd HO7.out) (Bytes.rd HO7.out.p4)).mono ?_
        rintro e w' ⟨rfl, nq8, rfl⟩
        have HO8 := hid ((HO7.out.re 6 [3, 4, 5]).drewN nq8)
        have HK8 := hid ((HK7.out).drewN nq8)
        try dsimp only
        generalize w7.drewN nq8 = w8 at *
        clear HO7 HK7 HO6 HK6 HR6 HO5 HK5
        replace HO8 : Hid (Has w8 [Bytes v2 (whole ys), Bytes v1 (whole xs), old W]) := HO8
        go_wp2_with fail
        refine (rollDiff 5 _ _ (whole xs) xs w8 _ (fun w' h => Bytes.rd h.p1) (fun w' h => Rd.start HX.out h.p2) HO8.out).mono ?_
        rintro e w9 ⟨v9, rfl, hO9, hK9⟩
        have HO9 := hid hO9
        have HK9 := hid ((HK8.out).trans hK9)
        clear hO9 hK9
        try dsimp only
        rw [diff_whole] at HO9
        obtain ⟨R9, hR9, hO⟩ := objs_iff.1 HO9.out
        obtain rfl : R9 = [] := List.map_eq_nil_iff.1 hR9
        obtain ⟨p9, c9, rfl, -⟩ := hO.rd.form
        have HO9 := hid (show Has w9 [old W] from HO9.out.p3.re 4 [0])
        clear hO hR9 HO8 HK8
        rw [show ([] : List Ob).length = 0 from rfl]
        go_wp2_with fail
        go_loopw [11] (fun i w' => ∃ k : Nat, k ≤ R.length ∧ i = .int .i64 k ∧ Hid (Has w' [old W]) ∧ Hid (Keep W w') ∧ Hid (∀ a b, (ha : a < R.length) → (hb : b < a) → a < k → touch R[a].1 (R[b]'(by omega)).1 = false)) (fun i _ => R.length - (intOf i).toNat)
        case atStart => exact ⟨0, by omega, rfl, HO9, HK9, hid (by omega)⟩
        case round =>
          clear HO9 HK9
          obtain ⟨k, hk, rfl, HO, HK, HT⟩ := hrel
          by_cases hlt : k < R.length
          · have hki : (k : Int) < (R.length : Int) := by omega
            go_wp2_with fail
            go_loopw [12] (fun i w' => ∃ q : Nat, q ≤ k ∧ i = .int .i64 q ∧ Hid (Has w' [old W]) ∧ Hid (Keep W w') ∧ Hid (∀ b, (hb : b < q) → (hq : q ≤ k) → touch R[k].1 (R[b]'(by omega)).1 = false)) (fun i _ => k - (intOf i).toNat)
            case atStart => exact ⟨0, by omega, rfl, HO, HK, hid (by omega)⟩
            case round =>
              clear HO HK
              obtain ⟨q, hq, rfl, HO, HK, HTq⟩ := hrel
              by_cases hlq : q < k
              · have hqi : (q : Int) < (k : Int) := by omega
                have hql : (q : Int) < (R.length : Int) := by omega
                have hqR : q < R.length := by omega
                have hRW := (HR.out.old HO.out)
                obtain ⟨vg, vo, c', xp1, xm1, e, x0, x1, x2, x3, x4⟩ := hRW.at_ k hlt
                obtain ⟨vg2, vo2, c2, xp2, xm2, e2, y0, y1, y2, y3, y4⟩ := hRW.at_ q hqR
                simp only [Value.slice.injEq, true_and] at e e2
                obtain ⟨rfl, rfl⟩ := e
                obtain ⟨e2, rfl⟩ := e2
                simp only [Option.some.injEq, Addr.mk.injEq, and_true] at e2
                obtain ⟨rfl, rfl⟩ := e2
                have HTE := hid (show touch ⟨R[k].1.sec, R[k].1.pos, R[k].1.bytes⟩ ⟨R[q].1.sec, R[q].1.pos, R[q].1.bytes⟩ = touch R[k].1 R[q].1 from rfl)
                clear hRW x3 y3
                have H4 := hid (And.intro x4 y4)
                clear x4 y4
                generalize R[k].1.bytes = bk at *
                generalize R[q].1.bytes = bq at *
                generalize R[k].1.sec = sk at *
                generalize R[q].1.sec = sq at *
                generalize R[k].1.pos = pk at *
                generalize R[q].1.pos = pq at *
                go_wp2_with fail
                refine region_tail1 (fun w => w.cell? ⟨vg, vo + k * 3, none⟩ = some (.int .i64 sk) ∧ w.cell? ⟨vg, vo + k * 3 + 1, none⟩ = some (.int .i64 pk) ∧ w.cell? ⟨vg, vo + k * 3 + 2, none⟩ = some (.slice xp1 bk.length xm1) ∧ w.cell? ⟨vg, vo + q * 3, none⟩ = some (.int .i64 sq) ∧ w.cell? ⟨vg, vo + q * 3 + 1, none⟩ = some (.int .i64 pq) ∧ w.cell? ⟨vg, vo + q * 3 + 2, none⟩ = some (.slice xp2 bq.length xm2)) (by kernel_rfl) (by kernel_rfl) (by kernel_rfl) (by decide) ⟨x0, x1, x2, y0, y1, y2⟩ ?_
                repeat (first
                  | (refine wpL_read (by rfl) (by rfl) ?_ ?_ ?_; rotate_left; (rintro w ⟨z0, z1, z2, z3, z4, z5⟩; go_simp; with_reducible rfl); simp only [Act.put, List.setIfInBounds_toArray, List.set_cons_zero, List.set_cons_succ])
                  | (refine wpL_skip (by rfl) ?_; simp only [Act.put, List.setIfInBounds_toArray, List.set_cons_zero, List.set_cons_succ]))
                refine wpL_nil ?_
                refine wpOp_last rfl (by rfl) ?_
                clear x0 x1 x2 y0 y1 y2
                go_simp
                go_at_call 11
                refine (rollTouch sk pk xp1 xm1 bk sq pq xp2 xm2 bq _ _ H4.out.1 H4.out.2 HO.out.drew).mono ?_
                rintro e w12 ⟨rfl, hO12, hK12⟩
                have HO12 := hid hO12
                have HK12 := hid (HK.out.drew.trans hK12)
                clear hO12 hK12 HO HK
                rw [HTE.out]
                try dsimp only
                cases hte : touch R[k].1 R[q].1
                · have HT2 := hid hte
                  clear hte
                  go_wp2_with fail
                  refine ⟨⟨q + 1, by omega, rfl, HO12, HK12, hid ?_⟩, by simp [intOf]; omega⟩
                  intro b hb hq1
                  rcases Nat.lt_or_ge b q with h | h
                  · exact HTq.out b h (by omega)
                  · obtain rfl : b = q := by omega
                    exact HT2.out
                · clear hte
                  go_wp2_with fail
                  refine (awake19 w12 _ HO12.out).mono ?_
                  rintro e w13 ⟨rfl, hO13, hK13⟩
                  have HO13 := hid hO13
                  have HK13 := hid ((HK12.out).trans hK13)
                  clear hO13 hK13
                  try dsimp only
                  go_wp2_with fail
                  go_ret
                  exact ⟨rfl, HO13.out.below HK13.out.os HK13.out.tape HK13.out.output⟩
              · have hqi : ¬ (q : Int) < (k : Int) := by omega
                go_wp2_with fail
                refine ⟨⟨k + 1, by omega, rfl, HO, HK, hid ?_⟩, by simp [intOf]; omega⟩
                intro a b ha hb hak
                rcases Nat.lt_or_ge a k with h | h
                · exact HT.out a b ha hb h
                · obtain rfl : a = k := by omega
                  exact HTq.out b (by omega) (by omega)
          · have hki : ¬ (k : Int) < (R.length : Int) := by omega
            have hRl := HB.out.1
            have hm := low_in turn ((R.length : Int) + 1) (by omega)
            obtain ⟨m, hme⟩ := Int.eq_ofNat_of_zero_le hm.1
            have hml : (m : Int) ≤ (R.length : Int) := by omega
            have HM := hid hme
            clear hm hme
            have hw := wrap_in ((R.length : Int) + 1) (by omega)
            go_wp2_with fail
            clear hw
            refine (lowAny turn ((R.length : Int) + 1) wr (by omega) (by omega)).mono ?_
            rintro e w' ⟨rfl, rfl⟩
            try dsimp only
            rw [HM.out]
            go_wp2_with fail
            have hmc : (m : Int) ≤ (vc : Int) := by omega
            have hm0 : (0 : Int) ≤ (m : Int) := by omega
            have HD := hid (HR.out.1.dropS m (by omega))
            have HTk := hid (HR.out.1.takeS m (by omega))
            rw [ocells_drop] at HD
            rw [ocells_take] at HTk
            have H1 := hid HR.out.one
            refine region_text (fun _ => True) (by kernel_rfl) (by kernel_rfl) trivial ?_
            repeat (first
              | (refine wpL_read (by rfl) (by rfl) ?_ ?_ ?_; rotate_left; (intro w hS; go_simp; with_reducible rfl); simp only [Act.put, List.setIfInBounds_toArray, List.set_cons_zero, List.set_cons_succ]) | (refine wpL_skip (by rfl) ?_; simp only [Act.put, List.setIfInBounds_toArray, List.set_cons_zero, List.set_cons_succ]))
            refine wpL_act (by rfl) (by rfl) (fun K hK => ?_)
            refine wp_appendA (.const (.slice none 0 0)) (.tmp 85) 23 rfl Try.underlying23 infoObj rfl (by decide) (HO.out.drew.row_nil 31 3) (by rfl) _ (R.length - m) _ (by rfl) (Rd.start HD.out HO.out) (H1.out _ (fun x hx => List.mem_of_mem_drop hx)) (le_maxLen (by omega)) (by omega) fun v14 w14 h14 hk14 => ?_
            have HO14 := hid h14
            have HK14 := hid (HK.out.drew.trans hk14)
            clear h14 hk14 HO HK
            refine hK.out _ _ trivial ?_
            clear hK K
            try simp only [Act.put, List.setIfInBounds_toArray, List.set_cons_zero, List.set_cons_succ]
            repeat (first
              | (refine wpL_read (by rfl) (by rfl) ?_ ?_ ?_; rotate_left; (intro w hS; go_simp; with_reducible rfl); simp only [Act.put, List.setIfInBounds_toArray, List.set_cons_zero, List.set_cons_succ]) | (refine wpL_skip (by rfl) ?_; simp only [Act.put, List.setIfInBounds_toArray, List.set_cons_zero, List.set_cons_succ]))
            refine wpL_act (by rfl) (by rfl) (fun K hK => ?_)
            refine wp_appendA (.tmp 86) (.tmp 89) 23 rfl Try.underlying23 infoObj rfl (by decide) HO14.out (by rfl) _ m _ (by rfl) (Rd.start HTk.out HO14.out.drop) (H1.out _ (fun x hx => List.mem_of_mem_take hx)) (le_maxLen (by omega)) (by omega) fun v15 w15 h15 hk15 => ?_
            have HO15 := hid h15
            have HK15 := hid (HK14.out.trans hk15)
            clear h15 hk15 HO14 HK14
            refine hK.out _ _ trivial ?_
            clear hK K
            try simp only [Act.put, List.setIfInBounds_toArray, List.set_cons_zero, List.set_cons_succ]
            repeat (first
              | (refine wpL_read (by rfl) (by rfl) ?_ ?_ ?_; rotate_left; (intro w hS; go_simp; with_reducible rfl); simp only [Act.put, List.setIfInBounds_toArray, List.set_cons_zero, List.set_cons_succ]) | (refine wpL_skip (by rfl) ?_; simp only [Act.put, List.setIfInBounds_toArray, List.set_cons_zero, List.set_cons_succ]))
            refine wpL_nil ?_
            have HO15 := hid (show Has w15 [row v15 31 3 (R.drop m ++ R.take m).length (ocells (R.drop m ++ R.take m)), old W] from by
              have h := HO15.out
              rw [List.nil_append, ← ocells_append] at h
              rw [show 0 + (R.length - m) + m = (R.drop m ++ R.take m).length by rw [List.length_append, List.length_drop, List.length_take]; omega] at h
              exact h)
            have HE := hid (fun s : Int => over_turned xs s (R.map (·.1)) m fun i k hi hk => by
              rw [List.length_map] at hi
              rw [List.getElem_map, List.getElem_map]
              exact HT.out i k hi hk (by omega))
            have HM' : Hid ((R.drop m ++ R.take m).map (·.1) = (R.map (·.1)).drop m ++ (R.map (·.1)).take m) := hid (by rw [List.map_append, List.map_drop, List.map_take])
            have HR' := hid (show ∀ x ∈ R.drop m ++ R.take m, Rd W x.2 1 x.1.bytes.length (bc x.1.bytes) from fun x hx => HR.out.2 x ((List.mem_append.1 hx).elim List.mem_of_mem_drop List.mem_of_mem_take))
            generalize R.drop m ++ R.take m = R' at *
            clear HD HTk H1 HT hmc hm0 HM hml
            generalize (if vc = m then vp else Option.map (fun x => x.add (m * 3)) vp) = z85
            go_wp2_with fail
            go_loopw [14] (fun i w' => ∃ s : Nat, s ≤ 3 ∧ i = .int .i64 s ∧ Hid (Has w' [row v15 31 3 R'.length (ocells R'), old W]) ∧ Hid (Keep W w')) (fun i _ => 3 - (intOf i).toNat)
            case atStart => exact ⟨0, by omega, rfl, HO15, HK15⟩
            case round =>
              clear HO15 HK15
              obtain ⟨s, hs, rfl, HO, HK⟩ := hrel
              by_cases hls : s < 3
              · have hsi : (s : Int) < 3 := by omega
                go_wp2_with fail
                refine (rollOver _ xs (s : Int) _ R wr _ (Rd.start HX.out HO.out.p1) (fun w' h => HR.out.old h.p1) HO.out).mono ?_
                rintro e w16 ⟨v16, rfl, hO16, hK16⟩
                have HO16 := hid hO16
                have HK16 := hid ((HK.out).trans hK16)
                clear hO16 hK16
                try dsimp only
                go_wp2_with fail
                refine (rollOver _ xs (s : Int) _ R' w16 _ (Rd.start HX.out HO16.out.p2) (fun w' h => ⟨h.p1.rd, fun x hx => Rd.start (HR'.out x hx) h.p2⟩) HO16.out).mono ?_
                rintro e w17 ⟨v17, rfl, hO17, hK17⟩
                have HO17 := hid hO17
                have HK17 := hid ((HK16.out).trans hK17)
                clear hO17 hK17
                try dsimp only
                rw [HM'.out, HE.out] at HO17
                have e17 := over_len xs s (R.map (·.1))
                generalize over xs s (R.map (·.1)) = z17 at *
                go_wp2_with fail
                refine (sameBytesYes v16 v17 z17 w17 (Bytes.rd HO17.out.p1) (Bytes.rd HO17.out)).mono ?_
                rintro e w' ⟨rfl, nq18, rfl⟩
                have HO18 := hid ((HO17.out.drop.drop).drewN nq18)
                have HK18 := hid ((HK17.out).drewN nq18)
                try dsimp only
                go_wp2_with fail
                exact ⟨⟨s + 1, by omega, by go_num, HO18, HK18⟩, by simp [intOf]; omega⟩
              · obtain rfl : s = 3 := by omega
                go_wp2_with fail
                refine (awake19 wr _ HO.out).mono ?_
                rintro e w16 ⟨rfl, hO16, hK16⟩
                have HO16 := hid hO16
                have HK16 := hid ((HK.out).trans hK16)
                clear hO16 hK16
                try dsimp only
                go_wp2_with fail
                go_ret
                exact ⟨rfl, HO16.out.p1.below HK16.out.os HK16.out.tape HK16.out.output⟩
      · go_wp2_with fail
        refine (awake19 W _ HO0.out).mono ?_
        rintro e w1 ⟨rfl, hO1, hK1⟩
        have HO1 := hid hO1
        have HK1 := hid ((Keep.refl W).trans hK1)
        clear hO1 hK1
        try dsimp only
        go_wp2_with fail
        go_ret
        exact ⟨rfl, HO1.out.below HK1.out.os HK1.out.tape HK1.out.output⟩
    · have hbyi : (128 : Int) < (ys.length : Int) := by omega
      go_enter Try.func3, Try.ntmps3
      go_wp2_with fail
      refine (awake19 W _ HO0.out).mono ?_
      rintro e w1 ⟨rfl, hO1, hK1⟩
      have HO1 := hid hO1
      have HK1 := hid ((Keep.refl W).trans hK1)
      clear hO1 hK1
      try dsimp only
      go_wp2_with fail
      go_ret
      exact ⟨rfl, HO1.out.below HK1.out.os HK1.out.tape HK1.out.output⟩
  · have hbxi : (128 : Int) < (xs.length : Int) := by omega
    go_enter Try.func3, Try.ntmps3
    go_wp2_with fail
    refine (awake19 W _ HO0.out).mono ?_
    rintro e w1 ⟨rfl, hO1, hK1⟩
    have HO1 := hid hO1
    have HK1 := hid ((Keep.refl W).trans hK1)
    clear hO1 hK1
    try dsimp only
    go_wp2_with fail
    go_ret
    exact ⟨rfl, HO1.out.below HK1.out.os HK1.out.tape HK1.out.output⟩
end Go.Proofs.Ytihfhigkpkamiaa
