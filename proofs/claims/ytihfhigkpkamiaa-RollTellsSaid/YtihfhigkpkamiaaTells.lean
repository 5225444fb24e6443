/- THE WALK of RollTells. -/
import Derived.Test.YtihfhigkpkamiaaLaw19b
import Derived.Test.YtihfhigkpkamiaaSplit
import Derived.Test.YtihfhigkpkamiaaBack
import Derived.Test.YtihfhigkpkamiaaSameO
import Derived.Test.YtihfhigkpkamiaaRefc
import Derived.Test.YtihfhigkpkamiaaRefd
import Derived.Test.YtihfhigkpkamiaaLend
namespace Go.Proofs.Ytihfhigkpkamiaa
open Go.RowKit Go.Own Go.Rl
theorem has_any {l : List Int} {x : Int} (k : Nat) (hk : k < l.length) : (l.take (k + 1)).contains x = ((l.take k).contains x || (l[k] == x)) := by
  rw [List.take_succ_eq_append_getElem hk, List.contains_append, List.contains_cons, List.contains_nil, Bool.or_false]
  congr 1
  exact Bool.beq_comm
theorem sectors0_len (os : List Piece) : (sectors0 os).length ≤ os.length := by
  have h1 := Lib.compact_length_le (sorted (secs os))
  rw [sorted_len] at h1
  exact Nat.le_trans h1 (secs_len os)
def pickR (is : List Int) (b : Bool) (R : List Ob) (k : Nat) : List Ob := ((R.take k).zipIdx.filter fun p => is.contains (p.2 : Int) == b).map (·.1)
theorem pickR_snoc (is : List Int) (b : Bool) (R : List Ob) (k : Nat) (h : k < R.length) : pickR is b R (k + 1) = if is.contains (k : Int) == b then pickR is b R k ++ [R[k]] else pickR is b R k := by
  unfold pickR
  rw [List.take_succ_eq_append_getElem h, List.zipIdx_append, List.filter_append, List.map_append]
  have hl : (R.take k).length = k := by simp; omega
  simp only [hl, Nat.zero_add, List.zipIdx_cons, List.zipIdx_nil, List.filter_cons, List.filter_nil]
  cases is.contains (k : Int) <;> cases b <;> simp
theorem pickR_map (is : List Int) (b : Bool) (R : List Ob) : ∀ k, k ≤ R.length → (pickR is b R k).map (·.1) = Rl.pick is b (R.map (·.1)) k
  | 0, _ => by simp [pickR, Rl.pick]
  | k + 1, h => by
    rw [pickR_snoc _ _ _ k (by omega), Rl.pick_snoc _ _ _ k (by simp; omega), List.getElem_map, ← pickR_map is b R k (by omega)]
    split <;> simp
theorem pickR_mem {is : List Int} {b : Bool} {R : List Ob} {k : Nat} {x : Ob} (h : x ∈ pickR is b R k) : x ∈ R := by
  unfold pickR at h
  obtain ⟨p, hp, rfl⟩ := List.mem_map.1 h
  have := (List.mem_filter.1 hp).1
  exact List.mem_of_mem_take (List.fst_mem_of_mem_zipIdx this)
theorem pickR_len (is : List Int) (b : Bool) (R : List Ob) (k : Nat) : (pickR is b R k).length ≤ k := by
  unfold pickR
  rw [List.length_map]
  refine Nat.le_trans (List.length_filter_le ..) ?_
  rw [List.length_zipIdx, List.length_take]
  omega
set_option maxRecDepth 100000 in
set_option maxHeartbeats 16000000 in
theorem tellsWalk (ov : Value) (xs : List Int) (nv : Value) (ys : List Int) (s : Int) (v : Value) (R : List Ob) (iv : Value) (is : List Int) (W : World) (hx : Rd W ov 1 xs.length (bc xs)) (hy : Rd W nv 1 ys.length (bc ys)) (hR : RdO W v R) (hi : Rd W iv 1 is.length (ic is)) :
    Calls Try.prog 5 #[ov, nv, .int .i64 s, v, iv] W fun e w' => e = .returned (.bool true) ∧ Below W.heap.size W w' := by
  obtain ⟨xp, xc, rfl, hxc, hxl, -⟩ := hx.form
  obtain ⟨yp, yc, rfl, hyc, hyl, -⟩ := hy.form
  obtain ⟨vp, vc, rfl, hvc, hvl⟩ := hR.form
  obtain ⟨ip, ic0, rfl, hic, hil, -⟩ := hi.form
  have HX := hid hx
  have HY := hid hy
  have HR := hid hR
  have HI := hid hi
  have HO0 := hid (Has.start W)
  clear hx hy hR hi
  by_cases hbx : xs.length ≤ 200
  · have hbxi : ¬ (200 : Int) < (xs.length : Int) := by omega
    by_cases hby : ys.length ≤ 200
    · have hbyi : ¬ (200 : Int) < (ys.length : Int) := by omega
      go_enter Try.func5, Try.ntmps5
      go_wp2_with fail
      refine (great19 _ R 20 W HR.out (by omega)).mono ?_
      rintro e w' ⟨u, rfl, hu, rfl⟩
      try dsimp only
      obtain ⟨b, rfl, hb⟩ := hu
      cases b
      · have HB := hid (hb rfl)
        clear hb
        by_cases hbi : is.length ≤ 20
        · have hbii : ¬ (20 : Int) < (is.length : Int) := by omega
          have hRl := HB.out.1
          go_wp2_with fail
          refine (lendBytes _ xs W _ HO0.out HX.out (by omega)).mono ?_
          rintro e w1 ⟨vi, rfl, hO1, hK1⟩
          have HO1 := hid hO1
          have HK1 := hid ((Keep.refl W).trans hK1)
          clear hO1 hK1
          try dsimp only
          go_wp2_with fail
          refine (rollOver _ xs s _ R w1 _ (Lent.rd HO1.out (by omega)) (fun w' h => HR.out.old h.p1) HO1.out).mono ?_
          rintro e w2 ⟨v2, rfl, hO2, hK2⟩
          have HO2 := hid hO2
          have HK2 := hid ((HK1.out).trans hK2)
          clear hO2 hK2
          try dsimp only
          go_wp2_with fail
          refine (rollSectors _ R w2 _ (by omega) (fun w' h => HR.out.old h.p2) HO2.out).mono ?_
          rintro e w3 ⟨v3, rfl, hO3, hK3⟩
          have HO3 := hid hO3
          have HK3 := hid ((HK2.out).trans hK3)
          clear hO3 hK3
          try dsimp only
          go_wp2_with fail
          refine (rollDiff s _ _ xs ys w3 _ (fun w' h => Lent.rd h.p2 (by omega)) (fun w' h => Rd.start HY.out h.p3) HO3.out).mono ?_
          rintro e w4 ⟨v4, rfl, hO4, hK4⟩
          have HO4 := hid hO4
          have HK4 := hid ((HK3.out).trans hK4)
          clear hO4 hK4
          try dsimp only
          go_wp2_with fail
          refine (refOver _ xs s _ R w4 _ (Rd.start HX.out HO4.out.p4) (fun w' h => HR.out.old h.p4) HO4.out).mono ?_
          rintro e w5 ⟨v5, rfl, hO5, hK5⟩
          have HO5 := hid hO5
          have HK5 := hid ((HK4.out).trans hK5)
          clear hO5 hK5
          try dsimp only
          go_wp2_with fail
          refine (sameBytesYes v2 v5 (over xs s (R.map (·.1))) w5 (Bytes.rd HO5.out.p3) (Bytes.rd HO5.out)).mono ?_
          rintro e w' ⟨rfl, nq6, rfl⟩
          have HO6 := hid ((HO5.out.drop).drewN nq6)
          have HK6 := hid ((HK5.out).drewN nq6)
          try dsimp only
          generalize w5.drewN nq6 = w6 at *
          clear HO0 HO1 HK1 HO2 HK2 HO3 HK3 HO4 HK4 HO5 HK5
          go_wp2_with fail
          refine (refSectors _ R w6 _ (by omega) (fun w' h => HR.out.old h.p4) HO6.out).mono ?_
          rintro e w7 ⟨v7, rfl, hO7, hK7⟩
          have HO7 := hid hO7
          have HK7 := hid ((HK6.out).trans hK7)
          clear hO7 hK7
          try dsimp only
          rw [show ∀ z, sectors z = sectors0 z from fun _ => rfl] at HO7
          go_wp2_with fail
          refine (sameIntsYes v3 v7 (sectors0 (R.map (·.1))) w7 (Ints.rd HO7.out.p2) (Ints.rd HO7.out)).mono ?_
          rintro e w' ⟨rfl, nq8, rfl⟩
          have HO8 := hid ((HO7.out.drop).drewN nq8)
          have HK8 := hid ((HK7.out).drewN nq8)
          try dsimp only
          generalize w7.drewN nq8 = w8 at *
          clear HO6 HK6 HO7 HK7
          go_wp2_with fail
          refine (refDiff s _ _ xs ys w8 _ (fun w' h => Rd.start HX.out h.p4) (fun w' h => Rd.start HY.out h.p4) HO8.out).mono ?_
          rintro e w9 ⟨v9, rfl, hO9, hK9⟩
          have HO9 := hid hO9
          have HK9 := hid ((HK8.out).trans hK9)
          clear hO9 hK9
          try dsimp only
          obtain ⟨R9, hR9, h9⟩ := objs_iff.1 HO9.out
          obtain ⟨R4, hR4, h4⟩ := objs_iff.1 (h9.p2)
          go_wp2_with fail
          refine (sameObjectsYes v4 v9 R4 R9 w9 (by rw [hR9, hR4]) (objsR h4) (objsR h9)).mono ?_
          rintro e w' ⟨rfl, nq10, rfl⟩
          have HO10 := hid ((h4.re 8 [4, 5, 6, 7]).drewN nq10)
          have HK10 := hid ((HK9.out).drewN nq10)
          try dsimp only
          have HO10 := hid (show Has (w9.drewN nq10) [Ints v3 (sectors0 (R.map (·.1))), Bytes v2 (over xs s (R.map (·.1))), Lent vi xs, old W] from HO10.out)
          generalize w9.drewN nq10 = w10 at *
          clear h9 h4 hR9 hR4 HO8 HK8 HO9 HK9
          have HSL := hid (sectors0_len (R.map (·.1)))
          rw [List.length_map] at HSL
          have HVL := hid (over_len xs s (R.map (·.1)))
          generalize sectors0 (R.map (·.1)) = SS at *
          generalize over xs s (R.map (·.1)) = VV at *
          go_wp2_with fail
          go_loopw [16, 17, 18] (fun a b i w' => ∃ k : Nat, k ≤ R.length ∧ i = .int .i64 k ∧ Hid (Has w' [row a 31 3 (pickR is true R k).length (ocells (pickR is true R k)), row b 31 3 (pickR is false R k).length (ocells (pickR is false R k)), Ints v3 SS, Bytes v2 VV, Lent vi xs, old W]) ∧ Hid (Keep W w')) (fun _ _ i _ => R.length - (intOf i).toNat)
          case atStart => exact ⟨0, by omega, rfl, hid ((HO10.out.row_nil _ _).row_nil _ _), HK10⟩
          case round =>
            clear HO10 HK10
            obtain ⟨k, hk, rfl, HO, HK⟩ := hrel
            by_cases hlt : k < R.length
            · have hki : (k : Int) < (R.length : Int) := by omega
              go_wp2_with fail
              go_loopw [19, 20] (fun b i w' => ∃ q : Nat, q ≤ is.length ∧ i = .int .i64 q ∧ w' = wr ∧ Hid (b = .bool ((is.take q).contains (k : Int)))) (fun _ i _ => is.length - (intOf i).toNat)
              case atStart => exact ⟨0, by omega, rfl, rfl, hid rfl⟩
              case round =>
                obtain ⟨q, hq, rfl, rfl, HQ⟩ := hrel
                obtain rfl := HQ.out
                by_cases hlq : q < is.length
                · have hqi : (q : Int) < (is.length : Int) := by omega
                  obtain ⟨p7, c7, e, -, -, h7⟩ := (Rd.start HI.out HO.out.p5).form
                  simp only [Value.slice.injEq, true_and] at e
                  obtain ⟨rfl, rfl⟩ := e
                  obtain ⟨g7, o7, rfl, h8⟩ := h7 (by omega)
                  have x7 := h8 q (by omega)
                  rw [ic, List.getElem?_map, List.getElem?_eq_getElem hlq, Option.map_some] at x7
                  have HN := hid (has_any (x := (k : Int)) q hlq)
                  clear h8
                  cases hc : (is.take q).contains (k : Int)
                  · rw [hc] at HN
                    by_cases he : is[q] = (k : Int)
                    · have HN2 := hid (show (is.take (q + 1)).contains (k : Int) = true by rw [HN.out, he]; simp)
                      rw [he] at x7
                      clear HN he hc
                      go_wp2_with fail
                      exact ⟨⟨q + 1, by omega, rfl, by trivial, hid (by rw [HN2.out])⟩, by simp [intOf]; omega⟩
                    · have HN2 := hid (show (is.take (q + 1)).contains (k : Int) = false by rw [HN.out]; simpa using he)
                      clear HN hc
                      generalize is[q] = sq at *
                      go_wp2_with fail
                      exact ⟨⟨q + 1, by omega, rfl, by trivial, hid (by rw [HN2.out]; congr 1; simpa using he)⟩, by simp [intOf]; omega⟩
                  · rw [hc] at HN
                    have HN2 := hid (show (is.take (q + 1)).contains (k : Int) = true by rw [HN.out]; simp)
                    clear HN hc x7
                    go_wp2_with fail
                    exact ⟨⟨q + 1, by omega, rfl, by trivial, hid (by rw [HN2.out])⟩, by simp [intOf]; omega⟩
                · have hqi : ¬ (q : Int) < (is.length : Int) := by omega
                  obtain rfl : q = is.length := by omega
                  rw [List.take_of_length_le (Nat.le_refl _)]
                  clear HQ
                  have hk0 : (0 : Int) < (R.length : Int) := by omega
                  have hk1 : 0 < R.length := by omega
                  have hk2 : ¬ R = [] := by intro h; rw [h] at hk1; simp at hk1
                  obtain ⟨vg, vo, c9, xp1, xm1, e, x0, x1, x2, x3, x4⟩ := (HR.out.old HO.out.p5).at_ k hlt
                  simp only [Value.slice.injEq, true_and] at e
                  obtain ⟨rfl, rfl⟩ := e
                  obtain ⟨vg2, vo2, c2, yp1, ym1, e2, y0, y1, y2, y3, y4⟩ := (HR.out.old HO.out.p5).at_ 0 (by omega)
                  simp only [Value.slice.injEq, true_and, Option.some.injEq, Addr.mk.injEq, and_true] at e2
                  obtain ⟨⟨rfl, rfl⟩, rfl⟩ := e2
                  simp only [Nat.zero_mul, Nat.add_zero] at y0 y1 y2
                  have HC := hid (fun w' (h : Has w' [old W]) => by
                    have h1 := (HR.out.old h).cells3 k hlt
                    have h2 := (HR.out.old h).cells3 0 (by omega)
                    rw [x3] at h1
                    rw [y3] at h2
                    simp only [Nat.zero_mul, Nat.add_zero] at h2
                    exact ⟨h1.1, h1.2.1, h1.2.2, h2⟩ : ∀ w', Has w' [old W] → w'.cell? ⟨vg, vo + k * 3, none⟩ = some (.int .i64 R[k].1.sec) ∧ w'.cell? ⟨vg, vo + k * 3 + 1, none⟩ = some (.int .i64 R[k].1.pos) ∧ w'.cell? ⟨vg, vo + k * 3 + 2, none⟩ = some (.slice xp1 R[k].1.bytes.length xm1) ∧ w'.cell? ⟨vg, vo, none⟩ = some (.int .i64 R[0].1.sec) ∧ w'.cell? ⟨vg, vo + 1, none⟩ = some (.int .i64 R[0].1.pos) ∧ w'.cell? ⟨vg, vo + 2, none⟩ = some (.slice yp1 R[0].1.bytes.length ym1))
                  have HOC := hid (show ocell R[k] = [.int .i64 R[k].1.sec, .int .i64 R[k].1.pos, .slice xp1 R[k].1.bytes.length xm1] by rw [ocell, x3])
                  have HL := hid (And.intro x4 y4)
                  clear x3 y3 x4 y4
                  generalize R[k].1.bytes = bk at *
                  generalize R[k].1.sec = sk at *
                  generalize R[k].1.pos = pk at *
                  generalize R[0].1.bytes = b0 at *
                  generalize R[0].1.sec = s0 at *
                  generalize R[0].1.pos = p0 at *
                  cases hcon : is.contains (k : Int)
                  · have HCON := hid hcon
                    clear hcon
                    have HSN := hid (pickR_snoc is false R k hlt)
                    have HSO := hid (pickR_snoc is true R k hlt)
                    rw [HCON.out] at HSN HSO
                    have hpl := pickR_len is false R k
                    have HO2 := hid (HO.out.alloc (.cells #[.int .i64 sk, .int .i64 pk, .slice xp1 bk.length xm1] 31))
                    have HK2 := hid (HK.out.alloc (.cells #[.int .i64 sk, .int .i64 pk, .slice xp1 bk.length xm1] 31))
                    go_wp2_with (at_builtin; refine wpList_appendS rfl _ _ _ rfl Try.underlying23 infoObj rfl [.int .i64 sk, .int .i64 pk, .slice xp1 bk.length xm1] rfl HO2.out.p2 rfl 1 _ rfl (fun j => by simp) (by simp [Value.oneCell']) (le_maxLen (by omega)) (by omega) ?_)
                    intro v12 w12 h12 hk12
                    have HO12 := hid (show Has w12 [row u16 31 3 (pickR is true R (k + 1)).length (ocells (pickR is true R (k + 1))), row v12 31 3 (pickR is false R (k + 1)).length (ocells (pickR is false R (k + 1))), Ints v3 SS, Bytes v2 VV, Lent vi xs, old W] from by
                      have e1 : pickR is false R (k + 1) = pickR is false R k ++ [R[k]] := by rw [HSN.out]; rfl
                      have e2 : pickR is true R (k + 1) = pickR is true R k := by rw [HSO.out]; rfl
                      rw [e1, e2, ocells_snoc, HOC.out, List.length_append, List.length_singleton]
                      exact h12.p1.drop.p1)
                    have HK12 := hid (HK2.out.trans hk12)
                    clear h12 hk12 HO HK HO2 HK2 HSN HSO hpl x0 x1 x2 y0 y1 y2 HOC HCON
                    go_upto_region 18 with fail
                    refine region_text (fun w => w.cell? ⟨vg, vo + k * 3, none⟩ = some (.int .i64 sk) ∧ w.cell? ⟨vg, vo + k * 3 + 1, none⟩ = some (.int .i64 pk) ∧ w.cell? ⟨vg, vo + k * 3 + 2, none⟩ = some (.slice xp1 bk.length xm1) ∧ w.cell? ⟨vg, vo, none⟩ = some (.int .i64 s0) ∧ w.cell? ⟨vg, vo + 1, none⟩ = some (.int .i64 p0) ∧ w.cell? ⟨vg, vo + 2, none⟩ = some (.slice yp1 b0.length ym1)) (by kernel_rfl) (by kernel_rfl) (HC.out _ HO12.out.drop.drop.drop.drop.drop.drew) ?_
                    have HO13 := hid HO12.out.drew
                    have HK13 := hid HK12.out.drew
                    clear HO12 HK12
                    repeat (first
                      | (refine wpL_read (by rfl) (by rfl) ?_ ?_ ?_; rotate_left; (rintro w ⟨z0, z1, z2, z3, z4, z5⟩; go_simp; with_reducible rfl); simp only [Act.put, List.setIfInBounds_toArray, List.set_cons_zero, List.set_cons_succ])
                      | (refine wpL_skip (by rfl) ?_; simp only [Act.put, List.setIfInBounds_toArray, List.set_cons_zero, List.set_cons_succ]))
                    refine wpL_act (by rfl) (by rfl) (fun K hK => ?_)
                    go_simp
                    refine (rollMay sk pk xp1 xm1 bk _ _ HL.out.1 HO13.out).mono ?_
                    rintro e w14 ⟨rfl, hO14, hK14⟩
                    have HO14 := hid hO14
                    have HK14 := hid (HK13.out.trans hK14)
                    clear hO14 hK14
                    try dsimp only
                    refine hK.out _ _ (HC.out _ HO14.out.drop.drop.drop.drop.drop) ?_
                    clear hK K
                    try simp only [Act.put, List.setIfInBounds_toArray, List.set_cons_zero, List.set_cons_succ]
                    repeat (first
                      | (refine wpL_read (by rfl) (by rfl) ?_ ?_ ?_; rotate_left; (rintro w ⟨z0, z1, z2, z3, z4, z5⟩; go_simp; with_reducible rfl); simp only [Act.put, List.setIfInBounds_toArray, List.set_cons_zero, List.set_cons_succ])
                      | (refine wpL_skip (by rfl) ?_; simp only [Act.put, List.setIfInBounds_toArray, List.set_cons_zero, List.set_cons_succ]))
                    refine wpL_act (by rfl) (by rfl) (fun K hK => ?_)
                    go_simp
                    refine (refMay sk pk xp1 xm1 bk _ _ HL.out.1 HO14.out).mono ?_
                    rintro e w15 ⟨rfl, hO15, hK15⟩
                    have HO15 := hid hO15
                    have HK15 := hid (HK14.out.trans hK15)
                    clear hO15 hK15
                    try dsimp only
                    refine hK.out _ _ (HC.out _ HO15.out.drop.drop.drop.drop.drop) ?_
                    clear hK K
                    try simp only [Act.put, List.setIfInBounds_toArray, List.set_cons_zero, List.set_cons_succ]
                    generalize may ⟨sk, pk, bk⟩ = mb
                    repeat (first
                      | (refine wpL_read (by rfl) (by rfl) ?_ ?_ ?_; rotate_left; (rintro w ⟨z0, z1, z2, z3, z4, z5⟩; go_simp; with_reducible rfl); simp only [Act.put, List.setIfInBounds_toArray, List.set_cons_zero, List.set_cons_succ])
                      | (refine wpL_skip (by rfl) ?_; simp only [Act.put, List.setIfInBounds_toArray, List.set_cons_zero, List.set_cons_succ]))
                    refine wpL_act (by rfl) (by rfl) (fun K hK => ?_)
                    go_simp
                    refine (rollTouch sk pk xp1 xm1 bk s0 p0 yp1 ym1 b0 _ _ HL.out.1 HL.out.2 HO15.out).mono ?_
                    rintro e w16 ⟨rfl, hO16, hK16⟩
                    have HO16 := hid hO16
                    have HK16 := hid (HK15.out.trans hK16)
                    clear hO16 hK16
                    try dsimp only
                    refine hK.out _ _ (HC.out _ HO16.out.drop.drop.drop.drop.drop) ?_
                    clear hK K
                    try simp only [Act.put, List.setIfInBounds_toArray, List.set_cons_zero, List.set_cons_succ]
                    repeat (first
                      | (refine wpL_read (by rfl) (by rfl) ?_ ?_ ?_; rotate_left; (rintro w ⟨z0, z1, z2, z3, z4, z5⟩; go_simp; with_reducible rfl); simp only [Act.put, List.setIfInBounds_toArray, List.set_cons_zero, List.set_cons_succ])
                      | (refine wpL_skip (by rfl) ?_; simp only [Act.put, List.setIfInBounds_toArray, List.set_cons_zero, List.set_cons_succ]))
                    refine wpL_act (by rfl) (by rfl) (fun K hK => ?_)
                    go_simp
                    refine (refTouch sk pk xp1 xm1 bk s0 p0 yp1 ym1 b0 _ _ HL.out.1 HL.out.2 HO16.out).mono ?_
                    rintro e w17 ⟨rfl, hO17, hK17⟩
                    have HO17 := hid hO17
                    have HK17 := hid (HK16.out.trans hK17)
                    clear hO17 hK17
                    try dsimp only
                    refine hK.out _ _ (HC.out _ HO17.out.drop.drop.drop.drop.drop) ?_
                    clear hK K
                    try simp only [Act.put, List.setIfInBounds_toArray, List.set_cons_zero, List.set_cons_succ]
                    generalize touch ⟨sk, pk, bk⟩ ⟨s0, p0, b0⟩ = tb
                    repeat (first
                      | (refine wpL_read (by rfl) (by rfl) ?_ ?_ ?_; rotate_left; (rintro w ⟨z0, z1, z2, z3, z4, z5⟩; go_simp; with_reducible rfl); simp only [Act.put, List.setIfInBounds_toArray, List.set_cons_zero, List.set_cons_succ])
                      | (refine wpL_skip (by rfl) ?_; simp only [Act.put, List.setIfInBounds_toArray, List.set_cons_zero, List.set_cons_succ]))
                    refine wpL_nil ?_
                    go_wp2_with fail
                    exact ⟨⟨k + 1, by omega, by go_num, HO17, HK17⟩, by simp [intOf]; omega⟩
                  · have HCON := hid hcon
                    clear hcon
                    have HSN := hid (pickR_snoc is true R k hlt)
                    have HSO := hid (pickR_snoc is false R k hlt)
                    rw [HCON.out] at HSN HSO
                    have hpl := pickR_len is true R k
                    have HO2 := hid (HO.out.alloc (.cells #[.int .i64 sk, .int .i64 pk, .slice xp1 bk.length xm1] 31))
                    have HK2 := hid (HK.out.alloc (.cells #[.int .i64 sk, .int .i64 pk, .slice xp1 bk.length xm1] 31))
                    go_wp2_with (at_builtin; refine wpList_appendS rfl _ _ _ rfl Try.underlying23 infoObj rfl [.int .i64 sk, .int .i64 pk, .slice xp1 bk.length xm1] rfl HO2.out.p1 rfl 1 _ rfl (fun j => by simp) (by simp [Value.oneCell']) (le_maxLen (by omega)) (by omega) ?_)
                    intro v12 w12 h12 hk12
                    have HO12 := hid (show Has w12 [row v12 31 3 (pickR is true R (k + 1)).length (ocells (pickR is true R (k + 1))), row u17 31 3 (pickR is false R (k + 1)).length (ocells (pickR is false R (k + 1))), Ints v3 SS, Bytes v2 VV, Lent vi xs, old W] from by
                      have e1 : pickR is true R (k + 1) = pickR is true R k ++ [R[k]] := by rw [HSN.out]; rfl
                      have e2 : pickR is false R (k + 1) = pickR is false R k := by rw [HSO.out]; rfl
                      rw [e1, e2, ocells_snoc, HOC.out, List.length_append, List.length_singleton]
                      exact h12.p1.drop)
                    have HK12 := hid (HK2.out.trans hk12)
                    clear h12 hk12 HO HK HO2 HK2 HSN HSO hpl x0 x1 x2 y0 y1 y2 HOC HCON
                    go_upto_region 18 with fail
                    refine region_text (fun w => w.cell? ⟨vg, vo + k * 3, none⟩ = some (.int .i64 sk) ∧ w.cell? ⟨vg, vo + k * 3 + 1, none⟩ = some (.int .i64 pk) ∧ w.cell? ⟨vg, vo + k * 3 + 2, none⟩ = some (.slice xp1 bk.length xm1) ∧ w.cell? ⟨vg, vo, none⟩ = some (.int .i64 s0) ∧ w.cell? ⟨vg, vo + 1, none⟩ = some (.int .i64 p0) ∧ w.cell? ⟨vg, vo + 2, none⟩ = some (.slice yp1 b0.length ym1)) (by kernel_rfl) (by kernel_rfl) (HC.out _ HO12.out.drop.drop.drop.drop.drop.drew) ?_
                    have HO13 := hid HO12.out.drew
                    have HK13 := hid HK12.out.drew
                    clear HO12 HK12
                    repeat (first
                      | (refine wpL_read (by rfl) (by rfl) ?_ ?_ ?_; rotate_left; (rintro w ⟨z0, z1, z2, z3, z4, z5⟩; go_simp; with_reducible rfl); simp only [Act.put, List.setIfInBounds_toArray, List.set_cons_zero, List.set_cons_succ])
                      | (refine wpL_skip (by rfl) ?_; simp only [Act.put, List.setIfInBounds_toArray, List.set_cons_zero, List.set_cons_succ]))
                    refine wpL_act (by rfl) (by rfl) (fun K hK => ?_)
                    go_simp
                    refine (rollMay sk pk xp1 xm1 bk _ _ HL.out.1 HO13.out).mono ?_
                    rintro e w14 ⟨rfl, hO14, hK14⟩
                    have HO14 := hid hO14
                    have HK14 := hid (HK13.out.trans hK14)
                    clear hO14 hK14
                    try dsimp only
                    refine hK.out _ _ (HC.out _ HO14.out.drop.drop.drop.drop.drop) ?_
                    clear hK K
                    try simp only [Act.put, List.setIfInBounds_toArray, List.set_cons_zero, List.set_cons_succ]
                    repeat (first
                      | (refine wpL_read (by rfl) (by rfl) ?_ ?_ ?_; rotate_left; (rintro w ⟨z0, z1, z2, z3, z4, z5⟩; go_simp; with_reducible rfl); simp only [Act.put, List.setIfInBounds_toArray, List.set_cons_zero, List.set_cons_succ])
                      | (refine wpL_skip (by rfl) ?_; simp only [Act.put, List.setIfInBounds_toArray, List.set_cons_zero, List.set_cons_succ]))
                    refine wpL_act (by rfl) (by rfl) (fun K hK => ?_)
                    go_simp
                    refine (refMay sk pk xp1 xm1 bk _ _ HL.out.1 HO14.out).mono ?_
                    rintro e w15 ⟨rfl, hO15, hK15⟩
                    have HO15 := hid hO15
                    have HK15 := hid (HK14.out.trans hK15)
                    clear hO15 hK15
                    try dsimp only
                    refine hK.out _ _ (HC.out _ HO15.out.drop.drop.drop.drop.drop) ?_
                    clear hK K
                    try simp only [Act.put, List.setIfInBounds_toArray, List.set_cons_zero, List.set_cons_succ]
                    generalize may ⟨sk, pk, bk⟩ = mb
                    repeat (first
                      | (refine wpL_read (by rfl) (by rfl) ?_ ?_ ?_; rotate_left; (rintro w ⟨z0, z1, z2, z3, z4, z5⟩; go_simp; with_reducible rfl); simp only [Act.put, List.setIfInBounds_toArray, List.set_cons_zero, List.set_cons_succ])
                      | (refine wpL_skip (by rfl) ?_; simp only [Act.put, List.setIfInBounds_toArray, List.set_cons_zero, List.set_cons_succ]))
                    refine wpL_act (by rfl) (by rfl) (fun K hK => ?_)
                    go_simp
                    refine (rollTouch sk pk xp1 xm1 bk s0 p0 yp1 ym1 b0 _ _ HL.out.1 HL.out.2 HO15.out).mono ?_
                    rintro e w16 ⟨rfl, hO16, hK16⟩
                    have HO16 := hid hO16
                    have HK16 := hid (HK15.out.trans hK16)
                    clear hO16 hK16
                    try dsimp only
                    refine hK.out _ _ (HC.out _ HO16.out.drop.drop.drop.drop.drop) ?_
                    clear hK K
                    try simp only [Act.put, List.setIfInBounds_toArray, List.set_cons_zero, List.set_cons_succ]
                    repeat (first
                      | (refine wpL_read (by rfl) (by rfl) ?_ ?_ ?_; rotate_left; (rintro w ⟨z0, z1, z2, z3, z4, z5⟩; go_simp; with_reducible rfl); simp only [Act.put, List.setIfInBounds_toArray, List.set_cons_zero, List.set_cons_succ])
                      | (refine wpL_skip (by rfl) ?_; simp only [Act.put, List.setIfInBounds_toArray, List.set_cons_zero, List.set_cons_succ]))
                    refine wpL_act (by rfl) (by rfl) (fun K hK => ?_)
                    go_simp
                    refine (refTouch sk pk xp1 xm1 bk s0 p0 yp1 ym1 b0 _ _ HL.out.1 HL.out.2 HO16.out).mono ?_
                    rintro e w17 ⟨rfl, hO17, hK17⟩
                    have HO17 := hid hO17
                    have HK17 := hid (HK16.out.trans hK17)
                    clear hO17 hK17
                    try dsimp only
                    refine hK.out _ _ (HC.out _ HO17.out.drop.drop.drop.drop.drop) ?_
                    clear hK K
                    try simp only [Act.put, List.setIfInBounds_toArray, List.set_cons_zero, List.set_cons_succ]
                    generalize touch ⟨sk, pk, bk⟩ ⟨s0, p0, b0⟩ = tb
                    repeat (first
                      | (refine wpL_read (by rfl) (by rfl) ?_ ?_ ?_; rotate_left; (rintro w ⟨z0, z1, z2, z3, z4, z5⟩; go_simp; with_reducible rfl); simp only [Act.put, List.setIfInBounds_toArray, List.set_cons_zero, List.set_cons_succ])
                      | (refine wpL_skip (by rfl) ?_; simp only [Act.put, List.setIfInBounds_toArray, List.set_cons_zero, List.set_cons_succ]))
                    refine wpL_nil ?_
                    go_wp2_with fail
                    exact ⟨⟨k + 1, by omega, by go_num, HO17, HK17⟩, by simp [intOf]; omega⟩
            · have hki : ¬ (k : Int) < (R.length : Int) := by omega
              obtain rfl : k = R.length := by omega
              go_wp2_with fail
              refine (rollSplit _ _ R is wr _ (by omega) (fun j hj => by have := HB.out.2 j hj; omega) (fun w' h => HR.out.old h.p5) (fun w' h => Rd.start HI.out h.p5) HO.out).mono ?_
              rintro e w20 ⟨va, vb, rfl, hO20, hK20⟩
              have HO20 := hid hO20
              have HK20 := hid ((HK.out).trans hK20)
              clear hO20 hK20
              try dsimp only
              obtain ⟨Ra, hRa, ha⟩ := objs_iff.1 HO20.out
              obtain ⟨Rb, hRb, hb⟩ := objs_iff.1 ha.p2
              have HMa := hid (show Ra.map (·.1) = (pickR is true R R.length).map (·.1) by rw [hRa, pickR_map _ _ _ _ (Nat.le_refl _)])
              have HMb := hid (show Rb.map (·.1) = (pickR is false R R.length).map (·.1) by rw [hRb, pickR_map _ _ _ _ (Nat.le_refl _)])
              have HQ := hid (show Has w20 [row va 31 3 Ra.length (ocells Ra), poolc 5 (opool Ra), row vb 31 3 Rb.length (ocells Rb), poolc 5 (opool Rb), row u16 31 3 (pickR is true R R.length).length (ocells (pickR is true R R.length)), row u17 31 3 (pickR is false R R.length).length (ocells (pickR is false R R.length)), Lent vi xs, Bytes v2 VV, Ints v3 SS, old W] from hb.re 10 [2, 3, 0, 1, 4, 5, 8, 7, 6, 9])
              have HT1 := hid (fun x (h : x ∈ pickR is true R R.length) => HR.out.2 x (pickR_mem h))
              have HT0 := hid (fun x (h : x ∈ pickR is false R R.length) => HR.out.2 x (pickR_mem h))
              have HBa := hid (show ∀ q (h : q < Ra.length), Ra[q].1.bytes.length ≤ 200 from fun q h => by
                have h1 : Ra[q].1 ∈ Ra.map (·.1) := List.mem_map.2 ⟨_, List.getElem_mem h, rfl⟩
                rw [HMa.out] at h1
                obtain ⟨z, hz, e⟩ := List.mem_map.1 h1
                obtain ⟨j, hj, rfl⟩ := List.getElem_of_mem (pickR_mem hz)
                rw [← e]
                exact HB.out.2 j hj)
              have hral : (Ra.length : Int) ≤ 20 := by
                have h1 := congrArg List.length HMa.out
                have h2 := pickR_len is true R R.length
                rw [List.length_map, List.length_map] at h1
                omega
              clear HO HK ha hb hRa hRb HO20
              generalize pickR is true R R.length = T1 at *
              generalize pickR is false R R.length = T0 at *
              go_wp2_with fail
              refine (sameObjectsYes va u16 Ra T1 w20 HMa.out (objsR HQ.out) ⟨HQ.out.p4.rd, fun x hx => Rd.start (HT1.out x hx) (HQ.out.re 10 [9])⟩).mono ?_
              rintro e w' ⟨rfl, nq21, rfl⟩
              have HO21 := hid ((HQ.out).drewN nq21)
              have HK21 := hid ((HK20.out).drewN nq21)
              try dsimp only
              generalize w20.drewN nq21 = w21 at *
              go_wp2_with fail
              refine (sameObjectsYes vb u17 Rb T0 w21 HMb.out (objsR HO21.out.drop.drop) ⟨HO21.out.p5.rd, fun x hx => Rd.start (HT0.out x hx) (HO21.out.re 10 [9])⟩).mono ?_
              rintro e w' ⟨rfl, nq22, rfl⟩
              have HO22 := hid ((HO21.out).drewN nq22)
              have HK22 := hid ((HK21.out).drewN nq22)
              try dsimp only
              generalize w21.drewN nq22 = w22 at *
              clear HQ HK20 HO21 HK21
              go_wp2_with fail
              refine (overBytes v2 VV w22 _ (show Has w22 (Bytes v2 VV :: _) from HO22.out.re 10 [7, 0, 1, 2, 3, 4, 5, 6, 8, 9]) (by rw [HVL.out]; omega)).mono ?_
              rintro e w23 ⟨rfl, hO23, hK23⟩
              have HO23 := hid hO23
              have HK23 := hid ((HK22.out).trans hK23)
              clear hO23 hK23
              try dsimp only
              go_wp2_with fail
              refine (overInts v3 SS w23 _ (show Has w23 (Ints v3 SS :: _) from HO23.out.re 9 [7, 0, 1, 2, 3, 4, 5, 6, 8]) (by have := HSL.out; omega)).mono ?_
              rintro e w24 ⟨rfl, hO24, hK24⟩
              have HO24 := hid hO24
              have HK24 := hid ((HK23.out).trans hK24)
              clear hO24 hK24
              try dsimp only
              have HO25 := hid (show Has w24 [row va 31 3 Ra.length (ocells Ra), poolc 5 (opool Ra), row vb 31 3 Rb.length (ocells Rb), poolc 5 (opool Rb), row u16 31 3 T1.length (ocells T1), row u17 31 3 T0.length (ocells T0), Lent vi xs, old W] from HO24.out)
              clear HO22 HK22 HO23 HK23 HO24
              obtain ⟨pa, ca, rfl, -⟩ := HO25.out.rd.form
              have HXX := hid HX.out
              clear HMa HI HR HX HY HT1
              go_wp2_with fail
              go_loopw [23] (fun i w' => ∃ q : Nat, q ≤ Ra.length ∧ i = .int .i64 q ∧ Hid (Has w' [row (.slice pa Ra.length ca) 31 3 Ra.length (ocells Ra), poolc 5 (opool (Ra.drop q)), row vb 31 3 Rb.length (ocells Rb), poolc 5 (opool Rb), row u16 31 3 T1.length (ocells T1), row u17 31 3 T0.length (ocells T0), Lent vi xs, old W]) ∧ Hid (Keep W w')) (fun i _ => Ra.length - (intOf i).toNat)
              case atStart => exact ⟨0, by omega, rfl, hid (by rw [List.drop_zero]; exact HO25.out), HK24⟩
              case round =>
                clear HO25 HK24
                obtain ⟨q, hq, rfl, HO, HK⟩ := hrel
                by_cases hlq : q < Ra.length
                · have hqi : (q : Int) < (Ra.length : Int) := by omega
                  obtain ⟨p7, c7, e, -, -, h7⟩ := HO.out.rd.form
                  simp only [Value.slice.injEq, true_and] at e
                  obtain ⟨rfl, rfl⟩ := e
                  obtain ⟨g7, o7, rfl, h8⟩ := h7 (by omega)
                  have x7 := (h8 (q * 3 + 2) (by omega)).trans (ocells_at Ra q hlq 2 (by omega))
                  have hp := HO.out.p1
                  rw [List.drop_eq_getElem_cons hlq] at hp
                  have hp2 := hp.pool_out 0 (by simp [opool]; omega)
                  simp only [opool, List.map_cons, List.getElem_cons_zero, List.eraseIdx_cons_zero] at hp2
                  obtain ⟨px, cx, ex, -⟩ := hp2.rd.form
                  have HP := hid hp2
                  have HLB := hid (HBa.out q hlq)
                  simp only [ocell, List.getElem?_cons_succ, List.getElem?_cons_zero] at x7
                  rw [show o7 + (q * 3 + 2) = o7 + q * 3 + 2 by omega] at x7
                  rw [ex] at x7 HP
                  clear h8 hp hp2 ex
                  generalize Ra[q].1.bytes = bq at *
                  go_wp2_with fail
                  refine (overBytes (.slice px bq.length cx) bq wr _ HP.out (by have := HLB.out; omega)).mono ?_
                  rintro e w26 ⟨rfl, hO26, hK26⟩
                  have HO26 := hid hO26
                  have HK26 := hid ((HK.out).trans hK26)
                  clear hO26 hK26
                  try dsimp only
                  go_wp2_with fail
                  exact ⟨⟨q + 1, by omega, by go_num, hid (HO26.out.p1), HK26⟩, by simp [intOf]; omega⟩
                · have hqi : ¬ (q : Int) < (Ra.length : Int) := by omega
                  obtain rfl : q = Ra.length := by omega
                  go_wp2_with fail
                  refine (sameObjectsYes u17 vb T0 Rb wr HMb.out.symm ⟨HO.out.p5.rd, fun x hx => Rd.start (HT0.out x hx) (HO.out.re 8 [7])⟩ (objsR HO.out.drop.drop)).mono ?_
                  rintro e w' ⟨rfl, nq27, rfl⟩
                  have HO27 := hid ((HO.out.re 8 [6, 7]).drewN nq27)
                  have HK27 := hid ((HK.out).drewN nq27)
                  try dsimp only
                  generalize wr.drewN nq27 = w27 at *
                  have HO27 := hid (show Has w27 [Lent vi xs, old W] from HO27.out)
                  clear HO HK
                  go_wp2_with fail
                  refine ((keptBytes vi _ xs xs w27 _ (by omega) HO27.out (Rd.start HXX.out HO27.out.p1))).mono ?_
                  rintro e w' ⟨rfl, nq28, rfl⟩
                  have HO28 := hid ((HO27.out).drewN nq28)
                  have HK28 := hid ((HK27.out).drewN nq28)
                  try dsimp only
                  generalize w27.drewN nq28 = w28 at *
                  rw [show decide (xs = xs) = true by simp]
                  go_wp2_with fail
                  refine (awake19 w28 _ HO28.out.drop).mono ?_
                  rintro e w29 ⟨rfl, hO29, hK29⟩
                  have HO29 := hid hO29
                  have HK29 := hid ((HK28.out).trans hK29)
                  clear hO29 hK29
                  try dsimp only
                  go_wp2_with fail
                  go_ret
                  exact ⟨by simp, HO29.out.below HK29.out.os HK29.out.tape HK29.out.output⟩
        · have hbii : (20 : Int) < (is.length : Int) := by omega
          go_wp2_with fail
          refine (awake19 W _ HO0.out).mono ?_
          rintro e w1 ⟨rfl, hO1, hK1⟩
          have HO1 := hid hO1
          have HK1 := hid ((Keep.refl W).trans hK1)
          clear hO1 hK1
          try dsimp only
          go_wp2_with fail
          go_ret
          exact ⟨rfl, HO1.out.below HK1.out.os HK1.out.tape HK1.out.output⟩
      · go_wp2_with fail
        refine (awake19 W _ HO0.out).mono ?_
        rintro e w1 ⟨rfl, hO1, hK1⟩
        have HO1 := hid hO1
        have HK1 := hid ((Keep.refl W).trans hK1)
        clear hO1 hK1
        try dsimp only
        go_wp2_with fail
        go_ret
        exact ⟨rfl, HO1.out.below HK1.out.os HK1.out.tape HK1.out.output⟩
    · have hbyi : (200 : Int) < (ys.length : Int) := by omega
      go_enter Try.func5, Try.ntmps5
      go_wp2_with fail
      refine (awake19 W _ HO0.out).mono ?_
      rintro e w1 ⟨rfl, hO1, hK1⟩
      have HO1 := hid hO1
      have HK1 := hid ((Keep.refl W).trans hK1)
      clear hO1 hK1
      try dsimp only
      go_wp2_with fail
      go_ret
      exact ⟨rfl, HO1.out.below HK1.out.os HK1.out.tape HK1.out.output⟩
  · have hbxi : (200 : Int) < (xs.length : Int) := by omega
    go_enter Try.func5, Try.ntmps5
    go_wp2_with fail
    refine (awake19 W _ HO0.out).mono ?_
    rintro e w1 ⟨rfl, hO1, hK1⟩
    have HO1 := hid hO1
    have HK1 := hid ((Keep.refl W).trans hK1)
    clear hO1 hK1
    try dsimp only
    go_wp2_with fail
    go_ret
    exact ⟨rfl, HO1.out.below HK1.out.os HK1.out.tape HK1.out.output⟩
end Go.Proofs.Ytihfhigkpkamiaa
