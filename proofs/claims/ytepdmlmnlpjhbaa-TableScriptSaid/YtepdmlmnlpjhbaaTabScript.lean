/- TableScript: whatever is opened, closed and moved, each call answers as the document says, and leaves the same descriptors. -/
import Derived.Test.YtepdmlmnlpjhbaaAwake13
import Derived.Test.YtepdmlmnlpjhbaaText
import Derived.Deep.DeepCutAuto
import Derived.Deep.CutBlock
import Derived.Deep.RegionHeld3
import Derived.StillTailTactics
namespace Go.Proofs.Ytepdmlmnlpjhbaa
open Go.RowKit Go.Own
/-- An act's four numbers. -/
def actc (d f k g : Int) : List Value := [.int .i64 d, .int .i64 f, .int .i64 k, .int .i64 g]
theorem seen3 {w : World} {l : List HP} {g1 g2 q : Nat} {x y z d f k fl : Int} {t u : TypeId}
    (h : Own w (pt g1 (.cells #[.int .i64 x, .int .i64 y, .int .i64 z] t) :: pt g2 (.cells #[.int .i64 x, .int .i64 y, .int .i64 z] t) :: pt q (.cells #[.int .i64 d, .int .i64 f, .int .i64 k, .int .i64 fl] u) :: l)) :
    w.cell? ⟨g1, 0, none⟩ = some (.int .i64 x) ∧ w.cell? ⟨g1, 1, none⟩ = some (.int .i64 y) ∧ w.cell? ⟨g1, 2, none⟩ = some (.int .i64 z) ∧
    w.cell? ⟨g2, 0, none⟩ = some (.int .i64 x) ∧ w.cell? ⟨g2, 1, none⟩ = some (.int .i64 y) ∧ w.cell? ⟨g2, 2, none⟩ = some (.int .i64 z) ∧
    w.cell? ⟨q, 1, none⟩ = some (.int .i64 f) ∧ w.cell? ⟨q, 2, none⟩ = some (.int .i64 k) :=
  ⟨h.cells 0, h.cells 1, h.cells 2, h.p1.cells 0, h.p1.cells 1, h.p1.cells 2, h.p2.cells 1, h.p2.cells 2⟩
theorem sameIntsYes (a b : Value) (xs : List Int) (w : World) (ha : Rd w a 1 xs.length (ic xs)) (hb : Rd w b 1 xs.length (ic xs)) :
    Calls Try.prog 17 #[a, b] w fun e w' => e = .returned (.bool true) ∧ ∃ n, w' = w.drewN n :=
  (sameInts a b xs xs w ha hb).mono fun e w' ⟨h1, h2⟩ => ⟨by simpa using h1, h2⟩
set_option maxRecDepth 100000 in
set_option maxHeartbeats 8000000 in
theorem tableScriptWalk (a : Value) (n : Nat) (xs : List Value) (W : World) (ha : Rd W a 4 n xs)
    (hx : ∀ i, i < n → ∃ d f k g : Int, xs[i * 4]? = some (.int .i64 d) ∧ xs[i * 4 + 1]? = some (.int .i64 f) ∧ xs[i * 4 + 2]? = some (.int .i64 k) ∧ xs[i * 4 + 3]? = some (.int .i64 g)) :
    Calls Try.prog 3 #[a] W fun e w' => e = .returned (.bool true) ∧ Below W.heap.size W w' := by
  obtain ⟨pa, ca, rfl, hca, hla, hra⟩ := ha.form
  have Hra := hid hra
  have Hx := hid hx
  have HO := hid (Own.start W)
  clear hra ha hx
  by_cases h1 : (80 : Int) < n
  · go_enter Try.func3, Try.ntmps3
    go_wp2_with fail
    refine (awake13 W _ HO.out).mono ?_
    rintro e w9 ⟨rfl, hO9, hK9⟩
    have HO9 := hid hO9
    have HK9 := hid hK9
    clear hO9 hK9
    go_wp2_with fail
    go_ret
    exact ⟨rfl, HO9.out.below HK9.out.os HK9.out.tape HK9.out.output⟩
  go_enter Try.func3, Try.ntmps3
  go_wp2_with fail
  refine (tabNew W _ HO.out).mono ?_
  rintro e w1 ⟨b, rfl, hO1, hK1⟩
  have HO1 := hid hO1
  have HK1 := hid hK1
  clear hO1 hK1
  go_wp2_with fail
  have HO2 := hid (show Own _ (Tab b (List.replicate 16 Tb.none4) :: RTab w1.heap.size (List.replicate 16 Tb.none4) :: [old W]) from (HO1.out.alloc _).swap)
  have HK2 := hid (HK1.out.alloc (.cells (Tb.cells (List.replicate 16 Tb.none4)) 31))
  generalize w1.heap.size = c at *
  go_loopw [5] (fun i w => ∃ k : Nat, k ≤ n ∧ i = .int .i64 k ∧ Hid (∃ T : List Tb.Slot, T.length = 16 ∧ Own w (Tab b T :: RTab c T :: [old W])) ∧ Hid (Keep W w)) (fun i _ => n - (intOf i).toNat)
  case atStart => exact ⟨0, by omega, rfl, hid ⟨_, rfl, HO2.out⟩, HK2⟩
  case round =>
    obtain ⟨i, hi, rfl, HOw, HK⟩ := hrel
    by_cases hlt : i < n
    · obtain ⟨g, o, rfl, ra⟩ := Hra.out (by omega)
      obtain ⟨d, f, k, fl, e0, e1, e2, e3⟩ := Hx.out i hlt
      obtain ⟨T, hT, hO⟩ := HOw.out
      have hold := hO.drop.drop.old_look
      have rd : ∀ j v, i * 4 + j < n * 4 → xs[i * 4 + j]? = some v → wr.cell? ⟨g, o + i * 4 + j, none⟩ = some v := fun j v hj hv => by
        have := ra (i * 4 + j) hj
        rw [hv] at this
        rw [Nat.add_assoc, World.cell?_of_block (hold g (World.block_lt_of_cell? W _ this)), this]
      have c0 : wr.cell? ⟨g, o + i * 4, none⟩ = some (.int .i64 d) := rd 0 _ (by omega) e0
      have c1 := rd 1 _ (by omega) e1
      have c2 := rd 2 _ (by omega) e2
      have c3 := rd 3 _ (by omega) e3
      have hgb := World.block_lt_of_cell? wr _ c0
      have HO := hid hO
      have HT := hid hT
      clear hold rd e0 e1 e2 e3 ra hO hT
      go_upto_block 2 with (fail)
      have HX := hid (HO.out.alloc (.cells #[.int .i64 d, .int .i64 f, .int .i64 k, .int .i64 fl] 33))
      have HKX := hid (HK.out.alloc (.cells #[.int .i64 d, .int .i64 f, .int .i64 k, .int .i64 fl] 33))
      generalize hq : wr.heap.size = q at *
      generalize hw2 : wr.alloc (.cells #[.int .i64 d, .int .i64 f, .int .i64 k, .int .i64 fl] 33) = w2 at *
      clear hq hw2 HO HOw HK
      go_cut [] (fun wx => Hid (∃ T : List Tb.Slot, T.length = 16 ∧ Own wx (Tab b T :: RTab c T :: pt q (.cells #[.int .i64 d, .int .i64 f, .int .i64 k, .int .i64 fl] 33) :: [old W]) ∧ Keep W wx))
      case first =>
        have hq1 := HX.out.cells
        have hP := HX.out.p1
        have HP := hid (show Own w2 (Tab b T :: pt q (.cells #[.int .i64 d, .int .i64 f, .int .i64 k, .int .i64 fl] 33) :: RTab c T :: [old W]) from hP)
        clear hP
        by_cases d0 : d = 0
        · subst d0
          have hopn : ((Tb.opn T k fl).1.1 != (Tb.opn T k fl).1.1) = false := by simp
          have hopn2 : ((Tb.opn T k fl).1.2 != (Tb.opn T k fl).1.2) = false := by simp
          have HL := hid (Tb.opn_len T k fl HT.out)
          go_wp2_with fail
          refine (tabOpen b T k fl _ _ HT.out HP.out).mono ?_
          rintro e w3 ⟨rfl, hO3, hK3⟩
          have HO3 := hid (hO3.p2)
          have HK3 := hid (HKX.out.trans hK3)
          have hq3 := (hO3.p1).cells
          clear hO3 hK3 hq1
          go_wp2_with fail
          refine (rtabOpen c T k fl _ _ HT.out HO3.out).mono ?_
          rintro e w4 ⟨rfl, hO4, hK4⟩
          have HO4 := hid (hO4.p1)
          have HK4 := hid (HK3.out.trans hK4)
          clear hO4 hK4 hq3
          go_wp2_with fail
          go_meet
          case rel => exact hid ⟨_, HL.out, HO4.out, HK4.out⟩
        by_cases d1 : d = 1
        · subst d1
          clear d0
          have hcls : ((Tb.cls T f).1.1 != (Tb.cls T f).1.1) = false := by simp
          have hcls2 : ((Tb.cls T f).1.2 != (Tb.cls T f).1.2) = false := by simp
          have HL := hid (Tb.cls_len T f HT.out)
          go_wp2_with fail
          refine (tabClose b T f _ _ HT.out HP.out).mono ?_
          rintro e w3 ⟨rfl, hO3, hK3⟩
          have HO3 := hid (hO3.p2)
          have HK3 := hid (HKX.out.trans hK3)
          have hq3 := (hO3.p1).cells
          clear hO3 hK3 hq1
          go_wp2_with fail
          refine (rtabClose c T f _ _ HT.out HO3.out).mono ?_
          rintro e w4 ⟨rfl, hO4, hK4⟩
          have HO4 := hid (hO4.p1)
          have HK4 := hid (HK3.out.trans hK4)
          clear hO4 hK4 hq3
          go_wp2_with fail
          go_meet
          case rel => exact hid ⟨_, HL.out, HO4.out, HK4.out⟩
        by_cases d2 : d = 2
        · subst d2
          clear d0 d1
          have hmv : ((Tb.mov T f k).1 != (Tb.mov T f k).1) = false := by simp
          have HL := hid (Tb.mov_len T f k HT.out)
          go_wp2_with fail
          go_region_held3 (fun w' => w'.cell? ⟨q, 1, none⟩ = some (.int .i64 f) ∧ w'.cell? ⟨q, 2, none⟩ = some (.int .i64 k))
            (first | exact ⟨HX.out.cells 1, HX.out.cells 2⟩ | exact ⟨(HO3.out.p2).cells 1, (HO3.out.p2).cells 2⟩ | exact ⟨(HO4.out.p2).cells 1, (HO4.out.p2).cells 2⟩)
            (first
              | (go_at_call 12; refine (tabMove b T f k _ _ HT.out (by exact HP.out)).mono ?_; rintro e w3 ⟨rfl, hO3, hK3⟩; have HO3 := hid (hO3.p2); have HK3 := hid (HKX.out.drew.trans hK3); clear hO3 hK3)
              | (go_at_call 13; refine (rtabMove c T f k _ _ HT.out (by exact HO3.out)).mono ?_; rintro e w4 ⟨rfl, hO4, hK4⟩; have HO4 := hid (hO4.p1); have HK4 := hid (HK3.out.trans hK4); clear hO4 hK4))
          go_wp2_with fail
          go_meet
          case rel => exact hid ⟨_, HL.out, HO4.out, HK4.out⟩
        · have e0 : (d == 0) = false := by simpa using d0
          have e1 : (d == 1) = false := by simpa using d1
          have e2 : (d == 2) = false := by simpa using d2
          clear d0 d1 d2
          go_wp2_with fail
          go_meet
          case rel => exact hid ⟨_, HT.out, HX.out.b2, HKX.out⟩
      case rest =>
        clear HX HKX HT
        obtain ⟨T', hT, hO, hK⟩ := hcut.out
        have hq := hO.p2.cells
        have HT := hid hT
        have HO := hid hO
        have HK := hid hK
        clear hcut hT hO hK
        rcases hl : Tb.look T' f with _ | s
        · have HR := hid (show Tb.there T' f = false by simp [Tb.there, hl])
          have HG := hid (show Tb.get T' f = (Tb.none4, 10) by simp only [Tb.get, hl])
          clear hl
          go_wp2_with fail
          refine (tabGet b T' f _ _ HT.out HO.out).mono ?_
          rintro e w3 ⟨rfl, hO3, hK3⟩
          rw [HG.out]
          simp only [Tb.none4]
          have HO3 := hid hO3
          have HK3 := hid (HK.out.trans hK3)
          have hq3 := hO3.p2.cells
          have hqb := hO3.p2.lt
          clear hO3 hK3 hq
          go_upto_region 26 with (fail)
          have hA := HO3.out.alloc (.cells #[.int .i64 0, .int .i64 0, .int .i64 0] 40)
          have hB := hA.alloc (.cells #[.int .i64 0, .int .i64 0, .int .i64 0] 40)
          have hKB := hid ((HK3.out.alloc (.cells #[.int .i64 0, .int .i64 0, .int .i64 0] 40)).alloc (.cells #[.int .i64 0, .int .i64 0, .int .i64 0] 40))
          rw [World.size_alloc] at hB
          generalize hw4 : (w3.alloc (.cells #[.int .i64 0, .int .i64 0, .int .i64 0] 40)).alloc (.cells #[.int .i64 0, .int .i64 0, .int .i64 0] 40) = w4 at *
          generalize hg2 : w3.heap.size + 1 = g2 at *
          generalize hg1 : w3.heap.size = g1 at *
          have HB := hid hB
          have hqc := hB.p4.cells
          have hgc := hB.p1.cells
          have hwc := hB.cells
          have hwt := hB.thaw
          have hAA : True := trivial
          clear hA hB hw4 hg1 hg2 hq3 hqb
          go_wp2_with fail
          refine (rtabThere c T' f _ _ HT.out HB.out.p3).mono ?_
          rintro e w5 ⟨rfl, rfl⟩
          rw [HR.out]
          go_wp2_with fail
          have hKC := hKB
          have HC := HB
          clear hqc hgc hwc hwt
          have hhh : (Tb.holds T' k != Tb.holds T' k) = false := by simp
          refine (tabList b T' _ _ HT.out (by exact HC.out.p2)).mono ?_
          rintro e w5 ⟨v1, rfl, hO5, hK5⟩
          have HO5 := hid hO5
          have HK5 := hid (hKC.out.trans (show Keep _ _ from hK5))
          clear hO5 hK5 HC
          go_wp2_with fail
          refine region_text (fun w => w.cell? ⟨g1, 0, none⟩ = some (.int .i64 0) ∧ w.cell? ⟨g1, 1, none⟩ = some (.int .i64 0) ∧ w.cell? ⟨g1, 2, none⟩ = some (.int .i64 0) ∧
              w.cell? ⟨g2, 0, none⟩ = some (.int .i64 0) ∧ w.cell? ⟨g2, 1, none⟩ = some (.int .i64 0) ∧ w.cell? ⟨g2, 2, none⟩ = some (.int .i64 0) ∧
              w.cell? ⟨q, 1, none⟩ = some (.int .i64 f) ∧ w.cell? ⟨q, 2, none⟩ = some (.int .i64 k)) (by kernel_rfl) (by kernel_rfl) (seen3 HO5.out.p5.p3.p4) ?_
          repeat (first
            | (refine wpL_read (by rfl) (by rfl) ?_ ?_ ?_; rotate_left; (intro w hS; go_simp; with_reducible rfl); simp only [Act.put, List.setIfInBounds_toArray, List.set_cons_zero, List.set_cons_succ])
            | (refine wpL_skip (by rfl) ?_; simp only [Act.put, List.setIfInBounds_toArray, List.set_cons_zero, List.set_cons_succ])
            | (refine wpL_act (by rfl) (by rfl) (fun K hK => ?_); go_simp; go_at_call 15; refine (rtabThere c T' f _ _ HT.out (by exact HO5.out.p4)).mono ?_; rintro e w6 ⟨rfl, rfl⟩; rw [HR.out]; dsimp only; refine hK.out _ _ (seen3 HO5.out.p5.p3.p4) ?_; clear hK K; try simp only [Act.put, List.setIfInBounds_toArray, List.set_cons_zero, List.set_cons_succ])
            | (refine wpL_act (by rfl) (by rfl) (fun K hK => ?_); go_simp; go_at_call 18; refine (rtabList c T' _ _ HT.out (by exact HO5.out.p4)).mono ?_; rintro e w6 ⟨v2, rfl, hO6, hK6⟩; have HO6 := hid hO6; have HK6 := hid (HK5.out.drew.trans hK6); clear hO6 hK6; dsimp only; refine hK.out _ _ (seen3 HO6.out.p6.p5.p6) ?_; clear hK K; try simp only [Act.put, List.setIfInBounds_toArray, List.set_cons_zero, List.set_cons_succ])
            | (refine wpL_act (by rfl) (by rfl) (fun K hK => ?_); go_simp; go_at_call 17; refine (sameIntsYes _ _ (Tb.lst T' 16) _ (by exact HO6.out.p2.rd) (by exact HO6.out.rd)).mono ?_; rintro e w7 ⟨rfl, nn, rfl⟩; dsimp only; refine hK.out _ _ (seen3 (HO6.out.p6.p5.p6.drewN nn)) ?_; clear hK K; try simp only [Act.put, List.setIfInBounds_toArray, List.set_cons_zero, List.set_cons_succ])
            | (refine wpL_act (by rfl) (by rfl) (fun K hK => ?_); go_simp; go_at_call 19; refine (tabHolds b T' k _ _ HT.out (by exact (HO6.out.p3.drewN nn))).mono ?_; rintro e w7 ⟨rfl, hO7, hK7⟩; have HO7 := hid hO7; have HK7 := hid ((HK6.out.drewN nn).trans hK7); clear hO7 hK7; dsimp only; refine hK.out _ _ (seen3 HO7.out.p6.p5.p6) ?_; clear hK K; try simp only [Act.put, List.setIfInBounds_toArray, List.set_cons_zero, List.set_cons_succ])
            | (refine wpL_act (by rfl) (by rfl) (fun K hK => ?_); go_simp; go_at_call 20; refine (rtabHolds c T' k _ _ HT.out (by exact HO7.out.p2)).mono ?_; rintro e w8 ⟨rfl, rfl⟩; dsimp only; refine hK.out _ _ (seen3 HO7.out.p6.p5.p6) ?_; clear hK K; try simp only [Act.put, List.setIfInBounds_toArray, List.set_cons_zero, List.set_cons_succ])
            | refine wpL_nil ?_)
          go_wp2_with fail
          refine (overInts v1 _ _ _ (by exact HO7.out.p3) (by have := Tb.lst_len T' 16 (by have := HT.out; omega); omega)).mono ?_
          rintro e w9 ⟨rfl, hO9, hK9⟩
          have HO9 := hid hO9
          have HK9 := hid (HK7.out.trans hK9)
          clear hO9 hK9
          go_wp2_with fail
          go_roundw
          case rel => exact ⟨i + 1, by omega, by go_num, hid ⟨T', HT.out, HO9.out.keep [true, false, true, false, false, false]⟩, HK9⟩
          case measure => simp [intOf]; omega
        · obtain ⟨j, hj, rfl, rfl, hon⟩ := Tb.look_in HT.out hl
          have hj16 : j < 16 := by have := HT.out; omega
          have hji : (j : Int) < 16 := by omega
          have hj0 : (0 : Int) ≤ (j : Int) := by omega
          have HR := hid (show Tb.there T' j = true by simp [Tb.there, hl])
          have HG := hid (show Tb.get T' j = (T'[j], 0) by simp only [Tb.get, hl])
          obtain ⟨c0, c1, c2, c3⟩ := Tb.cells_at T' j hj
          clear hl hon
          go_wp2_with fail
          refine (tabGet b T' j _ _ HT.out HO.out).mono ?_
          rintro e w3 ⟨rfl, hO3, hK3⟩
          rw [HG.out]
          have HO3 := hid hO3
          have HK3 := hid (HK.out.trans hK3)
          have hq3 := hO3.p2.cells
          have hqb := hO3.p2.lt
          clear hO3 hK3 hq
          go_upto_region 26 with (fail)
          have hA := HO3.out.alloc (.cells #[.int .i64 T'[j].node, .int .i64 T'[j].off, .int .i64 T'[j].flags] 40)
          have hB := hA.alloc (.cells #[.int .i64 0, .int .i64 0, .int .i64 0] 40)
          have hKB := hid ((HK3.out.alloc (.cells #[.int .i64 T'[j].node, .int .i64 T'[j].off, .int .i64 T'[j].flags] 40)).alloc (.cells #[.int .i64 0, .int .i64 0, .int .i64 0] 40))
          rw [World.size_alloc] at hB
          generalize hw4 : (w3.alloc (.cells #[.int .i64 T'[j].node, .int .i64 T'[j].off, .int .i64 T'[j].flags] 40)).alloc (.cells #[.int .i64 0, .int .i64 0, .int .i64 0] 40) = w4 at *
          generalize hg2 : w3.heap.size + 1 = g2 at *
          generalize hg1 : w3.heap.size = g1 at *
          have HB := hid hB
          have hqc := hB.p4.cells
          have hrc := hB.p3.cells
          have hgc := hB.p1.cells
          have hwc := hB.cells
          have hwt := hB.thaw
          have hAA : True := trivial
          clear hA hB hw4 hg1 hg2 hq3 hqb
          go_wp2_with fail
          refine (rtabThere c T' j _ _ HT.out HB.out.p3).mono ?_
          rintro e w5 ⟨rfl, rfl⟩
          rw [HR.out]
          go_wp2_with fail
          go_still_tail 25, (by kernel_rfl)
          change wpList _ _ _ _ _ w4.drew
          go_wp2_with fail
          have hC := ((HB.out.drew.set 0 (.int .i64 T'[j].node)).set 1 (.int .i64 T'[j].off)).set 2 (.int .i64 T'[j].flags)
          have hKC := hid (((hKB.out.drew.set ⟨g2, 0, none⟩ (.int .i64 T'[j].node)).set ⟨g2, 1, none⟩ (.int .i64 T'[j].off)).set ⟨g2, 2, none⟩ (.int .i64 T'[j].flags))
          have HC := hid (show Own _ (pt g2 (.cells #[.int .i64 T'[j].node, .int .i64 T'[j].off, .int .i64 T'[j].flags] 40) :: _) from hC)
          clear hqc hrc hgc hwc hwt hC
          have hhh : (Tb.holds T' k != Tb.holds T' k) = false := by simp
          refine (tabList b T' _ _ HT.out (by exact HC.out.p2)).mono ?_
          rintro e w5 ⟨v1, rfl, hO5, hK5⟩
          have HO5 := hid hO5
          have HK5 := hid (hKC.out.trans (show Keep _ _ from hK5))
          clear hO5 hK5 HC
          go_wp2_with fail
          refine region_text (fun w => w.cell? ⟨g1, 0, none⟩ = some (.int .i64 T'[j].node) ∧ w.cell? ⟨g1, 1, none⟩ = some (.int .i64 T'[j].off) ∧ w.cell? ⟨g1, 2, none⟩ = some (.int .i64 T'[j].flags) ∧
              w.cell? ⟨g2, 0, none⟩ = some (.int .i64 T'[j].node) ∧ w.cell? ⟨g2, 1, none⟩ = some (.int .i64 T'[j].off) ∧ w.cell? ⟨g2, 2, none⟩ = some (.int .i64 T'[j].flags) ∧
              w.cell? ⟨q, 1, none⟩ = some (.int .i64 j) ∧ w.cell? ⟨q, 2, none⟩ = some (.int .i64 k)) (by kernel_rfl) (by kernel_rfl) (seen3 HO5.out.p5.p3.p4) ?_
          repeat (first
            | (refine wpL_read (by rfl) (by rfl) ?_ ?_ ?_; rotate_left; (intro w hS; go_simp; with_reducible rfl); simp only [Act.put, List.setIfInBounds_toArray, List.set_cons_zero, List.set_cons_succ])
            | (refine wpL_skip (by rfl) ?_; simp only [Act.put, List.setIfInBounds_toArray, List.set_cons_zero, List.set_cons_succ])
            | (refine wpL_act (by rfl) (by rfl) (fun K hK => ?_); go_simp; go_at_call 15; refine (rtabThere c T' j _ _ HT.out (by exact HO5.out.p4)).mono ?_; rintro e w6 ⟨rfl, rfl⟩; rw [HR.out]; dsimp only; refine hK.out _ _ (seen3 HO5.out.p5.p3.p4) ?_; clear hK K; try simp only [Act.put, List.setIfInBounds_toArray, List.set_cons_zero, List.set_cons_succ])
            | (refine wpL_act (by rfl) (by rfl) (fun K hK => ?_); go_simp; go_at_call 18; refine (rtabList c T' _ _ HT.out (by exact HO5.out.p4)).mono ?_; rintro e w6 ⟨v2, rfl, hO6, hK6⟩; have HO6 := hid hO6; have HK6 := hid (HK5.out.drew.trans hK6); clear hO6 hK6; dsimp only; refine hK.out _ _ (seen3 HO6.out.p6.p5.p6) ?_; clear hK K; try simp only [Act.put, List.setIfInBounds_toArray, List.set_cons_zero, List.set_cons_succ])
            | (refine wpL_act (by rfl) (by rfl) (fun K hK => ?_); go_simp; go_at_call 17; refine (sameIntsYes _ _ (Tb.lst T' 16) _ (by exact HO6.out.p2.rd) (by exact HO6.out.rd)).mono ?_; rintro e w7 ⟨rfl, nn, rfl⟩; dsimp only; refine hK.out _ _ (seen3 (HO6.out.p6.p5.p6.drewN nn)) ?_; clear hK K; try simp only [Act.put, List.setIfInBounds_toArray, List.set_cons_zero, List.set_cons_succ])
            | (refine wpL_act (by rfl) (by rfl) (fun K hK => ?_); go_simp; go_at_call 19; refine (tabHolds b T' k _ _ HT.out (by exact (HO6.out.p3.drewN nn))).mono ?_; rintro e w7 ⟨rfl, hO7, hK7⟩; have HO7 := hid hO7; have HK7 := hid ((HK6.out.drewN nn).trans hK7); clear hO7 hK7; dsimp only; refine hK.out _ _ (seen3 HO7.out.p6.p5.p6) ?_; clear hK K; try simp only [Act.put, List.setIfInBounds_toArray, List.set_cons_zero, List.set_cons_succ])
            | (refine wpL_act (by rfl) (by rfl) (fun K hK => ?_); go_simp; go_at_call 20; refine (rtabHolds c T' k _ _ HT.out (by exact HO7.out.p2)).mono ?_; rintro e w8 ⟨rfl, rfl⟩; dsimp only; refine hK.out _ _ (seen3 HO7.out.p6.p5.p6) ?_; clear hK K; try simp only [Act.put, List.setIfInBounds_toArray, List.set_cons_zero, List.set_cons_succ])
            | refine wpL_nil ?_)
          go_wp2_with fail
          refine (overInts v1 _ _ _ (by exact HO7.out.p3) (by have := Tb.lst_len T' 16 (by have := HT.out; omega); omega)).mono ?_
          rintro e w9 ⟨rfl, hO9, hK9⟩
          have HO9 := hid hO9
          have HK9 := hid (HK7.out.trans hK9)
          clear hO9 hK9
          go_wp2_with fail
          go_roundw
          case rel => exact ⟨i + 1, by omega, by go_num, hid ⟨T', HT.out, HO9.out.keep [true, false, true, false, false, false]⟩, HK9⟩
          case measure => simp [intOf]; omega
    · go_wp2_with fail
      obtain ⟨T, hT, hO⟩ := HOw.out
      refine (awake13 _ _ hO).mono ?_
      rintro e w9 ⟨rfl, hO9, hK9⟩
      have HO9 := hid hO9
      have HK9 := hid (HK.out.trans hK9)
      clear hO9 hK9 hO
      go_wp2_with fail
      go_ret
      exact ⟨rfl, HO9.out.drop.drop.below HK9.out.os HK9.out.tape HK9.out.output⟩
end Go.Proofs.Ytepdmlmnlpjhbaa
