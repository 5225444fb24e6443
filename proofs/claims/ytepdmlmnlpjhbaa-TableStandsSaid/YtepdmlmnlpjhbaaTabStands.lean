/- TableStands: each descriptor stands where it was moved last; opened anew it begins at 0. -/
import Derived.Test.YtepdmlmnlpjhbaaAwake13
import Derived.Test.YtepdmlmnlpjhbaaFive
namespace Go.Proofs.Ytepdmlmnlpjhbaa
open Go.RowKit Go.Own
set_option maxRecDepth 100000 in
set_option maxHeartbeats 4000000 in
theorem tableStandsWalk (a : Value) (xs : List Int) (c : Value) (ys : List Int) (x : Int) (W : World) (ha : Rd W a 1 xs.length (ic xs)) (hc : Rd W c 1 ys.length (ic ys)) :
    Calls Try.prog 5 #[a, c, .int .i64 x] W fun e w' => e = .returned (.bool true) ∧ Below W.heap.size W w' := by
  obtain ⟨pa, ca, rfl, hca, hla, hra⟩ := ha.form
  obtain ⟨pb, cb, rfl, hcb, hlb, hrb⟩ := hc.form
  have Hra := hid hra
  have Hrb := hid hrb
  have HO := hid (Own.start W)
  clear hra hrb ha hc
  by_cases h1 : (30 : Int) < xs.length
  · go_enter Try.func5, Try.ntmps5
    go_wp2_with fail
    refine (awake13 W _ HO.out).mono ?_
    rintro e w9 ⟨rfl, hO9, hK9⟩
    have HO9 := hid hO9
    have HK9 := hid hK9
    clear hO9 hK9
    go_wp2_with fail
    go_ret
    exact ⟨rfl, HO9.out.below HK9.out.os HK9.out.tape HK9.out.output⟩
  by_cases h2 : (30 : Int) < ys.length
  · go_enter Try.func5, Try.ntmps5
    go_wp2_with fail
    refine (awake13 W _ HO.out).mono ?_
    rintro e w9 ⟨rfl, hO9, hK9⟩
    have HO9 := hid hO9
    have HK9 := hid hK9
    clear hO9 hK9
    go_wp2_with fail
    go_ret
    exact ⟨rfl, HO9.out.below HK9.out.os HK9.out.tape HK9.out.output⟩
  go_enter Try.func5, Try.ntmps5
  go_wp2_with fail
  refine (tabNew W _ HO.out).mono ?_
  rintro e w1 ⟨b, rfl, hO1, hK1⟩
  have HO1 := hid hO1
  have HK1 := hid hK1
  clear hO1 hK1
  go_wp2_with fail
  go_loopw [9] (fun i w => ∃ k : Nat, k ≤ 5 ∧ i = .int .i64 k ∧ Hid (Own w (Tab b (Tb.some5 k) :: pt w1.heap.size (.cells (Tb.fivec fun _ => 0) 50) :: [old W])) ∧ Hid (Keep W w)) (fun i _ => 5 - (intOf i).toNat)
  case atStart => exact ⟨0, by omega, rfl, hid (HO1.out.alloc _).swap, hid (HK1.out.alloc _)⟩
  case round =>
    obtain ⟨k, hk, rfl, HOw, HK⟩ := hrel
    by_cases hlt : k < 5
    · have G := hid (Tb.some5_opn k hlt)
      go_wp2_with fail
      refine (tabOpen b _ _ _ wr _ (Tb.some5_len k hk) HOw.out).mono ?_
      rintro e w2 ⟨rfl, hO2, hK2⟩
      have G' := G.out
      rw [G'] at hO2 ⊢
      have HO2 := hid hO2
      have HK2 := hid (HK.out.trans hK2)
      clear hO2 hK2 G'
      go_wp2_with fail
      go_roundw
      case rel => exact ⟨k + 1, by omega, by go_num, HO2, HK2⟩
      case measure => simp [intOf]; omega
    · obtain rfl : k = 5 := by omega
      have HO5 := hid (show Own wr (Tab b (Tb.five fun _ => 0) :: pt w1.heap.size (.cells (Tb.fivec fun _ => 0) 50) :: [old W]) from HOw.out)
      clear HOw HO1
      generalize w1.heap.size = q at *
      obtain ⟨wq, hwq⟩ : ∃ wq : World, wq = wr := ⟨_, rfl⟩
      subst hwq
      go_wp2_with fail
      go_loopw [12] (fun i w => ∃ k : Nat, k ≤ xs.length ∧ k ≤ ys.length ∧ i = .int .i64 k ∧ Hid (∃ o, Own w (Tab b (Tb.five o) :: pt q (.cells (Tb.fivec o) 50) :: [old W])) ∧ Hid (Keep W w)) (fun i _ => xs.length - (intOf i).toNat)
      case atStart => exact ⟨0, by omega, by omega, rfl, hid ⟨_, HO5.out⟩, HK⟩
      case round =>
        obtain ⟨k, hkx, hky, rfl, HOw, HK⟩ := hrel
        by_cases hlt : k < xs.length ∧ k < ys.length
        · obtain ⟨hlx, hly⟩ := hlt
          obtain ⟨ga, oa, rfl, ra⟩ := Hra.out (by omega)
          obtain ⟨gb, ob, rfl, rb⟩ := Hrb.out (by omega)
          obtain ⟨o, hO⟩ := HOw.out
          have hold := hO.drop.drop.old_look
          have hga : W.cell? ⟨ga, oa + k, none⟩ = some (.int .i64 xs[k]) := by rw [ra k (by omega), ic_at xs k hlx]
          have hgb : W.cell? ⟨gb, ob + k, none⟩ = some (.int .i64 ys[k]) := by rw [rb k (by omega), ic_at ys k hly]
          have hga' : wr.cell? ⟨ga, oa + k, none⟩ = some (.int .i64 xs[k]) := by rw [World.cell?_of_block (hold ga (World.block_lt_of_cell? W _ hga)), hga]
          have hgb' : wr.cell? ⟨gb, ob + k, none⟩ = some (.int .i64 ys[k]) := by rw [World.cell?_of_block (hold gb (World.block_lt_of_cell? W _ hgb)), hgb]
          obtain ⟨u, hu⟩ : ∃ u : Nat, (u : Int) = low xs[k] 5 := ⟨(low xs[k] 5).toNat, by have := low_in xs[k] 5 (by omega); omega⟩
          have hu5 : u < 5 := by have := low_in xs[k] 5 (by omega); omega
          have hv := low_in ys[k] 2199023255552 (by omega)
          obtain ⟨v, hve⟩ : ∃ v : Int, v = low ys[k] 2199023255552 := ⟨_, rfl⟩
          rw [← hve] at hv
          have HU := hid hu
          have HV := hid hve
          clear hu hve ra rb hold hga hgb
          have A1 := hid (Tb.five_mov o u hu5 v hv.1)
          have A2 := hid (Tb.five_not (Tb.upd o u v) u hu5 (-1 - v) (by omega))
          have HO := hid hO
          clear hO
          go_wp2_with fail
          go_quiet ((go_at_call 22; exact qleft (lowAny _ _ _ (by omega) (by omega))))
          rw [← HU.out, ← HV.out]
          go_wp2_with fail
          refine (tabMove b _ _ _ _ _ rfl (HO.out.drewN _)).mono ?_
          rintro e w2 ⟨rfl, hO2, hK2⟩
          rw [A1.out] at hO2 ⊢
          have HO2 := hid hO2
          have HK2 := hid ((HK.out.drewN _).trans hK2)
          clear hO2 hK2
          go_wp2_with fail
          refine (tabMove b _ _ _ _ _ rfl HO2.out).mono ?_
          rintro e w3 ⟨rfl, hO3, hK3⟩
          rw [A2.out] at hO3 ⊢
          have hc3 := hO3.swap.cells
          have ht3 := hO3.swap.thaw
          have hcu := Tb.fivec_at o u hu5
          have HO3 := hid hO3
          have HK3 := hid (HK2.out.trans hK3)
          clear hO3 hK3
          go_wp2_with fail
          go_roundw
          case rel =>
            refine ⟨k + 1, by omega, by omega, by go_num, hid ⟨Tb.upd o u v, ?_⟩, hid (HK3.out.set _ _)⟩
            have := HO3.out.swap.set u (.int .i64 v)
            rw [Tb.fivec_set o u hu5] at this
            exact this.swap
          case measure => simp [intOf]; omega
        · obtain ⟨o, hO⟩ := HOw.out
          obtain ⟨u, hu⟩ : ∃ u : Nat, (u : Int) = low x 5 := ⟨(low x 5).toNat, by have := low_in x 5 (by omega); omega⟩
          have hu5 : u < 5 := by have := low_in x 5 (by omega); omega
          have HU := hid hu
          have A1 := hid (Tb.five_cls o u hu5)
          have A2 := hid (Tb.five_opn o u hu5)
          have HO := hid hO
          have htt : ((100 : Int) + (u : Int) != 100 + (u : Int)) = false := by simp
          have htu : ((u : Int) != (u : Int)) = false := by simp
          clear hu hO
          by_cases hkk : k < xs.length
          all_goals
            go_wp2_with fail
            refine (lowAny x 5 _ (by omega) (by omega)).mono ?_
            rintro e w1 ⟨rfl, rfl⟩
            rw [← HU.out]
            go_wp2_with fail
            refine (tabClose b _ _ _ _ rfl HO.out).mono ?_
            rintro e w2 ⟨rfl, hO2, hK2⟩
            rw [A1.out] at hO2 ⊢
            have HO2 := hid hO2
            have HK2 := hid (HK.out.trans hK2)
            clear hO2 hK2
            go_wp2_with fail
            refine (tabOpen b _ 200 63 _ _ (by rw [List.length_set]; rfl) HO2.out).mono ?_
            rintro e w3 ⟨rfl, hO3, hK3⟩
            rw [A2.out] at hO3 ⊢
            have hc3 := hO3.swap.cells
            have ht3 := hO3.swap.thaw
            have hcu := Tb.fivec_at o u hu5
            have HO3 := hid (hO3.swap.set u (.int .i64 0)).swap
            have HK3 := hid (HK2.out.trans hK3)
            clear hO3 hK3
            go_wp2_with fail
            have HF := hid (Tb.fivec_set o u hu5 0)
            obtain ⟨wz, hwz⟩ : ∃ wz : World, wz = w3.setCell ⟨q, u, none⟩ (.int .i64 0) := ⟨_, rfl⟩
            rw [← hwz]
            have HO4 := hid (show Own wz (Tab b ((Tb.five o).set u ⟨200, 0, 63, true⟩) :: pt q (.cells (Tb.fivec (Tb.upd o u 0)) 50) :: [old W]) by rw [hwz, ← HF.out]; exact HO3.out)
            have HK4 := hid (show Keep W wz by rw [hwz]; exact HK3.out.set _ _)
            clear hwz hc3 ht3 hcu
            go_loopw [19] (fun i w => ∃ n : Nat, n ≤ 5 ∧ i = .int .i64 n ∧ Hid (Own w (Tab b ((Tb.five o).set u ⟨200, 0, 63, true⟩) :: pt q (.cells (Tb.fivec (Tb.upd o u 0)) 50) :: [old W])) ∧ Hid (Keep W w)) (fun i _ => 5 - (intOf i).toNat)
            case atStart => exact ⟨0, by omega, rfl, HO4, HK4⟩
            case round =>
              obtain ⟨n, hn, rfl, HOw', HK'⟩ := hrel
              by_cases hlt : n < 5
              · have hcq := HOw'.out.swap.cells
                have hqb := HOw'.out.swap.lt
                have hcn := Tb.fivec_at (Tb.upd o u 0) n hlt
                by_cases hnu : n = u
                · subst hnu
                  have B := hid (Tb.five_get o n hu5)
                  have hnn : ((n : Int) == (n : Int)) = true := by simp
                  go_wp2_with fail
                  refine (tabGet b _ _ _ _ (by rw [List.length_set]; rfl) (HOw'.out.alloc _).swap).mono ?_
                  rintro e w5 ⟨rfl, hO5, hK5⟩
                  rw [B.out]
                  simp only [Tb.fv]
                  have hcw := hO5.swap.cells
                  have hbw := hO5.swap.lt
                  have HO5 := hid hO5
                  have HK5 := hid ((HK'.out.alloc _).trans hK5)
                  clear hO5 hK5 hcq hqb hcn
                  generalize wr.heap.size = bw at *
                  go_wp2_with fail
                  go_roundw
                  case rel => exact ⟨n + 1, by omega, by go_num, hid (HO5.out.alloc' _).swap.drop.swap.swap, hid (HK5.out.alloc _)⟩
                  case measure => simp [intOf]; omega
                · have B := hid (Tb.five_other o u hu5 n hlt hnu)
                  have hun : Tb.upd o u 0 n = o n := by simp [Tb.upd, hnu]
                  rw [hun] at hcn
                  have hnn : ((n : Int) == (u : Int)) = false := by simp; omega
                  clear hun
                  go_wp2_with fail
                  refine (tabGet b _ _ _ _ (by rw [List.length_set]; rfl) (HOw'.out.alloc _).swap).mono ?_
                  rintro e w5 ⟨rfl, hO5, hK5⟩
                  rw [B.out]
                  simp only [Tb.fv]
                  have hcw := hO5.swap.cells
                  have hbw := hO5.swap.lt
                  have HO5 := hid hO5
                  have HK5 := hid ((HK'.out.alloc _).trans hK5)
                  clear hO5 hK5 hcq hqb hcn
                  generalize wr.heap.size = bw at *
                  go_wp2_with fail
                  go_roundw
                  case rel => exact ⟨n + 1, by omega, by go_num, hid (HO5.out.alloc' _).swap.drop.swap.swap, hid (HK5.out.alloc _)⟩
                  case measure => simp [intOf]; omega
              · go_wp2_with fail
                refine (awake13 _ _ HOw'.out).mono ?_
                rintro e w9 ⟨rfl, hO9, hK9⟩
                have HO9 := hid hO9
                have HK9 := hid (HK'.out.trans hK9)
                clear hO9 hK9
                go_wp2_with fail
                go_ret
                exact ⟨rfl, HO9.out.drop.drop.below HK9.out.os HK9.out.tape HK9.out.output⟩
end Go.Proofs.Ytepdmlmnlpjhbaa
