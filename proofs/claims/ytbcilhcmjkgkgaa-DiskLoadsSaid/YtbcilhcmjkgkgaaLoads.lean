/- DiskLoads: a disk of an image has it, firm; an image of sectors of another length is none. For every input. -/
import Derived.Test.YtbcilhcmjkgkgaaAwake4
import Derived.Test.YtbcilhcmjkgkgaaDiskl
import Derived.Test.YtbcilhcmjkgkgaaPref
namespace Go.Proofs.Ytbcilhcmjkgkgaa
open Go.RowKit Go.Own Go.Dk
def goodB (R : Txs) (k : Nat) : Bool := decide (0 < R.length) && (R.take k).all fun x => x.2.length == 128
theorem goodB_succ (R : Txs) (k : Nat) (hk : k < R.length) : goodB R (k + 1) = (goodB R k && R[k].2.length == 128) := by
  unfold goodB
  rw [← List.take_append_getElem hk, List.all_append, ← Bool.and_assoc]
  simp
theorem RdP.start {W w : World} {L : List HP} {v : Value} {R : Txs} (hr : RdP W v R) (h : Has w (old W :: L)) : RdP w v R := ⟨Rd.start hr.1 h, fun x hx => Rd.start (hr.2 x hx) h⟩
def LoadAny (R : Txs) (L : List HP) (w : World) (e : Ending) (w' : World) : Prop :=
  ((∃ d : Nat, e = .returned (.pointer (some ⟨d, 0, none⟩)) ∧ goodB R R.length = true ∧ Has w' (Dk d ⟨R.map (·.2), [], true, none, [], 0⟩ :: L)) ∨ (e = .returned (.pointer none) ∧ goodB R R.length = false ∧ Has w' L)) ∧ Keep w w'
theorem loadAny (v : Value) (R : Txs) (w : World) (L : List HP) (h2 : R.length ≤ 2048) (hL : ∀ w', Has w' L → RdP w' v R) (hO : Has w L) :
    Calls Try.prog 25 #[v] w (LoadAny R L w) := by
  by_cases h0 : R.length = 0
  · refine (loadNil v R w (.inl h0) (hL w hO)).mono ?_
    rintro e w' ⟨rfl, rfl⟩
    exact ⟨.inr ⟨rfl, by simp [goodB, h0], hO⟩, Keep.refl _⟩
  · refine (loadGo v R w L (by omega) h2 hL hO).mono ?_
    rintro e w' ⟨⟨d, he, h, hh⟩ | ⟨he, ⟨x, hx, h⟩, hh⟩, hK⟩
    · refine ⟨.inl ⟨d, he, ?_, hh⟩, hK⟩
      unfold goodB
      rw [List.take_length]
      simp only [Bool.and_eq_true, decide_eq_true_eq, List.all_eq_true, beq_iff_eq]
      exact ⟨by omega, h⟩
    · refine ⟨.inr ⟨he, ?_, hh⟩, hK⟩
      unfold goodB
      rw [List.take_length, Bool.and_eq_false_iff]
      right
      rw [List.all_eq_false]
      exact ⟨x, hx, by simpa using h⟩
theorem writeNil (x : Int) (p : Option Addr) (n c : Nat) (w : World) (hn : n ≤ 9223372036854775807) : Calls Try.prog 11 #[.pointer none, .int .i64 x, .slice p n c] w fun e w' => e = .returned (.int .i64 1) ∧ w = w' := by
  have H := hid (diskThereNil x w)
  have H2 := hid (diskAskedNil false w)
  go_enter Try.func11, Try.ntmps11
  go_wp2_with fail
  refine (H.out).mono ?_
  rintro e w' ⟨rfl, rfl⟩
  try dsimp only
  go_wp2_with fail
  refine (H2.out).mono ?_
  rintro e w' ⟨rfl, rfl⟩
  try dsimp only
  go_wp2_with fail
  go_ret
  exact ⟨rfl, rfl⟩
set_option maxRecDepth 100000 in
set_option maxHeartbeats 4000000 in
theorem loadsWalk (v : Value) (R : Txs) (W : World) (hr : RdP W v R) :
    Calls Try.prog 6 #[v] W fun e w' => e = .returned (.bool true) ∧ Below W.heap.size W w' := by
  obtain ⟨vp, vc, rfl⟩ := hr.form
  have hvl := hr.len
  have HR := hid hr
  have HO0 := hid (Has.start W)
  clear hr
  by_cases hbig : 20 < R.length
  · go_enter Try.func6, Try.ntmps6
    go_wp2_with fail
    refine (awake4 W _ HO0.out).mono ?_
    rintro e w1 ⟨rfl, hO1, hK1⟩
    have HO1 := hid hO1
    have HK1 := hid ((Keep.refl W).trans hK1)
    clear hO1 hK1
    try dsimp only
    go_wp2_with fail
    go_ret
    exact ⟨rfl, HO1.out.below HK1.out.os HK1.out.tape HK1.out.output⟩
  · have hg0 : decide (0 < (R.length : Int)) = goodB R 0 := by simp [goodB]
    have HG := hid hg0
    clear hg0
    go_enter Try.func6, Try.ntmps6
    go_wp2_with fail
    go_loop [3, 4] (fun g i => ∃ k : Nat, k ≤ R.length ∧ i = .int .i64 k ∧ g = .bool (goodB R k)) (fun _ i => R.length - (intOf i).toNat)
    case atStart => exact ⟨0, by omega, rfl, by rw [← HG.out]; simp⟩
    case round =>
      obtain ⟨k, hk, rfl, rfl⟩ := hrel
      by_cases hlt : k < R.length
      · obtain ⟨g, o, c, p, m, e, hc, hx⟩ := HR.out.at_ k hlt
        simp only [Value.slice.injEq, true_and] at e
        obtain ⟨rfl, rfl⟩ := e
        have hgs := goodB_succ R k hlt
        have HX := hid hx
        clear hx
        by_cases h200 : 200 < R[k].2.length
        · go_wp2_with fail
          refine (awake4 W _ HO0.out).mono ?_
          rintro e w1 ⟨rfl, hO1, hK1⟩
          have HO1 := hid hO1
          have HK1 := hid ((Keep.refl W).trans hK1)
          clear hO1 hK1
          try dsimp only
          go_wp2_with fail
          go_ret
          exact ⟨rfl, HO1.out.below HK1.out.os HK1.out.tape HK1.out.output⟩
        · by_cases hl : R[k].2.length = 128
          · have ht : ((R[k].2.length : Int) == 128) = true := by simp [hl]
            have HS := hid (show goodB R (k + 1) = goodB R k by rw [hgs]; simp [hl])
            clear hgs hl
            cases hb : goodB R k
            · rw [hb] at HS
              go_wp2_with fail
              exact ⟨⟨k + 1, by omega, by go_num, by rw [HS.out]⟩, by simp [intOf]; omega⟩
            · rw [hb] at HS
              go_wp2_with fail
              exact ⟨⟨k + 1, by omega, by go_num, by rw [HS.out]⟩, by simp [intOf]; omega⟩
          · have ht : ((R[k].2.length : Int) == 128) = false := by simp; omega
            have HS := hid (show goodB R (k + 1) = false by rw [hgs]; simp [hl])
            clear hgs hl
            cases hb : goodB R k
            · go_wp2_with fail
              exact ⟨⟨k + 1, by omega, by go_num, by rw [HS.out]⟩, by simp [intOf]; omega⟩
            · go_wp2_with fail
              exact ⟨⟨k + 1, by omega, by go_num, by rw [HS.out]⟩, by simp [intOf]; omega⟩
      · obtain rfl : k = R.length := by omega
        go_wp2_with fail
        refine (loadAny _ R W _ (by omega) (fun w' h => RdP.start HR.out h) HO0.out).mono ?_
        rintro e w1 ⟨⟨d, rfl, hg, hO1⟩ | ⟨rfl, hg, hO1⟩, hK1⟩
        · have HP := hid (show 0 < R.length by simp only [goodB, Bool.and_eq_true, decide_eq_true_eq] at hg; exact hg.1)
          rw [hg]
          have HO1 := hid hO1
          have HK1 := hid hK1
          clear hO1 hK1 hg
          try dsimp only
          go_wp2_with fail
          refine (readNil 0 w1 _ HO1.out).mono ?_
          rintro e w2 ⟨rfl, hO2, hK2⟩
          have HO2 := hid hO2
          have HK2 := hid ((HK1.out).trans hK2)
          clear hO2 hK2
          try dsimp only
          clear HO1 HK1
          go_wp2_with fail
          refine (writeNil 0 none 0 0 w2 (by omega)).mono ?_
          rintro e w' ⟨rfl, rfl⟩
          try dsimp only
          go_wp2_with fail
          refine (flushNil w2).mono ?_
          rintro e w' ⟨rfl, rfl⟩
          try dsimp only
          go_wp2_with fail
          refine (diskOnNil w2).mono ?_
          rintro e w' ⟨rfl, rfl⟩
          try dsimp only
          go_wp2_with fail
          refine (imageNil w2).mono ?_
          rintro e w' ⟨rfl, rfl⟩
          try dsimp only
          go_wp2_with fail
          refine (diskSectorsNil w2).mono ?_
          rintro e w' ⟨rfl, rfl⟩
          try dsimp only
          have XZ := hid (show (Bk.mk (R.map (·.2)) [] true none [] 0).firm.length ≤ 1000000000 by simp; omega)
          have XF := hid (show (Bk.mk (R.map (·.2)) [] true none [] 0).firm = R.map (·.2) from rfl)
          have XW := hid (Bk.write_ok (D := Bk.mk (R.map (·.2)) [] true none [] 0) rfl rfl (a := 0) (by omega) (by show (0 : Int) < ((R.map (·.2)).length : Int); have := HP.out; simp; omega) (fill128 1))
          have XC := hid (show ((Bk.mk (R.map (·.2)) [] true none [] 0).write 0 (fill 1 128)).2.firm = R.map (·.2) by rw [XW.out])
          generalize hE : Bk.mk (R.map (·.2)) [] true none [] 0 = E at *
          have XL := hid (show E.waits.length ≤ 1000000000 ∧ E.writes.length ≤ 1000000000 by rw [← hE]; exact ⟨by simp, by simp⟩)
          clear hE
          go_wp2_with fail
          refine (kImage d E w2 _ HO2.out XZ.out).mono ?_
          rintro e w3 ⟨v3, rfl, hO3, hK3⟩
          have HO3 := hid hO3
          have HK3 := hid ((HK2.out).trans hK3)
          clear hO3 hK3
          try dsimp only
          rw [XF.out] at HO3
          have hrt : RdT w3 (.slice vp R.length vc) (R.map (·.2)) := ⟨R, rfl, RdP.start HR.out HO3.out.p2⟩
          go_wp2_with fail
          refine (sameTexts v3 _ (R.map (·.2)) (R.map (·.2)) w3 (Prts.rd HO3.out) hrt).mono ?_
          rintro e w' ⟨rfl, nq4, rfl⟩
          have HO4 := hid ((HO3.out.drop).drewN nq4)
          have HK4 := hid ((HK3.out).drewN nq4)
          try dsimp only
          simp only [decide_true]
          clear HO2 HK2 HO3 HK3 hrt
          generalize w3.drewN nq4 = w4 at *
          go_wp2_with fail
          refine (fillAny128 1 w4 _ HO4.out).mono ?_
          rintro e w5 ⟨vp5, vc5, rfl, hO5, hK5⟩
          have HO5 := hid hO5
          have HK5 := hid (HK4.out.trans hK5)
          clear hO5 hK5 HO4 HK4
          try dsimp only
          go_wp2_with fail
          refine (kWrite d E w5 _ HO5.out.p1 0 (.slice vp5 128 vc5) (fill 1 128) XL.out.1 XL.out.2 (fun w' h => Bytes.rd h)).mono ?_
          rintro e w6 ⟨rfl, hO6, hK6⟩
          have HO6 := hid hO6
          have HK6 := hid ((HK5.out).trans hK6)
          clear hO6 hK6
          try dsimp only
          rw [XW.out]
          try dsimp only
          have XA := hid (show (E.write 0 (fill 1 128)).1 = 0 by rw [XW.out])
          have XB := hid (show ((E.write 0 (fill 1 128)).2.crash []).firm = R.map (·.2) from (blayKept_nil _ _).trans XC.out)
          have XB2 := hid (show ((E.write 0 (fill 1 128)).2.crash []).boot.1 = 0 from rfl)
          clear XW XA
          generalize (E.write 0 (fill 1 128)).2 = E1 at *
          go_wp2_with fail
          refine (kCrash0 d E1 w6 _ HO6.out).mono ?_
          rintro e w7 ⟨rfl, hO7, hK7⟩
          have HO7 := hid hO7
          have HK7 := hid ((HK6.out).trans hK7)
          clear hO7 hK7
          try dsimp only
          generalize E1.crash [] = E2 at *
          go_wp2_with fail
          refine (kImage d E2 w7 _ HO7.out (by rw [XB.out]; simp; omega)).mono ?_
          rintro e w8 ⟨v8, rfl, hO8, hK8⟩
          have HO8 := hid hO8
          have HK8 := hid ((HK7.out).trans hK8)
          clear hO8 hK8
          try dsimp only
          rw [XB.out] at HO8
          have hrt : RdT w8 (.slice vp R.length vc) (R.map (·.2)) := ⟨R, rfl, RdP.start HR.out HO8.out.p3⟩
          go_wp2_with fail
          refine (sameTexts v8 _ (R.map (·.2)) (R.map (·.2)) w8 (Prts.rd HO8.out) hrt).mono ?_
          rintro e w' ⟨rfl, nq9, rfl⟩
          have HO9 := hid ((HO8.out.drop).drewN nq9)
          have HK9 := hid ((HK8.out).drewN nq9)
          try dsimp only
          simp only [decide_true]
          clear HO8 HK8 hrt
          generalize w8.drewN nq9 = w9 at *
          go_wp2_with fail
          refine (kBoot d E2 w9 _ HO9.out).mono ?_
          rintro e w10 ⟨rfl, hO10, hK10⟩
          have HO10 := hid hO10
          have HK10 := hid ((HK9.out).trans hK10)
          clear hO10 hK10
          try dsimp only
          rw [XB2.out]
          go_wp2_with fail
          refine (awake4 w10 _ HO10.out).mono ?_
          rintro e w11 ⟨rfl, hO11, hK11⟩
          have HO11 := hid hO11
          have HK11 := hid ((HK10.out).trans hK11)
          clear hO11 hK11
          try dsimp only
          go_wp2_with fail
          go_ret
          exact ⟨rfl, HO11.out.p2.below HK11.out.os HK11.out.tape HK11.out.output⟩
        · rw [hg]
          have HO1 := hid hO1
          have HK1 := hid hK1
          clear hO1 hK1 hg
          try dsimp only
          go_wp2_with fail
          refine (readNil 0 w1 _ HO1.out).mono ?_
          rintro e w2 ⟨rfl, hO2, hK2⟩
          have HO2 := hid hO2
          have HK2 := hid ((HK1.out).trans hK2)
          clear hO2 hK2
          try dsimp only
          clear HO1 HK1
          go_wp2_with fail
          refine (writeNil 0 none 0 0 w2 (by omega)).mono ?_
          rintro e w' ⟨rfl, rfl⟩
          try dsimp only
          go_wp2_with fail
          refine (flushNil w2).mono ?_
          rintro e w' ⟨rfl, rfl⟩
          try dsimp only
          go_wp2_with fail
          refine (diskOnNil w2).mono ?_
          rintro e w' ⟨rfl, rfl⟩
          try dsimp only
          go_wp2_with fail
          refine (imageNil w2).mono ?_
          rintro e w' ⟨rfl, rfl⟩
          try dsimp only
          go_wp2_with fail
          refine (diskSectorsNil w2).mono ?_
          rintro e w' ⟨rfl, rfl⟩
          try dsimp only
          go_wp2_with fail
          refine (awake4 w2 _ HO2.out).mono ?_
          rintro e w3 ⟨rfl, hO3, hK3⟩
          have HO3 := hid hO3
          have HK3 := hid ((HK2.out).trans hK3)
          clear hO3 hK3
          try dsimp only
          go_wp2_with fail
          go_ret
          exact ⟨rfl, HO3.out.below HK3.out.os HK3.out.tape HK3.out.output⟩
end Go.Proofs.Ytbcilhcmjkgkgaa
