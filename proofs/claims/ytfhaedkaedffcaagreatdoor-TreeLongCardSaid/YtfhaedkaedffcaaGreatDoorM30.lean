/- TEXTS of mine, merged. -/
import Derived.Test.YtfhaedkaedffcaaGreatDoorM7
import Derived.Test.YtfhaedkaedffcaaGreatDoorM28
import Derived.Test.YtfhaedkaedffcaaGreatDoorM29
import Derived.Test.YtfhaedkaedffcaaGreatDoorRows
import Derived.Lay
import Derived.LaidMore
import Derived.SevenTiedAt
import Derived.HandedShaped
import Derived.Shelf.Vars
import Derived.ProofKit
import Derived.OpenShut
import Derived.Stop.Joined
/- THE WALK of Fill. -/
namespace Go.Proofs.YtfhaedkaedffcaaGreatDoor
open Go.RowKit Go.Own
/-- Byte k of number n's text. -/
def fb (n : Int) (k : Nat) : Int := (n / 2 ^ (8 * (k % 4)) + (k : Int) * 7) % 256
def fill (n : Int) (sz : Nat) : List Int := (List.range sz).map (fb n)
end Go.Proofs.YtfhaedkaedffcaaGreatDoor
/- THE WALK of TreeAppends. -/
namespace Go.Proofs.YtfhaedkaedffcaaGreatDoor
open Go.RowKit Go.Own
def lowQ : Qc := ⟨[20], fun _ args => .int .i64 (low (intOf (args.getD 0 undef)) (intOf (args.getD 1 undef))), []⟩
section
variable (q : Nat) (w : World) (L : List HP) {d : List Int} {wr : List Bool} (hd : d.length ≤ 5000) (hw : wr.length ≤ 162) (o : Nat) (ho : o ≤ 5000)
include hd hw ho
end
end Go.Proofs.YtfhaedkaedffcaaGreatDoor
/- THE WALK of TreeLong. -/
namespace Go.Proofs.YtfhaedkaedffcaaGreatDoor
open Go.RowKit Go.Own
set_option maxRecDepth 100000 in
set_option maxHeartbeats 16000000 in
theorem longWalk (mx : Int) (long : Int) (link : Bool) (W : World) (hmx : W.cell? ⟨0, 0, none⟩ = some (.int .i64 mx)) :
    Calls Tryz.prog 8 #[.int .i64 long, .bool link] W fun e w' => e = .returned (.bool true) ∧ Below W.heap.size W w' := by
  have HO := hid (Has.start W)
  have HM := hid (mxStart hmx)
  clear hmx
  obtain ⟨r0, hr0, hr1⟩ := low_nat long 24 (by decide)
  have HB := hid hr0
  clear hr0
  obtain ⟨n, hn⟩ : ∃ n : Nat, n = 1 + r0 := ⟨_, rfl⟩
  have wr : IntKind.i64.wrap (1 + (r0 : Int)) = (n : Int) := by rw [wrapk_in _ (by omega)]; omega
  have hn2 : n ≤ 24 := by omega
  have hn1 : 1 ≤ n := by omega
  clear hn hr1
  have af0 := ansF0
  have af1 := ansF1
  go_enter Tryz.func8, Tryz.ntmps8
  go_wp2_with fail
  refine (lowN long 24 r0 W (by decide) (by decide) HB.out).mono ?_
  rintro e w' ⟨rfl, rfl⟩
  try dsimp only
  go_wp2_with fail
  refine (tNew W [old W] HO.out).mono ?_
  rintro e w1 ⟨q, rfl, hO1, hK1⟩
  have HO1 := hid hO1
  have HK1 := hid ((Keep.refl W).trans hK1)
  clear hO1 hK1
  try dsimp only
  clear HO
  go_wp2_with fail
  go_loopw [7, 6] (fun i sv w => ∃ (j : Nat) (T : ByteArray), w = w1 ∧ j ≤ n ∧ i = .int .i64 j ∧ sv = .string T ∧ Hid (sB (47 :: xS j) = T)) (fun i _ _ => n - (intOf i).toNat)
  case atStart => exact ⟨0, _, by trivial, by omega, by trivial, by trivial, hid rfl⟩
  case round =>
    obtain ⟨j, T, rfl, hjn, rfl, rfl, HT⟩ := hrel
    by_cases hlt : j < n
    · have hji : (j : Int) < (n : Int) := by omega
      have hts : T.size ≤ 25 := by rw [← HT.out, sB_size]; simp [xS]; omega
      have hn1 : ¬ 9223372036854775807 < T.size + 1 := by omega
      go_wp2_with fail
      go_roundw
      case rel => exact ⟨j + 1, _, by trivial, by omega, by go_num, by trivial, hid (by rw [← HT.out]; exact (xS_succ j).symm)⟩
      case measure => simp [intOf]; omega
    · obtain rfl : j = n := by omega
      have hji : ¬ (j : Int) < (j : Int) := by omega
      have hTs : T.size = j + 1 := by rw [← HT.out, sB_size]; simp [xS]
      have hTi : (T.size : Int) = (j : Int) + 1 := by omega
      go_wp2_with fail
      go_loopw [10, 9, 8] (fun i dv pv w => ∃ (i' : Nat) (S : Tre) (P : ByteArray) (w0 : World), w0 = w ∧ i' ≤ 20 ∧ i = .int .i64 i' ∧ dv = .int .i64 i' ∧ pv = .string P ∧ Hid (sB (joinP (deepP i' j)) = P) ∧ Hid (Dp S i' i' j) ∧ Hid (Has w0 (Trc q S :: [old W])) ∧ Hid (Keep W w0)) (fun i _ _ _ => 22 - (intOf i).toNat)
      case atStart => exact ⟨0, tre0, _, _, by trivial, by omega, by trivial, by trivial, by trivial, hid rfl, hid (dp0 j), HO1, HK1⟩
      case round =>
        clear HO1 HK1
        obtain ⟨i, S, P, w0, rfl, hi20, rfl, rfl, rfl, HP, HDP, HOw, HKw⟩ := hrel
        have hPs : P.size = i * (j + 1) := by rw [← HP.out, sB_size, deepP_len]
        have hmul := Nat.mul_le_mul hi20 (show j + 1 ≤ 25 by omega)
        have hPb : P.size ≤ 500 := by omega
        have HPS := hid hPs
        have HTS := hid hTs
        clear hPs hmul
        have hTb : T.size ≤ 25 := by omega
        clear hTs
        have hi22 : (i : Int) < 22 := by omega
        have hnn : ¬ 9223372036854775807 < P.size + T.size := by omega
        have hE : P ++ T = sB (joinP (deepP (i + 1) j)) := by rw [← HP.out, ← HT.out, deep_snoc]
        have HE := hid hE.symm
        clear hE
        clear hTi
        go_wp2_with fail
        refine (gMkdir q mx w0 [old W] HM.out HDP.out (by omega) hn1 hn2 hi20 HE.out HOw.out).mono ?_
        rintro e w4 ⟨c, a4, ca4, b4, cb4, S4, rfl, hfy, hfn, hO4, hK4⟩
        have HO4 := hid hO4
        have HK4 := hid ((HKw.out).trans hK4)
        clear hO4 hK4
        try dsimp only
        have HFY := hid hfy
        have HFN := hid hfn
        clear hfy hfn HOw HKw
        go_upto_region 15 with fail
        have HP4 := hid (HO4.out.alloc (.cells #[.int .i64 c, .int .i64 0, .int .i64 0, .int .i64 0, .slice a4 0 ca4, .slice b4 0 cb4] 29))
        have HQ4 := hid (HK4.out.alloc (.cells #[.int .i64 c, .int .i64 0, .int .i64 0, .int .i64 0, .slice a4 0 ca4, .slice b4 0 cb4] 29))
        clear HO4 HK4
        generalize w4.alloc (.cells #[.int .i64 c, .int .i64 0, .int .i64 0, .int .i64 0, .slice a4 0 ca4, .slice b4 0 cb4] 29) = y4 at *
        generalize w4.heap.size = g4 at *
        have hc4 : y4.cell? ⟨g4, 0, none⟩ = some (.int .i64 c) := HP4.out.cells 0
        go_cut [12] (fun bv wx => y4 = wx ∧ bv = .bool (decide (fitsD i j)))
        case first =>
          have wps : IntKind.i64.wrap ((P.size : Int) + (T.size : Int)) = (P.size : Int) + (T.size : Int) := wrapk_in _ (by have := HTS.out; omega)
          by_cases hi20' : i < 20
          · have hii : (i : Int) < 20 := by omega
            by_cases hs : P.size + T.size ≤ 200
            · have hsi : (P.size : Int) + (T.size : Int) ≤ 200 := by omega
              have HF := hid (show decide (fitsD i j) = true from decide_eq_true ⟨hi20', by have h1 := HPS.out; have h2 := HTS.out; omega⟩)
              go_wp2_with fail
              go_meet
              exact ⟨rfl, by rw [HF.out]⟩
            · have hsi : ¬ (P.size : Int) + (T.size : Int) ≤ 200 := by omega
              have HF := hid (show decide (fitsD i j) = false from decide_eq_false fun h => by unfold fitsD at h; have h1 := HPS.out; have h2 := HTS.out; omega)
              go_wp2_with fail
              go_meet
              exact ⟨rfl, by rw [HF.out]⟩
          · have hii : ¬ (i : Int) < 20 := by omega
            have HF := hid (show decide (fitsD i j) = false from decide_eq_false fun h => by unfold fitsD at h; omega)
            go_wp2_with fail
            go_meet
            exact ⟨rfl, by rw [HF.out]⟩
        case rest =>
          obtain ⟨rfl, rfl⟩ := hcut
          by_cases hf : fitsD i j
          · obtain ⟨rfl, hdp⟩ := HFY.out hf
            have HDP4 := hid hdp
            have hfd : decide (fitsD i j) = true := decide_eq_true hf
            have hi20' : i < 20 := hf.1
            rw [hfd]
            clear hfd hf hdp HFY HFN
            go_wp2_with fail
            go_roundw
            case rel => exact ⟨i + 1, S4, P ++ T, _, rfl, by omega, by go_num, by go_num, rfl, HE, HDP4, hid HP4.out.drop, HQ4⟩
            case measure => simp [intOf]; omega
          · obtain ⟨rfl, hdp⟩ := HFN.out hf
            have HDP4 := hid hdp
            have HF := hid hf
            have hfd : decide (fitsD i j) = false := decide_eq_false hf
            have hi1 : 1 ≤ i := by
              refine Classical.byContradiction fun h0 => hf ?_
              obtain rfl : i = 0 := by omega
              unfold fitsD
              omega
            have hi1i : (1 : Int) ≤ (i : Int) := by omega
            rw [hfd]
            clear hfd hf hdp HFY HFN
            cases link
            · have hcnt := HDP4.out.count hi20
              have hge : (i : Int) ≤ ((i + 1 : Nat) : Int) := by omega
              go_wp2_with fail
              refine (nNodes (n := i + 1) q y4 [pt g4 (.cells #[.int .i64 11, .int .i64 0, .int .i64 0, .int .i64 0, .slice a4 0 ca4, .slice b4 0 cb4] 29), old W] HDP4.out.gd (by omega) hcnt (by omega) (HP4.out.re 3 [1, 0, 2])).mono ?_
              rintro e w5 ⟨a5, ca5, rfl, hO5, hK5⟩
              have HO5 := hid hO5
              have HK5 := hid ((HQ4.out).trans hK5)
              clear hO5 hK5
              try dsimp only
              go_wp2_with fail
              refine (awake14 mx w5 _ ((HM.out.cons _).cons _) HO5.out).mono ?_
              rintro e w6 ⟨rfl, hO6, hK6⟩
              have HO6 := hid hO6
              have HK6 := hid ((HK5.out).trans hK6)
              clear hO6 hK6
              try dsimp only
              go_wp2_with fail
              go_ret
              exact ⟨rfl, (HO6.out.re 3 [2]).below HK6.out.os HK6.out.tape HK6.out.output⟩
            · by_cases h100 : P.size ≤ 100
              · have hPi : (P.size : Int) ≤ 100 := by omega
                go_wp2_with fail
                refine (gLink q mx y4 [pt g4 (.cells #[.int .i64 11, .int .i64 0, .int .i64 0, .int .i64 0, .slice a4 0 ca4, .slice b4 0 cb4] 29), old W] (HM.out.cons _) HDP4.out (by omega) hn1 hn2 hi1 hi20 (by rw [← HPS.out]; exact h100) HP.out (HP4.out.re 3 [1, 0, 2])).mono ?_
                rintro e w5 ⟨a5, ca5, b5, cb5, S5, rfl, hg5, hm5, hO5, hK5⟩
                have HO5 := hid hO5
                have HK5 := hid ((HQ4.out).trans hK5)
                clear hO5 hK5
                try dsimp only
                have HG5 := hid hg5
                have HM5 := hid (hm5 HF.out)
                clear hg5 hm5
                have hE2 : (⟨#[47, 108]⟩ : ByteArray) ++ T = sB (joinP [[108], xS j]) := by rw [← HT.out, l_snoc]
                have HE2 := hid hE2.symm
                clear hE2
                have hn9 : ¬ 9223372036854775807 < 2 + T.size := by have := HTS.out; omega
                go_wp2_with fail
                refine (gLast q mx w5 [pt g4 (.cells #[.int .i64 11, .int .i64 0, .int .i64 0, .int .i64 0, .slice a4 0 ca4, .slice b4 0 cb4] 29), old W] (HM.out.cons _) HG5.out (by omega) hn2 HM5.out HE2.out HO5.out).mono ?_
                rintro e w6 ⟨a6, ca6, b6, cb6, rfl, hO6, hK6⟩
                have HO6 := hid hO6
                have HK6 := hid ((HK5.out).trans hK6)
                clear hO6 hK6
                try dsimp only
                go_upto_region 23 with fail
                have HP6 := hid (HO6.out.alloc (.cells #[.int .i64 11, .int .i64 0, .int .i64 0, .int .i64 0, .slice a6 0 ca6, .slice b6 0 cb6] 29))
                have HQ6 := hid (HK6.out.alloc (.cells #[.int .i64 11, .int .i64 0, .int .i64 0, .int .i64 0, .slice a6 0 ca6, .slice b6 0 cb6] 29))
                clear HO6 HK6
                generalize w6.alloc (.cells #[.int .i64 11, .int .i64 0, .int .i64 0, .int .i64 0, .slice a6 0 ca6, .slice b6 0 cb6] 29) = y6 at *
                generalize w6.heap.size = g6 at *
                have hc6 : y6.cell? ⟨g6, 0, none⟩ = some (.int .i64 11) := HP6.out.cells 0
                go_wp2_with fail
                refine (awake14 mx y6 _ (((HM.out.cons _).cons _).cons _) HP6.out).mono ?_
                rintro e w7 ⟨rfl, hO7, hK7⟩
                have HO7 := hid hO7
                have HK7 := hid ((HQ6.out).trans hK7)
                clear hO7 hK7
                try dsimp only
                go_wp2_with fail
                go_ret
                exact ⟨rfl, (HO7.out.re 4 [3]).below HK7.out.os HK7.out.tape HK7.out.output⟩
              · have hPi : ¬ (P.size : Int) ≤ 100 := by omega
                have hcnt := HDP4.out.count hi20
                have hge : (i : Int) ≤ ((i + 1 : Nat) : Int) := by omega
                go_wp2_with fail
                refine (nNodes (n := i + 1) q y4 [pt g4 (.cells #[.int .i64 11, .int .i64 0, .int .i64 0, .int .i64 0, .slice a4 0 ca4, .slice b4 0 cb4] 29), old W] HDP4.out.gd (by omega) hcnt (by omega) (HP4.out.re 3 [1, 0, 2])).mono ?_
                rintro e w5 ⟨a5, ca5, rfl, hO5, hK5⟩
                have HO5 := hid hO5
                have HK5 := hid ((HQ4.out).trans hK5)
                clear hO5 hK5
                try dsimp only
                go_wp2_with fail
                refine (awake14 mx w5 _ ((HM.out.cons _).cons _) HO5.out).mono ?_
                rintro e w6 ⟨rfl, hO6, hK6⟩
                have HO6 := hid hO6
                have HK6 := hid ((HK5.out).trans hK6)
                clear hO6 hK6
                try dsimp only
                go_wp2_with fail
                go_ret
                exact ⟨rfl, (HO6.out.re 3 [2]).below HK6.out.os HK6.out.tape HK6.out.output⟩
end Go.Proofs.YtfhaedkaedffcaaGreatDoor
/- What the frames of chapter 14's cards share: the listed data met, and the world's shape kept. -/
namespace Go.Proofs.YtfhaedkaedffcaaGreatDoor
open Go.ChangeShapes Go.WideShapes Go.ChangeAt Go.RowKit
variable {H : Type} {enc : TypeId × Value → H}
theorem handed_and_shaped {a : Assume} {C : Checked} {os : Os} {f : FuncId} {fn : Func} {s : ChangeSpec} {conds : List PathCond} {apart fresh handsOn again : Bool} {X : World → Array Value → Prop}
    (hX : ∀ (w w' : World) (args : Array Value), w.heap = w'.heap → X w args → X w' args)
    (own : ownKnob C.prog.godebug = none) (started : os.Started) (noInit : C.prog.inits.idxOf? f = none) (hfn : C.prog.funcs[f]? = some fn)
    (witness : ∃ (w : World) (tape : Tape) (i : Input), w.os = os ∧ (w.forCall tape i).Shaped C.prog ∧ i.vars = [] ∧ Input.okWide C.prog (w.forCall tape i) .any w.heap.size f i ∧
      ((s.pre enc C.prog fn conds apart (w.forCall tape i).memory i.args ∧ X (w.forCall tape i).memory i.args) ∧ sizedMet enc C.prog fn (OpenSpec.ofChange s) apart (w.forCall tape i).memory i.args) ∧ a.holds C.prog (lone (Frame.enter C.prog f i.args .normal) [] (w.forCall tape i)))
    (contract : ∀ (W : World) (base : Nat) (args : Array Value) (ds gs : List (DataW H)) (before : List MemPlace),
      (∀ (j : Nat) t v, fn.params[j]? = some t → args[j]? = some v → Value.okWide C.prog W .any base t v) →
      DataW.Whole enc C.prog fn.params.toList s.vars apart W args.toList ds gs before →
      conds.all (PathCond.test C.prog ⟨fn.params.toList, ds, s.plain.varTypes C.prog, gs⟩) = true →
      (DataW.weightsEach C.prog (fn.params.toList ++ s.plain.varTypes C.prog) (ds ++ gs)).all (· ≤ reachBytes) = true → X W args → W.ShapedOpen C.prog →
      a.holds C.prog (lone (Frame.enter C.prog f args .normal) [] W) →
      Calls C.prog f args W fun e W' => ∃ v, e = .returned v ∧ s.post enc C.prog fn apart fresh handsOn again W args v W') :
    ReturnsInHanded a C os f .any (fun w args => (s.pre enc C.prog fn conds apart w args ∧ X w args) ∧ sizedMet enc C.prog fn (OpenSpec.ofChange s) apart w args) (s.post enc C.prog fn apart fresh handsOn again) := by
  refine returnsInHanded_of_calls own started noInit witness ?_
  intro w tape i _ hsh _ hok hpre hholds
  obtain ⟨_, _, _, fn', hfn', _, _, _, _, hval⟩ := hok
  have e : fn' = fn := Option.some.inj (hfn'.symm.trans hfn)
  subst e
  obtain ⟨⟨⟨ds, gs, before, hw, hc⟩, hx⟩, hz⟩ := hpre
  have hw' := DataW.Whole.of_heap (w' := w.forCall tape i) (by rfl) hw
  refine (contract (w.forCall tape i) w.heap.size i.args ds gs before hval hw' hc (hz.weights hw) (hX _ _ _ (by rfl) hx) hsh hholds).mono fun e W' ⟨v, he, hp⟩ => ?_
  subst he
  exact ChangeSpec.post_blind hp
theorem mx_shaped {W : World} (h : W.ShapedOpen Tryz.prog) : ∃ m, W.cell? ⟨0, 0, none⟩ = some (.int .i64 m) :=
  cell_of_shapedOpen_int (P := Tryz.prog) (g := 0) (t := 3) (zero := #[.int .i64 0]) h (of_decide_eq_true (by kernel_rfl)) (by kernel_rfl) rfl (by kernel_rfl) (by kernel_rfl) Tryz.underlying3
end Go.Proofs.YtfhaedkaedffcaaGreatDoor
