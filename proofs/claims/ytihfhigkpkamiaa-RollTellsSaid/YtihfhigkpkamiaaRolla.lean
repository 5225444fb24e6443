/- THE WALKS of roll's May, Touch and whole. -/
import Derived.Test.YtihfhigkpkamiaaRollm
import Derived.Test.YtihfhigkpkamiaaBytes
import Derived.Test.YtihfhigkpkamiaaCopy
import Derived.Test.YtihfhigkpkamiaaRe
namespace Go.Proofs.Ytihfhigkpkamiaa
open Go.RowKit Go.Own Go.Rl
def objV (s a : Int) (b : Value) : Value := .agg #[.int .i64 s, .int .i64 a, b]
set_option maxRecDepth 100000 in
set_option maxHeartbeats 4000000 in
theorem rollMay (s a : Int) (p : Option Addr) (c : Nat) (bs : List Int) (w : World) (L : List HP) (hl : bs.length ≤ 9223372036854775807) (hO : Has w L) :
    Calls Try.prog 21 #[objV s a (.slice p bs.length c)] w fun e w' => e = .returned (.bool (may ⟨s, a, bs⟩)) ∧ Has w' L ∧ Keep w w' := by
  have HO := hid hO
  clear hO
  unfold objV
  have fin (w' : World) (b : Bool) (hb : b = may ⟨s, a, bs⟩) (hw : w' = w.alloc (.cells #[.int .i64 s, .int .i64 a, .slice p bs.length c] 31)) : Ending.returned (.bool b) = .returned (.bool (may ⟨s, a, bs⟩)) ∧ Has w' L ∧ Keep w w' := by
    subst hw
    exact ⟨by rw [hb], HO.out.alloc' _, (Keep.refl w).alloc _⟩
  go_enter Try.func21, Try.ntmps21
  by_cases h1 : 0 ≤ s
  · have d1 : decide (s ≥ 0) = true := decide_eq_true (by omega)
    by_cases h2 : 0 ≤ a
    · have d2 : decide (a ≥ 0) = true := decide_eq_true (by omega)
      by_cases h3 : 0 < bs.length
      · have d3 : decide ((bs.length : Int) > 0) = true := decide_eq_true (by omega)
        by_cases h4 : bs.length ≤ 128
        · have d4 : decide ((bs.length : Int) ≤ 128) = true := decide_eq_true (by omega)
          go_wp2_with fail
          go_ret
          exact fin _ _ (by simp only [may, decide_eq_true h1, decide_eq_true h2, decide_eq_true h3, decide_eq_true h4, Bool.true_and]) rfl
        · have d4 : decide ((bs.length : Int) ≤ 128) = false := decide_eq_false (by omega)
          go_wp2_with fail
          go_ret
          exact fin _ _ (by simp only [may, decide_eq_true h1, decide_eq_true h2, decide_eq_true h3, decide_eq_false h4, Bool.true_and, Bool.false_and]) rfl
      · have d3 : decide ((bs.length : Int) > 0) = false := decide_eq_false (by omega)
        go_wp2_with fail
        go_ret
        exact fin _ _ (by simp only [may, decide_eq_true h1, decide_eq_true h2, decide_eq_false h3, Bool.true_and, Bool.false_and]) rfl
    · have d2 : decide (a ≥ 0) = false := decide_eq_false (by omega)
      go_wp2_with fail
      go_ret
      exact fin _ _ (by simp only [may, decide_eq_true h1, decide_eq_false (show ¬ 0 ≤ a by omega), Bool.true_and, Bool.false_and]) rfl
  · have d1 : decide (s ≥ 0) = false := decide_eq_false (by omega)
    go_wp2_with fail
    go_ret
    exact fin _ _ (by simp only [may, decide_eq_false (show ¬ 0 ≤ s by omega), Bool.false_and]) rfl
theorem wrap_in (n : Int) (h : -9223372036854775808 ≤ n ∧ n ≤ 9223372036854775807) : wrap64 n = n := by unfold wrap64; omega
theorem two_boxes {w : World} {L : List HP} (o1 o2 : Obj) (hO : Has w L) : Has ((w.alloc o1).alloc o2) (pt (w.heap.size + 1) o2 :: pt w.heap.size o1 :: L) := by
  have h := (hO.alloc o1).alloc o2
  rwa [show (w.alloc o1).heap.size = w.heap.size + 1 from Array.size_push _] at h
set_option maxRecDepth 100000 in
set_option maxHeartbeats 4000000 in
theorem rollTouch (s a : Int) (p : Option Addr) (c : Nat) (bs : List Int) (s2 a2 : Int) (p2 : Option Addr) (c2 : Nat) (bs2 : List Int) (w : World) (L : List HP) (hl : bs.length ≤ 9223372036854775807) (hl2 : bs2.length ≤ 9223372036854775807) (hO : Has w L) :
    Calls Try.prog 11 #[objV s a (.slice p bs.length c), objV s2 a2 (.slice p2 bs2.length c2)] w fun e w' => e = .returned (.bool (touch ⟨s, a, bs⟩ ⟨s2, a2, bs2⟩)) ∧ Has w' L ∧ Keep w w' := by
  have HO1 := hid (two_boxes (.cells #[.int .i64 s, .int .i64 a, .slice p bs.length c] 31) (.cells #[.int .i64 s2, .int .i64 a2, .slice p2 bs2.length c2] 31) hO)
  have HK1 := hid (((Keep.refl w).alloc (.cells #[.int .i64 s, .int .i64 a, .slice p bs.length c] 31)).alloc (.cells #[.int .i64 s2, .int .i64 a2, .slice p2 bs2.length c2] 31))
  clear hO
  have HM := hid (fun w' L (h : Has w' L) => rollMay s a p c bs w' L hl h)
  have HM2 := hid (fun w' L (h : Has w' L) => rollMay s2 a2 p2 c2 bs2 w' L hl2 h)
  unfold objV at *
  go_enter Try.func11, Try.ntmps11
  go_wp2_with fail
  refine (HM.out _ _ HO1.out).mono ?_
  rintro e w2 ⟨rfl, hO2, hK2⟩
  have HO2 := hid hO2
  have HK2 := hid (HK1.out.trans hK2)
  clear HO1 HK1 hO2 hK2
  generalize w.heap.size = n0 at *
  by_cases h1 : may ⟨s, a, bs⟩ = true
  · rw [h1]
    try dsimp only
    have c1 := HO2.out.cells
    have c2' := HO2.out.p1.cells
    go_wp2_with fail
    refine (HM2.out _ _ HO2.out).mono ?_
    rintro e w3 ⟨rfl, hO3, hK3⟩
    have HO3 := hid hO3
    have HK3 := hid (HK2.out.trans hK3)
    clear HO2 HK2 hO3 hK3 c1 c2'
    by_cases h2 : may ⟨s2, a2, bs2⟩ = true
    · rw [h2]
      try dsimp only
      obtain ⟨a1, a3, a4, a5, a6⟩ := may_iff.1 h1
      obtain ⟨b1, b3, b4, b5, b6⟩ := may_iff.1 h2
      simp only at a1 a3 a4 a5 a6 b1 b3 b4 b5 b6
      have c1 := HO3.out.cells
      have c2' := HO3.out.p1.cells
      have FIN := hid (show ∀ b, b = ((s == s2) && (decide (a < a2 + (bs2.length : Int)) && decide (a2 < a + (bs.length : Int)))) → Ending.returned (.bool b) = .returned (.bool (touch ⟨s, a, bs⟩ ⟨s2, a2, bs2⟩)) ∧ Has w3 L ∧ Keep w w3 from
        fun b hb => ⟨by rw [hb]; unfold touch; rw [h1, h2, Bool.true_and, Bool.true_and], HO3.out.drop.drop, HK3.out⟩)
      clear h1 h2
      by_cases h3 : s = s2
      · subst h3
        have d3 : (s == s) = true := by simp
        by_cases h4 : a < a2 + bs2.length
        · have d4 : decide (a < a2 + (bs2.length : Int)) = true := decide_eq_true h4
          go_wp2_with fail
          go_ret
          exact FIN.out (decide (a2 < a + (bs.length : Int))) (by simp [h4])
        · have d4 : decide (a < a2 + (bs2.length : Int)) = false := decide_eq_false h4
          go_wp2_with fail
          go_ret
          exact FIN.out false (by rw [d4, Bool.false_and, Bool.and_false])
      · have d3 : (s == s2) = false := by simp [h3]
        go_wp2_with fail
        go_ret
        exact FIN.out false (by rw [d3, Bool.false_and])
    · simp only [Bool.not_eq_true] at h2
      rw [h2]
      try dsimp only
      go_wp2_with fail
      go_ret
      exact ⟨congrArg (fun b => Ending.returned (Value.bool b)) (show false = touch ⟨s, a, bs⟩ ⟨s2, a2, bs2⟩ by unfold touch; rw [h2, Bool.false_and, Bool.and_false]), HO3.out.drop.drop, HK3.out⟩
  · simp only [Bool.not_eq_true] at h1
    rw [h1]
    try dsimp only
    go_wp2_with fail
    go_ret
    exact ⟨congrArg (fun b => Ending.returned (Value.bool b)) (show false = touch ⟨s, a, bs⟩ ⟨s2, a2, bs2⟩ by unfold touch; rw [h1, Bool.false_and]), HO2.out.drop.drop, HK2.out⟩
end Go.Proofs.Ytihfhigkpkamiaa
