/- THE WALKS of great and awake (purlinlaw19). -/
import Derived.Test.YtihfhigkpkamiaaRolld
import Derived.Test.YtihfhigkpkamiaaRolle
import Derived.Test.YtihfhigkpkamiaaBytes
namespace Go.Proofs.Ytihfhigkpkamiaa
open Go.RowKit Go.Own Go.Rl
def GreatP (R : List Ob) (most : Int) (u : Value) : Prop := ∃ b, u = .bool b ∧ (b = false → (R.length : Int) ≤ most ∧ ∀ j (hj : j < R.length), R[j].1.bytes.length ≤ 200)
theorem GreatP.yes {R : List Ob} {most : Int} : GreatP R most (.bool true) := ⟨true, rfl, by simp⟩
set_option maxRecDepth 100000 in
set_option maxHeartbeats 8000000 in
theorem great19 (v : Value) (R : List Ob) (most : Int) (w : World) (hR : RdO w v R) (hm : 0 ≤ most ∧ most ≤ 1000) :
    Calls Try.prog 6 #[v, .int .i64 most] w fun e w' => ∃ u, e = .returned u ∧ GreatP R most u ∧ w = w' := by
  have HR := hid hR
  obtain ⟨p, c, rfl, -, hl⟩ := hR.form
  have Hm := hid hm
  clear hR hm
  go_enter Try.func6, Try.ntmps6
  go_wp2_with fail
  go_loopw [5] (fun i w' => ∃ k : Nat, k ≤ R.length ∧ i = .int .i64 k ∧ w' = w ∧ Hid (∀ j (hj : j < R.length), j < k → R[j].1.bytes.length ≤ 200)) (fun i _ => R.length - (intOf i).toNat)
  case atStart => exact ⟨0, by omega, rfl, rfl, hid (by omega)⟩
  case round =>
    obtain ⟨k, hk, rfl, rfl, HS⟩ := hrel
    by_cases hn : (R.length : Int) ≤ most
    · have hnn : ¬ most < (R.length : Int) := by omega
      by_cases hlt : k < R.length
      · have hki : (k : Int) < (R.length : Int) := by omega
        obtain ⟨g, o, cc, p1, m1, he, x0, x1, x2, x3, x4⟩ := HR.out.at_ k hlt
        injection he with he1 he2 he3
        subst he1
        by_cases hb : R[k].1.bytes.length ≤ 200
        · have hbi : ¬ (200 : Int) < (R[k].1.bytes.length : Int) := by omega
          have HS1 : Hid (∀ j (hj : j < R.length), j < k + 1 → R[j].1.bytes.length ≤ 200) := hid fun j hj h1 => by
            rcases Nat.lt_or_ge j k with h | h
            · exact HS.out j hj h
            · obtain rfl : j = k := by omega
              exact hb
          clear x0 x1 x3 hb HS
          generalize R[k].1.bytes.length = bl at *
          go_wp2_with fail
          exact ⟨⟨k + 1, by omega, rfl, by trivial, HS1⟩, by simp [intOf]; omega⟩
        · have hbi : (200 : Int) < (R[k].1.bytes.length : Int) := by omega
          clear x0 x1 x3 hb HS
          generalize R[k].1.bytes.length = bl at *
          go_wp2_with fail
          go_ret
          exact ⟨_, rfl, .yes, rfl⟩
      · have hki : ¬ (k : Int) < (R.length : Int) := by omega
        go_wp2_with fail
        go_ret
        exact ⟨_, rfl, ⟨false, rfl, fun _ => ⟨hn, fun j hj => HS.out j hj (by omega)⟩⟩, rfl⟩
    · have hnn : most < (R.length : Int) := by omega
      by_cases hlt : k < R.length
      · have hki : (k : Int) < (R.length : Int) := by omega
        go_wp2_with fail
        go_ret
        exact ⟨_, rfl, .yes, rfl⟩
      · have hki : ¬ (k : Int) < (R.length : Int) := by omega
        go_wp2_with fail
        go_ret
        exact ⟨_, rfl, .yes, rfl⟩
end Go.Proofs.Ytihfhigkpkamiaa
