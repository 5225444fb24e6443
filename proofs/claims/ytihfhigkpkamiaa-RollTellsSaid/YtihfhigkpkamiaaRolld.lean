/- THE WALK of roll.Sectors. -/
import Derived.Test.YtihfhigkpkamiaaRollb
import Derived.Test.YtihfhigkpkamiaaRollo
import Derived.Test.YtihfhigkpkamiaaSort
namespace Go.Proofs.Ytihfhigkpkamiaa
open Go.RowKit Go.Own Go.Rl
def sectors (os : List Piece) : List Int := Lib.compact (sorted (secs os))
theorem secs_len (os : List Piece) : (secs os).length ≤ os.length := by
  unfold secs
  rw [List.length_map]
  exact List.length_filter_le ..
set_option maxRecDepth 100000 in
set_option maxHeartbeats 8000000 in
theorem rollSectors (v : Value) (R : List Ob) (w : World) (L : List HP) (hn : R.length ≤ 100000) (hR : ∀ w', Has w' L → RdO w' v R) (hO : Has w L) :
    Calls Try.prog 14 #[v] w fun e w' => ∃ v', e = .returned v' ∧ Has w' (Ints v' (sectors (R.map (·.1))) :: L) ∧ Keep w w' := by
  obtain ⟨vp, vc, rfl, hvc, hvl⟩ := (hR w hO).form
  have HR := hid hR
  have HO0 := hid hO
  clear hR hO
  go_enter Try.func14, Try.ntmps14
  go_wp2_with fail
  go_loopw [3, 8] (fun sv i w' => ∃ k : Nat, k ≤ R.length ∧ i = .int .i64 k ∧ Hid (Has w' (Ints sv (secs ((R.map (·.1)).take k)) :: L)) ∧ Hid (Keep w w')) (fun _ i _ => R.length - (intOf i).toNat)
  case atStart => exact ⟨0, by omega, rfl, hid (HO0.out.row_nil _ _), hid (Keep.refl w)⟩
  case round =>
    clear HO0
    obtain ⟨k, hk, rfl, HO, HK⟩ := hrel
    by_cases hlt : k < R.length
    · obtain ⟨vg, vo, c', xp, xm, e, x0, x1, x2, x3, x4⟩ := (HR.out _ HO.out.drop).at_ k hlt
      simp only [Value.slice.injEq, true_and] at e
      obtain ⟨rfl, rfl⟩ := e
      have hki : (k : Int) < (R.length : Int) := by omega
      obtain ⟨⟨⟨sc, ps, bs⟩, bv⟩, hq⟩ : ∃ q, R[k] = q := ⟨_, rfl⟩
      rw [hq] at x0 x1 x2 x3 x4
      simp only at x0 x1 x2 x3 x4
      subst x3
      have HS := hid (show secs ((R.map (·.1)).take (k + 1)) = _ from secs_snoc (R.map (·.1)) k (by simpa using hlt))
      rw [List.getElem_map, hq] at HS
      have hsl : (secs ((R.map (·.1)).take k)).length ≤ 100000 := Nat.le_trans (secs_len _) (by simp; omega)
      generalize secs ((R.map (·.1)).take k) = out at *
      go_wp2_with fail
      refine (rollMay sc ps xp xm bs _ _ x4 (HO.out.alloc (.cells #[.int .i64 sc, .int .i64 ps, .slice xp bs.length xm] 31))).mono ?_
      rintro e w3 ⟨rfl, hO3, hK3⟩
      have HO3 := hid hO3
      have HK3 := hid ((HK.out.alloc _).trans hK3)
      clear hO3 hK3 HO HK x0 x1 x2
      generalize wr.heap.size = bx at *
      have c1 := HO3.out.cells
      by_cases h1 : may ⟨sc, ps, bs⟩ = true
      · rw [h1]
        try dsimp only
        go_wp2_with (at_builtin; refine wpList_append1 rfl _ _ _ rfl Try.underlying34 infoInt rfl (.int .i64 sc) (HO3.out.p1.alloc' _) rfl 1 _ rfl (by simp) rfl (le_maxLen (by omega)) (by omega) ?_)
        intro v' w' h hk
        have HO4 := hid h.p1.drop
        have HK4 := hid ((HK3.out.alloc _).trans hk)
        clear h hk HO3 HK3
        go_wp2_with fail
        refine ⟨⟨k + 1, by omega, rfl, hid ?_, HK4⟩, by simp [intOf]; omega⟩
        rw [HS.out, h1, if_pos rfl]
        have := HO4.out
        simpa [Ints, ic_snoc] using this
      · simp only [Bool.not_eq_true] at h1
        rw [h1]
        try dsimp only
        go_wp2_with fail
        refine ⟨⟨k + 1, by omega, rfl, hid ?_, HK3⟩, by simp [intOf]; omega⟩
        rw [HS.out, h1]
        exact HO3.out.drop
    · obtain rfl : k = R.length := by omega
      have hO := HO.out
      rw [List.take_of_length_le (by simp)] at hO
      have hsl : (secs (R.map (·.1))).length ≤ 100000 := Nat.le_trans (secs_len _) (by simpa using hn)
      have HO1 := hid hO
      clear hO HO
      go_wp2_with fail
      refine (sortInts _ _ wr L (by omega) HO1.out).mono ?_
      rintro e w3 ⟨rfl, hO3, hK3⟩
      have HO3 := hid hO3
      have HK3 := hid (HK.out.trans hK3)
      clear hO3 hK3 HO1 HK
      try dsimp only
      go_wp2_with fail
      refine (compactInts _ _ w3 L (by rw [sorted_len]; omega) HO3.out).mono ?_
      rintro e w4 ⟨v4, rfl, hO4, hK4⟩
      have HO4 := hid hO4
      have HK4 := hid (HK3.out.trans hK4)
      clear hO4 hK4 HO3 HK3
      try dsimp only
      go_wp2_with fail
      go_ret
      exact ⟨_, rfl, HO4.out, HK4.out⟩
end Go.Proofs.Ytihfhigkpkamiaa
