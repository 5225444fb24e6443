/- THE WALKS of slices.Grow of nothing, of slices.Concat of two lists of numbers. -/
import Derived.Test.YtbggnbahmdgbdaaBase
import Derived.Test.YtbggnbahmdgbdaaAppZ
import Derived.Test.YtbggnbahmdgbdaaRe
import Derived.WalkMore
namespace Go.Proofs.Ytbggnbahmdgbdaa
open Go.RowKit Go.Own
/-- A row cut to nothing, its room kept. -/
theorem _root_.Go.Own.Has.toFront {w : World} {L : List HP} {v : Value} {e : TypeId} {n : Nat} {xs : List Value} (h : Has w (row v e 1 n xs :: L)) (hn : 0 < n) : ∃ g c, v = .slice (some ⟨g, 0, none⟩) n c ∧ n ≤ c ∧ Has w (row (.slice (some ⟨g, 0, none⟩) 0 c) e 1 0 [] :: L) := by
  obtain ⟨hxl, hc⟩ := h.row_cases
  rcases hc with ⟨-, e0, -⟩ | ⟨g, cap, cur, rfl, hnc, hcm, hcs, htake, hp⟩
  · omega
  · exact ⟨g, cap, rfl, hnc, hp.row_of (Nat.zero_le _) hcm hcs (by simp) rfl⟩
set_option maxRecDepth 100000 in
set_option maxHeartbeats 4000000 in
theorem growNil (n : Nat) (w : World) (L : List HP) (hO : Has w L) (hn : n ≤ 1000000) (h0 : 0 < n) : Calls Try.prog 80 #[.slice none 0 0, .int .i64 n] w fun e w' => ∃ v', e = .returned v' ∧ Has w' (row v' 3 1 0 [] :: L) ∧ Keep w w' := by
  have HO := hid hO
  clear hO
  go_enter Try.func80, Try.ntmps80
  go_wp2_with (at_builtin; refine wpList_appendZ rfl _ _ _ _ rfl Try.underlying30 Try.underlying3 infoInt rfl rfl (HO.out.row_nil 3 1) rfl n rfl (le_maxLen (by omega)) (by omega) ?_)
  intro v2 w2 h2 hk2
  obtain ⟨g, c, rfl, hcm, h3⟩ := h2.toFront h0
  have HO2 := hid h3
  have HK2 := hid hk2
  clear h2 h3 hk2 HO
  have hc0 : (0 : Int) ≤ (c : Int) := by omega
  go_wp2_with fail
  go_ret
  exact ⟨_, rfl, HO2.out, HK2.out⟩
set_option maxRecDepth 100000 in
set_option maxHeartbeats 4000000 in
theorem concat2 (g0 : Nat) (v1 v2 : Value) (xs ys : List Int) (w : World) (L : List HP) (hO : Has w (pt g0 (.cells #[v1, v2] 30) :: L)) (h1 : ∀ w', Has w' L → Rd w' v1 1 xs.length (ic xs)) (h2 : ∀ w', Has w' L → Rd w' v2 1 ys.length (ic ys)) (h0 : 0 < xs.length + ys.length) (hm : xs.length + ys.length ≤ 1000) :
    Calls Try.prog 72 #[.slice (some ⟨g0, 0, none⟩) 2 2] w fun e w' => ∃ v', e = .returned v' ∧ Has w' (Ints v' (xs ++ ys) :: pt g0 (.cells #[v1, v2] 30) :: L) ∧ Keep w w' := by
  obtain ⟨p1, c1, rfl, -⟩ := (h1 w hO.drop).form
  obtain ⟨p2, c2, rfl, -⟩ := (h2 w hO.drop).form
  have HO := hid hO
  have H1 := hid h1
  have H2 := hid h2
  have hc0 := hO.cells 0
  have hc1 := hO.cells 1
  clear hO h1 h2
  go_enter Try.func72, Try.ntmps72
  have e1 : (xs.length : Int) ≤ 1000 := by omega
  have e2 : (ys.length : Int) ≤ 1000 := by omega
  have HG := hid (show Calls Try.prog 80 #[.slice none 0 0, .int .i64 ((xs.length : Int) + (ys.length : Int))] w fun e w' => ∃ v', e = .returned v' ∧ Has w' (row v' 3 1 0 [] :: pt g0 (.cells #[.slice p1 xs.length c1, .slice p2 ys.length c2] 30) :: L) ∧ Keep w w' from growNil (xs.length + ys.length) w _ HO.out (by omega) h0)
  have HM := hid hm
  have H0 := hid h0
  clear hm h0
  go_wp2_with fail
  go_loopw [3, 11] (fun s i w' => ((i = .int .i64 0 ∧ s = .int .i64 0) ∨ (i = .int .i64 1 ∧ s = .int .i64 (xs.length : Int)) ∨ (i = .int .i64 2 ∧ s = .int .i64 ((xs.length : Int) + (ys.length : Int)))) ∧ w = w') (fun _ i _ => 2 - (intOf i).toNat)
  case atStart => exact ⟨.inl ⟨rfl, rfl⟩, rfl⟩
  case round =>
    obtain ⟨⟨rfl, rfl⟩ | ⟨rfl, rfl⟩ | ⟨rfl, rfl⟩, rfl⟩ := hrel
    · go_wp2_with fail
      exact ⟨⟨.inr (.inl ⟨rfl, by go_num⟩), by trivial⟩, by simp [intOf]⟩
    · go_wp2_with fail
      exact ⟨⟨.inr (.inr ⟨rfl, by go_num⟩), by trivial⟩, by simp [intOf]⟩
    · go_wp2_with fail
      refine (HG.out).mono ?_
      rintro e w3 ⟨v3, rfl, hO3, hK3⟩
      have HO3 := hid hO3
      have HK3 := hid ((Keep.refl w).trans hK3)
      clear hO3 hK3
      try dsimp only
      clear hc0 hc1
      go_wp2_with fail
      go_loopw [6, 27] (fun s i w' => ((i = .int .i64 0 ∧ Hid (Has w' (Ints s [] :: pt g0 (.cells #[.slice p1 xs.length c1, .slice p2 ys.length c2] 30) :: L))) ∨ (i = .int .i64 1 ∧ Hid (Has w' (Ints s xs :: pt g0 (.cells #[.slice p1 xs.length c1, .slice p2 ys.length c2] 30) :: L))) ∨ (i = .int .i64 2 ∧ Hid (Has w' (Ints s (xs ++ ys) :: pt g0 (.cells #[.slice p1 xs.length c1, .slice p2 ys.length c2] 30) :: L)))) ∧ Hid (Keep w w')) (fun _ i _ => 2 - (intOf i).toNat)
      case atStart => exact ⟨.inl ⟨rfl, HO3⟩, HK3⟩
      case round =>
        clear HO3 HK3
        obtain ⟨⟨rfl, HA⟩ | ⟨rfl, HA⟩ | ⟨rfl, HA⟩, HB⟩ := hrel
        · have hc0 := HA.out.p1.cells 0
          go_wp2_with (at_builtin; refine wpList_appendA rfl _ _ _ rfl Try.underlying30 infoInt rfl (by decide) HA.out rfl _ xs.length (ic xs) rfl (H1.out _ HA.out.drop.drop) (ic_one _) (le_maxLen (by have := HM.out; simp; omega)) (by have := HM.out; simp; omega) ?_)
          intro v5 w5 h5 hk5
          have HO5 := hid (show Has w5 (Ints v5 xs :: pt g0 (.cells #[.slice p1 xs.length c1, .slice p2 ys.length c2] 30) :: L) from by simpa [Ints, ic] using h5)
          have HK5 := hid (HB.out.trans hk5)
          clear h5 hk5 HA HB
          go_wp2_with fail
          exact ⟨⟨.inr (.inl ⟨rfl, HO5⟩), HK5⟩, by simp [intOf]⟩
        · have hc1 := HA.out.p1.cells 1
          go_wp2_with (at_builtin; refine wpList_appendA rfl _ _ _ rfl Try.underlying30 infoInt rfl (by decide) HA.out rfl _ ys.length (ic ys) rfl (H2.out _ HA.out.drop.drop) (ic_one _) (le_maxLen (by have := HM.out; omega)) (by have := HM.out; omega) ?_)
          intro v5 w5 h5 hk5
          have HO5 := hid (show Has w5 (Ints v5 (xs ++ ys) :: pt g0 (.cells #[.slice p1 xs.length c1, .slice p2 ys.length c2] 30) :: L) from by
            unfold Ints
            rw [List.length_append, show ic (xs ++ ys) = ic xs ++ ic ys by simp [ic]]
            exact h5)
          have HK5 := hid (HB.out.trans hk5)
          clear h5 hk5 HA HB
          go_wp2_with fail
          exact ⟨⟨.inr (.inr ⟨rfl, HO5⟩), HK5⟩, by simp [intOf]⟩
        · go_wp2_with fail
          go_ret
          exact ⟨_, rfl, HA.out, HB.out⟩
end Go.Proofs.Ytbggnbahmdgbdaa
