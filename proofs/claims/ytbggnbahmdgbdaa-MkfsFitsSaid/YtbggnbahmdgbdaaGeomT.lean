/- THE WALK of the reference's Fit. -/
import Derived.Test.YtbggnbahmdgbdaaGeomS
namespace Go.Proofs.Ytbggnbahmdgbdaa
open Go.RowKit Go.Own Go.Gm
theorem Best.zero_or {s n i b : Int} {g : Geo} (hg : Best (Seen s n i b) g) : (g = zero ∧ g.n = 0) ∨ (g ≠ zero ∧ g.n ≠ 0) := by
  rcases hg with ⟨rfl, -⟩ | ⟨h, -⟩
  · exact .inl ⟨rfl, rfl⟩
  · have := may_iff.1 h.1.1
    exact .inr ⟨fun e => by rw [e] at this; have := this.1; simp [zero] at this, by omega⟩
set_option maxRecDepth 100000 in
set_option maxHeartbeats 16000000 in
theorem rFit (s : Int) (w : World) (L : List HP) (hO : Has w L) :
    Calls Try.prog 8 #[.int .i64 s] w fun e w' => ∃ g, e = .returned (geoV g) ∧ Best (Room s) g ∧ Has w' L ∧ Keep w w' := by
  have HO := hid (two_boxes (.cells (gcell zero) 24) (.cells (gcell zero) 24) hO)
  have HK := hid (((Keep.refl w).alloc (.cells (gcell zero) 24)).alloc (.cells (gcell zero) 24))
  clear hO
  go_enter Try.func8, Try.ntmps8
  go_wp2_with fail
  have hz : gcell zero = #[.int .i64 0, .int .i64 0, .int .i64 0] := rfl
  rw [hz] at HO HK
  clear hz
  generalize w.heap.size = r at *
  generalize hwb : (w.alloc (.cells #[.int .i64 0, .int .i64 0, .int .i64 0] 24)).alloc (.cells #[.int .i64 0, .int .i64 0, .int .i64 0] 24) = wb at *
  clear hwb
  go_loopw [4] (fun b w' => ∃ n : Int, 1 ≤ n ∧ n ≤ 9 ∧ b = .int .i64 n ∧ Hid (∃ best, Best (Seen s n 4 16) best ∧ Has w' (pt (r + 1) (.cells #[.int .i64 best.n, .int .i64 best.i, .int .i64 best.b] 24) :: pt r (.cells #[.int .i64 0, .int .i64 0, .int .i64 0] 24) :: L)) ∧ Hid (Keep w w')) (fun b _ => (9 - intOf b).toNat)
  case atStart => exact ⟨1, by omega, by omega, rfl, hid ⟨zero, Seen.start s, HO.out⟩, HK⟩
  case round =>
    clear HO HK
    obtain ⟨n, hn1, hn2, rfl, HY, HK⟩ := hrel
    by_cases hlt : n ≤ 8
    · have hni : decide (n ≤ 8) = true := decide_eq_true hlt
      go_wp2_with fail
      go_loopw [5] (fun b w' => ∃ i : Int, 4 ≤ i ∧ i ≤ 36 ∧ i % 4 = 0 ∧ b = .int .i64 i ∧ Hid (∃ best, Best (Seen s n i 16) best ∧ Has w' (pt (r + 1) (.cells #[.int .i64 best.n, .int .i64 best.i, .int .i64 best.b] 24) :: pt r (.cells #[.int .i64 0, .int .i64 0, .int .i64 0] 24) :: L)) ∧ Hid (Keep w w')) (fun b _ => (36 - intOf b).toNat)
      case atStart => exact ⟨4, by omega, by omega, by omega, rfl, HY, HK⟩
      case round =>
        clear HY HK
        obtain ⟨i, hi1, hi2, hi4, rfl, HY, HK⟩ := hrel
        by_cases hli : i ≤ 32
        · have hii : decide (i ≤ 32) = true := decide_eq_true hli
          go_wp2_with fail
          go_loopw [6] (fun b w' => ∃ k : Int, 16 ≤ k ∧ k ≤ 97 ∧ b = .int .i64 k ∧ Hid (∃ best, Best (Seen s n i k) best ∧ Has w' (pt (r + 1) (.cells #[.int .i64 best.n, .int .i64 best.i, .int .i64 best.b] 24) :: pt r (.cells #[.int .i64 0, .int .i64 0, .int .i64 0] 24) :: L)) ∧ Hid (Keep w w')) (fun b _ => (97 - intOf b).toNat)
          case atStart => exact ⟨16, by omega, by omega, rfl, HY, HK⟩
          case round =>
            clear HY HK
            obtain ⟨k, hk1, hk2, rfl, HY, HK⟩ := hrel
            obtain ⟨best, hT, hO⟩ := HY.out
            have HT := hid hT
            have HO := hid hO
            clear hT hO HY
            by_cases hlk : k ≤ 96
            · have hki : decide (k ≤ 96) = true := decide_eq_true hlk
              have HM := hid (show may ⟨n, i, k⟩ = true from may_iff.2 (by simp only; omega))
              have HO2 := hid (HO.out.alloc (.cells #[.int .i64 n, .int .i64 i, .int .i64 k] 24))
              have HK2 := hid (HK.out.alloc (.cells #[.int .i64 n, .int .i64 i, .int .i64 k] 24))
              go_wp2_with fail
              refine (r5Sectors ⟨n, i, k⟩ _ _ HO2.out).mono ?_
              rintro e w3 ⟨rfl, hO3, hK3⟩
              have HO3 := hid hO3
              have HK3 := hid ((HK2.out).trans hK3)
              clear hO3 hK3
              try dsimp only
              clear HO2 HK2 HO HK
              generalize wr.heap.size = b7 at *
              by_cases hs : sectors ⟨n, i, k⟩ ≤ s
              · have HR := hid (show Room s ⟨n, i, k⟩ from ⟨HM.out, hs⟩)
                have hsi : decide (sectors ⟨n, i, k⟩ ≤ s) = true := decide_eq_true hs
                clear hs
                generalize hsv : sectors ⟨n, i, k⟩ = sv
                rw [hsv] at hsi
                clear hsv
                have c0 := HO3.out.cells
                have c1 := HO3.out.p1.cells
                have t1 := HO3.out.p1.thaw
                rcases Best.zero_or HT.out with ⟨hz1, hz2⟩ | ⟨hz1, hz2⟩
                · have HZ := hid hz1
                  have e0 : (best.n == 0) = true := by simp [hz2]
                  clear hz1 hz2
                  go_wp2_with fail
                  exact ⟨⟨k + 1, by omega, by omega, by go_num, hid ⟨⟨n, i, k⟩, HT.out.next HR.out (.inl HZ.out), (((HO3.out.p1.set 0 (.int .i64 n)).set 1 (.int .i64 i)).set 2 (.int .i64 k)).p1.drop⟩, hid (((HK3.out.set _ _).set _ _).set _ _)⟩, by simp [intOf]; omega⟩
                · have HZ := hid hz1
                  have e0 : (best.n == 0) = false := by simpa using hz2
                  clear hz1 hz2
                  go_wp2_with fail
                  refine (rBetter ⟨n, i, k⟩ best w3 _ HO3.out).mono ?_
                  rintro e w4 ⟨rfl, hO4, hK4⟩
                  have HO4 := hid hO4
                  have HK4 := hid ((HK3.out).trans hK4)
                  clear hO4 hK4
                  try dsimp only
                  clear c0 c1 t1 HO3 HK3
                  cases hbt : better ⟨n, i, k⟩ best
                  · have HBT := hid hbt
                    clear hbt
                    go_wp2_with fail
                    exact ⟨⟨k + 1, by omega, by omega, by go_num, hid ⟨best, HT.out.stay (.inr ⟨HZ.out, HBT.out⟩), HO4.out.drop⟩, HK4⟩, by simp [intOf]; omega⟩
                  · have HBT := hid hbt
                    clear hbt
                    have c0 := HO4.out.cells
                    have c1 := HO4.out.p1.cells
                    have t1 := HO4.out.p1.thaw
                    go_wp2_with fail
                    exact ⟨⟨k + 1, by omega, by omega, by go_num, hid ⟨⟨n, i, k⟩, HT.out.next HR.out (.inr HBT.out), (((HO4.out.p1.set 0 (.int .i64 n)).set 1 (.int .i64 i)).set 2 (.int .i64 k)).p1.drop⟩, hid (((HK4.out.set _ _).set _ _).set _ _)⟩, by simp [intOf]; omega⟩
              · have HR := hid (show ¬ Room s ⟨n, i, k⟩ from fun h => hs h.2)
                have hsi : decide (sectors ⟨n, i, k⟩ ≤ s) = false := decide_eq_false hs
                clear hs
                generalize sectors ⟨n, i, k⟩ = sv at *
                go_wp2_with fail
                exact ⟨⟨k + 1, by omega, by omega, by go_num, hid ⟨best, HT.out.stay (.inl HR.out), HO3.out.drop⟩, HK3⟩, by simp [intOf]; omega⟩
            · have hki : decide (k ≤ 96) = false := decide_eq_false hlk
              obtain rfl : k = 97 := by omega
              go_wp2_with fail
              exact ⟨⟨i + 4, by omega, by omega, by omega, by go_num, hid ⟨best, HT.out.row hi4, HO.out⟩, HK⟩, by simp [intOf]; omega⟩
        · have hii : decide (i ≤ 32) = false := decide_eq_false hli
          obtain rfl : i = 36 := by omega
          obtain ⟨best, hT, hO⟩ := HY.out
          have HT := hid hT
          have HO := hid hO
          clear hT hO HY
          go_wp2_with fail
          exact ⟨⟨n + 1, by omega, by omega, by go_num, hid ⟨best, HT.out.group, HO.out⟩, HK⟩, by simp [intOf]; omega⟩
    · have hni : decide (n ≤ 8) = false := decide_eq_false hlt
      obtain rfl : n = 9 := by omega
      obtain ⟨best, hT, hO⟩ := HY.out
      have HT := hid hT
      have HO := hid hO
      clear hT hO HY
      have c1 := HO.out.cells
      have c2 := HO.out.p1.cells
      have t2 := HO.out.p1.thaw
      go_wp2_with fail
      try rw [Exit.noGoto_ret]
      have HO6 := hid (show Has (((wr.setCell ⟨r, 0, none⟩ (.int .i64 best.n)).setCell ⟨r, 1, none⟩ (.int .i64 best.i)).setCell ⟨r, 2, none⟩ (.int .i64 best.b)) (pt r (.cells (gcell best) 24) :: L) from (((HO.out.p1.set 0 (.int .i64 best.n)).set 1 (.int .i64 best.i)).set 2 (.int .i64 best.b)).p1.drop)
      have HK6 := hid (((HK.out.set ⟨r, 0, none⟩ (.int .i64 best.n)).set ⟨r, 1, none⟩ (.int .i64 best.i)).set ⟨r, 2, none⟩ (.int .i64 best.b))
      refine bodyPost_ret (geo_result best rfl rfl HO6.out) rfl ?_
      exact ⟨_, rfl, Seen.all HT.out, HO6.out.drop, HK6.out⟩
end Go.Proofs.Ytbggnbahmdgbdaa
