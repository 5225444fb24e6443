/- THE WALKS of mkfs.fits and mkfs.Fit. -/
import Derived.Test.YtbggnbahmdgbdaaGeomA
import Derived.WalkMore
namespace Go.Proofs.Ytbggnbahmdgbdaa
open Go.RowKit Go.Own Go.Gm
theorem two_boxes {w : World} {L : List HP} (o1 o2 : Obj) (hO : Has w L) : Has ((w.alloc o1).alloc o2) (pt (w.heap.size + 1) o2 :: pt w.heap.size o1 :: L) := by
  have h := (hO.alloc o1).alloc o2
  rwa [show (w.alloc o1).heap.size = w.heap.size + 1 from Array.size_push _] at h
theorem geo_result {fn : Func} {p : Tmp} {tmps : Array Value} {w : World} {L : List HP} {r : Nat} (g : Geo) (h : fn.results = #[.cell p 24]) (ht : tmps.getD p undef = .pointer (some ⟨r, 0, none⟩)) (hO : Has w (pt r (.cells (gcell g) 24) :: L)) :
    (results fn tmps).run Try.prog w = .ok (geoV g) w := by
  have h0 : w.cell? ⟨r, 0, none⟩ = some (.int .i64 g.n) := hO.cells 0
  have h1 : w.cell? ⟨r, 1, none⟩ = some (.int .i64 g.i) := hO.cells 1
  have h2 : w.cell? ⟨r, 2, none⟩ = some (.int .i64 g.b) := hO.cells 2
  unfold results geoV
  rw [h]
  have ht2 : tmps[p]?.getD undef = .pointer (some ⟨r, 0, none⟩) := by rw [← ht]; simp
  clear hO h ht
  go_simp
set_option maxRecDepth 100000 in
set_option maxHeartbeats 8000000 in
theorem mFits (s n : Int) (w : World) (L : List HP) (hn : 1 ≤ n ∧ n ≤ 8) (hO : Has w L) :
    Calls Try.prog 25 #[.int .i64 s, .int .i64 n] w fun e w' => ∃ g, e = .returned (geoV g) ∧ Top s n g ∧ Has w' L ∧ Keep w w' := by
  have HO := hid (two_boxes (.cells (gcell zero) 24) (.cells (gcell zero) 24) hO)
  have HK := hid (((Keep.refl w).alloc (.cells (gcell zero) 24)).alloc (.cells (gcell zero) 24))
  have HN := hid hn
  clear hO hn
  go_enter Try.func25, Try.ntmps25
  go_wp2_with fail
  go_step3
  go_wp2_with fail
  go_step3
  go_wp2_with fail
  have hz : gcell zero = #[.int .i64 0, .int .i64 0, .int .i64 0] := rfl
  rw [hz] at HO HK
  clear hz
  generalize w.heap.size = r at *
  generalize hwb : (w.alloc (.cells #[.int .i64 0, .int .i64 0, .int .i64 0] 24)).alloc (.cells #[.int .i64 0, .int .i64 0, .int .i64 0] 24) = wb at *
  clear hwb
  go_loopw [6] (fun b w' => ∃ k : Int, 15 ≤ k ∧ k ≤ 96 ∧ b = .int .i64 k ∧ Hid (∀ x, Room s x → x.n = n → x.b ≤ k) ∧ Hid (Has w' (pt (r + 1) (.cells #[.int .i64 0, .int .i64 0, .int .i64 0] 24) :: pt r (.cells #[.int .i64 0, .int .i64 0, .int .i64 0] 24) :: L)) ∧ Hid (Keep w w')) (fun b _ => (intOf b - 15).toNat)
  case atStart => exact ⟨96, by omega, by omega, rfl, hid fun x hx _ => by have := may_iff.1 hx.1; omega, HO, HK⟩
  case round =>
    clear HO HK
    obtain ⟨k, hk1, hk2, rfl, HB, HO, HK⟩ := hrel
    by_cases hlt : 16 ≤ k
    · have hki : decide (k ≥ 16) = true := decide_eq_true hlt
      go_wp2_with fail
      go_loopw [7] (fun i w' => ∃ j : Int, 0 ≤ j ∧ j ≤ 32 ∧ j % 4 = 0 ∧ i = .int .i64 j ∧ Hid (∀ x, Room s x → x.n = n → x.b < k ∨ (x.b = k ∧ x.i ≤ j)) ∧ Hid (Has w' (pt (r + 1) (.cells #[.int .i64 0, .int .i64 0, .int .i64 0] 24) :: pt r (.cells #[.int .i64 0, .int .i64 0, .int .i64 0] 24) :: L)) ∧ Hid (Keep w w')) (fun i _ => (intOf i).toNat)
      case atStart => exact ⟨32, by omega, by omega, by omega, rfl, hid fun x hx hn => by have := may_iff.1 hx.1; have := HB.out x hx hn; omega, HO, HK⟩
      case round =>
        clear HO HK HB
        obtain ⟨j, hj1, hj2, hj4, rfl, HB, HO, HK⟩ := hrel
        by_cases hlj : 4 ≤ j
        · have hji : decide (j ≥ 4) = true := decide_eq_true hlj
          have HO2 := hid (HO.out.alloc (.cells #[.int .i64 n, .int .i64 j, .int .i64 k] 24))
          have HK2 := hid (HK.out.alloc (.cells #[.int .i64 n, .int .i64 j, .int .i64 k] 24))
          have hc := HO2.out.cells
          go_wp2_with fail
          refine (gSectors ⟨n, j, k⟩ _ _ HO2.out).mono ?_
          rintro e w3 ⟨rfl, hO3, hK3⟩
          have HO3 := hid hO3
          have HK3 := hid ((HK2.out).trans hK3)
          clear hO3 hK3
          try dsimp only
          clear hc HO2 HK2
          have hm : may ⟨n, j, k⟩ = true := may_iff.2 (by have := HN.out; simp only; omega)
          have HM := hid hm
          clear hm
          generalize wr.heap.size = bx at *
          by_cases hs : sectors ⟨n, j, k⟩ ≤ s
          · have HS := hid (show Room s ⟨n, j, k⟩ from ⟨HM.out, hs⟩)
            have hsi : decide (sectors ⟨n, j, k⟩ > s) = false := decide_eq_false (by omega)
            clear hs
            generalize hsv : sectors ⟨n, j, k⟩ = sv
            rw [hsv] at hsi
            clear hsv
            have c0 := HO3.out.cells
            have t1 := HO3.out.p1.thaw
            have c1 := HO3.out.p1.cells
            go_upto_region 11 with fail
            have HO5 := hid (show Has (((w3.setCell ⟨r + 1, 0, none⟩ (.int .i64 n)).setCell ⟨r + 1, 1, none⟩ (.int .i64 j)).setCell ⟨r + 1, 2, none⟩ (.int .i64 k)) (pt (r + 1) (.cells #[.int .i64 n, .int .i64 j, .int .i64 k] 24) :: pt r (.cells #[.int .i64 0, .int .i64 0, .int .i64 0] 24) :: L) from (((HO3.out.p1.set 0 (.int .i64 n)).set 1 (.int .i64 j)).set 2 (.int .i64 k)).p1.drop)
            have HK5 := hid (((HK3.out.set ⟨r + 1, 0, none⟩ (.int .i64 n)).set ⟨r + 1, 1, none⟩ (.int .i64 j)).set ⟨r + 1, 2, none⟩ (.int .i64 k))
            clear c0 t1 c1 HO3 HK3
            generalize ((w3.setCell ⟨r + 1, 0, none⟩ (.int .i64 n)).setCell ⟨r + 1, 1, none⟩ (.int .i64 j)).setCell ⟨r + 1, 2, none⟩ (.int .i64 k) = w5 at *
            have c1 := HO5.out.cells
            have c2 := HO5.out.p1.cells
            have t2 := HO5.out.p1.thaw
            go_wp2_with fail
            try rw [Exit.noGoto_ret]
            have HO6 := hid (show Has (((w5.setCell ⟨r, 0, none⟩ (.int .i64 n)).setCell ⟨r, 1, none⟩ (.int .i64 j)).setCell ⟨r, 2, none⟩ (.int .i64 k)) (pt r (.cells (gcell ⟨n, j, k⟩) 24) :: L) from (((HO5.out.p1.set 0 (.int .i64 n)).set 1 (.int .i64 j)).set 2 (.int .i64 k)).p1.drop)
            have HK6 := hid (((HK5.out.set ⟨r, 0, none⟩ (.int .i64 n)).set ⟨r, 1, none⟩ (.int .i64 j)).set ⟨r, 2, none⟩ (.int .i64 k))
            refine bodyPost_ret (geo_result ⟨n, j, k⟩ rfl rfl HO6.out) rfl ?_
            exact ⟨_, rfl, .inr ⟨HS.out, rfl, HB.out⟩, HO6.out.drop, HK6.out⟩
          · have hsi : decide (sectors ⟨n, j, k⟩ > s) = true := decide_eq_true (by omega)
            have HS := hid hs
            have HSX := hid (show ∀ x : Geo, x = ⟨n, j, k⟩ → ¬ sectors x ≤ s from fun x e => by rw [e]; exact hs)
            clear hs
            generalize sectors ⟨n, j, k⟩ = sv at *
            go_wp2_with fail
            refine ⟨⟨j - 4, by omega, by omega, by omega, by go_num, hid fun x hx hn => ?_, hid HO3.out.drop, HK3⟩, by simp [intOf]; omega⟩
            have h1 := may_iff.1 hx.1
            have h2 := HB.out x hx hn
            by_cases e : x.b = k ∧ x.i = j
            · have he : x = ⟨n, j, k⟩ := by cases x; simp_all
              exact absurd hx.2 (HSX.out x he)
            · omega
        · have hji : decide (j ≥ 4) = false := decide_eq_false hlj
          go_wp2_with fail
          refine ⟨⟨k - 1, by omega, by omega, by go_num, hid fun x hx hn => ?_, HO, HK⟩, by simp [intOf]; omega⟩
          have h1 := may_iff.1 hx.1
          have h2 := HB.out x hx hn
          omega
    · have hki : decide (k ≥ 16) = false := decide_eq_false hlt
      have c1 := HO.out.cells
      have c2 := HO.out.p1.cells
      have t2 := HO.out.p1.thaw
      go_wp2_with fail
      try rw [Exit.noGoto_ret]
      have HO6 := hid (show Has (((wr.setCell ⟨r, 0, none⟩ (.int .i64 0)).setCell ⟨r, 1, none⟩ (.int .i64 0)).setCell ⟨r, 2, none⟩ (.int .i64 0)) (pt r (.cells (gcell zero) 24) :: L) from (((HO.out.p1.set 0 (.int .i64 0)).set 1 (.int .i64 0)).set 2 (.int .i64 0)).p1.drop)
      have HK6 := hid (((HK.out.set ⟨r, 0, none⟩ (.int .i64 0)).set ⟨r, 1, none⟩ (.int .i64 0)).set ⟨r, 2, none⟩ (.int .i64 0))
      refine bodyPost_ret (geo_result zero rfl rfl HO6.out) rfl ?_
      exact ⟨_, rfl, .inl ⟨rfl, fun x hx hn => by have h1 := may_iff.1 hx.1; have h2 := HB.out x hx hn; omega⟩, HO6.out.drop, HK6.out⟩
end Go.Proofs.Ytbggnbahmdgbdaa
