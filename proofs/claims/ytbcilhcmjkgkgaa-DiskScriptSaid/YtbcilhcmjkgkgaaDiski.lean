/- THE WALKS of Writes, Waiting. -/
import Derived.Test.YtbcilhcmjkgkgaaDiskw
import Derived.Test.YtbcilhcmjkgkgaaCloneI
namespace Go.Proofs.Ytbcilhcmjkgkgaa
open Go.RowKit Go.Own Go.Dk
theorem writesNil (w : World) : Calls Try.prog 16 #[.pointer none] w fun e w' => e = .returned (.slice none 0 0) ∧ w = w' := by
  go_enter Try.func16, Try.ntmps16
  go_wp2
  go_ret
  exact ⟨rfl, rfl⟩
theorem diskWrites (d : Nat) (D : Disk) (w : World) (L : List HP) (hw : D.writes.length ≤ 1000000000) (hO : Has w (Dsk d D :: L)) :
    Calls Try.prog 16 #[.pointer (some ⟨d, 0, none⟩)] w fun e w' => ∃ v, e = .returned v ∧ Has w' (Ints v D.writes :: Dsk d D :: L) ∧ Keep w w' := by
  have hO0 := hO
  obtain ⟨fv, wv, av, lv, B, hok, hO⟩ := dsk_iff.1 hO
  obtain ⟨lp, lc, rfl, -⟩ := hO.p4.rd.form
  have hc := hO.cells
  have H := hid (cloneInts (.slice lp D.writes.length lc) D.writes w (Dsk d D :: L) hO0 (Ints.rd hO.p4) hw)
  clear hO hO0 hok
  go_enter Try.func16, Try.ntmps16
  go_wp2_with (go_at_call 37; refine H.out.mono ?_; rintro e w' ⟨v', rfl, h, hK, -⟩; dsimp only)
  go_ret
  exact ⟨_, rfl, h, hK⟩
theorem waitingNil (w : World) : Calls Try.prog 23 #[.pointer none] w fun e w' => e = .returned (.slice none 0 0) ∧ w = w' := by
  go_enter Try.func23, Try.ntmps23
  go_wp2
  go_ret
  exact ⟨rfl, rfl⟩
theorem diskWaiting (d : Nat) (D : Disk) (w : World) (L : List HP) (hw : D.waits.length ≤ 1000000000) (hO : Has w (Dsk d D :: L)) :
    Calls Try.prog 23 #[.pointer (some ⟨d, 0, none⟩)] w fun e w' => ∃ v, e = .returned v ∧ Has w' (Ints v (D.waits.map (·.1)) :: Dsk d D :: L) ∧ Keep w w' := by
  obtain ⟨fv, wv, av, lv, B, hok, hO⟩ := dsk_iff.1 hO
  have HSL := hid (okSlices hok hO.p5)
  have HD := hid (fun w' M h => (dsk_iff (w := w') (L := M) (d := d)).2 ⟨fv, wv, av, lv, B, hok, h⟩)
  obtain ⟨F, W, on, ar, ws, fl⟩ := D
  simp only at hO hw HSL HD
  obtain ⟨wp, wc, rfl, hwc, hwl, -⟩ := hO.p2.rd.form
  have hc := hO.cells
  have HO := hid hO
  clear hO hok
  go_enter Try.func23, Try.ntmps23
  go_wp2_with fail
  go_loopw [5, 3, 13] (fun _ v i w' => ∃ k : Nat, k ≤ W.length ∧ i = .int .i64 k ∧ Hid (Has w' (Ints v ((W.take k).map (·.1)) :: pt d (.cells #[fv, .slice wp W.length wc, .bool on, av, lv, .int .i64 fl] 65) :: row fv 28 1 F.length (F.map (·.1)) :: row (.slice wp W.length wc) 70 2 W.length (wenc W) :: Armc av ar :: Ints lv ws :: poolc 5 B :: L)) ∧ Hid (Keep w w')) (fun _ _ i _ => W.length - (intOf i).toNat)
  case atStart => exact ⟨0, by omega, rfl, hid (HO.out.row_nil _ _), hid (Keep.refl _)⟩
  case round =>
    obtain ⟨k, hk, rfl, HX, HK⟩ := hrel
    clear HO
    by_cases hlt : k < W.length
    · obtain ⟨g, o, c, e, hw1, hw2⟩ := wcells HX.out.p3 k hlt
      simp only [Value.slice.injEq] at e
      obtain ⟨rfl, -, rfl⟩ := e
      obtain ⟨xp, xn, xc, hx⟩ := HSL.out _ (List.getElem_mem hlt)
      rw [hx] at hw2
      have HT := hid (show (W.take (k + 1)).map (·.1) = (W.take k).map (·.1) ++ [W[k].1] from by rw [← List.take_append_getElem hlt, List.map_append]; rfl)
      have hlen : ((W.take k).map (·.1)).length = k := by simp; omega
      generalize W[k].1 = xi at *
      have HO3 := hid (HX.out.alloc' (.cells #[.int .i64 xi, .slice xp xn xc] 70))
      have HK3 := hid (HK.out.alloc (.cells #[.int .i64 xi, .slice xp xn xc] 70))
      go_wp2_with (at_builtin; refine wpList_append1 rfl _ _ _ rfl Try.underlying22 infoInt rfl (.int .i64 xi) (HO3.out.alloc' _) rfl 1 _ rfl (by simp) rfl (le_maxLen (by omega)) (by omega) ?_)
      intro v' w' h hk
      have HO4 := hid h
      have HK4 := hid ((HK3.out.alloc _).trans hk)
      clear h hk
      go_wp2_with fail
      refine ⟨⟨k + 1, by omega, rfl, hid ?_, HK4⟩, ?_⟩
      · rw [HT.out]
        have := HO4.out
        have hm : min k W.length = k := by omega
        simpa [Ints, ic_snoc, hm] using this
      · simp only [intOf]; omega
    · obtain rfl : k = W.length := by omega
      go_wp2_with fail
      go_ret
      have h := HX.out
      rw [List.take_length] at h
      exact ⟨_, rfl, (HD.out _ _ h.b6).p1, HK.out⟩
end Go.Proofs.Ytbcilhcmjkgkgaa
