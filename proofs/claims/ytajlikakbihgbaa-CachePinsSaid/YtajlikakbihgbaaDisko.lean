/- THE WALK of Image. -/
import Derived.Test.YtajlikakbihgbaaDiski
import Derived.Test.YtajlikakbihgbaaDiskn
namespace Go.Proofs.Ytajlikakbihgbaa
open Go.RowKit Go.Own Go.Dk
theorem imageNil (w : World) : Calls Try.prog 29 #[.pointer none] w fun e w' => e = .returned (.slice none 0 0) ∧ w = w' := by
  go_enter Try.func29, Try.ntmps29
  go_wp2
  go_ret
  exact ⟨rfl, rfl⟩
set_option maxHeartbeats 2000000 in
theorem diskImage (d : Nat) (D : Disk) (w : World) (L : List HP) (hw : D.firm.length ≤ 1000000000) (hO : Has w (Dsk d D :: L)) :
    Calls Try.prog 29 #[.pointer (some ⟨d, 0, none⟩)] w fun e w' => ∃ v R, e = .returned v ∧ R.map (·.2) = D.firm.map (·.2) ∧ Has w' (row v 33 1 R.length (R.map (·.1)) :: poolc 5 R :: Dsk d D :: L) ∧ Keep w w' := by
  obtain ⟨fv, wv, av, lv, B, hok, hO⟩ := dsk_iff.1 hO
  have HOk := hid hok
  have HD := hid (fun w' M h => (dsk_iff (w := w') (L := M) (d := d)).2 ⟨fv, wv, av, lv, B, hok, h⟩)
  obtain ⟨F, W, on, ar, ws, fl⟩ := D
  simp only at hO hw HD
  obtain ⟨fp, fc, rfl, hfc, hfl, -⟩ := hO.p1.rd.form
  have hc := hO.cells
  have HO := hid hO
  clear hO hok
  go_enter Try.func29, Try.ntmps29
  go_wp2_with fail
  go_loopw [5, 3, 13] (fun _ v i w' => ∃ k : Nat, k ≤ F.length ∧ i = .int .i64 k ∧ Hid (∃ R : List Txt, R.length = k ∧ R.map (·.2) = (F.take k).map (·.2) ∧ Has w' (row v 33 1 k (R.map (·.1)) :: poolc 5 R :: pt d (.cells #[.slice fp F.length fc, wv, .bool on, av, lv, .int .i64 fl] 67) :: row (.slice fp F.length fc) 33 1 F.length (F.map (·.1)) :: row wv 85 2 W.length (wenc W) :: Armc av ar :: Ints lv ws :: poolc 5 B :: L)) ∧ Hid (Keep w w')) (fun _ _ i _ => F.length - (intOf i).toNat)
  case atStart => exact ⟨0, by omega, rfl, hid ⟨[], rfl, rfl, (HO.out.pool_nil).row_nil _ _⟩, hid (Keep.refl _)⟩
  case round =>
    obtain ⟨k, hk, rfl, HX, HK⟩ := hrel
    clear HO
    obtain ⟨R, hR, hRm, hX⟩ := HX.out
    have HX := hid hX
    have HR := hid hR
    have HRm := hid hRm
    clear hX hR hRm
    by_cases hlt : k < F.length
    · have hF1 := HOk.out.firm _ (List.getElem_mem hlt)
      have hlenk := HOk.out.len _ (List.getElem_mem hlt)
      have hrd := (HX.out.drop.drop.p5).pool_rd hF1
      obtain ⟨fp', fc', ef, -, -, hcf⟩ := HX.out.p3.rd.form
      simp only [Value.slice.injEq, true_and] at ef
      obtain ⟨rfl, rfl⟩ := ef
      obtain ⟨fg, fo, rfl, hcg⟩ := hcf (by omega)
      have hk1 := hcg k (by omega)
      clear hcg
      have HT := hid (show (F.take (k + 1)).map (·.2) = (F.take k).map (·.2) ++ [F[k].2] from by rw [← List.take_append_getElem hlt, List.map_append]; rfl)
      rw [List.getElem?_map, List.getElem?_eq_getElem hlt] at hk1
      simp only [Option.map_some] at hk1
      have HC := hid (cloneBytes F[k].1 F[k].2 wr _ HX.out hrd (by omega))
      obtain ⟨xp, xc, ex, -⟩ := hrd.form
      rw [ex] at hk1 HC
      rw [hlenk] at hk1 HC
      clear hrd
      go_wp2_with fail
      refine HC.out.mono ?_
      rintro e w' ⟨v', rfl, h, hK, -⟩
      dsimp only
      obtain ⟨vp, vc, rfl, -⟩ := h.rd.form
      have HO2 := hid h.p1
      have HK2 := hid (HK.out.trans hK)
      clear h hK HC
      have hlk : (F[k].2).length = 128 := hlenk
      go_wp2_with (at_builtin; refine wpList_append1 rfl _ _ _ rfl Try.underlying55 infoBs rfl (.slice vp 128 vc) (HO2.out.alloc' _) rfl 1 _ rfl (by simp) rfl (le_maxLen (by omega)) (by omega) ?_)
      intro v2 w2 h hk
      have HO3 := hid h
      have HK3 := hid ((HK2.out.alloc _).trans hk)
      clear h hk HO2 HK2
      go_wp2_with fail
      refine ⟨⟨k + 1, by omega, rfl, hid ⟨R ++ [(.slice vp 128 vc, F[k].2)], ?_, ?_, ?_⟩, HK3⟩, ?_⟩
      · rw [List.length_append, HR.out]; rfl
      · rw [List.map_append, HRm.out, HT.out]; rfl
      · rw [List.map_append]
        exact (HO3.out.p1.p2.p1.pool_snoc).p1
      · simp only [intOf]; omega
    · obtain rfl : k = F.length := by omega
      go_wp2_with fail
      go_ret
      have h := HX.out
      have e := HR.out
      refine ⟨_, rfl, R, ?_, ?_, HK.out⟩
      · have := HRm.out; rw [List.take_length] at this; exact this
      · rw [e]
        exact (HD.out _ _ (h.perm (List.perm_append_comm_assoc [_, _] [_, _, _, _, _, _] L))).b2
end Go.Proofs.Ytajlikakbihgbaa
