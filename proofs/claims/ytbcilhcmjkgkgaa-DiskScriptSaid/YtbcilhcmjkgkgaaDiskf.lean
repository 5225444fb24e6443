/- THE WALK of Flush. -/
import Derived.Test.YtbcilhcmjkgkgaaDiskc
namespace Go.Proofs.Ytbcilhcmjkgkgaa
open Go.RowKit Go.Own Go.Dk
theorem layAll_take (F : List Txt) (W : List (Int × Txt)) (k : Nat) (h : k < W.length) : layAll F (W.take (k + 1)) = lay (layAll F (W.take k)) W[k] := by
  rw [← List.take_append_getElem h, layAll_snoc]
theorem flushNil (w : World) : Calls Try.prog 21 #[.pointer none] w fun e w' => e = .returned (.int .i64 1) ∧ w = w' := by
  have H := hid (diskAskedNil true w)
  go_enter Try.func21, Try.ntmps21
  go_wp2_with (go_at_call 33; refine H.out.mono ?_)
  rintro e w' ⟨rfl, rfl⟩
  dsimp only
  go_wp2_with fail
  go_ret
  exact ⟨rfl, rfl⟩
/-- Refused. -/
theorem flushNot (d : Nat) (D : Disk) (w : World) (L : List HP) (hA : D.asked true ≠ 0) (hO : Has w (Dsk d D :: L)) :
    Calls Try.prog 21 #[.pointer (some ⟨d, 0, none⟩)] w fun e w' => e = .returned (.int .i64 D.flush.1) ∧ Has w' (Dsk d D.flush.2 :: L) ∧ Keep w w' := by
  have H := hid (diskAsked d D true w L hO)
  have HO := hid hO
  have HF := hid (show D.flush = (D.asked true, D) from if_pos hA)
  clear hO
  generalize D.asked true = c at *
  go_enter Try.func21, Try.ntmps21
  go_wp2_with (go_at_call 33; refine H.out.mono ?_)
  rintro e w' ⟨rfl, rfl⟩
  dsimp only
  go_wp2_with fail
  go_ret
  rw [HF.out]
  exact ⟨rfl, HO.out, Keep.refl _⟩
/-- The power goes. -/
theorem flushFalls (d : Nat) (D : Disk) (w : World) (L : List HP) (hA : D.asked true = 0) (hf : D.falls.1 = true) (hO : Has w (Dsk d D :: L)) :
    Calls Try.prog 21 #[.pointer (some ⟨d, 0, none⟩)] w fun e w' => e = .returned (.int .i64 D.flush.1) ∧ Has w' (Dsk d D.flush.2 :: L) ∧ Keep w w' := by
  have H := hid (diskAsked d D true w L hO)
  have H2 := hid (diskFalls d D w L hO)
  have HF := hid (show D.flush = (4, D.falls.2) from by simp [Disk.flush, hA, hf])
  rw [hA] at H
  rw [hf] at H2
  clear hO hA hf
  go_enter Try.func21, Try.ntmps21
  go_wp2_with (go_at_call 33; refine H.out.mono ?_)
  rintro e w' ⟨rfl, rfl⟩
  dsimp only
  go_wp2_with (go_at_call 35; refine H2.out.mono ?_)
  rintro e w' ⟨rfl, h, hK⟩
  have HO := hid h
  have HK := hid hK
  clear h hK
  dsimp only
  go_wp2_with fail
  go_ret
  rw [HF.out]
  exact ⟨rfl, HO.out, HK.out⟩
theorem okFlush {B : List Txt} {D : Disk} (h : Ok B D) (n : Int) : Ok B { D with firm := layAll D.firm D.waits, waits := [], flushes := n } where
  firm := fun y hy => by
    rcases layAll_mem hy with h1 | ⟨x, hx, rfl⟩
    · exact h.firm _ h1
    · exact h.waits _ hx
  waits := by simp
  at_ := by simp
  len := fun y hy => by
    rcases layAll_mem hy with h1 | ⟨x, hx, rfl⟩
    · exact h.len _ h1
    · exact h.wlen _ hx
  wlen := by simp
  left := h.left
theorem flushGo (d : Nat) (D E : Disk) (w : World) (L : List HP) (hA : D.asked true = 0) (hf : D.falls = (false, E)) (hn : 0 ≤ E.flushes) (hn2 : E.flushes ≤ 1000000000000) (hO : Has w (Dsk d D :: L)) :
    Calls Try.prog 21 #[.pointer (some ⟨d, 0, none⟩)] w fun e w' => e = .returned (.int .i64 D.flush.1) ∧ Has w' (Dsk d D.flush.2 :: L) ∧ Keep w w' := by
  have H := hid (diskAsked d D true w L hO)
  have H2 : Hid (Calls Try.prog 35 #[.pointer (some ⟨d, 0, none⟩)] w fun e w' => e = .returned (.bool false) ∧ Has w' (Dsk d E :: L) ∧ Keep w w') := by
    have := diskFalls d D w L hO
    rw [hf] at this
    exact hid this
  have HF := hid (show D.flush = (0, { E with firm := layAll E.firm E.waits, waits := [], flushes := E.flushes + 1 }) from by simp [Disk.flush, hA, hf])
  rw [hA] at H
  clear hO hA hf
  go_enter Try.func21, Try.ntmps21
  go_wp2_with (go_at_call 33; refine H.out.mono ?_)
  rintro e w' ⟨rfl, rfl⟩
  dsimp only
  go_wp2_with (go_at_call 35; refine H2.out.mono ?_)
  rintro e w' ⟨rfl, h, hK⟩
  clear H H2
  obtain ⟨fv, wv, av, lv, B, hok, hO⟩ := dsk_iff.1 h
  obtain ⟨F, W, on, ar, ws, fl⟩ := E
  simp only at hO hn hn2
  have HSL := hid (okSlices hok hO.p5)
  have Hok := hid hok
  have HA := hid hok.at_
  obtain ⟨wp, wc, rfl, hwc, hwl, -⟩ := hO.p2.rd.form
  obtain ⟨fp, fc, rfl, hfc, hfl, -⟩ := hO.p1.rd.form
  have hc := hO.cells
  have HO := hid hO
  have HK0 := hid hK
  clear h hO hok hK
  simp only at HA HSL
  dsimp only
  go_wp2_with fail
  go_loopw [5, 18] (fun _ i w'' => ∃ k : Nat, k ≤ W.length ∧ i = .int .i64 k ∧ Hid (Has w'' (pt d (.cells #[.slice fp F.length fc, .slice wp W.length wc, .bool on, av, lv, .int .i64 fl] 65) :: row (.slice fp F.length fc) 28 1 F.length ((layAll F (W.take k)).map (·.1)) :: row (.slice wp W.length wc) 70 2 W.length (wenc W) :: Armc av ar :: Ints lv ws :: poolc 5 B :: L)) ∧ Hid (Keep w w'')) (fun _ i _ => W.length - (intOf i).toNat)
  case atStart => exact ⟨0, by omega, rfl, HO, HK0⟩
  case round =>
    obtain ⟨k, hk, rfl, HX, HK⟩ := hrel
    clear HO HK0
    by_cases hlt : k < W.length
    · obtain ⟨g, o, c, e, hw1, hw2⟩ := wcells HX.out.p2 k hlt
      simp only [Value.slice.injEq] at e
      obtain ⟨rfl, -, rfl⟩ := e
      obtain ⟨xp, xn, xc, hx⟩ := HSL.out _ (List.getElem_mem hlt)
      rw [hx] at hw2
      have hin := HA.out _ (List.getElem_mem hlt)
      generalize hxi : W[k].1 = xi at *
      obtain ⟨q, rfl⟩ := Int.eq_ofNat_of_zero_le hin.1
      have hq : q < F.length := by omega
      have Hx := hid hx
      have Hxi := hid hxi
      clear hx hxi hin
      have HO3 := hid (HX.out.alloc (.cells #[.int .i64 (q : Int), .slice xp xn xc] 70))
      have HK3 := hid (HK.out.alloc (.cells #[.int .i64 (q : Int), .slice xp xn xc] 70))
      obtain ⟨-, hf | ⟨fg, fc', cur, ef, -, -, -, -, -⟩⟩ := HX.out.p1.row_cases
      · exact absurd hf.2.1 (by omega)
      simp only [Value.slice.injEq, true_and] at ef
      obtain ⟨rfl, rfl⟩ := ef
      go_wp2_with fail
      have h0 := HO3.out.cells
      have h1 := HO3.out.p1.cells
      obtain ⟨-, h2, ht, -, -⟩ := HO3.out.p2.row_cells
      generalize hwa : wr.alloc (.cells #[.int .i64 (q : Int), .slice xp xn xc] 70) = wa at *
      refine region_tail1 (fun w => w.cell? ⟨d, 0, none⟩ = some (.slice (some ⟨fg, 0, none⟩) F.length fc) ∧ w.cell? ⟨wr.heap.size, 0, none⟩ = some (.int .i64 (q : Int)) ∧ w.cell? ⟨wr.heap.size, 1, none⟩ = some (.slice xp xn xc)) (by kernel_rfl) (by kernel_rfl) (by kernel_rfl) (by decide) ⟨h1 0, h0 0, h0 1⟩ ?_
      repeat (first
        | (refine wpL_read (by rfl) (by rfl) ?_ ?_ ?_; rotate_left; (rintro w ⟨hS, hS1, hS2⟩; go_simp; with_reducible rfl); simp only [Act.put, List.setIfInBounds_toArray, List.set_cons_zero, List.set_cons_succ])
        | (refine wpL_skip (by rfl) ?_; simp only [Act.put, List.setIfInBounds_toArray, List.set_cons_zero, List.set_cons_succ]))
      refine wpL_nil ?_
      refine wpOp_last rfl (by rfl) ?_
      have h3 := h2 q (by omega)
      rw [List.getElem?_eq_getElem (by simp [layAll_len, hq])] at h3
      clear h2 h0 h1
      have HO5 := hid ((HO3.out.p2.row_set q (by omega) (.slice xp xn xc)).b2.drop.drew)
      have HK5 := hid ((HK3.out.set ⟨fg, q, none⟩ (.slice xp xn xc)).drew)
      go_simp
      go_wp2_with fail
      refine ⟨⟨k + 1, by omega, rfl, hid ?_, HK5⟩, ?_⟩
      · rw [layAll_take _ _ _ hlt, lay_map, Hx.out, Hxi.out]
        exact HO5.out
      · simp only [intOf]; omega
    · obtain rfl : k = W.length := by omega
      have HFi := hid HX.out
      have ht := HX.out.thaw
      have hc := HX.out.cells
      go_wp2_with fail
      go_ret
      rw [HF.out]
      refine ⟨rfl, dsk_iff.2 ⟨.slice fp F.length fc, .slice none 0 0, av, lv, B, okFlush Hok.out _, ?_⟩, (HK.out.set _ _).set _ _⟩
      have h := ((HFi.out.set 1 (.slice none 0 0)).set 5 (.int .i64 (fl + 1)))
      rw [List.take_length] at h
      have e : (layAll F W).length = F.length := layAll_len _ _
      show Has _ (pt d _ :: row _ 28 1 (layAll F W).length _ :: _)
      rw [e]
      exact (h.p2.drop.row_nil 70 2).b2
theorem diskFlush (d : Nat) (D : Disk) (w : World) (L : List HP) (hn : 0 ≤ D.flushes) (hn2 : D.flushes ≤ 1000000000000) (hO : Has w (Dsk d D :: L)) :
    Calls Try.prog 21 #[.pointer (some ⟨d, 0, none⟩)] w fun e w' => e = .returned (.int .i64 D.flush.1) ∧ Has w' (Dsk d D.flush.2 :: L) ∧ Keep w w' := by
  by_cases hA : D.asked true = 0
  · rcases hf : D.falls with ⟨b, E⟩
    cases b
    · have hE : E.flushes = D.flushes := by
        unfold Disk.falls at hf
        split at hf
        · cases hf; rfl
        · split at hf <;> cases hf; rfl
      exact flushGo d D E w L hA hf (by omega) (by omega) hO
    · exact flushFalls d D w L hA (by rw [hf]) hO
  · exact flushNot d D w L hA hO
end Go.Proofs.Ytbcilhcmjkgkgaa
