/- THE WALKS of the reference's disk: Crash, falls, Flush, Arm. -/
import Derived.Test.YtbcilhcmjkgkgaaRdska
import Derived.Test.YtbcilhcmjkgkgaaDiskw
namespace Go.Proofs.Ytbcilhcmjkgkgaa
open Go.RowKit Go.Own Go.Dk
theorem rCrash (c : Nat) (D : Disk) (qv : Value) (keep : List Bool) (w : World) (L : List HP) (hL : ∀ w', Has w' L → Rd w' qv 1 keep.length (keep.map Value.bool)) (hO : Has w (RDsk c D :: L)) :
    Calls Try.prog 46 #[.pointer (some ⟨c, 0, none⟩), qv] w fun e w' => e = .returned (.tuple #[]) ∧ Has w' (RDsk c (D.crash keep) :: L) ∧ Keep w w' := by
  obtain ⟨fv, wv, kv, lv, ks, left, B, hok, hO⟩ := rdsk_iff.1 hO
  refine (rCrashO c fv wv kv lv qv _ left D.flushes D.firm D.waits keep w _ hok.1.at_ (okSlicesP hok.1 hO.p5) (fun w' h => hL w' h.drop.drop.drop) hO).mono ?_
  rintro e w' ⟨rfl, h, hK⟩
  refine ⟨rfl, rdsk_iff.2 ⟨fv, .slice none 0 0, kv, lv, ks, -1, B, ⟨okCrash hok.1 keep, rfl⟩, ?_⟩, hK⟩
  have h2 := (h.p2.drop.row_nil 81 2).b2
  have e : (layKept keep D.firm D.waits).length = D.firm.length := layKept_len _ _ _
  show Has w' (pt c _ :: row fv 28 1 (layKept keep D.firm D.waits).length _ :: _)
  rw [e]
  exact h2
theorem rFallsNo (c : Nat) (D : Disk) (w : World) (L : List HP) (hA : D.armed = none) (hO : Has w (RDsk c D :: L)) :
    Calls Try.prog 49 #[.pointer (some ⟨c, 0, none⟩)] w fun e w' => e = .returned (.bool D.falls.1) ∧ Has w' (RDsk c D.falls.2 :: L) ∧ Keep w w' := by
  have HD := hid hO
  obtain ⟨fv, wv, kv, lv, ks, left, B, hok, hO⟩ := rdsk_iff.1 hO
  obtain ⟨F, W, on, ar, wr, fl⟩ := D
  simp only at hO hA hok
  subst hA
  obtain rfl : left = -1 := hok.2
  have hc := hO.cells
  clear hO hok
  go_enter Try.func49, Try.ntmps49
  go_wp2_with fail
  go_ret
  exact ⟨rfl, HD.out, Keep.refl _⟩
theorem rFallsDec (c : Nat) (D : Disk) (n : Int) (k : List Bool) (w : World) (L : List HP) (hA : D.armed = some (n, k)) (hn : 0 < n) (hO : Has w (RDsk c D :: L)) :
    Calls Try.prog 49 #[.pointer (some ⟨c, 0, none⟩)] w fun e w' => e = .returned (.bool D.falls.1) ∧ Has w' (RDsk c D.falls.2 :: L) ∧ Keep w w' := by
  obtain ⟨fv, wv, kv, lv, ks, left, B, hok, hP⟩ := rdsk_iff.1 hO
  clear hO
  have hO := hP
  clear hP
  have hn2 := hok.1.left _ _ hA
  obtain ⟨F, W, on, ar, wr, fl⟩ := D
  simp only at hO hA hok
  subst hA
  obtain ⟨rfl, rfl, hn0⟩ := hok.2
  have hc := hO.cells
  have ht := hO.thaw
  have HO := hid hO
  have Hok := hid hok.1
  have HF := hid (show Disk.falls ⟨F, W, on, some (left, ks), wr, fl⟩ = (false, ⟨F, W, on, some (left - 1, ks), wr, fl⟩) from if_pos hn)
  have hn3 : (left == 0) = false := by simp; omega
  clear hO hok
  go_enter Try.func49, Try.ntmps49
  go_wp2_with fail
  go_ret
  rw [HF.out]
  refine ⟨rfl, rdsk_iff.2 ⟨fv, wv, kv, lv, ks, left - 1, B, ⟨⟨Hok.out.firm, Hok.out.waits, Hok.out.at_, Hok.out.len, Hok.out.wlen, fun a b e => by simp only [Option.some.injEq, Prod.mk.injEq] at e; omega⟩, ⟨rfl, rfl, by omega⟩⟩, HO.out.set 3 (.int .i64 (left - 1))⟩, (Keep.refl _).set _ _⟩
theorem rFallsGone (c : Nat) (D : Disk) (n : Int) (k : List Bool) (w : World) (L : List HP) (hA : D.armed = some (n, k)) (hn : ¬ 0 < n) (hO : Has w (RDsk c D :: L)) :
    Calls Try.prog 49 #[.pointer (some ⟨c, 0, none⟩)] w fun e w' => e = .returned (.bool D.falls.1) ∧ Has w' (RDsk c D.falls.2 :: L) ∧ Keep w w' := by
  obtain ⟨fv, wv, kv, lv, ks, left, B, hok, hP⟩ := rdsk_iff.1 hO
  clear hO
  have hO := hP
  clear hP
  obtain ⟨F, W, on, ar, wr, fl⟩ := D
  simp only at hO hA hok
  subst hA
  obtain ⟨rfl, rfl, hn0⟩ := hok.2
  obtain rfl : left = 0 := by omega
  have hc := hO.cells
  have HC := hid (rCrashO c fv wv kv lv kv _ 0 fl F W ks w _ hok.1.at_ (okSlicesP hok.1 hO.p5) (fun w' h => Has.rd h) hO)
  have Hok := hid hok.1
  have HF := hid (show Disk.falls ⟨F, W, on, some (0, ks), wr, fl⟩ = (true, (Disk.mk F W on (some (0, ks)) wr fl).crash ks) by unfold Disk.falls; simp)
  clear hO hok
  go_enter Try.func49, Try.ntmps49
  go_wp2_with fail
  refine HC.out.mono ?_
  rintro e w' ⟨rfl, h, hK⟩
  have HH := hid h
  have HK := hid hK
  clear h hK HC
  dsimp only
  go_wp2_with fail
  go_ret
  rw [HF.out]
  refine ⟨rfl, rdsk_iff.2 ⟨fv, .slice none 0 0, kv, lv, ks, -1, B, ⟨okCrash Hok.out ks, rfl⟩, ?_⟩, HK.out⟩
  have h2 := (HH.out.p2.drop.row_nil 81 2).b2
  have e : (layKept ks F W).length = F.length := layKept_len _ _ _
  show Has _ (pt c _ :: row fv 28 1 (layKept ks F W).length _ :: _)
  rw [e]
  exact h2
theorem rFalls (c : Nat) (D : Disk) (w : World) (L : List HP) (hO : Has w (RDsk c D :: L)) :
    Calls Try.prog 49 #[.pointer (some ⟨c, 0, none⟩)] w fun e w' => e = .returned (.bool D.falls.1) ∧ Has w' (RDsk c D.falls.2 :: L) ∧ Keep w w' := by
  rcases h : D.armed with _ | ⟨n, k⟩
  · exact rFallsNo c D w L h hO
  · by_cases hn : 0 < n
    · exact rFallsDec c D n k w L h hn hO
    · exact rFallsGone c D n k w L h hn hO
theorem asked_off {D : Disk} (h : D.on = false) (b : Bool) : D.asked b = 4 := by simp [Disk.asked, h]
theorem asked_on {D : Disk} (h : D.on = true) : D.asked true = 0 := by simp [Disk.asked, h]
theorem rFlush (c : Nat) (D : Disk) (w : World) (L : List HP) (hn : 0 ≤ D.flushes) (hn2 : D.flushes ≤ 1000000000000) (hO : Has w (RDsk c D :: L)) :
    Calls Try.prog 44 #[.pointer (some ⟨c, 0, none⟩)] w fun e w' => e = .returned (.int .i64 D.flush.1) ∧ Has w' (RDsk c D.flush.2 :: L) ∧ Keep w w' := by
  have HO := hid hO
  rcases hon : D.on with _ | _
  · obtain ⟨fv, wv, kv, lv, ks, left, B, hok, hO⟩ := rdsk_iff.1 hO
    have HF := hid (show D.flush = (4, D) by unfold Disk.flush; rw [asked_off hon]; rfl)
    have hc : w.cell? ⟨c, 2, none⟩ = some (.bool true) := by have := hO.cells 2; rw [hon] at this; exact this
    clear hO hok hon
    go_enter Try.func44, Try.ntmps44
    go_wp2_with fail
    go_ret
    rw [HF.out]
    exact ⟨rfl, HO.out, Keep.refl _⟩
  · have hc : w.cell? ⟨c, 2, none⟩ = some (.bool false) := by
      obtain ⟨fv, wv, kv, lv, ks, left, B, hok, hO⟩ := rdsk_iff.1 hO
      have := hO.cells 2; rw [hon] at this; exact this
    have H2 := hid (rFalls c D w L hO)
    rcases hf : D.falls with ⟨b, E⟩
    rw [hf] at H2
    cases b
    · have hE : E.flushes = D.flushes := by
        unfold Disk.falls at hf
        split at hf
        · cases hf; rfl
        · split at hf <;> cases hf; rfl
      have HF := hid (show D.flush = (0, { E with firm := layAll E.firm E.waits, waits := [], flushes := E.flushes + 1 }) from by simp [Disk.flush, asked_on hon, hf])
      have hfl : 0 ≤ E.flushes ∧ E.flushes ≤ 1000000000000 := by omega
      clear hO hf hon hE
      go_enter Try.func44, Try.ntmps44
      go_wp2_with fail
      refine H2.out.mono ?_
      rintro e w' ⟨rfl, h, hK⟩
      clear H2 HO
      obtain ⟨fv, wv, kv, lv, ks, left, B, hok, hO⟩ := rdsk_iff.1 h
      obtain ⟨F, W, on, ar, ws, fl⟩ := E
      simp only at hO hfl hok
      have HSL := hid (okSlicesP hok.1 hO.p5)
      have Hok := hid hok
      have HA := hid hok.1.at_
      obtain ⟨wp, wc, rfl, hwc, hwl, -⟩ := hO.p2.rd.form
      obtain ⟨fp, fc, rfl, hfc, hfl2, -⟩ := hO.p1.rd.form
      have HO := hid hO
      have HK0 := hid hK
      clear h hO hok hK hc
      simp only at HA HSL
      dsimp only
      go_wp2_with fail
      go_loopw [3] (fun i w'' => ∃ k : Nat, k ≤ W.length ∧ i = .int .i64 k ∧ Hid (Has w'' (pt c (.cells #[.slice fp F.length fc, .slice wp W.length wc, .bool (!on), .int .i64 left, .int .i64 fl, kv, lv] 56) :: row (.slice fp F.length fc) 28 1 F.length ((layAll F (W.take k)).map (·.1)) :: row (.slice wp W.length wc) 81 2 W.length (wenc W) :: Bools kv ks :: Ints lv ws :: poolc 5 B :: L)) ∧ Hid (Keep w w'')) (fun i _ => W.length - (intOf i).toNat)
      case atStart => exact ⟨0, by omega, rfl, HO, HK0⟩
      case round =>
        obtain ⟨k, hk, rfl, HX, HK⟩ := hrel
        clear HO HK0
        have hc0 : wr.cell? ⟨c, 0, none⟩ = some (.slice fp F.length fc) := HX.out.cells 0
        have hc1 : wr.cell? ⟨c, 1, none⟩ = some (.slice wp W.length wc) := HX.out.cells 1
        by_cases hlt : k < W.length
        · have hwn := hlt
          obtain ⟨g, c', e, hw1, hw2⟩ := wcellsT HX.out.p2 k hlt
          simp only [Value.slice.injEq, true_and] at e
          obtain ⟨rfl, rfl⟩ := e
          obtain ⟨xp, xc, hx⟩ := HSL.out _ (List.getElem_mem hlt)
          rw [hx] at hw2
          have hin := HA.out _ (List.getElem_mem hlt)
          generalize hxi : W[k].1 = xi at *
          obtain ⟨q, rfl⟩ := Int.eq_ofNat_of_zero_le hin.1
          have hq : q < F.length := by omega
          have Hx := hid hx
          have Hxi := hid hxi
          clear hx hxi hin
          obtain ⟨-, hf | ⟨fg, fc', cur, ef, -, -, -, -, -⟩⟩ := HX.out.p1.row_cases
          · exact absurd hf.2.1 (by omega)
          simp only [Value.slice.injEq, true_and] at ef
          obtain ⟨rfl, rfl⟩ := ef
          go_wp2_with fail
          obtain ⟨-, h2, ht, -, -⟩ := HX.out.p1.row_cells
          refine region_tail1 (fun w => w.cell? ⟨c, 0, none⟩ = some (.slice (some ⟨fg, 0, none⟩) F.length fc) ∧ w.cell? ⟨c, 1, none⟩ = some (.slice (some ⟨g, 0, none⟩) W.length wc) ∧ w.cell? ⟨g, k * 2, none⟩ = some (.int .i64 (q : Int)) ∧ w.cell? ⟨g, k * 2 + 1, none⟩ = some (.slice xp 128 xc)) (by kernel_rfl) (by kernel_rfl) (by kernel_rfl) (by decide) ⟨hc0, hc1, hw1, hw2⟩ ?_
          repeat (first
            | (refine wpL_read (by rfl) (by rfl) ?_ ?_ ?_; rotate_left; (rintro w ⟨hS, hS1, hS2, hS3⟩; go_simp; with_reducible rfl); simp only [Act.put, List.setIfInBounds_toArray, List.set_cons_zero, List.set_cons_succ])
            | (refine wpL_skip (by rfl) ?_; simp only [Act.put, List.setIfInBounds_toArray, List.set_cons_zero, List.set_cons_succ]))
          refine wpL_nil ?_
          refine wpOp_last rfl (by rfl) ?_
          have h3 := h2 q (by omega)
          rw [List.getElem?_eq_getElem (by simp [layAll_len, hq])] at h3
          clear h2
          have HO5 := hid ((HX.out.p1.row_set q (by omega) (.slice xp 128 xc)).drew)
          have HK5 := hid ((HK.out.set ⟨fg, q, none⟩ (.slice xp 128 xc)).drew)
          go_simp
          go_wp2_with fail
          refine ⟨⟨k + 1, by omega, by go_num, hid ?_, HK5⟩, by simp [intOf]; omega⟩
          rw [layAll_take _ _ _ hlt, lay_map, Hx.out, Hxi.out]
          exact HO5.out.p1
        · obtain rfl : k = W.length := by omega
          have HFi := hid HX.out
          have ht := HX.out.thaw
          have hc := HX.out.cells
          go_wp2_with fail
          go_ret
          rw [HF.out]
          refine ⟨rfl, rdsk_iff.2 ⟨.slice fp F.length fc, .slice none 0 0, kv, lv, ks, left, B, ⟨okFlush Hok.out.1 _, Hok.out.2⟩, ?_⟩, (HK.out.set _ _).set _ _⟩
          have h := ((HFi.out.set 1 (.slice none 0 0)).set 4 (.int .i64 (fl + 1)))
          rw [List.take_length] at h
          have e : (layAll F W).length = F.length := layAll_len _ _
          show Has _ (pt c _ :: row _ 28 1 (layAll F W).length _ :: _)
          rw [e]
          exact (h.p2.drop.row_nil 81 2).b2
    · have HF := hid (show D.flush = (4, E) from by simp [Disk.flush, asked_on hon, hf])
      clear hO hf hon
      go_enter Try.func44, Try.ntmps44
      go_wp2_with fail
      refine H2.out.mono ?_
      rintro e w' ⟨rfl, h, hK⟩
      dsimp only
      go_wp2_with fail
      go_ret
      rw [HF.out]
      exact ⟨rfl, h, hK⟩
theorem rArm (c : Nat) (D : Disk) (n : Int) (qv : Value) (keep : List Bool) (w : World) (L : List HP) (hn : n ≤ 9223372036854775807) (hk : Rd w qv 1 keep.length (keep.map Value.bool)) (hkl : keep.length ≤ 1000000000) (hO : Has w (RDsk c D :: L)) :
    Calls Try.prog 45 #[.pointer (some ⟨c, 0, none⟩), .int .i64 n, qv] w fun e w' => e = .returned (.int .i64 (D.arm n keep).1) ∧ Has w' (RDsk c (D.arm n keep).2 :: L) ∧ Keep w w' := by
  have HO := hid hO
  obtain ⟨kp, kc, rfl, -⟩ := hk.form
  rcases hon : D.on with _ | _
  · obtain ⟨fv, wv, kv, lv, ks, left, B, hok, hO⟩ := rdsk_iff.1 hO
    have HF := hid (show D.arm n keep = (4, D) by unfold Disk.arm; rw [asked_off hon]; rfl)
    have hc : w.cell? ⟨c, 2, none⟩ = some (.bool true) := by have := hO.cells 2; rw [hon] at this; exact this
    clear hO hok hon hk
    go_enter Try.func45, Try.ntmps45
    go_wp2_with fail
    go_ret
    rw [HF.out]
    exact ⟨rfl, HO.out, Keep.refl _⟩
  · obtain ⟨fv, wv, kv, lv, ks, left, B, hok, hO⟩ := rdsk_iff.1 hO
    have hc2 : w.cell? ⟨c, 2, none⟩ = some (.bool false) := by have := hO.cells 2; rw [hon] at this; exact this
    by_cases hneg : n < 0
    · have HF := hid (show D.arm n keep = (2, D) by unfold Disk.arm; rw [show decide (0 ≤ n) = false by simp; omega]; simp [Disk.asked, hon])
      clear hO hok hon hk
      go_enter Try.func45, Try.ntmps45
      go_wp2_with fail
      go_ret
      rw [HF.out]
      exact ⟨rfl, HO.out, Keep.refl _⟩
    · have HF := hid (show D.arm n keep = (0, { D with armed := some (n, keep) }) by unfold Disk.arm; rw [show decide (0 ≤ n) = true by simp; omega]; simp [Disk.asked, hon])
      have HR := hid hk
      obtain ⟨F, W, on, ar, ws, fl⟩ := D
      simp only at hO hok
      have HO := hid hO
      have Hok := hid hok.1
      clear hO hok hon hk
      go_enter Try.func45, Try.ntmps45
      go_wp2_with (at_builtin; refine wpList_appendA rfl _ _ _ rfl Try.underlying29 infoBool rfl (by decide) (HO.out.row_nil 4 1) rfl _ keep.length _ rfl HR.out (fun u hu => by obtain ⟨x, -, rfl⟩ := List.mem_map.1 hu; rfl) (le_maxLen (by omega)) (by omega) ?_)
      intro v' w' h hk
      obtain ⟨np, nc, rfl, -⟩ := h.rd.form
      have HO2 := hid h.p1
      have HK2 := hid hk
      have hc := h.p1.cells
      have ht := h.p1.thaw
      clear h hk
      go_wp2_with fail
      go_ret
      rw [HF.out]
      refine ⟨rfl, rdsk_iff.2 ⟨fv, wv, .slice np keep.length nc, lv, keep, n, B, ⟨⟨Hok.out.firm, Hok.out.waits, Hok.out.at_, Hok.out.len, Hok.out.wlen, fun a b e => by simp only [Option.some.injEq, Prod.mk.injEq] at e; omega⟩, ⟨rfl, rfl, by omega⟩⟩, ?_⟩, (HK2.out.set _ _).set _ _⟩
      have h := (HO2.out.set 3 (.int .i64 n)).set 5 (.slice np keep.length nc)
      exact h.p4.drop.p1.b3
end Go.Proofs.Ytbcilhcmjkgkgaa
