/- THE WALK of Crash, of falls. -/
import Derived.Test.YtajlikakbihgbaaDiska
namespace Go.Proofs.Ytajlikakbihgbaa
open Go.RowKit Go.Own Go.Dk
theorem wenc_len (W : List (Int × Txt)) : (wenc W).length = W.length * 2 := by
  induction W with
  | nil => rfl
  | cons x W ih => simp [wenc] at *; omega
theorem wenc_at (W : List (Int × Txt)) (i : Nat) (h : i < W.length) : (wenc W)[i * 2]? = some (.int .i64 W[i].1) ∧ (wenc W)[i * 2 + 1]? = some W[i].2.1 := by
  induction W generalizing i with
  | nil => simp at h
  | cons x W ih =>
    cases i with
    | zero => simp [wenc]
    | succ i =>
      have := ih i (by simpa using h)
      rw [show (i + 1) * 2 = i * 2 + 2 from by omega]
      simpa [wenc] using this
theorem layKept_take (keep : List Bool) (F : List Txt) (W : List (Int × Txt)) (k : Nat) (h : k < W.length) : layKept keep F (W.take (k + 1)) = if kept keep k then lay (layKept keep F (W.take k)) W[k] else layKept keep F (W.take k) := by
  rw [← List.take_append_getElem h, layKept_snoc, List.length_take, Nat.min_eq_left (by omega)]
theorem lay_map (F : List Txt) (x : Int × Txt) : (lay F x).map (·.1) = (F.map (·.1)).set x.1.toNat x.2.1 := by simp [lay, List.map_set]
/-- The two cells of write k. -/
theorem wcells {w : World} {v : Value} {W : List (Int × Txt)} {L : List HP} (h : Has w (row v 85 2 W.length (wenc W) :: L)) (k : Nat) (hk : k < W.length) :
    ∃ g o c, v = .slice (some ⟨g, o, none⟩) W.length c ∧ w.cell? ⟨g, o + k * 2, none⟩ = some (.int .i64 W[k].1) ∧ w.cell? ⟨g, o + k * 2 + 1, none⟩ = some W[k].2.1 := by
  obtain ⟨p, c, rfl, -, -, hr⟩ := h.rd.form
  obtain ⟨g, o, rfl, hg⟩ := hr (by omega)
  have h1 := hg (k * 2) (by omega)
  have h2 := hg (k * 2 + 1) (by omega)
  obtain ⟨e1, e2⟩ := wenc_at W k hk
  exact ⟨g, o, c, rfl, by rw [h1, e1], by rw [Nat.add_assoc, h2, e2]⟩
theorem crashNil (kv : Value) (w : World) : Calls Try.prog 52 #[.pointer none, kv] w fun e w' => e = .returned (.tuple #[]) ∧ w = w' := by
  go_enter Try.func52, Try.ntmps52
  go_wp2
  try simp only [Exit.inBlock, Exit.then]
  refine bodyPost_ret (results_none rfl _ _ _) rfl ?_
  exact ⟨rfl, rfl⟩
theorem crashO (d : Nat) (fv wv av lv kv : Value) (on : Bool) (fl : Int) (F : List Txt) (W : List (Int × Txt)) (keep : List Bool) (w : World) (L : List HP)
    (hat : ∀ x ∈ W, 0 ≤ x.1 ∧ x.1 < F.length) (hsl : ∀ x ∈ W, ∃ p n c, x.2.1 = .slice p n c) (hL : ∀ w', Has w' L → Rd w' kv 1 keep.length (keep.map Value.bool))
    (hO : Has w (pt d (.cells #[fv, wv, .bool on, av, lv, .int .i64 fl] 67) :: row fv 33 1 F.length (F.map (·.1)) :: row wv 85 2 W.length (wenc W) :: L)) :
    Calls Try.prog 52 #[.pointer (some ⟨d, 0, none⟩), kv] w fun e w' => e = .returned (.tuple #[]) ∧
      Has w' (pt d (.cells #[fv, .slice none 0 0, .bool false, .pointer none, lv, .int .i64 fl] 67) :: row fv 33 1 F.length ((layKept keep F W).map (·.1)) :: row wv 85 2 W.length (wenc W) :: L) ∧ Keep w w' := by
  obtain ⟨wp, wc, rfl, hwc, hwl, hwr⟩ := hO.p2.rd.form
  obtain ⟨kp, kc, rfl, hkc, hkl, -⟩ := (hL _ hO.drop.drop.drop).form
  obtain ⟨fp, fc, rfl, hfc, hfl, -⟩ := hO.p1.rd.form
  have HO := hid hO
  have HL := hid hL
  have HA := hid hat
  have HSL := hid hsl
  have HW := hid hwr
  have hc := hO.cells
  clear hO hL hat hwr hsl
  go_enter Try.func52, Try.ntmps52
  go_wp2_with fail
  go_loopw [5, 4, 13] (fun t5 t4 i w' => ∃ k : Nat, k ≤ W.length ∧ i = .int .i64 k ∧ Hid (Has w' (pt d (.cells #[.slice fp F.length fc, .slice wp W.length wc, .bool on, av, lv, .int .i64 fl] 67) :: row (.slice fp F.length fc) 33 1 F.length ((layKept keep F (W.take k)).map (·.1)) :: row (.slice wp W.length wc) 85 2 W.length (wenc W) :: L)) ∧ Hid (Keep w w')) (fun _ _ i _ => W.length - (intOf i).toNat)
  case atStart => exact ⟨0, by omega, rfl, HO, hid (Keep.refl _)⟩
  case round =>
    obtain ⟨k, hk, rfl, HX, HK⟩ := hrel
    by_cases hlt : k < W.length
    · have hwn := hlt
      obtain ⟨g, o, c, e, hw1, hw2⟩ := wcells HX.out.p2 k hlt
      simp only [Value.slice.injEq] at e
      obtain ⟨rfl, -, rfl⟩ := e
      obtain ⟨xp, xn, xc, hx⟩ := HSL.out _ (List.getElem_mem hlt)
      rw [hx] at hw2
      have hin := HA.out _ (List.getElem_mem hlt)
      generalize hxi : W[k].1 = xi at *
      obtain ⟨q, rfl⟩ := Int.eq_ofNat_of_zero_le hin.1
      have hq : q < F.length := by omega
      have Hx := hid hx
      have Hxi := hid hxi
      clear hx hxi hin
      have HO3 := hid (HX.out.alloc (.cells #[.int .i64 (q : Int), .slice xp xn xc] 85))
      have HK3 := hid (HK.out.alloc (.cells #[.int .i64 (q : Int), .slice xp xn xc] 85))
      by_cases hk0 : keep.length = 0
      · have hkt : kept keep k = false := by simp [kept, hk0]
        have HKT := hid hkt
        clear hkt
        go_wp2_with fail
        refine ⟨⟨k + 1, by omega, rfl, hid ?_, HK3⟩, ?_⟩
        · rw [layKept_take _ _ _ _ hlt, HKT.out]; exact HO3.out.drop
        · simp only [intOf]; omega
      · obtain ⟨r, hr⟩ : ∃ r : Nat, (k : Int) % (keep.length : Int) = (r : Int) := ⟨k % keep.length, by omega⟩
        have hrl : (r : Int) < keep.length := by rw [← hr]; exact Int.emod_lt_of_pos _ (by omega)
        have hrl' : r < keep.length := by omega
        obtain ⟨kp', kc', ek, -, -, hkr⟩ := (HL.out _ HO3.out.drop.drop.drop.drop).form
        simp only [Value.slice.injEq, true_and] at ek
        obtain ⟨rfl, rfl⟩ := ek
        obtain ⟨kg, ko, rfl, hkc⟩ := hkr (by omega)
        have hkv : (wr.alloc (.cells #[.int .i64 (q : Int), .slice xp xn xc] 85)).cell? ⟨kg, ko + r, none⟩ = some (.bool keep[r]) := by
          rw [hkc r (by omega)]; simp [hrl']
        clear hkr hkc
        have HKT := hid (show kept keep k = keep[r] from by
          have : k % keep.length = r := by exact_mod_cast hr
          simp [kept, this, hrl']; omega)
        generalize hkb : keep[r] = kb at *
        clear hkb
        cases kb
        · go_wp2_with fail
          refine ⟨⟨k + 1, by omega, rfl, hid ?_, HK3⟩, ?_⟩
          · rw [layKept_take _ _ _ _ hlt, HKT.out]; exact HO3.out.drop
          · simp only [intOf]; omega
        · obtain ⟨-, hf | ⟨fg, fc', cur, ef, -, -, -, -, -⟩⟩ := HX.out.p1.row_cases
          · exact absurd hf.2.1 (by omega)
          simp only [Value.slice.injEq, true_and] at ef
          obtain ⟨rfl, rfl⟩ := ef
          go_wp2_with fail
          have h0 := HO3.out.cells
          have h1 := HO3.out.p1.cells
          obtain ⟨-, h2, ht, -, -⟩ := HO3.out.p2.row_cells
          generalize hwa : wr.alloc (.cells #[.int .i64 (q : Int), .slice xp xn xc] 85) = wa at *
          refine region_tail1 (fun w => w.cell? ⟨d, 0, none⟩ = some (.slice (some ⟨fg, 0, none⟩) F.length fc) ∧ w.cell? ⟨wr.heap.size, 0, none⟩ = some (.int .i64 (q : Int)) ∧ w.cell? ⟨wr.heap.size, 1, none⟩ = some (.slice xp xn xc)) (by kernel_rfl) (by kernel_rfl) (by kernel_rfl) (by decide) ⟨h1 0, h0 0, h0 1⟩ ?_
          repeat (first
            | (refine wpL_read (by rfl) (by rfl) ?_ ?_ ?_; rotate_left; (rintro w ⟨hS, hS1, hS2⟩; go_simp; with_reducible rfl); simp only [Act.put, List.setIfInBounds_toArray, List.set_cons_zero, List.set_cons_succ])
            | (refine wpL_skip (by rfl) ?_; simp only [Act.put, List.setIfInBounds_toArray, List.set_cons_zero, List.set_cons_succ]))
          refine wpL_nil ?_
          refine wpOp_last rfl (by rfl) ?_
          have h3 := h2 q (by omega)
          rw [List.getElem?_eq_getElem (by simp [layKept_len, hq])] at h3
          clear h2 h0 h1
          have HO5 := hid ((HO3.out.p2.row_set q (by omega) (.slice xp xn xc)).b2.drop.drew)
          have HK5 := hid ((HK3.out.set ⟨fg, q, none⟩ (.slice xp xn xc)).drew)
          go_simp
          go_wp2_with fail
          refine ⟨⟨k + 1, by omega, rfl, hid ?_, HK5⟩, ?_⟩
          · rw [layKept_take _ _ _ _ hlt, HKT.out, if_pos rfl, lay_map, Hx.out, Hxi.out]
            exact HO5.out
          · simp only [intOf]; omega
    · obtain rfl : k = W.length := by omega
      have HF := hid HX.out
      have ht := HX.out.thaw
      have hc := HX.out.cells
      go_wp2_with fail
      refine bodyPost_end (results_none rfl _ _ _) rfl ?_
      have h := ((HF.out.set 1 (.slice none 0 0)).set 3 (.pointer none)).set 2 (.bool false)
      rw [List.take_length] at h
      exact ⟨rfl, h, ((HK.out.set _ _).set _ _).set _ _⟩
/-- A disk's pool holds slices. -/
theorem okSlices {B : List Txt} {D : Disk} (h : Ok B D) {w : World} {L : List HP} (hO : Has w (poolc 5 B :: L)) : ∀ x ∈ D.waits, ∃ p n c, x.2.1 = .slice p n c := by
  intro x hx
  obtain ⟨p, c, e, -⟩ := (hO.pool_rd (h.waits x hx)).form
  exact ⟨p, _, c, e⟩
theorem okCrash {B : List Txt} {D : Disk} (h : Ok B D) (keep : List Bool) : Ok B (D.crash keep) where
  firm := fun y hy => by
    rcases layKept_mem hy with h1 | ⟨x, hx, rfl⟩
    · exact h.firm _ h1
    · exact h.waits _ hx
  waits := by simp [Disk.crash]
  at_ := by simp [Disk.crash]
  len := fun y hy => by
    rcases layKept_mem hy with h1 | ⟨x, hx, rfl⟩
    · exact h.len _ h1
    · exact h.wlen _ hx
  wlen := by simp [Disk.crash]
  left := by simp [Disk.crash]
theorem armc_drop {w : World} {L : List HP} {v : Value} {a : Option (Int × List Bool)} (h : Has w (Armc v a :: L)) : Has w L := h.drop
/-- Crash, of a whole disk. -/
theorem diskCrash (d : Nat) (D : Disk) (kv : Value) (keep : List Bool) (w : World) (L : List HP) (hL : ∀ w', Has w' L → Rd w' kv 1 keep.length (keep.map Value.bool)) (hO : Has w (Dsk d D :: L)) :
    Calls Try.prog 52 #[.pointer (some ⟨d, 0, none⟩), kv] w fun e w' => e = .returned (.tuple #[]) ∧ Has w' (Dsk d (D.crash keep) :: L) ∧ Keep w w' := by
  obtain ⟨fv, wv, av, lv, B, hok, hO⟩ := dsk_iff.1 hO
  refine (crashO d fv wv av lv kv D.on D.flushes D.firm D.waits keep w _ hok.at_ (okSlices hok hO.p5) (fun w' h => hL w' h.drop.drop.drop) hO).mono ?_
  rintro e w' ⟨rfl, h, hK⟩
  refine ⟨rfl, dsk_iff.2 ⟨fv, .slice none 0 0, .pointer none, lv, B, okCrash hok keep, ?_⟩, hK⟩
  have h1 := h.p2.drop.p2.drop
  have h2 := ((armc_none.2 ⟨rfl, h1⟩).b2.row_nil 85 2).b2
  have e : (layKept keep D.firm D.waits).length = D.firm.length := layKept_len _ _ _
  show Has w' (pt d _ :: row fv 33 1 (layKept keep D.firm D.waits).length _ :: _)
  rw [e]
  exact h2
theorem fallsNone (d : Nat) (D : Disk) (w : World) (L : List HP) (hA : D.armed = none) (hO : Has w (Dsk d D :: L)) :
    Calls Try.prog 56 #[.pointer (some ⟨d, 0, none⟩)] w fun e w' => e = .returned (.bool D.falls.1) ∧ Has w' (Dsk d D.falls.2 :: L) ∧ Keep w w' := by
  have HD := hid hO
  obtain ⟨fv, wv, av, lv, B, hok, hO⟩ := dsk_iff.1 hO
  obtain ⟨F, W, on, ar, wr, fl⟩ := D
  simp only at hO hA
  subst hA
  obtain ⟨rfl, hO⟩ := armc_none.1 hO.p3
  have hc := hO.cells
  clear hO hok
  go_enter Try.func56, Try.ntmps56
  go_wp2_with fail
  go_ret
  exact ⟨rfl, HD.out, Keep.refl _⟩
theorem fallsLeft (d : Nat) (D : Disk) (n : Int) (k : List Bool) (w : World) (L : List HP) (hA : D.armed = some (n, k)) (hn : 0 < n) (hO : Has w (Dsk d D :: L)) :
    Calls Try.prog 56 #[.pointer (some ⟨d, 0, none⟩)] w fun e w' => e = .returned (.bool D.falls.1) ∧ Has w' (Dsk d D.falls.2 :: L) ∧ Keep w w' := by
  obtain ⟨fv, wv, av, lv, B, hok, hO⟩ := dsk_iff.1 hO
  have hn2 := hok.left _ _ hA
  obtain ⟨F, W, on, ar, wr, fl⟩ := D
  simp only at hO hA
  subst hA
  obtain ⟨g, kv, rfl, hO⟩ := armc_some.1 hO.p3
  have hc := hO.p2.cells
  have hg := hO.cells
  have ht := hO.thaw
  have HO := hid hO
  have Hok := hid hok
  have HF := hid (show Disk.falls ⟨F, W, on, some (n, k), wr, fl⟩ = (false, ⟨F, W, on, some (n - 1, k), wr, fl⟩) from if_pos hn)
  clear hO hok
  go_enter Try.func56, Try.ntmps56
  go_wp2_with fail
  go_ret
  rw [HF.out]
  refine ⟨rfl, dsk_iff.2 ⟨fv, wv, .pointer (some ⟨g, 0, none⟩), lv, B, ⟨Hok.out.firm, Hok.out.waits, Hok.out.at_, Hok.out.len, Hok.out.wlen, fun a b e => by simp only [Option.some.injEq, Prod.mk.injEq] at e; omega⟩, ?_⟩, (Keep.refl _).set _ _⟩
  have h := HO.out.set 0 (.int .i64 (n - 1))
  exact (armc_some.2 ⟨g, kv, rfl, h⟩).b3
theorem fallsGone (d : Nat) (D : Disk) (n : Int) (k : List Bool) (w : World) (L : List HP) (hA : D.armed = some (n, k)) (hn : ¬ 0 < n) (hO : Has w (Dsk d D :: L)) :
    Calls Try.prog 56 #[.pointer (some ⟨d, 0, none⟩)] w fun e w' => e = .returned (.bool D.falls.1) ∧ Has w' (Dsk d D.falls.2 :: L) ∧ Keep w w' := by
  obtain ⟨fv, wv, av, lv, B, hok, hO⟩ := dsk_iff.1 hO
  obtain ⟨F, W, on, ar, wr, fl⟩ := D
  simp only at hO hA
  subst hA
  obtain ⟨g, kv, rfl, hO⟩ := armc_some.1 hO.p3
  have hc := hO.p2.cells
  have hg := hO.cells
  have HC := hid (crashO d fv wv (.pointer (some ⟨g, 0, none⟩)) lv kv on fl F W k w _ hok.at_ (okSlices hok hO.p6) (fun w' h => Has.rd h.p1) (hO.p4.p4.p4))
  clear hO
  have Hok := hid hok
  have HF := hid (show Disk.falls ⟨F, W, on, some (n, k), wr, fl⟩ = (true, (Disk.mk F W on (some (n, k)) wr fl).crash k) from if_neg hn)
  clear hok
  go_enter Try.func56, Try.ntmps56
  go_wp2_with (go_at_call 52; refine HC.out.mono ?_; clear HC)
  rintro e w' rfl h hK
  have HH := hid h
  have HK := hid hK
  clear h hK
  dsimp only
  go_wp2_with fail
  go_ret
  rw [HF.out]
  refine ⟨rfl, dsk_iff.2 ⟨fv, .slice none 0 0, .pointer none, lv, B, okCrash Hok.out k, ?_⟩, HK.out⟩
  have h1 := HH.out.p2.drop.p2.drop.p2.drop
  have h2 := ((armc_none.2 ⟨rfl, h1⟩).b2.row_nil 85 2).b2
  have e : (layKept k F W).length = F.length := layKept_len _ _ _
  show Has _ (pt d _ :: row fv 33 1 (layKept k F W).length _ :: _)
  rw [e]
  exact h2
theorem diskFalls (d : Nat) (D : Disk) (w : World) (L : List HP) (hO : Has w (Dsk d D :: L)) :
    Calls Try.prog 56 #[.pointer (some ⟨d, 0, none⟩)] w fun e w' => e = .returned (.bool D.falls.1) ∧ Has w' (Dsk d D.falls.2 :: L) ∧ Keep w w' := by
  rcases h : D.armed with _ | ⟨n, k⟩
  · exact fallsNone d D w L h hO
  · by_cases hn : 0 < n
    · exact fallsLeft d D n k w L h hn hO
    · exact fallsGone d D n k w L h hn hO
end Go.Proofs.Ytajlikakbihgbaa
