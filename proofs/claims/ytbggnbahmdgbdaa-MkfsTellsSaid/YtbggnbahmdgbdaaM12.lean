/- TEXTS of mine, merged. -/
import Derived.Test.YtbggnbahmdgbdaaM11
import Derived.Test.YtbggnbahmdgbdaaM1
import Derived.RangeFuncNested
import Derived.Test.YtbggnbahmdgbdaaM5
import Derived.RangeFuncBound
import Derived.RangeFuncCalls
import Derived.RangeFuncLeaves
import Derived.Shelf.Abstract
import Derived.Shelf.RegionOpen
import Derived.OwnWalkIn
import Derived.TacticsInMore
import Derived.LoopNIn
import Derived.LoopIn
import Derived.Deep.QuietTactic
/- THE WALK of Crash, of falls. -/
namespace Go.Proofs.Ytbggnbahmdgbdaa
open Go.RowKit Go.Own Go.Dk
theorem wenc_len (W : List (Int × Txt)) : (wenc W).length = W.length * 2 := by
  induction W with
  | nil => rfl
  | cons x W ih => simp [wenc] at *; omega
theorem wenc_at (W : List (Int × Txt)) (i : Nat) (h : i < W.length) : (wenc W)[i * 2]? = some (.int .i64 W[i].1) ∧ (wenc W)[i * 2 + 1]? = some W[i].2.1 := by
  induction W generalizing i with
  | nil => simp at h
  | cons x W ih =>
    cases i with
    | zero => simp [wenc]
    | succ i =>
      have := ih i (by simpa using h)
      rw [show (i + 1) * 2 = i * 2 + 2 from by omega]
      simpa [wenc] using this
theorem layKept_take (keep : List Bool) (F : List Txt) (W : List (Int × Txt)) (k : Nat) (h : k < W.length) : layKept keep F (W.take (k + 1)) = if kept keep k then lay (layKept keep F (W.take k)) W[k] else layKept keep F (W.take k) := by
  rw [← List.take_append_getElem h, layKept_snoc, List.length_take, Nat.min_eq_left (by omega)]
theorem lay_map (F : List Txt) (x : Int × Txt) : (lay F x).map (·.1) = (F.map (·.1)).set x.1.toNat x.2.1 := by simp [lay, List.map_set]
/-- The two cells of write k. -/
theorem wcells {w : World} {v : Value} {W : List (Int × Txt)} {L : List HP} (h : Has w (row v 79 2 W.length (wenc W) :: L)) (k : Nat) (hk : k < W.length) :
    ∃ g o c, v = .slice (some ⟨g, o, none⟩) W.length c ∧ w.cell? ⟨g, o + k * 2, none⟩ = some (.int .i64 W[k].1) ∧ w.cell? ⟨g, o + k * 2 + 1, none⟩ = some W[k].2.1 := by
  obtain ⟨p, c, rfl, -, -, hr⟩ := h.rd.form
  obtain ⟨g, o, rfl, hg⟩ := hr (by omega)
  have h1 := hg (k * 2) (by omega)
  have h2 := hg (k * 2 + 1) (by omega)
  obtain ⟨e1, e2⟩ := wenc_at W k hk
  exact ⟨g, o, c, rfl, by rw [h1, e1], by rw [Nat.add_assoc, h2, e2]⟩
theorem crashNil (kv : Value) (w : World) : Calls Try.prog 21 #[.pointer none, kv] w fun e w' => e = .returned (.tuple #[]) ∧ w = w' := by
  go_enter Try.func21, Try.ntmps21
  go_wp2
  try simp only [Exit.inBlock, Exit.then]
  refine bodyPost_ret (results_none rfl _ _ _) rfl ?_
  exact ⟨rfl, rfl⟩
theorem crashO (d : Nat) (fv wv av lv kv : Value) (on : Bool) (fl : Int) (F : List Txt) (W : List (Int × Txt)) (keep : List Bool) (w : World) (L : List HP)
    (hat : ∀ x ∈ W, 0 ≤ x.1 ∧ x.1 < F.length) (hsl : ∀ x ∈ W, ∃ p n c, x.2.1 = .slice p n c) (hL : ∀ w', Has w' L → Rd w' kv 1 keep.length (keep.map Value.bool))
    (hO : Has w (pt d (.cells #[fv, wv, .bool on, av, lv, .int .i64 fl] 74) :: row fv 35 1 F.length (F.map (·.1)) :: row wv 79 2 W.length (wenc W) :: L)) :
    Calls Try.prog 21 #[.pointer (some ⟨d, 0, none⟩), kv] w fun e w' => e = .returned (.tuple #[]) ∧
      Has w' (pt d (.cells #[fv, .slice none 0 0, .bool false, .pointer none, lv, .int .i64 fl] 74) :: row fv 35 1 F.length ((layKept keep F W).map (·.1)) :: row wv 79 2 W.length (wenc W) :: L) ∧ Keep w w' := by
  obtain ⟨wp, wc, rfl, hwc, hwl, hwr⟩ := hO.p2.rd.form
  obtain ⟨kp, kc, rfl, hkc, hkl, -⟩ := (hL _ hO.drop.drop.drop).form
  obtain ⟨fp, fc, rfl, hfc, hfl, -⟩ := hO.p1.rd.form
  have HO := hid hO
  have HL := hid hL
  have HA := hid hat
  have HSL := hid hsl
  have HW := hid hwr
  have hc := hO.cells
  clear hO hL hat hwr hsl
  go_enter Try.func21, Try.ntmps21
  go_wp2_with fail
  go_loopw [5, 4, 13] (fun t5 t4 i w' => ∃ k : Nat, k ≤ W.length ∧ i = .int .i64 k ∧ Hid (Has w' (pt d (.cells #[.slice fp F.length fc, .slice wp W.length wc, .bool on, av, lv, .int .i64 fl] 74) :: row (.slice fp F.length fc) 35 1 F.length ((layKept keep F (W.take k)).map (·.1)) :: row (.slice wp W.length wc) 79 2 W.length (wenc W) :: L)) ∧ Hid (Keep w w')) (fun _ _ i _ => W.length - (intOf i).toNat)
  case atStart => exact ⟨0, by omega, rfl, HO, hid (Keep.refl _)⟩
  case round =>
    obtain ⟨k, hk, rfl, HX, HK⟩ := hrel
    by_cases hlt : k < W.length
    · have hwn := hlt
      obtain ⟨g, o, c, e, hw1, hw2⟩ := wcells HX.out.p2 k hlt
      simp only [Value.slice.injEq] at e
      obtain ⟨rfl, -, rfl⟩ := e
      obtain ⟨xp, xn, xc, hx⟩ := HSL.out _ (List.getElem_mem hlt)
      rw [hx] at hw2
      have hin := HA.out _ (List.getElem_mem hlt)
      generalize hxi : W[k].1 = xi at *
      obtain ⟨q, rfl⟩ := Int.eq_ofNat_of_zero_le hin.1
      have hq : q < F.length := by omega
      have Hx := hid hx
      have Hxi := hid hxi
      clear hx hxi hin
      have HO3 := hid (HX.out.alloc (.cells #[.int .i64 (q : Int), .slice xp xn xc] 79))
      have HK3 := hid (HK.out.alloc (.cells #[.int .i64 (q : Int), .slice xp xn xc] 79))
      by_cases hk0 : keep.length = 0
      · have hkt : kept keep k = false := by simp [kept, hk0]
        have HKT := hid hkt
        clear hkt
        go_wp2_with fail
        refine ⟨⟨k + 1, by omega, rfl, hid ?_, HK3⟩, ?_⟩
        · rw [layKept_take _ _ _ _ hlt, HKT.out]; exact HO3.out.drop
        · simp only [intOf]; omega
      · obtain ⟨r, hr⟩ : ∃ r : Nat, (k : Int) % (keep.length : Int) = (r : Int) := ⟨k % keep.length, by omega⟩
        have hrl : (r : Int) < keep.length := by rw [← hr]; exact Int.emod_lt_of_pos _ (by omega)
        have hrl' : r < keep.length := by omega
        obtain ⟨kp', kc', ek, -, -, hkr⟩ := (HL.out _ HO3.out.drop.drop.drop.drop).form
        simp only [Value.slice.injEq, true_and] at ek
        obtain ⟨rfl, rfl⟩ := ek
        obtain ⟨kg, ko, rfl, hkc⟩ := hkr (by omega)
        have hkv : (wr.alloc (.cells #[.int .i64 (q : Int), .slice xp xn xc] 79)).cell? ⟨kg, ko + r, none⟩ = some (.bool keep[r]) := by
          rw [hkc r (by omega)]; simp [hrl']
        clear hkr hkc
        have HKT := hid (show kept keep k = keep[r] from by
          have : k % keep.length = r := by exact_mod_cast hr
          simp [kept, this, hrl']; omega)
        generalize hkb : keep[r] = kb at *
        clear hkb
        cases kb
        · go_wp2_with fail
          refine ⟨⟨k + 1, by omega, rfl, hid ?_, HK3⟩, ?_⟩
          · rw [layKept_take _ _ _ _ hlt, HKT.out]; exact HO3.out.drop
          · simp only [intOf]; omega
        · obtain ⟨-, hf | ⟨fg, fc', cur, ef, -, -, -, -, -⟩⟩ := HX.out.p1.row_cases
          · exact absurd hf.2.1 (by omega)
          simp only [Value.slice.injEq, true_and] at ef
          obtain ⟨rfl, rfl⟩ := ef
          go_wp2_with fail
          have h0 := HO3.out.cells
          have h1 := HO3.out.p1.cells
          obtain ⟨-, h2, ht, -, -⟩ := HO3.out.p2.row_cells
          generalize hwa : wr.alloc (.cells #[.int .i64 (q : Int), .slice xp xn xc] 79) = wa at *
          refine region_tail1 (fun w => w.cell? ⟨d, 0, none⟩ = some (.slice (some ⟨fg, 0, none⟩) F.length fc) ∧ w.cell? ⟨wr.heap.size, 0, none⟩ = some (.int .i64 (q : Int)) ∧ w.cell? ⟨wr.heap.size, 1, none⟩ = some (.slice xp xn xc)) (by kernel_rfl) (by kernel_rfl) (by kernel_rfl) (by decide) ⟨h1 0, h0 0, h0 1⟩ ?_
          repeat (first
            | (refine wpL_read (by rfl) (by rfl) ?_ ?_ ?_; rotate_left; (rintro w ⟨hS, hS1, hS2⟩; go_simp; with_reducible rfl); simp only [Act.put, List.setIfInBounds_toArray, List.set_cons_zero, List.set_cons_succ])
            | (refine wpL_skip (by rfl) ?_; simp only [Act.put, List.setIfInBounds_toArray, List.set_cons_zero, List.set_cons_succ]))
          refine wpL_nil ?_
          refine wpOp_last rfl (by rfl) ?_
          have h3 := h2 q (by omega)
          rw [List.getElem?_eq_getElem (by simp [layKept_len, hq])] at h3
          clear h2 h0 h1
          have HO5 := hid ((HO3.out.p2.row_set q (by omega) (.slice xp xn xc)).b2.drop.drew)
          have HK5 := hid ((HK3.out.set ⟨fg, q, none⟩ (.slice xp xn xc)).drew)
          go_simp
          go_wp2_with fail
          refine ⟨⟨k + 1, by omega, rfl, hid ?_, HK5⟩, ?_⟩
          · rw [layKept_take _ _ _ _ hlt, HKT.out, if_pos rfl, lay_map, Hx.out, Hxi.out]
            exact HO5.out
          · simp only [intOf]; omega
    · obtain rfl : k = W.length := by omega
      have HF := hid HX.out
      have ht := HX.out.thaw
      have hc := HX.out.cells
      go_wp2_with fail
      refine bodyPost_end (results_none rfl _ _ _) rfl ?_
      have h := ((HF.out.set 1 (.slice none 0 0)).set 3 (.pointer none)).set 2 (.bool false)
      rw [List.take_length] at h
      exact ⟨rfl, h, ((HK.out.set _ _).set _ _).set _ _⟩
/-- A disk's pool holds slices. -/
theorem okSlices {B : List Txt} {D : Disk} (h : Ok B D) {w : World} {L : List HP} (hO : Has w (poolc 5 B :: L)) : ∀ x ∈ D.waits, ∃ p n c, x.2.1 = .slice p n c := by
  intro x hx
  obtain ⟨p, c, e, -⟩ := (hO.pool_rd (h.waits x hx)).form
  exact ⟨p, _, c, e⟩
theorem okCrash {B : List Txt} {D : Disk} (h : Ok B D) (keep : List Bool) : Ok B (D.crash keep) where
  firm := fun y hy => by
    rcases layKept_mem hy with h1 | ⟨x, hx, rfl⟩
    · exact h.firm _ h1
    · exact h.waits _ hx
  waits := by simp [Disk.crash]
  at_ := by simp [Disk.crash]
  len := fun y hy => by
    rcases layKept_mem hy with h1 | ⟨x, hx, rfl⟩
    · exact h.len _ h1
    · exact h.wlen _ hx
  wlen := by simp [Disk.crash]
  left := by simp [Disk.crash]
theorem armc_drop {w : World} {L : List HP} {v : Value} {a : Option (Int × List Bool)} (h : Has w (Armc v a :: L)) : Has w L := h.drop
/-- Crash, of a whole disk. -/
theorem diskCrash (d : Nat) (D : Disk) (kv : Value) (keep : List Bool) (w : World) (L : List HP) (hL : ∀ w', Has w' L → Rd w' kv 1 keep.length (keep.map Value.bool)) (hO : Has w (Dsk d D :: L)) :
    Calls Try.prog 21 #[.pointer (some ⟨d, 0, none⟩), kv] w fun e w' => e = .returned (.tuple #[]) ∧ Has w' (Dsk d (D.crash keep) :: L) ∧ Keep w w' := by
  obtain ⟨fv, wv, av, lv, B, hok, hO⟩ := dsk_iff.1 hO
  refine (crashO d fv wv av lv kv D.on D.flushes D.firm D.waits keep w _ hok.at_ (okSlices hok hO.p5) (fun w' h => hL w' h.drop.drop.drop) hO).mono ?_
  rintro e w' ⟨rfl, h, hK⟩
  refine ⟨rfl, dsk_iff.2 ⟨fv, .slice none 0 0, .pointer none, lv, B, okCrash hok keep, ?_⟩, hK⟩
  have h1 := h.p2.drop.p2.drop
  have h2 := ((armc_none.2 ⟨rfl, h1⟩).b2.row_nil 79 2).b2
  have e : (layKept keep D.firm D.waits).length = D.firm.length := layKept_len _ _ _
  show Has w' (pt d _ :: row fv 35 1 (layKept keep D.firm D.waits).length _ :: _)
  rw [e]
  exact h2
theorem fallsNone (d : Nat) (D : Disk) (w : World) (L : List HP) (hA : D.armed = none) (hO : Has w (Dsk d D :: L)) :
    Calls Try.prog 47 #[.pointer (some ⟨d, 0, none⟩)] w fun e w' => e = .returned (.bool D.falls.1) ∧ Has w' (Dsk d D.falls.2 :: L) ∧ Keep w w' := by
  have HD := hid hO
  obtain ⟨fv, wv, av, lv, B, hok, hO⟩ := dsk_iff.1 hO
  obtain ⟨F, W, on, ar, wr, fl⟩ := D
  simp only at hO hA
  subst hA
  obtain ⟨rfl, hO⟩ := armc_none.1 hO.p3
  have hc := hO.cells
  clear hO hok
  go_enter Try.func47, Try.ntmps47
  go_wp2_with fail
  go_ret
  exact ⟨rfl, HD.out, Keep.refl _⟩
theorem fallsLeft (d : Nat) (D : Disk) (n : Int) (k : List Bool) (w : World) (L : List HP) (hA : D.armed = some (n, k)) (hn : 0 < n) (hO : Has w (Dsk d D :: L)) :
    Calls Try.prog 47 #[.pointer (some ⟨d, 0, none⟩)] w fun e w' => e = .returned (.bool D.falls.1) ∧ Has w' (Dsk d D.falls.2 :: L) ∧ Keep w w' := by
  obtain ⟨fv, wv, av, lv, B, hok, hO⟩ := dsk_iff.1 hO
  have hn2 := hok.left _ _ hA
  obtain ⟨F, W, on, ar, wr, fl⟩ := D
  simp only at hO hA
  subst hA
  obtain ⟨g, kv, rfl, hO⟩ := armc_some.1 hO.p3
  have hc := hO.p2.cells
  have hg := hO.cells
  have ht := hO.thaw
  have HO := hid hO
  have Hok := hid hok
  have HF := hid (show Disk.falls ⟨F, W, on, some (n, k), wr, fl⟩ = (false, ⟨F, W, on, some (n - 1, k), wr, fl⟩) from if_pos hn)
  clear hO hok
  go_enter Try.func47, Try.ntmps47
  go_wp2_with fail
  go_ret
  rw [HF.out]
  refine ⟨rfl, dsk_iff.2 ⟨fv, wv, .pointer (some ⟨g, 0, none⟩), lv, B, ⟨Hok.out.firm, Hok.out.waits, Hok.out.at_, Hok.out.len, Hok.out.wlen, fun a b e => by simp only [Option.some.injEq, Prod.mk.injEq] at e; omega⟩, ?_⟩, (Keep.refl _).set _ _⟩
  have h := HO.out.set 0 (.int .i64 (n - 1))
  exact (armc_some.2 ⟨g, kv, rfl, h⟩).b3
theorem fallsGone (d : Nat) (D : Disk) (n : Int) (k : List Bool) (w : World) (L : List HP) (hA : D.armed = some (n, k)) (hn : ¬ 0 < n) (hO : Has w (Dsk d D :: L)) :
    Calls Try.prog 47 #[.pointer (some ⟨d, 0, none⟩)] w fun e w' => e = .returned (.bool D.falls.1) ∧ Has w' (Dsk d D.falls.2 :: L) ∧ Keep w w' := by
  obtain ⟨fv, wv, av, lv, B, hok, hO⟩ := dsk_iff.1 hO
  obtain ⟨F, W, on, ar, wr, fl⟩ := D
  simp only at hO hA
  subst hA
  obtain ⟨g, kv, rfl, hO⟩ := armc_some.1 hO.p3
  have hc := hO.p2.cells
  have hg := hO.cells
  have HC := hid (crashO d fv wv (.pointer (some ⟨g, 0, none⟩)) lv kv on fl F W k w _ hok.at_ (okSlices hok hO.p6) (fun w' h => Has.rd h.p1) (hO.p4.p4.p4))
  clear hO
  have Hok := hid hok
  have HF := hid (show Disk.falls ⟨F, W, on, some (n, k), wr, fl⟩ = (true, (Disk.mk F W on (some (n, k)) wr fl).crash k) from if_neg hn)
  clear hok
  go_enter Try.func47, Try.ntmps47
  go_wp2_with (go_at_call 21; refine HC.out.mono ?_; clear HC)
  rintro e w' rfl h hK
  have HH := hid h
  have HK := hid hK
  clear h hK
  dsimp only
  go_wp2_with fail
  go_ret
  rw [HF.out]
  refine ⟨rfl, dsk_iff.2 ⟨fv, .slice none 0 0, .pointer none, lv, B, okCrash Hok.out k, ?_⟩, HK.out⟩
  have h1 := HH.out.p2.drop.p2.drop.p2.drop
  have h2 := ((armc_none.2 ⟨rfl, h1⟩).b2.row_nil 79 2).b2
  have e : (layKept k F W).length = F.length := layKept_len _ _ _
  show Has _ (pt d _ :: row fv 35 1 (layKept k F W).length _ :: _)
  rw [e]
  exact h2
theorem diskFalls (d : Nat) (D : Disk) (w : World) (L : List HP) (hO : Has w (Dsk d D :: L)) :
    Calls Try.prog 47 #[.pointer (some ⟨d, 0, none⟩)] w fun e w' => e = .returned (.bool D.falls.1) ∧ Has w' (Dsk d D.falls.2 :: L) ∧ Keep w w' := by
  rcases h : D.armed with _ | ⟨n, k⟩
  · exact fallsNone d D w L h hO
  · by_cases hn : 0 < n
    · exact fallsLeft d D n k w L h hn hO
    · exact fallsGone d D n k w L h hn hO
end Go.Proofs.Ytbggnbahmdgbdaa
/- THE WALK of Flush. -/
namespace Go.Proofs.Ytbggnbahmdgbdaa
open Go.RowKit Go.Own Go.Dk
theorem layAll_take (F : List Txt) (W : List (Int × Txt)) (k : Nat) (h : k < W.length) : layAll F (W.take (k + 1)) = lay (layAll F (W.take k)) W[k] := by
  rw [← List.take_append_getElem h, layAll_snoc]
theorem flushNil (w : World) : Calls Try.prog 51 #[.pointer none] w fun e w' => e = .returned (.int .i64 1) ∧ w = w' := by
  have H := hid (diskAskedNil true w)
  go_enter Try.func51, Try.ntmps51
  go_wp2_with (go_at_call 45; refine H.out.mono ?_)
  rintro e w' ⟨rfl, rfl⟩
  dsimp only
  go_wp2_with fail
  go_ret
  exact ⟨rfl, rfl⟩
/-- Refused. -/
theorem flushNot (d : Nat) (D : Disk) (w : World) (L : List HP) (hA : D.asked true ≠ 0) (hO : Has w (Dsk d D :: L)) :
    Calls Try.prog 51 #[.pointer (some ⟨d, 0, none⟩)] w fun e w' => e = .returned (.int .i64 D.flush.1) ∧ Has w' (Dsk d D.flush.2 :: L) ∧ Keep w w' := by
  have H := hid (diskAsked d D true w L hO)
  have HO := hid hO
  have HF := hid (show D.flush = (D.asked true, D) from if_pos hA)
  clear hO
  generalize D.asked true = c at *
  go_enter Try.func51, Try.ntmps51
  go_wp2_with (go_at_call 45; refine H.out.mono ?_)
  rintro e w' ⟨rfl, rfl⟩
  dsimp only
  go_wp2_with fail
  go_ret
  rw [HF.out]
  exact ⟨rfl, HO.out, Keep.refl _⟩
/-- The power goes. -/
theorem flushFalls (d : Nat) (D : Disk) (w : World) (L : List HP) (hA : D.asked true = 0) (hf : D.falls.1 = true) (hO : Has w (Dsk d D :: L)) :
    Calls Try.prog 51 #[.pointer (some ⟨d, 0, none⟩)] w fun e w' => e = .returned (.int .i64 D.flush.1) ∧ Has w' (Dsk d D.flush.2 :: L) ∧ Keep w w' := by
  have H := hid (diskAsked d D true w L hO)
  have H2 := hid (diskFalls d D w L hO)
  have HF := hid (show D.flush = (4, D.falls.2) from by simp [Disk.flush, hA, hf])
  rw [hA] at H
  rw [hf] at H2
  clear hO hA hf
  go_enter Try.func51, Try.ntmps51
  go_wp2_with (go_at_call 45; refine H.out.mono ?_)
  rintro e w' ⟨rfl, rfl⟩
  dsimp only
  go_wp2_with (go_at_call 47; refine H2.out.mono ?_)
  rintro e w' ⟨rfl, h, hK⟩
  have HO := hid h
  have HK := hid hK
  clear h hK
  dsimp only
  go_wp2_with fail
  go_ret
  rw [HF.out]
  exact ⟨rfl, HO.out, HK.out⟩
theorem okFlush {B : List Txt} {D : Disk} (h : Ok B D) (n : Int) : Ok B { D with firm := layAll D.firm D.waits, waits := [], flushes := n } where
  firm := fun y hy => by
    rcases layAll_mem hy with h1 | ⟨x, hx, rfl⟩
    · exact h.firm _ h1
    · exact h.waits _ hx
  waits := by simp
  at_ := by simp
  len := fun y hy => by
    rcases layAll_mem hy with h1 | ⟨x, hx, rfl⟩
    · exact h.len _ h1
    · exact h.wlen _ hx
  wlen := by simp
  left := h.left
theorem flushGo (d : Nat) (D E : Disk) (w : World) (L : List HP) (hA : D.asked true = 0) (hf : D.falls = (false, E)) (hn : 0 ≤ E.flushes) (hn2 : E.flushes ≤ 1000000000000) (hO : Has w (Dsk d D :: L)) :
    Calls Try.prog 51 #[.pointer (some ⟨d, 0, none⟩)] w fun e w' => e = .returned (.int .i64 D.flush.1) ∧ Has w' (Dsk d D.flush.2 :: L) ∧ Keep w w' := by
  have H := hid (diskAsked d D true w L hO)
  have H2 : Hid (Calls Try.prog 47 #[.pointer (some ⟨d, 0, none⟩)] w fun e w' => e = .returned (.bool false) ∧ Has w' (Dsk d E :: L) ∧ Keep w w') := by
    have := diskFalls d D w L hO
    rw [hf] at this
    exact hid this
  have HF := hid (show D.flush = (0, { E with firm := layAll E.firm E.waits, waits := [], flushes := E.flushes + 1 }) from by simp [Disk.flush, hA, hf])
  rw [hA] at H
  clear hO hA hf
  go_enter Try.func51, Try.ntmps51
  go_wp2_with (go_at_call 45; refine H.out.mono ?_)
  rintro e w' ⟨rfl, rfl⟩
  dsimp only
  go_wp2_with (go_at_call 47; refine H2.out.mono ?_)
  rintro e w' ⟨rfl, h, hK⟩
  clear H H2
  obtain ⟨fv, wv, av, lv, B, hok, hO⟩ := dsk_iff.1 h
  obtain ⟨F, W, on, ar, ws, fl⟩ := E
  simp only at hO hn hn2
  have HSL := hid (okSlices hok hO.p5)
  have Hok := hid hok
  have HA := hid hok.at_
  obtain ⟨wp, wc, rfl, hwc, hwl, -⟩ := hO.p2.rd.form
  obtain ⟨fp, fc, rfl, hfc, hfl, -⟩ := hO.p1.rd.form
  have hc := hO.cells
  have HO := hid hO
  have HK0 := hid hK
  clear h hO hok hK
  simp only at HA HSL
  dsimp only
  go_wp2_with fail
  go_loopw [5, 18] (fun _ i w'' => ∃ k : Nat, k ≤ W.length ∧ i = .int .i64 k ∧ Hid (Has w'' (pt d (.cells #[.slice fp F.length fc, .slice wp W.length wc, .bool on, av, lv, .int .i64 fl] 74) :: row (.slice fp F.length fc) 35 1 F.length ((layAll F (W.take k)).map (·.1)) :: row (.slice wp W.length wc) 79 2 W.length (wenc W) :: Armc av ar :: Ints lv ws :: poolc 5 B :: L)) ∧ Hid (Keep w w'')) (fun _ i _ => W.length - (intOf i).toNat)
  case atStart => exact ⟨0, by omega, rfl, HO, HK0⟩
  case round =>
    obtain ⟨k, hk, rfl, HX, HK⟩ := hrel
    clear HO HK0
    by_cases hlt : k < W.length
    · obtain ⟨g, o, c, e, hw1, hw2⟩ := wcells HX.out.p2 k hlt
      simp only [Value.slice.injEq] at e
      obtain ⟨rfl, -, rfl⟩ := e
      obtain ⟨xp, xn, xc, hx⟩ := HSL.out _ (List.getElem_mem hlt)
      rw [hx] at hw2
      have hin := HA.out _ (List.getElem_mem hlt)
      generalize hxi : W[k].1 = xi at *
      obtain ⟨q, rfl⟩ := Int.eq_ofNat_of_zero_le hin.1
      have hq : q < F.length := by omega
      have Hx := hid hx
      have Hxi := hid hxi
      clear hx hxi hin
      have HO3 := hid (HX.out.alloc (.cells #[.int .i64 (q : Int), .slice xp xn xc] 79))
      have HK3 := hid (HK.out.alloc (.cells #[.int .i64 (q : Int), .slice xp xn xc] 79))
      obtain ⟨-, hf | ⟨fg, fc', cur, ef, -, -, -, -, -⟩⟩ := HX.out.p1.row_cases
      · exact absurd hf.2.1 (by omega)
      simp only [Value.slice.injEq, true_and] at ef
      obtain ⟨rfl, rfl⟩ := ef
      go_wp2_with fail
      have h0 := HO3.out.cells
      have h1 := HO3.out.p1.cells
      obtain ⟨-, h2, ht, -, -⟩ := HO3.out.p2.row_cells
      generalize hwa : wr.alloc (.cells #[.int .i64 (q : Int), .slice xp xn xc] 79) = wa at *
      refine region_tail1 (fun w => w.cell? ⟨d, 0, none⟩ = some (.slice (some ⟨fg, 0, none⟩) F.length fc) ∧ w.cell? ⟨wr.heap.size, 0, none⟩ = some (.int .i64 (q : Int)) ∧ w.cell? ⟨wr.heap.size, 1, none⟩ = some (.slice xp xn xc)) (by kernel_rfl) (by kernel_rfl) (by kernel_rfl) (by decide) ⟨h1 0, h0 0, h0 1⟩ ?_
      repeat (first
        | (refine wpL_read (by rfl) (by rfl) ?_ ?_ ?_; rotate_left; (rintro w ⟨hS, hS1, hS2⟩; go_simp; with_reducible rfl); simp only [Act.put, List.setIfInBounds_toArray, List.set_cons_zero, List.set_cons_succ])
        | (refine wpL_skip (by rfl) ?_; simp only [Act.put, List.setIfInBounds_toArray, List.set_cons_zero, List.set_cons_succ]))
      refine wpL_nil ?_
      refine wpOp_last rfl (by rfl) ?_
      have h3 := h2 q (by omega)
      rw [List.getElem?_eq_getElem (by simp [layAll_len, hq])] at h3
      clear h2 h0 h1
      have HO5 := hid ((HO3.out.p2.row_set q (by omega) (.slice xp xn xc)).b2.drop.drew)
      have HK5 := hid ((HK3.out.set ⟨fg, q, none⟩ (.slice xp xn xc)).drew)
      go_simp
      go_wp2_with fail
      refine ⟨⟨k + 1, by omega, rfl, hid ?_, HK5⟩, ?_⟩
      · rw [layAll_take _ _ _ hlt, lay_map, Hx.out, Hxi.out]
        exact HO5.out
      · simp only [intOf]; omega
    · obtain rfl : k = W.length := by omega
      have HFi := hid HX.out
      have ht := HX.out.thaw
      have hc := HX.out.cells
      go_wp2_with fail
      go_ret
      rw [HF.out]
      refine ⟨rfl, dsk_iff.2 ⟨.slice fp F.length fc, .slice none 0 0, av, lv, B, okFlush Hok.out _, ?_⟩, (HK.out.set _ _).set _ _⟩
      have h := ((HFi.out.set 1 (.slice none 0 0)).set 5 (.int .i64 (fl + 1)))
      rw [List.take_length] at h
      have e : (layAll F W).length = F.length := layAll_len _ _
      show Has _ (pt d _ :: row _ 35 1 (layAll F W).length _ :: _)
      rw [e]
      exact (h.p2.drop.row_nil 79 2).b2
theorem diskFlush (d : Nat) (D : Disk) (w : World) (L : List HP) (hn : 0 ≤ D.flushes) (hn2 : D.flushes ≤ 1000000000000) (hO : Has w (Dsk d D :: L)) :
    Calls Try.prog 51 #[.pointer (some ⟨d, 0, none⟩)] w fun e w' => e = .returned (.int .i64 D.flush.1) ∧ Has w' (Dsk d D.flush.2 :: L) ∧ Keep w w' := by
  by_cases hA : D.asked true = 0
  · rcases hf : D.falls with ⟨b, E⟩
    cases b
    · have hE : E.flushes = D.flushes := by
        unfold Disk.falls at hf
        split at hf
        · cases hf; rfl
        · split at hf <;> cases hf; rfl
      exact flushGo d D E w L hA hf (by omega) (by omega) hO
    · exact flushFalls d D w L hA (by rw [hf]) hO
  · exact flushNot d D w L hA hO
end Go.Proofs.Ytbggnbahmdgbdaa
/- WHAT IS NEW BESIDE WHAT WAS: chunks that were made behind a world, together with what was owned in it. No program in sight. -/
namespace Go.Own
open Go.RowKit
section
variable {W W' : World} {p : HP} {M : List HP} {n : Nat}
/-- What is owned beside all that was is owned beside what was owned. -/
theorem Has.over (h : Has W' [p, old W]) (hM : Has W M) : Has W' (p :: M) := by
  obtain ⟨_, hw, a, b, d, rfl, hp, hb⟩ := h
  rw [star_one] at hb
  obtain ⟨c, hc, hs⟩ := hM
  have hbk : ∀ k o, c k = some o → b k = some o := fun k o e => by rw [show b = _ from hb]; exact hc k o e
  refine ⟨Frag.join a c, fun k o e => ?_, a, c, fun k => ?_, rfl, hp, hs⟩
  · unfold Frag.join at e
    rcases d k with e' | e'
    · rw [e'] at e
      exact hw k o (by simp [Frag.join, e', hbk k o (by simpa using e)])
    · cases e2 : a k with
      | some x => rw [e2] at e; exact hw k o (by simp [Frag.join, e2]; simpa using e)
      | none =>
        rw [e2] at e
        have := hbk k o (by simpa using e)
        rw [e'] at this; cases this
  · rcases d k with e | e
    · exact .inl e
    · cases e2 : c k with
      | none => exact .inr rfl
      | some x => have := hbk k x e2; rw [e] at this; cases this
/-- p lies in cells at n or beyond. -/
def Fresh (n : Nat) (W : World) (p : HP) : Prop := ∃ h : Frag, (∀ k o, h k = some o → W.heap[k]? = some o ∧ o.isCells = true ∧ n ≤ k) ∧ p h
theorem Fresh.own (h : Fresh n W' p) (hM : Has W M) (hn : W.heap.size ≤ n) (hb : Below W.heap.size W W') : Has W' (p :: M) := by
  obtain ⟨a, ha, hp⟩ := h
  obtain ⟨c, hc, hs⟩ := hM
  have hlt : ∀ k o, c k = some o → k < W.heap.size := fun k o e => (Array.getElem?_eq_some_iff.1 (hc k o e)).1
  refine ⟨Frag.join a c, fun k o e => ?_, a, c, fun k => ?_, rfl, hp, hs⟩
  · unfold Frag.join at e
    cases e2 : a k with
    | some x => rw [e2] at e; have := (ha k x e2).1; rw [this]; simpa using e
    | none =>
      rw [e2] at e
      have e : c k = some o := by simpa using e
      rw [hb.block k (hlt k o e)]; exact hc k o e
  · cases e : a k with
    | none => exact .inl rfl
    | some x =>
      cases e2 : c k with
      | none => exact .inr rfl
      | some y => have := (ha k x e).2.2; have := hlt k y e2; omega
theorem ownFrom_fresh {β : Type} (B n : Nat) (p : β → HP) : OwnFrom B (fun s W => Fresh n W (p s)) := by
  intro s A C row hs hg hr
  obtain ⟨h, hh, hp⟩ := hs
  refine ⟨h, fun k o e => ?_, hp⟩
  obtain ⟨h1, h2, h3⟩ := hh k o e
  refine ⟨(hg.block k (Array.getElem?_eq_some_iff.1 h1).1 (fun e' => ?_)).trans h1, h2, h3⟩
  obtain ⟨_, o', ho', hc'⟩ := hr k e'.symm
  rw [h1] at ho'; cases ho'; rw [h2] at hc'; cases hc'
theorem Fresh.frame (h : Fresh n W p) (hk : ∀ k, n ≤ k → k < W.heap.size → W'.heap[k]? = W.heap[k]?) : Fresh n W' p := by
  obtain ⟨a, ha, hp⟩ := h
  refine ⟨a, fun k o e => ?_, hp⟩
  obtain ⟨h1, h2, h3⟩ := ha k o e
  exact ⟨(hk k h3 (Array.getElem?_eq_some_iff.1 h1).1).trans h1, h2, h3⟩
theorem row_isCells {e : TypeId} {v : Value} {size m : Nat} {xs : List Value} {a : Frag} (h : row v e size m xs a) : ∀ k o, a k = some o → o.isCells = true := by
  obtain ⟨-, ⟨-, -, h⟩ | ⟨g, cap, cur, -, -, -, -, -, h⟩⟩ := h
  · intro k o e; rw [show a = _ from h] at e; cases e
  · intro k o e
    rw [show a = _ from h] at e
    by_cases hk : k = g
    · simp [hk] at e; subst e; rfl
    · simp [hk] at e
/-- A row beside all that was. -/
theorem Has.fresh_row {e : TypeId} {v : Value} {size m : Nat} {xs : List Value} (h : Has W' [row v e size m xs, old W]) (hn : n ≤ W.heap.size) : Fresh n W' (row v e size m xs) := by
  obtain ⟨_, hw, a, b, d, rfl, hp, hb⟩ := h
  refine ⟨a, fun k o e => ?_, hp⟩
  have h1 := hw k o (by simp [Frag.join, e])
  rw [star_one] at hb
  have hb' : b k = W.heap[k]? := by rw [show b = _ from hb]
  have hk : W.heap.size ≤ k := by
    rcases d k with e' | e'
    · rw [e'] at e; cases e
    · rw [hb'] at e'
      exact Array.getElem?_eq_none_iff.1 e'
  exact ⟨h1, row_isCells hp k o e, Nat.le_trans hn hk⟩
end
end Go.Own
/- THE WALK of slices.Backward at the waiting writes. -/
namespace Go.Proofs.Ytbggnbahmdgbdaa
open Go.RowKit Go.Own Go.Dk Go.Shelf
attribute [local go_sem] Oper.semAt_some
abbrev Wt := Int × Option Addr × Nat × Nat
def wtv (z : Nat → Wt) {len : Nat} (j : Fin len) : Array Value := #[.int .i64 ((j : Nat) : Int), .agg #[.int .i64 (z j).1, .slice (z j).2.1 (z j).2.2.1 (z j).2.2.2]]
def come (len k : Nat) : List (Fin len) := (List.finRange len).reverse.take k
theorem come_succ (len k : Nat) (m : Nat) (h : m < len) (hk : k + m + 1 = len) : come len (k + 1) = come len k ++ [⟨m, h⟩] := by
  unfold come
  rw [List.take_succ_eq_append_getElem (by simp; omega)]
  congr 2
  simp
  omega
theorem come_all (len : Nat) : come len len = (List.finRange len).reverse := by unfold come; rw [List.take_of_length_le (by simp)]
theorem come_length (len k : Nat) (h : k ≤ len) : (come len k).length = k := by simp [come, h]
end Go.Proofs.Ytbggnbahmdgbdaa
/- THE WALK of Read. -/
namespace Go.Proofs.Ytbggnbahmdgbdaa
open Go.RowKit Go.Own Go.Dk Go.Shelf
attribute [local go_sem] Oper.semAt_some
/-- What Read answers. -/
def _root_.Go.Dk.Disk.read (D : Disk) (at_ : Int) : Int × List Int := if D.asked (D.there at_) ≠ 0 then (D.asked (D.there at_), []) else (0, (D.last at_).2)
theorem thereNil (x : Int) (w : World) : Calls Try.prog 46 #[.pointer none, .int .i64 x] w fun e w' => e = .returned (.bool false) ∧ w = w' := by
  have H := hid (diskSectorsNil w)
  by_cases h0 : 0 ≤ x
  · have hf : ¬ x < 0 := by omega
    go_enter Try.func46, Try.ntmps46
    go_wp2_with fail
    refine H.out.mono ?_
    rintro e w' ⟨rfl, rfl⟩
    go_wp2_with fail
    go_ret
    exact ⟨by simp; omega, rfl⟩
  · go_enter Try.func46, Try.ntmps46
    go_wp2_with fail
    go_ret
    exact ⟨rfl, rfl⟩
theorem fins {α : Type} (l : List α) : l.reverse = (List.finRange l.length).reverse.map fun j => l[j] := by
  rw [List.map_reverse]
  congr 1
  apply List.ext_getElem
  · simp
  · intro i h1 h2
    simp
theorem last_done (D : Disk) (x : Int) (h : ∀ j : Fin D.waits.length, D.waits[j].1 ≠ x) : D.last x = D.firm.getD x.toNat (.slice none 0 0, []) := by
  unfold Disk.last
  have : D.waits.reverse.find? (fun y => y.1 == x) = none := by
    rw [List.find?_eq_none]
    intro y hy
    rw [fins] at hy
    obtain ⟨j, -, rfl⟩ := List.mem_map.1 hy
    simpa using h j
  rw [this]
theorem last_stop (D : Disk) (x : Int) (ini : List (Fin D.waits.length)) (j : Fin D.waits.length) (k : Nat) (h : come D.waits.length k = ini ++ [j]) (h1 : ∀ i ∈ ini, D.waits[i].1 ≠ x) (h2 : D.waits[j].1 = x) : D.last x = D.waits[j].2 := by
  unfold Disk.last
  have : D.waits.reverse.find? (fun y => y.1 == x) = some D.waits[j] := by
    rw [fins, List.find?_map]
    have e : (List.finRange D.waits.length).reverse = ini ++ j :: (List.finRange D.waits.length).reverse.drop k := by
      have := List.take_append_drop k (List.finRange D.waits.length).reverse
      unfold come at h
      rw [h] at this
      exact this.symm.trans (by simp)
    rw [e, List.find?_append]
    have h3 : List.find? ((fun y : Int × Txt => y.1 == x) ∘ fun i : Fin D.waits.length => D.waits[i]) ini = none := by
      rw [List.find?_eq_none]
      intro i hi
      simpa using h1 i hi
    rw [h3]
    simp only [Option.none_or, List.find?_cons, Function.comp, h2, beq_self_eq_true, Option.map_some]
  rw [this]
def slp : Value → Option Addr × Nat × Nat
  | .slice p n c => (p, n, c)
  | _ => (none, 0, 0)
/-- The writes that wait, as they are handed to a round. -/
def zof (W : List (Int × Txt)) (j : Nat) : Wt := let x := W[j]?.getD (0, (.slice none 0 0, [])); (x.1, slp x.2.1)
/-- The bytes of the j-th write. -/
def txof (W : List (Int × Txt)) (j : Nat) : List Int := (W[j]?.getD (0, (.slice none 0 0, []))).2.2
theorem txof_eq (W : List (Int × Txt)) (j : Fin W.length) : txof W j = W[j].2.2 := by simp [txof]
theorem zof_eq (W : List (Int × Txt)) (j : Nat) (h : j < W.length) {p : Option Addr} {n c : Nat} (e : W[j].2.1 = .slice p n c) : zof W j = (W[j].1, p, n, c) := by
  simp [zof, h, e, slp]
def RdI {len : Nat} (z : Nat → Wt) (w4 : World) (x : Int) (pre : List (Fin len)) (W : World) : Prop :=
  (∀ p ∈ pre, (z p).1 ≠ x) ∧ Below w4.heap.size w4 W
def RdX {len : Nat} (z : Nat → Wt) (txt : Nat → List Int) (n : Nat) (w : World) (x : Int) (c : Code) (pre : List (Fin len)) (W : World) : Prop :=
  ∃ v, ((c = .ret ∧ ∃ (ini : List (Fin len)) (j : Fin len), pre = ini ++ [j] ∧ (∀ p ∈ ini, (z p).1 ≠ x) ∧ (z j).1 = x ∧ Fresh (n + 4) W (Bytes v (txt j))) ∧ Boxed W (n + 1) 35 v ∧ Boxed W (n + 2) 38 (.int .i64 0)) ∧ Below n w W
theorem rdI_from {len : Nat} (z : Nat → Wt) (w4 : World) (x : Int) : OwnFrom w4.heap.size (RdI (len := len) z w4 x) :=
  OwnFrom.and (ownFrom_pure _ _) (ownFrom_below (Nat.le_refl _) (Nat.le_refl _))
theorem rdX_from {len : Nat} (z : Nat → Wt) (txt : Nat → List Int) (n B : Nat) (w : World) (x : Int) (hn : n ≤ w.heap.size) (hB : n ≤ B) (c : Code) : OwnFrom B (RdX (len := len) z txt n w x c) := by
  rintro pre A C row ⟨v, ⟨⟨hc, ini, j, h1, h2, h3, h4⟩, h5, h6⟩, h7⟩ hg hr
  refine ⟨v, ⟨⟨hc, ini, j, h1, h2, h3, ownFrom_fresh B (n + 4) (fun (_ : Unit) => Bytes v (txt j)) () A C row h4 hg hr⟩, ?_, ?_⟩, ownFrom_below hn hB () A C row h7 hg hr⟩
  · exact boxed_own (n + 1) 35 (fun (_ : Unit) => v) () A C row h5 hg fun r e => (hr r e).2
  · exact boxed_own (n + 2) 38 (fun (_ : Unit) => Value.int .i64 0) () A C row h6 hg fun r e => (hr r e).2
end Go.Proofs.Ytbggnbahmdgbdaa
/- THE WALKS of slices.Clone. -/
namespace Go.Proofs.Ytbggnbahmdgbdaa
open Go.RowKit Go.Own
theorem infoBool : (Try.prog.info? 4).map (fun i => (i.zero, i.size, i.bytes)) = some (some (.bool false), 1, 1) := by kernel_rfl
theorem bool_one (xs : List Bool) : ∀ u ∈ xs.map Value.bool, u.oneCell' = true := by
  intro u hu
  obtain ⟨x, -, rfl⟩ := List.mem_map.1 hu
  rfl
end Go.Proofs.Ytbggnbahmdgbdaa
/- THE WALK of Arm. -/
namespace Go.Proofs.Ytbggnbahmdgbdaa
open Go.RowKit Go.Own Go.Dk
end Go.Proofs.Ytbggnbahmdgbdaa
