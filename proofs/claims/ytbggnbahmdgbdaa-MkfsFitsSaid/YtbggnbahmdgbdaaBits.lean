/- THE WALKS of bits.Of without any, bits.With at the first, and group.Lay. -/
import Derived.Test.YtbggnbahmdgbdaaSeal
import Derived.Test.YtbggnbahmdgbdaaCloneB
import Derived.Test.YtbggnbahmdgbdaaGeomA
namespace Go.Proofs.Ytbggnbahmdgbdaa
open Go.RowKit Go.Own Go.Sl Go.Gm
def zerosN (n : Nat) : Array Value := (List.replicate n (Value.int .u8 0)).toArray
set_option maxRecDepth 100000 in
theorem makeN (n : Nat) (hn : n ≤ 1000000000) (w : World) : (Instr.makeSlice 35 (.int .i64 (n : Int)) (.int .i64 (n : Int))).run Try.prog w = .ok (.slice (some ⟨w.heap.size, 0, none⟩) n n) (w.alloc (.cells (zerosN n) 5)) := by
  obtain ⟨i, hi, hz, hsz, hby⟩ := info_parts infoU8
  have hr := run_make (P := Try.prog) w 35 5 i (.int .u8 0) Try.underlying35 hi hz .i64 .i64 (n : Int) (n : Int) (by omega) (by omega) (by rw [hby]; omega) (by omega)
  rw [hr]
  have e : ((n : Int)).toNat = n := by omega
  rw [e]
  congr 3
  apply Array.toList_inj.1
  rw [hsz, Nat.mul_one]
  exact toList_madeCells_one _ _
theorem madeN {w : World} {L : List HP} (n : Nat) (hn : n ≤ 1000000000) (h : Has w L) : Has (w.alloc (.cells (zerosN n) 5)) (Bytes (.slice (some ⟨w.heap.size, 0, none⟩) n n) (zs n) :: L) := by
  have h1 := (h.alloc (.cells (zerosN n) 5)).row_of (n := n) (cap := n) (size := 1) (xs := bc (zs n)) (Nat.le_refl _) (le_maxLen (by omega)) (by simp [zerosN]) (by simp [zerosN, zs, bc]) (by simp [zs, bc])
  unfold Bytes
  rw [show (zs n).length = n by simp [zs]]
  exact h1
set_option maxRecDepth 100000 in
set_option maxHeartbeats 4000000 in
theorem bOf0 (n : Int) (w : World) (L : List HP) (hn : 0 ≤ n ∧ n ≤ 1000) (hO : Has w L) :
    Calls Try.prog 33 #[.int .i64 n, .slice none 0 0] w fun e w' => ∃ v', e = .returned v' ∧ Has w' (Bytes v' (zs ((n + 7) / 8).toNat) :: L) ∧ Keep w w' := by
  obtain ⟨m, hm⟩ := Int.eq_ofNat_of_zero_le (show 0 ≤ (n + 7) / 8 by omega)
  have hm1 : m ≤ 1000 := by omega
  rw [show ((n + 7) / 8).toNat = m by omega]
  have hmk := makeN m (by omega) w
  have HO := hid (madeN m (by omega) hO)
  have HK := hid ((Keep.refl w).alloc (.cells (zerosN m) 5))
  obtain ⟨h1, h2⟩ := hn
  have d1 : decide (n < 0) = false := decide_eq_false (by omega)
  have d2 : decide (n > 1000) = false := decide_eq_false (by omega)
  have e1 := wrap_in (n + 7) (by omega)
  clear hO
  go_enter Try.func33, Try.ntmps33
  go_wp2_with fail
  clear hmk
  generalize w.alloc (.cells (zerosN m) 5) = w1 at *
  generalize w.heap.size = g at *
  go_loopw [5, 20] (fun s i w' => s = .slice (some ⟨g, 0, none⟩) m m ∧ i = .int .i64 0 ∧ w1 = w') (fun _ _ _ => 0)
  case atStart => exact ⟨rfl, rfl, rfl⟩
  case round =>
    obtain ⟨rfl, rfl, rfl⟩ := hrel
    go_wp2_with fail
    go_ret
    exact ⟨_, rfl, HO.out, HK.out⟩
set_option maxRecDepth 100000 in
set_option maxHeartbeats 4000000 in
theorem bWith0 (v : Value) (b : List Int) (w : World) (L : List HP) (hb : 0 < b.length) (hl : b.length ≤ 1000) (hr : ∀ w', Has w' L → Rd w' v 1 b.length (bc b)) (hO : Has w L) :
    Calls Try.prog 34 #[v, .int .i64 0, .bool true] w fun e w' => ∃ v', e = .returned v' ∧ Has w' (Bytes v' (b.set 0 (Go.bits .or .u8 b[0] 1)) :: L) ∧ Keep w w' := by
  obtain ⟨p, c, rfl, -⟩ := (hr w hO).form
  have HO := hid hO
  have HR := hid hr
  have hbi : (0 : Int) < (b.length : Int) := by omega
  have hb2 : ¬ b = [] := by intro h; rw [h] at hb; simp at hb
  have hb3 : decide ((b.length : Int) ≤ 0) = false := decide_eq_false (by omega)
  clear hO hr
  go_enter Try.func34, Try.ntmps34
  go_wp2_with fail
  refine (cloneBytes (.slice p b.length c) b w L HO.out (HR.out w HO.out) (by omega)).mono ?_
  rintro e w2 ⟨v2, rfl, hO2, hK2, -⟩
  have HO2 := hid hO2
  have HK2 := hid hK2
  obtain ⟨-, h1 | ⟨g, cap, cur, rfl, -⟩⟩ := Has.row_cases hO2
  · have := h1.2.1; omega
  clear hO2 hK2
  have hx : w2.cell? ⟨g, 0, none⟩ = some (.int .u8 b[0]) := by
    have := (Has.row_cells HO2.out).2.1 0 (by omega)
    rw [this, bc, List.getElem?_map, List.getElem?_eq_getElem hb, Option.map_some]
  have ht := (Has.row_cells HO2.out).2.2.1
  have HS := hid (fun u => Has.row_set HO2.out 0 (by omega) (.int .u8 u))
  generalize hb0 : b[0] = b0 at *
  try dsimp only
  have hw0 : IntKind.i64.wrap 0 = 0 := by decide
  go_upto_region 5 with fail
  refine region_tail1 (fun w => w.cell? ⟨g, 0, none⟩ = some (.int .u8 b0)) (by kernel_rfl) (by kernel_rfl) (by kernel_rfl) (by decide) hx ?_
  repeat (first
    | (refine wpL_read (by rfl) (by rfl) ?_ ?_ ?_; rotate_left; (intro w hS; go_simp; with_reducible rfl); simp only [Act.put, List.setIfInBounds_toArray, List.set_cons_zero, List.set_cons_succ])
    | (refine wpL_skip (by rfl) ?_; simp only [Act.put, List.setIfInBounds_toArray, List.set_cons_zero, List.set_cons_succ]))
  refine wpL_nil ?_
  refine wpOp_last rfl (by rfl) ?_
  go_simp
  go_wp2_with fail
  go_ret
  refine ⟨.slice (some ⟨g, 0, none⟩) b.length cap, rfl, ?_, (HK2.out.set _ _).drew⟩
  have h := (HS.out (Go.bits .or .u8 b0 (IntKind.u8.wrap 1))).drew
  rw [show IntKind.u8.wrap 1 = 1 by decide] at h ⊢
  rw [hb0]
  unfold Bytes
  rw [List.length_set, bc, List.map_set]
  exact h
theorem make16 (w : World) : (Instr.makeSlice 35 (.int .i64 16) (.int .i64 16)).run Try.prog w = .ok (.slice (some ⟨w.heap.size, 0, none⟩) 16 16) (w.alloc (.cells (zerosN 16) 5)) := makeN 16 (by omega) w
def groupB (x y : List Int) : List Int := x ++ zs (4 - x.length) ++ (y ++ zs (12 - y.length))
theorem groupB_len {x y : List Int} (hx : x.length ≤ 4) (hy : y.length ≤ 12) : (groupB x y).length = 16 := by simp [groupB, zs]; omega
theorem group_laid (x y : List Int) (hx : x.length ≤ 4) (hy : y.length ≤ 12) :
    let a := (bc x).take x.length ++ (bc (zs 16)).drop x.length
    a.take 4 ++ ((bc y).take y.length ++ a.drop (4 + y.length)) = bc (groupB x y) := by
  intro a
  have e1 : a = bc (x ++ zs (16 - x.length)) := by
    show (bc x).take x.length ++ (bc (zs 16)).drop x.length = _
    rw [List.take_of_length_le (by rw [bc_len]; exact Nat.le_refl _)]
    simp only [bc, zs, List.map_append, List.map_replicate, List.drop_replicate]
  rw [e1, List.take_of_length_le (l := bc y) (by rw [bc_len]; exact Nat.le_refl _)]
  have e2 : x ++ zs (16 - x.length) = (x ++ zs (4 - x.length)) ++ zs 12 := by
    rw [List.append_assoc]; congr 1; simp only [zs, List.replicate_append_replicate]; congr 1; omega
  have e3 : (x ++ zs (4 - x.length)).length = 4 := by simp [zs]; omega
  rw [e2]
  simp only [bc, List.map_append, groupB]
  rw [← List.map_append, List.take_append_of_le_length (by rw [List.length_map, e3]; exact Nat.le_refl _), List.take_of_length_le (by rw [List.length_map, e3]; exact Nat.le_refl _)]
  congr 2
  rw [List.drop_append, List.length_map, e3, List.drop_of_length_le (by rw [List.length_map, e3]; omega), List.nil_append]
  simp only [zs, List.map_replicate, List.drop_replicate]
  congr 1; omega
set_option maxRecDepth 100000 in
set_option maxHeartbeats 4000000 in
theorem gpLay (x y : List Int) (vx vy : Value) (w : World) (L : List HP) (hx : 1 ≤ x.length ∧ x.length ≤ 4) (hy : 2 ≤ y.length ∧ y.length ≤ 12) (hrx : ∀ w', Has w' L → Rd w' vx 1 x.length (bc x)) (hry : ∀ w', Has w' L → Rd w' vy 1 y.length (bc y)) (hO : Has w L) :
    Calls Try.prog 35 #[vx, vy] w fun e w' => ∃ v', e = .returned (.tuple #[v', .int .i64 0]) ∧ Has w' (Bytes v' (sealL 71 (groupB x y)) :: L) ∧ Keep w w' := by
  obtain ⟨px, cx, rfl, -⟩ := (hrx w hO).form
  obtain ⟨py, cy, rfl, -⟩ := (hry w hO).form
  have hmk := make16 w
  have HO := hid (show Has (w.alloc (.cells (zerosN 16) 5)) (row (.slice (some ⟨w.heap.size, 0, none⟩) 16 16) 5 1 16 (bc (zs 16)) :: L) from madeN 16 (by omega) hO)
  have HK := hid ((Keep.refl w).alloc (.cells (zerosN 16) 5))
  have HX := hid hrx
  have HY := hid hry
  have d1 : decide ((x.length : Int) < 1) = false := decide_eq_false (by omega)
  have d2 : decide ((x.length : Int) > 4) = false := decide_eq_false (by omega)
  have d3 : decide ((y.length : Int) < 2) = false := decide_eq_false (by omega)
  have d4 : decide ((y.length : Int) > 12) = false := decide_eq_false (by omega)
  clear hO hrx hry
  go_enter Try.func35, Try.ntmps35
  go_upto_region 4 with fail
  clear hmk
  generalize w.alloc (.cells (zerosN 16) 5) = w1 at *
  generalize w.heap.size = g at *
  go_wp2_with (with_reducible refine wpList_copy rfl _ _ _ _ rfl Try.underlying35 (by kernel_rfl) HO.out 16 16 cx px rfl rfl (HX.out w1 HO.out.drop) (bc_one _) (by omega) ?_)
  intro w2 h2 hk2
  have HO2 := hid h2
  have HK2 := hid (HK.out.trans hk2)
  clear h2 hk2 HO HK
  go_wp2_with (with_reducible refine wpList_copy rfl _ _ _ _ rfl Try.underlying35 (by kernel_rfl) HO2.out 12 12 cy py rfl rfl (HY.out w2 HO2.out.drop) (bc_one _) (by omega) ?_)
  intro w3 h3 hk3
  have HO3 := hid h3
  have HK3 := hid (HK2.out.trans hk3)
  clear h3 hk3 HO2 HK2
  have HO4 := hid (show Has w3 (Bytes (.slice (some ⟨g, 0, none⟩) 16 16) (groupB x y) :: L) from by
    have h := HO3.out
    rw [show min x.length 16 = x.length by omega] at h
    unfold Bytes
    rw [groupB_len hx.2 hy.2, ← group_laid x y hx.2 hy.2]
    exact h)
  clear HO3
  go_wp2_with fail
  refine (sSeal 71 _ (groupB x y) w3 _ (by decide) (by rw [groupB_len hx.2 hy.2]; omega) (fun w' h => by have := Bytes.rd h; rw [groupB_len hx.2 hy.2] at *; exact this) HO4.out).mono ?_
  rintro e w5 ⟨v5, rfl, hO5, hK5⟩
  have HO5 := hid hO5
  have HK5 := hid ((HK3.out).trans hK5)
  clear hO5 hK5
  try dsimp only
  go_wp2_with fail
  go_ret2
  exact ⟨v5, rfl, HO5.out.p1.drop, HK5.out⟩
end Go.Proofs.Ytbggnbahmdgbdaa
