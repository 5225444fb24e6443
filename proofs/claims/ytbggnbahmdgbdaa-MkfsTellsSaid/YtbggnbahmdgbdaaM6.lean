/- TEXTS of mine, merged. -/
import Derived.Test.YtbggnbahmdgbdaaM3
import Derived.Test.YtbggnbahmdgbdaaM5
import Derived.Lib.SlBytesConst
/- THE WALKS of bits.Of without any, bits.With at the first, and group.Lay. -/
namespace Go.Proofs.Ytbggnbahmdgbdaa
open Go.RowKit Go.Own Go.Sl Go.Gm
def zerosN (n : Nat) : Array Value := (List.replicate n (Value.int .u8 0)).toArray
set_option maxRecDepth 100000 in
theorem makeN (n : Nat) (hn : n ≤ 1000000000) (w : World) : (Instr.makeSlice 35 (.int .i64 (n : Int)) (.int .i64 (n : Int))).run Try.prog w = .ok (.slice (some ⟨w.heap.size, 0, none⟩) n n) (w.alloc (.cells (zerosN n) 5)) := by
  obtain ⟨i, hi, hz, hsz, hby⟩ := info_parts infoU8
  have hr := run_make (P := Try.prog) w 35 5 i (.int .u8 0) Try.underlying35 hi hz .i64 .i64 (n : Int) (n : Int) (by omega) (by omega) (by rw [hby]; omega) (by omega)
  rw [hr]
  have e : ((n : Int)).toNat = n := by omega
  rw [e]
  congr 3
  apply Array.toList_inj.1
  rw [hsz, Nat.mul_one]
  exact toList_madeCells_one _ _
theorem madeN {w : World} {L : List HP} (n : Nat) (hn : n ≤ 1000000000) (h : Has w L) : Has (w.alloc (.cells (zerosN n) 5)) (Bytes (.slice (some ⟨w.heap.size, 0, none⟩) n n) (zs n) :: L) := by
  have h1 := (h.alloc (.cells (zerosN n) 5)).row_of (n := n) (cap := n) (size := 1) (xs := bc (zs n)) (Nat.le_refl _) (le_maxLen (by omega)) (by simp [zerosN]) (by simp [zerosN, zs, bc]) (by simp [zs, bc])
  unfold Bytes
  rw [show (zs n).length = n by simp [zs]]
  exact h1
set_option maxRecDepth 100000 in
set_option maxHeartbeats 4000000 in
theorem bOf0 (n : Int) (w : World) (L : List HP) (hn : 0 ≤ n ∧ n ≤ 1000) (hO : Has w L) :
    Calls Try.prog 33 #[.int .i64 n, .slice none 0 0] w fun e w' => ∃ v', e = .returned v' ∧ Has w' (Bytes v' (zs ((n + 7) / 8).toNat) :: L) ∧ Keep w w' := by
  obtain ⟨m, hm⟩ := Int.eq_ofNat_of_zero_le (show 0 ≤ (n + 7) / 8 by omega)
  have hm1 : m ≤ 1000 := by omega
  rw [show ((n + 7) / 8).toNat = m by omega]
  have hmk := makeN m (by omega) w
  have HO := hid (madeN m (by omega) hO)
  have HK := hid ((Keep.refl w).alloc (.cells (zerosN m) 5))
  obtain ⟨h1, h2⟩ := hn
  have d1 : decide (n < 0) = false := decide_eq_false (by omega)
  have d2 : decide (n > 1000) = false := decide_eq_false (by omega)
  have e1 := wrap_in (n + 7) (by omega)
  clear hO
  go_enter Try.func33, Try.ntmps33
  go_wp2_with fail
  clear hmk
  generalize w.alloc (.cells (zerosN m) 5) = w1 at *
  generalize w.heap.size = g at *
  go_loopw [5, 20] (fun s i w' => s = .slice (some ⟨g, 0, none⟩) m m ∧ i = .int .i64 0 ∧ w1 = w') (fun _ _ _ => 0)
  case atStart => exact ⟨rfl, rfl, rfl⟩
  case round =>
    obtain ⟨rfl, rfl, rfl⟩ := hrel
    go_wp2_with fail
    go_ret
    exact ⟨_, rfl, HO.out, HK.out⟩
set_option maxRecDepth 100000 in
set_option maxHeartbeats 4000000 in
theorem bWith0 (v : Value) (b : List Int) (w : World) (L : List HP) (hb : 0 < b.length) (hl : b.length ≤ 1000) (hr : ∀ w', Has w' L → Rd w' v 1 b.length (bc b)) (hO : Has w L) :
    Calls Try.prog 34 #[v, .int .i64 0, .bool true] w fun e w' => ∃ v', e = .returned v' ∧ Has w' (Bytes v' (b.set 0 (Go.bits .or .u8 b[0] 1)) :: L) ∧ Keep w w' := by
  obtain ⟨p, c, rfl, -⟩ := (hr w hO).form
  have HO := hid hO
  have HR := hid hr
  have hbi : (0 : Int) < (b.length : Int) := by omega
  have hb2 : ¬ b = [] := by intro h; rw [h] at hb; simp at hb
  have hb3 : decide ((b.length : Int) ≤ 0) = false := decide_eq_false (by omega)
  clear hO hr
  go_enter Try.func34, Try.ntmps34
  go_wp2_with fail
  refine (cloneBytes (.slice p b.length c) b w L HO.out (HR.out w HO.out) (by omega)).mono ?_
  rintro e w2 ⟨v2, rfl, hO2, hK2, -⟩
  have HO2 := hid hO2
  have HK2 := hid hK2
  obtain ⟨-, h1 | ⟨g, cap, cur, rfl, -⟩⟩ := Has.row_cases hO2
  · have := h1.2.1; omega
  clear hO2 hK2
  have hx : w2.cell? ⟨g, 0, none⟩ = some (.int .u8 b[0]) := by
    have := (Has.row_cells HO2.out).2.1 0 (by omega)
    rw [this, bc, List.getElem?_map, List.getElem?_eq_getElem hb, Option.map_some]
  have ht := (Has.row_cells HO2.out).2.2.1
  have HS := hid (fun u => Has.row_set HO2.out 0 (by omega) (.int .u8 u))
  generalize hb0 : b[0] = b0 at *
  try dsimp only
  have hw0 : IntKind.i64.wrap 0 = 0 := by decide
  go_upto_region 5 with fail
  refine region_tail1 (fun w => w.cell? ⟨g, 0, none⟩ = some (.int .u8 b0)) (by kernel_rfl) (by kernel_rfl) (by kernel_rfl) (by decide) hx ?_
  repeat (first
    | (refine wpL_read (by rfl) (by rfl) ?_ ?_ ?_; rotate_left; (intro w hS; go_simp; with_reducible rfl); simp only [Act.put, List.setIfInBounds_toArray, List.set_cons_zero, List.set_cons_succ])
    | (refine wpL_skip (by rfl) ?_; simp only [Act.put, List.setIfInBounds_toArray, List.set_cons_zero, List.set_cons_succ]))
  refine wpL_nil ?_
  refine wpOp_last rfl (by rfl) ?_
  go_simp
  go_wp2_with fail
  go_ret
  refine ⟨.slice (some ⟨g, 0, none⟩) b.length cap, rfl, ?_, (HK2.out.set _ _).drew⟩
  have h := (HS.out (Go.bits .or .u8 b0 (IntKind.u8.wrap 1))).drew
  rw [show IntKind.u8.wrap 1 = 1 by decide] at h ⊢
  rw [hb0]
  unfold Bytes
  rw [List.length_set, bc, List.map_set]
  exact h
theorem make16 (w : World) : (Instr.makeSlice 35 (.int .i64 16) (.int .i64 16)).run Try.prog w = .ok (.slice (some ⟨w.heap.size, 0, none⟩) 16 16) (w.alloc (.cells (zerosN 16) 5)) := makeN 16 (by omega) w
def groupB (x y : List Int) : List Int := x ++ zs (4 - x.length) ++ (y ++ zs (12 - y.length))
theorem groupB_len {x y : List Int} (hx : x.length ≤ 4) (hy : y.length ≤ 12) : (groupB x y).length = 16 := by simp [groupB, zs]; omega
theorem group_laid (x y : List Int) (hx : x.length ≤ 4) (hy : y.length ≤ 12) :
    let a := (bc x).take x.length ++ (bc (zs 16)).drop x.length
    a.take 4 ++ ((bc y).take y.length ++ a.drop (4 + y.length)) = bc (groupB x y) := by
  intro a
  have e1 : a = bc (x ++ zs (16 - x.length)) := by
    show (bc x).take x.length ++ (bc (zs 16)).drop x.length = _
    rw [List.take_of_length_le (by rw [bc_len]; exact Nat.le_refl _)]
    simp only [bc, zs, List.map_append, List.map_replicate, List.drop_replicate]
  rw [e1, List.take_of_length_le (l := bc y) (by rw [bc_len]; exact Nat.le_refl _)]
  have e2 : x ++ zs (16 - x.length) = (x ++ zs (4 - x.length)) ++ zs 12 := by
    rw [List.append_assoc]; congr 1; simp only [zs, List.replicate_append_replicate]; congr 1; omega
  have e3 : (x ++ zs (4 - x.length)).length = 4 := by simp [zs]; omega
  rw [e2]
  simp only [bc, List.map_append, groupB]
  rw [← List.map_append, List.take_append_of_le_length (by rw [List.length_map, e3]; exact Nat.le_refl _), List.take_of_length_le (by rw [List.length_map, e3]; exact Nat.le_refl _)]
  congr 2
  rw [List.drop_append, List.length_map, e3, List.drop_of_length_le (by rw [List.length_map, e3]; omega), List.nil_append]
  simp only [zs, List.map_replicate, List.drop_replicate]
  congr 1; omega
set_option maxRecDepth 100000 in
set_option maxHeartbeats 4000000 in
theorem gpLay (x y : List Int) (vx vy : Value) (w : World) (L : List HP) (hx : 1 ≤ x.length ∧ x.length ≤ 4) (hy : 2 ≤ y.length ∧ y.length ≤ 12) (hrx : ∀ w', Has w' L → Rd w' vx 1 x.length (bc x)) (hry : ∀ w', Has w' L → Rd w' vy 1 y.length (bc y)) (hO : Has w L) :
    Calls Try.prog 35 #[vx, vy] w fun e w' => ∃ v', e = .returned (.tuple #[v', .int .i64 0]) ∧ Has w' (Bytes v' (sealL 71 (groupB x y)) :: L) ∧ Keep w w' := by
  obtain ⟨px, cx, rfl, -⟩ := (hrx w hO).form
  obtain ⟨py, cy, rfl, -⟩ := (hry w hO).form
  have hmk := make16 w
  have HO := hid (show Has (w.alloc (.cells (zerosN 16) 5)) (row (.slice (some ⟨w.heap.size, 0, none⟩) 16 16) 5 1 16 (bc (zs 16)) :: L) from madeN 16 (by omega) hO)
  have HK := hid ((Keep.refl w).alloc (.cells (zerosN 16) 5))
  have HX := hid hrx
  have HY := hid hry
  have d1 : decide ((x.length : Int) < 1) = false := decide_eq_false (by omega)
  have d2 : decide ((x.length : Int) > 4) = false := decide_eq_false (by omega)
  have d3 : decide ((y.length : Int) < 2) = false := decide_eq_false (by omega)
  have d4 : decide ((y.length : Int) > 12) = false := decide_eq_false (by omega)
  clear hO hrx hry
  go_enter Try.func35, Try.ntmps35
  go_upto_region 4 with fail
  clear hmk
  generalize w.alloc (.cells (zerosN 16) 5) = w1 at *
  generalize w.heap.size = g at *
  go_wp2_with (with_reducible refine wpList_copy rfl _ _ _ _ rfl Try.underlying35 (by kernel_rfl) HO.out 16 16 cx px rfl rfl (HX.out w1 HO.out.drop) (bc_one _) (by omega) ?_)
  intro w2 h2 hk2
  have HO2 := hid h2
  have HK2 := hid (HK.out.trans hk2)
  clear h2 hk2 HO HK
  go_wp2_with (with_reducible refine wpList_copy rfl _ _ _ _ rfl Try.underlying35 (by kernel_rfl) HO2.out 12 12 cy py rfl rfl (HY.out w2 HO2.out.drop) (bc_one _) (by omega) ?_)
  intro w3 h3 hk3
  have HO3 := hid h3
  have HK3 := hid (HK2.out.trans hk3)
  clear h3 hk3 HO2 HK2
  have HO4 := hid (show Has w3 (Bytes (.slice (some ⟨g, 0, none⟩) 16 16) (groupB x y) :: L) from by
    have h := HO3.out
    rw [show min x.length 16 = x.length by omega] at h
    unfold Bytes
    rw [groupB_len hx.2 hy.2, ← group_laid x y hx.2 hy.2]
    exact h)
  clear HO3
  go_wp2_with fail
  refine (sSeal 71 _ (groupB x y) w3 _ (by decide) (by rw [groupB_len hx.2 hy.2]; omega) (fun w' h => by have := Bytes.rd h; rw [groupB_len hx.2 hy.2] at *; exact this) HO4.out).mono ?_
  rintro e w5 ⟨v5, rfl, hO5, hK5⟩
  have HO5 := hid hO5
  have HK5 := hid ((HK3.out).trans hK5)
  clear hO5 hK5
  try dsimp only
  go_wp2_with fail
  go_ret2
  exact ⟨v5, rfl, HO5.out.p1.drop, HK5.out⟩
end Go.Proofs.Ytbggnbahmdgbdaa
/- THE WALKS of geom's places. -/
namespace Go.Proofs.Ytbggnbahmdgbdaa
open Go.RowKit Go.Own Go.Gm
theorem kmul_in {g : Geo} (hm : may g = true) {k : Int} (hk : 0 ≤ k ∧ k < g.n) : 0 ≤ k * long g ∧ k * long g ≤ 840 := by
  obtain ⟨h1, h2, h3, h4⟩ := long_in hm
  have a := Int.mul_nonneg hk.1 (show 0 ≤ long g by omega)
  have b := Int.mul_le_mul (show k ≤ 8 by omega) h2 (by omega) (show (0 : Int) ≤ 8 by omega)
  omega
set_option maxRecDepth 100000 in
set_option maxHeartbeats 4000000 in
theorem gGroup (g : Geo) (k : Int) (w : World) (L : List HP) (hm : may g = true) (hk : 0 ≤ k ∧ k < g.n) (hO : Has w L) : Calls Try.prog 36 #[geoV g, .int .i64 k] w fun e w' => e = .returned (.int .i64 (2 + k * long g)) ∧ Has w' L ∧ Keep w w' := by
  have HO := hid (hO.alloc (.cells (gcell g) 24))
  have HK := hid ((Keep.refl w).alloc (.cells (gcell g) 24))
  have hc := (hO.alloc (.cells (gcell g) 24)).cells
  have HM := hid hm
  have hb := kmul_in hm hk
  have h1 := long_in hm
  have HC := hid (fun w' L (h : Has w' L) => gMay g w' L h)
  have HL := hid (fun w' L (h : Has w' L) => gLong g w' L hm h)
  clear hO hm
  unfold geoV at *
  go_enter Try.func36, Try.ntmps36
  go_wp2_with fail
  refine (HC.out _ _ HO.out).mono ?_
  rintro e w2 ⟨rfl, hO2, hK2⟩
  have HO2 := hid hO2
  have HK2 := hid ((HK.out).trans hK2)
  clear hO2 hK2
  try dsimp only
  rw [HM.out]
  clear hc
  have hc := HO2.out.cells
  go_wp2_with fail
  refine (gBetween k 0 (g.n - 1) w2).mono ?_
  rintro e w' ⟨rfl, rfl⟩
  rw [show (decide (0 ≤ k) && decide (k ≤ g.n - 1)) = true by simp; omega]
  try dsimp only
  go_wp2_with fail
  refine (HL.out _ _ HO2.out).mono ?_
  rintro e w3 ⟨rfl, hO3, hK3⟩
  have HO3 := hid hO3
  have HK3 := hid (HK2.out.trans hK3)
  clear hO3 hK3
  try dsimp only
  obtain ⟨lg, hlg⟩ : ∃ lg, long g = lg := ⟨_, rfl⟩
  rw [hlg] at hb h1 ⊢
  have HLG := hid hlg
  clear hlg
  have e1 := wrap_in (k * lg) (by omega)
  have e2 := wrap_in (2 + k * lg) (by omega)
  go_wp2_with fail
  go_ret
  refine ⟨?_, HO3.out.drop, HK3.out⟩
  rw [HLG.out]
  simp [e1, e2]
theorem imul_in {g : Geo} (hm : may g = true) : 4 ≤ g.n * g.i ∧ g.n * g.i ≤ 256 := by
  obtain ⟨h1, h2, h3, h4, -⟩ := may_iff.1 hm
  have a := Int.mul_le_mul h1 h3 (by omega) (show 0 ≤ g.n by omega)
  have b := Int.mul_le_mul h2 h4 (by omega) (show (0 : Int) ≤ 8 by omega)
  omega
set_option maxRecDepth 100000 in
set_option maxHeartbeats 4000000 in
theorem gOfInode (g : Geo) (n : Int) (w : World) (L : List HP) (hm : may g = true) (hn : 1 ≤ n ∧ n ≤ inodes g) (hO : Has w L) : Calls Try.prog 60 #[geoV g, .int .i64 n] w fun e w' => e = .returned (.tuple #[.int .i64 ((n - 1) / g.i), .int .i64 ((n - 1) % g.i)]) ∧ Has w' L ∧ Keep w w' := by
  have HO := hid (hO.alloc (.cells (gcell g) 24))
  have HK := hid ((Keep.refl w).alloc (.cells (gcell g) 24))
  have hc := (hO.alloc (.cells (gcell g) 24)).cells
  have HM := hid hm
  have hb := imul_in hm
  have hin : inodes g = g.n * g.i := inodes_of hm
  obtain ⟨hg1, hg2, hg3, hg4, hg5, hg6, hg7⟩ := may_iff.1 hm
  have hle : n ≤ 256 := by omega
  have q1 : 0 ≤ (n - 1) / g.i := Int.ediv_nonneg (by omega) (by omega)
  have q2 : (n - 1) / g.i ≤ 256 := Int.le_trans (Int.ediv_le_self _ (by omega)) (by omega)
  have q3 : 0 ≤ (n - 1) % g.i := Int.emod_nonneg _ (by omega)
  have q4 : (n - 1) % g.i < g.i := Int.emod_lt_of_pos _ (by omega)
  have t1 : (n - 1).tdiv g.i = (n - 1) / g.i := Int.tdiv_eq_ediv_of_nonneg (by omega)
  have t2 : (n - 1).tmod g.i = (n - 1) % g.i := Int.tmod_eq_emod_of_nonneg (by omega)
  have t3 : (g.i == 0) = false := by simp; omega
  have t4 : ¬ g.i = 0 := by omega
  have HC := hid (fun w' L (h : Has w' L) => gInodes g w' L h)
  have HN := hid hn
  have w1 := wrapk_in (n - 1) (by omega)
  have w2' := wrapk_in ((n - 1) / g.i) (by omega)
  have w3' := wrapk_in ((n - 1) % g.i) (by omega)
  clear q1 q2 q3 q4
  clear hO hm hin hb hle hg1 hg2 hg3 hg4 hg5 hg6 hg7 hn
  unfold geoV at *
  go_enter Try.func60, Try.ntmps60
  go_wp2_with fail
  refine (HC.out _ _ HO.out).mono ?_
  rintro e w2 ⟨rfl, hO2, hK2⟩
  have HO2 := hid hO2
  have HK2 := hid ((HK.out).trans hK2)
  clear hO2 hK2
  try dsimp only
  clear hc
  have hc := HO2.out.cells
  go_wp2_with fail
  refine (gBetween n 1 (inodes g) w2).mono ?_
  rintro e w' ⟨rfl, rfl⟩
  rw [show (decide (1 ≤ n) && decide (n ≤ inodes g)) = true by have := HN.out; simp; omega]
  try dsimp only
  generalize w.heap.size = b0 at *
  clear hc HO HK
  go_upto_region 3 with fail
  refine region_text (fun w => w.cell? ⟨b0, 0, none⟩ = some (.int .i64 g.n) ∧ w.cell? ⟨b0, 1, none⟩ = some (.int .i64 g.i) ∧ w.cell? ⟨b0, 2, none⟩ = some (.int .i64 g.b)) (by kernel_rfl) (by kernel_rfl) ⟨HO2.out.drew.cells 0, HO2.out.drew.cells 1, HO2.out.drew.cells 2⟩ ?_
  repeat (first
    | (refine wpL_read (by rfl) (by rfl) ?_ ?_ ?_; rotate_left; (rintro w ⟨z0, z1, z2⟩; go_simp; with_reducible rfl); simp only [Act.put, List.setIfInBounds_toArray, List.set_cons_zero, List.set_cons_succ])
    | (refine wpL_skip (by rfl) ?_; simp only [Act.put, List.setIfInBounds_toArray, List.set_cons_zero, List.set_cons_succ]))
  refine wpL_nil ?_
  go_wp2_with fail
  go_ret2
  exact ⟨rfl, HO2.out.drop.drew, HK2.out.drew⟩
theorem inode_q {g : Geo} {n : Int} (hm : may g = true) (hn : 1 ≤ n ∧ n ≤ inodes g) : 0 ≤ (n - 1) / g.i ∧ (n - 1) / g.i < g.n ∧ 0 ≤ (n - 1) % g.i ∧ (n - 1) % g.i < 32 := by
  have hin : inodes g = g.n * g.i := inodes_of hm
  obtain ⟨hg1, hg2, hg3, hg4, hg5, hg6, hg7⟩ := may_iff.1 hm
  have q4 : (n - 1) % g.i < g.i := Int.emod_lt_of_pos _ (by omega)
  exact ⟨Int.ediv_nonneg (by omega) (by omega), Int.ediv_lt_of_lt_mul (by omega) (by rw [← hin]; omega), Int.emod_nonneg _ (by omega), by omega⟩
set_option maxRecDepth 100000 in
set_option maxHeartbeats 4000000 in
theorem gInode (g : Geo) (n : Int) (w : World) (L : List HP) (hm : may g = true) (hn : 1 ≤ n ∧ n ≤ inodes g) (hO : Has w L) : Calls Try.prog 37 #[geoV g, .int .i64 n] w fun e w' => e = .returned (.tuple #[.int .i64 (2 + (n - 1) / g.i * long g + 1 + (n - 1) % g.i / 4), .int .i64 ((n - 1) % g.i % 4)]) ∧ Has w' L ∧ Keep w w' := by
  have HO := hid (hO.alloc (.cells (gcell g) 24))
  have HK := hid ((Keep.refl w).alloc (.cells (gcell g) 24))
  have hc := (hO.alloc (.cells (gcell g) 24)).cells
  have hq := inode_q hm hn
  have hb := kmul_in hm ⟨hq.1, hq.2.1⟩
  have HC := hid (fun w' L (h : Has w' L) => gOfInode g n w' L hm hn h)
  have HG := hid (fun w' L (h : Has w' L) => gGroup g ((n - 1) / g.i) w' L hm ⟨hq.1, hq.2.1⟩ h)
  clear hO hm hn
  unfold geoV at *
  go_enter Try.func37, Try.ntmps37
  go_wp2_with fail
  refine (HC.out _ _ HO.out).mono ?_
  rintro e w2 ⟨rfl, hO2, hK2⟩
  have HO2 := hid hO2
  have HK2 := hid ((HK.out).trans hK2)
  clear hO2 hK2
  try dsimp only
  clear hc HC
  have hc := HO2.out.cells
  obtain ⟨hq1, hq2, hq3, hq4⟩ := hq
  generalize hqd : (n - 1) / g.i = q at *
  generalize hrd : (n - 1) % g.i = r at *
  have HQD := hid hqd
  have HRD := hid hrd
  clear hqd hrd
  have d1 : decide (q < 0) = false := decide_eq_false (by omega)
  go_wp2_with fail
  refine (HG.out _ _ HO2.out).mono ?_
  rintro e w3 ⟨rfl, hO3, hK3⟩
  have HO3 := hid hO3
  have HK3 := hid (HK2.out.trans hK3)
  clear hO3 hK3
  try dsimp only
  obtain ⟨qq, hqq⟩ : ∃ qq, q * long g = qq := ⟨_, rfl⟩
  rw [hqq] at hb ⊢
  have HQ := hid hqq
  clear hqq
  go_wp2_with fail
  go_ret2
  refine ⟨?_, HO3.out.drop, HK3.out⟩
  rw [HQD.out, HRD.out, HQ.out]
  rfl
end Go.Proofs.Ytbggnbahmdgbdaa
/- append where the row has no room: what it was made of is only read. No program in sight. -/
namespace Go.Own
open Go.RowKit
section
variable {w : World} {l : List HP} {e : TypeId} {size n m : Nat} {xs ys : List Value}
theorem Has.appendGrown {P : Program} (hO : Has w l) (t ty : TypeId) {z : Value} {bytes : Nat} (ht : P.underlying t = some (.slice e)) (hi : (P.info? e).map (fun i => (i.zero, i.size, i.bytes)) = some (some z, size, bytes)) (hzs : z.cells.size = size)
    (g cap : Nat) (hxl : xs.length = n * size) (holds : ∀ j u, xs[j]? = some u → w.cell? ⟨g, j, none⟩ = some u) (a : Addr) (c : Nat) (hl : ys.length = m * size) (hys : ∀ j u, ys[j]? = some u → w.cell? (a.add j) = some u)
    (hcap : cap < n + m) (h63 : n + m ≤ maxLen) (hbytes : (n + m) * bytes ≤ 140737488355328) :
    ∃ v' w', (Builtin.append_ #[t, t] ty #[.slice (some ⟨g, 0, none⟩) n cap, .slice (some a) m c]).run P w = .ok v' w' ∧ Has w' (row v' e size (n + m) (xs ++ ys) :: l) ∧ Keep w w' := by
  obtain ⟨i, hi', hz, hs, hby⟩ := info_parts hi
  subst hs hby
  have hsmall : n + m ≤ 9223372036854775807 := by simp only [maxLen] at h63; omega
  have hlen : (xs ++ ys).length = (n + m) * i.size := by rw [List.length_append, hxl, hl, Nat.add_mul]
  have hr := run_append_grow (P := P) w t ty e i z ht hi' hz ⟨g, 0, none⟩ n cap xs hxl (fun j u hj => by rw [add_plain, Nat.zero_add]; exact holds j u hj) a m c ys hl hys (by omega) (by omega) (growslice_fits (by omega) hbytes)
  have hge := grownCap_ge w (n + m) cap e
  have hcm : grownCap w (n + m) cap e ≤ maxLen := grownCap_le_maxLen w (n + m) cap e h63
  refine ⟨_, _, hr, (hO.drew.alloc _).row_of hge hcm ?_ ?_ hlen, (Keep.refl w).drew.alloc _⟩
  · simp only [Array.size_append, List.size_toArray, size_zeroCells, hzs, hxl, hl, ← Nat.add_mul]
    congr 1
    omega
  · simp only [Array.toList_append, List.append_assoc]
    rw [← List.append_assoc, ← hlen]
    exact List.take_left
theorem wpList_appendGrown {P : Program} {ops : Array Oper} {rest : List Oper} {o : Oper} {a : Act} {Q : Exit → Act → World → Prop} (hgd : o.guard = none) (s x : Operand) (t : TypeId)
    (ho : o.op = .call { callee := .builtin .append, args := #[s, x], argTypes := #[t, t] })
    {z : Value} {bytes : Nat} (ht : P.underlying t = some (.slice e)) (hi : (P.info? e).map (fun i => (i.zero, i.size, i.bytes)) = some (some z, size, bytes)) (hzs : z.cells.size = size)
    (hO : Has w l) (g n cap : Nat) (xs : List Value) (hs : a.eval s = .slice (some ⟨g, 0, none⟩) n cap) (hxl : xs.length = n * size) (holds : ∀ j u, xs[j]? = some u → w.cell? ⟨g, j, none⟩ = some u)
    (b m c : Nat) (ys : List Value) (hx : a.eval x = .slice (some ⟨b, 0, none⟩) m c) (hl : ys.length = m * size) (hys : ∀ j u, ys[j]? = some u → w.cell? ⟨b, j, none⟩ = some u)
    (hcap : cap < n + m) (h63 : n + m ≤ maxLen) (hbytes : (n + m) * bytes ≤ 140737488355328)
    (h : ∀ v' w', Has w' (row v' e size (n + m) (xs ++ ys) :: l) → Keep w w' → wpList P ops Q rest (a.put o.dst v') w') : wpList P ops Q (o :: rest) a w := by
  refine wpList_plain hgd fun K hK => ?_
  obtain ⟨v', w', hrun, h2, h3⟩ := hO.appendGrown (P := P) t o.type ht hi hzs g cap hxl holds ⟨b, 0, none⟩ c hl (fun j u hj => by rw [add_plain, Nat.zero_add]; exact hys j u hj) hcap h63 hbytes
  unfold Oper.wp execOp
  simp only [ho, resolve, invoke, builtin, Sem.run_bind, Sem.run_pure, Result.andThen_ok, List.map_toArray, List.map_cons, List.map_nil, hs, hx, hrun]
  exact hK _ _ (h v' w' h2 h3)
end
end Go.Own
/- THE WALK of super.Lay. -/
namespace Go.Proofs.Ytbggnbahmdgbdaa
open Go.RowKit Go.Own Go.Sl Go.Gm
theorem two_boxes' {w : World} {L : List HP} (o1 o2 : Obj) (hO : Has w L) : Has ((w.alloc o1).alloc o2) (pt (w.heap.size + 1) o2 :: pt w.heap.size o1 :: L) := by
  have h := (hO.alloc o1).alloc o2
  rwa [show (w.alloc o1).heap.size = w.heap.size + 1 from Array.size_push _] at h
def superB (g : Geo) : List Int := [80, 82, 76, 1, g.n, g.i, g.b, 1]
def superL (g : Geo) : List Int := sealL 83 (superB g)
set_option maxRecDepth 100000 in
set_option maxHeartbeats 8000000 in
theorem sLayNo (g : Geo) (w : World) (L : List HP) (hm : may g = false) (hO : Has w L) :
    Calls Try.prog 31 #[geoV g, .bool true] w fun e w' => e = .returned (.tuple #[.slice none 0 0, .int .i64 2]) ∧ Has w' L ∧ Keep w w' := by
  have HO := hid (hO.alloc (.cells (gcell g) 24))
  have HK := hid ((Keep.refl w).alloc (.cells (gcell g) 24))
  have HC := hid (fun w' L (h : Has w' L) => gMay g w' L h)
  have hc := (hO.alloc (.cells (gcell g) 24)).cells
  have HM := hid hm
  clear hO hm
  unfold geoV at *
  go_enter Try.func31, Try.ntmps31
  go_wp2_with fail
  refine (HC.out _ _ HO.out).mono ?_
  rintro e w2 ⟨rfl, hO2, hK2⟩
  have HO2 := hid hO2
  have HK2 := hid ((HK.out).trans hK2)
  clear hO2 hK2
  try dsimp only
  clear hc
  have hc := HO2.out.cells
  rw [HM.out]
  go_wp2_with fail
  go_ret2
  exact ⟨rfl, HO2.out.drop, HK2.out⟩
set_option maxRecDepth 100000 in
set_option maxHeartbeats 8000000 in
theorem sLay (g : Geo) (w : World) (L : List HP) (hm : may g = true) (hO : Has w L) :
    Calls Try.prog 31 #[geoV g, .bool true] w fun e w' => ∃ v', e = .returned (.tuple #[v', .int .i64 0]) ∧ Has w' (Bytes v' (superL g) :: L) ∧ Keep w w' := by
  have HO := hid (hO.alloc (.cells (gcell g) 24))
  have HK := hid ((Keep.refl w).alloc (.cells (gcell g) 24))
  have HC := hid (fun w' L (h : Has w' L) => gMay g w' L h)
  have hc := (hO.alloc (.cells (gcell g) 24)).cells
  have HM := hid hm
  clear hO hm
  unfold geoV at *
  go_enter Try.func31, Try.ntmps31
  go_wp2_with fail
  refine (HC.out _ _ HO.out).mono ?_
  rintro e w2 ⟨rfl, hO2, hK2⟩
  have HO2 := hid hO2
  have HK2 := hid ((HK.out).trans hK2)
  clear hO2 hK2
  try dsimp only
  clear hc
  have hc := HO2.out.cells
  rw [HM.out]
  have h1 := may_iff.1 HM.out
  have e1 : g.n % 256 = g.n := by omega
  have e2 : g.i % 256 = g.i := by omega
  have e3 : g.b % 256 = g.b := by omega
  clear h1
  have kc := fun (w : World) (C : Array Value) (n c : Nat) => Lib.run_convert_bytes_const (P := Try.prog) w 35 5 C n c Try.underlying35 Try.underlying5
  have HO3 := hid (two_boxes' (.cells #[.int .u8 80, .int .u8 82, .int .u8 76, .int .u8 1] 5 (4, 5)) (.cells #[.int .u8 g.n, .int .u8 g.i, .int .u8 g.b, .int .u8 1] 5) HO2.out)
  have HK3 := hid ((HK2.out.alloc (.cells #[.int .u8 80, .int .u8 82, .int .u8 76, .int .u8 1] 5 (4, 5))).alloc (.cells #[.int .u8 g.n, .int .u8 g.i, .int .u8 g.b, .int .u8 1] 5))
  have hc2 := (HO2.out.alloc (.cells #[.int .u8 80, .int .u8 82, .int .u8 76, .int .u8 1] 5 (4, 5))).p1.cells
  have HCA := hid HO3.out.p1.cells
  have HCB := hid HO3.out.cells
  go_wp2_with (at_builtin; go_loud (refine wpList_appendGrown rfl _ _ _ rfl Try.underlying35 infoU8 rfl HO3.out.drop.drop.drop w2.heap.size 4 4 [.int .u8 80, .int .u8 82, .int .u8 76, .int .u8 1] rfl rfl (fun j u hj => (HCA.out j).trans (by simpa using hj)) (w2.heap.size + 1) 4 4 [.int .u8 g.n, .int .u8 g.i, .int .u8 g.b, .int .u8 1] rfl rfl (fun j u hj => (HCB.out j).trans (by simpa using hj)) (by omega) (le_maxLen (by omega)) (by omega) ?_))
  intro v4 w4 h4 hk4
  have HO4 := hid (show Has w4 (Bytes v4 (superB g) :: L) from h4)
  have HK4 := hid (HK3.out.trans hk4)
  clear h4 hk4 HO3 HK3 HCA HCB hc hc2 kc HO2 HK2
  go_wp2_with fail
  refine (sSeal 83 v4 (superB g) w4 _ (by decide) (by show 8 ≤ 123; omega) (fun w' h => Bytes.rd h) HO4.out).mono ?_
  rintro e w5 ⟨v5, rfl, hO5, hK5⟩
  have HO5 := hid hO5
  have HK5 := hid ((HK4.out).trans hK5)
  clear hO5 hK5
  try dsimp only
  go_wp2_with fail
  go_ret2
  exact ⟨v5, rfl, HO5.out.p1.drop, HK5.out⟩
end Go.Proofs.Ytbggnbahmdgbdaa
/- THE WALKS of what the statements share on lists of bytes. -/
namespace Go.Proofs.Ytbggnbahmdgbdaa
open Go.RowKit Go.Own
theorem qaddN {P : Program} {f : FuncId} {args : Array Value} {w : World} {a n : Nat} {v : Value}
    (h : Calls P f args (w.drewN (a + n)) fun e w' => e = .returned v ∧ ∃ m, w' = (w.drewN (a + n)).drewN m) :
    Calls P f args (w.drewN (a + n)) fun e w'' => e = .returned v ∧ ∃ m, w'' = w.drewN (a + m) :=
  h.mono fun _ _ ⟨he, m, hm⟩ => ⟨he, n + m, by rw [hm, World.drewN_drewN, Nat.add_assoc]⟩
abbrev Txs := List (Value × List Int)
/-- v reads as a list of texts. -/
def RdP (w : World) (v : Value) (R : Txs) : Prop := Rd w v 1 R.length (R.map (·.1)) ∧ ∀ x ∈ R, Rd w x.1 1 x.2.length (bc x.2)
theorem RdP.drewN {w : World} {v : Value} {R : Txs} (h : RdP w v R) (n : Nat) : RdP (w.drewN n) v R := ⟨h.1.drewN n, fun x hx => (h.2 x hx).drewN n⟩
theorem RdP.at_ {w : World} {v : Value} {R : Txs} (h : RdP w v R) (k : Nat) (hk : k < R.length) : ∃ g o c p m, v = .slice (some ⟨g, o, none⟩) R.length c ∧ w.cell? ⟨g, o + k, none⟩ = some (.slice p R[k].2.length m) ∧ R[k].1 = .slice p R[k].2.length m := by
  obtain ⟨p, c, rfl, -, -, hr⟩ := h.1.form
  obtain ⟨g, o, rfl, hc⟩ := hr (by omega)
  obtain ⟨p, m, hx, -⟩ := (h.2 _ (List.getElem_mem hk)).form
  refine ⟨g, o, c, p, m, rfl, ?_, hx⟩
  rw [hc k (by omega), List.getElem?_map, List.getElem?_eq_getElem hk, Option.map_some, hx]
theorem RdP.form {w : World} {v : Value} {R : Txs} (h : RdP w v R) : ∃ p c, v = .slice p R.length c := by
  obtain ⟨p, c, h, -⟩ := h.1.form
  exact ⟨p, c, h⟩
theorem RdP.len {w : World} {v : Value} {R : Txs} (h : RdP w v R) : R.length ≤ 9223372036854775807 := by
  obtain ⟨p, c, -, -, h, -⟩ := h.1.form
  exact h
theorem sameParts (a b : Value) (R T : Txs) (w : World) (ha : RdP w a R) (hb : RdP w b T) :
    Calls Try.prog 14 #[a, b] w fun e w' => e = .returned (.bool (decide (R.map (·.2) = T.map (·.2)))) ∧ ∃ n, w' = w.drewN n := by
  obtain ⟨pa, ca, ea⟩ := ha.form
  obtain ⟨pb, cb, eb⟩ := hb.form
  have hla := ha.len
  have hlb := hb.len
  have Ha := hid ha
  have Hb := hid hb
  clear ha hb
  subst ea eb
  by_cases hl : R.length = T.length
  · have ht : ((R.length : Int) != (T.length : Int)) = false := by simp [hl]
    have Hl := hid hl
    clear hl
    go_enter Try.func14, Try.ntmps14
    go_wp2
    go_loopw [5] (fun i w' => ∃ k m : Nat, k ≤ R.length ∧ i = .int .i64 k ∧ w' = w.drewN m ∧ Hid (∀ j, j < k → (R.map (·.2))[j]? = (T.map (·.2))[j]?)) (fun i _ => R.length - (intOf i).toNat)
    case atStart => exact ⟨0, 0, by omega, rfl, rfl, hid (by omega)⟩
    case round =>
      obtain ⟨k, m, hk, rfl, rfl, HN⟩ := hrel
      by_cases hlt : k < R.length
      · have hky : k < T.length := by have := Hl.out; omega
        obtain ⟨ga, oa, c, p1, m1, e, h1, x1⟩ := Ha.out.at_ k hlt
        simp only [Value.slice.injEq, true_and] at e
        obtain ⟨rfl, rfl⟩ := e
        obtain ⟨gb, ob, c, p2, m2, e, h2, x2⟩ := Hb.out.at_ k hky
        simp only [Value.slice.injEq, true_and] at e
        obtain ⟨rfl, rfl⟩ := e
        have HC := hid (fun n => sameBytes R[k].1 T[k].1 R[k].2 T[k].2 (w.drewN n) ((Ha.out.2 _ (List.getElem_mem hlt)).drewN _) ((Hb.out.2 _ (List.getElem_mem hky)).drewN _))
        rw [x1, x2] at HC
        rcases he : (decide (R[k].2 = T[k].2)) with _ | _
        · have HE := hid he
          rw [he] at HC
          clear he x1 x2
          go_wp2
          go_quiet ((first | exact Calls.quiet_of (HC.out _) | exact qaddN (HC.out _)))
          go_wp2
          go_ret
          refine ⟨?_, _, World.drewN_drewN ..⟩
          have hne : R.map (·.2) ≠ T.map (·.2) := by
            intro e
            have h := congrArg (fun l => l[k]?) e
            simp only [List.getElem?_map, List.getElem?_eq_getElem hlt, List.getElem?_eq_getElem hky, Option.map_some, Option.some.injEq] at h
            have := HE.out
            simp [h] at this
          simp [hne]
        · have HE := hid he
          rw [he] at HC
          clear he x1 x2
          go_wp2
          go_quiet ((first | exact Calls.quiet_of (HC.out _) | exact qaddN (HC.out _)))
          go_wp2
          go_roundw
          case rel =>
            refine ⟨k + 1, _, by omega, by go_num, rfl, hid fun j hj => ?_⟩
            by_cases hjk : j = k
            · subst hjk
              have := HE.out
              simp only [List.getElem?_map, List.getElem?_eq_getElem hlt, List.getElem?_eq_getElem hky, Option.map_some]
              simpa using this
            · exact HN.out j (by omega)
          case measure => simp [intOf]; omega
      · go_wp2
        go_ret
        refine ⟨?_, _, rfl⟩
        have he : R.map (·.2) = T.map (·.2) := by
          apply List.ext_getElem?
          intro j
          by_cases hj : j < k
          · exact HN.out j hj
          · have := Hl.out
            rw [List.getElem?_eq_none (by simp; omega), List.getElem?_eq_none (by simp; omega)]
        simp [he]
  · have ht : ((R.length : Int) != (T.length : Int)) = true := by simp; omega
    have Hl := hid hl
    clear hl
    go_enter Try.func14, Try.ntmps14
    go_wp2
    go_ret
    refine ⟨?_, 0, rfl⟩
    have hne : R.map (·.2) ≠ T.map (·.2) := by
      intro e
      have := congrArg List.length e
      exact Hl.out (by simpa using this)
    simp [hne]
theorem samePartsYes (a b : Value) (R T : Txs) (w : World) (ha : RdP w a R) (hb : RdP w b T) (h : R.map (·.2) = T.map (·.2)) :
    Calls Try.prog 14 #[a, b] w fun e w' => e = .returned (.bool true) ∧ ∃ n, w' = w.drewN n :=
  (sameParts a b R T w ha hb).mono fun e w' ⟨h1, h2⟩ => ⟨by simpa [h] using h1, h2⟩
end Go.Proofs.Ytbggnbahmdgbdaa
/- LISTS OF TEXTS, owned, read; of the same texts. -/
namespace Go.Proofs.Ytbggnbahmdgbdaa
open Go.RowKit Go.Own
theorem infoBs : (Try.prog.info? 35).map (fun i => (i.zero, i.size, i.bytes)) = some (some (.slice none 0 0), 1, 24) := by kernel_rfl
/-- A list of texts of its own, each of them too. -/
def Prts (v : Value) (T : List (List Int)) : HP := ex fun R : Txs => star [fact (R.map (·.2) = T), row v 35 1 R.length (R.map (·.1)), poolc 5 R]
theorem prts_iff {w : World} {L : List HP} {v : Value} {T : List (List Int)} : Has w (Prts v T :: L) ↔ ∃ R : Txs, R.map (·.2) = T ∧ Has w (row v 35 1 R.length (R.map (·.1)) :: poolc 5 R :: L) := by
  unfold Prts
  simp only [Has.ex_iff, Has.star_iff, List.cons_append, List.nil_append, Has.fact_iff]
/-- It reads as texts. -/
def RdT (w : World) (v : Value) (T : List (List Int)) : Prop := ∃ R : Txs, R.map (·.2) = T ∧ RdP w v R
theorem rdT_of {w : World} {L : List HP} {v : Value} {R : Txs} {B : Txs} (h : Has w (row v 35 1 R.length (R.map (·.1)) :: poolc 5 B :: L)) (hB : ∀ x ∈ R, x ∈ B) : RdT w v (R.map (·.2)) :=
  ⟨R, rfl, h.rd, fun x hx => h.p1.pool_rd (hB x hx)⟩
theorem Prts.rd {w : World} {L : List HP} {v : Value} {T : List (List Int)} (h : Has w (Prts v T :: L)) : RdT w v T := by
  obtain ⟨R, rfl, h2⟩ := prts_iff.1 h
  exact rdT_of h2 fun _ h => h
theorem RdT.drewN {w : World} {v : Value} {T : List (List Int)} (h : RdT w v T) (n : Nat) : RdT (w.drewN n) v T := by
  obtain ⟨R, h1, h2⟩ := h
  exact ⟨R, h1, h2.drewN n⟩
theorem sameTexts (a b : Value) (R T : List (List Int)) (w : World) (ha : RdT w a R) (hb : RdT w b T) :
    Calls Try.prog 14 #[a, b] w fun e w' => e = .returned (.bool (decide (R = T))) ∧ ∃ n, w' = w.drewN n := by
  obtain ⟨R, rfl, h1⟩ := ha
  obtain ⟨T, rfl, h2⟩ := hb
  exact sameParts a b R T w h1 h2
end Go.Proofs.Ytbggnbahmdgbdaa
/- A LIST OF TEXTS that a statement writes. -/
namespace Go.Proofs.Ytbggnbahmdgbdaa
open Go.RowKit Go.Own
/-- A list of texts; some that it had once may lie about. -/
def Wrt (v : Value) (T : List (List Int)) : HP := ex fun R : Txs => ex fun B : Txs => star [fact (R.map (·.2) = T ∧ ∀ x ∈ R, x ∈ B), row v 35 1 R.length (R.map (·.1)), poolc 5 B]
theorem wrt_iff {w : World} {L : List HP} {v : Value} {T : List (List Int)} : Has w (Wrt v T :: L) ↔ ∃ R B : Txs, (R.map (·.2) = T ∧ ∀ x ∈ R, x ∈ B) ∧ Has w (row v 35 1 R.length (R.map (·.1)) :: poolc 5 B :: L) := by
  unfold Wrt
  simp only [Has.ex_iff, Has.star_iff, List.cons_append, List.nil_append, Has.fact_iff]
theorem Prts.wrt {w : World} {L : List HP} {v : Value} {T : List (List Int)} (h : Has w (Prts v T :: L)) : Has w (Wrt v T :: L) := by
  obtain ⟨R, h1, h2⟩ := prts_iff.1 h
  exact wrt_iff.2 ⟨R, R, ⟨h1, fun _ h => h⟩, h2⟩
theorem Wrt.rd {w : World} {L : List HP} {v : Value} {T : List (List Int)} (h : Has w (Wrt v T :: L)) : RdT w v T := by
  obtain ⟨R, B, ⟨rfl, h1⟩, h2⟩ := wrt_iff.1 h
  exact rdT_of h2 h1
theorem Wrt.nil {w : World} {L : List HP} (h : Has w L) : Has w (Wrt (.slice none 0 0) [] :: L) :=
  wrt_iff.2 ⟨[], [], ⟨rfl, by simp⟩, h.pool_nil.row_nil _ _⟩
theorem Wrt.form {w : World} {L : List HP} {v : Value} {T : List (List Int)} (h : Has w (Wrt v T :: L)) : (v = .slice none 0 0 ∧ T = []) ∨ ∃ g c, v = .slice (some ⟨g, 0, none⟩) T.length c := by
  obtain ⟨R, B, ⟨rfl, h1⟩, h2⟩ := wrt_iff.1 h
  obtain ⟨-, h | ⟨g, c, cur, rfl, -⟩⟩ := h2.row_cases
  · left
    have : R = [] := List.eq_nil_of_length_eq_zero h.2.1
    exact ⟨h.1, by rw [this]; rfl⟩
  · right
    exact ⟨g, c, by simp⟩
/-- An element, and what the walk wants of its cell. -/
theorem Wrt.at_ {w : World} {L : List HP} {g n c : Nat} {T : List (List Int)} (h : Has w (Wrt (.slice (some ⟨g, 0, none⟩) n c) T :: L)) (k : Nat) (hk : k < T.length) :
    n = T.length ∧ (∀ j, w.frozen? ⟨g, j, none⟩ = false) ∧ ∃ p m, w.cell? ⟨g, k, none⟩ = some (.slice p T[k].length m) ∧ Rd w (.slice p T[k].length m) 1 T[k].length (bc T[k]) := by
  obtain ⟨R, B, ⟨rfl, h1⟩, h2⟩ := wrt_iff.1 h
  obtain ⟨rfl, hc, hf, -, -⟩ := h2.row_cells
  have hkR : k < R.length := by simpa using hk
  have hx := h2.p1.pool_rd (h1 _ (List.getElem_mem hkR))
  obtain ⟨p, m, e, -⟩ := hx.form
  refine ⟨by simp, hf, p, m, ?_, ?_⟩
  · rw [hc k (by omega), List.getElem?_map, List.getElem?_eq_getElem hkR, Option.map_some, e, List.getElem_map]
  · rw [e] at hx
    simpa using hx
/-- A new text is laid into it. -/
theorem Wrt.set {w : World} {L : List HP} {g n c : Nat} {T : List (List Int)} {u : Value} {xs : List Int} (h : Has w (Bytes u xs :: Wrt (.slice (some ⟨g, 0, none⟩) n c) T :: L)) (k : Nat) (hk : k < T.length) :
    Has (w.setCell ⟨g, k, none⟩ u) (Wrt (.slice (some ⟨g, 0, none⟩) n c) (T.set k xs) :: L) := by
  obtain ⟨R, B, ⟨rfl, h1⟩, h2⟩ := wrt_iff.1 h.p1
  have hkR : k < R.length := by simpa using hk
  have h3 := (h2.p2.p2.p1.pool_add).p1.row_set k (by omega) u
  refine wrt_iff.2 ⟨R.set k (u, xs), (u, xs) :: B, ⟨by rw [List.map_set], fun x hx => ?_⟩, ?_⟩
  · rcases List.mem_or_eq_of_mem_set hx with h | rfl
    · exact List.mem_cons_of_mem _ (h1 _ h)
    · exact List.mem_cons_self
  · rw [List.map_set, List.length_set]
    exact h3
theorem made_wrt {w : World} {L : List HP} {k : Nat} (h : Has w L) (hm : k ≤ maxLen) : Has (w.alloc (.cells (List.replicate k (Value.slice none 0 0)).toArray 35)) (Wrt (.slice (some ⟨w.heap.size, 0, none⟩) k k) (List.replicate k []) :: L) := by
  have h0 : Has w (poolc 5 [(.slice none 0 0, [])] :: L) := (h.pool_nil.row_nil 5 1).pool_add
  have h1 := h0.row_made (e := 35) (z := .slice none 0 0) hm
  refine wrt_iff.2 ⟨List.replicate k (.slice none 0 0, []), [(.slice none 0 0, [])], ⟨by simp, fun x hx => ?_⟩, ?_⟩
  · rw [(List.mem_replicate.1 hx).2]; simp
  · rw [List.length_replicate, List.map_replicate]; exact h1
theorem makeBs (k : Nat) (hk : k ≤ 1000000) (w : World) : (Instr.makeSlice 31 (.int .i64 (k : Int)) (.int .i64 (k : Int))).run Try.prog w = .ok (.slice (some ⟨w.heap.size, 0, none⟩) k k) (w.alloc (.cells (List.replicate k (Value.slice none 0 0)).toArray 35)) :=
  run_make_row w _ Try.underlying31 infoBs rfl .i64 .i64 k (by omega) (le_maxLen (by omega))
theorem fillUp {α : Type} (n k : Nat) (a b : α) (h : k < n) : (List.replicate k a ++ List.replicate (n - k) b).set k a = List.replicate (k + 1) a ++ List.replicate (n - (k + 1)) b := by
  obtain ⟨m, hm⟩ : ∃ m, n - k = m + 1 := ⟨n - k - 1, by omega⟩
  rw [hm, show n - (k + 1) = m from by omega, List.set_append_right _ _ (by simp), List.replicate_succ, List.replicate_succ']
  simp
end Go.Proofs.Ytbggnbahmdgbdaa
/- A BLOCK that is made, loaded, and stored into as a whole. No program in sight. -/
namespace Go.Own
open Go.RowKit
section
variable {P : Program} {ops : Array Oper} {rest : List Oper} {o : Oper} {a : Act} {Q : Exit → Act → World → Prop} {w : World} {l : List HP}
theorem wpList_allocAs (hgd : o.guard = none) (t : TypeId) (ho : o.op = .alloc t) (C : Array Value) (hz : ∀ w, (zeroValue t).run P w = .ok (.agg C) w)
    (h : wpList P ops Q rest (a.put o.dst (.pointer (some ⟨w.heap.size, 0, none⟩))) (w.alloc (.cells C t))) : wpList P ops Q (o :: rest) a w := by
  refine wpList_plain hgd fun K hK => ?_
  unfold Oper.wp execOp
  simp only [ho, Instr.alloc, newVar, newRow, Value.cells, Sem.run_bind, Sem.run_pure, Result.andThen_ok, hz]
  exact hK _ _ h
theorem wpList_storeAt (hgd : o.guard = none) (t : TypeId) (x y : Operand) (ho : o.op = .store t x y) (b off : Nat) (C D : Array Value) (T : TypeId) (hO : Has w (pt b (.cells C T) :: l)) (hx : a.eval x = .pointer (some ⟨b, off, none⟩)) (hy : a.eval y = .agg D)
    (hs : ∀ w, (sizeOf t).run P w = .ok D.size w) (h1 : ∀ v ∈ D.toList, v.oneCell' = true) (hfit : off + D.size ≤ C.size)
    (h : ∀ w', Has w' (pt b (.cells (C.toList.take off ++ D.toList ++ C.toList.drop (off + D.size)).toArray T) :: l) → Keep w w' → wpList P ops Q rest (a.put o.dst undef) w') : wpList P ops Q (o :: rest) a w := by
  refine wpList_plain hgd fun K hK => ?_
  have hst := run_storeCells_at P b off T D.toList 0 C w hO.lookup (by simpa using hfit) h1
  simp only [Nat.add_zero, Array.length_toList] at hst
  unfold Oper.wp execOp
  simp only [ho, Instr.storeAt, Instr.sureAddr, storeVar, Value.cells, hx, hy, Sem.run_bind, Sem.run_pure, Result.andThen_ok, hs, ne_eq, not_true, if_false, hst]
  exact hK _ _ (h _ (hO.turn (fun k _ hk => setRow_other w b k _ hk) (setRow_heap w b C _ T _ hO.lookup)) ⟨rfl, rfl, rfl, by simp⟩)
end
end Go.Own
