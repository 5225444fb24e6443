/- TEXTS of mine, merged. -/
import Derived.Test.YtonhcefgakmpfaaGreatDoorM8
import Derived.Test.YtonhcefgakmpfaaGreatDoorM11
/- THE WALK of tree.Do: sync, tick, drop, and what is no operation. -/
namespace Go.Proofs.YtonhcefgakmpfaaGreatDoor
open Go.RowKit Go.Own
set_option maxRecDepth 100000 in
set_option maxHeartbeats 8000000 in
theorem doSync (q : Nat) (S : Tre) (fd n off flags : Int) (path dest : Str) (ov : Value) (w : World) (L : List HP) (hO : Has w (Trc q S :: L)) :
    Calls Tryz.prog 17 #[.pointer (some ⟨q, 0, none⟩), opV ⟨21, fd, n, off, flags, path, dest⟩ ov] w fun e w' => e = .returned (ansV (ansE 0) nilV nilV) ∧ Has w' (Trc q S :: L) ∧ Keep w w' := by
  have HO := hid hO
  clear hO
  unfold opV opC
  go_enter Tryz.func17, Tryz.ntmps17
  go_upto_region 1 with fail
  have h1 := (HO.out.alloc (.cells #[.int .i64 21, .int .i64 fd, .int .i64 n, .int .i64 off, .int .i64 flags, sV path, sV dest, ov] 35)).alloc (.cells (ansC (ansE 0) nilV nilV) 32)
  have HK1 := hid (((Keep.refl w).alloc (.cells #[.int .i64 21, .int .i64 fd, .int .i64 n, .int .i64 off, .int .i64 flags, sV path, sV dest, ov] 35)).alloc (.cells (ansC (ansE 0) nilV nilV) 32))
  unfold ansC ansE at h1 HK1
  have e1 : (w.alloc (.cells #[.int .i64 21, .int .i64 fd, .int .i64 n, .int .i64 off, .int .i64 flags, sV path, sV dest, ov] 35)).heap.size = w.heap.size + 1 := by show (Array.push _ _).size = _; rw [Array.size_push]
  rw [e1] at h1
  have HO1 := hid h1
  clear h1 e1 HO
  generalize (w.alloc (.cells #[.int .i64 21, .int .i64 fd, .int .i64 n, .int .i64 off, .int .i64 flags, sV path, sV dest, ov] 35)).alloc (.cells #[.int .i64 0, .int .i64 0, .int .i64 0, .int .i64 0, nilV, nilV] 32) = w1 at *
  generalize w.heap.size = g3 at *
  generalize g3 + 1 = g4 at *
  have hp0 : w1.cell? ⟨g3, 0, none⟩ = some (.int .i64 21) := HO1.out.p1.cells 0
  have hp2 : w1.cell? ⟨g3, 2, none⟩ = some (.int .i64 n) := HO1.out.p1.cells 2
  have HO3 := hid (show Has w1 (pt g4 (.cells (ansC (ansE 0) nilV nilV) 32) :: Trc q S :: L) from HO1.out.re 3 [0, 2])
  have hz0 : w1.cell? ⟨g4, 0, none⟩ = some (.int .i64 0) := (HO3.out).cells 0
  have hz1 : w1.cell? ⟨g4, 1, none⟩ = some (.int .i64 0) := (HO3.out).cells 1
  have hz2 : w1.cell? ⟨g4, 2, none⟩ = some (.int .i64 0) := (HO3.out).cells 2
  have hz3 : w1.cell? ⟨g4, 3, none⟩ = some (.int .i64 0) := (HO3.out).cells 3
  have hz4 : w1.cell? ⟨g4, 4, none⟩ = some (.slice none 0 0) := (HO3.out).cells 4
  have hz5 : w1.cell? ⟨g4, 5, none⟩ = some (.slice none 0 0) := (HO3.out).cells 5
  have hy0 := (HO3.out).thaw 0
  have hy1 := (HO3.out).thaw 1
  have hy2 := (HO3.out).thaw 2
  have hy3 := (HO3.out).thaw 3
  have hy4 := (HO3.out).thaw 4
  have hy5 := (HO3.out).thaw 5
  go_wp2_with fail
  have h1 := HO3.out.ans (ansE 0) nilV nilV
  refine bodyPost_ret (ans_result rfl rfl h1) rfl ?_
  exact ⟨rfl, h1.drop, HK1.out.ans _ _ _ _ _ _ _⟩
set_option maxRecDepth 100000 in
set_option maxHeartbeats 8000000 in
theorem doTick (q : Nat) (S : Tre) (fd n off flags : Int) (path dest : Str) (ov : Value) (w : World) (L : List HP) (hO : Has w (Trc q S :: L)) :
    Calls Tryz.prog 17 #[.pointer (some ⟨q, 0, none⟩), opV ⟨22, fd, n, off, flags, path, dest⟩ ov] w fun e w' => e = .returned (ansV (if 0 ≤ n then ansE 0 else ansE 2) nilV nilV) ∧ Has w' (Trc q S :: L) ∧ Keep w w' := by
  generalize hR : (if 0 ≤ n then ansE 0 else ansE 2) = R
  have HR := hid hR
  clear hR
  have HO := hid hO
  clear hO
  unfold opV opC
  go_enter Tryz.func17, Tryz.ntmps17
  go_upto_region 1 with fail
  have h1 := (HO.out.alloc (.cells #[.int .i64 22, .int .i64 fd, .int .i64 n, .int .i64 off, .int .i64 flags, sV path, sV dest, ov] 35)).alloc (.cells (ansC (ansE 0) nilV nilV) 32)
  have HK1 := hid (((Keep.refl w).alloc (.cells #[.int .i64 22, .int .i64 fd, .int .i64 n, .int .i64 off, .int .i64 flags, sV path, sV dest, ov] 35)).alloc (.cells (ansC (ansE 0) nilV nilV) 32))
  unfold ansC ansE at h1 HK1
  have e1 : (w.alloc (.cells #[.int .i64 22, .int .i64 fd, .int .i64 n, .int .i64 off, .int .i64 flags, sV path, sV dest, ov] 35)).heap.size = w.heap.size + 1 := by show (Array.push _ _).size = _; rw [Array.size_push]
  rw [e1] at h1
  have HO1 := hid h1
  clear h1 e1 HO
  generalize (w.alloc (.cells #[.int .i64 22, .int .i64 fd, .int .i64 n, .int .i64 off, .int .i64 flags, sV path, sV dest, ov] 35)).alloc (.cells #[.int .i64 0, .int .i64 0, .int .i64 0, .int .i64 0, nilV, nilV] 32) = w1 at *
  generalize w.heap.size = g3 at *
  generalize g3 + 1 = g4 at *
  have hp0 : w1.cell? ⟨g3, 0, none⟩ = some (.int .i64 22) := HO1.out.p1.cells 0
  have hp2 : w1.cell? ⟨g3, 2, none⟩ = some (.int .i64 n) := HO1.out.p1.cells 2
  have HO3 := hid (show Has w1 (pt g4 (.cells (ansC (ansE 0) nilV nilV) 32) :: Trc q S :: L) from HO1.out.re 3 [0, 2])
  have hz0 : w1.cell? ⟨g4, 0, none⟩ = some (.int .i64 0) := (HO3.out).cells 0
  have hz1 : w1.cell? ⟨g4, 1, none⟩ = some (.int .i64 0) := (HO3.out).cells 1
  have hz2 : w1.cell? ⟨g4, 2, none⟩ = some (.int .i64 0) := (HO3.out).cells 2
  have hz3 : w1.cell? ⟨g4, 3, none⟩ = some (.int .i64 0) := (HO3.out).cells 3
  have hz4 : w1.cell? ⟨g4, 4, none⟩ = some (.slice none 0 0) := (HO3.out).cells 4
  have hz5 : w1.cell? ⟨g4, 5, none⟩ = some (.slice none 0 0) := (HO3.out).cells 5
  have hy0 := (HO3.out).thaw 0
  have hy1 := (HO3.out).thaw 1
  have hy2 := (HO3.out).thaw 2
  have hy3 := (HO3.out).thaw 3
  have hy4 := (HO3.out).thaw 4
  have hy5 := (HO3.out).thaw 5
  by_cases hn : 0 ≤ n
  · go_wp2_with fail
    have h1 := HO3.out.ans (ansE 0) nilV nilV
    refine bodyPost_ret (ans_result rfl rfl h1) rfl ?_
    rw [← HR.out, if_pos (by omega)]
    exact ⟨rfl, h1.drop, HK1.out.ans _ _ _ _ _ _ _⟩
  · go_wp2_with fail
    refine (tCode (2 : Int) w1 _ HO3.out).mono ?_
    rintro e w5 ⟨rfl, hO5, hK5⟩
    have HO5 := hid hO5
    have HK5 := hid ((HK1.out).trans hK5)
    clear hO5 hK5
    unfold ansV ansC ansE
    clear hz0 hz1 hz2 hz3 hz4 hz5 hy0 hy1 hy2 hy3 hy4 hy5
    have hz0 : w5.cell? ⟨g4, 0, none⟩ = some (.int .i64 0) := (HO5.out).cells 0
    have hz1 : w5.cell? ⟨g4, 1, none⟩ = some (.int .i64 0) := (HO5.out).cells 1
    have hz2 : w5.cell? ⟨g4, 2, none⟩ = some (.int .i64 0) := (HO5.out).cells 2
    have hz3 : w5.cell? ⟨g4, 3, none⟩ = some (.int .i64 0) := (HO5.out).cells 3
    have hz4 : w5.cell? ⟨g4, 4, none⟩ = some (.slice none 0 0) := (HO5.out).cells 4
    have hz5 : w5.cell? ⟨g4, 5, none⟩ = some (.slice none 0 0) := (HO5.out).cells 5
    have hy0 := (HO5.out).thaw 0
    have hy1 := (HO5.out).thaw 1
    have hy2 := (HO5.out).thaw 2
    have hy3 := (HO5.out).thaw 3
    have hy4 := (HO5.out).thaw 4
    have hy5 := (HO5.out).thaw 5
    go_wp2_with fail
    have h1 := ((show Has w5 (pt g4 (.cells (ansC (ansE 0) nilV nilV) 32) :: Trc q S :: L) from HO5.out)).ans (ansE (2 : Int)) nilV nilV
    refine bodyPost_ret (ans_result rfl rfl h1) rfl ?_
    rw [← HR.out, if_neg (by omega)]
    exact ⟨rfl, h1.drop, HK5.out.ans _ _ _ _ _ _ _⟩
set_option maxRecDepth 100000 in
set_option maxHeartbeats 8000000 in
theorem doDrop (q : Nat) (S : Tre) (fd n off flags : Int) (path dest : Str) (ov : Value) (w : World) (L : List HP) (hO : Has w (Trc q S :: L)) :
    Calls Tryz.prog 17 #[.pointer (some ⟨q, 0, none⟩), opV ⟨23, fd, n, off, flags, path, dest⟩ ov] w fun e w' => e = .returned (ansV (if 0 ≤ n then ansE 0 else ansE 2) nilV nilV) ∧ Has w' (Trc q S :: L) ∧ Keep w w' := by
  generalize hR : (if 0 ≤ n then ansE 0 else ansE 2) = R
  have HR := hid hR
  clear hR
  have HO := hid hO
  clear hO
  unfold opV opC
  go_enter Tryz.func17, Tryz.ntmps17
  go_upto_region 1 with fail
  have h1 := (HO.out.alloc (.cells #[.int .i64 23, .int .i64 fd, .int .i64 n, .int .i64 off, .int .i64 flags, sV path, sV dest, ov] 35)).alloc (.cells (ansC (ansE 0) nilV nilV) 32)
  have HK1 := hid (((Keep.refl w).alloc (.cells #[.int .i64 23, .int .i64 fd, .int .i64 n, .int .i64 off, .int .i64 flags, sV path, sV dest, ov] 35)).alloc (.cells (ansC (ansE 0) nilV nilV) 32))
  unfold ansC ansE at h1 HK1
  have e1 : (w.alloc (.cells #[.int .i64 23, .int .i64 fd, .int .i64 n, .int .i64 off, .int .i64 flags, sV path, sV dest, ov] 35)).heap.size = w.heap.size + 1 := by show (Array.push _ _).size = _; rw [Array.size_push]
  rw [e1] at h1
  have HO1 := hid h1
  clear h1 e1 HO
  generalize (w.alloc (.cells #[.int .i64 23, .int .i64 fd, .int .i64 n, .int .i64 off, .int .i64 flags, sV path, sV dest, ov] 35)).alloc (.cells #[.int .i64 0, .int .i64 0, .int .i64 0, .int .i64 0, nilV, nilV] 32) = w1 at *
  generalize w.heap.size = g3 at *
  generalize g3 + 1 = g4 at *
  have hp0 : w1.cell? ⟨g3, 0, none⟩ = some (.int .i64 23) := HO1.out.p1.cells 0
  have hp2 : w1.cell? ⟨g3, 2, none⟩ = some (.int .i64 n) := HO1.out.p1.cells 2
  have HO3 := hid (show Has w1 (pt g4 (.cells (ansC (ansE 0) nilV nilV) 32) :: Trc q S :: L) from HO1.out.re 3 [0, 2])
  have hz0 : w1.cell? ⟨g4, 0, none⟩ = some (.int .i64 0) := (HO3.out).cells 0
  have hz1 : w1.cell? ⟨g4, 1, none⟩ = some (.int .i64 0) := (HO3.out).cells 1
  have hz2 : w1.cell? ⟨g4, 2, none⟩ = some (.int .i64 0) := (HO3.out).cells 2
  have hz3 : w1.cell? ⟨g4, 3, none⟩ = some (.int .i64 0) := (HO3.out).cells 3
  have hz4 : w1.cell? ⟨g4, 4, none⟩ = some (.slice none 0 0) := (HO3.out).cells 4
  have hz5 : w1.cell? ⟨g4, 5, none⟩ = some (.slice none 0 0) := (HO3.out).cells 5
  have hy0 := (HO3.out).thaw 0
  have hy1 := (HO3.out).thaw 1
  have hy2 := (HO3.out).thaw 2
  have hy3 := (HO3.out).thaw 3
  have hy4 := (HO3.out).thaw 4
  have hy5 := (HO3.out).thaw 5
  by_cases hn : 0 ≤ n
  · go_wp2_with fail
    have h1 := HO3.out.ans (ansE 0) nilV nilV
    refine bodyPost_ret (ans_result rfl rfl h1) rfl ?_
    rw [← HR.out, if_pos (by omega)]
    exact ⟨rfl, h1.drop, HK1.out.ans _ _ _ _ _ _ _⟩
  · go_wp2_with fail
    refine (tCode (2 : Int) w1 _ HO3.out).mono ?_
    rintro e w5 ⟨rfl, hO5, hK5⟩
    have HO5 := hid hO5
    have HK5 := hid ((HK1.out).trans hK5)
    clear hO5 hK5
    unfold ansV ansC ansE
    clear hz0 hz1 hz2 hz3 hz4 hz5 hy0 hy1 hy2 hy3 hy4 hy5
    have hz0 : w5.cell? ⟨g4, 0, none⟩ = some (.int .i64 0) := (HO5.out).cells 0
    have hz1 : w5.cell? ⟨g4, 1, none⟩ = some (.int .i64 0) := (HO5.out).cells 1
    have hz2 : w5.cell? ⟨g4, 2, none⟩ = some (.int .i64 0) := (HO5.out).cells 2
    have hz3 : w5.cell? ⟨g4, 3, none⟩ = some (.int .i64 0) := (HO5.out).cells 3
    have hz4 : w5.cell? ⟨g4, 4, none⟩ = some (.slice none 0 0) := (HO5.out).cells 4
    have hz5 : w5.cell? ⟨g4, 5, none⟩ = some (.slice none 0 0) := (HO5.out).cells 5
    have hy0 := (HO5.out).thaw 0
    have hy1 := (HO5.out).thaw 1
    have hy2 := (HO5.out).thaw 2
    have hy3 := (HO5.out).thaw 3
    have hy4 := (HO5.out).thaw 4
    have hy5 := (HO5.out).thaw 5
    go_wp2_with fail
    have h1 := ((show Has w5 (pt g4 (.cells (ansC (ansE 0) nilV nilV) 32) :: Trc q S :: L) from HO5.out)).ans (ansE (2 : Int)) nilV nilV
    refine bodyPost_ret (ans_result rfl rfl h1) rfl ?_
    rw [← HR.out, if_neg (by omega)]
    exact ⟨rfl, h1.drop, HK5.out.ans _ _ _ _ _ _ _⟩
set_option maxRecDepth 100000 in
set_option maxHeartbeats 8000000 in
theorem doOther (q : Nat) (S : Tre) (k fd n off flags : Int) (path dest : Str) (ov : Value) (w : World) (L : List HP) (hk : ¬ (1 ≤ k ∧ k ≤ 23)) (hO : Has w (Trc q S :: L)) :
    Calls Tryz.prog 17 #[.pointer (some ⟨q, 0, none⟩), opV ⟨k, fd, n, off, flags, path, dest⟩ ov] w fun e w' => e = .returned (ansV (ansE 2) nilV nilV) ∧ Has w' (Trc q S :: L) ∧ Keep w w' := by
  have hk1 : (k == 1) = false := by simp; intro h; exact hk (by omega)
  have hk2 : (k == 2) = false := by simp; intro h; exact hk (by omega)
  have hk3 : (k == 3) = false := by simp; intro h; exact hk (by omega)
  have hk4 : (k == 4) = false := by simp; intro h; exact hk (by omega)
  have hk5 : (k == 5) = false := by simp; intro h; exact hk (by omega)
  have hk6 : (k == 6) = false := by simp; intro h; exact hk (by omega)
  have hk7 : (k == 7) = false := by simp; intro h; exact hk (by omega)
  have hk8 : (k == 8) = false := by simp; intro h; exact hk (by omega)
  have hk9 : (k == 9) = false := by simp; intro h; exact hk (by omega)
  have hk10 : (k == 10) = false := by simp; intro h; exact hk (by omega)
  have hk11 : (k == 11) = false := by simp; intro h; exact hk (by omega)
  have hk12 : (k == 12) = false := by simp; intro h; exact hk (by omega)
  have hk13 : (k == 13) = false := by simp; intro h; exact hk (by omega)
  have hk14 : (k == 14) = false := by simp; intro h; exact hk (by omega)
  have hk15 : (k == 15) = false := by simp; intro h; exact hk (by omega)
  have hk16 : (k == 16) = false := by simp; intro h; exact hk (by omega)
  have hk17 : (k == 17) = false := by simp; intro h; exact hk (by omega)
  have hk18 : (k == 18) = false := by simp; intro h; exact hk (by omega)
  have hk19 : (k == 19) = false := by simp; intro h; exact hk (by omega)
  have hk20 : (k == 20) = false := by simp; intro h; exact hk (by omega)
  have hk21 : (k == 21) = false := by simp; intro h; exact hk (by omega)
  have hk22 : (k == 22) = false := by simp; intro h; exact hk (by omega)
  have hk23 : (k == 23) = false := by simp; intro h; exact hk (by omega)
  have HO := hid hO
  clear hO
  unfold opV opC
  go_enter Tryz.func17, Tryz.ntmps17
  go_upto_region 1 with fail
  have h1 := (HO.out.alloc (.cells #[.int .i64 k, .int .i64 fd, .int .i64 n, .int .i64 off, .int .i64 flags, sV path, sV dest, ov] 35)).alloc (.cells (ansC (ansE 0) nilV nilV) 32)
  have HK1 := hid (((Keep.refl w).alloc (.cells #[.int .i64 k, .int .i64 fd, .int .i64 n, .int .i64 off, .int .i64 flags, sV path, sV dest, ov] 35)).alloc (.cells (ansC (ansE 0) nilV nilV) 32))
  unfold ansC ansE at h1 HK1
  have e1 : (w.alloc (.cells #[.int .i64 k, .int .i64 fd, .int .i64 n, .int .i64 off, .int .i64 flags, sV path, sV dest, ov] 35)).heap.size = w.heap.size + 1 := by show (Array.push _ _).size = _; rw [Array.size_push]
  rw [e1] at h1
  have HO1 := hid h1
  clear h1 e1 HO
  generalize (w.alloc (.cells #[.int .i64 k, .int .i64 fd, .int .i64 n, .int .i64 off, .int .i64 flags, sV path, sV dest, ov] 35)).alloc (.cells #[.int .i64 0, .int .i64 0, .int .i64 0, .int .i64 0, nilV, nilV] 32) = w1 at *
  generalize w.heap.size = g3 at *
  generalize g3 + 1 = g4 at *
  have hp0 : w1.cell? ⟨g3, 0, none⟩ = some (.int .i64 k) := HO1.out.p1.cells 0
  have hp2 : w1.cell? ⟨g3, 2, none⟩ = some (.int .i64 n) := HO1.out.p1.cells 2
  have HO3 := hid (show Has w1 (pt g4 (.cells (ansC (ansE 0) nilV nilV) 32) :: Trc q S :: L) from HO1.out.re 3 [0, 2])
  have hz0 : w1.cell? ⟨g4, 0, none⟩ = some (.int .i64 0) := (HO3.out).cells 0
  have hz1 : w1.cell? ⟨g4, 1, none⟩ = some (.int .i64 0) := (HO3.out).cells 1
  have hz2 : w1.cell? ⟨g4, 2, none⟩ = some (.int .i64 0) := (HO3.out).cells 2
  have hz3 : w1.cell? ⟨g4, 3, none⟩ = some (.int .i64 0) := (HO3.out).cells 3
  have hz4 : w1.cell? ⟨g4, 4, none⟩ = some (.slice none 0 0) := (HO3.out).cells 4
  have hz5 : w1.cell? ⟨g4, 5, none⟩ = some (.slice none 0 0) := (HO3.out).cells 5
  have hy0 := (HO3.out).thaw 0
  have hy1 := (HO3.out).thaw 1
  have hy2 := (HO3.out).thaw 2
  have hy3 := (HO3.out).thaw 3
  have hy4 := (HO3.out).thaw 4
  have hy5 := (HO3.out).thaw 5
  go_wp2_with fail
  refine (tCode (2 : Int) w1 _ HO3.out).mono ?_
  rintro e w5 ⟨rfl, hO5, hK5⟩
  have HO5 := hid hO5
  have HK5 := hid ((HK1.out).trans hK5)
  clear hO5 hK5
  unfold ansV ansC ansE
  clear hz0 hz1 hz2 hz3 hz4 hz5 hy0 hy1 hy2 hy3 hy4 hy5
  have hz0 : w5.cell? ⟨g4, 0, none⟩ = some (.int .i64 0) := (HO5.out).cells 0
  have hz1 : w5.cell? ⟨g4, 1, none⟩ = some (.int .i64 0) := (HO5.out).cells 1
  have hz2 : w5.cell? ⟨g4, 2, none⟩ = some (.int .i64 0) := (HO5.out).cells 2
  have hz3 : w5.cell? ⟨g4, 3, none⟩ = some (.int .i64 0) := (HO5.out).cells 3
  have hz4 : w5.cell? ⟨g4, 4, none⟩ = some (.slice none 0 0) := (HO5.out).cells 4
  have hz5 : w5.cell? ⟨g4, 5, none⟩ = some (.slice none 0 0) := (HO5.out).cells 5
  have hy0 := (HO5.out).thaw 0
  have hy1 := (HO5.out).thaw 1
  have hy2 := (HO5.out).thaw 2
  have hy3 := (HO5.out).thaw 3
  have hy4 := (HO5.out).thaw 4
  have hy5 := (HO5.out).thaw 5
  go_wp2_with fail
  have h1 := ((show Has w5 (pt g4 (.cells (ansC (ansE 0) nilV nilV) 32) :: Trc q S :: L) from HO5.out)).ans (ansE (2 : Int)) nilV nilV
  refine bodyPost_ret (ans_result rfl rfl h1) rfl ?_
  exact ⟨rfl, h1.drop, HK5.out.ans _ _ _ _ _ _ _⟩
end Go.Proofs.YtonhcefgakmpfaaGreatDoor
