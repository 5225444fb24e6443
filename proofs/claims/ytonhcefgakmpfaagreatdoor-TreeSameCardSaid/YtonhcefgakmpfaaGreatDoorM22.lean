/- TEXTS of mine, merged. -/
import Derived.Test.YtonhcefgakmpfaaGreatDoorM21
import Derived.Test.YtonhcefgakmpfaaGreatDoorM11
import Derived.Test.YtonhcefgakmpfaaGreatDoorM18
import Derived.Test.YtonhcefgakmpfaaGreatDoorM10
import Derived.Test.YtonhcefgakmpfaaGreatDoorM14
import Derived.Test.YtonhcefgakmpfaaGreatDoorM12
import Derived.Test.YtonhcefgakmpfaaGreatDoorM8
/- THE WALK of tree.Do: rename. -/
namespace Go.Proofs.YtonhcefgakmpfaaGreatDoor
open Go.RowKit Go.Own
set_option maxRecDepth 100000 in
set_option maxHeartbeats 8000000 in
theorem doRename (q : Nat) (S : Tre) (fd n off flags : Int) (path dest : Str) (ov : Value) (w : World) (L : List HP) (rk : Int → Nat) (mx : Int) (hW : Wk S) (hY : Wy S rk) (hM : MxL mx L) (hp : path.length ≤ 100000) (hd : dest.length ≤ 100000) (hKO1 : (S.place path).2 = 0 → (S.place path).1.node ≠ 0 → KidOk S (S.place path).1 ∧ ∀ x, fnd S.nodes (S.place path).1.node = some x → 1 ≤ x.links) (hKO2 : (S.place dest).2 = 0 → DirOk S (S.place dest).1 ∧ (S.place dest).1.name.length ≤ 24 ∧ ((S.place dest).1.node ≠ 0 → KidOk S (S.place dest).1)) (hup : ∀ n x, fnd S.nodes n = some x → x.above ≠ 0 → (∃ y, fnd S.nodes x.above = some y) ∧ rk x.above < rk n) (hnm : ∀ n x, fnd S.nodes n = some x → ∀ e ∈ x.names, rk n < rk e.2 ∧ e.1.length ≤ 24 ∧ ∃ z, fnd S.nodes e.2 = some z) (hO : Has w (Trc q S :: L)) :
    Calls Tryz.prog 17 #[.pointer (some ⟨q, 0, none⟩), opV ⟨15, fd, n, off, flags, path, dest⟩ (ov)] w fun e w' => e = .returned (ansV (S.rename path dest).1 nilV nilV) ∧ Has w' (Trc q (S.rename path dest).2 :: L) ∧ Keep w w' := by
  have HX0 := (fun (w : World) (L' : List HP) (hM : MxL mx L') (hO : Has w (Trc q S :: L')) => tRename q S rk ⟨15, fd, n, off, flags, path, dest⟩ ov mx w L' hW hY hM hp hd hKO1 hKO2 hup hnm hO)
  try dsimp only at HX0
  have HX := hid HX0
  clear HX0
  have HM := hid hM
  clear hM
  generalize S.rename path dest = R at *
  have HO := hid hO
  clear hO
  try unfold opV opC at HX
  unfold opV opC
  go_enter Tryz.func17, Tryz.ntmps17
  go_upto_region 1 with fail
  have h1 := (HO.out.alloc (.cells #[.int .i64 15, .int .i64 fd, .int .i64 n, .int .i64 off, .int .i64 flags, sV path, sV dest, ov] 35)).alloc (.cells (ansC (ansE 0) nilV nilV) 32)
  have HK1 := hid (((Keep.refl w).alloc (.cells #[.int .i64 15, .int .i64 fd, .int .i64 n, .int .i64 off, .int .i64 flags, sV path, sV dest, ov] 35)).alloc (.cells (ansC (ansE 0) nilV nilV) 32))
  unfold ansC ansE at h1 HK1
  have e1 : (w.alloc (.cells #[.int .i64 15, .int .i64 fd, .int .i64 n, .int .i64 off, .int .i64 flags, sV path, sV dest, ov] 35)).heap.size = w.heap.size + 1 := by show (Array.push _ _).size = _; rw [Array.size_push]
  rw [e1] at h1
  have HO1 := hid h1
  clear h1 e1 HO
  generalize (w.alloc (.cells #[.int .i64 15, .int .i64 fd, .int .i64 n, .int .i64 off, .int .i64 flags, sV path, sV dest, ov] 35)).alloc (.cells #[.int .i64 0, .int .i64 0, .int .i64 0, .int .i64 0, nilV, nilV] 32) = w1 at *
  generalize w.heap.size = g3 at *
  generalize g3 + 1 = g4 at *
  have hp0 : w1.cell? ⟨g3, 0, none⟩ = some (.int .i64 15) := HO1.out.p1.cells 0
  have hp1 : w1.cell? ⟨g3, 1, none⟩ = some (.int .i64 fd) := HO1.out.p1.cells 1
  have hp2 : w1.cell? ⟨g3, 2, none⟩ = some (.int .i64 n) := HO1.out.p1.cells 2
  have hp3 : w1.cell? ⟨g3, 3, none⟩ = some (.int .i64 off) := HO1.out.p1.cells 3
  have hp4 : w1.cell? ⟨g3, 4, none⟩ = some (.int .i64 flags) := HO1.out.p1.cells 4
  have hp5 : w1.cell? ⟨g3, 5, none⟩ = some (sV path) := HO1.out.p1.cells 5
  have hp6 : w1.cell? ⟨g3, 6, none⟩ = some (sV dest) := HO1.out.p1.cells 6
  have hp7 : w1.cell? ⟨g3, 7, none⟩ = some (ov) := HO1.out.p1.cells 7
  go_wp2_with fail
  refine (HX.out w1 _ ((HM.out.cons (pt g3 (.cells #[.int .i64 15, .int .i64 fd, .int .i64 n, .int .i64 off, .int .i64 flags, sV path, sV dest, ov] 35))).cons (pt g4 (.cells #[.int .i64 0, .int .i64 0, .int .i64 0, .int .i64 0, nilV, nilV] 32))) (HO1.out.re 3 [2, 0, 1])).mono ?_
  rintro e w2 ⟨rfl, hO2, hK2⟩
  have HO2 := hid hO2
  have HK2 := hid ((HK1.out).trans hK2)
  clear hO2 hK2
  try dsimp only
  have HO3 := hid (show Has w2 (pt g4 (.cells (ansC (ansE 0) nilV nilV) 32) :: Trc q R.2 :: L) from HO2.out.re 3 [1, 0])
  have hz0 : w2.cell? ⟨g4, 0, none⟩ = some (.int .i64 0) := (HO3.out).cells 0
  have hz1 : w2.cell? ⟨g4, 1, none⟩ = some (.int .i64 0) := (HO3.out).cells 1
  have hz2 : w2.cell? ⟨g4, 2, none⟩ = some (.int .i64 0) := (HO3.out).cells 2
  have hz3 : w2.cell? ⟨g4, 3, none⟩ = some (.int .i64 0) := (HO3.out).cells 3
  have hz4 : w2.cell? ⟨g4, 4, none⟩ = some (.slice none 0 0) := (HO3.out).cells 4
  have hz5 : w2.cell? ⟨g4, 5, none⟩ = some (.slice none 0 0) := (HO3.out).cells 5
  have hy0 := (HO3.out).thaw 0
  have hy1 := (HO3.out).thaw 1
  have hy2 := (HO3.out).thaw 2
  have hy3 := (HO3.out).thaw 3
  have hy4 := (HO3.out).thaw 4
  have hy5 := (HO3.out).thaw 5
  unfold ansV ansC
  go_wp2_with fail
  have h1 := HO3.out.ans R.1 nilV nilV
  refine bodyPost_ret (ans_result rfl rfl h1) rfl ?_
  exact ⟨rfl, h1.drop, HK2.out.ans _ _ _ _ _ _ _⟩
end Go.Proofs.YtonhcefgakmpfaaGreatDoor
/- THE WALK of tree.Do: fsync, fdatasync. -/
namespace Go.Proofs.YtonhcefgakmpfaaGreatDoor
open Go.RowKit Go.Own
set_option maxRecDepth 100000 in
set_option maxHeartbeats 8000000 in
theorem doFsync (q : Nat) (S : Tre) (fd n off flags : Int) (path dest : Str) (ov : Value) (w : World) (L : List HP) (hO : Has w (Trc q S :: L)) :
    Calls Tryz.prog 17 #[.pointer (some ⟨q, 0, none⟩), opV ⟨19, fd, n, off, flags, path, dest⟩ (ov)] w fun e w' => e = .returned (ansV (S.lasts fd) nilV nilV) ∧ Has w' (Trc q S :: L) ∧ Keep w w' := by
  have HX0 := (fun (w : World) (L' : List HP) (hO : Has w (Trc q S :: L')) => tLasts q S fd w L' hO)
  try dsimp only at HX0
  have HX := hid HX0
  clear HX0
  skip
  generalize S.lasts fd = R at *
  have HO := hid hO
  clear hO
  try unfold opV opC at HX
  unfold opV opC
  go_enter Tryz.func17, Tryz.ntmps17
  go_upto_region 1 with fail
  have h1 := (HO.out.alloc (.cells #[.int .i64 19, .int .i64 fd, .int .i64 n, .int .i64 off, .int .i64 flags, sV path, sV dest, ov] 35)).alloc (.cells (ansC (ansE 0) nilV nilV) 32)
  have HK1 := hid (((Keep.refl w).alloc (.cells #[.int .i64 19, .int .i64 fd, .int .i64 n, .int .i64 off, .int .i64 flags, sV path, sV dest, ov] 35)).alloc (.cells (ansC (ansE 0) nilV nilV) 32))
  unfold ansC ansE at h1 HK1
  have e1 : (w.alloc (.cells #[.int .i64 19, .int .i64 fd, .int .i64 n, .int .i64 off, .int .i64 flags, sV path, sV dest, ov] 35)).heap.size = w.heap.size + 1 := by show (Array.push _ _).size = _; rw [Array.size_push]
  rw [e1] at h1
  have HO1 := hid h1
  clear h1 e1 HO
  generalize (w.alloc (.cells #[.int .i64 19, .int .i64 fd, .int .i64 n, .int .i64 off, .int .i64 flags, sV path, sV dest, ov] 35)).alloc (.cells #[.int .i64 0, .int .i64 0, .int .i64 0, .int .i64 0, nilV, nilV] 32) = w1 at *
  generalize w.heap.size = g3 at *
  generalize g3 + 1 = g4 at *
  have hp0 : w1.cell? ⟨g3, 0, none⟩ = some (.int .i64 19) := HO1.out.p1.cells 0
  have hp1 : w1.cell? ⟨g3, 1, none⟩ = some (.int .i64 fd) := HO1.out.p1.cells 1
  have hp2 : w1.cell? ⟨g3, 2, none⟩ = some (.int .i64 n) := HO1.out.p1.cells 2
  have hp3 : w1.cell? ⟨g3, 3, none⟩ = some (.int .i64 off) := HO1.out.p1.cells 3
  have hp4 : w1.cell? ⟨g3, 4, none⟩ = some (.int .i64 flags) := HO1.out.p1.cells 4
  have hp5 : w1.cell? ⟨g3, 5, none⟩ = some (sV path) := HO1.out.p1.cells 5
  have hp6 : w1.cell? ⟨g3, 6, none⟩ = some (sV dest) := HO1.out.p1.cells 6
  have hp7 : w1.cell? ⟨g3, 7, none⟩ = some (ov) := HO1.out.p1.cells 7
  go_wp2_with fail
  refine (HX.out w1 _ (HO1.out.re 3 [2, 0, 1])).mono ?_
  rintro e w2 ⟨rfl, hO2, hK2⟩
  have HO2 := hid hO2
  have HK2 := hid ((HK1.out).trans hK2)
  clear hO2 hK2
  try dsimp only
  have HO3 := hid (show Has w2 (pt g4 (.cells (ansC (ansE 0) nilV nilV) 32) :: Trc q S :: L) from HO2.out.re 3 [1, 0])
  have hz0 : w2.cell? ⟨g4, 0, none⟩ = some (.int .i64 0) := (HO3.out).cells 0
  have hz1 : w2.cell? ⟨g4, 1, none⟩ = some (.int .i64 0) := (HO3.out).cells 1
  have hz2 : w2.cell? ⟨g4, 2, none⟩ = some (.int .i64 0) := (HO3.out).cells 2
  have hz3 : w2.cell? ⟨g4, 3, none⟩ = some (.int .i64 0) := (HO3.out).cells 3
  have hz4 : w2.cell? ⟨g4, 4, none⟩ = some (.slice none 0 0) := (HO3.out).cells 4
  have hz5 : w2.cell? ⟨g4, 5, none⟩ = some (.slice none 0 0) := (HO3.out).cells 5
  have hy0 := (HO3.out).thaw 0
  have hy1 := (HO3.out).thaw 1
  have hy2 := (HO3.out).thaw 2
  have hy3 := (HO3.out).thaw 3
  have hy4 := (HO3.out).thaw 4
  have hy5 := (HO3.out).thaw 5
  unfold ansV ansC
  go_wp2_with fail
  have h1 := HO3.out.ans R nilV nilV
  refine bodyPost_ret (ans_result rfl rfl h1) rfl ?_
  exact ⟨rfl, h1.drop, HK2.out.ans _ _ _ _ _ _ _⟩
set_option maxRecDepth 100000 in
set_option maxHeartbeats 8000000 in
theorem doFdatasync (q : Nat) (S : Tre) (fd n off flags : Int) (path dest : Str) (ov : Value) (w : World) (L : List HP) (hO : Has w (Trc q S :: L)) :
    Calls Tryz.prog 17 #[.pointer (some ⟨q, 0, none⟩), opV ⟨20, fd, n, off, flags, path, dest⟩ (ov)] w fun e w' => e = .returned (ansV (S.lasts fd) nilV nilV) ∧ Has w' (Trc q S :: L) ∧ Keep w w' := by
  have HX0 := (fun (w : World) (L' : List HP) (hO : Has w (Trc q S :: L')) => tLasts q S fd w L' hO)
  try dsimp only at HX0
  have HX := hid HX0
  clear HX0
  skip
  generalize S.lasts fd = R at *
  have HO := hid hO
  clear hO
  try unfold opV opC at HX
  unfold opV opC
  go_enter Tryz.func17, Tryz.ntmps17
  go_upto_region 1 with fail
  have h1 := (HO.out.alloc (.cells #[.int .i64 20, .int .i64 fd, .int .i64 n, .int .i64 off, .int .i64 flags, sV path, sV dest, ov] 35)).alloc (.cells (ansC (ansE 0) nilV nilV) 32)
  have HK1 := hid (((Keep.refl w).alloc (.cells #[.int .i64 20, .int .i64 fd, .int .i64 n, .int .i64 off, .int .i64 flags, sV path, sV dest, ov] 35)).alloc (.cells (ansC (ansE 0) nilV nilV) 32))
  unfold ansC ansE at h1 HK1
  have e1 : (w.alloc (.cells #[.int .i64 20, .int .i64 fd, .int .i64 n, .int .i64 off, .int .i64 flags, sV path, sV dest, ov] 35)).heap.size = w.heap.size + 1 := by show (Array.push _ _).size = _; rw [Array.size_push]
  rw [e1] at h1
  have HO1 := hid h1
  clear h1 e1 HO
  generalize (w.alloc (.cells #[.int .i64 20, .int .i64 fd, .int .i64 n, .int .i64 off, .int .i64 flags, sV path, sV dest, ov] 35)).alloc (.cells #[.int .i64 0, .int .i64 0, .int .i64 0, .int .i64 0, nilV, nilV] 32) = w1 at *
  generalize w.heap.size = g3 at *
  generalize g3 + 1 = g4 at *
  have hp0 : w1.cell? ⟨g3, 0, none⟩ = some (.int .i64 20) := HO1.out.p1.cells 0
  have hp1 : w1.cell? ⟨g3, 1, none⟩ = some (.int .i64 fd) := HO1.out.p1.cells 1
  have hp2 : w1.cell? ⟨g3, 2, none⟩ = some (.int .i64 n) := HO1.out.p1.cells 2
  have hp3 : w1.cell? ⟨g3, 3, none⟩ = some (.int .i64 off) := HO1.out.p1.cells 3
  have hp4 : w1.cell? ⟨g3, 4, none⟩ = some (.int .i64 flags) := HO1.out.p1.cells 4
  have hp5 : w1.cell? ⟨g3, 5, none⟩ = some (sV path) := HO1.out.p1.cells 5
  have hp6 : w1.cell? ⟨g3, 6, none⟩ = some (sV dest) := HO1.out.p1.cells 6
  have hp7 : w1.cell? ⟨g3, 7, none⟩ = some (ov) := HO1.out.p1.cells 7
  go_wp2_with fail
  refine (HX.out w1 _ (HO1.out.re 3 [2, 0, 1])).mono ?_
  rintro e w2 ⟨rfl, hO2, hK2⟩
  have HO2 := hid hO2
  have HK2 := hid ((HK1.out).trans hK2)
  clear hO2 hK2
  try dsimp only
  have HO3 := hid (show Has w2 (pt g4 (.cells (ansC (ansE 0) nilV nilV) 32) :: Trc q S :: L) from HO2.out.re 3 [1, 0])
  have hz0 : w2.cell? ⟨g4, 0, none⟩ = some (.int .i64 0) := (HO3.out).cells 0
  have hz1 : w2.cell? ⟨g4, 1, none⟩ = some (.int .i64 0) := (HO3.out).cells 1
  have hz2 : w2.cell? ⟨g4, 2, none⟩ = some (.int .i64 0) := (HO3.out).cells 2
  have hz3 : w2.cell? ⟨g4, 3, none⟩ = some (.int .i64 0) := (HO3.out).cells 3
  have hz4 : w2.cell? ⟨g4, 4, none⟩ = some (.slice none 0 0) := (HO3.out).cells 4
  have hz5 : w2.cell? ⟨g4, 5, none⟩ = some (.slice none 0 0) := (HO3.out).cells 5
  have hy0 := (HO3.out).thaw 0
  have hy1 := (HO3.out).thaw 1
  have hy2 := (HO3.out).thaw 2
  have hy3 := (HO3.out).thaw 3
  have hy4 := (HO3.out).thaw 4
  have hy5 := (HO3.out).thaw 5
  unfold ansV ansC
  go_wp2_with fail
  have h1 := HO3.out.ans R nilV nilV
  refine bodyPost_ret (ans_result rfl rfl h1) rfl ?_
  exact ⟨rfl, h1.drop, HK2.out.ans _ _ _ _ _ _ _⟩
end Go.Proofs.YtonhcefgakmpfaaGreatDoor
/- THE WALK of tree.Do: lstat. -/
namespace Go.Proofs.YtonhcefgakmpfaaGreatDoor
open Go.RowKit Go.Own
set_option maxRecDepth 100000 in
set_option maxHeartbeats 8000000 in
theorem doLstat (q : Nat) (S : Tre) (fd n off flags : Int) (path dest : Str) (ov : Value) (w : World) (L : List HP) (mx : Int) (hW : Wk S) (hM : MxL mx L) (hp : path.length ≤ 100000) (hdl : ∀ n x, fnd S.nodes n = some x → x.data.length ≤ 100000 ∧ x.names.length ≤ 1000000) (hO : Has w (Trc q S :: L)) :
    Calls Tryz.prog 17 #[.pointer (some ⟨q, 0, none⟩), opV ⟨17, fd, n, off, flags, path, dest⟩ (ov)] w fun e w' => e = .returned (ansV (S.stat path false) nilV nilV) ∧ Has w' (Trc q S :: L) ∧ Keep w w' := by
  have HX0 : ∀ (w : World) (L' : List HP), MxL mx L' → Has w (Trc q S :: L') → Calls Tryz.prog 65 #[.pointer (some ⟨q, 0, none⟩), opV ⟨17, fd, n, off, flags, path, dest⟩ ov] w (fun e w' => e = .returned (ansV (S.stat path false) nilV nilV) ∧ Has w' (Trc q S :: L') ∧ Keep w w') := fun w L' hM hO => tStat q S ⟨17, fd, n, off, flags, path, dest⟩ ov mx w L' (.inr rfl) hW hM hp hdl hO
  have HX := hid HX0
  clear HX0
  have HM := hid hM
  clear hM
  generalize S.stat path false = R at *
  have HO := hid hO
  clear hO
  try unfold opV opC at HX
  unfold opV opC
  go_enter Tryz.func17, Tryz.ntmps17
  go_upto_region 1 with fail
  have h1 := (HO.out.alloc (.cells #[.int .i64 17, .int .i64 fd, .int .i64 n, .int .i64 off, .int .i64 flags, sV path, sV dest, ov] 35)).alloc (.cells (ansC (ansE 0) nilV nilV) 32)
  have HK1 := hid (((Keep.refl w).alloc (.cells #[.int .i64 17, .int .i64 fd, .int .i64 n, .int .i64 off, .int .i64 flags, sV path, sV dest, ov] 35)).alloc (.cells (ansC (ansE 0) nilV nilV) 32))
  unfold ansC ansE at h1 HK1
  have e1 : (w.alloc (.cells #[.int .i64 17, .int .i64 fd, .int .i64 n, .int .i64 off, .int .i64 flags, sV path, sV dest, ov] 35)).heap.size = w.heap.size + 1 := by show (Array.push _ _).size = _; rw [Array.size_push]
  rw [e1] at h1
  have HO1 := hid h1
  clear h1 e1 HO
  generalize (w.alloc (.cells #[.int .i64 17, .int .i64 fd, .int .i64 n, .int .i64 off, .int .i64 flags, sV path, sV dest, ov] 35)).alloc (.cells #[.int .i64 0, .int .i64 0, .int .i64 0, .int .i64 0, nilV, nilV] 32) = w1 at *
  generalize w.heap.size = g3 at *
  generalize g3 + 1 = g4 at *
  have hp0 : w1.cell? ⟨g3, 0, none⟩ = some (.int .i64 17) := HO1.out.p1.cells 0
  have hp1 : w1.cell? ⟨g3, 1, none⟩ = some (.int .i64 fd) := HO1.out.p1.cells 1
  have hp2 : w1.cell? ⟨g3, 2, none⟩ = some (.int .i64 n) := HO1.out.p1.cells 2
  have hp3 : w1.cell? ⟨g3, 3, none⟩ = some (.int .i64 off) := HO1.out.p1.cells 3
  have hp4 : w1.cell? ⟨g3, 4, none⟩ = some (.int .i64 flags) := HO1.out.p1.cells 4
  have hp5 : w1.cell? ⟨g3, 5, none⟩ = some (sV path) := HO1.out.p1.cells 5
  have hp6 : w1.cell? ⟨g3, 6, none⟩ = some (sV dest) := HO1.out.p1.cells 6
  have hp7 : w1.cell? ⟨g3, 7, none⟩ = some (ov) := HO1.out.p1.cells 7
  go_wp2_with fail
  refine (HX.out w1 _ ((HM.out.cons (pt g3 (.cells #[.int .i64 17, .int .i64 fd, .int .i64 n, .int .i64 off, .int .i64 flags, sV path, sV dest, ov] 35))).cons (pt g4 (.cells #[.int .i64 0, .int .i64 0, .int .i64 0, .int .i64 0, nilV, nilV] 32))) (HO1.out.re 3 [2, 0, 1])).mono ?_
  rintro e w2 ⟨rfl, hO2, hK2⟩
  have HO2 := hid hO2
  have HK2 := hid ((HK1.out).trans hK2)
  clear hO2 hK2
  try dsimp only
  have HO3 := hid (show Has w2 (pt g4 (.cells (ansC (ansE 0) nilV nilV) 32) :: Trc q S :: L) from HO2.out.re 3 [1, 0])
  have hz0 : w2.cell? ⟨g4, 0, none⟩ = some (.int .i64 0) := (HO3.out).cells 0
  have hz1 : w2.cell? ⟨g4, 1, none⟩ = some (.int .i64 0) := (HO3.out).cells 1
  have hz2 : w2.cell? ⟨g4, 2, none⟩ = some (.int .i64 0) := (HO3.out).cells 2
  have hz3 : w2.cell? ⟨g4, 3, none⟩ = some (.int .i64 0) := (HO3.out).cells 3
  have hz4 : w2.cell? ⟨g4, 4, none⟩ = some (.slice none 0 0) := (HO3.out).cells 4
  have hz5 : w2.cell? ⟨g4, 5, none⟩ = some (.slice none 0 0) := (HO3.out).cells 5
  have hy0 := (HO3.out).thaw 0
  have hy1 := (HO3.out).thaw 1
  have hy2 := (HO3.out).thaw 2
  have hy3 := (HO3.out).thaw 3
  have hy4 := (HO3.out).thaw 4
  have hy5 := (HO3.out).thaw 5
  unfold ansV ansC
  go_wp2_with fail
  have h1 := HO3.out.ans R nilV nilV
  refine bodyPost_ret (ans_result rfl rfl h1) rfl ?_
  exact ⟨rfl, h1.drop, HK2.out.ans _ _ _ _ _ _ _⟩
end Go.Proofs.YtonhcefgakmpfaaGreatDoor
/- THE WALK of tree.list. -/
namespace Go.Proofs.YtonhcefgakmpfaaGreatDoor
open Go.RowKit Go.Own
set_option maxRecDepth 100000 in
set_option maxHeartbeats 16000000 in
theorem tList (q : Nat) (S : Tre) (o : Opm) (ov : Value) (mx : Int) (w : World) (L : List HP) (hk : o.kind = 14 ∨ o.kind = 18) (hW : Wk S) (hM : MxL mx L) (hp : o.path.length ≤ 100000) (hdl : ∀ n x, fnd S.nodes n = some x → x.data.length ≤ 100000 ∧ x.names.length ≤ 1000000) (hO : Has w (Trc q S :: L)) :
    Calls Tryz.prog 63 #[.pointer (some ⟨q, 0, none⟩), opV o ov] w fun e w' => ∃ dv nv, e = .returned (ansV (S.list o.kind o.path) dv nv) ∧ Has w' (Bytes dv (S.list o.kind o.path).data :: Strs nv (S.list o.kind o.path).names :: Trc q S :: L) ∧ Keep w w' := by
  have HF := hid (fun (w : World) (L' : List HP) (hM : MxL mx L') (hO : Has w (Trc q S :: L')) => tFind q S o.path (o.kind == 18) mx w L' hW hM hp hO)
  have HTH := hid (find_there hW o.path (o.kind == 18))
  generalize hR : S.list o.kind o.path = R
  unfold Tre.list at hR
  generalize S.find o.path (o.kind == 18) = F at *
  obtain ⟨s2, e2⟩ := F
  dsimp only at *
  have HR := hid hR
  have HM := hid hM
  have HDL := hid hdl
  have HO := hid hO
  clear hO hR hW hM hp hdl
  unfold opV opC
  go_enter Tryz.func63, Tryz.ntmps63
  go_upto_region 1 with fail
  have h1 := (HO.out.alloc (.cells (opC o ov) 35)).alloc (.cells (ansC (ansE 0) nilV nilV) 32)
  have HK1 := hid (((Keep.refl w).alloc (.cells (opC o ov) 35)).alloc (.cells (ansC (ansE 0) nilV nilV) 32))
  unfold opC ansC ansE at h1 HK1
  have e1 : (w.alloc (.cells #[.int .i64 o.kind, .int .i64 o.fd, .int .i64 o.n, .int .i64 o.off, .int .i64 o.flags, sV o.path, sV o.dest, ov] 35)).heap.size = w.heap.size + 1 := by show (Array.push _ _).size = _; rw [Array.size_push]
  rw [e1] at h1
  have HO1 := hid h1
  clear h1 e1 HO
  generalize (w.alloc (.cells #[.int .i64 o.kind, .int .i64 o.fd, .int .i64 o.n, .int .i64 o.off, .int .i64 o.flags, sV o.path, sV o.dest, ov] 35)).alloc (.cells #[.int .i64 0, .int .i64 0, .int .i64 0, .int .i64 0, nilV, nilV] 32) = w1 at *
  generalize w.heap.size = g3 at *
  generalize g3 + 1 = g4 at *
  have hp5 : w1.cell? ⟨g3, 5, none⟩ = some (sV o.path) := HO1.out.p1.cells 5
  have hp6 : w1.cell? ⟨g3, 6, none⟩ = some (sV o.dest) := HO1.out.p1.cells 6
  have hp0 : w1.cell? ⟨g3, 0, none⟩ = some (.int .i64 o.kind) := HO1.out.p1.cells 0
  have HMG := hid (show MxL mx (pt g4 (.cells (ansC (ansE 0) nilV nilV) 32) :: pt g3 (.cells (opC o ov) 35) :: L) from (HM.out.cons _).cons _)
  go_cut [5, 6] (fun p5 e6 wx => ∃ (w3 : World) (g5 : Nat), w3 = wx ∧ e6 = .int .i64 e2 ∧ p5 = .pointer (some ⟨g5, 0, none⟩) ∧ Hid (Has w3 (Trc q S :: pt g5 (.cells (spC s2) 93) :: pt g4 (.cells (ansC (ansE 0) nilV nilV) 32) :: pt g3 (.cells (opC o ov) 35) :: L)) ∧ Hid (Keep w w3))
  case first =>
    go_wp2_with fail
    refine (HF.out w1 _ HMG.out (HO1.out.re 3 [2, 0, 1])).mono ?_
    rintro e w2 ⟨rfl, hO2, hK2⟩
    have HO2 := hid hO2
    have HK2 := hid ((HK1.out).trans hK2)
    clear hO2 hK2
    try dsimp only
    unfold spV spC
    go_wp2_with fail
    go_meet
    exact ⟨_, _, rfl, rfl, rfl, hid ((HO2.out.alloc (.cells (spC s2) 93)).p1), hid (HK2.out.alloc _)⟩
  case rest =>
    obtain ⟨w3, g5, rfl, rfl, rfl, HO3, HK3⟩ := hcut
    clear HO1 HK1 hp5 hp6 hp0 HF
    have HOa := hid (show Has w3 (pt g4 (.cells (ansC (ansE 0) nilV nilV) 32) :: Trc q S :: L) from HO3.out.re 4 [2, 0])
    by_cases he : e2 = 0
    · subst he
      obtain ⟨x, hx⟩ := HTH.out rfl
      have hat : S.at_ s2.node = x := by unfold Tre.at_; rw [hx]; rfl
      have HXD := hid (HDL.out _ _ hx)
      have HR1 := hid (show (if o.kind = 18 ∧ x.kind ≠ 2 then ansE 7 else if o.kind = 18 then ⟨0, 0, 0, 0, [], sortedS (x.names.map Prod.fst)⟩ else if x.kind ≠ 3 then ansE 2 else ⟨0, 0, 0, 0, x.data, []⟩) = R from by
        have h := HR.out
        rw [if_neg (fun h => h rfl), hat] at h
        exact h)
      clear HR
      obtain ⟨m, f, P, hPT, h⟩ := trc_iff.1 HO3.out.drew
      have HPT := hid hPT
      have hx' := hx
      rw [← hPT.1] at hx'
      obtain ⟨b, hb, hl⟩ := Trb.look h hx'
      have hq := (Trb.cells h).1
      have hs0 : w3.drew.cell? ⟨g5, 0, none⟩ = some (.int .i64 s2.node) := h.p1.cells 0
      have HO4 := hid h
      have HK4 := hid HK3.out.drew
      have HB := hid hb
      clear h hx' hPT HO3 HK3 HOa hb
      go_upto_region 4 with fail
      refine region_text (fun w' => w'.cell? ⟨q, 0, none⟩ = some (.map (some m)) ∧ w'.cell? ⟨g5, 0, none⟩ = some (.int .i64 s2.node) ∧ (Instr.lookup tNo (.map (some m)) (.int .i64 s2.node) false).run Tryz.prog w' = .ok (.pointer (some ⟨b, 0, none⟩)) w') (by kernel_rfl) (by kernel_rfl) ⟨hq, hs0, hl⟩ ?_
      repeat (first
        | (refine wpL_read (by rfl) (by rfl) ?_ ?_ ?_; rotate_left; (rintro w ⟨z0, z1, z2⟩; go_simp; with_reducible rfl); simp only [Act.put, List.setIfInBounds_toArray, List.set_cons_zero, List.set_cons_succ]) | (refine wpL_skip (by rfl) ?_; simp only [Act.put, List.setIfInBounds_toArray, List.set_cons_zero, List.set_cons_succ]))
      refine wpL_nil ?_
      clear hq hs0 hl
      generalize w3.drew = w4 at *
      obtain ⟨A, B, dv, wv, nm, hPe, hnm, hN⟩ := Trb.take HO4.out HB.out
      have HPe := hid hPe
      have HNM := hid hnm
      have HN := hid hN
      clear hPe hnm hN
      have hb0 : w4.cell? ⟨b, 0, none⟩ = some (.int .i64 x.kind) := HN.out.cells 0
      have hb1 : w4.cell? ⟨b, 1, none⟩ = some dv := HN.out.cells 1
      have hb3 : w4.cell? ⟨b, 3, none⟩ = some (.map nm) := HN.out.cells 3
      have hg0 : w4.cell? ⟨g3, 0, none⟩ = some (.int .i64 o.kind) := HO4.out.p3.cells 0
      have HOa := hid (show Has w4 (pt g4 (.cells (ansC (ansE 0) nilV nilV) 32) :: Trc q S :: L) from (trc_iff.2 ⟨m, f, P, HPT.out, HO4.out.re 4 [0, 2]⟩ : Has w4 (Trc q S :: pt g4 (.cells (ansC (ansE 0) nilV nilV) 32) :: L)).re 2 [1, 0])
      rcases hk with hk | hk
      · rw [hk] at hg0
        by_cases hx3 : x.kind = 3
        · have hxb : (x.kind != 3) = false := by simp [hx3]
          have HRR := hid (show R = ⟨0, 0, 0, 0, x.data, []⟩ from by rw [← HR1.out, if_neg (fun h => absurd (hk.symm.trans h.1) (by decide)), if_neg (fun h => absurd (hk.symm.trans h) (by decide)), if_neg (fun h => h hx3)])
          have hrd := Dat.rd HN.out.p1
          obtain ⟨pd, cd, rfl, -⟩ := hrd.form
          have HRD := hid hrd
          clear hrd
          go_wp2_with fail
          refine (cloneBy _ x.data w4 _ HOa.out HRD.out (by have := HXD.out; omega)).mono ?_
          rintro e w6 ⟨v6, rfl, hO6, hK6⟩
          have HO6 := hid hO6
          have HK6 := hid ((HK4.out).trans hK6)
          clear hO6 hK6
          try dsimp only
          obtain ⟨p6, c6, rfl, -⟩ := (Bytes.rd HO6.out).form
          clear hb0 hb1 hb3 hg0
          have HOb := hid (show Has w6 (pt g4 (.cells (ansC (ansE 0) nilV nilV) 32) :: Bytes (.slice p6 x.data.length c6) x.data :: Trc q S :: L) from HO6.out.p1)
          have hz0 : w6.cell? ⟨g4, 0, none⟩ = some (.int .i64 0) := (HOb.out).cells 0
          have hz1 : w6.cell? ⟨g4, 1, none⟩ = some (.int .i64 0) := (HOb.out).cells 1
          have hz2 : w6.cell? ⟨g4, 2, none⟩ = some (.int .i64 0) := (HOb.out).cells 2
          have hz3 : w6.cell? ⟨g4, 3, none⟩ = some (.int .i64 0) := (HOb.out).cells 3
          have hz4 : w6.cell? ⟨g4, 4, none⟩ = some (.slice none 0 0) := (HOb.out).cells 4
          have hz5 : w6.cell? ⟨g4, 5, none⟩ = some (.slice none 0 0) := (HOb.out).cells 5
          have hy0 := (HOb.out).thaw 0
          have hy1 := (HOb.out).thaw 1
          have hy2 := (HOb.out).thaw 2
          have hy3 := (HOb.out).thaw 3
          have hy4 := (HOb.out).thaw 4
          have hy5 := (HOb.out).thaw 5
          go_wp2_with fail
          have h1 := HOb.out.ans ⟨0, 0, 0, 0, x.data, []⟩ (.slice p6 x.data.length c6) nilV
          refine bodyPost_ret (ans_result rfl rfl h1) rfl ?_
          rw [HRR.out]
          exact ⟨_, nilV, rfl, (h1.drop.row_nil tStr 1).re 3 [1, 0, 2], HK6.out.ans _ _ _ _ _ _ _⟩
        · have hxb : (x.kind != 3) = true := by simpa using hx3
          have HRR := hid (show R = ansE 2 from by rw [← HR1.out, if_neg (fun h => absurd (hk.symm.trans h.1) (by decide)), if_neg (fun h => absurd (hk.symm.trans h) (by decide)), if_pos hx3])
          have hz0 : w4.cell? ⟨g4, 0, none⟩ = some (.int .i64 0) := (HOa.out).cells 0
          have hz1 : w4.cell? ⟨g4, 1, none⟩ = some (.int .i64 0) := (HOa.out).cells 1
          have hz2 : w4.cell? ⟨g4, 2, none⟩ = some (.int .i64 0) := (HOa.out).cells 2
          have hz3 : w4.cell? ⟨g4, 3, none⟩ = some (.int .i64 0) := (HOa.out).cells 3
          have hz4 : w4.cell? ⟨g4, 4, none⟩ = some (.slice none 0 0) := (HOa.out).cells 4
          have hz5 : w4.cell? ⟨g4, 5, none⟩ = some (.slice none 0 0) := (HOa.out).cells 5
          have hy0 := (HOa.out).thaw 0
          have hy1 := (HOa.out).thaw 1
          have hy2 := (HOa.out).thaw 2
          have hy3 := (HOa.out).thaw 3
          have hy4 := (HOa.out).thaw 4
          have hy5 := (HOa.out).thaw 5
          go_wp2_with fail
          refine (tCode (2 : Int) w4 _ HOa.out).mono ?_
          rintro e w15 ⟨rfl, hO15, hK15⟩
          have HO15 := hid hO15
          have HK15 := hid ((HK4.out).trans hK15)
          clear hO15 hK15
          unfold ansV ansC ansE
          clear hz0 hz1 hz2 hz3 hz4 hz5 hy0 hy1 hy2 hy3 hy4 hy5
          have hz0 : w15.cell? ⟨g4, 0, none⟩ = some (.int .i64 0) := (HO15.out).cells 0
          have hz1 : w15.cell? ⟨g4, 1, none⟩ = some (.int .i64 0) := (HO15.out).cells 1
          have hz2 : w15.cell? ⟨g4, 2, none⟩ = some (.int .i64 0) := (HO15.out).cells 2
          have hz3 : w15.cell? ⟨g4, 3, none⟩ = some (.int .i64 0) := (HO15.out).cells 3
          have hz4 : w15.cell? ⟨g4, 4, none⟩ = some (.slice none 0 0) := (HO15.out).cells 4
          have hz5 : w15.cell? ⟨g4, 5, none⟩ = some (.slice none 0 0) := (HO15.out).cells 5
          have hy0 := (HO15.out).thaw 0
          have hy1 := (HO15.out).thaw 1
          have hy2 := (HO15.out).thaw 2
          have hy3 := (HO15.out).thaw 3
          have hy4 := (HO15.out).thaw 4
          have hy5 := (HO15.out).thaw 5
          go_wp2_with fail
          have h1 := ((show Has w15 (pt g4 (.cells (ansC (ansE 0) nilV nilV) 32) :: Trc q S :: L) from HO15.out)).ans (ansE (2 : Int)) nilV nilV
          refine bodyPost_ret (ans_result rfl rfl h1) rfl ?_
          rw [HRR.out]
          exact ⟨nilV, nilV, rfl, (h1.drop.row_nil tStr 1).row_nil 5 1, HK15.out.ans _ _ _ _ _ _ _⟩
      · rw [hk] at hg0
        by_cases hx2 : x.kind = 2
        · have hxb : (x.kind != 2) = false := by simp [hx2]
          have HRR := hid (show R = ⟨0, 0, 0, 0, [], sortedS (x.names.map Prod.fst)⟩ from by rw [← HR1.out, if_neg (fun h => h.2 hx2), if_pos hk])
          obtain ⟨mm, rfl⟩ := HNM.out hx2
          have HOm := hid (show Has w4 (Mk kStr vInt mm x.names :: pt b (.cells (nodC x dv wv (some mm)) 83) :: Dat x.kind dv x.data :: Bools wv x.wr :: Trg q m f P S.last S.tab (A ++ B) :: pt g5 (.cells (spC s2) 93) :: pt g4 (.cells (ansC (ansE 0) nilV nilV) 32) :: pt g3 (.cells (opC o ov) 35) :: L) from HN.out.re 4 [3, 0, 1, 2])
          go_wp2_with fail
          refine (keysK mm w4).mono ?_
          rintro e w' ⟨rfl, rfl⟩
          try dsimp only
          go_wp2_with fail
          refine (sortedK mm x.names w4 _ HXD.out.2 HOm.out).mono ?_
          rintro e w6 ⟨v6, rfl, hO6, hK6⟩
          try dsimp only
          have HO6 := hid (show Has w6 (pt g4 (.cells (ansC (ansE 0) nilV nilV) 32) :: Strs v6 (sortedS (x.names.map Prod.fst)) :: Trc q S :: L) from by
            have h1 := hO6.re 9 [2, 3, 4, 1, 5, 0, 7]
            have h2 := Trb.shut HPe.out (fun _ => ⟨mm, rfl⟩) h1
            rw [← HPe.out] at h2
            have h3 := trc_iff.2 ⟨m, f, P, HPT.out, h2⟩
            exact h3.re 3 [2, 1, 0])
          have HK6 := hid (HK4.out.trans hK6)
          clear hO6 hK6 HOm HN HO4 HOa hb0 hb1 hb3 hg0
          obtain ⟨p6, c6, rfl, -⟩ := (Strs.rd HO6.out.p1).form
          have hz0 : w6.cell? ⟨g4, 0, none⟩ = some (.int .i64 0) := (HO6.out).cells 0
          have hz1 : w6.cell? ⟨g4, 1, none⟩ = some (.int .i64 0) := (HO6.out).cells 1
          have hz2 : w6.cell? ⟨g4, 2, none⟩ = some (.int .i64 0) := (HO6.out).cells 2
          have hz3 : w6.cell? ⟨g4, 3, none⟩ = some (.int .i64 0) := (HO6.out).cells 3
          have hz4 : w6.cell? ⟨g4, 4, none⟩ = some (.slice none 0 0) := (HO6.out).cells 4
          have hz5 : w6.cell? ⟨g4, 5, none⟩ = some (.slice none 0 0) := (HO6.out).cells 5
          have hy0 := (HO6.out).thaw 0
          have hy1 := (HO6.out).thaw 1
          have hy2 := (HO6.out).thaw 2
          have hy3 := (HO6.out).thaw 3
          have hy4 := (HO6.out).thaw 4
          have hy5 := (HO6.out).thaw 5
          go_wp2_with fail
          have h1 := HO6.out.ans ⟨0, 0, 0, 0, [], sortedS (x.names.map Prod.fst)⟩ nilV (.slice p6 (sortedS (x.names.map Prod.fst)).length c6)
          refine bodyPost_ret (ans_result rfl rfl h1) rfl ?_
          rw [HRR.out]
          exact ⟨nilV, _, rfl, h1.drop.row_nil 5 1, HK6.out.ans _ _ _ _ _ _ _⟩
        · have hxb : (x.kind != 2) = true := by simpa using hx2
          have HRR := hid (show R = ansE 7 from by rw [← HR1.out, if_pos ⟨hk, hx2⟩])
          have hz0 : w4.cell? ⟨g4, 0, none⟩ = some (.int .i64 0) := (HOa.out).cells 0
          have hz1 : w4.cell? ⟨g4, 1, none⟩ = some (.int .i64 0) := (HOa.out).cells 1
          have hz2 : w4.cell? ⟨g4, 2, none⟩ = some (.int .i64 0) := (HOa.out).cells 2
          have hz3 : w4.cell? ⟨g4, 3, none⟩ = some (.int .i64 0) := (HOa.out).cells 3
          have hz4 : w4.cell? ⟨g4, 4, none⟩ = some (.slice none 0 0) := (HOa.out).cells 4
          have hz5 : w4.cell? ⟨g4, 5, none⟩ = some (.slice none 0 0) := (HOa.out).cells 5
          have hy0 := (HOa.out).thaw 0
          have hy1 := (HOa.out).thaw 1
          have hy2 := (HOa.out).thaw 2
          have hy3 := (HOa.out).thaw 3
          have hy4 := (HOa.out).thaw 4
          have hy5 := (HOa.out).thaw 5
          go_wp2_with fail
          refine (tCode (7 : Int) w4 _ HOa.out).mono ?_
          rintro e w15 ⟨rfl, hO15, hK15⟩
          have HO15 := hid hO15
          have HK15 := hid ((HK4.out).trans hK15)
          clear hO15 hK15
          unfold ansV ansC ansE
          clear hz0 hz1 hz2 hz3 hz4 hz5 hy0 hy1 hy2 hy3 hy4 hy5
          have hz0 : w15.cell? ⟨g4, 0, none⟩ = some (.int .i64 0) := (HO15.out).cells 0
          have hz1 : w15.cell? ⟨g4, 1, none⟩ = some (.int .i64 0) := (HO15.out).cells 1
          have hz2 : w15.cell? ⟨g4, 2, none⟩ = some (.int .i64 0) := (HO15.out).cells 2
          have hz3 : w15.cell? ⟨g4, 3, none⟩ = some (.int .i64 0) := (HO15.out).cells 3
          have hz4 : w15.cell? ⟨g4, 4, none⟩ = some (.slice none 0 0) := (HO15.out).cells 4
          have hz5 : w15.cell? ⟨g4, 5, none⟩ = some (.slice none 0 0) := (HO15.out).cells 5
          have hy0 := (HO15.out).thaw 0
          have hy1 := (HO15.out).thaw 1
          have hy2 := (HO15.out).thaw 2
          have hy3 := (HO15.out).thaw 3
          have hy4 := (HO15.out).thaw 4
          have hy5 := (HO15.out).thaw 5
          go_wp2_with fail
          have h1 := ((show Has w15 (pt g4 (.cells (ansC (ansE 0) nilV nilV) 32) :: Trc q S :: L) from HO15.out)).ans (ansE (7 : Int)) nilV nilV
          refine bodyPost_ret (ans_result rfl rfl h1) rfl ?_
          rw [HRR.out]
          exact ⟨nilV, nilV, rfl, (h1.drop.row_nil tStr 1).row_nil 5 1, HK15.out.ans _ _ _ _ _ _ _⟩
    · have heb : (e2 != 0) = true := by simpa using he
      have HRR := hid (show R = ansE e2 from by rw [← HR.out, if_pos he])
      have hz0 : w3.cell? ⟨g4, 0, none⟩ = some (.int .i64 0) := (HOa.out).cells 0
      have hz1 : w3.cell? ⟨g4, 1, none⟩ = some (.int .i64 0) := (HOa.out).cells 1
      have hz2 : w3.cell? ⟨g4, 2, none⟩ = some (.int .i64 0) := (HOa.out).cells 2
      have hz3 : w3.cell? ⟨g4, 3, none⟩ = some (.int .i64 0) := (HOa.out).cells 3
      have hz4 : w3.cell? ⟨g4, 4, none⟩ = some (.slice none 0 0) := (HOa.out).cells 4
      have hz5 : w3.cell? ⟨g4, 5, none⟩ = some (.slice none 0 0) := (HOa.out).cells 5
      have hy0 := (HOa.out).thaw 0
      have hy1 := (HOa.out).thaw 1
      have hy2 := (HOa.out).thaw 2
      have hy3 := (HOa.out).thaw 3
      have hy4 := (HOa.out).thaw 4
      have hy5 := (HOa.out).thaw 5
      go_wp2_with fail
      refine (tCode (e2 : Int) w3 _ HOa.out).mono ?_
      rintro e w15 ⟨rfl, hO15, hK15⟩
      have HO15 := hid hO15
      have HK15 := hid ((HK3.out).trans hK15)
      clear hO15 hK15
      unfold ansV ansC ansE
      clear hz0 hz1 hz2 hz3 hz4 hz5 hy0 hy1 hy2 hy3 hy4 hy5
      have hz0 : w15.cell? ⟨g4, 0, none⟩ = some (.int .i64 0) := (HO15.out).cells 0
      have hz1 : w15.cell? ⟨g4, 1, none⟩ = some (.int .i64 0) := (HO15.out).cells 1
      have hz2 : w15.cell? ⟨g4, 2, none⟩ = some (.int .i64 0) := (HO15.out).cells 2
      have hz3 : w15.cell? ⟨g4, 3, none⟩ = some (.int .i64 0) := (HO15.out).cells 3
      have hz4 : w15.cell? ⟨g4, 4, none⟩ = some (.slice none 0 0) := (HO15.out).cells 4
      have hz5 : w15.cell? ⟨g4, 5, none⟩ = some (.slice none 0 0) := (HO15.out).cells 5
      have hy0 := (HO15.out).thaw 0
      have hy1 := (HO15.out).thaw 1
      have hy2 := (HO15.out).thaw 2
      have hy3 := (HO15.out).thaw 3
      have hy4 := (HO15.out).thaw 4
      have hy5 := (HO15.out).thaw 5
      go_wp2_with fail
      have h1 := ((show Has w15 (pt g4 (.cells (ansC (ansE 0) nilV nilV) 32) :: Trc q S :: L) from HO15.out)).ans (ansE (e2 : Int)) nilV nilV
      refine bodyPost_ret (ans_result rfl rfl h1) rfl ?_
      rw [HRR.out]
      exact ⟨nilV, nilV, rfl, (h1.drop.row_nil tStr 1).row_nil 5 1, HK15.out.ans _ _ _ _ _ _ _⟩
end Go.Proofs.YtonhcefgakmpfaaGreatDoor
/- THE WALK of tree.Do: readlink, readdir. -/
namespace Go.Proofs.YtonhcefgakmpfaaGreatDoor
open Go.RowKit Go.Own
set_option maxRecDepth 100000 in
set_option maxHeartbeats 8000000 in
theorem doReadlink (q : Nat) (S : Tre) (fd n off flags : Int) (path dest : Str) (ov : Value) (w : World) (L : List HP) (mx : Int) (hW : Wk S) (hM : MxL mx L) (hp : path.length ≤ 100000) (hdl : ∀ n x, fnd S.nodes n = some x → x.data.length ≤ 100000 ∧ x.names.length ≤ 1000000) (hO : Has w (Trc q S :: L)) :
    Calls Tryz.prog 17 #[.pointer (some ⟨q, 0, none⟩), opV ⟨14, fd, n, off, flags, path, dest⟩ (ov)] w fun e w' => ∃ dv nv, e = .returned (ansV (S.list 14 path) dv nv) ∧ Has w' (Bytes dv (S.list 14 path).data :: Strs nv (S.list 14 path).names :: Trc q S :: L) ∧ Keep w w' := by
  have HX0 := (fun (w : World) (L' : List HP) (hM : MxL mx L') (hO : Has w (Trc q S :: L')) => tList q S ⟨14, fd, n, off, flags, path, dest⟩ ov mx w L' (.inl rfl) hW hM hp hdl hO)
  try dsimp only at HX0
  have HX := hid HX0
  clear HX0
  have HM := hid hM
  clear hM
  generalize S.list 14 path = R at *
  have HO := hid hO
  clear hO
  try unfold opV opC at HX
  unfold opV opC
  go_enter Tryz.func17, Tryz.ntmps17
  go_upto_region 1 with fail
  have h1 := (HO.out.alloc (.cells #[.int .i64 14, .int .i64 fd, .int .i64 n, .int .i64 off, .int .i64 flags, sV path, sV dest, ov] 35)).alloc (.cells (ansC (ansE 0) nilV nilV) 32)
  have HK1 := hid (((Keep.refl w).alloc (.cells #[.int .i64 14, .int .i64 fd, .int .i64 n, .int .i64 off, .int .i64 flags, sV path, sV dest, ov] 35)).alloc (.cells (ansC (ansE 0) nilV nilV) 32))
  unfold ansC ansE at h1 HK1
  have e1 : (w.alloc (.cells #[.int .i64 14, .int .i64 fd, .int .i64 n, .int .i64 off, .int .i64 flags, sV path, sV dest, ov] 35)).heap.size = w.heap.size + 1 := by show (Array.push _ _).size = _; rw [Array.size_push]
  rw [e1] at h1
  have HO1 := hid h1
  clear h1 e1 HO
  generalize (w.alloc (.cells #[.int .i64 14, .int .i64 fd, .int .i64 n, .int .i64 off, .int .i64 flags, sV path, sV dest, ov] 35)).alloc (.cells #[.int .i64 0, .int .i64 0, .int .i64 0, .int .i64 0, nilV, nilV] 32) = w1 at *
  generalize w.heap.size = g3 at *
  generalize g3 + 1 = g4 at *
  have hp0 : w1.cell? ⟨g3, 0, none⟩ = some (.int .i64 14) := HO1.out.p1.cells 0
  have hp1 : w1.cell? ⟨g3, 1, none⟩ = some (.int .i64 fd) := HO1.out.p1.cells 1
  have hp2 : w1.cell? ⟨g3, 2, none⟩ = some (.int .i64 n) := HO1.out.p1.cells 2
  have hp3 : w1.cell? ⟨g3, 3, none⟩ = some (.int .i64 off) := HO1.out.p1.cells 3
  have hp4 : w1.cell? ⟨g3, 4, none⟩ = some (.int .i64 flags) := HO1.out.p1.cells 4
  have hp5 : w1.cell? ⟨g3, 5, none⟩ = some (sV path) := HO1.out.p1.cells 5
  have hp6 : w1.cell? ⟨g3, 6, none⟩ = some (sV dest) := HO1.out.p1.cells 6
  have hp7 : w1.cell? ⟨g3, 7, none⟩ = some (ov) := HO1.out.p1.cells 7
  go_wp2_with fail
  refine (HX.out w1 _ ((HM.out.cons (pt g3 (.cells #[.int .i64 14, .int .i64 fd, .int .i64 n, .int .i64 off, .int .i64 flags, sV path, sV dest, ov] 35))).cons (pt g4 (.cells #[.int .i64 0, .int .i64 0, .int .i64 0, .int .i64 0, nilV, nilV] 32))) (HO1.out.re 3 [2, 0, 1])).mono ?_
  rintro e w2 ⟨dv, nv, rfl, hO2, hK2⟩
  have HO2 := hid hO2
  have HK2 := hid ((HK1.out).trans hK2)
  clear hO2 hK2
  try dsimp only
  obtain ⟨pd, cd, rfl, -⟩ := (Bytes.rd HO2.out).form
  obtain ⟨pn, cn, rfl, -⟩ := (Strs.rd HO2.out.p1).form
  generalize R.data.length = dl at *
  generalize R.names.length = nl at *
  have HO3 := hid (show Has w2 (pt g4 (.cells (ansC (ansE 0) nilV nilV) 32) :: Bytes (.slice pd dl cd) R.data :: Strs (.slice pn nl cn) R.names :: Trc q S :: L) from HO2.out.re 5 [3, 0, 1, 2])
  have hz0 : w2.cell? ⟨g4, 0, none⟩ = some (.int .i64 0) := (HO3.out).cells 0
  have hz1 : w2.cell? ⟨g4, 1, none⟩ = some (.int .i64 0) := (HO3.out).cells 1
  have hz2 : w2.cell? ⟨g4, 2, none⟩ = some (.int .i64 0) := (HO3.out).cells 2
  have hz3 : w2.cell? ⟨g4, 3, none⟩ = some (.int .i64 0) := (HO3.out).cells 3
  have hz4 : w2.cell? ⟨g4, 4, none⟩ = some (.slice none 0 0) := (HO3.out).cells 4
  have hz5 : w2.cell? ⟨g4, 5, none⟩ = some (.slice none 0 0) := (HO3.out).cells 5
  have hy0 := (HO3.out).thaw 0
  have hy1 := (HO3.out).thaw 1
  have hy2 := (HO3.out).thaw 2
  have hy3 := (HO3.out).thaw 3
  have hy4 := (HO3.out).thaw 4
  have hy5 := (HO3.out).thaw 5
  unfold ansV ansC
  go_wp2_with fail
  have h1 := HO3.out.ans R (.slice pd dl cd) (.slice pn nl cn)
  refine bodyPost_ret (ans_result rfl rfl h1) rfl ?_
  exact ⟨_, _, rfl, h1.drop, HK2.out.ans _ _ _ _ _ _ _⟩
set_option maxRecDepth 100000 in
set_option maxHeartbeats 8000000 in
theorem doReaddir (q : Nat) (S : Tre) (fd n off flags : Int) (path dest : Str) (ov : Value) (w : World) (L : List HP) (mx : Int) (hW : Wk S) (hM : MxL mx L) (hp : path.length ≤ 100000) (hdl : ∀ n x, fnd S.nodes n = some x → x.data.length ≤ 100000 ∧ x.names.length ≤ 1000000) (hO : Has w (Trc q S :: L)) :
    Calls Tryz.prog 17 #[.pointer (some ⟨q, 0, none⟩), opV ⟨18, fd, n, off, flags, path, dest⟩ (ov)] w fun e w' => ∃ dv nv, e = .returned (ansV (S.list 18 path) dv nv) ∧ Has w' (Bytes dv (S.list 18 path).data :: Strs nv (S.list 18 path).names :: Trc q S :: L) ∧ Keep w w' := by
  have HX0 := (fun (w : World) (L' : List HP) (hM : MxL mx L') (hO : Has w (Trc q S :: L')) => tList q S ⟨18, fd, n, off, flags, path, dest⟩ ov mx w L' (.inr rfl) hW hM hp hdl hO)
  try dsimp only at HX0
  have HX := hid HX0
  clear HX0
  have HM := hid hM
  clear hM
  generalize S.list 18 path = R at *
  have HO := hid hO
  clear hO
  try unfold opV opC at HX
  unfold opV opC
  go_enter Tryz.func17, Tryz.ntmps17
  go_upto_region 1 with fail
  have h1 := (HO.out.alloc (.cells #[.int .i64 18, .int .i64 fd, .int .i64 n, .int .i64 off, .int .i64 flags, sV path, sV dest, ov] 35)).alloc (.cells (ansC (ansE 0) nilV nilV) 32)
  have HK1 := hid (((Keep.refl w).alloc (.cells #[.int .i64 18, .int .i64 fd, .int .i64 n, .int .i64 off, .int .i64 flags, sV path, sV dest, ov] 35)).alloc (.cells (ansC (ansE 0) nilV nilV) 32))
  unfold ansC ansE at h1 HK1
  have e1 : (w.alloc (.cells #[.int .i64 18, .int .i64 fd, .int .i64 n, .int .i64 off, .int .i64 flags, sV path, sV dest, ov] 35)).heap.size = w.heap.size + 1 := by show (Array.push _ _).size = _; rw [Array.size_push]
  rw [e1] at h1
  have HO1 := hid h1
  clear h1 e1 HO
  generalize (w.alloc (.cells #[.int .i64 18, .int .i64 fd, .int .i64 n, .int .i64 off, .int .i64 flags, sV path, sV dest, ov] 35)).alloc (.cells #[.int .i64 0, .int .i64 0, .int .i64 0, .int .i64 0, nilV, nilV] 32) = w1 at *
  generalize w.heap.size = g3 at *
  generalize g3 + 1 = g4 at *
  have hp0 : w1.cell? ⟨g3, 0, none⟩ = some (.int .i64 18) := HO1.out.p1.cells 0
  have hp1 : w1.cell? ⟨g3, 1, none⟩ = some (.int .i64 fd) := HO1.out.p1.cells 1
  have hp2 : w1.cell? ⟨g3, 2, none⟩ = some (.int .i64 n) := HO1.out.p1.cells 2
  have hp3 : w1.cell? ⟨g3, 3, none⟩ = some (.int .i64 off) := HO1.out.p1.cells 3
  have hp4 : w1.cell? ⟨g3, 4, none⟩ = some (.int .i64 flags) := HO1.out.p1.cells 4
  have hp5 : w1.cell? ⟨g3, 5, none⟩ = some (sV path) := HO1.out.p1.cells 5
  have hp6 : w1.cell? ⟨g3, 6, none⟩ = some (sV dest) := HO1.out.p1.cells 6
  have hp7 : w1.cell? ⟨g3, 7, none⟩ = some (ov) := HO1.out.p1.cells 7
  go_wp2_with fail
  refine (HX.out w1 _ ((HM.out.cons (pt g3 (.cells #[.int .i64 18, .int .i64 fd, .int .i64 n, .int .i64 off, .int .i64 flags, sV path, sV dest, ov] 35))).cons (pt g4 (.cells #[.int .i64 0, .int .i64 0, .int .i64 0, .int .i64 0, nilV, nilV] 32))) (HO1.out.re 3 [2, 0, 1])).mono ?_
  rintro e w2 ⟨dv, nv, rfl, hO2, hK2⟩
  have HO2 := hid hO2
  have HK2 := hid ((HK1.out).trans hK2)
  clear hO2 hK2
  try dsimp only
  obtain ⟨pd, cd, rfl, -⟩ := (Bytes.rd HO2.out).form
  obtain ⟨pn, cn, rfl, -⟩ := (Strs.rd HO2.out.p1).form
  generalize R.data.length = dl at *
  generalize R.names.length = nl at *
  have HO3 := hid (show Has w2 (pt g4 (.cells (ansC (ansE 0) nilV nilV) 32) :: Bytes (.slice pd dl cd) R.data :: Strs (.slice pn nl cn) R.names :: Trc q S :: L) from HO2.out.re 5 [3, 0, 1, 2])
  have hz0 : w2.cell? ⟨g4, 0, none⟩ = some (.int .i64 0) := (HO3.out).cells 0
  have hz1 : w2.cell? ⟨g4, 1, none⟩ = some (.int .i64 0) := (HO3.out).cells 1
  have hz2 : w2.cell? ⟨g4, 2, none⟩ = some (.int .i64 0) := (HO3.out).cells 2
  have hz3 : w2.cell? ⟨g4, 3, none⟩ = some (.int .i64 0) := (HO3.out).cells 3
  have hz4 : w2.cell? ⟨g4, 4, none⟩ = some (.slice none 0 0) := (HO3.out).cells 4
  have hz5 : w2.cell? ⟨g4, 5, none⟩ = some (.slice none 0 0) := (HO3.out).cells 5
  have hy0 := (HO3.out).thaw 0
  have hy1 := (HO3.out).thaw 1
  have hy2 := (HO3.out).thaw 2
  have hy3 := (HO3.out).thaw 3
  have hy4 := (HO3.out).thaw 4
  have hy5 := (HO3.out).thaw 5
  unfold ansV ansC
  go_wp2_with fail
  have h1 := HO3.out.ans R (.slice pd dl cd) (.slice pn nl cn)
  refine bodyPost_ret (ans_result rfl rfl h1) rfl ?_
  exact ⟨_, _, rfl, h1.drop, HK2.out.ans _ _ _ _ _ _ _⟩
end Go.Proofs.YtonhcefgakmpfaaGreatDoor
