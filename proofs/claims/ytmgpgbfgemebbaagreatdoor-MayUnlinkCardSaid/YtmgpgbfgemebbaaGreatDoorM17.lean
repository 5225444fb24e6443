/- TEXTS of mine, merged. -/
import Derived.Test.YtmgpgbfgemebbaaGreatDoorM12
import Derived.Test.YtmgpgbfgemebbaaGreatDoorM13
import Derived.Test.YtmgpgbfgemebbaaGreatDoorM5
import Derived.Test.YtmgpgbfgemebbaaGreatDoorM7
set_option linter.all false
namespace Go.Proofs.YtmgpgbfgemebbaaGreatDoor
open Go.RowKit Go.Own
end Go.Proofs.YtmgpgbfgemebbaaGreatDoor
namespace Go.Proofs.YtmgpgbfgemebbaaGreatDoor
open Go.RowKit Go.Own
end Go.Proofs.YtmgpgbfgemebbaaGreatDoor
namespace Go.Proofs.YtmgpgbfgemebbaaGreatDoor
open Go.RowKit Go.Own
set_option maxRecDepth 100000 in
set_option maxHeartbeats 8000000 in
theorem doSync (q : Nat) (S : Tre) (fd n off flags : Int) (path dest : Str) (ov : Value) (w : World) (L : List HP) (hO : Has w (Trc q S :: L)) :
  Calls Tryz.prog 16 #[.pointer (some ⟨q, 0, none⟩), opV ⟨21, fd, n, off, flags, path, dest⟩ ov] w fun e w' => e = .returned (ansV (ansE 0) nilV nilV) ∧ Has w' (Trc q S :: L) ∧ Keep w w' := by
 have HO := hid hO
 clear hO
 unfold opV opC
 go_enter Tryz.func16, Tryz.ntmps16
 go_upto_region 1 with fail
 have h1 := (HO.out.alloc (.cells #[.int .i64 21, .int .i64 fd, .int .i64 n, .int .i64 off, .int .i64 flags, sV path, sV dest, ov] 33)).alloc (.cells (ansC (ansE 0) nilV nilV) 38)
 have HK1 := hid (((Keep.refl w).alloc (.cells #[.int .i64 21, .int .i64 fd, .int .i64 n, .int .i64 off, .int .i64 flags, sV path, sV dest, ov] 33)).alloc (.cells (ansC (ansE 0) nilV nilV) 38))
 unfold ansC ansE at h1 HK1
 have e1 : (w.alloc (.cells #[.int .i64 21, .int .i64 fd, .int .i64 n, .int .i64 off, .int .i64 flags, sV path, sV dest, ov] 33)).heap.size = w.heap.size + 1 := by show (Array.push _ _).size = _; rw [Array.size_push]
 rw [e1] at h1
 have HO1 := hid h1
 clear h1 e1 HO
 generalize (w.alloc (.cells #[.int .i64 21, .int .i64 fd, .int .i64 n, .int .i64 off, .int .i64 flags, sV path, sV dest, ov] 33)).alloc (.cells #[.int .i64 0, .int .i64 0, .int .i64 0, .int .i64 0, nilV, nilV] 38) = w1 at *
 generalize w.heap.size = g3 at *
 generalize g3 + 1 = g4 at *
 have hp0 : w1.cell? ⟨g3, 0, none⟩ = some (.int .i64 21) := HO1.out.p1.cells 0
 have hp2 : w1.cell? ⟨g3, 2, none⟩ = some (.int .i64 n) := HO1.out.p1.cells 2
 have HO3 := hid (show Has w1 (pt g4 (.cells (ansC (ansE 0) nilV nilV) 38) :: Trc q S :: L) from HO1.out.re 3 [0, 2])
 have hz0 : w1.cell? ⟨g4, 0, none⟩ = some (.int .i64 0) := (HO3.out).cells 0
 have hz1 : w1.cell? ⟨g4, 1, none⟩ = some (.int .i64 0) := (HO3.out).cells 1
 have hz2 : w1.cell? ⟨g4, 2, none⟩ = some (.int .i64 0) := (HO3.out).cells 2
 have hz3 : w1.cell? ⟨g4, 3, none⟩ = some (.int .i64 0) := (HO3.out).cells 3
 have hz4 : w1.cell? ⟨g4, 4, none⟩ = some (.slice none 0 0) := (HO3.out).cells 4
 have hz5 : w1.cell? ⟨g4, 5, none⟩ = some (.slice none 0 0) := (HO3.out).cells 5
 have hy0 := (HO3.out).thaw 0
 have hy1 := (HO3.out).thaw 1
 have hy2 := (HO3.out).thaw 2
 have hy3 := (HO3.out).thaw 3
 have hy4 := (HO3.out).thaw 4
 have hy5 := (HO3.out).thaw 5
 go_wp2_with fail
 have h1 := HO3.out.ans (ansE 0) nilV nilV
 refine bodyPost_ret (ans_result rfl rfl h1) rfl ?_
 exact ⟨rfl, h1.drop, HK1.out.ans _ _ _ _ _ _ _⟩
end Go.Proofs.YtmgpgbfgemebbaaGreatDoor
namespace Go.Proofs.YtmgpgbfgemebbaaGreatDoor
open Go.RowKit Go.Own
end Go.Proofs.YtmgpgbfgemebbaaGreatDoor
namespace Go.Proofs.YtmgpgbfgemebbaaGreatDoor
open Go.RowKit Go.Own
end Go.Proofs.YtmgpgbfgemebbaaGreatDoor
