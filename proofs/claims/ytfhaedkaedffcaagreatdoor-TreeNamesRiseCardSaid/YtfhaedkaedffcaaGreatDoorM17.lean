/- TEXTS of mine, merged. -/
import Derived.Test.YtfhaedkaedffcaaGreatDoorM9
import Derived.Test.YtfhaedkaedffcaaGreatDoorM16
import Derived.Test.YtfhaedkaedffcaaGreatDoorM10
import Derived.Test.YtfhaedkaedffcaaGreatDoorM11
/- THE WALK of tree.seek. -/
namespace Go.Proofs.YtfhaedkaedffcaaGreatDoor
open Go.RowKit Go.Own
end Go.Proofs.YtfhaedkaedffcaaGreatDoor
/- THE WALK of tree.Do, by the kinds of operations. -/
namespace Go.Proofs.YtfhaedkaedffcaaGreatDoor
open Go.RowKit Go.Own
end Go.Proofs.YtfhaedkaedffcaaGreatDoor
/- THE WALK of tree.Do, by the kinds of operations. -/
namespace Go.Proofs.YtfhaedkaedffcaaGreatDoor
open Go.RowKit Go.Own
end Go.Proofs.YtfhaedkaedffcaaGreatDoor
/- THE WALK of tree.Do, by the kinds of operations. -/
namespace Go.Proofs.YtfhaedkaedffcaaGreatDoor
open Go.RowKit Go.Own
set_option maxRecDepth 100000 in
set_option maxHeartbeats 8000000 in
theorem doWrite4 (q : Nat) (S : Tre) (fd n off flags : Int) (path dest : Str) (po : Option Addr) (co : Nat) (ds : List Int) (w : World) (L : List HP) (hop : Opn S) (ho : off ≤ 9223372036854775807) (hds : ds.length ≤ 100000) (hrd : ∀ w', Has w' L → Rd w' (.slice po ds.length co) 1 ds.length (bc ds)) (hO : Has w (Trc q S :: L)) :
    Calls Tryz.prog 17 #[.pointer (some ⟨q, 0, none⟩), opV ⟨4, fd, n, off, flags, path, dest⟩ (.slice po ds.length co)] w fun e w' => ∃ dv, e = .returned (ansV (S.write 4 fd off ds).1 dv nilV) ∧ Has w' (Bytes dv ((S.write 4 fd off ds).1).data :: Trc q (S.write 4 fd off ds).2 :: L) ∧ Keep w w' := by
  have HX0 := (fun (w : World) (L' : List HP) (hrd : ∀ w', Has w' L' → Rd w' (.slice po ds.length co) 1 ds.length (bc ds)) (hO : Has w (Trc q S :: L')) => tWrite q S ⟨4, fd, n, off, flags, path, dest⟩ po co w L' ds (.inl rfl) hop ho hds hrd hO)
  dsimp only at HX0
  have HX := hid HX0
  clear HX0
  have HRD := hid hrd
  clear hrd
  generalize S.write 4 fd off ds = R at *
  have HO := hid hO
  clear hO
  unfold opV opC at HX ⊢
  go_enter Tryz.func17, Tryz.ntmps17
  go_upto_region 1 with fail
  have h1 := (HO.out.alloc (.cells #[.int .i64 4, .int .i64 fd, .int .i64 n, .int .i64 off, .int .i64 flags, sV path, sV dest, .slice po ds.length co] 32)).alloc (.cells (ansC (ansE 0) nilV nilV) 29)
  have HK1 := hid (((Keep.refl w).alloc (.cells #[.int .i64 4, .int .i64 fd, .int .i64 n, .int .i64 off, .int .i64 flags, sV path, sV dest, .slice po ds.length co] 32)).alloc (.cells (ansC (ansE 0) nilV nilV) 29))
  unfold ansC ansE at h1 HK1
  have e1 : (w.alloc (.cells #[.int .i64 4, .int .i64 fd, .int .i64 n, .int .i64 off, .int .i64 flags, sV path, sV dest, .slice po ds.length co] 32)).heap.size = w.heap.size + 1 := by show (Array.push _ _).size = _; rw [Array.size_push]
  rw [e1] at h1
  have HO1 := hid h1
  clear h1 e1 HO
  generalize (w.alloc (.cells #[.int .i64 4, .int .i64 fd, .int .i64 n, .int .i64 off, .int .i64 flags, sV path, sV dest, .slice po ds.length co] 32)).alloc (.cells #[.int .i64 0, .int .i64 0, .int .i64 0, .int .i64 0, nilV, nilV] 29) = w1 at *
  generalize w.heap.size = g3 at *
  generalize g3 + 1 = g4 at *
  have hp0 : w1.cell? ⟨g3, 0, none⟩ = some (.int .i64 4) := HO1.out.p1.cells 0
  have hp1 : w1.cell? ⟨g3, 1, none⟩ = some (.int .i64 fd) := HO1.out.p1.cells 1
  have hp2 : w1.cell? ⟨g3, 2, none⟩ = some (.int .i64 n) := HO1.out.p1.cells 2
  have hp3 : w1.cell? ⟨g3, 3, none⟩ = some (.int .i64 off) := HO1.out.p1.cells 3
  have hp4 : w1.cell? ⟨g3, 4, none⟩ = some (.int .i64 flags) := HO1.out.p1.cells 4
  have hp5 : w1.cell? ⟨g3, 5, none⟩ = some (sV path) := HO1.out.p1.cells 5
  have hp6 : w1.cell? ⟨g3, 6, none⟩ = some (sV dest) := HO1.out.p1.cells 6
  have hp7 : w1.cell? ⟨g3, 7, none⟩ = some (.slice po ds.length co) := HO1.out.p1.cells 7
  go_wp2_with fail
  refine (HX.out w1 _ (fun w' h => HRD.out w' h.drop.drop) (HO1.out.re 3 [2, 0, 1])).mono ?_
  rintro e w2 ⟨dv, rfl, hO2, hK2⟩
  have HO2 := hid hO2
  have HK2 := hid ((HK1.out).trans hK2)
  clear hO2 hK2
  try dsimp only
  obtain ⟨pd, cd, rfl, -⟩ := (Bytes.rd HO2.out).form
  generalize R.1.data.length = dl at *
  have HO3 := hid (show Has w2 (pt g4 (.cells (ansC (ansE 0) nilV nilV) 29) :: Bytes (.slice pd dl cd) R.1.data :: Trc q R.2 :: L) from HO2.out.re 4 [2, 0, 1])
  have hz0 : w2.cell? ⟨g4, 0, none⟩ = some (.int .i64 0) := (HO3.out).cells 0
  have hz1 : w2.cell? ⟨g4, 1, none⟩ = some (.int .i64 0) := (HO3.out).cells 1
  have hz2 : w2.cell? ⟨g4, 2, none⟩ = some (.int .i64 0) := (HO3.out).cells 2
  have hz3 : w2.cell? ⟨g4, 3, none⟩ = some (.int .i64 0) := (HO3.out).cells 3
  have hz4 : w2.cell? ⟨g4, 4, none⟩ = some (.slice none 0 0) := (HO3.out).cells 4
  have hz5 : w2.cell? ⟨g4, 5, none⟩ = some (.slice none 0 0) := (HO3.out).cells 5
  have hy0 := (HO3.out).thaw 0
  have hy1 := (HO3.out).thaw 1
  have hy2 := (HO3.out).thaw 2
  have hy3 := (HO3.out).thaw 3
  have hy4 := (HO3.out).thaw 4
  have hy5 := (HO3.out).thaw 5
  unfold ansV ansC
  go_wp2_with fail
  have h1 := HO3.out.ans R.1 (.slice pd dl cd) nilV
  refine bodyPost_ret (ans_result rfl rfl h1) rfl ?_
  exact ⟨_, rfl, h1.drop, HK2.out.ans _ _ _ _ _ _ _⟩
end Go.Proofs.YtfhaedkaedffcaaGreatDoor
/- THE WALK of tree.Do, by the kinds of operations. -/
namespace Go.Proofs.YtfhaedkaedffcaaGreatDoor
open Go.RowKit Go.Own
end Go.Proofs.YtfhaedkaedffcaaGreatDoor
/- THE WALK of tree.Do, by the kinds of operations. -/
namespace Go.Proofs.YtfhaedkaedffcaaGreatDoor
open Go.RowKit Go.Own
end Go.Proofs.YtfhaedkaedffcaaGreatDoor
/- THE WALK of tree.Do, by the kinds of operations. -/
namespace Go.Proofs.YtfhaedkaedffcaaGreatDoor
open Go.RowKit Go.Own
end Go.Proofs.YtfhaedkaedffcaaGreatDoor
