/- THE WALK of super.Lay. -/
import Derived.Test.YtbggnbahmdgbdaaSeal
import Derived.Test.YtbggnbahmdgbdaaGeomA
import Derived.Test.YtbggnbahmdgbdaaAppG
namespace Go.Proofs.Ytbggnbahmdgbdaa
open Go.RowKit Go.Own Go.Sl Go.Gm
theorem two_boxes' {w : World} {L : List HP} (o1 o2 : Obj) (hO : Has w L) : Has ((w.alloc o1).alloc o2) (pt (w.heap.size + 1) o2 :: pt w.heap.size o1 :: L) := by
  have h := (hO.alloc o1).alloc o2
  rwa [show (w.alloc o1).heap.size = w.heap.size + 1 from Array.size_push _] at h
def superB (g : Geo) : List Int := [80, 82, 76, 1, g.n, g.i, g.b, 1]
def superL (g : Geo) : List Int := sealL 83 (superB g)
set_option maxRecDepth 100000 in
set_option maxHeartbeats 8000000 in
theorem sLayNo (g : Geo) (w : World) (L : List HP) (hm : may g = false) (hO : Has w L) :
    Calls Try.prog 31 #[geoV g, .bool true] w fun e w' => e = .returned (.tuple #[.slice none 0 0, .int .i64 2]) ∧ Has w' L ∧ Keep w w' := by
  have HO := hid (hO.alloc (.cells (gcell g) 24))
  have HK := hid ((Keep.refl w).alloc (.cells (gcell g) 24))
  have HC := hid (fun w' L (h : Has w' L) => gMay g w' L h)
  have hc := (hO.alloc (.cells (gcell g) 24)).cells
  have HM := hid hm
  clear hO hm
  unfold geoV at *
  go_enter Try.func31, Try.ntmps31
  go_wp2_with fail
  refine (HC.out _ _ HO.out).mono ?_
  rintro e w2 ⟨rfl, hO2, hK2⟩
  have HO2 := hid hO2
  have HK2 := hid ((HK.out).trans hK2)
  clear hO2 hK2
  try dsimp only
  clear hc
  have hc := HO2.out.cells
  rw [HM.out]
  go_wp2_with fail
  go_ret2
  exact ⟨rfl, HO2.out.drop, HK2.out⟩
set_option maxRecDepth 100000 in
set_option maxHeartbeats 8000000 in
theorem sLay (g : Geo) (w : World) (L : List HP) (hm : may g = true) (hO : Has w L) :
    Calls Try.prog 31 #[geoV g, .bool true] w fun e w' => ∃ v', e = .returned (.tuple #[v', .int .i64 0]) ∧ Has w' (Bytes v' (superL g) :: L) ∧ Keep w w' := by
  have HO := hid (hO.alloc (.cells (gcell g) 24))
  have HK := hid ((Keep.refl w).alloc (.cells (gcell g) 24))
  have HC := hid (fun w' L (h : Has w' L) => gMay g w' L h)
  have hc := (hO.alloc (.cells (gcell g) 24)).cells
  have HM := hid hm
  clear hO hm
  unfold geoV at *
  go_enter Try.func31, Try.ntmps31
  go_wp2_with fail
  refine (HC.out _ _ HO.out).mono ?_
  rintro e w2 ⟨rfl, hO2, hK2⟩
  have HO2 := hid hO2
  have HK2 := hid ((HK.out).trans hK2)
  clear hO2 hK2
  try dsimp only
  clear hc
  have hc := HO2.out.cells
  rw [HM.out]
  have h1 := may_iff.1 HM.out
  have e1 : g.n % 256 = g.n := by omega
  have e2 : g.i % 256 = g.i := by omega
  have e3 : g.b % 256 = g.b := by omega
  clear h1
  have kc := fun (w : World) (C : Array Value) (n c : Nat) => Lib.run_convert_bytes_const (P := Try.prog) w 35 5 C n c Try.underlying35 Try.underlying5
  have HO3 := hid (two_boxes' (.cells #[.int .u8 80, .int .u8 82, .int .u8 76, .int .u8 1] 5 (4, 5)) (.cells #[.int .u8 g.n, .int .u8 g.i, .int .u8 g.b, .int .u8 1] 5) HO2.out)
  have HK3 := hid ((HK2.out.alloc (.cells #[.int .u8 80, .int .u8 82, .int .u8 76, .int .u8 1] 5 (4, 5))).alloc (.cells #[.int .u8 g.n, .int .u8 g.i, .int .u8 g.b, .int .u8 1] 5))
  have hc2 := (HO2.out.alloc (.cells #[.int .u8 80, .int .u8 82, .int .u8 76, .int .u8 1] 5 (4, 5))).p1.cells
  have HCA := hid HO3.out.p1.cells
  have HCB := hid HO3.out.cells
  go_wp2_with (at_builtin; go_loud (refine wpList_appendGrown rfl _ _ _ rfl Try.underlying35 infoU8 rfl HO3.out.drop.drop.drop w2.heap.size 4 4 [.int .u8 80, .int .u8 82, .int .u8 76, .int .u8 1] rfl rfl (fun j u hj => (HCA.out j).trans (by simpa using hj)) (w2.heap.size + 1) 4 4 [.int .u8 g.n, .int .u8 g.i, .int .u8 g.b, .int .u8 1] rfl rfl (fun j u hj => (HCB.out j).trans (by simpa using hj)) (by omega) (le_maxLen (by omega)) (by omega) ?_))
  intro v4 w4 h4 hk4
  have HO4 := hid (show Has w4 (Bytes v4 (superB g) :: L) from h4)
  have HK4 := hid (HK3.out.trans hk4)
  clear h4 hk4 HO3 HK3 HCA HCB hc hc2 kc HO2 HK2
  go_wp2_with fail
  refine (sSeal 83 v4 (superB g) w4 _ (by decide) (by show 8 ≤ 123; omega) (fun w' h => Bytes.rd h) HO4.out).mono ?_
  rintro e w5 ⟨v5, rfl, hO5, hK5⟩
  have HO5 := hid hO5
  have HK5 := hid ((HK4.out).trans hK5)
  clear hO5 hK5
  try dsimp only
  go_wp2_with fail
  go_ret2
  exact ⟨v5, rfl, HO5.out.p1.drop, HK5.out⟩
end Go.Proofs.Ytbggnbahmdgbdaa
