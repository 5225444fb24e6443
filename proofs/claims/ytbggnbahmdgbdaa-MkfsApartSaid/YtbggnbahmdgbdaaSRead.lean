/- THE WALK of super.Read of what super.Lay laid. -/
import Derived.Test.YtbggnbahmdgbdaaKind
import Derived.Test.YtbggnbahmdgbdaaSuper
import Derived.Test.YtbggnbahmdgbdaaGeomF
namespace Go.Proofs.Ytbggnbahmdgbdaa
open Go.RowKit Go.Own Go.Sl Go.Gm
def bodyS (g : Geo) : List Int := superB g ++ zs 115
theorem bodyS_cells {w : World} {L : List HP} {gb ob c : Nat} {g : Geo} (h : Has w (Bytes (.slice (some ⟨gb, ob, none⟩) 123 c) (bodyS g) :: L)) :
    w.cell? ⟨gb, ob + 4, none⟩ = some (.int .u8 g.n) ∧ w.cell? ⟨gb, ob + 5, none⟩ = some (.int .u8 g.i) ∧ w.cell? ⟨gb, ob + 6, none⟩ = some (.int .u8 g.b) ∧ w.cell? ⟨gb, ob + 7, none⟩ = some (.int .u8 1) := by
  obtain ⟨p, c', e, -, -, hc⟩ := (Bytes.rd h).form
  obtain ⟨g', o', rfl, hd⟩ := hc (show 0 < 123 * 1 by omega)
  injection e with e
  injection e with e
  injection e with e1 e2
  subst e1 e2
  exact ⟨hd 4 (show 4 < 123 * 1 by omega), hd 5 (show 5 < 123 * 1 by omega), hd 6 (show 6 < 123 * 1 by omega), hd 7 (show 7 < 123 * 1 by omega)⟩
theorem geo_result3 {fn : Func} {p a b : Tmp} {tmps : Array Value} {w : World} {L : List HP} {r : Nat} {x y : Value} (g : Geo) (h : fn.results = #[.cell p 24, .tmp a, .tmp b]) (ht : tmps.getD p undef = .pointer (some ⟨r, 0, none⟩)) (ha : tmps.getD a undef = x) (hb : tmps.getD b undef = y) (hO : Has w (pt r (.cells (gcell g) 24) :: L)) :
    (results fn tmps).run Try.prog w = .ok (.tuple #[geoV g, x, y]) w := by
  have h0 : w.cell? ⟨r, 0, none⟩ = some (.int .i64 g.n) := hO.cells 0
  have h1 : w.cell? ⟨r, 1, none⟩ = some (.int .i64 g.i) := hO.cells 1
  have h2 : w.cell? ⟨r, 2, none⟩ = some (.int .i64 g.b) := hO.cells 2
  unfold results geoV
  rw [h]
  have ht2 : tmps[p]?.getD undef = .pointer (some ⟨r, 0, none⟩) := by rw [← ht]; simp
  have ha2 : tmps[a]?.getD undef = x := by rw [← ha]; simp
  have hb2 : tmps[b]?.getD undef = y := by rw [← hb]; simp
  clear hO h ht ha hb
  go_simp
set_option maxRecDepth 100000 in
set_option maxHeartbeats 4000000 in
theorem sRead (g : Geo) (v : Value) (w : World) (L : List HP) (hm : may g = true) (hr : ∀ w', Has w' L → Rd w' v 1 (superL g).length (bc (superL g))) (hO : Has w L) :
    Calls Try.prog 23 #[v] w fun e w' => e = .returned (.tuple #[geoV g, .bool true, .int .i64 0]) ∧ Has w' L ∧ Keep w w' := by
  have HO := hid (hO.alloc (.cells (gcell zero) 24))
  have HK := hid ((Keep.refl w).alloc (.cells (gcell zero) 24))
  have hz : gcell zero = #[.int .i64 0, .int .i64 0, .int .i64 0] := rfl
  rw [hz] at HO HK
  clear hz hO
  have HR := hid hr
  have HM := hid hm
  clear hr hm
  go_enter Try.func23, Try.ntmps23
  go_wp2_with fail
  refine (sOpen 83 v (superB g) _ _ (by decide) (by show 8 ≤ 123; omega) (fun w' h => HR.out w' h.drop) HO.out).mono ?_
  rintro e w2 ⟨v2, rfl, hO2, hK2⟩
  have HO2 := hid hO2
  have HK2 := hid ((HK.out).trans hK2)
  clear hO2 hK2
  try dsimp only
  have HO2 := hid (show Has w2 (Bytes v2 (bodyS g) :: pt w.heap.size (.cells #[.int .i64 0, .int .i64 0, .int .i64 0] 24) :: L) from HO2.out)
  obtain ⟨p, c, rfl, hca, -, hcs⟩ := (Bytes.rd HO2.out).form
  obtain ⟨gb, ob, rfl, -⟩ := hcs (show 0 < 123 * 1 by omega)
  have hl : (bodyS g).length = 123 := rfl
  rw [hl] at HO2 hca
  rw [hl]
  clear hcs hl
  go_upto_region 5 with fail
  clear HO HK
  generalize w.heap.size = r at *
  refine region_text (fun w' => w'.cell? ⟨gb, ob + 4, none⟩ = some (.int .u8 g.n) ∧ w'.cell? ⟨gb, ob + 5, none⟩ = some (.int .u8 g.i) ∧ w'.cell? ⟨gb, ob + 6, none⟩ = some (.int .u8 g.b) ∧ w'.cell? ⟨gb, ob + 7, none⟩ = some (.int .u8 1)) (by kernel_rfl) (by kernel_rfl) (bodyS_cells HO2.out.drew) ?_
  have hw5 : IntKind.i64.wrap 5 = 5 := rfl
  have hw6 : IntKind.i64.wrap 6 = 6 := rfl
  have hw7 : IntKind.i64.wrap 7 = 7 := rfl
  have e1 : IntKind.i64.wrap g.n = g.n := wrapk_in _ (by have := may_iff.1 HM.out; omega)
  have e2 : IntKind.i64.wrap g.i = g.i := wrapk_in _ (by have := may_iff.1 HM.out; omega)
  have e3 : IntKind.i64.wrap g.b = g.b := wrapk_in _ (by have := may_iff.1 HM.out; omega)
  repeat (first
    | (refine wpL_read (by rfl) (by rfl) ?_ ?_ ?_; rotate_left; (rintro w ⟨z0, z1, z2, z3⟩; go_simp; with_reducible rfl); simp only [Act.put, List.setIfInBounds_toArray, List.set_cons_zero, List.set_cons_succ]) | (refine wpL_skip (by rfl) ?_; simp only [Act.put, List.setIfInBounds_toArray, List.set_cons_zero, List.set_cons_succ]))
  refine wpL_act (by rfl) (by rfl) (fun K hK => ?_)
  go_simp
  have HO3 := hid (HO2.out.alloc (.cells #[.int .i64 0, .int .i64 0, .int .i64 0] 24))
  refine hK.out _ _ (bodyS_cells HO3.out.drew.p1) ?_
  clear hK K
  try simp only [Act.put, List.setIfInBounds_toArray, List.set_cons_zero, List.set_cons_succ]
  have hc := HO3.out.drew.cells
  have ht := HO3.out.drew.thaw
  repeat (first
    | (refine wpL_read (by rfl) (by rfl) ?_ ?_ ?_; rotate_left; (rintro w ⟨z0, z1, z2, z3⟩; go_simp; with_reducible rfl); simp only [Act.put, List.setIfInBounds_toArray, List.set_cons_zero, List.set_cons_succ]) | (refine wpL_skip (by rfl) ?_; simp only [Act.put, List.setIfInBounds_toArray, List.set_cons_zero, List.set_cons_succ]))
  refine wpL_act (by rfl) (by rfl) (fun K hK => ?_)
  go_simp
  clear hc ht HO3
  have HO4 := hid (HO2.out.alloc (.cells #[.int .i64 g.n, .int .i64 g.i, .int .i64 g.b] 24)).drew
  have HK4 := hid (HK2.out.alloc (.cells #[.int .i64 g.n, .int .i64 g.i, .int .i64 g.b] 24)).drew
  refine hK.out _ _ (bodyS_cells HO4.out.p1) ?_
  clear hK K
  try simp only [Act.put, List.setIfInBounds_toArray, List.set_cons_zero, List.set_cons_succ]
  repeat (first
    | (refine wpL_read (by rfl) (by rfl) ?_ ?_ ?_; rotate_left; (rintro w ⟨z0, z1, z2, z3⟩; go_simp; with_reducible rfl); simp only [Act.put, List.setIfInBounds_toArray, List.set_cons_zero, List.set_cons_succ]) | (refine wpL_skip (by rfl) ?_; simp only [Act.put, List.setIfInBounds_toArray, List.set_cons_zero, List.set_cons_succ]))
  refine wpL_nil ?_
  generalize (w2.alloc (.cells #[.int .i64 g.n, .int .i64 g.i, .int .i64 g.b] 24)).drew = w4 at *
  generalize w2.heap.size = q at *
  clear HO2 HK2
  have hc := HO4.out.cells
  have HLY := hid (fun w' L (h : Has w' L) => sLay g w' L HM.out h)
  unfold geoV at HLY
  go_wp2_with fail
  refine (HLY.out _ _ HO4.out).mono ?_
  rintro e w5 ⟨v5, rfl, hO5, hK5⟩
  have HO5 := hid hO5
  have HK5 := hid ((HK4.out).trans hK5)
  clear hO5 hK5
  try dsimp only
  clear hc HLY
  have hc := HO5.out.p1.cells
  go_wp2_with fail
  refine (byEqual v5 v (superL g) w5 (by rw [superL, sealL_len (by show 8 ≤ 123; omega)]; omega) (Bytes.rd HO5.out) (HR.out w5 HO5.out.drop.drop.drop.drop)).mono ?_
  rintro e w' ⟨rfl, rfl⟩
  try dsimp only
  have hcr := HO5.out.p3.cells
  have htr := HO5.out.p3.thaw
  go_wp2_with fail
  try rw [Exit.noGoto_ret]
  have HO6 := hid (show Has (((w5.setCell ⟨r, 0, none⟩ (.int .i64 g.n)).setCell ⟨r, 1, none⟩ (.int .i64 g.i)).setCell ⟨r, 2, none⟩ (.int .i64 g.b)) (pt r (.cells (gcell g) 24) :: L) from (((HO5.out.p3.set 0 (.int .i64 g.n)).set 1 (.int .i64 g.i)).set 2 (.int .i64 g.b)).p1.drop.p1.drop.p1.drop)
  have HK6 := hid (((HK5.out.set ⟨r, 0, none⟩ (.int .i64 g.n)).set ⟨r, 1, none⟩ (.int .i64 g.i)).set ⟨r, 2, none⟩ (.int .i64 g.b))
  refine bodyPost_ret (geo_result3 g rfl rfl rfl rfl HO6.out) rfl ?_
  exact ⟨rfl, HO6.out.drop, HK6.out⟩
end Go.Proofs.Ytbggnbahmdgbdaa
