/- THE WALK of MkfsApart. -/
import Derived.Test.YtbggnbahmdgbdaaAwake20
import Derived.Test.YtbggnbahmdgbdaaLaw20
import Derived.Test.YtbggnbahmdgbdaaSRead
import Derived.Test.YtbggnbahmdgbdaaLow
namespace Go.Proofs.Ytbggnbahmdgbdaa
open Go.RowKit Go.Own Go.Sl Go.Gm
/-- Low leaves the world as it is. -/
def lowQ : Qc := ⟨[6], fun _ args => .int .i64 (low (intOf (args.getD 0 undef)) (intOf (args.getD 1 undef)))⟩
theorem geo_if (g h : Geo) (w : World) : (if g.n = h.n then if g.i = h.i then if g.b = h.b then Result.ok (Next.value (Value.bool true)) w else Result.ok (Next.value (Value.bool false)) w else Result.ok (Next.value (Value.bool false)) w else Result.ok (Next.value (Value.bool false)) w) = Result.ok (Next.value (Value.bool (decide (g = h)))) w := by
  obtain ⟨a, b, c⟩ := g
  obtain ⟨x, y, z⟩ := h
  simp only [Geo.mk.injEq]
  split
  · split
    · split <;> simp_all
    · simp_all
  · simp_all
def acell (x y z : Int) : Array Value := #[.int .i64 x, .int .i64 y, .int .i64 z]
set_option maxRecDepth 100000 in
set_option maxHeartbeats 8000000 in
theorem apartWalk (a0 a1 a2 b0 b1 b2 : Int) (w : World) : Calls Try.prog 5 #[.agg (acell a0 a1 a2), .agg (acell b0 b1 b2)] w fun e w' => e = .returned (.bool true) ∧ Below w.heap.size w w' := by
  have HO := hid (Has.start w)
  have HO := hid ((HO.out.alloc (.cells (acell a0 a1 a2) 45)).alloc (.cells (acell b0 b1 b2) 45))
  have HK := hid (((Keep.refl w).alloc (.cells (acell a0 a1 a2) 45)).alloc (.cells (acell b0 b1 b2) 45))
  have ha0 := low_in a0 3 (by omega)
  have ha1 := low_in a1 8 (by omega)
  have ha2 := low_in a2 81 (by omega)
  have hb0 := low_in b0 3 (by omega)
  have hb1 := low_in b1 8 (by omega)
  have hb2 := low_in b2 81 (by omega)
  have wa0 : IntKind.i64.wrap (1 + low a0 3) = 1 + low a0 3 := wrapk_in _ (by omega)
  have wa1 : IntKind.i64.wrap (4 * low a1 8) = 4 * low a1 8 := wrapk_in _ (by omega)
  have wa1' : IntKind.i64.wrap (4 + 4 * low a1 8) = 4 + 4 * low a1 8 := wrapk_in _ (by omega)
  have wa2 : IntKind.i64.wrap (16 + low a2 81) = 16 + low a2 81 := wrapk_in _ (by omega)
  have wb0 : IntKind.i64.wrap (1 + low b0 3) = 1 + low b0 3 := wrapk_in _ (by omega)
  have wb1 : IntKind.i64.wrap (4 * low b1 8) = 4 * low b1 8 := wrapk_in _ (by omega)
  have wb1' : IntKind.i64.wrap (4 + 4 * low b1 8) = 4 + 4 * low b1 8 := wrapk_in _ (by omega)
  have wb2 : IntKind.i64.wrap (16 + low b2 81) = 16 + low b2 81 := wrapk_in _ (by omega)
  have HG := hid (show may ⟨1 + low a0 3, 4 + 4 * low a1 8, 16 + low a2 81⟩ = true from may_iff.2 (by dsimp only; omega))
  have HH := hid (show may ⟨1 + low b0 3, 4 + 4 * low b1 8, 16 + low b2 81⟩ = true from may_iff.2 (by dsimp only; omega))
  have HL := hid (fun x n w h1 h2 => lowAny x n w h1 h2)
  clear ha0 ha1 ha2 hb0 hb1 hb2
  have e1 : (w.alloc (.cells (acell a0 a1 a2) 45)).heap.size = w.heap.size + 1 := Array.size_push _
  rw [e1] at HO
  clear e1
  unfold acell at *
  go_enter Try.func5, Try.ntmps5
  go_upto_region 1 with fail
  refine region_textC lowQ (fun w' => w'.cell? ⟨w.heap.size, 0, none⟩ = some (.int .i64 a0) ∧ w'.cell? ⟨w.heap.size, 1, none⟩ = some (.int .i64 a1) ∧ w'.cell? ⟨w.heap.size, 2, none⟩ = some (.int .i64 a2)) (by kernel_rfl) (by kernel_rfl) ⟨HO.out.drew.p1.cells 0, HO.out.drew.p1.cells 1, HO.out.drew.p1.cells 2⟩ ?_
  have HO2 := hid HO.out.drew
  have HK2 := hid HK.out.drew
  generalize ((w.alloc (.cells #[.int .i64 a0, .int .i64 a1, .int .i64 a2] 45)).alloc (.cells #[.int .i64 b0, .int .i64 b1, .int .i64 b2] 45)).drew = w2 at *
  repeat (first
    | (refine wpL_read (by rfl) (by rfl) ?_ ?_ ?_; rotate_left; (rintro w ⟨z0, z1, z2⟩; go_simp; with_reducible rfl); simp only [Act.put, List.setIfInBounds_toArray, List.set_cons_zero, List.set_cons_succ]) | (refine wpL_skip (by rfl) ?_; simp only [Act.put, List.setIfInBounds_toArray, List.set_cons_zero, List.set_cons_succ]))
  refine wpL_call (by rfl) (by rfl) 6 #[.int .i64 a0, .int .i64 3] (.int .i64 (low a0 3)) rfl (by rintro w ⟨z0, z1, z2⟩; go_simp) (fun w' _ => HL.out a0 3 w' (by omega) (by omega)) ?_
  try simp only [Act.put, List.setIfInBounds_toArray, List.set_cons_zero, List.set_cons_succ]
  repeat (first
    | (refine wpL_read (by rfl) (by rfl) ?_ ?_ ?_; rotate_left; (rintro w ⟨z0, z1, z2⟩; go_simp; with_reducible rfl); simp only [Act.put, List.setIfInBounds_toArray, List.set_cons_zero, List.set_cons_succ]) | (refine wpL_skip (by rfl) ?_; simp only [Act.put, List.setIfInBounds_toArray, List.set_cons_zero, List.set_cons_succ]))
  refine wpL_call (by rfl) (by rfl) 6 #[.int .i64 a1, .int .i64 8] (.int .i64 (low a1 8)) rfl (by rintro w ⟨z0, z1, z2⟩; go_simp) (fun w' _ => HL.out a1 8 w' (by omega) (by omega)) ?_
  try simp only [Act.put, List.setIfInBounds_toArray, List.set_cons_zero, List.set_cons_succ]
  repeat (first
    | (refine wpL_read (by rfl) (by rfl) ?_ ?_ ?_; rotate_left; (rintro w ⟨z0, z1, z2⟩; go_simp; with_reducible rfl); simp only [Act.put, List.setIfInBounds_toArray, List.set_cons_zero, List.set_cons_succ]) | (refine wpL_skip (by rfl) ?_; simp only [Act.put, List.setIfInBounds_toArray, List.set_cons_zero, List.set_cons_succ]))
  refine wpL_call (by rfl) (by rfl) 6 #[.int .i64 a2, .int .i64 81] (.int .i64 (low a2 81)) rfl (by rintro w ⟨z0, z1, z2⟩; go_simp) (fun w' _ => HL.out a2 81 w' (by omega) (by omega)) ?_
  try simp only [Act.put, List.setIfInBounds_toArray, List.set_cons_zero, List.set_cons_succ]
  repeat (first
    | (refine wpL_read (by rfl) (by rfl) ?_ ?_ ?_; rotate_left; (rintro w ⟨z0, z1, z2⟩; go_simp; with_reducible rfl); simp only [Act.put, List.setIfInBounds_toArray, List.set_cons_zero, List.set_cons_succ]) | (refine wpL_skip (by rfl) ?_; simp only [Act.put, List.setIfInBounds_toArray, List.set_cons_zero, List.set_cons_succ]))
  refine wpL_act (by rfl) (by rfl) (fun K hK => ?_)
  go_simp
  have HX := hid (HO2.out.alloc (.cells #[.int .i64 0, .int .i64 0, .int .i64 0] 24))
  refine hK.out _ _ (⟨HX.out.p2.cells 0, HX.out.p2.cells 1, HX.out.p2.cells 2⟩) ?_
  clear hK K
  try simp only [Act.put, List.setIfInBounds_toArray, List.set_cons_zero, List.set_cons_succ]
  have hc := HX.out.cells
  have ht := HX.out.thaw
  repeat (first
    | (refine wpL_read (by rfl) (by rfl) ?_ ?_ ?_; rotate_left; (rintro w ⟨z0, z1, z2⟩; go_simp; with_reducible rfl); simp only [Act.put, List.setIfInBounds_toArray, List.set_cons_zero, List.set_cons_succ]) | (refine wpL_skip (by rfl) ?_; simp only [Act.put, List.setIfInBounds_toArray, List.set_cons_zero, List.set_cons_succ]))
  refine wpL_act (by rfl) (by rfl) (fun K hK => ?_)
  go_simp
  clear hc ht HX
  have HO2a := hid (HO2.out.alloc (.cells #[.int .i64 (1 + low a0 3), .int .i64 (4 + 4 * low a1 8), .int .i64 (16 + low a2 81)] 24))
  have HK2a := hid (HK2.out.alloc (.cells #[.int .i64 (1 + low a0 3), .int .i64 (4 + 4 * low a1 8), .int .i64 (16 + low a2 81)] 24))
  refine hK.out _ _ (⟨HO2a.out.p2.cells 0, HO2a.out.p2.cells 1, HO2a.out.p2.cells 2⟩) ?_
  clear hK K
  try simp only [Act.put, List.setIfInBounds_toArray, List.set_cons_zero, List.set_cons_succ]
  generalize w2.alloc (.cells #[.int .i64 (1 + low a0 3), .int .i64 (4 + 4 * low a1 8), .int .i64 (16 + low a2 81)] 24) = w2a at *
  generalize w2.heap.size = n5 at *
  clear HO2 HK2
  refine wpL_nil ?_
  clear HO HK wa0 wa1 wa1' wa2
  go_upto_region 2 with fail
  refine region_textC lowQ (fun w' => w'.cell? ⟨(w.heap.size + 1), 0, none⟩ = some (.int .i64 b0) ∧ w'.cell? ⟨(w.heap.size + 1), 1, none⟩ = some (.int .i64 b1) ∧ w'.cell? ⟨(w.heap.size + 1), 2, none⟩ = some (.int .i64 b2)) (by kernel_rfl) (by kernel_rfl) ⟨HO2a.out.drew.p1.cells 0, HO2a.out.drew.p1.cells 1, HO2a.out.drew.p1.cells 2⟩ ?_
  have HO3 := hid HO2a.out.drew
  have HK3 := hid HK2a.out.drew
  generalize w2a.drew = w3 at *
  repeat (first
    | (refine wpL_read (by rfl) (by rfl) ?_ ?_ ?_; rotate_left; (rintro w ⟨z0, z1, z2⟩; go_simp; with_reducible rfl); simp only [Act.put, List.setIfInBounds_toArray, List.set_cons_zero, List.set_cons_succ]) | (refine wpL_skip (by rfl) ?_; simp only [Act.put, List.setIfInBounds_toArray, List.set_cons_zero, List.set_cons_succ]))
  refine wpL_call (by rfl) (by rfl) 6 #[.int .i64 b0, .int .i64 3] (.int .i64 (low b0 3)) rfl (by rintro w ⟨z0, z1, z2⟩; go_simp) (fun w' _ => HL.out b0 3 w' (by omega) (by omega)) ?_
  try simp only [Act.put, List.setIfInBounds_toArray, List.set_cons_zero, List.set_cons_succ]
  repeat (first
    | (refine wpL_read (by rfl) (by rfl) ?_ ?_ ?_; rotate_left; (rintro w ⟨z0, z1, z2⟩; go_simp; with_reducible rfl); simp only [Act.put, List.setIfInBounds_toArray, List.set_cons_zero, List.set_cons_succ]) | (refine wpL_skip (by rfl) ?_; simp only [Act.put, List.setIfInBounds_toArray, List.set_cons_zero, List.set_cons_succ]))
  refine wpL_call (by rfl) (by rfl) 6 #[.int .i64 b1, .int .i64 8] (.int .i64 (low b1 8)) rfl (by rintro w ⟨z0, z1, z2⟩; go_simp) (fun w' _ => HL.out b1 8 w' (by omega) (by omega)) ?_
  try simp only [Act.put, List.setIfInBounds_toArray, List.set_cons_zero, List.set_cons_succ]
  repeat (first
    | (refine wpL_read (by rfl) (by rfl) ?_ ?_ ?_; rotate_left; (rintro w ⟨z0, z1, z2⟩; go_simp; with_reducible rfl); simp only [Act.put, List.setIfInBounds_toArray, List.set_cons_zero, List.set_cons_succ]) | (refine wpL_skip (by rfl) ?_; simp only [Act.put, List.setIfInBounds_toArray, List.set_cons_zero, List.set_cons_succ]))
  refine wpL_call (by rfl) (by rfl) 6 #[.int .i64 b2, .int .i64 81] (.int .i64 (low b2 81)) rfl (by rintro w ⟨z0, z1, z2⟩; go_simp) (fun w' _ => HL.out b2 81 w' (by omega) (by omega)) ?_
  try simp only [Act.put, List.setIfInBounds_toArray, List.set_cons_zero, List.set_cons_succ]
  repeat (first
    | (refine wpL_read (by rfl) (by rfl) ?_ ?_ ?_; rotate_left; (rintro w ⟨z0, z1, z2⟩; go_simp; with_reducible rfl); simp only [Act.put, List.setIfInBounds_toArray, List.set_cons_zero, List.set_cons_succ]) | (refine wpL_skip (by rfl) ?_; simp only [Act.put, List.setIfInBounds_toArray, List.set_cons_zero, List.set_cons_succ]))
  refine wpL_act (by rfl) (by rfl) (fun K hK => ?_)
  go_simp
  have HX := hid (HO3.out.alloc (.cells #[.int .i64 0, .int .i64 0, .int .i64 0] 24))
  refine hK.out _ _ (⟨HX.out.p2.cells 0, HX.out.p2.cells 1, HX.out.p2.cells 2⟩) ?_
  clear hK K
  try simp only [Act.put, List.setIfInBounds_toArray, List.set_cons_zero, List.set_cons_succ]
  have hc := HX.out.cells
  have ht := HX.out.thaw
  repeat (first
    | (refine wpL_read (by rfl) (by rfl) ?_ ?_ ?_; rotate_left; (rintro w ⟨z0, z1, z2⟩; go_simp; with_reducible rfl); simp only [Act.put, List.setIfInBounds_toArray, List.set_cons_zero, List.set_cons_succ]) | (refine wpL_skip (by rfl) ?_; simp only [Act.put, List.setIfInBounds_toArray, List.set_cons_zero, List.set_cons_succ]))
  refine wpL_act (by rfl) (by rfl) (fun K hK => ?_)
  go_simp
  clear hc ht HX
  have HO3a := hid (HO3.out.alloc (.cells #[.int .i64 (1 + low b0 3), .int .i64 (4 + 4 * low b1 8), .int .i64 (16 + low b2 81)] 24))
  have HK3a := hid (HK3.out.alloc (.cells #[.int .i64 (1 + low b0 3), .int .i64 (4 + 4 * low b1 8), .int .i64 (16 + low b2 81)] 24))
  refine hK.out _ _ (⟨HO3a.out.p2.cells 0, HO3a.out.p2.cells 1, HO3a.out.p2.cells 2⟩) ?_
  clear hK K
  try simp only [Act.put, List.setIfInBounds_toArray, List.set_cons_zero, List.set_cons_succ]
  generalize w3.alloc (.cells #[.int .i64 (1 + low b0 3), .int .i64 (4 + 4 * low b1 8), .int .i64 (16 + low b2 81)] 24) = w3a at *
  generalize w3.heap.size = n6 at *
  clear HO3 HK3
  refine wpL_nil ?_
  clear HO2a HK2a wb0 wb1 wb1' wb2 HL
  obtain ⟨g, eg1, eg2, eg3⟩ : ∃ g : Geo, g.n = 1 + low a0 3 ∧ g.i = 4 + 4 * low a1 8 ∧ g.b = 16 + low a2 81 := ⟨⟨_, _, _⟩, rfl, rfl, rfl⟩
  obtain ⟨h, eh1, eh2, eh3⟩ : ∃ g : Geo, g.n = 1 + low b0 3 ∧ g.i = 4 + 4 * low b1 8 ∧ g.b = 16 + low b2 81 := ⟨⟨_, _, _⟩, rfl, rfl, rfl⟩
  rw [← eg1, ← eg2, ← eg3] at HO3a HG
  rw [← eh1, ← eh2, ← eh3] at HO3a HH
  rw [← eg1, ← eg2, ← eg3, ← eh1, ← eh2, ← eh3]
  clear eg1 eg2 eg3 eh1 eh2 eh3
  have HO := hid (HO3a.out.re 4 [1, 0])
  have HG : Hid (may g = true) := HG
  have HH : Hid (may h = true) := HH
  have HI := hid (fun w' L (h : Has w' L) => image g w' L HG.out h)
  have HIH := hid (fun w' L (hh : Has w' L) => image h w' L HH.out hh)
  obtain ⟨n, hn, hn0, hnb⟩ := sectors_nat HG.out
  have HSEC := hid (fun w' L (h : Has w' L) => gSectors g w' L h)
  have HBLK := hid (fun w' L (h : Has w' L) => gBlocks g w' L h)
  rw [hn] at HSEC
  have HLEN := hid (show (imgL g).length = n by rw [imgL_len, hn]; rfl)
  unfold geoV at HI HIH HSEC HBLK
  have HN := hid (And.intro hn hnb)
  have hn20 : ¬ (n : Int) < 20 := by omega
  have hnp : (0 : Int) < (n : Int) := by omega
  have HNP := hid (show 0 < n by omega)
  clear hn hn0 hnb HO3a
  have hc := HO.out.cells
  go_wp2_with fail
  refine (HI.out _ _ HO.out).mono ?_
  rintro e w4 ⟨v4, rfl, hO4, hK4⟩
  have HO4 := hid hO4
  have HK4 := hid ((HK3a.out).trans hK4)
  clear hO4 hK4
  try dsimp only
  clear hc HI
  obtain ⟨R, B, ⟨hR, hB⟩, h5⟩ := wrt_iff.1 HO4.out
  have hRl : R.length = n := by rw [← HLEN.out, ← hR, List.length_map]
  have HRM := hid hR
  have HBM := hid hB
  obtain ⟨gi, c, rfl⟩ : ∃ gi c, v4 = .slice (some ⟨gi, 0, none⟩) n c := by
    rcases Wrt.form HO4.out with ⟨-, e⟩ | ⟨gi, c, e⟩
    · have := HLEN.out; rw [e] at this; simp at this; have := HNP.out; omega
    · exact ⟨gi, c, by rw [e, HLEN.out]⟩
  have HO5 := hid h5
  have HRL := hid hRl
  clear h5 hR hB HO4 hRl
  have HEL : Hid (∀ k (hk : k < R.length) w' L, Has w' (row (.slice (some ⟨gi, 0, none⟩) n c) 35 1 R.length (R.map (·.1)) :: poolc 5 B :: L) → w'.cell? ⟨gi, k, none⟩ = some R[k].1 ∧ Rd w' R[k].1 1 R[k].2.length (bc R[k].2) ∧ (imgL g)[k]? = some R[k].2) := hid fun k hk w' L hh => by
    obtain ⟨-, hc, -⟩ := hh.row_cells
    refine ⟨?_, hh.p1.pool_rd (HBM.out _ (List.getElem_mem hk)), ?_⟩
    · rw [hc k (by omega), List.getElem?_map, List.getElem?_eq_getElem hk]; rfl
    · rw [← HRM.out, List.getElem?_map, List.getElem?_eq_getElem hk]; rfl
  have h0 : 0 < R.length := by rw [HRL.out]; exact HNP.out
  have hx0 : R[0].2 = superL g := by
    have := (HEL.out 0 h0 _ _ HO5.out).2.2
    rw [img_0 HG.out] at this
    exact (Option.some.inj this).symm
  have HX0 := hid hx0
  have H0 := hid h0
  clear hx0
  have hc := HO5.out.p2.cells
  go_wp2_with fail
  refine (HSEC.out _ _ HO5.out).mono ?_
  rintro e w6 ⟨rfl, hO6, hK6⟩
  have HO6 := hid hO6
  have HK6 := hid ((HK4.out).trans hK6)
  clear hO6 hK6
  try dsimp only
  clear hc HSEC HO5 HK4
  have hcx := (HEL.out 0 H0.out _ _ HO6.out).1
  have HSR := hid (fun w' (hh : Has w' (row (.slice (some ⟨gi, 0, none⟩) n c) 35 1 R.length (R.map (·.1)) :: poolc 5 B :: pt n5 (.cells (gcell g) 24) :: pt n6 (.cells (gcell h) 24) :: [old w])) => sRead g R[0].1 w' _ HG.out (fun w'' h'' => by
    have := (HEL.out 0 H0.out w'' _ h'').2.1
    rwa [HX0.out] at this) hh)
  unfold geoV at HSR
  go_wp2_with fail
  refine (HSR.out _ HO6.out).mono ?_
  rintro e w7 ⟨rfl, hO7, hK7⟩
  have HO7 := hid hO7
  have HK7 := hid ((HK6.out).trans hK7)
  clear hO7 hK7
  try dsimp only
  clear hcx HSR HO6 HK6
  have HO8 := hid (HO7.out.alloc (.cells #[.int .i64 g.n, .int .i64 g.i, .int .i64 g.b] 24))
  have HK8 := hid (HK7.out.alloc (.cells #[.int .i64 g.n, .int .i64 g.i, .int .i64 g.b] 24))
  go_wp2_with fail
  generalize w7.alloc (.cells #[.int .i64 g.n, .int .i64 g.i, .int .i64 g.b] 24) = w8 at *
  generalize w7.heap.size = n8 at *
  clear HO7 HK7 hnp hn20
  have HO := hid (HO8.out.re 6 [1, 2, 0, 3, 4, 5])
  have HO : Hid (Has w8 (row (.slice (some ⟨gi, 0, none⟩) n c) 35 1 R.length (R.map (·.1)) :: poolc 5 B :: pt n8 (.cells (gcell g) 24) :: pt n5 (.cells (gcell g) 24) :: pt n6 (.cells (gcell h) 24) :: [old w])) := HO
  go_loopw [11, 12] (fun z i w' => ∃ k : Nat, k ≤ n ∧ i = .int .i64 k ∧ (∃ j : Nat, z = .int .i64 j ∧ Hid (j ≤ k ∧ zeroN (imgL g) k = j)) ∧ Hid (Has w' (row (.slice (some ⟨gi, 0, none⟩) n c) 35 1 R.length (R.map (·.1)) :: poolc 5 B :: pt n8 (.cells (gcell g) 24) :: pt n5 (.cells (gcell g) 24) :: pt n6 (.cells (gcell h) 24) :: [old w])) ∧ Hid (Keep w w')) (fun _ i _ => n - (intOf i).toNat)
  case atStart => exact ⟨0, by omega, rfl, ⟨0, rfl, hid ⟨by omega, rfl⟩⟩, HO, HK8⟩
  case round =>
    clear HO HK8 HO8
    obtain ⟨k, hk, rfl, ⟨j, rfl, HJ⟩, HO, HK⟩ := hrel
    by_cases hlt : k < n
    · have hki : (k : Int) < (n : Int) := by omega
      have hkR : k < R.length := by rw [HRL.out]; exact hlt
      obtain ⟨hcx, hrx, hix⟩ := HEL.out k hkR _ _ HO.out
      have HZ := hid (zeroN_succ hix)
      generalize hx : R[k] = x at *
      have HRX : Hid (∀ w', Has w' (row (.slice (some ⟨gi, 0, none⟩) n c) 35 1 R.length (R.map (·.1)) :: poolc 5 B :: pt n8 (.cells (gcell g) 24) :: pt n5 (.cells (gcell g) 24) :: pt n6 (.cells (gcell h) 24) :: [old w]) → w'.cell? ⟨gi, k, none⟩ = some x.1 ∧ Rd w' x.1 1 x.2.length (bc x.2)) := hid fun w' hh => by
        have := HEL.out k hkR _ _ hh
        rw [hx] at this
        exact ⟨this.1, this.2.1⟩
      clear hx hix hrx
      go_wp2_with fail
      refine region_text (fun w' => w'.cell? ⟨gi, k, none⟩ = some x.1 ∧ True) (by kernel_rfl) (by kernel_rfl) ⟨hcx, trivial⟩ ?_
      repeat (first
        | (refine wpL_read (by rfl) (by rfl) ?_ ?_ ?_; rotate_left; (rintro w ⟨z0, z1⟩; go_simp; with_reducible rfl); simp only [Act.put, List.setIfInBounds_toArray, List.set_cons_zero, List.set_cons_succ]) | (refine wpL_skip (by rfl) ?_; simp only [Act.put, List.setIfInBounds_toArray, List.set_cons_zero, List.set_cons_succ]))
      obtain ⟨w9, hmk, h9, k9⟩ := made_128 HO.out.drew
      have HO9 := hid h9
      have HK9 := hid (HK.out.drew.trans k9)
      clear h9 k9
      refine wpL_act (by rfl) (by rfl) (fun K hK => ?_)
      go_simp
      clear hmk
      refine hK.out _ _ (⟨(HRX.out _ HO9.out.drop).1, trivial⟩) ?_
      clear hK K
      try simp only [Act.put, List.setIfInBounds_toArray, List.set_cons_zero, List.set_cons_succ]
      repeat (first
        | (refine wpL_read (by rfl) (by rfl) ?_ ?_ ?_; rotate_left; (rintro w ⟨z0, z1⟩; go_simp; with_reducible rfl); simp only [Act.put, List.setIfInBounds_toArray, List.set_cons_zero, List.set_cons_succ]) | (refine wpL_skip (by rfl) ?_; simp only [Act.put, List.setIfInBounds_toArray, List.set_cons_zero, List.set_cons_succ]))
      refine wpL_act (by rfl) (by rfl) (fun K hK => ?_)
      go_simp
      refine (sameBytes x.1 _ x.2 (zs 128) w9 (HRX.out _ HO9.out.drop).2 (Bytes.rd HO9.out)).mono ?_
      rintro e w' ⟨rfl, nq, rfl⟩
      have HO10 := hid (HO9.out.drewN nq).drop
      have HK10 := hid (HK9.out.drewN nq)
      generalize w9.drewN nq = w10 at *
      try dsimp only
      refine hK.out _ _ (⟨(HRX.out _ HO10.out).1, trivial⟩) ?_
      clear hK K hcx HO9 HK9 HO HK
      try simp only [Act.put, List.setIfInBounds_toArray, List.set_cons_zero, List.set_cons_succ]
      refine wpL_nil ?_
      have hjb : -9223372036854775808 ≤ (j : Int) + 1 ∧ (j : Int) + 1 ≤ 9223372036854775807 := by have := HJ.out; have := HN.out; omega
      have hkb : -9223372036854775808 ≤ (k : Int) + 1 ∧ (k : Int) + 1 ≤ 9223372036854775807 := by have := HN.out; omega
      have hj1 : wrap64 ((j : Int) + 1) = ((j + 1 : Nat) : Int) := by rw [wrap_in _ hjb]; omega
      have hk1 : wrap64 ((k : Int) + 1) = ((k + 1 : Nat) : Int) := by rw [wrap_in _ hkb]; omega
      have hj2 : IntKind.i64.wrap ((j : Int) + 1) = ((j + 1 : Nat) : Int) := by rw [wrapk_in _ hjb]; omega
      have hk2 : IntKind.i64.wrap ((k : Int) + 1) = ((k + 1 : Nat) : Int) := by rw [wrapk_in _ hkb]; omega
      clear hjb hkb
      by_cases hz : x.2 = zs 128
      · have hzd : decide (x.2 = zs 128) = true := decide_eq_true hz
        rw [hzd]
        have HZ2 := hid (show zeroN (imgL g) (k + 1) = j + 1 by rw [HZ.out, if_pos hz, HJ.out.2])
        clear hz hzd
        go_wp2_with fail
        exact ⟨⟨k + 1, by omega, rfl, ⟨j + 1, rfl, hid ⟨by have := HJ.out; omega, HZ2.out⟩⟩, HO10, HK10⟩, by simp [intOf]; omega⟩
      · have hzd : decide (x.2 = zs 128) = false := decide_eq_false hz
        rw [hzd]
        have HZ2 := hid (show zeroN (imgL g) (k + 1) = j by rw [HZ.out, if_neg hz, HJ.out.2]; rfl)
        clear hz hzd
        go_wp2_with fail
        exact ⟨⟨k + 1, by omega, rfl, ⟨j, rfl, hid ⟨by have := HJ.out; omega, HZ2.out⟩⟩, HO10, HK10⟩, by simp [intOf]; omega⟩
    · obtain rfl : k = n := by omega
      have HKN := hid (show blocks g = (j : Int) by rw [← zeroN_all HG.out, HLEN.out, HJ.out.2])
      clear hlt hk HJ
      rw [HKN.out] at HBLK
      have HRT : Hid (∀ w', Has w' (row (.slice (some ⟨gi, 0, none⟩) k c) 35 1 R.length (R.map (·.1)) :: poolc 5 B :: pt n8 (.cells (gcell g) 24) :: pt n5 (.cells (gcell g) 24) :: pt n6 (.cells (gcell h) 24) :: [old w]) → RdT w' (.slice (some ⟨gi, 0, none⟩) k c) (imgL g)) := hid fun w' hh => by
        have := rdT_of hh HBM.out
        rwa [HRM.out] at this
      have hd : decide (imgL g = imgL h) = decide (g = h) := by
        by_cases e : g = h
        · rw [decide_eq_true e, decide_eq_true (by rw [e])]
        · rw [decide_eq_false e, decide_eq_false fun e2 => e (imgL_inj HG.out HH.out e2)]
      have HD := hid hd
      have HCMP := hid (fun w => geo_if g h w)
      generalize decide (g = h) = bb at *
      clear HEL HX0 HRM HBM HLEN HNP HN HRL HKN HG HH hd
      go_wp2_with fail
      refine region_text (fun w' => (w'.cell? ⟨n5, 0, none⟩ = some (.int .i64 g.n) ∧ w'.cell? ⟨n5, 1, none⟩ = some (.int .i64 g.i) ∧ w'.cell? ⟨n5, 2, none⟩ = some (.int .i64 g.b)) ∧ (w'.cell? ⟨n6, 0, none⟩ = some (.int .i64 h.n) ∧ w'.cell? ⟨n6, 1, none⟩ = some (.int .i64 h.i) ∧ w'.cell? ⟨n6, 2, none⟩ = some (.int .i64 h.b)) ∧ (w'.cell? ⟨n8, 0, none⟩ = some (.int .i64 g.n) ∧ w'.cell? ⟨n8, 1, none⟩ = some (.int .i64 g.i) ∧ w'.cell? ⟨n8, 2, none⟩ = some (.int .i64 g.b))) (by kernel_rfl) (by kernel_rfl) ⟨⟨HO.out.drew.p3.cells 0, HO.out.drew.p3.cells 1, HO.out.drew.p3.cells 2⟩, ⟨HO.out.drew.p4.cells 0, HO.out.drew.p4.cells 1, HO.out.drew.p4.cells 2⟩, ⟨HO.out.drew.p2.cells 0, HO.out.drew.p2.cells 1, HO.out.drew.p2.cells 2⟩⟩ ?_
      have HO := hid HO.out.drew
      have HK := hid HK.out.drew
      generalize wr.drew = w9 at *
      repeat (first
        | (refine wpL_read (by rfl) (by rfl) ?_ ?_ ?_; rotate_left; (rintro w ⟨⟨z0, z1, z2⟩, ⟨y0, y1, y2⟩, ⟨x0, x1, x2⟩⟩; go_simp; with_reducible rfl); simp only [Act.put, List.setIfInBounds_toArray, List.set_cons_zero, List.set_cons_succ])
        | (refine wpL_skip (by rfl) ?_; simp only [Act.put, List.setIfInBounds_toArray, List.set_cons_zero, List.set_cons_succ]))
      refine wpL_act (by rfl) (by rfl) (fun K hK => ?_)
      go_simp
      refine (HIH.out _ _ HO.out).mono ?_
      rintro e w10 ⟨v10, rfl, h10, k10⟩
      have HO10 := hid h10
      have HK10 := hid (HK.out.trans k10)
      clear h10 k10
      try dsimp only
      refine hK.out _ _ (⟨⟨HO10.out.p4.cells 0, HO10.out.p4.cells 1, HO10.out.p4.cells 2⟩, ⟨HO10.out.p5.cells 0, HO10.out.p5.cells 1, HO10.out.p5.cells 2⟩, ⟨HO10.out.p3.cells 0, HO10.out.p3.cells 1, HO10.out.p3.cells 2⟩⟩) ?_
      clear hK K HO HK
      try simp only [Act.put, List.setIfInBounds_toArray, List.set_cons_zero, List.set_cons_succ]
      refine wpL_act (by rfl) (by rfl) (fun K hK => ?_)
      go_simp
      refine (sameTexts _ v10 (imgL g) (imgL h) w10 (HRT.out _ HO10.out.drop) (Wrt.rd HO10.out)).mono ?_
      rintro e w' ⟨rfl, nq, rfl⟩
      rw [HD.out]
      have HO11 := hid (HO10.out.drewN nq)
      have HK11 := hid (HK10.out.drewN nq)
      generalize w10.drewN nq = w11 at *
      try dsimp only
      refine hK.out _ _ (⟨⟨HO11.out.p4.cells 0, HO11.out.p4.cells 1, HO11.out.p4.cells 2⟩, ⟨HO11.out.p5.cells 0, HO11.out.p5.cells 1, HO11.out.p5.cells 2⟩, ⟨HO11.out.p3.cells 0, HO11.out.p3.cells 1, HO11.out.p3.cells 2⟩⟩) ?_
      clear hK K HO10 HK10
      try simp only [Act.put, List.setIfInBounds_toArray, List.set_cons_zero, List.set_cons_succ]
      repeat (first
        | (refine wpL_read (by rfl) (by rfl) ?_ ?_ ?_; rotate_left; (rintro w ⟨⟨z0, z1, z2⟩, ⟨y0, y1, y2⟩, ⟨x0, x1, x2⟩⟩; go_simp; first | with_reducible rfl | rw [HCMP.out]); simp only [Act.put, List.setIfInBounds_toArray, List.set_cons_zero, List.set_cons_succ])
        | (refine wpL_skip (by rfl) ?_; simp only [Act.put, List.setIfInBounds_toArray, List.set_cons_zero, List.set_cons_succ]))
      refine wpL_act (by rfl) (by rfl) (fun K hK => ?_)
      go_simp
      refine (HBLK.out _ _ HO11.out).mono ?_
      rintro e w12 ⟨rfl, h12, k12⟩
      have HO12 := hid h12
      have HK12 := hid (HK11.out.trans k12)
      clear h12 k12
      try dsimp only
      refine hK.out _ _ (⟨⟨HO12.out.p4.cells 0, HO12.out.p4.cells 1, HO12.out.p4.cells 2⟩, ⟨HO12.out.p5.cells 0, HO12.out.p5.cells 1, HO12.out.p5.cells 2⟩, ⟨HO12.out.p3.cells 0, HO12.out.p3.cells 1, HO12.out.p3.cells 2⟩⟩) ?_
      clear hK K HO11 HK11
      try simp only [Act.put, List.setIfInBounds_toArray, List.set_cons_zero, List.set_cons_succ]
      repeat (first
        | (refine wpL_read (by rfl) (by rfl) ?_ ?_ ?_; rotate_left; (rintro w ⟨⟨z0, z1, z2⟩, ⟨y0, y1, y2⟩, ⟨x0, x1, x2⟩⟩; go_simp; with_reducible rfl); simp only [Act.put, List.setIfInBounds_toArray, List.set_cons_zero, List.set_cons_succ])
        | (refine wpL_skip (by rfl) ?_; simp only [Act.put, List.setIfInBounds_toArray, List.set_cons_zero, List.set_cons_succ]))
      refine wpL_act (by rfl) (by rfl) (fun K hK => ?_)
      go_simp
      refine (awake20 _ _ HO12.out).mono ?_
      rintro e w13 ⟨rfl, h13, k13⟩
      have HO13 := hid h13
      have HK13 := hid (HK12.out.trans k13)
      clear h13 k13
      try dsimp only
      refine hK.out _ _ (⟨⟨HO13.out.p4.cells 0, HO13.out.p4.cells 1, HO13.out.p4.cells 2⟩, ⟨HO13.out.p5.cells 0, HO13.out.p5.cells 1, HO13.out.p5.cells 2⟩, ⟨HO13.out.p3.cells 0, HO13.out.p3.cells 1, HO13.out.p3.cells 2⟩⟩) ?_
      clear hK K HO12 HK12
      try simp only [Act.put, List.setIfInBounds_toArray, List.set_cons_zero, List.set_cons_succ]
      repeat (first
        | (refine wpL_read (by rfl) (by rfl) ?_ ?_ ?_; rotate_left; (rintro w ⟨⟨z0, z1, z2⟩, ⟨y0, y1, y2⟩, ⟨x0, x1, x2⟩⟩; go_simp; with_reducible rfl); simp only [Act.put, List.setIfInBounds_toArray, List.set_cons_zero, List.set_cons_succ])
        | (refine wpL_skip (by rfl) ?_; simp only [Act.put, List.setIfInBounds_toArray, List.set_cons_zero, List.set_cons_succ]))
      refine wpL_nil ?_
      go_wp2_with fail
      go_ret
      exact ⟨rfl, (HO13.out.re 6 []).below HK13.out.os HK13.out.tape HK13.out.output⟩
end Go.Proofs.Ytbggnbahmdgbdaa
