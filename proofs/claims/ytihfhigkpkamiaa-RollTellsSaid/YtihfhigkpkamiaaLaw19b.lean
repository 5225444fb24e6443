/- THE WALK of awake (purlinlaw19). -/
import Derived.Test.YtihfhigkpkamiaaLaw19a
import Derived.Test.YtihfhigkpkamiaaInts
import Derived.Test.YtihfhigkpkamiaaRollc
import Derived.Test.YtihfhigkpkamiaaRollp
namespace Go.Proofs.Ytihfhigkpkamiaa
open Go.RowKit Go.Own Go.Rl
theorem bytesLit {w : World} {L : List HP} {b : Nat} {C : Array Value} (xs : List Int) (h : Has w (pt b (.cells C 5) :: L)) (hc : C = (bc xs).toArray) (hl : xs.length ≤ 1000000000) : Has w (Bytes (.slice (some ⟨b, 0, none⟩) xs.length xs.length) xs :: L) :=
  h.row_of (Nat.le_refl _) (le_maxLen (by omega)) (by subst hc; simp [bc]) (by subst hc; rw [Nat.mul_one]; show (bc xs).take xs.length = bc xs; exact List.take_of_length_le (by rw [bc_len]; exact Nat.le_refl _)) (by simp [bc])
theorem objLit {w : World} {L : List HP} {b : Nat} {s a : Int} {x : Value} {T : TypeId} {bs : List Int} (h : Has w (pt b (.cells #[.int .i64 s, .int .i64 a, x] T) :: L)) (hx : Rd w x 1 bs.length (bc bs)) : RdO w (.slice (some ⟨b, 0, none⟩) 1 1) [(⟨s, a, bs⟩, x)] := by
  refine ⟨⟨rfl, le_maxLen (by simp), some ⟨b, 0, none⟩, 1, rfl, by simp, fun _ => ⟨b, 0, rfl, fun j hj => ?_⟩⟩, ?_⟩
  · rw [Nat.zero_add, h.cells j]; simp [ocells, ocell]
  · intro y hy
    simp only [List.mem_singleton] at hy
    subst hy
    exact hx
theorem three_boxes {w : World} {L : List HP} (o1 o2 o3 : Obj) (hO : Has w L) : Has (((w.alloc o1).alloc o2).alloc o3) (pt (w.heap.size + 1 + 1) o3 :: pt (w.heap.size + 1) o2 :: pt w.heap.size o1 :: L) := by
  have h := (two_boxes o1 o2 hO).alloc o3
  rwa [show ((w.alloc o1).alloc o2).heap.size = w.heap.size + 1 + 1 from (Array.size_push _).trans (congrArg (· + 1) (Array.size_push _))] at h
set_option maxRecDepth 100000 in
theorem awakeDiff : diff 3 [1, 2] [1, 5] = [⟨3, 1, [5]⟩] := by
  rw [diff, if_neg (by decide), diffs, dif_pos (by decide), show run (whole [1, 2]) (whole [1, 5]) 0 = 0 by decide, if_neg (by decide), List.nil_append,
    diffs, dif_pos (by decide), show run (whole [1, 2]) (whole [1, 5]) (0 + 0 + 1) = 1 by decide, if_pos (by decide), diffs_same _ _ _ rfl (by decide)]
  decide
theorem objsR {w : World} {L : List HP} {v : Value} {R : List Ob} (h : Has w (row v 31 3 R.length (ocells R) :: poolc 5 (opool R) :: L)) : RdO w v R :=
  ⟨h.rd, fun x hx => h.p1.pool_rd (x := (x.2, x.1.bytes)) (List.mem_map.2 ⟨x, hx, rfl⟩)⟩
theorem awakeSecs : sectors [⟨3, 1, [5]⟩] = [3] := by
  simp [sectors, secs, may, sorted]
  rfl
theorem _root_.Go.Own.Has.lit1 {w : World} {b : Nat} {L : List HP} {x : Int} (hO : Has w (pt b (.cells #[.int .i64 x] 3) :: L)) : Has w (Ints (.slice (some ⟨b, 0, none⟩) 1 1) [x] :: L) :=
  hO.row_of (by simp) (le_maxLen (by omega)) rfl rfl rfl
theorem bytesAt {w : World} {L : List HP} {v : Value} {xs : List Int} (h : Has w (Bytes v xs :: L)) (hp : 0 < xs.length) : ∃ g c, v = .slice (some ⟨g, 0, none⟩) xs.length c := by
  obtain ⟨-, h1 | ⟨g, cap, cur, rfl, -⟩⟩ := Has.row_cases h
  · have := h1.2.1; omega
  · exact ⟨g, cap, rfl⟩
set_option maxRecDepth 100000 in
set_option maxHeartbeats 8000000 in
theorem awake19 (w : World) (L : List HP) (hO : Has w L) :
    Calls Try.prog 7 #[] w fun e w' => e = .returned (.bool true) ∧ Has w' L ∧ Keep w w' := by
  have HO := hid hO
  clear hO
  go_enter Try.func7, Try.ntmps7
  go_wp2_with fail
  have H3 := hid (three_boxes (.cells #[.int .u8 1, .int .u8 2] 5) (.cells #[.int .u8 9] 5) (.cells #[.int .i64 3, .int .i64 1, .slice (some ⟨w.heap.size + 1, 0, none⟩) 1 1] 31) HO.out)
  go_wp2_with fail
  refine (rollOver _ [1, 2] 3 _ [(⟨3, 1, [9]⟩, .slice (some ⟨w.heap.size + 1, 0, none⟩) 1 1)] _ _ (Bytes.rd (bytesLit [1, 2] H3.out.p2 rfl (by decide))) (fun w' h => objLit h (Bytes.rd (bytesLit [9] h.p1 rfl (by decide)))) H3.out).mono ?_
  rintro e w1 ⟨v1, rfl, hO1, hK1⟩
  have HO1 := hid hO1
  have HK1 := hid ((((Keep.refl w).alloc _).alloc _ |>.alloc _).trans hK1)
  clear hO1 hK1
  try dsimp only
  obtain ⟨tl, hov, htl⟩ : ∃ t, over [1, 2] 3 [⟨3, 1, [9]⟩] = 1 :: 9 :: t ∧ (1 :: 9 :: t : List Int).length = 128 := ⟨_, rfl, rfl⟩
  rw [show ([((⟨3, 1, [9]⟩ : Piece), (.slice (some ⟨w.heap.size + 1, 0, none⟩) 1 1 : Value))].map (·.1)) = [⟨3, 1, [9]⟩] from rfl, hov] at HO1
  obtain ⟨g1, c1, rfl⟩ := bytesAt HO1.out (by rw [htl]; omega)
  rw [htl]
  rw [htl] at HO1
  have HTL := hid htl
  clear hov htl H3
  go_wp2_with fail
  have H5 := hid (two_boxes (.cells #[.int .u8 1, .int .u8 2] 5) (.cells #[.int .u8 1, .int .u8 5] 5) HO1.out)
  go_wp2_with fail
  refine (rollDiff 3 _ _ [1, 2] [1, 5] _ _ (fun w' h => Bytes.rd (bytesLit [1, 2] h.p1 rfl (by decide))) (fun w' h => Bytes.rd (bytesLit [1, 5] h rfl (by decide))) H5.out).mono ?_
  rintro e w2 ⟨v2, rfl, hO2, hK2⟩
  have HO2 := hid hO2
  have HK2 := hid ((((HK1.out.alloc _).alloc _)).trans hK2)
  clear hO2 hK2
  try dsimp only
  rw [awakeDiff] at HO2
  have HO2b := hid HO2.out.drop.drop.drop
  obtain ⟨R, hRm, hOR⟩ := objs_iff.1 HO2.out
  have hR := objsR hOR
  have HO2 := hid hOR
  clear hOR
  have hRl : R.length = 1 := by have := congrArg List.length hRm; simpa using this
  have hR0 : R[0].1 = ⟨3, 1, [5]⟩ := by
    obtain ⟨x, rfl⟩ := List.length_eq_one_iff.1 hRl
    simpa using hRm
  obtain ⟨g2, o2, c2, p2, m2, rfl, y0, y1, y2, y3, y4⟩ := hR.at_ 0 (by omega)
  rw [hR0] at y0 y1 y2 y3 y4
  have z0 := bytes_cell HO2b.out 0 (by simp)
  have z1 := bytes_cell HO2b.out 1 (by simp)
  simp only [List.getElem_cons_zero, List.getElem_cons_succ, Nat.zero_mul, Nat.add_zero, List.length_singleton] at z0 z1 y0 y1 y2 y3
  rw [hRl]
  have HY3 := hid y3
  have HRm := hid hRm
  clear y3 y4 hR0 hRm hR
  go_wp2_with fail
  refine (rollSectors _ R w2 _ (by omega) (fun w' h => by have := objsR h; rw [hRl] at this; exact this) HO2.out).mono ?_
  rintro e w3 ⟨v3, rfl, hO3, hK3⟩
  have HO3 := hid hO3
  have HK3 := hid ((HK2.out).trans hK3)
  clear hO3 hK3
  try dsimp only
  rw [HRm.out, awakeSecs] at HO3
  go_wp2_with fail
  refine (sameIntsYes v3 _ [3] _ (Ints.rd (HO3.out.alloc' _)) (Ints.rd (HO3.out.alloc _).lit1)).mono ?_
  rintro e w' ⟨rfl, nq4, rfl⟩
  have HO4 := hid ((HO3.out.alloc' (.cells #[.int .i64 3] 3)).drewN nq4)
  have HK4 := hid ((HK3.out.alloc (.cells #[.int .i64 3] 3)).drewN nq4)
  try dsimp only
  generalize ((w3.alloc (.cells #[.int .i64 3] 3)).drewN nq4) = w4 at *
  obtain ⟨g5, o5, c5, p5, m5, he, x0, x1, x2, x3, x4⟩ := (objsR HO4.out.drop).at_ 0 (by omega)
  have hR0 : R[0].1 = ⟨3, 1, [5]⟩ := by
    obtain ⟨x, rfl⟩ := List.length_eq_one_iff.1 hRl
    simpa using HRm.out
  rw [hR0] at x0 x1 x2 x3 x4
  simp only [List.length_singleton, Nat.zero_mul, Nat.add_zero] at x0 x1 x2
  injection he with he1 he2 he3
  injection he1 with he1
  injection he1 with he1 he4 he5
  subst he1 he4
  clear y0 y1 y2 z0 z1 hR0 x3 x4 he3 he5 he2
  go_wp2_with fail
  refine (rollMay 3 1 p5 m5 [5] w4 _ (by decide) HO4.out).mono ?_
  rintro e w5 ⟨rfl, hO5, hK5⟩
  have HO5 := hid hO5
  have HK5 := hid ((HK4.out).trans hK5)
  clear hO5 hK5
  try dsimp only
  rw [show may ⟨3, 1, [5]⟩ = true from rfl]
  go_wp2_with fail
  refine (rollMay 0 0 none 0 [] w5 _ (by decide) HO5.out).mono ?_
  rintro e w6 ⟨rfl, hO6, hK6⟩
  have HO6 := hid hO6
  have HK6 := hid ((HK5.out).trans hK6)
  clear hO6 hK6
  try dsimp only
  rw [show may ⟨0, 0, []⟩ = false from rfl]
  go_wp2_with fail
  go_ret
  exact ⟨by simp, HO6.out.re 9 [], HK6.out⟩
end Go.Proofs.Ytihfhigkpkamiaa
