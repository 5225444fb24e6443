/- TEXTS of mine, merged. -/
import Derived.Test.YtfhaedkaedffcaaGreatDoorM14
import Derived.Test.YtfhaedkaedffcaaGreatDoorM15
import Derived.Test.YtfhaedkaedffcaaGreatDoorM10
import Derived.Test.YtfhaedkaedffcaaGreatDoorM11
import Derived.Test.YtfhaedkaedffcaaGreatDoorM13
import Derived.Shelf.SlSortCmp.WholeK
import Derived.Shelf.SlGeneric
import Derived.Ground.SlsfProg
import Derived.Test.YtfhaedkaedffcaaGreatDoorProg
import Derived.Test.YtfhaedkaedffcaaGreatDoorM12
import Derived.Test.YtfhaedkaedffcaaGreatDoorM7
import Derived.Lib.SlBytesConst
import Derived.Test.YtfhaedkaedffcaaGreatDoorM2
/- THE WALK of tree.Do, by the kinds of operations. -/
namespace Go.Proofs.YtfhaedkaedffcaaGreatDoor
open Go.RowKit Go.Own
set_option maxRecDepth 100000 in
set_option maxHeartbeats 8000000 in
theorem doSeek (q : Nat) (S : Tre) (fd n off flags : Int) (path dest : Str) (ov : Value) (w : World) (L : List HP) (hop : Opn S) (hO : Has w (Trc q S :: L)) :
    Calls Tryz.prog 17 #[.pointer (some ⟨q, 0, none⟩), opV ⟨7, fd, n, off, flags, path, dest⟩ (ov)] w fun e w' => ∃ dv, e = .returned (ansV (S.seek fd n off).1 dv nilV) ∧ Has w' (Bytes dv ((S.seek fd n off).1).data :: Trc q (S.seek fd n off).2 :: L) ∧ Keep w w' := by
  have HX0 := (fun (w : World) (L' : List HP) (hO : Has w (Trc q S :: L')) => tSeek q S ⟨7, fd, n, off, flags, path, dest⟩ ov w L' hop hO)
  dsimp only at HX0
  have HX := hid HX0
  clear HX0
  skip
  generalize S.seek fd n off = R at *
  have HO := hid hO
  clear hO
  unfold opV opC at HX ⊢
  go_enter Tryz.func17, Tryz.ntmps17
  go_upto_region 1 with fail
  have h1 := (HO.out.alloc (.cells #[.int .i64 7, .int .i64 fd, .int .i64 n, .int .i64 off, .int .i64 flags, sV path, sV dest, ov] 32)).alloc (.cells (ansC (ansE 0) nilV nilV) 29)
  have HK1 := hid (((Keep.refl w).alloc (.cells #[.int .i64 7, .int .i64 fd, .int .i64 n, .int .i64 off, .int .i64 flags, sV path, sV dest, ov] 32)).alloc (.cells (ansC (ansE 0) nilV nilV) 29))
  unfold ansC ansE at h1 HK1
  have e1 : (w.alloc (.cells #[.int .i64 7, .int .i64 fd, .int .i64 n, .int .i64 off, .int .i64 flags, sV path, sV dest, ov] 32)).heap.size = w.heap.size + 1 := by show (Array.push _ _).size = _; rw [Array.size_push]
  rw [e1] at h1
  have HO1 := hid h1
  clear h1 e1 HO
  generalize (w.alloc (.cells #[.int .i64 7, .int .i64 fd, .int .i64 n, .int .i64 off, .int .i64 flags, sV path, sV dest, ov] 32)).alloc (.cells #[.int .i64 0, .int .i64 0, .int .i64 0, .int .i64 0, nilV, nilV] 29) = w1 at *
  generalize w.heap.size = g3 at *
  generalize g3 + 1 = g4 at *
  have hp0 : w1.cell? ⟨g3, 0, none⟩ = some (.int .i64 7) := HO1.out.p1.cells 0
  have hp1 : w1.cell? ⟨g3, 1, none⟩ = some (.int .i64 fd) := HO1.out.p1.cells 1
  have hp2 : w1.cell? ⟨g3, 2, none⟩ = some (.int .i64 n) := HO1.out.p1.cells 2
  have hp3 : w1.cell? ⟨g3, 3, none⟩ = some (.int .i64 off) := HO1.out.p1.cells 3
  have hp4 : w1.cell? ⟨g3, 4, none⟩ = some (.int .i64 flags) := HO1.out.p1.cells 4
  have hp5 : w1.cell? ⟨g3, 5, none⟩ = some (sV path) := HO1.out.p1.cells 5
  have hp6 : w1.cell? ⟨g3, 6, none⟩ = some (sV dest) := HO1.out.p1.cells 6
  have hp7 : w1.cell? ⟨g3, 7, none⟩ = some (ov) := HO1.out.p1.cells 7
  go_wp2_with fail
  refine (HX.out w1 _ (HO1.out.re 3 [2, 0, 1])).mono ?_
  rintro e w2 ⟨dv, rfl, hO2, hK2⟩
  have HO2 := hid hO2
  have HK2 := hid ((HK1.out).trans hK2)
  clear hO2 hK2
  try dsimp only
  obtain ⟨pd, cd, rfl, -⟩ := (Bytes.rd HO2.out).form
  generalize R.1.data.length = dl at *
  have HO3 := hid (show Has w2 (pt g4 (.cells (ansC (ansE 0) nilV nilV) 29) :: Bytes (.slice pd dl cd) R.1.data :: Trc q R.2 :: L) from HO2.out.re 4 [2, 0, 1])
  have hz0 : w2.cell? ⟨g4, 0, none⟩ = some (.int .i64 0) := (HO3.out).cells 0
  have hz1 : w2.cell? ⟨g4, 1, none⟩ = some (.int .i64 0) := (HO3.out).cells 1
  have hz2 : w2.cell? ⟨g4, 2, none⟩ = some (.int .i64 0) := (HO3.out).cells 2
  have hz3 : w2.cell? ⟨g4, 3, none⟩ = some (.int .i64 0) := (HO3.out).cells 3
  have hz4 : w2.cell? ⟨g4, 4, none⟩ = some (.slice none 0 0) := (HO3.out).cells 4
  have hz5 : w2.cell? ⟨g4, 5, none⟩ = some (.slice none 0 0) := (HO3.out).cells 5
  have hy0 := (HO3.out).thaw 0
  have hy1 := (HO3.out).thaw 1
  have hy2 := (HO3.out).thaw 2
  have hy3 := (HO3.out).thaw 3
  have hy4 := (HO3.out).thaw 4
  have hy5 := (HO3.out).thaw 5
  unfold ansV ansC
  go_wp2_with fail
  have h1 := HO3.out.ans R.1 (.slice pd dl cd) nilV
  refine bodyPost_ret (ans_result rfl rfl h1) rfl ?_
  exact ⟨_, rfl, h1.drop, HK2.out.ans _ _ _ _ _ _ _⟩
end Go.Proofs.YtfhaedkaedffcaaGreatDoor
/- THE WALK of tree.Do, by the kinds of operations. -/
namespace Go.Proofs.YtfhaedkaedffcaaGreatDoor
open Go.RowKit Go.Own
set_option maxRecDepth 100000 in
set_option maxHeartbeats 8000000 in
theorem doTrunc (q : Nat) (S : Tre) (fd n off flags : Int) (path dest : Str) (ov : Value) (w : World) (L : List HP) (hop : Opn S) (hO : Has w (Trc q S :: L)) :
    Calls Tryz.prog 17 #[.pointer (some ⟨q, 0, none⟩), opV ⟨8, fd, n, off, flags, path, dest⟩ (ov)] w fun e w' => ∃ dv, e = .returned (ansV (S.trunc fd off).1 dv nilV) ∧ Has w' (Bytes dv ((S.trunc fd off).1).data :: Trc q (S.trunc fd off).2 :: L) ∧ Keep w w' := by
  have HX0 := (fun (w : World) (L' : List HP) (hO : Has w (Trc q S :: L')) => tTrunc q S ⟨8, fd, n, off, flags, path, dest⟩ ov w L' hop hO)
  dsimp only at HX0
  have HX := hid HX0
  clear HX0
  skip
  generalize S.trunc fd off = R at *
  have HO := hid hO
  clear hO
  unfold opV opC at HX ⊢
  go_enter Tryz.func17, Tryz.ntmps17
  go_upto_region 1 with fail
  have h1 := (HO.out.alloc (.cells #[.int .i64 8, .int .i64 fd, .int .i64 n, .int .i64 off, .int .i64 flags, sV path, sV dest, ov] 32)).alloc (.cells (ansC (ansE 0) nilV nilV) 29)
  have HK1 := hid (((Keep.refl w).alloc (.cells #[.int .i64 8, .int .i64 fd, .int .i64 n, .int .i64 off, .int .i64 flags, sV path, sV dest, ov] 32)).alloc (.cells (ansC (ansE 0) nilV nilV) 29))
  unfold ansC ansE at h1 HK1
  have e1 : (w.alloc (.cells #[.int .i64 8, .int .i64 fd, .int .i64 n, .int .i64 off, .int .i64 flags, sV path, sV dest, ov] 32)).heap.size = w.heap.size + 1 := by show (Array.push _ _).size = _; rw [Array.size_push]
  rw [e1] at h1
  have HO1 := hid h1
  clear h1 e1 HO
  generalize (w.alloc (.cells #[.int .i64 8, .int .i64 fd, .int .i64 n, .int .i64 off, .int .i64 flags, sV path, sV dest, ov] 32)).alloc (.cells #[.int .i64 0, .int .i64 0, .int .i64 0, .int .i64 0, nilV, nilV] 29) = w1 at *
  generalize w.heap.size = g3 at *
  generalize g3 + 1 = g4 at *
  have hp0 : w1.cell? ⟨g3, 0, none⟩ = some (.int .i64 8) := HO1.out.p1.cells 0
  have hp1 : w1.cell? ⟨g3, 1, none⟩ = some (.int .i64 fd) := HO1.out.p1.cells 1
  have hp2 : w1.cell? ⟨g3, 2, none⟩ = some (.int .i64 n) := HO1.out.p1.cells 2
  have hp3 : w1.cell? ⟨g3, 3, none⟩ = some (.int .i64 off) := HO1.out.p1.cells 3
  have hp4 : w1.cell? ⟨g3, 4, none⟩ = some (.int .i64 flags) := HO1.out.p1.cells 4
  have hp5 : w1.cell? ⟨g3, 5, none⟩ = some (sV path) := HO1.out.p1.cells 5
  have hp6 : w1.cell? ⟨g3, 6, none⟩ = some (sV dest) := HO1.out.p1.cells 6
  have hp7 : w1.cell? ⟨g3, 7, none⟩ = some (ov) := HO1.out.p1.cells 7
  go_wp2_with fail
  refine (HX.out w1 _ (HO1.out.re 3 [2, 0, 1])).mono ?_
  rintro e w2 ⟨dv, rfl, hO2, hK2⟩
  have HO2 := hid hO2
  have HK2 := hid ((HK1.out).trans hK2)
  clear hO2 hK2
  try dsimp only
  obtain ⟨pd, cd, rfl, -⟩ := (Bytes.rd HO2.out).form
  generalize R.1.data.length = dl at *
  have HO3 := hid (show Has w2 (pt g4 (.cells (ansC (ansE 0) nilV nilV) 29) :: Bytes (.slice pd dl cd) R.1.data :: Trc q R.2 :: L) from HO2.out.re 4 [2, 0, 1])
  have hz0 : w2.cell? ⟨g4, 0, none⟩ = some (.int .i64 0) := (HO3.out).cells 0
  have hz1 : w2.cell? ⟨g4, 1, none⟩ = some (.int .i64 0) := (HO3.out).cells 1
  have hz2 : w2.cell? ⟨g4, 2, none⟩ = some (.int .i64 0) := (HO3.out).cells 2
  have hz3 : w2.cell? ⟨g4, 3, none⟩ = some (.int .i64 0) := (HO3.out).cells 3
  have hz4 : w2.cell? ⟨g4, 4, none⟩ = some (.slice none 0 0) := (HO3.out).cells 4
  have hz5 : w2.cell? ⟨g4, 5, none⟩ = some (.slice none 0 0) := (HO3.out).cells 5
  have hy0 := (HO3.out).thaw 0
  have hy1 := (HO3.out).thaw 1
  have hy2 := (HO3.out).thaw 2
  have hy3 := (HO3.out).thaw 3
  have hy4 := (HO3.out).thaw 4
  have hy5 := (HO3.out).thaw 5
  unfold ansV ansC
  go_wp2_with fail
  have h1 := HO3.out.ans R.1 (.slice pd dl cd) nilV
  refine bodyPost_ret (ans_result rfl rfl h1) rfl ?_
  exact ⟨_, rfl, h1.drop, HK2.out.ans _ _ _ _ _ _ _⟩
end Go.Proofs.YtfhaedkaedffcaaGreatDoor
/- tree.Do on a tree of one file f: each operation as the laws call it. -/
namespace Go.Proofs.YtfhaedkaedffcaaGreatDoor
open Go.RowKit Go.Own
theorem look_A {s : Tb.Slot} (h : s.on = true) : Tb.look (tabA s) 0 = some s := by
  obtain ⟨a, b, c, on⟩ := s
  cases h
  rfl
theorem look_B0 {s t : Tb.Slot} (h : s.on = true) : Tb.look (tabB s t) 0 = some s := by
  obtain ⟨a, b, c, on⟩ := s
  cases h
  rfl
theorem look_B1 {s t : Tb.Slot} (h : t.on = true) : Tb.look (tabB s t) 1 = some t := by
  obtain ⟨a, b, c, on⟩ := t
  cases h
  rfl
theorem tabF_A {s : Tb.Slot} (hn : s.node = 2) (h0 : 0 ≤ s.off) (h1 : s.off ≤ 2000000000000) : TabF (tabA s) := by
  intro t ht hon
  rcases List.mem_cons.1 ht with rfl | ht
  · exact ⟨hn, h0, h1⟩
  · rw [(List.mem_replicate.1 ht).2] at hon; cases hon
theorem tabF_B {s u : Tb.Slot} (hn : s.node = 2) (h0 : 0 ≤ s.off) (h1 : s.off ≤ 2000000000000) (hn' : u.node = 2) (h0' : 0 ≤ u.off) (h1' : u.off ≤ 2000000000000) : TabF (tabB s u) := by
  intro t ht hon
  rcases List.mem_cons.1 ht with rfl | ht
  · exact ⟨hn, h0, h1⟩
  · rcases List.mem_cons.1 ht with rfl | ht
    · exact ⟨hn', h0', h1'⟩
    · rw [(List.mem_replicate.1 ht).2] at hon; cases hon
theorem fStat (q : Nat) (mx : Int) (w : World) (L : List HP) {d : List Int} {wr : List Bool} {T : List Tb.Slot} (hd : d.length ≤ 100000) (hM : MxL mx L) (hO : Has w (Trc q (trF d wr T) :: L)) : Calls Tryz.prog 17 #[.pointer (some ⟨q, 0, none⟩), opW 16 0 0 0 0 [47, 102] nilV] w fun e w' => e = .returned (ansV ⟨0, d.length, 1, 1, [], []⟩ nilV nilV) ∧ Has w' (Trc q (trF d wr T) :: L) ∧ Keep w w' := by
  have h := doStat q (trF d wr T) 0 0 0 0 pF [] nilV w L mx (wkF hd) hM (by decide) (fun n x h => by
    rcases trF_all h with ⟨-, rfl⟩ | ⟨-, rfl⟩
    · exact ⟨by simp [rootF], by simp [rootF]⟩
    · exact ⟨hd, by simp [fileF]⟩) hO
  rw [stat_F] at h
  exact h
section
variable (q : Nat) (mx : Int) (w : World) (L : List HP)
theorem fOpen33 (hM : MxL mx L) (hO : Has w (Trc q tre0 :: L)) : Calls Tryz.prog 17 #[.pointer (some ⟨q, 0, none⟩), opW 1 0 0 0 33 [47, 102] nilV] w fun e w' => e = .returned (.agg #[.int .i64 0, .int .i64 0, .int .i64 0, .int .i64 0, .slice none 0 0, .slice none 0 0]) ∧ Has w' (Trc q (trF [] [] (tabA ⟨2, 0, 33, true⟩)) :: L) ∧ Keep w w' := by
  have h := doOpen q tre0 0 0 0 33 pF [] nilV w L rkA mx (wk_of wk_0).1 (wy_of wy_0 rkA_low) (opb_of opb_0 wk_0) hM (by decide) (by decide +kernel) hO
  rw [open_f33] at h
  exact h
theorem fOpen41 (hM : MxL mx L) (hO : Has w (Trc q tre0 :: L)) : Calls Tryz.prog 17 #[.pointer (some ⟨q, 0, none⟩), opW 1 0 0 0 41 [47, 102] nilV] w fun e w' => e = .returned (.agg #[.int .i64 0, .int .i64 0, .int .i64 0, .int .i64 0, .slice none 0 0, .slice none 0 0]) ∧ Has w' (Trc q (trF [] [] (tabA ⟨2, 0, 41, true⟩)) :: L) ∧ Keep w w' := by
  have h := doOpen q tre0 0 0 0 41 pF [] nilV w L rkA mx (wk_of wk_0).1 (wy_of wy_0 rkA_low) (opb_of opb_0 wk_0) hM (by decide) (by decide +kernel) hO
  rw [open_f41] at h
  exact h
variable {d : List Int} {wr : List Bool} {T : List Tb.Slot} {fd : Int} {s : Tb.Slot} (hd : d.length ≤ 100000) (hw : wr.length ≤ 162)
include hd hw
theorem fOpen0 (hs : s.on = true) (hM : MxL mx L) (hO : Has w (Trc q (trF d wr (tabA s)) :: L)) : Calls Tryz.prog 17 #[.pointer (some ⟨q, 0, none⟩), opW 1 0 0 0 0 [47, 102] nilV] w fun e w' => e = .returned (.agg #[.int .i64 0, .int .i64 1, .int .i64 0, .int .i64 0, .slice none 0 0, .slice none 0 0]) ∧ Has w' (Trc q (trF d wr (tabB s ⟨2, 0, 0, true⟩)) :: L) ∧ Keep w w' := by
  have h := doOpen q (trF d wr (tabA s)) 0 0 0 0 pF [] nilV w L _ mx (wkF hd) wyF (opbF hd (by omega)) hM (by decide) (by decide +kernel) hO
  rw [open_f0 hs] at h
  exact h
variable (hT : TabF T) (hl : Tb.look T fd = some s)
include hT hl
theorem fRead3 {n : Int} (h0 : 0 ≤ n) (hO : Has w (Trc q (trF d wr T) :: L)) : Calls Tryz.prog 17 #[.pointer (some ⟨q, 0, none⟩), opW 3 fd n 0 0 [] nilV] w fun e w' => ∃ p c, e = .returned (ansV ⟨0, 0, 0, 0, (d.drop s.off.toNat).take n.toNat, []⟩ (.slice p ((d.drop s.off.toNat).take n.toNat).length c) nilV) ∧ Has w' (Bytes (.slice p ((d.drop s.off.toNat).take n.toNat).length c) ((d.drop s.off.toNat).take n.toNat) :: Trc q (trF d wr (T.set fd.toNat { s with off := s.off + ((d.drop s.off.toNat).take n.toNat).length })) :: L) ∧ Keep w w' := by
  have hs := hT s (look_mem hl).1 (look_mem hl).2
  have h := doRead3 q (trF d wr T) fd n 0 0 [] [] nilV w L (opnF hT hd (by omega)) (by decide) hO
  rw [read_F3 hl hs.1 hs.2.1 h0] at h
  refine Calls.mono (show Calls Tryz.prog 17 #[.pointer (some ⟨q, 0, none⟩), opW 3 fd n 0 0 [] nilV] w _ from h) ?_
  rintro e w' ⟨dv, rfl, h1, h2⟩
  obtain ⟨p, c, rfl, -⟩ := (Bytes.rd h1).form
  exact ⟨p, c, rfl, h1, h2⟩
theorem fRead5 {n off : Int} (h0 : 0 ≤ n) (ho : 0 ≤ off) (ho1 : off ≤ 2000000000000) (hO : Has w (Trc q (trF d wr T) :: L)) : Calls Tryz.prog 17 #[.pointer (some ⟨q, 0, none⟩), opW 5 fd n off 0 [] nilV] w fun e w' => ∃ p c, e = .returned (ansV ⟨0, 0, 0, 0, (d.drop off.toNat).take n.toNat, []⟩ (.slice p ((d.drop off.toNat).take n.toNat).length c) nilV) ∧ Has w' (Bytes (.slice p ((d.drop off.toNat).take n.toNat).length c) ((d.drop off.toNat).take n.toNat) :: Trc q (trF d wr T) :: L) ∧ Keep w w' := by
  have hs := hT s (look_mem hl).1 (look_mem hl).2
  have h := doRead5 q (trF d wr T) fd n off 0 [] [] nilV w L (opnF hT hd (by omega)) ho1 hO
  rw [read_F5 hl hs.1 h0 ho] at h
  refine Calls.mono (show Calls Tryz.prog 17 #[.pointer (some ⟨q, 0, none⟩), opW 5 fd n off 0 [] nilV] w _ from h) ?_
  rintro e w' ⟨dv, rfl, h1, h2⟩
  obtain ⟨p, c, rfl, -⟩ := (Bytes.rd h1).form
  exact ⟨p, c, rfl, h1, h2⟩
theorem fSeek0 {off : Int} (ho : 0 ≤ off) (ho1 : off ≤ 1099511627776) (hO : Has w (Trc q (trF d wr T) :: L)) : Calls Tryz.prog 17 #[.pointer (some ⟨q, 0, none⟩), opW 7 fd 0 off 0 [] nilV] w fun e w' => ∃ p c, e = .returned (ansV ⟨0, off, 0, 0, [], []⟩ (.slice p 0 c) nilV) ∧ Has w' (Trc q (trF d wr (T.set fd.toNat { s with off := off })) :: L) ∧ Keep w w' := by
  have hs := hT s (look_mem hl).1 (look_mem hl).2
  have h := doSeek q (trF d wr T) fd 0 off 0 [] [] nilV w L (opnF hT hd (by omega)) hO
  rw [seek_F0 hl hs.1 ho ho1] at h
  refine Calls.mono (show Calls Tryz.prog 17 #[.pointer (some ⟨q, 0, none⟩), opW 7 fd 0 off 0 [] nilV] w _ from h) ?_
  rintro e w' ⟨dv, rfl, h1, h2⟩
  obtain ⟨p, c, rfl, -⟩ := (Bytes.rd h1).form
  exact ⟨p, c, rfl, h1.drop, h2⟩
theorem fSeek1 (ho1 : s.off ≤ 1099511627776) (hO : Has w (Trc q (trF d wr T) :: L)) : Calls Tryz.prog 17 #[.pointer (some ⟨q, 0, none⟩), opW 7 fd 1 0 0 [] nilV] w fun e w' => ∃ p c, e = .returned (ansV ⟨0, s.off, 0, 0, [], []⟩ (.slice p 0 c) nilV) ∧ Has w' (Trc q (trF d wr T) :: L) ∧ Keep w w' := by
  have hs := hT s (look_mem hl).1 (look_mem hl).2
  have h := doSeek q (trF d wr T) fd 1 0 0 [] [] nilV w L (opnF hT hd (by omega)) hO
  rw [seek_F1 hl hs.1 hs.2.1 ho1] at h
  refine Calls.mono (show Calls Tryz.prog 17 #[.pointer (some ⟨q, 0, none⟩), opW 7 fd 1 0 0 [] nilV] w _ from h) ?_
  rintro e w' ⟨dv, rfl, h1, h2⟩
  obtain ⟨p, c, rfl, -⟩ := (Bytes.rd h1).form
  exact ⟨p, c, rfl, h1.drop, h2⟩
variable (hf : andI s.flags 32 ≠ 0)
include hf
theorem fTrunc {off : Int} (ho : 0 ≤ off) (ho1 : off ≤ 20736) (hO : Has w (Trc q (trF d wr T) :: L)) : Calls Tryz.prog 17 #[.pointer (some ⟨q, 0, none⟩), opW 8 fd 0 off 0 [] nilV] w fun e w' => ∃ p c wr', e = .returned (ansV (ansE 0) (.slice p 0 c) nilV) ∧ wr'.length ≤ 162 ∧ Has w' (Trc q (trF (cutD d off.toNat) wr' T) :: L) ∧ Keep w w' := by
  have hs := hT s (look_mem hl).1 (look_mem hl).2
  have h := doTrunc q (trF d wr T) fd 0 off 0 [] [] nilV w L (opnF hT hd (by omega)) hO
  rw [trunc_F hl hs.1 hf ho ho1] at h
  refine Calls.mono (show Calls Tryz.prog 17 #[.pointer (some ⟨q, 0, none⟩), opW 8 fd 0 off 0 [] nilV] w _ from h) ?_
  rintro e w' ⟨dv, rfl, h1, h2⟩
  obtain ⟨p, c, rfl, -⟩ := (Bytes.rd h1).form
  exact ⟨p, c, _, rfl, cutW_len hw _, h1.drop, h2⟩
variable (po : Option Addr) (co : Nat) {ds : List Int} (hds : ds.length ≤ 10000)
include hds
/-- A write at the end. -/
theorem fWrite4 (he : wrO d s = d.length) (hd1 : d.length ≤ 10000) (hrd : ∀ w', Has w' L → Rd w' (.slice po ds.length co) 1 ds.length (bc ds)) (hO : Has w (Trc q (trF d wr T) :: L)) : Calls Tryz.prog 17 #[.pointer (some ⟨q, 0, none⟩), opW 4 fd 0 0 0 [] (.slice po ds.length co)] w fun e w' => ∃ p c wr' o', e = .returned (ansV ⟨0, ds.length, 0, 0, [], []⟩ (.slice p 0 c) nilV) ∧ wr'.length ≤ 162 ∧ 0 ≤ o' ∧ o' ≤ max s.off (d.length + ds.length) ∧ (wrO d s = s.off → o' = s.off + ds.length) ∧ Has w' (Trc q (trF (d ++ ds) wr' (T.set fd.toNat { s with off := o' })) :: L) ∧ Keep w w' := by
  have hs := hT s (look_mem hl).1 (look_mem hl).2
  have h := doWrite4 q (trF d wr T) fd 0 0 0 [] [] po co ds w L (opnF hT hd (by omega)) (by decide) (by omega) hrd hO
  by_cases hn : ds = []
  · subst hn
    rw [write_none4 hl hs.1 hf 0 (by rw [he]; omega)] at h
    refine Calls.mono (show Calls Tryz.prog 17 #[.pointer (some ⟨q, 0, none⟩), opW 4 fd 0 0 0 [] (.slice po ([] : List Int).length co)] w _ from h) ?_
    rintro e w' ⟨dv, rfl, h1, h2⟩
    obtain ⟨p, c, rfl, -⟩ := (Bytes.rd h1).form
    refine ⟨p, c, wr, s.off, rfl, hw, hs.2.1, by omega, fun _ => by simp, ?_, h2⟩
    rw [List.append_nil, show T.set fd.toNat { s with off := s.off } = T from look_set hl]
    exact h1.drop
  · rw [write_F4 hl hs.1 hf 0 hn (by rw [he]; omega) (by rw [he]; omega)] at h
    refine Calls.mono (show Calls Tryz.prog 17 #[.pointer (some ⟨q, 0, none⟩), opW 4 fd 0 0 0 [] (.slice po ds.length co)] w _ from h) ?_
    rintro e w' ⟨dv, rfl, h1, h2⟩
    obtain ⟨p, c, rfl, -⟩ := (Bytes.rd h1).form
    refine ⟨p, c, wrW d wr (wrO d s).toNat ds, wrO d s + ds.length, rfl, wrW_len hw _ _, by rw [he]; omega, by rw [he]; omega, fun h => by rw [h], ?_, h2⟩
    have h3 := h1.drop
    rw [show wrD d (wrO d s).toNat ds = d ++ ds by rw [he, Int.toNat_natCast, wrD_end]] at h3
    exact h3
/-- A write anywhere. -/
def pwD (d : List Int) (o : Nat) (ds : List Int) : List Int := if ds = [] then d else wrD d o ds
theorem fWrite6 {off : Int} (ho : 0 ≤ off) (ho1 : off ≤ 10000) (hrd : ∀ w', Has w' L → Rd w' (.slice po ds.length co) 1 ds.length (bc ds)) (hO : Has w (Trc q (trF d wr T) :: L)) : Calls Tryz.prog 17 #[.pointer (some ⟨q, 0, none⟩), opW 6 fd 0 off 0 [] (.slice po ds.length co)] w fun e w' => ∃ p c wr', e = .returned (ansV ⟨0, ds.length, 0, 0, [], []⟩ (.slice p 0 c) nilV) ∧ wr'.length ≤ 162 ∧ Has w' (Trc q (trF (pwD d off.toNat ds) wr' T) :: L) ∧ Keep w w' := by
  have hs := hT s (look_mem hl).1 (look_mem hl).2
  have h := doWrite6 q (trF d wr T) fd 0 off 0 [] [] po co ds w L (opnF hT hd (by omega)) (by omega) (by omega) hrd hO
  by_cases hn : ds = []
  · subst hn
    rw [write_none6 hl hs.1 hf ho (by omega)] at h
    refine Calls.mono (show Calls Tryz.prog 17 #[.pointer (some ⟨q, 0, none⟩), opW 6 fd 0 off 0 [] (.slice po ([] : List Int).length co)] w _ from h) ?_
    rintro e w' ⟨dv, rfl, h1, h2⟩
    obtain ⟨p, c, rfl, -⟩ := (Bytes.rd h1).form
    exact ⟨p, c, wr, rfl, hw, h1.drop, h2⟩
  · rw [write_F6 hl hs.1 hf hn ho (by omega)] at h
    refine Calls.mono (show Calls Tryz.prog 17 #[.pointer (some ⟨q, 0, none⟩), opW 6 fd 0 off 0 [] (.slice po ds.length co)] w _ from h) ?_
    rintro e w' ⟨dv, rfl, h1, h2⟩
    obtain ⟨p, c, rfl, -⟩ := (Bytes.rd h1).form
    refine ⟨p, c, wrW d wr off.toNat ds, rfl, wrW_len hw off.toNat ds, ?_, h2⟩
    rw [show pwD d off.toNat ds = wrD d off.toNat ds from if_neg hn]
    exact h1.drop
end
end Go.Proofs.YtfhaedkaedffcaaGreatDoor
/-
  DERIVED: THE SHELF's CONTRACTS AT THIS DUMP, IN PLAIN WORDS (tools/lay-plain.mjs out of 'TryzSrt.lean', which tools/lay-shelf.mjs wrote): THE SAME DECLARATIONS UNDER THE SAME NAMES: 'import', 'namespace', 'open', 'def', 'theorem' AND NOTHING ELSE: no command of the shelf's: FOR A HAND-IN. Each laying: the table of numbers ('.._ren') and one theorem, a field a fact of the dump's own or the kernel's comparison; each contract: ONE APPLICATION.
-/
namespace Go.Proofs
open Go.Shelf
def Tryz.sortNode_ren : Go.Shelf.Ren := ⟨fun | 6 => 62 | 15 => 112 | 14 => 111 | 28 => 158 | 29 => 159 | 20 => 150 | 21 => 151 | 22 => 152 | 23 => 153 | 24 => 154 | 25 => 155 | 26 => 156 | 27 => 157 | 46 => 180 | 47 => 181 | 48 => 182 | 49 => 183 | 50 => 184 | 57 => 201 | n => n, fun | 22 => 33 | 24 => 44 | 25 => 89 | 3 => 3 | 39 => 90 | 0 => 0 | 53 => 188 | 55 => 190 | 4 => 4 | 46 => 182 | 45 => 181 | 50 => 126 | 5 => 5 | 9 => 9 | 66 => 202 | 70 => 206 | 76 => 224 | 77 => 55 | n => n, fun | n => n⟩
theorem Tryz.sortNode : Go.Proofs.SlLaysF0.n6 Tryz.prog Tryz.sortNode_ren := {
  mixed := by kernel_rfl
  f6 := ⟨Tryz.f62.name, by decide, Tryz.func62.trans (congrArg some (by kernel_rfl))⟩
  f14 := ⟨Tryz.f111.name, by decide, Tryz.func111.trans (congrArg some (by kernel_rfl))⟩
  f15 := Tryz.func112.trans (congrArg some (by kernel_rfl))
  f20 := ⟨Tryz.f150.name, by decide, Tryz.func150.trans (congrArg some (by kernel_rfl))⟩
  f21 := ⟨Tryz.f151.name, by decide, Tryz.func151.trans (congrArg some (by kernel_rfl))⟩
  f22 := ⟨Tryz.f152.name, by decide, Tryz.func152.trans (congrArg some (by kernel_rfl))⟩
  f23 := ⟨Tryz.f153.name, by decide, Tryz.func153.trans (congrArg some (by kernel_rfl))⟩
  f24 := ⟨Tryz.f154.name, by decide, Tryz.func154.trans (congrArg some (by kernel_rfl))⟩
  f25 := ⟨Tryz.f155.name, by decide, Tryz.func155.trans (congrArg some (by kernel_rfl))⟩
  f26 := ⟨Tryz.f156.name, by decide, Tryz.func156.trans (congrArg some (by kernel_rfl))⟩
  f27 := ⟨Tryz.f157.name, by decide, Tryz.func157.trans (congrArg some (by kernel_rfl))⟩
  f28 := Tryz.func158.trans (congrArg some (by kernel_rfl))
  f29 := Tryz.func159.trans (congrArg some (by kernel_rfl))
  f46 := ⟨Tryz.f180.name, by decide, Tryz.func180.trans (congrArg some (by kernel_rfl))⟩
  f47 := Tryz.func181.trans (congrArg some (by kernel_rfl))
  f48 := Tryz.func182.trans (congrArg some (by kernel_rfl))
  f49 := ⟨Tryz.f183.name, by decide, Tryz.func183.trans (congrArg some (by kernel_rfl))⟩
  f50 := ⟨Tryz.f184.name, by decide, Tryz.func184.trans (congrArg some (by kernel_rfl))⟩
  f57 := ⟨Tryz.f201.name, by decide, Tryz.func201.trans (congrArg some (by kernel_rfl))⟩
  t0 := Tryz.underlying0
  a0 := Tryz.isAgg0
  z0 := Tryz.sizeOf0
  v0 := Tryz.zeroValue0
  t3 := Tryz.underlying3
  a3 := Tryz.isAgg3
  z3 := Tryz.sizeOf3
  v3 := Tryz.zeroValue3
  t4 := Tryz.underlying4
  a4 := Tryz.isAgg4
  z4 := Tryz.sizeOf4
  v4 := Tryz.zeroValue4
  t5 := Tryz.underlying5
  a5 := Tryz.isAgg5
  z5 := Tryz.sizeOf5
  v5 := Tryz.zeroValue5
  t9 := Tryz.underlying9
  a9 := Tryz.isAgg9
  z9 := Tryz.sizeOf9
  v9 := Tryz.zeroValue9
  t22 := Tryz.underlying33
  a22 := Tryz.isAgg33
  z22 := Tryz.sizeOf33
  v22 := Tryz.zeroValue33
  t25 := Tryz.underlying89
  a25 := Tryz.isAgg89
  z25 := Tryz.sizeOf89
  v25 := Tryz.zeroValue89
  t39 := Tryz.underlying90
  a39 := Tryz.isAgg90
  z39 := Tryz.sizeOf90
  v39 := Tryz.zeroValue90
  t45 := Tryz.underlying181
  a45 := Tryz.isAgg181
  z45 := Tryz.sizeOf181
  v45 := Tryz.zeroValue181
  t46 := Tryz.underlying182
  a46 := Tryz.isAgg182
  z46 := Tryz.sizeOf182
  v46 := Tryz.zeroValue182
  t50 := Tryz.underlying126
  a50 := Tryz.isAgg126
  z50 := Tryz.sizeOf126
  v50 := Tryz.zeroValue126
  t53 := Tryz.underlying188
  a53 := Tryz.isAgg188
  z53 := Tryz.sizeOf188
  v53 := Tryz.zeroValue188
  t55 := Tryz.underlying190
  a55 := Tryz.isAgg190
  z55 := Tryz.sizeOf190
  v55 := Tryz.zeroValue190
  t66 := Tryz.underlying202
  a66 := Tryz.isAgg202
  z66 := Tryz.sizeOf202
  v66 := Tryz.zeroValue202
  t70 := Tryz.underlying206
  a70 := Tryz.isAgg206
  z70 := Tryz.sizeOf206
  v70 := Tryz.zeroValue206
  t76 := Tryz.underlying224
  a76 := Tryz.isAgg224
  z76 := Tryz.sizeOf224
  v76 := Tryz.zeroValue224
  t77 := Tryz.underlying55
  a77 := Tryz.isAgg55
  z77 := Tryz.sizeOf55
  v77 := Tryz.zeroValue55 }
end Go.Proofs
/- slices.SortFunc of the files as they are seen. -/
namespace Go.Proofs.YtfhaedkaedffcaaGreatDoor
open Go.RowKit Go.Own Go.Sort Go.Shelf
theorem cb_lt : ∀ a b : List UInt8, Lib.compareBytes a b < 0 ↔ a < b
  | [], [] => by simp [Lib.compareBytes]
  | [], _ :: _ => by simp [Lib.compareBytes]
  | _ :: _, [] => by simp [Lib.compareBytes]
  | a :: r, b :: s => by
    rw [Lib.compareBytes, List.cons_lt_cons_iff, ← cb_lt r s]
    by_cases h1 : a < b
    · simp [h1]
    · by_cases h2 : b < a
      · have h3 : a ≠ b := by rintro rfl; exact absurd h2 (UInt8.lt_irrefl _)
        simp [h1, h2, h3]
      · have h3 : a = b := UInt8.le_antisymm (UInt8.not_lt.1 h2) (UInt8.not_lt.1 h1)
        simp [h1, h3]
def cfS (x y : Sn) : Int := Lib.compareBytes x.path y.path
theorem lt_eq (x y : Sn) : ltOf cfS x y = ltStr x.path y.path := by
  unfold ltOf cfS ltStr
  rw [decide_eq_decide]
  exact cb_lt _ _
theorem swoS : SWO (ltOf cfS) where
  irrefl x := by rw [lt_eq]; exact swo_ltStr.irrefl _
  trans x y z h1 h2 := by rw [lt_eq] at *; exact swo_ltStr.trans _ _ _ h1 h2
  ntrans x y z h1 h2 := by rw [lt_eq] at *; exact swo_ltStr.ntrans _ _ _ h1 h2
theorem snEnc_flat : ∀ os : List Sn, snEnc os = os.flatMap Sn.enc
  | [] => rfl
  | s :: r => by rw [snEnc, snEnc_flat r]; rfl
instance : Inhabited Sn := ⟨⟨[], 0, 0, 0, [], .slice none 0 0⟩⟩
theorem oneV_one (v : Value) : (oneV v).oneCell' = true := by cases v <;> rfl
theorem enc_one (x : Sn) : ∀ v ∈ x.enc, v.oneCell' = true := by
  intro v hv
  simp only [Sn.enc, List.mem_cons, List.not_mem_nil, or_false] at hv
  rcases hv with rfl | rfl | rfl | rfl | rfl
  · rfl
  · rfl
  · rfl
  · rfl
  · exact oneV_one _
theorem sortsNd : SortsNd := by
  intro v os w L hne hl hO
  have h := sns_iff.1 hO
  obtain ⟨-, ⟨-, h0, -, -⟩ | ⟨g, cap, cur, rfl, -, -, -, -, h4⟩⟩ := h.row_cases
  · exact absurd (List.eq_nil_of_length_eq_zero h0) hne
  obtain ⟨-, hcs, hfz, -⟩ := h.row_cells
  have hH : HoldsK Sn.enc 5 w g 0 os.toArray := by
    intro j hj
    have hj' : j < os.length * 5 := by simpa using hj
    rw [Nat.zero_add]
    refine ⟨?_, hfz j⟩
    rw [hcs j hj', snEnc_flat]
    have h1 := flatK_list Sn.enc 5 (by decide) (fun _ => rfl) os.toArray
    have h2 : (os.flatMap Sn.enc)[j]? = (flatK Sn.enc 5 os.toArray).toList[j]? := by rw [h1]
    rw [h2, Array.getElem?_toList, Array.getElem?_eq_getElem hj, getElem!_pos _ j hj]
    rfl
  have eg : ∀ args w, (callFunc 63 args).run Tryz.prog w = .ok (.enter 63 args) w := enters_of Tryz.func63 (by kernel_rfl) rfl
  have hcon := AnyQ.slices_SortFunc Tryz.sortNode 5 Tryz.isAgg44 Tryz.sizeOf44 Sn.enc (fun _ => rfl) enc_one cfS swoS 63 #[] g 0 cap os.toArray w eg (fun _ _ _ _ x y => tCmp x y _) hH h4.lt (by simp; omega)
  refine Calls.mono (show Calls Tryz.prog 62 #[.slice (some ⟨g, 0, none⟩) os.length cap, .func (.func 63) #[] #[]] w _ from hcon) ?_
  rintro e w' ⟨rfl, d', n, os2, hp, hs, rfl⟩
  have hsz : d'.size = os.length := by have := hp.1; simpa using this
  have hpm : d'.toList.Perm os := by
    have h1 := hp.2.2
    have e1 : d'.extract 0 os.toArray.size = d' := by
      rw [List.size_toArray, ← hsz]
      simp
    have e2 : os.toArray.extract 0 os.toArray.size = os.toArray := by simp
    rw [e1, e2] at h1
    simpa using h1
  refine ⟨rfl, d'.toList, hpm, ?_, ?_, rfl, rfl, rfl, by simp [sortWorldK, Sort.grow, putRowK, Sort.putRow, Sort.mapBlock, Sort.ahead]⟩
  · unfold Srt
    rw [List.pairwise_iff_getElem]
    intro i j hi hj hij
    have hi' : i < d'.size := by simpa using hi
    have hj' : j < d'.size := by simpa using hj
    have h1 := hs i j (Nat.zero_le _) hij (by rw [List.size_toArray, ← hsz]; exact hj')
    rw [getElem!_pos d' i hi', getElem!_pos d' j hj'] at h1
    unfold ltOf at h1
    rw [Array.getElem_toList, Array.getElem_toList]
    exact of_decide_eq_false h1
  · have h5 := ((Has.ahead h n).putRowK Sn.enc (by decide) (fun _ => rfl) (d := d') hsz).grow os2
    refine sns_iff.2 ?_
    have e9 : d'.toList.length = os.length := by rw [Array.length_toList]; exact hsz
    rw [snEnc_flat, e9]
    exact h5.perm (.cons _ (List.Perm.append_right L (hpm.map _).symm))
end Go.Proofs.YtfhaedkaedffcaaGreatDoor
/- THE WALK of tree.fresh. -/
namespace Go.Proofs.YtfhaedkaedffcaaGreatDoor
open Go.RowKit Go.Own
set_option maxRecDepth 100000 in
set_option maxHeartbeats 8000000 in
theorem tFresh (q : Nat) (S : Tre) (rk : Int → Nat) (p : Str) (mx : Int) (w : World) (L : List HP) (hW : Wk S) (hY : Wy S rk) (hM : MxL mx L) (hp : p.length ≤ 100000) (hO : Has w (Trc q S :: L)) :
    Calls Tryz.prog 50 #[.pointer (some ⟨q, 0, none⟩), sV p] w fun e w' => e = .returned (.tuple #[spV (S.fresh p).1, .int .i64 (S.fresh p).2]) ∧ Has w' (Trc q S :: L) ∧ Keep w w' := by
  have HPL := hid (fun (w : World) (L' : List HP) (hM : MxL mx L') (hO : Has w (Trc q S :: L')) => tPlace q S rk p mx w L' hW hY hM hp hO)
  generalize hR : S.fresh p = R
  unfold Tre.fresh at hR
  generalize S.place p = F at *
  obtain ⟨s2, e2⟩ := F
  dsimp only at *
  have HR := hid hR
  have HM := hid hM
  have HO := hid hO
  clear hM hO hp hW hR hY
  go_enter Tryz.func50, Tryz.ntmps50
  go_upto_region 1 with fail
  generalize hg4 : w.heap.size = g4 at *
  go_cut [6, 7] (fun p9 e9 wx => ∃ (w3 : World) (g9 : Nat), w3 = wx ∧ e9 = .int .i64 e2 ∧ p9 = .pointer (some ⟨g9, 0, none⟩) ∧ Hid (Has w3 (pt g9 (.cells (spC s2) 81) :: pt g4 (.cells (spC spt0) 81) :: Trc q S :: L)) ∧ Hid (Keep w w3))
  case first =>
    subst hg4
    go_wp2_with fail
    refine (HPL.out _ _ (HM.out.cons (pt w.heap.size (.cells (spC spt0) 81))) ((HO.out.alloc (.cells (spC spt0) 81)).re 2 [1, 0])).mono ?_
    rintro e w2 ⟨rfl, hO2, hK2⟩
    have HO2 := hid hO2
    have HK2 := hid (((Keep.refl w).alloc _).trans hK2)
    clear hO2 hK2
    try dsimp only
    unfold spV spC
    go_wp2_with fail
    go_meet
    exact ⟨_, _, rfl, rfl, rfl, hid ((HO2.out.alloc (.cells (spC s2) 81)).re 3 [0, 2, 1]), hid (HK2.out.alloc _)⟩
  case rest =>
    obtain ⟨w3, g9, rfl, rfl, rfl, HO3, HK3⟩ := hcut
    have hc80 : w3.cell? ⟨g4, 0, none⟩ = some (.int .i64 0) := HO3.out.p1.cells 0
    have hc81 : w3.cell? ⟨g4, 1, none⟩ = some (.int .i64 0) := HO3.out.p1.cells 1
    have hc82 : w3.cell? ⟨g4, 2, none⟩ = some (sV []) := HO3.out.p1.cells 2
    have ht80 := HO3.out.p1.thaw 0
    have ht81 := HO3.out.p1.thaw 1
    have ht82 := HO3.out.p1.thaw 2
    have hc90 : w3.cell? ⟨g9, 0, none⟩ = some (.int .i64 s2.node) := HO3.out.cells 0
    have hc91 : w3.cell? ⟨g9, 1, none⟩ = some (.int .i64 s2.dir) := HO3.out.cells 1
    have hc92 : w3.cell? ⟨g9, 2, none⟩ = some (sV s2.name) := HO3.out.cells 2
    by_cases he2 : e2 = 0
    · subst he2
      by_cases hn : s2.node = 0
      · have HRR := hid (show R = (s2, 0) from by rw [← HR.out, if_neg (fun h => h rfl), if_neg (fun h => h hn)])
        clear HR
        obtain ⟨n2, d2, nm2⟩ := s2
        dsimp only at *
        subst hn
        go_wp2_with fail
        have h1 := (show Has w3 (pt g4 (.cells (spC spt0) 81) :: Trc q S :: L) from HO3.out.re 3 [1, 2]).spt ⟨0, d2, nm2⟩
        refine bodyPost_ret (spt_result ⟨0, d2, nm2⟩ rfl rfl rfl h1) rfl ?_
        rw [HRR.out]
        exact ⟨rfl, h1.drop, HK3.out.spt _ _ _ _⟩
      · have HRR := hid (show R = (spt0, 6) from by rw [← HR.out, if_neg (fun h => h rfl), if_pos hn])
        go_wp2_with fail
        have h1 := (show Has w3 (pt g4 (.cells (spC spt0) 81) :: Trc q S :: L) from HO3.out.re 3 [1, 2]).spt spt0
        refine bodyPost_ret (spt_result spt0 rfl rfl rfl h1) rfl ?_
        rw [HRR.out]
        exact ⟨rfl, h1.drop, HK3.out.spt _ _ _ _⟩
    · have HRR := hid (show R = (spt0, e2) from by rw [← HR.out, if_pos he2])
      go_wp2_with fail
      have h1 := (show Has w3 (pt g4 (.cells (spC spt0) 81) :: Trc q S :: L) from HO3.out.re 3 [1, 2]).spt spt0
      refine bodyPost_ret (spt_result spt0 rfl rfl rfl h1) rfl ?_
      rw [HRR.out]
      exact ⟨rfl, h1.drop, HK3.out.spt _ _ _ _⟩
end Go.Proofs.YtfhaedkaedffcaaGreatDoor
/- THE WALK of tree.Do at mkdir. -/
namespace Go.Proofs.YtfhaedkaedffcaaGreatDoor
open Go.RowKit Go.Own
theorem fresh_there {S : Tre} (hW : Wk S) (p : Str) (h0 : (S.fresh p).2 = 0) : (∃ d, fnd S.nodes (S.fresh p).1.dir = some d ∧ d.kind = 2) ∧ (S.fresh p).1.name.length ≤ 24 := by
  unfold Tre.fresh at *
  by_cases h1 : (S.place p).2 ≠ 0
  · rw [if_pos h1] at h0; exact absurd h0 h1
  · rw [if_neg h1] at *
    by_cases h2 : (S.place p).1.node ≠ 0
    · rw [if_pos h2] at h0; simp at h0
    · rw [if_neg h2]
      have := place_there hW p (by simpa using h1)
      exact ⟨this.1, this.2.1⟩
set_option maxRecDepth 100000 in
set_option maxHeartbeats 8000000 in
theorem doMkdir (q : Nat) (S : Tre) (fd n off flags : Int) (path dest : Str) (ov : Value) (w : World) (L : List HP) (rk : Int → Nat) (mx : Int) (hW : Wk S) (hY : Wy S rk) (hB : Opb S) (hM : MxL mx L) (hp : path.length ≤ 100000) (hO : Has w (Trc q S :: L)) :
    Calls Tryz.prog 17 #[.pointer (some ⟨q, 0, none⟩), opV ⟨9, fd, n, off, flags, path, dest⟩ (ov)] w fun e w' => e = .returned (ansV (S.mkdir path).1 nilV nilV) ∧ Has w' (Trc q (S.mkdir path).2 :: L) ∧ Keep w w' := by
  have HX := hid (fun (w : World) (L' : List HP) (hM : MxL mx L') (hO : Has w (Trc q S :: L')) => tFresh q S rk path mx w L' hW hY hM hp hO)
  have HTF := hid (fresh_there hW path)
  have HB := hid hB
  have HM := hid hM
  clear hM
  generalize hR : S.mkdir path = R at *
  unfold Tre.mkdir at hR
  generalize S.fresh path = F at *
  obtain ⟨s1, e1⟩ := F
  dsimp only at *
  have HR := hid hR
  clear hR hW hY hB hp
  have HO := hid hO
  clear hO
  unfold opV opC
  go_enter Tryz.func17, Tryz.ntmps17
  go_upto_region 1 with fail
  have h1 := (HO.out.alloc (.cells #[.int .i64 9, .int .i64 fd, .int .i64 n, .int .i64 off, .int .i64 flags, sV path, sV dest, ov] 32)).alloc (.cells (ansC (ansE 0) nilV nilV) 29)
  have HK1 := hid (((Keep.refl w).alloc (.cells #[.int .i64 9, .int .i64 fd, .int .i64 n, .int .i64 off, .int .i64 flags, sV path, sV dest, ov] 32)).alloc (.cells (ansC (ansE 0) nilV nilV) 29))
  unfold ansC ansE at h1 HK1
  have e3 : (w.alloc (.cells #[.int .i64 9, .int .i64 fd, .int .i64 n, .int .i64 off, .int .i64 flags, sV path, sV dest, ov] 32)).heap.size = w.heap.size + 1 := by show (Array.push _ _).size = _; rw [Array.size_push]
  rw [e3] at h1
  have HO1 := hid h1
  clear h1 e3 HO
  generalize (w.alloc (.cells #[.int .i64 9, .int .i64 fd, .int .i64 n, .int .i64 off, .int .i64 flags, sV path, sV dest, ov] 32)).alloc (.cells #[.int .i64 0, .int .i64 0, .int .i64 0, .int .i64 0, nilV, nilV] 29) = w1 at *
  generalize w.heap.size = g3 at *
  generalize g3 + 1 = g4 at *
  have hp0 : w1.cell? ⟨g3, 0, none⟩ = some (.int .i64 9) := HO1.out.p1.cells 0
  have hp1 : w1.cell? ⟨g3, 1, none⟩ = some (.int .i64 fd) := HO1.out.p1.cells 1
  have hp2 : w1.cell? ⟨g3, 2, none⟩ = some (.int .i64 n) := HO1.out.p1.cells 2
  have hp3 : w1.cell? ⟨g3, 3, none⟩ = some (.int .i64 off) := HO1.out.p1.cells 3
  have hp4 : w1.cell? ⟨g3, 4, none⟩ = some (.int .i64 flags) := HO1.out.p1.cells 4
  have hp5 : w1.cell? ⟨g3, 5, none⟩ = some (sV path) := HO1.out.p1.cells 5
  have hp6 : w1.cell? ⟨g3, 6, none⟩ = some (sV dest) := HO1.out.p1.cells 6
  have hp7 : w1.cell? ⟨g3, 7, none⟩ = some (ov) := HO1.out.p1.cells 7
  go_upto_region 19 with fail
  go_cut [5, 6] (fun p5 e6 wx => ∃ (w3 : World) (g5 : Nat), w3 = wx ∧ e6 = .int .i64 e1 ∧ p5 = .pointer (some ⟨g5, 0, none⟩) ∧ Hid (Has w3 (Trc q S :: pt g5 (.cells (spC s1) 81) :: pt g4 (.cells (ansC (ansE 0) nilV nilV) 29) :: L)) ∧ Hid (Keep w w3))
  case first =>
    go_wp2_with fail
    refine (HX.out w1 _ ((HM.out.cons (pt g3 (.cells #[.int .i64 9, .int .i64 fd, .int .i64 n, .int .i64 off, .int .i64 flags, sV path, sV dest, ov] 32))).cons (pt g4 (.cells (ansC (ansE 0) nilV nilV) 29))) (HO1.out.re 3 [2, 0, 1])).mono ?_
    rintro e w2 ⟨rfl, hO2, hK2⟩
    have HO2 := hid hO2
    have HK2 := hid ((HK1.out).trans hK2)
    clear hO2 hK2
    try dsimp only
    unfold spV spC
    go_wp2_with fail
    go_meet
    exact ⟨_, _, rfl, rfl, rfl, hid ((HO2.out.alloc (.cells (spC s1) 81)).re 4 [1, 0, 2]), hid (HK2.out.alloc _)⟩
  case rest =>
    obtain ⟨w3, g5, rfl, rfl, rfl, HO3, HK3⟩ := hcut
    clear HO1 HK1 hp0 hp1 hp2 hp3 hp4 hp5 hp6 hp7 HX
    by_cases he : e1 = 0
    · subst he
      have HRR := hid (show R = (ansE 0, S.make s1 2 []) from by rw [← HR.out, if_neg (fun h => h rfl)])
      obtain ⟨⟨d, hd, hdk⟩, hln⟩ := HTF.out rfl
      have k0 : w3.cell? ⟨g5, 0, none⟩ = some (.int .i64 s1.node) := (HO3.out.p1).cells 0
      have k1 : w3.cell? ⟨g5, 1, none⟩ = some (.int .i64 s1.dir) := (HO3.out.p1).cells 1
      have k2 : w3.cell? ⟨g5, 2, none⟩ = some (sV s1.name) := (HO3.out.p1).cells 2
      have kt0 := (HO3.out.p1).thaw 0
      have kt1 := (HO3.out.p1).thaw 1
      have kt2 := (HO3.out.p1).thaw 2
      have HMK := hid (tMake q S s1 2 d w3 (pt g5 (.cells (spC s1) 81) :: pt g4 (.cells (ansC (ansE 0) nilV nilV) 29) :: L) (by decide) hd hdk (by omega) (HB.out.small _ _ hd).2.2 HB.out.last0 HB.out.last1 HB.out.free HB.out.many HO3.out)
      unfold spV spC at HMK
      clear hd hdk
      go_wp2_with fail
      refine (HMK.out).mono ?_
      rintro e w4 ⟨rfl, hO4, hK4⟩
      have HO4 := hid hO4
      have HK4 := hid ((HK3.out).trans hK4)
      clear hO4 hK4
      try dsimp only
      have HO5 := hid (show Has w4 (pt g4 (.cells (ansC (ansE 0) nilV nilV) 29) :: Trc q (S.make s1 2 []) :: L) from HO4.out.re 3 [2, 0])
      have hz0 : w4.cell? ⟨g4, 0, none⟩ = some (.int .i64 0) := (HO5.out).cells 0
      have hz1 : w4.cell? ⟨g4, 1, none⟩ = some (.int .i64 0) := (HO5.out).cells 1
      have hz2 : w4.cell? ⟨g4, 2, none⟩ = some (.int .i64 0) := (HO5.out).cells 2
      have hz3 : w4.cell? ⟨g4, 3, none⟩ = some (.int .i64 0) := (HO5.out).cells 3
      have hz4 : w4.cell? ⟨g4, 4, none⟩ = some (.slice none 0 0) := (HO5.out).cells 4
      have hz5 : w4.cell? ⟨g4, 5, none⟩ = some (.slice none 0 0) := (HO5.out).cells 5
      have hy0 := (HO5.out).thaw 0
      have hy1 := (HO5.out).thaw 1
      have hy2 := (HO5.out).thaw 2
      have hy3 := (HO5.out).thaw 3
      have hy4 := (HO5.out).thaw 4
      have hy5 := (HO5.out).thaw 5
      go_wp2_with fail
      refine (tCode (0 : Int) w4 _ HO5.out).mono ?_
      rintro e w6 ⟨rfl, hO6, hK6⟩
      have HO6 := hid hO6
      have HK6 := hid ((HK4.out).trans hK6)
      clear hO6 hK6
      unfold ansV ansC ansE
      clear hz0 hz1 hz2 hz3 hz4 hz5 hy0 hy1 hy2 hy3 hy4 hy5
      have hz0 : w6.cell? ⟨g4, 0, none⟩ = some (.int .i64 0) := (HO6.out).cells 0
      have hz1 : w6.cell? ⟨g4, 1, none⟩ = some (.int .i64 0) := (HO6.out).cells 1
      have hz2 : w6.cell? ⟨g4, 2, none⟩ = some (.int .i64 0) := (HO6.out).cells 2
      have hz3 : w6.cell? ⟨g4, 3, none⟩ = some (.int .i64 0) := (HO6.out).cells 3
      have hz4 : w6.cell? ⟨g4, 4, none⟩ = some (.slice none 0 0) := (HO6.out).cells 4
      have hz5 : w6.cell? ⟨g4, 5, none⟩ = some (.slice none 0 0) := (HO6.out).cells 5
      have hy0 := (HO6.out).thaw 0
      have hy1 := (HO6.out).thaw 1
      have hy2 := (HO6.out).thaw 2
      have hy3 := (HO6.out).thaw 3
      have hy4 := (HO6.out).thaw 4
      have hy5 := (HO6.out).thaw 5
      go_wp2_with fail
      have h1 := ((show Has w6 (pt g4 (.cells (ansC (ansE 0) nilV nilV) 29) :: Trc q (S.make s1 2 []) :: L) from HO6.out)).ans (ansE (0 : Int)) nilV nilV
      refine bodyPost_ret (ans_result rfl rfl h1) rfl ?_
      rw [HRR.out]
      exact ⟨rfl, h1.drop, HK6.out.ans _ _ _ _ _ _ _⟩
    · have HRR := hid (show R = (ansE e1, S) from by rw [← HR.out, if_pos he])
      have HO5 := hid (show Has w3 (pt g4 (.cells (ansC (ansE 0) nilV nilV) 29) :: Trc q S :: L) from HO3.out.re 3 [2, 0])
      have heb : (e1 == 0) = false := by simpa using he
      have hz0 : w3.cell? ⟨g4, 0, none⟩ = some (.int .i64 0) := (HO5.out).cells 0
      have hz1 : w3.cell? ⟨g4, 1, none⟩ = some (.int .i64 0) := (HO5.out).cells 1
      have hz2 : w3.cell? ⟨g4, 2, none⟩ = some (.int .i64 0) := (HO5.out).cells 2
      have hz3 : w3.cell? ⟨g4, 3, none⟩ = some (.int .i64 0) := (HO5.out).cells 3
      have hz4 : w3.cell? ⟨g4, 4, none⟩ = some (.slice none 0 0) := (HO5.out).cells 4
      have hz5 : w3.cell? ⟨g4, 5, none⟩ = some (.slice none 0 0) := (HO5.out).cells 5
      have hy0 := (HO5.out).thaw 0
      have hy1 := (HO5.out).thaw 1
      have hy2 := (HO5.out).thaw 2
      have hy3 := (HO5.out).thaw 3
      have hy4 := (HO5.out).thaw 4
      have hy5 := (HO5.out).thaw 5
      go_wp2_with fail
      refine (tCode e1 w3 _ HO5.out).mono ?_
      rintro e w6 ⟨rfl, hO6, hK6⟩
      have HO6 := hid hO6
      have HK6 := hid ((HK3.out).trans hK6)
      clear hO6 hK6
      unfold ansV ansC ansE
      clear hz0 hz1 hz2 hz3 hz4 hz5 hy0 hy1 hy2 hy3 hy4 hy5
      have hz0 : w6.cell? ⟨g4, 0, none⟩ = some (.int .i64 0) := (HO6.out).cells 0
      have hz1 : w6.cell? ⟨g4, 1, none⟩ = some (.int .i64 0) := (HO6.out).cells 1
      have hz2 : w6.cell? ⟨g4, 2, none⟩ = some (.int .i64 0) := (HO6.out).cells 2
      have hz3 : w6.cell? ⟨g4, 3, none⟩ = some (.int .i64 0) := (HO6.out).cells 3
      have hz4 : w6.cell? ⟨g4, 4, none⟩ = some (.slice none 0 0) := (HO6.out).cells 4
      have hz5 : w6.cell? ⟨g4, 5, none⟩ = some (.slice none 0 0) := (HO6.out).cells 5
      have hy0 := (HO6.out).thaw 0
      have hy1 := (HO6.out).thaw 1
      have hy2 := (HO6.out).thaw 2
      have hy3 := (HO6.out).thaw 3
      have hy4 := (HO6.out).thaw 4
      have hy5 := (HO6.out).thaw 5
      go_wp2_with fail
      have h1 := ((show Has w6 (pt g4 (.cells (ansC (ansE 0) nilV nilV) 29) :: Trc q S :: L) from HO6.out)).ans (ansE e1) nilV nilV
      refine bodyPost_ret (ans_result rfl rfl h1) rfl ?_
      rw [HRR.out]
      exact ⟨rfl, h1.drop, HK6.out.ans _ _ _ _ _ _ _⟩
end Go.Proofs.YtfhaedkaedffcaaGreatDoor
/- THE WALK of chapter 14's 'awake'. -/
namespace Go.Proofs.YtfhaedkaedffcaaGreatDoor
open Go.RowKit Go.Own
section
variable (q : Nat) (mx : Int) (w : World) (L : List HP) (hM : MxL mx L)
include hM
theorem akMkdir (hO : Has w (Trc q tre0 :: L)) : Calls Tryz.prog 17 #[.pointer (some ⟨q, 0, none⟩), opW 9 0 0 0 0 [47, 97] nilV] w fun e w' => e = .returned (ansV (ansE 0) nilV nilV) ∧ Has w' (Trc q treE1 :: L) ∧ Keep w w' := by
  have h := doMkdir q tre0 0 0 0 0 pA [] nilV w L rkA mx (wk_of wk_0).1 (wy_of wy_0 rkA_low) (opb_of opb_0 wk_0) hM (by decide) hO
  rw [mkdir_A] at h
  exact h
theorem akOpen (hO : Has w (Trc q treE1 :: L)) : Calls Tryz.prog 17 #[.pointer (some ⟨q, 0, none⟩), opW 1 0 0 0 33 [47, 97, 47, 102] nilV] w fun e w' => e = .returned (ansV (ansE 0) nilV nilV) ∧ Has w' (Trc q treE2 :: L) ∧ Keep w w' := by
  have h := doOpen q treE1 0 0 0 33 pAF [] nilV w L rkA mx (wk_of wk_A).1 (wy_of wy_A rkA_low) (opb_of opb_A wk_A) hM (by decide) (by decide +kernel) hO
  rw [open_AF] at h
  exact h
theorem akStatF (hO : Has w (Trc q treE3 :: L)) : Calls Tryz.prog 17 #[.pointer (some ⟨q, 0, none⟩), opW 16 0 0 0 0 [47, 97, 47, 102] nilV] w fun e w' => e = .returned (ansV ⟨0, 3, 1, 1, [], []⟩ nilV nilV) ∧ Has w' (Trc q treE3 :: L) ∧ Keep w w' := by
  have h := doStat q treE3 0 0 0 0 pAF [] nilV w L mx (wk_of wk_C).1 hM (by decide) (fun n x hx => ⟨((wk_of wk_C).2 n x hx).1, by have := ((wk_of wk_C).2 n x hx).2.2; omega⟩) hO
  rw [stat_AF] at h
  exact h
theorem akStatB (hO : Has w (Trc q treE3 :: L)) : Calls Tryz.prog 17 #[.pointer (some ⟨q, 0, none⟩), opW 16 0 0 0 0 [47, 98] nilV] w fun e w' => e = .returned (ansV (ansE 5) nilV nilV) ∧ Has w' (Trc q treE3 :: L) ∧ Keep w w' := by
  have h := doStat q treE3 0 0 0 0 pB [] nilV w L mx (wk_of wk_C).1 hM (by decide) (fun n x hx => ⟨((wk_of wk_C).2 n x hx).1, by have := ((wk_of wk_C).2 n x hx).2.2; omega⟩) hO
  rw [stat_B] at h
  exact h
theorem akNumber (hO : Has w (Trc q treE3 :: L)) : Calls Tryz.prog 22 #[.pointer (some ⟨q, 0, none⟩), .string ⟨#[47, 97]⟩] w fun e w' => e = .returned (.int .i64 2) ∧ Has w' (Trc q treE3 :: L) ∧ Keep w w' := by
  have h := tNumber q treE3 pA mx w L (wk_of wk_C).1 hM (by decide) hO
  rw [number_A] at h
  exact h
end
theorem _root_.Go.Own.Has.dropL {w : World} {L : List HP} (A : List HP) (h : Has w (A ++ L)) : Has w L := by
  induction A with
  | nil => exact h
  | cons a A ih => exact ih h.drop
theorem akWrite (q g : Nat) (w : World) (L : List HP) (hO : Has w (Trc q treE2 :: pt g (.cells #[.int .u8 120, .int .u8 121, .int .u8 122] 5 (3, 4)) :: L)) : Calls Tryz.prog 17 #[.pointer (some ⟨q, 0, none⟩), opW 4 0 0 0 0 [] (.slice (some ⟨g, 0, none⟩) 3 3)] w fun e w' => ∃ p c, e = .returned (ansV ⟨0, 3, 0, 0, [], []⟩ (.slice p 0 c) nilV) ∧ Has w' (Trc q treE3 :: L) ∧ Keep w w' := by
  have h := doWrite4 q treE2 0 0 0 0 [] [] (some ⟨g, 0, none⟩) 3 [120, 121, 122] w (pt g (.cells #[.int .u8 120, .int .u8 121, .int .u8 122] 5 (3, 4)) :: L) (opn_of opn_B wk_B) (by decide) (by decide) (fun w' h' => ⟨rfl, by decide, some ⟨g, 0, none⟩, 3, rfl, by decide, fun _ => ⟨g, 0, rfl, fun j _ => by rw [Nat.zero_add]; exact (h'.cells j).trans (by simp [bc])⟩⟩) hO
  rw [write_AF] at h
  refine Calls.mono (show Calls Tryz.prog 17 #[.pointer (some ⟨q, 0, none⟩), opW 4 0 0 0 0 [] (.slice (some ⟨g, 0, none⟩) 3 3)] w _ from h) ?_
  rintro e w' ⟨dv, rfl, h1, h2⟩
  obtain ⟨p, c, rfl, -⟩ := (Bytes.rd h1).form
  exact ⟨p, c, rfl, (h1.re 3 [1]), h2⟩
theorem akNeed (q : Nat) (w : World) (L : List HP) (hO : Has w (Trc q treE3 :: L)) : Calls Tryz.prog 28 #[.pointer (some ⟨q, 0, none⟩)] w fun e w' => e = .returned (.tuple #[.int .i64 3, .int .i64 3]) ∧ Has w' (Trc q treE3 :: L) ∧ Keep w w' := by
  have h := tNeed q treE3 w L need_small (by decide) hO
  rw [need_C] at h
  exact h
theorem akNodes (q : Nat) (w : World) (L : List HP) (hO : Has w (Trc q treE3 :: L)) : Calls Tryz.prog 18 #[.pointer (some ⟨q, 0, none⟩)] w fun e w' => ∃ p c, e = .returned (.slice p 3 c) ∧ Has w' (Trc q treE3 :: L) ∧ Keep w w' := by
  refine (tNodes sortsNd q treE3 _ rkA w L rfl (fun n x hx => ((wk_of wk_C).2 n x hx).1) low_C rk_C (by rw [seen_C]; decide) hO).mono ?_
  rintro e w' ⟨v, os, rfl, hp, -, h1, h2⟩
  have hl : os.length = 3 := by
    have h3 := hp.length_eq
    rw [List.length_map, List.length_map, seen_C] at h3
    exact h3
  obtain ⟨p, c, rfl, -⟩ := (Has.rd (sns_iff.1 h1)).form
  exact ⟨p, c, by rw [hl], Has.dropL _ (sns_iff.1 h1).drop, h2⟩
set_option maxRecDepth 100000 in
set_option maxHeartbeats 8000000 in
theorem awake14 (mx : Int) (w : World) (L : List HP) (hM : MxL mx L) (hO : Has w L) :
    Calls Tryz.prog 15 #[] w fun e w' => e = .returned (.bool true) ∧ Has w' L ∧ Keep w w' := by
  have HO := hid hO
  have HM := hid hM
  clear hO hM
  have kc := fun (w : World) (C : Array Value) (n c : Nat) => Lib.run_convert_bytes_const (P := Tryz.prog) w 22 5 C n c Tryz.underlying22 Tryz.underlying5
  go_enter Tryz.func15, Tryz.ntmps15
  go_wp2_with fail
  refine (tNew w L HO.out).mono ?_
  rintro e w1 ⟨q, rfl, hO1, hK1⟩
  have HO1 := hid hO1
  have HK1 := hid ((Keep.refl w).trans hK1)
  clear hO1 hK1
  try dsimp only
  go_wp2_with fail
  refine (akMkdir q mx w1 _ HM.out HO1.out).mono ?_
  rintro e w2 ⟨rfl, hO2, hK2⟩
  have HO2 := hid hO2
  have HK2 := hid ((HK1.out).trans hK2)
  clear hO2 hK2
  try dsimp only
  unfold ansV ansC
  try unfold ansE
  go_upto_region 5 with fail
  have HP2 := hid (HO2.out.alloc (.cells #[.int .i64 0, .int .i64 0, .int .i64 0, .int .i64 0, .slice none 0 0, .slice none 0 0] 29)).p1
  have HK2 := hid (HK2.out.alloc (.cells #[.int .i64 0, .int .i64 0, .int .i64 0, .int .i64 0, .slice none 0 0, .slice none 0 0] 29))
  generalize w2.alloc (.cells #[.int .i64 0, .int .i64 0, .int .i64 0, .int .i64 0, .slice none 0 0, .slice none 0 0] 29) = v2 at *
  generalize w2.heap.size = g2 at *
  go_wp2_with fail
  refine (akOpen q mx v2 _ (HM.out.cons _) HP2.out).mono ?_
  rintro e w3 ⟨rfl, hO3, hK3⟩
  have HO3 := hid hO3
  have HK3 := hid ((HK2.out).trans hK3)
  clear hO3 hK3
  try dsimp only
  unfold ansV ansC
  try unfold ansE
  go_upto_region 6 with fail
  have HP3 := hid (HO3.out.alloc (.cells #[.int .i64 0, .int .i64 0, .int .i64 0, .int .i64 0, .slice none 0 0, .slice none 0 0] 29)).p1
  have HK3 := hid (HK3.out.alloc (.cells #[.int .i64 0, .int .i64 0, .int .i64 0, .int .i64 0, .slice none 0 0, .slice none 0 0] 29))
  generalize w3.alloc (.cells #[.int .i64 0, .int .i64 0, .int .i64 0, .int .i64 0, .slice none 0 0, .slice none 0 0] 29) = v3 at *
  generalize w3.heap.size = g3 at *
  have HB3 := hid (HP3.out.alloc (.cells #[.int .u8 120, .int .u8 121, .int .u8 122] 5 (3, 4))).p1
  have HQ3 := hid (HK3.out.alloc (.cells #[.int .u8 120, .int .u8 121, .int .u8 122] 5 (3, 4)))
  go_wp2_with fail
  refine (akWrite q v3.heap.size _ _ HB3.out).mono ?_
  rintro e w4 ⟨p4, c4, rfl, hO4, hK4⟩
  have HO4 := hid hO4
  have HK4 := hid ((HQ3.out).trans hK4)
  clear hO4 hK4
  try dsimp only
  unfold ansV ansC
  try unfold ansE
  go_upto_region 7 with fail
  have HP4 := hid (HO4.out.alloc (.cells #[.int .i64 0, .int .i64 3, .int .i64 0, .int .i64 0, .slice p4 0 c4, .slice none 0 0] 29)).p1
  have HK4 := hid (HK4.out.alloc (.cells #[.int .i64 0, .int .i64 3, .int .i64 0, .int .i64 0, .slice p4 0 c4, .slice none 0 0] 29))
  generalize w4.alloc (.cells #[.int .i64 0, .int .i64 3, .int .i64 0, .int .i64 0, .slice p4 0 c4, .slice none 0 0] 29) = v4 at *
  generalize w4.heap.size = g4 at *
  go_wp2_with fail
  refine (akStatF q mx v4 _ (((HM.out.cons _).cons _).cons _) HP4.out).mono ?_
  rintro e w5 ⟨rfl, hO5, hK5⟩
  have HO5 := hid hO5
  have HK5 := hid ((HK4.out).trans hK5)
  clear hO5 hK5
  try dsimp only
  unfold ansV ansC
  try unfold ansE
  go_upto_region 8 with fail
  have HP5 := hid (HO5.out.alloc (.cells #[.int .i64 0, .int .i64 3, .int .i64 1, .int .i64 1, .slice none 0 0, .slice none 0 0] 29)).p1
  have HK5 := hid (HK5.out.alloc (.cells #[.int .i64 0, .int .i64 3, .int .i64 1, .int .i64 1, .slice none 0 0, .slice none 0 0] 29))
  generalize w5.alloc (.cells #[.int .i64 0, .int .i64 3, .int .i64 1, .int .i64 1, .slice none 0 0, .slice none 0 0] 29) = v5 at *
  generalize w5.heap.size = g5 at *
  go_wp2_with fail
  refine (akStatB q mx v5 _ ((((HM.out.cons _).cons _).cons _).cons _) HP5.out).mono ?_
  rintro e w6 ⟨rfl, hO6, hK6⟩
  have HO6 := hid hO6
  have HK6 := hid ((HK5.out).trans hK6)
  clear hO6 hK6
  try dsimp only
  unfold ansV ansC
  try unfold ansE
  go_upto_region 9 with fail
  have HP6 := hid (HO6.out.alloc (.cells #[.int .i64 5, .int .i64 0, .int .i64 0, .int .i64 0, .slice none 0 0, .slice none 0 0] 29)).p1
  have HK6 := hid (HK6.out.alloc (.cells #[.int .i64 5, .int .i64 0, .int .i64 0, .int .i64 0, .slice none 0 0, .slice none 0 0] 29))
  generalize w6.alloc (.cells #[.int .i64 5, .int .i64 0, .int .i64 0, .int .i64 0, .slice none 0 0, .slice none 0 0] 29) = v6 at *
  generalize w6.heap.size = g6 at *
  go_wp2_with fail
  refine (akNeed q v6 _ HP6.out).mono ?_
  rintro e w7 ⟨rfl, hO7, hK7⟩
  have HO7 := hid hO7
  have HK7 := hid ((HK6.out).trans hK7)
  clear hO7 hK7
  try dsimp only
  have HS := hid (HO7.out.re 6 [1, 2, 3, 4, 5, 0])
  have c6 : w7.cell? ⟨g6, 0, none⟩ = some (.int .i64 5) := HS.out.cells 0
  have c50 : w7.cell? ⟨g5, 0, none⟩ = some (.int .i64 0) := HS.out.p1.cells 0
  have c51 : w7.cell? ⟨g5, 1, none⟩ = some (.int .i64 3) := HS.out.p1.cells 1
  have c52 : w7.cell? ⟨g5, 2, none⟩ = some (.int .i64 1) := HS.out.p1.cells 2
  have c53 : w7.cell? ⟨g5, 3, none⟩ = some (.int .i64 1) := HS.out.p1.cells 3
  have c4 : w7.cell? ⟨g4, 1, none⟩ = some (.int .i64 3) := HS.out.p2.cells 1
  have c3 : w7.cell? ⟨g3, 0, none⟩ = some (.int .i64 0) := HS.out.p3.cells 0
  have c2 : w7.cell? ⟨g2, 0, none⟩ = some (.int .i64 0) := HS.out.p4.cells 0
  go_wp2_with fail
  refine (akNodes q w7 _ HO7.out).mono ?_
  rintro e w8 ⟨p8, c8, rfl, hO8, hK8⟩
  have HO8 := hid hO8
  have HK8 := hid ((HK7.out).trans hK8)
  clear hO8 hK8
  try dsimp only
  go_wp2_with fail
  refine (akNumber q mx w8 _ (((((HM.out.cons _).cons _).cons _).cons _).cons _) HO8.out).mono ?_
  rintro e w9 ⟨rfl, hO9, hK9⟩
  have HO9 := hid hO9
  have HK9 := hid ((HK8.out).trans hK9)
  clear hO9 hK9
  try dsimp only
  go_wp2_with fail
  go_ret
  exact ⟨rfl, HO9.out.drop.drop.drop.drop.drop.drop, HK9.out⟩
end Go.Proofs.YtfhaedkaedffcaaGreatDoor
/- THE WALK of Low. -/
namespace Go.Proofs.YtfhaedkaedffcaaGreatDoor
open Go.RowKit Go.Own
theorem lowAny (x n : Int) (w : World) (hn : 1 ≤ n) (hn' : n ≤ 9223372036854775807) :
    Calls Tryz.prog 20 #[.int .i64 x, .int .i64 n] w fun e w' => e = .returned (.int .i64 (low x n)) ∧ w = w' := by
  go_enter Tryz.func20, Tryz.ntmps20
  go_wp2
  go_ret
  exact ⟨by rw [← low_eq x n hn hn']; rfl, rfl⟩
end Go.Proofs.YtfhaedkaedffcaaGreatDoor
