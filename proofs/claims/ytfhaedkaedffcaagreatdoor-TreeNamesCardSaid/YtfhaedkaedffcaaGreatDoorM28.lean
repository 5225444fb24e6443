/- TEXTS of mine, merged. -/
import Derived.Test.YtfhaedkaedffcaaGreatDoorM27
import Derived.Test.YtfhaedkaedffcaaGreatDoorM26
import Derived.Test.YtfhaedkaedffcaaGreatDoorM13
import Derived.Test.YtfhaedkaedffcaaGreatDoorM17
import Derived.Test.YtfhaedkaedffcaaGreatDoorM18
import Derived.Lib.SlBytesConst
import Derived.Test.YtfhaedkaedffcaaGreatDoorM2
import Derived.Test.YtfhaedkaedffcaaGreatDoorM5
import Derived.Test.YtfhaedkaedffcaaGreatDoorM6
/- THE WALK of chapter 14's 'awake'. -/
namespace Go.Proofs.YtfhaedkaedffcaaGreatDoor
open Go.RowKit Go.Own
section
variable (q : Nat) (mx : Int) (w : World) (L : List HP) (hM : MxL mx L)
include hM
theorem akMkdir (hO : Has w (Trc q tre0 :: L)) : Calls Tryz.prog 17 #[.pointer (some ⟨q, 0, none⟩), opW 9 0 0 0 0 [47, 97] nilV] w fun e w' => e = .returned (ansV (ansE 0) nilV nilV) ∧ Has w' (Trc q treE1 :: L) ∧ Keep w w' := by
  have h := doMkdir q tre0 0 0 0 0 pA [] nilV w L rkA mx (wk_of wk_0).1 (wy_of wy_0 rkA_low) (opb_of opb_0 wk_0) hM (by decide) hO
  rw [mkdir_A] at h
  exact h
theorem akOpen (hO : Has w (Trc q treE1 :: L)) : Calls Tryz.prog 17 #[.pointer (some ⟨q, 0, none⟩), opW 1 0 0 0 33 [47, 97, 47, 102] nilV] w fun e w' => e = .returned (ansV (ansE 0) nilV nilV) ∧ Has w' (Trc q treE2 :: L) ∧ Keep w w' := by
  have h := doOpen q treE1 0 0 0 33 pAF [] nilV w L rkA mx (wk_of wk_A).1 (wy_of wy_A rkA_low) (opb_of opb_A wk_A) hM (by decide) (by decide +kernel) hO
  rw [open_AF] at h
  exact h
theorem akStatF (hO : Has w (Trc q treE3 :: L)) : Calls Tryz.prog 17 #[.pointer (some ⟨q, 0, none⟩), opW 16 0 0 0 0 [47, 97, 47, 102] nilV] w fun e w' => e = .returned (ansV ⟨0, 3, 1, 1, [], []⟩ nilV nilV) ∧ Has w' (Trc q treE3 :: L) ∧ Keep w w' := by
  have h := doStat q treE3 0 0 0 0 pAF [] nilV w L mx (wk_of wk_C).1 hM (by decide) (fun n x hx => ⟨((wk_of wk_C).2 n x hx).1, by have := ((wk_of wk_C).2 n x hx).2.2; omega⟩) hO
  rw [stat_AF] at h
  exact h
theorem akStatB (hO : Has w (Trc q treE3 :: L)) : Calls Tryz.prog 17 #[.pointer (some ⟨q, 0, none⟩), opW 16 0 0 0 0 [47, 98] nilV] w fun e w' => e = .returned (ansV (ansE 5) nilV nilV) ∧ Has w' (Trc q treE3 :: L) ∧ Keep w w' := by
  have h := doStat q treE3 0 0 0 0 pB [] nilV w L mx (wk_of wk_C).1 hM (by decide) (fun n x hx => ⟨((wk_of wk_C).2 n x hx).1, by have := ((wk_of wk_C).2 n x hx).2.2; omega⟩) hO
  rw [stat_B] at h
  exact h
theorem akNumber (hO : Has w (Trc q treE3 :: L)) : Calls Tryz.prog 22 #[.pointer (some ⟨q, 0, none⟩), .string ⟨#[47, 97]⟩] w fun e w' => e = .returned (.int .i64 2) ∧ Has w' (Trc q treE3 :: L) ∧ Keep w w' := by
  have h := tNumber q treE3 pA mx w L (wk_of wk_C).1 hM (by decide) hO
  rw [number_A] at h
  exact h
end
theorem _root_.Go.Own.Has.dropL {w : World} {L : List HP} (A : List HP) (h : Has w (A ++ L)) : Has w L := by
  induction A with
  | nil => exact h
  | cons a A ih => exact ih h.drop
theorem akWrite (q g : Nat) (w : World) (L : List HP) (hO : Has w (Trc q treE2 :: pt g (.cells #[.int .u8 120, .int .u8 121, .int .u8 122] 5 (3, 4)) :: L)) : Calls Tryz.prog 17 #[.pointer (some ⟨q, 0, none⟩), opW 4 0 0 0 0 [] (.slice (some ⟨g, 0, none⟩) 3 3)] w fun e w' => ∃ p c, e = .returned (ansV ⟨0, 3, 0, 0, [], []⟩ (.slice p 0 c) nilV) ∧ Has w' (Trc q treE3 :: L) ∧ Keep w w' := by
  have h := doWrite4 q treE2 0 0 0 0 [] [] (some ⟨g, 0, none⟩) 3 [120, 121, 122] w (pt g (.cells #[.int .u8 120, .int .u8 121, .int .u8 122] 5 (3, 4)) :: L) (opn_of opn_B wk_B) (by decide) (by decide) (fun w' h' => ⟨rfl, by decide, some ⟨g, 0, none⟩, 3, rfl, by decide, fun _ => ⟨g, 0, rfl, fun j _ => by rw [Nat.zero_add]; exact (h'.cells j).trans (by simp [bc])⟩⟩) hO
  rw [write_AF] at h
  refine Calls.mono (show Calls Tryz.prog 17 #[.pointer (some ⟨q, 0, none⟩), opW 4 0 0 0 0 [] (.slice (some ⟨g, 0, none⟩) 3 3)] w _ from h) ?_
  rintro e w' ⟨dv, rfl, h1, h2⟩
  obtain ⟨p, c, rfl, -⟩ := (Bytes.rd h1).form
  exact ⟨p, c, rfl, (h1.re 3 [1]), h2⟩
theorem akNeed (q : Nat) (w : World) (L : List HP) (hO : Has w (Trc q treE3 :: L)) : Calls Tryz.prog 28 #[.pointer (some ⟨q, 0, none⟩)] w fun e w' => e = .returned (.tuple #[.int .i64 3, .int .i64 3]) ∧ Has w' (Trc q treE3 :: L) ∧ Keep w w' := by
  have h := tNeed q treE3 w L need_small (by decide) hO
  rw [need_C] at h
  exact h
theorem akNodes (q : Nat) (w : World) (L : List HP) (hO : Has w (Trc q treE3 :: L)) : Calls Tryz.prog 18 #[.pointer (some ⟨q, 0, none⟩)] w fun e w' => ∃ p c, e = .returned (.slice p 3 c) ∧ Has w' (Trc q treE3 :: L) ∧ Keep w w' := by
  refine (tNodes sortsNd q treE3 _ rkA w L rfl (fun n x hx => ((wk_of wk_C).2 n x hx).1) low_C rk_C (by rw [seen_C]; decide) hO).mono ?_
  rintro e w' ⟨v, os, rfl, hp, -, h1, h2⟩
  have hl : os.length = 3 := by
    have h3 := hp.length_eq
    rw [List.length_map, List.length_map, seen_C] at h3
    exact h3
  obtain ⟨p, c, rfl, -⟩ := (Has.rd (sns_iff.1 h1)).form
  exact ⟨p, c, by rw [hl], Has.dropL _ (sns_iff.1 h1).drop, h2⟩
set_option maxRecDepth 100000 in
set_option maxHeartbeats 8000000 in
theorem awake14 (mx : Int) (w : World) (L : List HP) (hM : MxL mx L) (hO : Has w L) :
    Calls Tryz.prog 15 #[] w fun e w' => e = .returned (.bool true) ∧ Has w' L ∧ Keep w w' := by
  have HO := hid hO
  have HM := hid hM
  clear hO hM
  have kc := fun (w : World) (C : Array Value) (n c : Nat) => Lib.run_convert_bytes_const (P := Tryz.prog) w 22 5 C n c Tryz.underlying22 Tryz.underlying5
  go_enter Tryz.func15, Tryz.ntmps15
  go_wp2_with fail
  refine (tNew w L HO.out).mono ?_
  rintro e w1 ⟨q, rfl, hO1, hK1⟩
  have HO1 := hid hO1
  have HK1 := hid ((Keep.refl w).trans hK1)
  clear hO1 hK1
  try dsimp only
  go_wp2_with fail
  refine (akMkdir q mx w1 _ HM.out HO1.out).mono ?_
  rintro e w2 ⟨rfl, hO2, hK2⟩
  have HO2 := hid hO2
  have HK2 := hid ((HK1.out).trans hK2)
  clear hO2 hK2
  try dsimp only
  unfold ansV ansC
  try unfold ansE
  go_upto_region 5 with fail
  have HP2 := hid (HO2.out.alloc (.cells #[.int .i64 0, .int .i64 0, .int .i64 0, .int .i64 0, .slice none 0 0, .slice none 0 0] 29)).p1
  have HK2 := hid (HK2.out.alloc (.cells #[.int .i64 0, .int .i64 0, .int .i64 0, .int .i64 0, .slice none 0 0, .slice none 0 0] 29))
  generalize w2.alloc (.cells #[.int .i64 0, .int .i64 0, .int .i64 0, .int .i64 0, .slice none 0 0, .slice none 0 0] 29) = v2 at *
  generalize w2.heap.size = g2 at *
  go_wp2_with fail
  refine (akOpen q mx v2 _ (HM.out.cons _) HP2.out).mono ?_
  rintro e w3 ⟨rfl, hO3, hK3⟩
  have HO3 := hid hO3
  have HK3 := hid ((HK2.out).trans hK3)
  clear hO3 hK3
  try dsimp only
  unfold ansV ansC
  try unfold ansE
  go_upto_region 6 with fail
  have HP3 := hid (HO3.out.alloc (.cells #[.int .i64 0, .int .i64 0, .int .i64 0, .int .i64 0, .slice none 0 0, .slice none 0 0] 29)).p1
  have HK3 := hid (HK3.out.alloc (.cells #[.int .i64 0, .int .i64 0, .int .i64 0, .int .i64 0, .slice none 0 0, .slice none 0 0] 29))
  generalize w3.alloc (.cells #[.int .i64 0, .int .i64 0, .int .i64 0, .int .i64 0, .slice none 0 0, .slice none 0 0] 29) = v3 at *
  generalize w3.heap.size = g3 at *
  have HB3 := hid (HP3.out.alloc (.cells #[.int .u8 120, .int .u8 121, .int .u8 122] 5 (3, 4))).p1
  have HQ3 := hid (HK3.out.alloc (.cells #[.int .u8 120, .int .u8 121, .int .u8 122] 5 (3, 4)))
  go_wp2_with fail
  refine (akWrite q v3.heap.size _ _ HB3.out).mono ?_
  rintro e w4 ⟨p4, c4, rfl, hO4, hK4⟩
  have HO4 := hid hO4
  have HK4 := hid ((HQ3.out).trans hK4)
  clear hO4 hK4
  try dsimp only
  unfold ansV ansC
  try unfold ansE
  go_upto_region 7 with fail
  have HP4 := hid (HO4.out.alloc (.cells #[.int .i64 0, .int .i64 3, .int .i64 0, .int .i64 0, .slice p4 0 c4, .slice none 0 0] 29)).p1
  have HK4 := hid (HK4.out.alloc (.cells #[.int .i64 0, .int .i64 3, .int .i64 0, .int .i64 0, .slice p4 0 c4, .slice none 0 0] 29))
  generalize w4.alloc (.cells #[.int .i64 0, .int .i64 3, .int .i64 0, .int .i64 0, .slice p4 0 c4, .slice none 0 0] 29) = v4 at *
  generalize w4.heap.size = g4 at *
  go_wp2_with fail
  refine (akStatF q mx v4 _ (((HM.out.cons _).cons _).cons _) HP4.out).mono ?_
  rintro e w5 ⟨rfl, hO5, hK5⟩
  have HO5 := hid hO5
  have HK5 := hid ((HK4.out).trans hK5)
  clear hO5 hK5
  try dsimp only
  unfold ansV ansC
  try unfold ansE
  go_upto_region 8 with fail
  have HP5 := hid (HO5.out.alloc (.cells #[.int .i64 0, .int .i64 3, .int .i64 1, .int .i64 1, .slice none 0 0, .slice none 0 0] 29)).p1
  have HK5 := hid (HK5.out.alloc (.cells #[.int .i64 0, .int .i64 3, .int .i64 1, .int .i64 1, .slice none 0 0, .slice none 0 0] 29))
  generalize w5.alloc (.cells #[.int .i64 0, .int .i64 3, .int .i64 1, .int .i64 1, .slice none 0 0, .slice none 0 0] 29) = v5 at *
  generalize w5.heap.size = g5 at *
  go_wp2_with fail
  refine (akStatB q mx v5 _ ((((HM.out.cons _).cons _).cons _).cons _) HP5.out).mono ?_
  rintro e w6 ⟨rfl, hO6, hK6⟩
  have HO6 := hid hO6
  have HK6 := hid ((HK5.out).trans hK6)
  clear hO6 hK6
  try dsimp only
  unfold ansV ansC
  try unfold ansE
  go_upto_region 9 with fail
  have HP6 := hid (HO6.out.alloc (.cells #[.int .i64 5, .int .i64 0, .int .i64 0, .int .i64 0, .slice none 0 0, .slice none 0 0] 29)).p1
  have HK6 := hid (HK6.out.alloc (.cells #[.int .i64 5, .int .i64 0, .int .i64 0, .int .i64 0, .slice none 0 0, .slice none 0 0] 29))
  generalize w6.alloc (.cells #[.int .i64 5, .int .i64 0, .int .i64 0, .int .i64 0, .slice none 0 0, .slice none 0 0] 29) = v6 at *
  generalize w6.heap.size = g6 at *
  go_wp2_with fail
  refine (akNeed q v6 _ HP6.out).mono ?_
  rintro e w7 ⟨rfl, hO7, hK7⟩
  have HO7 := hid hO7
  have HK7 := hid ((HK6.out).trans hK7)
  clear hO7 hK7
  try dsimp only
  have HS := hid (HO7.out.re 6 [1, 2, 3, 4, 5, 0])
  have c6 : w7.cell? ⟨g6, 0, none⟩ = some (.int .i64 5) := HS.out.cells 0
  have c50 : w7.cell? ⟨g5, 0, none⟩ = some (.int .i64 0) := HS.out.p1.cells 0
  have c51 : w7.cell? ⟨g5, 1, none⟩ = some (.int .i64 3) := HS.out.p1.cells 1
  have c52 : w7.cell? ⟨g5, 2, none⟩ = some (.int .i64 1) := HS.out.p1.cells 2
  have c53 : w7.cell? ⟨g5, 3, none⟩ = some (.int .i64 1) := HS.out.p1.cells 3
  have c4 : w7.cell? ⟨g4, 1, none⟩ = some (.int .i64 3) := HS.out.p2.cells 1
  have c3 : w7.cell? ⟨g3, 0, none⟩ = some (.int .i64 0) := HS.out.p3.cells 0
  have c2 : w7.cell? ⟨g2, 0, none⟩ = some (.int .i64 0) := HS.out.p4.cells 0
  go_wp2_with fail
  refine (akNodes q w7 _ HO7.out).mono ?_
  rintro e w8 ⟨p8, c8, rfl, hO8, hK8⟩
  have HO8 := hid hO8
  have HK8 := hid ((HK7.out).trans hK8)
  clear hO8 hK8
  try dsimp only
  go_wp2_with fail
  refine (akNumber q mx w8 _ (((((HM.out.cons _).cons _).cons _).cons _).cons _) HO8.out).mono ?_
  rintro e w9 ⟨rfl, hO9, hK9⟩
  have HO9 := hid hO9
  have HK9 := hid ((HK8.out).trans hK9)
  clear hO9 hK9
  try dsimp only
  go_wp2_with fail
  go_ret
  exact ⟨rfl, HO9.out.drop.drop.drop.drop.drop.drop, HK9.out⟩
end Go.Proofs.YtfhaedkaedffcaaGreatDoor
/- THE WALK of Low. -/
namespace Go.Proofs.YtfhaedkaedffcaaGreatDoor
open Go.RowKit Go.Own
end Go.Proofs.YtfhaedkaedffcaaGreatDoor
/- THE WALK of TreeReads. -/
namespace Go.Proofs.YtfhaedkaedffcaaGreatDoor
open Go.RowKit Go.Own
theorem sameT (a b : Value) (xs ys : List Int) (w : World) (h : xs = ys) (ha : Rd w a 1 xs.length (bc xs)) (hb : Rd w b 1 ys.length (bc ys)) :
    Calls Tryz.prog 19 #[a, b] w fun e w' => e = .returned (.bool true) ∧ ∃ n, w' = w.drewN n := by
  refine (sameBytes a b xs ys w ha hb).mono ?_
  rintro e w' ⟨rfl, h2⟩
  exact ⟨by simp [h], h2⟩
theorem rdStart {W w : World} {L : List HP} {v : Value} {size n : Nat} {xs : List Value} (hr : Rd W v size n xs) (h : Has w (old W :: L)) : Rd w v size n xs := hr.cellsOld h.old_look
theorem mxStart {W : World} {mx : Int} (h : W.cell? ⟨0, 0, none⟩ = some (.int .i64 mx)) : MxL mx [old W] := fun w' h' => (World.cell?_of_block (h'.old_look 0 (World.block_lt_of_cell? W _ h))).trans h
section
variable (q : Nat) (w : World) (L : List HP) {b : List Int} {wr : List Bool} (hd : b.length ≤ 10000) (hw : wr.length ≤ 162) (K : Nat) (hK : K ≤ b.length)
include hd hw hK
end
end Go.Proofs.YtfhaedkaedffcaaGreatDoor
/- tree.Do, Nodes, as the laws call them: any operation on a tree that is kept. -/
namespace Go.Proofs.YtfhaedkaedffcaaGreatDoor
open Go.RowKit Go.Own
abbrev opY (k fd n off fl : Int) (P Q : ByteArray) (dv : Value) : Value := .agg #[.int .i64 k, .int .i64 fd, .int .i64 n, .int .i64 off, .int .i64 fl, .string P, .string Q, dv]
/-- What every tree keeps, whatever its ranks. -/
def Gdx (S : Tre) (k : Nat) : Prop := ∃ rk, Gd S rk k
theorem gdx0 : Gdx tre0 0 := ⟨_, gd0⟩
theorem Gdx.doM {S : Tre} {k : Nat} (h : Gdx S k) (o : Opm) (ds : List Int) (hp : o.path.length ≤ 100000) : Gdx (S.doM o ds).2 (k + 1) := by
  obtain ⟨rk, h⟩ := h
  exact h.doM o ds hp
theorem sV_str {p : Str} {P : ByteArray} (h : sB p = P) : sV p = .string P := congrArg Value.string h
/-- An answer with its slices. -/
abbrev ansY (a : Ans) (p : Option Addr) (c : Nat) (p' : Option Addr) (c' : Nat) : Value := .agg #[.int .i64 a.code, .int .i64 a.n, .int .i64 a.kind, .int .i64 a.links, .slice p a.data.length c, .slice p' a.names.length c']
section
variable {S : Tre} {k : Nat} (q : Nat) (mx : Int) (w : World) (L : List HP)
theorem stepDo (h : Gdx S k) (hk : k < 100000) (hM : MxL mx L) (o : Opm) {P Q : ByteArray} (hP : sB o.path = P) (hQ : sB o.dest = Q) (ho : o.off ≤ 9223372036854775807) (hp : o.path.length ≤ 100000) (hq : o.dest.length ≤ 100000)
    (po : Option Addr) (co : Nat) (ds : List Int) (hds : ds.length ≤ 100000) (hrd : ∀ w', Has w' L → Rd w' (.slice po ds.length co) 1 ds.length (bc ds)) (a : Ans) (S' : Tre) (he : S.doM o ds = (a, S')) (hO : Has w (Trc q S :: L)) :
    Calls Tryz.prog 17 #[.pointer (some ⟨q, 0, none⟩), opY o.kind o.fd o.n o.off o.flags P Q (.slice po ds.length co)] w fun e w' => ∃ p c p' c', e = .returned (ansY a p c p' c') ∧ Gdx S' (k + 1) ∧ Has w' (Bytes (.slice p a.data.length c) a.data :: Strs (.slice p' a.names.length c') a.names :: Trc q S' :: L) ∧ Keep w w' := by
  have hg := h.doM o ds hp
  obtain ⟨rk, h⟩ := h
  have h1 := doAny q o po co ds mx w L h hk hM hp hq ho hds hrd hO
  rw [he] at h1 hg
  have e : opV o (.slice po ds.length co) = opY o.kind o.fd o.n o.off o.flags P Q (.slice po ds.length co) := by
    unfold opV opC
    rw [sV_str hP, sV_str hQ]
  rw [e] at h1
  refine h1.mono ?_
  rintro e w' ⟨dv, nv, rfl, h2, h3⟩
  obtain ⟨p, c, rfl, -⟩ := (Bytes.rd h2).form
  obtain ⟨p', c', rfl, -⟩ := (Strs.rd h2.p1).form
  exact ⟨p, c, p', c', rfl, hg, h2, h3⟩
/-- .. an operation without data. -/
theorem stepDo0 (h : Gdx S k) (hk : k < 100000) (hM : MxL mx L) (o : Opm) {P Q : ByteArray} (hP : sB o.path = P) (hQ : sB o.dest = Q) (ho : o.off ≤ 9223372036854775807) (hp : o.path.length ≤ 100000) (hq : o.dest.length ≤ 100000)
    (a : Ans) (S' : Tre) (he : S.doM o [] = (a, S')) (hO : Has w (Trc q S :: L)) :
    Calls Tryz.prog 17 #[.pointer (some ⟨q, 0, none⟩), opY o.kind o.fd o.n o.off o.flags P Q (.slice none 0 0)] w fun e w' => ∃ p c p' c', e = .returned (ansY a p c p' c') ∧ Gdx S' (k + 1) ∧ Has w' (Bytes (.slice p a.data.length c) a.data :: Strs (.slice p' a.names.length c') a.names :: Trc q S' :: L) ∧ Keep w w' :=
  stepDo q mx w L h hk hM o hP hQ ho hp hq none 0 [] (by simp) (fun w' h' => Bytes.rd (h'.row_nil _ _)) a S' he hO
theorem stepNodes (h : Gdx S k) (hk : k < 1000) (hfew : (filesP S).length ≤ 1000000) (hO : Has w (Trc q S :: L)) :
    Calls Tryz.prog 18 #[.pointer (some ⟨q, 0, none⟩)] w fun e w' => ∃ p c os, e = .returned (.slice p (filesP S).length c) ∧ os.length = (filesP S).length ∧ (os.map Sn.key).Perm ((seen S.nodes 22 1 []).map keyE) ∧ Srt os ∧ Has w' (Sns (.slice p os.length c) os :: Trc q S :: L) ∧ Keep w w' := by
  obtain ⟨rk, h⟩ := h
  obtain ⟨x1, hx1⟩ := h.x.has1
  refine (tNodes sortsNd q S x1 rk w L hx1 (fun n x hx => (h.nod hx).size.1) (fun n x hx => by have := h.x.rk20 n; omega) (fun n x hx e he => h.nm_rk n x hx e he) (by rw [files_seen, List.length_map]; exact hfew) hO).mono ?_
  rintro e w' ⟨v, os, rfl, hp, hs, h1, h2⟩
  have hl := h.files_len hp
  obtain ⟨p, c, rfl, -⟩ := (Has.rd (sns_iff.1 h1)).form
  exact ⟨p, c, os, by rw [hl], hl, hp, hs, h1, h2⟩
end
end Go.Proofs.YtfhaedkaedffcaaGreatDoor
/- TreeNames: its operations, as it calls them. -/
namespace Go.Proofs.YtfhaedkaedffcaaGreatDoor
open Go.RowKit Go.Own
/-- An answer of numbers, as a value. -/
abbrev bareY (c n k l : Int) (p : Option Addr) (cp : Nat) (p' : Option Addr) (cp' : Nat) : Value := .agg #[.int .i64 c, .int .i64 n, .int .i64 k, .int .i64 l, .slice p 0 cp, .slice p' 0 cp']
section
variable {S : Tre} {k : Nat} (q : Nat) (mx : Int) (w : World) (L : List HP)
theorem stepBare (h : Gdx S k) (hk : k < 100000) (hM : MxL mx L) (o : Opm) {P Q : ByteArray} (hP : sB o.path = P) (hQ : sB o.dest = Q) (ho : o.off ≤ 9223372036854775807) (hp : o.path.length ≤ 100000) (hq : o.dest.length ≤ 100000)
    (po : Option Addr) (co : Nat) (ds : List Int) (hds : ds.length ≤ 100000) (hrd : ∀ w', Has w' L → Rd w' (.slice po ds.length co) 1 ds.length (bc ds)) (hb : Bare (S.doM o ds).1) (hO : Has w (Trc q S :: L)) :
    Calls Tryz.prog 17 #[.pointer (some ⟨q, 0, none⟩), opY o.kind o.fd o.n o.off o.flags P Q (.slice po ds.length co)] w fun e w' => ∃ p c p' c', e = .returned (bareY (S.doM o ds).1.code (S.doM o ds).1.n (S.doM o ds).1.kind (S.doM o ds).1.links p c p' c') ∧ Gdx (S.doM o ds).2 (k + 1) ∧ Has w' (Trc q (S.doM o ds).2 :: L) ∧ Keep w w' := by
  refine (stepDo q mx w L h hk hM o hP hQ ho hp hq po co ds hds hrd (S.doM o ds).1 (S.doM o ds).2 rfl hO).mono ?_
  rintro e w' ⟨p, c, p', c', rfl, hg, h1, h2⟩
  refine ⟨p, c, p', c', ?_, hg, h1.drop.drop, h2⟩
  unfold ansY bareY
  rw [hb.1, hb.2]
  rfl
theorem stepBare0 (h : Gdx S k) (hk : k < 100000) (hM : MxL mx L) (o : Opm) {P Q : ByteArray} (hP : sB o.path = P) (hQ : sB o.dest = Q) (ho : o.off ≤ 9223372036854775807) (hp : o.path.length ≤ 100000) (hq : o.dest.length ≤ 100000)
    (hb : Bare (S.doM o []).1) (hO : Has w (Trc q S :: L)) :
    Calls Tryz.prog 17 #[.pointer (some ⟨q, 0, none⟩), opY o.kind o.fd o.n o.off o.flags P Q (.slice none 0 0)] w fun e w' => ∃ p c p' c', e = .returned (bareY (S.doM o []).1.code (S.doM o []).1.n (S.doM o []).1.kind (S.doM o []).1.links p c p' c') ∧ Gdx (S.doM o []).2 (k + 1) ∧ Has w' (Trc q (S.doM o []).2 :: L) ∧ Keep w w' :=
  stepBare q mx w L h hk hM o hP hQ ho hp hq none 0 [] (by simp) (fun w' h' => Bytes.rd (h'.row_nil _ _)) hb hO
end
abbrev noB : ByteArray := ⟨#[]⟩
section
variable (q : Nat) (mx : Int) (w : World) (L : List HP) (hM : MxL mx L) {p p' nm nm' : Str} {P P' : ByteArray} (hP : sB p = P) (hP' : sB p' = P') (hp : p.length ≤ 100) (hp' : p'.length ≤ 100) {d : List Int} {wr : List Bool} {o : Int}
include hM hP hp in
theorem nOpen (hO : Has w (Trc q tre0 :: L)) : Calls Tryz.prog 17 #[.pointer (some ⟨q, 0, none⟩), opY 1 0 0 0 35 P noB nilV] w fun e w' => ∃ c n k l a ca b cb S', e = .returned (bareY c n k l a ca b cb) ∧ (c ≠ 0 ∧ S' = tre0 ∨ c = 0 ∧ n = 0 ∧ ∃ nm, Rt p nm ∧ S' = trX [(nm, 2)] 1 1 [] [] (tabA (sl0 0)) ∧ Gdx S' 1) ∧ Has w' (Trc q S' :: L) ∧ Keep w w' := by
  refine (stepBare0 q mx w L gdx0 (by omega) hM ⟨1, 0, 0, 0, 35, p, []⟩ hP rfl (show (0 : Int) ≤ 9223372036854775807 by decide) (by dsimp only; omega) (by simp) (bare_open tre0 _ _) hO).mono ?_
  rintro e w' ⟨a, ca, b, cb, rfl, hg, h1, h2⟩
  have e1 : tre0.doM ⟨1, 0, 0, 0, 35, p, []⟩ [] = tre0.openFd p 35 := by simp [Tre.doM]
  rw [e1] at hg h1 ⊢
  refine ⟨_, _, _, _, a, ca, b, cb, _, rfl, ?_, h1, h2⟩
  by_cases h0 : (tre0.openFd p 35).1.code = 0
  · obtain ⟨nm, hr, e2⟩ := names_open h0
    rw [e2] at hg ⊢
    exact .inr ⟨rfl, rfl, nm, hr, rfl, hg⟩
  · exact .inl ⟨h0, fail_open rfl p 35 h0⟩
include hM in
theorem nWrite (hg : Gdx (trX [(nm, 2)] 1 1 [] [] (tabA (sl0 0))) 1) (po : Option Addr) (co : Nat) (ds : List Int) (hds : ds.length ≤ 300) (hrd : ∀ w', Has w' L → Rd w' (.slice po ds.length co) 1 ds.length (bc ds)) (hO : Has w (Trc q (trX [(nm, 2)] 1 1 [] [] (tabA (sl0 0))) :: L)) :
    Calls Tryz.prog 17 #[.pointer (some ⟨q, 0, none⟩), opY 4 0 0 0 0 noB noB (.slice po ds.length co)] w fun e w' => ∃ a ca b cb wr o, e = .returned (bareY 0 ds.length 0 0 a ca b cb) ∧ Gdx (trX [(nm, 2)] 1 1 ds wr (tabA (sl0 o))) 2 ∧ Has w' (Trc q (trX [(nm, 2)] 1 1 ds wr (tabA (sl0 o))) :: L) ∧ Keep w w' := by
  refine (stepBare q mx w L hg (by omega) hM ⟨4, 0, 0, 0, 0, [], []⟩ rfl rfl (show (0 : Int) ≤ 9223372036854775807 by decide) (by simp) (by simp) po co ds (by omega) hrd (bare_write _ _ _ _ _) hO).mono ?_
  rintro e w' ⟨a, ca, b, cb, rfl, hg, h1, h2⟩
  have e1 : (trX [(nm, 2)] 1 1 [] [] (tabA (sl0 0))).doM ⟨4, 0, 0, 0, 0, [], []⟩ ds = (trX [(nm, 2)] 1 1 [] [] (tabA (sl0 0))).write 4 0 0 ds := by simp [Tre.doM]
  obtain ⟨wr', o', e2⟩ := names_write (nm := nm) ds hds
  rw [e1, e2] at hg h1 ⊢
  exact ⟨a, ca, b, cb, wr', o', rfl, hg, h1, h2⟩
include hM hP hp in
theorem nAgain (hr : Rt p nm) (hg : Gdx (trX [(nm, 2)] 1 1 d wr (tabA (sl0 o))) 2) (hO : Has w (Trc q (trX [(nm, 2)] 1 1 d wr (tabA (sl0 o))) :: L)) :
    Calls Tryz.prog 17 #[.pointer (some ⟨q, 0, none⟩), opY 1 0 0 0 3 P noB nilV] w fun e w' => ∃ a ca b cb, e = .returned (bareY 6 0 0 0 a ca b cb) ∧ Gdx (trX [(nm, 2)] 1 1 d wr (tabA (sl0 o))) 3 ∧ Has w' (Trc q (trX [(nm, 2)] 1 1 d wr (tabA (sl0 o))) :: L) ∧ Keep w w' := by
  refine (stepBare0 q mx w L hg (by omega) hM ⟨1, 0, 0, 0, 3, p, []⟩ hP rfl (show (0 : Int) ≤ 9223372036854775807 by decide) (by dsimp only; omega) (by simp) (bare_open _ _ _) hO).mono ?_
  rintro e w' ⟨a, ca, b, cb, rfl, hg, h1, h2⟩
  have e1 : (trX [(nm, 2)] 1 1 d wr (tabA (sl0 o))).doM ⟨1, 0, 0, 0, 3, p, []⟩ [] = (trX [(nm, 2)] 1 1 d wr (tabA (sl0 o))).openFd p 3 := by simp [Tre.doM]
  rw [e1, names_again hr] at hg h1 ⊢
  exact ⟨a, ca, b, cb, rfl, hg, h1, h2⟩
include hM hP hp hP' hp' in
theorem nLink (hr : Rt p nm) (hg : Gdx (trX [(nm, 2)] 1 1 d wr (tabA (sl0 o))) 3) (hO : Has w (Trc q (trX [(nm, 2)] 1 1 d wr (tabA (sl0 o))) :: L)) :
    Calls Tryz.prog 17 #[.pointer (some ⟨q, 0, none⟩), opY 12 0 0 0 0 P P' nilV] w fun e w' => ∃ c n k l a ca b cb S', e = .returned (bareY c n k l a ca b cb) ∧ (c ≠ 0 ∧ S' = trX [(nm, 2)] 1 1 d wr (tabA (sl0 o)) ∧ Gdx S' 4 ∨ c = 0 ∧ ∃ nm', Rt p' nm' ∧ nm ≠ nm' ∧ S' = trX [(nm, 2), (nm', 2)] 2 2 d wr (tabA (sl0 o)) ∧ Gdx S' 4) ∧ Has w' (Trc q S' :: L) ∧ Keep w w' := by
  refine (stepBare0 q mx w L hg (by omega) hM ⟨12, 0, 0, 0, 0, p, p'⟩ hP hP' (show (0 : Int) ≤ 9223372036854775807 by decide) (by dsimp only; omega) (by dsimp only; omega) (bare_link _ _ _) hO).mono ?_
  rintro e w' ⟨a, ca, b, cb, rfl, hg, h1, h2⟩
  have e1 : (trX [(nm, 2)] 1 1 d wr (tabA (sl0 o))).doM ⟨12, 0, 0, 0, 0, p, p'⟩ [] = (trX [(nm, 2)] 1 1 d wr (tabA (sl0 o))).link p p' := by simp [Tre.doM]
  rw [e1] at hg h1 ⊢
  refine ⟨_, _, _, _, a, ca, b, cb, _, rfl, ?_, h1, h2⟩
  by_cases h0 : ((trX [(nm, 2)] 1 1 d wr (tabA (sl0 o))).link p p').1.code = 0
  · obtain ⟨nm', hr', hne, e2⟩ := names_link hr h0
    rw [e2] at hg ⊢
    exact .inr ⟨rfl, nm', hr', hne, rfl, hg⟩
  · exact .inl ⟨h0, fail_link p p' h0, hg⟩
include hM hP' hp' in
theorem nStat2 (hr' : Rt p' nm') (hne : nm ≠ nm') (hg : Gdx (trX [(nm, 2), (nm', 2)] 2 2 d wr (tabA (sl0 o))) 4) (hO : Has w (Trc q (trX [(nm, 2), (nm', 2)] 2 2 d wr (tabA (sl0 o))) :: L)) :
    Calls Tryz.prog 17 #[.pointer (some ⟨q, 0, none⟩), opY 16 0 0 0 0 P' noB nilV] w fun e w' => ∃ a ca b cb, e = .returned (bareY 0 d.length 1 2 a ca b cb) ∧ Gdx (trX [(nm, 2), (nm', 2)] 2 2 d wr (tabA (sl0 o))) 5 ∧ Has w' (Trc q (trX [(nm, 2), (nm', 2)] 2 2 d wr (tabA (sl0 o))) :: L) ∧ Keep w w' := by
  refine (stepBare0 q mx w L hg (by omega) hM ⟨16, 0, 0, 0, 0, p', []⟩ hP' rfl (show (0 : Int) ≤ 9223372036854775807 by decide) (by dsimp only; omega) (by simp) (bare_stat _ _ _) hO).mono ?_
  rintro e w' ⟨a, ca, b, cb, rfl, hg, h1, h2⟩
  have e1 : (trX [(nm, 2), (nm', 2)] 2 2 d wr (tabA (sl0 o))).doM ⟨16, 0, 0, 0, 0, p', []⟩ [] = ((trX [(nm, 2), (nm', 2)] 2 2 d wr (tabA (sl0 o))).stat p' true, trX [(nm, 2), (nm', 2)] 2 2 d wr (tabA (sl0 o))) := by simp [Tre.doM]
  rw [e1, names_stat hr' hne] at hg h1 ⊢
  exact ⟨a, ca, b, cb, rfl, hg, h1, h2⟩
include hM hP hp in
theorem nRem1 (hr : Rt p nm) (hne : nm ≠ nm') (hg : Gdx (trX [(nm, 2), (nm', 2)] 2 2 d wr (tabA (sl0 o))) 5) (hO : Has w (Trc q (trX [(nm, 2), (nm', 2)] 2 2 d wr (tabA (sl0 o))) :: L)) :
    Calls Tryz.prog 17 #[.pointer (some ⟨q, 0, none⟩), opY 11 0 0 0 0 P noB nilV] w fun e w' => ∃ a ca b cb, e = .returned (bareY 0 0 0 0 a ca b cb) ∧ Gdx (trX [(nm', 2)] 2 1 d wr (tabA (sl0 o))) 6 ∧ Has w' (Trc q (trX [(nm', 2)] 2 1 d wr (tabA (sl0 o))) :: L) ∧ Keep w w' := by
  refine (stepBare0 q mx w L hg (by omega) hM ⟨11, 0, 0, 0, 0, p, []⟩ hP rfl (show (0 : Int) ≤ 9223372036854775807 by decide) (by dsimp only; omega) (by simp) (bare_remove _ _ _) hO).mono ?_
  rintro e w' ⟨a, ca, b, cb, rfl, hg, h1, h2⟩
  have e1 : (trX [(nm, 2), (nm', 2)] 2 2 d wr (tabA (sl0 o))).doM ⟨11, 0, 0, 0, 0, p, []⟩ [] = (trX [(nm, 2), (nm', 2)] 2 2 d wr (tabA (sl0 o))).remove 11 p := by simp [Tre.doM]
  rw [e1, names_rem1 hr hne] at hg h1 ⊢
  exact ⟨a, ca, b, cb, rfl, hg, h1, h2⟩
include hM hP hp in
theorem nGone (hr : Rt p nm) (hne : nm ≠ nm') (hg : Gdx (trX [(nm', 2)] 2 1 d wr (tabA (sl0 o))) 6) (hO : Has w (Trc q (trX [(nm', 2)] 2 1 d wr (tabA (sl0 o))) :: L)) :
    Calls Tryz.prog 17 #[.pointer (some ⟨q, 0, none⟩), opY 16 0 0 0 0 P noB nilV] w fun e w' => ∃ a ca b cb, e = .returned (bareY 5 0 0 0 a ca b cb) ∧ Gdx (trX [(nm', 2)] 2 1 d wr (tabA (sl0 o))) 7 ∧ Has w' (Trc q (trX [(nm', 2)] 2 1 d wr (tabA (sl0 o))) :: L) ∧ Keep w w' := by
  refine (stepBare0 q mx w L hg (by omega) hM ⟨16, 0, 0, 0, 0, p, []⟩ hP rfl (show (0 : Int) ≤ 9223372036854775807 by decide) (by dsimp only; omega) (by simp) (bare_stat _ _ _) hO).mono ?_
  rintro e w' ⟨a, ca, b, cb, rfl, hg, h1, h2⟩
  have e1 : (trX [(nm', 2)] 2 1 d wr (tabA (sl0 o))).doM ⟨16, 0, 0, 0, 0, p, []⟩ [] = ((trX [(nm', 2)] 2 1 d wr (tabA (sl0 o))).stat p true, trX [(nm', 2)] 2 1 d wr (tabA (sl0 o))) := by simp [Tre.doM]
  rw [e1, names_gone hr hne] at hg h1 ⊢
  exact ⟨a, ca, b, cb, rfl, hg, h1, h2⟩
include hM in
theorem nPread {t : List (Str × Int)} {m l : Int} {k : Nat} (hk : k ≤ 100) (hd : d.length ≤ 300) (hg : Gdx (trX t m l d wr (tabA (sl0 o))) k) (hO : Has w (Trc q (trX t m l d wr (tabA (sl0 o))) :: L)) :
    Calls Tryz.prog 17 #[.pointer (some ⟨q, 0, none⟩), opY 5 0 1000 0 0 noB noB nilV] w fun e w' => ∃ a ca b cb, e = .returned (.agg #[.int .i64 0, .int .i64 0, .int .i64 0, .int .i64 0, .slice a d.length ca, .slice b 0 cb]) ∧ Gdx (trX t m l d wr (tabA (sl0 o))) (k + 1) ∧ Has w' (Bytes (.slice a d.length ca) d :: Trc q (trX t m l d wr (tabA (sl0 o))) :: L) ∧ Keep w w' := by
  refine (stepDo0 q mx w L hg (by omega) hM ⟨5, 0, 1000, 0, 0, [], []⟩ rfl rfl (show (0 : Int) ≤ 9223372036854775807 by decide) (by simp) (by simp) _ _ (show (trX t m l d wr (tabA (sl0 o))).doM ⟨5, 0, 1000, 0, 0, [], []⟩ [] = (⟨0, 0, 0, 0, d, []⟩, trX t m l d wr (tabA (sl0 o))) from (show _ = (trX t m l d wr (tabA (sl0 o))).read 5 0 1000 0 by simp [Tre.doM]).trans (names_pread hd)) hO).mono ?_
  rintro e w' ⟨a, ca, b, cb, rfl, hg, h1, h2⟩
  exact ⟨a, ca, b, cb, rfl, hg, h1.re 3 [0, 2], h2⟩
include hM hP' hp' in
theorem nRem2 (hr' : Rt p' nm') {k : Nat} (hk : k ≤ 100) (hg : Gdx (trX [(nm', 2)] 2 1 d wr (tabA (sl0 o))) k) (hO : Has w (Trc q (trX [(nm', 2)] 2 1 d wr (tabA (sl0 o))) :: L)) :
    Calls Tryz.prog 17 #[.pointer (some ⟨q, 0, none⟩), opY 11 0 0 0 0 P' noB nilV] w fun e w' => ∃ a ca b cb, e = .returned (bareY 0 0 0 0 a ca b cb) ∧ Gdx (trX [] 2 0 d wr (tabA (sl0 o))) (k + 1) ∧ Has w' (Trc q (trX [] 2 0 d wr (tabA (sl0 o))) :: L) ∧ Keep w w' := by
  refine (stepBare0 q mx w L hg (by omega) hM ⟨11, 0, 0, 0, 0, p', []⟩ hP' rfl (show (0 : Int) ≤ 9223372036854775807 by decide) (by dsimp only; omega) (by simp) (bare_remove _ _ _) hO).mono ?_
  rintro e w' ⟨a, ca, b, cb, rfl, hg, h1, h2⟩
  have e1 : (trX [(nm', 2)] 2 1 d wr (tabA (sl0 o))).doM ⟨11, 0, 0, 0, 0, p', []⟩ [] = (trX [(nm', 2)] 2 1 d wr (tabA (sl0 o))).remove 11 p' := by simp [Tre.doM]
  rw [e1, names_rem2 hr'] at hg h1 ⊢
  exact ⟨a, ca, b, cb, rfl, hg, h1, h2⟩
end
theorem filesX0 : (filesP tre0).length = 1 := by decide +kernel
theorem filesX (t : List (Str × Int)) (m l : Int) (d : List Int) (wr : List Bool) (T : List Tb.Slot) (h : ∀ e ∈ t, e.2 = 2) : (filesP (trX t m l d wr T)).length = t.length + 1 := by
  have e : filesP (trX t m l d wr T) = ([], 1, ⟨2, [], [], t, m, 1, 0⟩) :: t.flatMap fun e => seenP (trX t m l d wr T).nodes 21 e.2 ([] ++ [e.1]) := rfl
  rw [e, List.length_cons]
  congr 1
  have h1 : ∀ e ∈ t, seenP (trX t m l d wr T).nodes 21 e.2 ([] ++ [e.1]) = [([e.1], 2, ⟨1, d, wr, [], 0, l, 0⟩)] := by
    intro e he
    rw [h e he]
    rfl
  clear e h
  generalize (trX t m l d wr T).nodes = N at *
  induction t with
  | nil => rfl
  | cons a t ih =>
    rw [List.flatMap_cons, List.length_append, h1 a List.mem_cons_self, ih fun e he => h1 e (List.mem_cons_of_mem _ he)]
    simp only [List.length_cons, List.length_nil]
    omega
theorem nNodes {S : Tre} {k n : Nat} (q : Nat) (w : World) (L : List HP) (h : Gdx S k) (hk : k < 1000) (hn : (filesP S).length = n) (hfew : n ≤ 1000000) (hO : Has w (Trc q S :: L)) : Calls Tryz.prog 18 #[.pointer (some ⟨q, 0, none⟩)] w fun e w' => ∃ p c, e = .returned (.slice p n c) ∧ Has w' (Trc q S :: L) ∧ Keep w w' := by
  refine (stepNodes q w L h hk (by omega) hO).mono ?_
  rintro e w' ⟨p, c, os, rfl, _, _, _, h1, h2⟩
  exact ⟨p, c, by rw [hn], Has.dropL _ (sns_iff.1 h1).drop, h2⟩
end Go.Proofs.YtfhaedkaedffcaaGreatDoor
