/- TEXTS of mine, merged. -/
import Derived.Test.YtfhaedkaedffcaaGreatDoorM27
import Derived.Test.YtfhaedkaedffcaaGreatDoorM26
import Derived.Test.YtfhaedkaedffcaaGreatDoorM13
import Derived.Test.YtfhaedkaedffcaaGreatDoorM17
import Derived.Test.YtfhaedkaedffcaaGreatDoorM18
import Derived.Lib.SlBytesConst
import Derived.Test.YtfhaedkaedffcaaGreatDoorM2
import Derived.Test.YtfhaedkaedffcaaGreatDoorM5
import Derived.Test.YtfhaedkaedffcaaGreatDoorM6
/- THE WALK of chapter 14's 'awake'. -/
namespace Go.Proofs.YtfhaedkaedffcaaGreatDoor
open Go.RowKit Go.Own
section
variable (q : Nat) (mx : Int) (w : World) (L : List HP) (hM : MxL mx L)
include hM
theorem akMkdir (hO : Has w (Trc q tre0 :: L)) : Calls Tryz.prog 17 #[.pointer (some ⟨q, 0, none⟩), opW 9 0 0 0 0 [47, 97] nilV] w fun e w' => e = .returned (ansV (ansE 0) nilV nilV) ∧ Has w' (Trc q treE1 :: L) ∧ Keep w w' := by
  have h := doMkdir q tre0 0 0 0 0 pA [] nilV w L rkA mx (wk_of wk_0).1 (wy_of wy_0 rkA_low) (opb_of opb_0 wk_0) hM (by decide) hO
  rw [mkdir_A] at h
  exact h
theorem akOpen (hO : Has w (Trc q treE1 :: L)) : Calls Tryz.prog 17 #[.pointer (some ⟨q, 0, none⟩), opW 1 0 0 0 33 [47, 97, 47, 102] nilV] w fun e w' => e = .returned (ansV (ansE 0) nilV nilV) ∧ Has w' (Trc q treE2 :: L) ∧ Keep w w' := by
  have h := doOpen q treE1 0 0 0 33 pAF [] nilV w L rkA mx (wk_of wk_A).1 (wy_of wy_A rkA_low) (opb_of opb_A wk_A) hM (by decide) (by decide +kernel) hO
  rw [open_AF] at h
  exact h
theorem akStatF (hO : Has w (Trc q treE3 :: L)) : Calls Tryz.prog 17 #[.pointer (some ⟨q, 0, none⟩), opW 16 0 0 0 0 [47, 97, 47, 102] nilV] w fun e w' => e = .returned (ansV ⟨0, 3, 1, 1, [], []⟩ nilV nilV) ∧ Has w' (Trc q treE3 :: L) ∧ Keep w w' := by
  have h := doStat q treE3 0 0 0 0 pAF [] nilV w L mx (wk_of wk_C).1 hM (by decide) (fun n x hx => ⟨((wk_of wk_C).2 n x hx).1, by have := ((wk_of wk_C).2 n x hx).2.2; omega⟩) hO
  rw [stat_AF] at h
  exact h
theorem akStatB (hO : Has w (Trc q treE3 :: L)) : Calls Tryz.prog 17 #[.pointer (some ⟨q, 0, none⟩), opW 16 0 0 0 0 [47, 98] nilV] w fun e w' => e = .returned (ansV (ansE 5) nilV nilV) ∧ Has w' (Trc q treE3 :: L) ∧ Keep w w' := by
  have h := doStat q treE3 0 0 0 0 pB [] nilV w L mx (wk_of wk_C).1 hM (by decide) (fun n x hx => ⟨((wk_of wk_C).2 n x hx).1, by have := ((wk_of wk_C).2 n x hx).2.2; omega⟩) hO
  rw [stat_B] at h
  exact h
theorem akNumber (hO : Has w (Trc q treE3 :: L)) : Calls Tryz.prog 22 #[.pointer (some ⟨q, 0, none⟩), .string ⟨#[47, 97]⟩] w fun e w' => e = .returned (.int .i64 2) ∧ Has w' (Trc q treE3 :: L) ∧ Keep w w' := by
  have h := tNumber q treE3 pA mx w L (wk_of wk_C).1 hM (by decide) hO
  rw [number_A] at h
  exact h
end
theorem _root_.Go.Own.Has.dropL {w : World} {L : List HP} (A : List HP) (h : Has w (A ++ L)) : Has w L := by
  induction A with
  | nil => exact h
  | cons a A ih => exact ih h.drop
theorem akWrite (q g : Nat) (w : World) (L : List HP) (hO : Has w (Trc q treE2 :: pt g (.cells #[.int .u8 120, .int .u8 121, .int .u8 122] 5 (3, 4)) :: L)) : Calls Tryz.prog 17 #[.pointer (some ⟨q, 0, none⟩), opW 4 0 0 0 0 [] (.slice (some ⟨g, 0, none⟩) 3 3)] w fun e w' => ∃ p c, e = .returned (ansV ⟨0, 3, 0, 0, [], []⟩ (.slice p 0 c) nilV) ∧ Has w' (Trc q treE3 :: L) ∧ Keep w w' := by
  have h := doWrite4 q treE2 0 0 0 0 [] [] (some ⟨g, 0, none⟩) 3 [120, 121, 122] w (pt g (.cells #[.int .u8 120, .int .u8 121, .int .u8 122] 5 (3, 4)) :: L) (opn_of opn_B wk_B) (by decide) (by decide) (fun w' h' => ⟨rfl, by decide, some ⟨g, 0, none⟩, 3, rfl, by decide, fun _ => ⟨g, 0, rfl, fun j _ => by rw [Nat.zero_add]; exact (h'.cells j).trans (by simp [bc])⟩⟩) hO
  rw [write_AF] at h
  refine Calls.mono (show Calls Tryz.prog 17 #[.pointer (some ⟨q, 0, none⟩), opW 4 0 0 0 0 [] (.slice (some ⟨g, 0, none⟩) 3 3)] w _ from h) ?_
  rintro e w' ⟨dv, rfl, h1, h2⟩
  obtain ⟨p, c, rfl, -⟩ := (Bytes.rd h1).form
  exact ⟨p, c, rfl, (h1.re 3 [1]), h2⟩
theorem akNeed (q : Nat) (w : World) (L : List HP) (hO : Has w (Trc q treE3 :: L)) : Calls Tryz.prog 28 #[.pointer (some ⟨q, 0, none⟩)] w fun e w' => e = .returned (.tuple #[.int .i64 3, .int .i64 3]) ∧ Has w' (Trc q treE3 :: L) ∧ Keep w w' := by
  have h := tNeed q treE3 w L need_small (by decide) hO
  rw [need_C] at h
  exact h
theorem akNodes (q : Nat) (w : World) (L : List HP) (hO : Has w (Trc q treE3 :: L)) : Calls Tryz.prog 18 #[.pointer (some ⟨q, 0, none⟩)] w fun e w' => ∃ p c, e = .returned (.slice p 3 c) ∧ Has w' (Trc q treE3 :: L) ∧ Keep w w' := by
  refine (tNodes sortsNd q treE3 _ rkA w L rfl (fun n x hx => ((wk_of wk_C).2 n x hx).1) low_C rk_C (by rw [seen_C]; decide) hO).mono ?_
  rintro e w' ⟨v, os, rfl, hp, -, h1, h2⟩
  have hl : os.length = 3 := by
    have h3 := hp.length_eq
    rw [List.length_map, List.length_map, seen_C] at h3
    exact h3
  obtain ⟨p, c, rfl, -⟩ := (Has.rd (sns_iff.1 h1)).form
  exact ⟨p, c, by rw [hl], Has.dropL _ (sns_iff.1 h1).drop, h2⟩
set_option maxRecDepth 100000 in
set_option maxHeartbeats 8000000 in
theorem awake14 (mx : Int) (w : World) (L : List HP) (hM : MxL mx L) (hO : Has w L) :
    Calls Tryz.prog 15 #[] w fun e w' => e = .returned (.bool true) ∧ Has w' L ∧ Keep w w' := by
  have HO := hid hO
  have HM := hid hM
  clear hO hM
  have kc := fun (w : World) (C : Array Value) (n c : Nat) => Lib.run_convert_bytes_const (P := Tryz.prog) w 22 5 C n c Tryz.underlying22 Tryz.underlying5
  go_enter Tryz.func15, Tryz.ntmps15
  go_wp2_with fail
  refine (tNew w L HO.out).mono ?_
  rintro e w1 ⟨q, rfl, hO1, hK1⟩
  have HO1 := hid hO1
  have HK1 := hid ((Keep.refl w).trans hK1)
  clear hO1 hK1
  try dsimp only
  go_wp2_with fail
  refine (akMkdir q mx w1 _ HM.out HO1.out).mono ?_
  rintro e w2 ⟨rfl, hO2, hK2⟩
  have HO2 := hid hO2
  have HK2 := hid ((HK1.out).trans hK2)
  clear hO2 hK2
  try dsimp only
  unfold ansV ansC
  try unfold ansE
  go_upto_region 5 with fail
  have HP2 := hid (HO2.out.alloc (.cells #[.int .i64 0, .int .i64 0, .int .i64 0, .int .i64 0, .slice none 0 0, .slice none 0 0] 29)).p1
  have HK2 := hid (HK2.out.alloc (.cells #[.int .i64 0, .int .i64 0, .int .i64 0, .int .i64 0, .slice none 0 0, .slice none 0 0] 29))
  generalize w2.alloc (.cells #[.int .i64 0, .int .i64 0, .int .i64 0, .int .i64 0, .slice none 0 0, .slice none 0 0] 29) = v2 at *
  generalize w2.heap.size = g2 at *
  go_wp2_with fail
  refine (akOpen q mx v2 _ (HM.out.cons _) HP2.out).mono ?_
  rintro e w3 ⟨rfl, hO3, hK3⟩
  have HO3 := hid hO3
  have HK3 := hid ((HK2.out).trans hK3)
  clear hO3 hK3
  try dsimp only
  unfold ansV ansC
  try unfold ansE
  go_upto_region 6 with fail
  have HP3 := hid (HO3.out.alloc (.cells #[.int .i64 0, .int .i64 0, .int .i64 0, .int .i64 0, .slice none 0 0, .slice none 0 0] 29)).p1
  have HK3 := hid (HK3.out.alloc (.cells #[.int .i64 0, .int .i64 0, .int .i64 0, .int .i64 0, .slice none 0 0, .slice none 0 0] 29))
  generalize w3.alloc (.cells #[.int .i64 0, .int .i64 0, .int .i64 0, .int .i64 0, .slice none 0 0, .slice none 0 0] 29) = v3 at *
  generalize w3.heap.size = g3 at *
  have HB3 := hid (HP3.out.alloc (.cells #[.int .u8 120, .int .u8 121, .int .u8 122] 5 (3, 4))).p1
  have HQ3 := hid (HK3.out.alloc (.cells #[.int .u8 120, .int .u8 121, .int .u8 122] 5 (3, 4)))
  go_wp2_with fail
  refine (akWrite q v3.heap.size _ _ HB3.out).mono ?_
  rintro e w4 ⟨p4, c4, rfl, hO4, hK4⟩
  have HO4 := hid hO4
  have HK4 := hid ((HQ3.out).trans hK4)
  clear hO4 hK4
  try dsimp only
  unfold ansV ansC
  try unfold ansE
  go_upto_region 7 with fail
  have HP4 := hid (HO4.out.alloc (.cells #[.int .i64 0, .int .i64 3, .int .i64 0, .int .i64 0, .slice p4 0 c4, .slice none 0 0] 29)).p1
  have HK4 := hid (HK4.out.alloc (.cells #[.int .i64 0, .int .i64 3, .int .i64 0, .int .i64 0, .slice p4 0 c4, .slice none 0 0] 29))
  generalize w4.alloc (.cells #[.int .i64 0, .int .i64 3, .int .i64 0, .int .i64 0, .slice p4 0 c4, .slice none 0 0] 29) = v4 at *
  generalize w4.heap.size = g4 at *
  go_wp2_with fail
  refine (akStatF q mx v4 _ (((HM.out.cons _).cons _).cons _) HP4.out).mono ?_
  rintro e w5 ⟨rfl, hO5, hK5⟩
  have HO5 := hid hO5
  have HK5 := hid ((HK4.out).trans hK5)
  clear hO5 hK5
  try dsimp only
  unfold ansV ansC
  try unfold ansE
  go_upto_region 8 with fail
  have HP5 := hid (HO5.out.alloc (.cells #[.int .i64 0, .int .i64 3, .int .i64 1, .int .i64 1, .slice none 0 0, .slice none 0 0] 29)).p1
  have HK5 := hid (HK5.out.alloc (.cells #[.int .i64 0, .int .i64 3, .int .i64 1, .int .i64 1, .slice none 0 0, .slice none 0 0] 29))
  generalize w5.alloc (.cells #[.int .i64 0, .int .i64 3, .int .i64 1, .int .i64 1, .slice none 0 0, .slice none 0 0] 29) = v5 at *
  generalize w5.heap.size = g5 at *
  go_wp2_with fail
  refine (akStatB q mx v5 _ ((((HM.out.cons _).cons _).cons _).cons _) HP5.out).mono ?_
  rintro e w6 ⟨rfl, hO6, hK6⟩
  have HO6 := hid hO6
  have HK6 := hid ((HK5.out).trans hK6)
  clear hO6 hK6
  try dsimp only
  unfold ansV ansC
  try unfold ansE
  go_upto_region 9 with fail
  have HP6 := hid (HO6.out.alloc (.cells #[.int .i64 5, .int .i64 0, .int .i64 0, .int .i64 0, .slice none 0 0, .slice none 0 0] 29)).p1
  have HK6 := hid (HK6.out.alloc (.cells #[.int .i64 5, .int .i64 0, .int .i64 0, .int .i64 0, .slice none 0 0, .slice none 0 0] 29))
  generalize w6.alloc (.cells #[.int .i64 5, .int .i64 0, .int .i64 0, .int .i64 0, .slice none 0 0, .slice none 0 0] 29) = v6 at *
  generalize w6.heap.size = g6 at *
  go_wp2_with fail
  refine (akNeed q v6 _ HP6.out).mono ?_
  rintro e w7 ⟨rfl, hO7, hK7⟩
  have HO7 := hid hO7
  have HK7 := hid ((HK6.out).trans hK7)
  clear hO7 hK7
  try dsimp only
  have HS := hid (HO7.out.re 6 [1, 2, 3, 4, 5, 0])
  have c6 : w7.cell? ⟨g6, 0, none⟩ = some (.int .i64 5) := HS.out.cells 0
  have c50 : w7.cell? ⟨g5, 0, none⟩ = some (.int .i64 0) := HS.out.p1.cells 0
  have c51 : w7.cell? ⟨g5, 1, none⟩ = some (.int .i64 3) := HS.out.p1.cells 1
  have c52 : w7.cell? ⟨g5, 2, none⟩ = some (.int .i64 1) := HS.out.p1.cells 2
  have c53 : w7.cell? ⟨g5, 3, none⟩ = some (.int .i64 1) := HS.out.p1.cells 3
  have c4 : w7.cell? ⟨g4, 1, none⟩ = some (.int .i64 3) := HS.out.p2.cells 1
  have c3 : w7.cell? ⟨g3, 0, none⟩ = some (.int .i64 0) := HS.out.p3.cells 0
  have c2 : w7.cell? ⟨g2, 0, none⟩ = some (.int .i64 0) := HS.out.p4.cells 0
  go_wp2_with fail
  refine (akNodes q w7 _ HO7.out).mono ?_
  rintro e w8 ⟨p8, c8, rfl, hO8, hK8⟩
  have HO8 := hid hO8
  have HK8 := hid ((HK7.out).trans hK8)
  clear hO8 hK8
  try dsimp only
  go_wp2_with fail
  refine (akNumber q mx w8 _ (((((HM.out.cons _).cons _).cons _).cons _).cons _) HO8.out).mono ?_
  rintro e w9 ⟨rfl, hO9, hK9⟩
  have HO9 := hid hO9
  have HK9 := hid ((HK8.out).trans hK9)
  clear hO9 hK9
  try dsimp only
  go_wp2_with fail
  go_ret
  exact ⟨rfl, HO9.out.drop.drop.drop.drop.drop.drop, HK9.out⟩
end Go.Proofs.YtfhaedkaedffcaaGreatDoor
/- THE WALK of Low. -/
namespace Go.Proofs.YtfhaedkaedffcaaGreatDoor
open Go.RowKit Go.Own
theorem lowAny (x n : Int) (w : World) (hn : 1 ≤ n) (hn' : n ≤ 9223372036854775807) :
    Calls Tryz.prog 20 #[.int .i64 x, .int .i64 n] w fun e w' => e = .returned (.int .i64 (low x n)) ∧ w = w' := by
  go_enter Tryz.func20, Tryz.ntmps20
  go_wp2
  go_ret
  exact ⟨by rw [← low_eq x n hn hn']; rfl, rfl⟩
end Go.Proofs.YtfhaedkaedffcaaGreatDoor
/- THE WALK of TreeReads. -/
namespace Go.Proofs.YtfhaedkaedffcaaGreatDoor
open Go.RowKit Go.Own
theorem lowN (x n : Int) (m : Nat) (w : World) (hn : 1 ≤ n) (hn' : n ≤ 9223372036854775807) (hm : low x n = m) :
    Calls Tryz.prog 20 #[.int .i64 x, .int .i64 n] w fun e w' => e = .returned (.int .i64 (m : Int)) ∧ w = w' := by
  have h := lowAny x n w hn hn'
  rw [hm] at h
  exact h
theorem low_nat (x n : Int) (hn : 1 ≤ n) : ∃ m : Nat, low x n = m ∧ (m : Int) < n := by
  have h := low_in x n hn
  exact ⟨(low x n).toNat, by omega, by omega⟩
theorem rdStart {W w : World} {L : List HP} {v : Value} {size n : Nat} {xs : List Value} (hr : Rd W v size n xs) (h : Has w (old W :: L)) : Rd w v size n xs := hr.cellsOld h.old_look
theorem mxStart {W : World} {mx : Int} (h : W.cell? ⟨0, 0, none⟩ = some (.int .i64 mx)) : MxL mx [old W] := fun w' h' => (World.cell?_of_block (h'.old_look 0 (World.block_lt_of_cell? W _ h))).trans h
section
variable (q : Nat) (w : World) (L : List HP) {b : List Int} {wr : List Bool} (hd : b.length ≤ 10000) (hw : wr.length ≤ 162) (K : Nat) (hK : K ≤ b.length)
include hd hw hK
end
end Go.Proofs.YtfhaedkaedffcaaGreatDoor
/- tree.Do, Nodes, as the laws call them: any operation on a tree that is kept. -/
namespace Go.Proofs.YtfhaedkaedffcaaGreatDoor
open Go.RowKit Go.Own
abbrev opY (k fd n off fl : Int) (P Q : ByteArray) (dv : Value) : Value := .agg #[.int .i64 k, .int .i64 fd, .int .i64 n, .int .i64 off, .int .i64 fl, .string P, .string Q, dv]
/-- What every tree keeps, whatever its ranks. -/
def Gdx (S : Tre) (k : Nat) : Prop := ∃ rk, Gd S rk k
theorem gdx0 : Gdx tre0 0 := ⟨_, gd0⟩
theorem Gdx.doM {S : Tre} {k : Nat} (h : Gdx S k) (o : Opm) (ds : List Int) (hp : o.path.length ≤ 100000) : Gdx (S.doM o ds).2 (k + 1) := by
  obtain ⟨rk, h⟩ := h
  exact h.doM o ds hp
theorem sV_str {p : Str} {P : ByteArray} (h : sB p = P) : sV p = .string P := congrArg Value.string h
/-- An answer with its slices. -/
abbrev ansY (a : Ans) (p : Option Addr) (c : Nat) (p' : Option Addr) (c' : Nat) : Value := .agg #[.int .i64 a.code, .int .i64 a.n, .int .i64 a.kind, .int .i64 a.links, .slice p a.data.length c, .slice p' a.names.length c']
section
variable {S : Tre} {k : Nat} (q : Nat) (mx : Int) (w : World) (L : List HP)
theorem stepDo (h : Gdx S k) (hk : k < 100000) (hM : MxL mx L) (o : Opm) {P Q : ByteArray} (hP : sB o.path = P) (hQ : sB o.dest = Q) (ho : o.off ≤ 9223372036854775807) (hp : o.path.length ≤ 100000) (hq : o.dest.length ≤ 100000)
    (po : Option Addr) (co : Nat) (ds : List Int) (hds : ds.length ≤ 100000) (hrd : ∀ w', Has w' L → Rd w' (.slice po ds.length co) 1 ds.length (bc ds)) (a : Ans) (S' : Tre) (he : S.doM o ds = (a, S')) (hO : Has w (Trc q S :: L)) :
    Calls Tryz.prog 17 #[.pointer (some ⟨q, 0, none⟩), opY o.kind o.fd o.n o.off o.flags P Q (.slice po ds.length co)] w fun e w' => ∃ p c p' c', e = .returned (ansY a p c p' c') ∧ Gdx S' (k + 1) ∧ Has w' (Bytes (.slice p a.data.length c) a.data :: Strs (.slice p' a.names.length c') a.names :: Trc q S' :: L) ∧ Keep w w' := by
  have hg := h.doM o ds hp
  obtain ⟨rk, h⟩ := h
  have h1 := doAny q o po co ds mx w L h hk hM hp hq ho hds hrd hO
  rw [he] at h1 hg
  have e : opV o (.slice po ds.length co) = opY o.kind o.fd o.n o.off o.flags P Q (.slice po ds.length co) := by
    unfold opV opC
    rw [sV_str hP, sV_str hQ]
  rw [e] at h1
  refine h1.mono ?_
  rintro e w' ⟨dv, nv, rfl, h2, h3⟩
  obtain ⟨p, c, rfl, -⟩ := (Bytes.rd h2).form
  obtain ⟨p', c', rfl, -⟩ := (Strs.rd h2.p1).form
  exact ⟨p, c, p', c', rfl, hg, h2, h3⟩
theorem stepNodes (h : Gdx S k) (hk : k < 1000) (hfew : (filesP S).length ≤ 1000000) (hO : Has w (Trc q S :: L)) :
    Calls Tryz.prog 18 #[.pointer (some ⟨q, 0, none⟩)] w fun e w' => ∃ p c os, e = .returned (.slice p (filesP S).length c) ∧ os.length = (filesP S).length ∧ (os.map Sn.key).Perm ((seen S.nodes 22 1 []).map keyE) ∧ Srt os ∧ Has w' (Sns (.slice p os.length c) os :: Trc q S :: L) ∧ Keep w w' := by
  obtain ⟨rk, h⟩ := h
  obtain ⟨x1, hx1⟩ := h.x.has1
  refine (tNodes sortsNd q S x1 rk w L hx1 (fun n x hx => (h.nod hx).size.1) (fun n x hx => by have := h.x.rk20 n; omega) (fun n x hx e he => h.nm_rk n x hx e he) (by rw [files_seen, List.length_map]; exact hfew) hO).mono ?_
  rintro e w' ⟨v, os, rfl, hp, hs, h1, h2⟩
  have hl := h.files_len hp
  obtain ⟨p, c, rfl, -⟩ := (Has.rd (sns_iff.1 h1)).form
  exact ⟨p, c, os, by rw [hl], hl, hp, hs, h1, h2⟩
end
end Go.Proofs.YtfhaedkaedffcaaGreatDoor
/- TreeLoops, plain: links in a row, links in a ring. No program in sight. -/
namespace Go.Proofs.YtfhaedkaedffcaaGreatDoor
open Go.RowKit Go.Own
abbrev endS : Str := [101, 110, 100]
def chA (j : Nat) : Str := [UInt8.ofNat (97 + j)]
def chR (j : Nat) : Str := [114, UInt8.ofNat (97 + j)]
/-- The path of the link i of the row (0: of the end). -/
def pthL : Nat → Str
  | 0 => 47 :: endS
  | i + 1 => 47 :: chA i
def nmL : Nat → Str
  | 0 => endS
  | i + 1 => chA i
theorem pthL_nm (i : Nat) : pthL i = 47 :: nmL i := by cases i <;> rfl
theorem good_nmL : ∀ i : Fin 13, GoodN (nmL i.val) := by
  unfold GoodN NameOk
  decide +kernel
theorem good_chA : ∀ i : Fin 16, GoodN (chA i.val) := by
  unfold GoodN NameOk
  decide +kernel
theorem str_bytes (s : Str) : strOf (bytesOf s) = s := by
  unfold strOf bytesOf
  rw [List.map_map]
  conv => rhs; rw [← List.map_id s]
  refine List.map_congr_left fun b _ => ?_
  show UInt8.ofNat ((b.toNat : Int).toNat) = id b
  simp
theorem tgt_row : ∀ i : Fin 13, targetM (pthL i.val) = ([nmL i.val], true, 0) := by decide +kernel
/-- The names of the row, and of the ring. -/
def rowN (many : Nat) : List (Str × Int) := (endS, 2) :: (List.range many).map fun j => (chA j, (3 + j : Int))
def ringN (many i : Nat) : List (Str × Int) := rowN many ++ (List.range i).map fun j => (chR j, (3 + many + j : Int))
theorem rowN_snoc (m : Nat) : rowN (m + 1) = rowN m ++ [(chA m, (3 + m : Int))] := by
  unfold rowN
  rw [List.range_succ, List.map_append]
  rfl
theorem ringN_zero (m : Nat) : ringN m 0 = rowN m := by simp [ringN]
theorem chA_new : ∀ (m : Fin 13), chA m.val ∉ (rowN m.val).map Prod.fst := by decide +kernel
/-- The tree of a row of links, and of some of a ring. -/
structure Lp (S : Tre) (k many i ring : Nat) : Prop where
  gd : Gdx S k
  last : S.last = 2 + many + i
  names : (S.at_ 1).names = ringN many i
  two : (S.at_ 2).kind = 2
  row : ∀ j, j < many → (S.at_ (3 + j)).kind = 3 ∧ (S.at_ (3 + j)).data = bytesOf (pthL j)
  ring : ∀ j, j < i → (S.at_ (3 + many + j)).kind = 3 ∧ (S.at_ (3 + many + j)).data = bytesOf (chR ((j + 1) % ring))
theorem make_newF (S : Tre) (s : Spt) (c : Int) (hc : c ≠ 2) (ds : Str) (h : s.dir ≠ S.last + 1) : (S.make s c ds).at_ (S.last + 1) = ⟨c, if c = 3 then bytesOf ds else [], [], [], 0, 1, 0⟩ := by
  have e : fnd (S.make s c ds).nodes (S.last + 1) = some ⟨c, if c = 3 then bytesOf ds else [], [], [], 0, 1, 0⟩ := by
    unfold Tre.make Tre.add Tre.setN
    refine fnd_putA.trans ((if_pos rfl).trans ?_)
    have : (Tre.at_ ⟨putA S.nodes (S.last + 1) ⟨c, if c = 3 then bytesOf ds else [], [], [], 0, 0, 0⟩, S.last + 1, S.tab⟩ (S.last + 1)) = ⟨c, if c = 3 then bytesOf ds else [], [], [], 0, 0, 0⟩ := by
      unfold Tre.at_
      dsimp only
      rw [fnd_putA, if_pos rfl]
      rfl
    have h2 : (Tre.at_ { ({ S with last := S.last + 1, nodes := putA S.nodes (S.last + 1) ⟨c, if c = 3 then bytesOf ds else [], [], [], 0, 0, 0⟩ } : Tre) with nodes := putA S.nodes (S.last + 1) ⟨c, if c = 3 then bytesOf ds else [], [], [], 0, 0, 0⟩ } (S.last + 1)) = ⟨c, if c = 3 then bytesOf ds else [], [], [], 0, 0, 0⟩ := this
    show some (Tre.nodAdd (Tre.at_ _ (S.last + 1)) s.dir) = _
    rw [this]
    unfold Tre.nodAdd
    rw [if_neg hc]
    rfl
  exact at_of e
theorem at_other {S S' : Tre} {n : Int} (h : fnd S'.nodes n = fnd S.nodes n) : S'.at_ n = S.at_ n := by unfold Tre.at_; rw [h]
theorem Gdx.symlink_one {S : Tre} {k : Nat} (h : Gdx S k) {nm tg : Str} (hn : GoodN nm) (ht : (targetM tg).2.2 = 0) (hno : nm ∉ (S.at_ 1).names.map Prod.fst) : S.symlink tg (47 :: nm) = (ansE 0, S.make ⟨0, 1, nm⟩ 3 tg) := by
  obtain ⟨rk, h⟩ := h
  have hf := h.fresh_one hn
  rw [fnd_none.2 hno] at hf
  simp only [Option.getD_none, ne_eq, not_true_eq_false, if_false] at hf
  unfold Tre.symlink
  rw [hf, if_neg (by rw [ht]; simp), if_neg (by simp)]
theorem make_root {S : Tre} {k : Nat} (h : Gdx S k) {nm : Str} (c : Int) (ds : Str) (hno : nm ∉ (S.at_ 1).names.map Prod.fst) : ((S.make ⟨0, 1, nm⟩ c ds).at_ 1).names = (S.at_ 1).names ++ [(nm, S.last + 1)] ∧ (∀ n, n ≠ 1 → n ≠ S.last + 1 → (S.make ⟨0, 1, nm⟩ c ds).at_ n = S.at_ n) ∧ (S.make ⟨0, 1, nm⟩ c ds).last = S.last + 1 := by
  obtain ⟨rk, h⟩ := h
  have hl := h.last1
  refine ⟨?_, fun n h1 h2 => at_other (make_other S ⟨0, 1, nm⟩ c ds n h1 h2), rfl⟩
  rw [at_of (make_dir S ⟨0, 1, nm⟩ c ds (by dsimp only; omega))]
  show putA _ _ _ = _
  rw [putA_new _ hno]
theorem Lp.link {S : Tre} {k m : Nat} (h : Lp S k m 0 1) (hm : m < 12) : S.symlink (pthL m) (47 :: chA m) = (ansE 0, (S.symlink (pthL m) (47 :: chA m)).2) ∧ Lp (S.symlink (pthL m) (47 :: chA m)).2 (k + 1) (m + 1) 0 1 := by
  have hno : chA m ∉ (S.at_ 1).names.map Prod.fst := by
    rw [h.names, ringN_zero]
    exact chA_new ⟨m, by omega⟩
  have ht := tgt_row ⟨m, by omega⟩
  have e : S.symlink (pthL m) (47 :: chA m) = (ansE 0, S.make ⟨0, 1, chA m⟩ 3 (pthL m)) := h.gd.symlink_one (good_chA ⟨m, by omega⟩) (tg := pthL m) (by dsimp only at ht; rw [ht]) hno
  have hg := h.gd.doM ⟨13, 0, 0, 0, 0, pthL m, 47 :: chA m⟩ [] (by rw [pthL_nm]; have := (good_nmL ⟨m, by omega⟩).1.2.1; dsimp only at this ⊢; simp only [List.length_cons]; omega)
  have e1 : S.doM ⟨13, 0, 0, 0, 0, pthL m, 47 :: chA m⟩ [] = S.symlink (pthL m) (47 :: chA m) := rfl
  rw [e1] at hg
  have hl := h.last
  obtain ⟨n1, n2, n3⟩ := make_root h.gd 3 (pthL m) hno
  have n4 := make_newF S ⟨0, 1, chA m⟩ 3 (by decide) (pthL m) (by dsimp only; omega)
  rw [e] at hg ⊢
  dsimp only at hg ⊢
  refine ⟨rfl, hg, ?_, ?_, ?_, ?_, fun j hj => absurd hj (Nat.not_lt_zero _)⟩
  · rw [n3, hl]; push_cast; omega
  · rw [n1, h.names, ringN_zero, ringN_zero, rowN_snoc, hl]
    congr 3
    push_cast; omega
  · rw [n2 2 (by decide) (by omega)]; exact h.two
  · intro j hj
    by_cases hjm : j = m
    · subst hjm
      have e5 : (3 + (j : Int)) = S.last + 1 := by rw [hl]; push_cast; omega
      rw [e5, n4]
      exact ⟨rfl, rfl⟩
    · rw [n2 (3 + j) (by omega) (by omega)]
      exact h.row j (by omega)
section
variable {S : Tre} {k m i ring : Nat} (h : Lp S k m i ring) (hm : m < 13) (hi : i < 5)
include h hm hi
omit hm hi in
theorem Lp.root : (S.at_ 1).kind = 2 := by
  obtain ⟨rk, hg⟩ := h.gd
  exact hg.root2
end
section
variable {S : Tre} {k m i ring : Nat} (h : Lp S k m i ring) (hm : m < 13) (hi : i < 5)
include h hm hi
end
section
variable {S : Tre} {k m i ring : Nat} (h : Lp S k m i ring) (hm : m < 13) (hi : i < 5)
include h hm hi
end
end Go.Proofs.YtfhaedkaedffcaaGreatDoor
