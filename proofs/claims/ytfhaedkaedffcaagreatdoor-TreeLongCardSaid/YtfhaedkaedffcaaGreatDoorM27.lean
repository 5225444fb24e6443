/- TEXTS of mine, merged. -/
import Derived.Test.YtfhaedkaedffcaaGreatDoorM26
import Derived.Test.YtfhaedkaedffcaaGreatDoorM25
import Derived.Test.YtfhaedkaedffcaaGreatDoorM16
import Derived.Test.YtfhaedkaedffcaaGreatDoorM17
import Derived.Test.YtfhaedkaedffcaaGreatDoorM10
import Derived.Test.YtfhaedkaedffcaaGreatDoorM11
import Derived.Test.YtfhaedkaedffcaaGreatDoorM18
/- The trees of chapter 14's 'awake'. No program in sight. -/
namespace Go.Proofs.YtfhaedkaedffcaaGreatDoor
open Go.RowKit Go.Own
abbrev nA : Str := [97]
abbrev pA : Str := [47, 97]
abbrev pAF : Str := [47, 97, 47, 102]
abbrev pB : Str := [47, 98]
def tabA (s : Tb.Slot) : List Tb.Slot := s :: List.replicate 15 Tb.none4
def treE1 : Tre := ⟨[(1, ⟨2, [], [], [(nA, 2)], 1, 1, 0⟩), (2, ⟨2, [], [], [], 0, 1, 1⟩)], 2, List.replicate 16 Tb.none4⟩
def treE2 : Tre := ⟨[(1, ⟨2, [], [], [(nA, 2)], 1, 1, 0⟩), (2, ⟨2, [], [], [(nF, 3)], 1, 1, 1⟩), (3, ⟨1, [], [], [], 0, 1, 0⟩)], 3, tabA ⟨3, 0, 33, true⟩⟩
def treE3 : Tre := ⟨[(1, ⟨2, [], [], [(nA, 2)], 1, 1, 0⟩), (2, ⟨2, [], [], [(nF, 3)], 1, 1, 1⟩), (3, ⟨1, [120, 121, 122], [true], [], 0, 1, 0⟩)], 3, tabA ⟨3, 3, 33, true⟩⟩
def rkA (n : Int) : Nat := if n = 3 then 2 else if n = 2 then 1 else 0
theorem rkA_low (n : Int) : rkA n ≤ 20 := by unfold rkA; split <;> (try split) <;> omega
theorem splitM_A : splitM pA = ([nA], 0) := by decide +kernel
theorem splitM_AF : splitM pAF = ([nA, nF], 0) := by decide +kernel
theorem splitM_B : splitM pB = ([[98]], 0) := by decide +kernel
theorem lastM_A : lastM pA = ([47], nA, 0) := by decide +kernel
theorem lastM_AF : lastM pAF = (pA, nF, 0) := by decide +kernel
theorem wk_0 : wkB tre0 = true := by decide +kernel
theorem wk_A : wkB treE1 = true := by decide +kernel
theorem wk_B : wkB treE2 = true := by decide +kernel
theorem wk_C : wkB treE3 = true := by decide +kernel
theorem wy_0 : wyB tre0 rkA = true := by decide +kernel
theorem wy_A : wyB treE1 rkA = true := by decide +kernel
theorem opb_0 : opbB tre0 = true := by decide +kernel
theorem opb_A : opbB treE1 = true := by decide +kernel
theorem opn_B : opnB treE2 = true := by decide +kernel
theorem place_A : tre0.place pA = (⟨0, 1, nA⟩, 0) := by
  unfold Tre.place
  rw [lastM_A, if_neg (by simp), find_root, if_neg (by simp), if_neg (by decide +kernel), if_neg (by decide +kernel)]
  rfl
theorem mkdir_A : tre0.mkdir pA = (ansE 0, treE1) := by
  unfold Tre.mkdir Tre.fresh
  rw [place_A]
  rfl
theorem find_A (S : Tre) (fo : Bool) (h1 : (S.at_ 1).kind = 2) (h2 : fnd (S.at_ 1).names nA = some 2) (h3 : (S.at_ 2).kind = 2) : S.find pA fo = (⟨2, 1, nA⟩, 0) := by
  unfold Tre.find
  rw [splitM_A, if_neg (by simp)]
  show S.walk ⟨1, 0, []⟩ 0 [nA] fo = _
  rw [Tre.walk, if_neg (by rw [h1]; decide), if_neg (by decide)]
  dsimp only
  rw [h2]
  dsimp only
  rw [if_neg (by rw [h3]; simp), Tre.walk]
theorem find_AF (S : Tre) (fo : Bool) (h1 : (S.at_ 1).kind = 2) (h2 : fnd (S.at_ 1).names nA = some 2) (h3 : (S.at_ 2).kind = 2) (h4 : fnd (S.at_ 2).names nF = some 3) (h5 : (S.at_ 3).kind = 1) : S.find pAF fo = (⟨3, 2, nF⟩, 0) := by
  unfold Tre.find
  rw [splitM_AF, if_neg (by simp)]
  show S.walk ⟨1, 0, []⟩ 0 [nA, nF] fo = _
  rw [Tre.walk, if_neg (by rw [h1]; decide), if_neg (by decide)]
  dsimp only
  rw [h2]
  dsimp only
  rw [if_neg (by rw [h3]; simp), Tre.walk, if_neg (by rw [h3]; decide), if_neg (by decide)]
  dsimp only
  rw [h4]
  dsimp only
  rw [if_neg (by rw [h5]; simp), Tre.walk]
theorem find_B (S : Tre) (fo : Bool) (h1 : (S.at_ 1).kind = 2) (h2 : fnd (S.at_ 1).names [98] = none) : S.find pB fo = (spt0, 5) := by
  unfold Tre.find
  rw [splitM_B, if_neg (by simp)]
  show S.walk ⟨1, 0, []⟩ 0 [[98]] fo = _
  rw [Tre.walk, if_neg (by rw [h1]; decide), if_neg (by decide)]
  dsimp only
  rw [h2]
theorem place_AF : treE1.place pAF = (⟨0, 2, nF⟩, 0) := by
  unfold Tre.place
  rw [lastM_AF, if_neg (by simp)]
  dsimp only
  rw [find_A treE1 true rfl rfl rfl, if_neg (by simp), if_neg (by decide +kernel), if_neg (by decide +kernel)]
  rfl
theorem open_AF : treE1.openFd pAF 33 = (⟨0, 0, 0, 0, [], []⟩, treE2) := by
  unfold Tre.openFd
  rw [if_neg (by decide +kernel), if_pos (by decide +kernel), place_AF, if_neg (by simp), if_neg (by simp), if_neg (by decide)]
  unfold Tre.openAt
  rw [if_neg (by simp), if_neg (by decide +kernel)]
  rfl
theorem write_AF : treE2.write 4 0 0 [120, 121, 122] = (⟨0, 3, 0, 0, [], []⟩, treE3) := by
  unfold Tre.write
  rfl
theorem stat_AF : treE3.stat pAF true = ⟨0, 3, 1, 1, [], []⟩ := by
  unfold Tre.stat
  rw [find_AF treE3 true rfl rfl rfl rfl rfl]
  rfl
theorem stat_B : treE3.stat pB true = ansE 5 := by
  unfold Tre.stat
  rw [find_B treE3 true rfl rfl]
  rfl
theorem number_A : (treE3.find pA false).1.node = 2 := by rw [find_A treE3 false rfl rfl rfl]
theorem need_C : needSum treE3.nodes = 3 := by decide +kernel
theorem seen_C : (seen treE3.nodes 22 1 []).length = 3 := by decide +kernel
theorem low_C : ∀ n x, fnd treE3.nodes n = some x → rkA n ≤ 21 := fun n _ _ => by have := rkA_low n; omega
theorem rk_C : ∀ n x, fnd treE3.nodes n = some x → ∀ e ∈ x.names, rkA n < rkA e.2 ∧ e.1.length ≤ 24 ∧ ∃ y, fnd treE3.nodes e.2 = some y := by
  have h : (treE3.nodes.all fun p => p.2.names.all fun e => decide (rkA p.1 < rkA e.2) && decide (e.1.length ≤ 24) && (fnd treE3.nodes e.2).isSome) = true := by decide +kernel
  intro n x hx e he
  have h1 := (List.all_eq_true.1 ((List.all_eq_true.1 h) _ (fnd_some hx))) e he
  simp only [Bool.and_eq_true, decide_eq_true_eq] at h1
  exact ⟨h1.1.1, h1.1.2, Option.isSome_iff_exists.1 h1.2⟩
theorem need_small : ∀ n x, fnd treE3.nodes n = some x → 0 ≤ x.most ∧ x.most ≤ 1000000 ∧ x.wr.length ≤ 6 := by
  have h : (treE3.nodes.all fun p => decide (0 ≤ p.2.most) && decide (p.2.most ≤ 1000000) && decide (p.2.wr.length ≤ 6)) = true := by decide +kernel
  intro n x hx
  have h1 := (List.all_eq_true.1 h) _ (fnd_some hx)
  simp only [Bool.and_eq_true, decide_eq_true_eq] at h1
  exact ⟨h1.1.1, h1.1.2, h1.2⟩
end Go.Proofs.YtfhaedkaedffcaaGreatDoor
/- Plain facts: one file f, and what is done to it by what is open. No program in sight. -/
namespace Go.Proofs.YtfhaedkaedffcaaGreatDoor
open Go.RowKit Go.Own
def tabB (s t : Tb.Slot) : List Tb.Slot := s :: t :: List.replicate 14 Tb.none4
section
variable {d : List Int} {wr : List Bool} {T : List Tb.Slot} {fd : Int} {s : Tb.Slot}
def cutD (d : List Int) (size : Nat) : List Int := if size ≤ d.length then d.take size else d ++ List.replicate (size - d.length) 0
def cutW (d : List Int) (wr : List Bool) (size : Nat) : List Bool := if size ≤ d.length then wr.take (needM size) else wr
def wrD (d : List Int) (o : Nat) (ds : List Int) : List Int := (cutD d (max d.length (o + ds.length))).take o ++ ds ++ (cutD d (max d.length (o + ds.length))).drop (o + ds.length)
def wrW (d : List Int) (wr : List Bool) (o : Nat) (ds : List Int) : List Bool := wrSet (cutW d wr (max d.length (o + ds.length)) ++ List.replicate (needM (o + ds.length) - (cutW d wr (max d.length (o + ds.length))).length) false) (o / 128) (needM (o + ds.length))
/-- Where a write stands. -/
def wrO (d : List Int) (s : Tb.Slot) : Int := if andI s.flags 8 ≠ 0 then (d.length : Int) else s.off
end
end Go.Proofs.YtfhaedkaedffcaaGreatDoor
/- An operation as the laws write it. -/
namespace Go.Proofs.YtfhaedkaedffcaaGreatDoor
open Go.RowKit Go.Own
abbrev opW (k fd n off fl : Int) (p : Str) (dv : Value) : Value := .agg #[.int .i64 k, .int .i64 fd, .int .i64 n, .int .i64 off, .int .i64 fl, .string ⟨p.toArray⟩, .string ⟨#[]⟩, dv]
section
variable (a b c d : Int) (x y : Value) (w : World)
/-- The fields of an answer. -/
theorem ansF0 : (Instr.field 29 (.agg #[.int .i64 a, .int .i64 b, .int .i64 c, .int .i64 d, x, y]) 0).run Tryz.prog w = .ok (.int .i64 a) w := by kernel_rfl
theorem ansF1 : (Instr.field 29 (.agg #[.int .i64 a, .int .i64 b, .int .i64 c, .int .i64 d, x, y]) 1).run Tryz.prog w = .ok (.int .i64 b) w := by kernel_rfl
end
end Go.Proofs.YtfhaedkaedffcaaGreatDoor
/- THE WALK of tree.Do, by the kinds of operations. -/
namespace Go.Proofs.YtfhaedkaedffcaaGreatDoor
open Go.RowKit Go.Own
set_option maxRecDepth 100000 in
set_option maxHeartbeats 8000000 in
theorem doOpen (q : Nat) (S : Tre) (fd n off flags : Int) (path dest : Str) (ov : Value) (w : World) (L : List HP) (rk : Int → Nat) (mx : Int) (hW : Wk S) (hY : Wy S rk) (hB : Opb S) (hM : MxL mx L) (hp : path.length ≤ 100000) (hno4 : andI flags 4 = 0) (hO : Has w (Trc q S :: L)) :
    Calls Tryz.prog 17 #[.pointer (some ⟨q, 0, none⟩), opV ⟨1, fd, n, off, flags, path, dest⟩ (ov)] w fun e w' => e = .returned (ansV (S.openFd path flags).1 nilV nilV) ∧ Has w' (Trc q (S.openFd path flags).2 :: L) ∧ Keep w w' := by
  have HX0 := (fun (w : World) (L' : List HP) (hM : MxL mx L') (hO : Has w (Trc q S :: L')) => tOpen q S rk ⟨1, fd, n, off, flags, path, dest⟩ ov mx w L' hW hY hB hM hp hno4 hO)
  dsimp only at HX0
  have HX := hid HX0
  clear HX0
  have HM := hid hM
  clear hM
  generalize S.openFd path flags = R at *
  have HO := hid hO
  clear hO
  unfold opV opC at HX ⊢
  go_enter Tryz.func17, Tryz.ntmps17
  go_upto_region 1 with fail
  have h1 := (HO.out.alloc (.cells #[.int .i64 1, .int .i64 fd, .int .i64 n, .int .i64 off, .int .i64 flags, sV path, sV dest, ov] 32)).alloc (.cells (ansC (ansE 0) nilV nilV) 29)
  have HK1 := hid (((Keep.refl w).alloc (.cells #[.int .i64 1, .int .i64 fd, .int .i64 n, .int .i64 off, .int .i64 flags, sV path, sV dest, ov] 32)).alloc (.cells (ansC (ansE 0) nilV nilV) 29))
  unfold ansC ansE at h1 HK1
  have e1 : (w.alloc (.cells #[.int .i64 1, .int .i64 fd, .int .i64 n, .int .i64 off, .int .i64 flags, sV path, sV dest, ov] 32)).heap.size = w.heap.size + 1 := by show (Array.push _ _).size = _; rw [Array.size_push]
  rw [e1] at h1
  have HO1 := hid h1
  clear h1 e1 HO
  generalize (w.alloc (.cells #[.int .i64 1, .int .i64 fd, .int .i64 n, .int .i64 off, .int .i64 flags, sV path, sV dest, ov] 32)).alloc (.cells #[.int .i64 0, .int .i64 0, .int .i64 0, .int .i64 0, nilV, nilV] 29) = w1 at *
  generalize w.heap.size = g3 at *
  generalize g3 + 1 = g4 at *
  have hp0 : w1.cell? ⟨g3, 0, none⟩ = some (.int .i64 1) := HO1.out.p1.cells 0
  have hp1 : w1.cell? ⟨g3, 1, none⟩ = some (.int .i64 fd) := HO1.out.p1.cells 1
  have hp2 : w1.cell? ⟨g3, 2, none⟩ = some (.int .i64 n) := HO1.out.p1.cells 2
  have hp3 : w1.cell? ⟨g3, 3, none⟩ = some (.int .i64 off) := HO1.out.p1.cells 3
  have hp4 : w1.cell? ⟨g3, 4, none⟩ = some (.int .i64 flags) := HO1.out.p1.cells 4
  have hp5 : w1.cell? ⟨g3, 5, none⟩ = some (sV path) := HO1.out.p1.cells 5
  have hp6 : w1.cell? ⟨g3, 6, none⟩ = some (sV dest) := HO1.out.p1.cells 6
  have hp7 : w1.cell? ⟨g3, 7, none⟩ = some (ov) := HO1.out.p1.cells 7
  go_wp2_with fail
  refine (HX.out w1 _ ((HM.out.cons (pt g3 (.cells #[.int .i64 1, .int .i64 fd, .int .i64 n, .int .i64 off, .int .i64 flags, sV path, sV dest, ov] 32))).cons (pt g4 (.cells #[.int .i64 0, .int .i64 0, .int .i64 0, .int .i64 0, nilV, nilV] 29))) (HO1.out.re 3 [2, 0, 1])).mono ?_
  rintro e w2 ⟨rfl, hO2, hK2⟩
  have HO2 := hid hO2
  have HK2 := hid ((HK1.out).trans hK2)
  clear hO2 hK2
  try dsimp only
  have HO3 := hid (show Has w2 (pt g4 (.cells (ansC (ansE 0) nilV nilV) 29) :: Trc q R.2 :: L) from HO2.out.re 3 [1, 0])
  have hz0 : w2.cell? ⟨g4, 0, none⟩ = some (.int .i64 0) := (HO3.out).cells 0
  have hz1 : w2.cell? ⟨g4, 1, none⟩ = some (.int .i64 0) := (HO3.out).cells 1
  have hz2 : w2.cell? ⟨g4, 2, none⟩ = some (.int .i64 0) := (HO3.out).cells 2
  have hz3 : w2.cell? ⟨g4, 3, none⟩ = some (.int .i64 0) := (HO3.out).cells 3
  have hz4 : w2.cell? ⟨g4, 4, none⟩ = some (.slice none 0 0) := (HO3.out).cells 4
  have hz5 : w2.cell? ⟨g4, 5, none⟩ = some (.slice none 0 0) := (HO3.out).cells 5
  have hy0 := (HO3.out).thaw 0
  have hy1 := (HO3.out).thaw 1
  have hy2 := (HO3.out).thaw 2
  have hy3 := (HO3.out).thaw 3
  have hy4 := (HO3.out).thaw 4
  have hy5 := (HO3.out).thaw 5
  unfold ansV ansC
  go_wp2_with fail
  have h1 := HO3.out.ans R.1 nilV nilV
  refine bodyPost_ret (ans_result rfl rfl h1) rfl ?_
  exact ⟨rfl, h1.drop, HK2.out.ans _ _ _ _ _ _ _⟩
end Go.Proofs.YtfhaedkaedffcaaGreatDoor
/- tree.Do on a tree of one file f: each operation as the laws call it. -/
namespace Go.Proofs.YtfhaedkaedffcaaGreatDoor
open Go.RowKit Go.Own
section
variable (q : Nat) (mx : Int) (w : World) (L : List HP)
variable {d : List Int} {wr : List Bool} {T : List Tb.Slot} {fd : Int} {s : Tb.Slot} (hd : d.length ≤ 100000) (hw : wr.length ≤ 162)
include hd hw
variable (hT : TabF T) (hl : Tb.look T fd = some s)
include hT hl
variable (hf : andI s.flags 32 ≠ 0)
include hf
variable (po : Option Addr) (co : Nat) {ds : List Int} (hds : ds.length ≤ 10000)
include hds
/-- A write anywhere. -/
def pwD (d : List Int) (o : Nat) (ds : List Int) : List Int := if ds = [] then d else wrD d o ds
end
end Go.Proofs.YtfhaedkaedffcaaGreatDoor
/- TreeNames, plain: one file of one name, of two, of none. No program in sight. -/
namespace Go.Proofs.YtfhaedkaedffcaaGreatDoor
open Go.RowKit Go.Own
/-- A tree of a root whose names are all files'. -/
structure FlatS (S : Tre) (t : List (Str × Int)) : Prop where
  kind : (S.at_ 1).kind = 2
  above : (S.at_ 1).above = 0
  names : (S.at_ 1).names = t
  kids : ∀ nm c, fnd t nm = some c → (S.at_ c).kind = 1
abbrev upS : Str := [46, 46]
section
variable {S : Tre} {t : List (Str × Int)} (h : FlatS S t)
include h
end
/-- A path that leads to a name in the root. -/
structure Rt (p nm : Str) : Prop where
  name : NameOk nm
  split : ∃ j, splitM p = (List.replicate j upS ++ [nm], 0) ∧ lastM p = (joinM (List.replicate j upS), nm, 0) ∧ splitM (joinM (List.replicate j upS)) = (List.replicate j upS, 0)
section
variable {S : Tre} {t : List (Str × Int)} (h : FlatS S t) {p nm : Str}
include h
end
/-- A root of some names of one file. -/
def trX (t : List (Str × Int)) (most links : Int) (d : List Int) (wr : List Bool) (T : List Tb.Slot) : Tre := ⟨[(1, ⟨2, [], [], t, most, 1, 0⟩), (2, ⟨1, d, wr, [], 0, links, 0⟩)], 2, T⟩
abbrev sl0 (n : Int) : Tb.Slot := ⟨2, n, 35, true⟩
section
variable {nm nm' p p' : Str} {d : List Int} {wr : List Bool}
theorem fnd1 {κ α : Type} [DecidableEq κ] (a : κ) (c : α) : fnd [(a, c)] a = some c := by rw [fnd_cons, if_pos rfl]
end
end Go.Proofs.YtfhaedkaedffcaaGreatDoor
