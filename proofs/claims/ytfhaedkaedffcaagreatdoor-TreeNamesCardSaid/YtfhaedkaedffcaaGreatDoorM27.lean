/- TEXTS of mine, merged. -/
import Derived.Test.YtfhaedkaedffcaaGreatDoorM26
import Derived.Test.YtfhaedkaedffcaaGreatDoorM25
import Derived.Test.YtfhaedkaedffcaaGreatDoorM16
import Derived.Test.YtfhaedkaedffcaaGreatDoorM17
import Derived.Test.YtfhaedkaedffcaaGreatDoorM10
import Derived.Test.YtfhaedkaedffcaaGreatDoorM11
import Derived.Test.YtfhaedkaedffcaaGreatDoorM18
/- The trees of chapter 14's 'awake'. No program in sight. -/
namespace Go.Proofs.YtfhaedkaedffcaaGreatDoor
open Go.RowKit Go.Own
abbrev nA : Str := [97]
abbrev pA : Str := [47, 97]
abbrev pAF : Str := [47, 97, 47, 102]
abbrev pB : Str := [47, 98]
def tabA (s : Tb.Slot) : List Tb.Slot := s :: List.replicate 15 Tb.none4
def treE1 : Tre := ⟨[(1, ⟨2, [], [], [(nA, 2)], 1, 1, 0⟩), (2, ⟨2, [], [], [], 0, 1, 1⟩)], 2, List.replicate 16 Tb.none4⟩
def treE2 : Tre := ⟨[(1, ⟨2, [], [], [(nA, 2)], 1, 1, 0⟩), (2, ⟨2, [], [], [(nF, 3)], 1, 1, 1⟩), (3, ⟨1, [], [], [], 0, 1, 0⟩)], 3, tabA ⟨3, 0, 33, true⟩⟩
def treE3 : Tre := ⟨[(1, ⟨2, [], [], [(nA, 2)], 1, 1, 0⟩), (2, ⟨2, [], [], [(nF, 3)], 1, 1, 1⟩), (3, ⟨1, [120, 121, 122], [true], [], 0, 1, 0⟩)], 3, tabA ⟨3, 3, 33, true⟩⟩
def rkA (n : Int) : Nat := if n = 3 then 2 else if n = 2 then 1 else 0
theorem rkA_low (n : Int) : rkA n ≤ 20 := by unfold rkA; split <;> (try split) <;> omega
theorem splitM_A : splitM pA = ([nA], 0) := by decide +kernel
theorem splitM_AF : splitM pAF = ([nA, nF], 0) := by decide +kernel
theorem splitM_B : splitM pB = ([[98]], 0) := by decide +kernel
theorem lastM_A : lastM pA = ([47], nA, 0) := by decide +kernel
theorem lastM_AF : lastM pAF = (pA, nF, 0) := by decide +kernel
theorem wk_0 : wkB tre0 = true := by decide +kernel
theorem wk_A : wkB treE1 = true := by decide +kernel
theorem wk_B : wkB treE2 = true := by decide +kernel
theorem wk_C : wkB treE3 = true := by decide +kernel
theorem wy_0 : wyB tre0 rkA = true := by decide +kernel
theorem wy_A : wyB treE1 rkA = true := by decide +kernel
theorem opb_0 : opbB tre0 = true := by decide +kernel
theorem opb_A : opbB treE1 = true := by decide +kernel
theorem opn_B : opnB treE2 = true := by decide +kernel
theorem place_A : tre0.place pA = (⟨0, 1, nA⟩, 0) := by
  unfold Tre.place
  rw [lastM_A, if_neg (by simp), find_root, if_neg (by simp), if_neg (by decide +kernel), if_neg (by decide +kernel)]
  rfl
theorem mkdir_A : tre0.mkdir pA = (ansE 0, treE1) := by
  unfold Tre.mkdir Tre.fresh
  rw [place_A]
  rfl
theorem find_A (S : Tre) (fo : Bool) (h1 : (S.at_ 1).kind = 2) (h2 : fnd (S.at_ 1).names nA = some 2) (h3 : (S.at_ 2).kind = 2) : S.find pA fo = (⟨2, 1, nA⟩, 0) := by
  unfold Tre.find
  rw [splitM_A, if_neg (by simp)]
  show S.walk ⟨1, 0, []⟩ 0 [nA] fo = _
  rw [Tre.walk, if_neg (by rw [h1]; decide), if_neg (by decide)]
  dsimp only
  rw [h2]
  dsimp only
  rw [if_neg (by rw [h3]; simp), Tre.walk]
theorem find_AF (S : Tre) (fo : Bool) (h1 : (S.at_ 1).kind = 2) (h2 : fnd (S.at_ 1).names nA = some 2) (h3 : (S.at_ 2).kind = 2) (h4 : fnd (S.at_ 2).names nF = some 3) (h5 : (S.at_ 3).kind = 1) : S.find pAF fo = (⟨3, 2, nF⟩, 0) := by
  unfold Tre.find
  rw [splitM_AF, if_neg (by simp)]
  show S.walk ⟨1, 0, []⟩ 0 [nA, nF] fo = _
  rw [Tre.walk, if_neg (by rw [h1]; decide), if_neg (by decide)]
  dsimp only
  rw [h2]
  dsimp only
  rw [if_neg (by rw [h3]; simp), Tre.walk, if_neg (by rw [h3]; decide), if_neg (by decide)]
  dsimp only
  rw [h4]
  dsimp only
  rw [if_neg (by rw [h5]; simp), Tre.walk]
theorem find_B (S : Tre) (fo : Bool) (h1 : (S.at_ 1).kind = 2) (h2 : fnd (S.at_ 1).names [98] = none) : S.find pB fo = (spt0, 5) := by
  unfold Tre.find
  rw [splitM_B, if_neg (by simp)]
  show S.walk ⟨1, 0, []⟩ 0 [[98]] fo = _
  rw [Tre.walk, if_neg (by rw [h1]; decide), if_neg (by decide)]
  dsimp only
  rw [h2]
theorem place_AF : treE1.place pAF = (⟨0, 2, nF⟩, 0) := by
  unfold Tre.place
  rw [lastM_AF, if_neg (by simp)]
  dsimp only
  rw [find_A treE1 true rfl rfl rfl, if_neg (by simp), if_neg (by decide +kernel), if_neg (by decide +kernel)]
  rfl
theorem open_AF : treE1.openFd pAF 33 = (⟨0, 0, 0, 0, [], []⟩, treE2) := by
  unfold Tre.openFd
  rw [if_neg (by decide +kernel), if_pos (by decide +kernel), place_AF, if_neg (by simp), if_neg (by simp), if_neg (by decide)]
  unfold Tre.openAt
  rw [if_neg (by simp), if_neg (by decide +kernel)]
  rfl
theorem write_AF : treE2.write 4 0 0 [120, 121, 122] = (⟨0, 3, 0, 0, [], []⟩, treE3) := by
  unfold Tre.write
  rfl
theorem stat_AF : treE3.stat pAF true = ⟨0, 3, 1, 1, [], []⟩ := by
  unfold Tre.stat
  rw [find_AF treE3 true rfl rfl rfl rfl rfl]
  rfl
theorem stat_B : treE3.stat pB true = ansE 5 := by
  unfold Tre.stat
  rw [find_B treE3 true rfl rfl]
  rfl
theorem number_A : (treE3.find pA false).1.node = 2 := by rw [find_A treE3 false rfl rfl rfl]
theorem need_C : needSum treE3.nodes = 3 := by decide +kernel
theorem seen_C : (seen treE3.nodes 22 1 []).length = 3 := by decide +kernel
theorem low_C : ∀ n x, fnd treE3.nodes n = some x → rkA n ≤ 21 := fun n _ _ => by have := rkA_low n; omega
theorem rk_C : ∀ n x, fnd treE3.nodes n = some x → ∀ e ∈ x.names, rkA n < rkA e.2 ∧ e.1.length ≤ 24 ∧ ∃ y, fnd treE3.nodes e.2 = some y := by
  have h : (treE3.nodes.all fun p => p.2.names.all fun e => decide (rkA p.1 < rkA e.2) && decide (e.1.length ≤ 24) && (fnd treE3.nodes e.2).isSome) = true := by decide +kernel
  intro n x hx e he
  have h1 := (List.all_eq_true.1 ((List.all_eq_true.1 h) _ (fnd_some hx))) e he
  simp only [Bool.and_eq_true, decide_eq_true_eq] at h1
  exact ⟨h1.1.1, h1.1.2, Option.isSome_iff_exists.1 h1.2⟩
theorem need_small : ∀ n x, fnd treE3.nodes n = some x → 0 ≤ x.most ∧ x.most ≤ 1000000 ∧ x.wr.length ≤ 6 := by
  have h : (treE3.nodes.all fun p => decide (0 ≤ p.2.most) && decide (p.2.most ≤ 1000000) && decide (p.2.wr.length ≤ 6)) = true := by decide +kernel
  intro n x hx
  have h1 := (List.all_eq_true.1 h) _ (fnd_some hx)
  simp only [Bool.and_eq_true, decide_eq_true_eq] at h1
  exact ⟨h1.1.1, h1.1.2, h1.2⟩
end Go.Proofs.YtfhaedkaedffcaaGreatDoor
/- Plain facts: one file f, and what is done to it by what is open. No program in sight. -/
namespace Go.Proofs.YtfhaedkaedffcaaGreatDoor
open Go.RowKit Go.Own
def tabB (s t : Tb.Slot) : List Tb.Slot := s :: t :: List.replicate 14 Tb.none4
section
variable {d : List Int} {wr : List Bool} {T : List Tb.Slot} {fd : Int} {s : Tb.Slot}
theorem get_of (hl : Tb.look T fd = some s) : Tb.get T fd = (s, 0) := by unfold Tb.get; rw [hl]
theorem mov_of (hl : Tb.look T fd = some s) {off : Int} (h0 : 0 ≤ off) : (Tb.mov T fd off).2 = T.set fd.toNat { s with off := off } := by
  unfold Tb.mov
  rw [hl]
  dsimp only
  rw [if_neg (by omega)]
def cutD (d : List Int) (size : Nat) : List Int := if size ≤ d.length then d.take size else d ++ List.replicate (size - d.length) 0
def cutW (d : List Int) (wr : List Bool) (size : Nat) : List Bool := if size ≤ d.length then wr.take (needM size) else wr
def wrD (d : List Int) (o : Nat) (ds : List Int) : List Int := (cutD d (max d.length (o + ds.length))).take o ++ ds ++ (cutD d (max d.length (o + ds.length))).drop (o + ds.length)
def wrW (d : List Int) (wr : List Bool) (o : Nat) (ds : List Int) : List Bool := wrSet (cutW d wr (max d.length (o + ds.length)) ++ List.replicate (needM (o + ds.length) - (cutW d wr (max d.length (o + ds.length))).length) false) (o / 128) (needM (o + ds.length))
/-- Where a write stands. -/
def wrO (d : List Int) (s : Tb.Slot) : Int := if andI s.flags 8 ≠ 0 then (d.length : Int) else s.off
end
end Go.Proofs.YtfhaedkaedffcaaGreatDoor
/- An operation as the laws write it. -/
namespace Go.Proofs.YtfhaedkaedffcaaGreatDoor
open Go.RowKit Go.Own
abbrev opW (k fd n off fl : Int) (p : Str) (dv : Value) : Value := .agg #[.int .i64 k, .int .i64 fd, .int .i64 n, .int .i64 off, .int .i64 fl, .string ⟨p.toArray⟩, .string ⟨#[]⟩, dv]
section
variable (a b c d : Int) (x y : Value) (w : World)
/-- The fields of an answer. -/
theorem ansF0 : (Instr.field 29 (.agg #[.int .i64 a, .int .i64 b, .int .i64 c, .int .i64 d, x, y]) 0).run Tryz.prog w = .ok (.int .i64 a) w := by kernel_rfl
theorem ansF1 : (Instr.field 29 (.agg #[.int .i64 a, .int .i64 b, .int .i64 c, .int .i64 d, x, y]) 1).run Tryz.prog w = .ok (.int .i64 b) w := by kernel_rfl
end
end Go.Proofs.YtfhaedkaedffcaaGreatDoor
/- THE WALK of tree.Do, by the kinds of operations. -/
namespace Go.Proofs.YtfhaedkaedffcaaGreatDoor
open Go.RowKit Go.Own
set_option maxRecDepth 100000 in
set_option maxHeartbeats 8000000 in
theorem doOpen (q : Nat) (S : Tre) (fd n off flags : Int) (path dest : Str) (ov : Value) (w : World) (L : List HP) (rk : Int → Nat) (mx : Int) (hW : Wk S) (hY : Wy S rk) (hB : Opb S) (hM : MxL mx L) (hp : path.length ≤ 100000) (hno4 : andI flags 4 = 0) (hO : Has w (Trc q S :: L)) :
    Calls Tryz.prog 17 #[.pointer (some ⟨q, 0, none⟩), opV ⟨1, fd, n, off, flags, path, dest⟩ (ov)] w fun e w' => e = .returned (ansV (S.openFd path flags).1 nilV nilV) ∧ Has w' (Trc q (S.openFd path flags).2 :: L) ∧ Keep w w' := by
  have HX0 := (fun (w : World) (L' : List HP) (hM : MxL mx L') (hO : Has w (Trc q S :: L')) => tOpen q S rk ⟨1, fd, n, off, flags, path, dest⟩ ov mx w L' hW hY hB hM hp hno4 hO)
  dsimp only at HX0
  have HX := hid HX0
  clear HX0
  have HM := hid hM
  clear hM
  generalize S.openFd path flags = R at *
  have HO := hid hO
  clear hO
  unfold opV opC at HX ⊢
  go_enter Tryz.func17, Tryz.ntmps17
  go_upto_region 1 with fail
  have h1 := (HO.out.alloc (.cells #[.int .i64 1, .int .i64 fd, .int .i64 n, .int .i64 off, .int .i64 flags, sV path, sV dest, ov] 32)).alloc (.cells (ansC (ansE 0) nilV nilV) 29)
  have HK1 := hid (((Keep.refl w).alloc (.cells #[.int .i64 1, .int .i64 fd, .int .i64 n, .int .i64 off, .int .i64 flags, sV path, sV dest, ov] 32)).alloc (.cells (ansC (ansE 0) nilV nilV) 29))
  unfold ansC ansE at h1 HK1
  have e1 : (w.alloc (.cells #[.int .i64 1, .int .i64 fd, .int .i64 n, .int .i64 off, .int .i64 flags, sV path, sV dest, ov] 32)).heap.size = w.heap.size + 1 := by show (Array.push _ _).size = _; rw [Array.size_push]
  rw [e1] at h1
  have HO1 := hid h1
  clear h1 e1 HO
  generalize (w.alloc (.cells #[.int .i64 1, .int .i64 fd, .int .i64 n, .int .i64 off, .int .i64 flags, sV path, sV dest, ov] 32)).alloc (.cells #[.int .i64 0, .int .i64 0, .int .i64 0, .int .i64 0, nilV, nilV] 29) = w1 at *
  generalize w.heap.size = g3 at *
  generalize g3 + 1 = g4 at *
  have hp0 : w1.cell? ⟨g3, 0, none⟩ = some (.int .i64 1) := HO1.out.p1.cells 0
  have hp1 : w1.cell? ⟨g3, 1, none⟩ = some (.int .i64 fd) := HO1.out.p1.cells 1
  have hp2 : w1.cell? ⟨g3, 2, none⟩ = some (.int .i64 n) := HO1.out.p1.cells 2
  have hp3 : w1.cell? ⟨g3, 3, none⟩ = some (.int .i64 off) := HO1.out.p1.cells 3
  have hp4 : w1.cell? ⟨g3, 4, none⟩ = some (.int .i64 flags) := HO1.out.p1.cells 4
  have hp5 : w1.cell? ⟨g3, 5, none⟩ = some (sV path) := HO1.out.p1.cells 5
  have hp6 : w1.cell? ⟨g3, 6, none⟩ = some (sV dest) := HO1.out.p1.cells 6
  have hp7 : w1.cell? ⟨g3, 7, none⟩ = some (ov) := HO1.out.p1.cells 7
  go_wp2_with fail
  refine (HX.out w1 _ ((HM.out.cons (pt g3 (.cells #[.int .i64 1, .int .i64 fd, .int .i64 n, .int .i64 off, .int .i64 flags, sV path, sV dest, ov] 32))).cons (pt g4 (.cells #[.int .i64 0, .int .i64 0, .int .i64 0, .int .i64 0, nilV, nilV] 29))) (HO1.out.re 3 [2, 0, 1])).mono ?_
  rintro e w2 ⟨rfl, hO2, hK2⟩
  have HO2 := hid hO2
  have HK2 := hid ((HK1.out).trans hK2)
  clear hO2 hK2
  try dsimp only
  have HO3 := hid (show Has w2 (pt g4 (.cells (ansC (ansE 0) nilV nilV) 29) :: Trc q R.2 :: L) from HO2.out.re 3 [1, 0])
  have hz0 : w2.cell? ⟨g4, 0, none⟩ = some (.int .i64 0) := (HO3.out).cells 0
  have hz1 : w2.cell? ⟨g4, 1, none⟩ = some (.int .i64 0) := (HO3.out).cells 1
  have hz2 : w2.cell? ⟨g4, 2, none⟩ = some (.int .i64 0) := (HO3.out).cells 2
  have hz3 : w2.cell? ⟨g4, 3, none⟩ = some (.int .i64 0) := (HO3.out).cells 3
  have hz4 : w2.cell? ⟨g4, 4, none⟩ = some (.slice none 0 0) := (HO3.out).cells 4
  have hz5 : w2.cell? ⟨g4, 5, none⟩ = some (.slice none 0 0) := (HO3.out).cells 5
  have hy0 := (HO3.out).thaw 0
  have hy1 := (HO3.out).thaw 1
  have hy2 := (HO3.out).thaw 2
  have hy3 := (HO3.out).thaw 3
  have hy4 := (HO3.out).thaw 4
  have hy5 := (HO3.out).thaw 5
  unfold ansV ansC
  go_wp2_with fail
  have h1 := HO3.out.ans R.1 nilV nilV
  refine bodyPost_ret (ans_result rfl rfl h1) rfl ?_
  exact ⟨rfl, h1.drop, HK2.out.ans _ _ _ _ _ _ _⟩
end Go.Proofs.YtfhaedkaedffcaaGreatDoor
/- tree.Do on a tree of one file f: each operation as the laws call it. -/
namespace Go.Proofs.YtfhaedkaedffcaaGreatDoor
open Go.RowKit Go.Own
theorem look_A {s : Tb.Slot} (h : s.on = true) : Tb.look (tabA s) 0 = some s := by
  obtain ⟨a, b, c, on⟩ := s
  cases h
  rfl
section
variable (q : Nat) (mx : Int) (w : World) (L : List HP)
variable {d : List Int} {wr : List Bool} {T : List Tb.Slot} {fd : Int} {s : Tb.Slot} (hd : d.length ≤ 100000) (hw : wr.length ≤ 162)
include hd hw
variable (hT : TabF T) (hl : Tb.look T fd = some s)
include hT hl
variable (hf : andI s.flags 32 ≠ 0)
include hf
variable (po : Option Addr) (co : Nat) {ds : List Int} (hds : ds.length ≤ 10000)
include hds
/-- A write anywhere. -/
def pwD (d : List Int) (o : Nat) (ds : List Int) : List Int := if ds = [] then d else wrD d o ds
end
end Go.Proofs.YtfhaedkaedffcaaGreatDoor
/- TreeNames, plain: one file of one name, of two, of none. No program in sight. -/
namespace Go.Proofs.YtfhaedkaedffcaaGreatDoor
open Go.RowKit Go.Own
/-- A tree of a root whose names are all files'. -/
structure FlatS (S : Tre) (t : List (Str × Int)) : Prop where
  kind : (S.at_ 1).kind = 2
  above : (S.at_ 1).above = 0
  names : (S.at_ 1).names = t
  kids : ∀ nm c, fnd t nm = some c → (S.at_ c).kind = 1
abbrev upS : Str := [46, 46]
section
variable {S : Tre} {t : List (Str × Int)} (h : FlatS S t)
include h
theorem flat_up (hops : Nat) (d : Int) (nm : Str) (ps : List Str) (fo : Bool) : S.walk ⟨1, d, nm⟩ hops (upS :: ps) fo = S.walk ⟨1, 0, []⟩ hops ps fo := by
  rw [Tre.walk, if_neg (fun e => e h.kind), if_pos rfl]
  congr 1
  unfold Tre.up
  rw [if_pos h.above]
theorem flat_ups (hops : Nat) (ps : List Str) (fo : Bool) : ∀ j, S.walk ⟨1, 0, []⟩ hops (List.replicate j upS ++ ps) fo = S.walk ⟨1, 0, []⟩ hops ps fo
  | 0 => rfl
  | j + 1 => by rw [List.replicate_succ, List.cons_append, flat_up h, flat_ups hops ps fo j]
theorem flat_one (hops : Nat) {nm : Str} (hn : nm ≠ upS) (fo : Bool) : S.walk ⟨1, 0, []⟩ hops [nm] fo = match fnd t nm with | none => (spt0, 5) | some c => (⟨c, 1, nm⟩, 0) := by
  rw [Tre.walk, if_neg (fun e => e h.kind), if_neg hn, h.names]
  cases hf : fnd t nm with
  | none => rfl
  | some c =>
    dsimp only
    rw [if_neg (by rw [h.kids _ _ hf]; simp), Tre.walk]
theorem flat_dir (hops : Nat) (fo : Bool) : ∀ ps : List Str, (S.walk ⟨1, 0, []⟩ hops ps fo).2 = 0 → (S.at_ (S.walk ⟨1, 0, []⟩ hops ps fo).1.node).kind = 2 → ps = List.replicate ps.length upS
  | [], _, _ => rfl
  | p :: ps, h1, h2 => by
    by_cases hp : p = upS
    · subst hp
      rw [flat_up h] at h1 h2
      rw [List.length_cons, List.replicate_succ, ← flat_dir hops fo ps h1 h2]
    · exfalso
      rw [Tre.walk, if_neg (fun e => e h.kind), if_neg hp, h.names] at h1 h2
      cases hf : fnd t p with
      | none => rw [hf] at h1; exact absurd h1 (by simp)
      | some c =>
        rw [hf] at h1 h2
        dsimp only at h1 h2
        have hk := h.kids _ _ hf
        rw [if_neg (by rw [hk]; simp)] at h1 h2
        cases ps with
        | nil =>
          rw [Tre.walk] at h2
          dsimp only at h2
          rw [hk] at h2
          exact absurd h2 (by decide)
        | cons a ps =>
          rw [Tre.walk, if_pos (by dsimp only; rw [hk]; decide)] at h1
          exact absurd h1 (by simp)
end
/-- A path that leads to a name in the root. -/
structure Rt (p nm : Str) : Prop where
  name : NameOk nm
  split : ∃ j, splitM p = (List.replicate j upS ++ [nm], 0) ∧ lastM p = (joinM (List.replicate j upS), nm, 0) ∧ splitM (joinM (List.replicate j upS)) = (List.replicate j upS, 0)
section
variable {S : Tre} {t : List (Str × Int)} (h : FlatS S t) {p nm : Str}
include h
theorem flat_find (hp : Rt p nm) (fo : Bool) : S.find p fo = match fnd t nm with | none => (spt0, 5) | some c => (⟨c, 1, nm⟩, 0) := by
  obtain ⟨j, h1, h2, h3⟩ := hp.split
  unfold Tre.find
  rw [h1]
  simp only [ne_eq, not_true_eq_false, if_false]
  rw [flat_ups h, flat_one h 0 hp.name.2.2.2]
omit h in
theorem flat_long (hn : NameOk nm) : Tre.longM (S.way 1 ++ [nm]) = false := by
  rw [way1]
  unfold Tre.longM
  have h2 := joinS_len [nm] (fun p hp => by rw [List.mem_singleton.1 hp]; exact hn.2.1)
  simp only [List.length_cons, List.length_nil] at h2
  simp only [Bool.or_eq_false_iff, decide_eq_false_iff_not]
  refine ⟨by simp, ?_⟩
  show ¬ 200 < (joinM [nm]).length
  simp only [joinM, List.length_cons]
  omega
theorem flat_place (hp : Rt p nm) : S.place p = (⟨(fnd t nm).getD 0, 1, nm⟩, 0) := by
  obtain ⟨j, h1, h2, h3⟩ := hp.split
  have hf : S.find (joinM (List.replicate j upS)) true = (⟨1, 0, []⟩, 0) := by
    unfold Tre.find
    rw [h3]
    simp only [ne_eq, not_true_eq_false, if_false]
    have := flat_ups h 0 [] true j
    rw [List.append_nil] at this
    rw [this, Tre.walk]
  unfold Tre.place
  rw [h2]
  simp only [hf, ne_eq, not_true_eq_false, if_false]
  rw [if_neg (fun e => e h.kind), flat_long hp.name, h.names]
  rfl
theorem flat_rt (h0 : (S.place p).2 = 0) : ∃ nm, Rt p nm := by
  have hl : (lastM p).2.2 = 0 := Classical.byContradiction fun h1 => by
    unfold Tre.place at h0
    rw [if_pos h1] at h0
    exact h1 h0
  obtain ⟨qs, nm, a1, a2, a3, a4, a5, a6, a7⟩ := lastM_parts hl
  have hq : qs = List.replicate qs.length upS := by
    unfold Tre.place at h0
    rw [a3] at h0
    simp only [ne_eq, not_true_eq_false, if_false] at h0
    by_cases h1 : (S.find (joinM qs) true).2 = 0
    · rw [if_neg (by simpa using h1)] at h0
      by_cases h2 : (S.at_ (S.find (joinM qs) true).1.node).kind = 2
      · unfold Tre.find at h1 h2
        rw [a7] at h1 h2
        simp only [ne_eq, not_true_eq_false, if_false] at h1 h2
        exact flat_dir h 0 true qs h1 h2
      · rw [if_pos (by simpa using h2)] at h0
        exact absurd h0 (by simp)
    · rw [if_pos (by simpa using h1)] at h0
      exact absurd h0 h1
  have hz := a4 nm (by simp)
  rw [hq] at a1 a3 a7
  exact ⟨nm, ⟨⟨hz.1.1, hz.1.2.2.1, hz.1.2.2.2, a2⟩, ⟨_, a1, a3, a7⟩⟩⟩
end
/-- A root of some names of one file. -/
def trX (t : List (Str × Int)) (most links : Int) (d : List Int) (wr : List Bool) (T : List Tb.Slot) : Tre := ⟨[(1, ⟨2, [], [], t, most, 1, 0⟩), (2, ⟨1, d, wr, [], 0, links, 0⟩)], 2, T⟩
theorem flat0 : FlatS tre0 [] := ⟨rfl, rfl, rfl, fun nm c h => by cases h⟩
theorem flatX {t : List (Str × Int)} {most links : Int} {d : List Int} {wr : List Bool} {T : List Tb.Slot} (h : ∀ e ∈ t, e.2 = 2) : FlatS (trX t most links d wr T) t :=
  ⟨rfl, rfl, rfl, fun nm c hc => by rw [show c = 2 from h _ (fnd_some hc)]; rfl⟩
abbrev sl0 (n : Int) : Tb.Slot := ⟨2, n, 35, true⟩
theorem names_open {p : Str} (h0 : (tre0.openFd p 35).1.code = 0) : ∃ nm, Rt p nm ∧ tre0.openFd p 35 = (⟨0, 0, 0, 0, [], []⟩, trX [(nm, 2)] 1 1 [] [] (tabA (sl0 0))) := by
  unfold Tre.openFd at h0 ⊢
  rw [if_neg (by decide +kernel), if_pos (by decide +kernel)] at h0 ⊢
  by_cases h1 : (tre0.place p).2 ≠ 0
  · rw [if_pos h1] at h0
    exact absurd h0 h1
  obtain ⟨nm, hp⟩ := flat_rt flat0 (Classical.not_not.1 h1)
  refine ⟨nm, hp, ?_⟩
  rw [flat_place flat0 hp]
  simp only [show fnd ([] : List (Str × Int)) nm = none from rfl, Option.getD_none]
  rw [if_neg (by simp), if_neg (by simp), if_neg (by decide)]
  unfold Tre.openAt
  rw [if_neg (by simp), if_neg (by decide +kernel)]
  rfl
section
variable {nm nm' p p' : Str} {d : List Int} {wr : List Bool}
theorem fnd1 {κ α : Type} [DecidableEq κ] (a : κ) (c : α) : fnd [(a, c)] a = some c := by rw [fnd_cons, if_pos rfl]
theorem names_again (hp : Rt p nm) {m l : Int} {T : List Tb.Slot} : (trX [(nm, 2)] m l d wr T).openFd p 3 = (ansE 6, trX [(nm, 2)] m l d wr T) := by
  unfold Tre.openFd
  rw [if_neg (by decide +kernel), if_pos (by decide +kernel), flat_place (flatX (by simp)) hp, fnd1]
  simp only [Option.getD_some]
  rw [if_neg (by simp), if_pos ⟨by simp, by decide +kernel⟩]
theorem names_link (hp : Rt p nm) {T : List Tb.Slot} (h0 : ((trX [(nm, 2)] 1 1 d wr T).link p p').1.code = 0) : ∃ nm', Rt p' nm' ∧ nm ≠ nm' ∧ (trX [(nm, 2)] 1 1 d wr T).link p p' = (ansE 0, trX [(nm, 2), (nm', 2)] 2 2 d wr T) := by
  have hF : FlatS (trX [(nm, 2)] 1 1 d wr T) [(nm, 2)] := flatX (by simp)
  unfold Tre.link at h0 ⊢
  rw [flat_find hF hp, fnd1] at h0 ⊢
  dsimp only at h0 ⊢
  rw [if_neg (by simp), if_neg (by show ¬ (1 : Int) = 2; decide)] at h0 ⊢
  by_cases h1 : ((trX [(nm, 2)] 1 1 d wr T).fresh p').2 ≠ 0
  · rw [if_pos h1] at h0; exact absurd h0 h1
  obtain ⟨f1, f2, f3⟩ := fresh_place (Classical.not_not.1 h1)
  obtain ⟨nm', hp'⟩ := flat_rt hF f1
  have hpl := flat_place hF hp'
  have hne : nm ≠ nm' := by
    rintro rfl
    rw [hpl, fnd1] at f2
    simp at f2
  have hno : fnd [(nm, (2 : Int))] nm' = none := by rw [fnd_cons, if_neg hne]; rfl
  refine ⟨nm', hp', hne, ?_⟩
  rw [f3, hpl, if_neg (by simp)]
  have e : putA [(nm, (2 : Int))] nm' 2 = [(nm, 2), (nm', 2)] := by rw [putA_new _ (fnd_none.1 hno)]; rfl
  refine Prod.ext rfl ?_
  show (trX [(nm, 2)] 1 1 d wr T).add 1 nm' 2 = _
  have h5 : Tre.dirAdd ⟨2, [], [], [(nm, 2)], 1, 1, 0⟩ nm' 2 = ⟨2, [], [], [(nm, 2), (nm', 2)], 2, 1, 0⟩ := by
    unfold Tre.dirAdd
    dsimp only
    rw [e]
    rfl
  unfold Tre.add
  rw [show (trX [(nm, 2)] 1 1 d wr T).at_ 1 = ⟨2, [], [], [(nm, 2)], 1, 1, 0⟩ from rfl, h5]
  rfl
theorem names_stat (hp' : Rt p' nm') (hne : nm ≠ nm') {m : Int} {T : List Tb.Slot} : (trX [(nm, 2), (nm', 2)] m 2 d wr T).stat p' true = ⟨0, d.length, 1, 2, [], []⟩ := by
  unfold Tre.stat
  rw [flat_find (flatX (by simp)) hp', fnd_cons, if_neg hne, fnd1]
  dsimp only
  rw [if_neg (by simp)]
  show (⟨0, ((d.length : Nat) : Int) + (0 : Nat), 1, 2, [], []⟩ : Ans) = _
  simp
theorem names_rem1 (hp : Rt p nm) (hne : nm ≠ nm') {m : Int} {T : List Tb.Slot} : (trX [(nm, 2), (nm', 2)] m 2 d wr T).remove 11 p = (ansE 0, trX [(nm', 2)] m 1 d wr T) := by
  unfold Tre.remove
  rw [flat_place (flatX (by simp)) hp, fnd_cons, if_pos rfl]
  simp only [Option.getD_some]
  rw [if_neg (by simp), if_neg (by simp), if_neg (by simp), if_neg (by simp), if_neg (by rintro ⟨-, h⟩; exact absurd h (by show ¬ (1 : Int) = 2; decide))]
  refine Prod.ext rfl ?_
  show (trX [(nm, 2), (nm', 2)] m 2 d wr T).take 1 nm = _
  have e : delA [(nm, (2 : Int)), (nm', 2)] nm = [(nm', 2)] := by
    unfold delA
    simp [Ne.symm hne]
  have h5 : Tre.dirTake ⟨2, [], [], [(nm, 2), (nm', 2)], m, 1, 0⟩ nm = ⟨2, [], [], [(nm', 2)], m, 1, 0⟩ := by
    unfold Tre.dirTake
    dsimp only
    rw [e]
  have hk : (trX [(nm, 2), (nm', 2)] m 2 d wr T).kid 1 nm = 2 := by
    unfold Tre.kid
    show (fnd [(nm, (2 : Int)), (nm', 2)] nm).getD 0 = 2
    rw [fnd_cons, if_pos rfl]
    rfl
  unfold Tre.take
  rw [hk, show (trX [(nm, 2), (nm', 2)] m 2 d wr T).at_ 1 = ⟨2, [], [], [(nm, 2), (nm', 2)], m, 1, 0⟩ from rfl, h5]
  rfl
theorem names_gone (hp : Rt p nm) (hne : nm ≠ nm') {m l : Int} {T : List Tb.Slot} : (trX [(nm', 2)] m l d wr T).stat p true = ansE 5 := by
  unfold Tre.stat
  rw [flat_find (flatX (by simp)) hp, fnd_cons, if_neg (Ne.symm hne)]
  rfl
theorem names_rem2 (hp' : Rt p' nm') {m : Int} {o : Int} : (trX [(nm', 2)] m 1 d wr (tabA (sl0 o))).remove 11 p' = (ansE 0, trX [] m 0 d wr (tabA (sl0 o))) := by
  unfold Tre.remove
  rw [flat_place (flatX (by simp)) hp', fnd1]
  simp only [Option.getD_some]
  rw [if_neg (by simp), if_neg (by simp), if_neg (by simp), if_neg (by simp), if_neg (by rintro ⟨-, h⟩; exact absurd h (by show ¬ (1 : Int) = 2; decide))]
  refine Prod.ext rfl ?_
  show (trX [(nm', 2)] m 1 d wr (tabA (sl0 o))).take 1 nm' = _
  have e : delA [(nm', (2 : Int))] nm' = [] := by
    unfold delA
    simp
  have h5 : Tre.dirTake ⟨2, [], [], [(nm', 2)], m, 1, 0⟩ nm' = ⟨2, [], [], [], m, 1, 0⟩ := by
    unfold Tre.dirTake
    dsimp only
    rw [e]
  have hk : (trX [(nm', 2)] m 1 d wr (tabA (sl0 o))).kid 1 nm' = 2 := by
    unfold Tre.kid
    show (fnd [(nm', (2 : Int))] nm').getD 0 = 2
    rw [fnd1]
    rfl
  unfold Tre.take
  rw [hk, show (trX [(nm', 2)] m 1 d wr (tabA (sl0 o))).at_ 1 = ⟨2, [], [], [(nm', 2)], m, 1, 0⟩ from rfl, h5]
  rfl
theorem fileX {t : List (Str × Int)} {m l o : Int} (wrq : Bool) : (trX t m l d wr (tabA (sl0 o))).file 0 wrq = (sl0 o, 0) := by
  unfold Tre.file
  rw [show (trX t m l d wr (tabA (sl0 o))).tab = tabA (sl0 o) from rfl, get_of (look_A (s := sl0 o) rfl), if_neg (by simp), if_neg (by rintro ⟨-, h⟩; exact absurd h (show ¬ andI 35 32 = 0 by decide +kernel)), if_neg (by show ¬ (1 : Int) = 2; decide)]
theorem names_pread {t : List (Str × Int)} {m l o : Int} (hd : d.length ≤ 300) : (trX t m l d wr (tabA (sl0 o))).read 5 0 1000 0 = (⟨0, 0, 0, 0, d, []⟩, trX t m l d wr (tabA (sl0 o))) := by
  unfold Tre.read
  rw [fileX]
  dsimp only
  rw [if_neg (by simp), if_neg (by simp), if_pos rfl, if_neg (by decide)]
  show ((⟨0, 0, 0, 0, (d.drop 0).take 1000, []⟩ : Ans), _) = _
  rw [List.drop_zero, List.take_of_length_le (by omega)]
theorem names_write (ds : List Int) (hd : ds.length ≤ 300) : ∃ wr' o', (trX [(nm, 2)] 1 1 [] [] (tabA (sl0 0))).write 4 0 0 ds = (⟨0, ds.length, 0, 0, [], []⟩, trX [(nm, 2)] 1 1 ds wr' (tabA (sl0 o'))) := by
  unfold Tre.write
  rw [fileX]
  dsimp only
  rw [if_neg (by simp), if_neg (by simp), if_neg (show ¬ (4 : Int) = 6 by decide), if_neg (show ¬ (andI 35 8 ≠ 0) by decide +kernel), if_neg (show ¬ ((0 : Int) > 20736 - ((min ds.length 20736 : Nat) : Int) ∨ 20736 < ds.length) by omega)]
  by_cases h0 : ds.length = 0
  · rw [if_pos h0]
    have : ds = [] := List.eq_nil_of_length_eq_zero h0
    subst this
    exact ⟨[], 0, rfl⟩
  · rw [if_neg h0, if_pos rfl]
    have e : (nodWrite ⟨1, [], [], [], 0, 1, 0⟩ 0 ds).data = ds := by
      unfold nodWrite
      simp
      have : ((nodCut ⟨1, [], [], [], 0, 1, 0⟩ ds.length).data).length = ds.length := (nodCut_keeps _ _).2.2.2.2.2.1
      omega
    refine ⟨(nodWrite ⟨1, [], [], [], 0, 1, 0⟩ 0 ds).wr, 0 + ds.length, Prod.ext rfl ?_⟩
    have hk := nodWrite_keeps ⟨1, [], [], [], 0, 1, 0⟩ 0 ds
    have hw : nodWrite ⟨1, [], [], [], 0, 1, 0⟩ 0 ds = ⟨1, ds, (nodWrite ⟨1, [], [], [], 0, 1, 0⟩ 0 ds).wr, [], 0, 1, 0⟩ := by
      generalize nodWrite ⟨1, [], [], [], 0, 1, 0⟩ 0 ds = y at *
      obtain ⟨a1, a2, a3, a4, a5, a6, a7⟩ := y
      obtain ⟨b1, b2, b3, b4, b5, -⟩ := hk
      dsimp only at *
      subst e b1 b2 b3 b4 b5
      rfl
    have hm := mov_of (look_A (s := sl0 0) rfl) (off := 0 + ds.length) (by omega)
    show ({ (trX [(nm, 2)] 1 1 [] [] (tabA (sl0 0))).setN 2 (nodWrite ⟨1, [], [], [], 0, 1, 0⟩ 0 ds) with tab := (Tb.mov (tabA (sl0 0)) 0 (0 + ds.length)).2 } : Tre) = _
    rw [hm, hw]
    rfl
end
end Go.Proofs.YtfhaedkaedffcaaGreatDoor
