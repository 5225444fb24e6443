/- TEXTS of mine, merged. -/
import Derived.Test.YtfhaedkaedffcaaGreatDoorM25
import Derived.Test.YtfhaedkaedffcaaGreatDoorM10
import Derived.Shelf.SlSortCmp.WholeK
import Derived.Shelf.SlGeneric
import Derived.Ground.SlsfProg
import Derived.Test.YtfhaedkaedffcaaGreatDoorProg
import Derived.Test.YtfhaedkaedffcaaGreatDoorM16
import Derived.Test.YtfhaedkaedffcaaGreatDoorM17
import Derived.Test.YtfhaedkaedffcaaGreatDoorM11
import Derived.Test.YtfhaedkaedffcaaGreatDoorM13
import Derived.Test.YtfhaedkaedffcaaGreatDoorM18
import Derived.Lib.SlBytesConst
/- THE WALK of tree.Need (files of at most six blocks). -/
namespace Go.Proofs.YtfhaedkaedffcaaGreatDoor
open Go.RowKit Go.Own
theorem kInt_val (x : Int) : kInt.val x = .int .i64 x := rfl
theorem vPtr_val (b : Nat) : vPtr.val (some b) = .pointer (some ⟨b, 0, none⟩) := rfl
def needSum (t : List (Int × Nod)) : Int := (t.map fun p => blocksM p.2).sum
def sumR : List Pn → List Int → Int
  | [], _ => 0
  | p :: P, rem => (if p.1 ∈ rem then 0 else blocksM p.2.2) + sumR P rem
theorem sumR_nil : ∀ P : List Pn, sumR P [] = needSum (pnN P)
  | [] => rfl
  | p :: P => by
    rw [sumR, sumR_nil P, if_neg (by simp)]
    simp [needSum, pnN]
theorem sumR_all : ∀ (P : List Pn) (rem : List Int), (∀ p ∈ P, p.1 ∈ rem) → sumR P rem = 0
  | [], _, _ => rfl
  | p :: P, rem, h => by
    rw [sumR, sumR_all P rem (fun q hq => h q (List.mem_cons_of_mem _ hq)), if_pos (h p List.mem_cons_self)]
    rfl
theorem sumR_off : ∀ (P : List Pn) (rem : List Int) (n : Int), n ∉ P.map Prod.fst → sumR P (rem.filter fun y => !decide (y = n)) = sumR P rem
  | [], _, _, _ => rfl
  | p :: P, rem, n, h => by
    simp only [List.map_cons, List.mem_cons, not_or] at h
    rw [sumR, sumR, sumR_off P rem n h.2]
    have : p.1 ∈ rem.filter (fun y => !decide (y = n)) ↔ p.1 ∈ rem := by simp [Ne.symm h.1]
    by_cases h2 : p.1 ∈ rem
    · rw [if_pos h2, if_pos (this.2 h2)]
    · rw [if_neg h2, if_neg (fun h => h2 (this.1 h))]
theorem sumR_step : ∀ (P1 P2 : List Pn) (rem : List Int) (n : Int) (b : Nat) (x : Nod), ((P1 ++ (n, b, x) :: P2).map Prod.fst).Nodup → n ∈ rem → sumR (P1 ++ (n, b, x) :: P2) (rem.filter fun y => !decide (y = n)) = sumR (P1 ++ (n, b, x) :: P2) rem + blocksM x
  | [], P2, rem, n, b, x, hd, hr => by
    simp only [List.nil_append, List.map_cons, List.nodup_cons] at hd
    rw [List.nil_append, sumR, sumR, sumR_off P2 rem n hd.1, if_pos hr, if_neg (by simp)]
    show blocksM x + _ = 0 + _ + blocksM x
    omega
  | p :: P1, P2, rem, n, b, x, hd, hr => by
    have hd0 := hd
    simp only [List.cons_append, List.map_cons, List.nodup_cons] at hd
    have hne : p.1 ≠ n := by
      intro e
      exact hd.1 (by rw [e]; simp)
    rw [List.cons_append, sumR, sumR, sumR_step P1 P2 rem n b x hd.2 hr]
    have : p.1 ∈ rem.filter (fun y => !decide (y = n)) ↔ p.1 ∈ rem := by simp [hne]
    by_cases h2 : p.1 ∈ rem
    · rw [if_pos h2, if_pos (this.2 h2)]; omega
    · rw [if_neg h2, if_neg (fun h => h2 (this.1 h))]; omega
theorem blocksM_low (x : Nod) (h0 : 0 ≤ x.most) (h1 : x.most ≤ 1000000) (h2 : x.wr.length ≤ 6) : 0 ≤ blocksM x ∧ blocksM x ≤ 1000000 := by
  unfold blocksM
  split
  · omega
  · split
    · omega
    · have := List.length_filter_le id x.wr
      omega
theorem sumR_low : ∀ (P : List Pn) (rem : List Int), (∀ p ∈ P, 0 ≤ blocksM p.2.2 ∧ blocksM p.2.2 ≤ 1000000) → 0 ≤ sumR P rem ∧ sumR P rem ≤ P.length * 1000000
  | [], _, _ => by simp [sumR]
  | p :: P, rem, h => by
    have h1 := sumR_low P rem fun q hq => h q (List.mem_cons_of_mem _ hq)
    have h2 := h p List.mem_cons_self
    rw [sumR, List.length_cons]
    split <;> omega
theorem pnC_pull3 {w : World} {L : List HP} {A B C : HP} {P1 P2 : List Pn} {p : Pn} : Has w (A :: B :: C :: (pnC (P1 ++ p :: P2) ++ L)) ↔ Has w (Ndc p.2.1 p.2.2 :: A :: B :: C :: (pnC (P1 ++ P2) ++ L)) := by
  have e : (A :: B :: C :: (pnC (P1 ++ p :: P2) ++ L)).Perm (Ndc p.2.1 p.2.2 :: A :: B :: C :: (pnC (P1 ++ P2) ++ L)) := by
    have h1 : (pnC (P1 ++ p :: P2) ++ L).Perm (Ndc p.2.1 p.2.2 :: (pnC (P1 ++ P2) ++ L)) := by
      unfold pnC
      rw [List.map_append, List.map_cons, List.map_append]
      simp only [List.append_assoc, List.cons_append]
      exact List.perm_middle
    refine (((h1.cons C).cons B).cons A).trans ?_
    refine List.Perm.trans (((List.Perm.swap _ _ _).cons B).cons A) ?_
    refine List.Perm.trans ((List.Perm.swap _ _ _).cons A) ?_
    exact List.Perm.swap _ _ _
  exact ⟨fun h => h.perm e, fun h => h.perm e.symm⟩
set_option maxRecDepth 100000 in
set_option maxHeartbeats 4000000 in
theorem tNeed (q : Nat) (S : Tre) (w : World) (L : List HP) (hb : ∀ n x, fnd S.nodes n = some x → 0 ≤ x.most ∧ x.most ≤ 1000000 ∧ x.wr.length ≤ 6) (hn : S.nodes.length ≤ 1000) (hO : Has w (Trc q S :: L)) :
    Calls Tryz.prog 28 #[.pointer (some ⟨q, 0, none⟩)] w fun e w' => e = .returned (.tuple #[.int .i64 (needSum S.nodes), .int .i64 (S.nodes.length : Int)]) ∧ Has w' (Trc q S :: L) ∧ Keep w w' := by
  obtain ⟨m, f, P, hPT, h⟩ := trc_iff.1 hO
  have HPT := hid hPT
  have h' := trb_iff.1 h
  have HND := hid (Trb.nodup h)
  have HO := hid (show Has w (Mk kInt vPtr m (pnB P) :: pt q (.cells (treC m f S.last) 77) :: Tab f S.tab :: (pnC P ++ L)) from h'.perm (.swap _ _ _))
  have hq0 : w.cell? ⟨q, 0, none⟩ = some (.map (some m)) := HO.out.p1.cells 0
  have HBD := hid (show ∀ p ∈ P, 0 ≤ p.2.2.most ∧ p.2.2.most ≤ 1000000 ∧ p.2.2.wr.length ≤ 6 from by
    intro p hp
    have hm : (p.1, p.2.2) ∈ pnN P := List.mem_map.2 ⟨p, hp, rfl⟩
    have hnd : ((pnN P).map Prod.fst).Nodup := by rw [pnN_keys]; exact HND.out
    exact hb p.1 p.2.2 (by rw [← hPT.1]; exact fnd_mem hnd hm))
  have HLW := hid (fun rem => sumR_low P rem fun p hp => blocksM_low p.2.2 (HBD.out p hp).1 (HBD.out p hp).2.1 (HBD.out p hp).2.2)
  have hPl : P.length = S.nodes.length := by rw [← hPT.1]; simp [pnN]
  have hP9 : P.length ≤ 1000 := by omega
  clear hO h h' hPT hb
  go_enter Tryz.func28, Tryz.ntmps28
  go_wp2_with (at_range; refine wpList_mkStart HO.out tNo undNo rfl _ rfl rfl ?_; intro w4 hO4 hK4 hs4)
  try go_frame
  have HO4 := hid hO4
  have HK4 := hid hK4
  clear hO4 hK4 hs4 hq0 HO
  generalize w.heap.size = r at *
  generalize hr0 : (pnB P).map Prod.fst = rem0 at *
  have HS0 := hid (show sumR P rem0 = 0 from sumR_all P rem0 fun p hp => by rw [← hr0, pnB_keys]; exact List.mem_map_of_mem hp)
  clear hr0
  generalize (pnB P).length = cnt0 at *
  go_loopw [4] (fun cv w' => ∃ (rem : List Int) (cnt : Nat), cv = .int .i64 (sumR P rem) ∧ Hid (Has w' (Mr kInt vPtr m r (pnB P) rem cnt :: pt q (.cells (treC m f S.last) 77) :: Tab f S.tab :: (pnC P ++ L))) ∧ Hid (Keep w w')) (fun _ w' => w'.rangeLeft m r)
  case atStart => exact ⟨rem0, cnt0, by rw [HS0.out], HO4, HK4⟩
  case round =>
    clear HO4 HK4 HS0
    obtain ⟨rem, cnt, rfl, HO, HK⟩ := hrel
    have hleft := Mr.left HO.out
    have HLF := hid hleft
    have hlow := HLW.out rem
    go_wp2_with (at_next; refine wpList_mkNext HO.out rfl _ rfl rfl ?_ ?_)
    · intro hrem
      subst hrem
      have HSN := hid (sumR_nil P)
      have HO5 := hid (Mr.end HO.out)
      have hq0 : wr.cell? ⟨q, 0, none⟩ = some (.map (some m)) := HO5.out.p1.cells 0
      have hlen := Mk.len HO5.out undNo 3
      have hbl : (pnB P).length = S.nodes.length := by rw [← hPl]; simp [pnB]
      rw [hbl] at hlen
      clear HO hleft
      generalize sumR P [] = sm at *
      go_wp2_with fail
      go_ret2
      rw [HSN.out, HPT.out.1]
      exact ⟨rfl, trc_iff.2 ⟨m, f, P, HPT.out, trb_iff.2 (HO5.out.perm (.swap _ _ _))⟩, HK.out⟩
    · rintro n ob w5 cnt' hp hr hky hO5 hlt5 hK5 hsz hen
      obtain ⟨⟨n', b, x⟩, hpP, he⟩ := List.mem_map.1 hp
      simp only [Prod.mk.injEq] at he
      obtain ⟨rfl, rfl⟩ := he
      simp only [kInt_val, vPtr_val] at hen ⊢
      have hen2 := hen
      obtain ⟨P1, P2, hPe⟩ := List.append_of_mem hpP
      have HPe := hid hPe
      have hbx := HBD.out _ hpP
      have hblo := blocksM_low x hbx.1 hbx.2.1 hbx.2.2
      have HO6 := hid (show Has w5 (Ndc b x :: Mr kInt vPtr m r (pnB P) (rem.filter fun y => !decide (y = n')) cnt' :: pt q (.cells (treC m f S.last) 77) :: Tab f S.tab :: (pnC (P1 ++ P2) ++ L)) from pnC_pull3.1 (by rw [← hPe]; exact hO5))
      have HST := hid (show sumR P (rem.filter fun y => !decide (y = n')) = sumR P rem + blocksM x from by
        rw [hPe]
        exact sumR_step P1 P2 rem n' b x (by rw [← hPe]; exact HND.out) hr)
      have HK6 := hid (HK.out.trans hK5)
      have HL5 := hid hlt5
      clear hp hr hky hO5 hlt5 hK5 hsz hPe hpP hleft HO HK
      generalize sumR P rem = sm at *
      generalize hbm : blocksM x = bm at *
      have hsm9 : sm ≤ 1000000000 := by omega
      obtain ⟨hs0, -⟩ := hlow
      obtain ⟨hbm0, hbm9⟩ := hblo
      have HBM := hid hbm
      clear hbm
      go_wp2_with fail
      refine (tBlocks b x w5 _ hbx.1 hbx.2.1 hbx.2.2 HO6.out).mono ?_
      rintro e w7 ⟨rfl, hO7, hK7⟩
      have HO7 := hid hO7
      have HK7 := hid ((HK6.out).trans hK7)
      clear hO7 hK7
      try dsimp only
      rw [HBM.out]
      have HO8 := hid (show Has w7 (Mr kInt vPtr m r (pnB P) (rem.filter fun y => !decide (y = n')) cnt' :: pt q (.cells (treC m f S.last) 77) :: Tab f S.tab :: (pnC P ++ L)) from by
        have h1 := pnC_pull3 (p := (n', b, x)).2 HO7.out
        rwa [← HPe.out] at h1)
      have hleft := Mr.left HO8.out
      clear HO6 HK6 HO7 hen hen2
      go_wp2_with fail
      exact ⟨⟨_, _, by rw [HST.out], HO8, HK7⟩, by rw [hleft, HLF.out]; exact HL5.out⟩
end Go.Proofs.YtfhaedkaedffcaaGreatDoor
/- The trees of chapter 14's 'awake'. No program in sight. -/
namespace Go.Proofs.YtfhaedkaedffcaaGreatDoor
open Go.RowKit Go.Own
abbrev nA : Str := [97]
abbrev pA : Str := [47, 97]
abbrev pAF : Str := [47, 97, 47, 102]
abbrev pB : Str := [47, 98]
def tabA (s : Tb.Slot) : List Tb.Slot := s :: List.replicate 15 Tb.none4
def treE1 : Tre := ⟨[(1, ⟨2, [], [], [(nA, 2)], 1, 1, 0⟩), (2, ⟨2, [], [], [], 0, 1, 1⟩)], 2, List.replicate 16 Tb.none4⟩
def treE2 : Tre := ⟨[(1, ⟨2, [], [], [(nA, 2)], 1, 1, 0⟩), (2, ⟨2, [], [], [(nF, 3)], 1, 1, 1⟩), (3, ⟨1, [], [], [], 0, 1, 0⟩)], 3, tabA ⟨3, 0, 33, true⟩⟩
def treE3 : Tre := ⟨[(1, ⟨2, [], [], [(nA, 2)], 1, 1, 0⟩), (2, ⟨2, [], [], [(nF, 3)], 1, 1, 1⟩), (3, ⟨1, [120, 121, 122], [true], [], 0, 1, 0⟩)], 3, tabA ⟨3, 3, 33, true⟩⟩
def rkA (n : Int) : Nat := if n = 3 then 2 else if n = 2 then 1 else 0
theorem rkA_low (n : Int) : rkA n ≤ 20 := by unfold rkA; split <;> (try split) <;> omega
theorem splitM_A : splitM pA = ([nA], 0) := by decide +kernel
theorem splitM_AF : splitM pAF = ([nA, nF], 0) := by decide +kernel
theorem splitM_B : splitM pB = ([[98]], 0) := by decide +kernel
theorem lastM_A : lastM pA = ([47], nA, 0) := by decide +kernel
theorem lastM_AF : lastM pAF = (pA, nF, 0) := by decide +kernel
theorem wk_0 : wkB tre0 = true := by decide +kernel
theorem wk_A : wkB treE1 = true := by decide +kernel
theorem wk_B : wkB treE2 = true := by decide +kernel
theorem wk_C : wkB treE3 = true := by decide +kernel
theorem wy_0 : wyB tre0 rkA = true := by decide +kernel
theorem wy_A : wyB treE1 rkA = true := by decide +kernel
theorem opb_0 : opbB tre0 = true := by decide +kernel
theorem opb_A : opbB treE1 = true := by decide +kernel
theorem opn_B : opnB treE2 = true := by decide +kernel
theorem place_A : tre0.place pA = (⟨0, 1, nA⟩, 0) := by
  unfold Tre.place
  rw [lastM_A, if_neg (by simp), find_root, if_neg (by simp), if_neg (by decide +kernel), if_neg (by decide +kernel)]
  rfl
theorem mkdir_A : tre0.mkdir pA = (ansE 0, treE1) := by
  unfold Tre.mkdir Tre.fresh
  rw [place_A]
  rfl
theorem find_A (S : Tre) (fo : Bool) (h1 : (S.at_ 1).kind = 2) (h2 : fnd (S.at_ 1).names nA = some 2) (h3 : (S.at_ 2).kind = 2) : S.find pA fo = (⟨2, 1, nA⟩, 0) := by
  unfold Tre.find
  rw [splitM_A, if_neg (by simp)]
  show S.walk ⟨1, 0, []⟩ 0 [nA] fo = _
  rw [Tre.walk, if_neg (by rw [h1]; decide), if_neg (by decide)]
  dsimp only
  rw [h2]
  dsimp only
  rw [if_neg (by rw [h3]; simp), Tre.walk]
theorem find_AF (S : Tre) (fo : Bool) (h1 : (S.at_ 1).kind = 2) (h2 : fnd (S.at_ 1).names nA = some 2) (h3 : (S.at_ 2).kind = 2) (h4 : fnd (S.at_ 2).names nF = some 3) (h5 : (S.at_ 3).kind = 1) : S.find pAF fo = (⟨3, 2, nF⟩, 0) := by
  unfold Tre.find
  rw [splitM_AF, if_neg (by simp)]
  show S.walk ⟨1, 0, []⟩ 0 [nA, nF] fo = _
  rw [Tre.walk, if_neg (by rw [h1]; decide), if_neg (by decide)]
  dsimp only
  rw [h2]
  dsimp only
  rw [if_neg (by rw [h3]; simp), Tre.walk, if_neg (by rw [h3]; decide), if_neg (by decide)]
  dsimp only
  rw [h4]
  dsimp only
  rw [if_neg (by rw [h5]; simp), Tre.walk]
theorem find_B (S : Tre) (fo : Bool) (h1 : (S.at_ 1).kind = 2) (h2 : fnd (S.at_ 1).names [98] = none) : S.find pB fo = (spt0, 5) := by
  unfold Tre.find
  rw [splitM_B, if_neg (by simp)]
  show S.walk ⟨1, 0, []⟩ 0 [[98]] fo = _
  rw [Tre.walk, if_neg (by rw [h1]; decide), if_neg (by decide)]
  dsimp only
  rw [h2]
theorem place_AF : treE1.place pAF = (⟨0, 2, nF⟩, 0) := by
  unfold Tre.place
  rw [lastM_AF, if_neg (by simp)]
  dsimp only
  rw [find_A treE1 true rfl rfl rfl, if_neg (by simp), if_neg (by decide +kernel), if_neg (by decide +kernel)]
  rfl
theorem open_AF : treE1.openFd pAF 33 = (⟨0, 0, 0, 0, [], []⟩, treE2) := by
  unfold Tre.openFd
  rw [if_neg (by decide +kernel), if_pos (by decide +kernel), place_AF, if_neg (by simp), if_neg (by simp), if_neg (by decide)]
  unfold Tre.openAt
  rw [if_neg (by simp), if_neg (by decide +kernel)]
  rfl
theorem write_AF : treE2.write 4 0 0 [120, 121, 122] = (⟨0, 3, 0, 0, [], []⟩, treE3) := by
  unfold Tre.write
  rfl
theorem stat_AF : treE3.stat pAF true = ⟨0, 3, 1, 1, [], []⟩ := by
  unfold Tre.stat
  rw [find_AF treE3 true rfl rfl rfl rfl rfl]
  rfl
theorem stat_B : treE3.stat pB true = ansE 5 := by
  unfold Tre.stat
  rw [find_B treE3 true rfl rfl]
  rfl
theorem number_A : (treE3.find pA false).1.node = 2 := by rw [find_A treE3 false rfl rfl rfl]
theorem need_C : needSum treE3.nodes = 3 := by decide +kernel
theorem seen_C : (seen treE3.nodes 22 1 []).length = 3 := by decide +kernel
theorem low_C : ∀ n x, fnd treE3.nodes n = some x → rkA n ≤ 21 := fun n _ _ => by have := rkA_low n; omega
theorem rk_C : ∀ n x, fnd treE3.nodes n = some x → ∀ e ∈ x.names, rkA n < rkA e.2 ∧ e.1.length ≤ 24 ∧ ∃ y, fnd treE3.nodes e.2 = some y := by
  have h : (treE3.nodes.all fun p => p.2.names.all fun e => decide (rkA p.1 < rkA e.2) && decide (e.1.length ≤ 24) && (fnd treE3.nodes e.2).isSome) = true := by decide +kernel
  intro n x hx e he
  have h1 := (List.all_eq_true.1 ((List.all_eq_true.1 h) _ (fnd_some hx))) e he
  simp only [Bool.and_eq_true, decide_eq_true_eq] at h1
  exact ⟨h1.1.1, h1.1.2, Option.isSome_iff_exists.1 h1.2⟩
theorem need_small : ∀ n x, fnd treE3.nodes n = some x → 0 ≤ x.most ∧ x.most ≤ 1000000 ∧ x.wr.length ≤ 6 := by
  have h : (treE3.nodes.all fun p => decide (0 ≤ p.2.most) && decide (p.2.most ≤ 1000000) && decide (p.2.wr.length ≤ 6)) = true := by decide +kernel
  intro n x hx
  have h1 := (List.all_eq_true.1 h) _ (fnd_some hx)
  simp only [Bool.and_eq_true, decide_eq_true_eq] at h1
  exact ⟨h1.1.1, h1.1.2, h1.2⟩
end Go.Proofs.YtfhaedkaedffcaaGreatDoor
/- An operation as the laws write it. -/
namespace Go.Proofs.YtfhaedkaedffcaaGreatDoor
open Go.RowKit Go.Own
abbrev opW (k fd n off fl : Int) (p : Str) (dv : Value) : Value := .agg #[.int .i64 k, .int .i64 fd, .int .i64 n, .int .i64 off, .int .i64 fl, .string ⟨p.toArray⟩, .string ⟨#[]⟩, dv]
section
variable (a b c d : Int) (x y : Value) (w : World)
/-- The fields of an answer. -/
theorem ansF0 : (Instr.field 29 (.agg #[.int .i64 a, .int .i64 b, .int .i64 c, .int .i64 d, x, y]) 0).run Tryz.prog w = .ok (.int .i64 a) w := by kernel_rfl
theorem ansF1 : (Instr.field 29 (.agg #[.int .i64 a, .int .i64 b, .int .i64 c, .int .i64 d, x, y]) 1).run Tryz.prog w = .ok (.int .i64 b) w := by kernel_rfl
end
end Go.Proofs.YtfhaedkaedffcaaGreatDoor
/- TreeNamesRise, plain: directories made in the root, one by one. -/
namespace Go.Proofs.YtfhaedkaedffcaaGreatDoor
open Go.RowKit Go.Own
def nm2 (a b : Nat) : Str := [UInt8.ofNat (97 + a), UInt8.ofNat (97 + b)]
theorem good_nm2 : ∀ a b : Fin 26, GoodN (nm2 a.val b.val) := by
  unfold GoodN NameOk
  decide +kernel
/-- The root has so many names. -/
structure Nr (S : Tre) (k m : Nat) : Prop where
  gd : ∃ rk, Gd S rk k
  names : (S.at_ 1).names.length = m
  data : (S.at_ 1).data = []
theorem nr0 : Nr tre0 0 0 := ⟨⟨_, gd0⟩, rfl, rfl⟩
theorem Nr.mkdir {S : Tre} {k m : Nat} (h : Nr S k m) {nm : Str} (hn : GoodN nm) : ∃ c S' m', S.mkdir (47 :: nm) = (ansE c, S') ∧ (c = 0 ∧ m' = m + 1 ∨ c = 6 ∧ m' = m) ∧ Nr S' (k + 1) m' := by
  obtain ⟨rk, hg⟩ := h.gd
  have h1 := hg.fresh_one hn
  have hg2 := hg.mkdir (47 :: nm)
  unfold Tre.mkdir at hg2 ⊢
  rw [h1] at hg2 ⊢
  by_cases h0 : (fnd (S.at_ 1).names nm).getD 0 ≠ 0
  · rw [if_pos h0] at hg2 ⊢
    exact ⟨6, S, m, rfl, .inr ⟨rfl, rfl⟩, ⟨⟨rk, hg.mono (Nat.le_succ k)⟩, h.names, h.data⟩⟩
  · rw [if_neg h0] at hg2 ⊢
    have hl := hg.last1
    have hd := make_dir S ⟨0, 1, nm⟩ 2 [] (by dsimp only; omega)
    dsimp only at hd
    have hnone : fnd (S.at_ 1).names nm = none := by
      obtain ⟨x, hx⟩ := hg.x.has1
      rw [at_of hx] at h0 ⊢
      cases hf : fnd x.names nm with
      | none => rfl
      | some c =>
        rw [hf] at h0
        obtain ⟨_, _, y, hy, _⟩ := (hg.nod hx).ents _ (fnd_some hf)
        exact absurd (Classical.not_not.1 h0) (hg.ne0 hy)
    refine ⟨0, S.make ⟨0, 1, nm⟩ 2 [], m + 1, rfl, .inl ⟨rfl, rfl⟩, ⟨hg2, ?_, ?_⟩⟩
    · rw [at_of hd]
      show (putA _ _ _).length = _
      rw [putA_new _ (fnd_none.1 hnone), List.length_append, h.names]
      rfl
    · rw [at_of hd]
      exact h.data
theorem Nr.list {S : Tre} {k m : Nat} (h : Nr S k m) : ∃ l, S.list 18 [47] = ⟨0, 0, 0, 0, [], l⟩ ∧ l.length = m ∧ l.Pairwise (· < ·) := by
  obtain ⟨rk, hg⟩ := h.gd
  have h2 := hg.root2
  refine ⟨sortedS ((S.at_ 1).names.map Prod.fst), ?_, ?_, ?_⟩
  · unfold Tre.list
    have e : S.find [47] ((18 : Int) == 18) = (⟨1, 0, []⟩, 0) := find_root S _
    rw [e]
    rw [if_neg (fun h => h rfl), if_neg (fun h => h.2 h2), if_pos rfl]
  · rw [sortedS_len, List.length_map]; exact h.names
  · obtain ⟨x, hx⟩ := hg.x.has1
    have hu : ((S.at_ 1).names.map Prod.fst).Nodup := by rw [at_of hx]; exact (hg.nod hx).uniq
    have hnd := (sortedS_perm ((S.at_ 1).names.map Prod.fst)).nodup_iff.2 hu
    have hs := sortedS_sorted ((S.at_ 1).names.map Prod.fst)
    refine (hs.and hnd).imp ?_
    rintro a b ⟨h1, h2⟩
    rw [decide_eq_true_eq] at h1
    exact Classical.byContradiction fun h3 => h2 (List.le_antisymm h1 (List.not_lt.1 h3))
theorem Nr.stat {S : Tre} {k m : Nat} (h : Nr S k m) : S.stat [47] true = ⟨0, m, 2, 1, [], []⟩ := by
  obtain ⟨rk, hg⟩ := h.gd
  obtain ⟨x, hx⟩ := hg.x.has1
  have hr := (hg.nod hx).root rfl
  have hn := h.names
  have hd := h.data
  unfold Tre.stat
  simp only [find_root, ne_eq, not_true_eq_false, if_false]
  rw [hd, hn]
  rw [at_of hx, hr.1, hr.2.2.1]
  simp
section
variable (q : Nat) (S : Tre) (k m : Nat) (mx : Int) (w : World) (L : List HP) (hM : MxL mx L) (hk : k < 100000) (h : Nr S k m)
include hM hk h
theorem nMkdir (nm : Str) (hn : GoodN nm) (hO : Has w (Trc q S :: L)) : Calls Tryz.prog 17 #[.pointer (some ⟨q, 0, none⟩), opW 9 0 0 0 0 (47 :: nm) nilV] w fun e w' => ∃ c S' m', e = .returned (.agg #[.int .i64 c, .int .i64 0, .int .i64 0, .int .i64 0, .slice none 0 0, .slice none 0 0]) ∧ (c = 0 ∧ m' = m + 1 ∨ c = 6 ∧ m' = m) ∧ Nr S' (k + 1) m' ∧ Has w' (Trc q S' :: L) ∧ Keep w w' := by
  obtain ⟨rk, hg⟩ := h.gd
  obtain ⟨c, S', m', e1, h1, h2⟩ := h.mkdir hn
  have h3 := doMkdir q S 0 0 0 0 (47 :: nm) [] nilV w L rk mx hg.wk hg.wy (hg.opb (by omega)) hM (by have := hn.1.2.1; simp only [List.length_cons]; omega) hO
  rw [e1] at h3
  refine h3.mono ?_
  rintro e w' ⟨rfl, h4, h5⟩
  exact ⟨c, S', m', rfl, h1, h2, h4, h5⟩
theorem nList (hO : Has w (Trc q S :: L)) : Calls Tryz.prog 17 #[.pointer (some ⟨q, 0, none⟩), opW 18 0 0 0 0 [47] nilV] w fun e w' => ∃ p c l dp dc, e = .returned (.agg #[.int .i64 0, .int .i64 0, .int .i64 0, .int .i64 0, .slice dp 0 dc, .slice p l.length c]) ∧ l.length = m ∧ l.Pairwise (· < ·) ∧ Has w' (Strs (.slice p l.length c) l :: Trc q S :: L) ∧ Keep w w' := by
  obtain ⟨rk, hg⟩ := h.gd
  obtain ⟨l, e1, h1, h2⟩ := h.list
  have h3 := doReaddir q S 0 0 0 0 [47] [] nilV w L mx hg.wk hM (by simp) (fun n x hx => ⟨(hg.nod hx).size.1, by have := (hg.nod hx).size.2.2.1; omega⟩) hO
  rw [e1] at h3
  refine h3.mono ?_
  rintro e w' ⟨dv, nv, rfl, h4, h5⟩
  obtain ⟨dp, dc, rfl, -⟩ := (Bytes.rd h4).form
  obtain ⟨p, c, rfl, -⟩ := (Strs.rd h4.p1).form
  exact ⟨p, c, l, dp, dc, rfl, h1, h2, h4.drop, h5⟩
theorem nStat (hO : Has w (Trc q S :: L)) : Calls Tryz.prog 17 #[.pointer (some ⟨q, 0, none⟩), opW 16 0 0 0 0 [47] nilV] w fun e w' => e = .returned (.agg #[.int .i64 0, .int .i64 m, .int .i64 2, .int .i64 1, .slice none 0 0, .slice none 0 0]) ∧ Has w' (Trc q S :: L) ∧ Keep w w' := by
  obtain ⟨rk, hg⟩ := h.gd
  have h3 := doStat q S 0 0 0 0 [47] [] nilV w L mx hg.wk hM (by simp) (fun n x hx => ⟨(hg.nod hx).size.1, by have := (hg.nod hx).size.2.2.1; omega⟩) hO
  rw [h.stat] at h3
  exact h3
end
end Go.Proofs.YtfhaedkaedffcaaGreatDoor
/-
  DERIVED: THE SHELF's CONTRACTS AT THIS DUMP, IN PLAIN WORDS (tools/lay-plain.mjs out of 'TryzSrt.lean', which tools/lay-shelf.mjs wrote): THE SAME DECLARATIONS UNDER THE SAME NAMES: 'import', 'namespace', 'open', 'def', 'theorem' AND NOTHING ELSE: no command of the shelf's: FOR A HAND-IN. Each laying: the table of numbers ('.._ren') and one theorem, a field a fact of the dump's own or the kernel's comparison; each contract: ONE APPLICATION.
-/
namespace Go.Proofs
open Go.Shelf
def Tryz.sortNode_ren : Go.Shelf.Ren := ⟨fun | 6 => 62 | 15 => 112 | 14 => 111 | 28 => 158 | 29 => 159 | 20 => 150 | 21 => 151 | 22 => 152 | 23 => 153 | 24 => 154 | 25 => 155 | 26 => 156 | 27 => 157 | 46 => 180 | 47 => 181 | 48 => 182 | 49 => 183 | 50 => 184 | 57 => 201 | n => n, fun | 22 => 33 | 24 => 44 | 25 => 89 | 3 => 3 | 39 => 90 | 0 => 0 | 53 => 188 | 55 => 190 | 4 => 4 | 46 => 182 | 45 => 181 | 50 => 126 | 5 => 5 | 9 => 9 | 66 => 202 | 70 => 206 | 76 => 224 | 77 => 55 | n => n, fun | n => n⟩
theorem Tryz.sortNode : Go.Proofs.SlLaysF0.n6 Tryz.prog Tryz.sortNode_ren := {
  mixed := by kernel_rfl
  f6 := ⟨Tryz.f62.name, by decide, Tryz.func62.trans (congrArg some (by kernel_rfl))⟩
  f14 := ⟨Tryz.f111.name, by decide, Tryz.func111.trans (congrArg some (by kernel_rfl))⟩
  f15 := Tryz.func112.trans (congrArg some (by kernel_rfl))
  f20 := ⟨Tryz.f150.name, by decide, Tryz.func150.trans (congrArg some (by kernel_rfl))⟩
  f21 := ⟨Tryz.f151.name, by decide, Tryz.func151.trans (congrArg some (by kernel_rfl))⟩
  f22 := ⟨Tryz.f152.name, by decide, Tryz.func152.trans (congrArg some (by kernel_rfl))⟩
  f23 := ⟨Tryz.f153.name, by decide, Tryz.func153.trans (congrArg some (by kernel_rfl))⟩
  f24 := ⟨Tryz.f154.name, by decide, Tryz.func154.trans (congrArg some (by kernel_rfl))⟩
  f25 := ⟨Tryz.f155.name, by decide, Tryz.func155.trans (congrArg some (by kernel_rfl))⟩
  f26 := ⟨Tryz.f156.name, by decide, Tryz.func156.trans (congrArg some (by kernel_rfl))⟩
  f27 := ⟨Tryz.f157.name, by decide, Tryz.func157.trans (congrArg some (by kernel_rfl))⟩
  f28 := Tryz.func158.trans (congrArg some (by kernel_rfl))
  f29 := Tryz.func159.trans (congrArg some (by kernel_rfl))
  f46 := ⟨Tryz.f180.name, by decide, Tryz.func180.trans (congrArg some (by kernel_rfl))⟩
  f47 := Tryz.func181.trans (congrArg some (by kernel_rfl))
  f48 := Tryz.func182.trans (congrArg some (by kernel_rfl))
  f49 := ⟨Tryz.f183.name, by decide, Tryz.func183.trans (congrArg some (by kernel_rfl))⟩
  f50 := ⟨Tryz.f184.name, by decide, Tryz.func184.trans (congrArg some (by kernel_rfl))⟩
  f57 := ⟨Tryz.f201.name, by decide, Tryz.func201.trans (congrArg some (by kernel_rfl))⟩
  t0 := Tryz.underlying0
  a0 := Tryz.isAgg0
  z0 := Tryz.sizeOf0
  v0 := Tryz.zeroValue0
  t3 := Tryz.underlying3
  a3 := Tryz.isAgg3
  z3 := Tryz.sizeOf3
  v3 := Tryz.zeroValue3
  t4 := Tryz.underlying4
  a4 := Tryz.isAgg4
  z4 := Tryz.sizeOf4
  v4 := Tryz.zeroValue4
  t5 := Tryz.underlying5
  a5 := Tryz.isAgg5
  z5 := Tryz.sizeOf5
  v5 := Tryz.zeroValue5
  t9 := Tryz.underlying9
  a9 := Tryz.isAgg9
  z9 := Tryz.sizeOf9
  v9 := Tryz.zeroValue9
  t22 := Tryz.underlying33
  a22 := Tryz.isAgg33
  z22 := Tryz.sizeOf33
  v22 := Tryz.zeroValue33
  t25 := Tryz.underlying89
  a25 := Tryz.isAgg89
  z25 := Tryz.sizeOf89
  v25 := Tryz.zeroValue89
  t39 := Tryz.underlying90
  a39 := Tryz.isAgg90
  z39 := Tryz.sizeOf90
  v39 := Tryz.zeroValue90
  t45 := Tryz.underlying181
  a45 := Tryz.isAgg181
  z45 := Tryz.sizeOf181
  v45 := Tryz.zeroValue181
  t46 := Tryz.underlying182
  a46 := Tryz.isAgg182
  z46 := Tryz.sizeOf182
  v46 := Tryz.zeroValue182
  t50 := Tryz.underlying126
  a50 := Tryz.isAgg126
  z50 := Tryz.sizeOf126
  v50 := Tryz.zeroValue126
  t53 := Tryz.underlying188
  a53 := Tryz.isAgg188
  z53 := Tryz.sizeOf188
  v53 := Tryz.zeroValue188
  t55 := Tryz.underlying190
  a55 := Tryz.isAgg190
  z55 := Tryz.sizeOf190
  v55 := Tryz.zeroValue190
  t66 := Tryz.underlying202
  a66 := Tryz.isAgg202
  z66 := Tryz.sizeOf202
  v66 := Tryz.zeroValue202
  t70 := Tryz.underlying206
  a70 := Tryz.isAgg206
  z70 := Tryz.sizeOf206
  v70 := Tryz.zeroValue206
  t76 := Tryz.underlying224
  a76 := Tryz.isAgg224
  z76 := Tryz.sizeOf224
  v76 := Tryz.zeroValue224
  t77 := Tryz.underlying55
  a77 := Tryz.isAgg55
  z77 := Tryz.sizeOf55
  v77 := Tryz.zeroValue55 }
end Go.Proofs
/- slices.SortFunc of the files as they are seen. -/
namespace Go.Proofs.YtfhaedkaedffcaaGreatDoor
open Go.RowKit Go.Own Go.Sort Go.Shelf
theorem cb_lt : ∀ a b : List UInt8, Lib.compareBytes a b < 0 ↔ a < b
  | [], [] => by simp [Lib.compareBytes]
  | [], _ :: _ => by simp [Lib.compareBytes]
  | _ :: _, [] => by simp [Lib.compareBytes]
  | a :: r, b :: s => by
    rw [Lib.compareBytes, List.cons_lt_cons_iff, ← cb_lt r s]
    by_cases h1 : a < b
    · simp [h1]
    · by_cases h2 : b < a
      · have h3 : a ≠ b := by rintro rfl; exact absurd h2 (UInt8.lt_irrefl _)
        simp [h1, h2, h3]
      · have h3 : a = b := UInt8.le_antisymm (UInt8.not_lt.1 h2) (UInt8.not_lt.1 h1)
        simp [h1, h3]
def cfS (x y : Sn) : Int := Lib.compareBytes x.path y.path
theorem lt_eq (x y : Sn) : ltOf cfS x y = ltStr x.path y.path := by
  unfold ltOf cfS ltStr
  rw [decide_eq_decide]
  exact cb_lt _ _
theorem swoS : SWO (ltOf cfS) where
  irrefl x := by rw [lt_eq]; exact swo_ltStr.irrefl _
  trans x y z h1 h2 := by rw [lt_eq] at *; exact swo_ltStr.trans _ _ _ h1 h2
  ntrans x y z h1 h2 := by rw [lt_eq] at *; exact swo_ltStr.ntrans _ _ _ h1 h2
theorem snEnc_flat : ∀ os : List Sn, snEnc os = os.flatMap Sn.enc
  | [] => rfl
  | s :: r => by rw [snEnc, snEnc_flat r]; rfl
instance : Inhabited Sn := ⟨⟨[], 0, 0, 0, [], .slice none 0 0⟩⟩
theorem oneV_one (v : Value) : (oneV v).oneCell' = true := by cases v <;> rfl
theorem enc_one (x : Sn) : ∀ v ∈ x.enc, v.oneCell' = true := by
  intro v hv
  simp only [Sn.enc, List.mem_cons, List.not_mem_nil, or_false] at hv
  rcases hv with rfl | rfl | rfl | rfl | rfl
  · rfl
  · rfl
  · rfl
  · rfl
  · exact oneV_one _
theorem sortsNd : SortsNd := by
  intro v os w L hne hl hO
  have h := sns_iff.1 hO
  obtain ⟨-, ⟨-, h0, -, -⟩ | ⟨g, cap, cur, rfl, -, -, -, -, h4⟩⟩ := h.row_cases
  · exact absurd (List.eq_nil_of_length_eq_zero h0) hne
  obtain ⟨-, hcs, hfz, -⟩ := h.row_cells
  have hH : HoldsK Sn.enc 5 w g 0 os.toArray := by
    intro j hj
    have hj' : j < os.length * 5 := by simpa using hj
    rw [Nat.zero_add]
    refine ⟨?_, hfz j⟩
    rw [hcs j hj', snEnc_flat]
    have h1 := flatK_list Sn.enc 5 (by decide) (fun _ => rfl) os.toArray
    have h2 : (os.flatMap Sn.enc)[j]? = (flatK Sn.enc 5 os.toArray).toList[j]? := by rw [h1]
    rw [h2, Array.getElem?_toList, Array.getElem?_eq_getElem hj, getElem!_pos _ j hj]
    rfl
  have eg : ∀ args w, (callFunc 63 args).run Tryz.prog w = .ok (.enter 63 args) w := enters_of Tryz.func63 (by kernel_rfl) rfl
  have hcon := AnyQ.slices_SortFunc Tryz.sortNode 5 Tryz.isAgg44 Tryz.sizeOf44 Sn.enc (fun _ => rfl) enc_one cfS swoS 63 #[] g 0 cap os.toArray w eg (fun _ _ _ _ x y => tCmp x y _) hH h4.lt (by simp; omega)
  refine Calls.mono (show Calls Tryz.prog 62 #[.slice (some ⟨g, 0, none⟩) os.length cap, .func (.func 63) #[] #[]] w _ from hcon) ?_
  rintro e w' ⟨rfl, d', n, os2, hp, hs, rfl⟩
  have hsz : d'.size = os.length := by have := hp.1; simpa using this
  have hpm : d'.toList.Perm os := by
    have h1 := hp.2.2
    have e1 : d'.extract 0 os.toArray.size = d' := by
      rw [List.size_toArray, ← hsz]
      simp
    have e2 : os.toArray.extract 0 os.toArray.size = os.toArray := by simp
    rw [e1, e2] at h1
    simpa using h1
  refine ⟨rfl, d'.toList, hpm, ?_, ?_, rfl, rfl, rfl, by simp [sortWorldK, Sort.grow, putRowK, Sort.putRow, Sort.mapBlock, Sort.ahead]⟩
  · unfold Srt
    rw [List.pairwise_iff_getElem]
    intro i j hi hj hij
    have hi' : i < d'.size := by simpa using hi
    have hj' : j < d'.size := by simpa using hj
    have h1 := hs i j (Nat.zero_le _) hij (by rw [List.size_toArray, ← hsz]; exact hj')
    rw [getElem!_pos d' i hi', getElem!_pos d' j hj'] at h1
    unfold ltOf at h1
    rw [Array.getElem_toList, Array.getElem_toList]
    exact of_decide_eq_false h1
  · have h5 := ((Has.ahead h n).putRowK Sn.enc (by decide) (fun _ => rfl) (d := d') hsz).grow os2
    refine sns_iff.2 ?_
    have e9 : d'.toList.length = os.length := by rw [Array.length_toList]; exact hsz
    rw [snEnc_flat, e9]
    exact h5.perm (.cons _ (List.Perm.append_right L (hpm.map _).symm))
end Go.Proofs.YtfhaedkaedffcaaGreatDoor
/- THE WALK of tree.Do, by the kinds of operations. -/
namespace Go.Proofs.YtfhaedkaedffcaaGreatDoor
open Go.RowKit Go.Own
set_option maxRecDepth 100000 in
set_option maxHeartbeats 8000000 in
theorem doOpen (q : Nat) (S : Tre) (fd n off flags : Int) (path dest : Str) (ov : Value) (w : World) (L : List HP) (rk : Int → Nat) (mx : Int) (hW : Wk S) (hY : Wy S rk) (hB : Opb S) (hM : MxL mx L) (hp : path.length ≤ 100000) (hno4 : andI flags 4 = 0) (hO : Has w (Trc q S :: L)) :
    Calls Tryz.prog 17 #[.pointer (some ⟨q, 0, none⟩), opV ⟨1, fd, n, off, flags, path, dest⟩ (ov)] w fun e w' => e = .returned (ansV (S.openFd path flags).1 nilV nilV) ∧ Has w' (Trc q (S.openFd path flags).2 :: L) ∧ Keep w w' := by
  have HX0 := (fun (w : World) (L' : List HP) (hM : MxL mx L') (hO : Has w (Trc q S :: L')) => tOpen q S rk ⟨1, fd, n, off, flags, path, dest⟩ ov mx w L' hW hY hB hM hp hno4 hO)
  dsimp only at HX0
  have HX := hid HX0
  clear HX0
  have HM := hid hM
  clear hM
  generalize S.openFd path flags = R at *
  have HO := hid hO
  clear hO
  unfold opV opC at HX ⊢
  go_enter Tryz.func17, Tryz.ntmps17
  go_upto_region 1 with fail
  have h1 := (HO.out.alloc (.cells #[.int .i64 1, .int .i64 fd, .int .i64 n, .int .i64 off, .int .i64 flags, sV path, sV dest, ov] 32)).alloc (.cells (ansC (ansE 0) nilV nilV) 29)
  have HK1 := hid (((Keep.refl w).alloc (.cells #[.int .i64 1, .int .i64 fd, .int .i64 n, .int .i64 off, .int .i64 flags, sV path, sV dest, ov] 32)).alloc (.cells (ansC (ansE 0) nilV nilV) 29))
  unfold ansC ansE at h1 HK1
  have e1 : (w.alloc (.cells #[.int .i64 1, .int .i64 fd, .int .i64 n, .int .i64 off, .int .i64 flags, sV path, sV dest, ov] 32)).heap.size = w.heap.size + 1 := by show (Array.push _ _).size = _; rw [Array.size_push]
  rw [e1] at h1
  have HO1 := hid h1
  clear h1 e1 HO
  generalize (w.alloc (.cells #[.int .i64 1, .int .i64 fd, .int .i64 n, .int .i64 off, .int .i64 flags, sV path, sV dest, ov] 32)).alloc (.cells #[.int .i64 0, .int .i64 0, .int .i64 0, .int .i64 0, nilV, nilV] 29) = w1 at *
  generalize w.heap.size = g3 at *
  generalize g3 + 1 = g4 at *
  have hp0 : w1.cell? ⟨g3, 0, none⟩ = some (.int .i64 1) := HO1.out.p1.cells 0
  have hp1 : w1.cell? ⟨g3, 1, none⟩ = some (.int .i64 fd) := HO1.out.p1.cells 1
  have hp2 : w1.cell? ⟨g3, 2, none⟩ = some (.int .i64 n) := HO1.out.p1.cells 2
  have hp3 : w1.cell? ⟨g3, 3, none⟩ = some (.int .i64 off) := HO1.out.p1.cells 3
  have hp4 : w1.cell? ⟨g3, 4, none⟩ = some (.int .i64 flags) := HO1.out.p1.cells 4
  have hp5 : w1.cell? ⟨g3, 5, none⟩ = some (sV path) := HO1.out.p1.cells 5
  have hp6 : w1.cell? ⟨g3, 6, none⟩ = some (sV dest) := HO1.out.p1.cells 6
  have hp7 : w1.cell? ⟨g3, 7, none⟩ = some (ov) := HO1.out.p1.cells 7
  go_wp2_with fail
  refine (HX.out w1 _ ((HM.out.cons (pt g3 (.cells #[.int .i64 1, .int .i64 fd, .int .i64 n, .int .i64 off, .int .i64 flags, sV path, sV dest, ov] 32))).cons (pt g4 (.cells #[.int .i64 0, .int .i64 0, .int .i64 0, .int .i64 0, nilV, nilV] 29))) (HO1.out.re 3 [2, 0, 1])).mono ?_
  rintro e w2 ⟨rfl, hO2, hK2⟩
  have HO2 := hid hO2
  have HK2 := hid ((HK1.out).trans hK2)
  clear hO2 hK2
  try dsimp only
  have HO3 := hid (show Has w2 (pt g4 (.cells (ansC (ansE 0) nilV nilV) 29) :: Trc q R.2 :: L) from HO2.out.re 3 [1, 0])
  have hz0 : w2.cell? ⟨g4, 0, none⟩ = some (.int .i64 0) := (HO3.out).cells 0
  have hz1 : w2.cell? ⟨g4, 1, none⟩ = some (.int .i64 0) := (HO3.out).cells 1
  have hz2 : w2.cell? ⟨g4, 2, none⟩ = some (.int .i64 0) := (HO3.out).cells 2
  have hz3 : w2.cell? ⟨g4, 3, none⟩ = some (.int .i64 0) := (HO3.out).cells 3
  have hz4 : w2.cell? ⟨g4, 4, none⟩ = some (.slice none 0 0) := (HO3.out).cells 4
  have hz5 : w2.cell? ⟨g4, 5, none⟩ = some (.slice none 0 0) := (HO3.out).cells 5
  have hy0 := (HO3.out).thaw 0
  have hy1 := (HO3.out).thaw 1
  have hy2 := (HO3.out).thaw 2
  have hy3 := (HO3.out).thaw 3
  have hy4 := (HO3.out).thaw 4
  have hy5 := (HO3.out).thaw 5
  unfold ansV ansC
  go_wp2_with fail
  have h1 := HO3.out.ans R.1 nilV nilV
  refine bodyPost_ret (ans_result rfl rfl h1) rfl ?_
  exact ⟨rfl, h1.drop, HK2.out.ans _ _ _ _ _ _ _⟩
end Go.Proofs.YtfhaedkaedffcaaGreatDoor
/- THE WALK of chapter 14's 'awake'. -/
namespace Go.Proofs.YtfhaedkaedffcaaGreatDoor
open Go.RowKit Go.Own
section
variable (q : Nat) (mx : Int) (w : World) (L : List HP) (hM : MxL mx L)
include hM
theorem akMkdir (hO : Has w (Trc q tre0 :: L)) : Calls Tryz.prog 17 #[.pointer (some ⟨q, 0, none⟩), opW 9 0 0 0 0 [47, 97] nilV] w fun e w' => e = .returned (ansV (ansE 0) nilV nilV) ∧ Has w' (Trc q treE1 :: L) ∧ Keep w w' := by
  have h := doMkdir q tre0 0 0 0 0 pA [] nilV w L rkA mx (wk_of wk_0).1 (wy_of wy_0 rkA_low) (opb_of opb_0 wk_0) hM (by decide) hO
  rw [mkdir_A] at h
  exact h
theorem akOpen (hO : Has w (Trc q treE1 :: L)) : Calls Tryz.prog 17 #[.pointer (some ⟨q, 0, none⟩), opW 1 0 0 0 33 [47, 97, 47, 102] nilV] w fun e w' => e = .returned (ansV (ansE 0) nilV nilV) ∧ Has w' (Trc q treE2 :: L) ∧ Keep w w' := by
  have h := doOpen q treE1 0 0 0 33 pAF [] nilV w L rkA mx (wk_of wk_A).1 (wy_of wy_A rkA_low) (opb_of opb_A wk_A) hM (by decide) (by decide +kernel) hO
  rw [open_AF] at h
  exact h
theorem akStatF (hO : Has w (Trc q treE3 :: L)) : Calls Tryz.prog 17 #[.pointer (some ⟨q, 0, none⟩), opW 16 0 0 0 0 [47, 97, 47, 102] nilV] w fun e w' => e = .returned (ansV ⟨0, 3, 1, 1, [], []⟩ nilV nilV) ∧ Has w' (Trc q treE3 :: L) ∧ Keep w w' := by
  have h := doStat q treE3 0 0 0 0 pAF [] nilV w L mx (wk_of wk_C).1 hM (by decide) (fun n x hx => ⟨((wk_of wk_C).2 n x hx).1, by have := ((wk_of wk_C).2 n x hx).2.2; omega⟩) hO
  rw [stat_AF] at h
  exact h
theorem akStatB (hO : Has w (Trc q treE3 :: L)) : Calls Tryz.prog 17 #[.pointer (some ⟨q, 0, none⟩), opW 16 0 0 0 0 [47, 98] nilV] w fun e w' => e = .returned (ansV (ansE 5) nilV nilV) ∧ Has w' (Trc q treE3 :: L) ∧ Keep w w' := by
  have h := doStat q treE3 0 0 0 0 pB [] nilV w L mx (wk_of wk_C).1 hM (by decide) (fun n x hx => ⟨((wk_of wk_C).2 n x hx).1, by have := ((wk_of wk_C).2 n x hx).2.2; omega⟩) hO
  rw [stat_B] at h
  exact h
theorem akNumber (hO : Has w (Trc q treE3 :: L)) : Calls Tryz.prog 22 #[.pointer (some ⟨q, 0, none⟩), .string ⟨#[47, 97]⟩] w fun e w' => e = .returned (.int .i64 2) ∧ Has w' (Trc q treE3 :: L) ∧ Keep w w' := by
  have h := tNumber q treE3 pA mx w L (wk_of wk_C).1 hM (by decide) hO
  rw [number_A] at h
  exact h
end
theorem _root_.Go.Own.Has.dropL {w : World} {L : List HP} (A : List HP) (h : Has w (A ++ L)) : Has w L := by
  induction A with
  | nil => exact h
  | cons a A ih => exact ih h.drop
theorem akWrite (q g : Nat) (w : World) (L : List HP) (hO : Has w (Trc q treE2 :: pt g (.cells #[.int .u8 120, .int .u8 121, .int .u8 122] 5 (3, 4)) :: L)) : Calls Tryz.prog 17 #[.pointer (some ⟨q, 0, none⟩), opW 4 0 0 0 0 [] (.slice (some ⟨g, 0, none⟩) 3 3)] w fun e w' => ∃ p c, e = .returned (ansV ⟨0, 3, 0, 0, [], []⟩ (.slice p 0 c) nilV) ∧ Has w' (Trc q treE3 :: L) ∧ Keep w w' := by
  have h := doWrite4 q treE2 0 0 0 0 [] [] (some ⟨g, 0, none⟩) 3 [120, 121, 122] w (pt g (.cells #[.int .u8 120, .int .u8 121, .int .u8 122] 5 (3, 4)) :: L) (opn_of opn_B wk_B) (by decide) (by decide) (fun w' h' => ⟨rfl, by decide, some ⟨g, 0, none⟩, 3, rfl, by decide, fun _ => ⟨g, 0, rfl, fun j _ => by rw [Nat.zero_add]; exact (h'.cells j).trans (by simp [bc])⟩⟩) hO
  rw [write_AF] at h
  refine Calls.mono (show Calls Tryz.prog 17 #[.pointer (some ⟨q, 0, none⟩), opW 4 0 0 0 0 [] (.slice (some ⟨g, 0, none⟩) 3 3)] w _ from h) ?_
  rintro e w' ⟨dv, rfl, h1, h2⟩
  obtain ⟨p, c, rfl, -⟩ := (Bytes.rd h1).form
  exact ⟨p, c, rfl, (h1.re 3 [1]), h2⟩
theorem akNeed (q : Nat) (w : World) (L : List HP) (hO : Has w (Trc q treE3 :: L)) : Calls Tryz.prog 28 #[.pointer (some ⟨q, 0, none⟩)] w fun e w' => e = .returned (.tuple #[.int .i64 3, .int .i64 3]) ∧ Has w' (Trc q treE3 :: L) ∧ Keep w w' := by
  have h := tNeed q treE3 w L need_small (by decide) hO
  rw [need_C] at h
  exact h
theorem akNodes (q : Nat) (w : World) (L : List HP) (hO : Has w (Trc q treE3 :: L)) : Calls Tryz.prog 18 #[.pointer (some ⟨q, 0, none⟩)] w fun e w' => ∃ p c, e = .returned (.slice p 3 c) ∧ Has w' (Trc q treE3 :: L) ∧ Keep w w' := by
  refine (tNodes sortsNd q treE3 _ rkA w L rfl (fun n x hx => ((wk_of wk_C).2 n x hx).1) low_C rk_C (by rw [seen_C]; decide) hO).mono ?_
  rintro e w' ⟨v, os, rfl, hp, -, h1, h2⟩
  have hl : os.length = 3 := by
    have h3 := hp.length_eq
    rw [List.length_map, List.length_map, seen_C] at h3
    exact h3
  obtain ⟨p, c, rfl, -⟩ := (Has.rd (sns_iff.1 h1)).form
  exact ⟨p, c, by rw [hl], Has.dropL _ (sns_iff.1 h1).drop, h2⟩
set_option maxRecDepth 100000 in
set_option maxHeartbeats 8000000 in
theorem awake14 (mx : Int) (w : World) (L : List HP) (hM : MxL mx L) (hO : Has w L) :
    Calls Tryz.prog 15 #[] w fun e w' => e = .returned (.bool true) ∧ Has w' L ∧ Keep w w' := by
  have HO := hid hO
  have HM := hid hM
  clear hO hM
  have kc := fun (w : World) (C : Array Value) (n c : Nat) => Lib.run_convert_bytes_const (P := Tryz.prog) w 22 5 C n c Tryz.underlying22 Tryz.underlying5
  go_enter Tryz.func15, Tryz.ntmps15
  go_wp2_with fail
  refine (tNew w L HO.out).mono ?_
  rintro e w1 ⟨q, rfl, hO1, hK1⟩
  have HO1 := hid hO1
  have HK1 := hid ((Keep.refl w).trans hK1)
  clear hO1 hK1
  try dsimp only
  go_wp2_with fail
  refine (akMkdir q mx w1 _ HM.out HO1.out).mono ?_
  rintro e w2 ⟨rfl, hO2, hK2⟩
  have HO2 := hid hO2
  have HK2 := hid ((HK1.out).trans hK2)
  clear hO2 hK2
  try dsimp only
  unfold ansV ansC
  try unfold ansE
  go_upto_region 5 with fail
  have HP2 := hid (HO2.out.alloc (.cells #[.int .i64 0, .int .i64 0, .int .i64 0, .int .i64 0, .slice none 0 0, .slice none 0 0] 29)).p1
  have HK2 := hid (HK2.out.alloc (.cells #[.int .i64 0, .int .i64 0, .int .i64 0, .int .i64 0, .slice none 0 0, .slice none 0 0] 29))
  generalize w2.alloc (.cells #[.int .i64 0, .int .i64 0, .int .i64 0, .int .i64 0, .slice none 0 0, .slice none 0 0] 29) = v2 at *
  generalize w2.heap.size = g2 at *
  go_wp2_with fail
  refine (akOpen q mx v2 _ (HM.out.cons _) HP2.out).mono ?_
  rintro e w3 ⟨rfl, hO3, hK3⟩
  have HO3 := hid hO3
  have HK3 := hid ((HK2.out).trans hK3)
  clear hO3 hK3
  try dsimp only
  unfold ansV ansC
  try unfold ansE
  go_upto_region 6 with fail
  have HP3 := hid (HO3.out.alloc (.cells #[.int .i64 0, .int .i64 0, .int .i64 0, .int .i64 0, .slice none 0 0, .slice none 0 0] 29)).p1
  have HK3 := hid (HK3.out.alloc (.cells #[.int .i64 0, .int .i64 0, .int .i64 0, .int .i64 0, .slice none 0 0, .slice none 0 0] 29))
  generalize w3.alloc (.cells #[.int .i64 0, .int .i64 0, .int .i64 0, .int .i64 0, .slice none 0 0, .slice none 0 0] 29) = v3 at *
  generalize w3.heap.size = g3 at *
  have HB3 := hid (HP3.out.alloc (.cells #[.int .u8 120, .int .u8 121, .int .u8 122] 5 (3, 4))).p1
  have HQ3 := hid (HK3.out.alloc (.cells #[.int .u8 120, .int .u8 121, .int .u8 122] 5 (3, 4)))
  go_wp2_with fail
  refine (akWrite q v3.heap.size _ _ HB3.out).mono ?_
  rintro e w4 ⟨p4, c4, rfl, hO4, hK4⟩
  have HO4 := hid hO4
  have HK4 := hid ((HQ3.out).trans hK4)
  clear hO4 hK4
  try dsimp only
  unfold ansV ansC
  try unfold ansE
  go_upto_region 7 with fail
  have HP4 := hid (HO4.out.alloc (.cells #[.int .i64 0, .int .i64 3, .int .i64 0, .int .i64 0, .slice p4 0 c4, .slice none 0 0] 29)).p1
  have HK4 := hid (HK4.out.alloc (.cells #[.int .i64 0, .int .i64 3, .int .i64 0, .int .i64 0, .slice p4 0 c4, .slice none 0 0] 29))
  generalize w4.alloc (.cells #[.int .i64 0, .int .i64 3, .int .i64 0, .int .i64 0, .slice p4 0 c4, .slice none 0 0] 29) = v4 at *
  generalize w4.heap.size = g4 at *
  go_wp2_with fail
  refine (akStatF q mx v4 _ (((HM.out.cons _).cons _).cons _) HP4.out).mono ?_
  rintro e w5 ⟨rfl, hO5, hK5⟩
  have HO5 := hid hO5
  have HK5 := hid ((HK4.out).trans hK5)
  clear hO5 hK5
  try dsimp only
  unfold ansV ansC
  try unfold ansE
  go_upto_region 8 with fail
  have HP5 := hid (HO5.out.alloc (.cells #[.int .i64 0, .int .i64 3, .int .i64 1, .int .i64 1, .slice none 0 0, .slice none 0 0] 29)).p1
  have HK5 := hid (HK5.out.alloc (.cells #[.int .i64 0, .int .i64 3, .int .i64 1, .int .i64 1, .slice none 0 0, .slice none 0 0] 29))
  generalize w5.alloc (.cells #[.int .i64 0, .int .i64 3, .int .i64 1, .int .i64 1, .slice none 0 0, .slice none 0 0] 29) = v5 at *
  generalize w5.heap.size = g5 at *
  go_wp2_with fail
  refine (akStatB q mx v5 _ ((((HM.out.cons _).cons _).cons _).cons _) HP5.out).mono ?_
  rintro e w6 ⟨rfl, hO6, hK6⟩
  have HO6 := hid hO6
  have HK6 := hid ((HK5.out).trans hK6)
  clear hO6 hK6
  try dsimp only
  unfold ansV ansC
  try unfold ansE
  go_upto_region 9 with fail
  have HP6 := hid (HO6.out.alloc (.cells #[.int .i64 5, .int .i64 0, .int .i64 0, .int .i64 0, .slice none 0 0, .slice none 0 0] 29)).p1
  have HK6 := hid (HK6.out.alloc (.cells #[.int .i64 5, .int .i64 0, .int .i64 0, .int .i64 0, .slice none 0 0, .slice none 0 0] 29))
  generalize w6.alloc (.cells #[.int .i64 5, .int .i64 0, .int .i64 0, .int .i64 0, .slice none 0 0, .slice none 0 0] 29) = v6 at *
  generalize w6.heap.size = g6 at *
  go_wp2_with fail
  refine (akNeed q v6 _ HP6.out).mono ?_
  rintro e w7 ⟨rfl, hO7, hK7⟩
  have HO7 := hid hO7
  have HK7 := hid ((HK6.out).trans hK7)
  clear hO7 hK7
  try dsimp only
  have HS := hid (HO7.out.re 6 [1, 2, 3, 4, 5, 0])
  have c6 : w7.cell? ⟨g6, 0, none⟩ = some (.int .i64 5) := HS.out.cells 0
  have c50 : w7.cell? ⟨g5, 0, none⟩ = some (.int .i64 0) := HS.out.p1.cells 0
  have c51 : w7.cell? ⟨g5, 1, none⟩ = some (.int .i64 3) := HS.out.p1.cells 1
  have c52 : w7.cell? ⟨g5, 2, none⟩ = some (.int .i64 1) := HS.out.p1.cells 2
  have c53 : w7.cell? ⟨g5, 3, none⟩ = some (.int .i64 1) := HS.out.p1.cells 3
  have c4 : w7.cell? ⟨g4, 1, none⟩ = some (.int .i64 3) := HS.out.p2.cells 1
  have c3 : w7.cell? ⟨g3, 0, none⟩ = some (.int .i64 0) := HS.out.p3.cells 0
  have c2 : w7.cell? ⟨g2, 0, none⟩ = some (.int .i64 0) := HS.out.p4.cells 0
  go_wp2_with fail
  refine (akNodes q w7 _ HO7.out).mono ?_
  rintro e w8 ⟨p8, c8, rfl, hO8, hK8⟩
  have HO8 := hid hO8
  have HK8 := hid ((HK7.out).trans hK8)
  clear hO8 hK8
  try dsimp only
  go_wp2_with fail
  refine (akNumber q mx w8 _ (((((HM.out.cons _).cons _).cons _).cons _).cons _) HO8.out).mono ?_
  rintro e w9 ⟨rfl, hO9, hK9⟩
  have HO9 := hid hO9
  have HK9 := hid ((HK8.out).trans hK9)
  clear hO9 hK9
  try dsimp only
  go_wp2_with fail
  go_ret
  exact ⟨rfl, HO9.out.drop.drop.drop.drop.drop.drop, HK9.out⟩
end Go.Proofs.YtfhaedkaedffcaaGreatDoor
/- Plain facts: one file f, and what is done to it by what is open. No program in sight. -/
namespace Go.Proofs.YtfhaedkaedffcaaGreatDoor
open Go.RowKit Go.Own
def tabB (s t : Tb.Slot) : List Tb.Slot := s :: t :: List.replicate 14 Tb.none4
section
variable {d : List Int} {wr : List Bool} {T : List Tb.Slot} {fd : Int} {s : Tb.Slot}
def cutD (d : List Int) (size : Nat) : List Int := if size ≤ d.length then d.take size else d ++ List.replicate (size - d.length) 0
def cutW (d : List Int) (wr : List Bool) (size : Nat) : List Bool := if size ≤ d.length then wr.take (needM size) else wr
def wrD (d : List Int) (o : Nat) (ds : List Int) : List Int := (cutD d (max d.length (o + ds.length))).take o ++ ds ++ (cutD d (max d.length (o + ds.length))).drop (o + ds.length)
def wrW (d : List Int) (wr : List Bool) (o : Nat) (ds : List Int) : List Bool := wrSet (cutW d wr (max d.length (o + ds.length)) ++ List.replicate (needM (o + ds.length) - (cutW d wr (max d.length (o + ds.length))).length) false) (o / 128) (needM (o + ds.length))
/-- Where a write stands. -/
def wrO (d : List Int) (s : Tb.Slot) : Int := if andI s.flags 8 ≠ 0 then (d.length : Int) else s.off
end
end Go.Proofs.YtfhaedkaedffcaaGreatDoor
