/- TEXTS of mine, merged. -/
import Derived.Test.YtfhaedkaedffcaaGreatDoorM12
import Derived.Test.YtfhaedkaedffcaaGreatDoorM9
import Derived.Test.YtfhaedkaedffcaaGreatDoorM11
import Derived.Test.YtfhaedkaedffcaaGreatDoorM1
import Derived.Laws.CopyOwn
import Derived.Laws.IdiomCopy
/- THE WALK of tree.Need (files of at most six blocks). -/
namespace Go.Proofs.YtfhaedkaedffcaaGreatDoor
open Go.RowKit Go.Own
theorem kInt_val (x : Int) : kInt.val x = .int .i64 x := rfl
theorem vPtr_val (b : Nat) : vPtr.val (some b) = .pointer (some ⟨b, 0, none⟩) := rfl
def needSum (t : List (Int × Nod)) : Int := (t.map fun p => blocksM p.2).sum
def sumR : List Pn → List Int → Int
  | [], _ => 0
  | p :: P, rem => (if p.1 ∈ rem then 0 else blocksM p.2.2) + sumR P rem
theorem sumR_nil : ∀ P : List Pn, sumR P [] = needSum (pnN P)
  | [] => rfl
  | p :: P => by
    rw [sumR, sumR_nil P, if_neg (by simp)]
    simp [needSum, pnN]
theorem sumR_all : ∀ (P : List Pn) (rem : List Int), (∀ p ∈ P, p.1 ∈ rem) → sumR P rem = 0
  | [], _, _ => rfl
  | p :: P, rem, h => by
    rw [sumR, sumR_all P rem (fun q hq => h q (List.mem_cons_of_mem _ hq)), if_pos (h p List.mem_cons_self)]
    rfl
theorem sumR_off : ∀ (P : List Pn) (rem : List Int) (n : Int), n ∉ P.map Prod.fst → sumR P (rem.filter fun y => !decide (y = n)) = sumR P rem
  | [], _, _, _ => rfl
  | p :: P, rem, n, h => by
    simp only [List.map_cons, List.mem_cons, not_or] at h
    rw [sumR, sumR, sumR_off P rem n h.2]
    have : p.1 ∈ rem.filter (fun y => !decide (y = n)) ↔ p.1 ∈ rem := by simp [Ne.symm h.1]
    by_cases h2 : p.1 ∈ rem
    · rw [if_pos h2, if_pos (this.2 h2)]
    · rw [if_neg h2, if_neg (fun h => h2 (this.1 h))]
theorem sumR_step : ∀ (P1 P2 : List Pn) (rem : List Int) (n : Int) (b : Nat) (x : Nod), ((P1 ++ (n, b, x) :: P2).map Prod.fst).Nodup → n ∈ rem → sumR (P1 ++ (n, b, x) :: P2) (rem.filter fun y => !decide (y = n)) = sumR (P1 ++ (n, b, x) :: P2) rem + blocksM x
  | [], P2, rem, n, b, x, hd, hr => by
    simp only [List.nil_append, List.map_cons, List.nodup_cons] at hd
    rw [List.nil_append, sumR, sumR, sumR_off P2 rem n hd.1, if_pos hr, if_neg (by simp)]
    show blocksM x + _ = 0 + _ + blocksM x
    omega
  | p :: P1, P2, rem, n, b, x, hd, hr => by
    have hd0 := hd
    simp only [List.cons_append, List.map_cons, List.nodup_cons] at hd
    have hne : p.1 ≠ n := by
      intro e
      exact hd.1 (by rw [e]; simp)
    rw [List.cons_append, sumR, sumR, sumR_step P1 P2 rem n b x hd.2 hr]
    have : p.1 ∈ rem.filter (fun y => !decide (y = n)) ↔ p.1 ∈ rem := by simp [hne]
    by_cases h2 : p.1 ∈ rem
    · rw [if_pos h2, if_pos (this.2 h2)]; omega
    · rw [if_neg h2, if_neg (fun h => h2 (this.1 h))]; omega
theorem blocksM_low (x : Nod) (h0 : 0 ≤ x.most) (h1 : x.most ≤ 1000000) (h2 : x.wr.length ≤ 6) : 0 ≤ blocksM x ∧ blocksM x ≤ 1000000 := by
  unfold blocksM
  split
  · omega
  · split
    · omega
    · have := List.length_filter_le id x.wr
      omega
theorem sumR_low : ∀ (P : List Pn) (rem : List Int), (∀ p ∈ P, 0 ≤ blocksM p.2.2 ∧ blocksM p.2.2 ≤ 1000000) → 0 ≤ sumR P rem ∧ sumR P rem ≤ P.length * 1000000
  | [], _, _ => by simp [sumR]
  | p :: P, rem, h => by
    have h1 := sumR_low P rem fun q hq => h q (List.mem_cons_of_mem _ hq)
    have h2 := h p List.mem_cons_self
    rw [sumR, List.length_cons]
    split <;> omega
theorem pnC_pull3 {w : World} {L : List HP} {A B C : HP} {P1 P2 : List Pn} {p : Pn} : Has w (A :: B :: C :: (pnC (P1 ++ p :: P2) ++ L)) ↔ Has w (Ndc p.2.1 p.2.2 :: A :: B :: C :: (pnC (P1 ++ P2) ++ L)) := by
  have e : (A :: B :: C :: (pnC (P1 ++ p :: P2) ++ L)).Perm (Ndc p.2.1 p.2.2 :: A :: B :: C :: (pnC (P1 ++ P2) ++ L)) := by
    have h1 : (pnC (P1 ++ p :: P2) ++ L).Perm (Ndc p.2.1 p.2.2 :: (pnC (P1 ++ P2) ++ L)) := by
      unfold pnC
      rw [List.map_append, List.map_cons, List.map_append]
      simp only [List.append_assoc, List.cons_append]
      exact List.perm_middle
    refine (((h1.cons C).cons B).cons A).trans ?_
    refine List.Perm.trans (((List.Perm.swap _ _ _).cons B).cons A) ?_
    refine List.Perm.trans ((List.Perm.swap _ _ _).cons A) ?_
    exact List.Perm.swap _ _ _
  exact ⟨fun h => h.perm e, fun h => h.perm e.symm⟩
set_option maxRecDepth 100000 in
set_option maxHeartbeats 4000000 in
theorem tNeed (q : Nat) (S : Tre) (w : World) (L : List HP) (hb : ∀ n x, fnd S.nodes n = some x → 0 ≤ x.most ∧ x.most ≤ 1000000 ∧ x.wr.length ≤ 6) (hn : S.nodes.length ≤ 1000) (hO : Has w (Trc q S :: L)) :
    Calls Tryz.prog 28 #[.pointer (some ⟨q, 0, none⟩)] w fun e w' => e = .returned (.tuple #[.int .i64 (needSum S.nodes), .int .i64 (S.nodes.length : Int)]) ∧ Has w' (Trc q S :: L) ∧ Keep w w' := by
  obtain ⟨m, f, P, hPT, h⟩ := trc_iff.1 hO
  have HPT := hid hPT
  have h' := trb_iff.1 h
  have HND := hid (Trb.nodup h)
  have HO := hid (show Has w (Mk kInt vPtr m (pnB P) :: pt q (.cells (treC m f S.last) 77) :: Tab f S.tab :: (pnC P ++ L)) from h'.perm (.swap _ _ _))
  have hq0 : w.cell? ⟨q, 0, none⟩ = some (.map (some m)) := HO.out.p1.cells 0
  have HBD := hid (show ∀ p ∈ P, 0 ≤ p.2.2.most ∧ p.2.2.most ≤ 1000000 ∧ p.2.2.wr.length ≤ 6 from by
    intro p hp
    have hm : (p.1, p.2.2) ∈ pnN P := List.mem_map.2 ⟨p, hp, rfl⟩
    have hnd : ((pnN P).map Prod.fst).Nodup := by rw [pnN_keys]; exact HND.out
    exact hb p.1 p.2.2 (by rw [← hPT.1]; exact fnd_mem hnd hm))
  have HLW := hid (fun rem => sumR_low P rem fun p hp => blocksM_low p.2.2 (HBD.out p hp).1 (HBD.out p hp).2.1 (HBD.out p hp).2.2)
  have hPl : P.length = S.nodes.length := by rw [← hPT.1]; simp [pnN]
  have hP9 : P.length ≤ 1000 := by omega
  clear hO h h' hPT hb
  go_enter Tryz.func28, Tryz.ntmps28
  go_wp2_with (at_range; refine wpList_mkStart HO.out tNo undNo rfl _ rfl rfl ?_; intro w4 hO4 hK4 hs4)
  try go_frame
  have HO4 := hid hO4
  have HK4 := hid hK4
  clear hO4 hK4 hs4 hq0 HO
  generalize w.heap.size = r at *
  generalize hr0 : (pnB P).map Prod.fst = rem0 at *
  have HS0 := hid (show sumR P rem0 = 0 from sumR_all P rem0 fun p hp => by rw [← hr0, pnB_keys]; exact List.mem_map_of_mem hp)
  clear hr0
  generalize (pnB P).length = cnt0 at *
  go_loopw [4] (fun cv w' => ∃ (rem : List Int) (cnt : Nat), cv = .int .i64 (sumR P rem) ∧ Hid (Has w' (Mr kInt vPtr m r (pnB P) rem cnt :: pt q (.cells (treC m f S.last) 77) :: Tab f S.tab :: (pnC P ++ L))) ∧ Hid (Keep w w')) (fun _ w' => w'.rangeLeft m r)
  case atStart => exact ⟨rem0, cnt0, by rw [HS0.out], HO4, HK4⟩
  case round =>
    clear HO4 HK4 HS0
    obtain ⟨rem, cnt, rfl, HO, HK⟩ := hrel
    have hleft := Mr.left HO.out
    have HLF := hid hleft
    have hlow := HLW.out rem
    go_wp2_with (at_next; refine wpList_mkNext HO.out rfl _ rfl rfl ?_ ?_)
    · intro hrem
      subst hrem
      have HSN := hid (sumR_nil P)
      have HO5 := hid (Mr.end HO.out)
      have hq0 : wr.cell? ⟨q, 0, none⟩ = some (.map (some m)) := HO5.out.p1.cells 0
      have hlen := Mk.len HO5.out undNo 3
      have hbl : (pnB P).length = S.nodes.length := by rw [← hPl]; simp [pnB]
      rw [hbl] at hlen
      clear HO hleft
      generalize sumR P [] = sm at *
      go_wp2_with fail
      go_ret2
      rw [HSN.out, HPT.out.1]
      exact ⟨rfl, trc_iff.2 ⟨m, f, P, HPT.out, trb_iff.2 (HO5.out.perm (.swap _ _ _))⟩, HK.out⟩
    · rintro n ob w5 cnt' hp hr hky hO5 hlt5 hK5 hsz hen
      obtain ⟨⟨n', b, x⟩, hpP, he⟩ := List.mem_map.1 hp
      simp only [Prod.mk.injEq] at he
      obtain ⟨rfl, rfl⟩ := he
      simp only [kInt_val, vPtr_val] at hen ⊢
      have hen2 := hen
      obtain ⟨P1, P2, hPe⟩ := List.append_of_mem hpP
      have HPe := hid hPe
      have hbx := HBD.out _ hpP
      have hblo := blocksM_low x hbx.1 hbx.2.1 hbx.2.2
      have HO6 := hid (show Has w5 (Ndc b x :: Mr kInt vPtr m r (pnB P) (rem.filter fun y => !decide (y = n')) cnt' :: pt q (.cells (treC m f S.last) 77) :: Tab f S.tab :: (pnC (P1 ++ P2) ++ L)) from pnC_pull3.1 (by rw [← hPe]; exact hO5))
      have HST := hid (show sumR P (rem.filter fun y => !decide (y = n')) = sumR P rem + blocksM x from by
        rw [hPe]
        exact sumR_step P1 P2 rem n' b x (by rw [← hPe]; exact HND.out) hr)
      have HK6 := hid (HK.out.trans hK5)
      have HL5 := hid hlt5
      clear hp hr hky hO5 hlt5 hK5 hsz hPe hpP hleft HO HK
      generalize sumR P rem = sm at *
      generalize hbm : blocksM x = bm at *
      have hsm9 : sm ≤ 1000000000 := by omega
      obtain ⟨hs0, -⟩ := hlow
      obtain ⟨hbm0, hbm9⟩ := hblo
      have HBM := hid hbm
      clear hbm
      go_wp2_with fail
      refine (tBlocks b x w5 _ hbx.1 hbx.2.1 hbx.2.2 HO6.out).mono ?_
      rintro e w7 ⟨rfl, hO7, hK7⟩
      have HO7 := hid hO7
      have HK7 := hid ((HK6.out).trans hK7)
      clear hO7 hK7
      try dsimp only
      rw [HBM.out]
      have HO8 := hid (show Has w7 (Mr kInt vPtr m r (pnB P) (rem.filter fun y => !decide (y = n')) cnt' :: pt q (.cells (treC m f S.last) 77) :: Tab f S.tab :: (pnC P ++ L)) from by
        have h1 := pnC_pull3 (p := (n', b, x)).2 HO7.out
        rwa [← HPe.out] at h1)
      have hleft := Mr.left HO8.out
      clear HO6 HK6 HO7 hen hen2
      go_wp2_with fail
      exact ⟨⟨_, _, by rw [HST.out], HO8, HK7⟩, by rw [hleft, HLF.out]; exact HL5.out⟩
end Go.Proofs.YtfhaedkaedffcaaGreatDoor
/- The trees of chapter 14's 'awake'. No program in sight. -/
namespace Go.Proofs.YtfhaedkaedffcaaGreatDoor
open Go.RowKit Go.Own
abbrev nA : Str := [97]
abbrev pA : Str := [47, 97]
abbrev pAF : Str := [47, 97, 47, 102]
abbrev pB : Str := [47, 98]
def tabA (s : Tb.Slot) : List Tb.Slot := s :: List.replicate 15 Tb.none4
def treE1 : Tre := ⟨[(1, ⟨2, [], [], [(nA, 2)], 1, 1, 0⟩), (2, ⟨2, [], [], [], 0, 1, 1⟩)], 2, List.replicate 16 Tb.none4⟩
def treE2 : Tre := ⟨[(1, ⟨2, [], [], [(nA, 2)], 1, 1, 0⟩), (2, ⟨2, [], [], [(nF, 3)], 1, 1, 1⟩), (3, ⟨1, [], [], [], 0, 1, 0⟩)], 3, tabA ⟨3, 0, 33, true⟩⟩
def treE3 : Tre := ⟨[(1, ⟨2, [], [], [(nA, 2)], 1, 1, 0⟩), (2, ⟨2, [], [], [(nF, 3)], 1, 1, 1⟩), (3, ⟨1, [120, 121, 122], [true], [], 0, 1, 0⟩)], 3, tabA ⟨3, 3, 33, true⟩⟩
def rkA (n : Int) : Nat := if n = 3 then 2 else if n = 2 then 1 else 0
theorem rkA_low (n : Int) : rkA n ≤ 20 := by unfold rkA; split <;> (try split) <;> omega
theorem splitM_A : splitM pA = ([nA], 0) := by decide +kernel
theorem splitM_AF : splitM pAF = ([nA, nF], 0) := by decide +kernel
theorem splitM_B : splitM pB = ([[98]], 0) := by decide +kernel
theorem lastM_A : lastM pA = ([47], nA, 0) := by decide +kernel
theorem lastM_AF : lastM pAF = (pA, nF, 0) := by decide +kernel
theorem wk_0 : wkB tre0 = true := by decide +kernel
theorem wk_A : wkB treE1 = true := by decide +kernel
theorem wk_B : wkB treE2 = true := by decide +kernel
theorem wk_C : wkB treE3 = true := by decide +kernel
theorem wy_0 : wyB tre0 rkA = true := by decide +kernel
theorem wy_A : wyB treE1 rkA = true := by decide +kernel
theorem wy_C : wyB treE3 rkA = true := by decide +kernel
theorem opb_0 : opbB tre0 = true := by decide +kernel
theorem opb_A : opbB treE1 = true := by decide +kernel
theorem opn_B : opnB treE2 = true := by decide +kernel
theorem place_A : tre0.place pA = (⟨0, 1, nA⟩, 0) := by
  unfold Tre.place
  rw [lastM_A, if_neg (by simp), find_root, if_neg (by simp), if_neg (by decide +kernel), if_neg (by decide +kernel)]
  rfl
theorem mkdir_A : tre0.mkdir pA = (ansE 0, treE1) := by
  unfold Tre.mkdir Tre.fresh
  rw [place_A]
  rfl
theorem find_A (S : Tre) (fo : Bool) (h1 : (S.at_ 1).kind = 2) (h2 : fnd (S.at_ 1).names nA = some 2) (h3 : (S.at_ 2).kind = 2) : S.find pA fo = (⟨2, 1, nA⟩, 0) := by
  unfold Tre.find
  rw [splitM_A, if_neg (by simp)]
  show S.walk ⟨1, 0, []⟩ 0 [nA] fo = _
  rw [Tre.walk, if_neg (by rw [h1]; decide), if_neg (by decide)]
  dsimp only
  rw [h2]
  dsimp only
  rw [if_neg (by rw [h3]; simp), Tre.walk]
theorem find_AF (S : Tre) (fo : Bool) (h1 : (S.at_ 1).kind = 2) (h2 : fnd (S.at_ 1).names nA = some 2) (h3 : (S.at_ 2).kind = 2) (h4 : fnd (S.at_ 2).names nF = some 3) (h5 : (S.at_ 3).kind = 1) : S.find pAF fo = (⟨3, 2, nF⟩, 0) := by
  unfold Tre.find
  rw [splitM_AF, if_neg (by simp)]
  show S.walk ⟨1, 0, []⟩ 0 [nA, nF] fo = _
  rw [Tre.walk, if_neg (by rw [h1]; decide), if_neg (by decide)]
  dsimp only
  rw [h2]
  dsimp only
  rw [if_neg (by rw [h3]; simp), Tre.walk, if_neg (by rw [h3]; decide), if_neg (by decide)]
  dsimp only
  rw [h4]
  dsimp only
  rw [if_neg (by rw [h5]; simp), Tre.walk]
theorem find_B (S : Tre) (fo : Bool) (h1 : (S.at_ 1).kind = 2) (h2 : fnd (S.at_ 1).names [98] = none) : S.find pB fo = (spt0, 5) := by
  unfold Tre.find
  rw [splitM_B, if_neg (by simp)]
  show S.walk ⟨1, 0, []⟩ 0 [[98]] fo = _
  rw [Tre.walk, if_neg (by rw [h1]; decide), if_neg (by decide)]
  dsimp only
  rw [h2]
theorem place_AF : treE1.place pAF = (⟨0, 2, nF⟩, 0) := by
  unfold Tre.place
  rw [lastM_AF, if_neg (by simp)]
  dsimp only
  rw [find_A treE1 true rfl rfl rfl, if_neg (by simp), if_neg (by decide +kernel), if_neg (by decide +kernel)]
  rfl
theorem open_AF : treE1.openFd pAF 33 = (⟨0, 0, 0, 0, [], []⟩, treE2) := by
  unfold Tre.openFd
  rw [if_neg (by decide +kernel), if_pos (by decide +kernel), place_AF, if_neg (by simp), if_neg (by simp), if_neg (by decide)]
  unfold Tre.openAt
  rw [if_neg (by simp), if_neg (by decide +kernel)]
  rfl
theorem write_AF : treE2.write 4 0 0 [120, 121, 122] = (⟨0, 3, 0, 0, [], []⟩, treE3) := by
  unfold Tre.write
  rfl
theorem stat_AF : treE3.stat pAF true = ⟨0, 3, 1, 1, [], []⟩ := by
  unfold Tre.stat
  rw [find_AF treE3 true rfl rfl rfl rfl rfl]
  rfl
theorem stat_B : treE3.stat pB true = ansE 5 := by
  unfold Tre.stat
  rw [find_B treE3 true rfl rfl]
  rfl
theorem number_A : (treE3.find pA false).1.node = 2 := by rw [find_A treE3 false rfl rfl rfl]
theorem need_C : needSum treE3.nodes = 3 := by decide +kernel
theorem seen_C : (seen treE3.nodes 22 1 []).length = 3 := by decide +kernel
theorem low_C : ∀ n x, fnd treE3.nodes n = some x → rkA n ≤ 21 := fun n _ _ => by have := rkA_low n; omega
theorem rk_C : ∀ n x, fnd treE3.nodes n = some x → ∀ e ∈ x.names, rkA n < rkA e.2 ∧ e.1.length ≤ 24 ∧ ∃ y, fnd treE3.nodes e.2 = some y := by
  have h : (treE3.nodes.all fun p => p.2.names.all fun e => decide (rkA p.1 < rkA e.2) && decide (e.1.length ≤ 24) && (fnd treE3.nodes e.2).isSome) = true := by decide +kernel
  intro n x hx e he
  have h1 := (List.all_eq_true.1 ((List.all_eq_true.1 h) _ (fnd_some hx))) e he
  simp only [Bool.and_eq_true, decide_eq_true_eq] at h1
  exact ⟨h1.1.1, h1.1.2, Option.isSome_iff_exists.1 h1.2⟩
theorem need_small : ∀ n x, fnd treE3.nodes n = some x → 0 ≤ x.most ∧ x.most ≤ 1000000 ∧ x.wr.length ≤ 6 := by
  have h : (treE3.nodes.all fun p => decide (0 ≤ p.2.most) && decide (p.2.most ≤ 1000000) && decide (p.2.wr.length ≤ 6)) = true := by decide +kernel
  intro n x hx
  have h1 := (List.all_eq_true.1 h) _ (fnd_some hx)
  simp only [Bool.and_eq_true, decide_eq_true_eq] at h1
  exact ⟨h1.1.1, h1.1.2, h1.2⟩
end Go.Proofs.YtfhaedkaedffcaaGreatDoor
/- Plain facts: one file f, and what is done to it by what is open. No program in sight. -/
namespace Go.Proofs.YtfhaedkaedffcaaGreatDoor
open Go.RowKit Go.Own
theorem place_f : tre0.place pF = (⟨0, 1, nF⟩, 0) := by
  unfold Tre.place
  rw [lastM_f, if_neg (by simp), find_root, if_neg (by simp), if_neg (by decide +kernel), if_neg (by decide +kernel)]
  rfl
/-- It is made, and opened. -/
theorem open_f33 : tre0.openFd pF 33 = (⟨0, 0, 0, 0, [], []⟩, trF [] [] (tabA ⟨2, 0, 33, true⟩)) := by
  unfold Tre.openFd
  rw [if_neg (by decide +kernel), if_pos (by decide +kernel), place_f, if_neg (by simp), if_neg (by simp), if_neg (by decide)]
  unfold Tre.openAt
  rw [if_neg (by simp), if_neg (by decide +kernel)]
  rfl
theorem open_f41 : tre0.openFd pF 41 = (⟨0, 0, 0, 0, [], []⟩, trF [] [] (tabA ⟨2, 0, 41, true⟩)) := by
  unfold Tre.openFd
  rw [if_neg (by decide +kernel), if_pos (by decide +kernel), place_f, if_neg (by simp), if_neg (by simp), if_neg (by decide)]
  unfold Tre.openAt
  rw [if_neg (by simp), if_neg (by decide +kernel)]
  rfl
def tabB (s t : Tb.Slot) : List Tb.Slot := s :: t :: List.replicate 14 Tb.none4
theorem lst_tabA (s : Tb.Slot) : (Tb.lst (tabA s) 16).length ≤ 1 := by
  obtain ⟨a, b, c, on⟩ := s
  cases on
  · show (Tb.lst (tabA ⟨a, b, c, false⟩) 16).length ≤ 1
    simp [Tb.lst, tabA, List.zipIdx, Tb.none4, List.replicate]
  · show (Tb.lst (tabA ⟨a, b, c, true⟩) 16).length ≤ 1
    simp [Tb.lst, tabA, List.zipIdx, Tb.none4, List.replicate]
section
variable {d : List Int} {wr : List Bool} {T : List Tb.Slot} {fd : Int} {s : Tb.Slot}
/-- Opened once more. -/
theorem open_f0 (hs : s.on = true) : (trF d wr (tabA s)).openFd pF 0 = (⟨0, 1, 0, 0, [], []⟩, trF d wr (tabB s ⟨2, 0, 0, true⟩)) := by
  unfold Tre.openFd
  rw [if_neg (by decide +kernel), if_neg (by decide +kernel), find_f, if_neg (by simp)]
  unfold Tre.openAt
  have h1 := lst_tabA s
  rw [if_neg (by simp [trF, Tre.at_, fileF, fnd]), if_neg (by show ¬ 16 ≤ (Tb.lst (tabA s) 16).length; omega)]
  obtain ⟨a, b, c, on⟩ := s
  cases hs
  rfl
theorem at_2 : (trF d wr T).at_ 2 = fileF d wr := rfl
theorem setN_2 (d' : List Int) (wr' : List Bool) : (trF d wr T).setN 2 (fileF d' wr') = trF d' wr' T := rfl
theorem hat_ (hn : s.node = 2) : (trF d wr T).at_ s.node = fileF d wr := by rw [hn]; rfl
theorem get_of (hl : Tb.look T fd = some s) : Tb.get T fd = (s, 0) := by unfold Tb.get; rw [hl]
theorem file_F (hl : Tb.look T fd = some s) (hn : s.node = 2) : (trF d wr T).file fd false = (s, 0) := by
  unfold Tre.file
  rw [show (trF d wr T).tab = T from rfl, get_of hl, if_neg (by simp), if_neg (by simp), if_neg (by rw [hn, at_2]; simp [fileF])]
theorem file_Fw (hl : Tb.look T fd = some s) (hn : s.node = 2) (hf : andI s.flags 32 ≠ 0) : (trF d wr T).file fd true = (s, 0) := by
  unfold Tre.file
  rw [show (trF d wr T).tab = T from rfl, get_of hl, if_neg (by simp), if_neg (by rintro ⟨-, h⟩; exact hf h), if_neg (by rw [hn, at_2]; simp [fileF])]
theorem mov_of (hl : Tb.look T fd = some s) {off : Int} (h0 : 0 ≤ off) : (Tb.mov T fd off).2 = T.set fd.toNat { s with off := off } := by
  unfold Tb.mov
  rw [hl]
  dsimp only
  rw [if_neg (by omega)]
theorem read_F3 (hl : Tb.look T fd = some s) (hn : s.node = 2) (h0 : 0 ≤ s.off) {n : Int} (hn0 : 0 ≤ n) (off : Int) : (trF d wr T).read 3 fd n off = (⟨0, 0, 0, 0, (d.drop s.off.toNat).take n.toNat, []⟩, trF d wr (T.set fd.toNat { s with off := s.off + ((d.drop s.off.toNat).take n.toNat).length })) := by
  unfold Tre.read
  rw [file_F hl hn]
  dsimp only
  rw [if_neg (by simp), if_neg (by rintro (h | ⟨h, -⟩); omega; exact absurd h (by decide)), if_neg (by decide), if_pos rfl, hat_ hn]
  show (_, ({ trF d wr T with tab := (Tb.mov T fd (s.off + ((d.drop s.off.toNat).take n.toNat).length)).2 } : Tre)) = _
  rw [mov_of hl (by omega)]
  rfl
theorem read_F5 (hl : Tb.look T fd = some s) (hn : s.node = 2) {n off : Int} (hn0 : 0 ≤ n) (h0 : 0 ≤ off) : (trF d wr T).read 5 fd n off = (⟨0, 0, 0, 0, (d.drop off.toNat).take n.toNat, []⟩, trF d wr T) := by
  unfold Tre.read
  rw [file_F hl hn]
  dsimp only
  rw [if_neg (by simp), if_neg (by rintro (h | ⟨-, h⟩) <;> omega), if_pos rfl, if_neg (by decide), hn, at_2]
  rfl
theorem seek_F0 (hl : Tb.look T fd = some s) (hn : s.node = 2) {off : Int} (h0 : 0 ≤ off) (h1 : off ≤ 1099511627776) : (trF d wr T).seek fd 0 off = (⟨0, off, 0, 0, [], []⟩, trF d wr (T.set fd.toNat { s with off := off })) := by
  have hz : ∀ (a b : Int), (if (0 : Int) = 1 then a else if (0 : Int) = 2 then b else 0) = 0 := fun a b => rfl
  unfold Tre.seek
  rw [file_F hl hn]
  dsimp only
  rw [hz, if_neg (by simp), if_neg (by simp), if_neg (by rintro (h | h) <;> omega), Int.zero_add]
  show (_, ({ trF d wr T with tab := (Tb.mov T fd off).2 } : Tre)) = _
  rw [mov_of hl h0]
  rfl
theorem look_set (hl : Tb.look T fd = some s) : T.set fd.toNat s = T := by
  unfold Tb.look at hl
  by_cases hr : 0 ≤ fd ∧ fd < 16
  · rw [if_pos hr] at hl
    cases ht : T[fd.toNat]? with
    | none => rw [ht] at hl; cases hl
    | some t =>
      rw [ht] at hl
      dsimp only at hl
      by_cases hon : t.on = true
      · rw [if_pos hon] at hl
        cases hl
        obtain ⟨h1, h2⟩ := List.getElem?_eq_some_iff.1 ht
        subst h2
        exact List.set_getElem_self h1
      · rw [if_neg hon] at hl; cases hl
  · rw [if_neg hr] at hl; cases hl
theorem seek_F1 (hl : Tb.look T fd = some s) (hn : s.node = 2) (h0 : 0 ≤ s.off) (h1 : s.off ≤ 1099511627776) : (trF d wr T).seek fd 1 0 = (⟨0, s.off, 0, 0, [], []⟩, trF d wr T) := by
  have hz : ∀ (a b : Int), (if (1 : Int) = 1 then a else if (1 : Int) = 2 then b else 0) = a := fun a b => rfl
  unfold Tre.seek
  rw [file_F hl hn]
  dsimp only
  rw [hz, if_neg (by simp), if_neg (by simp), if_neg (by rintro (h | h) <;> omega), Int.add_zero]
  show (_, ({ trF d wr T with tab := (Tb.mov T fd s.off).2 } : Tre)) = _
  rw [mov_of hl h0, look_set hl]
  rfl
def cutD (d : List Int) (size : Nat) : List Int := if size ≤ d.length then d.take size else d ++ List.replicate (size - d.length) 0
def cutW (d : List Int) (wr : List Bool) (size : Nat) : List Bool := if size ≤ d.length then wr.take (needM size) else wr
theorem nodCut_F (size : Nat) : nodCut (fileF d wr) size = fileF (cutD d size) (cutW d wr size) := by
  unfold nodCut cutD cutW fileF
  dsimp only
  split <;> rfl
theorem trunc_F (hl : Tb.look T fd = some s) (hn : s.node = 2) (hf : andI s.flags 32 ≠ 0) {off : Int} (h0 : 0 ≤ off) (h1 : off ≤ 20736) : (trF d wr T).trunc fd off = (ansE 0, trF (cutD d off.toNat) (cutW d wr off.toNat) T) := by
  unfold Tre.trunc
  rw [file_Fw hl hn hf]
  dsimp only
  rw [if_neg (by simp), if_neg (by omega), if_neg (by omega)]
  unfold Tre.resize
  rw [hn, at_2, nodCut_F, setN_2]
def wrD (d : List Int) (o : Nat) (ds : List Int) : List Int := (cutD d (max d.length (o + ds.length))).take o ++ ds ++ (cutD d (max d.length (o + ds.length))).drop (o + ds.length)
def wrW (d : List Int) (wr : List Bool) (o : Nat) (ds : List Int) : List Bool := wrSet (cutW d wr (max d.length (o + ds.length)) ++ List.replicate (needM (o + ds.length) - (cutW d wr (max d.length (o + ds.length))).length) false) (o / 128) (needM (o + ds.length))
theorem nodWrite_F (o : Nat) (ds : List Int) : nodWrite (fileF d wr) o ds = fileF (wrD d o ds) (wrW d wr o ds) := by
  unfold nodWrite wrD wrW
  rw [show (fileF d wr).data = d from rfl, nodCut_F]
  rfl
/-- Where a write stands. -/
def wrO (d : List Int) (s : Tb.Slot) : Int := if andI s.flags 8 ≠ 0 then (d.length : Int) else s.off
theorem write_go (hl : Tb.look T fd = some s) (hn : s.node = 2) (hf : andI s.flags 32 ≠ 0) (k off o : Int) (ds : List Int) (ho : (if k = 6 then off else wrO d s) = o) :
    (trF d wr T).write k fd off ds = if k = 6 ∧ off < 0 then (ansE 2, trF d wr T) else if o > 20736 - (min ds.length 20736 : Nat) ∨ 20736 < ds.length then (ansE 15, trF d wr T) else if ds.length = 0 then (ansE 0, trF d wr T) else
      (⟨0, ds.length, 0, 0, [], []⟩, if k = 4 then trF (wrD d o.toNat ds) (wrW d wr o.toNat ds) (Tb.mov T fd (o + ds.length)).2 else trF (wrD d o.toNat ds) (wrW d wr o.toNat ds) T) := by
  unfold Tre.write
  rw [file_Fw hl hn hf]
  dsimp only
  have h3 : (if k = 6 then off else if andI s.flags 8 ≠ 0 then (((trF d wr T).at_ s.node).data.length : Int) else s.off) = o := by rw [hat_ hn]; exact ho
  rw [if_neg (by simp), h3, hat_ hn, nodWrite_F, hn, setN_2]
  rfl
theorem write_F4 (hl : Tb.look T fd = some s) (hn : s.node = 2) (hf : andI s.flags 32 ≠ 0) (off : Int) {ds : List Int} (hd : ds ≠ []) (h0 : 0 ≤ wrO d s) (h1 : wrO d s + ds.length ≤ 20736) : (trF d wr T).write 4 fd off ds = (⟨0, ds.length, 0, 0, [], []⟩, trF (wrD d (wrO d s).toNat ds) (wrW d wr (wrO d s).toNat ds) (T.set fd.toNat { s with off := wrO d s + ds.length })) := by
  have hd0 : ds.length ≠ 0 := fun h => hd (List.eq_nil_of_length_eq_zero h)
  rw [write_go hl hn hf 4 off (wrO d s) ds rfl, if_neg (by omega), if_neg (by rintro (h | h) <;> omega), if_neg hd0, if_pos rfl, mov_of hl (by omega)]
theorem write_none4 (hl : Tb.look T fd = some s) (hn : s.node = 2) (hf : andI s.flags 32 ≠ 0) (off : Int) (h1 : wrO d s ≤ 20736) : (trF d wr T).write 4 fd off [] = (ansE 0, trF d wr T) := by
  rw [write_go hl hn hf 4 off (wrO d s) [] rfl, if_neg (by omega), if_neg (by simp only [List.length_nil]; rintro (h | h) <;> omega), if_pos List.length_nil]
theorem write_none6 (hl : Tb.look T fd = some s) (hn : s.node = 2) (hf : andI s.flags 32 ≠ 0) {off : Int} (h0 : 0 ≤ off) (h1 : off ≤ 20736) : (trF d wr T).write 6 fd off [] = (ansE 0, trF d wr T) := by
  rw [write_go hl hn hf 6 off off [] rfl, if_neg (by omega), if_neg (by simp only [List.length_nil]; rintro (h | h) <;> omega), if_pos List.length_nil]
theorem write_F6 (hl : Tb.look T fd = some s) (hn : s.node = 2) (hf : andI s.flags 32 ≠ 0) {off : Int} {ds : List Int} (hd : ds ≠ []) (h0 : 0 ≤ off) (h1 : off + ds.length ≤ 20736) : (trF d wr T).write 6 fd off ds = (⟨0, ds.length, 0, 0, [], []⟩, trF (wrD d off.toNat ds) (wrW d wr off.toNat ds) T) := by
  have hd0 : ds.length ≠ 0 := fun h => hd (List.eq_nil_of_length_eq_zero h)
  rw [write_go hl hn hf 6 off off ds rfl, if_neg (by omega), if_neg (by rintro (h | h) <;> omega), if_neg hd0, if_neg (by decide)]
theorem stat_F : (trF d wr T).stat pF true = ⟨0, d.length, 1, 1, [], []⟩ := by
  unfold Tre.stat
  rw [find_f, if_neg (by simp)]
  show (⟨0, ((fileF d wr).data.length : Int) + (fileF d wr).names.length, 1, 1, [], []⟩ : Ans) = _
  simp [fileF]
theorem tabF_set (hT : TabF T) {k : Nat} {s : Tb.Slot} (hn : s.node = 2) (h0 : 0 ≤ s.off) (h1 : s.off ≤ 2000000000000) : TabF (T.set k s) := by
  intro t ht hon
  rcases List.mem_or_eq_of_mem_set ht with h | rfl
  · exact hT t h hon
  · exact ⟨hn, h0, h1⟩
theorem needM_le (n : Nat) : needM n ≤ 162 := by unfold needM; split <;> omega
theorem cutW_len (h : wr.length ≤ 162) (size : Nat) : (cutW d wr size).length ≤ 162 := by
  unfold cutW
  split
  · rw [List.length_take]; omega
  · exact h
theorem wrW_len (h : wr.length ≤ 162) (o : Nat) (ds : List Int) : (wrW d wr o ds).length ≤ 162 := by
  have h1 := needM_le (o + ds.length)
  have h2 := cutW_len (d := d) h (max d.length (o + ds.length))
  unfold wrW
  rw [wrSet_len, List.length_append, List.length_replicate]
  omega
theorem cutD_len (size : Nat) : (cutD d size).length = size := by
  unfold cutD
  split
  · rw [List.length_take]; omega
  · rw [List.length_append, List.length_replicate]; omega
theorem wrD_len (o : Nat) (ds : List Int) : (wrD d o ds).length = max d.length (o + ds.length) := by
  unfold wrD
  rw [List.length_append, List.length_append, List.length_take, List.length_drop, cutD_len]
  omega
/-- At its end. -/
theorem wrD_end (ds : List Int) : wrD d d.length ds = d ++ ds := by
  unfold wrD
  rw [show max d.length (d.length + ds.length) = d.length + ds.length by omega]
  have h1 : (cutD d (d.length + ds.length)).take d.length = d := by
    unfold cutD
    split
    · rename_i h
      rw [List.take_take, show min d.length (d.length + ds.length) = d.length by omega, List.take_length]
    · rw [List.take_left]
  rw [h1, List.drop_of_length_le (by rw [cutD_len]; exact Nat.le_refl _), List.append_nil]
end
end Go.Proofs.YtfhaedkaedffcaaGreatDoor
/- An operation as the laws write it. -/
namespace Go.Proofs.YtfhaedkaedffcaaGreatDoor
open Go.RowKit Go.Own
abbrev opW (k fd n off fl : Int) (p : Str) (dv : Value) : Value := .agg #[.int .i64 k, .int .i64 fd, .int .i64 n, .int .i64 off, .int .i64 fl, .string ⟨p.toArray⟩, .string ⟨#[]⟩, dv]
section
variable (a b c d : Int) (x y : Value) (w : World)
/-- The fields of an answer. -/
theorem ansF0 : (Instr.field 29 (.agg #[.int .i64 a, .int .i64 b, .int .i64 c, .int .i64 d, x, y]) 0).run Tryz.prog w = .ok (.int .i64 a) w := by kernel_rfl
theorem ansF1 : (Instr.field 29 (.agg #[.int .i64 a, .int .i64 b, .int .i64 c, .int .i64 d, x, y]) 1).run Tryz.prog w = .ok (.int .i64 b) w := by kernel_rfl
theorem ansF2 : (Instr.field 29 (.agg #[.int .i64 a, .int .i64 b, .int .i64 c, .int .i64 d, x, y]) 2).run Tryz.prog w = .ok (.int .i64 c) w := by kernel_rfl
theorem ansF4 : (Instr.field 29 (.agg #[.int .i64 a, .int .i64 b, .int .i64 c, .int .i64 d, x, y]) 4).run Tryz.prog w = .ok x w := by kernel_rfl
end
end Go.Proofs.YtfhaedkaedffcaaGreatDoor
/- 'copy' into a row that is owned, elements of one cell. No program in sight. -/
namespace Go.Own
open Go.RowKit
section
variable {w : World} {l : List HP} {e : TypeId} {n cap g off m : Nat} {xs ys : List Value}
theorem Has.copyRun {P : Program} (hO : Has w (row (.slice (some ⟨g, 0, none⟩) n cap) e 1 n xs :: l)) (dT sT ty : TypeId) (hu : P.underlying dT = some (.slice e)) (hsz : (P.info? e).map (·.size) = some 1)
    (dn dc c : Nat) (sp : Option Addr) (hr : Rd w (.slice sp m c) 1 m ys) (h1 : ∀ u ∈ ys, u.oneCell' = true) (hfit : off + min m dn ≤ n) :
    ∃ w', (Builtin.copy_ #[dT, sT] ty #[.slice (some ⟨g, off, none⟩) dn dc, .slice sp m c]).run P w = .ok (goInt ((min m dn : Nat) : Int)) w' ∧ Has w' (row (.slice (some ⟨g, 0, none⟩) n cap) e 1 n (xs.take off ++ ys.take (min m dn) ++ xs.drop (off + min m dn)) :: l) ∧ Keep w w' := by
  obtain ⟨hxl, h | ⟨g', cap', cur, e1, h2, h3, h4, h5, hp⟩⟩ := hO.row_cases
  · exact absurd h.1 (by simp)
  simp only [Value.slice.injEq, Option.some.injEq, Addr.mk.injEq] at e1
  obtain ⟨⟨rfl, -, -⟩, -, rfl⟩ := e1
  obtain ⟨hyl, -, p, cap2, e2, -, hcs⟩ := hr
  cases e2
  rw [Nat.mul_one] at hyl h4 h5 hxl
  by_cases hz : min m dn = 0
  · refine ⟨w, ?_, ?_, Keep.refl w⟩
    · have := run_copy_none (P := P) w dT sT ty e (some ⟨g, off, none⟩) sp dn dc m c hu hsz hz
      rw [hz]; exact this
    · rw [hz]; simpa using hO
  · obtain ⟨g2, o2, rfl, hc2⟩ := hcs (by omega)
    have hl : (ys.take (min m dn)).length = Nat.min m dn := by rw [List.length_take, hyl]; show min (min m dn) m = min m dn; omega
    have hr := run_copy_row (P := P) w dT sT ty e g off dn dc ⟨g2, o2, none⟩ m c cur e (ys.take (min m dn)) hu hsz hp.lookup hl (by
      intro j v hj
      have hjl : j < (ys.take (min m dn)).length := (List.getElem?_eq_some_iff.1 hj).1
      rw [hl] at hjl
      have hjm : j < min m dn := hjl
      rw [List.getElem?_take, if_pos hjm] at hj
      rw [add_plain, hc2 j (by omega), hj]) (by rw [hl]; show off + min m dn ≤ _; omega) (fun v hv => h1 v (List.mem_of_mem_take hv))
    refine ⟨w.setRow g (cur.toList.take off ++ ys.take (min m dn) ++ cur.toList.drop (off + min m dn)).toArray, by rw [hr, hl], ?_, ⟨rfl, rfl, rfl, by simp [World.setRow]⟩⟩
    refine (hp.turn (fun k _ hk => setRow_other w g k _ hk) (setRow_heap w g cur _ e _ hp.lookup)).row_of h2 h3 ?_ ?_ ?_
    · simp only [List.size_toArray, List.length_append, List.length_take, List.length_drop, Array.length_toList]; omega
    · rw [Nat.mul_one]
      show (cur.toList.take off ++ ys.take (min m dn) ++ cur.toList.drop (off + min m dn)).take n = _
      have hcl : n ≤ cur.toList.length := by simp; omega
      have hA : (cur.toList.take off ++ ys.take (min m dn)).length = off + min m dn := by
        simp only [List.length_append, List.length_take]
        omega
      rw [List.take_append, List.take_of_length_le (by rw [hA]; exact hfit), hA, ← h5, List.take_take, Nat.min_eq_left (show off ≤ n by omega), List.drop_take]
    · simp only [List.length_append, List.length_take, List.length_drop]; omega
theorem wp_copy {P : Program} {o : Oper} {a : Act} {K : Act → World → Prop} {Q : Exit → Act → World → Prop} (d s : Operand) (dT sT : TypeId)
    (ho : o.op = .call { callee := .builtin .copy, args := #[d, s], argTypes := #[dT, sT] }) (hu : P.underlying dT = some (.slice e)) (hsz : (P.info? e).map (·.size) = some 1)
    (hO : Has w (row (.slice (some ⟨g, 0, none⟩) n cap) e 1 n xs :: l)) (dn dc c : Nat) (sp : Option Addr) (hd : a.eval d = .slice (some ⟨g, off, none⟩) dn dc) (hs : a.eval s = .slice sp m c)
    (hr : Rd w (.slice sp m c) 1 m ys) (h1 : ∀ u ∈ ys, u.oneCell' = true) (hfit : off + min m dn ≤ n)
    (h : ∀ w', Has w' (row (.slice (some ⟨g, 0, none⟩) n cap) e 1 n (xs.take off ++ ys.take (min m dn) ++ xs.drop (off + min m dn)) :: l) → Keep w w' → K (a.put o.dst (goInt ((min m dn : Nat) : Int))) w') : o.wp P a w K Q := by
  obtain ⟨w', hrun, h2, h3⟩ := hO.copyRun (P := P) dT sT o.type hu hsz dn dc c sp hr h1 hfit
  unfold Oper.wp execOp
  simp only [ho, resolve, invoke, builtin, Sem.run_bind, Sem.run_pure, Result.andThen_ok, List.map_toArray, List.map_cons, List.map_nil, hd, hs, hrun]
  exact h w' h2 h3
theorem wpList_copy {P : Program} {ops : Array Oper} {rest : List Oper} {o : Oper} {a : Act} {Q : Exit → Act → World → Prop} (hgd : o.guard = none) (d s : Operand) (dT sT : TypeId)
    (ho : o.op = .call { callee := .builtin .copy, args := #[d, s], argTypes := #[dT, sT] }) (hu : P.underlying dT = some (.slice e)) (hsz : (P.info? e).map (·.size) = some 1)
    (hO : Has w (row (.slice (some ⟨g, 0, none⟩) n cap) e 1 n xs :: l)) (dn dc c : Nat) (sp : Option Addr) (hd : a.eval d = .slice (some ⟨g, off, none⟩) dn dc) (hs : a.eval s = .slice sp m c)
    (hr : Rd w (.slice sp m c) 1 m ys) (h1 : ∀ u ∈ ys, u.oneCell' = true) (hfit : off + min m dn ≤ n)
    (h : ∀ w', Has w' (row (.slice (some ⟨g, 0, none⟩) n cap) e 1 n (xs.take off ++ ys.take (min m dn) ++ xs.drop (off + min m dn)) :: l) → Keep w w' → wpList P ops Q rest (a.put o.dst (goInt ((min m dn : Nat) : Int))) w') : wpList P ops Q (o :: rest) a w :=
  wpList_plain hgd fun _ hK => wp_copy d s dT sT ho hu hsz hO dn dc c sp hd hs hr h1 hfit fun w' h2 h3 => hK _ _ (h w' h2 h3)
end
end Go.Own
