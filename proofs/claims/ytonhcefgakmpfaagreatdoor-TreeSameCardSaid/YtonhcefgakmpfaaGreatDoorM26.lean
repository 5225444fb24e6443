/- TEXTS of mine, merged. -/
import Derived.Test.YtonhcefgakmpfaaGreatDoorM10
import Derived.Test.YtonhcefgakmpfaaGreatDoorM25
import Derived.Test.YtonhcefgakmpfaaGreatDoorM16
import Derived.Test.YtonhcefgakmpfaaGreatDoorM17
import Derived.Test.YtonhcefgakmpfaaGreatDoorM11
import Derived.Test.YtonhcefgakmpfaaGreatDoorM18
import Derived.Shelf.SlSortCmp.WholeK
import Derived.Shelf.SlGeneric
import Derived.Ground.SlsfProg
import Derived.Test.YtonhcefgakmpfaaGreatDoorProg
/- THE WALK of node.blocks (files of at most six blocks), inode.Place. -/
namespace Go.Proofs.YtonhcefgakmpfaaGreatDoor
open Go.RowKit Go.Own
/-- How many blocks a node takes (a file: of at most six). -/
def blocksM (x : Nod) : Int := if x.kind = 2 then (x.most + 3) / 4 else if x.kind = 3 then 1 else ((x.wr.filter id).length : Int)
theorem nPlace (k : Nat) (hk : k < 6) (w : World) : Calls Tryz.prog 138 #[.int .i64 (k : Int)] w fun e w' => e = .returned (.tuple #[.int .i64 0, .int .i64 k, .int .i64 0]) ∧ w = w' := by
  have h0 : (0 : Int) ≤ (k : Int) := by omega
  have h1 : ¬ (k : Int) < 0 := by omega
  have h2 : ¬ (k : Int) ≥ 162 := by omega
  have h3 : (k : Int) < 6 := by omega
  go_enter Tryz.func138, Tryz.ntmps138
  go_wp2_with fail
  go_ret3
  exact ⟨rfl, rfl⟩
def no12 : Array Value := #[.bool false, .bool false, .bool false, .bool false, .bool false, .bool false, .bool false, .bool false, .bool false, .bool false, .bool false, .bool false]
theorem index12 (k : Nat) (hk : k < 12) (w : World) : (Instr.index 196 (.agg no12) (.int .i64 (k : Int))).run Tryz.prog w = .ok (.bool false) w := by
  have : ∀ i : Fin 12, ∀ w : World, (Instr.index 196 (.agg no12) (.int .i64 (i.val : Int))).run Tryz.prog w = .ok (.bool false) w := by
    intro i w
    rcases i with ⟨i, hi⟩
    rcases i with _ | _ | _ | _ | _ | _ | _ | _ | _ | _ | _ | _ | i
    all_goals first | (exfalso; omega) | kernel_rfl
  exact this ⟨k, hk⟩ w
theorem cnt_succ (ws : List Bool) (k : Nat) (hk : k < ws.length) : ((ws.take (k + 1)).filter id).length = ((ws.take k).filter id).length + (if ws[k] = true then 1 else 0) := by
  rw [List.take_add_one, List.getElem?_eq_getElem hk, List.filter_append, List.length_append]
  cases ws[k] <;> simp
set_option maxRecDepth 100000 in
set_option maxHeartbeats 4000000 in
theorem tBlocks (b : Nat) (x : Nod) (w : World) (L : List HP) (hm0 : 0 ≤ x.most) (hm1 : x.most ≤ 1000000) (hw : x.wr.length ≤ 6) (hO : Has w (Ndc b x :: L)) :
    Calls Tryz.prog 75 #[.pointer (some ⟨b, 0, none⟩)] w fun e w' => e = .returned (.int .i64 (blocksM x)) ∧ Has w' (Ndc b x :: L) ∧ Keep w w' := by
  obtain ⟨dv, wv, nm, hnm, hHP⟩ := ndc_iff.1 hO
  have HNM := hid hnm
  have HP := hid hHP
  have hc0 : w.cell? ⟨b, 0, none⟩ = some (.int .i64 x.kind) := hHP.cells 0
  have hc4 : w.cell? ⟨b, 4, none⟩ = some (.int .i64 x.most) := hHP.cells 4
  have HO := hid hO
  clear hnm hHP hO
  by_cases hk2 : x.kind = 2
  · have HB := hid (show blocksM x = (x.most + 4 - 1) / 4 from by unfold blocksM; rw [if_pos hk2]; congr 1; omega)
    have hq : (0 : Int) ≤ x.most + 4 - 1 := by omega
    go_enter Tryz.func75, Tryz.ntmps75
    go_wp2_with fail
    go_ret
    rw [HB.out]
    exact ⟨rfl, HO.out, Keep.refl w⟩
  by_cases hk3 : x.kind = 3
  · have HB := hid (show blocksM x = 1 from by unfold blocksM; rw [if_neg hk2, if_pos hk3])
    go_enter Tryz.func75, Tryz.ntmps75
    go_wp2_with fail
    go_ret
    rw [HB.out]
    exact ⟨rfl, HO.out, Keep.refl w⟩
  · have HB := hid (show blocksM x = (((x.wr.take x.wr.length).filter id).length : Int) from by unfold blocksM; rw [if_neg hk2, if_neg hk3, List.take_length])
    obtain ⟨pw, cw, rfl, hcap, -, hcs⟩ := (Bools.rd HP.out.p2).form
    have hc2 : w.cell? ⟨b, 2, none⟩ = some (.slice pw x.wr.length cw) := HP.out.cells 2
    have hw6 : (x.wr.length : Int) ≤ 6 := by omega
    have hw0 : (0 : Int) ≤ (x.wr.length : Int) := by omega
    clear hcs
    have hbl := HP.out.lt
    have HP1 := hid (HP.out.alloc (.cells no12 196))
    go_enter Tryz.func75, Tryz.ntmps75
    go_wp2_with fail
    go_loopw [34, 3, 4, 5] (fun kv cv sv fv w' => ∃ k : Nat, k ≤ x.wr.length ∧ kv = .int .i64 (k : Int) ∧ sv = .int .i64 0 ∧ fv = .int .i64 0 ∧ cv = .int .i64 (((x.wr.take k).filter id).length : Int) ∧ Hid (Has w' (pt w.heap.size (.cells no12 196) :: pt b (.cells (nodC x dv (.slice pw x.wr.length cw) nm) 83) :: Dat x.kind dv x.data :: Bools (.slice pw x.wr.length cw) x.wr :: Nms nm x.names :: L)) ∧ Hid (Keep w w')) (fun kv _ _ _ _ => x.wr.length - (intOf kv).toNat)
    case atStart => exact ⟨0, by omega, rfl, rfl, rfl, rfl, HP1, hid ((Keep.refl w).alloc _)⟩
    case round =>
      clear HP1 HP HO hc0 hc4 hc2
      generalize w.heap.size = g6 at *
      obtain ⟨k, hk, rfl, rfl, rfl, rfl, HO, HK⟩ := hrel
      have hk0 : (0 : Int) ≤ (k : Int) := by omega
      by_cases hlt : k < x.wr.length
      · have hki : (k : Int) < (x.wr.length : Int) := by omega
        obtain ⟨p', c', e', -, -, hcs⟩ := (Bools.rd HO.out.p3).form
        obtain ⟨gw, ow, rfl, hcs2⟩ := hcs (by omega)
        simp only [Value.slice.injEq, true_and] at e'
        obtain ⟨rfl, rfl⟩ := e'
        have hcel : wr.cell? ⟨gw, ow + k, none⟩ = some (.bool x.wr[k]) := by
          rw [hcs2 k (by omega), List.getElem?_map, List.getElem?_eq_getElem hlt]
          rfl
        have hsc := cnt_succ x.wr k hlt
        have hcl : ((x.wr.take k).filter id).length ≤ 6 := by
          have h1 := List.length_filter_le id (x.wr.take k)
          have h2 : (x.wr.take k).length ≤ k := by simp; omega
          omega
        clear hcs hcs2
        generalize x.wr[k] = bv at *
        cases bv
        · have HSC := hid (show ((x.wr.take (k + 1)).filter id).length = ((x.wr.take k).filter id).length from by rw [hsc]; simp)
          clear hsc
          go_wp2_with fail
          exact ⟨⟨k + 1, by omega, by go_num, rfl, rfl, by rw [HSC.out], HO, HK⟩, by simp [intOf]; omega⟩
        · rw [if_pos rfl] at hsc
          have HSC := hid hsc
          clear hsc
          generalize ((x.wr.take k).filter id).length = cn at *
          have hcn0 : (0 : Int) ≤ (cn : Int) := by omega
          have hcn6 : (cn : Int) ≤ 6 := by omega
          go_wp2_with fail
          refine (nPlace k (by omega) _).mono ?_
          rintro e w' ⟨rfl, rfl⟩
          try dsimp only
          go_wp2_with fail
          exact ⟨⟨k + 1, by omega, by go_num, rfl, rfl, by rw [HSC.out]; go_num, HO, HK⟩, by simp [intOf]; omega⟩
      · obtain rfl : k = x.wr.length := by omega
        have hki : ¬ (x.wr.length : Int) < (x.wr.length : Int) := by omega
        have hcl : ((x.wr.take x.wr.length).filter id).length ≤ 6 := by
          have h1 := List.length_filter_le id (x.wr.take x.wr.length)
          have h2 : (x.wr.take x.wr.length).length ≤ x.wr.length := by simp
          omega
        generalize ((x.wr.take x.wr.length).filter id).length = cn at *
        have hcn0 : (0 : Int) ≤ (cn : Int) := by omega
        have hcn6 : (cn : Int) ≤ 6 := by omega
        have z0 : wr.cell? ⟨g6, 0, none⟩ = some (.bool false) := HO.out.cells 0
        have z1 : wr.cell? ⟨g6, 1, none⟩ = some (.bool false) := HO.out.cells 1
        have z2 : wr.cell? ⟨g6, 2, none⟩ = some (.bool false) := HO.out.cells 2
        have z3 : wr.cell? ⟨g6, 3, none⟩ = some (.bool false) := HO.out.cells 3
        have z4 : wr.cell? ⟨g6, 4, none⟩ = some (.bool false) := HO.out.cells 4
        have z5 : wr.cell? ⟨g6, 5, none⟩ = some (.bool false) := HO.out.cells 5
        have z6 : wr.cell? ⟨g6, 6, none⟩ = some (.bool false) := HO.out.cells 6
        have z7 : wr.cell? ⟨g6, 7, none⟩ = some (.bool false) := HO.out.cells 7
        have z8 : wr.cell? ⟨g6, 8, none⟩ = some (.bool false) := HO.out.cells 8
        have z9 : wr.cell? ⟨g6, 9, none⟩ = some (.bool false) := HO.out.cells 9
        have z10 : wr.cell? ⟨g6, 10, none⟩ = some (.bool false) := HO.out.cells 10
        have z11 : wr.cell? ⟨g6, 11, none⟩ = some (.bool false) := HO.out.cells 11
        go_wp2_with fail
        clear z0 z1 z2 z3 z4 z5 z6 z7 z8 z9 z10 z11
        go_loopw [58, 3] (fun kv cv w' => ∃ k : Nat, k ≤ 12 ∧ kv = .int .i64 (k : Int) ∧ cv = .int .i64 (cn : Int) ∧ Hid (Has w' (pt g6 (.cells no12 196) :: pt b (.cells (nodC x dv (.slice pw x.wr.length cw) nm) 83) :: Dat x.kind dv x.data :: Bools (.slice pw x.wr.length cw) x.wr :: Nms nm x.names :: L)) ∧ Hid (Keep w w')) (fun kv _ _ => 12 - (intOf kv).toNat)
        case atStart => exact ⟨0, by omega, rfl, rfl, HO, HK⟩
        case round =>
          clear HO HK
          obtain ⟨k, hk12, rfl, rfl, HO, HK⟩ := hrel
          have hk0 : (0 : Int) ≤ (k : Int) := by omega
          by_cases hlt2 : k < 12
          · have hki2 : (k : Int) < 12 := by omega
            have hi := index12 k hlt2 wr
            unfold no12 at hi
            go_wp2_with fail
            exact ⟨⟨k + 1, by omega, by go_num, rfl, HO, HK⟩, by simp [intOf]; omega⟩
          · obtain rfl : k = 12 := by omega
            rw [show ((12 : Nat) : Int) = 12 from rfl]
            go_wp2_with fail
            go_ret
            rw [HB.out]
            exact ⟨rfl, ndc_iff.2 ⟨_, _, _, HNM.out, HO.out.re 5 [1, 2, 3, 4]⟩, HK.out⟩
end Go.Proofs.YtonhcefgakmpfaaGreatDoor
/- THE WALK of tree.Need (files of at most six blocks). -/
namespace Go.Proofs.YtonhcefgakmpfaaGreatDoor
open Go.RowKit Go.Own
theorem kInt_val (x : Int) : kInt.val x = .int .i64 x := rfl
theorem vPtr_val (b : Nat) : vPtr.val (some b) = .pointer (some ⟨b, 0, none⟩) := rfl
def needSum (t : List (Int × Nod)) : Int := (t.map fun p => blocksM p.2).sum
def sumR : List Pn → List Int → Int
  | [], _ => 0
  | p :: P, rem => (if p.1 ∈ rem then 0 else blocksM p.2.2) + sumR P rem
theorem sumR_nil : ∀ P : List Pn, sumR P [] = needSum (pnN P)
  | [] => rfl
  | p :: P => by
    rw [sumR, sumR_nil P, if_neg (by simp)]
    simp [needSum, pnN]
theorem sumR_all : ∀ (P : List Pn) (rem : List Int), (∀ p ∈ P, p.1 ∈ rem) → sumR P rem = 0
  | [], _, _ => rfl
  | p :: P, rem, h => by
    rw [sumR, sumR_all P rem (fun q hq => h q (List.mem_cons_of_mem _ hq)), if_pos (h p List.mem_cons_self)]
    rfl
theorem sumR_off : ∀ (P : List Pn) (rem : List Int) (n : Int), n ∉ P.map Prod.fst → sumR P (rem.filter fun y => !decide (y = n)) = sumR P rem
  | [], _, _, _ => rfl
  | p :: P, rem, n, h => by
    simp only [List.map_cons, List.mem_cons, not_or] at h
    rw [sumR, sumR, sumR_off P rem n h.2]
    have : p.1 ∈ rem.filter (fun y => !decide (y = n)) ↔ p.1 ∈ rem := by simp [Ne.symm h.1]
    by_cases h2 : p.1 ∈ rem
    · rw [if_pos h2, if_pos (this.2 h2)]
    · rw [if_neg h2, if_neg (fun h => h2 (this.1 h))]
theorem sumR_step : ∀ (P1 P2 : List Pn) (rem : List Int) (n : Int) (b : Nat) (x : Nod), ((P1 ++ (n, b, x) :: P2).map Prod.fst).Nodup → n ∈ rem → sumR (P1 ++ (n, b, x) :: P2) (rem.filter fun y => !decide (y = n)) = sumR (P1 ++ (n, b, x) :: P2) rem + blocksM x
  | [], P2, rem, n, b, x, hd, hr => by
    simp only [List.nil_append, List.map_cons, List.nodup_cons] at hd
    rw [List.nil_append, sumR, sumR, sumR_off P2 rem n hd.1, if_pos hr, if_neg (by simp)]
    show blocksM x + _ = 0 + _ + blocksM x
    omega
  | p :: P1, P2, rem, n, b, x, hd, hr => by
    have hd0 := hd
    simp only [List.cons_append, List.map_cons, List.nodup_cons] at hd
    have hne : p.1 ≠ n := by
      intro e
      exact hd.1 (by rw [e]; simp)
    rw [List.cons_append, sumR, sumR, sumR_step P1 P2 rem n b x hd.2 hr]
    have : p.1 ∈ rem.filter (fun y => !decide (y = n)) ↔ p.1 ∈ rem := by simp [hne]
    by_cases h2 : p.1 ∈ rem
    · rw [if_pos h2, if_pos (this.2 h2)]; omega
    · rw [if_neg h2, if_neg (fun h => h2 (this.1 h))]; omega
theorem blocksM_low (x : Nod) (h0 : 0 ≤ x.most) (h1 : x.most ≤ 1000000) (h2 : x.wr.length ≤ 6) : 0 ≤ blocksM x ∧ blocksM x ≤ 1000000 := by
  unfold blocksM
  split
  · omega
  · split
    · omega
    · have := List.length_filter_le id x.wr
      omega
theorem sumR_low : ∀ (P : List Pn) (rem : List Int), (∀ p ∈ P, 0 ≤ blocksM p.2.2 ∧ blocksM p.2.2 ≤ 1000000) → 0 ≤ sumR P rem ∧ sumR P rem ≤ P.length * 1000000
  | [], _, _ => by simp [sumR]
  | p :: P, rem, h => by
    have h1 := sumR_low P rem fun q hq => h q (List.mem_cons_of_mem _ hq)
    have h2 := h p List.mem_cons_self
    rw [sumR, List.length_cons]
    split <;> omega
theorem pnC_pull3 {w : World} {L : List HP} {A B C : HP} {P1 P2 : List Pn} {p : Pn} : Has w (A :: B :: C :: (pnC (P1 ++ p :: P2) ++ L)) ↔ Has w (Ndc p.2.1 p.2.2 :: A :: B :: C :: (pnC (P1 ++ P2) ++ L)) := by
  have e : (A :: B :: C :: (pnC (P1 ++ p :: P2) ++ L)).Perm (Ndc p.2.1 p.2.2 :: A :: B :: C :: (pnC (P1 ++ P2) ++ L)) := by
    have h1 : (pnC (P1 ++ p :: P2) ++ L).Perm (Ndc p.2.1 p.2.2 :: (pnC (P1 ++ P2) ++ L)) := by
      unfold pnC
      rw [List.map_append, List.map_cons, List.map_append]
      simp only [List.append_assoc, List.cons_append]
      exact List.perm_middle
    refine (((h1.cons C).cons B).cons A).trans ?_
    refine List.Perm.trans (((List.Perm.swap _ _ _).cons B).cons A) ?_
    refine List.Perm.trans ((List.Perm.swap _ _ _).cons A) ?_
    exact List.Perm.swap _ _ _
  exact ⟨fun h => h.perm e, fun h => h.perm e.symm⟩
set_option maxRecDepth 100000 in
set_option maxHeartbeats 4000000 in
theorem tNeed (q : Nat) (S : Tre) (w : World) (L : List HP) (hb : ∀ n x, fnd S.nodes n = some x → 0 ≤ x.most ∧ x.most ≤ 1000000 ∧ x.wr.length ≤ 6) (hn : S.nodes.length ≤ 1000) (hO : Has w (Trc q S :: L)) :
    Calls Tryz.prog 21 #[.pointer (some ⟨q, 0, none⟩)] w fun e w' => e = .returned (.tuple #[.int .i64 (needSum S.nodes), .int .i64 (S.nodes.length : Int)]) ∧ Has w' (Trc q S :: L) ∧ Keep w w' := by
  obtain ⟨m, f, P, hPT, h⟩ := trc_iff.1 hO
  have HPT := hid hPT
  have h' := trb_iff.1 h
  have HND := hid (Trb.nodup h)
  have HO := hid (show Has w (Mk kInt vPtr m (pnB P) :: pt q (.cells (treC m f S.last) 88) :: Tab f S.tab :: (pnC P ++ L)) from h'.perm (.swap _ _ _))
  have hq0 : w.cell? ⟨q, 0, none⟩ = some (.map (some m)) := HO.out.p1.cells 0
  have HBD := hid (show ∀ p ∈ P, 0 ≤ p.2.2.most ∧ p.2.2.most ≤ 1000000 ∧ p.2.2.wr.length ≤ 6 from by
    intro p hp
    have hm : (p.1, p.2.2) ∈ pnN P := List.mem_map.2 ⟨p, hp, rfl⟩
    have hnd : ((pnN P).map Prod.fst).Nodup := by rw [pnN_keys]; exact HND.out
    exact hb p.1 p.2.2 (by rw [← hPT.1]; exact fnd_mem hnd hm))
  have HLW := hid (fun rem => sumR_low P rem fun p hp => blocksM_low p.2.2 (HBD.out p hp).1 (HBD.out p hp).2.1 (HBD.out p hp).2.2)
  have hPl : P.length = S.nodes.length := by rw [← hPT.1]; simp [pnN]
  have hP9 : P.length ≤ 1000 := by omega
  clear hO h h' hPT hb
  go_enter Tryz.func21, Tryz.ntmps21
  go_wp2_with (at_range; refine wpList_mkStart HO.out tNo undNo rfl _ rfl rfl ?_; intro w4 hO4 hK4 hs4)
  try go_frame
  have HO4 := hid hO4
  have HK4 := hid hK4
  clear hO4 hK4 hs4 hq0 HO
  generalize w.heap.size = r at *
  generalize hr0 : (pnB P).map Prod.fst = rem0 at *
  have HS0 := hid (show sumR P rem0 = 0 from sumR_all P rem0 fun p hp => by rw [← hr0, pnB_keys]; exact List.mem_map_of_mem hp)
  clear hr0
  generalize (pnB P).length = cnt0 at *
  go_loopw [4] (fun cv w' => ∃ (rem : List Int) (cnt : Nat), cv = .int .i64 (sumR P rem) ∧ Hid (Has w' (Mr kInt vPtr m r (pnB P) rem cnt :: pt q (.cells (treC m f S.last) 88) :: Tab f S.tab :: (pnC P ++ L))) ∧ Hid (Keep w w')) (fun _ w' => w'.rangeLeft m r)
  case atStart => exact ⟨rem0, cnt0, by rw [HS0.out], HO4, HK4⟩
  case round =>
    clear HO4 HK4 HS0
    obtain ⟨rem, cnt, rfl, HO, HK⟩ := hrel
    have hleft := Mr.left HO.out
    have HLF := hid hleft
    have hlow := HLW.out rem
    go_wp2_with (at_next; refine wpList_mkNext HO.out rfl _ rfl rfl ?_ ?_)
    · intro hrem
      subst hrem
      have HSN := hid (sumR_nil P)
      have HO5 := hid (Mr.end HO.out)
      have hq0 : wr.cell? ⟨q, 0, none⟩ = some (.map (some m)) := HO5.out.p1.cells 0
      have hlen := Mk.len HO5.out undNo 3
      have hbl : (pnB P).length = S.nodes.length := by rw [← hPl]; simp [pnB]
      rw [hbl] at hlen
      clear HO hleft
      generalize sumR P [] = sm at *
      go_wp2_with fail
      go_ret2
      rw [HSN.out, HPT.out.1]
      exact ⟨rfl, trc_iff.2 ⟨m, f, P, HPT.out, trb_iff.2 (HO5.out.perm (.swap _ _ _))⟩, HK.out⟩
    · rintro n ob w5 cnt' hp hr hky hO5 hlt5 hK5 hsz hen
      obtain ⟨⟨n', b, x⟩, hpP, he⟩ := List.mem_map.1 hp
      simp only [Prod.mk.injEq] at he
      obtain ⟨rfl, rfl⟩ := he
      simp only [kInt_val, vPtr_val] at hen ⊢
      have hen2 := hen
      obtain ⟨P1, P2, hPe⟩ := List.append_of_mem hpP
      have HPe := hid hPe
      have hbx := HBD.out _ hpP
      have hblo := blocksM_low x hbx.1 hbx.2.1 hbx.2.2
      have HO6 := hid (show Has w5 (Ndc b x :: Mr kInt vPtr m r (pnB P) (rem.filter fun y => !decide (y = n')) cnt' :: pt q (.cells (treC m f S.last) 88) :: Tab f S.tab :: (pnC (P1 ++ P2) ++ L)) from pnC_pull3.1 (by rw [← hPe]; exact hO5))
      have HST := hid (show sumR P (rem.filter fun y => !decide (y = n')) = sumR P rem + blocksM x from by
        rw [hPe]
        exact sumR_step P1 P2 rem n' b x (by rw [← hPe]; exact HND.out) hr)
      have HK6 := hid (HK.out.trans hK5)
      have HL5 := hid hlt5
      clear hp hr hky hO5 hlt5 hK5 hsz hPe hpP hleft HO HK
      generalize sumR P rem = sm at *
      generalize hbm : blocksM x = bm at *
      have hsm9 : sm ≤ 1000000000 := by omega
      obtain ⟨hs0, -⟩ := hlow
      obtain ⟨hbm0, hbm9⟩ := hblo
      have HBM := hid hbm
      clear hbm
      go_wp2_with fail
      refine (tBlocks b x w5 _ hbx.1 hbx.2.1 hbx.2.2 HO6.out).mono ?_
      rintro e w7 ⟨rfl, hO7, hK7⟩
      have HO7 := hid hO7
      have HK7 := hid ((HK6.out).trans hK7)
      clear hO7 hK7
      try dsimp only
      rw [HBM.out]
      have HO8 := hid (show Has w7 (Mr kInt vPtr m r (pnB P) (rem.filter fun y => !decide (y = n')) cnt' :: pt q (.cells (treC m f S.last) 88) :: Tab f S.tab :: (pnC P ++ L)) from by
        have h1 := pnC_pull3 (p := (n', b, x)).2 HO7.out
        rwa [← HPe.out] at h1)
      have hleft := Mr.left HO8.out
      clear HO6 HK6 HO7 hen hen2
      go_wp2_with fail
      exact ⟨⟨_, _, by rw [HST.out], HO8, HK7⟩, by rw [hleft, HLF.out]; exact HL5.out⟩
end Go.Proofs.YtonhcefgakmpfaaGreatDoor
/- The trees of chapter 14's 'awake'. No program in sight. -/
namespace Go.Proofs.YtonhcefgakmpfaaGreatDoor
open Go.RowKit Go.Own
abbrev nA : Str := [97]
abbrev pA : Str := [47, 97]
abbrev pAF : Str := [47, 97, 47, 102]
abbrev pB : Str := [47, 98]
def tabA (s : Tb.Slot) : List Tb.Slot := s :: List.replicate 15 Tb.none4
def treE1 : Tre := ⟨[(1, ⟨2, [], [], [(nA, 2)], 1, 1, 0⟩), (2, ⟨2, [], [], [], 0, 1, 1⟩)], 2, List.replicate 16 Tb.none4⟩
def treE2 : Tre := ⟨[(1, ⟨2, [], [], [(nA, 2)], 1, 1, 0⟩), (2, ⟨2, [], [], [(nF, 3)], 1, 1, 1⟩), (3, ⟨1, [], [], [], 0, 1, 0⟩)], 3, tabA ⟨3, 0, 33, true⟩⟩
def treE3 : Tre := ⟨[(1, ⟨2, [], [], [(nA, 2)], 1, 1, 0⟩), (2, ⟨2, [], [], [(nF, 3)], 1, 1, 1⟩), (3, ⟨1, [120, 121, 122], [true], [], 0, 1, 0⟩)], 3, tabA ⟨3, 3, 33, true⟩⟩
def rkA (n : Int) : Nat := if n = 3 then 2 else if n = 2 then 1 else 0
theorem rkA_low (n : Int) : rkA n ≤ 20 := by unfold rkA; split <;> (try split) <;> omega
theorem splitM_A : splitM pA = ([nA], 0) := by decide +kernel
theorem splitM_AF : splitM pAF = ([nA, nF], 0) := by decide +kernel
theorem splitM_B : splitM pB = ([[98]], 0) := by decide +kernel
theorem lastM_A : lastM pA = ([47], nA, 0) := by decide +kernel
theorem lastM_AF : lastM pAF = (pA, nF, 0) := by decide +kernel
theorem wk_0 : wkB tre0 = true := by decide +kernel
theorem wk_A : wkB treE1 = true := by decide +kernel
theorem wk_B : wkB treE2 = true := by decide +kernel
theorem wk_C : wkB treE3 = true := by decide +kernel
theorem wy_0 : wyB tre0 rkA = true := by decide +kernel
theorem wy_A : wyB treE1 rkA = true := by decide +kernel
theorem opb_0 : opbB tre0 = true := by decide +kernel
theorem opb_A : opbB treE1 = true := by decide +kernel
theorem opn_B : opnB treE2 = true := by decide +kernel
theorem place_A : tre0.place pA = (⟨0, 1, nA⟩, 0) := by
  unfold Tre.place
  rw [lastM_A, if_neg (by simp), find_root, if_neg (by simp), if_neg (by decide +kernel), if_neg (by decide +kernel)]
  rfl
theorem mkdir_A : tre0.mkdir pA = (ansE 0, treE1) := by
  unfold Tre.mkdir Tre.fresh
  rw [place_A]
  rfl
theorem find_A (S : Tre) (fo : Bool) (h1 : (S.at_ 1).kind = 2) (h2 : fnd (S.at_ 1).names nA = some 2) (h3 : (S.at_ 2).kind = 2) : S.find pA fo = (⟨2, 1, nA⟩, 0) := by
  unfold Tre.find
  rw [splitM_A, if_neg (by simp)]
  show S.walk ⟨1, 0, []⟩ 0 [nA] fo = _
  rw [Tre.walk, if_neg (by rw [h1]; decide), if_neg (by decide)]
  dsimp only
  rw [h2]
  dsimp only
  rw [if_neg (by rw [h3]; simp), Tre.walk]
theorem find_AF (S : Tre) (fo : Bool) (h1 : (S.at_ 1).kind = 2) (h2 : fnd (S.at_ 1).names nA = some 2) (h3 : (S.at_ 2).kind = 2) (h4 : fnd (S.at_ 2).names nF = some 3) (h5 : (S.at_ 3).kind = 1) : S.find pAF fo = (⟨3, 2, nF⟩, 0) := by
  unfold Tre.find
  rw [splitM_AF, if_neg (by simp)]
  show S.walk ⟨1, 0, []⟩ 0 [nA, nF] fo = _
  rw [Tre.walk, if_neg (by rw [h1]; decide), if_neg (by decide)]
  dsimp only
  rw [h2]
  dsimp only
  rw [if_neg (by rw [h3]; simp), Tre.walk, if_neg (by rw [h3]; decide), if_neg (by decide)]
  dsimp only
  rw [h4]
  dsimp only
  rw [if_neg (by rw [h5]; simp), Tre.walk]
theorem find_B (S : Tre) (fo : Bool) (h1 : (S.at_ 1).kind = 2) (h2 : fnd (S.at_ 1).names [98] = none) : S.find pB fo = (spt0, 5) := by
  unfold Tre.find
  rw [splitM_B, if_neg (by simp)]
  show S.walk ⟨1, 0, []⟩ 0 [[98]] fo = _
  rw [Tre.walk, if_neg (by rw [h1]; decide), if_neg (by decide)]
  dsimp only
  rw [h2]
theorem place_AF : treE1.place pAF = (⟨0, 2, nF⟩, 0) := by
  unfold Tre.place
  rw [lastM_AF, if_neg (by simp)]
  dsimp only
  rw [find_A treE1 true rfl rfl rfl, if_neg (by simp), if_neg (by decide +kernel), if_neg (by decide +kernel)]
  rfl
theorem open_AF : treE1.openFd pAF 33 = (⟨0, 0, 0, 0, [], []⟩, treE2) := by
  unfold Tre.openFd
  rw [if_neg (by decide +kernel), if_pos (by decide +kernel), place_AF, if_neg (by simp), if_neg (by simp), if_neg (by decide)]
  unfold Tre.openAt
  rw [if_neg (by simp), if_neg (by decide +kernel)]
  rfl
theorem write_AF : treE2.write 4 0 0 [120, 121, 122] = (⟨0, 3, 0, 0, [], []⟩, treE3) := by
  unfold Tre.write
  rfl
theorem stat_AF : treE3.stat pAF true = ⟨0, 3, 1, 1, [], []⟩ := by
  unfold Tre.stat
  rw [find_AF treE3 true rfl rfl rfl rfl rfl]
  rfl
theorem stat_B : treE3.stat pB true = ansE 5 := by
  unfold Tre.stat
  rw [find_B treE3 true rfl rfl]
  rfl
theorem number_A : (treE3.find pA false).1.node = 2 := by rw [find_A treE3 false rfl rfl rfl]
theorem need_C : needSum treE3.nodes = 3 := by decide +kernel
theorem seen_C : (seen treE3.nodes 22 1 []).length = 3 := by decide +kernel
theorem low_C : ∀ n x, fnd treE3.nodes n = some x → rkA n ≤ 21 := fun n _ _ => by have := rkA_low n; omega
theorem rk_C : ∀ n x, fnd treE3.nodes n = some x → ∀ e ∈ x.names, rkA n < rkA e.2 ∧ e.1.length ≤ 24 ∧ ∃ y, fnd treE3.nodes e.2 = some y := by
  have h : (treE3.nodes.all fun p => p.2.names.all fun e => decide (rkA p.1 < rkA e.2) && decide (e.1.length ≤ 24) && (fnd treE3.nodes e.2).isSome) = true := by decide +kernel
  intro n x hx e he
  have h1 := (List.all_eq_true.1 ((List.all_eq_true.1 h) _ (fnd_some hx))) e he
  simp only [Bool.and_eq_true, decide_eq_true_eq] at h1
  exact ⟨h1.1.1, h1.1.2, Option.isSome_iff_exists.1 h1.2⟩
theorem need_small : ∀ n x, fnd treE3.nodes n = some x → 0 ≤ x.most ∧ x.most ≤ 1000000 ∧ x.wr.length ≤ 6 := by
  have h : (treE3.nodes.all fun p => decide (0 ≤ p.2.most) && decide (p.2.most ≤ 1000000) && decide (p.2.wr.length ≤ 6)) = true := by decide +kernel
  intro n x hx
  have h1 := (List.all_eq_true.1 h) _ (fnd_some hx)
  simp only [Bool.and_eq_true, decide_eq_true_eq] at h1
  exact ⟨h1.1.1, h1.1.2, h1.2⟩
end Go.Proofs.YtonhcefgakmpfaaGreatDoor
/- Plain facts: one file f, and what is done to it by what is open. No program in sight. -/
namespace Go.Proofs.YtonhcefgakmpfaaGreatDoor
open Go.RowKit Go.Own
def tabB (s t : Tb.Slot) : List Tb.Slot := s :: t :: List.replicate 14 Tb.none4
section
variable {d : List Int} {wr : List Bool} {T : List Tb.Slot} {fd : Int} {s : Tb.Slot}
def cutD (d : List Int) (size : Nat) : List Int := if size ≤ d.length then d.take size else d ++ List.replicate (size - d.length) 0
def cutW (d : List Int) (wr : List Bool) (size : Nat) : List Bool := if size ≤ d.length then wr.take (needM size) else wr
def wrD (d : List Int) (o : Nat) (ds : List Int) : List Int := (cutD d (max d.length (o + ds.length))).take o ++ ds ++ (cutD d (max d.length (o + ds.length))).drop (o + ds.length)
def wrW (d : List Int) (wr : List Bool) (o : Nat) (ds : List Int) : List Bool := wrSet (cutW d wr (max d.length (o + ds.length)) ++ List.replicate (needM (o + ds.length) - (cutW d wr (max d.length (o + ds.length))).length) false) (o / 128) (needM (o + ds.length))
/-- Where a write stands. -/
def wrO (d : List Int) (s : Tb.Slot) : Int := if andI s.flags 8 ≠ 0 then (d.length : Int) else s.off
end
end Go.Proofs.YtonhcefgakmpfaaGreatDoor
/- An operation as the laws write it. -/
namespace Go.Proofs.YtonhcefgakmpfaaGreatDoor
open Go.RowKit Go.Own
abbrev opW (k fd n off fl : Int) (p : Str) (dv : Value) : Value := .agg #[.int .i64 k, .int .i64 fd, .int .i64 n, .int .i64 off, .int .i64 fl, .string ⟨p.toArray⟩, .string ⟨#[]⟩, dv]
section
variable (a b c d : Int) (x y : Value) (w : World)
/-- The fields of an answer. -/
theorem ansF0 : (Instr.field 32 (.agg #[.int .i64 a, .int .i64 b, .int .i64 c, .int .i64 d, x, y]) 0).run Tryz.prog w = .ok (.int .i64 a) w := by kernel_rfl
end
end Go.Proofs.YtonhcefgakmpfaaGreatDoor
/- THE WALK of tree.Do, by the kinds of operations. -/
namespace Go.Proofs.YtonhcefgakmpfaaGreatDoor
open Go.RowKit Go.Own
set_option maxRecDepth 100000 in
set_option maxHeartbeats 8000000 in
theorem doOpen (q : Nat) (S : Tre) (fd n off flags : Int) (path dest : Str) (ov : Value) (w : World) (L : List HP) (rk : Int → Nat) (mx : Int) (hW : Wk S) (hY : Wy S rk) (hB : Opb S) (hM : MxL mx L) (hp : path.length ≤ 100000) (hno4 : andI flags 4 = 0) (hO : Has w (Trc q S :: L)) :
    Calls Tryz.prog 17 #[.pointer (some ⟨q, 0, none⟩), opV ⟨1, fd, n, off, flags, path, dest⟩ (ov)] w fun e w' => e = .returned (ansV (S.openFd path flags).1 nilV nilV) ∧ Has w' (Trc q (S.openFd path flags).2 :: L) ∧ Keep w w' := by
  have HX0 := (fun (w : World) (L' : List HP) (hM : MxL mx L') (hO : Has w (Trc q S :: L')) => tOpen q S rk ⟨1, fd, n, off, flags, path, dest⟩ ov mx w L' hW hY hB hM hp hno4 hO)
  dsimp only at HX0
  have HX := hid HX0
  clear HX0
  have HM := hid hM
  clear hM
  generalize S.openFd path flags = R at *
  have HO := hid hO
  clear hO
  unfold opV opC at HX ⊢
  go_enter Tryz.func17, Tryz.ntmps17
  go_upto_region 1 with fail
  have h1 := (HO.out.alloc (.cells #[.int .i64 1, .int .i64 fd, .int .i64 n, .int .i64 off, .int .i64 flags, sV path, sV dest, ov] 35)).alloc (.cells (ansC (ansE 0) nilV nilV) 32)
  have HK1 := hid (((Keep.refl w).alloc (.cells #[.int .i64 1, .int .i64 fd, .int .i64 n, .int .i64 off, .int .i64 flags, sV path, sV dest, ov] 35)).alloc (.cells (ansC (ansE 0) nilV nilV) 32))
  unfold ansC ansE at h1 HK1
  have e1 : (w.alloc (.cells #[.int .i64 1, .int .i64 fd, .int .i64 n, .int .i64 off, .int .i64 flags, sV path, sV dest, ov] 35)).heap.size = w.heap.size + 1 := by show (Array.push _ _).size = _; rw [Array.size_push]
  rw [e1] at h1
  have HO1 := hid h1
  clear h1 e1 HO
  generalize (w.alloc (.cells #[.int .i64 1, .int .i64 fd, .int .i64 n, .int .i64 off, .int .i64 flags, sV path, sV dest, ov] 35)).alloc (.cells #[.int .i64 0, .int .i64 0, .int .i64 0, .int .i64 0, nilV, nilV] 32) = w1 at *
  generalize w.heap.size = g3 at *
  generalize g3 + 1 = g4 at *
  have hp0 : w1.cell? ⟨g3, 0, none⟩ = some (.int .i64 1) := HO1.out.p1.cells 0
  have hp1 : w1.cell? ⟨g3, 1, none⟩ = some (.int .i64 fd) := HO1.out.p1.cells 1
  have hp2 : w1.cell? ⟨g3, 2, none⟩ = some (.int .i64 n) := HO1.out.p1.cells 2
  have hp3 : w1.cell? ⟨g3, 3, none⟩ = some (.int .i64 off) := HO1.out.p1.cells 3
  have hp4 : w1.cell? ⟨g3, 4, none⟩ = some (.int .i64 flags) := HO1.out.p1.cells 4
  have hp5 : w1.cell? ⟨g3, 5, none⟩ = some (sV path) := HO1.out.p1.cells 5
  have hp6 : w1.cell? ⟨g3, 6, none⟩ = some (sV dest) := HO1.out.p1.cells 6
  have hp7 : w1.cell? ⟨g3, 7, none⟩ = some (ov) := HO1.out.p1.cells 7
  go_wp2_with fail
  refine (HX.out w1 _ ((HM.out.cons (pt g3 (.cells #[.int .i64 1, .int .i64 fd, .int .i64 n, .int .i64 off, .int .i64 flags, sV path, sV dest, ov] 35))).cons (pt g4 (.cells #[.int .i64 0, .int .i64 0, .int .i64 0, .int .i64 0, nilV, nilV] 32))) (HO1.out.re 3 [2, 0, 1])).mono ?_
  rintro e w2 ⟨rfl, hO2, hK2⟩
  have HO2 := hid hO2
  have HK2 := hid ((HK1.out).trans hK2)
  clear hO2 hK2
  try dsimp only
  have HO3 := hid (show Has w2 (pt g4 (.cells (ansC (ansE 0) nilV nilV) 32) :: Trc q R.2 :: L) from HO2.out.re 3 [1, 0])
  have hz0 : w2.cell? ⟨g4, 0, none⟩ = some (.int .i64 0) := (HO3.out).cells 0
  have hz1 : w2.cell? ⟨g4, 1, none⟩ = some (.int .i64 0) := (HO3.out).cells 1
  have hz2 : w2.cell? ⟨g4, 2, none⟩ = some (.int .i64 0) := (HO3.out).cells 2
  have hz3 : w2.cell? ⟨g4, 3, none⟩ = some (.int .i64 0) := (HO3.out).cells 3
  have hz4 : w2.cell? ⟨g4, 4, none⟩ = some (.slice none 0 0) := (HO3.out).cells 4
  have hz5 : w2.cell? ⟨g4, 5, none⟩ = some (.slice none 0 0) := (HO3.out).cells 5
  have hy0 := (HO3.out).thaw 0
  have hy1 := (HO3.out).thaw 1
  have hy2 := (HO3.out).thaw 2
  have hy3 := (HO3.out).thaw 3
  have hy4 := (HO3.out).thaw 4
  have hy5 := (HO3.out).thaw 5
  unfold ansV ansC
  go_wp2_with fail
  have h1 := HO3.out.ans R.1 nilV nilV
  refine bodyPost_ret (ans_result rfl rfl h1) rfl ?_
  exact ⟨rfl, h1.drop, HK2.out.ans _ _ _ _ _ _ _⟩
end Go.Proofs.YtonhcefgakmpfaaGreatDoor
/- tree.Do on a tree of one file f: each operation as the laws call it. -/
namespace Go.Proofs.YtonhcefgakmpfaaGreatDoor
open Go.RowKit Go.Own
section
variable (q : Nat) (mx : Int) (w : World) (L : List HP)
variable {d : List Int} {wr : List Bool} {T : List Tb.Slot} {fd : Int} {s : Tb.Slot} (hd : d.length ≤ 100000) (hw : wr.length ≤ 162)
include hd hw
variable (hT : TabF T) (hl : Tb.look T fd = some s)
include hT hl
variable (hf : andI s.flags 32 ≠ 0)
include hf
variable (po : Option Addr) (co : Nat) {ds : List Int} (hds : ds.length ≤ 10000)
include hds
/-- A write anywhere. -/
def pwD (d : List Int) (o : Nat) (ds : List Int) : List Int := if ds = [] then d else wrD d o ds
end
end Go.Proofs.YtonhcefgakmpfaaGreatDoor
/-
  DERIVED: THE SHELF's CONTRACTS AT THIS DUMP, IN PLAIN WORDS (tools/lay-plain.mjs out of 'TryzSrt.lean', which tools/lay-shelf.mjs wrote): THE SAME DECLARATIONS UNDER THE SAME NAMES: 'import', 'namespace', 'open', 'def', 'theorem' AND NOTHING ELSE: no command of the shelf's: FOR A HAND-IN. Each laying: the table of numbers ('.._ren') and one theorem, a field a fact of the dump's own or the kernel's comparison; each contract: ONE APPLICATION.
-/
namespace Go.Proofs
open Go.Shelf
def Tryz.sortNode_ren : Go.Shelf.Ren := ⟨fun | 6 => 72 | 15 => 136 | 14 => 135 | 28 => 201 | 29 => 202 | 20 => 193 | 21 => 194 | 22 => 195 | 23 => 196 | 24 => 197 | 25 => 198 | 26 => 199 | 27 => 200 | 46 => 240 | 47 => 241 | 48 => 242 | 49 => 243 | 50 => 244 | 57 => 273 | n => n, fun | 22 => 37 | 24 => 55 | 25 => 110 | 3 => 3 | 39 => 135 | 0 => 0 | 53 => 252 | 55 => 254 | 4 => 4 | 46 => 246 | 45 => 245 | 50 => 134 | 5 => 5 | 9 => 9 | 66 => 277 | 70 => 281 | 76 => 307 | 77 => 39 | n => n, fun | n => n⟩
theorem Tryz.sortNode : Go.Proofs.SlLaysF0.n6 Tryz.prog Tryz.sortNode_ren := {
  mixed := by kernel_rfl
  f6 := ⟨Tryz.f72.name, by decide, Tryz.func72.trans (congrArg some (by kernel_rfl))⟩
  f14 := ⟨Tryz.f135.name, by decide, Tryz.func135.trans (congrArg some (by kernel_rfl))⟩
  f15 := Tryz.func136.trans (congrArg some (by kernel_rfl))
  f20 := ⟨Tryz.f193.name, by decide, Tryz.func193.trans (congrArg some (by kernel_rfl))⟩
  f21 := ⟨Tryz.f194.name, by decide, Tryz.func194.trans (congrArg some (by kernel_rfl))⟩
  f22 := ⟨Tryz.f195.name, by decide, Tryz.func195.trans (congrArg some (by kernel_rfl))⟩
  f23 := ⟨Tryz.f196.name, by decide, Tryz.func196.trans (congrArg some (by kernel_rfl))⟩
  f24 := ⟨Tryz.f197.name, by decide, Tryz.func197.trans (congrArg some (by kernel_rfl))⟩
  f25 := ⟨Tryz.f198.name, by decide, Tryz.func198.trans (congrArg some (by kernel_rfl))⟩
  f26 := ⟨Tryz.f199.name, by decide, Tryz.func199.trans (congrArg some (by kernel_rfl))⟩
  f27 := ⟨Tryz.f200.name, by decide, Tryz.func200.trans (congrArg some (by kernel_rfl))⟩
  f28 := Tryz.func201.trans (congrArg some (by kernel_rfl))
  f29 := Tryz.func202.trans (congrArg some (by kernel_rfl))
  f46 := ⟨Tryz.f240.name, by decide, Tryz.func240.trans (congrArg some (by kernel_rfl))⟩
  f47 := Tryz.func241.trans (congrArg some (by kernel_rfl))
  f48 := Tryz.func242.trans (congrArg some (by kernel_rfl))
  f49 := ⟨Tryz.f243.name, by decide, Tryz.func243.trans (congrArg some (by kernel_rfl))⟩
  f50 := ⟨Tryz.f244.name, by decide, Tryz.func244.trans (congrArg some (by kernel_rfl))⟩
  f57 := ⟨Tryz.f273.name, by decide, Tryz.func273.trans (congrArg some (by kernel_rfl))⟩
  t0 := Tryz.underlying0
  a0 := Tryz.isAgg0
  z0 := Tryz.sizeOf0
  v0 := Tryz.zeroValue0
  t3 := Tryz.underlying3
  a3 := Tryz.isAgg3
  z3 := Tryz.sizeOf3
  v3 := Tryz.zeroValue3
  t4 := Tryz.underlying4
  a4 := Tryz.isAgg4
  z4 := Tryz.sizeOf4
  v4 := Tryz.zeroValue4
  t5 := Tryz.underlying5
  a5 := Tryz.isAgg5
  z5 := Tryz.sizeOf5
  v5 := Tryz.zeroValue5
  t9 := Tryz.underlying9
  a9 := Tryz.isAgg9
  z9 := Tryz.sizeOf9
  v9 := Tryz.zeroValue9
  t22 := Tryz.underlying37
  a22 := Tryz.isAgg37
  z22 := Tryz.sizeOf37
  v22 := Tryz.zeroValue37
  t25 := Tryz.underlying110
  a25 := Tryz.isAgg110
  z25 := Tryz.sizeOf110
  v25 := Tryz.zeroValue110
  t39 := Tryz.underlying135
  a39 := Tryz.isAgg135
  z39 := Tryz.sizeOf135
  v39 := Tryz.zeroValue135
  t45 := Tryz.underlying245
  a45 := Tryz.isAgg245
  z45 := Tryz.sizeOf245
  v45 := Tryz.zeroValue245
  t46 := Tryz.underlying246
  a46 := Tryz.isAgg246
  z46 := Tryz.sizeOf246
  v46 := Tryz.zeroValue246
  t50 := Tryz.underlying134
  a50 := Tryz.isAgg134
  z50 := Tryz.sizeOf134
  v50 := Tryz.zeroValue134
  t53 := Tryz.underlying252
  a53 := Tryz.isAgg252
  z53 := Tryz.sizeOf252
  v53 := Tryz.zeroValue252
  t55 := Tryz.underlying254
  a55 := Tryz.isAgg254
  z55 := Tryz.sizeOf254
  v55 := Tryz.zeroValue254
  t66 := Tryz.underlying277
  a66 := Tryz.isAgg277
  z66 := Tryz.sizeOf277
  v66 := Tryz.zeroValue277
  t70 := Tryz.underlying281
  a70 := Tryz.isAgg281
  z70 := Tryz.sizeOf281
  v70 := Tryz.zeroValue281
  t76 := Tryz.underlying307
  a76 := Tryz.isAgg307
  z76 := Tryz.sizeOf307
  v76 := Tryz.zeroValue307
  t77 := Tryz.underlying39
  a77 := Tryz.isAgg39
  z77 := Tryz.sizeOf39
  v77 := Tryz.zeroValue39 }
end Go.Proofs
