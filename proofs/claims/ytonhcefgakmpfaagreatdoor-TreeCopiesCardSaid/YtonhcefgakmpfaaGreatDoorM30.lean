/- TEXTS of mine, merged. -/
import Derived.Test.YtonhcefgakmpfaaGreatDoorM28
import Derived.Test.YtonhcefgakmpfaaGreatDoorM29
import Derived.Test.YtonhcefgakmpfaaGreatDoorM26
/- HOW MANY FILES a tree has, plain. No program in sight. -/
namespace Go.Proofs.YtonhcefgakmpfaaGreatDoor
open Go.RowKit Go.Own
theorem nodup_lenS {α : Type} [DecidableEq α] {l : List α} : ∀ {l' : List α}, l.Nodup → (∀ x ∈ l, x ∈ l') → l.length ≤ l'.length := by
  induction l with
  | nil => intro l' _ _; simp
  | cons x l ih =>
    intro l' hn hs
    rw [List.nodup_cons] at hn
    have hx : x ∈ l' := hs x (by simp)
    have h1 := ih (l' := l'.erase x) hn.2 fun y hy => by
      have hne : y ≠ x := by rintro rfl; exact hn.1 hy
      exact (List.mem_erase_of_ne hne).2 (hs y (by simp [hy]))
    rw [List.length_erase_of_mem hx] at h1
    have : 0 < l'.length := List.length_pos_of_mem hx
    simp only [List.length_cons]
    omega
variable {S : Tre} {rk : Int → Nat} {k : Nat}
theorem Gd.files_nodup (h : Gd S rk k) : ((filesP S).map Prod.fst).Nodup := by
  obtain ⟨x1, hx1⟩ := h.x.has1
  unfold List.Nodup
  rw [List.pairwise_map]
  exact h.seenP_nodup 22 1 x1 [] hx1
def allP (S : Tre) : List (List Str) := [] :: S.nodes.flatMap fun p => p.2.names.map fun e => S.way p.1 ++ [e.1]
theorem Gd.files_sub (h : Gd S rk k) {e : List Str × Int × Nod} (he : e ∈ filesP S) : e.1 ∈ allP S := by
  obtain ⟨h1, h2⟩ := (h.files_mem e).1 he
  by_cases h0 : e.1 = []
  · rw [h0]; exact List.mem_cons_self
  · obtain ⟨qs, p, hq⟩ : ∃ qs p, e.1 = qs ++ [p] := ⟨e.1.dropLast, e.1.getLast h0, (List.dropLast_concat_getLast h0).symm⟩
    rw [hq] at h1 ⊢
    obtain ⟨d, hd, hf⟩ := goN_snoc h1
    obtain ⟨x1, hx1⟩ := h.x.has1
    obtain ⟨y, hy, _⟩ := h.go_there qs 1 x1 hx1 d hd
    rw [at_of hy] at hf
    have hk : y.kind = 2 := Classical.byContradiction fun h2 => by
      rw [((h.nod hy).file h2).1] at hf
      cases hf
    have hw := h.way_go qs.length qs d y rfl hy hk hd
    refine List.mem_cons_of_mem _ (List.mem_flatMap.2 ⟨(d, y), fnd_some hy, List.mem_map.2 ⟨_, fnd_some hf, ?_⟩⟩)
    show S.way d ++ [p] = _
    rw [hw]
theorem Gd.files_few (h : Gd S rk k) : (filesP S).length ≤ 1 + (k + 1) * k := by
  have h1 := nodup_lenS h.files_nodup (l' := allP S) fun x hx => by
    obtain ⟨e, he, rfl⟩ := List.mem_map.1 hx
    exact h.files_sub he
  rw [List.length_map] at h1
  have h2 : (allP S).length ≤ 1 + S.nodes.length * k := by
    unfold allP
    rw [List.length_cons, List.length_flatMap]
    have : ∀ t : List (Int × Nod), (∀ p ∈ t, p.2.names.length ≤ k) → (t.map fun p => (p.2.names.map fun e => S.way p.1 ++ [e.1]).length).sum ≤ t.length * k := by
      intro t
      induction t with
      | nil => intro _; simp
      | cons p t ih =>
        intro hp
        have h3 := ih fun q hq => hp q (List.mem_cons_of_mem _ hq)
        have h4 := hp p List.mem_cons_self
        rw [List.map_cons, List.sum_cons, List.length_map, List.length_cons, Nat.add_mul]
        omega
    have h5 := this S.nodes fun p hp => (h.nod (fnd_mem h.x.keys (show (p.1, p.2) ∈ S.nodes from hp))).size.2.2.1
    omega
  have h3 : S.nodes.length * k ≤ (k + 1) * k := Nat.mul_le_mul_right _ h.many
  omega
theorem Gd.files_few' (h : Gd S rk k) (hk : k < 900) : (filesP S).length ≤ 1000000 := by
  have h1 := h.files_few
  have h2 : (k + 1) * k ≤ 900 * 900 := Nat.mul_le_mul (by omega) (by omega)
  omega
end Go.Proofs.YtonhcefgakmpfaaGreatDoor
/- Steps of the laws that do a list of operations. -/
namespace Go.Proofs.YtonhcefgakmpfaaGreatDoor
open Go.RowKit Go.Own
theorem gdTake {R : List Oq} (hR : ∀ y ∈ R, greatM y = false) (k : Nat) (hk : k ≤ R.length) : Gdx (runM tre0 (R.take k)) k := by
  have h := runM_gd gdx0 (R.take k) fun y hy => hR y (List.mem_of_mem_take hy)
  rwa [List.length_take, Nat.min_eq_left hk, Nat.zero_add] at h
theorem gdRun {R : List Oq} (hR : ∀ y ∈ R, greatM y = false) : Gdx (runM tre0 R) R.length := by
  have h := gdTake hR R.length (Nat.le_refl _)
  rwa [List.take_length] at h
theorem stepCopy {S : Tre} {k : Nat} (q : Nat) (w : World) (L : List HP) (h : Gdx S k) (hk : k < 90000) (hO : Has w (Trc q S :: L)) :
    Calls Tryz.prog 18 #[.pointer (some ⟨q, 0, none⟩)] w fun e w' => ∃ q', e = .returned (.pointer (some ⟨q', 0, none⟩)) ∧ Has w' (Trc q' S :: Trc q S :: L) ∧ Keep w w' := by
  obtain ⟨rk, h⟩ := h
  exact tCopy q S w L (fun n x hx => ⟨(h.nod hx).size.1, (h.nod hx).size.2.1⟩) (by have := h.many; omega) hO
theorem stepNodes' {S : Tre} {k : Nat} (q : Nat) (w : World) (L : List HP) (h : Gdx S k) (hk : k < 900) (hO : Has w (Trc q S :: L)) :
    Calls Tryz.prog 20 #[.pointer (some ⟨q, 0, none⟩)] w fun e w' => ∃ p c os, e = .returned (.slice p (os.length) c) ∧ (os.map Sn.key).Perm ((seen S.nodes 22 1 []).map keyE) ∧ Srt os ∧ Has w' (Sns (.slice p os.length c) os :: Trc q S :: L) ∧ Keep w w' := by
  have hf : (filesP S).length ≤ 1000000 := by
    obtain ⟨rk, h⟩ := h
    exact h.files_few' hk
  refine (stepNodes q w L h (by omega) hf hO).mono ?_
  rintro e w' ⟨p, c, os, rfl, hl, h1, h2, h3, h4⟩
  exact ⟨p, c, os, by rw [hl], h1, h2, h3, h4⟩
theorem keysOne {S : Tre} {k : Nat} (h : Gdx S k) {os os' : List Sn} (h1 : (os.map Sn.key).Perm ((seen S.nodes 22 1 []).map keyE)) (h2 : (os'.map Sn.key).Perm ((seen S.nodes 22 1 []).map keyE)) (s1 : Srt os) (s2 : Srt os') : os.map Sn.key = os'.map Sn.key := by
  obtain ⟨rk, h⟩ := h
  exact h.files_one h1 h2 s1 s2
end Go.Proofs.YtonhcefgakmpfaaGreatDoor
/- THE WALK of node.blocks of whatever size, inode.Place. -/
namespace Go.Proofs.YtonhcefgakmpfaaGreatDoor
open Go.RowKit Go.Own
def plA (k : Nat) : Int := if k < 6 then 0 else if k < 18 then 1 else if k < 162 then 2 else -1
def plB (k : Nat) : Int := if k < 6 then (k : Int) else if k < 18 then (k : Int) - 6 else if k < 162 then (((k - 18) / 12 : Nat) : Int) else -1
theorem nPlaceG (k : Nat) (hk : k ≤ 1000000) (w : World) : Calls Tryz.prog 138 #[.int .i64 (k : Int)] w fun e w' => (∃ c : Int, e = .returned (.tuple #[.int .i64 (plA k), .int .i64 (plB k), .int .i64 c])) ∧ w = w' := by
  have h0 : (0 : Int) ≤ (k : Int) := by omega
  have h1 : ¬ (k : Int) < 0 := by omega
  by_cases ha : k < 6
  · have eA : plA k = 0 := by unfold plA; rw [if_pos ha]
    have eB : plB k = k := by unfold plB; rw [if_pos ha]
    rw [eA, eB]
    refine (nPlace k ha w).mono ?_
    rintro e w' ⟨rfl, rfl⟩
    exact ⟨⟨_, rfl⟩, rfl⟩
  by_cases hb : k < 18
  · have eA : plA k = 1 := by unfold plA; rw [if_neg ha, if_pos hb]
    have eB : plB k = (k : Int) - 6 := by unfold plB; rw [if_neg ha, if_pos hb]
    rw [eA, eB]
    have h2 : ¬ (k : Int) ≥ 162 := by omega
    have h3 : ¬ (k : Int) < 6 := by omega
    have h4 : (k : Int) < 18 := by omega
    go_enter Tryz.func138, Tryz.ntmps138
    go_wp2_with fail
    go_ret3
    first | exact ⟨⟨_, rfl⟩, rfl⟩ | exact ⟨⟨_, by go_num⟩, rfl⟩
  by_cases hc : k < 162
  · have eA : plA k = 2 := by unfold plA; rw [if_neg ha, if_neg hb, if_pos hc]
    have eB : plB k = (((k - 18) / 12 : Nat) : Int) := by unfold plB; rw [if_neg ha, if_neg hb, if_pos hc]
    rw [eA, eB]
    have h2 : ¬ (k : Int) ≥ 162 := by omega
    have h3 : ¬ (k : Int) < 6 := by omega
    have h4 : ¬ (k : Int) < 18 := by omega
    have h5 : (0 : Int) ≤ (k : Int) - 18 := by omega
    have hq : ((k : Int) - 18) / 12 = (((k - 18) / 12 : Nat) : Int) := by omega
    go_enter Tryz.func138, Tryz.ntmps138
    go_wp2_with fail
    go_ret3
    exact ⟨⟨_, rfl⟩, rfl⟩
  · have eA : plA k = -1 := by unfold plA; rw [if_neg ha, if_neg hb, if_neg hc]
    have eB : plB k = -1 := by unfold plB; rw [if_neg ha, if_neg hb, if_neg hc]
    rw [eA, eB]
    have h2 : (k : Int) ≥ 162 := by omega
    go_enter Tryz.func138, Tryz.ntmps138
    go_wp2_with fail
    go_ret3
    exact ⟨⟨_, rfl⟩, rfl⟩
/-- What is counted so far: blocks, whether the single one is, whether the double one is, which of the double one's are. -/
def bstep (s : Nat × Int × Int × List Bool) (k : Nat) (b : Bool) : Nat × Int × Int × List Bool :=
  if b = true then (s.1 + 1, if plA k = 1 then 1 else s.2.1, if plA k = 2 then 1 else s.2.2.1, if plA k = 2 then s.2.2.2.set ((k - 18) / 12) true else s.2.2.2) else s
def bst (ws : List Bool) : Nat → Nat × Int × Int × List Bool
  | 0 => (0, 0, 0, List.replicate 12 false)
  | k + 1 => bstep (bst ws k) k (ws.getD k false)
theorem bst_low (ws : List Bool) : ∀ k, (bst ws k).1 ≤ k ∧ ((bst ws k).2.1 = 0 ∨ (bst ws k).2.1 = 1) ∧ ((bst ws k).2.2.1 = 0 ∨ (bst ws k).2.2.1 = 1) ∧ (bst ws k).2.2.2.length = 12
  | 0 => ⟨Nat.le_refl 0, .inl rfl, .inl rfl, rfl⟩
  | k + 1 => by
    have ih := bst_low ws k
    rw [bst, bstep]
    split
    · refine ⟨by dsimp only; omega, ?_, ?_, ?_⟩
      · dsimp only; split
        · exact .inr rfl
        · exact ih.2.1
      · dsimp only; split
        · exact .inr rfl
        · exact ih.2.2.1
      · dsimp only; split
        · rw [List.length_set]; exact ih.2.2.2
        · exact ih.2.2.2
    · exact ⟨by omega, ih.2⟩
/-- How many blocks a node takes. -/
def blocksG (x : Nod) : Int := if x.kind = 2 then (x.most + 3) / 4 else if x.kind = 3 then 1 else ((bst x.wr x.wr.length).1 : Int) + (((bst x.wr x.wr.length).2.2.2.filter id).length : Int) + (bst x.wr x.wr.length).2.1 + (bst x.wr x.wr.length).2.2.1
def aB (l : List Bool) : Array Value := (l.map Value.bool).toArray
theorem aB_set (l : List Bool) (i : Nat) (b : Bool) : (aB l).setIfInBounds i (.bool b) = aB (l.set i b) := by
  unfold aB
  rw [List.setIfInBounds_toArray, List.map_set]
theorem aB_at (l : List Bool) (i : Nat) (h : i < l.length) : (aB l)[i]? = some (.bool l[i]) := by
  unfold aB
  simp [h]
theorem indexB (l : List Bool) (hl : l.length = 12) (k : Nat) (hk : k < 12) (w : World) : (Instr.index 196 (.agg (aB l)) (.int .i64 (k : Int))).run Tryz.prog w = .ok (.bool (l.getD k false)) w := by
  match l, hl with
  | [b0, b1, b2, b3, b4, b5, b6, b7, b8, b9, b10, b11], _ =>
    have : ∀ i : Fin 12, ∀ w : World, (Instr.index 196 (.agg (aB [b0, b1, b2, b3, b4, b5, b6, b7, b8, b9, b10, b11])) (.int .i64 (i.val : Int))).run Tryz.prog w = .ok (.bool ([b0, b1, b2, b3, b4, b5, b6, b7, b8, b9, b10, b11].getD i.val false)) w := by
      intro i w
      rcases i with ⟨i, hi⟩
      rcases i with _ | _ | _ | _ | _ | _ | _ | _ | _ | _ | _ | _ | i
      all_goals first | (exfalso; omega) | kernel_rfl
    exact this ⟨k, hk⟩ w
set_option maxRecDepth 100000 in
set_option maxHeartbeats 4000000 in
theorem tBlocksG (b : Nat) (x : Nod) (w : World) (L : List HP) (hm0 : 0 ≤ x.most) (hm1 : x.most ≤ 1000000) (hw : x.wr.length ≤ 100000) (hO : Has w (Ndc b x :: L)) :
    Calls Tryz.prog 75 #[.pointer (some ⟨b, 0, none⟩)] w fun e w' => e = .returned (.int .i64 (blocksG x)) ∧ Has w' (Ndc b x :: L) ∧ Keep w w' := by
  by_cases hk2 : x.kind = 2
  · have h1 : blocksG x = blocksM { x with wr := [] } := by unfold blocksG blocksM; simp only [hk2, if_true]
    obtain ⟨dv, wv, nm, hnm, hHP⟩ := ndc_iff.1 hO
    have HO := hid hO
    have hc0 : w.cell? ⟨b, 0, none⟩ = some (.int .i64 x.kind) := hHP.cells 0
    have hc4 : w.cell? ⟨b, 4, none⟩ = some (.int .i64 x.most) := hHP.cells 4
    clear hnm hHP hO h1
    have HB := hid (show blocksG x = (x.most + 4 - 1) / 4 from by unfold blocksG; rw [if_pos hk2]; congr 1; omega)
    have hq : (0 : Int) ≤ x.most + 4 - 1 := by omega
    go_enter Tryz.func75, Tryz.ntmps75
    go_wp2_with fail
    go_ret
    rw [HB.out]
    exact ⟨rfl, HO.out, Keep.refl w⟩
  by_cases hk3 : x.kind = 3
  · obtain ⟨dv, wv, nm, hnm, hHP⟩ := ndc_iff.1 hO
    have HO := hid hO
    have hc0 : w.cell? ⟨b, 0, none⟩ = some (.int .i64 x.kind) := hHP.cells 0
    clear hnm hHP hO
    have HB := hid (show blocksG x = 1 from by unfold blocksG; rw [if_neg hk2, if_pos hk3])
    go_enter Tryz.func75, Tryz.ntmps75
    go_wp2_with fail
    go_ret
    rw [HB.out]
    exact ⟨rfl, HO.out, Keep.refl w⟩
  · obtain ⟨dv, wv, nm, hnm, hHP⟩ := ndc_iff.1 hO
    have HNM := hid hnm
    have HP := hid hHP
    have hc0 : w.cell? ⟨b, 0, none⟩ = some (.int .i64 x.kind) := hHP.cells 0
    have hc4 : w.cell? ⟨b, 4, none⟩ = some (.int .i64 x.most) := hHP.cells 4
    have HO := hid hO
    clear hnm hHP hO
    have HB := hid (show blocksG x = ((bst x.wr x.wr.length).1 : Int) + (((bst x.wr x.wr.length).2.2.2.filter id).length : Int) + (bst x.wr x.wr.length).2.1 + (bst x.wr x.wr.length).2.2.1 from by unfold blocksG; rw [if_neg hk2, if_neg hk3])
    obtain ⟨pw, cw, rfl, hcap, -, hcs⟩ := (Bools.rd HP.out.p2).form
    have hc2 : w.cell? ⟨b, 2, none⟩ = some (.slice pw x.wr.length cw) := HP.out.cells 2
    have hw6 : (x.wr.length : Int) ≤ 100000 := by omega
    have hw0 : (0 : Int) ≤ (x.wr.length : Int) := by omega
    clear hcs
    have hbl := HP.out.lt
    have HP1 := hid (HP.out.alloc (.cells (aB (List.replicate 12 false)) 196))
    go_enter Tryz.func75, Tryz.ntmps75
    go_wp2_with fail
    go_loopw [34, 3, 4, 5] (fun kv cv sv fv w' => ∃ (k c : Nat) (s f : Int) (l : List Bool), k ≤ x.wr.length ∧ kv = .int .i64 (k : Int) ∧ cv = .int .i64 (c : Int) ∧ sv = .int .i64 s ∧ fv = .int .i64 f ∧ Hid (bst x.wr k = (c, s, f, l)) ∧ Hid (Has w' (pt w.heap.size (.cells (aB l) 196) :: pt b (.cells (nodC x dv (.slice pw x.wr.length cw) nm) 83) :: Dat x.kind dv x.data :: Bools (.slice pw x.wr.length cw) x.wr :: Nms nm x.names :: L)) ∧ Hid (Keep w w')) (fun kv _ _ _ _ => x.wr.length - (intOf kv).toNat)
    case atStart => exact ⟨0, 0, 0, 0, _, by omega, rfl, rfl, rfl, rfl, hid rfl, HP1, hid ((Keep.refl w).alloc _)⟩
    case round =>
      clear HP1 HP HO hc0 hc4 hc2
      generalize w.heap.size = g6 at *
      obtain ⟨k, c, s, f, l, hk, rfl, rfl, rfl, rfl, HS, HO, HK⟩ := hrel
      have hk0 : (0 : Int) ≤ (k : Int) := by omega
      have hlow := bst_low x.wr k
      rw [HS.out] at hlow
      obtain ⟨hc9, hs9, hf9, hl9⟩ := hlow
      dsimp only at hc9 hs9 hf9 hl9
      have HL9 := hid hl9
      have HS9 := hid (And.intro hs9 hf9)
      have hci : (c : Int) ≤ 100000 := by omega
      have hci0 : (0 : Int) ≤ (c : Int) := by omega
      clear hs9 hf9 hl9
      by_cases hlt : k < x.wr.length
      · have hki : (k : Int) < (x.wr.length : Int) := by omega
        obtain ⟨p', c', e', -, -, hcs⟩ := (Bools.rd HO.out.p3).form
        obtain ⟨gw, ow, rfl, hcs2⟩ := hcs (by omega)
        simp only [Value.slice.injEq, true_and] at e'
        obtain ⟨rfl, rfl⟩ := e'
        have hcel : wr.cell? ⟨gw, ow + k, none⟩ = some (.bool x.wr[k]) := by
          rw [hcs2 k (by omega), List.getElem?_map, List.getElem?_eq_getElem hlt]
          rfl
        have hnx : bst x.wr (k + 1) = bstep (c, s, f, l) k x.wr[k] := by
          rw [bst, HS.out, List.getD_eq_getElem?_getD, List.getElem?_eq_getElem hlt]
          rfl
        clear hcs hcs2
        generalize x.wr[k] = bv at *
        cases bv
        · have HN := hid (show bst x.wr (k + 1) = (c, s, f, l) from hnx)
          clear hnx
          go_wp2_with fail
          exact ⟨⟨k + 1, c, s, f, l, by omega, by go_num, rfl, rfl, rfl, HN, HO, HK⟩, by simp [intOf]; omega⟩
        · have HN := hid (show bst x.wr (k + 1) = (c + 1, (if plA k = 1 then 1 else s), (if plA k = 2 then 1 else f), (if plA k = 2 then l.set ((k - 18) / 12) true else l)) from hnx)
          clear hnx
          have hAB : plA k = 2 ∧ plB k = (((k - 18) / 12 : Nat) : Int) ∧ (k - 18) / 12 < 12 ∨ plA k ≠ 2 := by
            by_cases h6 : k < 6
            · right; unfold plA; rw [if_pos h6]; decide
            by_cases h18 : k < 18
            · right; unfold plA; rw [if_neg h6, if_pos h18]; decide
            by_cases h162 : k < 162
            · left
              refine ⟨?_, ?_, by omega⟩
              · unfold plA; rw [if_neg h6, if_neg h18, if_pos h162]
              · unfold plB; rw [if_neg h6, if_neg h18, if_pos h162]
            · right; unfold plA; rw [if_neg h6, if_neg h18, if_neg h162]; decide
          go_wp2_with fail
          refine (nPlaceG k (by omega) _).mono ?_
          rintro e w' ⟨⟨cc, rfl⟩, rfl⟩
          try dsimp only
          generalize hpa : plA k = pa at *
          generalize hpb : plB k = pb at *
          clear hpa hpb
          rcases hAB with ⟨rfl, rfl, hj⟩ | hne
          · have hne1 : ((2 : Int) == 1) = false := by decide
            generalize (k - 18) / 12 = j at *
            have hj0 : (0 : Int) ≤ (j : Int) := by omega
            have hj12 : (j : Int) < 12 := by omega
            have hjl : j < l.length := by have := HL9.out; omega
            have hcj : wr.cell? ⟨g6, j, none⟩ = some (.bool l[j]) := (HO.out.cells j).trans (aB_at l j hjl)
            have hth := HO.out.thaw j
            go_wp2_with fail
            have HN2 := HN.out
            rw [if_neg (by decide), if_pos rfl, if_pos rfl] at HN2
            have h9 := HO.out.set j (.bool true)
            rw [aB_set] at h9
            exact ⟨⟨k + 1, c + 1, s, 1, l.set j true, by omega, by go_num, by go_num, rfl, rfl, hid HN2, hid h9, hid (HK.out.set _ _)⟩, by simp [intOf]; omega⟩
          · have hne2 : (pa == 2) = false := by simpa using hne
            by_cases h1 : pa = 1
            · subst h1
              go_wp2_with fail
              have HN2 := HN.out
              rw [if_pos rfl, if_neg (by decide), if_neg (by decide)] at HN2
              exact ⟨⟨k + 1, c + 1, 1, f, l, by omega, by go_num, by go_num, rfl, rfl, hid HN2, HO, HK⟩, by simp [intOf]; omega⟩
            · have h1' : (pa == 1) = false := by simpa using h1
              go_wp2_with fail
              have HN2 := HN.out
              rw [if_neg h1, if_neg hne, if_neg hne] at HN2
              exact ⟨⟨k + 1, c + 1, s, f, l, by omega, by go_num, by go_num, rfl, rfl, hid HN2, HO, HK⟩, by simp [intOf]; omega⟩
      · obtain rfl : k = x.wr.length := by omega
        have hki : ¬ (x.wr.length : Int) < (x.wr.length : Int) := by omega
        have HB2 := hid (show blocksG x = (c : Int) + ((l.filter id).length : Int) + s + f from by rw [HB.out, HS.out])
        have HL2 := hid (show ∀ i, i < 12 → wr.cell? ⟨g6, i, none⟩ = some (.bool (l.getD i false)) from fun i hi => by
          rw [HO.out.cells i, aB_at l i (by rw [HL9.out]; exact hi), List.getD_eq_getElem?_getD, List.getElem?_eq_getElem (by rw [HL9.out]; exact hi)]
          rfl)
        have z0 := HL2.out 0 (by decide)
        have z1 := HL2.out 1 (by decide)
        have z2 := HL2.out 2 (by decide)
        have z3 := HL2.out 3 (by decide)
        have z4 := HL2.out 4 (by decide)
        have z5 := HL2.out 5 (by decide)
        have z6 := HL2.out 6 (by decide)
        have z7 := HL2.out 7 (by decide)
        have z8 := HL2.out 8 (by decide)
        have z9 := HL2.out 9 (by decide)
        have z10 := HL2.out 10 (by decide)
        have z11 := HL2.out 11 (by decide)
        have hix := indexB l HL9.out
        have haB : aB l = #[.bool (l.getD 0 false), .bool (l.getD 1 false), .bool (l.getD 2 false), .bool (l.getD 3 false), .bool (l.getD 4 false), .bool (l.getD 5 false), .bool (l.getD 6 false), .bool (l.getD 7 false), .bool (l.getD 8 false), .bool (l.getD 9 false), .bool (l.getD 10 false), .bool (l.getD 11 false)] := by
          have := HL9.out
          match l, this with
          | [_, _, _, _, _, _, _, _, _, _, _, _], _ => rfl
        rw [haB] at hix
        have HIX := hid hix
        clear hix haB
        generalize l.getD 0 false = b0 at *
        generalize l.getD 1 false = b1 at *
        generalize l.getD 2 false = b2 at *
        generalize l.getD 3 false = b3 at *
        generalize l.getD 4 false = b4 at *
        generalize l.getD 5 false = b5 at *
        generalize l.getD 6 false = b6 at *
        generalize l.getD 7 false = b7 at *
        generalize l.getD 8 false = b8 at *
        generalize l.getD 9 false = b9 at *
        generalize l.getD 10 false = b10 at *
        generalize l.getD 11 false = b11 at *
        go_wp2_with fail
        clear z0 z1 z2 z3 z4 z5 z6 z7 z8 z9 z10 z11
        go_loopw [58, 3] (fun kv cv w' => ∃ k : Nat, k ≤ 12 ∧ kv = .int .i64 (k : Int) ∧ cv = .int .i64 ((c + ((l.take k).filter id).length : Nat) : Int) ∧ Hid (Has w' (pt g6 (.cells (aB l) 196) :: pt b (.cells (nodC x dv (.slice pw x.wr.length cw) nm) 83) :: Dat x.kind dv x.data :: Bools (.slice pw x.wr.length cw) x.wr :: Nms nm x.names :: L)) ∧ Hid (Keep w w')) (fun kv _ _ => 12 - (intOf kv).toNat)
        case atStart => exact ⟨0, by omega, rfl, rfl, HO, HK⟩
        case round =>
          clear HO HK
          obtain ⟨k, hk12, rfl, rfl, HO, HK⟩ := hrel
          have hk0 : (0 : Int) ≤ (k : Int) := by omega
          have hfl : ((l.take k).filter id).length ≤ 12 := by
            have h1 := List.length_filter_le id (l.take k)
            have h2 : (l.take k).length ≤ k := by simp; omega
            omega
          by_cases hlt2 : k < 12
          · have hki2 : (k : Int) < 12 := by omega
            have hi := HIX.out k hlt2 wr
            have hsc := cnt_succ l k (by rw [HL9.out]; exact hlt2)
            have hgd : l.getD k false = l[k]'(by rw [HL9.out]; exact hlt2) := by
              rw [List.getD_eq_getElem?_getD, List.getElem?_eq_getElem (by rw [HL9.out]; exact hlt2)]
              rfl
            rw [hgd] at hi
            have HSC := hid hsc
            clear hsc hgd
            generalize l[k]'(by rw [HL9.out]; exact hlt2) = bv at *
            obtain ⟨cn, hcn⟩ : ∃ cn, ((l.take k).filter id).length = cn := ⟨_, rfl⟩
            rw [hcn] at hfl HSC
            rw [hcn]
            clear hcn
            obtain ⟨ct, hct⟩ : ∃ ct, ct = c + cn := ⟨_, rfl⟩
            rw [← hct]
            have hct0 : (0 : Int) ≤ (ct : Int) := by omega
            have hct9 : (ct : Int) ≤ 200000 := by omega
            cases bv
            · have HT := hid (show ct = c + ((l.take (k + 1)).filter id).length from by rw [HSC.out, hct]; simp)
              clear hct
              go_wp2_with fail
              exact ⟨⟨k + 1, by omega, by go_num, by rw [HT.out], HO, HK⟩, by simp [intOf]; omega⟩
            · have HT := hid (show ct + 1 = c + ((l.take (k + 1)).filter id).length from by rw [HSC.out, hct]; simp; omega)
              clear hct
              go_wp2_with fail
              exact ⟨⟨k + 1, by omega, by go_num, by rw [← HT.out]; go_num, HO, HK⟩, by simp [intOf]; omega⟩
          · obtain rfl : k = 12 := by omega
            rw [show ((12 : Nat) : Int) = 12 from rfl]
            have HT := hid (show ((l.take 12).filter id).length = (l.filter id).length from by rw [List.take_of_length_le (by rw [HL9.out]; exact Nat.le_refl _)])
            generalize ((l.take 12).filter id).length = cn at *
            obtain ⟨ct, hct⟩ : ∃ ct, ct = c + cn := ⟨_, rfl⟩
            rw [← hct]
            have hct0 : (0 : Int) ≤ (ct : Int) := by omega
            have hct9 : (ct : Int) ≤ 200000 := by omega
            have HB3 := hid (show blocksG x = (ct : Int) + s + f from by rw [HB2.out, ← HT.out, hct]; push_cast; rfl)
            have hsr : 0 ≤ s ∧ s ≤ 1 := by have := HS9.out.1; omega
            have hfr : 0 ≤ f ∧ f ≤ 1 := by have := HS9.out.2; omega
            obtain ⟨hs0, hs1⟩ := hsr
            obtain ⟨hf0, hf1⟩ := hfr
            clear hct
            go_wp2_with fail
            go_ret
            rw [HB3.out]
            exact ⟨by first | rfl | go_num, ndc_iff.2 ⟨_, _, _, HNM.out, HO.out.re 5 [1, 2, 3, 4]⟩, HK.out⟩
end Go.Proofs.YtonhcefgakmpfaaGreatDoor
/- THE WALK of Need, files of whatever size. -/
namespace Go.Proofs.YtonhcefgakmpfaaGreatDoor
open Go.RowKit Go.Own
def needSumG (t : List (Int × Nod)) : Int := (t.map fun p => blocksG p.2).sum
def sumG : List Pn → List Int → Int
  | [], _ => 0
  | p :: P, rem => (if p.1 ∈ rem then 0 else blocksG p.2.2) + sumG P rem
theorem sumG_nil : ∀ P : List Pn, sumG P [] = needSumG (pnN P)
  | [] => rfl
  | p :: P => by
    rw [sumG, sumG_nil P, if_neg (by simp)]
    simp [needSumG, pnN]
theorem sumG_all : ∀ (P : List Pn) (rem : List Int), (∀ p ∈ P, p.1 ∈ rem) → sumG P rem = 0
  | [], _, _ => rfl
  | p :: P, rem, h => by
    rw [sumG, sumG_all P rem (fun q hq => h q (List.mem_cons_of_mem _ hq)), if_pos (h p List.mem_cons_self)]
    rfl
theorem sumG_off : ∀ (P : List Pn) (rem : List Int) (n : Int), n ∉ P.map Prod.fst → sumG P (rem.filter fun y => !decide (y = n)) = sumG P rem
  | [], _, _, _ => rfl
  | p :: P, rem, n, h => by
    simp only [List.map_cons, List.mem_cons, not_or] at h
    rw [sumG, sumG, sumG_off P rem n h.2]
    have : p.1 ∈ rem.filter (fun y => !decide (y = n)) ↔ p.1 ∈ rem := by simp [Ne.symm h.1]
    by_cases h2 : p.1 ∈ rem
    · rw [if_pos h2, if_pos (this.2 h2)]
    · rw [if_neg h2, if_neg (fun h => h2 (this.1 h))]
theorem sumG_step : ∀ (P1 P2 : List Pn) (rem : List Int) (n : Int) (b : Nat) (x : Nod), ((P1 ++ (n, b, x) :: P2).map Prod.fst).Nodup → n ∈ rem → sumG (P1 ++ (n, b, x) :: P2) (rem.filter fun y => !decide (y = n)) = sumG (P1 ++ (n, b, x) :: P2) rem + blocksG x
  | [], P2, rem, n, b, x, hd, hr => by
    simp only [List.nil_append, List.map_cons, List.nodup_cons] at hd
    rw [List.nil_append, sumG, sumG, sumG_off P2 rem n hd.1, if_pos hr, if_neg (by simp)]
    show blocksG x + _ = 0 + _ + blocksG x
    omega
  | p :: P1, P2, rem, n, b, x, hd, hr => by
    have hd0 := hd
    simp only [List.cons_append, List.map_cons, List.nodup_cons] at hd
    have hne : p.1 ≠ n := by
      intro e
      exact hd.1 (by rw [e]; simp)
    rw [List.cons_append, sumG, sumG, sumG_step P1 P2 rem n b x hd.2 hr]
    have : p.1 ∈ rem.filter (fun y => !decide (y = n)) ↔ p.1 ∈ rem := by simp [hne]
    by_cases h2 : p.1 ∈ rem
    · rw [if_pos h2, if_pos (this.2 h2)]; omega
    · rw [if_neg h2, if_neg (fun h => h2 (this.1 h))]; omega
theorem blocksG_low (x : Nod) (h0 : 0 ≤ x.most) (h1 : x.most ≤ 1000000) (h2 : x.wr.length ≤ 100000) : 0 ≤ blocksG x ∧ blocksG x ≤ 1000000 := by
  unfold blocksG
  split
  · omega
  · split
    · omega
    · have h3 := bst_low x.wr x.wr.length
      have h4 := List.length_filter_le id (bst x.wr x.wr.length).2.2.2
      omega
theorem sumG_low : ∀ (P : List Pn) (rem : List Int), (∀ p ∈ P, 0 ≤ blocksG p.2.2 ∧ blocksG p.2.2 ≤ 1000000) → 0 ≤ sumG P rem ∧ sumG P rem ≤ P.length * 1000000
  | [], _, _ => by simp [sumG]
  | p :: P, rem, h => by
    have h1 := sumG_low P rem fun q hq => h q (List.mem_cons_of_mem _ hq)
    have h2 := h p List.mem_cons_self
    rw [sumG, List.length_cons]
    split <;> omega
theorem pnC_pull3G {w : World} {L : List HP} {A B C : HP} {P1 P2 : List Pn} {p : Pn} : Has w (A :: B :: C :: (pnC (P1 ++ p :: P2) ++ L)) ↔ Has w (Ndc p.2.1 p.2.2 :: A :: B :: C :: (pnC (P1 ++ P2) ++ L)) := by
  have e : (A :: B :: C :: (pnC (P1 ++ p :: P2) ++ L)).Perm (Ndc p.2.1 p.2.2 :: A :: B :: C :: (pnC (P1 ++ P2) ++ L)) := by
    have h1 : (pnC (P1 ++ p :: P2) ++ L).Perm (Ndc p.2.1 p.2.2 :: (pnC (P1 ++ P2) ++ L)) := by
      unfold pnC
      rw [List.map_append, List.map_cons, List.map_append]
      simp only [List.append_assoc, List.cons_append]
      exact List.perm_middle
    refine (((h1.cons C).cons B).cons A).trans ?_
    refine List.Perm.trans (((List.Perm.swap _ _ _).cons B).cons A) ?_
    refine List.Perm.trans ((List.Perm.swap _ _ _).cons A) ?_
    exact List.Perm.swap _ _ _
  exact ⟨fun h => h.perm e, fun h => h.perm e.symm⟩
set_option maxRecDepth 100000 in
set_option maxHeartbeats 4000000 in
theorem tNeedG (q : Nat) (S : Tre) (w : World) (L : List HP) (hb : ∀ n x, fnd S.nodes n = some x → 0 ≤ x.most ∧ x.most ≤ 1000000 ∧ x.wr.length ≤ 100000) (hn : S.nodes.length ≤ 1000) (hO : Has w (Trc q S :: L)) :
    Calls Tryz.prog 21 #[.pointer (some ⟨q, 0, none⟩)] w fun e w' => e = .returned (.tuple #[.int .i64 (needSumG S.nodes), .int .i64 (S.nodes.length : Int)]) ∧ Has w' (Trc q S :: L) ∧ Keep w w' := by
  obtain ⟨m, f, P, hPT, h⟩ := trc_iff.1 hO
  have HPT := hid hPT
  have h' := trb_iff.1 h
  have HND := hid (Trb.nodup h)
  have HO := hid (show Has w (Mk kInt vPtr m (pnB P) :: pt q (.cells (treC m f S.last) 88) :: Tab f S.tab :: (pnC P ++ L)) from h'.perm (.swap _ _ _))
  have hq0 : w.cell? ⟨q, 0, none⟩ = some (.map (some m)) := HO.out.p1.cells 0
  have HBD := hid (show ∀ p ∈ P, 0 ≤ p.2.2.most ∧ p.2.2.most ≤ 1000000 ∧ p.2.2.wr.length ≤ 100000 from by
    intro p hp
    have hm : (p.1, p.2.2) ∈ pnN P := List.mem_map.2 ⟨p, hp, rfl⟩
    have hnd : ((pnN P).map Prod.fst).Nodup := by rw [pnN_keys]; exact HND.out
    exact hb p.1 p.2.2 (by rw [← hPT.1]; exact fnd_mem hnd hm))
  have HLW := hid (fun rem => sumG_low P rem fun p hp => blocksG_low p.2.2 (HBD.out p hp).1 (HBD.out p hp).2.1 (HBD.out p hp).2.2)
  have hPl : P.length = S.nodes.length := by rw [← hPT.1]; simp [pnN]
  have hP9 : P.length ≤ 1000 := by omega
  clear hO h h' hPT hb
  go_enter Tryz.func21, Tryz.ntmps21
  go_wp2_with (at_range; refine wpList_mkStart HO.out tNo undNo rfl _ rfl rfl ?_; intro w4 hO4 hK4 hs4)
  try go_frame
  have HO4 := hid hO4
  have HK4 := hid hK4
  clear hO4 hK4 hs4 hq0 HO
  generalize w.heap.size = r at *
  generalize hr0 : (pnB P).map Prod.fst = rem0 at *
  have HS0 := hid (show sumG P rem0 = 0 from sumG_all P rem0 fun p hp => by rw [← hr0, pnB_keys]; exact List.mem_map_of_mem hp)
  clear hr0
  generalize (pnB P).length = cnt0 at *
  go_loopw [4] (fun cv w' => ∃ (rem : List Int) (cnt : Nat), cv = .int .i64 (sumG P rem) ∧ Hid (Has w' (Mr kInt vPtr m r (pnB P) rem cnt :: pt q (.cells (treC m f S.last) 88) :: Tab f S.tab :: (pnC P ++ L))) ∧ Hid (Keep w w')) (fun _ w' => w'.rangeLeft m r)
  case atStart => exact ⟨rem0, cnt0, by rw [HS0.out], HO4, HK4⟩
  case round =>
    clear HO4 HK4 HS0
    obtain ⟨rem, cnt, rfl, HO, HK⟩ := hrel
    have hleft := Mr.left HO.out
    have HLF := hid hleft
    have hlow := HLW.out rem
    go_wp2_with (at_next; refine wpList_mkNext HO.out rfl _ rfl rfl ?_ ?_)
    · intro hrem
      subst hrem
      have HSN := hid (sumG_nil P)
      have HO5 := hid (Mr.end HO.out)
      have hq0 : wr.cell? ⟨q, 0, none⟩ = some (.map (some m)) := HO5.out.p1.cells 0
      have hlen := Mk.len HO5.out undNo 3
      have hbl : (pnB P).length = S.nodes.length := by rw [← hPl]; simp [pnB]
      rw [hbl] at hlen
      clear HO hleft
      generalize sumG P [] = sm at *
      go_wp2_with fail
      go_ret2
      rw [HSN.out, HPT.out.1]
      exact ⟨rfl, trc_iff.2 ⟨m, f, P, HPT.out, trb_iff.2 (HO5.out.perm (.swap _ _ _))⟩, HK.out⟩
    · rintro n ob w5 cnt' hp hr hky hO5 hlt5 hK5 hsz hen
      obtain ⟨⟨n', b, x⟩, hpP, he⟩ := List.mem_map.1 hp
      simp only [Prod.mk.injEq] at he
      obtain ⟨rfl, rfl⟩ := he
      simp only [kInt_val, vPtr_val] at hen ⊢
      have hen2 := hen
      obtain ⟨P1, P2, hPe⟩ := List.append_of_mem hpP
      have HPe := hid hPe
      have hbx := HBD.out _ hpP
      have hblo := blocksG_low x hbx.1 hbx.2.1 hbx.2.2
      have HO6 := hid (show Has w5 (Ndc b x :: Mr kInt vPtr m r (pnB P) (rem.filter fun y => !decide (y = n')) cnt' :: pt q (.cells (treC m f S.last) 88) :: Tab f S.tab :: (pnC (P1 ++ P2) ++ L)) from pnC_pull3G.1 (by rw [← hPe]; exact hO5))
      have HST := hid (show sumG P (rem.filter fun y => !decide (y = n')) = sumG P rem + blocksG x from by
        rw [hPe]
        exact sumG_step P1 P2 rem n' b x (by rw [← hPe]; exact HND.out) hr)
      have HK6 := hid (HK.out.trans hK5)
      have HL5 := hid hlt5
      clear hp hr hky hO5 hlt5 hK5 hsz hPe hpP hleft HO HK
      generalize sumG P rem = sm at *
      generalize hbm : blocksG x = bm at *
      have hsm9 : sm ≤ 1000000000 := by omega
      obtain ⟨hs0, -⟩ := hlow
      obtain ⟨hbm0, hbm9⟩ := hblo
      have HBM := hid hbm
      clear hbm
      go_wp2_with fail
      refine (tBlocksG b x w5 _ hbx.1 hbx.2.1 hbx.2.2 HO6.out).mono ?_
      rintro e w7 ⟨rfl, hO7, hK7⟩
      have HO7 := hid hO7
      have HK7 := hid ((HK6.out).trans hK7)
      clear hO7 hK7
      try dsimp only
      rw [HBM.out]
      have HO8 := hid (show Has w7 (Mr kInt vPtr m r (pnB P) (rem.filter fun y => !decide (y = n')) cnt' :: pt q (.cells (treC m f S.last) 88) :: Tab f S.tab :: (pnC P ++ L)) from by
        have h1 := pnC_pull3G (p := (n', b, x)).2 HO7.out
        rwa [← HPe.out] at h1)
      have hleft := Mr.left HO8.out
      clear HO6 HK6 HO7 hen hen2
      go_wp2_with fail
      exact ⟨⟨_, _, by rw [HST.out], HO8, HK7⟩, by rw [hleft, HLF.out]; exact HL5.out⟩
end Go.Proofs.YtonhcefgakmpfaaGreatDoor
/- Steps of the laws that do lists of operations, behind other ones. -/
namespace Go.Proofs.YtonhcefgakmpfaaGreatDoor
open Go.RowKit Go.Own
theorem runGd {S0 : Tre} {k0 : Nat} (h : Gdx S0 k0) {R : List Oq} (hR : ∀ y ∈ R, greatM y = false) (k : Nat) (hk : k ≤ R.length) : Gdx (runM S0 (R.take k)) (k0 + k) := by
  have h1 := runM_gd h (R.take k) fun y hy => hR y (List.mem_of_mem_take hy)
  rwa [List.length_take, Nat.min_eq_left hk] at h1
theorem stepOqA {S : Tre} {k : Nat} (q : Nat) (mx : Int) (w : World) (L : List HP) (h : Gdx S k) (hk : k < 1000) (hM : MxL mx L) (y : Oq) (p : Option Addr) (m : Nat) (hg : greatM y = false) (hwf : OpWf y.op) (hrd : ∀ w', Has w' L → Rd w' (.slice p y.data.length m) 1 y.data.length (bc y.data)) (a : Ans) (S' : Tre) (he : S.doM y.op y.data = (a, S')) (hO : Has w (Trc q S :: L)) :
    Calls Tryz.prog 17 #[.pointer (some ⟨q, 0, none⟩), .agg #[.int .i64 y.op.kind, .int .i64 y.op.fd, .int .i64 y.op.n, .int .i64 y.op.off, .int .i64 y.op.flags, sV y.op.path, sV y.op.dest, .slice p y.data.length m]] w fun e w' => ∃ a1 ca b cb, e = .returned (ansY a a1 ca b cb) ∧ Has w' (Bytes (.slice a1 a.data.length ca) a.data :: Strs (.slice b a.names.length cb) a.names :: Trc q S' :: L) ∧ Keep w w' := by
  refine (stepOq q mx w L h (by omega) hM y.op p m y.data (greatM_no hg) hwf hrd hO).mono ?_
  rw [he]
  rintro e w' ⟨a1, ca, b, cb, rfl, -, h1, h2⟩
  exact ⟨a1, ca, b, cb, rfl, h1, h2⟩
/-- One operation of a list, behind others. -/
theorem loopAtG {S0 : Tre} {k0 : Nat} (h : Gdx S0 k0) (hk0 : k0 ≤ 500) {R : List Oq} {k : Nat} (q : Nat) (mx : Int) (w : World) (L : List HP) (hR : ∀ y ∈ R, greatM y = false) (hk : k < R.length) (hn : R.length ≤ 400) (hM : MxL mx L) (y : Oq) (hy : R[k] = y) (p : Option Addr) (m : Nat) (hwf : OpWf y.op) (hrd : ∀ w', Has w' L → Rd w' (.slice p y.data.length m) 1 y.data.length (bc y.data)) (hO : Has w (Trc q (runM S0 (R.take k)) :: L)) :
    Calls Tryz.prog 17 #[.pointer (some ⟨q, 0, none⟩), .agg #[.int .i64 y.op.kind, .int .i64 y.op.fd, .int .i64 y.op.n, .int .i64 y.op.off, .int .i64 y.op.flags, sV y.op.path, sV y.op.dest, .slice p y.data.length m]] w fun e w' => ∃ v, e = .returned v ∧ Has w' (Trc q (runM S0 (R.take (k + 1))) :: L) ∧ Keep w w' := by
  have hm : y ∈ R := hy ▸ List.getElem_mem hk
  refine (stepOqA q mx w L (runGd h hR k (by omega)) (by omega) hM y p m (hR y hm) hwf hrd _ _ rfl hO).mono ?_
  rintro e w' ⟨a, ca, b, cb, rfl, h1, h2⟩
  refine ⟨_, rfl, ?_, h2⟩
  rw [runM_take _ _ _ hk, hy]
  exact h1.drop.drop
theorem stepNeed {S : Tre} {k : Nat} (q : Nat) (w : World) (L : List HP) (h : Gdx S k) (hk : k < 900) (hO : Has w (Trc q S :: L)) :
    Calls Tryz.prog 21 #[.pointer (some ⟨q, 0, none⟩)] w fun e w' => e = .returned (.tuple #[.int .i64 (needSumG S.nodes), .int .i64 (S.nodes.length : Int)]) ∧ Has w' (Trc q S :: L) ∧ Keep w w' := by
  obtain ⟨rk, h⟩ := h
  refine tNeedG q S w L (fun n x hx => ?_) (by have := h.many; omega) hO
  have h1 := (h.nod hx).size
  exact ⟨h1.2.2.2.1, by omega, h1.2.1⟩
end Go.Proofs.YtonhcefgakmpfaaGreatDoor
