/- TEXTS of mine, merged. -/
import Derived.Test.YtonhcefgakmpfaaGreatDoorM9
import Derived.Test.YtonhcefgakmpfaaGreatDoorM7
import Derived.Test.YtonhcefgakmpfaaGreatDoorM6
/- THE WALK of tree.way. -/
namespace Go.Proofs.YtonhcefgakmpfaaGreatDoor
open Go.RowKit Go.Own
theorem kStr_val (p : Str) : kStr.val p = sV p := rfl
theorem vInt_val (x : Int) : vInt.val x = .int .i64 x := rfl
def wTail (nm : Str) (rem : List Str) : List Str := if nm ∈ rem then [] else [nm]
theorem wTail_in {nm : Str} {rem : List Str} (h : nm ∈ rem) : wTail nm rem = [] := if_pos h
theorem wTail_no {nm : Str} {rem : List Str} (h : nm ∉ rem) : wTail nm rem = [nm] := if_neg h
set_option maxRecDepth 100000 in
set_option maxHeartbeats 8000000 in
theorem tWay (q m f : Nat) (P : List Pn) (S : Tre) (rk : Int → Nat) (n0 : Int) (x0 : Nod) (w : World) (L : List HP) (hW : Wy S rk) (hn : fnd S.nodes n0 = some x0) (hPT : pnN P = S.nodes ∧ S.tab.length = 16) (hO : Has w (Trb q m f P S.last S.tab :: L)) :
    Calls Tryz.prog 132 #[.pointer (some ⟨q, 0, none⟩), .int .i64 n0] w fun e w' => ∃ v, e = .returned v ∧ Has w' (Strs v (S.way n0) :: Trb q m f P S.last S.tab :: L) ∧ Keep w w' := by
  have HW := hid hW
  have HPT := hid hPT
  have HO := hid hO
  have hlow := hW.low n0
  generalize hR : S.way n0 = R
  have HR := hid hR
  clear hW hO hPT hR
  go_enter Tryz.func132, Tryz.ntmps132
  go_wp2_with fail
  go_loopw [1, 5] (fun a v w' => ∃ (n : Int) (x : Nod) (out : List Str), a = .int .i64 n ∧ fnd S.nodes n = some x ∧ out.length + rk n ≤ 20 ∧ Hid (S.way n ++ out.reverse = R) ∧ Hid (Has w' (Strs v out :: Trb q m f P S.last S.tab :: L)) ∧ Hid (Keep w w')) (fun a _ _ => rk (intOf a))
  case atStart => exact ⟨n0, x0, [], rfl, hn, by simpa using hlow, hid (by rw [← HR.out]; simp), hid (HO.out.row_nil tStr 1), hid (Keep.refl w)⟩
  case round =>
    clear HO hn hlow
    obtain ⟨n, x, out, rfl, hx, hlen, HRR, HO, HK⟩ := hrel
    obtain ⟨pv, cv, rfl, -⟩ := (Strs.rd HO.out).form
    have HT := hid (HO.out.re 2 [1, 0])
    have hx' := hx
    rw [← HPT.out.1] at hx'
    obtain ⟨b, hb, hl⟩ := Trb.look HT.out hx'
    obtain ⟨dv, wv, nm, -, hc, -⟩ := Trb.node HT.out hb
    have hcb6 : wr.cell? ⟨b, 6, none⟩ = some (.int .i64 x.above) := hc 6
    have hcq := (Trb.cells HT.out).1
    have hat : S.at_ n = x := by unfold Tre.at_; rw [hx]; rfl
    have HLEN := hid hlen
    clear hc hx' hlen
    by_cases hstop : n = 1 ∨ x.above = 0
    · have HE := hid (show out.reverse = R from by rw [← HRR.out, way_stop (by rw [hat]; exact hstop)]; rfl)
      have HOX := hid (show Has wr (Strs (.slice pv out.length cv) out :: Trb q m f P S.last S.tab :: L) from HO.out)
      have HL := hid (show out.length ≤ 1000000 from by have := HLEN.out; omega)
      by_cases h1 : n = 1
      · subst h1
        clear hstop
        go_wp2_with fail
        refine (reverseS _ out _ _ HL.out HOX.out).mono ?_
        rintro e w2 ⟨rfl, hO2, hK2⟩
        have HO2 := hid hO2
        have HK2 := hid ((HK.out).trans hK2)
        clear hO2 hK2
        try dsimp only
        go_wp2_with fail
        go_ret
        rw [← HE.out]
        exact ⟨_, rfl, HO2.out, HK2.out⟩
      · have h2 : x.above = 0 := hstop.resolve_left h1
        clear hstop
        go_wp2_with fail
        refine (reverseS _ out _ _ HL.out HOX.out).mono ?_
        rintro e w2 ⟨rfl, hO2, hK2⟩
        have HO2 := hid hO2
        have HK2 := hid ((HK.out).trans hK2)
        clear hO2 hK2
        try dsimp only
        go_wp2_with fail
        go_ret
        rw [← HE.out]
        exact ⟨_, rfl, HO2.out, HK2.out⟩
    · simp only [not_or] at hstop
      obtain ⟨h1, h2⟩ := hstop
      have h1b : (n != 1) = true := by simpa using h1
      have h2b : (x.above != 0) = true := by simpa using h2
      obtain ⟨y, nm2, hy, hf, hrk, hnl, hw2⟩ := way_step HW.out hx h1 h2
      have hyn : y.names ≠ [] := by intro e; rw [e] at hf; simp at hf
      have hy' := hy
      rw [← HPT.out.1] at hy'
      obtain ⟨A, b2, B, hPe⟩ := pn_split hy'
      have HPe := hid hPe
      have hl2 := Trg.look (x := y) (b := b2) (n := x.above) (Trg.of HT.out) (by rw [hPe]; simp)
      have HG := HT.out
      rw [hPe] at HG
      obtain ⟨dv2, wv2, nmv, hnm2, HN⟩ := ndc_iff.1 (Trg.pull (Trg.of HG))
      obtain ⟨mm, rfl⟩ : ∃ mm, nmv = some mm := by
        cases nmv with
        | none => exact absurd (Has.fact_iff.1 HN.drop.drop.drop).1 hyn
        | some mm => exact ⟨mm, rfl⟩
      have hcb3 : wr.cell? ⟨b2, 3, none⟩ = some (.map (some mm)) := HN.cells 3
      have HN2 := hid (show Has wr (Mk kStr vInt mm y.names :: pt b2 (.cells (nodC y dv2 wv2 (some mm)) 83) :: Dat y.kind dv2 y.data :: Bools wv2 y.wr :: Trg q m f (A ++ (x.above, b2, y) :: B) S.last S.tab (A ++ B) :: Strs (.slice pv out.length cv) out :: L) from HN.re 6 [3, 0, 1, 2, 4, 5])
      have HX := hid (show ∀ p ∈ y.names, (p.2 = n → p = (nm2, n)) ∧ (p.2 ≠ n → p.1 ≠ nm2) from by
        have hin : (nm2, n) ∈ y.names := (List.mem_filter.1 (show (nm2, n) ∈ y.names.filter (fun p => decide (p.2 = n)) by rw [hf]; simp)).1
        rintro ⟨p1, p2⟩ hp
        refine ⟨?_, ?_⟩
        · rintro rfl
          have : (p1, p2) ∈ y.names.filter (fun p => decide (p.2 = p2)) := List.mem_filter.2 ⟨hp, by simp⟩
          rw [hf] at this
          exact List.mem_singleton.1 this
        · rintro h0 rfl
          have e1 := fnd_mem (Mk.nodup HN2.out) hp
          have e2 := fnd_mem (Mk.nodup HN2.out) hin
          rw [e1] at e2
          exact h0 (Option.some.inj e2))
      have HF := hid hf
      have HRK := hid hrk
      have HHN := hid hnm2
      have HW2 := hid hw2
      clear hf hrk hnl hw2 HG HN hnm2 hPe hyn hb HO
      go_wp2_with (at_range; refine wpList_mkStart HN2.out tNm undNm rfl _ rfl rfl ?_; intro w4 hO4 hK4 hs4)
      try go_frame
      have HO4 := hid (show Has w4 (Mr kStr vInt mm wr.heap.size y.names (y.names.map Prod.fst) y.names.length :: Strs (.slice pv out.length cv) (out ++ wTail nm2 (y.names.map Prod.fst)) :: pt b2 (.cells (nodC y dv2 wv2 (some mm)) 83) :: Dat y.kind dv2 y.data :: Bools wv2 y.wr :: Trg q m f (A ++ (x.above, b2, y) :: B) S.last S.tab (A ++ B) :: L) from by
        rw [wTail_in (by
          have : (nm2, n) ∈ y.names.filter (fun p => decide (p.2 = n)) := by rw [HF.out]; simp
          exact List.mem_map_of_mem (f := Prod.fst) (List.mem_filter.1 this).1), List.append_nil]
        exact hO4.re 6 [0, 5, 1, 2, 3, 4])
      have HK4 := hid (HK.out.trans hK4)
      clear hO4 hK4 hs4 hcb6 hcq hl hl2 hcb3 HK HN2
      generalize wr.heap.size = r at *
      generalize y.names.map Prod.fst = rem0 at *
      generalize y.names.length = cnt0 at *
      go_loopw [5] (fun v w4 => ∃ (rem : List Str) (cnt : Nat), Hid (Has w4 (Mr kStr vInt mm r y.names rem cnt :: Strs v (out ++ wTail nm2 rem) :: pt b2 (.cells (nodC y dv2 wv2 (some mm)) 83) :: Dat y.kind dv2 y.data :: Bools wv2 y.wr :: Trg q m f (A ++ (x.above, b2, y) :: B) S.last S.tab (A ++ B) :: L)) ∧ Hid (Keep w w4)) (fun _ w4 => w4.rangeLeft mm r)
      case atStart => exact ⟨_, _, HO4, HK4⟩
      case round =>
        clear HO4 HK4
        obtain ⟨rem, cnt, HO, HK⟩ := hrel
        have hleft := Mr.left HO.out
        have HLF := hid hleft
        obtain ⟨pw, cw, rfl, -⟩ := (Strs.rd HO.out.p1).form
        generalize (out ++ wTail nm2 rem).length = zl at *
        go_wp2_with (at_next; refine wpList_mkNext HO.out rfl _ rfl rfl ?_ ?_)
        · intro hrem
          subst hrem
          have HO5 := hid (show Has wr (Strs (.slice pw zl cw) (out ++ [nm2]) :: Trb q m f P S.last S.tab :: L) from by
            have h1 := (Mr.end HO.out).re 6 [2, 3, 4, 0, 5, 1]
            have h2 : Has wr (Ndc b2 y :: Trg q m f (A ++ (x.above, b2, y) :: B) S.last S.tab (A ++ B) :: Strs (.slice pw zl cw) (out ++ [nm2]) :: L) := ndc_iff.2 ⟨dv2, wv2, some mm, HHN.out, h1⟩
            have h3 := Trg.perm (Trg.push x.above h2) (List.perm_middle (l₁ := A) (l₂ := B) (a := (x.above, b2, y))).symm
            rw [← HPe.out] at h3
            exact (show Has wr (Trb q m f P S.last S.tab :: _ :: L) from h3).re 2 [1, 0])
          have HWE := hid (show S.way x.above ++ (out ++ [nm2]).reverse = R from by rw [← HRR.out, HW2.out]; simp)
          have HYX := hid hy
          clear HO hleft
          go_wp2_with fail
          exact ⟨⟨x.above, y, out ++ [nm2], rfl, HYX.out, by have h1 := HLEN.out; have h2 := HRK.out; simp; omega, HWE, HO5, HK⟩, by simpa [intOf] using HRK.out⟩
        · rintro p1 p2 w5 cnt' hp hr hky hO5 hlt5 hK5 hsz hen
          simp only [kStr_val, vInt_val] at hen ⊢
          have hen2 := hen
          have HXP := HX.out _ hp
          have HO5 := hid hO5
          have HK5 := hid (HK.out.trans hK5)
          have HL5 := hid hlt5
          have hsl : out.length ≤ 20 := by have h1 := HLEN.out; omega
          dsimp only at HXP hr
          by_cases hpn : p2 = n
          · obtain ⟨rfl, -⟩ : p1 = nm2 ∧ p2 = n := by have := HXP.1 hpn; simpa using this
            subst hpn
            rw [wTail_in hr, List.append_nil] at HO5
            have HO6 := hid (show Has (w5.alloc (.cells #[sV p1] tStr)) (Strs (.slice pw zl cw) out :: pt w5.heap.size (.cells #[sV p1] tStr) :: Mr kStr vInt mm r y.names (rem.filter fun y => !decide (y = p1)) cnt' :: pt b2 (.cells (nodC y dv2 wv2 (some mm)) 83) :: Dat y.kind dv2 y.data :: Bools wv2 y.wr :: Trg q m f (A ++ (x.above, b2, y) :: B) S.last S.tab (A ++ B) :: L) from (HO5.out.alloc (.cells #[sV p1] tStr)).re 7 [2, 0, 1, 3, 4, 5, 6])
            have hcx := HO6.out.p1.cells 0
            have HK6 := hid (HK5.out.alloc (.cells #[sV p1] tStr))
            have HNI := hid (show wTail p1 (rem.filter fun y => !decide (y = p1)) = [p1] from wTail_no (by simp))
            clear hp hr hky hlt5 hK5 hsz hleft HO HK HO5 HK5 HXP
            go_wp2_with (at_builtin; refine wpList_append1 rfl _ _ _ rfl Tryz.underlying30 infoStr rfl (sV p1) HO6.out rfl 1 w5.heap.size rfl hcx rfl (le_maxLen (by omega)) (by omega) ?_; intro v7 w7 h7 k7)
            have HO7 := hid (show Has w7 (Mr kStr vInt mm r y.names (rem.filter fun y => !decide (y = p1)) cnt' :: Strs v7 (out ++ wTail p1 (rem.filter fun y => !decide (y = p1))) :: pt b2 (.cells (nodC y dv2 wv2 (some mm)) 83) :: Dat y.kind dv2 y.data :: Bools wv2 y.wr :: Trg q m f (A ++ (x.above, b2, y) :: B) S.last S.tab (A ++ B) :: L) from by
              rw [HNI.out]
              have h6 : Has w7 (Strs v7 (out ++ [p1]) :: pt w5.heap.size (.cells #[sV p1] tStr) :: Mr kStr vInt mm r y.names (rem.filter fun y => !decide (y = p1)) cnt' :: pt b2 (.cells (nodC y dv2 wv2 (some mm)) 83) :: Dat y.kind dv2 y.data :: Bools wv2 y.wr :: Trg q m f (A ++ (x.above, b2, y) :: B) S.last S.tab (A ++ B) :: L) := by
                unfold Strs
                rw [List.map_append, List.length_append]
                exact h7
              exact h6.re 7 [2, 0, 3, 4, 5, 6])
            have HK7 := hid (HK6.out.trans k7)
            have hleft := Mr.left HO7.out
            clear h7 k7 HO6 HK6 hcx hen hen2 hsl
            go_wp2_with fail
            exact ⟨⟨_, _, HO7, HK7⟩, by rw [hleft, HLF.out]; exact HL5.out⟩
          · have hpb : (p2 == n) = false := by simpa using hpn
            have HNE := hid (show wTail nm2 (rem.filter fun y => !decide (y = p1)) = wTail nm2 rem from by
              have h0 := HXP.2 hpn
              unfold wTail
              have : nm2 ∈ rem.filter (fun y => !decide (y = p1)) ↔ nm2 ∈ rem := by simp [List.mem_filter, Ne.symm h0]
              by_cases h3 : nm2 ∈ rem
              · rw [if_pos h3, if_pos (this.2 h3)]
              · rw [if_neg h3, if_neg (fun h => h3 (this.1 h))])
            have HO7 := hid (show Has w5 (Mr kStr vInt mm r y.names (rem.filter fun y => !decide (y = p1)) cnt' :: Strs (.slice pw zl cw) (out ++ wTail nm2 (rem.filter fun y => !decide (y = p1))) :: pt b2 (.cells (nodC y dv2 wv2 (some mm)) 83) :: Dat y.kind dv2 y.data :: Bools wv2 y.wr :: Trg q m f (A ++ (x.above, b2, y) :: B) S.last S.tab (A ++ B) :: L) from by rw [HNE.out]; exact HO5.out)
            have hleft := Mr.left HO7.out
            clear hp hr hky hlt5 hK5 hsz HO HK HO5 HXP hsl hpn
            go_wp2_with fail
            exact ⟨⟨_, _, HO7, HK5⟩, by rw [hleft, HLF.out]; exact HL5.out⟩
end Go.Proofs.YtonhcefgakmpfaaGreatDoor
/- Plain facts: what is found is there; how long joined names are. No program in sight. -/
namespace Go.Proofs.YtonhcefgakmpfaaGreatDoor
open Go.RowKit Go.Own
theorem joinS_len : ∀ xs : List Str, (∀ p ∈ xs, p.length ≤ 24) → (joinS xs).length ≤ xs.length * 25
  | [], _ => by simp [joinS, Lib.join_nil]
  | x :: r, h => by
    unfold joinS
    rw [Lib.join_cons]
    have h1 : ∀ r : List Str, (∀ p ∈ r, p.length ≤ 24) → (Lib.joinTail [47] r).length ≤ r.length * 25 := by
      intro r
      induction r with
      | nil => intro _; simp [Lib.joinTail]
      | cons y r ih =>
        intro h
        have h2 := ih fun p hp => h p (List.mem_cons_of_mem _ hp)
        have h3 := h y List.mem_cons_self
        simp only [Lib.joinTail, List.map_cons, List.flatten_cons, List.length_append, List.length_cons, List.length_nil] at *
        omega
    have h4 := h1 r fun p hp => h p (List.mem_cons_of_mem _ hp)
    have h5 := h x List.mem_cons_self
    simp only [List.length_append, List.length_cons]
    omega
theorem last_joins (p : Str) : (joinS (splitM p).1.dropLast).length ≤ 1000 := by
  have h1 := joinS_len (splitM p).1.dropLast fun q hq => split_short p q ((List.dropLast_sublist _).subset hq)
  have h2 := split_len p
  have h3 : (splitM p).1.dropLast.length ≤ 20 := by rw [List.length_dropLast]; omega
  omega
theorem last_ahead (p : Str) : (lastM p).1.length ≤ 1001 := by
  unfold lastM
  split
  · simp
  · split
    · simp
    · split
      · simp
      · have := last_joins p
        simp only [joinM, List.length_cons]
        omega
theorem last_name (p : Str) : (lastM p).2.1.length ≤ 24 := by
  unfold lastM
  split
  · simp
  · split
    · simp
    · rename_i x hx
      split
      · simp
      · exact split_short p x (List.mem_of_getLast? hx)
theorem walk_there {S : Tre} (hW : Wk S) (fo : Bool) (s : Spt) (hops : Nat) (ps : List Str) (hs : ∃ x, fnd S.nodes s.node = some x) (h0 : (S.walk s hops ps fo).2 = 0) : ∃ x, fnd S.nodes (S.walk s hops ps fo).1.node = some x := by
  fun_induction Tre.walk S s hops ps fo
  case case1 => exact hs
  case case2 => simp at h0
  case case3 =>
    rename_i ih
    refine ih ?_ h0
    obtain ⟨x, hx⟩ := hs
    show ∃ y, fnd S.nodes (S.up _) = some y
    unfold Tre.up Tre.at_
    rw [hx]
    by_cases h1 : x.above = 0
    · exact ⟨x, by simp [h1, hx]⟩
    · obtain ⟨y, hy⟩ := hW.above _ _ hx h1
      exact ⟨y, by simp [h1, hy]⟩
  case case4 => simp at h0
  case case5 => simp at h0
  case case6 =>
    rename_i ih
    refine ih ?_ h0
    dsimp only
    split
    · exact hW.root
    · exact hs
  case case7 =>
    rename_i hf hn ih
    refine ih ?_ h0
    obtain ⟨x, hx⟩ := hs
    unfold Tre.at_ at hf
    rw [hx] at hf
    exact hW.child _ _ hx _ _ hf
theorem find_there {S : Tre} (hW : Wk S) (p : Str) (fo : Bool) (h0 : (S.find p fo).2 = 0) : ∃ x, fnd S.nodes (S.find p fo).1.node = some x := by
  unfold Tre.find at *
  split at h0
  · rename_i h; exact absurd h0 h
  · rename_i h
    rw [if_neg h]
    exact walk_there hW fo _ _ _ hW.root h0
theorem wrSet_len (ws : List Bool) (a b : Nat) : (wrSet ws a b).length = ws.length := by simp [wrSet]
theorem wrSet_at (ws : List Bool) (a b i : Nat) (h : i < ws.length) : (wrSet ws a b)[i]? = some (ws[i] || (decide (a ≤ i) && decide (i < b))) := by
  unfold wrSet
  rw [List.getElem?_map, List.getElem?_zipIdx, List.getElem?_eq_getElem h]
  simp
theorem wrSet_same (ws : List Bool) (a : Nat) : wrSet ws a a = ws := by
  apply List.ext_getElem?
  intro i
  by_cases h : i < ws.length
  · rw [wrSet_at ws a a i h, List.getElem?_eq_getElem h]
    have : (decide (a ≤ i) && decide (i < a)) = false := by
      by_cases h1 : a ≤ i
      · simp
      · simp [h1]
    rw [this, Bool.or_false]
  · rw [List.getElem?_eq_none (by rw [wrSet_len]; omega), List.getElem?_eq_none (by omega)]
theorem wrSet_succ (ws : List Bool) (a k : Nat) (h1 : a ≤ k) (h2 : k < ws.length) : wrSet ws a (k + 1) = (wrSet ws a k).set k true := by
  apply List.ext_getElem?
  intro i
  by_cases h : i < ws.length
  · by_cases hik : i = k
    · subst hik
      rw [wrSet_at ws a (i + 1) i h, List.getElem?_set_self (by rw [wrSet_len]; exact h)]
      simp [h1]
    · rw [List.getElem?_set_ne (Ne.symm hik), wrSet_at ws a (k + 1) i h, wrSet_at ws a k i h]
      congr 2
      by_cases h3 : i < k
      · simp [h3, Nat.lt_succ_of_lt h3]
      · have : ¬ i < k + 1 := by omega
        simp [h3, this]
  · rw [List.getElem?_eq_none (by rw [wrSet_len]; omega), List.getElem?_eq_none (by rw [List.length_set, wrSet_len]; omega)]
end Go.Proofs.YtonhcefgakmpfaaGreatDoor
/- THE WALK of tree.place. -/
namespace Go.Proofs.YtonhcefgakmpfaaGreatDoor
open Go.RowKit Go.Own
set_option maxRecDepth 100000 in
set_option maxHeartbeats 8000000 in
theorem tPlace (q : Nat) (S : Tre) (rk : Int → Nat) (p : Str) (mx : Int) (w : World) (L : List HP) (hW : Wk S) (hY : Wy S rk) (hM : MxL mx L) (hp : p.length ≤ 100000) (hO : Has w (Trc q S :: L)) :
    Calls Tryz.prog 116 #[.pointer (some ⟨q, 0, none⟩), sV p] w fun e w' => e = .returned (.tuple #[spV (S.place p).1, .int .i64 (S.place p).2]) ∧ Has w' (Trc q S :: L) ∧ Keep w w' := by
  have HLA := hid (fun (w : World) (L' : List HP) (hM : MxL mx L') (hO : Has w L') => pLast p mx w L' hM hp (by have := split_len p; omega) (by have := last_joins p; omega) hO)
  have hla := last_ahead p
  have hln := last_name p
  generalize hR : S.place p = R
  unfold Tre.place at hR
  generalize lastM p = M at *
  obtain ⟨ahead, name, e1⟩ := M
  dsimp only at *
  have HFI := hid (fun (w : World) (L' : List HP) (hM : MxL mx L') (hO : Has w (Trc q S :: L')) => tFind q S ahead true mx w L' hW hM (by omega) hO)
  have HTH := hid (find_there hW ahead true)
  generalize S.find ahead true = F at *
  obtain ⟨s2, e2⟩ := F
  dsimp only at *
  have HR := hid hR
  have HM := hid hM
  have HO := hid hO
  have HY := hid hY
  have HLN := hid hln
  clear hM hO hp hla hW hR hY
  go_enter Tryz.func116, Tryz.ntmps116
  go_wp2_with fail
  refine (HLA.out _ _ ((HM.out.cons _).cons (pt w.heap.size (.cells (spC spt0) 93))) (HO.out.alloc _)).mono ?_
  rintro e w1 ⟨rfl, hO1, hK1⟩
  have HO1 := hid hO1
  have HK1 := hid (((Keep.refl w).alloc _).trans hK1)
  clear hO1 hK1
  try dsimp only
  generalize w.heap.size = g4 at *
  have hc80 : w1.cell? ⟨g4, 0, none⟩ = some (.int .i64 0) := HO1.out.cells 0
  have hc81 : w1.cell? ⟨g4, 1, none⟩ = some (.int .i64 0) := HO1.out.cells 1
  have hc82 : w1.cell? ⟨g4, 2, none⟩ = some (sV []) := HO1.out.cells 2
  have ht80 := HO1.out.thaw 0
  have ht81 := HO1.out.thaw 1
  have ht82 := HO1.out.thaw 2
  by_cases he : e1 = 0
  · subst he
    have HR1 := hid (show (if e2 ≠ 0 then (spt0, e2) else if (S.at_ s2.node).kind ≠ 2 then (spt0, 7) else if Tre.longM (S.way s2.node ++ [name]) = true then (spt0, 11) else (⟨(fnd (S.at_ s2.node).names name).getD 0, s2.node, name⟩, 0)) = R from (if_neg (fun h => h rfl)).symm.trans HR.out)
    clear HR
    go_upto_region 4 with fail
    go_cut [8, 9] (fun e9 p9 wx => ∃ (w3 : World) (g9 : Nat), w3 = wx ∧ e9 = .int .i64 e2 ∧ p9 = .pointer (some ⟨g9, 0, none⟩) ∧ Hid (Has w3 (pt g9 (.cells (spC s2) 93) :: pt g4 (.cells (spC spt0) 93) :: Trc q S :: L)) ∧ Hid (Keep w w3))
    case first =>
      go_wp2_with fail
      refine (HFI.out w1 _ (HM.out.cons (pt g4 (.cells (spC spt0) 93))) (HO1.out.re 2 [1, 0])).mono ?_
      rintro e w2 ⟨rfl, hO2, hK2⟩
      have HO2 := hid hO2
      have HK2 := hid ((HK1.out).trans hK2)
      clear hO2 hK2
      try dsimp only
      unfold spV spC
      go_wp2_with fail
      go_meet
      exact ⟨_, _, rfl, rfl, rfl, hid ((HO2.out.alloc (.cells (spC s2) 93)).re 3 [0, 2, 1]), hid (HK2.out.alloc _)⟩
    case rest =>
      obtain ⟨w3, g9, rfl, rfl, rfl, HO3, HK3⟩ := hcut
      clear hc80 hc81 hc82 ht80 ht81 ht82
      have hc80 : w3.cell? ⟨g4, 0, none⟩ = some (.int .i64 0) := HO3.out.p1.cells 0
      have hc81 : w3.cell? ⟨g4, 1, none⟩ = some (.int .i64 0) := HO3.out.p1.cells 1
      have hc82 : w3.cell? ⟨g4, 2, none⟩ = some (sV []) := HO3.out.p1.cells 2
      have ht80 := HO3.out.p1.thaw 0
      have ht81 := HO3.out.p1.thaw 1
      have ht82 := HO3.out.p1.thaw 2
      by_cases he2 : e2 = 0
      · subst he2
        have HR2 := hid (show (if (S.at_ s2.node).kind ≠ 2 then (spt0, 7) else if Tre.longM (S.way s2.node ++ [name]) = true then (spt0, 11) else (⟨(fnd (S.at_ s2.node).names name).getD 0, s2.node, name⟩, 0)) = R from (if_neg (fun h => h rfl)).symm.trans HR1.out)
        clear HR1
        obtain ⟨x, hx⟩ := HTH.out rfl
        have hat : S.at_ s2.node = x := by unfold Tre.at_; rw [hx]; rfl
        rw [hat] at HR2
        obtain ⟨m, f, P, ⟨hP, hT⟩, h⟩ := trc_iff.1 (HO3.out.re 3 [2, 0, 1])
        have HPT := hid (And.intro hP hT)
        have HG := hid (show Has w3 (Trb q m f P S.last S.tab :: pt g9 (.cells (spC s2) 93) :: pt g4 (.cells (spC spt0) 93) :: L) from h)
        have hx' := hx
        rw [← hP] at hx'
        obtain ⟨b, hb, hl⟩ := Trb.look HG.out.drew hx'
        obtain ⟨dv, wv, nm, hnm, hc, -, hlk⟩ := Trb.node2 HG.out.drew hb
        have hcb0 : w3.drew.cell? ⟨b, 0, none⟩ = some (.int .i64 x.kind) := hc 0
        have hcb3 : w3.drew.cell? ⟨b, 3, none⟩ = some (.map nm) := hc 3
        have hcq := (Trb.cells HG.out.drew).1
        have hc90 : w3.drew.cell? ⟨g9, 0, none⟩ = some (.int .i64 s2.node) := HG.out.drew.p1.cells 0
        have HXE := hid hx
        clear hx' hP hT h hc hx
        go_upto_region 7 with fail
        refine region_text (fun w' => w'.cell? ⟨q, 0, none⟩ = some (.map (some m)) ∧ w'.cell? ⟨g9, 0, none⟩ = some (.int .i64 s2.node) ∧ (Instr.lookup tNo (.map (some m)) (.int .i64 s2.node) false).run Tryz.prog w' = .ok (.pointer (some ⟨b, 0, none⟩)) w') (by kernel_rfl) (by kernel_rfl) ⟨hcq, hc90, hl⟩ ?_
        repeat (first
          | (refine wpL_read (by rfl) (by rfl) ?_ ?_ ?_; rotate_left; (rintro w ⟨z0, z1, z2⟩; go_simp; with_reducible rfl); simp only [Act.put, List.setIfInBounds_toArray, List.set_cons_zero, List.set_cons_succ]) | (refine wpL_skip (by rfl) ?_; simp only [Act.put, List.setIfInBounds_toArray, List.set_cons_zero, List.set_cons_succ]))
        refine wpL_nil ?_
        have HOd := hid HO3.out.drew
        have HGd := hid HG.out.drew
        have HKd := hid HK3.out.drew
        clear hc80 hc81 hc82 ht80 ht81 ht82 HO3 HG HK3
        generalize w3.drew = w4 at *
        have hc80 : w4.cell? ⟨g4, 0, none⟩ = some (.int .i64 0) := HOd.out.p1.cells 0
        have hc81 : w4.cell? ⟨g4, 1, none⟩ = some (.int .i64 0) := HOd.out.p1.cells 1
        have hc82 : w4.cell? ⟨g4, 2, none⟩ = some (sV []) := HOd.out.p1.cells 2
        have ht80 := HOd.out.p1.thaw 0
        have ht81 := HOd.out.p1.thaw 1
        have ht82 := HOd.out.p1.thaw 2
        by_cases hk : x.kind = 2
        · have HR3 := hid (show (if Tre.longM (S.way s2.node ++ [name]) = true then (spt0, 11) else (⟨(fnd x.names name).getD 0, s2.node, name⟩, 0)) = R from (if_neg (fun h => h hk)).symm.trans HR2.out)
          clear HR2
          obtain ⟨mm, rfl⟩ := hnm hk
          have hwl := way_len HY.out 20 _ _ HXE.out (HY.out.low _)
          have hws := way_short HY.out 20 _ _ HXE.out (HY.out.low _)
          have HWA := hid (fun (w : World) (L' : List HP) (hO : Has w (Trb q m f P S.last S.tab :: L')) => tWay q m f P S rk s2.node x w L' HY.out HXE.out HPT.out hO)
          generalize S.way s2.node = wy at *
          have HJL := hid (show (joinS (wy ++ [name])).length ≤ 1000000 from by
            have h1 := joinS_len (wy ++ [name]) (fun p' hp' => (List.mem_append.1 hp').elim (hws p') (fun h => by rw [List.mem_singleton.1 h]; exact HLN.out))
            simp only [List.length_append, List.length_cons, List.length_nil] at h1
            omega)
          clear hws hlk hnm
          go_upto_region 10 with fail
          go_cut [45] (fun c wx => ∃ (w6 : World), w6 = wx ∧ c = .bool (Tre.longM (wy ++ [name])) ∧ Hid (Has w6 (Trb q m f P S.last S.tab :: pt g9 (.cells (spC s2) 93) :: pt g4 (.cells (spC spt0) 93) :: L)) ∧ Hid (Keep w w6))
          case first =>
            go_wp2_with fail
            refine (HWA.out w4 _ HGd.out).mono ?_
            rintro e w5 ⟨v5, rfl, hO5, hK5⟩
            have HO5 := hid hO5
            have HK5 := hid ((HKd.out).trans hK5)
            clear hO5 hK5
            try dsimp only
            obtain ⟨p5, c5, rfl, -⟩ := (Strs.rd HO5.out).form
            have HO6 := hid (show Has (w5.alloc (.cells #[sV name] tStr)) (Strs (.slice p5 wy.length c5) wy :: pt w5.heap.size (.cells #[sV name] tStr) :: Trb q m f P S.last S.tab :: pt g9 (.cells (spC s2) 93) :: pt g4 (.cells (spC spt0) 93) :: L) from (HO5.out.alloc (.cells #[sV name] tStr)).re 2 [1, 0])
            have hcx := HO6.out.p1.cells 0
            go_wp2_with (at_builtin; refine wpList_append1 rfl _ _ _ rfl Tryz.underlying30 infoStr rfl (sV name) HO6.out rfl 1 w5.heap.size rfl hcx rfl (le_maxLen (by omega)) (by omega) ?_; intro v7 w7 h7 k7)
            have HO7 := hid (show Has w7 (Strs v7 (wy ++ [name]) :: Trb q m f P S.last S.tab :: pt g9 (.cells (spC s2) 93) :: pt g4 (.cells (spC spt0) 93) :: L) from by
              have h6 : Has w7 (Strs v7 (wy ++ [name]) :: pt w5.heap.size (.cells #[sV name] tStr) :: Trb q m f P S.last S.tab :: pt g9 (.cells (spC s2) 93) :: pt g4 (.cells (spC spt0) 93) :: L) := by
                unfold Strs
                rw [List.map_append, List.length_append]
                exact h7
              exact h6.re 5 [0, 2, 3, 4])
            have HK7 := hid ((HK5.out.alloc (.cells #[sV name] tStr)).trans k7)
            clear h7 k7 HO6 hcx
            obtain ⟨p7, c7, rfl, -⟩ := (Strs.rd HO7.out).form
            go_wp2_with fail
            refine (tLong _ (wy ++ [name]) w7 _ (Strs.rd HO7.out) (by simp; omega) HJL.out HO7.out).mono ?_
            rintro e w8 ⟨rfl, hO8, hK8⟩
            have HO8 := hid hO8
            have HK8 := hid ((HK7.out).trans hK8)
            clear hO8 hK8
            try dsimp only
            go_wp2_with fail
            go_meet
            exact ⟨_, rfl, rfl, hid HO8.out.drop, HK8⟩
          case rest =>
            obtain ⟨w6, rfl, rfl, HO6, HK6⟩ := hcut
            clear hc80 hc81 hc82 ht80 ht81 ht82 hcb0 hcb3 hcq hc90
            by_cases hlong : Tre.longM (wy ++ [name]) = true
            · rw [hlong]
              have HRR := hid (show R = (spt0, 11) from by rw [← HR3.out, if_pos hlong])
              have hc80 : w6.cell? ⟨g4, 0, none⟩ = some (.int .i64 0) := HO6.out.p2.cells 0
              have hc81 : w6.cell? ⟨g4, 1, none⟩ = some (.int .i64 0) := HO6.out.p2.cells 1
              have hc82 : w6.cell? ⟨g4, 2, none⟩ = some (sV []) := HO6.out.p2.cells 2
              have ht80 := HO6.out.p2.thaw 0
              have ht81 := HO6.out.p2.thaw 1
              have ht82 := HO6.out.p2.thaw 2
              go_wp2_with fail
              have h1 := (show Has w6 (pt g4 (.cells (spC spt0) 93) :: Trb q m f P S.last S.tab :: L) from HO6.out.re 3 [2, 0]).spt spt0
              refine bodyPost_ret (spt_result spt0 rfl rfl rfl h1) rfl ?_
              rw [HRR.out]
              exact ⟨rfl, trc_iff.2 ⟨m, f, P, HPT.out, h1.drop⟩, HK6.out.spt _ _ _ _⟩
            · have hlf : Tre.longM (wy ++ [name]) = false := by simpa using hlong
              rw [hlf]
              have HRR := hid (show R = (⟨(fnd x.names name).getD 0, s2.node, name⟩, 0) from by rw [← HR3.out, if_neg hlong])
              obtain ⟨dv6, wv6, nm6, hnm6, hc6, -, hlk6⟩ := Trb.node2 HO6.out.drew hb
              obtain ⟨mm6, rfl⟩ := hnm6 hk
              have hlk7 := (hlk6 mm6 rfl name (by have := HLN.out; omega)).2
              have hcb3 : w6.drew.cell? ⟨b, 3, none⟩ = some (.map (some mm6)) := hc6 3
              have hc90 : w6.drew.cell? ⟨g9, 0, none⟩ = some (.int .i64 s2.node) := HO6.out.drew.p1.cells 0
              have hc80 : w6.drew.cell? ⟨g4, 0, none⟩ = some (.int .i64 0) := HO6.out.drew.p2.cells 0
              have hc81 : w6.drew.cell? ⟨g4, 1, none⟩ = some (.int .i64 0) := HO6.out.drew.p2.cells 1
              have hc82 : w6.drew.cell? ⟨g4, 2, none⟩ = some (sV []) := HO6.out.drew.p2.cells 2
              have ht80 := HO6.out.drew.p2.thaw 0
              have ht81 := HO6.out.drew.p2.thaw 1
              have ht82 := HO6.out.drew.p2.thaw 2
              clear hlk6 hc6
              have hc80' : w6.cell? ⟨g4, 0, none⟩ = some (.int .i64 0) := hc80
              have hc81' : w6.cell? ⟨g4, 1, none⟩ = some (.int .i64 0) := hc81
              have hc82' : w6.cell? ⟨g4, 2, none⟩ = some (sV []) := hc82
              have ht80' := HO6.out.p2.thaw 0
              have ht81' := HO6.out.p2.thaw 1
              have ht82' := HO6.out.p2.thaw 2
              go_upto_region 12 with fail
              go_region
              go_wp2_with fail
              have h1 := (show Has w6.drew (pt g4 (.cells (spC spt0) 93) :: Trb q m f P S.last S.tab :: L) from HO6.out.drew.re 3 [2, 0]).spt ⟨(fnd x.names name).getD 0, s2.node, name⟩
              refine bodyPost_ret (spt_result ⟨(fnd x.names name).getD 0, s2.node, name⟩ rfl rfl rfl h1) rfl ?_
              rw [HRR.out]
              exact ⟨rfl, trc_iff.2 ⟨m, f, P, HPT.out, h1.drop⟩, HK6.out.drew.spt _ _ _ _⟩
        · have HRR := hid (show R = (spt0, 7) from by rw [← HR2.out, if_pos hk])
          go_wp2_with fail
          have h1 := (show Has w4 (pt g4 (.cells (spC spt0) 93) :: Trc q S :: L) from HOd.out.re 3 [1, 2]).spt spt0
          refine bodyPost_ret (spt_result spt0 rfl rfl rfl h1) rfl ?_
          rw [HRR.out]
          exact ⟨rfl, h1.drop, HKd.out.spt _ _ _ _⟩
      · have HRR := hid (show R = (spt0, e2) from by rw [← HR1.out, if_pos he2])
        go_wp2_with fail
        have h1 := (show Has w3 (pt g4 (.cells (spC spt0) 93) :: Trc q S :: L) from HO3.out.re 3 [1, 2]).spt spt0
        refine bodyPost_ret (spt_result spt0 rfl rfl rfl h1) rfl ?_
        rw [HRR.out]
        exact ⟨rfl, h1.drop, HK3.out.spt _ _ _ _⟩
  · have HRR := hid (show R = (spt0, e1) from by rw [← HR.out, if_pos he])
    go_wp2_with fail
    have h1 := (show Has w1 (pt g4 (.cells (spC spt0) 93) :: Trc q S :: L) from HO1.out).spt spt0
    refine bodyPost_ret (spt_result spt0 rfl rfl rfl h1) rfl ?_
    rw [HRR.out]
    exact ⟨rfl, h1.drop, HK1.out.spt _ _ _ _⟩
end Go.Proofs.YtonhcefgakmpfaaGreatDoor
/- THE WALK of tree.stat. -/
namespace Go.Proofs.YtonhcefgakmpfaaGreatDoor
open Go.RowKit Go.Own
set_option maxRecDepth 100000 in
set_option maxHeartbeats 8000000 in
theorem tStat (q : Nat) (S : Tre) (o : Opm) (ov : Value) (mx : Int) (w : World) (L : List HP) (hk : o.kind = 16 ∨ o.kind = 17) (hW : Wk S) (hM : MxL mx L) (hp : o.path.length ≤ 100000) (hdl : ∀ n x, fnd S.nodes n = some x → x.data.length ≤ 100000 ∧ x.names.length ≤ 1000000) (hO : Has w (Trc q S :: L)) :
    Calls Tryz.prog 65 #[.pointer (some ⟨q, 0, none⟩), opV o ov] w fun e w' => e = .returned (ansV (S.stat o.path (o.kind == 16)) nilV nilV) ∧ Has w' (Trc q S :: L) ∧ Keep w w' := by
  have HF := hid (fun (w : World) (L' : List HP) (hM : MxL mx L') (hO : Has w (Trc q S :: L')) => tFind q S o.path (o.kind == 16) mx w L' hW hM hp hO)
  have HTH := hid (find_there hW o.path (o.kind == 16))
  generalize hR : S.stat o.path (o.kind == 16) = R
  unfold Tre.stat at hR
  generalize S.find o.path (o.kind == 16) = F at *
  obtain ⟨s2, e2⟩ := F
  dsimp only at *
  have HR := hid hR
  have HM := hid hM
  have HDL := hid hdl
  have HO := hid hO
  clear hO hR hW hM hp hdl
  unfold opV opC
  go_enter Tryz.func65, Tryz.ntmps65
  go_upto_region 1 with fail
  have h1 := (HO.out.alloc (.cells (opC o ov) 35)).alloc (.cells (ansC (ansE 0) nilV nilV) 32)
  have HK1 := hid (((Keep.refl w).alloc (.cells (opC o ov) 35)).alloc (.cells (ansC (ansE 0) nilV nilV) 32))
  unfold opC ansC ansE at h1 HK1
  have e1 : (w.alloc (.cells #[.int .i64 o.kind, .int .i64 o.fd, .int .i64 o.n, .int .i64 o.off, .int .i64 o.flags, sV o.path, sV o.dest, ov] 35)).heap.size = w.heap.size + 1 := by show (Array.push _ _).size = _; rw [Array.size_push]
  rw [e1] at h1
  have HO1 := hid h1
  clear h1 e1 HO
  generalize (w.alloc (.cells #[.int .i64 o.kind, .int .i64 o.fd, .int .i64 o.n, .int .i64 o.off, .int .i64 o.flags, sV o.path, sV o.dest, ov] 35)).alloc (.cells #[.int .i64 0, .int .i64 0, .int .i64 0, .int .i64 0, nilV, nilV] 32) = w1 at *
  generalize w.heap.size = g3 at *
  generalize g3 + 1 = g4 at *
  have hp0 : w1.cell? ⟨g3, 0, none⟩ = some (.int .i64 o.kind) := HO1.out.p1.cells 0
  have hp5 : w1.cell? ⟨g3, 5, none⟩ = some (sV o.path) := HO1.out.p1.cells 5
  go_cut [5, 6] (fun p5 e6 wx => ∃ (w3 : World) (g5 : Nat), w3 = wx ∧ e6 = .int .i64 e2 ∧ p5 = .pointer (some ⟨g5, 0, none⟩) ∧ Hid (Has w3 (Trc q S :: pt g5 (.cells (spC s2) 93) :: pt g4 (.cells (ansC (ansE 0) nilV nilV) 32) :: L)) ∧ Hid (Keep w w3))
  case first =>
    go_wp2_with fail
    refine (HF.out w1 _ ((HM.out.cons (pt g3 (.cells (opC o ov) 35))).cons (pt g4 (.cells (ansC (ansE 0) nilV nilV) 32))) (HO1.out.re 3 [2, 0, 1])).mono ?_
    rintro e w2 ⟨rfl, hO2, hK2⟩
    have HO2 := hid hO2
    have HK2 := hid ((HK1.out).trans hK2)
    clear hO2 hK2
    try dsimp only
    unfold spV spC
    go_wp2_with fail
    go_meet
    exact ⟨_, _, rfl, rfl, rfl, hid ((HO2.out.alloc (.cells (spC s2) 93)).re 4 [1, 0, 2]), hid (HK2.out.alloc _)⟩
  case rest =>
    obtain ⟨w3, g5, rfl, rfl, rfl, HO3, HK3⟩ := hcut
    clear HO1 HK1 hp0 hp5 HF
    have HOa := hid (show Has w3 (pt g4 (.cells (ansC (ansE 0) nilV nilV) 32) :: Trc q S :: L) from HO3.out.re 3 [2, 0])
    have hz0 : w3.cell? ⟨g4, 0, none⟩ = some (.int .i64 0) := (HOa.out).cells 0
    have hz1 : w3.cell? ⟨g4, 1, none⟩ = some (.int .i64 0) := (HOa.out).cells 1
    have hz2 : w3.cell? ⟨g4, 2, none⟩ = some (.int .i64 0) := (HOa.out).cells 2
    have hz3 : w3.cell? ⟨g4, 3, none⟩ = some (.int .i64 0) := (HOa.out).cells 3
    have hz4 : w3.cell? ⟨g4, 4, none⟩ = some (.slice none 0 0) := (HOa.out).cells 4
    have hz5 : w3.cell? ⟨g4, 5, none⟩ = some (.slice none 0 0) := (HOa.out).cells 5
    have hy0 := (HOa.out).thaw 0
    have hy1 := (HOa.out).thaw 1
    have hy2 := (HOa.out).thaw 2
    have hy3 := (HOa.out).thaw 3
    have hy4 := (HOa.out).thaw 4
    have hy5 := (HOa.out).thaw 5
    by_cases he : e2 = 0
    · subst he
      obtain ⟨x, hx⟩ := HTH.out rfl
      have hat : S.at_ s2.node = x := by unfold Tre.at_; rw [hx]; rfl
      have HXD := hid (HDL.out _ _ hx)
      have HRR := hid (show R = ⟨0, (x.data.length : Int) + x.names.length, x.kind, x.links, [], []⟩ from by rw [← HR.out, if_neg (fun h => h rfl), hat])
      clear hz0 hz1 hz2 hz3 hz4 hz5 hy0 hy1 hy2 hy3 hy4 hy5 HR
      obtain ⟨m, f, P, hPT, h⟩ := trc_iff.1 HO3.out.drew
      have HPT := hid hPT
      have hx' := hx
      rw [← hPT.1] at hx'
      obtain ⟨b, hb, hl⟩ := Trb.look h hx'
      have hq := (Trb.cells h).1
      have hs0 : w3.drew.cell? ⟨g5, 0, none⟩ = some (.int .i64 s2.node) := h.p1.cells 0
      obtain ⟨A, B, dv, wv, nm, hPe, hnm, hHP⟩ := Trb.take h hb
      have HPe := hid hPe
      have HNM := hid hnm
      have HP := hid hHP
      clear h hPT hHP hnm hPe hx'
      go_upto_region 4 with fail
      refine region_text (fun w' => w'.cell? ⟨q, 0, none⟩ = some (.map (some m)) ∧ w'.cell? ⟨g5, 0, none⟩ = some (.int .i64 s2.node) ∧ (Instr.lookup tNo (.map (some m)) (.int .i64 s2.node) false).run Tryz.prog w' = .ok (.pointer (some ⟨b, 0, none⟩)) w') (by kernel_rfl) (by kernel_rfl) ⟨hq, hs0, hl⟩ ?_
      repeat (first
        | (refine wpL_read (by rfl) (by rfl) ?_ ?_ ?_; rotate_left; (rintro w ⟨z0, z1, z2⟩; go_simp; with_reducible rfl); simp only [Act.put, List.setIfInBounds_toArray, List.set_cons_zero, List.set_cons_succ]) | (refine wpL_skip (by rfl) ?_; simp only [Act.put, List.setIfInBounds_toArray, List.set_cons_zero, List.set_cons_succ]))
      refine wpL_nil ?_
      have HK4 := hid HK3.out.drew
      clear hq hs0 hl HO3 HK3 HOa
      generalize w3.drew = w4 at *
      obtain ⟨pd, cd, rfl, -⟩ := (Dat.rd HP.out.p1).form
      have hxl9 : (x.data.length : Int) ≤ 100000 := by have := HXD.out.1; omega
      have hnl9 : (x.names.length : Int) ≤ 1000000 := by have := HXD.out.2; omega
      have hxl0 : (0 : Int) ≤ (x.data.length : Int) := by omega
      have hnl0 : (0 : Int) ≤ (x.names.length : Int) := by omega
      have hlen : ∀ w', Has w' (pt b (.cells (nodC x (.slice pd x.data.length cd) wv nm) 83) :: Dat x.kind (.slice pd x.data.length cd) x.data :: Bools wv x.wr :: Nms nm x.names :: Trg q m f P S.last S.tab (A ++ B) :: pt g5 (.cells (spC s2) 93) :: pt g4 (.cells (ansC (ansE 0) nilV nilV) 32) :: L) → (Builtin.len_ #[tNm] 3 #[.map nm]).run Tryz.prog w' = .ok (.int .i64 x.names.length) w' := by
        intro w' h
        cases nm with
        | none =>
          have h1 := (Has.fact_iff.1 h.drop.drop.drop).1
          rw [h1]
          simp [Builtin.len_, run_underlying undNm]
          rfl
        | some mm => exact Mk.len h.drop.drop.drop undNm _
      have HPd := hid HP.out.drew
      have HKd := hid HK4.out.drew
      have hlend := hlen _ HPd.out
      clear hlen HP HK4
      go_upto_region 5 with fail
      refine region_tail1 (fun w' => w'.cell? ⟨b, 0, none⟩ = some (.int .i64 x.kind) ∧ w'.cell? ⟨b, 1, none⟩ = some (.slice pd x.data.length cd) ∧ w'.cell? ⟨b, 3, none⟩ = some (.map nm) ∧ w'.cell? ⟨b, 5, none⟩ = some (.int .i64 x.links) ∧ (Builtin.len_ #[tNm] 3 #[.map nm]).run Tryz.prog w' = .ok (.int .i64 x.names.length) w') (by kernel_rfl) (by kernel_rfl) (by kernel_rfl) (by decide) ⟨HPd.out.cells 0, HPd.out.cells 1, HPd.out.cells 3, HPd.out.cells 5, hlend⟩ ?_
      generalize w4.drew = w5 at *
      repeat (first
        | (refine wpL_read (by rfl) (by rfl) ?_ ?_ ?_; rotate_left; (rintro w ⟨z0, z1, z2, z3, z4⟩; go_simp; with_reducible rfl); simp only [Act.put, List.setIfInBounds_toArray, List.set_cons_zero, List.set_cons_succ]) | (refine wpL_skip (by rfl) ?_; simp only [Act.put, List.setIfInBounds_toArray, List.set_cons_zero, List.set_cons_succ]))
      try rw [wrapk_in ((x.data.length : Int) + (x.names.length : Int)) (by omega)]
      refine wpL_nil ?_
      have HOb := hid (show Has w5 (pt g4 (.cells (ansC (ansE 0) nilV nilV) 32) :: Trb q m f P S.last S.tab :: L) from by
        have h1 := (Trb.shut HPe.out HNM.out (HPd.out.re 7 [0, 1, 2, 3, 4, 6]) : Has w5 (Trb q m f (A ++ (s2.node, b, x) :: B) S.last S.tab :: pt g4 (.cells (ansC (ansE 0) nilV nilV) 32) :: L))
        rw [← HPe.out] at h1
        exact h1.re 2 [1, 0])
      have hz0 : w5.cell? ⟨g4, 0, none⟩ = some (.int .i64 0) := (HOb.out).cells 0
      have hz1 : w5.cell? ⟨g4, 1, none⟩ = some (.int .i64 0) := (HOb.out).cells 1
      have hz2 : w5.cell? ⟨g4, 2, none⟩ = some (.int .i64 0) := (HOb.out).cells 2
      have hz3 : w5.cell? ⟨g4, 3, none⟩ = some (.int .i64 0) := (HOb.out).cells 3
      have hz4 : w5.cell? ⟨g4, 4, none⟩ = some (.slice none 0 0) := (HOb.out).cells 4
      have hz5 : w5.cell? ⟨g4, 5, none⟩ = some (.slice none 0 0) := (HOb.out).cells 5
      have hy0 := (HOb.out).thaw 0
      have hy1 := (HOb.out).thaw 1
      have hy2 := (HOb.out).thaw 2
      have hy3 := (HOb.out).thaw 3
      have hy4 := (HOb.out).thaw 4
      have hy5 := (HOb.out).thaw 5
      refine wpOp_last rfl (by rfl) ?_
      go_simp
      go_wp2_with fail
      have h1 := HOb.out.ans ⟨0, (x.data.length : Int) + x.names.length, x.kind, x.links, [], []⟩ nilV nilV
      refine bodyPost_ret (ans_result rfl rfl h1) rfl ?_
      rw [HRR.out]
      exact ⟨rfl, trc_iff.2 ⟨m, f, P, HPT.out, h1.drop⟩, HKd.out.ans _ _ _ _ _ _ _⟩
    · have HRR := hid (show R = ansE e2 from by rw [← HR.out, if_pos he])
      go_wp2_with fail
      refine (tCode e2 w3 _ HOa.out).mono ?_
      rintro e w5 ⟨rfl, hO5, hK5⟩
      have HO5 := hid hO5
      have HK5 := hid ((HK3.out).trans hK5)
      clear hO5 hK5
      unfold ansV ansC ansE
      clear hz0 hz1 hz2 hz3 hz4 hz5 hy0 hy1 hy2 hy3 hy4 hy5
      have hz0 : w5.cell? ⟨g4, 0, none⟩ = some (.int .i64 0) := (HO5.out).cells 0
      have hz1 : w5.cell? ⟨g4, 1, none⟩ = some (.int .i64 0) := (HO5.out).cells 1
      have hz2 : w5.cell? ⟨g4, 2, none⟩ = some (.int .i64 0) := (HO5.out).cells 2
      have hz3 : w5.cell? ⟨g4, 3, none⟩ = some (.int .i64 0) := (HO5.out).cells 3
      have hz4 : w5.cell? ⟨g4, 4, none⟩ = some (.slice none 0 0) := (HO5.out).cells 4
      have hz5 : w5.cell? ⟨g4, 5, none⟩ = some (.slice none 0 0) := (HO5.out).cells 5
      have hy0 := (HO5.out).thaw 0
      have hy1 := (HO5.out).thaw 1
      have hy2 := (HO5.out).thaw 2
      have hy3 := (HO5.out).thaw 3
      have hy4 := (HO5.out).thaw 4
      have hy5 := (HO5.out).thaw 5
      go_wp2_with fail
      have h1 := ((show Has w5 (pt g4 (.cells (ansC (ansE 0) nilV nilV) 32) :: Trc q S :: L) from HO5.out)).ans (ansE e2) nilV nilV
      refine bodyPost_ret (ans_result rfl rfl h1) rfl ?_
      rw [HRR.out]
      exact ⟨rfl, h1.drop, HK5.out.ans _ _ _ _ _ _ _⟩
end Go.Proofs.YtonhcefgakmpfaaGreatDoor
/- Plain facts of what a name taken away leaves. No program in sight. -/
namespace Go.Proofs.YtonhcefgakmpfaaGreatDoor
open Go.RowKit Go.Own
theorem fnd_delA {κ α : Type} [DecidableEq κ] {t : List (κ × α)} {x y : κ} (h : y ≠ x) : fnd (delA t x) y = fnd t y := by
  unfold fnd delA
  induction t with
  | nil => rfl
  | cons p t ih =>
    rw [List.filter_cons]
    by_cases hp : p.1 = x
    · rw [if_neg (by simp [hp]), List.find?_cons]
      have : decide (p.1 = y) = false := by simp; rw [hp]; exact fun e => h e.symm
      rw [this]
      exact ih
    · rw [if_pos (by simp [hp]), List.find?_cons, List.find?_cons]
      cases decide (p.1 = y) with
      | true => rfl
      | false => exact ih
theorem forget_fnd (S : Tre) (n c : Int) (h : c ≠ n) : fnd (S.forget n).nodes c = fnd S.nodes c := by
  unfold Tre.forget
  cases fnd S.nodes n with
  | none => rfl
  | some x =>
    show fnd (if _ then _ else _ : Tre).nodes c = _
    split
    · exact fnd_delA h
    · rfl
theorem setN_fnd (S : Tre) (n c : Int) (y : Nod) : fnd (S.setN n y).nodes c = if c = n then some y else fnd S.nodes c := fnd_putA
theorem take_fnd {S : Tre} {dir n : Int} {name : Str} {d : Nod} (hd : fnd S.nodes dir = some d) (hc : fnd d.names name = some n) (c : Int) (hcn : c ≠ n) : fnd (S.take dir name).nodes c = if c = dir then some (Tre.dirTake d name) else fnd S.nodes c := by
  have hat : S.at_ dir = d := by unfold Tre.at_; rw [hd]; rfl
  have hk : S.kid dir name = n := by unfold Tre.kid; rw [hat, hc]; rfl
  unfold Tre.take
  rw [hk, forget_fnd _ _ _ hcn, setN_fnd, if_neg hcn, setN_fnd, hat]
theorem within_refl (S : Tre) (n : Int) : S.within n n = true := by
  show (if n ≠ n ∧ _ then _ else n == n) = true
  rw [if_neg (by simp)]
  simp
theorem delA_le {κ α : Type} [DecidableEq κ] (t : List (κ × α)) (x : κ) : (delA t x).length ≤ t.length := List.length_filter_le _ _
theorem Trb.facts {w : World} {L : List HP} {q m f : Nat} {P : List Pn} {last : Int} {T : List Tb.Slot} {n : Int} {b : Nat} {x : Nod} (h : Has w (Trb q m f P last T :: L)) (hb : (n, b, x) ∈ P) :
    ∃ nm : Option Nat, w.cell? ⟨b, 0, none⟩ = some (.int .i64 x.kind) ∧ w.cell? ⟨b, 3, none⟩ = some (.map nm) ∧ (Builtin.len_ #[tNm] 3 #[.map nm]).run Tryz.prog w = .ok (.int .i64 x.names.length) w ∧ w.cell? ⟨b, 5, none⟩ = some (.int .i64 x.links) := by
  obtain ⟨A, B, dv, wv, nm, -, -, hP⟩ := Trb.take h hb
  refine ⟨nm, hP.cells 0, hP.cells 3, ?_, hP.cells 5⟩
  cases nm with
  | none =>
    have h1 := (Has.fact_iff.1 hP.drop.drop.drop).1
    rw [h1]
    simp [Builtin.len_, run_underlying undNm]
    rfl
  | some mm => exact Mk.len hP.drop.drop.drop undNm _
end Go.Proofs.YtonhcefgakmpfaaGreatDoor
/- inode.Need, slices.Clone of bools, append of zeros in a region that draws. -/
namespace Go.Own
open Go.RowKit
theorem wp_appendZ {P : Program} {w : World} {l : List HP} {e : TypeId} {n : Nat} {xs : List Value} {v : Value} {o : Oper} {a : Act} {Q : Exit → Act → World → Prop} {R : Act → World → Prop} (s x : Operand) (t it : TypeId)
    (ho : o.op = .call { callee := .builtin .append, args := #[s, x], argTypes := #[t, it] })
    {z : Value} {bytes : Nat} (ht : P.underlying t = some (.slice e)) (hit : P.underlying it = some (.int .i64)) (hi : (P.info? e).map (fun i => (i.zero, i.size, i.bytes)) = some (some z, 1, bytes)) (hz : z.cells = #[z]) (h1 : z.oneCell' = true)
    (hO : Has w (row v e 1 n xs :: l)) (hs : a.eval s = v) (m : Nat) (hx : a.eval x = .int .i64 (m : Int)) (h63 : n + m ≤ maxLen) (hbytes : (n + m) * bytes ≤ 140737488355328)
    (h : ∀ v' w', Has w' (row v' e 1 (n + m) (xs ++ List.replicate m z) :: l) → Keep w w' → R (a.put o.dst v') w') : o.wp P a w R Q := by
  obtain ⟨v', w', hrun, h2, h3⟩ := hO.appendZ (P := P) t it o.type ht hit hi hz h1 h63 hbytes
  unfold Oper.wp execOp
  simp only [ho, resolve, invoke, builtin, Sem.run_bind, Sem.run_pure, Result.andThen_ok, List.map_toArray, List.map_cons, List.map_nil, hs, hx, hrun]
  exact h v' w' h2 h3
end Go.Own
namespace Go.Proofs.YtonhcefgakmpfaaGreatDoor
open Go.RowKit Go.Own
theorem bl_one (xs : List Bool) : ∀ u ∈ xs.map Value.bool, u.oneCell' = true := by
  intro u hu
  obtain ⟨x, -, rfl⟩ := List.mem_map.1 hu
  rfl
set_option maxRecDepth 100000 in
theorem cloneBools0 (v : Value) (xs : List Bool) (w : World) (L : List HP) (hO : Has w L) (hr : Rd w v 1 xs.length (xs.map Value.bool)) (hsm : xs.length ≤ 1000000000) :
    Calls Tryz.prog 68 #[v] w fun e w' => ∃ v', e = .returned v' ∧ Has w' (Bools v' xs :: L) ∧ Keep w w' ∧ nilS v' = nilS v := by
  obtain ⟨p, cap, rfl, hca, hla, hra⟩ := hr.form
  have Hra := hid hra
  have Hr := hid hr
  have HO := hid hO
  clear hO hra hr
  rcases p with _ | ad
  · have hz : xs = [] := by
      rcases Nat.eq_zero_or_pos xs.length with h | h
      · exact List.eq_nil_of_length_eq_zero h
      · obtain ⟨g, o, h1, -⟩ := Hra.out (by omega)
        cases h1
    subst hz
    have hnil := Lib.run_eql_slice_nil w 81 4 none 0 cap 0 0 Tryz.underlying81
    simp only [Option.isNone] at hnil
    go_enter Tryz.func68, Tryz.ntmps68
    go_wp2
    go_ret
    exact ⟨_, rfl, HO.out.row_nil _ _, Keep.refl _, rfl⟩
  · have hnil := Lib.run_eql_slice_nil w 81 4 (some ad) xs.length cap 0 0 Tryz.underlying81
    simp only [Option.isNone] at hnil
    go_enter Tryz.func68, Tryz.ntmps68
    go_wp2_with (at_builtin; refine wpList_append_rd rfl _ _ _ rfl Tryz.underlying81 infoBool rfl ((HO.out.alloc (.cells #[] 4)).row_of (n := 0) (cap := 0) (Nat.le_refl _) (Nat.zero_le _) rfl rfl rfl) rfl ad xs.length cap (xs.map Value.bool) rfl (Hr.out.alloc _) (bl_one xs) (le_maxLen (by omega)) (by omega) ?_)
    intro v' w' hO' hK' hN
    have HO' := hid hO'
    have HK' := hid hK'
    have HN := hid hN
    clear hO' hK' hN
    go_wp2_with fail
    go_ret
    refine ⟨_, rfl, ?_, ((Keep.refl _).alloc _).trans HK'.out, ?_⟩
    · have := HO'.out
      simpa [Bools] using this
    · exact HO'.out.row_nilS HN.out
theorem cloneBools (v : Value) (xs : List Bool) (w : World) (L : List HP) (hO : Has w L) (hr : Rd w v 1 xs.length (xs.map Value.bool)) (hsm : xs.length ≤ 1000000000) :
    Calls Tryz.prog 68 #[v] w fun e w' => ∃ v', e = .returned v' ∧ Has w' (Bools v' xs :: L) ∧ Keep w w' :=
  (cloneBools0 v xs w L hO hr hsm).mono fun _ _ ⟨v', h1, h2, h3, _⟩ => ⟨v', h1, h2, h3⟩
theorem nNeed (n : Nat) (w : World) (hn : n ≤ 1000000) : Calls Tryz.prog 108 #[.int .i64 (n : Int)] w fun e w' => e = .returned (.int .i64 (needM n : Int)) ∧ w = w' := by
  have h0 : (0 : Int) ≤ (n : Int) := by omega
  have h9 : (n : Int) ≤ 1000000 := by omega
  by_cases h1 : (n : Int) < 1
  · have HR := hid (show needM n = 0 from by unfold needM; rw [if_neg (by omega)]; omega)
    go_enter Tryz.func108, Tryz.ntmps108
    go_wp2_with fail
    go_ret
    rw [HR.out]
    exact ⟨rfl, rfl⟩
  · by_cases h2 : (n : Int) ≥ 20736
    · have HR := hid (show needM n = 162 from by unfold needM; rw [if_pos (by omega)])
      go_enter Tryz.func108, Tryz.ntmps108
      go_wp2_with fail
      go_ret
      rw [HR.out]
      exact ⟨rfl, rfl⟩
    · have HR := hid (show (needM n : Int) = ((n : Int) + 128 - 1) / 128 from by unfold needM; rw [if_neg (by omega)]; omega)
      go_enter Tryz.func108, Tryz.ntmps108
      go_wp2_with fail
      go_ret
      rw [HR.out]
      exact ⟨rfl, rfl⟩
end Go.Proofs.YtonhcefgakmpfaaGreatDoor
