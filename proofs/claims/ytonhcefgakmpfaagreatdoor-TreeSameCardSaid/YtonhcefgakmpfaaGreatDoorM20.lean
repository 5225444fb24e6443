/- TEXTS of mine, merged. -/
import Derived.Test.YtonhcefgakmpfaaGreatDoorM19
import Derived.Test.YtonhcefgakmpfaaGreatDoorM9
import Derived.Test.YtonhcefgakmpfaaGreatDoorM10
import Derived.Test.YtonhcefgakmpfaaGreatDoorM8
import Derived.Test.YtonhcefgakmpfaaGreatDoorM2
/- THE WALK of tree.deep. -/
namespace Go.Proofs.YtonhcefgakmpfaaGreatDoor
open Go.RowKit Go.Own
set_option maxRecDepth 100000 in
set_option maxHeartbeats 4000000 in
theorem cloneStrs0 (v : Value) (xs : List Str) (w : World) (L : List HP) (hO : Has w L) (hr : Rd w v 1 xs.length (xs.map sV)) (hsm : xs.length ≤ 1000000000) :
    Calls Tryz.prog 191 #[v] w fun e w' => ∃ v', e = .returned v' ∧ Has w' (Strs v' xs :: L) ∧ Keep w w' ∧ nilS v' = nilS v := by
  obtain ⟨p, cap, rfl, hca, hla, hra⟩ := hr.form
  have Hra := hid hra
  have Hr := hid hr
  have HO := hid hO
  clear hO hra hr
  rcases p with _ | ad
  · have hz : xs = [] := by
      rcases Nat.eq_zero_or_pos xs.length with h | h
      · exact List.eq_nil_of_length_eq_zero h
      · obtain ⟨g, o, h1, -⟩ := Hra.out (by omega)
        cases h1
    subst hz
    have hnil := Lib.run_eql_slice_nil w 30 tStr none 0 cap 0 0 Tryz.underlying30
    simp only [Option.isNone] at hnil
    go_enter Tryz.func191, Tryz.ntmps191
    go_wp2
    go_ret
    exact ⟨_, rfl, HO.out.row_nil _ _, Keep.refl _, rfl⟩
  · have hnil := Lib.run_eql_slice_nil w 30 tStr (some ad) xs.length cap 0 0 Tryz.underlying30
    simp only [Option.isNone] at hnil
    go_enter Tryz.func191, Tryz.ntmps191
    go_wp2_with (at_builtin; refine wpList_append_rd rfl _ _ _ rfl Tryz.underlying30 infoStr rfl ((HO.out.alloc (.cells #[] 9)).row_of (n := 0) (cap := 0) (Nat.le_refl _) (Nat.zero_le _) rfl rfl rfl) rfl ad xs.length cap (xs.map sV) rfl (Hr.out.alloc _) (sv_one xs) (le_maxLen (by omega)) (by omega) ?_)
    intro v' w' hO' hK' hN
    have HO' := hid hO'
    have HK' := hid hK'
    have HN := hid hN
    clear hO' hK' hN
    go_wp2_with fail
    go_ret
    refine ⟨_, rfl, ?_, ((Keep.refl _).alloc _).trans HK'.out, ?_⟩
    · have := HO'.out
      simpa [Strs] using this
    · exact HO'.out.row_nilS HN.out
theorem cloneStrs (v : Value) (xs : List Str) (w : World) (L : List HP) (hO : Has w L) (hr : Rd w v 1 xs.length (xs.map sV)) (hsm : xs.length ≤ 1000000000) :
    Calls Tryz.prog 191 #[v] w fun e w' => ∃ v', e = .returned v' ∧ Has w' (Strs v' xs :: L) ∧ Keep w w' :=
  (cloneStrs0 v xs w L hO hr hsm).mono fun _ _ ⟨v', h1, h2, h3, _⟩ => ⟨v', h1, h2, h3⟩

theorem strsSnoc {w : World} {L : List HP} {v : Value} {n : Nat} {xs : List Str} {k : Str} (h : Has w (row v tStr 1 n (xs.map sV ++ [sV k]) :: L)) (hn : n = (xs ++ [k]).length) : Has w (Strs v (xs ++ [k]) :: L) := by
  subst hn
  unfold Strs
  rw [List.map_append]
  exact h
theorem any_step {α : Type} {t : List (Str × α)} {rem : List Str} {k : Str} {g : Str × α → Bool} {a : α} (hnd : (t.map Prod.fst).Nodup) (hp : (k, a) ∈ t) (hg : g (k, a) = false) (h : ∀ e ∈ t, e.1 ∉ rem → g e = false) : ∀ e ∈ t, e.1 ∉ rem.filter (fun y => !decide (y = k)) → g e = false := by
  intro e he hn
  by_cases hk : e.1 = k
  · have : e = (k, a) := by
      obtain ⟨e1, e2⟩ := e
      dsimp only at hk
      subst hk
      have h1 := fnd_mem hnd he
      have h2 := fnd_mem hnd hp
      rw [h1] at h2
      cases h2
      rfl
    rw [this]; exact hg
  · refine h e he (fun hr => hn ?_)
    rw [List.mem_filter]
    exact ⟨hr, by simpa using hk⟩
set_option maxRecDepth 100000 in
set_option maxHeartbeats 8000000 in
theorem tDeep (q m f : Nat) (P : List Pn) (last : Int) (T : List Tb.Slot) (rk : Int → Nat) (hnd : (P.map Prod.fst).Nodup) (hlow : ∀ y ∈ P, rk y.1 ≤ 21) (hrk : ∀ y ∈ P, ∀ e ∈ y.2.2.names, rk y.1 < rk e.2 ∧ e.1.length ≤ 24 ∧ ∃ z ∈ P, z.1 = e.2) : ∀ (d : Nat) (n : Int) (b : Nat) (x : Nod) (parts : List Str) (PC : List Pn) (v : Value) (w : World) (L : List HP), 22 ≤ rk n + d → rk n ≤ 21 → (n, b, x) ∈ P → parts.length ≤ 30 → (∀ p ∈ parts, p.length ≤ 24) → (∀ y ∈ P, rk n ≤ rk y.1 → y ∈ PC) →
    Has w (Strs v parts :: Trg q m f P last T PC :: L) →
    Calls Tryz.prog 131 #[.pointer (some ⟨q, 0, none⟩), .int .i64 n, v] w fun e w' => e = .returned (.bool (Tre.deepF ⟨pnN P, last, T⟩ d n parts)) ∧ Has w' (Strs v parts :: Trg q m f P last T PC :: L) ∧ Keep w w' := by
  intro d
  induction d with
  | zero => intro n b x parts PC v w L h1 h2; omega
  | succ d ih =>
  intro n b x parts PC v w L hr1 hr2 hin hpl hp24 hall hO
  obtain ⟨A, B, hPC⟩ := List.append_of_mem (hall _ hin (Nat.le_refl _))
  have hat : (⟨pnN P, last, T⟩ : Tre).at_ n = x := by
    unfold Tre.at_
    rw [fnd_mem (by rw [pnN_keys]; exact hnd) (show (n, x) ∈ pnN P from List.mem_map.2 ⟨_, hin, rfl⟩)]
    rfl
  obtain ⟨R, hR⟩ : ∃ R, Tre.deepF ⟨pnN P, last, T⟩ (d + 1) n parts = R := ⟨_, rfl⟩
  have hR2 : (Tre.longM parts || x.names.any fun e => Tre.deepF ⟨pnN P, last, T⟩ d e.2 (parts ++ [e.1])) = R := by
    rw [← hR, Tre.deepF, hat]
  rw [hR]
  have HR := hid hR2
  have HIH := hid ih
  have HALL := hid hall
  have HPCe := hid hPC
  have H24 := hid hp24
  clear ih hall hat hR hR2 hp24
  have hj9 : (joinS parts).length ≤ 1000000 := by have := joinS_len parts H24.out; omega
  obtain ⟨pv, cv, rfl, -⟩ := (Strs.rd hO).form
  have HL0 := hid (tLong (.slice pv parts.length cv) parts w _ (Strs.rd hO) (by omega) hj9 hO)
  cases hlg : Tre.longM parts
  · have hlgw : ∀ R', (false || R') = R' := fun R' => rfl
    have HRA := hid (show (x.names.any fun e => Tre.deepF ⟨pnN P, last, T⟩ d e.2 (parts ++ [e.1])) = R from by have h := HR.out; rw [hlg] at h; exact h)
    rw [hlg] at HL0
    have HLN := hid (show parts.length ≤ 20 from by
      unfold Tre.longM at hlg
      rw [Bool.or_eq_false_iff] at hlg
      have := hlg.1
      simp only [decide_eq_false_iff_not] at this
      omega)
    clear HR hlg hlgw
    go_enter Tryz.func131, Tryz.ntmps131
    go_wp2_with fail
    refine (HL0.out).mono ?_
    rintro e w1 ⟨rfl, hO1, hK1⟩
    have HO1 := hid hO1
    have HK1 := hid ((Keep.refl w).trans hK1)
    clear hO1 hK1
    try dsimp only
    clear HL0 hO
    have hlk := Trg.look HO1.out.drop hin
    have hq0 := (Trg.cells HO1.out.drop).1
    have h1 : Has w1 (Trg q m f P last T (A ++ (n, b, x) :: B) :: Strs (.slice pv parts.length cv) parts :: L) := by rw [← hPC]; exact HO1.out.re 2 [1, 0]
    obtain ⟨dv, wv, nm, hnm, h2⟩ := ndc_iff.1 (Trg.pull h1)
    have HNM := hid hnm
    have HO := hid h2
    have hc3 : w1.cell? ⟨b, 3, none⟩ = some (.map nm) := h2.cells 3
    clear h1 h2 hnm
    have hback : ∀ w', Has w' (pt b (.cells (nodC x dv wv nm) 83) :: Dat x.kind dv x.data :: Bools wv x.wr :: Nms nm x.names :: Trg q m f P last T (A ++ B) :: Strs (.slice pv parts.length cv) parts :: L) → Has w' (Strs (.slice pv parts.length cv) parts :: Trg q m f P last T PC :: L) := by
      intro w' h
      have h10 := Trg.push n (ndc_iff.2 ⟨_, _, _, HNM.out, h⟩ : Has _ (Ndc b x :: _))
      have h11 := Trg.perm h10 (PC' := PC) (by rw [HPCe.out]; exact List.perm_middle.symm)
      exact h11.re 2 [1, 0]
    have HBK := hid hback
    have HK1b := HK1
    clear hback HO1
    cases nm with
    | none =>
      have hrn := range_nil
      have hnx := next_nil w1.heap.size (w1.alloc (.mapIter none 0 #[] 0)) 0 (by show (Array.push _ _)[_]? = _; simp)
      have hnn : x.names = [] := (Has.fact_iff.1 (show Has w1 (fact (x.names = []) :: _) from HO.out.re 4 [3])).1
      go_wp2_with fail
      go_loopw [] (fun w' => w' = w1.alloc (.mapIter none 0 #[] 0)) (fun _ => 0)
      case atStart => rfl
      case round =>
        subst hrel
        go_wp2_with fail
        go_ret
        have hRf : R = false := by rw [← HRA.out, hnn]; rfl
        exact ⟨by rw [hRf]; rfl, HBK.out _ (HO.out.alloc' _), HK1.out.alloc _⟩
    | some mm =>
      have HO9 := hid (show Has w1 (Mk kStr vInt mm x.names :: _) from HO.out.re 6 [3, 0, 1, 2, 4, 5])
      have HNDN := hid (Mk.nodup HO9.out)
      clear HO
      go_wp2_with (at_range; refine wpList_mkStart HO9.out tNm undNm rfl _ rfl rfl ?_; intro w8 hO8 hK8 hs8)
      try go_frame
      have HO8 := hid hO8
      have HK8 := hid (HK1.out.trans hK8)
      clear hO8 hK8 hs8 HO9 HK1 HK1b hc3 hlk hq0
      generalize w1.heap.size = r at *
      go_loopw [] (fun w' => ∃ (rem : List Str) (cnt : Nat), Hid (∀ e ∈ x.names, e.1 ∉ rem → Tre.deepF ⟨pnN P, last, T⟩ d e.2 (parts ++ [e.1]) = false) ∧ Hid (Has w' (Mr kStr vInt mm r x.names rem cnt :: pt b (.cells (nodC x dv wv (some mm)) 83) :: Dat x.kind dv x.data :: Bools wv x.wr :: Trg q m f P last T (A ++ B) :: Strs (.slice pv parts.length cv) parts :: L)) ∧ Hid (Keep w w')) (fun w' => w'.rangeLeft mm r)
      case atStart => exact ⟨x.names.map Prod.fst, x.names.length, hid fun e he hn => absurd (List.mem_map_of_mem he) hn, HO8, HK8⟩
      case round =>
        clear HO8 HK8
        obtain ⟨rem, cnt, HF, HO, HK⟩ := hrel
        have hleft := Mr.left HO.out
        have HLF := hid hleft
        go_wp2_with (at_next; refine wpList_mkNext HO.out rfl _ rfl rfl ?_ ?_)
        · intro hrem
          subst hrem
          have HO5 := hid (HBK.out _ ((Mr.end HO.out).re 6 [1, 2, 3, 0, 4, 5]))
          clear HO hleft
          go_wp2_with fail
          go_ret
          have hRf : R = false := by
            rw [← HRA.out, List.any_eq_false]
            intro e he
            rw [HF.out e he (by simp)]
            simp
          exact ⟨by rw [hRf]; rfl, HO5.out, HK.out⟩
        · rintro k c w9 cnt' hp9 hr9 hky hO9 hlt9 hK9 hsz hen
          simp only [kStr_val, vInt_val] at hen ⊢
          have hen2 := hen
          obtain ⟨hk1, hk2, ⟨c', b', x'⟩, hz, hzc⟩ := hrk _ hin (k, c) hp9
          dsimp only at hk1 hk2 hzc
          subst hzc
          have hall2 : ∀ y ∈ P, rk c' ≤ rk y.1 → y ∈ A ++ B := by
            intro y hy hyr
            have h1 := HALL.out y hy (by omega)
            rw [HPCe.out] at h1
            rcases List.mem_append.1 h1 with h | h
            · exact List.mem_append_left _ h
            · rcases List.mem_cons.1 h with h | h
              · rw [h] at hyr; dsimp only at hyr; omega
              · exact List.mem_append_right _ h
          have HX := hid (fun (v : Value) (w : World) (L : List HP) (h : Has w (Strs v (parts ++ [k]) :: Trg q m f P last T (A ++ B) :: L)) => HIH.out c' b' x' (parts ++ [k]) (A ++ B) v w L (by omega) (hlow _ hz) hz (by have h9 := HLN.out; rw [List.length_append, List.length_singleton]; omega) (by
            intro p hp
            rcases List.mem_append.1 hp with h | h
            · exact H24.out p h
            · rw [List.mem_singleton.1 h]; exact hk2) hall2 h)
          have HST := hid (fun (hg : Tre.deepF ⟨pnN P, last, T⟩ d c' (parts ++ [k]) = false) => any_step (g := fun e => Tre.deepF ⟨pnN P, last, T⟩ d e.2 (parts ++ [e.1])) HNDN.out hp9 hg HF.out)
          have HYES := hid (fun (hg : Tre.deepF ⟨pnN P, last, T⟩ d c' (parts ++ [k]) = true) => (show R = true from by rw [← HRA.out, List.any_eq_true]; exact ⟨_, hp9, hg⟩))
          have HL9 := hid hlt9
          have HKN := hid hk2
          have HK9 := hid (HK.out.trans hK9)
          have HO9 := hid hO9
          clear hp9 hr9 hky hlt9 hK9 hsz hleft HO HK hall2 hO9 hk2
          go_wp2_with fail
          refine (cloneStrs (.slice pv parts.length cv) parts w9 _ HO9.out (Strs.rd (HO9.out.re 6 [5])) (by omega)).mono ?_
          rintro e w10 ⟨v10, rfl, hO10, hK10⟩
          have HO10 := hid hO10
          have HK10 := hid ((HK9.out).trans hK10)
          clear hO10 hK10
          try dsimp only
          clear HO9 HK9
          go_wp2_with (at_builtin; refine wpList_append1 rfl _ _ _ rfl Tryz.underlying30 infoStr rfl (sV k) (HO10.out.alloc' _) rfl 1 _ rfl (by simp) rfl (le_maxLen (by omega)) (by omega) ?_)
          intro v11 w11 hO11 hK11
          have HO11 := hid (show Has w11 (Strs v11 (parts ++ [k]) :: Trg q m f P last T (A ++ B) :: Mr kStr vInt mm r x.names (rem.filter fun y => !decide (y = k)) cnt' :: pt b (.cells (nodC x dv wv (some mm)) 83) :: Dat x.kind dv x.data :: Bools wv x.wr :: Strs (.slice pv parts.length cv) parts :: L) from by
            exact strsSnoc (hO11.re 7 [0, 5, 1, 2, 3, 4, 6]) (by simp))
          have HK11 := hid ((HK10.out.alloc _).trans hK11)
          clear hO11 hK11 HO10 HK10
          go_wp2_with fail
          refine (HX.out v11 w11 _ HO11.out).mono ?_
          rintro e w12 ⟨rfl, hO12, hK12⟩
          have HO12 := hid hO12
          have HK12 := hid ((HK11.out).trans hK12)
          clear hO12 hK12
          try dsimp only
          clear HO11 HK11
          have HO13 := hid (show Has w12 (Mr kStr vInt mm r x.names (rem.filter fun y => !decide (y = k)) cnt' :: pt b (.cells (nodC x dv wv (some mm)) 83) :: Dat x.kind dv x.data :: Bools wv x.wr :: Trg q m f P last T (A ++ B) :: Strs (.slice pv parts.length cv) parts :: L) from HO12.out.re 7 [2, 3, 4, 5, 1, 6])
          clear HO12
          cases hg : Tre.deepF ⟨pnN P, last, T⟩ d c' (parts ++ [k])
          · have HG := hid hg
            clear hg
            have hlf2 := Mr.left HO13.out
            go_wp2_with fail
            exact ⟨⟨rem.filter fun y => !decide (y = k), cnt', hid (HST.out HG.out), HO13, HK12⟩, by rw [hlf2, HLF.out]; exact HL9.out⟩
          · have HG := hid hg
            clear hg
            go_wp2_with fail
            go_ret
            exact ⟨by rw [HYES.out HG.out]; rfl, HBK.out _ ((Mr.end HO13.out).re 6 [1, 2, 3, 0, 4, 5]), HK12.out⟩
  · have HRR := hid (show R = true from by rw [← HR.out, hlg]; rfl)
    rw [hlg] at HL0
    go_enter Tryz.func131, Tryz.ntmps131
    go_wp2_with fail
    refine (HL0.out).mono ?_
    rintro e w1 ⟨rfl, hO1, hK1⟩
    have HO1 := hid hO1
    have HK1 := hid ((Keep.refl w).trans hK1)
    clear hO1 hK1
    try dsimp only
    go_wp2_with fail
    go_ret
    exact ⟨by rw [HRR.out]; rfl, HO1.out, HK1.out⟩
end Go.Proofs.YtonhcefgakmpfaaGreatDoor
/- `delete(m, x)` as one operation of a region that draws. No program in sight. -/
namespace Go.Own
open Go.RowKit Go.Maps
section
variable {P : Program} {k e : TypeId} {κ α : Type} [DecidableEq κ] {K : Ky P k κ} {V : El P e α} {w : World} {L : List HP} {b : Nat} {t : List (κ × α)} {o : Oper} {a : Act} {Q : Exit → Act → World → Prop} {R : Act → World → Prop}
theorem wp_mkDel (h : Has w (Mk K V b t :: L)) (T : TypeId) (ht : P.underlying T = some (.map k e)) (m kx : Operand) (hop : o.op = Op.call { callee := Callee.builtin Builtin.delete, args := #[m, kx], argTypes := #[T, k] }) (hm : a.eval m = .map (some b)) (x : κ) (hx : K.ok x) (hk : a.eval kx = K.val x)
    (hK : ∀ w', Has w' (Mk K V b (delA t x) :: L) → Keep w w' → R (a.put o.dst (.tuple #[])) w') : o.wp P a w R Q := by
  obtain ⟨D, h1, h2⟩ := Mk.iff.1 h
  obtain ⟨w', hrun, r1, r2⟩ := h2.owns.drop K.law ht (K.spell hx) o.type
  unfold Oper.wp
  simp [execOp, hop, resolve, invoke, builtin, hm, hk, hrun, Result.andThen]
  have h3 := h2.mapTurn (grown_but r2.grown fun r e => by cases e; rfl) r1
  exact hK w' (Mk.iff.2 ⟨_, h1.del x, h3⟩) (Mk.keep r2)
end
end Go.Own
/- A REGION THAT DRAWS ITS ORDER, TWO OF WHOSE ACTING OPERATIONS MAY COME IN EITHER ORDER: walked twice. No program in sight. -/
namespace Go.Own
open Go.RowKit
section
variable {P : Program} {ops : Array Oper} {S : World → Prop} {rd : Nat → Bool} {qc : Qc}
/-- Every pair but one may change places, where one is a reader. -/
def PairOK (ops : Array Oper) (rd : Nat → Bool) (p q : Nat) : Prop := ∀ {i k : Nat} {oi ok : Oper}, ops[i]? = some oi → ops[k]? = some ok → k < i → ¬ Anc ops i k → ¬ (k = p ∧ i = q) → ok.apart ops oi = true ∧ (rd k = true ∨ rd i = true)
def textOK2 (ops : Array Oper) (rd : Nat → Bool) (p q : Nat) : Bool :=
  let A := ahead ops
  Region.noSelect ops &&
  ((List.range ops.size).all fun i => match ops[i]? with
    | none => true
    | some oi => (oi.after.all fun e => !Region.binds .any e || decide (e.on < i)) &&
      (List.range i).all fun k => (A.getD i []).contains k || (decide (k = p) && decide (i = q)) || match ops[k]? with
        | none => true
        | some ok => ok.apart ops oi && (rd k || rd i)) &&
  ((List.range ops.size).all fun j => !(decide (p < j) && decide (j < q)) || match ops[p]?, ops[j]? with
    | some op, some oj => oj.apart ops op && rd j && !rd p
    | _, _ => false)
theorem textOK2_pair {p q : Nat} (h : textOK2 ops rd p q = true) : PairOK ops rd p q := by
  intro i k oi ok hi hk hki hn hne
  unfold textOK2 at h
  simp only [Bool.and_eq_true, List.all_eq_true, List.mem_range] at h
  have hlt : i < ops.size := (Array.getElem?_eq_some_iff.1 hi).1
  have h1 := h.1.2 i hlt
  simp only [hi, Bool.and_eq_true, List.all_eq_true, List.mem_range] at h1
  have h2 := h1.2 k hki
  simp only [hk, Bool.or_eq_true, Bool.and_eq_true, decide_eq_true_eq] at h2
  rcases h2 with (h2 | h2) | h2
  · exact absurd (ahead_spec ops i k (by simpa using h2)) hn
  · exact absurd h2 hne
  · exact h2
theorem textOK2_edges {p q : Nat} (h : textOK2 ops rd p q = true) {i : Nat} {oi : Oper} (hi : ops[i]? = some oi) : ∀ e ∈ oi.after, Region.binds .any e = true → e.on < i := by
  unfold textOK2 at h
  simp only [Bool.and_eq_true, List.all_eq_true, List.mem_range] at h
  have hlt : i < ops.size := (Array.getElem?_eq_some_iff.1 hi).1
  have h1 := h.1.2 i hlt
  simp only [hi, Bool.and_eq_true] at h1
  intro e he hb
  have := Array.all_eq_true_iff_forall_mem.1 h1.1 e he
  simpa [hb] using this
theorem textOK2_sel {p q : Nat} (h : textOK2 ops rd p q = true) : Region.noSelect ops = true := by
  unfold textOK2 at h
  simp only [Bool.and_eq_true] at h
  exact h.1.1
theorem textOK2_mid {p q : Nat} (h : textOK2 ops rd p q = true) {op : Oper} (hp : ops[p]? = some op) {j : Nat} (h1 : p < j) (h2 : j < q) (h3 : j < ops.size) : ∃ oj, ops[j]? = some oj ∧ oj.apart ops op = true ∧ rd j = true := by
  unfold textOK2 at h
  simp only [Bool.and_eq_true, List.all_eq_true, List.mem_range] at h
  have h4 := h.2 j h3
  have hj : ops[j]? = some ops[j] := by simp [h3]
  rw [hp, hj] at h4
  simp [h1, h2] at h4
  exact ⟨_, hj, h4.1.1, h4.1.2⟩
theorem text_anyX {Q : Exit → Act → World → Prop} {p q : Nat} (hsel : Region.noSelect ops = true) (hE : ∀ {i : Nat} {oi : Oper}, ops[i]? = some oi → ∀ e ∈ oi.after, Region.binds .any e = true → e.on < i) (hpq : PairOK ops rd p q) : ∀ (fuel : Nat) (listed : Array Bool) (rem : List Nat) (a : Act) (w : World),
    listed.size = ops.size → downed ops listed → (∀ i, i ∈ rem ↔ (i < ops.size ∧ listed.getD i true = false)) → rem.Pairwise (· < ·) → rem.length ≤ fuel → (p ∉ rem ∨ q ∉ rem) → S w →
    wpT P qc ops S rd (fun a w => Q .normal a w) rem a w → wpAny P .any ops Q fuel listed a w := by
  intro fuel
  induction fuel with
  | zero =>
    intro listed rem a w hsz hd hrem hpw hf hx hS h
    obtain rfl : rem = [] := List.eq_nil_of_length_eq_zero (by omega)
    refine ⟨?_, h⟩
    rw [List.eq_nil_iff_forall_not_mem]
    intro j hj
    obtain ⟨hu, o, ho, -⟩ := mem_ready.1 hj
    have := (hrem j).2 ⟨(Array.getElem?_eq_some_iff.1 ho).1, hu⟩
    simp at this
  | succ fuel ih =>
    intro listed rem a w hsz hd hrem hpw hf hx hS h
    refine ⟨fun hr => ?_, fun j hj => ?_⟩
    · cases rem with
      | nil => exact h
      | cons i rest =>
        exfalso
        obtain ⟨hlt, hu⟩ := (hrem i).1 (by simp)
        obtain ⟨o, ho⟩ : ∃ o, ops[i]? = some o := ⟨ops[i], by simp [hlt]⟩
        have : i ∈ Region.ready .any ops listed := by
          refine mem_ready.2 ⟨hu, o, ho, fun e he hbe => ?_⟩
          have hlt2 := hE ho e he hbe
          by_cases hl : listed.getD e.on true = true
          · rw [Array.getD_eq_getD_getElem?] at hl ⊢
            have : e.on < listed.size := by omega
            simp [this] at hl ⊢; exact hl
          · have hm := (hrem e.on).2 ⟨by omega, by simpa using hl⟩
            rcases List.mem_cons.1 hm with e1 | e1
            · omega
            · have := (List.pairwise_cons.1 hpw).1 _ e1; omega
        rw [hr] at this
        cases this
    · obtain ⟨hu, oj, hoj, hall⟩ := mem_ready.1 hj
      have hjlt := (Array.getElem?_eq_some_iff.1 hoj).1
      have hjm := (hrem j).2 ⟨hjlt, hu⟩
      obtain ⟨r1, r2, rfl⟩ := List.append_of_mem hjm
      have hpw' := List.pairwise_append.1 hpw
      have hb := bubble hoj r2 hsel r1 a w hS (fun k hk => by
        obtain ⟨hklt, hku⟩ := (hrem k).1 (by simp [hk])
        obtain ⟨ok, hok'⟩ : ∃ o, ops[k]? = some o := ⟨ops[k], by simp [hklt]⟩
        have hkj : k < j := hpw'.2.2 k hk j (by simp)
        have hn : ¬ Anc ops j k := fun hA => by
          have := downed_anc hd hA (fun o ho e he hbe => by
            rw [hoj] at ho; cases ho
            exact hall e he hbe)
          rw [Array.getD_eq_getD_getElem?] at this hku
          have hk2 : k < listed.size := by omega
          simp [hk2] at this hku
          rw [this] at hku; cases hku
        obtain ⟨h1, h2⟩ := hpq hoj hok' hkj hn (fun hc => by rcases hx with hx | hx; (exact hx (hc.1 ▸ by simp [hk])); (exact hx (hc.2 ▸ by simp)))
        exact ⟨ok, hok', h1, h2⟩) h
      refine wpOp_of_stT hS (fun a' w' hS' h' => ih (listed.setIfInBounds j true) (r1 ++ r2) a' w' (by simpa using hsz) ?_ ?_ ?_ ?_ (hx.imp (fun h hm => h (by rcases List.mem_append.1 hm with hm | hm <;> simp [hm])) (fun h hm => h (by rcases List.mem_append.1 hm with hm | hm <;> simp [hm]))) hS' h') hb
      · intro i o ho hl e he hbe
        by_cases hij : i = j
        · subst hij
          rw [hoj] at ho; cases ho
          exact getD_set_true (hall e he hbe)
        · rw [getD_set_ne true (Ne.symm hij)] at hl
          exact getD_set_true (hd i o ho hl e he hbe)
      · intro i
        have hnd : (r1 ++ j :: r2).Nodup := hpw.imp (fun h => Nat.ne_of_lt h)
        by_cases hij : i = j
        · subst hij
          have hni : i ∉ r1 ++ r2 := by
            have := List.nodup_append.1 hnd
            intro hm
            rcases List.mem_append.1 hm with hm | hm
            · exact this.2.2 i hm i (by simp) rfl
            · exact (List.nodup_cons.1 this.2.1).1 hm
          have hl : (listed.setIfInBounds i true).getD i true = true := by
            simp [show i < listed.size by omega]
          simp [hni, hl]
        · rw [getD_set_ne true (Ne.symm hij), ← hrem i]
          simp [hij]
      · exact hpw.sublist (List.Sublist.append_left (List.sublist_cons_self _ _) _)
      · simp at hf ⊢; omega
theorem wpT_prefix {Q : Act → World → Prop} {X Y : List Nat} (h : ∀ a w, S w → wpT P qc ops S rd Q X a w → wpT P qc ops S rd Q Y a w) : ∀ (r : List Nat) (a : Act) (w : World), S w → wpT P qc ops S rd Q (r ++ X) a w → wpT P qc ops S rd Q (r ++ Y) a w
  | [], a, w, hS, hh => h a w hS hh
  | i :: r, a, w, hS, hh => by
    rw [List.cons_append, wpT_cons] at hh ⊢
    exact stT_mono hS (fun a w hS' h' => wpT_prefix h r a w hS' h') hh
theorem wpT_mono {Q K : Act → World → Prop} (h : ∀ a w, S w → Q a w → K a w) : ∀ (r : List Nat) (a : Act) (w : World), S w → wpT P qc ops S rd Q r a w → wpT P qc ops S rd K r a w
  | [], a, w, hS, hh => h a w hS hh
  | i :: r, a, w, hS, hh => by
    rw [wpT_cons] at hh ⊢
    exact stT_mono hS (fun a w hS' h' => wpT_mono h r a w hS' h') hh
theorem wpT_append {Q : Act → World → Prop} (m : List Nat) : ∀ (l : List Nat) (a : Act) (w : World), S w → (wpT P qc ops S rd (wpT P qc ops S rd Q m) l a w ↔ wpT P qc ops S rd Q (l ++ m) a w)
  | [], a, w, _ => Iff.rfl
  | i :: l, a, w, hS => by
    rw [List.cons_append, wpT_cons, wpT_cons]
    exact ⟨stT_mono hS fun a w hS' h => (wpT_append m l a w hS').1 h, stT_mono hS fun a w hS' h => (wpT_append m l a w hS').2 h⟩
theorem stT_and {j : Nat} {oj : Oper} (hj : ops[j]? = some oj) (hr : rd j = true) {K K' : Act → World → Prop} {a : Act} {w : World} (hS : S w) (h1 : stT P qc ops S rd j K a w) (h2 : stT P qc ops S rd j K' a w) : stT P qc ops S rd j (fun a w => K a w ∧ K' a w) a w := by
  unfold stT at *
  simp only [hj, hr, if_true] at *
  by_cases hw : Region.wanted oj (yielded ops a.tmps) = true
  · simp only [hw, if_true] at *
    obtain ⟨v, a1, a2⟩ := h1
    obtain ⟨v', b1, b2⟩ := h2
    obtain rfl := readsAt_one hS a1 b1
    exact ⟨_, a1, a2, b2⟩
  · simp only [hw, if_false, Bool.false_eq_true] at *
    exact ⟨h1, h2⟩
theorem text_any2 {Q : Exit → Act → World → Prop} {p q : Nat} {op : Oper} (hp : ops[p]? = some op) (hrp : rd p = false) (hlt : p < q) (hsel : Region.noSelect ops = true) (hE : ∀ {i : Nat} {oi : Oper}, ops[i]? = some oi → ∀ e ∈ oi.after, Region.binds .any e = true → e.on < i) (hpq : PairOK ops rd p q)
    (hmid : ∀ {j : Nat}, p < j → j < q → j < ops.size → ∃ oj, ops[j]? = some oj ∧ oj.apart ops op = true ∧ rd j = true) : ∀ (fuel : Nat) (listed : Array Bool) (r m s : List Nat) (a : Act) (w : World),
    listed.size = ops.size → downed ops listed → (∀ i, i ∈ r ++ p :: (m ++ q :: s) ↔ (i < ops.size ∧ listed.getD i true = false)) → (r ++ p :: (m ++ q :: s)).Pairwise (· < ·) → (r ++ p :: (m ++ q :: s)).length ≤ fuel → S w →
    wpT P qc ops S rd (fun a w => wpT P qc ops S rd (fun a w => Q .normal a w) (p :: q :: s) a w ∧ wpT P qc ops S rd (fun a w => Q .normal a w) (q :: p :: s) a w) (r ++ m) a w → wpAny P .any ops Q fuel listed a w := by
  intro fuel
  induction fuel with
  | zero => intro listed r m s a w hsz hd hrem hpw hf; simp at hf
  | succ fuel ih =>
    intro listed r m s a w hsz hd hrem hpw hf hS h
    have hpw1 := List.pairwise_append.1 hpw
    have hpw2 := List.pairwise_cons.1 hpw1.2.1
    have hpw3 := List.pairwise_append.1 hpw2.2
    have hpw4 := List.pairwise_cons.1 hpw3.2.1
    refine ⟨fun hr => ?_, fun j hj => ?_⟩
    · exfalso
      obtain ⟨i, rest, hi⟩ : ∃ i rest, r ++ p :: (m ++ q :: s) = i :: rest := by cases r <;> exact ⟨_, _, rfl⟩
      obtain ⟨hlt', hu⟩ := (hrem i).1 (by rw [hi]; simp)
      obtain ⟨o, ho⟩ : ∃ o, ops[i]? = some o := ⟨ops[i], by simp [hlt']⟩
      have : i ∈ Region.ready .any ops listed := by
        refine mem_ready.2 ⟨hu, o, ho, fun e he hbe => ?_⟩
        have hlt2 := hE ho e he hbe
        by_cases hl : listed.getD e.on true = true
        · rw [Array.getD_eq_getD_getElem?] at hl ⊢
          have : e.on < listed.size := by omega
          simp [this] at hl ⊢; exact hl
        · have hm := (hrem e.on).2 ⟨by omega, by simpa using hl⟩
          rw [hi] at hm hpw
          rcases List.mem_cons.1 hm with e1 | e1
          · omega
          · have := (List.pairwise_cons.1 hpw).1 _ e1; omega
      rw [hr] at this
      cases this
    · obtain ⟨hu, oj, hoj, hall⟩ := mem_ready.1 hj
      have hjlt := (Array.getElem?_eq_some_iff.1 hoj).1
      have hjm := (hrem j).2 ⟨hjlt, hu⟩
      have hpair : ∀ k, k ∈ r ++ p :: (m ++ q :: s) → k < j → ¬ (k = p ∧ j = q) → ∃ ok, ops[k]? = some ok ∧ ok.apart ops oj = true ∧ (rd k = true ∨ rd j = true) := by
        intro k hk hkj hne
        obtain ⟨hklt, hku⟩ := (hrem k).1 hk
        obtain ⟨ok, hok'⟩ : ∃ o, ops[k]? = some o := ⟨ops[k], by simp [hklt]⟩
        have hn : ¬ Anc ops j k := fun hA => by
          have := downed_anc hd hA (fun o ho e he hbe => by
            rw [hoj] at ho; cases ho
            exact hall e he hbe)
          rw [Array.getD_eq_getD_getElem?] at this hku
          have hk2 : k < listed.size := by omega
          simp [hk2] at this hku
          rw [this] at hku; cases hku
        obtain ⟨h1, h2⟩ := hpq hoj hok' hkj hn hne
        exact ⟨ok, hok', h1, h2⟩
      have hsz' : (listed.setIfInBounds j true).size = ops.size := by simpa using hsz
      have hd' : downed ops (listed.setIfInBounds j true) := by
        intro i o ho hl e he hbe
        by_cases hij : i = j
        · subst hij
          rw [hoj] at ho; cases ho
          exact getD_set_true (hall e he hbe)
        · rw [getD_set_ne true (Ne.symm hij)] at hl
          exact getD_set_true (hd i o ho hl e he hbe)
      have hnd : (r ++ p :: (m ++ q :: s)).Nodup := hpw.imp (fun h => Nat.ne_of_lt h)
      have hrem' : ∀ X : List Nat, (r ++ p :: (m ++ q :: s)).Perm (j :: X) → ∀ i, i ∈ X ↔ (i < ops.size ∧ (listed.setIfInBounds j true).getD i true = false) := by
        intro X hX i
        have hnd2 := List.nodup_cons.1 (hX.nodup_iff.1 hnd)
        by_cases hij : i = j
        · subst hij
          have hl : (listed.setIfInBounds i true).getD i true = true := by
            simp [show i < listed.size by omega]
          simp [hnd2.1, hl]
        · rw [getD_set_ne true (Ne.symm hij), ← hrem i, hX.mem_iff]
          simp [hij]
      rcases List.mem_append.1 hjm with hc | hc
      · -- in r
        obtain ⟨r1, r2, rfl⟩ := List.append_of_mem hc
        have hlast := (List.pairwise_append.1 hpw1.1).2.2
        have hb := bubble hoj (r2 ++ m) hsel r1 a w hS (fun k hk => hpair k (by simp [hk]) (hlast k hk j (by simp)) (fun hne => by have := hpw1.2.2 j (by simp) p (by simp); omega)) (by simpa using h)
        refine wpOp_of_stT hS (fun a' w' hS' h' => ih (listed.setIfInBounds j true) (r1 ++ r2) m s a' w' hsz' hd' (hrem' _ (by simp)) ?_ ?_ hS' (by simpa using h')) hb
        · have : (r1 ++ r2 ++ p :: (m ++ q :: s)).Sublist (r1 ++ j :: r2 ++ p :: (m ++ q :: s)) := by simp
          exact hpw.sublist this
        · simp at hf ⊢; omega
      · rcases List.mem_cons.1 hc with rfl | hc
        · -- p itself
          rw [hp] at hoj; cases hoj
          have h1 := wpT_mono (K := wpT P qc ops S rd (fun a w => Q .normal a w) (j :: q :: s)) (fun a w _ h => h.1) _ a w hS h
          rw [wpT_append _ _ _ _ hS] at h1
          have hb := bubble hp (q :: s) hsel (r ++ m) a w hS (fun k hk => by
            rcases List.mem_append.1 hk with hk | hk
            · exact hpair k (by simp [hk]) (hpw1.2.2 k hk j (by simp)) (fun hne => by omega)
            · have hjk := hpw2.1 k (by simp [hk])
              obtain ⟨ok, e1, e2, e3⟩ := hmid hjk (hpw3.2.2 k hk q (by simp)) ((hrem k).1 (by simp [hk])).1
              exact ⟨ok, e1, e2, .inl e3⟩) h1
          refine wpOp_of_stT hS (fun a' w' hS' h' => text_anyX hsel hE hpq fuel (listed.setIfInBounds j true) (r ++ m ++ q :: s) a' w' hsz' hd' (hrem' _ (by simp)) ?_ ?_ (.inl ?_) hS' h') hb
          · have : (r ++ m ++ q :: s).Sublist (r ++ j :: (m ++ q :: s)) := by rw [List.append_assoc]; exact List.Sublist.append_left (List.sublist_cons_self _ _) _
            exact hpw.sublist this
          · simp at hf ⊢; omega
          · have := List.nodup_cons.1 ((List.perm_middle.nodup_iff).1 hnd)
            simpa using this.1
        · rcases List.mem_append.1 hc with hc | hc
          · -- in m
            obtain ⟨m1, m2, rfl⟩ := List.append_of_mem hc
            have hlast := (List.pairwise_append.1 hpw3.1).2.2
            have hpj := hpw2.1 j (by simp)
            have hjq := hpw3.2.2 j (by simp) q (by simp)
            have hb := bubble hoj m2 hsel (r ++ m1) a w hS (fun k hk => by
              rcases List.mem_append.1 hk with hk | hk
              · exact hpair k (by simp [hk]) (hpw1.2.2 k hk j (by simp)) (fun hne => by omega)
              · exact hpair k (by simp [hk]) (hlast k hk j (by simp)) (fun hne => by omega)) (by simpa using h)
            refine wpOp_of_stT hS (fun a' w' hS' h' => ih (listed.setIfInBounds j true) r (m1 ++ m2) s a' w' hsz' hd' (hrem' _ ?_) ?_ ?_ hS' (by simpa using h')) hb
            · have := (List.perm_middle (a := j) (l₁ := r ++ p :: m1) (l₂ := m2 ++ q :: s))
              simpa using this
            · have : (r ++ p :: (m1 ++ m2 ++ q :: s)).Sublist (r ++ p :: (m1 ++ j :: m2 ++ q :: s)) := by simp
              exact hpw.sublist this
            · simp at hf ⊢; omega
          · rcases List.mem_cons.1 hc with rfl | hc
            · -- q itself
              have h1 := wpT_mono (K := wpT P qc ops S rd (fun a w => Q .normal a w) (j :: p :: s)) (fun a w _ h => h.2) _ a w hS h
              rw [wpT_append _ _ _ _ hS] at h1
              have hb := bubble hoj (p :: s) hsel (r ++ m) a w hS (fun k hk => by
                rcases List.mem_append.1 hk with hk | hk
                · exact hpair k (by simp [hk]) (hpw1.2.2 k hk j (by simp)) (fun hne => by have := hpw1.2.2 k hk p (by simp); omega)
                · exact hpair k (by simp [hk]) (hpw3.2.2 k hk j (by simp)) (fun hne => by have := hpw2.1 k (by simp [hk]); omega)) h1
              refine wpOp_of_stT hS (fun a' w' hS' h' => ?_) hb
              have h2 : wpT P qc ops S rd (fun a w => Q .normal a w) (r ++ (p :: (m ++ s))) a' w' := by
                refine wpT_prefix (X := m ++ p :: s) (fun a w hS h => ?_) r a' w' hS' (by simpa using h')
                rw [wpT_cons]
                refine bubble hp s hsel m a w hS (fun k hk => ?_) h
                obtain ⟨ok, e1, e2, e3⟩ := hmid (hpw2.1 k (by simp [hk])) (hpw3.2.2 k hk j (by simp)) ((hrem k).1 (by simp [hk])).1
                exact ⟨ok, e1, e2, .inl e3⟩
              refine text_anyX hsel hE hpq fuel (listed.setIfInBounds j true) (r ++ p :: (m ++ s)) a' w' hsz' hd' (hrem' _ ?_) ?_ ?_ (.inr ?_) hS' h2
              · have := (List.perm_middle (a := j) (l₁ := r ++ p :: m) (l₂ := s))
                simpa using this
              · have : (r ++ p :: (m ++ s)).Sublist (r ++ p :: (m ++ j :: s)) := by simp
                exact hpw.sublist this
              · simp at hf ⊢; omega
              · have := (List.perm_middle (a := j) (l₁ := r ++ p :: m) (l₂ := s))
                have h3 := List.nodup_cons.1 ((this.nodup_iff).1 (by simpa using hnd))
                simpa using h3.1
            · -- in s
              obtain ⟨s1, s2, rfl⟩ := List.append_of_mem hc
              have hqj := hpw4.1 j (by simp)
              have hlast := (List.pairwise_append.1 hpw4.2).2.2
              have hrj : rd j = true := by
                obtain ⟨ok, e1, e2, e3⟩ := hpair p (by simp) (by omega) (fun hne => by omega)
                rw [hrp] at e3
                simpa using e3
              have hb1 : wpT P qc ops S rd (stT P qc ops S rd j (fun a w => wpT P qc ops S rd (fun a w => Q .normal a w) (p :: q :: (s1 ++ s2)) a w ∧ wpT P qc ops S rd (fun a w => Q .normal a w) (q :: p :: (s1 ++ s2)) a w)) (r ++ m) a w := by
                refine wpT_mono (fun a w hS h => stT_and hoj hrj hS ?_ ?_) _ a w hS h
                · exact bubble hoj s2 hsel (p :: q :: s1) a w hS (fun k hk => by
                    simp only [List.mem_cons] at hk
                    rcases hk with rfl | rfl | hk
                    · exact hpair k (by simp) (by omega) (fun hne => by omega)
                    · exact hpair k (by simp) (by omega) (fun hne => by omega)
                    · exact hpair k (by simp [hk]) (hlast k hk j (by simp)) (fun hne => by omega)) h.1
                · exact bubble hoj s2 hsel (q :: p :: s1) a w hS (fun k hk => by
                    simp only [List.mem_cons] at hk
                    rcases hk with rfl | rfl | hk
                    · exact hpair k (by simp) (by omega) (fun hne => by omega)
                    · exact hpair k (by simp) (by omega) (fun hne => by omega)
                    · exact hpair k (by simp [hk]) (hlast k hk j (by simp)) (fun hne => by omega)) h.2
              have hb2 : wpT P qc ops S rd (fun a w => wpT P qc ops S rd (fun a w => Q .normal a w) (p :: q :: (s1 ++ s2)) a w ∧ wpT P qc ops S rd (fun a w => Q .normal a w) (q :: p :: (s1 ++ s2)) a w) (r ++ m ++ j :: []) a w := by
                rw [← wpT_append _ _ _ _ hS]
                refine wpT_mono (fun a w hS h => ?_) _ a w hS hb1
                rw [wpT_cons]
                exact stT_mono hS (fun _ _ _ h => h) h
              have hb := bubble hoj [] hsel (r ++ m) a w hS (fun k hk => by
                rcases List.mem_append.1 hk with hk | hk
                · exact hpair k (by simp [hk]) (by have := hpw1.2.2 k hk j (by simp); omega) (fun hne => by omega)
                · exact hpair k (by simp [hk]) (by have := hpw3.2.2 k hk j (by simp); omega) (fun hne => by omega)) hb2
              refine wpOp_of_stT hS (fun a' w' hS' h' => ih (listed.setIfInBounds j true) r m (s1 ++ s2) a' w' hsz' hd' (hrem' _ ?_) ?_ ?_ hS' (by simpa using h')) hb
              · have := (List.perm_middle (a := j) (l₁ := r ++ p :: (m ++ q :: s1)) (l₂ := s2))
                simpa using this
              · have : (r ++ p :: (m ++ q :: (s1 ++ s2))).Sublist (r ++ p :: (m ++ q :: (s1 ++ j :: s2))) := by simp
                exact hpw.sublist this
              · simp at hf ⊢; omega
theorem wpT_of_list {Q : Act → World → Prop} : ∀ (l : List Oper) (ix : List Nat) (a : Act) (w : World), ix.map (fun i => ops[i]?) = l.map some → wpl0 P qc ops S Q l a w → wpT P qc ops S (rdAt qc ops) Q ix a w
  | [], ix, a, w, hl, h => by
    have : ix = [] := by simpa using hl
    subst this
    exact h
  | o :: l, ix, a, w, hl, h => by
    cases ix with
    | nil => simp at hl
    | cons n ix =>
      rw [List.map_cons, List.map_cons, List.cons.injEq] at hl
      obtain ⟨ho, hl'⟩ := hl
      have ih : ∀ a w, wpl0 P qc ops S Q l a w → wpT P qc ops S (rdAt qc ops) Q ix a w := fun a w h => wpT_of_list l ix a w hl' h
      rw [wpT_cons]
      unfold stT
      simp only [ho]
      unfold wpl0 at h
      have hrd : rdAt qc ops n = isReader qc o := by simp [rdAt, ho]
      split
      · rename_i hw
        simp only [hw, if_true] at h
        rw [hrd]
        split
        · rename_i hr
          simp only [hr, if_true] at h
          obtain ⟨v, h1, h2⟩ := h
          exact ⟨v, h1, ih _ _ h2⟩
        · rename_i hr
          simp only [hr, if_false, Bool.false_eq_true] at h
          exact Oper.wp_mono (fun a w ⟨s1, s2⟩ => ⟨s1, ih _ _ s2⟩) h
      · rename_i hw
        simp only [hw, if_false, Bool.false_eq_true] at h
        exact ih _ _ h
/-- A REGION THAT DRAWS ITS ORDER, THE OPERATIONS p AND q IN EITHER ORDER. -/
theorem region_text2 {id : Nat} {a : Act} {w : World} {Q : Exit → Act → World → Prop} (S : World → Prop) (p q : Nat) (A B C : List Oper) (op oq : Oper) (hm : P.follows .mixedOrders = true) (hok : textOK2 ops (rdAt qc ops) p q = true) (hrp : rdAt qc ops p = false) (hops : ops.toList = A ++ op :: (B ++ oq :: C)) (hA : A.length = p) (hB : p + 1 + B.length = q) (hS : S w.drew)
    (h : wpL P qc ops S (fun a w => wpL P qc ops S (fun a w => Q .normal a w) (op :: oq :: C) a w ∧ wpL P qc ops S (fun a w => Q .normal a w) (oq :: op :: C) a w) (A ++ B) a w.drew) : (Code.region id ops true).wp P Q a w := by
  have hsz : ops.size = p + 1 + B.length + 1 + C.length := by
    have := congrArg List.length hops
    simp at this; omega
  have at_ : ∀ i, ops[i]? = (A ++ op :: (B ++ oq :: C))[i]? := fun i => by rw [← hops, Array.getElem?_toList]
  have hpo : ops[p]? = some op := by rw [at_, List.getElem?_append_right (by omega)]; simp [hA]
  have hqo : ops[q]? = some oq := by
    rw [at_, List.getElem?_append_right (by omega), show q - A.length = B.length + 1 by omega, List.getElem?_cons_succ, List.getElem?_append_right (Nat.le_refl _)]; simp
  have ea : (List.range p).map (fun i => ops[i]?) = A.map some := by
    apply List.ext_getElem?
    intro i
    by_cases hi : i < p
    · rw [List.getElem?_map, List.getElem?_range hi, Option.map_some, at_, List.getElem?_append_left (by omega), List.getElem?_map, List.getElem?_eq_getElem (by omega)]; simp
    · rw [List.getElem?_eq_none (by simp; omega), List.getElem?_eq_none (by simp; omega)]
  have eb : (List.range' (p + 1) B.length).map (fun i => ops[i]?) = B.map some := by
    apply List.ext_getElem?
    intro i
    by_cases hi : i < B.length
    · rw [List.getElem?_map, List.getElem?_range' hi, Option.map_some, at_, List.getElem?_append_right (by omega), show p + 1 + 1 * i - A.length = i + 1 by omega, List.getElem?_cons_succ, List.getElem?_append_left hi, List.getElem?_map, List.getElem?_eq_getElem hi]; simp
    · rw [List.getElem?_eq_none (by simp; omega), List.getElem?_eq_none (by simp; omega)]
  have ec : (List.range' (q + 1) C.length).map (fun i => ops[i]?) = C.map some := by
    apply List.ext_getElem?
    intro i
    by_cases hi : i < C.length
    · rw [List.getElem?_map, List.getElem?_range' hi, Option.map_some, at_, List.getElem?_append_right (by omega), show q + 1 + 1 * i - A.length = (B.length + 1 + i) + 1 by omega, List.getElem?_cons_succ, List.getElem?_append_right (by omega), show B.length + 1 + i - B.length = i + 1 by omega, List.getElem?_cons_succ, List.getElem?_map, List.getElem?_eq_getElem hi]; simp
    · rw [List.getElem?_eq_none (by simp; omega), List.getElem?_eq_none (by simp; omega)]
  have er : List.range p ++ p :: (List.range' (p + 1) B.length ++ q :: List.range' (q + 1) C.length) = List.range ops.size := by
    rw [hsz, List.range_eq_range', List.range_eq_range', ← hB]
    have h1 := List.range'_append (s := 0) (m := p) (n := 1 + (B.length + (1 + C.length))) (step := 1)
    have h2 := List.range'_append (s := p + 1) (m := B.length) (n := 1 + C.length) (step := 1)
    have h3 : List.range' p (1 + (B.length + (1 + C.length))) = p :: List.range' (p + 1) (B.length + (1 + C.length)) := by rw [Nat.add_comm 1, List.range'_succ]
    have h4 : List.range' (p + 1 + B.length) (1 + C.length) = (p + 1 + B.length) :: List.range' (p + 1 + B.length + 1) C.length := by rw [Nat.add_comm 1, List.range'_succ]
    simp only [Nat.one_mul, Nat.zero_add] at h1 h2
    rw [h3, ← h2, h4] at h1
    rw [h1]
    congr 1; omega
  refine wp_region_any hm ?_
  refine text_any2 (qc := qc) (rd := rdAt qc ops) (S := S) hpo hrp (show p < q by omega) (textOK2_sel hok) (fun hi => textOK2_edges hok hi) (textOK2_pair hok) (fun h1 h2 h3 => textOK2_mid hok hpo h1 h2 h3) ops.size _ (List.range p) (List.range' (p + 1) B.length) (List.range' (q + 1) C.length) a _ (by simp) ?_ ?_ ?_ ?_ hS ?_
  · intro i o ho hl
    have hlt := (Array.getElem?_eq_some_iff.1 ho).1
    simp [hlt] at hl
  · intro i
    rw [er]
    by_cases hlt : i < ops.size <;> simp [hlt]
  · rw [er]; exact List.pairwise_lt_range
  · rw [er]; simp
  · have h1 := wpT_of_list (A ++ B) (List.range p ++ List.range' (p + 1) B.length) a w.drew (by rw [List.map_append, List.map_append, ea, eb]) h.out
    refine wpT_mono (fun a w _ h => ⟨?_, ?_⟩) _ _ _ hS h1
    · exact wpT_of_list (op :: oq :: C) _ a w (by rw [List.map_cons, List.map_cons, List.map_cons, List.map_cons, hpo, hqo, ec]) h.1.out
    · exact wpT_of_list (oq :: op :: C) _ a w (by rw [List.map_cons, List.map_cons, List.map_cons, List.map_cons, hpo, hqo, ec]) h.2.out
end
end Go.Own
