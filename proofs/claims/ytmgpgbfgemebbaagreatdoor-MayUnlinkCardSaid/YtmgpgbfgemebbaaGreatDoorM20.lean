/- TEXTS of mine, merged. -/
import Derived.Test.YtmgpgbfgemebbaaGreatDoorM19
import Derived.WalkMore
import Derived.Test.YtmgpgbfgemebbaaGreatDoorM12
set_option linter.all false
namespace Go.Proofs.YtmgpgbfgemebbaaGreatDoor
open Go.RowKit Go.Own
theorem putA_len1M {κ α : Type} [DecidableEq κ] (t : List (κ × α)) (k : κ) (a : α) : (putA t k a).length ≤ t.length + 1 := by
 unfold putA
 split
 ·rw [List.length_map]; omega
 ·rw [List.length_append]; simp
theorem ve_len {E : List (Ent × List Int)} (h : ∀ e ∈ E, e.2.length ≤ 1000000) (e : Ent) : (valuesE E e).length ≤ 1000000 := by
 unfold valuesE
 cases hf : fnd E e with
 | none => simp
 | some l => exact h _ (fnd_some hf)
open Classical in
theorem pmG2 (G A E T M F : HP) (Z R : List HP) : (G :: A :: E :: T :: M :: F :: (Z ++ R)).Perm (A :: E :: T :: M :: F :: (Z ++ (G :: R))) := by
 refine List.perm_iff_count.2 fun x => ?_
 simp only [List.count_append, List.count_cons] at *
 omega
open Classical in
theorem pmG3 (A E T M F N R K O : HP) (Z L : List HP) : (A :: E :: T :: M :: F :: (Z ++ (N :: R :: K :: O :: L))).Perm (F :: (Z ++ (A :: R :: N :: K :: E :: O :: T :: M :: L))) := by
 refine List.perm_iff_count.2 fun x => ?_
 simp only [List.count_append, List.count_cons] at *
 omega
theorem back_all {w : World} {L : List HP} {q tt bn bf bm b bo ma mm clf : Nat} {esf : Array MapEntry} {C : Array Value} {H : His} {X : List (Int × Option Nat × Fil)} {m : List (Str × Int)} {mn : List (Int × Int)} (hC : C = hC tt bn bf bm b bo) (hX : zB X = H.files) (h : Has w (pt q (.cells C 142) :: Ety b H.ents :: Mk kStr vInt ma m :: Mk kInt vInt mm mn :: FlX bf esf clf X :: (zC FilPC X ++ (Mk kInt vInt bn H.nums :: Trc tt H.S :: Mk kInt vMrk bm H.marks :: Mk kInt vEnt bo H.opened :: L)))) : Has w (Hsc q H :: L) := by
 have h1 := zm_iff.2 ⟨X, hX, Mx.mk (h.perm (pmG3 _ _ _ _ _ _ _ _ _ _ _))⟩
 rw [hC] at h1
 exact hsc_iff.2 ⟨tt, bn, bf, bm, b, bo, h1.re 9 [1, 2, 3, 0, 4, 5, 6]⟩
theorem all_step {κ α : Type} [DecidableEq κ] {t : List (κ × α)} {rem : List κ} {P : κ × α → Bool} (h : ∀ x ∈ t, x.1 ∉ rem → P x = true) (hn : (t.map Prod.fst).Nodup) {k : κ} {a : α} (hm : (k, a) ∈ t) (hp : P (k, a) = true) : ∀ x ∈ t, x.1 ∉ (rem.filter fun y => !decide (y = k)) → P x = true := by
 intro x hx hr
 by_cases hxk : x.1 = k
 ·have e1 := fnd_mem hn hx
  rw [hxk, fnd_mem hn hm] at e1
  rw [show x = (k, a) from Prod.ext hxk (Option.some.inj e1).symm]
  exact hp
 ·exact h x hx fun h2 => hr (List.mem_filter.2 ⟨h2, by simp [hxk]⟩)
structure MB where
 m : Mrk
theorem next_mb {w : World} {L : List HP} {b r cnt : Nat} {t : List (Int × Mrk)} {rem : List Int} {ops : Array Oper} {rest : List Oper} {o : Oper} {a : Act} {Q : Exit → Act → World → Prop} (h : Has w (Mr kInt vMrk b r t rem cnt :: L)) (hg : o.guard = none) (it : Operand) (hop : o.op = Op.next it false) (hit : a.eval it = .pointer (some ⟨r, 0, none⟩))
  (hDone : rem = [] → wpList Tryz.prog ops Q rest (a.put o.dst (.tuple #[.bool false])) w)
  (hMore : ∀ (n : Int) (mk : MB) (w' : World) (cnt' : Nat), (n, mk.m) ∈ t → n ∈ rem → kInt.ok n → Has w' (Mr kInt vMrk b r t (rem.filter fun y => decide (y ≠ n)) cnt' :: L) → cnt' < cnt → Keep w w' → w'.heap.size = w.heap.size →
   (Instr.entry (.pointer (some ⟨r, 0, none⟩))).run Tryz.prog w' = .ok (.tuple #[kInt.val n, vMrk.val mk.m]) w' → wpList Tryz.prog ops Q rest (a.put o.dst (.tuple #[.bool true, kInt.val n, vMrk.val mk.m])) w') : wpList Tryz.prog ops Q (o :: rest) a w :=
 wpList_mkNext h hg it hop hit hDone fun p w' cnt' a1 a2 a3 a4 a5 a6 a7 a8 => hMore p.1 ⟨p.2⟩ w' cnt' a1 a2 a3 a4 a5 a6 a7 a8
theorem vMrk_val (x : Mrk) : vMrk.val x = .agg #[.bool x.1, .bool x.2.1, .bool x.2.2] := rfl
open Classical in
theorem pmK3 (A E T M F N R K O : HP) (Z L : List HP) : (A :: E :: T :: M :: F :: (Z ++ (N :: R :: K :: O :: L))).Perm (K :: M :: (A :: E :: T :: F :: (Z ++ (N :: R :: O :: L)))) := by
 refine List.perm_iff_count.2 fun x => ?_
 simp only [List.count_append, List.count_cons] at *
 omega
theorem zc_in {κ η α : Type} [DecidableEq κ] {C : η → α → HP} {X : List (κ × η × α)} {w : World} {L : List HP} (h : Has w (zC C X ++ L)) {k : κ} {s : η} {a : α} (hm : (k, s, a) ∈ X) : ∃ R, Has w (C s a :: R) := by
 obtain ⟨X1, X2, rfl⟩ := List.append_of_mem hm
 refine ⟨zC C X1 ++ (zC C X2 ++ L), h.perm ?_⟩
 unfold zC
 rw [List.map_append, List.map_cons, List.append_assoc, List.cons_append]
 exact List.perm_middle
open Classical in
theorem pmH1 (E A T M F : HP) (Y Z R : List HP) : (E :: (Y ++ (A :: T :: M :: F :: (Z ++ R)))).Perm (E :: T :: (Y ++ (A :: M :: F :: (Z ++ R)))) := by
 refine List.perm_iff_count.2 fun x => ?_
 simp only [List.count_append, List.count_cons] at *
 omega
theorem cat_sB (t p : Str) : sB t ++ (⟨#[47]⟩ : ByteArray) ++ sB p = sB (t ++ 47 :: p) := by
 apply ByteArray.ext
 simp [sB, ByteArray.data_append]
open Classical in
theorem pmG1 (M F T A N R K E O : HP) (Z L : List HP) : (M :: F :: (Z ++ (T :: A :: N :: R :: K :: E :: O :: L))).Perm (T :: M :: (A :: E :: F :: (Z ++ (N :: R :: K :: O :: L)))) := by
 refine List.perm_iff_count.2 fun x => ?_
 simp only [List.count_append, List.count_cons] at *
 omega
set_option maxRecDepth 100000 in
set_option maxHeartbeats 8000000 in
theorem mAllows (q : Nat) (H : His) (v : Value) (ns : List Nv) (K : Nat) (w : World) (L : List HP) (hok : HisOk H K) (hN : ∀ x ∈ H.nums, (Lit.int .i64 x.1).wf = true) (hl : ns.length ≤ 100000) (hpl : ∀ x ∈ ns, x.path.length ≤ 100000 ∧ x.data.length ≤ 100000) (hel : ∀ e ∈ H.ents, e.2.length ≤ 1000000 ∧ e.1.2.length ≤ 1000000) (hrd : ∀ w', Has w' L → RdN w' v ns) (hO : Has w (Hsc q H :: L)) :
  Calls Tryz.prog 36 #[.pointer (some ⟨q, 0, none⟩), v] w fun e w' => e = .returned (.bool (H.allows ns)) ∧ Has w' (Hsc q H :: L) ∧ Keep w w' := by
 obtain ⟨tt, bn, bf, bm, b, bo, h0⟩ := hsc_iff.1 hO
 obtain ⟨C, hCe⟩ : ∃ C, C = hC tt bn bf bm b bo := ⟨_, rfl⟩
 rw [← hCe] at h0
 have HSN := hid (mSeen q bn bf C H.nums H.files v ns w (Trc tt H.S :: Mk kInt vMrk bm H.marks :: Ety b H.ents :: Mk kInt vEnt bo H.opened :: L) (by rw [hCe]; rfl) (by rw [hCe]; rfl) hN hl (fun x hx => by have := (hpl x hx).1; omega) (fun w' h => hrd w' h.drop.drop.drop.drop) (h0.re 7 [0, 2, 3, 1, 4, 5, 6]))
 have HCE := hid hCe
 have HOK := hid hok
 have HN := hid hN
 have HPL := hid hpl
 have HEL := hid hel
 have HRD := hid hrd
 have HL := hid hl
 have HAL := hid (show H.allows ns = (match seenM H.nums H.files ns with | none => false | some m => ns.all (nodeOk H.ents H.files m) && entsOk H.ents m && H.marks.all (markOk m)) from rfl)
 have HSL := hid (seenL_mem H.nums H.files ns [])
 have HSM := hid (show seenM H.nums H.files ns = (match seenL H.nums H.files ns [] with | some m => if (fnd m [47]).getD 0 = 1 then some m else none | none => none) from rfl)
 obtain ⟨AL, hAL⟩ : ∃ AL, H.allows ns = AL := ⟨_, rfl⟩
 rw [hAL] at HAL ⊢
 have hmm := @run_makeMap Tryz.prog
 have hvf : ∃ p c, v = .slice p ns.length c ∧ ns.length ≤ c := by
  obtain ⟨p, c, h1, h2, -⟩ := (hrd w hO.drop).1.form
  exact ⟨p, c, h1, h2⟩
 obtain ⟨pv, cv, rfl, hcv⟩ := hvf
 clear hO hok hN hl hpl hel hrd h0 hCe hAL
 go_enter Tryz.func36, Tryz.ntmps36
 go_wp2_with fail
 go_step3
 go_wp2_with fail
 refine HSN.out.mono ?_
 rintro e w1 ⟨⟨ma, m, hs, rfl, h1⟩ | ⟨hs, rfl, h1⟩, k1⟩
 ·have HK1 := hid k1
  rw [hs] at HAL
  dsimp only at HAL
  have hsl : seenL H.nums H.files ns [] = some m ∧ (fnd m [47]).getD 0 = 1 := by
   have e := HSM.out.symm.trans hs
   cases hq : seenL H.nums H.files ns [] with
   | none => rw [hq] at e; cases e
   | some m2 =>
    rw [hq] at e
    dsimp only at e
    split at e
    ·rename_i h9
     obtain rfl : m2 = m := Option.some.inj e
     exact ⟨rfl, h9⟩
    ·cases e
  have HIN := hid (HSL.out m hsl.1 (fun y hy => (List.not_mem_nil hy).elim))
  have HMW := hid (show ∀ y ∈ m, (Lit.int .i64 y.2).wf = true from fun y hy => by
   obtain ⟨F, hF⟩ := HIN.out.1 y hy
   exact (HOK.out.fil _ (fnd_some hF)).1)
  have HML := hid (show m.length ≤ 200000 from by have h9 := HIN.out.2.2.2.2; simp at h9; have := HL.out; omega)
  obtain ⟨X, hX, h2⟩ := zm_iff.1 (h1.re 4 [3, 0, 1, 2])
  obtain ⟨esf, clf, h3⟩ := Mx.of_mk h2
  have HX := hid hX
  have HO2 := hid (show Has (w1.alloc (.map #[] 0)) (Mk kInt vInt w1.heap.size [] :: FlX bf esf clf X :: (zC FilPC X ++ (Mk kStr vInt ma m :: pt q (.cells C 142) :: Mk kInt vInt bn H.nums :: Trc tt H.S :: Mk kInt vMrk bm H.marks :: Ety b H.ents :: Mk kInt vEnt bo H.opened :: L))) from Mk.made h3 kInt vInt)
  have HK2 := hid (HK1.out.alloc (.map #[] 0))
  clear h1 k1 hs HSN HSM HSL hX h2 h3 hsl HK1
  try dsimp only
  go_upto_region 7 with fail
  clear hmm
  generalize w1.alloc (.map #[] 0) = w2 at *
  generalize w1.heap.size = mm at *
  obtain ⟨RR, hRR⟩ : ∃ RR, RR = pt q (.cells C 142) :: Ety b H.ents :: FlX bf esf clf X :: (zC FilPC X ++ (Mk kInt vInt bn H.nums :: Trc tt H.S :: Mk kInt vMrk bm H.marks :: Mk kInt vEnt bo H.opened :: L)) := ⟨_, rfl⟩
  have HO3 := hid (show Has w2 (Mk kStr vInt ma m :: Mk kInt vInt mm [] :: RR) from by rw [hRR]; exact HO2.out.perm (pmG1 _ _ _ _ _ _ _ _ _ _ _))
  have HRR := hid hRR
  have HNDM := hid (show (m.map Prod.fst).Nodup from Mk.nodup HO3.out)
  clear HO2 hRR
  go_wp2_with (at_range; refine wpList_mkStart HO3.out tAt undAt rfl _ rfl rfl ?_; intro w4 hO4 hK4 hs4)
  try go_frame
  have HO4 := hid hO4
  have HK4 := hid (HK2.out.trans hK4)
  clear hO4 hK4 hs4 HO3 HK2
  generalize w2.heap.size = r at *
  have HS0 := hid (show ∀ n, (fnd ([] : List (Int × Int)) n).getD 0 = cntR m (m.map Prod.fst) n from fun n => (cntR_all m n).symm)
  have HR0 := hid (show ([] : List (Int × Int)).length + (m.map Prod.fst).length ≤ m.length from by simp)
  generalize m.map Prod.fst = rem0 at HO4 HS0 HR0 ⊢
  generalize m.length = cnt0 at HO4 ⊢
  go_loopw [] (fun w' => ∃ (rem : List Str) (cnt : Nat) (mn : List (Int × Int)), Hid (∀ n, (fnd mn n).getD 0 = cntR m rem n) ∧ Hid (mn.length + rem.length ≤ m.length) ∧ Hid (Has w' (Mr kStr vInt ma r m rem cnt :: Mk kInt vInt mm mn :: RR)) ∧ Hid (Keep w w')) (fun w' => w'.rangeLeft ma r)
  case atStart => exact ⟨rem0, cnt0, [], HS0, HR0, HO4, HK4⟩
  case round =>
   clear HO4 HK4 HS0 HR0
   obtain ⟨rem, cnt, mn, HS, HR, HO, HK⟩ := hrel
   have hleft := Mr.left HO.out
   have HLF := hid hleft
   go_wp2_with (at_next; refine wpList_mkNext HO.out rfl _ rfl rfl ?_ ?_)
   ·intro hrem
    subst hrem
    have HO5 := hid (Mr.end HO.out)
    have HS5 := hid (show ∀ n, (fnd mn n).getD 0 = cntM m n from fun n => by rw [HS.out n, cntR_nil])
    clear HO hleft HLF HS HR
    as_aux_lemma =>
     have HVR := hid (fun (w' : World) (h : Has w' (Mk kStr vInt ma m :: Mk kInt vInt mm mn :: RR)) => (show Has w' (pt q (.cells C 142) :: Ety b H.ents :: Mk kStr vInt ma m :: Mk kInt vInt mm mn :: FlX bf esf clf X :: (zC FilPC X ++ (Mk kInt vInt bn H.nums :: Trc tt H.S :: Mk kInt vMrk bm H.marks :: Mk kInt vEnt bo H.opened :: L))) from by rw [HRR.out] at h; exact h.re 4 [2, 3, 0, 1]))
     have HO6 := hid (HVR.out _ HO5.out)
     clear HVR HO5
     have HBK := hid (fun (w' : World) (h : Has w' (pt q (.cells C 142) :: Ety b H.ents :: Mk kStr vInt ma m :: Mk kInt vInt mm mn :: FlX bf esf clf X :: (zC FilPC X ++ (Mk kInt vInt bn H.nums :: Trc tt H.S :: Mk kInt vMrk bm H.marks :: Mk kInt vEnt bo H.opened :: L)))) => (show Has w' (Hsc q H :: L) from back_all HCE.out HX.out h))
     go_wp2_with fail
     go_loopw [43] (fun i wx => ∃ k : Nat, k ≤ ns.length ∧ i = .int .i64 k ∧ Hid (∀ j (h : j < ns.length), j < k → nodeOk H.ents H.files m ns[j] = true) ∧ Hid (Has wx (pt q (.cells C 142) :: Ety b H.ents :: Mk kStr vInt ma m :: Mk kInt vInt mm mn :: FlX bf esf clf X :: (zC FilPC X ++ (Mk kInt vInt bn H.nums :: Trc tt H.S :: Mk kInt vMrk bm H.marks :: Mk kInt vEnt bo H.opened :: L)))) ∧ Hid (Keep w wx)) (fun i _ => ns.length - (intOf i).toNat)
     case atStart => exact ⟨0, by omega, rfl, hid (by omega), HO6, HK⟩
     case round =>
      clear HO6 HK
      obtain ⟨k, hk, rfl, HJ, HO, HK⟩ := hrel
      by_cases hlt : k < ns.length
      ·have hli : (ns.length : Int) ≤ 100000 := by have := HL.out; omega
       have hk0 : (0 : Int) ≤ (k : Int) := by omega
       have hk1 : (k : Int) < (ns.length : Int) := by omega
       obtain ⟨x, hx⟩ : ∃ x, ns[k]? = some x := ⟨_, List.getElem?_eq_getElem hlt⟩
       have hrn := HRD.out _ (has_drops _ HO.out.drop.drop.drop.drop.drop).drop.drop.drop.drop
       obtain ⟨g, o, rfl, c0, c1, c2, c3, c4⟩ := RdN.cells hrn hx
       have hxm : x ∈ ns := List.mem_of_getElem? hx
       obtain ⟨pd, cd, hdv, -⟩ := (hrn.2 x hxm).form
       rw [hdv] at c4
       have hmem := HIN.out.2.2.1 x hxm
       have hfx := fnd_mem HNDM.out hmem
       obtain ⟨F, hF⟩ := HIN.out.1 _ hmem
       dsimp only at hF
       have hpx := HPL.out x hxm
       have HNX := hid (show nodeOk H.ents H.files m x = (entOk H.ents H.files m x.path (nodeM H.nums x.num) && kindOk mn x (nodeM H.nums x.num) F) from by unfold nodeOk; rw [hfx]; dsimp only [Option.getD]; rw [hF, kindOk_c, HS5.out])
       have HXE := hid (show ns[k]'hlt = x from by rw [List.getElem?_eq_getElem hlt] at hx; exact Option.some.inj hx)
       have HO2 := hid (HO.out.alloc (nodeC x pd cd))
       have HK2 := hid (HK.out.alloc (nodeC x pd cd))
       unfold nodeC at HO2 HK2
       have HFI := hid (fun (w' : World) (h : Has w' (pt wr.heap.size (.cells #[sV x.path, .int .i64 x.num, .int .i64 x.kind, .int .i64 x.links, .slice pd x.data.length cd] 57) :: pt q (.cells C 142) :: Ety b H.ents :: Mk kStr vInt ma m :: Mk kInt vInt mm mn :: FlX bf esf clf X :: (zC FilPC X ++ (Mk kInt vInt bn H.nums :: Trc tt H.S :: Mk kInt vMrk bm H.marks :: Mk kInt vEnt bo H.opened :: L)))) => mFits q b bf ma mm clf K esf C H.ents X m mn x (nodeM H.nums x.num) F w' (pt wr.heap.size (.cells #[sV x.path, .int .i64 x.num, .int .i64 x.kind, .int .i64 x.links, .slice pd x.data.length cd] 57) :: Mk kInt vInt bn H.nums :: Trc tt H.S :: Mk kInt vMrk bm H.marks :: Mk kInt vEnt bo H.opened :: L) (by rw [HCE.out]; rfl) (by rw [HCE.out]; rfl) (fun y hy => ⟨HMW.out y hy, fun _ => by rw [HX.out]; exact HIN.out.1 y hy⟩) hfx (by rw [HX.out]; exact hF) (HOK.out.fil _ (fnd_some hF)).2 HOK.out.kb (fun e => ve_len (fun e he => (HEL.out e he).1) e) hpx.1 hpx.2 (fun w' h' => (HRD.out w' h'.drop.drop.drop.drop.drop).2 x hxm) (h.perm (pmG2 _ _ _ _ _ _ _ _)))
       rw [hdv, HX.out] at HFI
       clear hrn hx hxm hdv hmem hfx hF hpx HO HK
       go_upto_region 14 with fail
       clear c0 c1 c2 c3 c4
       generalize wr.alloc (.cells #[sV x.path, .int .i64 x.num, .int .i64 x.kind, .int .i64 x.links, .slice pd x.data.length cd] 57) = w2 at *
       generalize wr.heap.size = g8 at *
       have d0 : w2.cell? ⟨g8, 0, none⟩ = some (sV x.path) := HO2.out.cells 0
       have d1 : w2.cell? ⟨g8, 1, none⟩ = some (.int .i64 x.num) := HO2.out.cells 1
       have d2 : w2.cell? ⟨g8, 2, none⟩ = some (.int .i64 x.kind) := HO2.out.cells 2
       have d3 : w2.cell? ⟨g8, 3, none⟩ = some (.int .i64 x.links) := HO2.out.cells 3
       have d4 : w2.cell? ⟨g8, 4, none⟩ = some (.slice pd x.data.length cd) := HO2.out.cells 4
       go_wp2_with fail
       refine (HFI.out w2 HO2.out).mono ?_
       rintro e w3 ⟨rfl, h3, k3⟩
       have HO3 := hid (show Has w3 (pt q (.cells C 142) :: Ety b H.ents :: Mk kStr vInt ma m :: Mk kInt vInt mm mn :: FlX bf esf clf X :: (zC FilPC X ++ (Mk kInt vInt bn H.nums :: Trc tt H.S :: Mk kInt vMrk bm H.marks :: Mk kInt vEnt bo H.opened :: L))) from (h3.perm (pmG2 _ _ _ _ _ _ _ _).symm).drop)
       have HK3 := hid (HK2.out.trans k3)
       clear h3 k3 HO2 HK2 d0 d1 d2 d3 d4 HFI
       rw [← HNX.out]
       try dsimp only
       obtain ⟨rr, hrr⟩ : ∃ rr, nodeOk H.ents H.files m x = rr := ⟨_, rfl⟩
       rw [hrr]
       have HRR2 := hid (show nodeOk H.ents H.files m (ns[k]'hlt) = rr from by rw [HXE.out]; exact hrr)
       clear hrr HNX HXE
       cases rr with
       | true =>
        go_wp2_with fail
        refine ⟨⟨k + 1, by omega, by go_num, hid fun j hj h => ?_, HO3, HK3⟩, by simp [intOf]; omega⟩
        by_cases hjk : j = k
        ·subst hjk; exact HRR2.out
        ·exact HJ.out j hj (by omega)
       | false =>
        have HAF := hid (show AL = false from by
         rw [HAL.out, List.all_eq_false.2 ⟨_, List.getElem_mem hlt, by rw [HRR2.out]; decide⟩]; rfl)
        go_wp2_with fail
        try rw [Exit.noGoto_ret]
        go_ret
        rw [HAF.out]
        exact ⟨rfl, HBK.out _ HO3.out, HK3.out⟩
      ·have hk1 : ¬ (k : Int) < (ns.length : Int) := by omega
       have HALLN := hid (show ns.all (nodeOk H.ents H.files m) = true from by
        rw [List.all_eq_true]
        intro z hz
        obtain ⟨j, hj, rfl⟩ := List.getElem_of_mem hz
        exact HJ.out j hj (by omega))
       rw [HALLN.out, Bool.true_and] at HAL
       clear hlt hk HJ
       as_aux_lemma =>
        have hq4 : wr.cell? ⟨q, 4, none⟩ = some (.map (some b)) := (HO.out.cells 4).trans (by rw [HCE.out]; rfl)
        obtain ⟨XE, hXE, h2⟩ := ety_iff.1 HO.out.p1
        obtain ⟨RR3, hRR3⟩ : ∃ RR3, RR3 = zC EntC XE ++ (pt q (.cells C 142) :: Mk kInt vInt mm mn :: FlX bf esf clf X :: (zC FilPC X ++ (Mk kInt vInt bn H.nums :: Trc tt H.S :: Mk kInt vMrk bm H.marks :: Mk kInt vEnt bo H.opened :: L))) := ⟨_, rfl⟩
        have HO3 := hid (show Has wr (Mk kEnt vSI b (zH XE) :: Mk kStr vInt ma m :: RR3) from by rw [hRR3]; exact h2.perm (pmH1 _ _ _ _ _ _ _ _))
        have HBK3 := hid (fun (w' : World) (h : Has w' (Mk kEnt vSI b (zH XE) :: Mk kStr vInt ma m :: RR3)) => (show Has w' (pt q (.cells C 142) :: Ety b H.ents :: Mk kStr vInt ma m :: Mk kInt vInt mm mn :: FlX bf esf clf X :: (zC FilPC X ++ (Mk kInt vInt bn H.nums :: Trc tt H.S :: Mk kInt vMrk bm H.marks :: Mk kInt vEnt bo H.opened :: L))) from by
         rw [hRR3] at h
         exact (show Has w' (Ety b H.ents :: pt q (.cells C 142) :: _) from ety_iff.2 ⟨XE, hXE, h.perm (pmH1 _ _ _ _ _ _ _ _).symm⟩).p1))
        have HRE := hid (fun (w' : World) (h : Has w' RR3) (e : Ent) (s : Slv) (l : List Int) (hm : (e, s, l) ∈ XE) => (show Rd w' (slvV s) 1 l.length (ic l) from by
         rw [hRR3] at h
         obtain ⟨R, hR⟩ := zc_in h hm
         exact Has.rd hR))
        have HXE := hid hXE
        clear h2 hXE hRR3 HO
        go_wp2_with (at_range; refine wpList_mkStart HO3.out tEm undEm rfl _ rfl rfl ?_; intro w4 hO4 hK4 hs4)
        try go_frame
        have HO4 := hid hO4
        have HK4 := hid (HK.out.trans hK4)
        clear hO4 hK4 hs4 hq4 HO3 HK
        generalize wr.heap.size = r3 at *
        have HS0 := hid (show ∀ x ∈ H.ents, x.1 ∉ (zH XE).map Prod.fst → eOk m x = true from fun x hx h => absurd (by rw [zH_keys, ← zB_keys, HXE.out]; exact List.mem_map_of_mem hx) h)
        generalize (zH XE).map Prod.fst = rem0 at HO4 HS0 ⊢
        generalize (zH XE).length = cnt0 at HO4 ⊢
        go_loopw [] (fun w' => ∃ (rem : List Ent) (cnt : Nat), Hid (∀ x ∈ H.ents, x.1 ∉ rem → eOk m x = true) ∧ Hid (Has w' (Mr kEnt vSI b r3 (zH XE) rem cnt :: Mk kStr vInt ma m :: RR3)) ∧ Hid (Keep w w')) (fun w' => w'.rangeLeft b r3)
        case atStart => exact ⟨rem0, cnt0, HS0, HO4, HK4⟩
        case round =>
         clear HO4 HK4 HS0
         obtain ⟨rem, cnt, HS, HO, HK⟩ := hrel
         have hleft := Mr.left HO.out
         have HLF := hid hleft
         go_wp2_with (at_next; refine wpList_mkNext HO.out rfl _ rfl rfl ?_ ?_)
         ·intro hrem
          subst hrem
          have HO5 := hid (HBK3.out _ (Mr.end HO.out))
          have HE5 := hid (show entsOk H.ents m = true from by
           unfold entsOk
           rw [List.all_eq_true]
           intro x hx
           exact HS.out x hx (by simp))
          rw [HE5.out, Bool.true_and] at HAL
          clear HO hleft HLF HS HBK3 HRE HXE
          as_aux_lemma =>
           have hq3 : wr.cell? ⟨q, 3, none⟩ = some (.map (some bm)) := (HO5.out.cells 3).trans (by rw [HCE.out]; rfl)
           obtain ⟨RR4, hRR4⟩ : ∃ RR4, RR4 = pt q (.cells C 142) :: Ety b H.ents :: Mk kStr vInt ma m :: FlX bf esf clf X :: (zC FilPC X ++ (Mk kInt vInt bn H.nums :: Trc tt H.S :: Mk kInt vEnt bo H.opened :: L)) := ⟨_, rfl⟩
           have HO6 := hid (show Has wr (Mk kInt vMrk bm H.marks :: Mk kInt vInt mm mn :: RR4) from by rw [hRR4]; exact HO5.out.perm (pmK3 _ _ _ _ _ _ _ _ _ _ _))
           have HBK4 := hid (fun (w' : World) (h : Has w' (Mk kInt vMrk bm H.marks :: Mk kInt vInt mm mn :: RR4)) => (show Has w' (Hsc q H :: L) from HBK.out _ (by rw [hRR4] at h; exact h.perm (pmK3 _ _ _ _ _ _ _ _ _ _ _).symm)))
           have HNDK := hid (show (H.marks.map Prod.fst).Nodup from Mk.nodup HO6.out)
           clear hRR4 HO5
           go_wp2_with fail
           go_step3
           go_wp2_with (at_range; refine wpList_mkStart HO6.out tMm undMm rfl _ rfl rfl ?_; intro w4 hO4 hK4 hs4)
           try go_frame
           have HO4 := hid hO4
           have HK4 := hid (HK.out.trans hK4)
           clear hO4 hK4 hs4 hq3 HO6 HK
           generalize wr.heap.size = r5 at *
           have HS0 := hid (show ∀ x ∈ H.marks, x.1 ∉ H.marks.map Prod.fst → markOk m x = true from fun x hx h => absurd (List.mem_map_of_mem hx) h)
           generalize H.marks.map Prod.fst = rem0 at HO4 HS0 ⊢
           generalize H.marks.length = cnt0 at HO4 ⊢
           go_loopw [] (fun w' => ∃ (rem : List Int) (cnt : Nat), Hid (∀ x ∈ H.marks, x.1 ∉ rem → markOk m x = true) ∧ Hid (Has w' (Mr kInt vMrk bm r5 H.marks rem cnt :: Mk kInt vInt mm mn :: RR4)) ∧ Hid (Keep w w')) (fun w' => w'.rangeLeft bm r5)
           case atStart => exact ⟨rem0, cnt0, HS0, HO4, HK4⟩
           case round =>
            clear HO4 HK4 HS0
            obtain ⟨rem, cnt, HS, HO, HK⟩ := hrel
            have hleft := Mr.left HO.out
            have HLF := hid hleft
            go_wp2_with (at_next; refine next_mb HO.out rfl _ rfl rfl ?_ ?_)
            ·intro hrem
             subst hrem
             have HAT := hid (show AL = true from by
              rw [HAL.out, List.all_eq_true]
              intro x hx
              exact HS.out x hx (by simp))
             have HO7 := hid (Mr.end HO.out)
             clear HO hleft
             go_wp2_with fail
             try rw [Exit.noGoto_ret]
             go_ret
             rw [HAT.out]
             exact ⟨rfl, HBK4.out _ HO7.out, HK.out⟩
            ·rintro n ⟨⟨hd, al, on⟩⟩ w5 cnt' hp hr hky hO5 hlt5 hK5 hsz hen
             simp only [kInt_val, vMrk_val] at hen ⊢
             have HSTEP := hid (fun (h : markOk m (n, hd, al, on) = true) => all_step HS.out HNDK.out hp h)
             have HBAD := hid (fun (h : markOk m (n, hd, al, on) = false) => (show AL = false from by rw [HAL.out, List.all_eq_false.2 ⟨_, hp, by rw [h]; decide⟩]))
             have HO7 := hid (hO5.alloc (.cells #[.bool hd, .bool al, .bool on] 149))
             have HK7 := hid ((HK.out.trans hK5).alloc (.cells #[.bool hd, .bool al, .bool on] 149))
             have HL5 := hid hlt5
             have HKY := hid hky
             clear hp hr hky hO5 hlt5 hK5 hsz hleft HO HK HS
             go_upto_region 30 with fail
             generalize w5.alloc (.cells #[.bool hd, .bool al, .bool on] 149) = w6 at *
             generalize w5.heap.size = g6 at *
             have hg0 : w6.cell? ⟨g6, 0, none⟩ = some (.bool hd) := HO7.out.cells 0
             have hg1 : w6.cell? ⟨g6, 1, none⟩ = some (.bool al) := HO7.out.cells 1
             have hg2 : w6.cell? ⟨g6, 2, none⟩ = some (.bool on) := HO7.out.cells 2
             have hlk : (Instr.lookup tNu (.map (some mm)) (.int .i64 n) false).run Tryz.prog w6 = .ok (.int .i64 (cntM m n)) w6 := by
              have h1 := Mk.look0 (V := vInt) (HO7.out.re 3 [2]) undNu (x := n) HKY.out
              rw [show (fnd mn n).getD vInt.z = cntM m n from HS5.out n] at h1
              exact h1
             have hleft6 := Mr.left HO7.out.drop
             have HLF6 := hid hleft6
             have HMK := hid (show markOk m (n, hd, al, on) = (!hd || !al || decide (n = 1) || !(decide (cntM m n = 0) || on && !decide (cntM m n = 1))) from rfl)
             clear hleft6
             generalize cntM m n = c at *
             cases hd with
             | false =>
              go_wp2_with fail
              exact ⟨⟨_, cnt', HSTEP.out (by rw [HMK.out]; rfl), hid HO7.out.drop, HK7⟩, by rw [HLF6.out, HLF.out]; exact HL5.out⟩
             | true =>
              cases al with
              | false =>
               go_wp2_with fail
               exact ⟨⟨_, cnt', HSTEP.out (by rw [HMK.out]; rfl), hid HO7.out.drop, HK7⟩, by rw [HLF6.out, HLF.out]; exact HL5.out⟩
              | true =>
               by_cases h1 : n = 1
               ·have hb1 : (n == 1) = true := by simp [h1]
                rw [decide_eq_true h1] at HMK
                clear h1
                go_wp2_with fail
                exact ⟨⟨_, cnt', HSTEP.out (by rw [HMK.out]; rfl), hid HO7.out.drop, HK7⟩, by rw [HLF6.out, HLF.out]; exact HL5.out⟩
               ·have hb1 : (n == 1) = false := by simp [h1]
                rw [decide_eq_false h1] at HMK
                clear h1
                by_cases h2 : c = 0
                ·have hb2 : (c == 0) = true := by simp [h2]
                 rw [decide_eq_true h2] at HMK
                 clear h2
                 have HAF := hid (HBAD.out (by rw [HMK.out]; rfl))
                 go_wp2_with fail
                 try rw [Exit.noGoto_ret]
                 go_ret
                 rw [HAF.out]
                 exact ⟨rfl, HBK4.out _ (Mr.end HO7.out.drop), HK7.out⟩
                ·have hb2 : (c == 0) = false := by simp [h2]
                 rw [decide_eq_false h2] at HMK
                 clear h2
                 cases on with
                 | false =>
                  go_wp2_with fail
                  exact ⟨⟨_, cnt', HSTEP.out (by rw [HMK.out]; rfl), hid HO7.out.drop, HK7⟩, by rw [HLF6.out, HLF.out]; exact HL5.out⟩
                 | true =>
                  by_cases h3 : c = 1
                  ·have hb3 : (c != 1) = false := by simp [h3]
                   rw [decide_eq_true h3] at HMK
                   clear h3
                   go_wp2_with fail
                   exact ⟨⟨_, cnt', HSTEP.out (by rw [HMK.out]; rfl), hid HO7.out.drop, HK7⟩, by rw [HLF6.out, HLF.out]; exact HL5.out⟩
                  ·have hb3 : (c != 1) = true := by simp [h3]
                   rw [decide_eq_false h3] at HMK
                   clear h3
                   have HAF := hid (HBAD.out (by rw [HMK.out]; rfl))
                   go_wp2_with fail
                   try rw [Exit.noGoto_ret]
                   go_ret
                   rw [HAF.out]
                   exact ⟨rfl, HBK4.out _ (Mr.end HO7.out.drop), HK7.out⟩
         ·rintro d p s w5 cnt' hp hr hky hO5 hlt5 hK5 hsz hen
          obtain ⟨⟨e', s', l⟩, hpX, he⟩ := List.mem_map.1 hp
          simp only [Prod.mk.injEq] at he
          obtain ⟨rfl, rfl⟩ := he
          simp only [kEnt_val, vSI_val] at hen ⊢
          have hrl := HRE.out w5 hO5.drop.drop _ _ _ hpX
          obtain ⟨pl, cl, hsv, -⟩ := hrl.form
          rw [hsv] at hrl hen ⊢
          have hmE : ((d, p), l) ∈ H.ents := by rw [← HXE.out]; exact List.mem_map.2 ⟨_, hpX, rfl⟩
          have hwl : l.length ≤ 1000000 := (HEL.out _ hmE).1
          have HNDE := hid (show (H.ents.map Prod.fst).Nodup from by
           have h2 := Mk.nodup (Mr.end hO5)
           rw [zH_keys, ← zB_keys, HXE.out] at h2
           exact h2)
          have HME := hid hmE
          have HSTEP := hid (fun (h : eOk m ((d, p), l) = true) => all_step HS.out HNDE.out hmE h)
          have HO6 := hid (hO5.alloc (.cells #[.int .i64 d, sV p] 144))
          have HK6 := hid ((HK.out.trans hK5).alloc (.cells #[.int .i64 d, sV p] 144))
          have HL5 := hid hlt5
          have HPLEN := hid (show p.length ≤ 1000000 from (HEL.out _ hmE).2)
          have HRL := hid (fun (w' : World) (h : Has w' RR3) => (show Rd w' (.slice pl l.length cl) 1 l.length (ic l) from by rw [← hsv]; exact HRE.out w' h _ _ _ hpX))
          clear hp hr hky hO5 hlt5 hK5 hsz hpX hleft HO HK hrl hsv hmE
          go_upto_region 20 with fail
          generalize w5.alloc (.cells #[.int .i64 d, sV p] 144) = w6 at *
          generalize w5.heap.size = g6 at *
          have HCT := hid (mContainsI (.slice pl l.length cl) l 0 w6 (HRL.out w6 HO6.out.drop.drop.drop) hwl)
          have hleft6 := Mr.left HO6.out.drop
          have HLF6 := hid hleft6
          by_cases h0 : (0 : Int) ∈ l
          ·have HDC := hid (show ∀ inst : Decidable ((0 : Int) ∈ l), @decide _ inst = true from fun _ => decide_eq_true h0)
           have HS2 := hid (HSTEP.out (by unfold eOk; rw [decide_eq_true h0]; rfl))
           clear h0
           go_wp2_with fail
           refine HCT.out.mono ?_
           rintro e w' ⟨rfl, rfl⟩
           rw [HDC.out]
           try dsimp only
           go_wp2_with fail
           exact ⟨⟨_, cnt', HS2, hid HO6.out.drop, HK6⟩, by rw [HLF6.out, HLF.out]; exact HL5.out⟩
          ·have HDC := hid (show ∀ inst : Decidable ((0 : Int) ∈ l), @decide _ inst = false from fun _ => decide_eq_false h0)
           have HEO := hid (show eOk m ((d, p), l) = m.all (pOk m (d, p)) from by unfold eOk; rw [decide_eq_false h0]; rfl)
           clear h0
           go_wp2_with fail
           refine HCT.out.mono ?_
           rintro e w' ⟨rfl, rfl⟩
           rw [HDC.out]
           try dsimp only
           have HO7 := hid (show Has w6 (Mk kStr vInt ma m :: pt g6 (.cells #[.int .i64 d, sV p] 144) :: Mr kEnt vSI b r3 (zH XE) (rem.filter fun y => !decide (y = (d, p))) cnt' :: RR3) from HO6.out.re 3 [2, 0, 1])
           clear HO6 HCT hleft6
           go_wp2_with (at_range; refine wpList_mkStart HO7.out tAt undAt rfl _ rfl rfl ?_; intro w4 hO4 hK4 hs4)
           try go_frame
           have HO4 := hid hO4
           have HK4 := hid (HK6.out.trans hK4)
           clear hO4 hK4 hs4 HO7 HK6
           generalize w6.heap.size = r4 at *
           have HT0 := hid (show ∀ y ∈ m, y.1 ∉ m.map Prod.fst → pOk m (d, p) y = true from fun y hy h => absurd (List.mem_map_of_mem hy) h)
           generalize m.map Prod.fst = rem20 at HO4 HT0 ⊢
           generalize m.length = cnt20 at HO4 ⊢
           go_loopw [] (fun w' => ∃ (rem2 : List Str) (cnt2 : Nat), Hid (∀ y ∈ m, y.1 ∉ rem2 → pOk m (d, p) y = true) ∧ Hid (Has w' (Mr kStr vInt ma r4 m rem2 cnt2 :: pt g6 (.cells #[.int .i64 d, sV p] 144) :: Mr kEnt vSI b r3 (zH XE) (rem.filter fun y => !decide (y = (d, p))) cnt' :: RR3)) ∧ Hid (Keep w w')) (fun w' => w'.rangeLeft ma r4)
           case atStart => exact ⟨rem20, cnt20, HT0, HO4, HK4⟩
           case round =>
            clear HO4 HK4 HT0
            obtain ⟨rem2, cnt2, HT, HO, HK⟩ := hrel
            have hleft := Mr.left HO.out
            have HLF2 := hid hleft
            go_wp2_with (at_next; refine wpList_mkNext HO.out rfl _ rfl rfl ?_ ?_)
            ·intro hrem
             subst hrem
             have HO8 := hid (show Has _ (Mr kEnt vSI b r3 (zH XE) (rem.filter fun y => !decide (y = (d, p))) cnt' :: Mk kStr vInt ma m :: RR3) from (Mr.end HO.out).re 3 [2, 0])
             have hleft8 := Mr.left HO8.out
             have HS2 := hid (HSTEP.out (by
              rw [HEO.out, List.all_eq_true]
              intro y hy
              exact HT.out y hy (by simp)))
             clear HO hleft
             go_wp2_with fail
             exact ⟨⟨_, cnt', HS2, HO8, HK⟩, by rw [hleft8, HLF.out]; exact HL5.out⟩
            ·rintro k n w7 cnt2' hp2 hr2 hky2 hO7 hlt7 hK7 hsz7 hen7
             simp only [kStr_val, vInt_val] at hen7 ⊢
             have hkl : k.length ≤ 100000 := by
              rcases HIN.out.2.2.2.1 _ hp2 with h | ⟨x, hx, hxe⟩
              ·exact (List.not_mem_nil h).elim
              ·rw [show k = x.path from congrArg Prod.fst hxe]; exact (HPL.out x hx).1
             have HSTEP2 := hid (fun (h : pOk m (d, p) (k, n) = true) => all_step HT.out HNDM.out hp2 h)
             have HBAD := hid (fun (h : pOk m (d, p) (k, n) = false) => (show AL = false from by
              rw [HAL.out, show entsOk H.ents m = false from List.all_eq_false.2 ⟨_, HME.out, by rw [HEO.out, List.all_eq_false.2 ⟨_, hp2, by rw [h]; decide⟩]; decide⟩]; rfl))
             have htl := trimS_len k
             have HTS := hid (fun (w' : World) => (show Calls Tryz.prog 99 #[sV k, .string ⟨#[47]⟩] w' fun e w'' => e = .returned (sV (trimS k)) ∧ w'' = w' from Tryz.strings_TrimSuffix (sB k) ⟨#[47]⟩ w' (by rw [sBm_size]; omega)))
             obtain ⟨A, hA⟩ : ∃ A, sB (trimS k) = A := ⟨_, rfl⟩
             obtain ⟨B, hB⟩ : ∃ B, sB p = B := ⟨_, rfl⟩
             have hAs : (A.size : Int) ≤ 100000 := by rw [← hA, sBm_size]; omega
             have hBs : (B.size : Int) ≤ 1000000 := by rw [← hB, sBm_size]; have := HPLEN.out; omega
             have hn1 : ¬ 9223372036854775807 < A.size + 1 := by omega
             have hn2 : ¬ 9223372036854775807 < A.size + 1 + B.size := by omega
             have HO8 := hid hO7.drew
             have HK8 := hid (HK.out.trans hK7).drew
             have HL7 := hid hlt7
             obtain ⟨th, hth⟩ : ∃ th, (fnd m (trimS k ++ 47 :: p)).isSome = th := ⟨_, rfl⟩
             obtain ⟨y0, hy0⟩ : ∃ y0, (fnd m (trimS k ++ 47 :: p)).getD 0 = y0 := ⟨_, rfl⟩
             have HPO := hid (show pOk m (d, p) (k, n) = (!decide (n = d) || th) from by unfold pOk; rw [hth])
             have hlk : (Instr.lookup tAt (.map (some ma)) (.string (A ++ ⟨#[47]⟩ ++ B)) true).run Tryz.prog w7.drew = .ok (.tuple #[.int .i64 y0, .bool th]) w7.drew := by
              have h1 := Mk.look (V := vInt) (Mr.end HO8.out) undAt (x := trimS k ++ 47 :: p) (le_maxLen (show (trimS k ++ 47 :: p).length ≤ _ from by rw [List.length_append, List.length_cons]; have := HPLEN.out; omega))
              have hd : ∀ inst : Decidable ((trimS k ++ 47 :: p) ∈ m.map Prod.fst), @decide _ inst = th := by
               intro inst
               rw [← hth]
               cases hf : fnd m (trimS k ++ 47 :: p) with
               | none => exact decide_eq_false (fnd_none.1 hf)
               | some a => exact decide_eq_true (mem_of_fnd hf)
              rw [hd, show (fnd m (trimS k ++ 47 :: p)).getD vInt.z = y0 from hy0] at h1
              rw [← hA, ← hB, cat_sB]
              exact h1
             rw [show sV (trimS k) = .string A from by rw [← hA]] at HTS
             have hg1 : w7.drew.cell? ⟨g6, 1, none⟩ = some (.string B) := by rw [← hB]; exact HO8.out.p1.cells 1
             clear hp2 hr2 hky2 hO7 hlt7 hK7 hsz7 HO HK hleft hkl htl hA hB hth hy0
             go_upto_region 24 with fail
             refine region_text (fun w' => w'.cell? ⟨g6, 1, none⟩ = some (.string B) ∧ (Instr.lookup tAt (.map (some ma)) (.string (A ++ ⟨#[47]⟩ ++ B)) true).run Tryz.prog w' = .ok (.tuple #[.int .i64 y0, .bool th]) w') (by kernel_rfl) (by kernel_rfl) ⟨hg1, hlk⟩ ?_
             generalize w7.drew = w8 at *
             repeat (first | refine wr2 ?_ | refine wk ?_)
             refine wa fun K hK => ?_
             go_simp
             refine (HTS.out w8).mono ?_
             rintro e w9 ⟨rfl, rfl⟩
             try dsimp only
             refine hK.out _ _ ⟨hg1, hlk⟩ ?_
             clear hK K
             try simp only [Act.put, List.setIfInBounds_toArray, List.set_cons_zero, List.set_cons_succ]
             repeat (first | refine wr2 ?_ | refine wk ?_)
             refine wpL_nil ?_
             have hleft9 := Mr.left HO8.out
             have HLF9 := hid hleft9
             have hg0 : w9.cell? ⟨g6, 0, none⟩ = some (.int .i64 d) := HO8.out.p1.cells 0
             clear hg1 hlk HTS
             by_cases hnd : n = d
             ·have hb : (n == d) = true := by simp [hnd]
              rw [decide_eq_true hnd] at HPO
              clear hnd
              cases th with
              | true =>
               go_wp2_with fail
               exact ⟨⟨_, cnt2', HSTEP2.out (by rw [HPO.out]; rfl), HO8, HK8⟩, by rw [HLF9.out, HLF2.out]; exact HL7.out⟩
              | false =>
               have HAF := hid (HBAD.out (by rw [HPO.out]; rfl))
               go_wp2_with fail
               try rw [Exit.noGoto_ret]
               go_ret
               rw [HAF.out]
               exact ⟨rfl, HBK.out _ (HBK3.out _ ((Mr.end (show Has w9 (Mr kEnt vSI b r3 (zH XE) (rem.filter fun y => !decide (y = (d, p))) cnt' :: Mk kStr vInt ma m :: RR3) from (Mr.end HO8.out).re 3 [2, 0])))), HK8.out⟩
             ·have hb : (n == d) = false := by simp [hnd]
              rw [decide_eq_false hnd] at HPO
              clear hnd
              go_wp2_with fail
              exact ⟨⟨_, cnt2', HSTEP2.out (by rw [HPO.out]; rfl), HO8, HK8⟩, by rw [HLF9.out, HLF2.out]; exact HL7.out⟩
   ·rintro k n w5 cnt' hp hr hky hO5 hlt5 hK5 hsz hen
    simp only [kStr_val, vInt_val] at hen ⊢
    have hwn := HMW.out _ hp
    have HST := hid (fun n' => cntR_step m rem k n n' HNDM.out hp hr)
    have HRL := hid (show (rem.filter fun y => !decide (y = k)).length < rem.length from List.length_filter_lt_length_iff_exists.2 ⟨k, hr, by simp⟩)
    have HO6 := hid hO5
    have HK6 := hid (HK.out.trans hK5)
    have HL5 := hid hlt5
    have hlk : (Instr.lookup tNu (.map (some mm)) (.int .i64 n) false).run Tryz.prog w5 = .ok (.int .i64 ((fnd mn n).getD 0)) w5 := Mk.look0 (V := vInt) HO6.out.p1 undNu (x := n) hwn
    rw [HS.out n] at hlk
    have HWN := hid hwn
    obtain ⟨hc0, hc1⟩ := cntR_low m rem n
    have hml : (m.length : Int) ≤ 200000 := by have := HML.out; omega
    have HCN := hid (show IntKind.i64.wrap (cntR m rem n + 1) = cntR m rem n + 1 from wrapk_in' _ (by omega))
    have HWC := hid (show (Lit.int .i64 (cntR m rem n + 1)).wf = true from wf_small _ (by omega) (by omega))
    obtain ⟨c, hc⟩ : ∃ c, cntR m rem n = c := ⟨_, rfl⟩
    have HC := hid hc
    rw [hc] at hlk hc0 hc1 HCN HWC
    clear hp hr hky hO5 hlt5 hK5 hsz hleft HO HK hwn hc
    go_wp2_with (refine wpList_mkPut HO6.out.p1 (by have := HR.out; have := HML.out; omega) tNu undNu rfl _ _ _ rfl rfl n HWN.out rfl (c + 1) HWC.out rfl ?_; intro w6 hO6 hK6; simp only [Act.put])
    have HO7 := hid (show Has w6 (Mr kStr vInt ma r m (rem.filter fun y => !decide (y = k)) cnt' :: Mk kInt vInt mm (putA mn n (c + 1)) :: RR) from hO6.p1)
    have hleft7 := Mr.left HO7.out
    try go_wp2_with fail
    refine ⟨⟨_, cnt', _, hid fun n' => ?_, hid ?_, HO7, hid (HK6.out.trans hK6)⟩, by rw [hleft7, HLF.out]; exact HL5.out⟩
    ·rw [HST.out n', fnd_putA]
     by_cases he : n' = n
     ·rw [if_pos he, he, if_pos rfl, HC.out]; rfl
     ·rw [if_neg he, if_neg (Ne.symm he), HS.out n']; omega
    ·have h1 := putA_len1M mn n (c + 1)
     have := HR.out
     have := HRL.out
     omega
 ·have HK1 := hid k1
  rw [hs] at HAL
  have HAF := hid (show AL = false from HAL.out)
  have HO1 := hid (show Has w1 (Hsc q H :: L) from hsc_iff.2 ⟨tt, bn, bf, bm, b, bo, by rw [HCE.out] at h1; exact h1.re 7 [0, 3, 1, 2, 4, 5, 6]⟩)
  clear h1 k1 hs HAL
  try dsimp only
  go_wp2_with fail
  try rw [Exit.noGoto_ret]
  go_ret
  rw [HAF.out]
  exact ⟨rfl, HO1.out, HK1.out⟩
end Go.Proofs.YtmgpgbfgemebbaaGreatDoor
namespace Go.Proofs.YtmgpgbfgemebbaaGreatDoor
open Go.RowKit Go.Own
theorem fivs_at : ∀ (os : List Fiv) (k : Nat) (f : Fiv) (j : Nat), os[k]? = some f → j < 6 → (fivs os)[k * 6 + j]? = f.enc[j]?
 | [], k, x, j, h, _ => by simp at h
 | y :: ns, 0, x, j, h, hj => by
  simp only [List.getElem?_cons_zero, Option.some.injEq] at h
  subst h
  show (y.enc ++ fivs ns)[0 * 6 + j]? = _
  rw [Nat.zero_mul, Nat.zero_add, List.getElem?_append_left (by show j < 6; exact hj)]
 | y :: ns, k + 1, x, j, h, hj => by
  simp only [List.getElem?_cons_succ] at h
  show (y.enc ++ fivs ns)[(k + 1) * 6 + j]? = _
  rw [List.getElem?_append_right (by show 6 ≤ _; omega), ← fivs_at ns k x j h hj]
  congr 1
  show (k + 1) * 6 + j - 6 = _
  omega
theorem tfs_cells {w : World} {L : List HP} {p : Option Addr} {n c : Nat} {os : List Fiv} (h : Has w (Tfs (.slice p n c) os :: L)) {k : Nat} {f : Fiv} (hx : os[k]? = some f) : n = os.length ∧ ∃ g o, p = some ⟨g, o, none⟩ ∧ w.cell? ⟨g, o + k * 6, none⟩ = some (.int .i64 f.num) ∧ w.cell? ⟨g, o + k * 6 + 1, none⟩ = some (.int .i64 f.nod.kind) ∧ w.cell? ⟨g, o + k * 6 + 2, none⟩ = some (.int .i64 f.nod.links) ∧ w.cell? ⟨g, o + k * 6 + 3, none⟩ = some (oneV f.dv) ∧ w.cell? ⟨g, o + k * 6 + 4, none⟩ = some (oneV f.wv) ∧ w.cell? ⟨g, o + k * 6 + 5, none⟩ = some (.map f.nm) := by
 obtain ⟨p', c', e, h2, h3, h4⟩ := (tfs_iff.1 h).rd.form
 injection e with e1 e2 e3
 subst e1
 have hk : k < os.length := (List.getElem?_eq_some_iff.1 hx).1
 obtain ⟨g, o, rfl, h5⟩ := h4 (by omega)
 have key : ∀ j, j < 6 → w.cell? ⟨g, o + k * 6 + j, none⟩ = f.enc[j]? := fun j hj => by
  rw [Nat.add_assoc, h5 (k * 6 + j) (by omega), fivs_at os k f j hx hj]
 exact ⟨e2, g, o, rfl, key 0 (by omega), key 1 (by omega), key 2 (by omega), key 3 (by omega), key 4 (by omega), key 5 (by omega)⟩
theorem mFresh1 (f : Fiv) (n : Int) (g : Nat) (C : Array Value) (T : TypeId) (w : World) (L : List HP) (hC : C[0]? = some (.int .i64 n)) (hO : Has w (pt g (.cells C T) :: L)) :
  Calls Tryz.prog 164 #[.agg #[.int .i64 f.num, .int .i64 f.nod.kind, .int .i64 f.nod.links, oneV f.dv, oneV f.wv, .map f.nm], .pointer (some ⟨g, 0, none⟩)] w fun e w' => e = .returned (.bool (f.num == n)) ∧ Has w' (pt g (.cells C T) :: L) ∧ Keep w w' := by
 have HA := hid (hO.alloc (.cells #[.int .i64 f.num, .int .i64 f.nod.kind, .int .i64 f.nod.links, oneV f.dv, oneV f.wv, .map f.nm] 159))
 have HK := hid ((Keep.refl w).alloc (.cells #[.int .i64 f.num, .int .i64 f.nod.kind, .int .i64 f.nod.links, oneV f.dv, oneV f.wv, .map f.nm] 159))
 have hg := (HA.out.p1.cells 0).trans hC
 have hx := (show _ = some (Value.int .i64 f.num) from HA.out.cells 0)
 clear hO hC
 go_enter Tryz.func164, Tryz.ntmps164
 go_wp2_with fail
 go_ret
 exact ⟨rfl, HA.out.drop, HK.out⟩
theorem mIndexFF (v : Value) (os : List Fiv) (n : Int) (g : Nat) (C : Array Value) (T : TypeId) (w : World) (L : List HP) (hl : os.length ≤ 1000000) (hC : C[0]? = some (.int .i64 n)) (hO : Has w (pt g (.cells C T) :: Tfs v os :: L)) :
  Calls Tryz.prog 219 #[v, .func (.func 164) #[] #[.pointer (some ⟨g, 0, none⟩)]] w fun e w' => (∃ k : Int, e = .returned (.int .i64 k) ∧ decide (0 ≤ k) = os.any fun f => f.num == n) ∧ Has w' (pt g (.cells C T) :: Tfs v os :: L) ∧ Keep w w' := by
 obtain ⟨p, c, rfl, hc, -, -⟩ := (tfs_iff.1 hO.p1).rd.form
 have hcf : ∀ args w, (callFunc 164 args).run Tryz.prog w = .ok (.enter 164 args) w := fun args w => by kernel_rfl
 have HO0 := hid hO
 have HC := hid hC
 have hli : (os.length : Int) ≤ 1000000 := by omega
 clear hO hC hl
 go_enter Tryz.func219, Tryz.ntmps219
 go_wp2_with fail
 go_loopw [8, 5] (fun i _ w' => ∃ k : Nat, k ≤ os.length ∧ i = .int .i64 k ∧ Hid (∀ j (h : j < os.length), j < k → (os[j].num == n) = false) ∧ Hid (Has w' (pt g (.cells C T) :: Tfs (.slice p os.length c) os :: L)) ∧ Hid (Keep w w')) (fun i _ _ => os.length - (intOf i).toNat)
 case atStart => exact ⟨0, by omega, rfl, hid (by omega), HO0, hid (Keep.refl w)⟩
 case round =>
  clear HO0
  obtain ⟨k, hk, rfl, HN, HO, HK⟩ := hrel
  by_cases hlt : k < os.length
  ·have hk0 : (0 : Int) ≤ (k : Int) := by omega
   have hk1 : (k : Int) < (os.length : Int) := by omega
   obtain ⟨-, g2, o2, rfl, c0, c1, c2, c3, c4, c5⟩ := tfs_cells HO.out.p1 (k := k) (f := os[k]) (List.getElem?_eq_getElem hlt)
   have H := hid (mFresh1 os[k] n g C T wr _ HC.out HO.out)
   have HY := hid (show os[k] ∈ os from List.getElem_mem hlt)
   obtain ⟨f, hf⟩ : ∃ f, os[k] = f := ⟨_, rfl⟩
   have HF := hid hf
   rw [hf] at c0 c1 c2 c3 c4 c5 H HY
   clear hf
   generalize oneV f.dv = d1 at *
   generalize oneV f.wv = d2 at *
   go_wp2_with fail
   refine H.out.mono ?_
   rintro e w2 ⟨rfl, hO2, hK2⟩
   have HO2 := hid hO2
   have HK2 := hid (HK.out.trans hK2)
   clear c0 c1 c2 c3 c4 c5 hO2 hK2 H HO HK
   try dsimp only
   obtain ⟨r, hr⟩ : ∃ r, (f.num == n) = r := ⟨_, rfl⟩
   rw [hr]
   have HR := hid (show (os[k].num == n) = r from by rw [HF.out]; exact hr)
   clear hr
   cases r with
   | false =>
    go_wp2_with fail
    refine ⟨⟨k + 1, by omega, by go_num, hid fun j hj h => ?_, HO2, HK2⟩, by simp [intOf]; omega⟩
    by_cases hjk : j = k
    ·subst hjk; exact HR.out
    ·exact HN.out j hj (by omega)
   | true =>
    go_wp2_with fail
    go_ret
    refine ⟨⟨(k : Int), rfl, ?_⟩, HO2.out, HK2.out⟩
    rw [decide_eq_true (by omega)]
    exact (List.any_eq_true.2 ⟨os[k], List.getElem_mem _, HR.out⟩).symm
  ·have hk1 : ¬ (k : Int) < (os.length : Int) := by omega
   have HALL := hid (show (os.any fun f => f.num == n) = false from by
    rw [List.any_eq_false]
    intro x hx
    obtain ⟨j, hj, rfl⟩ := List.getElem_of_mem hx
    rw [HN.out j hj (by omega)]
    decide)
   clear hlt hk
   go_wp2_with fail
   go_ret
   exact ⟨⟨-1, rfl, by rw [HALL.out]; rfl⟩, HO.out, HK.out⟩
theorem mContainsFF (v : Value) (os : List Fiv) (n : Int) (g : Nat) (C : Array Value) (T : TypeId) (w : World) (L : List HP) (hl : os.length ≤ 1000000) (hC : C[0]? = some (.int .i64 n)) (hO : Has w (pt g (.cells C T) :: Tfs v os :: L)) :
  Calls Tryz.prog 163 #[v, .func (.func 164) #[] #[.pointer (some ⟨g, 0, none⟩)]] w fun e w' => e = .returned (.bool (os.any fun f => f.num == n)) ∧ Has w' (pt g (.cells C T) :: Tfs v os :: L) ∧ Keep w w' := by
 have H := hid (mIndexFF v os n g C T w L hl hC hO)
 clear hl hC hO
 generalize (os.any fun f => f.num == n) = r at *
 go_enter Tryz.func163, Tryz.ntmps163
 go_wp2_with fail
 refine H.out.mono ?_
 rintro e w' ⟨⟨k, rfl, hk⟩, hO, hK⟩
 have HK := hid hk
 have HO := hid hO
 have HKK := hid hK
 clear hk hO hK
 try dsimp only
 go_wp2_with fail
 go_ret
 refine ⟨?_, HO.out, HKK.out⟩
 rw [← HK.out]
 rfl
end Go.Proofs.YtmgpgbfgemebbaaGreatDoor
