/- TEXTS of mine, merged. -/
import Derived.Test.YtmgpgbfgemebbaaGreatDoorM12
import Derived.Test.YtmgpgbfgemebbaaGreatDoorM7
import Derived.Test.YtmgpgbfgemebbaaGreatDoorM20
import Derived.Test.YtmgpgbfgemebbaaGreatDoorM10
import Derived.Test.YtmgpgbfgemebbaaGreatDoorM13
import Derived.Test.YtmgpgbfgemebbaaGreatDoorM18
set_option linter.all false
namespace Go.Proofs.YtmgpgbfgemebbaaGreatDoor
open Go.RowKit Go.Own
abbrev tTh : TypeId := 223
theorem undTh : Tryz.prog.underlying tTh = some (.map tEnt tInt) := by kernel_rfl
theorem lift_perm {α β : Type} (f : α → β) {a m : List β} (h : a.Perm m) : ∀ l : List α, l.map f = a → ∃ l', l'.map f = m ∧ l.Perm l' := by
 induction h with
 | nil =>
  intro l h
  exact ⟨l, h, .refl _⟩
 | cons x _ ih =>
  intro l h
  cases l with
  | nil => simp at h
  | cons y l =>
   rw [List.map_cons] at h
   injection h with h1 h2
   obtain ⟨l', h3, h4⟩ := ih l h2
   exact ⟨y :: l', by rw [List.map_cons, h1, h3], .cons _ h4⟩
 | swap x y l0 =>
  intro l h
  match l, h with
  | u :: v :: l, h =>
   simp only [List.map_cons, List.cons.injEq] at h
   obtain ⟨h1, h2, h3⟩ := h
   exact ⟨v :: u :: l, by rw [List.map_cons, List.map_cons, h1, h2, h3], .swap _ _ _⟩
  | [u], h => simp at h
  | [], h => simp at h
 | trans _ _ ih1 ih2 =>
  intro l h
  obtain ⟨l1, h1, h2⟩ := ih1 l h
  obtain ⟨l2, h3, h4⟩ := ih2 l1 h1
  exact ⟨l2, h3, h2.trans h4⟩
theorem zm_perm {P : Program} {k e : TypeId} {κ η α : Type} [DecidableEq κ] {K : Ky P k κ} {V : El P e η} {b : Nat} {C : η → α → HP} {t t' : List (κ × α)} {w : World} {L : List HP} (h : Has w (Zm K V b C t :: L)) (hp : t.Perm t') : Has w (Zm K V b C t' :: L) := by
 obtain ⟨X, hX, h1⟩ := zm_iff.1 h
 rw [← hX] at hp
 obtain ⟨X', h2, h3⟩ := lift_perm (fun x : κ × η × α => (x.1, x.2.2)) hp X rfl
 refine zm_iff.2 ⟨X', h2, ?_⟩
 have h4 : Has w (Mk K V b (zH X') :: (zC C X ++ L)) := Mk.perm h1 (h3.map _)
 exact h4.perm (.cons _ ((h3.map _).append_right L))
theorem trc_nd {w : World} {L : List HP} {q : Nat} {S : Tre} (h : Has w (Trc q S :: L)) : (S.nodes.map Prod.fst).Nodup := by
 obtain ⟨m, f, P, hPT, h1⟩ := trc_iff.1 h
 have hk : (pnB P).map Prod.fst = S.nodes.map Prod.fst := by rw [pnB_keys, ← pnN_keys, hPT.1]
 rw [← hk]
 exact Mk.nodup (trb_iff.1 h1).p1
theorem nms_nd {w : World} {L : List HP} {nm : Option Nat} {t : List (Str × Int)} (h : Has w (Nms nm t :: L)) : (t.map Prod.fst).Nodup := by
 cases nm with
 | none => rw [(Has.fact_iff.1 h).1]; exact List.nodup_nil
 | some m => exact Mk.nodup h
theorem fvc_mem {os : List Fiv} {f : Fiv} (h : f ∈ os) : ∃ FR : List HP, (os.map FvC).Perm (FvC f :: FR) := by
 obtain ⟨A, B, rfl⟩ := List.append_of_mem h
 exact ⟨A.map FvC ++ B.map FvC, by rw [List.map_append, List.map_cons]; exact List.perm_middle⟩
theorem fv_cells {w : World} {L : List HP} {p : Option Addr} {n c : Nat} {os : List Fiv} (h : Has w (row (.slice p n c) 159 6 os.length (fivs os) :: L)) {k : Nat} {f : Fiv} (hx : os[k]? = some f) : n = os.length ∧ ∃ g o, p = some ⟨g, o, none⟩ ∧ w.cell? ⟨g, o + k * 6, none⟩ = some (.int .i64 f.num) ∧ w.cell? ⟨g, o + k * 6 + 1, none⟩ = some (.int .i64 f.nod.kind) ∧ w.cell? ⟨g, o + k * 6 + 2, none⟩ = some (.int .i64 f.nod.links) ∧ w.cell? ⟨g, o + k * 6 + 3, none⟩ = some (oneV f.dv) ∧ w.cell? ⟨g, o + k * 6 + 4, none⟩ = some (oneV f.wv) ∧ w.cell? ⟨g, o + k * 6 + 5, none⟩ = some (.map f.nm) := by
 obtain ⟨p', c', e, h2, h3, h4⟩ := (Has.rd h).form
 injection e with e1 e2 e3
 subst e1
 have hk : k < os.length := (List.getElem?_eq_some_iff.1 hx).1
 obtain ⟨g, o, rfl, h5⟩ := h4 (by omega)
 have key : ∀ j, j < 6 → w.cell? ⟨g, o + k * 6 + j, none⟩ = f.enc[j]? := fun j hj => by
  rw [Nat.add_assoc, h5 (k * 6 + j) (by omega), fivs_at os k f j hx hj]
 exact ⟨e2, g, o, rfl, key 0 (by omega), key 1 (by omega), key 2 (by omega), key 3 (by omega), key 4 (by omega), key 5 (by omega)⟩
theorem pV_form (o : Option Nat) : ∃ pa : Option Addr, pV o = .pointer pa ∧ pa.isNone = o.isNone := by
 cases o with
 | none => exact ⟨none, rfl, rfl⟩
 | some b => exact ⟨some ⟨b, 0, none⟩, rfl, rfl⟩
theorem putA_putA {κ α : Type} [DecidableEq κ] (t : List (κ × α)) (k : κ) (a b : α) : putA (putA t k a) k b = putA t k b := by
 by_cases h : k ∈ t.map Prod.fst
 ·have h1 : k ∈ (putA t k a).map Prod.fst := by rw [putA_keysH _ h]; exact h
  have e1 : putA (putA t k a) k b = (putA t k a).map fun p => if p.1 = k then (k, b) else p := by unfold putA at h1 ⊢; rw [if_pos h1]
  have e2 : putA t k a = t.map fun p => if p.1 = k then (k, a) else p := by unfold putA; rw [if_pos h]
  have e3 : putA t k b = t.map fun p => if p.1 = k then (k, b) else p := by unfold putA; rw [if_pos h]
  rw [e1, e2, e3, List.map_map]
  refine List.map_congr_left fun x _ => ?_
  simp only [Function.comp]
  by_cases hx : x.1 = k <;> simp [hx]
 ·rw [putA_new a h, putA_new b h]
  unfold putA
  rw [if_pos (by simp), List.map_append]
  have e : (t.map fun p => if p.1 = k then (k, b) else p) = t := by
   refine (List.map_congr_left fun x hx => ?_).trans (List.map_id _)
   rw [if_neg (fun e => h (by rw [← e]; exact List.mem_map_of_mem hx))]
   rfl
  rw [e]
  simp
abbrev fileC (n : Int) (x : Nod) (p1 : Option Addr) (c1 : Nat) (p2 : Option Addr) (c2 : Nat) (nm : Option Nat) : Array Value := #[.int .i64 n, .int .i64 x.kind, .int .i64 x.links, .slice p1 x.data.length c1, .slice p2 x.wr.length c2, .map nm]
open Classical in
theorem pmNa (Q A B R F V : HP) (Z FV FR L : List HP) (h : FV.Perm (V :: FR)) : (Q :: A :: B :: R :: F :: (Z ++ (FV ++ L))).Perm (V :: Q :: A :: B :: R :: F :: (Z ++ (FR ++ L))) := by
 refine List.perm_iff_count.2 fun x => ?_
 have e1 := h.count_eq x
 simp only [List.count_append, List.count_cons] at *
 omega
open Classical in
theorem pmNb (G Q D W N A B R F S : HP) (Z Z0 L : List HP) (h : Z.Perm (S :: Z0)) : (G :: Q :: D :: W :: N :: A :: B :: R :: F :: (Z ++ L)).Perm (S :: D :: G :: Q :: W :: N :: A :: B :: R :: F :: (Z0 ++ L)) := by
 refine List.perm_iff_count.2 fun x => ?_
 have e1 := h.count_eq x
 simp only [List.count_append, List.count_cons] at *
 omega
theorem noteF_len (Y : List (Int × Fil)) : ∀ l : List (Int × Nod), (noteF Y l).length ≤ Y.length + l.length := by
 intro l
 induction l generalizing Y with
 | nil => exact Nat.le_refl _
 | cons x l ih =>
  have h1 := ih (note1 Y x)
  have h2 : (note1 Y x).length ≤ Y.length + 1 := by
   unfold note1 putA
   split
   ·rw [List.length_map]; omega
   ·rw [List.length_append]; simp
  show (noteF (note1 Y x) l).length ≤ _
  rw [List.length_cons]
  omega
open Classical in
theorem pmN4 (S F D Q B1 W N A B R : HP) (Z2 Z V L : List HP) (h : Z2.Perm (S :: Z)) : (S :: F :: D :: Q :: B1 :: W :: N :: A :: B :: R :: (Z ++ (V ++ L))).Perm (D :: Q :: B1 :: W :: N :: A :: B :: R :: F :: (Z2 ++ (V ++ L))) := by
 refine List.perm_iff_count.2 fun x => ?_
 have e1 := h.count_eq x
 simp only [List.count_append, List.count_cons] at *
 omega
theorem FilOk.new (k : Int) {K : Nat} (h : 1 ≤ K) : FilOk (newFil k) K where
 sz := by unfold newFil; simp
 szl := h
 szb := by unfold newFil lastI; simp
 keys := by unfold newFil; simp
 bl := by unfold newFil; simp
open Classical in
theorem pmN5 (Q A B F : HP) (Z V L : List HP) : (Q :: A :: B :: F :: (Z ++ (V ++ L))).Perm (Z ++ (V ++ (F :: B :: A :: Q :: L))) := by
 refine List.perm_iff_count.2 fun x => ?_
 simp only [List.count_append, List.count_cons] at *
 omega
open Classical in
theorem pmN6 (F B A Q : HP) (Z V L : List HP) : (Z ++ (V ++ (F :: B :: A :: Q :: L))).Perm (V ++ (F :: (Z ++ (B :: A :: Q :: L)))) := by
 refine List.perm_iff_count.2 fun x => ?_
 simp only [List.count_append, List.count_cons] at *
 omega
open Classical in
theorem pmN7 (X B5 B4 Q F T M : HP) (Z L : List HP) : (X :: (Z ++ (B5 :: B4 :: Q :: F :: T :: M :: L))).Perm (X :: Q :: (Z ++ (B5 :: B4 :: F :: T :: M :: L))) := by
 refine List.perm_iff_count.2 fun x => ?_
 simp only [List.count_append, List.count_cons] at *
 omega
open Classical in
theorem pmN8 (A B I Q T : HP) (Z L : List HP) : (A :: B :: I :: Q :: (Z ++ (T :: L))).Perm (T :: A :: B :: I :: Q :: (Z ++ L)) := by
 refine List.perm_iff_count.2 fun x => ?_
 simp only [List.count_append, List.count_cons] at *
 omega
open Classical in
theorem pmN9 (Q X I T : HP) (Z L : List HP) : (Q :: X :: I :: (Z ++ (T :: L))).Perm (T :: Q :: X :: I :: (Z ++ L)) := by
 refine List.perm_iff_count.2 fun x => ?_
 simp only [List.count_append, List.count_cons] at *
 omega
open Classical in
theorem pmN10 (G X I Q : HP) (Z R : List HP) : (G :: X :: I :: Q :: (Z ++ R)).Perm (Q :: X :: I :: (Z ++ (R ++ [G]))) := by
 refine List.perm_iff_count.2 fun x => ?_
 simp only [List.count_append, List.count_cons, List.count_nil] at *
 omega
open Classical in
theorem pmN11 (G X I Q : HP) (Z R : List HP) : (Q :: X :: I :: (Z ++ (R ++ [G]))).Perm (G :: Q :: X :: I :: (Z ++ R)) := by
 refine List.perm_iff_count.2 fun x => ?_
 simp only [List.count_append, List.count_cons, List.count_nil] at *
 omega
theorem noteF_other : ∀ (l : List (Int × Nod)) (Y : List (Int × Fil)) {n : Int}, n ∉ l.map Prod.fst → fnd (noteF Y l) n = fnd Y n
 | [], _, _, _ => rfl
 | x :: l, Y, n, h => by
  rw [List.map_cons, List.mem_cons, not_or] at h
  show fnd (noteF (note1 Y x) l) n = _
  rw [noteF_other l _ h.2]
  unfold note1
  rw [fnd_putA, if_neg h.1]
open Classical in
theorem pmN0 (R B5 B4 Q T Fz M E : HP) (FV L : List HP) : (R :: (FV ++ (T :: B5 :: B4 :: Q :: Fz :: M :: E :: L))).Perm (Fz :: R :: B5 :: B4 :: Q :: (FV ++ (T :: M :: E :: L))) := by
 refine List.perm_iff_count.2 fun x => ?_
 simp only [List.count_append, List.count_cons] at *
 omega
open Classical in
theorem pmN3 (F R B5 B4 Q : HP) (Z L : List HP) : (F :: (Z ++ (R :: B5 :: B4 :: Q :: L))).Perm (Q :: B4 :: B5 :: R :: F :: (Z ++ L)) := by
 refine List.perm_iff_count.2 fun x => ?_
 simp only [List.count_append, List.count_cons] at *
 omega
set_option maxRecDepth 100000 in
set_option maxHeartbeats 8000000 in
theorem mNote (q tq bf bm b : Nat) (C : Array Value) (S : Tre) (Y0 : List (Int × Fil)) (M : List (Int × Mrk)) (E : List (Ent × List Int)) (K N : Nat) (w : World) (L : List HP) (hC2 : C[2]? = some (.map (some bf))) (hC3 : C[3]? = some (.map (some bm))) (hC4 : C[4]? = some (.map (some b)))
  (hb : ∀ n x, fnd S.nodes n = some x → x.data.length ≤ 100000 ∧ x.wr.length ≤ 100000) (hn : S.nodes.length ≤ 100000) (hw : ∀ x ∈ filL S, (Lit.int .i64 x.1).wf = true ∧ (Lit.int .i64 x.2.links).wf = true ∧ ∀ p ∈ x.2.names, (Lit.int .i64 p.2).wf = true)
  (hY : ∀ x ∈ Y0, FilOk x.2 K) (hK : K ≤ 100000) (hK1 : 1 ≤ K) (hYl : Y0.length ≤ 400000) (hEN : ∀ x ∈ E, x.2.length ≤ N ∧ okEnt x.1) (hN : N ≤ 900000) (hEl : E.length + (thereL (filL S)).length ≤ 400000) (hMl : M.length ≤ 400000)
  (hO : Has w (pt q (.cells C 142) :: Trc tq S :: Flz bf Y0 :: Mk kInt vMrk bm M :: Ety b E :: L)) :
  Calls Tryz.prog 101 #[.pointer (some ⟨q, 0, none⟩), .pointer (some ⟨tq, 0, none⟩)] w fun e' w' => e' = .returned (.tuple #[]) ∧ Has w' (pt q (.cells C 142) :: Trc tq S :: Flz bf (noteF Y0 (filL S)) :: Mk kInt vMrk bm (noteM (filL S) M) :: Ety b (noteE (thereL (filL S)) E) :: L) ∧ Keep w w' := by
 have HC2 := hid (fun (w : World) (L' : List HP) (h : Has w (pt q (.cells C 142) :: L')) => (show w.cell? ⟨q, 2, none⟩ = some (.map (some bf)) from (h.cells 2).trans hC2))
 have HC3 := hid (fun (w : World) (L' : List HP) (h : Has w (pt q (.cells C 142) :: L')) => (show w.cell? ⟨q, 3, none⟩ = some (.map (some bm)) from (h.cells 3).trans hC3))
 have HC4 := hid (fun (w : World) (L' : List HP) (h : Has w (pt q (.cells C 142) :: L')) => (show w.cell? ⟨q, 4, none⟩ = some (.map (some b)) from (h.cells 4).trans hC4))
 have HCC := hid hC4
 have HNDS := hid (trc_nd hO.p1)
 have HLN := hid (show ((filL S).map Prod.fst).Nodup from by
  have e : (filL S).map Prod.fst = sorted (S.nodes.map Prod.fst) := by unfold filL filesQ; rw [List.map_map]; simp [Function.comp_def]
  rw [e]
  exact (sorted_perm _).nodup_iff.2 HNDS.out)
 have HLL := hid (show (filL S).length ≤ 100000 from by unfold filL filesQ; rw [List.length_map, sorted_len, List.length_map]; exact hn)
 have HB := hid hb
 have HNN := hid hn
 have HW := hid hw
 have HY := hid hY
 have HK0 := hid hK
 have HKO := hid hK1
 have HYL := hid hYl
 have HEN := hid hEN
 have HN0 := hid hN
 have HEL := hid hEl
 have HML := hid hMl
 have HNDE := hid (show (E.map Prod.fst).Nodup from by
  obtain ⟨X, hX, h2⟩ := ety_iff.1 (show Has w (Ety b E :: _) from hO.p4)
  have h3 := Mk.nodup h2
  rw [zH_keys, ← zB_keys, hX] at h3
  exact h3)
 have hmm := @run_makeMap Tryz.prog
 have h1 : Has ((w.alloc (.map #[] 0)).alloc (.map #[] 0)) (Mk kEnt vInt (w.alloc (.map #[] 0)).heap.size [] :: Mk kInt vInt w.heap.size [] :: _) := Mk.made (Mk.made hO kInt vInt) kEnt vInt
 have e5 : (w.alloc (.map #[] 0)).heap.size = w.heap.size + 1 := by show (Array.push _ _).size = _; rw [Array.size_push]
 rw [e5] at h1
 have HO1 := hid h1
 have HKa := hid (((Keep.refl w).alloc (.map #[] 0)).alloc (.map #[] 0))
 clear hO h1 e5 hC2 hC3 hC4 hb hn hw hY hK hK1 hYl hEN hN hEl hMl
 go_enter Tryz.func101, Tryz.ntmps101
 go_upto_region 2 with fail
 clear hmm
 generalize (w.alloc (.map #[] 0)).alloc (.map #[] 0) = w1 at *
 generalize w.heap.size + 1 = b5 at *
 generalize w.heap.size = b4 at *
 go_wp2_with fail
 refine (tFiles tq S w1 _ HB.out HNN.out (HO1.out.re 4 [3, 0, 1, 2])).mono ?_
 rintro e w2 ⟨v, os, rfl, hm, -, hO2, hK2⟩
 have HK2 := hid (HKa.out.trans hK2)
 have HM := hid (show os.map (fun f => (f.num, f.nod)) = filL S from hm)
 have hol : os.length ≤ 100000 := by have h9 := congrArg List.length HM.out; rw [List.length_map] at h9; have := HLL.out; omega
 have HOL := hid hol
 obtain ⟨RR, hRR⟩ : ∃ RR, RR = Trc tq S :: Mk kInt vMrk bm M :: Ety b E :: L := ⟨_, rfl⟩
 have HRR := hid hRR
 have h3 : Has w2 (row v 159 6 os.length (fivs os) :: (os.map FvC ++ _)) := tfs_iff.1 hO2
 obtain ⟨p, c, rfl, -⟩ := (Has.rd h3).form
 have HNMS := hid (show ∀ x ∈ filL S, (x.2.names.map Prod.fst).Nodup from fun x hx => by
  rw [← HM.out] at hx
  obtain ⟨f, hf, rfl⟩ := List.mem_map.1 hx
  obtain ⟨FR, hFR⟩ := fvc_mem hf
  have h5 : Has w2 (FvC f :: _) := h3.drop.perm (hFR.append_right _)
  exact nms_nd ((fvc_iff.1 h5).p2))
 have h4 : Has w2 (Flz bf Y0 :: row (.slice p os.length c) 159 6 os.length (fivs os) :: Mk kEnt vInt b5 [] :: Mk kInt vInt b4 [] :: pt q (.cells C 142) :: (os.map FvC ++ RR)) := by
  rw [hRR]
  exact h3.perm (pmN0 _ _ _ _ _ _ _ _ _ _)
 obtain ⟨X, hX, h5⟩ := zm_iff.1 h4
 have HO3 := hid (show Has w2 (pt q (.cells C 142) :: Mk kInt vInt b4 [] :: Mk kEnt vInt b5 [] :: row (.slice p os.length c) 159 6 os.length (fivs os) :: Mk kInt vPf bf (zH X) :: (zC FilPC X ++ (os.map FvC ++ RR))) from h5.perm (pmN3 _ _ _ _ _ _ _))
 have HX := hid (show zB X = noteF Y0 ((filL S).take 0) from hX)
 have HT := hid (show (([] : List (Ent × Int)).map Prod.fst).Nodup ∧ ∀ p, p ∈ ([] : List (Ent × Int)) ↔ p ∈ thereL ((filL S).take 0) from ⟨List.nodup_nil, fun p => by simp [thereL]⟩)
 clear hO2 hK2 hm h3 h4 h5 hX hRR HO1 HKa hol
 try dsimp only
 go_wp2_with fail
 go_loopw [21] (fun i w' => ∃ (k : Nat) (T : List (Ent × Int)) (X : List (Int × Option Nat × Fil)), k ≤ os.length ∧ i = .int .i64 k ∧ Hid ((T.map Prod.fst).Nodup ∧ ∀ p, p ∈ T ↔ p ∈ thereL ((filL S).take k)) ∧ Hid (zB X = noteF Y0 ((filL S).take k)) ∧ Hid (Has w' (pt q (.cells C 142) :: Mk kInt vInt b4 (lnkL ((filL S).take k)) :: Mk kEnt vInt b5 T :: row (.slice p os.length c) 159 6 os.length (fivs os) :: Mk kInt vPf bf (zH X) :: (zC FilPC X ++ (os.map FvC ++ RR)))) ∧ Hid (Keep w w')) (fun i _ => os.length - (intOf i).toNat)
 case atStart => exact ⟨0, [], X, by omega, rfl, HT, HX, HO3, HK2⟩
 case round =>
  clear HO3 HK2 HX HT
  obtain ⟨k, T, X, hk, rfl, HT, HX, HO, HK⟩ := hrel
  by_cases hlt : k < os.length
  ·as_aux_lemma =>
   obtain ⟨f, hf⟩ : ∃ f, os[k]? = some f := ⟨os[k], List.getElem?_eq_getElem hlt⟩
   have hk0 : (0 : Int) ≤ (k : Int) := by omega
   have hk1 : (k : Int) < (os.length : Int) := by omega
   have hfm : f ∈ os := List.mem_of_getElem? hf
   obtain ⟨-, g2, o2, rfl, c0, c1, c2, c3, c4, c5⟩ := fv_cells (show Has wr (row (.slice p os.length c) 159 6 os.length (fivs os) :: _) from HO.out.p3) hf
   have hlk : (filL S)[k]? = some (f.num, f.nod) := by rw [← HM.out, List.getElem?_map, hf]; rfl
   have HTK := hid (show (filL S).take (k + 1) = (filL S).take k ++ [(f.num, f.nod)] from by rw [List.take_add_one, hlk]; rfl)
   have hmemL : (f.num, f.nod) ∈ filL S := List.mem_of_getElem? hlk
   have HWF := hid (HW.out _ hmemL)
   have HNMF := hid (HNMS.out _ hmemL)
   have HNEW := hid (show f.num ∉ ((filL S).take k).map Prod.fst from by
    have h1 := HLN.out
    rw [← List.take_append_drop (k + 1) (filL S), HTK.out, List.map_append, List.map_append] at h1
    have h2 := (List.nodup_append.1 (List.nodup_append.1 h1).1).2.2
    intro h3
    exact h2 _ h3 _ (by simp) rfl)
   have HDL := hid (show f.nod.data.length ≤ 100000 from by
    obtain ⟨n', -, he⟩ := List.mem_map.1 hmemL
    injection he with he1 he2
    rw [← he2]
    cases hfn : fnd S.nodes n' with
    | none => exact Nat.zero_le _
    | some y => exact (HB.out n' y hfn).1)
   have HTHL := hid (show (thereL ((filL S).take (k + 1))).length ≤ 400000 from by
    have h1 := HEL.out
    have h2 : thereL (filL S) = thereL ((filL S).take (k + 1)) ++ thereL ((filL S).drop (k + 1)) := by
     unfold thereL
     rw [← List.flatMap_append, List.take_append_drop]
    have h3 := congrArg List.length h2
    rw [List.length_append] at h3
    omega)
   obtain ⟨FR, hFR⟩ := fvc_mem hfm
   obtain ⟨n, x, dv, wv, nm⟩ := f
   dsimp only at c0 c1 c2 c3 c4 c5 HTK HWF HNMF HNEW HDL
   have h1 : Has wr (FvC ⟨n, x, dv, wv, nm⟩ :: pt q (.cells C 142) :: _) := HO.out.perm (pmNa _ _ _ _ _ _ _ _ _ _ hFR)
   have h2 : Has wr (Bytes dv x.data :: Bools wv x.wr :: Nms nm x.names :: _) := fvc_iff.1 h1
   obtain ⟨p1, e1, rfl, -⟩ := (Bytes.rd h2).form
   obtain ⟨p2, e2, rfl, -⟩ := (Bools.rd h2.p1).form
   replace c3 : wr.cell? ⟨g2, o2 + k * 6 + 3, none⟩ = some (.slice p1 x.data.length e1) := c3
   replace c4 : wr.cell? ⟨g2, o2 + k * 6 + 4, none⟩ = some (.slice p2 x.wr.length e2) := c4
   have HFR := hid hFR
   have HO4 := hid (h2.alloc (.cells (fileC n x p1 e1 p2 e2 nm) 159))
   have HK4 := hid (HK.out.alloc (.cells (fileC n x p1 e1 p2 e2 nm) 159))
   have hf0 := (HO.out.alloc (.cells #[.int .i64 0, .int .i64 0, .int .i64 0, .slice none 0 0, .slice none 0 0, .map none] 159))
   have z0 := hf0.cells 0
   have HLKS := hid (show lnkL ((filL S).take (k + 1)) = putA (lnkL ((filL S).take k)) n x.links from by
    rw [putA_new _ (by unfold lnkL; rw [List.map_map]; exact HNEW.out), HTK.out]
    unfold lnkL
    rw [List.map_append]
    rfl)
   have HLKB := hid (show (lnkL ((filL S).take k)).length < 1000000 from by unfold lnkL; rw [List.length_map, List.length_take]; have := HLL.out; omega)
   clear hFR h1 h2 hf hfm hlk hmemL HO HK
   go_upto_region 5 with fail
   clear c0 c1 c2 c3 c4 c5 hf0 z0
   generalize wr.alloc (.cells (fileC n x p1 e1 p2 e2 nm) 159) = w4 at *
   generalize wr.heap.size = g4 at *
   have hg0 : w4.cell? ⟨g4, 0, none⟩ = some (.int .i64 n) := HO4.out.cells 0
   have hg2 : w4.cell? ⟨g4, 2, none⟩ = some (.int .i64 x.links) := HO4.out.cells 2
   go_upto_region 7 with (refine wpList_mkPut (show Has w4 (Mk kInt vInt b4 _ :: _) from HO4.out.re 9 [5, 0, 1, 2, 3, 4, 6, 7, 8]) HLKB.out tNu undNu rfl _ _ _ rfl rfl n HWF.out.1 rfl x.links HWF.out.2.1 rfl ?_; intro w6 hO6 hK6; simp only [Act.put])
   have HO6 := hid (show Has w6 (pt g4 (.cells (fileC n x p1 e1 p2 e2 nm) 159) :: pt q (.cells C 142) :: Bytes (.slice p1 x.data.length e1) x.data :: Bools (.slice p2 x.wr.length e2) x.wr :: Nms nm x.names :: Mk kInt vInt b4 (lnkL ((filL S).take (k + 1))) :: Mk kEnt vInt b5 T :: row (.slice (some ⟨g2, o2, none⟩) os.length c) 159 6 os.length (fivs os) :: Mk kInt vPf bf (zH X) :: (zC FilPC X ++ (FR ++ RR))) from by
    rw [HLKS.out]
    exact hO6.re 9 [1, 5, 2, 3, 4, 0, 6, 7, 8])
   have HK6 := hid (HK4.out.trans hK6)
   clear hO6 hK6 hg0 hg2 HO4 HK4
   have hq2 := HC2.out _ _ HO6.out.p1
   have hndX : (X.map Prod.fst).Nodup := by
    have h2 := Mk.nodup (show Has w6 (Mk kInt vPf bf (zH X) :: _) from HO6.out.re 9 [8])
    rw [zH_keys] at h2
    exact h2
   have hlk0 : (Instr.lookup tFm (.map (some bf)) (.int .i64 n) false).run Tryz.prog w6 = .ok (vPf.val ((fnd (zH X) n).getD vPf.z)) w6 := Mk.look0 (show Has w6 (Mk kInt vPf bf (zH X) :: _) from HO6.out.re 9 [8]) undFm HWF.out.1
   obtain ⟨pa, hpa, hpn⟩ := pV_form ((fnd (zH X) n).getD none)
   have hlk1 : (Instr.lookup tFm (.map (some bf)) (.int .i64 n) false).run Tryz.prog w6 = .ok (.pointer pa) w6 := by rw [← hpa]; exact hlk0
   have HPN := hid hpn
   have HNDX := hid hndX
   clear hlk0 hpa hpn hndX
   go_upto_if 37 with fail
   go_cut [] (fun wx => ∃ (X2 : List (Int × Option Nat × Fil)) (bF : Nat) (F0 : Fil), Hid (fnd (zH X2) n = some (some bF)) ∧ Hid (fnd (zB X2) n = some F0) ∧ Hid (F0 = (fnd (zB X) n).getD (newFil x.kind)) ∧ Hid (∀ F', putA (zB X2) n F' = putA (zB X) n F') ∧ Hid (Has wx (pt g4 (.cells (fileC n x p1 e1 p2 e2 nm) 159) :: pt q (.cells C 142) :: Bytes (.slice p1 x.data.length e1) x.data :: Bools (.slice p2 x.wr.length e2) x.wr :: Nms nm x.names :: Mk kInt vInt b4 (lnkL ((filL S).take (k + 1))) :: Mk kEnt vInt b5 T :: row (.slice (some ⟨g2, o2, none⟩) os.length c) 159 6 os.length (fivs os) :: Mk kInt vPf bf (zH X2) :: (zC FilPC X2 ++ (FR ++ RR)))) ∧ Hid (Keep w wx))
   case first =>
    clear hlk1 hq2
    obtain ⟨X0, hcase, hput⟩ := z_zip FilPC X n HNDX.out
    have HPUT := hid hput
    clear hput
    rcases hcase with ⟨h1, h2, h3⟩ | ⟨s, F, h1, h2, h3⟩
    ·have hpn2 : pa.isNone = true := by rw [HPN.out, h2]; rfl
     rw [hpn2]
     have HN1 := hid h1
     have HN2 := hid h2
     have HX0 := hid h3
     clear h1 h2 h3 hpn2
     go_upto_region 8 with fail
     have HOd := hid HO6.out.drew
     have HKd := hid HK6.out.drew
     clear HO6 HK6
     have hmm := @run_makeMap Tryz.prog
     refine region_text2 (qc := noQ) (fun w' => w'.cell? ⟨q, 2, none⟩ = some (.map (some bf)) ∧ w'.cell? ⟨g4, 1, none⟩ = some (.int .i64 x.kind)) 7 8 [_, _, _, _, _, _, _] [] _ _ _ (by kernel_rfl) (by kernel_rfl) (by rfl) rfl rfl rfl ⟨HC2.out _ _ HOd.out.p1, HOd.out.cells 1⟩ ?_
     simp only [List.cons_append, List.nil_append]
     generalize w6.drew = wd at *
     have HXL := hid (show (zH X).length < 1000000 from by
      have e1 := congrArg List.length HX.out
      rw [zB_len] at e1
      unfold zH
      rw [List.length_map, e1]
      have h1 := noteF_len Y0 ((filL S).take k)
      have h2 := HYL.out
      have h3 := HLL.out
      rw [List.length_take] at h1
      omega)
     have HBACK := hid (fun (w' : World) (gs gm gf : Nat) (h : Has w' (Mk kInt vPf bf (putA (zH X) n (some gf)) :: pt gf (.cells #[.int .i64 x.kind, sV [], .slice (some ⟨gs, 0, none⟩) 1 1, .map (some gm)] 216) :: row (.slice (some ⟨gs, 0, none⟩) 1 1) 3 1 1 (ic [0]) :: Mk kInt vSB gm [] :: pt g4 (.cells (fileC n x p1 e1 p2 e2 nm) 159) :: pt q (.cells C 142) :: Bytes (.slice p1 x.data.length e1) x.data :: Bools (.slice p2 x.wr.length e2) x.wr :: Nms nm x.names :: Mk kInt vInt b4 (lnkL ((filL S).take (k + 1))) :: Mk kEnt vInt b5 T :: row (.slice (some ⟨g2, o2, none⟩) os.length c) 159 6 os.length (fivs os) :: (zC FilPC X ++ (FR ++ RR)))) => (show ∃ (X2 : List (Int × Option Nat × Fil)) (bF : Nat) (F0 : Fil), Hid (fnd (zH X2) n = some (some bF)) ∧ Hid (fnd (zB X2) n = some F0) ∧ Hid (F0 = (fnd (zB X) n).getD (newFil x.kind)) ∧ Hid (∀ F', putA (zB X2) n F' = putA (zB X) n F') ∧ Hid (Has w' (pt g4 (.cells (fileC n x p1 e1 p2 e2 nm) 159) :: pt q (.cells C 142) :: Bytes (.slice p1 x.data.length e1) x.data :: Bools (.slice p2 x.wr.length e2) x.wr :: Nms nm x.names :: Mk kInt vInt b4 (lnkL ((filL S).take (k + 1))) :: Mk kEnt vInt b5 T :: row (.slice (some ⟨g2, o2, none⟩) os.length c) 159 6 os.length (fivs os) :: Mk kInt vPf bf (zH X2) :: (zC FilPC X2 ++ (FR ++ RR)))) from by
      obtain ⟨X2, hB, hH, hP⟩ := HPUT.out (some gf) (newFil x.kind)
      have h1 : Has w' (FilC gf (newFil x.kind) :: _) := filC_iff.2 ⟨.slice (some ⟨gs, 0, none⟩) 1 1, gm, (show Has w' (pt gf (.cells #[.int .i64 x.kind, sV [], .slice (some ⟨gs, 0, none⟩) 1 1, .map (some gm)] 216) :: rowF (.slice (some ⟨gs, 0, none⟩) 1 1) 3 1 (ic [0]) :: Zm kInt vSB gm (fun s ls => Blk (slvV s) ls) [] :: _) from by
       have h2 : Has w' (rowF (.slice (some ⟨gs, 0, none⟩) 1 1) 3 1 (ic [0]) :: _) := Has.rowF_row (show Has w' (row (.slice (some ⟨gs, 0, none⟩) 1 1) 3 1 1 (ic [0]) :: _) from h.re 4 [2, 3, 1, 0])
       have h3 := zm_iff.2 ⟨[], rfl, (show Has w' (Mk kInt vSB gm (zH []) :: (zC (fun s ls => Blk (slvV s) ls) [] ++ _)) from h2.p1)⟩
       exact h3.re 3 [2, 1, 0])⟩
      refine ⟨X2, gf, newFil x.kind, hid (by rw [hH, fnd_putA, if_pos rfl]), hid (by rw [hB, fnd_putA, if_pos rfl]), hid (by rw [HN1.out]; rfl), hid (fun F' => by rw [hB, putA_putA]), hid ?_⟩
      rw [hH]
      rw [HX0.out] at hP
      exact h1.perm (pmN4 (FilC gf (newFil x.kind)) _ _ _ _ _ _ _ _ _ _ _ _ _ hP)))
     repeat (first | refine wr2 ?_ | refine wk ?_)
     refine wpL_nil ⟨?_, ?_⟩
     ·refine wa fun K hK => ?_
      go_simp
      have HO8 := hid (show Has (wd.alloc (.cells #[.int .i64 0] 3)) (row (.slice (some ⟨wd.heap.size, 0, none⟩) 1 1) 3 1 1 (ic [0]) :: _) from (HOd.out.alloc (.cells #[.int .i64 0] 3)).row_of (n := 1) (cap := 1) (size := 1) (xs := ic [0]) (by decide) (by decide) rfl rfl rfl)
      have HK8 := hid (HKd.out.alloc (.cells #[.int .i64 0] 3))
      refine hK.out _ _ ⟨HC2.out _ _ HO8.out.p2, HO8.out.p1.cells 1⟩ ?_
      clear hK K
      try simp only [Act.put, List.setIfInBounds_toArray, List.set_cons_zero, List.set_cons_succ]
      generalize wd.alloc (.cells #[.int .i64 0] 3) = w8 at *
      generalize wd.heap.size = gs at *
      refine wa fun K hK => ?_
      go_simp
      have HO9 := hid (Mk.made HO8.out kInt vSB)
      have HK9 := hid (HK8.out.alloc (.map #[] 0))
      refine hK.out _ _ ⟨HC2.out _ _ HO9.out.p3, HO9.out.p2.cells 1⟩ ?_
      clear hK K
      try simp only [Act.put, List.setIfInBounds_toArray, List.set_cons_zero, List.set_cons_succ]
      generalize w8.alloc (.map #[] 0) = w9 at *
      generalize w8.heap.size = gm at *
      repeat (first | refine wr2 ?_ | refine wk ?_)
      refine wa fun K hK => ?_
      go_simp
      have HO10 := hid (HO9.out.alloc (.cells #[.int .i64 x.kind, sV [], .slice (some ⟨gs, 0, none⟩) 1 1, .map (some gm)] 216))
      have HK10 := hid (HK9.out.alloc (.cells #[.int .i64 x.kind, sV [], .slice (some ⟨gs, 0, none⟩) 1 1, .map (some gm)] 216))
      refine hK.out _ _ ⟨HC2.out _ _ HO10.out.p4, HO10.out.p3.cells 1⟩ ?_
      clear hK K
      try simp only [Act.put, List.setIfInBounds_toArray, List.set_cons_zero, List.set_cons_succ]
      generalize w9.alloc (.cells #[.int .i64 x.kind, sV [], .slice (some ⟨gs, 0, none⟩) 1 1, .map (some gm)] 216) = w10 at *
      generalize w9.heap.size = gf at *
      refine wa fun K hK => ?_
      refine wp_mkPut (show Has w10 (Mk kInt vPf bf (zH X) :: _) from HO10.out.re 12 [11, 0, 2, 1, 3, 4, 5, 6, 7, 8, 9, 10]) HXL.out tFm undFm _ _ _ rfl rfl n HWF.out.1 rfl (some gf) trivial rfl ?_
      intro w11 h11 k11
      have HO11 := hid h11
      have HK11 := hid (HK10.out.trans k11)
      clear h11 k11
      refine hK.out _ _ ⟨HC2.out _ _ (HO11.out.re 6 [5]), (HO11.out.re 5 [4]).cells 1⟩ ?_
      clear hK K
      try simp only [Act.put, List.setIfInBounds_toArray, List.set_cons_zero, List.set_cons_succ]
      refine wpL_nil ?_
      go_wp2_with fail
      go_meet
      obtain ⟨X2, bF, F0, q1, q2, q3, q4, q5⟩ := HBACK.out _ gs gm gf HO11.out
      exact ⟨X2, bF, F0, q1, q2, q3, q4, q5, HK11⟩
     ·refine wa fun K hK => ?_
      go_simp
      have HO8 := hid (Mk.made HOd.out kInt vSB)
      have HK8 := hid (HKd.out.alloc (.map #[] 0))
      refine hK.out _ _ ⟨HC2.out _ _ HO8.out.p2, HO8.out.p1.cells 1⟩ ?_
      clear hK K
      try simp only [Act.put, List.setIfInBounds_toArray, List.set_cons_zero, List.set_cons_succ]
      generalize wd.alloc (.map #[] 0) = w8 at *
      generalize wd.heap.size = gm at *
      refine wa fun K hK => ?_
      go_simp
      have HO9 := hid (show Has (w8.alloc (.cells #[.int .i64 0] 3)) (row (.slice (some ⟨w8.heap.size, 0, none⟩) 1 1) 3 1 1 (ic [0]) :: _) from (HO8.out.alloc (.cells #[.int .i64 0] 3)).row_of (n := 1) (cap := 1) (size := 1) (xs := ic [0]) (by decide) (by decide) rfl rfl rfl)
      have HK9 := hid (HK8.out.alloc (.cells #[.int .i64 0] 3))
      refine hK.out _ _ ⟨HC2.out _ _ HO9.out.p3, HO9.out.p2.cells 1⟩ ?_
      clear hK K
      try simp only [Act.put, List.setIfInBounds_toArray, List.set_cons_zero, List.set_cons_succ]
      generalize w8.alloc (.cells #[.int .i64 0] 3) = w9 at *
      generalize w8.heap.size = gs at *
      have HO9 := hid HO9.out.p1
      repeat (first | refine wr2 ?_ | refine wk ?_)
      refine wa fun K hK => ?_
      go_simp
      have HO10 := hid (HO9.out.alloc (.cells #[.int .i64 x.kind, sV [], .slice (some ⟨gs, 0, none⟩) 1 1, .map (some gm)] 216))
      have HK10 := hid (HK9.out.alloc (.cells #[.int .i64 x.kind, sV [], .slice (some ⟨gs, 0, none⟩) 1 1, .map (some gm)] 216))
      refine hK.out _ _ ⟨HC2.out _ _ HO10.out.p4, HO10.out.p3.cells 1⟩ ?_
      clear hK K
      try simp only [Act.put, List.setIfInBounds_toArray, List.set_cons_zero, List.set_cons_succ]
      generalize w9.alloc (.cells #[.int .i64 x.kind, sV [], .slice (some ⟨gs, 0, none⟩) 1 1, .map (some gm)] 216) = w10 at *
      generalize w9.heap.size = gf at *
      refine wa fun K hK => ?_
      refine wp_mkPut (show Has w10 (Mk kInt vPf bf (zH X) :: _) from HO10.out.re 12 [11, 0, 2, 1, 3, 4, 5, 6, 7, 8, 9, 10]) HXL.out tFm undFm _ _ _ rfl rfl n HWF.out.1 rfl (some gf) trivial rfl ?_
      intro w11 h11 k11
      have HO11 := hid h11
      have HK11 := hid (HK10.out.trans k11)
      clear h11 k11
      refine hK.out _ _ ⟨HC2.out _ _ (HO11.out.re 6 [5]), (HO11.out.re 5 [4]).cells 1⟩ ?_
      clear hK K
      try simp only [Act.put, List.setIfInBounds_toArray, List.set_cons_zero, List.set_cons_succ]
      refine wpL_nil ?_
      go_wp2_with fail
      go_meet
      obtain ⟨X2, bF, F0, q1, q2, q3, q4, q5⟩ := HBACK.out _ gs gm gf HO11.out
      exact ⟨X2, bF, F0, q1, q2, q3, q4, q5, HK11⟩
    ·cases s with
     | none =>
      exfalso
      have h4 := HO6.out.re 9 [0]
      have h5 : Has w6 (zC FilPC X ++ _) := h4.drop
      have h6 : Has w6 (fact False :: _) := h5.perm (h3.append_right _)
      exact (Has.fact_iff.1 h6).1
     | some bF =>
      have hpn2 : pa.isNone = false := by rw [HPN.out, h2]; rfl
      rw [hpn2]
      have HN1 := hid h1
      have HN2 := hid h2
      clear h1 h2 h3 hpn2 HPUT
      go_wp2_with fail
      go_meet
      exact ⟨X, bF, F, HN2, HN1, hid (by rw [HN1.out]; rfl), hid (fun _ => rfl), HO6, HK6⟩
   case rest =>
    obtain ⟨X2, bF, F0, HH2, HB2, HF0, HP2, HO7, HK7⟩ := hcut
    clear HPN hlk1 hq2 HO6 HK6
    generalize wc = w7 at *
    have hq2 := HC2.out _ _ HO7.out.p1
    have hlk1 : (Instr.lookup tFm (.map (some bf)) (.int .i64 n) false).run Tryz.prog w7 = .ok (.pointer (some ⟨bF, 0, none⟩)) w7 := by
     have h1 := Mk.look0 (V := vPf) (show Has w7 (Mk kInt vPf bf (zH X2) :: _) from HO7.out.re 9 [8]) undFm (x := n) HWF.out.1
     rw [HH2.out] at h1
     exact h1
    have hg1 : w7.cell? ⟨g4, 1, none⟩ = some (.int .i64 x.kind) := HO7.out.cells 1
    have hg3 : w7.cell? ⟨g4, 3, none⟩ = some (.slice p1 x.data.length e1) := HO7.out.cells 3
    have HND2 := hid (show (X2.map Prod.fst).Nodup from by
     have h2 := Mk.nodup (show Has w7 (Mk kInt vPf bf (zH X2) :: _) from HO7.out.re 9 [8])
     rw [zH_keys] at h2
     exact h2)
    have HFK := hid (show FilOk F0 K from by
     rw [HF0.out, HX.out, noteF_other _ _ HNEW.out]
     cases hfy : fnd Y0 n with
     | none => exact FilOk.new _ HKO.out
     | some F => exact HY.out _ (fnd_some hfy))
    go_upto_block 2 with fail
    go_cut [] (fun wx => ∃ (X3 : List (Int × Option Nat × Fil)), Hid (zB X3 = note1 (zB X) (n, x)) ∧ Hid (Has wx (pt g4 (.cells (fileC n x p1 e1 p2 e2 nm) 159) :: pt q (.cells C 142) :: Bytes (.slice p1 x.data.length e1) x.data :: Bools (.slice p2 x.wr.length e2) x.wr :: Nms nm x.names :: Mk kInt vInt b4 (lnkL ((filL S).take (k + 1))) :: Mk kEnt vInt b5 T :: row (.slice (some ⟨g2, o2, none⟩) os.length c) 159 6 os.length (fivs os) :: Mk kInt vPf bf (zH X3) :: (zC FilPC X3 ++ (FR ++ RR)))) ∧ Hid (Keep w wx))
    case first =>
     obtain ⟨X0, hcase, hput⟩ := z_zip FilPC X2 n HND2.out
     rcases hcase with ⟨h1, -, -⟩ | ⟨s, F, h1, h2, h3⟩
     ·have h9 := HB2.out
      rw [h1] at h9
      cases h9
     obtain rfl : s = some bF := by have h9 := HH2.out; rw [h2] at h9; exact Option.some.inj h9
     obtain rfl : F = F0 := by have h9 := HB2.out; rw [h1] at h9; exact Option.some.inj h9
     have HPUT := hid hput
     have HZP := hid h3
     clear h1 h2 h3 hput
     by_cases hk1 : x.kind = 1
     ·have hkb : (x.kind == 1) = true := by rw [hk1]; rfl
      have HNF := hid (show noteFil x F = F.write x.data from by unfold noteFil; rw [if_pos hk1])
      clear hk1
      go_upto_region 11 with fail
      have HOd := hid ((HO7.out.drew).perm (pmNb _ _ _ _ _ _ _ _ _ (FilC bF F) _ _ _ HZP.out))
      have HKd := hid HK7.out.drew
      clear hlk1 hq2 hg1 hg3 HO7 HK7
      have hlk1 : (Instr.lookup tFm (.map (some bf)) (.int .i64 n) false).run Tryz.prog w7.drew = .ok (.pointer (some ⟨bF, 0, none⟩)) w7.drew := by
       have h1 := Mk.look0 (V := vPf) (show Has w7.drew (Mk kInt vPf bf (zH X2) :: _) from HOd.out.re 10 [9]) undFm (x := n) HWF.out.1
       rw [HH2.out] at h1
       exact h1
      refine region_text (fun w' => w'.cell? ⟨q, 2, none⟩ = some (.map (some bf)) ∧ w'.cell? ⟨g4, 3, none⟩ = some (.slice p1 x.data.length e1) ∧ (Instr.lookup tFm (.map (some bf)) (.int .i64 n) false).run Tryz.prog w' = .ok (.pointer (some ⟨bF, 0, none⟩)) w') (by kernel_rfl) (by kernel_rfl) ⟨HC2.out _ _ HOd.out.p3, HOd.out.p2.cells 3, hlk1⟩ ?_
      clear hlk1
      generalize w7.drew = wd at *
      repeat (first | refine wr3 ?_ | refine wk ?_)
      refine wa fun K' hK' => ?_
      go_simp
      refine (mWrite bF F (.slice p1 x.data.length e1) x.data K wd _ HFK.out HK0.out HDL.out (fun w' h => Bytes.rd h) HOd.out).mono ?_
      rintro e w8 ⟨rfl, h8, k8⟩
      have HO8 := hid (show Has w8 (FilC bF (F.write x.data) :: Bytes (.slice p1 x.data.length e1) x.data :: pt g4 (.cells (fileC n x p1 e1 p2 e2 nm) 159) :: pt q (.cells C 142) :: Bools (.slice p2 x.wr.length e2) x.wr :: Nms nm x.names :: Mk kInt vInt b4 (lnkL ((filL S).take (k + 1))) :: Mk kEnt vInt b5 T :: row (.slice (some ⟨g2, o2, none⟩) os.length c) 159 6 os.length (fivs os) :: Mk kInt vPf bf (zH X2) :: (zC FilPC X0 ++ (FR ++ RR))) from h8)
      have HK8 := hid (HKd.out.trans k8)
      have hlk1 : (Instr.lookup tFm (.map (some bf)) (.int .i64 n) false).run Tryz.prog w8 = .ok (.pointer (some ⟨bF, 0, none⟩)) w8 := by
       have h1 := Mk.look0 (V := vPf) (show Has w8 (Mk kInt vPf bf (zH X2) :: _) from HO8.out.re 10 [9]) undFm (x := n) HWF.out.1
       rw [HH2.out] at h1
       exact h1
      clear h8 k8 HOd HKd
      refine hK'.out _ _ ⟨HC2.out _ _ HO8.out.p3, HO8.out.p2.cells 3, hlk1⟩ ?_
      clear hK' K' hlk1
      try simp only [Act.put, List.setIfInBounds_toArray, List.set_cons_zero, List.set_cons_succ]
      refine wpL_nil ?_
      go_wp2_with fail
      go_meet
      obtain ⟨X3, hB, hH, hP⟩ := HPUT.out (some bF) (F.write x.data)
      refine ⟨X3, hid ?_, hid ?_, HK8⟩
      ·rw [hB, HP2.out]
       unfold note1
       dsimp only
       rw [← HF0.out, HNF.out]
      ·rw [hH, putA_same _ _ _ (by rw [zH_keys]; exact HND2.out) HH2.out]
       exact HO8.out.perm (pmNb _ _ _ _ _ _ _ _ _ _ _ _ _ hP).symm
     ·have hkb : (x.kind == 1) = false := by simp [hk1]
      by_cases hk3 : x.kind = 3
      ·have hkc : (x.kind == 3) = true := by rw [hk3]; rfl
       have HNF := hid (show noteFil x F = { F with target := strOf x.data } from by unfold noteFil; rw [if_neg hk1, if_pos hk3])
       clear hk1 hk3
       go_upto_region 13 with fail
       have HOd := hid ((HO7.out.drew).perm (pmNb _ _ _ _ _ _ _ _ _ (FilC bF F) _ _ _ HZP.out))
       have HKd := hid HK7.out.drew
       clear hlk1 hq2 hg1 hg3 HO7 HK7
       have hlk1 : (Instr.lookup tFm (.map (some bf)) (.int .i64 n) false).run Tryz.prog w7.drew = .ok (.pointer (some ⟨bF, 0, none⟩)) w7.drew := by
        have h1 := Mk.look0 (V := vPf) (show Has w7.drew (Mk kInt vPf bf (zH X2) :: _) from HOd.out.re 10 [9]) undFm (x := n) HWF.out.1
        rw [HH2.out] at h1
        exact h1
       have hcv := strOf_conv (Bytes.rd HOd.out.p1)
       obtain ⟨sv, mb, h8⟩ := filC_iff.1 HOd.out
       have HO8 := hid h8
       refine region_tail1 (fun w' => w'.cell? ⟨q, 2, none⟩ = some (.map (some bf)) ∧ w'.cell? ⟨g4, 3, none⟩ = some (.slice p1 x.data.length e1) ∧ (Instr.lookup tFm (.map (some bf)) (.int .i64 n) false).run Tryz.prog w' = .ok (.pointer (some ⟨bF, 0, none⟩)) w' ∧ (convert 31 9 (.slice p1 x.data.length e1)).run Tryz.prog w' = .ok (sV (strOf x.data)) w') (by kernel_rfl) (by kernel_rfl) (by kernel_rfl) (by decide) ⟨HC2.out _ _ HOd.out.p3, HOd.out.p2.cells 3, hlk1, hcv⟩ ?_
       clear hlk1 hcv h8 HOd
       generalize w7.drew = wd at *
       repeat (first | refine wr4 ?_ | refine wk ?_)
       refine wpL_nil ?_
       refine wpOp_last rfl (by rfl) ?_
       have hcb : wd.cell? ⟨bF, 1, none⟩ = some (sV F.target) := HO8.out.cells 1
       have htb := HO8.out.thaw 1
       go_simp
       have HO9 := hid (show Has (wd.setCell ⟨bF, 1, none⟩ (sV (strOf x.data))) (FilC bF { F with target := strOf x.data } :: Bytes (.slice p1 x.data.length e1) x.data :: pt g4 (.cells (fileC n x p1 e1 p2 e2 nm) 159) :: pt q (.cells C 142) :: Bools (.slice p2 x.wr.length e2) x.wr :: Nms nm x.names :: Mk kInt vInt b4 (lnkL ((filL S).take (k + 1))) :: Mk kEnt vInt b5 T :: row (.slice (some ⟨g2, o2, none⟩) os.length c) 159 6 os.length (fivs os) :: Mk kInt vPf bf (zH X2) :: (zC FilPC X0 ++ (FR ++ RR))) from filC_iff.2 ⟨sv, mb, HO8.out.set 1 (sV (strOf x.data))⟩)
       have HK9 := hid (HKd.out.set ⟨bF, 1, none⟩ (sV (strOf x.data)))
       clear hcb htb HO8 HKd
       generalize wd.setCell ⟨bF, 1, none⟩ (sV (strOf x.data)) = w9 at *
       go_wp2_with fail
       go_meet
       obtain ⟨X3, hB, hH, hP⟩ := HPUT.out (some bF) { F with target := strOf x.data }
       refine ⟨X3, hid ?_, hid ?_, HK9⟩
       ·rw [hB, HP2.out]
        unfold note1
        dsimp only
        rw [← HF0.out, HNF.out]
       ·rw [hH, putA_same _ _ _ (by rw [zH_keys]; exact HND2.out) HH2.out]
        exact HO9.out.perm (pmNb _ _ _ _ _ _ _ _ _ _ _ _ _ hP).symm
      ·have hkc : (x.kind == 3) = false := by simp [hk3]
       have HNF := hid (show noteFil x F = F from by unfold noteFil; rw [if_neg hk1, if_neg hk3])
       clear hk1 hk3
       go_wp2_with fail
       go_meet
       refine ⟨X2, hid ?_, HO7, HK7⟩
       unfold note1
       dsimp only
       rw [← HF0.out, HNF.out, ← HP2.out]
       exact (putA_same _ _ _ (by rw [zB_keys]; exact HND2.out) HB2.out).symm
    case rest =>
     obtain ⟨X3, HX3, HO8, HK8⟩ := hcut
     clear HH2 HB2 HF0 HP2 HO7 HK7 hq2 hlk1 hg1 hg3 HND2 HFK
     generalize wc = w8 at *
     have HXK := hid (show zB X3 = noteF Y0 ((filL S).take (k + 1)) from by
      rw [HX3.out, HX.out, HTK.out]
      unfold noteF
      rw [List.foldl_append]
      rfl)
     have hg5 : w8.cell? ⟨g4, 5, none⟩ = some (.map nm) := HO8.out.cells 5
     have HTR := hid (ThR.start (n := n) (names := x.names) HT.out.1 HT.out.2)
     have HBCK := hid (fun (w' : World) (T' : List (Ent × Int)) (h : Has w' (Nms nm x.names :: Mk kEnt vInt b5 T' :: pt q (.cells C 142) :: Bytes (.slice p1 x.data.length e1) x.data :: Bools (.slice p2 x.wr.length e2) x.wr :: Mk kInt vInt b4 (lnkL ((filL S).take (k + 1))) :: row (.slice (some ⟨g2, o2, none⟩) os.length c) 159 6 os.length (fivs os) :: Mk kInt vPf bf (zH X3) :: (zC FilPC X3 ++ (FR ++ RR)))) => (show Has w' (pt q (.cells C 142) :: Mk kInt vInt b4 (lnkL ((filL S).take (k + 1))) :: Mk kEnt vInt b5 T' :: row (.slice (some ⟨g2, o2, none⟩) os.length c) 159 6 os.length (fivs os) :: Mk kInt vPf bf (zH X3) :: (zC FilPC X3 ++ (os.map FvC ++ RR))) from by
      have h1 : Has w' (FvC ⟨n, x, .slice p1 x.data.length e1, .slice p2 x.wr.length e2, nm⟩ :: _) := fvc_iff.2 (h.re 8 [3, 4, 0, 2, 5, 1, 6, 7])
      exact h1.perm (pmNa _ _ _ _ _ _ _ _ _ _ HFR.out).symm))
     have HO9 := hid (show Has w8 (Nms nm x.names :: Mk kEnt vInt b5 T :: pt q (.cells C 142) :: Bytes (.slice p1 x.data.length e1) x.data :: Bools (.slice p2 x.wr.length e2) x.wr :: Mk kInt vInt b4 (lnkL ((filL S).take (k + 1))) :: row (.slice (some ⟨g2, o2, none⟩) os.length c) 159 6 os.length (fivs os) :: Mk kInt vPf bf (zH X3) :: (zC FilPC X3 ++ (FR ++ RR))) from HO8.out.re 9 [4, 6, 1, 2, 3, 5, 7, 8])
     obtain ⟨QR, hQR⟩ : ∃ QR, QR = pt q (.cells C 142) :: Bytes (.slice p1 x.data.length e1) x.data :: Bools (.slice p2 x.wr.length e2) x.wr :: Mk kInt vInt b4 (lnkL ((filL S).take (k + 1))) :: row (.slice (some ⟨g2, o2, none⟩) os.length c) 159 6 os.length (fivs os) :: Mk kInt vPf bf (zH X3) :: (zC FilPC X3 ++ (FR ++ RR)) := ⟨_, rfl⟩
     rw [← hQR] at HO9
     rw [← hQR] at HBCK
     clear hQR HO8 HX3
     have hkL : (os.length : Int) ≤ 100000 := by have := HOL.out; omega
     cases nm with
     | none =>
      have hrn := range_nil
      have hnx := next_nil w8.heap.size (w8.alloc (.mapIter none 0 #[] 0)) 0 (by show (Array.push _ _)[_]? = _; simp)
      have hnn : x.names = [] := (Has.fact_iff.1 (show Has w8 (fact (x.names = []) :: _) from HO9.out)).1
      have HTN := hid (show (T.map Prod.fst).Nodup ∧ ∀ p, p ∈ T ↔ p ∈ thereL ((filL S).take (k + 1)) from by
       rw [HTK.out]
       refine ⟨HT.out.1, ThR.done (n := n) (x := x) ?_⟩
       have h1 := HTR.out
       rw [hnn] at h1 ⊢
       exact h1)
      have HO10 := hid (HBCK.out _ _ (HO9.out.alloc' (.mapIter none 0 #[] 0)))
      clear hnn
      go_wp2_with fail
      go_loopw [] (fun w' => w' = w8.alloc (.mapIter none 0 #[] 0)) (fun _ => 0)
      case atStart => rfl
      case round =>
       subst hrel
       go_wp2_with fail
       exact ⟨⟨k + 1, T, X3, by omega, by go_num, HTN, HXK, HO10, hid (HK8.out.alloc _)⟩, by simp [intOf]; omega⟩
     | some m =>
      have HO10 := hid (show Has w8 (Mk kStr vInt m x.names :: Mk kEnt vInt b5 T :: QR) from HO9.out)
      clear HO9
      go_wp2_with (at_range; refine wpList_mkStart HO10.out tNm undNm rfl _ rfl rfl ?_; intro w9 hO9 hK9 hs9)
      try go_frame
      have HO9 := hid hO9
      have HK9 := hid (HK8.out.trans hK9)
      clear hO9 hK9 hs9 hg5 HO10 HK8
      generalize w8.heap.size = r at *
      generalize x.names.map Prod.fst = rem0 at HTR HO9 ⊢
      generalize x.names.length = cnt0 at HO9 ⊢
      go_loopw [] (fun w' => ∃ (T' : List (Ent × Int)) (rem : List Str) (cnt : Nat), Hid (ThR ((filL S).take k) n x.names T' rem) ∧ Hid (Has w' (Mr kStr vInt m r x.names rem cnt :: Mk kEnt vInt b5 T' :: QR)) ∧ Hid (Keep w w')) (fun w' => w'.rangeLeft m r)
      case atStart => exact ⟨T, rem0, cnt0, HTR, HO9, HK9⟩
      case round =>
       clear HO9 HK9 HTR
       obtain ⟨T', rem, cnt, HTR, HO, HK⟩ := hrel
       have hleft := Mr.left HO.out
       have HLF := hid hleft
       go_wp2_with (at_next; refine wpList_mkNext HO.out rfl _ rfl rfl ?_ ?_)
       ·intro hrem
        subst hrem
        have HTN := hid (show (T'.map Prod.fst).Nodup ∧ ∀ p, p ∈ T' ↔ p ∈ thereL ((filL S).take (k + 1)) from by
         rw [HTK.out]
         exact ⟨HTR.out.nd, HTR.out.done⟩)
        have HO11 := hid (HBCK.out _ _ (show Has _ (Mk kStr vInt m x.names :: _) from Mr.end HO.out))
        clear hleft HO
        go_wp2_with fail
        exact ⟨⟨k + 1, T', X3, by omega, by go_num, HTN, HXK, HO11, HK⟩, by simp [intOf]; omega⟩
       ·rintro s ch w10 cnt' hp hr hky hO10 hlt10 hK10 hsz hen
        simp only [kStr_val, vInt_val] at hen ⊢
        have HSTP := hid (HTR.out.step HNEW.out HNMF.out hr hp)
        have HO11 := hid (show Has w10 (Mk kEnt vInt b5 T' :: Mr kStr vInt m r x.names (rem.filter fun y => !decide (y = s)) cnt' :: QR) from hO10.p1)
        have HTLN := hid (show T'.length < 1000000 from by
         have h1 := HTR.out.len
         rw [← HTK.out] at h1
         have := HTHL.out
         omega)
        have HOKE := hid (show okEnt ((n, s) : Ent) from ⟨HWF.out.1, hky⟩)
        have HWC := hid (HWF.out.2.2 _ hp)
        have HL10 := hid hlt10
        have HK11 := hid (HK.out.trans hK10)
        clear hp hr hky hO10 hlt10 hK10 hsz hleft HO HK HTR
        go_wp2_with (refine wpList_mkPut HO11.out HTLN.out tTh undTh rfl _ _ _ rfl rfl ((n, s) : Ent) HOKE.out rfl ch HWC.out rfl ?_; intro w12 hO12 hK12; simp only [Act.put])
        have hleft12 := Mr.left hO12.p1
        have HO12 := hid hO12.p1
        try go_wp2_with fail
        exact ⟨⟨_, _, cnt', HSTP, HO12, hid (HK11.out.trans hK12)⟩, by rw [hleft12, HLF.out]; exact HL10.out⟩
  ·as_aux_lemma =>
   obtain rfl : k = os.length := by omega
   have hki : ¬ (os.length : Int) < (os.length : Int) := by omega
   have htk : (filL S).take os.length = filL S := by
    have h1 := congrArg List.length HM.out
    rw [List.length_map] at h1
    rw [h1, List.take_length]
   rw [htk] at HT HX HO
   obtain ⟨l, hl⟩ : ∃ l, filL S = l := ⟨_, rfl⟩
   have HLN := HLN
   have HPT := hid (thereL_perm HT.out.1 HT.out.2 HLN.out HNMS.out)
   rw [hl] at HPT HX HO HEL HLN HNMS
   have HLQ := hid hl
   obtain ⟨TT, hTT⟩ : ∃ TT, thereL l = TT := ⟨_, rfl⟩
   rw [hTT] at HPT HEL
   have HTQ := hid hTT
   have h1 : Has wr (zC FilPC X ++ (os.map FvC ++ (Mk kInt vPf bf (zH X) :: Mk kEnt vInt b5 T :: Mk kInt vInt b4 (lnkL l) :: pt q (.cells C 142) :: RR))) := (show Has wr (pt q (.cells C 142) :: Mk kInt vInt b4 (lnkL l) :: Mk kEnt vInt b5 T :: Mk kInt vPf bf (zH X) :: (zC FilPC X ++ (os.map FvC ++ RR))) from HO.out.re 5 [0, 1, 2, 4]).perm (pmN5 _ _ _ _ _ _ _)
   have h2 : Has wr (os.map FvC ++ (Mk kInt vPf bf (zH X) :: (zC FilPC X ++ (Mk kEnt vInt b5 T :: Mk kInt vInt b4 (lnkL l) :: pt q (.cells C 142) :: RR)))) := h1.perm (pmN6 _ _ _ _ _ _ _)
   have h3 := zm_iff.2 ⟨X, HX.out, has_drops _ h2⟩
   have h4 : Has wr (Mk kEnt vInt b5 TT :: Mk kInt vInt b4 (lnkL l) :: pt q (.cells C 142) :: Flz bf (noteF Y0 l) :: Trc tq S :: Mk kInt vMrk bm M :: Ety b E :: L) := by
    have h5 := (h3.re 4 [1, 2, 3, 0])
    rw [HRR.out] at h5
    exact Mk.perm h5 HPT.out
   have HNDT := hid (Mk.nodup h4)
   obtain ⟨XE, hXE, h5⟩ := ety_iff.1 (show Has wr (Ety b E :: _) from h4.re 7 [6, 0, 1, 2, 3, 4, 5])
   obtain ⟨es, cl, h6⟩ := Mx.of_mk h5
   obtain ⟨R2, hR2⟩ : ∃ R2, R2 = Mk kEnt vInt b5 TT :: Mk kInt vInt b4 (lnkL l) :: Flz bf (noteF Y0 l) :: Trc tq S :: Mk kInt vMrk bm M :: L := ⟨_, rfl⟩
   have HR2 := hid hR2
   have HO4 := hid (show Has wr (EtX b es cl XE :: pt q (.cells C 142) :: (zC EntC XE ++ R2)) from by
    rw [hR2]
    exact h6.perm (pmN7 _ _ _ _ _ _ _ _ _))
   have HXE := hid (show zB XE = mapK (setT TT) E ((zH XE).map Prod.fst) from by rw [hXE, zH_keys, ← zB_keys, hXE, mapK_all])
   have hq4 := HC4.out _ _ HO4.out.p1
   clear h1 h2 h3 h4 h5 h6 hXE hR2 htk hlt hk HO HT HX HPT HM HNMS HB
   as_aux_lemma =>
   go_wp2_with (at_range; refine wpList_mxStart HO4.out tEm undEm rfl _ rfl rfl ?_; intro w5 hO5 hK5 hs5)
   try go_frame
   have HO5 := hid (show Has w5 (pt q (.cells C 142) :: EtX b es cl XE :: It kEnt vSI b wr.heap.size es cl ((zH XE).map Prod.fst) (zH XE).length :: (zC EntC XE ++ R2)) from hO5.re 3 [2, 0, 1])
   have HK5 := hid (HK.out.trans hK5)
   clear hO5 hK5 hs5 hq4 HO4 HK
   generalize wr.heap.size = r at *
   generalize (zH XE).map Prod.fst = rem0 at *
   generalize (zH XE).length = cnt0 at *
   go_loopw [] (fun w' => ∃ (es : Array MapEntry) (cl : Nat) (X : List (Ent × Slv × List Int)) (rem : List Ent) (cnt : Nat), Hid (zB X = mapK (setT TT) E rem) ∧ Hid (Has w' (pt q (.cells C 142) :: EtX b es cl X :: It kEnt vSI b r es cl rem cnt :: (zC EntC X ++ R2))) ∧ Hid (Keep w w')) (fun w' => w'.rangeLeft b r)
   case atStart => exact ⟨es, cl, XE, rem0, cnt0, HXE, HO5, HK5⟩
   case round =>
    clear HO5 HK5 HXE es cl XE rem0 cnt0
    obtain ⟨es, cl, X, rem, cnt, HX, HO, HK⟩ := hrel
    have HOX := hid (show Has _ (EtX b es cl X :: It kEnt vSI b r es cl rem cnt :: pt q (.cells C 142) :: (zC EntC X ++ R2)) from HO.out.re 3 [1, 2, 0])
    have hleft := Mx.left HOX.out
    have HLF := hid hleft
    clear HO
    go_wp2_with (at_next; refine wpList_mxNext HOX.out rfl _ rfl rfl ?_ ?_)
    ·intro hrem
     subst hrem
     have h1 := Mr.end (Mx.mr HOX.out)
     have h2 := ety_iff.2 ⟨X, HX.out, (show Has _ (Mk kEnt vSI b (zH X) :: (zC EntC X ++ (pt q (.cells C 142) :: R2))) from h1.perm (.cons _ (List.perm_middle.symm)))⟩
     have HO4 := hid (show Has _ (Mk kEnt vInt b5 TT :: pt q (.cells C 142) :: Ety b (mapK (setT TT) E []) :: Mk kInt vInt b4 (lnkL l) :: Flz bf (noteF Y0 l) :: Trc tq S :: Mk kInt vMrk bm M :: L) from by
      rw [HR2.out] at h2
      exact h2.re 3 [2, 1, 0])
     clear hleft h1 h2 HOX HLF HX HR2
     as_aux_lemma =>
     go_wp2_with (at_range; refine wpList_mkStart HO4.out tTh undTh rfl _ rfl rfl ?_; intro w5 hO5 hK5 hs5)
     try go_frame
     have HO5 := hid (show Has w5 (pt q (.cells C 142) :: Ety b (mapK (setT TT) E []) :: Mr kEnt vInt b5 _ TT (TT.map Prod.fst) TT.length :: Mk kInt vInt b4 (lnkL l) :: Flz bf (noteF Y0 l) :: Trc tq S :: Mk kInt vMrk bm M :: L) from hO5.re 3 [1, 2, 0])
     have HK5 := hid (HK.out.trans hK5)
     have HS0 := hid (SetR.start (T := TT) HNDE.out (rem := TT.map Prod.fst) (fun e => Iff.rfl))
     clear hO5 hK5 hs5 HO4 HK
     generalize wr.heap.size = r5 at *
     generalize TT.map Prod.fst = rem0 at HO5 HS0 ⊢
     generalize TT.length = cnt0 at HO5 ⊢
     go_loopw [] (fun w' => ∃ (t : List (Ent × List Int)) (rem : List Ent) (cnt : Nat), Hid (SetR TT E t rem) ∧ Hid (Has w' (pt q (.cells C 142) :: Ety b t :: Mr kEnt vInt b5 r5 TT rem cnt :: Mk kInt vInt b4 (lnkL l) :: Flz bf (noteF Y0 l) :: Trc tq S :: Mk kInt vMrk bm M :: L)) ∧ Hid (Keep w w')) (fun w' => w'.rangeLeft b5 r5)
     case atStart => exact ⟨_, rem0, cnt0, HS0, HO5, HK5⟩
     case round =>
      clear HO5 HK5 HS0 rem0 cnt0
      obtain ⟨t, rem, cnt, HS, HO, HK⟩ := hrel
      have HOX := hid (show Has _ (Mr kEnt vInt b5 r5 TT rem cnt :: pt q (.cells C 142) :: Ety b t :: Mk kInt vInt b4 (lnkL l) :: Flz bf (noteF Y0 l) :: Trc tq S :: Mk kInt vMrk bm M :: L) from HO.out.re 3 [2, 0, 1])
      have hleft := Mr.left HOX.out
      have HLF := hid hleft
      clear HO
      go_wp2_with (at_next; refine wpList_mkNext HOX.out rfl _ rfl rfl ?_ ?_)
      ·intro hrem
       subst hrem
       have h1 : Has _ (Mk kEnt vInt b5 TT :: _) := Mr.end HOX.out
       have h2 := zm_perm (show Has _ (Zm kEnt vSI b EntC t :: _) from h1.re 3 [2, 0, 1]) (HS.out.perm HNDE.out HNDT.out)
       have HO4 := hid (show Has _ (Mk kInt vMrk bm M :: Mk kInt vInt b4 (lnkL l) :: pt q (.cells C 142) :: Ety b (noteE TT E) :: Flz bf (noteF Y0 l) :: Trc tq S :: L) from h2.re 7 [6, 3, 2, 0, 4, 5])
       clear hleft h1 h2 HOX HLF HS
       as_aux_lemma =>
       have hq3 := HC3.out _ _ (HO4.out.re 3 [2, 0, 1])
       have HNDM := hid (Mk.nodup HO4.out)
       go_wp2_with (at_range; refine wpList_mkStart HO4.out tMm undMm rfl _ rfl rfl ?_; intro w5 hO5 hK5 hs5)
       try go_frame
       have HO5 := hid hO5
       have HK5 := hid (HK.out.trans hK5)
       clear hO5 hK5 hs5 HO4 HK hq3
       generalize wr.heap.size = r7 at *
       have HS0 := hid (mapK_all (noteK l) M)
       generalize M.map Prod.fst = rem0 at HO5 HS0 ⊢
       replace HO5 := hid (show Has w5 (Mr kInt vMrk bm r7 (mapK (noteK l) M rem0) rem0 M.length :: Mk kInt vInt b4 (lnkL l) :: pt q (.cells C 142) :: Ety b (noteE TT E) :: Flz bf (noteF Y0 l) :: Trc tq S :: L) from by rw [HS0.out]; exact HO5.out)
       generalize M.length = cnt0 at HO5 ⊢
       obtain ⟨R7, hR7⟩ : ∃ R7, R7 = pt q (.cells C 142) :: Ety b (noteE TT E) :: Flz bf (noteF Y0 l) :: Trc tq S :: L := ⟨_, rfl⟩
       have HR7 := hid hR7
       rw [← hR7] at HO5
       clear hR7 HS0
       go_loopw [] (fun w' => ∃ (rem : List Int) (cnt : Nat), Hid (Has w' (Mr kInt vMrk bm r7 (mapK (noteK l) M rem) rem cnt :: Mk kInt vInt b4 (lnkL l) :: R7)) ∧ Hid (Keep w w')) (fun w' => w'.rangeLeft bm r7)
       case atStart => exact ⟨rem0, cnt0, HO5, HK5⟩
       case round =>
        clear HO5 HK5 rem0 cnt0
        obtain ⟨rem, cnt, HO, HK⟩ := hrel
        have hleft := Mr.left HO.out
        have HLF := hid hleft
        go_wp2_with (at_next; refine next_mb HO.out rfl _ rfl rfl ?_ ?_)
        ·intro hrem
         subst hrem
         have h1 : Has _ (Mk kInt vMrk bm (noteM l M) :: _) := Mr.end HO.out
         rw [HR7.out] at h1
         have HO7 := hid h1
         clear HO hleft h1
         go_wp2_with fail
         go_end0
         rw [HLQ.out, HTQ.out]
         exact ⟨rfl, HO7.out.re 6 [2, 5, 4, 0, 3], HK.out⟩
        ·rintro n ⟨⟨hd, al, on⟩⟩ w6 cnt' hp hr hky hO6 hlt6 hK6 hsz hen
         simp only [kInt_val, vMrk_val] at hen ⊢
         have hmM := mapK_mem hr hp
         have HST := hid (mapK_step (f := noteK l) HNDM.out hr hmM)
         have HIN := hid (show n ∈ (mapK (noteK l) M rem).map Prod.fst from List.mem_map_of_mem hp)
         have HLM := hid (show (mapK (noteK l) M rem).length < 1000000 from by rw [mapK_len]; have := HML.out; omega)
         have HNK := hid (show noteK l n (hd, al, on) = (hd, al && decide (0 < lnk l n), on && decide (lnk l n = 1)) from rfl)
         have HO7 := hid (hO6.alloc (.cells #[.bool hd, .bool al, .bool on] 149))
         have HK7 := hid ((HK.out.trans hK6).alloc (.cells #[.bool hd, .bool al, .bool on] 149))
         have HL6 := hid hlt6
         have HKY := hid hky
         clear hp hr hky hO6 hlt6 hK6 hsz hleft HO HK hmM
         go_upto_region 30 with fail
         generalize w6.alloc (.cells #[.bool hd, .bool al, .bool on] 149) = w7 at *
         generalize w6.heap.size = g at *
         have hg1 : w7.cell? ⟨g, 1, none⟩ = some (.bool al) := HO7.out.cells 1
         have ht1 := HO7.out.thaw 1
         have hlk : (Instr.lookup tNu (.map (some b4)) (.int .i64 n) false).run Tryz.prog w7 = .ok (.int .i64 (lnk l n)) w7 := Mk.look0 (V := vInt) (show Has w7 (Mk kInt vInt b4 (lnkL l) :: _) from HO7.out.re 3 [2]) undNu (x := n) HKY.out
         obtain ⟨c, hc⟩ : ∃ c, lnk l n = c := ⟨_, rfl⟩
         have HCL := hid hc
         rw [hc] at hlk HNK
         clear hc
         go_cut [] (fun wx => Hid (Has wx (pt g (.cells #[.bool hd, .bool (al && decide (0 < c)), .bool on] 149) :: Mr kInt vMrk bm r7 (mapK (noteK l) M rem) (rem.filter fun y => !decide (y = n)) cnt' :: Mk kInt vInt b4 (lnkL l) :: R7)) ∧ Hid (Keep w wx))
         case first =>
          cases al with
          | false =>
           go_wp2_with fail
           go_meet
           exact ⟨hid (HO7.out.set 1 (.bool false)), hid (HK7.out.set _ _)⟩
          | true =>
           by_cases h0 : 0 < c
           ·have HEQ := hid (show (true && decide (0 < c)) = true from by simp [h0])
            go_wp2_with fail
            go_meet
            exact ⟨hid (by rw [HEQ.out]; exact HO7.out.set 1 (.bool true)), hid (HK7.out.set _ _)⟩
           ·have HEQ := hid (show (true && decide (0 < c)) = false from by simp [h0])
            go_wp2_with fail
            go_meet
            exact ⟨hid (by rw [HEQ.out]; exact HO7.out.set 1 (.bool false)), hid (HK7.out.set _ _)⟩
         case rest =>
          obtain ⟨HO8, HK8⟩ := hcut
          clear hg1 ht1 hlk HO7 HK7
          generalize wc = w8 at *
          obtain ⟨al', hal⟩ : ∃ a, (al && decide (0 < c)) = a := ⟨_, rfl⟩
          rw [hal] at HO8 HNK
          clear hal
          have hg2 : w8.cell? ⟨g, 2, none⟩ = some (.bool on) := HO8.out.cells 2
          have ht2 := HO8.out.thaw 2
          have hlk : (Instr.lookup tNu (.map (some b4)) (.int .i64 n) false).run Tryz.prog w8 = .ok (.int .i64 c) w8 := by
           have h1 := Mk.look0 (V := vInt) (show Has w8 (Mk kInt vInt b4 (lnkL l) :: _) from HO8.out.re 3 [2]) undNu (x := n) HKY.out
           rw [show (fnd (lnkL l) n).getD vInt.z = c from HCL.out] at h1
           exact h1
          go_upto_region 31 with fail
          go_cut [] (fun wx => Hid (Has wx (pt g (.cells #[.bool hd, .bool al', .bool (on && decide (c = 1))] 149) :: Mr kInt vMrk bm r7 (mapK (noteK l) M rem) (rem.filter fun y => !decide (y = n)) cnt' :: Mk kInt vInt b4 (lnkL l) :: R7)) ∧ Hid (Keep w wx))
          case first =>
           cases on with
           | false =>
            go_wp2_with fail
            go_meet
            exact ⟨hid (HO8.out.set 2 (.bool false)), hid (HK8.out.set _ _)⟩
           | true =>
            by_cases h0 : c = 1
            ·have hb0 : (c == 1) = true := by simp [h0]
             have HEQ := hid (show (true && decide (c = 1)) = true from by simp [h0])
             clear h0
             go_wp2_with fail
             go_meet
             exact ⟨hid (by rw [HEQ.out]; exact HO8.out.set 2 (.bool true)), hid (HK8.out.set _ _)⟩
            ·have hb0 : (c == 1) = false := by simp [h0]
             have HEQ := hid (show (true && decide (c = 1)) = false from by simp [h0])
             clear h0
             go_wp2_with fail
             go_meet
             exact ⟨hid (by rw [HEQ.out]; exact HO8.out.set 2 (.bool false)), hid (HK8.out.set _ _)⟩
          case rest =>
           obtain ⟨HO9, HK9⟩ := hcut
           clear hg2 ht2 hlk HO8 HK8
           generalize wc = w9 at *
           obtain ⟨on', hon⟩ : ∃ a, (on && decide (c = 1)) = a := ⟨_, rfl⟩
           rw [hon] at HO9 HNK
           clear hon
           go_upto_region 32 with fail
           have HOd := hid HO9.out.drew
           have HKd := hid HK9.out.drew
           clear HO9 HK9
           have HQ3 := hid (fun (w' : World) (A B D : HP) (h : Has w' (A :: B :: D :: R7)) => (show w'.cell? ⟨q, 3, none⟩ = some (.map (some bm)) from by
            rw [HR7.out] at h
            exact HC3.out _ _ (h.re 4 [3, 0, 1, 2])))
           refine region_text (fun w' => w'.cell? ⟨q, 3, none⟩ = some (.map (some bm)) ∧ w'.cell? ⟨g, 0, none⟩ = some (.bool hd) ∧ w'.cell? ⟨g, 1, none⟩ = some (.bool al') ∧ w'.cell? ⟨g, 2, none⟩ = some (.bool on')) (by kernel_rfl) (by kernel_rfl) ⟨HQ3.out _ _ _ _ HOd.out, HOd.out.cells 0, HOd.out.cells 1, HOd.out.cells 2⟩ ?_
           generalize w9.drew = wd at *
           repeat (first | refine wr4 ?_ | refine wk ?_)
           refine wa fun K' hK' => ?_
           refine wp_mrPut (show Has wd (Mr kInt vMrk bm r7 _ _ cnt' :: _) from HOd.out.p1) HLM.out tMm undMm _ _ _ rfl rfl n HIN.out rfl (hd, al', on') trivial rfl ?_
           intro w10 h10 k10
           have h11 : Has w10 (Mr kInt vMrk bm r7 (mapK (noteK l) M (rem.filter fun y => !decide (y = n))) (rem.filter fun y => !decide (y = n)) cnt' :: pt g (.cells #[.bool hd, .bool al', .bool on'] 149) :: Mk kInt vInt b4 (lnkL l) :: R7) := by
            rw [← HST.out, HNK.out]
            exact h10
           have HO10 := hid h11
           have HK10 := hid (HKd.out.trans k10)
           have hleft10 := Mr.left h11
           clear h10 k10 h11 HOd HKd
           refine hK'.out _ _ ⟨HQ3.out _ _ _ _ HO10.out, HO10.out.p1.cells 0, HO10.out.p1.cells 1, HO10.out.p1.cells 2⟩ ?_
           clear hK' K'
           try simp only [Act.put, List.setIfInBounds_toArray, List.set_cons_zero, List.set_cons_succ]
           refine wpL_nil ?_
           go_wp2_with fail
           exact ⟨⟨_, cnt', hid (HO10.out.re 3 [0, 2]), HK10⟩, by rw [hleft10, HLF.out]; exact HL6.out⟩
      ·rintro d s ch w6 cnt' hp hr hky hO6 hlt6 hK6 hsz hen
       simp only [kEnt_val, vInt_val] at hen ⊢
       have HSTP := hid (HS.out.step (fnd_mem HNDT.out hp) hr)
       have HTL := hid (show t.length < 1000000 from by have h1 := HS.out.keys; have h2 := HEL.out; omega)
       have HLEN := hid (show ((fnd t (d, s)).getD [0]).length ≤ 1000000 from by have h1 := HS.out.len (fun x hx => (HEN.out x hx).1) (d, s); have h2 := HN0.out; omega)
       have HO7 := hid (hO6.alloc (.cells #[.int .i64 d, sV s] 144))
       have HK7 := hid ((HK.out.trans hK6).alloc (.cells #[.int .i64 d, sV s] 144))
       have HKY := hid hky
       have HL6 := hid hlt6
       clear hp hr hky hO6 hlt6 hK6 hsz hleft HOX HK HS
       go_upto_region 26 with fail
       generalize w6.alloc (.cells #[.int .i64 d, sV s] 144) = w7 at *
       generalize w6.heap.size = g at *
       have hx0 : w7.cell? ⟨g, 0, none⟩ = some (.int .i64 d) := HO7.out.cells 0
       have hx1 : w7.cell? ⟨g, 1, none⟩ = some (sV s) := HO7.out.cells 1
       have HN := hid (mSet q b C t (d, s) ch w7 _ HCC.out HKY.out HTL.out HLEN.out (HO7.out.re 4 [2, 3, 0, 1]))
       go_wp2_with fail
       refine HN.out.mono ?_
       rintro e w8 ⟨rfl, h8, k8⟩
       have HO8 := hid (show Has w8 (pt q (.cells C 142) :: Ety b (setE t (d, s) ch) :: Mr kEnt vInt b5 r5 TT (rem.filter fun y => !decide (y = (d, s))) cnt' :: Mk kInt vInt b4 (lnkL l) :: Flz bf (noteF Y0 l) :: Trc tq S :: Mk kInt vMrk bm M :: L) from h8.re 4 [0, 1, 3])
       have HK8 := hid (HK7.out.trans k8)
       have hleft8 := Mr.left (show Has w8 (Mr kEnt vInt b5 r5 TT (rem.filter fun y => !decide (y = (d, s))) cnt' :: _) from HO8.out.re 3 [2])
       clear h8 k8 HN HO7 HK7 hx0 hx1
       try dsimp only
       go_wp2_with fail
       exact ⟨⟨_, _, cnt', HSTP, HO8, HK8⟩, by rw [hleft8, HLF.out]; exact HL6.out⟩
    ·rintro d s sl w6 cnt' hp hr hky hO6 hlt6 hK6 hsz hen
     obtain ⟨⟨e', s', ls⟩, hpX, he⟩ := List.mem_map.1 hp
     simp only [Prod.mk.injEq] at he
     obtain ⟨rfl, rfl⟩ := he
     simp only [kEnt_val, vSI_val] at hen ⊢
     have hnb : ((zB X).map Prod.fst).Nodup := by rw [HX.out, mapK_keys]; exact HNDE.out
     have hmB : ((d, s), ls) ∈ zB X := List.mem_map.2 ⟨_, hpX, rfl⟩
     have hmE : ((d, s), ls) ∈ E := mapK_mem hr (by rw [← HX.out]; exact hmB)
     have HIN := hid (show ((d, s) : Ent) ∈ X.map Prod.fst from List.mem_map_of_mem hpX)
     have HST := hid (show setE (zB X) (d, s) (thrE TT (d, s)) = mapK (setT TT) E (rem.filter fun y => !decide (y = (d, s))) from by
      unfold setE
      rw [fnd_mem hnb hmB]
      have h1 := mapK_step (f := setT TT) HNDE.out hr hmE
      rw [← HX.out] at h1
      exact h1)
     have HLEN := hid (show ((fnd (zB X) (d, s)).getD [0]).length ≤ 1000000 from by
      rw [fnd_mem hnb hmB]
      have h1 := (HEN.out _ hmE).1
      have h2 := HN0.out
      simp only [Option.getD] at *
      omega)
     have HXL := hid (show X.length < 1000000 from by
      have e1 := congrArg List.length HX.out
      rw [zB_len, mapK_len] at e1
      have := HEL.out
      omega)
     have HO7 := hid (hO6.alloc (.cells #[.int .i64 d, sV s] 144))
     have HK7 := hid ((HK.out.trans hK6).alloc (.cells #[.int .i64 d, sV s] 144))
     have HKY := hid hky
     have HL6 := hid hlt6
     clear hp hr hky hO6 hlt6 hK6 hsz hpX hleft HOX HK hmB hnb hmE
     go_upto_region 22 with fail
     generalize w6.alloc (.cells #[.int .i64 d, sV s] 144) = w7 at *
     generalize w6.heap.size = g at *
     have HO8 := hid HO7.out.drew
     have HK8 := hid HK7.out.drew
     clear HO7 HK7
     have hlk : (Instr.lookup tTh (.map (some b5)) (.agg #[.int .i64 d, sV s]) false).run Tryz.prog w7.drew = .ok (.int .i64 (thrE TT (d, s))) w7.drew := by
      have h2 := HO8.out
      rw [HR2.out] at h2
      exact Mk.look0 (h2.perm (pmN8 _ _ _ _ (Mk kEnt vInt b5 TT) _ _)) undTh HKY.out
     have HLK := hid (fun (w' : World) (es : Array MapEntry) (cl : Nat) (X : List (Ent × Slv × List Int)) (I : HP) (L2 : List HP) (h : Has w' (pt q (.cells C 142) :: EtX b es cl X :: I :: (zC EntC X ++ (R2 ++ L2)))) => (show (Instr.lookup tTh (.map (some b5)) (.agg #[.int .i64 d, sV s]) false).run Tryz.prog w' = .ok (.int .i64 (thrE TT (d, s))) w' from by
      rw [HR2.out, List.cons_append] at h
      exact Mk.look0 (h.perm (pmN9 _ _ _ (Mk kEnt vInt b5 TT) _ _)) undTh HKY.out))
     refine region_text (fun w' => w'.cell? ⟨g, 0, none⟩ = some (.int .i64 d) ∧ w'.cell? ⟨g, 1, none⟩ = some (sV s) ∧ (Instr.lookup tTh (.map (some b5)) (.agg #[.int .i64 d, sV s]) false).run Tryz.prog w' = .ok (.int .i64 (thrE TT (d, s))) w') (by kernel_rfl) (by kernel_rfl) ⟨HO8.out.cells 0, HO8.out.cells 1, hlk⟩ ?_
     clear hlk
     generalize w7.drew = w8 at *
     repeat (first | refine wr3 ?_ | refine wk ?_)
     refine wa fun K' hK' => ?_
     go_simp
     refine (mSetX q b cl es C X (d, s) (thrE TT (d, s)) (some (r, rem.filter fun y => !decide (y = (d, s)), cnt')) w8 (R2 ++ [pt g (.cells #[.int .i64 d, sV s] 144)]) HCC.out HKY.out HIN.out HXL.out HLEN.out (HO8.out.perm (pmN10 _ _ _ _ _ _))).mono ?_
     rintro e w9 ⟨rfl, ⟨es9, cl9, X9, hz9, h9⟩, k9⟩
     have HX9 := hid (hz9.trans HST.out)
     have HO9 := hid (show Has w9 (pt q (.cells C 142) :: EtX b es9 cl9 X9 :: It kEnt vSI b r es9 cl9 (rem.filter fun y => !decide (y = (d, s))) cnt' :: (zC EntC X9 ++ (R2 ++ [pt g (.cells #[.int .i64 d, sV s] 144)]))) from h9)
     have HK9 := hid (HK8.out.trans k9)
     have hg9 : Has w9 (pt g (.cells #[.int .i64 d, sV s] 144) :: pt q (.cells C 142) :: EtX b es9 cl9 X9 :: It kEnt vSI b r es9 cl9 (rem.filter fun y => !decide (y = (d, s))) cnt' :: (zC EntC X9 ++ R2)) := HO9.out.perm (pmN11 _ _ _ _ _ _)
     clear h9 k9 hz9 HO8 HK8
     refine hK'.out _ _ ⟨hg9.cells 0, hg9.cells 1, HLK.out _ _ _ _ _ _ HO9.out⟩ ?_
     clear hK' K'
     try simp only [Act.put, List.setIfInBounds_toArray, List.set_cons_zero, List.set_cons_succ]
     refine wpL_nil ?_
     have hleft9 := Mx.left (show Has w9 (EtX b es9 cl9 X9 :: It kEnt vSI b r es9 cl9 (rem.filter fun y => !decide (y = (d, s))) cnt' :: _) from hg9.re 4 [2, 3])
     have HO10 := hid hg9.drop
     clear hg9 HO9
     go_wp2_with fail
     exact ⟨⟨es9, cl9, X9, _, cnt', HX9, HO10, HK9⟩, by rw [hleft9, HLF.out]; exact HL6.out⟩
end Go.Proofs.YtmgpgbfgemebbaaGreatDoor
namespace Go.Proofs.YtmgpgbfgemebbaaGreatDoor
open Go.RowKit Go.Own
theorem FilOk.mono {F : Fil} {K K' : Nat} (h : FilOk F K) (hk : K ≤ K') : FilOk F K' where
 sz := h.sz
 szl := Nat.le_trans h.szl hk
 szb := h.szb
 keys := h.keys
 bl := fun x hx => ⟨(h.bl x hx).1, Nat.le_trans (h.bl x hx).2 hk⟩
theorem mem_putA {κ α : Type} [DecidableEq κ] {t : List (κ × α)} {k : κ} {a : α} {x : κ × α} (h : x ∈ putA t k a) : x = (k, a) ∨ (x ∈ t ∧ x.1 ≠ k) := by
 unfold putA at h
 split at h
 ·obtain ⟨y, hy, rfl⟩ := List.mem_map.1 h
  by_cases hk : y.1 = k
  ·rw [if_pos hk]; exact .inl rfl
  ·rw [if_neg hk]; exact .inr ⟨hy, hk⟩
 ·rename_i hk
  rcases List.mem_append.1 h with h | h
  ·exact .inr ⟨h, fun e => hk (by rw [← e]; exact List.mem_map_of_mem h)⟩
  ·exact .inl (by simpa using h)
theorem writeB_bl {bs : List (Int × List Str)} (ds : List Int) {K : Nat} (h1 : 1 ≤ K) (hb : ∀ x ∈ bs, x.2 ≠ [] ∧ x.2.length ≤ K) : ∀ n : Nat, ∀ x ∈ writeB bs ds n, x.2 ≠ [] ∧ x.2.length ≤ K + 1
 | 0, x, hx => ⟨(hb x hx).1, Nat.le_succ_of_le (hb x hx).2⟩
 | n + 1, x, hx => by
  have hx : x ∈ putA (writeB bs ds n) (n : Int) (addV ((fnd (writeB bs ds n) (n : Int)).getD [zsS]) (partS ds n) []) := hx
  rcases mem_putA hx with rfl | ⟨hx, -⟩
  ·dsimp only
   have e : fnd (writeB bs ds n) (n : Int) = fnd bs (n : Int) := by rw [writeB_fnd, if_neg (by omega)]
   rw [e]
   cases hf : fnd bs (n : Int) with
   | none => exact ⟨addV_ne _ _ (by simp), by have := addV_len [zsS] (partS ds n) []; simp only [List.length_singleton] at this; show (addV [zsS] (partS ds n) []).length ≤ _; omega⟩
   | some l =>
    have h2 := hb _ (fnd_some hf)
    exact ⟨addV_ne _ _ h2.1, by have := addV_len l (partS ds n) []; have := h2.2; show (addV l (partS ds n) []).length ≤ _; simp only at *; omega⟩
  ·exact writeB_bl ds h1 hb n x hx
theorem FilOk.write {F : Fil} {K : Nat} (h : FilOk F K) (h1 : 1 ≤ K) {ds : List Int} (hd : ds.length ≤ 100000) : FilOk (F.write ds) (K + 1) where
 sz := addV_ne _ _ h.sz
 szl := by
  have h2 := addV_len F.sizes (ds.length : Int) 0
  have h3 := h.szl
  show (addV F.sizes (ds.length : Int) 0).length ≤ _
  omega
 szb := by
  show 0 ≤ lastI (addV F.sizes (ds.length : Int) 0) ∧ lastI (addV F.sizes (ds.length : Int) 0) ≤ 100000
  rw [addV_last]
  omega
 keys := writeB_keys ds h.keys _ (needM_162' _)
 bl := writeB_bl ds h1 h.bl _
theorem FilOk.note {F : Fil} {K : Nat} (h : FilOk F K) (h1 : 1 ≤ K) {x : Nod} (hd : x.data.length ≤ 100000) : FilOk (noteFil x F) (K + 1) := by
 unfold noteFil
 split
 ·exact h.write h1 hd
 ·split
  ·exact { h.mono (Nat.le_succ K) with }
  ·exact h.mono (Nat.le_succ K)
theorem noteF_ok {K : Nat} (h1 : 1 ≤ K) : ∀ (l : List (Int × Nod)) (Y : List (Int × Fil)), (l.map Prod.fst).Nodup → (∀ x ∈ l, (Lit.int .i64 x.1).wf = true ∧ x.2.data.length ≤ 100000) → (∀ x ∈ Y, (Lit.int .i64 x.1).wf = true ∧ FilOk x.2 (K + 1) ∧ (x.1 ∈ l.map Prod.fst → FilOk x.2 K)) → ∀ x ∈ noteF Y l, (Lit.int .i64 x.1).wf = true ∧ FilOk x.2 (K + 1)
 | [], _, _, _, hY, x, hx => ⟨(hY x hx).1, (hY x hx).2.1⟩
 | y :: l, Y, hn, hl, hY, x, hx => by
  rw [List.map_cons, List.nodup_cons] at hn
  refine noteF_ok h1 l (note1 Y y) hn.2 (fun z hz => hl z (List.mem_cons_of_mem _ hz)) ?_ x hx
  intro z hz
  rcases mem_putA hz with rfl | ⟨hz, hne⟩
  ·refine ⟨(hl y List.mem_cons_self).1, FilOk.note ?_ h1 (hl y List.mem_cons_self).2, fun h => absurd h hn.1⟩
   cases hf : fnd Y y.1 with
   | none => exact FilOk.new _ h1
   | some F => exact (hY _ (fnd_some hf)).2.2 (by simp)
  ·exact ⟨(hY z hz).1, (hY z hz).2.1, fun h => (hY z hz).2.2 (by rw [List.map_cons]; exact List.mem_cons_of_mem _ h)⟩
theorem note1_keys (Y : List (Int × Fil)) (y : Int × Nod) {n : Int} (h : n ∈ Y.map Prod.fst ∨ n = y.1) : n ∈ (note1 Y y).map Prod.fst := by
 have e : ∃ F, fnd (note1 Y y) n = some F := by
  unfold note1
  rw [fnd_putA]
  by_cases hn : n = y.1
  ·rw [if_pos hn]; exact ⟨_, rfl⟩
  ·rw [if_neg hn]
   rcases h with h | h
   ·exact fnd_has h
   ·exact absurd h hn
 obtain ⟨F, hF⟩ := e
 exact mem_of_fnd hF
theorem noteF_keys : ∀ (l : List (Int × Nod)) (Y : List (Int × Fil)) {n : Int}, n ∈ Y.map Prod.fst ∨ n ∈ l.map Prod.fst → n ∈ (noteF Y l).map Prod.fst
 | [], _, _, h => by rcases h with h | h; exact h; simp at h
 | y :: l, Y, n, h => by
  refine noteF_keys l (note1 Y y) ?_
  rw [List.map_cons, List.mem_cons] at h
  rcases h with h | h | h
  ·exact .inl (note1_keys Y y (.inl h))
  ·exact .inl (note1_keys Y y (.inr h))
  ·exact .inr h
section
variable {S : Tre} {rk : Int → Nat} {k : Nat}
theorem filL_mem {x : Int × Nod} (hnd : (S.nodes.map Prod.fst).Nodup) (h : x ∈ filL S) : fnd S.nodes x.1 = some x.2 := by
 obtain ⟨n, hn, rfl⟩ := List.mem_map.1 h
 obtain ⟨y, hy⟩ := fnd_has ((sorted_perm _).mem_iff.1 hn)
 dsimp only
 rw [hy]
 rfl
theorem filL_keys (S : Tre) : (filL S).map Prod.fst = sorted (S.nodes.map Prod.fst) := by
 unfold filL filesQ
 rw [List.map_map]
 simp [Function.comp_def]
theorem filL_of {n : Int} (hx : ∃ x, fnd S.nodes n = some x) : n ∈ (filL S).map Prod.fst := by
 rw [filL_keys]
 obtain ⟨x, hx⟩ := hx
 exact (sorted_perm _).mem_iff.2 (mem_of_fnd hx)
theorem Gd.filG (hG : Gd S rk k) (hk : k ≤ 100000) : ((filL S).map Prod.fst).Nodup ∧ (∀ x ∈ filL S, (x.2.names.map Prod.fst).Nodup) ∧ ∀ x ∈ filL S, (Lit.int .i64 x.1).wf = true ∧ (Lit.int .i64 x.2.links).wf = true ∧ (∀ p ∈ x.2.names, (Lit.int .i64 p.2).wf = true ∧ p.2 ≠ 0 ∧ (∃ y, fnd S.nodes p.2 = some y) ∧ p.1.length ≤ 24) ∧ x.2.data.length ≤ 100000 := by
 have hwf : ∀ n x, fnd S.nodes n = some x → (Lit.int .i64 n).wf = true := fun n x h => by
  have h1 := hG.num n x h
  have h2 := hG.last
  exact wf_small _ (by omega) (by omega)
 refine ⟨?_, fun x hx => (hG.nod (filL_mem hG.x.keys hx)).uniq, fun x hx => ?_⟩
 ·rw [filL_keys]
  exact (sorted_perm _).nodup_iff.2 hG.x.keys
 ·have h1 := filL_mem hG.x.keys hx
  have h2 := hG.nod h1
  refine ⟨hwf _ _ h1, wf_small _ (by have := h2.size; omega) (by have := h2.size; omega), fun p hp => ?_, h2.size.1⟩
  obtain ⟨h3, -, y, h4, -⟩ := h2.ents p hp
  have h5 : p.2 ≠ 0 := fun e => by rw [e, hG.x.zero] at h4; cases h4
  exact ⟨hwf _ _ h4, h5, ⟨y, h4⟩, h3.2.1⟩
end
theorem HisOk.noteL {H : His} {K : Nat} (h : HisOk H K) {S : Tre} {rk : Int → Nat} {k : Nat} (hG : Gd S rk k) (hk : k ≤ 100000) (h1 : 1 ≤ K) (hK : K + 1 ≤ 100000) (hE : (H.ents.map Prod.fst).Nodup) (he : H.ents.length + (thereL (filL S)).length ≤ 300000) (hf : H.files.length + (filL S).length ≤ 300000) : HisOk (H.noteL (filL S)) (K + 1) where
 ents := fun x hx => by
  obtain ⟨g1, g2, g3⟩ := hG.filG hk
  have hT := thereL_nd g1 g2
  have hval : ∀ e n, fnd (thereL (filL S)) e = some n → okEnt e ∧ (Lit.int .i64 n).wf = true ∧ ∃ F, fnd (noteF H.files (filL S)) n = some F := fun e n hen => by
   obtain ⟨y, hy, h2, h3⟩ := mem_thereL.1 (fnd_some hen)
   obtain ⟨h4, h5, h6, -⟩ := g3 y hy
   obtain ⟨h7, -, h8, h9⟩ := h6 _ h3
   dsimp only at h2 h3 h7 h8 h9
   refine ⟨⟨by rw [← h2]; exact h4, Nat.le_trans h9 (by decide)⟩, h7, fnd_has (noteF_keys _ _ (.inr (filL_of h8)))⟩
  have hfx := fnd_mem (noteE_nd hE hT) (show (x.1, x.2) ∈ noteE (thereL (filL S)) H.ents from hx)
  rw [noteE_fnd] at hfx
  show okEnt x.1 ∧ (Lit.int .i64 (lastI x.2)).wf = true ∧ (lastI x.2 ≠ 0 → ∃ F, fnd (noteF H.files (filL S)) (lastI x.2) = some F)
  cases hEx : fnd H.ents x.1 with
  | some l =>
   rw [hEx] at hfx
   have e1 : x.2 = setT (thereL (filL S)) x.1 l := (Option.some.inj hfx).symm
   rw [e1]
   unfold setT
   rw [addV_last]
   have h2 := (h.ents _ (fnd_some hEx)).1
   refine ⟨h2, ?_⟩
   unfold thrE
   cases hTx : fnd (thereL (filL S)) x.1 with
   | none => exact ⟨by decide, fun h => absurd rfl h⟩
   | some n => exact ⟨(hval _ _ hTx).2.1, fun _ => (hval _ _ hTx).2.2⟩
  | none =>
   rw [hEx] at hfx
   dsimp only at hfx
   cases hTx : fnd (thereL (filL S)) x.1 with
   | none => rw [hTx] at hfx; cases hfx
   | some n =>
    rw [hTx] at hfx
    have e1 : x.2 = addV [0] n 0 := (Option.some.inj hfx).symm
    rw [e1, addV_last]
    exact ⟨(hval _ _ hTx).1, (hval _ _ hTx).2.1, fun _ => (hval _ _ hTx).2.2⟩
 el := by
  show (noteE (thereL (filL S)) H.ents).length ≤ _
  unfold noteE
  rw [List.length_append, mapK_len, List.length_map]
  have := List.length_filter_le (fun x : Ent × Int => decide (x.1 ∉ H.ents.map Prod.fst)) (thereL (filL S))
  omega
 mks := fun x hx => by
  have hx : x ∈ mapK (noteK (filL S)) H.marks [] := hx
  have h2 : x.1 ∈ H.marks.map Prod.fst := by rw [← mapK_keys (noteK (filL S)) H.marks []]; exact List.mem_map_of_mem hx
  obtain ⟨y, hy, h3⟩ := List.mem_map.1 h2
  show x.1 ∈ (noteF H.files (filL S)).map Prod.fst
  rw [← h3]
  exact noteF_keys _ _ (.inl (h.mks y hy))
 fl := by
  show (noteF H.files (filL S)).length ≤ _
  have := noteF_len H.files (filL S)
  omega
 fil := noteF_ok h1 _ _ (hG.filG hk).1 (fun x hx => ⟨((hG.filG hk).2.2 x hx).1, ((hG.filG hk).2.2 x hx).2.2.2⟩) (fun x hx => ⟨(h.fil x hx).1, (h.fil x hx).2.mono (Nat.le_succ K), fun _ => (h.fil x hx).2⟩)
 kb := hK
 op := h.op
end Go.Proofs.YtmgpgbfgemebbaaGreatDoor
namespace Go.Proofs.YtmgpgbfgemebbaaGreatDoor
open Go.RowKit Go.Own
def GoodN (s : Str) : Prop := NameOk s ∧ s ≠ [46] ∧ (0 : UInt8) ∉ s
theorem way1 (S : Tre) : S.way 1 = [] := way_stop (.inl rfl)
variable {S : Tre} {rk : Int → Nat} {k : Nat}
theorem gd0 : Gd tre0 (fun _ => 0) 0 where
 x := {
  keys := by decide
  has1 := ⟨_, rfl⟩
  rk1 := rfl
  rk20 := fun _ => by show 0 ≤ 20; omega
  zne := by decide
  zero := rfl
  nod := fun n x hx => by
   have h1 : n = 1 ∧ x = ⟨2, [], [], [], 0, 1, 0⟩ := by
    have e : tre0.nodes = [(1, ⟨2, [], [], [], 0, 1, 0⟩)] := rfl
    rw [e, fnd_cons] at hx
    by_cases h : (1 : Int) = n
    ·rw [if_pos h] at hx; cases hx; exact ⟨h.symm, rfl⟩
    ·rw [if_neg h] at hx; cases hx
   obtain ⟨rfl, rfl⟩ := h1
   exact ⟨.inr (.inl rfl), fun h => absurd rfl h, by simp, List.nodup_nil, ⟨by simp, by simp, by simp, by simp, by simp, by simp, by simp⟩, fun _ => ⟨rfl, rfl, rfl, by decide⟩, fun _ h => absurd rfl h, fun _ h => absurd rfl h, fun _ _ h => absurd rfl h⟩ }
 num := fun n x hx => by
  have e : tre0.nodes = [(1, ⟨2, [], [], [], 0, 1, 0⟩)] := rfl
  rw [e, fnd_cons] at hx
  by_cases h : (1 : Int) = n
  ·subst h; exact ⟨by omega, by show (1:Int) ≤ 1; omega⟩
  ·rw [if_neg h] at hx; cases hx
 last := by show (1 : Int) ≤ _; omega
 many := by show 1 ≤ 1; omega
 tab16 := rfl
 opn := fun fd s hs => by
  exfalso
  obtain ⟨j, hj, -, e, hon⟩ := Tb.look_in rfl hs
  have : ∀ s ∈ tre0.tab, s.on = false := by decide
  rw [this s (by rw [← e]; exact List.getElem_mem _)] at hon
  cases hon
end Go.Proofs.YtmgpgbfgemebbaaGreatDoor
namespace Go.Proofs.YtmgpgbfgemebbaaGreatDoor
open Go.RowKit Go.Own
def His.begin (S : Tre) (N : List (Int × Int)) : His := (((⟨S, N, [], [], [], []⟩ : His).noteL (filL S)).lastAll fun _ => true).firmAll
theorem hisOk0 (S : Tre) (N : List (Int × Int)) : HisOk ⟨S, N, [], [], [], []⟩ 1 where
 ents := fun x hx => absurd hx (List.not_mem_nil)
 el := by simp
 mks := fun x hx => absurd hx (List.not_mem_nil)
 fl := by simp
 fil := fun x hx => absurd hx (List.not_mem_nil)
 kb := by omega
 op := fun x hx => absurd hx (List.not_mem_nil)
theorem thereL_len {l : List (Int × Nod)} {m : Nat} (h : ∀ x ∈ l, x.2.names.length ≤ m) : (thereL l).length ≤ l.length * m := by
 induction l with
 | nil => simp [thereL]
 | cons x l ih =>
  have h1 := ih fun y hy => h y (List.mem_cons_of_mem _ hy)
  have h2 := h x List.mem_cons_self
  have e : thereL (x :: l) = (x.2.names.map fun p => ((x.1, p.1), p.2)) ++ thereL l := by unfold thereL; rw [List.flatMap_cons]
  rw [e, List.length_append, List.length_map, List.length_cons, Nat.succ_mul]
  omega
theorem gd_there {S : Tre} {rk : Int → Nat} {k : Nat} (hG : Gd S rk k) : (thereL (filL S)).length ≤ (k + 1) * k := by
 have h1 : (thereL (filL S)).length ≤ (filL S).length * k := thereL_len fun x hx => (hG.nod (filL_mem hG.x.keys hx)).size.2.2.1
 have h2 : (filL S).length ≤ k + 1 := by
  have e := congrArg List.length (filL_keys S)
  rw [List.length_map, sorted_len, List.length_map] at e
  have := hG.many
  omega
 exact Nat.le_trans h1 (Nat.mul_le_mul_right k h2)
theorem gd_filLen {S : Tre} {rk : Int → Nat} {k : Nat} (hG : Gd S rk k) : (filL S).length ≤ k + 1 := by
 have e := congrArg List.length (filL_keys S)
 rw [List.length_map, sorted_len, List.length_map] at e
 have := hG.many
 omega
set_option maxRecDepth 100000 in
set_option maxHeartbeats 8000000 in
theorem mBegin (tq bn : Nat) (S : Tre) (N : List (Int × Int)) (rk : Int → Nat) (k : Nat) (w : World) (L : List HP) (hG : Gd S rk k) (hk : k ≤ 500) (hO : Has w (Trc tq S :: Mk kInt vInt bn N :: L)) :
  Calls Tryz.prog 95 #[.pointer (some ⟨tq, 0, none⟩), .map (some bn)] w fun e w' => ∃ q, e = .returned (.pointer (some ⟨q, 0, none⟩)) ∧ Has w' (Hsc q (His.begin S N) :: L) ∧ Keep w w' := by
 have HG := hid hG
 have HKK := hid hk
 have hmm := @run_makeMap Tryz.prog
 have h1 := Mk.made (Mk.made (Mk.made (Mk.made hO kInt vPf) kInt vMrk) kEnt vSI) kInt vEnt
 have e1 : (w.alloc (.map #[] 0)).heap.size = w.heap.size + 1 := by show (Array.push _ _).size = _; rw [Array.size_push]
 have e2 : ((w.alloc (.map #[] 0)).alloc (.map #[] 0)).heap.size = w.heap.size + 2 := by show (Array.push _ _).size = _; rw [Array.size_push, e1]
 have e3 : (((w.alloc (.map #[] 0)).alloc (.map #[] 0)).alloc (.map #[] 0)).heap.size = w.heap.size + 3 := by show (Array.push _ _).size = _; rw [Array.size_push, e2]
 have e4 : ((((w.alloc (.map #[] 0)).alloc (.map #[] 0)).alloc (.map #[] 0)).alloc (.map #[] 0)).heap.size = w.heap.size + 4 := by show (Array.push _ _).size = _; rw [Array.size_push, e3]
 rw [e1, e2, e3] at h1
 have h2 := h1.alloc (.cells (hC tq bn w.heap.size (w.heap.size + 1) (w.heap.size + 2) (w.heap.size + 3)) 142)
 rw [e4] at h2
 have HK1 := hid (((((Keep.refl w).alloc (.map #[] 0)).alloc (.map #[] 0)).alloc (.map #[] 0)).alloc (.map #[] 0) |>.alloc (.cells (hC tq bn w.heap.size (w.heap.size + 1) (w.heap.size + 2) (w.heap.size + 3)) 142))
 have HO1 := hid h2
 clear hO h1 h2 hG hk
 unfold hC at HO1 HK1
 go_enter Tryz.func95, Tryz.ntmps95
 go_upto_region 2 with fail
 clear hmm e1 e2 e3 e4
 generalize ((((w.alloc (.map #[] 0)).alloc (.map #[] 0)).alloc (.map #[] 0)).alloc (.map #[] 0)).alloc (.cells #[.pointer (some ⟨tq, 0, none⟩), .map (some bn), .map (some w.heap.size), .map (some (w.heap.size + 1)), .map (some (w.heap.size + 2)), .map (some (w.heap.size + 3))] 142) = w1 at *
 generalize w.heap.size + 4 = q at *
 generalize w.heap.size + 3 = bo at *
 generalize w.heap.size + 2 = b at *
 generalize w.heap.size + 1 = bm at *
 generalize w.heap.size = bf at *
 obtain ⟨H1, hH1⟩ : ∃ H1, H1 = (⟨S, N, [], [], [], []⟩ : His).noteL (filL S) := ⟨_, rfl⟩
 have HH1 := hid hH1
 have HN := hid (mNote q tq bf bm b (hC tq bn bf bm b bo) S [] [] [] 1 10 w1 (Mk kInt vInt bn N :: Mk kInt vEnt bo [] :: L) rfl rfl rfl (fun n x hx => ⟨(HG.out.nod hx).size.1, (HG.out.nod hx).size.2.1⟩) (by have := HG.out.many; have := HKK.out; omega) (fun x hx => ⟨((HG.out.filG (by have := HKK.out; omega)).2.2 x hx).1, ((HG.out.filG (by have := HKK.out; omega)).2.2 x hx).2.1, fun p hp => (((HG.out.filG (by have := HKK.out; omega)).2.2 x hx).2.2.1 p hp).1⟩) (fun x hx => absurd hx (List.not_mem_nil)) (by omega) (by omega) (by simp) (fun x hx => absurd hx (List.not_mem_nil)) (by omega) (by
  have h1 := gd_there HG.out
  have h2 := HKK.out
  have h3 : (k + 1) * k ≤ 501 * 500 := Nat.mul_le_mul (by omega) (by omega)
  simp only [List.length_nil]
  omega) (by simp) (by
  have h1 : Has w1 (Mk kEnt vSI b (zH ([] : List (Ent × Slv × List Int))) :: (zC EntC ([] : List (Ent × Slv × List Int)) ++ (Mk kInt vEnt bo [] :: pt q (.cells (hC tq bn bf bm b bo) 142) :: Mk kInt vMrk bm [] :: Mk kInt vPf bf [] :: Trc tq S :: Mk kInt vInt bn N :: L))) := HO1.out.re 7 [2, 1, 0, 3, 4, 5, 6]
  have h2 := ety_iff.2 ⟨[], rfl, h1⟩
  have h3 : Has w1 (Mk kInt vPf bf (zH ([] : List (Int × Option Nat × Fil))) :: (zC FilPC ([] : List (Int × Option Nat × Fil)) ++ (Ety b [] :: Mk kInt vEnt bo [] :: pt q (.cells (hC tq bn bf bm b bo) 142) :: Mk kInt vMrk bm [] :: Trc tq S :: Mk kInt vInt bn N :: L))) := h2.re 7 [4, 0, 1, 2, 3, 5, 6]
  have h4 := zm_iff.2 ⟨[], rfl, h3⟩
  exact h4.re 7 [3, 5, 0, 4, 1, 6, 2]))
 go_wp2_with fail
 refine HN.out.mono ?_
 rintro e w3 ⟨rfl, h3, k3⟩
 have HO4 := hid (show Has w3 (Hsc q H1 :: L) from by
  rw [hH1]
  exact hsc_iff.2 ⟨tq, bn, bf, bm, b, bo, h3.re 7 [0, 1, 5, 2, 3, 4, 6]⟩)
 have HK3 := hid (HK1.out.trans k3)
 have HOK := hid (show HisOk H1 2 from by
  rw [hH1]
  have h1 := gd_there HG.out
  have h2 := HKK.out
  have h4 : (k + 1) * k ≤ 501 * 500 := Nat.mul_le_mul (by omega) (by omega)
  have h5 := gd_filLen HG.out
  exact (hisOk0 S N).noteL HG.out (by omega) (by omega) (by omega) List.nodup_nil (by simp only [List.length_nil]; omega) (by simp only [List.length_nil]; omega))
 clear h3 k3 HN HO1 HK1 hH1
 try dsimp only
 obtain ⟨t2, bn, bf, bm, b, bo, h0⟩ := hsc_iff.1 HO4.out
 have HNODM := hid (hsc_nod HO4.out).1
 have HNDE := hid (hsc_nod HO4.out).2.1
 obtain ⟨es, cl, X, esf, clf, Y, hX, hY, h1⟩ := hsx h0
 obtain ⟨C, hCe⟩ : ∃ C, C = hC t2 bn bf bm b bo := ⟨_, rfl⟩
 rw [← hCe] at h1
 have HCE := hid hCe
 have HX := hid hX
 have HY := hid hY
 have HCC := hid (show C[4]? = some (.map (some b)) from by rw [hCe]; rfl)
 have HC3 := hid (show C[3]? = some (.map (some bm)) from by rw [hCe]; rfl)
 have HC2c := hid (show C[2]? = some (.map (some bf)) from by rw [hCe]; rfl)
 have HC4 := hid (fun (w : World) (L' : List HP) (h : Has w (pt q (.cells C 142) :: L')) => (show w.cell? ⟨q, 4, none⟩ = some (.map (some b)) from (h.cells 4).trans HCC.out))
 have HC2 := hid (fun (w : World) (L' : List HP) (h : Has w (pt q (.cells C 142) :: L')) => (show w.cell? ⟨q, 2, none⟩ = some (.map (some bf)) from (h.cells 2).trans HC2c.out))
 have HND := hid (show (X.map Prod.fst).Nodup from by have h2 := Mk.nodup (Mx.mk h1.drop); rw [zH_keys] at h2; exact h2)
 have HE := hid (show ∀ x ∈ zB X, okEnt x.1 ∧ (Lit.int .i64 (lastI x.2)).wf = true from fun x hx => by have := HOK.out.ents x (by rw [← hX]; exact hx); exact ⟨this.1, this.2.1⟩)
 have HL := hid (show X.length ≤ 300000 from by have := HOK.out.el; rw [← hX, zB_len] at this; exact this)
 have HML := hid (show H1.marks.length ≤ 300000 from by have := marks_len HOK.out.mks HNODM.out; have := HOK.out.fl; omega)
 have HNY := hid (show (Y.map Prod.fst).Nodup from by have h2 := Mk.nodup (Mx.mk (h1.perm (pmC1 _ _ _ _ _ _ _ _)).drop); rw [zH_keys] at h2; exact h2)
 have HFI := hid (show ∀ x ∈ zB Y, (Lit.int .i64 x.1).wf = true ∧ FilOk x.2 2 from fun x hx => HOK.out.fil x (by rw [← hY]; exact hx))
 have HKB := hid (show 2 ≤ 100000 from by omega)
 obtain ⟨R, hR⟩ : ∃ R, R = Trc t2 H1.S :: FlX bf esf clf Y :: (zC FilPC Y ++ (Mk kInt vInt bn H1.nums :: Mk kInt vEnt bo H1.opened :: L)) := ⟨_, rfl⟩
 rw [← hR] at h1
 have HR := hid hR
 have HO := hid h1
 have HK := hid HK3.out
 obtain ⟨M, hM⟩ : ∃ M, H1.marks = M := ⟨_, rfl⟩
 rw [hM] at HO HML HNODM
 have HMM := hid hM
 clear h0 h1 hX hY hCe hR hM HO4 HK3
 have hq4 := HC4.out _ _ HO.out
 go_wp2_with (at_range; refine wpList_mxStart HO.out.p1 tEm undEm rfl _ rfl rfl ?_; intro w4 hO4 hK4 hs4)
 try go_frame
 have HO4 := hid hO4
 have HK4 := hid (HK.out.trans hK4)
 clear hO4 hK4 hs4 hq4 HO HK
 generalize w3.heap.size = r at *
 generalize hr0 : (zH X).map Prod.fst = rem0 at *
 have HB0 := hid (show zB X = lastR (zB X) (fun _ => true) rem0 from by rw [← hr0, zH_keys, ← zB_keys, lastR_all])
 have HM0 := hid (show MkR (zB X) (fun _ => true) rem0 M M from by rw [← hr0, zH_keys, ← zB_keys]; exact MkR.start _ _ _)
 have HR0 := hid (show M.length + rem0.length ≤ M.length + X.length from by rw [← hr0, zH_keys, List.length_map]; exact Nat.le_refl _)
 clear hr0
 generalize (zH X).length = cnt0 at *
 go_loopw [] (fun w' => ∃ (es1 : Array MapEntry) (cl1 : Nat) (X1 : List (Ent × Slv × List Int)) (M1 : List (Int × Mrk)) (rem : List Ent) (cnt : Nat), Hid (zB X1 = lastR (zB X) (fun _ => true) rem) ∧ Hid (MkR (zB X) (fun _ => true) rem M M1) ∧ Hid (M1.length + rem.length ≤ M.length + X.length) ∧ Hid (Has w' (EtX b es1 cl1 X1 :: It kEnt vSI b r es1 cl1 rem cnt :: pt q (.cells C 142) :: Mk kInt vMrk bm M1 :: (zC EntC X1 ++ R))) ∧ Hid (Keep w w')) (fun w' => w'.rangeLeft b r)
 case atStart => exact ⟨es, cl, X, M, rem0, cnt0, HB0, HM0, HR0, HO4, HK4⟩
 case round =>
  clear HO4 HK4 HB0 HM0 HR0
  obtain ⟨es1, cl1, X1, M1, rem, cnt, HB, HM, HMR, HO, HK⟩ := hrel
  have hleft := Mx.left HO.out
  have HLF := hid hleft
  go_wp2_with (at_next; refine wpList_mxNext HO.out rfl _ rfl rfl ?_ ?_)
  ·intro hrem
   subst hrem
   have HO5 := hid (show Has _ (pt q (.cells C 142) :: EtX b es1 cl1 X1 :: Mk kInt vMrk bm M1 :: (zC EntC X1 ++ R)) from HO.out.re 4 [2, 0, 3])
   clear HO hleft HLF
   have h9 := HO5.out
   rw [HR.out] at h9
   have HO6 := hid (h9.perm (pmC1 _ _ _ _ _ _ _ _))
   obtain ⟨R2, hR2⟩ : ∃ R2, R2 = EtX b es1 cl1 X1 :: Mk kInt vMrk bm M1 :: Trc t2 H1.S :: (zC EntC X1 ++ (Mk kInt vInt bn H1.nums :: Mk kInt vEnt bo H1.opened :: L)) := ⟨_, rfl⟩
   have HO := hid (show Has _ (pt q (.cells C 142) :: FlX bf esf clf Y :: (zC FilPC Y ++ R2)) from by rw [hR2]; exact HO6.out)
   have HR2 := hid hR2
   have HNODM2 := hid (show (M1.map Prod.fst).Nodup from Mk.nodup (show Has _ (Mk kInt vMrk bm M1 :: _) from HO5.out.p2))
   clear h9 hR2 HO5 HO6 HR
   as_aux_lemma =>
    have hq2 := HC2.out _ _ HO.out
    go_wp2_with (at_range; refine wpList_mxStart HO.out.p1 tFm undFm rfl _ rfl rfl ?_; intro w4 hO4 hK4 hs4)
    try go_frame
    have HO4 := hid hO4
    have HK4 := hid (HK.out.trans hK4)
    clear hO4 hK4 hs4 hq2 HO HK
    generalize wr.heap.size = r2 at *
    generalize hr0 : (zH Y).map Prod.fst = rem0 at *
    have HB0 := hid (show zB Y = mapR Fil.firm (zB Y) rem0 from by rw [← hr0, zH_keys, ← zB_keys, mapR_all])
    clear hr0
    generalize (zH Y).length = cnt0 at *
    go_loopw [] (fun w' => ∃ (Y1 : List (Int × Option Nat × Fil)) (rem : List Int) (cnt : Nat), Hid (zB Y1 = mapR Fil.firm (zB Y) rem) ∧ Hid (zH Y1 = zH Y) ∧ Hid (Has w' (FlX bf esf clf Y1 :: It kInt vPf bf r2 esf clf rem cnt :: pt q (.cells C 142) :: (zC FilPC Y1 ++ R2))) ∧ Hid (Keep w w')) (fun w' => w'.rangeLeft bf r2)
    case atStart => exact ⟨Y, rem0, cnt0, HB0, hid rfl, HO4, HK4⟩
    case round =>
     clear HO4 HK4 HB0
     obtain ⟨Y1, rem, cnt, HBY, HZY, HO, HK⟩ := hrel
     have hleft := Mx.left HO.out
     have HLF := hid hleft
     go_wp2_with (at_next; refine wpList_mxNext HO.out rfl _ rfl rfl ?_ ?_)
     ·intro hrem
      subst hrem
      have HO5 := hid (show Has _ (pt q (.cells C 142) :: FlX bf esf clf Y1 :: (zC FilPC Y1 ++ R2)) from HO.out.re 3 [2, 0])
      clear HO hleft HLF
      go_wp2_with fail
      go_ret
      have h9 := HO5.out
      rw [HR2.out] at h9
      have h8 := h9.perm (pmC1 _ _ _ _ _ _ _ _).symm
      rw [HCE.out] at h8
      have h7 := hsc_x h8
      rw [HB.out, HBY.out, mapR_nil, HX.out, HY.out] at h7
      have hm := HM.out
      rw [HX.out] at hm
      have hm2 := hm.perm HNODM.out HNODM2.out
      rw [← HMM.out] at hm2
      refine ⟨q, rfl, ?_, HK.out⟩
      have h6 := hsc_m h7 hm2
      show Has _ (Hsc q ((((⟨S, N, [], [], [], []⟩ : His).noteL (filL S)).lastAll fun _ => true).firmAll) :: L)
      rw [← HH1.out]
      exact h6
     ·rintro k s w5 cnt' hp hr hky hO5 hlt5 hK5 hsz hen
      obtain ⟨⟨k', s', F⟩, hpY, he⟩ := List.mem_map.1 hp
      simp only [Prod.mk.injEq] at he
      obtain ⟨rfl, rfl⟩ := he
      simp only [kInt_val] at hen ⊢
      have hmB : (k', F) ∈ zB Y1 := List.mem_map.2 ⟨_, hpY, rfl⟩
      have hmT : (k', F) ∈ zB Y := mapR_mem hr (by rw [← HBY.out]; exact hmB)
      have hnb1 : ((zB Y1).map Prod.fst).Nodup := by rw [HBY.out, mapR_keys, zB_keys]; exact HNY.out
      have hnb : ((zB Y).map Prod.fst).Nodup := by rw [zB_keys]; exact HNY.out
      have HFI1 := hid (HFI.out _ hmT)
      have HST := hid (mapR_step (f := Fil.firm) hnb hr hmT)
      have HFM := hid (mFirmH q bf clf 2 esf C Y1 k' F w5 (It kInt vPf bf r2 esf clf (rem.filter fun y => !decide (y = k')) cnt' :: R2) HC2c.out HFI1.out.1 (fnd_mem hnb1 hmB) HFI1.out.2 HKB.out (hO5.perm (pmK2 _ _ _ _ _)))
      have HK6 := hid (HK.out.trans hK5)
      have HL5 := hid hlt5
      clear hp hr hky hO5 hlt5 hK5 hsz hpY hleft HO HK hmB hmT hnb hnb1
      go_wp2_with fail
      refine HFM.out.mono ?_
      rintro e w8 ⟨rfl, ⟨Y2, hB2, hZ2, h8⟩, k8⟩
      have HB2 := hid (show zB Y2 = mapR Fil.firm (zB Y) (rem.filter fun y => !decide (y = k')) from by rw [hB2, HBY.out]; exact HST.out)
      have HZ2 := hid (show zH Y2 = zH Y from hZ2.trans HZY.out)
      have HO8 := hid (show Has w8 (FlX bf esf clf Y2 :: It kInt vPf bf r2 esf clf (rem.filter fun y => !decide (y = k')) cnt' :: pt q (.cells C 142) :: (zC FilPC Y2 ++ R2)) from h8.perm (pmK2 _ _ _ _ _).symm)
      have HK8 := hid (HK6.out.trans k8)
      have hleft8 := Mx.left HO8.out
      clear hB2 hZ2 h8 k8 HK6 HFM
      try dsimp only
      go_wp2_with fail
      exact ⟨⟨Y2, _, cnt', HB2, HZ2, HO8, HK8⟩, by rw [hleft8, HLF.out]; exact HL5.out⟩
  ·rintro d p s w5 cnt' hp hr hky hO5 hlt5 hK5 hsz hen
   obtain ⟨⟨e', s', l⟩, hpX, he⟩ := List.mem_map.1 hp
   simp only [Prod.mk.injEq] at he
   obtain ⟨rfl, rfl⟩ := he
   simp only [kEnt_val, vSI_val] at hen ⊢
   have hmB : ((d, p), l) ∈ zB X1 := List.mem_map.2 ⟨_, hpX, rfl⟩
   have hmT : ((d, p), l) ∈ zB X := lastR_mem hr (by rw [← HB.out]; exact hmB)
   have hnb : ((zB X).map Prod.fst).Nodup := by rw [zB_keys]; exact HND.out
   have hx1 : (X1.map Prod.fst) = X.map Prod.fst := by rw [← zB_keys, HB.out, lastR_keys, zB_keys]
   have HNOW := hid (show nowE (zB X1) (d, p) = lastI l from by rw [HB.out]; exact now_lastR hnb _ _ hmT)
   have HMT := hid hmT
   have HNB := hid hnb
   have HIN := hid (show (d, p) ∈ X1.map Prod.fst from by rw [hx1, ← zB_keys]; exact List.mem_map_of_mem hmT)
   have HXL := hid (show X1.length < 1000000 from by
    have e1 := congrArg List.length hx1
    rw [List.length_map, List.length_map] at e1
    have := HL.out
    omega)
   have HRL := hid (rem_less hr)
   have HWF := hid (HE.out _ hmT)
   have HO6 := hid (hO5.alloc (.cells #[.int .i64 d, sV p] 144))
   have HK6 := hid ((HK.out.trans hK5).alloc (.cells #[.int .i64 d, sV p] 144))
   have HKY := hid hky
   have HL5 := hid hlt5
   clear hp hr hky hO5 hlt5 hK5 hsz hpX hleft HO HK hmB hmT hnb hx1
   go_upto_region 6 with fail
   generalize w5.alloc (.cells #[.int .i64 d, sV p] 144) = w6 at *
   generalize w5.heap.size = g6 at *
   have hx0 : w6.cell? ⟨g6, 0, none⟩ = some (.int .i64 d) := HO6.out.cells 0
   have hx1 : w6.cell? ⟨g6, 1, none⟩ = some (sV p) := HO6.out.cells 1
   have HLS := hid (mLast q b bm cl1 es1 C X1 M1 (d, p) (some (r, rem.filter fun y => !decide (y = (d, p)), cnt')) w6 (pt g6 (.cells #[.int .i64 d, sV p] 144) :: R) HC3.out HCC.out HKY.out HIN.out HXL.out (by have := HMR.out; have := HML.out; have := HL.out; omega) (by rw [HNOW.out]; exact HWF.out.2) (HO6.out.perm (pmK _ _ _ _ _ _ _)))
   go_wp2_with fail
   refine HLS.out.mono ?_
   rintro e w8 ⟨rfl, ⟨es2, cl2, X2, hB2, h8⟩, k8⟩
   have HB2 := hid (show zB X2 = lastR (zB X) (fun _ => true) (rem.filter fun y => !decide (y = (d, p))) from by rw [hB2, HB.out]; exact lastR_yes HNB.out HMT.out rfl)
   have HM2 := hid (show MkR (zB X) (fun _ => true) (rem.filter fun y => !decide (y = (d, p))) M (markE (zB X1) M1 (d, p)) from by rw [HB.out]; exact HM.out.step HNB.out HMT.out rfl)
   have HO8 := hid (show Has w8 (pt g6 (.cells #[.int .i64 d, sV p] 144) :: EtX b es2 cl2 X2 :: It kEnt vSI b r es2 cl2 (rem.filter fun y => !decide (y = (d, p))) cnt' :: pt q (.cells C 142) :: Mk kInt vMrk bm (markE (zB X1) M1 (d, p)) :: (zC EntC X2 ++ R)) from h8.perm (pmK _ _ _ _ _ _ _).symm)
   have HK8 := hid (HK6.out.trans k8)
   have hleft8 := Mx.left HO8.out.drop
   clear hB2 h8 k8 HO6 HK6 HLS hx0 hx1
   try dsimp only
   go_wp2_with fail
   exact ⟨⟨es2, cl2, X2, _, _, cnt', HB2, HM2, hid (by have := HMR.out; have := HRL.out; have := markE_len (zB X1) M1 (d, p); omega), hid HO8.out.drop, HK8⟩, by rw [hleft8, HLF.out]; exact HL5.out⟩
set_option maxRecDepth 100000 in
set_option maxHeartbeats 4000000 in
theorem mNew (w : World) (L : List HP) (hO : Has w L) : Calls Tryz.prog 34 #[] w fun e w' => ∃ q, e = .returned (.pointer (some ⟨q, 0, none⟩)) ∧ Has w' (Hsc q (His.begin tre0 [(1, 1)]) :: L) ∧ Keep w w' := by
 have HO := hid hO
 clear hO
 have hmm := @run_makeMap Tryz.prog
 go_enter Tryz.func34, Tryz.ntmps34
 go_wp2_with fail
 refine (tNew w L HO.out).mono ?_
 rintro e w1 ⟨tq, rfl, h1, k1⟩
 have HO1 := hid (Mk.made h1 kInt vInt)
 have HK1 := hid (k1.alloc (.map #[] 0))
 clear h1 k1 HO
 try dsimp only
 go_wp2_with (refine wpList_mkIns HO1.out (by simp) 133 undNu rfl _ _ _ rfl rfl (1 : Int) (wf_small 1 (by omega) (by omega)) rfl (1 : Int) (wf_small 1 (by omega) (by omega)) rfl ?_; intro w3 hO3 hK3; simp only [Act.put])
 try go_wp2_with fail
 refine (mBegin tq _ tre0 _ _ 0 w3 L gd0 (by omega) hO3.p1).mono ?_
 rintro e w4 ⟨q, rfl, h4, k4⟩
 try dsimp only
 go_wp2_with fail
 go_ret
 exact ⟨q, rfl, h4, HK1.out.trans (hK3.trans k4)⟩
end Go.Proofs.YtmgpgbfgemebbaaGreatDoor
