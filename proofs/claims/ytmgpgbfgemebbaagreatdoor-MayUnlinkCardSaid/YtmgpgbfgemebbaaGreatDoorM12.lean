/- TEXTS of mine, merged. -/
import Derived.Test.YtmgpgbfgemebbaaGreatDoorM11
import Derived.Shelf.SlIter.Nil
import Derived.Shelf.SlIter.Sorted
import Derived.Shelf.SlIter.Keys
import Derived.Shelf.SlGeneric
import Derived.Ground.GgzProg
import Derived.Test.YtmgpgbfgemebbaaGreatDoorProg
import Derived.Test.YtmgpgbfgemebbaaGreatDoorM1
import Derived.Shelf.SlIterI.Nil
import Derived.Maps.OwnIn
import Derived.Test.YtmgpgbfgemebbaaGreatDoorM5
import Derived.Test.YtmgpgbfgemebbaaGreatDoorM3
import Derived.Shelf.SlIterI.Sorted
import Derived.Shelf.SlIterI.Keys
import Derived.Test.YtmgpgbfgemebbaaGreatDoorM4
import Derived.Test.YtmgpgbfgemebbaaGreatDoorM10
import Derived.Test.YtmgpgbfgemebbaaGreatDoorM6
set_option linter.all false
namespace Go.Proofs.YtmgpgbfgemebbaaGreatDoor
open Go.RowKit Go.Own
structure HisOk (H : His) (K : Nat) : Prop where
 ents : ∀ x ∈ H.ents, okEnt x.1 ∧ (Lit.int .i64 (lastI x.2)).wf = true ∧ (lastI x.2 ≠ 0 → ∃ F, fnd H.files (lastI x.2) = some F)
 el : H.ents.length ≤ 300000
 mks : ∀ x ∈ H.marks, x.1 ∈ H.files.map Prod.fst
 fl : H.files.length ≤ 300000
 fil : ∀ x ∈ H.files, (Lit.int .i64 x.1).wf = true ∧ FilOk x.2 K
 kb : K ≤ 100000
 op : ∀ x ∈ H.opened, okEnt x.2
def His.lastAll (H : His) (sel : Ent → Bool) : His := { H with marks := markR H.ents sel H.marks, ents := lastR H.ents sel [] }
def His.above (H : His) (dir : Int) : His := H.lastAll (selO H.ents H.files (H.S.dway dir))
def His.lastOne (H : His) (e : Ent) : His := { H with marks := markE H.ents H.marks e, ents := lastE H.ents e }
def firmF (Y : List (Int × Fil)) (n : Int) : List (Int × Fil) := match fnd Y n with
 | some F => putA Y n F.firm
 | none => Y
def His.firm (H : His) (n : Int) : His := { H with files := firmF H.files n }
def His.firmAll (H : His) : His := { H with files := H.files.map fun x => (x.1, x.2.firm) }
theorem sub_len {κ : Type} [DecidableEq κ] : ∀ (a b : List κ), a.Nodup → (∀ x ∈ a, x ∈ b) → a.length ≤ b.length
 | [], _, _, _ => Nat.zero_le _
 | x :: a, b, hn, h => by
  have hx := h x List.mem_cons_self
  have h1 := sub_len a (b.erase x) (List.nodup_cons.1 hn).2 fun y hy => (List.mem_erase_of_ne (by rintro rfl; exact (List.nodup_cons.1 hn).1 hy)).2 (h y (List.mem_cons_of_mem _ hy))
  have h2 := List.length_erase_of_mem hx
  have h3 := List.length_pos_of_mem hx
  rw [List.length_cons]
  omega
theorem marks_len {κ α β : Type} [DecidableEq κ] {M : List (κ × α)} {Y : List (κ × β)} (h : ∀ x ∈ M, x.1 ∈ Y.map Prod.fst) (hn : (M.map Prod.fst).Nodup) : M.length ≤ Y.length := by
 have h2 := sub_len (M.map Prod.fst) (Y.map Prod.fst) hn (fun k hk => by obtain ⟨x, hx, rfl⟩ := List.mem_map.1 hk; exact h x hx)
 rwa [List.length_map, List.length_map] at h2
theorem mem_of_fnd {κ α : Type} [DecidableEq κ] {t : List (κ × α)} {k : κ} {a : α} (h : fnd t k = some a) : k ∈ t.map Prod.fst := List.mem_map_of_mem (fnd_some h)
theorem putA_keysH {κ α : Type} [DecidableEq κ] {t : List (κ × α)} {k : κ} (a : α) (h : k ∈ t.map Prod.fst) : (putA t k a).map Prod.fst = t.map Prod.fst := by
 unfold putA
 rw [if_pos h, List.map_map]
 refine List.map_congr_left fun x _ => ?_
 simp only [Function.comp]
 split
 ·rename_i e; exact e.symm
 ·rfl
theorem firmF_keys (Y : List (Int × Fil)) (n : Int) : (firmF Y n).map Prod.fst = Y.map Prod.fst := by
 unfold firmF
 split
 ·rename_i F h; exact putA_keysH _ (mem_of_fnd h)
 ·rfl
theorem fnd_keys {κ α β : Type} [DecidableEq κ] {a : List (κ × α)} {b : List (κ × β)} (h : a.map Prod.fst = b.map Prod.fst) {k : κ} (hx : ∃ F, fnd a k = some F) : ∃ F, fnd b k = some F := by
 obtain ⟨F, hF⟩ := hx
 exact fnd_has (by rw [← h]; exact mem_of_fnd hF)
theorem firmF_mem {Y : List (Int × Fil)} {n : Int} {x : Int × Fil} (h : x ∈ firmF Y n) : x ∈ Y ∨ ∃ F, (x.1, F) ∈ Y ∧ x.2 = F.firm := by
 unfold firmF at h
 split at h
 ·rename_i F hF
  unfold putA at h
  rw [if_pos (mem_of_fnd hF)] at h
  obtain ⟨y, hy, rfl⟩ := List.mem_map.1 h
  by_cases hk : y.1 = n
  ·rw [if_pos hk]
   exact .inr ⟨F, fnd_some hF, rfl⟩
  ·rw [if_neg hk]; exact .inl hy
 ·exact .inl h
theorem HisOk.firm {H : His} {K : Nat} (h : HisOk H K) (n : Int) : HisOk (H.firm n) K where
 ents := fun x hx => ⟨(h.ents x hx).1, (h.ents x hx).2.1, fun h0 => fnd_keys (firmF_keys _ _).symm ((h.ents x hx).2.2 h0)⟩
 el := h.el
 mks := fun x hx => by show x.1 ∈ (firmF H.files n).map Prod.fst; rw [firmF_keys]; exact h.mks x hx
 fl := by
  have e := congrArg List.length (firmF_keys H.files n)
  rw [List.length_map, List.length_map] at e
  show (firmF H.files n).length ≤ _
  rw [e]; exact h.fl
 fil := fun x hx => by
  rcases firmF_mem hx with h1 | ⟨F, h1, h2⟩
  ·exact h.fil x h1
  ·exact ⟨(h.fil _ h1).1, by rw [h2]; exact (h.fil _ h1).2.firm⟩
 kb := h.kb
 op := h.op
theorem lastR_mem2 {t : List (Ent × List Int)} {sel : Ent → Bool} {rem : List Ent} {x : Ent × List Int} (h : x ∈ lastR t sel rem) : ∃ y ∈ t, y.1 = x.1 ∧ lastI y.2 = lastI x.2 := by
 obtain ⟨y, hy, rfl⟩ := List.mem_map.1 h
 refine ⟨y, hy, rfl, ?_⟩
 dsimp only
 split <;> rfl
theorem markF_mem (t : List (Ent × List Int)) (P : Int → Prop) : ∀ (u : List (Ent × List Int)) (M : List (Int × Mrk)), (∀ x ∈ u, lastI x.2 ≠ 0 → P (lastI x.2)) → (∀ x ∈ M, P x.1) → ∀ x ∈ u.foldl (markF t) M, P x.1
 | [], _, _, h => h
 | y :: u, M, h1, h2 => by
  rw [List.foldl_cons]
  refine markF_mem t P u _ (fun x hx => h1 x (List.mem_cons_of_mem _ hx)) ?_
  intro x hx
  unfold markF at hx
  split at hx
  ·exact h2 x hx
  ·rename_i h0
   have hk : x.1 ∈ (putA M (lastI y.2) (true, true, linksE t (lastI y.2) == 1)).map Prod.fst := List.mem_map_of_mem hx
   obtain ⟨v, hv⟩ := fnd_has hk
   rw [fnd_putA] at hv
   split at hv
   ·rename_i e; rw [e]; exact h1 y List.mem_cons_self h0
   ·exact h2 (x.1, v) (fnd_some hv)
theorem HisOk.lastAll {H : His} {K : Nat} (h : HisOk H K) (sel : Ent → Bool) : HisOk (H.lastAll sel) K where
 ents := fun x hx => by
  obtain ⟨y, hy, e1, e2⟩ := lastR_mem2 hx
  have h1 := h.ents y hy
  rw [e1, e2] at h1
  exact h1
 el := by show (lastR _ _ _).length ≤ _; rw [lastR_len]; exact h.el
 mks := markF_mem _ (fun n => n ∈ H.files.map Prod.fst) _ _ (fun x hx h0 => by
  obtain ⟨F, hF⟩ := (h.ents x (List.mem_filter.1 hx).1).2.2 h0
  exact mem_of_fnd hF) h.mks
 fl := h.fl
 fil := h.fil
 kb := h.kb
 op := h.op
theorem lastE_lastR {t : List (Ent × List Int)} (hn : (t.map Prod.fst).Nodup) {e : Ent} (he : e ∈ t.map Prod.fst) : lastE t e = lastR t (fun x => decide (x = e)) [] := by
 obtain ⟨l, hl⟩ := fnd_has he
 have hm := fnd_some hl
 have h1 := lastR_yes hn (sel := fun x => decide (x = e)) (rem := t.map Prod.fst) hm (by simp)
 rw [lastR_all] at h1
 rw [h1]
 unfold lastR
 refine List.map_congr_left fun x hx => ?_
 congr 1
 by_cases hxe : x.1 = e
 ·rw [if_pos ⟨by simp [hxe], by rw [List.mem_filter]; simp [hxe]⟩, if_pos ⟨by simp [hxe], by simp⟩]
 ·rw [if_neg (fun h => hxe (by simpa using h.1)), if_neg (fun h => hxe (by simpa using h.1))]
theorem hsc_m {w : World} {L : List HP} {q : Nat} {H : His} {M : List (Int × Mrk)} (h : Has w (Hsc q H :: L)) (hp : H.marks.Perm M) : Has w (Hsc q { H with marks := M } :: L) := by
 obtain ⟨t, bn, bf, bm, b, bo, h1⟩ := hsc_iff.1 h
 exact hsc_iff.2 ⟨t, bn, bf, bm, b, bo, (Mk.perm h1.p4 hp).b4⟩
theorem hsc_nod {w : World} {L : List HP} {q : Nat} {H : His} (h : Has w (Hsc q H :: L)) : (H.marks.map Prod.fst).Nodup ∧ (H.ents.map Prod.fst).Nodup ∧ (H.files.map Prod.fst).Nodup := by
 obtain ⟨t, bn, bf, bm, b, bo, h1⟩ := hsc_iff.1 h
 obtain ⟨es, cl, X, esf, clf, Y, hX, hY, h2⟩ := hsx h1
 refine ⟨Mk.nodup h1.p4, ?_, ?_⟩
 ·rw [← hX, zB_keys, ← zH_keys]; exact Mk.nodup (Mx.mk h2.drop)
 ·obtain ⟨Y', hY', h3⟩ := zm_iff.1 h1.p3
  rw [← hY', zB_keys, ← zH_keys]; exact Mk.nodup h3
open Classical in
theorem pmC1 (A E M T F : HP) (Z Y R : List HP) : (A :: E :: M :: (Z ++ (T :: F :: (Y ++ R)))).Perm (A :: F :: (Y ++ (E :: M :: T :: (Z ++ R)))) := by
 refine List.perm_iff_count.2 fun x => ?_
 simp only [List.count_append, List.count_cons] at *
 omega
theorem aAbove (q : Nat) (H : His) (dir : Int) (K : Nat) (rk : Int → Nat) (w : World) (L : List HP) (hok : HisOk H K) (hW : Wy H.S rk) (hd : (Lit.int .i64 dir).wf = true) (hO : Has w (Hsc q H :: L)) :
  Calls Tryz.prog 168 #[.pointer (some ⟨q, 0, none⟩), .int .i64 dir] w fun e' w' => e' = .returned (.tuple #[]) ∧ Has w' (Hsc q (H.above dir) :: L) ∧ Keep w w' := by
 have hnd := hsc_nod hO
 obtain ⟨t, bn, bf, bm, b, bo, h1⟩ := hsc_iff.1 hO
 obtain ⟨es, cl, X, esf, clf, Y, hX, hY, h2⟩ := hsx h1
 have hl : X.length ≤ 400000 := by have := hok.el; rw [← hX, zB_len] at this; omega
 have hml : H.marks.length ≤ 400000 := by have := marks_len hok.mks hnd.1; have := hok.fl; omega
 refine (mAbove q t b bm bf cl clf es esf (hC t bn bf bm b bo) X H.marks Y H.S rk dir w _ rfl rfl rfl rfl hW hd (by rw [hX, hY]; exact hok.ents) hl hml h2).mono ?_
 rintro e w' ⟨rfl, ⟨es', cl', X', M', h3, h4, -, h5⟩, k5⟩
 refine ⟨rfl, ?_, k5⟩
 have h6 := hsc_x h5
 rw [h3, hY, hX] at h6
 rw [hX, hY] at h4
 exact hsc_m h6 (h4.perm hnd.1 (hsc_nod h6).1)
theorem aFirm (q : Nat) (H : His) (n : Int) (K : Nat) (w : World) (L : List HP) (hok : HisOk H K) (hF : ∃ F, fnd H.files n = some F) (hO : Has w (Hsc q H :: L)) :
  Calls Tryz.prog 156 #[.pointer (some ⟨q, 0, none⟩), .int .i64 n] w fun e' w' => e' = .returned (.tuple #[]) ∧ Has w' (Hsc q (H.firm n) :: L) ∧ Keep w w' := by
 obtain ⟨F, hF⟩ := hF
 obtain ⟨t, bn, bf, bm, b, bo, h1⟩ := hsc_iff.1 hO
 obtain ⟨es, cl, X, esf, clf, Y, hX, hY, h2⟩ := hsx h1
 have hfil := hok.fil _ (fnd_some hF)
 refine (mFirmH q bf clf K esf (hC t bn bf bm b bo) Y n F w (EtX b es cl X :: Mk kInt vMrk bm H.marks :: Trc t H.S :: (zC EntC X ++ (Mk kInt vInt bn H.nums :: Mk kInt vEnt bo H.opened :: L))) rfl hfil.1 (by rw [hY]; exact hF) hfil.2 hok.kb (h2.perm (pmC1 _ _ _ _ _ _ _ _))).mono ?_
 rintro e w' ⟨rfl, ⟨Y', e1, e2, h3⟩, k3⟩
 refine ⟨rfl, ?_, k3⟩
 have h6 := hsc_x (h3.perm (pmC1 _ _ _ _ _ _ _ _).symm)
 rw [e1, hX, hY] at h6
 unfold His.firm firmF
 rw [hF]
 exact h6
theorem aLast (q : Nat) (H : His) (e : Ent) (K : Nat) (w : World) (L : List HP) (hok : HisOk H K) (he : e ∈ H.ents.map Prod.fst) (hO : Has w (Hsc q H :: L)) :
  Calls Tryz.prog 155 #[.pointer (some ⟨q, 0, none⟩), .agg #[.int .i64 e.1, sV e.2]] w fun e' w' => e' = .returned (.tuple #[]) ∧ Has w' (Hsc q (H.lastOne e) :: L) ∧ Keep w w' := by
 have hnd := hsc_nod hO
 obtain ⟨t, bn, bf, bm, b, bo, h1⟩ := hsc_iff.1 hO
 obtain ⟨es, cl, X, esf, clf, Y, hX, hY, h2⟩ := hsx h1
 have hl : X.length < 1000000 := by have := hok.el; rw [← hX, zB_len] at this; omega
 have hml : H.marks.length < 1000000 := by have := marks_len hok.mks hnd.1; have := hok.fl; omega
 obtain ⟨l, hl2⟩ := fnd_has he
 have h9 := hok.ents _ (fnd_some hl2)
 have hnow : nowE H.ents e = lastI l := by unfold nowE; rw [hl2]; rfl
 refine (mLast q b bm cl es (hC t bn bf bm b bo) X H.marks e none w _ rfl rfl h9.1 (by rw [← zB_keys, hX]; exact he) hl hml (by rw [hX, hnow]; exact h9.2.1) h2).mono ?_
 rintro e1 w' ⟨rfl, ⟨es', cl', X', e2, h3⟩, k3⟩
 refine ⟨rfl, ?_, k3⟩
 have h6 := hsc_x h3
 rw [e2, hX, hY] at h6
 exact h6
theorem aNow (q : Nat) (H : His) (e : Ent) (w : World) (L : List HP) (he : okEnt e) (hO : Has w (Hsc q H :: L)) :
  Calls Tryz.prog 169 #[.pointer (some ⟨q, 0, none⟩), .agg #[.int .i64 e.1, sV e.2]] w fun e' w' => e' = .returned (.int .i64 (nowE H.ents e)) ∧ Has w' (Hsc q H :: L) ∧ Keep w w' := by
 obtain ⟨t, bn, bf, bm, b, bo, h1⟩ := hsc_iff.1 hO
 refine (mNow q b (hC t bn bf bm b bo) H.ents e w _ rfl he (h1.re 7 [0, 5, 1, 2, 3, 4, 6])).mono ?_
 rintro e1 w' ⟨rfl, h3, k3⟩
 exact ⟨rfl, hsc_iff.2 ⟨t, bn, bf, bm, b, bo, h3.re 7 [0, 2, 3, 4, 5, 1, 6]⟩, k3⟩
end Go.Proofs.YtmgpgbfgemebbaaGreatDoor
namespace Go.Proofs
open Go.Shelf
def Tryz.keys124_ren : Go.Shelf.Ren := ⟨fun | 7 => 124 | 10 => 185 | n => n, fun | 23 => 79 | 26 => 9 | 3 => 3 | 28 => 183 | 0 => 0 | 27 => 182 | 33 => 241 | 4 => 4 | n => n, fun | n => n⟩
def Tryz.sorted123_ren : Go.Shelf.Ren := ⟨fun | 6 => 123 | 8 => 183 | 9 => 184 | 11 => 234 | 13 => 152 | 12 => 235 | 23 => 207 | 24 => 208 | 14 => 258 | 15 => 259 | 16 => 260 | 17 => 261 | 18 => 262 | 19 => 263 | 20 => 264 | 21 => 265 | 22 => 266 | 25 => 281 | 26 => 239 | 27 => 240 | 28 => 282 | 29 => 283 | 30 => 284 | 31 => 293 | n => n, fun | 26 => 9 | 28 => 183 | 24 => 36 | 0 => 0 | 3 => 3 | 37 => 171 | 48 => 256 | 50 => 258 | 4 => 4 | 40 => 250 | 39 => 249 | 45 => 146 | 5 => 5 | 9 => 9 | 51 => 278 | 55 => 282 | 57 => 306 | 58 => 45 | 33 => 241 | n => n, fun | n => n⟩
end Go.Proofs
namespace Go.Own
open Go.RowKit Go.Maps Go.Sort Go.Shelf Go.Proofs
structure But (w w' : World) (row : Option Nat) : Prop where
 keep : Keep w w'
 same : ∀ k, k < w.heap.size → some k ≠ row → w'.heap[k]? = w.heap[k]?
theorem But.refl (w : World) (row : Option Nat) : But w w row := ⟨Keep.refl w, fun _ _ _ => rfl⟩
theorem But.grown {w w' w'' : World} {row r : Option Nat} (h : But w w' row) (hg : w'.grownBy w'' r) (hr : r = row ∨ r = none ∨ ∃ b, r = some b ∧ w.heap.size ≤ b) : But w w'' row :=
 ⟨h.keep.grown hg, fun k hk hne => by
  have h1 := h.keep.size
  rw [← h.same k hk hne]
  refine hg.block k (by omega) fun e => ?_
  rcases hr with rfl | rfl | ⟨b, rfl, hb⟩
  ·exact hne e
  ·cases e
  ·cases e; omega⟩
theorem But.alloc {w w' : World} {row : Option Nat} (h : But w w' row) (o : Obj) : But w (w'.alloc o) row :=
 h.grown (World.grownBy_alloc w' o none) (.inr (.inl rfl))
theorem Has.regrown {w w' : World} {L : List HP} {v v' : Value} {e : TypeId} {size n n' : Nat} {xs xs' : List Value} (h : Has w (row v e size n xs :: L)) (hb : But w w' v.ownBlock) (ho : w'.ownsRow 0 e size v' n' xs')
  (hv : v'.ownBlock = v.ownBlock ∨ ∃ b, v'.ownBlock = some b ∧ w.heap.size ≤ b) : Has w' (row v' e size n' xs' :: L) := by
 obtain ⟨h1, ⟨rfl, rfl, -, h2⟩ | ⟨g, cap, cur, rfl, -, -, -, -, h2⟩⟩ := h.row_cases
 ·have hs : ∀ k, k < w.heap.size → w'.heap[k]? = w.heap[k]? := fun k hk => hb.same k hk (by simp [Value.ownBlock])
  obtain ⟨hl, ⟨rfl, rfl⟩ | ⟨g, cap, cur, rfl, -, hg, r1, r2, r3, r4⟩⟩ := ho
  ·have hx : xs' = [] := List.eq_nil_of_length_eq_zero (by simpa using hl)
   subst hx
   exact (h2.frame hs).row_nil e size
  ·rcases hv with hv | ⟨b, hv, hle⟩
   ·simp [Value.ownBlock] at hv
   ·simp only [Value.ownBlock, Option.some.injEq] at hv
    subst hv
    exact (h2.fresh hs hle hg).row_of r1 r2 r3 r4 hl
 ·have hne : ∀ k, k < w.heap.size → k ≠ g → w'.heap[k]? = w.heap[k]? := fun k hk hkg => hb.same k hk (by simpa [Value.ownBlock] using hkg)
  obtain ⟨o, hog⟩ : ∃ o, w'.heap[g]? = some o := ⟨_, Array.getElem?_eq_getElem (by have := h2.lt; have := hb.keep.size; omega)⟩
  obtain ⟨hl, ⟨rfl, rfl⟩ | ⟨g', cap', cur', rfl, -, hg', r1, r2, r3, r4⟩⟩ := ho
  ·have hx : xs' = [] := List.eq_nil_of_length_eq_zero (by simpa using hl)
   subst hx
   exact (h2.turn hne hog).drop.row_nil e size
  ·rcases hv with hv | ⟨b, hv, hle⟩
   ·simp only [Value.ownBlock, Option.some.injEq] at hv
    subst hv
    exact (h2.turn hne hg').row_of r1 r2 r3 r4 hl
   ·simp only [Value.ownBlock, Option.some.injEq] at hv
    subst hv
    have h3 := (h2.setObj o).drop
    refine (h3.fresh (fun k hk => ?_) (by simpa using hle) hg').row_of r1 r2 r3 r4 hl
    by_cases e1 : k = g
    ·subst e1
     rw [hog]
     have := h2.lt
     simp [this]
    ·have hk' : k < w.heap.size := by simpa using hk
     rw [hne k hk' e1]
     simp [Ne.symm e1]
section
variable {P : Program} {ρ : Ren}
def sqRec (ρ : Ren) (v0 : Value) (fn : FuncId) (sv : Value) (Bs D : Nat) (st : LoopState) (pend : Option Code) : Loop :=
 { AnyZI.apRec ρ fn sv Bs D st pend with tmps := #[v0, sv, .pointer (some ⟨Bs, 0, none⟩), undef, .slice none 0 0, undef, sv, undef, undef, undef, undef, undef, undef] }
structure SqAt (ρ : Ren) (w0 : World) (v0 : Value) (xs : List Int) (fn : FuncId) (sv : Value) (Bs l D : Nat) (ss : List Int) (W : World) : Prop where
 box : ∃ v, W.heap[Bs]? = some (.cells #[v] (ρ.t 24) (0, 0)) ∧ W.ownsRow 0 (ρ.t 26) 1 v (xs.length + ss.length) ((xs ++ ss).map encZ) ∧ (v.ownBlock = v0.ownBlock ∨ ∃ b, v.ownBlock = some b ∧ w0.heap.size ≤ b)
 L : W.heap[l]? = some (.loop (sqRec ρ v0 fn sv Bs D .ready none))
 K : W.heap[D]? = some (.deferred (some []))
 but : But w0 W v0.ownBlock
end
end Go.Own
namespace Go.Proofs.YtmgpgbfgemebbaaGreatDoor
open Go.RowKit Go.Own Go.Maps Go.ChangeMaps Go.Shelf Go.Proofs
def sortedS (l : List Str) : List Str := l.mergeSort fun x y => decide (x ≤ y)
abbrev seqK (c : Nat) : Value := .func (.func 185) #[] #[.pointer (some ⟨c, 0, none⟩)]
theorem belowBut {W w' : World} (h : Below W.heap.size W w') : But W w' none := ⟨⟨h.os, h.tape, h.output, h.size⟩, fun k hk _ => h.block k hk⟩
namespace Tre
variable (S : Tre)
def list (kind : Int) (p : Str) : Ans :=
 if (S.find p (kind == 18)).2 ≠ 0 then ansE (S.find p (kind == 18)).2
 else if kind = 18 ∧ (S.at_ (S.find p (kind == 18)).1.node).kind ≠ 2 then ansE 7
 else if kind = 18 then ⟨0, 0, 0, 0, [], sortedS ((S.at_ (S.find p (kind == 18)).1.node).names.map Prod.fst)⟩
 else if (S.at_ (S.find p (kind == 18)).1.node).kind ≠ 3 then ansE 2
 else ⟨0, 0, 0, 0, (S.at_ (S.find p (kind == 18)).1.node).data, []⟩
end Tre
end Go.Proofs.YtmgpgbfgemebbaaGreatDoor
namespace Go.Proofs
open Go.Shelf
def Tryz.keys218_ren : Go.Shelf.Ren := ⟨fun | 7 => 218 | 10 => 244 | n => n, fun | 23 => 83 | 26 => 3 | 3 => 78 | 28 => 165 | 0 => 0 | 27 => 164 | 33 => 109 | 4 => 4 | n => n, fun | n => n⟩
theorem Tryz.keys218 : Go.Proofs.SlLaysZI.n7 Tryz.prog Tryz.keys218_ren := {
 mixed := by kernel_rfl
 f7 := ⟨Tryz.f218.name, by decide, Tryz.func218.trans (congrArg some (by kernel_rfl))⟩
 f10 := ⟨Tryz.f244.name, by decide, Tryz.func244.trans (congrArg some (by kernel_rfl))⟩
 t0 := Tryz.underlying0
 a0 := Tryz.isAgg0
 z0 := Tryz.sizeOf0
 v0 := Tryz.zeroValue0
 t4 := Tryz.underlying4
 a4 := Tryz.isAgg4
 z4 := Tryz.sizeOf4
 v4 := Tryz.zeroValue4
 t23 := Tryz.underlying83
 a23 := Tryz.isAgg83
 z23 := Tryz.sizeOf83
 v23 := Tryz.zeroValue83
 t26 := Tryz.underlying3
 a26 := Tryz.isAgg3
 z26 := Tryz.sizeOf3
 v26 := Tryz.zeroValue3
 t27 := Tryz.underlying164
 a27 := Tryz.isAgg164
 z27 := Tryz.sizeOf164
 v27 := Tryz.zeroValue164
 t28 := Tryz.underlying165
 a28 := Tryz.isAgg165
 z28 := Tryz.sizeOf165
 v28 := Tryz.zeroValue165
 t33 := Tryz.underlying109
 a33 := Tryz.isAgg109
 z33 := Tryz.sizeOf109
 v33 := Tryz.zeroValue109 }
def Tryz.keys107_ren : Go.Shelf.Ren := ⟨fun | 7 => 107 | 10 => 173 | n => n, fun | 23 => 155 | 26 => 3 | 3 => 157 | 28 => 165 | 0 => 0 | 27 => 164 | 33 => 109 | 4 => 4 | n => n, fun | n => n⟩
def Tryz.sorted106_ren : Go.Shelf.Ren := ⟨fun | 6 => 106 | 8 => 171 | 9 => 172 | 11 => 224 | 13 => 152 | 12 => 225 | 23 => 207 | 24 => 208 | 14 => 246 | 15 => 247 | 16 => 248 | 17 => 249 | 18 => 250 | 19 => 251 | 20 => 252 | 21 => 253 | 22 => 254 | 25 => 271 | 26 => 239 | 27 => 240 | 28 => 272 | 29 => 273 | 30 => 274 | 31 => 287 | n => n, fun | 26 => 3 | 28 => 165 | 24 => 69 | 0 => 0 | 3 => 3 | 37 => 171 | 48 => 256 | 50 => 258 | 4 => 4 | 40 => 250 | 39 => 249 | 45 => 146 | 5 => 5 | 9 => 9 | 51 => 278 | 55 => 282 | 57 => 306 | 58 => 45 | 33 => 109 | n => n, fun | n => n⟩
theorem Tryz.sorted106 : Go.Proofs.SlLaysZI.n6 Tryz.prog Tryz.sorted106_ren := {
 mixed := by kernel_rfl
 f6 := ⟨Tryz.f106.name, by decide, Tryz.func106.trans (congrArg some (by kernel_rfl))⟩
 f8 := ⟨Tryz.f171.name, by decide, Tryz.func171.trans (congrArg some (by kernel_rfl))⟩
 f11 := ⟨Tryz.f224.name, by decide, Tryz.func224.trans (congrArg some (by kernel_rfl))⟩
 t0 := Tryz.underlying0
 a0 := Tryz.isAgg0
 z0 := Tryz.sizeOf0
 v0 := Tryz.zeroValue0
 t24 := Tryz.underlying69
 a24 := Tryz.isAgg69
 z24 := Tryz.sizeOf69
 v24 := Tryz.zeroValue69
 t26 := Tryz.underlying3
 a26 := Tryz.isAgg3
 z26 := Tryz.sizeOf3
 v26 := Tryz.zeroValue3
 t28 := Tryz.underlying165
 a28 := Tryz.isAgg165
 z28 := Tryz.sizeOf165
 v28 := Tryz.zeroValue165
 i26 := by kernel_rfl }
end Go.Proofs
namespace Go.Proofs.YtmgpgbfgemebbaaGreatDoor
open Go.RowKit Go.Own Go.Maps Go.ChangeMaps Go.Shelf Go.Proofs
theorem sorted_perm (l : List Int) : (sorted l).Perm l := List.mergeSort_perm l _
theorem sorted_sorted (l : List Int) : (sorted l).Pairwise (fun x y => decide (x ≤ y) = true) :=
 List.pairwise_mergeSort (fun a b c h1 h2 => by simp only [decide_eq_true_eq] at *; omega) (fun a b => by simp only [Bool.or_eq_true, decide_eq_true_eq]; omega) l
theorem sorted_congr {l l' : List Int} (h : l.Perm l') : sorted l = sorted l' :=
 (((sorted_perm l).trans h).trans (sorted_perm l').symm).eq_of_pairwise (fun a b _ _ h1 h2 => by simp only [decide_eq_true_eq] at *; omega) (sorted_sorted l) (sorted_sorted l')
abbrev seqI (f c : Nat) : Value := .func (.func f) #[] #[.pointer (some ⟨c, 0, none⟩)]
theorem sortsInI (m : Nat) : AnyZI.SortsIn Tryz.prog Tryz.sorted106_ren Fence.wide m :=
 ⟨fun blk off cap ss W hH hblk hsz => callsIn_wide.2 (Tryz.slices_Sort_int blk off cap ss W hH hblk hsz), fun p cap W => callsIn_wide.2 (Tryz.slices_Sort_int_none p cap W)⟩
theorem sortedI (f c : Nat) (S : List Int) (N : Nat) (W : World) (L : List HP) (hO : Has W L) (hl : S.length = N) (hN : N ≤ 1000000) (ef : ∀ args w, (callFunc f args).run Tryz.prog w = .ok (.enter f args) w)
  (hseq : SeqGives Fence.wide 6 Tryz.prog f #[.pointer (some ⟨c, 0, none⟩)] encZ (fun ss => ss.Perm S) N W) :
  Calls Tryz.prog 106 #[seqI f c] W fun e w' => ∃ v, e = .returned v ∧ Has w' (Ints v (sorted S) :: L) ∧ Keep W w' := by
 refine (callsIn_wide (n := 9)).1 ((AnyZI.sorted_in Tryz.sorted106 Fence.wide 9 trivial trivial trivial trivial rfl (by omega) (sortsInI _) (enters_of Tryz.func172 (by kernel_rfl) rfl) f #[.pointer (some ⟨c, 0, none⟩)] trivial ef _ N (le_maxLen (by omega)) (by omega) W hseq).mono ?_)
 rintro e w' ⟨v, ss, rfl, hS, hrow, hnil, hb⟩
 have e1 : (ss.mergeSort fun x y => decide (x ≤ y)) = sorted S := sorted_congr hS
 rw [e1] at hrow
 have hlen : ss.length = (sorted S).length := by rw [sorted_len, hS.length_eq]
 rw [hlen] at hrow
 refine ⟨v, rfl, (hO.row_nil tInt 1).regrown (belowBut hb) (ownsRow_base_a hrow (Nat.zero_le _)) ?_, (belowBut hb).keep⟩
 rcases hrow.2 with ⟨rfl, -⟩ | ⟨g, cap, cur, rfl, hbase, -⟩
 ·exact .inl rfl
 ·exact .inr ⟨g, rfl, hbase⟩
section
variable {α : Type} {e : TypeId} {V : El Tryz.prog e α} {D : DataW Unit} {t : List (Int × α)} {w : World} {L : List HP} {b n : Nat}
theorem AlK.keysI (h : AlK kInt V D t) (ho : w.ownsMap Tryz.prog tInt V.R b n D) : (t.map Prod.fst).Perm (intKeys D) :=
 CollectedI.perm (left := fun _ => false) ⟨h.nodup, fun x => by rw [show (Lit.int .i64 x) = kInt.lk x from rfl, h.has]; simp⟩ ho kInt.law undI (fun _ => rfl)
theorem keysNd (b : Nat) (w : World) : Calls Tryz.prog 218 #[.map (some b)] w fun e w' => e = .returned (seqI 244 w.heap.size) ∧ w' = w.alloc (.cells #[.map (some b)] 83) :=
 callsIn_wide.1 (AnyZI.keys_in Tryz.keys218 Fence.wide 9 trivial rfl (some b) w)
theorem sortedNd (hl : t.length ≤ 1000000) (hO : Has w (Mk kInt V b t :: L)) :
  Calls Tryz.prog 106 #[seqI 244 w.heap.size] (w.alloc (.cells #[.map (some b)] 83)) fun e w' => ∃ v, e = .returned v ∧ Has w' (Ints v (sorted (t.map Prod.fst)) :: Mk kInt V b t :: L) ∧ Keep w w' := by
 obtain ⟨D, h1, h2⟩ := Mk.iff.1 hO
 have hs := AnyZI.keys_gives (ρ := Tryz.keys218_ren) { Tryz.keys218 with } Fence.wide 6 trivial rfl (by omega) w.heap.size b _ D (w.alloc (.cells #[.map (some b)] 83)) (by simp) (by simp) (h2.alloc' _).owns
 rw [h1.size] at hs
 have e : (fun ss : List Int => ss.Perm (intKeys D)) = fun ss => ss.Perm (t.map Prod.fst) := by
  funext ss
  exact propext ⟨fun h => h.trans (AlK.keysI h1 h2.owns).symm, fun h => h.trans (AlK.keysI h1 h2.owns)⟩
 rw [e] at hs
 refine (sortedI _ _ (t.map Prod.fst) t.length _ _ (hO.alloc' _) (by simp) hl (enters_of Tryz.func244 (by kernel_rfl) rfl) hs).mono ?_
 rintro e w' ⟨v, rfl, h3, h4⟩
 exact ⟨v, rfl, h3, ((Keep.refl w).alloc _).trans h4⟩
end
end Go.Proofs.YtmgpgbfgemebbaaGreatDoor
namespace Go.Proofs.YtmgpgbfgemebbaaGreatDoor
open Go.RowKit Go.Own
structure Fiv where
 num : Int
 nod : Nod
 dv : Value
 wv : Value
 nm : Option Nat
def Fiv.enc (f : Fiv) : List Value := [.int .i64 f.num, .int .i64 f.nod.kind, .int .i64 f.nod.links, oneV f.dv, oneV f.wv, .map f.nm]
def fivs : List Fiv → List Value
 | [] => []
 | f :: r => f.enc ++ fivs r
theorem fivs_app (a b : List Fiv) : fivs (a ++ b) = fivs a ++ fivs b := by
 induction a with
 | nil => rfl
 | cons s a ih => simp [fivs, ih, List.append_assoc]
theorem infoFil : (Tryz.prog.info? 159).map (fun i => (i.zero, i.size, i.bytes)) = some (some (.agg #[.int .i64 0, .int .i64 0, .int .i64 0, .slice none 0 0, .slice none 0 0, .map none]), 6, 80) := by kernel_rfl
def Fiv.ok (f : Fiv) : Prop := (f.nod.kind = 2 → ∃ m, f.nm = some m) ∧ (f.nod.kind = 3 → nilS f.dv = false)
def FvC (f : Fiv) : HP := star [Bytes f.dv f.nod.data, Bools f.wv f.nod.wr, Nms f.nm f.nod.names]
def Tfs (v : Value) (os : List Fiv) : HP := star (row v 159 6 os.length (fivs os) :: os.map FvC)
theorem fvc_iff {w : World} {L : List HP} {f : Fiv} : Has w (FvC f :: L) ↔ Has w (Bytes f.dv f.nod.data :: Bools f.wv f.nod.wr :: Nms f.nm f.nod.names :: L) := by
 unfold FvC
 rw [Has.star_iff]
 rfl
theorem tfs_iff {w : World} {L : List HP} {v : Value} {os : List Fiv} : Has w (Tfs v os :: L) ↔ Has w (row v 159 6 os.length (fivs os) :: (os.map FvC ++ L)) := by
 unfold Tfs
 rw [Has.star_iff]
 rfl
def filesQ (S : Tre) (ks : List Int) : List (Int × Nod) := ks.map fun n => (n, (fnd S.nodes n).getD nod0)
theorem tfs_push {w : World} {L : List HP} {v : Value} {os : List Fiv} {f : Fiv} (h : Has w (row v 159 6 (os.length + 1) (fivs os ++ f.enc) :: FvC f :: (os.map FvC ++ L))) : Has w (Tfs v (os ++ [f]) :: L) := by
 refine tfs_iff.2 ?_
 rw [fivs_app, List.length_append, List.map_append]
 have e : fivs [f] = f.enc := by simp [fivs]
 rw [e]
 refine h.perm (.cons _ ?_)
 simp only [List.map_cons, List.map_nil, List.append_assoc, List.cons_append, List.nil_append]
 exact List.perm_middle.symm
theorem trb_pm (A B C D : HP) (Z L : List HP) : (A :: B :: C :: D :: (Z ++ L)).Perm (C :: B :: D :: (Z ++ (A :: L))) := by
 have h1 : (A :: (Z ++ L)).Perm (Z ++ (A :: L)) := List.perm_middle.symm
 have h2 : (A :: B :: C :: D :: (Z ++ L)).Perm (C :: B :: D :: A :: (Z ++ L)) := List.Perm.trans (.swap _ _ _) (List.Perm.trans (.cons _ (.swap _ _ _)) (List.Perm.trans (.swap _ _ _) (.cons _ (.cons _ (.swap _ _ _)))))
 exact h2.trans (.cons _ (.cons _ (.cons _ h1)))
open Classical in
theorem fs_pm (T F I R : HP) (Z L : List HP) : (T :: F :: I :: (L ++ (R :: Z))).Perm (R :: F :: (Z ++ (I :: T :: L))) := by
 rw [List.perm_iff_count]
 intro a
 simp only [List.count_cons, List.count_append]
 omega
set_option maxRecDepth 100000 in
set_option maxHeartbeats 8000000 in
theorem tFiles (q : Nat) (S : Tre) (w : World) (L : List HP) (hb : ∀ n x, fnd S.nodes n = some x → x.data.length ≤ 100000 ∧ x.wr.length ≤ 100000) (hn : S.nodes.length ≤ 100000) (hO : Has w (Trc q S :: L)) :
  Calls Tryz.prog 162 #[.pointer (some ⟨q, 0, none⟩)] w fun e w' => ∃ v os, e = .returned v ∧ os.map (fun f => (f.num, f.nod)) = filesQ S (sorted (S.nodes.map Prod.fst)) ∧ (∀ f ∈ os, f.ok) ∧ Has w' (Tfs v os :: Trc q S :: L) ∧ Keep w w' := by
 obtain ⟨m, f, P, hPT, h⟩ := trc_iff.1 hO
 have HPT := hid hPT
 have h' := trb_iff.1 h
 have hq0 : w.cell? ⟨q, 0, none⟩ = some (.map (some m)) := h'.cells 0
 have hk : (pnB P).map Prod.fst = S.nodes.map Prod.fst := by rw [pnB_keys, ← pnN_keys, hPT.1]
 have HO := hid (show Has w (Mk kInt vPtr m (pnB P) :: pt q (.cells (treC m f S.last) 87) :: Tab f S.tab :: (pnC P ++ L)) from h'.perm (.swap _ _ _))
 have hP9 : (pnB P).length ≤ 1000000 := by
  have : (pnB P).length = S.nodes.length := by rw [← List.length_map (f := Prod.fst), hk, List.length_map]
  omega
 have hS := sortedNd (V := vPtr) hP9 HO.out
 rw [hk] at hS
 have HB := hid hb
 clear hO h h' hPT hb
 go_enter Tryz.func162, Tryz.ntmps162
 go_wp2_with fail
 refine (keysNd m w).mono ?_
 rintro e w2 ⟨rfl, rfl⟩
 try dsimp only
 go_wp2_with fail
 refine hS.mono ?_
 rintro e w3 ⟨v3, rfl, hO3, hK3⟩
 have hlen : (sorted (S.nodes.map Prod.fst)).length ≤ 100000 := by rw [sorted_len, List.length_map]; exact hn
 have hks : ∀ n ∈ sorted (S.nodes.map Prod.fst), ∃ x, fnd S.nodes n = some x := fun n hm => fnd_has ((sorted_perm _).mem_iff.1 hm)
 generalize hkE : sorted (S.nodes.map Prod.fst) = ks at *
 have HKE := hid hkE
 clear hkE
 obtain ⟨p3, c3, rfl, -⟩ := (Ints.rd hO3).form
 have HO3 := hid (show Has w3 (Tfs (.slice none 0 0) [] :: Ints (.slice p3 ks.length c3) ks :: Trb q m f P S.last S.tab :: L) from by
  have h2 : Has w3 (Trb q m f P S.last S.tab :: Ints (.slice p3 ks.length c3) ks :: L) := trb_iff.2 (hO3.perm (trb_pm _ _ _ _ _ _))
  exact tfs_iff.2 ((h2.re 2 [1, 0]).row_nil 159 6))
 have HK3 := hid hK3
 have HKS := hid hks
 clear hO3 hK3 hS hq0 hk hks HO
 try dsimp only
 go_wp2_with fail
 go_loopw [3, 16] (fun v i w' => ∃ (k : Nat) (os : List Fiv), k ≤ ks.length ∧ i = .int .i64 k ∧ Hid (os.map (fun f => (f.num, f.nod)) = filesQ S (ks.take k)) ∧ Hid (∀ f ∈ os, f.ok) ∧ Hid (Has w' (Tfs v os :: Ints (.slice p3 ks.length c3) ks :: Trb q m f P S.last S.tab :: L)) ∧ Hid (Keep w w')) (fun _ i _ => ks.length - (intOf i).toNat)
 case atStart => exact ⟨0, [], by omega, rfl, hid rfl, hid (by simp), HO3, HK3⟩
 case round =>
  clear HO3 HK3
  obtain ⟨k, os, hkl, rfl, HM, HOK, HO, HK⟩ := hrel
  by_cases hlt : k < ks.length
  ·have hki : (k : Int) < ks.length := by omega
   have hrk := (Ints.rd HO.out.p1)
   obtain ⟨x, hx⟩ := HKS.out ks[k] (List.getElem_mem hlt)
   have hx' := hx
   rw [← HPT.out.1] at hx'
   obtain ⟨b, hbm, hl⟩ := Trb.look HO.out.p2 hx'
   have hq := (Trb.cells HO.out.p2).1
   obtain ⟨p4, c4, he, hnc, hn63, hg⟩ := hrk.form
   cases he
   obtain ⟨g, o, rfl, hcell⟩ := hg (by omega)
   have hc : wr.cell? ⟨g, o + k, none⟩ = some (.int .i64 ks[k]) := by
    rw [hcell k (by omega), ic, List.getElem?_map, List.getElem?_eq_getElem hlt]
    rfl
   have HX := hid hx
   have HTK := hid (show ks.take (k + 1) = ks.take k ++ [ks[k]] from by rw [List.take_add_one, List.getElem?_eq_getElem hlt]; rfl)
   have hbd := HB.out _ _ hx
   have hbd1 : x.data.length ≤ 100000 := hbd.1
   have hbd2 : x.wr.length ≤ 100000 := hbd.2
   obtain ⟨A, B, dv, wv, nm, hPe, hnm, hN⟩ := Trb.take HO.out.p2 hbm
   have HOS := hid (show os.length = k from by
    have h1 := congrArg List.length HM.out
    rw [filesQ, List.length_map, List.length_map, List.length_take] at h1
    omega)
   have HPe := hid hPe
   have HNM := hid hnm
   have HN := hid hN
   generalize ks[k] = n at *
   clear hx hx' hbm hrk hg hcell hbd hPe hnm hN
   go_upto_region 8 with fail
   clear hc hl hq
   have HNd := hid HN.out.drew
   have HKd := hid HK.out.drew
   have HDN := hid (dat_nil HNd.out.p1)
   clear HN HK HO
   have hwrd : Rd wr.drew wv 1 x.wr.length (x.wr.map Value.bool) := Bools.rd HNd.out.p2
   obtain ⟨pd, cd, rfl, -⟩ := (Dat.rd HNd.out.p1).form
   obtain ⟨pw, cw, rfl, -⟩ := hwrd.form
   clear hwrd
   refine region_text (fun w' => w'.cell? ⟨b, 0, none⟩ = some (.int .i64 x.kind) ∧ w'.cell? ⟨b, 5, none⟩ = some (.int .i64 x.links) ∧ w'.cell? ⟨b, 1, none⟩ = some (.slice pd x.data.length cd) ∧ w'.cell? ⟨b, 2, none⟩ = some (.slice pw x.wr.length cw) ∧ w'.cell? ⟨b, 3, none⟩ = some (.map nm)) (by kernel_rfl) (by kernel_rfl) ⟨HNd.out.cells 0, HNd.out.cells 5, HNd.out.cells 1, HNd.out.cells 2, HNd.out.cells 3⟩ ?_
   generalize wr.drew = yd at *
   repeat (first | refine wr5 ?_ | refine wk ?_)
   refine wa fun K hK => ?_
   go_simp
   refine (cloneBytesN _ x.data yd _ HNd.out (Dat.rd HNd.out.p1) (by omega)).mono ?_
   rintro e w8 ⟨v8, rfl, hn8, hO8, hK8⟩
   have HO8 := hid hO8
   have HK8 := hid ((HKd.out).trans hK8)
   clear hO8 hK8
   try dsimp only
   refine hK.out _ _ (⟨HO8.out.p1.cells 0, HO8.out.p1.cells 5, HO8.out.p1.cells 1, HO8.out.p1.cells 2, HO8.out.p1.cells 3⟩) ?_
   clear hK K
   try simp only [Act.put, List.setIfInBounds_toArray, List.set_cons_zero, List.set_cons_succ]
   clear HNd HKd
   repeat (first | refine wr5 ?_ | refine wk ?_)
   refine wa fun K hK => ?_
   go_simp
   refine (cloneBools _ x.wr w8 _ HO8.out (Bools.rd HO8.out.p3) (by omega)).mono ?_
   rintro e w9 ⟨v9, rfl, hO9, hK9⟩
   have HO9 := hid hO9
   have HK9 := hid ((HK8.out).trans hK9)
   clear hO9 hK9
   try dsimp only
   refine hK.out _ _ (⟨HO9.out.p2.cells 0, HO9.out.p2.cells 5, HO9.out.p2.cells 1, HO9.out.p2.cells 2, HO9.out.p2.cells 3⟩) ?_
   clear hK K
   try simp only [Act.put, List.setIfInBounds_toArray, List.set_cons_zero, List.set_cons_succ]
   clear HO8 HK8
   repeat (first | refine wr5 ?_ | refine wk ?_)
   refine wa fun K hK => ?_
   go_simp
   refine (mapsCloneN nm x.names w9 _ HO9.out.p5).mono ?_
   rintro e w10 ⟨nm', rfl, hnm', hO10, hK10⟩
   have HO10 := hid hO10
   have HK10 := hid ((HK9.out).trans hK10)
   clear hO10 hK10
   try dsimp only
   refine hK.out _ _ (⟨(HO10.out.re 5 [4]).cells 0, (HO10.out.re 5 [4]).cells 5, (HO10.out.re 5 [4]).cells 1, (HO10.out.re 5 [4]).cells 2, (HO10.out.re 5 [4]).cells 3⟩) ?_
   clear hK K
   try simp only [Act.put, List.setIfInBounds_toArray, List.set_cons_zero, List.set_cons_succ]
   clear HO9 HK9
   repeat (first | refine wr5 ?_ | refine wk ?_)
   obtain ⟨p8, c8, hv8, -⟩ := (Bytes.rd HO10.out.p3).form
   subst hv8
   obtain ⟨p9, c9, hv9, -⟩ := (Bools.rd HO10.out.p2).form
   subst hv9
   repeat (first | refine wr5 ?_ | refine wk ?_)
   refine wa fun K hK => ?_
   go_simp
   have HA := hid (HO10.out.alloc (.cells #[.int .i64 n, .int .i64 x.kind, .int .i64 x.links, .slice p8 x.data.length c8, .slice p9 x.wr.length c9, .map nm'] 159))
   have HKA := hid (HK10.out.alloc (.cells #[.int .i64 n, .int .i64 x.kind, .int .i64 x.links, .slice p8 x.data.length c8, .slice p9 x.wr.length c9, .map nm'] 159))
   refine hK.out _ _ ⟨(HA.out.re 6 [5]).cells 0, (HA.out.re 6 [5]).cells 5, (HA.out.re 6 [5]).cells 1, (HA.out.re 6 [5]).cells 2, (HA.out.re 6 [5]).cells 3⟩ ?_
   clear hK K
   try simp only [Act.put, List.setIfInBounds_toArray, List.set_cons_zero, List.set_cons_succ]
   clear HO10 HK10
   generalize w10.alloc (.cells #[.int .i64 n, .int .i64 x.kind, .int .i64 x.links, .slice p8 x.data.length c8, .slice p9 x.wr.length c9, .map nm'] 159) = w11 at *
   generalize w10.heap.size = g11 at *
   repeat (first | refine wr5 ?_ | refine wk ?_)
   have hrow := tfs_iff.1 (HA.out.re 10 [9, 0, 1, 3, 4, 5, 6, 7, 2, 8])
   have hrd : Rd w11 (.slice (some ⟨g11, 0, none⟩) 1 1) 6 1 [.int .i64 n, .int .i64 x.kind, .int .i64 x.links, .slice p8 x.data.length c8, .slice p9 x.wr.length c9, .map nm'] := (HA.out.row_of (n := 1) (cap := 1) (size := 6) (xs := [.int .i64 n, .int .i64 x.kind, .int .i64 x.links, .slice p8 x.data.length c8, .slice p9 x.wr.length c9, .map nm']) (by omega) (le_maxLen (by omega)) rfl rfl rfl).rd
   refine wa fun K hK => ?_
   refine wp_appendA (.tmp 26) (.tmp 52) 162 rfl Tryz.underlying162 infoFil rfl (by decide) hrow (by rfl) _ 1 [.int .i64 n, .int .i64 x.kind, .int .i64 x.links, .slice p8 x.data.length c8, .slice p9 x.wr.length c9, .map nm'] (by rfl) hrd (by intro u hu; simp only [List.mem_cons, List.not_mem_nil, or_false] at hu; rcases hu with rfl | rfl | rfl | rfl | rfl | rfl <;> rfl) (le_maxLen (by have := HOS.out; omega)) (by have := HOS.out; omega) fun v12 w12 h12 hk12 => ?_
   have HB12 := hid (h12.perm (List.perm_append_comm (l₁ := row v12 159 6 (os.length + 1) (fivs os ++ [.int .i64 n, .int .i64 x.kind, .int .i64 x.links, .slice p8 x.data.length c8, .slice p9 x.wr.length c9, .map nm']) :: os.map FvC)))
   have HK12 := hid (HKA.out.trans hk12)
   clear h12 hk12 hrow hrd HA HKA
   refine hK.out _ _ ⟨(HB12.out.re 5 [4]).cells 0, (HB12.out.re 5 [4]).cells 5, (HB12.out.re 5 [4]).cells 1, (HB12.out.re 5 [4]).cells 2, (HB12.out.re 5 [4]).cells 3⟩ ?_
   clear hK K
   try simp only [Act.put, List.setIfInBounds_toArray, List.set_cons_zero, List.set_cons_succ]
   have h13 : Has w12 (FvC ⟨n, x, .slice p8 x.data.length c8, .slice p9 x.wr.length c9, nm'⟩ :: _) := fvc_iff.2 (HB12.out.re 8 [3, 2, 1, 4, 5, 6, 7])
   have h14 := Trb.shut HPe.out HNM.out (h13.re 6 [1, 2, 3, 4, 5, 0])
   rw [← HPe.out] at h14
   have h15 : Has w12 (Trb q m f P S.last S.tab :: FvC ⟨n, x, .slice p8 x.data.length c8, .slice p9 x.wr.length c9, nm'⟩ :: Ints (.slice (some ⟨g, o, none⟩) ks.length c3) ks :: (L ++ (row v12 159 6 (os.length + 1) (fivs os ++ [.int .i64 n, .int .i64 x.kind, .int .i64 x.links, .slice p8 x.data.length c8, .slice p9 x.wr.length c9, .map nm']) :: os.map FvC))) := h14
   have HZ := hid (tfs_push (f := ⟨n, x, .slice p8 x.data.length c8, .slice p9 x.wr.length c9, nm'⟩) (h15.perm (fs_pm _ _ _ _ _ _)))
   clear h13 h14 h15 HB12
   repeat (first | refine wr5 ?_ | refine wk ?_)
   refine wpL_nil ?_
   go_wp2_with fail
   refine ⟨⟨k + 1, _, by omega, by go_num, hid ?_, hid ?_, HZ, HK12⟩, by simp [intOf]; omega⟩
   ·rw [List.map_append, HM.out, HTK.out, filesQ, filesQ, List.map_append]
    simp [HX.out]
   ·intro f0 hf
    rcases List.mem_append.1 hf with hf | hf
    ·exact HOK.out f0 hf
    ·rw [List.mem_singleton] at hf
     subst hf
     exact ⟨fun h => by obtain ⟨z, hz⟩ := HNM.out h; exact hnm' z hz, fun h => hn8.trans (HDN.out h)⟩
  ·have hki : ¬ (k : Int) < ks.length := by omega
   obtain rfl : k = ks.length := by omega
   go_wp2_with fail
   go_ret
   have hM := HM.out
   rw [List.take_length, ← HKE.out] at hM
   refine ⟨_, rfl, os, hM, HOK.out, ?_, HK.out⟩
   exact (trc_iff.2 ⟨m, f, P, HPT.out, HO.out.re 3 [2, 0]⟩ : Has wr (Trc q S :: Tfs u3 os :: L)).re 2 [1, 0]
end Go.Proofs.YtmgpgbfgemebbaaGreatDoor
namespace Go.Proofs.YtmgpgbfgemebbaaGreatDoor
open Go.RowKit Go.Own
open Classical in
theorem pmS1 (G Q E S : HP) (H Z Z0 L : List HP) (h : Z.Perm (S :: Z0)) : (G :: Q :: E :: (H ++ (Z ++ L))).Perm (S :: G :: Q :: E :: (H ++ (Z0 ++ L))) := by
 refine List.perm_iff_count.2 fun x => ?_
 have e1 := h.count_eq x
 simp only [List.count_append, List.count_cons] at *
 omega
open Classical in
theorem pmS2 (S G Q E : HP) (H R : List HP) : (S :: G :: Q :: E :: (H ++ R)).Perm (E :: (H ++ (S :: G :: Q :: R))) := by
 refine List.perm_iff_count.2 fun x => ?_
 simp only [List.count_append, List.count_cons] at *
 omega
open Classical in
theorem pmS3 (E S G Q : HP) (H Z Z0 L : List HP) (h : Z.Perm (S :: Z0)) : (E :: (H ++ (S :: G :: Q :: (Z0 ++ L)))).Perm (G :: Q :: E :: (H ++ (Z ++ L))) := by
 refine List.perm_iff_count.2 fun x => ?_
 have e1 := h.count_eq x
 simp only [List.count_append, List.count_cons] at *
 omega
set_option maxRecDepth 100000 in
set_option maxHeartbeats 8000000 in
theorem mSetX (q b clock : Nat) (es : Array MapEntry) (C : Array Value) (X : List (Ent × Slv × List Int)) (e : Ent) (n : Int) (ho : Hold) (w : World) (L : List HP) (hC : C[4]? = some (.map (some b))) (he : okEnt e) (hin : e ∈ X.map Prod.fst) (hl : X.length < 1000000) (hll : ((fnd (zB X) e).getD [0]).length ≤ 1000000) (hO : Has w (pt q (.cells C 142) :: EtX b es clock X :: (Hld b es clock ho ++ (zC EntC X ++ L)))) :
  Calls Tryz.prog 166 #[.pointer (some ⟨q, 0, none⟩), .agg #[.int .i64 e.1, sV e.2], .int .i64 n] w fun e' w' => e' = .returned (.tuple #[]) ∧ (∃ es' clock' X', zB X' = setE (zB X) e n ∧ Has w' (pt q (.cells C 142) :: EtX b es' clock' X' :: (Hld b es' clock' ho ++ (zC EntC X' ++ L)))) ∧ Keep w w' := by
 obtain ⟨d, p⟩ := e
 dsimp only
 have HC := hid (fun (w : World) (L' : List HP) (h : Has w (pt q (.cells C 142) :: L')) => (show w.cell? ⟨q, 4, none⟩ = some (.map (some b)) from (h.cells 4).trans hC))
 have HND := hid (show (X.map Prod.fst).Nodup from by have h2 := Mk.nodup (Mx.mk hO.drop); rw [zH_keys] at h2; exact h2)
 have HO2 := hid (hO.alloc (.cells #[.int .i64 d, sV p] 144)).drew
 have HK2 := hid ((Keep.refl w).alloc (.cells #[.int .i64 d, sV p] 144)).drew
 have HE := hid he
 have HIN := hid hin
 have HXL := hid (show (zH X).length < 1000000 from by unfold zH; rw [List.length_map]; exact hl)
 have HLL := hid hll
 clear hO hC he hin hl hll
 go_enter Tryz.func166, Tryz.ntmps166
 go_upto_region 1 with fail
 generalize w.heap.size = g at *
 generalize w.alloc (.cells #[.int .i64 d, sV p] 144) = w1 at *
 have hlk := Mk.look (Mx.mk HO2.out.p2) undEm HE.out
 obtain ⟨X0, hcase, hput⟩ := z_zip EntC X (d, p) HND.out
 have HPUT := hid hput
 clear hput
 rcases hcase with ⟨h1, -, -⟩ | ⟨s, a, h1, h2, h3⟩
 ·exact absurd (fnd_none.1 h1) (by rw [zB_keys]; exact fun hh => hh HIN.out)
 rw [h2] at hlk
 have hl0 : (Instr.lookup tEm (.map (some b)) (.agg #[.int .i64 d, sV p]) true).run Tryz.prog w1.drew = .ok (.tuple #[slvV s, .bool true]) w1.drew := by
  rw [show ∀ inst : Decidable ((d, p) ∈ (zH X).map Prod.fst), @decide _ inst = true from fun _ => decide_eq_true (List.mem_map.2 ⟨_, fnd_some h2, rfl⟩)] at hlk
  exact hlk
 have HLS := hid (show setE (zB X) (d, p) n = putA (zB X) (d, p) (addV a n 0) from by unfold setE; rw [h1]; rfl)
 have HAL := hid (show a.length ≤ 1000000 from by have h9 := HLL.out; rw [h1] at h9; exact h9)
 have HZP := hid h3
 clear hlk h1 h2 h3
 refine region_text (fun w' => w'.cell? ⟨q, 4, none⟩ = some (.map (some b)) ∧ w'.cell? ⟨g, 0, none⟩ = some (.int .i64 d) ∧ w'.cell? ⟨g, 1, none⟩ = some (sV p) ∧ (Instr.lookup tEm (.map (some b)) (.agg #[.int .i64 d, sV p]) true).run Tryz.prog w' = .ok (.tuple #[slvV s, .bool true]) w') (by kernel_rfl) (by kernel_rfl) ⟨HC.out _ _ HO2.out.p1, HO2.out.cells 0, HO2.out.cells 1, hl0⟩ ?_
 generalize w1.drew = w2 at *
 repeat (first | refine wr4 ?_ | refine wk ?_)
 refine wpL_nil ?_
 clear hl0
 have HO3 := hid (show Has w2 (row (slvV s) 3 1 a.length (ic a) :: pt g (.cells #[.int .i64 d, sV p] 144) :: pt q (.cells C 142) :: EtX b es clock X :: (Hld b es clock ho ++ (zC EntC X0 ++ L))) from HO2.out.perm (pmS1 _ _ _ (EntC s a) _ _ _ _ HZP.out))
 have HK3 := hid HK2.out
 clear HZP
 go_upto_region 4 with fail
 generalize w2 = w3 at *
 have HV := hid (mValue (slvV s) a w3 (Has.rd HO3.out))
 clear HO2 HK2
 go_wp2_with fail
 refine HV.out.mono ?_
 rintro e w' ⟨rfl, rfl⟩
 clear HV
 try dsimp only
 by_cases hq : lastI a = n
 ·have hqb : (lastI a != n) = false := by simp [hq]
  have HAD := hid (show addV a n 0 = a from by unfold addV; exact if_pos hq)
  clear hq
  generalize lastI a = z at *
  go_upto_region 6 with fail
  rw [HAD.out] at HLS
  have HO5 := hid HO3.out.drew
  have HK5 := hid HK3.out.drew
  refine region_text (fun w' => w'.cell? ⟨q, 4, none⟩ = some (.map (some b)) ∧ w'.cell? ⟨g, 0, none⟩ = some (.int .i64 d) ∧ w'.cell? ⟨g, 1, none⟩ = some (sV p)) (by kernel_rfl) (by kernel_rfl) ⟨HC.out _ _ HO5.out.p2, HO5.out.p1.cells 0, HO5.out.p1.cells 1⟩ ?_
  generalize w3.drew = w5 at *
  repeat (first | refine wr3 ?_ | refine wk ?_)
  refine wa fun K hK => ?_
  refine wp_mxPut ho (show Has w5 (Mx kEnt vSI b es clock (zH X) :: (Hld b es clock ho ++ _)) from HO5.out.perm (pmS2 _ _ _ _ _ _)) HXL.out tEm undEm _ _ _ rfl rfl ((d, p) : Ent) (by rw [zH_keys]; exact HIN.out) HE.out rfl s rfl ?_
  intro w6 es' clock' h6 k6
  obtain ⟨X', hB, hH, hCp⟩ := HPUT.out s a
  rw [← hH] at h6
  have HO6 := hid (show Has w6 (pt g (.cells #[.int .i64 d, sV p] 144) :: pt q (.cells C 142) :: EtX b es' clock' X' :: (Hld b es' clock' ho ++ (zC EntC X' ++ L))) from h6.perm (pmS3 _ (EntC s a) _ _ _ _ _ _ hCp))
  have HK6 := hid (HK5.out.trans k6)
  have HB := hid (hB.trans HLS.out.symm)
  clear h6 k6 hB hH hCp
  refine hK.out _ _ ⟨HC.out _ _ HO6.out.p1, HO6.out.cells 0, HO6.out.cells 1⟩ ?_
  clear hK K
  try simp only [Act.put, List.setIfInBounds_toArray, List.set_cons_zero, List.set_cons_succ]
  refine wpL_nil ?_
  go_wp2_with fail
  go_end0
  exact ⟨rfl, ⟨es', clock', X', HB.out, HO6.out.drop⟩, HK6.out⟩
 ·have hqb : (lastI a != n) = true := by simp [hq]
  have HAD := hid (show addV a n 0 = a ++ [n] from by unfold addV; exact if_neg hq)
  clear hq
  generalize lastI a = z at *
  have HOa := hid (HO3.out.alloc (.cells #[.int .i64 n] 3))
  have HKa := hid (HK3.out.alloc (.cells #[.int .i64 n] 3))
  have hlit : (w3.alloc (.cells #[.int .i64 n] 3)).cell? ⟨w3.heap.size, 0, none⟩ = some (.int .i64 n) := HOa.out.cells 0
  go_wp2_with (at_builtin; refine wpList_append1 rfl _ _ _ rfl Tryz.underlying69 infoI1 rfl (.int .i64 n) (HOa.out.p1) rfl 1 _ rfl hlit rfl (le_maxLen (by have := HAL.out; omega)) (by have := HAL.out; omega) ?_)
  intro v4 w4 h4 k4
  obtain ⟨ga, ca, rfl⟩ := row_some h4
  have HO4 := hid (show Has w4 (row (slvV ⟨some (ga, 0), a.length + 1, ca⟩) 3 1 (a ++ [n]).length (ic (a ++ [n])) :: pt g (.cells #[.int .i64 d, sV p] 144) :: pt q (.cells C 142) :: EtX b es clock X :: (Hld b es clock ho ++ (zC EntC X0 ++ L))) from by
   rw [show ic (a ++ [n]) = ic a ++ [.int .i64 n] from by simp [ic], List.length_append]
   exact h4.re 5 [0, 2, 3, 4])
  have HK4 := hid (HKa.out.trans k4)
  clear h4 k4 HOa HKa hlit HO3 HK3
  go_upto_region 6 with fail
  rw [HAD.out] at HLS
  have HO5 := hid HO4.out.drew
  have HK5 := hid HK4.out.drew
  refine region_text (fun w' => w'.cell? ⟨q, 4, none⟩ = some (.map (some b)) ∧ w'.cell? ⟨g, 0, none⟩ = some (.int .i64 d) ∧ w'.cell? ⟨g, 1, none⟩ = some (sV p)) (by kernel_rfl) (by kernel_rfl) ⟨HC.out _ _ HO5.out.p2, HO5.out.p1.cells 0, HO5.out.p1.cells 1⟩ ?_
  generalize w4.drew = w5 at *
  repeat (first | refine wr3 ?_ | refine wk ?_)
  refine wa fun K hK => ?_
  refine wp_mxPut ho (show Has w5 (Mx kEnt vSI b es clock (zH X) :: (Hld b es clock ho ++ _)) from HO5.out.perm (pmS2 _ _ _ _ _ _)) HXL.out tEm undEm _ _ _ rfl rfl ((d, p) : Ent) (by rw [zH_keys]; exact HIN.out) HE.out rfl (⟨some (ga, 0), a.length + 1, ca⟩ : Slv) rfl ?_
  intro w6 es' clock' h6 k6
  obtain ⟨X', hB, hH, hCp⟩ := HPUT.out (⟨some (ga, 0), a.length + 1, ca⟩ : Slv) (a ++ [n])
  rw [← hH] at h6
  have HO6 := hid (show Has w6 (pt g (.cells #[.int .i64 d, sV p] 144) :: pt q (.cells C 142) :: EtX b es' clock' X' :: (Hld b es' clock' ho ++ (zC EntC X' ++ L))) from h6.perm (pmS3 _ (EntC (⟨some (ga, 0), a.length + 1, ca⟩ : Slv) (a ++ [n])) _ _ _ _ _ _ hCp))
  have HK6 := hid (HK5.out.trans k6)
  have HB := hid (hB.trans HLS.out.symm)
  clear h6 k6 hB hH hCp
  refine hK.out _ _ ⟨HC.out _ _ HO6.out.p1, HO6.out.cells 0, HO6.out.cells 1⟩ ?_
  clear hK K
  try simp only [Act.put, List.setIfInBounds_toArray, List.set_cons_zero, List.set_cons_succ]
  refine wpL_nil ?_
  go_wp2_with fail
  go_end0
  exact ⟨rfl, ⟨es', clock', X', HB.out, HO6.out.drop⟩, HK6.out⟩
end Go.Proofs.YtmgpgbfgemebbaaGreatDoor
namespace Go.Proofs.YtmgpgbfgemebbaaGreatDoor
open Go.RowKit Go.Own
section
variable {κ α : Type} [DecidableEq κ]
def mapK (f : κ → α → α) (t : List (κ × α)) (rem : List κ) : List (κ × α) := t.map fun x => (x.1, if x.1 ∈ rem then x.2 else f x.1 x.2)
theorem mapK_keys (f : κ → α → α) (t : List (κ × α)) (rem : List κ) : (mapK f t rem).map Prod.fst = t.map Prod.fst := by simp [mapK]
theorem mapK_len (f : κ → α → α) (t : List (κ × α)) (rem : List κ) : (mapK f t rem).length = t.length := by simp [mapK]
theorem mapK_all (f : κ → α → α) (t : List (κ × α)) : mapK f t (t.map Prod.fst) = t := by
 unfold mapK
 refine (List.map_congr_left fun x hx => ?_).trans (List.map_id _)
 rw [if_pos (List.mem_map_of_mem hx)]
 rfl
theorem mapK_nil (f : κ → α → α) (t : List (κ × α)) : mapK f t [] = t.map fun x => (x.1, f x.1 x.2) := by
 unfold mapK
 refine List.map_congr_left fun x hx => ?_
 rw [if_neg (by simp)]
theorem mapK_mem {f : κ → α → α} {t : List (κ × α)} {rem : List κ} {k : κ} {a : α} (hk : k ∈ rem) (hm : (k, a) ∈ mapK f t rem) : (k, a) ∈ t := by
 obtain ⟨y, hy, he⟩ := List.mem_map.1 hm
 simp only [Prod.mk.injEq] at he
 obtain ⟨rfl, e2⟩ := he
 rw [if_pos hk] at e2
 subst e2
 exact hy
theorem mapK_step {f : κ → α → α} {t : List (κ × α)} (hn : (t.map Prod.fst).Nodup) {rem : List κ} {k : κ} {a : α} (hk : k ∈ rem) (hm : (k, a) ∈ t) : putA (mapK f t rem) k (f k a) = mapK f t (rem.filter fun y => !decide (y = k)) := by
 unfold putA
 rw [if_pos (by rw [mapK_keys]; exact List.mem_map_of_mem hm)]
 unfold mapK
 rw [List.map_map]
 refine List.map_congr_left fun x hx => ?_
 simp only [Function.comp]
 by_cases hxk : x.1 = k
 ·rw [if_pos hxk, if_neg (by rw [List.mem_filter]; simp [hxk])]
  have e3 := fnd_mem hn hx
  rw [hxk, fnd_mem hn hm] at e3
  rw [Option.some.inj e3, hxk]
 ·rw [if_neg hxk]
  congr 1
  by_cases hr : x.1 ∈ rem
  ·rw [if_pos hr, if_pos (by rw [List.mem_filter]; exact ⟨hr, by simp [hxk]⟩)]
  ·rw [if_neg hr, if_neg (by rw [List.mem_filter]; exact fun h => hr h.1)]
theorem fnd_app (a b : List (κ × α)) (k : κ) : fnd (a ++ b) k = (fnd a k).or (fnd b k) := by
 unfold fnd
 rw [List.find?_append]
 cases List.find? (fun p => decide (p.1 = k)) a <;> rfl
theorem fnd_mapK (f : κ → α → α) (t : List (κ × α)) (k : κ) : fnd (mapK f t []) k = (fnd t k).map (f k) := by
 rw [mapK_nil]
 induction t with
 | nil => rfl
 | cons x t ih =>
  unfold fnd at *
  rw [List.map_cons, List.find?_cons, List.find?_cons]
  by_cases h : x.1 = k
  ·simp [h]
  ·simpa [h] using ih
end
def noteFil (x : Nod) (F : Fil) : Fil := if x.kind = 1 then F.write x.data else if x.kind = 3 then { F with target := strOf x.data } else F
def newFil (k : Int) : Fil := ⟨k, [], [0], []⟩
def note1 (Y : List (Int × Fil)) (x : Int × Nod) : List (Int × Fil) := putA Y x.1 (noteFil x.2 ((fnd Y x.1).getD (newFil x.2.kind)))
def noteF (Y : List (Int × Fil)) (l : List (Int × Nod)) : List (Int × Fil) := l.foldl note1 Y
def thereL (l : List (Int × Nod)) : List (Ent × Int) := l.flatMap fun x => x.2.names.map fun p => ((x.1, p.1), p.2)
def thrE (T : List (Ent × Int)) (e : Ent) : Int := (fnd T e).getD 0
def setT (T : List (Ent × Int)) (e : Ent) (l : List Int) : List Int := addV l (thrE T e) 0
def noteE (T : List (Ent × Int)) (t : List (Ent × List Int)) : List (Ent × List Int) := mapK (setT T) t [] ++ (T.filter fun x => decide (x.1 ∉ t.map Prod.fst)).map fun x => (x.1, addV [0] x.2 0)
def lnkL (l : List (Int × Nod)) : List (Int × Int) := l.map fun x => (x.1, x.2.links)
def lnk (l : List (Int × Nod)) (n : Int) : Int := (fnd (lnkL l) n).getD 0
def noteK (l : List (Int × Nod)) (n : Int) (m : Mrk) : Mrk := (m.1, m.2.1 && decide (0 < lnk l n), m.2.2 && decide (lnk l n = 1))
def noteM (l : List (Int × Nod)) (M : List (Int × Mrk)) : List (Int × Mrk) := mapK (noteK l) M []
def His.noteL (H : His) (l : List (Int × Nod)) : His := { H with files := noteF H.files l, ents := noteE (thereL l) H.ents, marks := noteM l H.marks }
def filL (S : Tre) : List (Int × Nod) := filesQ S (sorted (S.nodes.map Prod.fst))
structure SetR (T : List (Ent × Int)) (E t : List (Ent × List Int)) (rem : List Ent) : Prop where
 nd : (t.map Prod.fst).Nodup
 at_ : ∀ e, fnd t e = match fnd E e with | some l => some (setT T e l) | none => if e ∈ rem then none else (fnd T e).map fun n => addV [0] n 0
theorem addV_last {l : List Int} (x : Int) : lastI (addV l x 0) = x := by
 unfold addV
 split
 ·rename_i h; exact h
 ·unfold lastI; simp
theorem addV_id {l : List Int} {x : Int} (h : lastI l = x) : addV l x 0 = l := by
 unfold addV
 exact if_pos h
theorem SetR.start {T : List (Ent × Int)} {E : List (Ent × List Int)} (hn : (E.map Prod.fst).Nodup) {rem : List Ent} (hr : ∀ e, e ∈ rem ↔ e ∈ T.map Prod.fst) : SetR T E (mapK (setT T) E []) rem where
 nd := by rw [mapK_keys]; exact hn
 at_ := fun e => by
  rw [fnd_mapK]
  cases h : fnd E e with
  | some l => rfl
  | none =>
   dsimp only [Option.map]
   by_cases he : e ∈ rem
   ·rw [if_pos he]
   ·rw [if_neg he, fnd_none.2 (fun h9 => he ((hr e).2 h9))]
theorem SetR.step {T : List (Ent × Int)} {E t : List (Ent × List Int)} {rem : List Ent} (h : SetR T E t rem) {e : Ent} {n : Int} (hT : fnd T e = some n) (hr : e ∈ rem) : SetR T E (setE t e n) (rem.filter fun y => !decide (y = e)) where
 nd := by unfold setE; exact putA_nd _ _ h.nd
 at_ := fun y => by
  unfold setE
  rw [fnd_putA]
  by_cases hy : y = e
  ·subst hy
   rw [if_pos rfl, h.at_ y]
   cases hE : fnd E y with
   | some l =>
    dsimp only [Option.getD]
    rw [addV_id]
    unfold setT
    rw [addV_last]
    unfold thrE
    rw [hT]
    rfl
   | none =>
    dsimp only
    rw [if_pos hr, if_neg (by rw [List.mem_filter]; simp), hT]
    rfl
  ·rw [if_neg hy, h.at_ y]
   cases hE : fnd E y with
   | some l => rfl
   | none =>
    dsimp only
    by_cases hyr : y ∈ rem
    ·rw [if_pos hyr, if_pos (by rw [List.mem_filter]; exact ⟨hyr, by simp [hy]⟩)]
    ·rw [if_neg hyr, if_neg (by rw [List.mem_filter]; exact fun h9 => hyr h9.1)]
theorem fnd_filt {κ α : Type} [DecidableEq κ] {T : List (κ × α)} (f : κ → Bool) (e : κ) : fnd (T.filter fun x => f x.1) e = if f e then fnd T e else none := by
 induction T with
 | nil => unfold fnd; simp
 | cons x T ih =>
  unfold fnd at *
  rw [List.filter_cons]
  by_cases hx : x.1 = e
  ·subst hx
   by_cases hf : f x.1
   ·simp [hf]
   ·simp only [hf]
    rw [if_neg (by simp)]
    simp only [hf] at ih
    simpa using ih
  ·by_cases hf : f x.1
   ·simp only [hf, if_true, List.find?_cons, hx, decide_false]
    exact ih
   ·simp only [hf, List.find?_cons, hx, decide_false]
    exact ih
theorem fnd_mapv {κ α β : Type} [DecidableEq κ] {T : List (κ × α)} (g : α → β) (e : κ) : fnd (T.map fun x => (x.1, g x.2)) e = (fnd T e).map g := by
 induction T with
 | nil => rfl
 | cons x T ih =>
  unfold fnd at *
  rw [List.map_cons, List.find?_cons, List.find?_cons]
  by_cases hx : x.1 = e
  ·simp [hx]
  ·simpa [hx] using ih
theorem noteE_nd {T : List (Ent × Int)} {E : List (Ent × List Int)} (hn : (E.map Prod.fst).Nodup) (hT : (T.map Prod.fst).Nodup) : ((noteE T E).map Prod.fst).Nodup := by
 unfold noteE
 rw [List.map_append, mapK_keys, List.map_map]
 refine List.nodup_append.2 ⟨hn, ?_, ?_⟩
 ·exact hT.sublist ((List.filter_sublist).map _)
 ·intro a ha b hb
  obtain ⟨x, hx, rfl⟩ := List.mem_map.1 hb
  rintro rfl
  have := (List.mem_filter.1 hx).2
  simp only [Function.comp, decide_eq_true_eq] at this ha
  exact this ha
theorem noteE_fnd {T : List (Ent × Int)} {E : List (Ent × List Int)} (e : Ent) : fnd (noteE T E) e = match fnd E e with | some l => some (setT T e l) | none => (fnd T e).map fun n => addV [0] n 0 := by
 unfold noteE
 rw [fnd_app, fnd_mapK, fnd_mapv (fun n : Int => addV [0] n 0), fnd_filt (fun y => decide (y ∉ E.map Prod.fst))]
 cases h : fnd E e with
 | some l => rfl
 | none =>
  rw [if_pos (by simpa using fnd_none.1 h)]
  rfl
theorem SetR.perm {T : List (Ent × Int)} {E t : List (Ent × List Int)} (h : SetR T E t []) (hn : (E.map Prod.fst).Nodup) (hT : (T.map Prod.fst).Nodup) : t.Perm (noteE T E) := by
 refine perm_of_fnd h.nd (noteE_nd hn hT) fun e => ?_
 rw [h.at_ e, noteE_fnd]
 cases fnd E e with
 | some l => rfl
 | none => dsimp only; rw [if_neg (by simp)]
theorem SetR.keys {T : List (Ent × Int)} {E t : List (Ent × List Int)} {rem : List Ent} (h : SetR T E t rem) : t.length ≤ E.length + T.length := by
 have h2 := sub_len (t.map Prod.fst) (E.map Prod.fst ++ T.map Prod.fst) h.nd (fun k hk => by
  obtain ⟨a, ha⟩ := fnd_has hk
  rw [h.at_ k] at ha
  rw [List.mem_append]
  cases hE : fnd E k with
  | some l => exact .inl (mem_of_fnd hE)
  | none =>
   rw [hE] at ha
   dsimp only at ha
   split at ha
   ·cases ha
   ·cases hT : fnd T k with
    | some n => exact .inr (mem_of_fnd hT)
    | none => rw [hT] at ha; cases ha)
 simpa using h2
theorem SetR.len {T : List (Ent × Int)} {E t : List (Ent × List Int)} {rem : List Ent} (h : SetR T E t rem) {N : Nat} (hE : ∀ x ∈ E, x.2.length ≤ N) (e : Ent) : ((fnd t e).getD [0]).length ≤ N + 2 := by
 rw [h.at_ e]
 cases hE2 : fnd E e with
 | some l =>
  have h1 := hE _ (fnd_some hE2)
  have h2 := addV_len l (thrE T e) 0
  show (addV l (thrE T e) 0).length ≤ _
  simp only at h1
  omega
 | none =>
  dsimp only
  split
  ·show [(0 : Int)].length ≤ _
   simp
  ·cases fnd T e with
   | none => show [(0 : Int)].length ≤ _; simp
   | some n =>
    have h2 := addV_len [(0 : Int)] n 0
    show (addV [(0 : Int)] n 0).length ≤ _
    simp only [List.length_singleton] at h2
    omega
structure ThR (l : List (Int × Nod)) (n : Int) (names : List (Str × Int)) (T : List (Ent × Int)) (rem : List Str) : Prop where
 nd : (T.map Prod.fst).Nodup
 mem : ∀ p, p ∈ T ↔ p ∈ thereL l ∨ (p.1.1 = n ∧ (p.1.2, p.2) ∈ names ∧ p.1.2 ∉ rem)
theorem mem_thereL {l : List (Int × Nod)} {p : Ent × Int} : p ∈ thereL l ↔ ∃ x ∈ l, x.1 = p.1.1 ∧ (p.1.2, p.2) ∈ x.2.names := by
 unfold thereL
 rw [List.mem_flatMap]
 constructor
 ·rintro ⟨x, hx, h⟩
  obtain ⟨y, hy, rfl⟩ := List.mem_map.1 h
  exact ⟨x, hx, rfl, hy⟩
 ·rintro ⟨x, hx, h1, h2⟩
  refine ⟨x, hx, List.mem_map.2 ⟨_, h2, ?_⟩⟩
  rw [h1]
theorem ThR.start {l : List (Int × Nod)} {T : List (Ent × Int)} (hn : (T.map Prod.fst).Nodup) (hm : ∀ p, p ∈ T ↔ p ∈ thereL l) (n : Int) (names : List (Str × Int)) : ThR l n names T (names.map Prod.fst) where
 nd := hn
 mem := fun p => by
  rw [hm p]
  constructor
  ·exact .inl
  ·rintro (h | ⟨-, h2, h3⟩)
   ·exact h
   ·exact absurd (List.mem_map_of_mem h2) h3
theorem ThR.done {l : List (Int × Nod)} {T : List (Ent × Int)} {n : Int} {x : Nod} (h : ThR l n x.names T []) : ∀ p, p ∈ T ↔ p ∈ thereL (l ++ [(n, x)]) := fun p => by
 rw [h.mem p, mem_thereL, mem_thereL]
 constructor
 ·rintro (⟨y, hy, h1⟩ | ⟨h1, h2, -⟩)
  ·exact ⟨y, List.mem_append_left _ hy, h1⟩
  ·exact ⟨(n, x), by simp, h1.symm, h2⟩
 ·rintro ⟨y, hy, h1, h2⟩
  rcases List.mem_append.1 hy with hy | hy
  ·exact .inl ⟨y, hy, h1, h2⟩
  ·rw [List.mem_singleton] at hy
   subst hy
   exact .inr ⟨h1.symm, h2, by simp⟩
theorem ThR.new {l : List (Int × Nod)} {T : List (Ent × Int)} {n : Int} {names : List (Str × Int)} {rem : List Str} (h : ThR l n names T rem) (hl : n ∉ l.map Prod.fst) {s : Str} (hr : s ∈ rem) : (n, s) ∉ T.map Prod.fst := by
 intro h1
 obtain ⟨p, hp, he⟩ := List.mem_map.1 h1
 rcases (h.mem p).1 hp with h2 | ⟨h2, h3, h4⟩
 ·obtain ⟨x, hx, h5, -⟩ := mem_thereL.1 h2
  rw [he] at h5
  exact hl (List.mem_map.2 ⟨x, hx, h5⟩)
 ·rw [he] at h4
  exact h4 hr
theorem ThR.step {l : List (Int × Nod)} {T : List (Ent × Int)} {n : Int} {names : List (Str × Int)} {rem : List Str} (h : ThR l n names T rem) (hl : n ∉ l.map Prod.fst) (hnn : (names.map Prod.fst).Nodup) {s : Str} {c : Int} (hr : s ∈ rem) (hm : (s, c) ∈ names) : ThR l n names (putA T (n, s) c) (rem.filter fun y => !decide (y = s)) where
 nd := putA_nd _ _ h.nd
 mem := fun p => by
  rw [putA_new _ (h.new hl hr), List.mem_append, h.mem p, List.mem_singleton, List.mem_filter]
  constructor
  ·rintro ((h1 | ⟨h1, h2, h3⟩) | rfl)
   ·exact .inl h1
   ·exact .inr ⟨h1, h2, fun h4 => h3 h4.1⟩
   ·exact .inr ⟨rfl, hm, fun h4 => by simpa using h4.2⟩
  ·rintro (h1 | ⟨h1, h2, h3⟩)
   ·exact .inl (.inl h1)
   ·by_cases he : p.1.2 = s
    ·right
     have e1 := fnd_mem hnn hm
     have e2 := fnd_mem hnn h2
     rw [he, e1] at e2
     obtain ⟨⟨a, b⟩, d⟩ := p
     dsimp only at *
     rw [h1, he, Option.some.inj e2]
    ·exact .inl (.inr ⟨h1, h2, fun h4 => h3 ⟨h4, by simp [he]⟩⟩)
theorem ThR.len {l : List (Int × Nod)} {T : List (Ent × Int)} {n : Int} {x : Nod} {rem : List Str} (h : ThR l n x.names T rem) : T.length ≤ (thereL (l ++ [(n, x)])).length := by
 have h2 := sub_len T (thereL (l ++ [(n, x)])) (List.Pairwise.of_map Prod.fst (fun a b h e => h (by rw [e])) h.nd) (fun p hp => by
  rcases (h.mem p).1 hp with h1 | ⟨h1, h2, -⟩
  ·obtain ⟨y, hy, h3⟩ := mem_thereL.1 h1
   exact mem_thereL.2 ⟨y, List.mem_append_left _ hy, h3⟩
  ·exact mem_thereL.2 ⟨(n, x), by simp, h1.symm, h2⟩)
 exact h2
theorem thereL_nd : ∀ {l : List (Int × Nod)}, (l.map Prod.fst).Nodup → (∀ x ∈ l, (x.2.names.map Prod.fst).Nodup) → ((thereL l).map Prod.fst).Nodup
 | [], _, _ => List.nodup_nil
 | x :: l, h1, h2 => by
  rw [List.map_cons, List.nodup_cons] at h1
  have ih := thereL_nd h1.2 fun y hy => h2 y (List.mem_cons_of_mem _ hy)
  have e : thereL (x :: l) = (x.2.names.map fun p => ((x.1, p.1), p.2)) ++ thereL l := by unfold thereL; rw [List.flatMap_cons]
  rw [e, List.map_append, List.map_map]
  refine List.nodup_append.2 ⟨?_, ih, ?_⟩
  ·have h3 := h2 x List.mem_cons_self
   have e2 : (x.2.names.map (Prod.fst ∘ fun p : Str × Int => ((x.1, p.1), p.2))) = (x.2.names.map Prod.fst).map fun s => (x.1, s) := by rw [List.map_map]; rfl
   rw [e2]
   exact List.Pairwise.map _ (fun a b hab he => hab (by injection he)) h3
  ·intro a ha b hb
   rintro rfl
   obtain ⟨p, hp, rfl⟩ := List.mem_map.1 ha
   obtain ⟨q, hq, he⟩ := List.mem_map.1 hb
   obtain ⟨y, hy, h3, -⟩ := mem_thereL.1 hq
   rw [he] at h3
   exact h1.1 (List.mem_map.2 ⟨y, hy, h3⟩)
theorem thereL_perm {l : List (Int × Nod)} {T : List (Ent × Int)} (hn : (T.map Prod.fst).Nodup) (hm : ∀ p, p ∈ T ↔ p ∈ thereL l) (h1 : (l.map Prod.fst).Nodup) (h2 : ∀ x ∈ l, (x.2.names.map Prod.fst).Nodup) : T.Perm (thereL l) :=
 (List.perm_ext_iff_of_nodup (List.Pairwise.of_map Prod.fst (fun a b h e => h (by rw [e])) hn) (List.Pairwise.of_map Prod.fst (fun a b h e => h (by rw [e])) (thereL_nd h1 h2))).2 hm
end Go.Proofs.YtmgpgbfgemebbaaGreatDoor
namespace Go.Proofs.YtmgpgbfgemebbaaGreatDoor
open Go.RowKit Go.Own
theorem fnd_delA {κ α : Type} [DecidableEq κ] {t : List (κ × α)} {x y : κ} (h : y ≠ x) : fnd (delA t x) y = fnd t y := by
 unfold fnd delA
 induction t with
 | nil => rfl
 | cons p t ih =>
  rw [List.filter_cons]
  by_cases hp : p.1 = x
  ·rw [if_neg (by simp [hp]), List.find?_cons]
   have : decide (p.1 = y) = false := by simp; rw [hp]; exact fun e => h e.symm
   rw [this]
   exact ih
  ·rw [if_pos (by simp [hp]), List.find?_cons, List.find?_cons]
   cases decide (p.1 = y) with
   | true => rfl
   | false => exact ih
theorem forget_fnd (S : Tre) (n c : Int) (h : c ≠ n) : fnd (S.forget n).nodes c = fnd S.nodes c := by
 unfold Tre.forget
 cases fnd S.nodes n with
 | none => rfl
 | some x =>
  show fnd (if _ then _ else _ : Tre).nodes c = _
  split
  ·exact fnd_delA h
  ·rfl
theorem setN_fnd (S : Tre) (n c : Int) (y : Nod) : fnd (S.setN n y).nodes c = if c = n then some y else fnd S.nodes c := fnd_putA
theorem take_fnd {S : Tre} {dir n : Int} {name : Str} {d : Nod} (hd : fnd S.nodes dir = some d) (hc : fnd d.names name = some n) (c : Int) (hcn : c ≠ n) : fnd (S.take dir name).nodes c = if c = dir then some (Tre.dirTake d name) else fnd S.nodes c := by
 have hat : S.at_ dir = d := by unfold Tre.at_; rw [hd]; rfl
 have hk : S.kid dir name = n := by unfold Tre.kid; rw [hat, hc]; rfl
 unfold Tre.take
 rw [hk, forget_fnd _ _ _ hcn, setN_fnd, if_neg hcn, setN_fnd, hat]
theorem within_refl (S : Tre) (n : Int) : S.within n n = true := by
 show (if n ≠ n ∧ _ then _ else n == n) = true
 rw [if_neg (by simp)]
 simp
theorem delA_le {κ α : Type} [DecidableEq κ] (t : List (κ × α)) (x : κ) : (delA t x).length ≤ t.length := List.length_filter_le _ _
theorem Trb.facts {w : World} {L : List HP} {q m f : Nat} {P : List Pn} {last : Int} {T : List Tb.Slot} {n : Int} {b : Nat} {x : Nod} (h : Has w (Trb q m f P last T :: L)) (hb : (n, b, x) ∈ P) :
  ∃ nm : Option Nat, w.cell? ⟨b, 0, none⟩ = some (.int .i64 x.kind) ∧ w.cell? ⟨b, 3, none⟩ = some (.map nm) ∧ (Builtin.len_ #[tNm] 3 #[.map nm]).run Tryz.prog w = .ok (.int .i64 x.names.length) w ∧ w.cell? ⟨b, 5, none⟩ = some (.int .i64 x.links) := by
 obtain ⟨A, B, dv, wv, nm, -, -, hP⟩ := Trb.take h hb
 refine ⟨nm, hP.cells 0, hP.cells 3, ?_, hP.cells 5⟩
 cases nm with
 | none =>
  have h1 := (Has.fact_iff.1 hP.drop.drop.drop).1
  rw [h1]
  simp [Builtin.len_, run_underlying undNm]
  rfl
 | some mm => exact Mk.len hP.drop.drop.drop undNm _
end Go.Proofs.YtmgpgbfgemebbaaGreatDoor
