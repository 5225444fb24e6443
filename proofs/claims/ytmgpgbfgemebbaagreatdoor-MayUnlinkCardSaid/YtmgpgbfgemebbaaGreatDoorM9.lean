/- TEXTS of mine, merged. -/
import Derived.Test.YtmgpgbfgemebbaaGreatDoorM6
import Derived.Test.YtmgpgbfgemebbaaGreatDoorM8
import Derived.Test.YtmgpgbfgemebbaaGreatDoorM7
import Derived.Lib.SlBytesConst
import Derived.Test.YtmgpgbfgemebbaaGreatDoorM5
import Derived.Lib.SliceRun
set_option linter.all false
namespace Go.Proofs.YtmgpgbfgemebbaaGreatDoor
open Go.RowKit Go.Own
end Go.Proofs.YtmgpgbfgemebbaaGreatDoor
namespace Go.Proofs.YtmgpgbfgemebbaaGreatDoor
open Go.RowKit Go.Own
end Go.Proofs.YtmgpgbfgemebbaaGreatDoor
namespace Go.Proofs.YtmgpgbfgemebbaaGreatDoor
open Go.RowKit Go.Own
end Go.Proofs.YtmgpgbfgemebbaaGreatDoor
namespace Go.Proofs.YtmgpgbfgemebbaaGreatDoor
open Go.RowKit Go.Own
set_option maxRecDepth 100000 in
set_option maxHeartbeats 8000000 in
theorem doOpen (q : Nat) (S : Tre) (fd n off flags : Int) (path dest : Str) (ov : Value) (w : World) (L : List HP) (rk : Int → Nat) (mx : Int) (hW : Wk S) (hY : Wy S rk) (hB : Opb S) (hM : MxL mx L) (hp : path.length ≤ 100000) (hno4 : andI flags 4 = 0) (hO : Has w (Trc q S :: L)) :
  Calls Tryz.prog 16 #[.pointer (some ⟨q, 0, none⟩), opV ⟨1, fd, n, off, flags, path, dest⟩ (ov)] w fun e w' => e = .returned (ansV (S.openFd path flags).1 nilV nilV) ∧ Has w' (Trc q (S.openFd path flags).2 :: L) ∧ Keep w w' := by
 have HX0 := (fun (w : World) (L' : List HP) (hM : MxL mx L') (hO : Has w (Trc q S :: L')) => tOpen q S rk ⟨1, fd, n, off, flags, path, dest⟩ ov mx w L' hW hY hB hM hp hno4 hO)
 dsimp only at HX0
 have HX := hid HX0
 clear HX0
 have HM := hid hM
 clear hM
 generalize S.openFd path flags = R at *
 have HO := hid hO
 clear hO
 unfold opV opC at HX ⊢
 go_enter Tryz.func16, Tryz.ntmps16
 go_upto_region 1 with fail
 have h1 := (HO.out.alloc (.cells #[.int .i64 1, .int .i64 fd, .int .i64 n, .int .i64 off, .int .i64 flags, sV path, sV dest, ov] 33)).alloc (.cells (ansC (ansE 0) nilV nilV) 38)
 have HK1 := hid (((Keep.refl w).alloc (.cells #[.int .i64 1, .int .i64 fd, .int .i64 n, .int .i64 off, .int .i64 flags, sV path, sV dest, ov] 33)).alloc (.cells (ansC (ansE 0) nilV nilV) 38))
 unfold ansC ansE at h1 HK1
 have e1 : (w.alloc (.cells #[.int .i64 1, .int .i64 fd, .int .i64 n, .int .i64 off, .int .i64 flags, sV path, sV dest, ov] 33)).heap.size = w.heap.size + 1 := by show (Array.push _ _).size = _; rw [Array.size_push]
 rw [e1] at h1
 have HO1 := hid h1
 clear h1 e1 HO
 generalize (w.alloc (.cells #[.int .i64 1, .int .i64 fd, .int .i64 n, .int .i64 off, .int .i64 flags, sV path, sV dest, ov] 33)).alloc (.cells #[.int .i64 0, .int .i64 0, .int .i64 0, .int .i64 0, nilV, nilV] 38) = w1 at *
 generalize w.heap.size = g3 at *
 generalize g3 + 1 = g4 at *
 have hp0 : w1.cell? ⟨g3, 0, none⟩ = some (.int .i64 1) := HO1.out.p1.cells 0
 have hp1 : w1.cell? ⟨g3, 1, none⟩ = some (.int .i64 fd) := HO1.out.p1.cells 1
 have hp2 : w1.cell? ⟨g3, 2, none⟩ = some (.int .i64 n) := HO1.out.p1.cells 2
 have hp3 : w1.cell? ⟨g3, 3, none⟩ = some (.int .i64 off) := HO1.out.p1.cells 3
 have hp4 : w1.cell? ⟨g3, 4, none⟩ = some (.int .i64 flags) := HO1.out.p1.cells 4
 have hp5 : w1.cell? ⟨g3, 5, none⟩ = some (sV path) := HO1.out.p1.cells 5
 have hp6 : w1.cell? ⟨g3, 6, none⟩ = some (sV dest) := HO1.out.p1.cells 6
 have hp7 : w1.cell? ⟨g3, 7, none⟩ = some (ov) := HO1.out.p1.cells 7
 go_wp2_with fail
 refine (HX.out w1 _ ((HM.out.cons (pt g3 (.cells #[.int .i64 1, .int .i64 fd, .int .i64 n, .int .i64 off, .int .i64 flags, sV path, sV dest, ov] 33))).cons (pt g4 (.cells #[.int .i64 0, .int .i64 0, .int .i64 0, .int .i64 0, nilV, nilV] 38))) (HO1.out.re 3 [2, 0, 1])).mono ?_
 rintro e w2 ⟨rfl, hO2, hK2⟩
 have HO2 := hid hO2
 have HK2 := hid ((HK1.out).trans hK2)
 clear hO2 hK2
 try dsimp only
 have HO3 := hid (show Has w2 (pt g4 (.cells (ansC (ansE 0) nilV nilV) 38) :: Trc q R.2 :: L) from HO2.out.re 3 [1, 0])
 have hz0 : w2.cell? ⟨g4, 0, none⟩ = some (.int .i64 0) := (HO3.out).cells 0
 have hz1 : w2.cell? ⟨g4, 1, none⟩ = some (.int .i64 0) := (HO3.out).cells 1
 have hz2 : w2.cell? ⟨g4, 2, none⟩ = some (.int .i64 0) := (HO3.out).cells 2
 have hz3 : w2.cell? ⟨g4, 3, none⟩ = some (.int .i64 0) := (HO3.out).cells 3
 have hz4 : w2.cell? ⟨g4, 4, none⟩ = some (.slice none 0 0) := (HO3.out).cells 4
 have hz5 : w2.cell? ⟨g4, 5, none⟩ = some (.slice none 0 0) := (HO3.out).cells 5
 have hy0 := (HO3.out).thaw 0
 have hy1 := (HO3.out).thaw 1
 have hy2 := (HO3.out).thaw 2
 have hy3 := (HO3.out).thaw 3
 have hy4 := (HO3.out).thaw 4
 have hy5 := (HO3.out).thaw 5
 unfold ansV ansC
 go_wp2_with fail
 have h1 := HO3.out.ans R.1 nilV nilV
 refine bodyPost_ret (ans_result rfl rfl h1) rfl ?_
 exact ⟨rfl, h1.drop, HK2.out.ans _ _ _ _ _ _ _⟩
end Go.Proofs.YtmgpgbfgemebbaaGreatDoor
namespace Go.Proofs.YtmgpgbfgemebbaaGreatDoor
open Go.RowKit Go.Own
section
variable (q : Nat) (mx : Int) (w : World) (L : List HP) (hM : MxL mx L)
include hM
theorem akMkdir (hO : Has w (Trc q tre0 :: L)) : Calls Tryz.prog 16 #[.pointer (some ⟨q, 0, none⟩), opW 9 0 0 0 0 [47, 97] nilV] w fun e w' => e = .returned (ansV (ansE 0) nilV nilV) ∧ Has w' (Trc q treE1 :: L) ∧ Keep w w' := by
 have h := doMkdir q tre0 0 0 0 0 pA [] nilV w L rkA mx (wk_of wk_0).1 (wy_of wy_0 rkA_low) (opb_of opb_0 wk_0) hM (by decide) hO
 rw [mkdir_A] at h
 exact h
end
theorem _root_.Go.Own.Has.dropL {w : World} {L : List HP} (A : List HP) (h : Has w (A ++ L)) : Has w L := by
 induction A with
 | nil => exact h
 | cons a A ih => exact ih h.drop
end Go.Proofs.YtmgpgbfgemebbaaGreatDoor
namespace Go.Proofs.YtmgpgbfgemebbaaGreatDoor
open Go.RowKit Go.Own
theorem writeB_fnd (bs : List (Int × List Str)) (ds : List Int) : ∀ (n : Nat) (j : Int), fnd (writeB bs ds n) j = if 0 ≤ j ∧ j < (n : Int) then some (addV ((fnd bs j).getD [zsS]) (partS ds j.toNat) []) else fnd bs j
 | 0, j => by rw [writeB, if_neg (by omega)]
 | n + 1, j => by
  rw [writeB, oneB, fnd_putA]
  by_cases h : j = (n : Int)
  ·rw [if_pos h, if_pos (by omega), writeB_fnd bs ds n, if_neg (by omega)]
   subst h
   rfl
  ·rw [if_neg h, writeB_fnd bs ds n]
   by_cases h2 : 0 ≤ j ∧ j < (n : Int)
   ·rw [if_pos h2, if_pos (by omega)]
   ·rw [if_neg h2, if_neg (by omega)]
theorem len_split {α : Type} (f : α → Bool) : ∀ l : List α, l.length = (l.filter f).length + (l.filter fun x => !f x).length
 | [] => rfl
 | a :: l => by
  have := len_split f l
  rw [List.filter_cons, List.filter_cons]
  cases f a <;> simp <;> omega
theorem nodup_lt : ∀ (n : Nat) (l : List Int), l.Nodup → (∀ x ∈ l, 0 ≤ x ∧ x < (n : Int)) → l.length ≤ n
 | 0, l, _, h => by
  cases l with
  | nil => simp
  | cons a l => have := h a (by simp); omega
 | n + 1, l, hn, h => by
  have h1 := nodup_lt n (l.filter fun x => decide (x ≠ (n : Int))) (hn.sublist List.filter_sublist) (fun x hx => by
   rw [List.mem_filter, decide_eq_true_eq] at hx
   have := h x hx.1
   omega)
  have h2 : (l.filter fun x => !decide (x ≠ (n : Int))).length ≤ 1 := by
   have h3 : ∀ x ∈ l.filter fun x => !decide (x ≠ (n : Int)), x = (n : Int) := by
    intro x hx
    rw [List.mem_filter] at hx
    simpa using hx.2
   have h4 := hn.sublist (List.filter_sublist (p := fun x => !decide (x ≠ (n : Int))))
   generalize l.filter (fun x => !decide (x ≠ (n : Int))) = m at *
   rcases m with _ | ⟨a, _ | ⟨c, m⟩⟩
   ·simp
   ·simp
   ·have e1 := h3 a (by simp)
    have e2 := h3 c (by simp)
    rw [e1, e2] at h4
    simp at h4
  have h3 := len_split (fun x => decide (x ≠ (n : Int))) l
  omega
theorem addV_len {α : Type} [DecidableEq α] (l : List α) (x d : α) : (addV l x d).length ≤ l.length + 1 := by
 unfold addV
 split
 ·omega
 ·simp
theorem addV_ne {α : Type} [DecidableEq α] {l : List α} (x d : α) (h : l ≠ []) : addV l x d ≠ [] := by
 unfold addV
 split
 ·exact h
 ·simp
structure FilOk (F : Fil) (K : Nat) : Prop where
 sz : F.sizes ≠ []
 szl : F.sizes.length ≤ K
 szb : 0 ≤ lastI F.sizes ∧ lastI F.sizes ≤ 100000
 keys : ∀ x ∈ F.blocks, 0 ≤ x.1 ∧ x.1 < 162
 bl : ∀ x ∈ F.blocks, x.2 ≠ [] ∧ x.2.length ≤ K
theorem infoBs1 : (Tryz.prog.info? 31).map (fun i => (i.zero, i.size, i.bytes)) = some (some (.slice none 0 0), 1, 24) := by kernel_rfl
theorem infoI1 : (Tryz.prog.info? 3).map (fun i => (i.zero, i.size, i.bytes)) = some (some (.int .i64 0), 1, 8) := by kernel_rfl
theorem needM_162' (n : Nat) : needM n ≤ 162 := by unfold needM; split <;> omega
theorem writeB_keys {bs : List (Int × List Str)} (ds : List Int) (hk : ∀ x ∈ bs, 0 ≤ x.1 ∧ x.1 < 162) : ∀ n : Nat, n ≤ 162 → ∀ x ∈ writeB bs ds n, 0 ≤ x.1 ∧ x.1 < 162
 | 0, _ => hk
 | n + 1, hn => by
  intro x hx
  rw [writeB, oneB] at hx
  unfold putA at hx
  have ih := writeB_keys ds hk n (by omega)
  split at hx
  ·obtain ⟨y, hy, rfl⟩ := List.mem_map.1 hx
   split
   ·dsimp only; omega
   ·exact ih y hy
  ·rcases List.mem_append.1 hx with h | h
   ·exact ih x h
   ·rw [List.mem_singleton.1 h]; dsimp only; omega
theorem fw_in {w : World} {L : List HP} {A B : HP} {mb : Nat} {t : List (Int × List Str)} : Has w (A :: B :: Zm kInt vSB mb (fun s ls => Blk (slvV s) ls) t :: L) ↔ ∃ X, zB X = t ∧ Has w (A :: B :: Mk kInt vSB mb (zH X) :: (zC (fun s ls => Blk (slvV s) ls) X ++ L)) := by
 constructor
 ·intro h
  obtain ⟨X, h1, h2⟩ := zm_iff.1 (h.re 3 [2, 0, 1])
  refine ⟨X, h1, ?_⟩
  have h3 : ∀ (M : HP) (Z : List HP), (M :: (Z ++ A :: B :: L)).Perm (A :: B :: M :: (Z ++ L)) := fun M Z => by
   have e1 : (Z ++ A :: B :: L).Perm (A :: B :: (Z ++ L)) := List.perm_middle.trans (.cons _ List.perm_middle)
   exact (List.Perm.cons M e1).trans ((List.Perm.swap _ _ _).trans (.cons _ (List.Perm.swap _ _ _)))
  exact h2.perm (h3 _ _)
 ·rintro ⟨X, h1, h2⟩
  have h3 : ∀ (M : HP) (Z : List HP), (A :: B :: M :: (Z ++ L)).Perm (M :: (Z ++ A :: B :: L)) := fun M Z => by
   have e1 : (Z ++ A :: B :: L).Perm (A :: B :: (Z ++ L)) := List.perm_middle.trans (.cons _ List.perm_middle)
   exact ((List.Perm.cons M e1).trans ((List.Perm.swap _ _ _).trans (.cons _ (List.Perm.swap _ _ _)))).symm
  have h4 := zm_iff.2 ⟨X, h1, h2.perm (h3 _ _)⟩
  exact h4.re 3 [1, 2, 0]
theorem _root_.Go.Own.Has.pool_add_of {w : World} {L : List HP} {u8 : TypeId} {v : Value} {xs : List Int} {R : HP} (h : Has w (poolc u8 [] :: row v u8 1 xs.length (bc xs) :: R :: L)) : Has w (poolc u8 [(v, xs)] :: R :: L) := h.p1.pool_add
theorem hs_last {w : World} {L : List HP} {hs : List (Value × List Int)} {g o c : Nat} (h : Has w (rowF (.slice (some ⟨g, o, none⟩) hs.length c) 31 hs.length (hs.map Prod.fst) :: poolc 5 hs :: L)) (h0 : hs ≠ []) : ∃ (n : Nat) (hv : Value) (xs : List Int), hs.length = n + 1 ∧ w.cell? ⟨g, o + n, none⟩ = some hv ∧ Rd w hv 1 xs.length (bc xs) ∧ strOf xs = (hs.map fun x => strOf x.2).getLastD [] := by
 have hl : 0 < hs.length := List.length_pos_iff.2 h0
 obtain ⟨p, cp, hv, -, -, hcs⟩ := (Has.rdF h).form
 simp only [Value.slice.injEq] at hv
 obtain ⟨rfl, -, rfl⟩ := hv
 obtain ⟨g', o', e, hcs2⟩ := hcs (by omega)
 simp only [Option.some.injEq, Addr.mk.injEq] at e
 obtain ⟨rfl, rfl, -⟩ := e
 obtain ⟨n, hn⟩ : ∃ n, hs.length = n + 1 := ⟨hs.length - 1, by omega⟩
 have hx : hs[n]'(by omega) ∈ hs := List.getElem_mem _
 refine ⟨n, (hs[n]'(by omega)).1, (hs[n]'(by omega)).2, hn, ?_, h.p1.pool_rd hx, ?_⟩
 ·rw [hcs2 n (by omega), List.getElem?_map, List.getElem?_eq_getElem (by omega)]
  rfl
 ·rw [List.getLastD_eq_getLast?, List.getLast?_eq_getElem?, List.length_map, show hs.length - 1 = n by omega, List.getElem?_map, List.getElem?_eq_getElem (by omega)]
  rfl
theorem rowF_some {w : World} {L : List HP} {v : Value} {e : TypeId} {n : Nat} {xs : List Value} (h : Has w (rowF v e (n + 1) xs :: L)) : ∃ g o c, v = .slice (some ⟨g, o, none⟩) (n + 1) c := by
 obtain ⟨-, ⟨-, h1, -⟩ | ⟨g, o, c, cur, h1, -⟩⟩ := h.rowF_cases
 ·omega
 ·exact ⟨g, o, c, h1⟩
set_option maxRecDepth 100000 in
set_option maxHeartbeats 16000000 in
theorem mWrite (b : Nat) (F : Fil) (v : Value) (ds : List Int) (K : Nat) (w : World) (L : List HP) (hF : FilOk F K) (hK : K ≤ 100000) (hds : ds.length ≤ 100000) (hrd : ∀ w', Has w' L → Rd w' v 1 ds.length (bc ds)) (hO : Has w (FilC b F :: L)) :
  Calls Tryz.prog 165 #[.pointer (some ⟨b, 0, none⟩), v] w fun e w' => e = .returned (.tuple #[]) ∧ Has w' (FilC b (F.write ds) :: L) ∧ Keep w w' := by
 obtain ⟨sv, mb, hO1⟩ := filC_iff.1 hO
 obtain ⟨ps, cs, rfl, -⟩ := (Has.rdF hO1.p1).form
 obtain ⟨pv, cv, rfl, -⟩ := (hrd w hO1.drop.drop.drop).form
 have HV := hid (mValue (.slice ps F.sizes.length cs) F.sizes w (Has.rdF hO1.p1))
 have hc2 : w.cell? ⟨b, 2, none⟩ = some (.slice ps F.sizes.length cs) := hO1.cells 2
 have HO := hid hO1
 have HF := hid hF
 have HRD := hid hrd
 have hdi : (ds.length : Int) ≤ 100000 := by omega
 have hz0 := hF.szb.1
 have hz1 := hF.szb.2
 have HSL := hid (show F.sizes.length + 1 ≤ 1000000 from by have := hF.szl; omega)
 obtain ⟨z, hz⟩ : ∃ z, lastI F.sizes = z := ⟨_, rfl⟩
 rw [hz] at HV hz0 hz1
 have HZ := hid hz
 have HK0 := hid hK
 have hnil := fun (w : World) (a : Option Addr) (n c : Nat) => Lib.run_eql_slice_nil (P := Tryz.prog) w 259 31 a n c 0 0 Tryz.underlying259
 clear hO hO1 hF hrd hds hK hz
 go_enter Tryz.func165, Tryz.ntmps165
 go_wp2_with fail
 refine HV.out.mono ?_
 rintro e w' ⟨rfl, rfl⟩
 try dsimp only
 go_upto_if 16 with fail
 go_cut [4] (fun a wx => ∃ (p2 : Option Addr) (c2 : Nat) (w0 : World), w0 = wx ∧ a = .int .i64 z ∧ Hid (Has w0 (pt b (.cells #[.int .i64 F.kind, sV F.target, .slice p2 (addV F.sizes (ds.length : Int) 0).length c2, .map (some mb)] 216) :: rowF (.slice p2 (addV F.sizes (ds.length : Int) 0).length c2) 3 (addV F.sizes (ds.length : Int) 0).length (ic (addV F.sizes (ds.length : Int) 0)) :: Zm kInt vSB mb (fun s ls => Blk (slvV s) ls) F.blocks :: L)) ∧ Hid (Keep w w0))
 case first =>
  by_cases he : z = (ds.length : Int)
  ·have hb : (z != (ds.length : Int)) = false := by simp [he]
   have HE := hid (show addV F.sizes (ds.length : Int) 0 = F.sizes from by unfold addV; rw [if_pos]; show lastI F.sizes = _; rw [HZ.out, he])
   clear he
   go_wp2_with fail
   go_meet
   refine ⟨ps, cs, w, by trivial, rfl, ?_, hid (Keep.refl w)⟩
   rw [HE.out]
   exact HO
  ·have hb : (z != (ds.length : Int)) = true := by simp [he]
   have HE := hid (show addV F.sizes (ds.length : Int) 0 = F.sizes ++ [(ds.length : Int)] from by unfold addV; rw [if_neg]; show ¬ lastI F.sizes = _; rw [HZ.out]; exact he)
   clear he
   have HO2 := hid (HO.out.alloc (.cells #[.int .i64 (ds.length : Int)] 3))
   have HK2 := hid ((Keep.refl w).alloc (.cells #[.int .i64 (ds.length : Int)] 3))
   have hlit : (w.alloc (.cells #[.int .i64 (ds.length : Int)] 3)).cell? ⟨w.heap.size, 0, none⟩ = some (.int .i64 (ds.length : Int)) := HO2.out.cells 0
   go_wp2_with (at_builtin; refine wpList_appendF rfl _ _ _ rfl Tryz.underlying69 infoI1 rfl (.int .i64 (ds.length : Int)) (HO2.out.re 4 [2, 0, 1, 3]) rfl 1 _ rfl hlit rfl (le_maxLen (by have := HSL.out; omega)) (by have := HSL.out; omega) ?_)
   intro v3 w3 h3 k3
   obtain ⟨p3, c3, rfl, -⟩ := (Has.rdF h3).form
   have HO3 := hid (show Has w3 (pt b (.cells #[.int .i64 F.kind, sV F.target, .slice ps F.sizes.length cs, .map (some mb)] 216) :: rowF (.slice p3 (F.sizes.length + 1) c3) 3 (F.sizes.length + 1) (ic F.sizes ++ [.int .i64 (ds.length : Int)]) :: Zm kInt vSB mb (fun s ls => Blk (slvV s) ls) F.blocks :: L) from h3.re 4 [2, 0, 3])
   have HK3 := hid (HK2.out.trans k3)
   have hc3 : w3.cell? ⟨b, 2, none⟩ = some (.slice ps F.sizes.length cs) := HO3.out.cells 2
   have ht3 := HO3.out.thaw 2
   clear h3 k3 HO2 HK2 hlit
   go_wp2_with fail
   go_meet
   refine ⟨p3, c3, _, rfl, rfl, hid ?_, hid (HK3.out.set _ _)⟩
   rw [HE.out, List.length_append, List.length_singleton, show ic (F.sizes ++ [(ds.length : Int)]) = ic F.sizes ++ [.int .i64 (ds.length : Int)] from by simp [ic]]
   exact HO3.out.set 2 _
 case rest =>
  obtain ⟨p2, c2, w0, rfl, rfl, HO1, HK1⟩ := hcut
  clear HO HV hc2
  have hmx : max z (ds.length : Int) = ((max z.toNat ds.length : Nat) : Int) := by omega
  have HND := hid (fun (w : World) => nNeed (max z.toNat ds.length) w (by omega))
  have HN162 := hid (needM_162' (max z.toNat ds.length))
  have HWR := hid (show F.write ds = { F with sizes := addV F.sizes (ds.length : Int) 0, blocks := writeB F.blocks ds (needM (max z.toNat ds.length)) } from by unfold Fil.write; rw [HZ.out])
  generalize needM (max z.toNat ds.length) = N at *
  generalize max z.toNat ds.length = M at *
  generalize addV F.sizes (ds.length : Int) 0 = SZ at *
  clear hz0 hz1
  clear HZ HSL
  go_wp2_with fail
  refine (HND.out w0).mono ?_
  rintro e w' ⟨rfl, rfl⟩
  clear HND hmx
  try dsimp only
  have hN : (N : Int) ≤ 162 := by have := HN162.out; omega
  obtain ⟨X00, HX00, HO2⟩ := fw_in.1 HO1.out
  have HX00 := hid HX00
  have HO2 := hid HO2
  clear HO1
  go_wp2_with fail
  go_loopw [33] (fun i wx => ∃ (k : Nat) (X : List (Int × Slv × List Str)) (w1 : World), w1 = wx ∧ k ≤ N ∧ i = .int .i64 k ∧ Hid (zB X = writeB F.blocks ds k) ∧ Hid (Has w1 (pt b (.cells #[.int .i64 F.kind, sV F.target, .slice p2 SZ.length c2, .map (some mb)] 216) :: rowF (.slice p2 SZ.length c2) 3 SZ.length (ic SZ) :: Mk kInt vSB mb (zH X) :: (zC (fun s ls => Blk (slvV s) ls) X ++ L))) ∧ Hid (Keep w w1)) (fun i _ => N - (intOf i).toNat)
  case atStart => exact ⟨0, X00, w0, by trivial, by omega, rfl, HX00, HO2, HK1⟩
  case round =>
   obtain ⟨k, X, w1, rfl, hk, rfl, HX, HO3, HK3⟩ := hrel
   clear HX00 HO2 HK1
   by_cases hlt : k < N
   ·have hki : (k : Int) < (N : Int) := by omega
    have hk0 : (0 : Int) ≤ (k : Int) := by omega
    have HLT := hid hlt
    have hk162 : k < 162 := by have := HN162.out; omega
    have hwf : (Lit.int .i64 (k : Int)).wf = true := wf_small (k : Int) (by omega) (by omega)
    have hfk : fnd (zB X) (k : Int) = fnd F.blocks (k : Int) := by rw [HX.out, writeB_fnd, if_neg (by omega)]
    have hnd : (X.map Prod.fst).Nodup := by have h1 := Mk.nodup HO3.out.p2; rw [zH_keys] at h1; exact h1
    have hxl : (zH X).length < 1000000 := by
     have h1 := nodup_lt 162 (X.map Prod.fst) hnd (fun x hx => by
      rw [← zB_keys, HX.out] at hx
      obtain ⟨y, hy, rfl⟩ := List.mem_map.1 hx
      exact writeB_keys ds HF.out.keys k (by omega) y hy)
     rw [List.length_map] at h1
     unfold zH
     rw [List.length_map]
     omega
    have HXL := hid hxl
    have HWF := hid hwf
    have hlook := Mk.look0 HO3.out.p2 undBm hwf
    obtain ⟨X0, hcase, hput⟩ := z_zip (fun s ls => Blk (slvV s) ls) X (k : Int) hnd
    have HPUT := hid hput
    have HFK := hid hfk
    clear hnd hput hxl hlt hk hwf hfk
    rcases hcase with ⟨h1, h2, h30⟩ | ⟨s, ls, h1, h2, h3⟩
    ·rw [h2] at hlook
     rw [show zC (fun s ls => Blk (slvV s) ls) X = zC (fun s ls => Blk (slvV s) ls) X0 from by rw [h30]] at HO3
     clear h30
     have hl0 : (Instr.lookup tBm (.map (some mb)) (.int .i64 (k : Int)) false).run Tryz.prog w1 = .ok (.slice none 0 0) w1 := hlook
     have hF0 : fnd F.blocks (k : Int) = none := by rw [← HFK.out]; exact h1
     have HP0 := hid (show Calls Tryz.prog 213 #[.slice none 0 0, .int .i64 0] w1 _ from mPart (.slice none 0 0) [] 0 w1 _ (by omega) (by simp) (fun w' h' => Bytes.rd (h'.row_nil _ _)) HO3.out)
     have hcb : w1.cell? ⟨b, 3, none⟩ = some (.map (some mb)) := HO3.out.cells 3
     clear hlook h1 h2
     go_wp2_with fail
     refine HP0.out.mono ?_
     rintro e w5 ⟨g5, c5, rfl, h5, k5⟩
     have HO5 := hid (h5.alloc (.cells #[.slice (some ⟨g5, 0, none⟩) 128 c5] 31))
     have HK5 := hid ((HK3.out.trans k5).alloc (.cells #[.slice (some ⟨g5, 0, none⟩) 128 c5] 31))
     clear h5 k5 HP0
     try dsimp only
     have hs0 : [((.slice (some ⟨g5, 0, none⟩) 128 c5 : Value), partM [] 0)] ≠ [] := by simp
     have HH := hid (show [((.slice (some ⟨g5, 0, none⟩) 128 c5 : Value), partM [] 0)].length ≤ K + 1 ∧ [((.slice (some ⟨g5, 0, none⟩) 128 c5 : Value), partM [] 0)].map (fun x => strOf x.2) = (fnd F.blocks (k : Int)).getD [zsS] from ⟨by simp, by rw [hF0]; rfl⟩)
     have HO6 := hid (show Has (w5.alloc (.cells #[.slice (some ⟨g5, 0, none⟩) 128 c5] 31)) (rowF (.slice (some ⟨w5.heap.size, 0, none⟩) [((.slice (some ⟨g5, 0, none⟩) 128 c5 : Value), partM [] 0)].length 1) 31 [((.slice (some ⟨g5, 0, none⟩) 128 c5 : Value), partM [] 0)].length ([((.slice (some ⟨g5, 0, none⟩) 128 c5 : Value), partM [] 0)].map Prod.fst) :: poolc 5 [((.slice (some ⟨g5, 0, none⟩) 128 c5 : Value), partM [] 0)] :: _) from by
      have h6 : Has _ (rowF (.slice (some ⟨w5.heap.size, 0, none⟩) 1 1) 31 1 [.slice (some ⟨g5, 0, none⟩) 128 c5] :: _) := HO5.out.rowF_of (by decide) (by decide) rfl rfl rfl
      exact ((Has.pool_nil (u8 := 5) (h6.p1)).pool_add_of).p1)
     go_upto_region 9 with fail
     generalize w5.alloc (.cells #[.slice (some ⟨g5, 0, none⟩) 128 c5] 31) = w2 at *
     generalize w5.heap.size = g6 at *
     have hl1 : [((.slice (some ⟨g5, 0, none⟩) 128 c5 : Value), partM [] 0)].length = 1 := rfl
     generalize [((.slice (some ⟨g5, 0, none⟩) 128 c5 : Value), partM [] 0)] = hs at *
     rw [show Value.slice (some ⟨g6, 0, none⟩) 1 1 = .slice (some ⟨g6, 0, none⟩) hs.length 1 from by rw [hl1]]
     have HS0 := hid hs0
     clear hs0 hl1
     have HP9 := hid (mPart (.slice pv ds.length cv) ds k w2 _ (by omega) (by omega) (fun w' h' => HRD.out w' (Has.dropL _ h'.drop.drop.drop.drop.drop)) HO6.out)
     go_wp2_with fail
     refine HP9.out.mono ?_
     rintro e w7 ⟨g7, c7, rfl, h7, k7⟩
     have HO7 := hid h7
     have HK7 := hid (HK5.out.trans k7)
     clear h7 k7 HP9
     try dsimp only
     obtain ⟨n, hv, xs, hn, hcl, hrx, hsx⟩ := hs_last HO7.out.drop HS0.out
     try rw [Nat.zero_add] at hcl
     have hln : (hs.length : Int) - 1 = (n : Int) := by omega
     have hn0 : (0 : Int) ≤ (n : Int) := by omega
     have hn1 : (n : Int) < (hs.length : Int) := by omega
     have hn2 : (hs.length : Int) ≤ 1000000 := by have := HH.out.1; have := HK0.out; omega
     have wn : IntKind.i64.wrap (n : Int) = (n : Int) := wrapk_in' _ (by omega)
     have HEQ := hid (mEqual hv (.slice (some ⟨g7, 0, none⟩) 128 c7) xs (partM ds k) w7 hrx (by have h9 := Bytes.rd HO7.out; exact h9))
     have HSX := hid hsx
     have hcb : w7.cell? ⟨b, 3, none⟩ = some (.map (some mb)) := HO7.out.p3.cells 3
     have HNN := hid hn
     clear hsx hrx hn
     go_wp2_with fail
     refine HEQ.out.mono ?_
     rintro e w' ⟨rfl, rfl⟩
     clear HEQ hcl hln hn0 hn1 wn
     try dsimp only
     by_cases hq : strOf xs = partS ds k
     ·have hd : decide (strOf xs = strOf (partM ds k)) = true := decide_eq_true hq
      rw [hd]
      have HLS := hid (show addV ((fnd F.blocks (k : Int)).getD [zsS]) (partS ds k) [] = hs.map (fun x => strOf x.2) from by unfold addV; rw [← HH.out.2, ← HSX.out, if_pos hq])
      clear hd hq
      go_wp2_with (at_mapUpdate; refine wpList_mkPut (show Has w7 (Mk kInt vSB mb (zH X) :: _) from HO7.out.p5) HXL.out tBm undBm rfl _ _ _ rfl rfl (k : Int) HWF.out rfl (⟨some (g6, 0), hs.length, 1⟩ : Slv) trivial rfl ?_)
      intro w8 h8 k8
      have HO8 := hid h8
      have HK8 := hid (HK7.out.trans k8)
      clear h8 k8
      go_wp2_with fail
      obtain ⟨X', hB, hH, hC⟩ := HPUT.out (⟨some (g6, 0), hs.length, 1⟩ : Slv) (hs.map fun x => strOf x.2)
      refine ⟨⟨k + 1, X', w8, by trivial, by have := HLT.out; omega, by go_num, hid ?_, hid ?_, HK8⟩, by have := HLT.out; simp [intOf]; omega⟩
      ·rw [hB, HX.out, writeB, oneB, writeB_fnd, if_neg (by omega), HLS.out]
      ·have h9 : Has w8 (Mk kInt vSB mb (zH X') :: Bytes (.slice (some ⟨g7, 0, none⟩) 128 c7) (partM ds k) :: rowF (.slice (some ⟨g6, 0, none⟩) hs.length 1) 31 hs.length (hs.map Prod.fst) :: poolc 5 hs :: pt b (.cells #[.int .i64 F.kind, sV F.target, .slice p2 SZ.length c2, .map (some mb)] 216) :: rowF (.slice p2 SZ.length c2) 3 SZ.length (ic SZ) :: (zC (fun s ls => Blk (slvV s) ls) X0 ++ L)) := by rw [hH]; exact HO8.out
       have h10 : Has w8 (Blk (.slice (some ⟨g6, 0, none⟩) hs.length 1) (hs.map fun x => strOf x.2) :: Mk kInt vSB mb (zH X') :: pt b (.cells #[.int .i64 F.kind, sV F.target, .slice p2 SZ.length c2, .map (some mb)] 216) :: rowF (.slice p2 SZ.length c2) 3 SZ.length (ic SZ) :: (zC (fun s ls => Blk (slvV s) ls) X0 ++ L)) := blk_iff.2 ⟨hs, rfl, by rw [List.length_map]; exact h9.re 6 [2, 3, 0, 4, 5]⟩
       exact (h10.re 4 [2, 3, 1, 0]).perm (.cons _ (.cons _ (.cons _ (hC.symm.append_right L))))
     ·have hd : decide (strOf xs = strOf (partM ds k)) = false := decide_eq_false hq
      rw [hd]
      have HLS := hid (show addV ((fnd F.blocks (k : Int)).getD [zsS]) (partS ds k) [] = hs.map (fun x => strOf x.2) ++ [partS ds k] from by unfold addV; rw [← HH.out.2, ← HSX.out, if_neg hq])
      clear hd hq
      have HOa := hid (HO7.out.alloc (.cells #[.slice (some ⟨g7, 0, none⟩) 128 c7] 31))
      have HKa := hid (HK7.out.alloc (.cells #[.slice (some ⟨g7, 0, none⟩) 128 c7] 31))
      have hlit : (w7.alloc (.cells #[.slice (some ⟨g7, 0, none⟩) 128 c7] 31)).cell? ⟨w7.heap.size, 0, none⟩ = some (.slice (some ⟨g7, 0, none⟩) 128 c7) := HOa.out.cells 0
      go_wp2_with (at_builtin; refine wpList_appendF rfl _ _ _ rfl Tryz.underlying259 infoBs1 rfl (.slice (some ⟨g7, 0, none⟩) 128 c7) (HOa.out.re 3 [2, 0, 1]) rfl 1 _ rfl hlit rfl (le_maxLen (by omega)) (by omega) ?_)
      intro v9 w9 h9 k9
      obtain ⟨ga, oa, ca, rfl⟩ := rowF_some h9
      have HO9 := hid h9
      have HK9 := hid (HKa.out.trans k9)
      have hcb9 : w9.cell? ⟨b, 3, none⟩ = some (.map (some mb)) := HO9.out.p4.cells 3
      clear h9 k9 HOa HKa hlit hcb
      go_wp2_with (at_mapUpdate; refine wpList_mkPut (show Has w9 (Mk kInt vSB mb (zH X) :: _) from HO9.out.p6) HXL.out tBm undBm rfl _ _ _ rfl rfl (k : Int) HWF.out rfl (⟨some (ga, oa), hs.length + 1, ca⟩ : Slv) trivial rfl ?_)
      intro w8 h8 k8
      have HO8 := hid h8
      have HK8 := hid (HK9.out.trans k8)
      clear h8 k8
      go_wp2_with fail
      obtain ⟨X', hB, hH, hC⟩ := HPUT.out (⟨some (ga, oa), hs.length + 1, ca⟩ : Slv) (hs.map (fun x => strOf x.2) ++ [partS ds k])
      refine ⟨⟨k + 1, X', w8, by trivial, by have := HLT.out; omega, by go_num, hid ?_, hid ?_, HK8⟩, by have := HLT.out; simp [intOf]; omega⟩
      ·rw [hB, HX.out, writeB, oneB, writeB_fnd, if_neg (by omega), HLS.out]
      ·have h9 : Has w8 (Mk kInt vSB mb (zH X') :: rowF (.slice (some ⟨ga, oa, none⟩) (hs.length + 1) ca) 31 (hs.length + 1) (hs.map Prod.fst ++ [.slice (some ⟨g7, 0, none⟩) 128 c7]) :: pt w7.heap.size (.cells #[.slice (some ⟨g7, 0, none⟩) 128 c7] 31) :: Bytes (.slice (some ⟨g7, 0, none⟩) 128 c7) (partM ds k) :: poolc 5 hs :: pt b (.cells #[.int .i64 F.kind, sV F.target, .slice p2 SZ.length c2, .map (some mb)] 216) :: rowF (.slice p2 SZ.length c2) 3 SZ.length (ic SZ) :: (zC (fun s ls => Blk (slvV s) ls) X0 ++ L)) := by rw [hH]; exact HO8.out
       have h10 : Has w8 (Blk (.slice (some ⟨ga, oa, none⟩) (hs.length + 1) ca) (hs.map (fun x => strOf x.2) ++ [strOf (partM ds k)]) :: Mk kInt vSB mb (zH X') :: pt b (.cells #[.int .i64 F.kind, sV F.target, .slice p2 SZ.length c2, .map (some mb)] 216) :: rowF (.slice p2 SZ.length c2) 3 SZ.length (ic SZ) :: (zC (fun s ls => Blk (slvV s) ls) X0 ++ L)) := Blk.snoc (h9.re 7 [1, 4, 3, 0, 5, 6])
       exact (h10.re 4 [2, 3, 1, 0]).perm (.cons _ (.cons _ (.cons _ (hC.symm.append_right L))))
    ·rw [h2] at hlook
     have hF0 : fnd F.blocks (k : Int) = some ls := by rw [← HFK.out]; exact h1
     obtain ⟨hne, hll⟩ := HF.out.bl _ (fnd_some hF0)
     have h4 : Has w1 (Blk (slvV s) ls :: pt b (.cells #[.int .i64 F.kind, sV F.target, .slice p2 SZ.length c2, .map (some mb)] 216) :: rowF (.slice p2 SZ.length c2) 3 SZ.length (ic SZ) :: Mk kInt vSB mb (zH X) :: (zC (fun s ls => Blk (slvV s) ls) X0 ++ L)) := by
      have h5 := HO3.out.perm (show (pt b (.cells #[.int .i64 F.kind, sV F.target, .slice p2 SZ.length c2, .map (some mb)] 216) :: rowF (.slice p2 SZ.length c2) 3 SZ.length (ic SZ) :: Mk kInt vSB mb (zH X) :: (zC (fun s ls => Blk (slvV s) ls) X ++ L)).Perm (pt b (.cells #[.int .i64 F.kind, sV F.target, .slice p2 SZ.length c2, .map (some mb)] 216) :: rowF (.slice p2 SZ.length c2) 3 SZ.length (ic SZ) :: Mk kInt vSB mb (zH X) :: (Blk (slvV s) ls :: zC (fun s ls => Blk (slvV s) ls) X0 ++ L)) from .cons _ (.cons _ (.cons _ (h3.append_right L))))
      exact h5.p3
     obtain ⟨g, o, c, n, hv, xs, hn, hsv, -⟩ := Blk.last h4 hne
     have hl0 : (Instr.lookup tBm (.map (some mb)) (.int .i64 (k : Int)) false).run Tryz.prog w1 = .ok (.slice (some ⟨g, o, none⟩) ls.length c) w1 := by rw [← hsv]; exact hlook
     rw [hsv] at h4
     obtain ⟨hs, hh, h5⟩ := blk_iff.1 h4
     have hlen : ls.length = hs.length := by rw [← hh, List.length_map]
     rw [hlen] at h5 hl0
     have HO5 := hid h5
     have hcb : w1.cell? ⟨b, 3, none⟩ = some (.map (some mb)) := HO3.out.cells 3
     have HS0 := hid (show hs ≠ [] from by rintro rfl; rw [hlen] at hn; simp at hn)
     have HH := hid (show hs.length ≤ K + 1 ∧ hs.map (fun x => strOf x.2) = (fnd F.blocks (k : Int)).getD [zsS] from ⟨by have : ls.length ≤ K := hll; omega, by rw [hF0]; exact hh⟩)
     clear hlook h1 h2 h3 h4 h5 hsv hh hlen hn hne hll hF0
     go_upto_region 9 with fail
     have HP9 := hid (mPart (.slice pv ds.length cv) ds k w1 _ (by omega) (by omega) (fun w' h' => HRD.out w' (Has.dropL _ h'.drop.drop.drop.drop.drop)) HO5.out)
     go_wp2_with fail
     refine HP9.out.mono ?_
     rintro e w7 ⟨g7, c7, rfl, h7, k7⟩
     have HO7 := hid h7
     have HK7 := hid (HK3.out.trans k7)
     clear h7 k7 HP9
     try dsimp only
     obtain ⟨n, hv, xs, hn, hcl, hrx, hsx⟩ := hs_last HO7.out.drop HS0.out
     try rw [Nat.zero_add] at hcl
     have hln : (hs.length : Int) - 1 = (n : Int) := by omega
     have hn0 : (0 : Int) ≤ (n : Int) := by omega
     have hn1 : (n : Int) < (hs.length : Int) := by omega
     have hn2 : (hs.length : Int) ≤ 1000000 := by have := HH.out.1; have := HK0.out; omega
     have wn : IntKind.i64.wrap (n : Int) = (n : Int) := wrapk_in' _ (by omega)
     have HEQ := hid (mEqual hv (.slice (some ⟨g7, 0, none⟩) 128 c7) xs (partM ds k) w7 hrx (by have h9 := Bytes.rd HO7.out; exact h9))
     have HSX := hid hsx
     have hcb : w7.cell? ⟨b, 3, none⟩ = some (.map (some mb)) := HO7.out.p3.cells 3
     have HNN := hid hn
     clear hsx hrx hn
     go_wp2_with fail
     refine HEQ.out.mono ?_
     rintro e w' ⟨rfl, rfl⟩
     clear HEQ hcl hln hn0 hn1 wn
     try dsimp only
     by_cases hq : strOf xs = partS ds k
     ·have hd : decide (strOf xs = strOf (partM ds k)) = true := decide_eq_true hq
      rw [hd]
      have HLS := hid (show addV ((fnd F.blocks (k : Int)).getD [zsS]) (partS ds k) [] = hs.map (fun x => strOf x.2) from by unfold addV; rw [← HH.out.2, ← HSX.out, if_pos hq])
      clear hd hq
      go_wp2_with (at_mapUpdate; refine wpList_mkPut (show Has w7 (Mk kInt vSB mb (zH X) :: _) from HO7.out.p5) HXL.out tBm undBm rfl _ _ _ rfl rfl (k : Int) HWF.out rfl (⟨some (g, o), hs.length, c⟩ : Slv) trivial rfl ?_)
      intro w8 h8 k8
      have HO8 := hid h8
      have HK8 := hid (HK7.out.trans k8)
      clear h8 k8
      go_wp2_with fail
      obtain ⟨X', hB, hH, hC⟩ := HPUT.out (⟨some (g, o), hs.length, c⟩ : Slv) (hs.map fun x => strOf x.2)
      refine ⟨⟨k + 1, X', w8, by trivial, by have := HLT.out; omega, by go_num, hid ?_, hid ?_, HK8⟩, by have := HLT.out; simp [intOf]; omega⟩
      ·rw [hB, HX.out, writeB, oneB, writeB_fnd, if_neg (by omega), HLS.out]
      ·have h9 : Has w8 (Mk kInt vSB mb (zH X') :: Bytes (.slice (some ⟨g7, 0, none⟩) 128 c7) (partM ds k) :: rowF (.slice (some ⟨g, o, none⟩) hs.length c) 31 hs.length (hs.map Prod.fst) :: poolc 5 hs :: pt b (.cells #[.int .i64 F.kind, sV F.target, .slice p2 SZ.length c2, .map (some mb)] 216) :: rowF (.slice p2 SZ.length c2) 3 SZ.length (ic SZ) :: (zC (fun s ls => Blk (slvV s) ls) X0 ++ L)) := by rw [hH]; exact HO8.out
       have h10 : Has w8 (Blk (.slice (some ⟨g, o, none⟩) hs.length c) (hs.map fun x => strOf x.2) :: Mk kInt vSB mb (zH X') :: pt b (.cells #[.int .i64 F.kind, sV F.target, .slice p2 SZ.length c2, .map (some mb)] 216) :: rowF (.slice p2 SZ.length c2) 3 SZ.length (ic SZ) :: (zC (fun s ls => Blk (slvV s) ls) X0 ++ L)) := blk_iff.2 ⟨hs, rfl, by rw [List.length_map]; exact h9.re 6 [2, 3, 0, 4, 5]⟩
       exact (h10.re 4 [2, 3, 1, 0]).perm (.cons _ (.cons _ (.cons _ (hC.symm.append_right L))))
     ·have hd : decide (strOf xs = strOf (partM ds k)) = false := decide_eq_false hq
      rw [hd]
      have HLS := hid (show addV ((fnd F.blocks (k : Int)).getD [zsS]) (partS ds k) [] = hs.map (fun x => strOf x.2) ++ [partS ds k] from by unfold addV; rw [← HH.out.2, ← HSX.out, if_neg hq])
      clear hd hq
      have HOa := hid (HO7.out.alloc (.cells #[.slice (some ⟨g7, 0, none⟩) 128 c7] 31))
      have HKa := hid (HK7.out.alloc (.cells #[.slice (some ⟨g7, 0, none⟩) 128 c7] 31))
      have hlit : (w7.alloc (.cells #[.slice (some ⟨g7, 0, none⟩) 128 c7] 31)).cell? ⟨w7.heap.size, 0, none⟩ = some (.slice (some ⟨g7, 0, none⟩) 128 c7) := HOa.out.cells 0
      go_wp2_with (at_builtin; refine wpList_appendF rfl _ _ _ rfl Tryz.underlying259 infoBs1 rfl (.slice (some ⟨g7, 0, none⟩) 128 c7) (HOa.out.re 3 [2, 0, 1]) rfl 1 _ rfl hlit rfl (le_maxLen (by omega)) (by omega) ?_)
      intro v9 w9 h9 k9
      obtain ⟨ga, oa, ca, rfl⟩ := rowF_some h9
      have HO9 := hid h9
      have HK9 := hid (HKa.out.trans k9)
      have hcb9 : w9.cell? ⟨b, 3, none⟩ = some (.map (some mb)) := HO9.out.p4.cells 3
      clear h9 k9 HOa HKa hlit hcb
      go_wp2_with (at_mapUpdate; refine wpList_mkPut (show Has w9 (Mk kInt vSB mb (zH X) :: _) from HO9.out.p6) HXL.out tBm undBm rfl _ _ _ rfl rfl (k : Int) HWF.out rfl (⟨some (ga, oa), hs.length + 1, ca⟩ : Slv) trivial rfl ?_)
      intro w8 h8 k8
      have HO8 := hid h8
      have HK8 := hid (HK9.out.trans k8)
      clear h8 k8
      go_wp2_with fail
      obtain ⟨X', hB, hH, hC⟩ := HPUT.out (⟨some (ga, oa), hs.length + 1, ca⟩ : Slv) (hs.map (fun x => strOf x.2) ++ [partS ds k])
      refine ⟨⟨k + 1, X', w8, by trivial, by have := HLT.out; omega, by go_num, hid ?_, hid ?_, HK8⟩, by have := HLT.out; simp [intOf]; omega⟩
      ·rw [hB, HX.out, writeB, oneB, writeB_fnd, if_neg (by omega), HLS.out]
      ·have h9 : Has w8 (Mk kInt vSB mb (zH X') :: rowF (.slice (some ⟨ga, oa, none⟩) (hs.length + 1) ca) 31 (hs.length + 1) (hs.map Prod.fst ++ [.slice (some ⟨g7, 0, none⟩) 128 c7]) :: pt w7.heap.size (.cells #[.slice (some ⟨g7, 0, none⟩) 128 c7] 31) :: Bytes (.slice (some ⟨g7, 0, none⟩) 128 c7) (partM ds k) :: poolc 5 hs :: pt b (.cells #[.int .i64 F.kind, sV F.target, .slice p2 SZ.length c2, .map (some mb)] 216) :: rowF (.slice p2 SZ.length c2) 3 SZ.length (ic SZ) :: (zC (fun s ls => Blk (slvV s) ls) X0 ++ L)) := by rw [hH]; exact HO8.out
       have h10 : Has w8 (Blk (.slice (some ⟨ga, oa, none⟩) (hs.length + 1) ca) (hs.map (fun x => strOf x.2) ++ [strOf (partM ds k)]) :: Mk kInt vSB mb (zH X') :: pt b (.cells #[.int .i64 F.kind, sV F.target, .slice p2 SZ.length c2, .map (some mb)] 216) :: rowF (.slice p2 SZ.length c2) 3 SZ.length (ic SZ) :: (zC (fun s ls => Blk (slvV s) ls) X0 ++ L)) := Blk.snoc (h9.re 7 [1, 4, 3, 0, 5, 6])
       exact (h10.re 4 [2, 3, 1, 0]).perm (.cons _ (.cons _ (.cons _ (hC.symm.append_right L))))
   ·obtain rfl : k = N := by omega
    have hki : ¬ (k : Int) < (k : Int) := by omega
    clear hlt hk
    go_wp2_with fail
    go_end0
    refine ⟨rfl, ?_, HK3.out⟩
    rw [HWR.out]
    exact filC_iff.2 ⟨_, mb, fw_in.2 ⟨X, HX.out, HO3.out⟩⟩
end Go.Proofs.YtmgpgbfgemebbaaGreatDoor
