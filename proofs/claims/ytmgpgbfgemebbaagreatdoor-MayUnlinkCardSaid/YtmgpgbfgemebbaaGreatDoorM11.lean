/- TEXTS of mine, merged. -/
import Derived.Test.YtmgpgbfgemebbaaGreatDoorM10
import Derived.Test.YtmgpgbfgemebbaaGreatDoorM6
import Derived.Test.YtmgpgbfgemebbaaGreatDoorM3
import Derived.BigQuiet
import Derived.Test.YtmgpgbfgemebbaaGreatDoorM8
import Derived.Test.YtmgpgbfgemebbaaGreatDoorM5
import Derived.Shelf.SlMaps.Clone
set_option linter.all false
namespace Go.Proofs.YtmgpgbfgemebbaaGreatDoor
open Go.RowKit Go.Own
def Fil.firm (F : Fil) : Fil := { F with sizes := [lastI F.sizes], blocks := F.blocks.map fun x => (x.1, [x.2.getLastD []]) }
theorem has_drops {w : World} {L : List HP} : ∀ Z : List HP, Has w (Z ++ L) → Has w L
 | [], h => h
 | _ :: Z, h => has_drops Z h.drop
theorem ic_drop (xs : List Int) (n : Nat) : (ic xs).drop n = ic (xs.drop n) := by simp [ic]
theorem last_drop {α : Type} (d : α) : ∀ (l : List α) (n : Nat), l.length = n + 1 → l.drop n = [l.getLastD d]
 | [], _, h => by simp at h
 | [a], 0, _ => rfl
 | [a], n + 1, h => by simp at h
 | a :: b :: l, 0, h => by simp at h
 | a :: b :: l, n + 1, h => by
  have := last_drop d (b :: l) n (by simpa using h)
  rw [List.drop_succ_cons, this]
  rfl
theorem Blk.keep {w : World} {L : List HP} {ls : List Str} {g o c n : Nat} (h : Has w (Blk (.slice (some ⟨g, o, none⟩) (n + 1) c) ls :: L)) (hn : ls.length = n + 1) : Has w (Blk (.slice (some ⟨g, o + n, none⟩) 1 (c - n)) [ls.getLastD []] :: L) := by
 obtain ⟨hs, rfl, h1⟩ := blk_iff.1 h
 rw [hn] at h1
 have h2 := h1.rowF_drop n (by omega)
 rw [show n + 1 - n = 1 from by omega, ← List.map_drop] at h2
 have hp : hs = hs.take n ++ hs.drop n := (List.take_append_drop n hs).symm
 have h3 := (h2.p1).poolPerm (B' := hs.take n ++ hs.drop n) (by rw [List.take_append_drop])
 have h4 : Has w (poolc 5 (hs.drop n) :: rowF (.slice (some ⟨g, o + n, none⟩) 1 (c - n)) 31 1 ((hs.drop n).map Prod.fst) :: L) := by
  unfold poolc at h3 ⊢
  rw [Has.star_iff, List.map_append, List.append_assoc] at h3
  exact Has.star_iff.2 (has_drops _ h3)
 refine blk_iff.2 ⟨hs.drop n, ?_, h4.p1⟩
 rw [List.map_drop]
 exact last_drop [] _ n hn
def bl (B : List (Int × List Str)) (rem : List Int) : List (Int × List Str) := B.map fun x => (x.1, if x.1 ∈ rem then x.2 else [x.2.getLastD []])
open Classical in
theorem pm5 (A B D E G S : HP) (Z Z0 L : List HP) (h : Z.Perm (S :: Z0)) : (A :: B :: D :: E :: G :: (Z ++ L)).Perm (S :: A :: B :: D :: E :: G :: (Z0 ++ L)) := by
 refine List.perm_iff_count.2 fun x => ?_
 have e1 := h.count_eq x
 simp only [List.count_append, List.count_cons] at *
 omega
open Classical in
theorem pm6 (A B D E G : HP) (Z L : List HP) : (A :: B :: D :: E :: G :: (Z ++ L)).Perm (A :: (Z ++ (B :: D :: E :: G :: L))) := by
 refine List.perm_iff_count.2 fun x => ?_
 simp only [List.count_append, List.count_cons] at *
 omega
open Classical in
theorem pm7 (A B D E G : HP) (Z L : List HP) : (A :: (Z ++ (B :: D :: E :: G :: L))).Perm (A :: B :: D :: E :: G :: (Z ++ L)) := (pm6 A B D E G Z L).symm
theorem bl_mem {B : List (Int × List Str)} {rem : List Int} {k : Int} {ls : List Str} (hk : k ∈ rem) (hm : (k, ls) ∈ bl B rem) : (k, ls) ∈ B := by
 unfold bl at hm
 obtain ⟨y, hy, he⟩ := List.mem_map.1 hm
 simp only [Prod.mk.injEq] at he
 obtain ⟨rfl, e2⟩ := he
 rw [if_pos hk] at e2
 subst e2
 exact hy
abbrev BlkC (s : Slv) (ls : List Str) : HP := Blk (slvV s) ls
abbrev tFm : TypeId := 137
theorem undFm : Tryz.prog.underlying tFm = some (.map tInt tPf) := by kernel_rfl
theorem bl_all (B : List (Int × List Str)) : bl B (B.map Prod.fst) = B := by
 unfold bl
 refine (List.map_congr_left fun x hx => ?_).trans (List.map_id _)
 rw [if_pos (List.mem_map_of_mem hx)]
 rfl
theorem bl_nil (B : List (Int × List Str)) : bl B [] = B.map fun x => (x.1, [x.2.getLastD []]) := by
 unfold bl
 refine List.map_congr_left fun x hx => ?_
 rw [if_neg (by simp)]
theorem bl_step {B : List (Int × List Str)} (hn : (B.map Prod.fst).Nodup) {rem : List Int} {k : Int} {ls : List Str} (hk : k ∈ rem) (hm : (k, ls) ∈ bl B rem) : putA (bl B rem) k [ls.getLastD []] = bl B (rem.filter fun y => !decide (y = k)) := by
 unfold putA
 rw [if_pos (List.mem_map_of_mem hm)]
 unfold bl at hm ⊢
 rw [List.map_map]
 refine List.map_congr_left fun x hx => ?_
 obtain ⟨y, hy, he⟩ := List.mem_map.1 hm
 simp only [Prod.mk.injEq] at he
 obtain ⟨e1, e2⟩ := he
 simp only [Function.comp]
 by_cases hxk : x.1 = k
 ·rw [if_pos hxk, if_neg (by rw [List.mem_filter]; simp [hxk])]
  have hyx : x = y := by
   have e3 := fnd_mem hn hx
   have e4 := fnd_mem hn hy
   rw [e1, ← hxk, e3] at e4
   exact Prod.ext (hxk.trans e1.symm) (Option.some.inj e4)
  subst hyx
  rw [e1, if_pos hk] at e2
  rw [e2, hxk]
 ·rw [if_neg hxk]
  congr 1
  by_cases hr : x.1 ∈ rem
  ·rw [if_pos hr, if_pos (by rw [List.mem_filter]; exact ⟨hr, by simp [hxk]⟩)]
  ·rw [if_neg hr, if_neg (by rw [List.mem_filter]; exact fun h => hr h.1)]
set_option maxRecDepth 100000 in
set_option maxHeartbeats 8000000 in
theorem mFirm (q bf bF clock K : Nat) (es : Array MapEntry) (C : Array Value) (T : List (Int × Option Nat)) (n : Int) (F : Fil) (w : World) (L : List HP) (hC : C[2]? = some (.map (some bf))) (hn : (Lit.int .i64 n).wf = true) (hT : fnd T n = some (some bF)) (hF : FilOk F K) (hK : K ≤ 100000) (hO : Has w (pt q (.cells C 142) :: Mx kInt vPf bf es clock T :: FilC bF F :: L)) :
  Calls Tryz.prog 156 #[.pointer (some ⟨q, 0, none⟩), .int .i64 n] w fun e' w' => e' = .returned (.tuple #[]) ∧ Has w' (pt q (.cells C 142) :: Mx kInt vPf bf es clock T :: FilC bF F.firm :: L) ∧ Keep w w' := by
 obtain ⟨sv, mb, hO1⟩ := filC_iff.1 (show Has w (FilC bF F :: pt q (.cells C 142) :: Mx kInt vPf bf es clock T :: L) from hO.re 3 [2, 0, 1])
 obtain ⟨m, hm⟩ : ∃ m, F.sizes.length = m + 1 := ⟨F.sizes.length - 1, by have := List.length_pos_iff.2 hF.sz; omega⟩
 rw [hm] at hO1
 obtain ⟨gs, os, cs, rfl⟩ := rowF_some hO1.p1
 have hmc : m + 1 ≤ cs := by
  obtain ⟨p, c, hv, hc, -⟩ := (Has.rdF hO1.p1).form
  simp only [Value.slice.injEq] at hv
  omega
 have hmK : m < 100000 := by have := hF.szl; omega
 have hlk := Mk.look0 (Mx.mk hO.p1) undFm hn
 rw [hT] at hlk
 have hq2 : w.cell? ⟨q, 2, none⟩ = some (.map (some bf)) := (hO.cells 2).trans hC
 have hk2 : (Instr.lookup tFm (.map (some bf)) (.int .i64 n) false).run Tryz.prog w = .ok (.pointer (some ⟨bF, 0, none⟩)) w := hlk
 have HO1 := hid hO1
 have HF := hid hF
 have HM := hid hm
 have HK0 := hid hK
 clear hO hO1 hlk hC hn hT hF hm hK
 go_enter Tryz.func156, Tryz.ntmps156
 go_upto_region 1 with fail
 have HO2 := hid HO1.out.drew
 have HK2 := hid ((Keep.refl w).drew)
 clear HO1 hq2 hk2
 refine region_tail1 (fun w' => w'.cell? ⟨bF, 2, none⟩ = some (.slice (some ⟨gs, os, none⟩) (m + 1) cs) ∧ True) (by kernel_rfl) (by kernel_rfl) (by kernel_rfl) (by decide) ⟨HO2.out.cells 2, trivial⟩ ?_
 generalize w.drew = w2 at *
 have hcm : ¬ cs = m := by omega
 have hwm : IntKind.i64.wrap (m : Int) = (m : Int) := wrapk_in _ (by omega)
 have hm0 : (0 : Int) ≤ (m : Int) := by omega
 have hm1 : (m : Int) ≤ (m : Int) + 1 := by omega
 have hm2 : m + 1 - m = 1 := by omega
 repeat (first | refine wr2 ?_ | refine wk ?_)
 refine wpL_nil ?_
 refine wpOp_last rfl (by rfl) ?_
 have hc2 : w2.cell? ⟨bF, 2, none⟩ = some (.slice (some ⟨gs, os, none⟩) (m + 1) cs) := HO2.out.cells 2
 have ht2 := HO2.out.thaw 2
 go_simp
 have hHF : Has (w2.setCell ⟨bF, 2, none⟩ (.slice (some ⟨gs, os + m, none⟩) 1 (cs - m))) (pt bF (.cells #[.int .i64 F.kind, sV F.target, .slice (some ⟨gs, os + m, none⟩) 1 (cs - m), .map (some mb)] 216) :: rowF (.slice (some ⟨gs, os + m, none⟩) 1 (cs - m)) 3 1 (ic [lastI F.sizes]) :: Zm kInt vSB mb BlkC F.blocks :: pt q (.cells C 142) :: Mx kInt vPf bf es clock T :: L) := by
  have h1 := (HO2.out.p1).rowF_drop m (by omega)
  rw [hm2, ic_drop, last_drop 0 F.sizes m HM.out] at h1
  exact (h1.p1).set 2 _
 have HO3 := hid hHF
 have HK3 := hid (HK2.out.set ⟨bF, 2, none⟩ (.slice (some ⟨gs, os + m, none⟩) 1 (cs - m)))
 clear hHF hc2 ht2 HO2 HK2 hwm hm0 hm1 hm2 hcm
 generalize w2.setCell ⟨bF, 2, none⟩ (.slice (some ⟨gs, os + m, none⟩) 1 (cs - m)) = w3 at *
 generalize (Value.slice (some ⟨gs, os + m, none⟩) 1 (cs - m)) = sv at *
 have hc3 : w3.cell? ⟨bF, 3, none⟩ = some (.map (some mb)) := HO3.out.cells 3
 obtain ⟨X, hX, hO4⟩ := zm_iff.1 (show Has w3 (Zm kInt vSB mb BlkC F.blocks :: pt bF (.cells #[.int .i64 F.kind, sV F.target, sv, .map (some mb)] 216) :: rowF sv 3 1 (ic [lastI F.sizes]) :: pt q (.cells C 142) :: Mx kInt vPf bf es clock T :: L) from HO3.out.re 3 [2, 0, 1])
 have HND := hid (show (F.blocks.map Prod.fst).Nodup from by have h2 := Mk.nodup hO4; rw [zH_keys, ← zB_keys, hX] at h2; exact h2)
 have HO4 := hid (show Has w3 (Mk kInt vSB mb (zH X) :: pt bF (.cells #[.int .i64 F.kind, sV F.target, sv, .map (some mb)] 216) :: rowF sv 3 1 (ic [lastI F.sizes]) :: pt q (.cells C 142) :: Mx kInt vPf bf es clock T :: (zC BlkC X ++ L)) from hO4.perm (pm7 _ _ _ _ _ _ _))
 have HX := hid (show zB X = bl F.blocks ((zH X).map Prod.fst) from by rw [hX, zH_keys, ← zB_keys, hX, bl_all])
 have HBL := hid hX
 clear hO4 hX HO3
 go_wp2_with (at_range; refine wpList_mkStart HO4.out 214 undBm rfl _ rfl rfl ?_; intro w4 hO5 hK5 hs5)
 try go_frame
 have HO5 := hid hO5
 have HK5 := hid (HK3.out.trans hK5)
 clear hO5 hK5 hs5 hc3 HO4 HK3
 generalize w3.heap.size = r at *
 generalize (zH X).length = cnt0 at *
 go_loopw [] (fun w' => ∃ (X : List (Int × Slv × List Str)) (rem : List Int) (cnt : Nat), Hid (zB X = bl F.blocks rem) ∧ Hid (Has w' (Mr kInt vSB mb r (zH X) rem cnt :: pt bF (.cells #[.int .i64 F.kind, sV F.target, sv, .map (some mb)] 216) :: rowF sv 3 1 (ic [lastI F.sizes]) :: pt q (.cells C 142) :: Mx kInt vPf bf es clock T :: (zC BlkC X ++ L))) ∧ Hid (Keep w w')) (fun w' => w'.rangeLeft mb r)
 case atStart => exact ⟨X, _, cnt0, HX, HO5, HK5⟩
 case round =>
  clear HO5 HK5 HX HBL
  obtain ⟨X1, rem, cnt, HX, HO, HK⟩ := hrel
  have hleft := Mr.left HO.out
  have HLF := hid hleft
  go_wp2_with (at_next; refine wpList_mkNext HO.out rfl _ rfl rfl ?_ ?_)
  ·intro hrem
   subst hrem
   go_wp2_with fail
   go_end0
   refine ⟨rfl, ?_, HK.out⟩
   have h1 : Has _ (Mk kInt vSB mb (zH X1) :: (zC BlkC X1 ++ _)) := (Mr.end HO.out).perm (pm6 _ _ _ _ _ _ _)
   have h2 := zm_iff.2 ⟨X1, HX.out.trans (bl_nil _), h1⟩
   have h3 : Has _ (FilC bF F.firm :: pt q (.cells C 142) :: Mx kInt vPf bf es clock T :: L) := filC_iff.2 ⟨sv, mb, h2.re 3 [1, 2, 0]⟩
   exact h3.re 3 [1, 2, 0]
  ·rintro k s w5 cnt' hp hr hky hO5 hlt5 hK5 hsz hen
   have hnd1 : (X1.map Prod.fst).Nodup := by have h2 := Mk.nodup (Mr.end HO.out); rw [zH_keys] at h2; exact h2
   obtain ⟨X0, hcase, hput⟩ := z_zip BlkC X1 k hnd1
   rcases hcase with ⟨-, h1, -⟩ | ⟨s1, ls, h1, h2, h3⟩
   ·exact absurd (fnd_none.1 h1) (fun hh => hh (List.mem_map_of_mem hp))
   obtain rfl : s = s1 := by
    have h4 := fnd_mem (by rw [zH_keys]; exact hnd1) hp
    rw [h2] at h4
    exact (Option.some.inj h4).symm
   have hml : (k, ls) ∈ bl F.blocks rem := by rw [← HX.out]; exact fnd_some h1
   have hst := bl_step HND.out hr hml
   obtain ⟨hl0, hlK⟩ := HF.out.bl _ (bl_mem hr hml)
   have h6 := hO5.perm (pm5 _ _ _ _ _ _ _ _ _ h3)
   obtain ⟨g, o, c, n', hv, xs, e1, e2, e3, -⟩ := Blk.last h6 hl0
   have hen2 : (Instr.entry (.pointer (some ⟨r, 0, none⟩))).run Tryz.prog w5 = .ok (.tuple #[.int .i64 k, .slice (some ⟨g, o, none⟩) (n' + 1) c]) w5 := by
    rw [← e1, ← e2]
    exact hen
   have h7 : Has w5 (Blk (.slice (some ⟨g, o + n', none⟩) 1 (c - n')) [ls.getLastD []] :: _) := Blk.keep (by rw [← e1, ← e2]; exact h6) e1
   obtain ⟨X', hB, hH, hCp⟩ := hput (⟨some (g, o + n'), 1, c - n'⟩ : Slv) [ls.getLastD []]
   have HO6 := hid h7
   have HK6 := hid (HK.out.trans hK5)
   have HB := hid (show zB X' = bl F.blocks (rem.filter fun y => !decide (y = k)) from by rw [hB, HX.out]; exact hst)
   have HH := hid hH
   have HCP := hid hCp
   have HKY := hid hky
   have HL5 := hid hlt5
   have HXL := hid (show (zH X1).length < 1000000 from by
    have e5 := congrArg List.length HX.out
    rw [zB_len] at e5
    unfold bl at e5
    rw [List.length_map] at e5
    unfold zH
    rw [List.length_map, e5]
    have e6 := nodup_lt 162 (F.blocks.map Prod.fst) HND.out (fun x hx => by obtain ⟨y, hy, rfl⟩ := List.mem_map.1 hx; have := HF.out.keys y hy; omega)
    rw [List.length_map] at e6
    omega)
   have HIN := hid (show k ∈ (zH X1).map Prod.fst from List.mem_map_of_mem hp)
   have hnK : n' < 100000 := by have e7 : ls.length ≤ K := hlK; have := HK0.out; omega
   have hnc : n' + 1 ≤ c := by omega
   clear hp hr hky hO5 hlt5 hK5 hsz hen hnd1 hput h1 h2 h3 hml hst hl0 hlK h6 hv e1 e2 e3 h7 hB hH hCp hleft HO HK
   go_upto_region 5 with fail
   have HO7 := hid HO6.out.drew
   have HK7 := hid HK6.out.drew
   clear HO6 HK6 hen2
   refine region_text (fun w' => w'.cell? ⟨bF, 3, none⟩ = some (.map (some mb)) ∧ True) (by kernel_rfl) (by kernel_rfl) ⟨HO7.out.p2.cells 3, trivial⟩ ?_
   generalize w5.drew = w6 at *
   have hcm : ¬ c = n' := by omega
   have hwm : IntKind.i64.wrap (n' : Int) = (n' : Int) := wrapk_in _ (by omega)
   have hm0 : (0 : Int) ≤ (n' : Int) := by omega
   have hm1 : (n' : Int) ≤ (n' : Int) + 1 := by omega
   have hm2 : n' + 1 - n' = 1 := by omega
   repeat (first | refine wr2 ?_ | refine wk ?_)
   refine wa fun K hK => ?_
   refine wp_mrPut (show Has w6 (Mr kInt vSB mb r (zH X1) _ cnt' :: _) from HO7.out.p1) HXL.out 214 undBm _ _ _ rfl rfl k HIN.out rfl (⟨some (g, o + n'), 1, c - n'⟩ : Slv) trivial rfl ?_
   intro w7 h7 k7
   have h8 : Has w7 (Mr kInt vSB mb r (zH X') (rem.filter fun y => !decide (y = k)) cnt' :: pt bF (.cells #[.int .i64 F.kind, sV F.target, sv, .map (some mb)] 216) :: rowF sv 3 1 (ic [lastI F.sizes]) :: pt q (.cells C 142) :: Mx kInt vPf bf es clock T :: (zC BlkC X' ++ L)) := by
    rw [HH.out]
    exact (h7.p1).perm (pm5 _ _ _ _ _ _ _ _ _ HCP.out).symm
   have HO8 := hid h8
   have HK8 := hid (HK7.out.trans k7)
   have hleft8 := Mr.left h8
   clear h7 k7 h8 HO7 HK7 hcm hwm hm0 hm1 hm2
   refine hK.out _ _ ⟨HO8.out.p1.cells 3, trivial⟩ ?_
   clear hK K
   try simp only [Act.put, List.setIfInBounds_toArray, List.set_cons_zero, List.set_cons_succ]
   refine wpL_nil ?_
   go_wp2_with fail
   refine ⟨⟨X', _, cnt', HB, HO8, HK8⟩, by rw [hleft8, HLF.out]; exact HL5.out⟩
end Go.Proofs.YtmgpgbfgemebbaaGreatDoor
namespace Go.Proofs.YtmgpgbfgemebbaaGreatDoor
open Go.RowKit Go.Own
set_option maxRecDepth 100000 in
set_option maxHeartbeats 4000000 in
theorem mIndexI (v : Value) (l : List Int) (x : Int) (w : World) (hr : Rd w v 1 l.length (ic l)) (hl : l.length ≤ 1000000) :
  Calls Tryz.prog 160 #[v, .int .i64 x] w fun e w' => (∃ k : Int, e = .returned (.int .i64 k) ∧ decide (0 ≤ k) = decide (x ∈ l)) ∧ w = w' := by
 obtain ⟨p, c, rfl, -, -, hcs⟩ := hr.form
 have HCS := hid hcs
 have HL := hid hl
 clear hr hl hcs
 go_enter Tryz.func160, Tryz.ntmps160
 go_wp2_with fail
 go_loopw [8] (fun i w' => ∃ k : Nat, k ≤ l.length ∧ i = .int .i64 k ∧ Hid (∀ j (hj : j < l.length), j < k → l[j] ≠ x) ∧ w = w') (fun i _ => l.length - (intOf i).toNat)
 case atStart => exact ⟨0, by omega, rfl, hid fun j hj h => by omega, rfl⟩
 case round =>
  obtain ⟨k, hk, rfl, HN, rfl⟩ := hrel
  by_cases hlt : k < l.length
  ·have hki : (k : Int) < (l.length : Int) := by omega
   have hk0 : (0 : Int) ≤ (k : Int) := by omega
   have hnb : (l.length : Int) ≤ 1000000 := by have := HL.out; omega
   obtain ⟨g, o, rfl, hc⟩ := HCS.out (by omega)
   have hck : w.cell? ⟨g, o + k, none⟩ = some (.int .i64 l[k]) := by
    rw [hc k (by omega), ic, List.getElem?_map, List.getElem?_eq_getElem hlt]
    rfl
   have HLT := hid hlt
   generalize hy : l[k] = y at *
   have HY := hid hy
   clear hy hlt hk hc
   by_cases hat : x = y
   ·have hb : (x == y) = true := by simpa using hat
    have HM := hid (show decide (0 ≤ (k : Int)) = decide (x ∈ l) from by
     rw [decide_eq_true (by omega), eq_comm, decide_eq_true_eq, hat, ← HY.out]
     exact List.getElem_mem _)
    clear hat
    go_wp2_with fail
    go_ret
    exact ⟨⟨_, rfl, HM.out⟩, rfl⟩
   ·have hb : (x == y) = false := by simpa using hat
    have HA := hid hat
    clear hat
    go_wp2_with fail
    refine ⟨⟨k + 1, by have := HLT.out; omega, ?_, hid fun j hj h => ?_, by trivial⟩, ?_⟩
    ·try go_num
    ·by_cases hjk : j = k
     ·subst hjk
      exact fun h9 => HA.out (h9.symm.trans HY.out)
     ·exact HN.out j hj (by omega)
    ·have := HLT.out
     simp [intOf]
     omega
  ·obtain rfl : k = l.length := by omega
   have HM := hid (show decide ((0 : Int) ≤ -1) = decide (x ∈ l) from by
    rw [decide_eq_false (by omega), eq_comm, decide_eq_false_iff_not]
    intro hx
    obtain ⟨j, hj, he⟩ := List.mem_iff_getElem.1 hx
    exact HN.out j hj hj he)
   clear hlt hk HN
   go_wp2_with fail
   go_ret
   exact ⟨⟨_, rfl, HM.out⟩, rfl⟩
set_option maxRecDepth 100000 in
theorem mContainsI (v : Value) (l : List Int) (x : Int) (w : World) (hr : Rd w v 1 l.length (ic l)) (hl : l.length ≤ 1000000) :
  Calls Tryz.prog 98 #[v, .int .i64 x] w fun e w' => e = .returned (.bool (decide (x ∈ l))) ∧ w = w' := by
 have HN := hid (mIndexI v l x w hr hl)
 obtain ⟨p, c, rfl, -⟩ := hr.form
 clear hr hl
 go_enter Tryz.func98, Tryz.ntmps98
 go_wp2_with fail
 refine HN.out.mono ?_
 rintro e w' ⟨⟨k, rfl, hk⟩, rfl⟩
 have HK := hid hk
 clear hk HN
 try dsimp only
 go_wp2_with fail
 go_ret
 first
  | exact ⟨rfl, rfl⟩
  | exact ⟨by rw [HK.out]; rfl, rfl⟩
theorem ints_holds {w : World} {L : List HP} {g cap m : Nat} {l : List Int} (hO : Has w (Ints (.slice (some ⟨g, 0, none⟩) m cap) l :: L)) : Sort.Holds (Value.int .i64) w g 0 l.toArray := by
 obtain ⟨-, hc, hf, -, -⟩ := hO.row_cells
 intro j hj
 have hj' : j < l.length := by simpa using hj
 refine ⟨?_, by rw [Nat.zero_add]; exact hf j⟩
 rw [Nat.zero_add, hc j (by omega), ic, List.getElem?_map, List.getElem?_eq_getElem hj', Option.map_some, getElem!_pos _ j hj, List.getElem_toArray]
def sorted (l : List Int) : List Int := l.mergeSort fun x y => decide (x ≤ y)
theorem sorted_len (l : List Int) : (sorted l).length = l.length := List.length_mergeSort _
theorem reverseI (v : Value) (l : List Int) (w : World) (L : List HP) (hl : l.length ≤ 1000000) (hO : Has w (Ints v l :: L)) :
  Calls Tryz.prog 245 #[v] w fun e w' => e = .returned (.tuple #[]) ∧ Has w' (Ints v l.reverse :: L) ∧ Keep w w' := by
 obtain ⟨h1, ⟨rfl, h2, h3, -⟩ | ⟨g, cap, cur, rfl, h2, h3, -, -, h4⟩⟩ := Has.row_cases hO
 ·have hn : l = [] := List.eq_nil_of_length_eq_zero h2
  subst hn
  refine (Tryz.slices_Reverse_int_empty none 0 w).mono ?_
  rintro e w' ⟨rfl, rfl⟩
  exact ⟨rfl, by simpa using hO, Keep.refl _⟩
 ·refine (Tryz.slices_Reverse_int g 0 cap l w (ints_holds hO) (by omega)).mono ?_
  rintro e w' ⟨rfl, m, rfl⟩
  have h5 := (Has.ahead hO m).putRow (d := l.reverse.toArray) (Value.int .i64) (by simp)
  refine ⟨rfl, ?_, rfl, rfl, rfl, by simp [Sort.putRow, Sort.mapBlock, Sort.ahead]⟩
  unfold Ints
  rw [List.length_reverse]
  exact h5
end Go.Proofs.YtmgpgbfgemebbaaGreatDoor
namespace Go.Proofs.YtmgpgbfgemebbaaGreatDoor
open Go.RowKit Go.Own
namespace Tre
variable (S : Tre)
def dirs : Nat → Int → Option (List Int)
 | 0, _ => none
 | k + 1, n => if n = 1 then some [1] else if fnd S.nodes n = none ∨ (S.at_ n).above = 0 then none else (dirs k (S.at_ n).above).map (· ++ [n])
def dway (n : Int) : Option (List Int) := S.dirs 21 n
end Tre
theorem dirs_len (S : Tre) : ∀ (k : Nat) (n : Int) (l : List Int), S.dirs k n = some l → l.length ≤ k
 | 0, _, _, h => by simp [Tre.dirs] at h
 | k + 1, n, l, h => by
  unfold Tre.dirs at h
  split at h
  ·obtain rfl := (Option.some.inj h).symm; simp
  ·split at h
   ·simp at h
   ·obtain ⟨m, hm, rfl⟩ := Option.map_eq_some_iff.1 h
    have := dirs_len S k _ m hm
    simp
    omega
set_option maxRecDepth 100000 in
set_option maxHeartbeats 600000 in
theorem mDway (q m f : Nat) (P : List Pn) (S : Tre) (rk : Int → Nat) (n0 : Int) (w : World) (L : List HP) (hW : Wy S rk) (hn0 : (Lit.int .i64 n0).wf = true) (hPT : pnN P = S.nodes ∧ S.tab.length = 16) (hO : Has w (Trb q m f P S.last S.tab :: L)) :
  Calls Tryz.prog 222 #[.pointer (some ⟨q, 0, none⟩), .int .i64 n0] w fun e w' => ∃ v, e = .returned (.tuple #[v, .bool (S.dway n0).isSome]) ∧ Has w' (Ints v ((S.dway n0).getD []) :: Trb q m f P S.last S.tab :: L) ∧ Keep w w' := by
 have HW := hid hW
 have HPT := hid hPT
 have HO := hid hO
 have hlow := hW.low n0
 generalize hR : S.dway n0 = R
 have HR := hid hR
 clear hW hO hPT hR
 go_enter Tryz.func222, Tryz.ntmps222
 go_wp2_with fail
 go_loopw [1, 6] (fun a v w' => ∃ (n : Int) (out : List Int) (k : Nat), a = .int .i64 n ∧ (Lit.int .i64 n).wf = true ∧ out.length + k ≤ 21 ∧ rk n < k ∧ Hid ((S.dirs k n).map (· ++ out.reverse) = R) ∧ Hid (Has w' (Ints v out :: Trb q m f P S.last S.tab :: L)) ∧ Hid (Keep w w')) (fun a _ _ => rk (intOf a))
 case atStart => exact ⟨n0, [], 21, rfl, hn0, by simp, by omega, hid (by rw [← HR.out]; unfold Tre.dway; simp), hid (HO.out.row_nil 3 1), hid (Keep.refl w)⟩
 case round =>
  clear HO hn0 hlow HR
  obtain ⟨n, out, k, rfl, hwf, hlen, hrk, HRR, HO, HK⟩ := hrel
  obtain ⟨pv, cv, rfl, -⟩ := (Has.rd HO.out).form
  obtain ⟨k, rfl⟩ : ∃ k', k = k' + 1 := ⟨k - 1, by omega⟩
  have HLEN := hid hlen
  have HRK := hid hrk
  have hcq := (Trb.cells HO.out.p1).1
  clear hlen hrk
  by_cases h1 : n = 1
  ·have HE := hid (show R = some ((out ++ [1]).reverse) from by rw [← HRR.out, Tre.dirs, if_pos h1]; simp)
   subst h1
   clear hwf
   have HOa := hid (HO.out.alloc (.cells #[.int .i64 1] 3))
   have HKa := hid (HK.out.alloc (.cells #[.int .i64 1] 3))
   have hlit : (wr.alloc (.cells #[.int .i64 1] 3)).cell? ⟨wr.heap.size, 0, none⟩ = some (.int .i64 1) := HOa.out.cells 0
   go_wp2_with (at_builtin; refine wpList_append1 rfl _ _ _ rfl Tryz.underlying69 infoI1 rfl (.int .i64 1) (show Has _ (row _ 3 1 out.length (ic out) :: _) from HOa.out.p1) rfl 1 _ rfl hlit rfl (le_maxLen (by have := HLEN.out; omega)) (by have := HLEN.out; omega) ?_)
   intro v4 w4 h4 k4
   have HO4 := hid (show Has w4 (Ints v4 (out ++ [1]) :: Trb q m f P S.last S.tab :: L) from by
    unfold Ints
    rw [show ic (out ++ [1]) = ic out ++ [.int .i64 1] from by simp [ic], List.length_append]
    exact h4.re 3 [0, 2])
   have HK4 := hid (HKa.out.trans k4)
   obtain ⟨p4, c4, rfl, -⟩ := (Has.rd HO4.out).form
   clear h4 k4 HOa HKa hlit HO HK hcq
   have HLX := hid (show (out ++ [1]).length ≤ 1000000 from by have := HLEN.out; simp; omega)
   generalize out ++ [1] = out1 at *
   have HN := hid (reverseI _ out1 w4 _ HLX.out HO4.out)
   go_wp2_with fail
   refine HN.out.mono ?_
   rintro e w5 ⟨rfl, h5, k5⟩
   have HO5 := hid h5
   have HK5 := hid (HK4.out.trans k5)
   clear h5 k5 HN HO4 HK4
   try dsimp only
   go_wp2_with fail
   go_ret2
   rw [HE.out]
   exact ⟨_, rfl, HO5.out, HK5.out⟩
  ·have h1b : (n != 1) = true := by simpa using h1
   cases hx : fnd S.nodes n with
   | none =>
    have HE := hid (show R = none from by rw [← HRR.out, Tre.dirs, if_neg h1, if_pos (.inl hx)]; rfl)
    have hk := Mk.look0 ((trg_iff.1 (Trg.of HO.out.p1)).p1) undNo hwf
    have hk2 : (Instr.lookup tNo (.map (some m)) (.int .i64 n) false).run Tryz.prog wr = .ok (.pointer none) wr := by
     rw [show fnd (pnB P) n = none from by rw [fnd_none, pnB_keys, ← pnN_keys, ← fnd_none, HPT.out.1]; exact hx] at hk
     exact hk
    have HO2 := hid (HO.out.drop)
    clear hk HO hwf h1 hx
    go_wp2_with fail
    go_ret2
    rw [HE.out]
    exact ⟨_, rfl, HO2.out.row_nil 3 1, HK.out⟩
   | some x =>
    have hx' := hx
    rw [← HPT.out.1] at hx'
    obtain ⟨b, hb, hl⟩ := Trb.look HO.out.p1 hx'
    obtain ⟨dv, wv, nm, -, hc, -⟩ := Trb.node HO.out.p1 hb
    have hcb6 : wr.cell? ⟨b, 6, none⟩ = some (.int .i64 x.above) := hc 6
    have hat : S.at_ n = x := by unfold Tre.at_; rw [hx]; rfl
    have hx0 := hx'
    clear hc hx'
    by_cases h2 : x.above = 0
    ·have HE := hid (show R = none from by rw [← HRR.out, Tre.dirs, if_neg h1, if_pos (.inr (by rw [hat]; exact h2))]; rfl)
     have HO2 := hid (HO.out.drop)
     have h2b : (x.above == 0) = true := by simpa using h2
     rw [h2] at hcb6
     clear HO hwf h1 hx hx0 h2 hb hat
     go_wp2_with fail
     go_ret2
     rw [HE.out]
     exact ⟨_, rfl, HO2.out.row_nil 3 1, HK.out⟩
    ·obtain ⟨y, nm2, hy, -, hlt, -⟩ := HW.out.rank n x hx h1 h2
     have h2b : (x.above == 0) = false := by simpa using h2
     have hwy : (Lit.int .i64 x.above).wf = true := Mk.ok ((trg_iff.1 (Trg.of HO.out.p1)).p1) (by rw [pnB_keys, ← pnN_keys, HPT.out.1]; exact List.mem_map_of_mem (f := Prod.fst) (fnd_some hy))
     have HRR2 := hid (show (S.dirs k x.above).map (· ++ (out ++ [n]).reverse) = R from by
      rw [← HRR.out, Tre.dirs, if_neg h1, if_neg (by rw [hx, hat]; simp [h2]), hat, Option.map_map]
      congr 1
      funext l
      simp)
     have HLT := hid hlt
     have HWY := hid hwy
     have HX0 := hid hx0
     generalize hab : x.above = ab at *
     have HAB := hid hab
     clear hx0 hab
     clear hwf h1 hx h2 hb hat hy hlt hwy
     have HOa := hid (HO.out.alloc (.cells #[.int .i64 n] 3))
     have HKa := hid (HK.out.alloc (.cells #[.int .i64 n] 3))
     have hlit : (wr.alloc (.cells #[.int .i64 n] 3)).cell? ⟨wr.heap.size, 0, none⟩ = some (.int .i64 n) := HOa.out.cells 0
     go_wp2_with (at_builtin; refine wpList_append1 rfl _ _ _ rfl Tryz.underlying69 infoI1 rfl (.int .i64 n) (show Has _ (row _ 3 1 out.length (ic out) :: _) from HOa.out.p1) rfl 1 _ rfl hlit rfl (le_maxLen (by have := HLEN.out; omega)) (by have := HLEN.out; omega) ?_)
     intro v4 w4 h4 k4
     have HO4 := hid (show Has w4 (Ints v4 (out ++ [n]) :: Trb q m f P S.last S.tab :: L) from by
      unfold Ints
      rw [show ic (out ++ [n]) = ic out ++ [.int .i64 n] from by simp [ic], List.length_append]
      exact h4.re 3 [0, 2])
     have HK4 := hid (HKa.out.trans k4)
     obtain ⟨p4, c4, rfl, -⟩ := (Has.rd HO4.out).form
     clear h4 k4 HOa HKa hlit HO HK hcq hcb6 hl
     have HLX := hid (show (out ++ [n]).length + k ≤ 21 from by have := HLEN.out; simp; omega)
     generalize out ++ [n] = out1 at *
     have hcq := (Trb.cells HO4.out.p1).1
     obtain ⟨b5, hb5, hl5⟩ := Trb.look HO4.out.p1 (show fnd (pnN P) n = some x from HX0.out)
     obtain ⟨dv5, wv5, nm5, -, hc5, -⟩ := Trb.node HO4.out.p1 hb5
     have hcb5 : w4.cell? ⟨b5, 6, none⟩ = some (.int .i64 ab) := (hc5 6).trans (by rw [← HAB.out]; rfl)
     clear hb5 hc5
     go_wp2_with fail
     exact ⟨⟨ab, out1, k, rfl, HWY.out, HLX.out, by have := HLT.out; have := HRK.out; omega, HRR2, HO4, HK4⟩, by simpa [intOf] using HLT.out⟩
end Go.Proofs.YtmgpgbfgemebbaaGreatDoor
namespace Go.Proofs.YtmgpgbfgemebbaaGreatDoor
open Go.RowKit Go.Own
set_option maxRecDepth 100000 in
set_option maxHeartbeats 1000000 in
theorem mOpenFd (q : Nat) (S : Tre) (fd : Int) (w : World) (L : List HP) (hO : Has w (Trc q S :: L)) :
  Calls Tryz.prog 167 #[.pointer (some ⟨q, 0, none⟩), .int .i64 fd] w fun e w' => e = .returned (.tuple #[.int .i64 (Tb.get S.tab fd).1.node, .int .i64 (Tb.get S.tab fd).1.flags, .bool ((Tb.get S.tab fd).2 == 0)]) ∧ Has w' (Trc q S :: L) ∧ Keep w w' := by
 obtain ⟨m, f, P, hPT, hO1⟩ := trc_iff.1 hO
 have hcq2 := (Trb.cells hO1).2.2
 have HN := hid (tabGet f S.tab fd w _ hPT.2 (Trb.tab.1 hO1))
 have HPT := hid hPT
 clear hO hO1 hPT
 generalize Tb.get S.tab fd = g at *
 obtain ⟨s, eg⟩ := g
 dsimp only at *
 go_enter Tryz.func167, Tryz.ntmps167
 go_wp2_with fail
 refine HN.out.mono ?_
 rintro e w2 ⟨rfl, h2, k2⟩
 have HO2 := hid (h2.alloc (.cells (filC s) 122))
 have HK2 := hid (k2.alloc (.cells (filC s) 122))
 clear h2 k2 HN hcq2
 unfold filC at HO2 HK2
 try dsimp only
 go_upto_region 4 with fail
 generalize w2.alloc (.cells #[.int .i64 s.node, .int .i64 s.off, .int .i64 s.flags] 122) = w3 at *
 generalize w2.heap.size = g9 at *
 have HO3 := hid HO2.out.drew
 have HK3 := hid HK2.out.drew
 clear HO2 HK2
 refine region_text (fun w' => w'.cell? ⟨g9, 0, none⟩ = some (.int .i64 s.node) ∧ w'.cell? ⟨g9, 2, none⟩ = some (.int .i64 s.flags)) (by kernel_rfl) (by kernel_rfl) ⟨HO3.out.cells 0, HO3.out.cells 2⟩ ?_
 generalize w3.drew = w4 at *
 repeat (first | refine wr2 ?_ | refine wk ?_)
 refine wpL_nil ?_
 go_wp2_with fail
 go_ret3
 exact ⟨rfl, trc_iff.2 ⟨m, f, P, HPT.out, Trb.tab.2 HO3.out.drop⟩, HK3.out⟩
end Go.Proofs.YtmgpgbfgemebbaaGreatDoor
namespace Go.Proofs.YtmgpgbfgemebbaaGreatDoor
open Go.RowKit Go.Own
set_option maxRecDepth 100000 in
set_option maxHeartbeats 1000000 in
theorem mWhere (q : Nat) (S : Tre) (p : Str) (mx : Int) (w : World) (L : List HP) (hW : Wk S) (hM : MxL mx L) (hp : p.length ≤ 100000) (hO : Has w (Trc q S :: L)) :
  Calls Tryz.prog 102 #[.pointer (some ⟨q, 0, none⟩), sV p] w fun e w' => e = .returned (.tuple #[.int .i64 (S.find p true).1.dir, sV (S.find p true).1.name, .bool ((S.find p true).2 == 0 && (S.find p true).1.dir != 0)]) ∧ Has w' (Trc q S :: L) ∧ Keep w w' := by
 have HN := hid (tFind q S p true mx w L hW hM hp hO)
 clear hO hM hW hp
 generalize S.find p true = g at *
 obtain ⟨s, eg⟩ := g
 dsimp only at *
 go_enter Tryz.func102, Tryz.ntmps102
 go_wp2_with fail
 refine HN.out.mono ?_
 rintro e w2 ⟨rfl, h2, k2⟩
 have HO2 := hid (h2.alloc (.cells (spC s) 102))
 have HK2 := hid (k2.alloc (.cells (spC s) 102))
 clear h2 k2 HN
 unfold spC at HO2 HK2
 unfold spV spC
 try dsimp only
 go_upto_region 4 with fail
 generalize w2.alloc (.cells #[.int .i64 s.node, .int .i64 s.dir, sV s.name] 102) = w3 at *
 generalize w2.heap.size = g9 at *
 have HO3 := hid HO2.out.drew
 have HK3 := hid HK2.out.drew
 clear HO2 HK2
 obtain ⟨n0, d, nm⟩ := s
 dsimp only at *
 have HS := hid (And.intro (HO3.out.cells 1) (HO3.out.cells 2))
 refine region_text (fun w' => w'.cell? ⟨g9, 1, none⟩ = some (.int .i64 d) ∧ w'.cell? ⟨g9, 2, none⟩ = some (sV nm)) (by kernel_rfl) (by kernel_rfl) HS.out ?_
 clear HS
 generalize w3.drew = w4 at *
 have HX := hid (show Has w4 (Trc q S :: L) from HO3.out.drop)
 clear HO3
 by_cases h0 : eg = 0
 ·subst h0
  repeat (first | refine wr2 ?_ | refine wk ?_)
  refine wpL_nil ?_
  go_wp2_with fail
  go_ret3
  exact ⟨rfl, HX.out, HK3.out⟩
 ·have hb : (eg == 0) = false := by simpa using h0
  clear h0
  repeat (first | refine wr2 ?_ | refine wk ?_)
  refine wpL_nil ?_
  go_wp2_with fail
  go_ret3
  exact ⟨rfl, HX.out, HK3.out⟩
end Go.Proofs.YtmgpgbfgemebbaaGreatDoor
namespace Go.Proofs.YtmgpgbfgemebbaaGreatDoor
open Go.RowKit Go.Own
def lastR (t : List (Ent × List Int)) (sel : Ent → Bool) (rem : List Ent) : List (Ent × List Int) := t.map fun x => (x.1, if sel x.1 = true ∧ x.1 ∉ rem then [lastI x.2] else x.2)
theorem lastR_keys (t : List (Ent × List Int)) (sel : Ent → Bool) (rem : List Ent) : (lastR t sel rem).map Prod.fst = t.map Prod.fst := by simp [lastR]
theorem lastR_all (t : List (Ent × List Int)) (sel : Ent → Bool) : lastR t sel (t.map Prod.fst) = t := by
 unfold lastR
 refine (List.map_congr_left fun x hx => ?_).trans (List.map_id _)
 rw [if_neg (fun h => h.2 (List.mem_map_of_mem hx))]
 rfl
theorem lastR_last (t : List (Ent × List Int)) (sel : Ent → Bool) (rem : List Ent) : (lastR t sel rem).map (fun x => (x.1, lastI x.2)) = t.map fun x => (x.1, lastI x.2) := by
 unfold lastR
 rw [List.map_map]
 refine List.map_congr_left fun x _ => ?_
 simp only [Function.comp]
 split <;> rfl
theorem links_map (t : List (Ent × List Int)) (n : Int) : linksE t n = (((t.map fun x => (x.1, lastI x.2)).filter fun y => decide (y.2 = n)).length : Nat) := by
 unfold linksE
 rw [List.filter_map, List.length_map]
 rfl
theorem links_lastR (t : List (Ent × List Int)) (sel : Ent → Bool) (rem : List Ent) (n : Int) : linksE (lastR t sel rem) n = linksE t n := by
 rw [links_map, links_map, lastR_last]
theorem now_lastR {t : List (Ent × List Int)} (hn : (t.map Prod.fst).Nodup) (sel : Ent → Bool) (rem : List Ent) {e : Ent} {l : List Int} (hm : (e, l) ∈ t) : nowE (lastR t sel rem) e = lastI l := by
 have h1 : (e, if sel e = true ∧ e ∉ rem then [lastI l] else l) ∈ lastR t sel rem := List.mem_map.2 ⟨_, hm, rfl⟩
 unfold nowE
 rw [fnd_mem (by rw [lastR_keys]; exact hn) h1]
 show lastI _ = _
 split <;> rfl
theorem lastR_yes {t : List (Ent × List Int)} (hn : (t.map Prod.fst).Nodup) {sel : Ent → Bool} {rem : List Ent} {e : Ent} {l : List Int} (hm : (e, l) ∈ t) (hs : sel e = true) : lastE (lastR t sel rem) e = lastR t sel (rem.filter fun y => !decide (y = e)) := by
 unfold lastE
 rw [now_lastR hn sel rem hm]
 unfold putA
 rw [if_pos (by rw [lastR_keys]; exact List.mem_map_of_mem hm)]
 unfold lastR
 rw [List.map_map]
 refine List.map_congr_left fun x hx => ?_
 simp only [Function.comp]
 by_cases hxe : x.1 = e
 ·have hxl : x.2 = l := by
   have e3 := fnd_mem hn hx
   have e4 := fnd_mem hn hm
   rw [hxe, e4] at e3
   exact (Option.some.inj e3).symm
  rw [if_pos hxe, if_pos ⟨by rw [hxe]; exact hs, by rw [List.mem_filter]; simp [hxe]⟩, hxe, hxl]
 ·rw [if_neg hxe]
  congr 1
  by_cases hr : x.1 ∈ rem
  ·rw [if_neg (fun h => h.2 hr), if_neg (fun h => h.2 (by rw [List.mem_filter]; exact ⟨hr, by simp [hxe]⟩))]
  ·by_cases hsx : sel x.1 = true
   ·rw [if_pos ⟨hsx, hr⟩, if_pos ⟨hsx, by rw [List.mem_filter]; exact fun h => hr h.1⟩]
   ·rw [if_neg (fun h => hsx h.1), if_neg (fun h => hsx h.1)]
theorem lastR_no {t : List (Ent × List Int)} {sel : Ent → Bool} {rem : List Ent} {e : Ent} (hs : sel e = false) : lastR t sel rem = lastR t sel (rem.filter fun y => !decide (y = e)) := by
 unfold lastR
 refine List.map_congr_left fun x _ => ?_
 congr 1
 by_cases hsx : sel x.1 = true
 ·have hxe : x.1 ≠ e := by rintro h; rw [h, hs] at hsx; cases hsx
  by_cases hr : x.1 ∈ rem
  ·rw [if_neg (fun h => h.2 hr), if_neg (fun h => h.2 (by rw [List.mem_filter]; exact ⟨hr, by simp [hxe]⟩))]
  ·rw [if_pos ⟨hsx, hr⟩, if_pos ⟨hsx, by rw [List.mem_filter]; exact fun h => hr h.1⟩]
 ·rw [if_neg (fun h => hsx h.1), if_neg (fun h => hsx h.1)]
structure MkR (t : List (Ent × List Int)) (sel : Ent → Bool) (rem : List Ent) (M0 M : List (Int × Mrk)) : Prop where
 yes : ∀ x ∈ t, sel x.1 = true → x.1 ∉ rem → lastI x.2 ≠ 0 → fnd M (lastI x.2) = some (true, true, linksE t (lastI x.2) == 1)
 no : ∀ n, (∀ x ∈ t, sel x.1 = true → x.1 ∉ rem → lastI x.2 ≠ 0 → lastI x.2 ≠ n) → fnd M n = fnd M0 n
theorem MkR.start (t : List (Ent × List Int)) (sel : Ent → Bool) (M0 : List (Int × Mrk)) : MkR t sel (t.map Prod.fst) M0 M0 :=
 ⟨fun x hx _ h => absurd (List.mem_map_of_mem hx) h, fun _ _ => rfl⟩
theorem MkR.skip {t : List (Ent × List Int)} {sel : Ent → Bool} {rem : List Ent} {M0 M : List (Int × Mrk)} (h : MkR t sel rem M0 M) {e : Ent} (hs : sel e = false) : MkR t sel (rem.filter fun y => !decide (y = e)) M0 M := by
 have key : ∀ x : Ent × List Int, sel x.1 = true → x.1 ∉ (rem.filter fun y => !decide (y = e)) → x.1 ∉ rem := by
  intro x h1 h2 h3
  refine h2 (List.mem_filter.2 ⟨h3, ?_⟩)
  have : x.1 ≠ e := by rintro h4; rw [h4, hs] at h1; cases h1
  simp [this]
 refine ⟨fun x hx h1 h2 h3 => h.yes x hx h1 (key x h1 h2) h3, fun n hn => h.no n fun x hx h1 h2 h3 => hn x hx h1 ?_ h3⟩
 exact fun h4 => h2 (List.mem_filter.1 h4).1
theorem MkR.step {t : List (Ent × List Int)} (hn : (t.map Prod.fst).Nodup) {sel : Ent → Bool} {rem : List Ent} {M0 M : List (Int × Mrk)} (h : MkR t sel rem M0 M) {e : Ent} {l : List Int} (hm : (e, l) ∈ t) (hs : sel e = true) : MkR t sel (rem.filter fun y => !decide (y = e)) M0 (markE (lastR t sel rem) M e) := by
 have hnow := now_lastR hn sel rem hm
 have hlk : linksE (lastE (lastR t sel rem) e) (lastI l) = linksE t (lastI l) := by rw [lastR_yes hn hm hs, links_lastR]
 have hxl : ∀ x ∈ t, x.1 = e → x.2 = l := by
  intro x hx he
  have e3 := fnd_mem hn hx
  have e4 := fnd_mem hn hm
  rw [he, e4] at e3
  exact (Option.some.inj e3).symm
 have key : ∀ x : Ent × List Int, x.1 ≠ e → x.1 ∉ (rem.filter fun y => !decide (y = e)) → x.1 ∉ rem := by
  intro x h1 h2 h3
  exact h2 (List.mem_filter.2 ⟨h3, by simp [h1]⟩)
 have hne : e ∉ rem.filter fun y => !decide (y = e) := by rw [List.mem_filter]; simp
 unfold markE
 rw [hnow]
 by_cases h0 : lastI l = 0
 ·rw [if_pos h0]
  refine ⟨fun x hx h1 h2 h3 => ?_, fun n hn' => h.no n fun x hx h1 h2 h3 => hn' x hx h1 (fun h4 => h2 (List.mem_filter.1 h4).1) h3⟩
  by_cases hxe : x.1 = e
  ·exact absurd (by rw [hxl x hx hxe]; exact h0) h3
  ·exact h.yes x hx h1 (key x hxe h2) h3
 ·rw [if_neg h0, hlk]
  refine ⟨fun x hx h1 h2 h3 => ?_, fun n hn' => ?_⟩
  ·rw [fnd_putA]
   by_cases hxn : lastI x.2 = lastI l
   ·rw [if_pos hxn, hxn]
   ·rw [if_neg hxn]
    exact h.yes x hx h1 (key x (fun he => hxn (by rw [hxl x hx he])) h2) h3
  ·rw [fnd_putA, if_neg (fun he => hn' (e, l) hm hs hne h0 he.symm)]
   exact h.no n fun x hx h1 h2 h3 => hn' x hx h1 (fun h4 => h2 (List.mem_filter.1 h4).1) h3
end Go.Proofs.YtmgpgbfgemebbaaGreatDoor
namespace Go.Proofs.YtmgpgbfgemebbaaGreatDoor
open Go.RowKit Go.Own
def FilPC : Option Nat → Fil → HP
 | some b, F => FilC b F
 | none, _ => fact False
abbrev FlX (b : Nat) (es : Array MapEntry) (clock : Nat) (Y : List (Int × Option Nat × Fil)) : HP := Mx kInt vPf b es clock (zH Y)
theorem FlX.pull {w : World} {L : List HP} {b clock : Nat} {es : Array MapEntry} {Y : List (Int × Option Nat × Fil)} (h : Has w (FlX b es clock Y :: (zC FilPC Y ++ L))) {n : Int} {F : Fil} (hm : fnd (zB Y) n = some F) :
  ∃ (bF : Nat) (Y0 : List (Int × Option Nat × Fil)), fnd (zH Y) n = some (some bF) ∧ (zC FilPC Y).Perm (FilC bF F :: zC FilPC Y0) ∧ (∀ F', ∃ Y', zB Y' = putA (zB Y) n F' ∧ zH Y' = putA (zH Y) n (some bF) ∧ (zC FilPC Y').Perm (FilC bF F' :: zC FilPC Y0)) := by
 have hnd : (Y.map Prod.fst).Nodup := by have h2 := Mk.nodup (Mx.mk h); rw [zH_keys] at h2; exact h2
 obtain ⟨Y0, hcase, hput⟩ := z_zip FilPC Y n hnd
 rcases hcase with ⟨h1, -, -⟩ | ⟨p, a, h1, h2, h3⟩
 ·rw [hm] at h1; cases h1
 ·rw [hm] at h1
  obtain rfl : F = a := Option.some.inj h1
  cases p with
  | none =>
   exfalso
   have h4 : Has w (fact False :: (zC FilPC Y0 ++ L)) := h.drop.perm (h3.append_right L)
   exact (Has.fact_iff.1 h4).1
  | some bF => exact ⟨bF, Y0, h2, h3, fun F' => hput (some bF) F'⟩
theorem putA_same {κ α : Type} [DecidableEq κ] (t : List (κ × α)) (k : κ) (a : α) (hn : (t.map Prod.fst).Nodup) (h : fnd t k = some a) : putA t k a = t := by
 unfold putA
 rw [if_pos (List.mem_map_of_mem (fnd_some h))]
 refine (List.map_congr_left fun x hx => ?_).trans (List.map_id _)
 by_cases hk : x.1 = k
 ·rw [if_pos hk]
  have e3 := fnd_mem hn hx
  rw [hk, h] at e3
  exact Prod.ext hk.symm (Option.some.inj e3)
 ·rw [if_neg hk]; rfl
end Go.Proofs.YtmgpgbfgemebbaaGreatDoor
namespace Go.Proofs.YtmgpgbfgemebbaaGreatDoor
open Go.RowKit Go.Own
def kindF (Y : List (Int × Fil)) (n : Int) : Int := ((fnd Y n).map Fil.kind).getD 0
def selA (t : List (Ent × List Int)) (Y : List (Int × Fil)) (way : List Int) (e : Ent) : Bool := decide (nowE t e ≠ 0) && decide (nowE t e ∈ way) && decide (kindF Y (nowE t e) = 2)
def selO (t : List (Ent × List Int)) (Y : List (Int × Fil)) : Option (List Int) → Ent → Bool
 | none => fun _ => false
 | some l => selA t Y l
theorem lastR_none (t : List (Ent × List Int)) (rem : List Ent) : lastR t (fun _ => false) rem = t := by
 unfold lastR
 refine (List.map_congr_left fun x _ => ?_).trans (List.map_id _)
 rw [if_neg (fun h => by cases h.1)]
 rfl
theorem MkR.none (t : List (Ent × List Int)) (rem : List Ent) (M : List (Int × Mrk)) : MkR t (fun _ => false) rem M M :=
 ⟨(fun _ _ h => by cases h), fun _ _ => rfl⟩
theorem lastR_mem {t : List (Ent × List Int)} {sel : Ent → Bool} {rem : List Ent} {e : Ent} {l : List Int} (hr : e ∈ rem) (hm : (e, l) ∈ lastR t sel rem) : (e, l) ∈ t := by
 obtain ⟨x, hx, he⟩ := List.mem_map.1 hm
 simp only [Prod.mk.injEq] at he
 obtain ⟨rfl, h2⟩ := he
 rw [if_neg (fun h => h.2 hr)] at h2
 subst h2
 exact hx
theorem rem_less {rem : List Ent} {e : Ent} (h : e ∈ rem) : (rem.filter fun y => !decide (y = e)).length < rem.length :=
 List.length_filter_lt_length_iff_exists.2 ⟨e, h, by simp⟩
theorem markE_len (t : List (Ent × List Int)) (M : List (Int × Mrk)) (e : Ent) : (markE t M e).length ≤ M.length + 1 := by
 unfold markE
 split
 ·omega
 ·unfold putA
  split
  ·rw [List.length_map]; omega
  ·rw [List.length_append]; simp
theorem lastR_len (t : List (Ent × List Int)) (sel : Ent → Bool) (rem : List Ent) : (lastR t sel rem).length = t.length := List.length_map ..
open Classical in
theorem pmV (A E M T I F : HP) (Z Y L : List HP) : (A :: E :: M :: (Z ++ (I :: T :: F :: (Y ++ L)))).Perm (I :: A :: E :: M :: (Z ++ (T :: F :: (Y ++ L)))) := by
 refine List.perm_iff_count.2 fun x => ?_
 simp only [List.count_append, List.count_cons] at *
 omega
open Classical in
theorem pmW (A E M T : HP) (Z R : List HP) : (A :: E :: M :: (Z ++ (T :: R))).Perm (T :: A :: E :: M :: (Z ++ R)) := by
 refine List.perm_iff_count.2 fun x => ?_
 simp only [List.count_append, List.count_cons] at *
 omega
open Classical in
theorem pmX (I T A E M F : HP) (Z R : List HP) : (I :: T :: A :: E :: M :: (Z ++ (F :: R))).Perm (A :: E :: M :: (Z ++ (I :: T :: F :: R))) := by
 refine List.perm_iff_count.2 fun x => ?_
 simp only [List.count_append, List.count_cons] at *
 omega
open Classical in
theorem pmN1 (G E I A M : HP) (Z R : List HP) : (G :: E :: I :: A :: M :: (Z ++ R)).Perm (A :: E :: (Z ++ (I :: G :: M :: R))) := by
 refine List.perm_iff_count.2 fun x => ?_
 simp only [List.count_append, List.count_cons] at *
 omega
open Classical in
theorem pmN2 (G E I A M : HP) (Z R : List HP) : (A :: E :: (Z ++ (I :: G :: M :: R))).Perm (E :: I :: A :: M :: G :: (Z ++ R)) := by
 refine List.perm_iff_count.2 fun x => ?_
 simp only [List.count_append, List.count_cons] at *
 omega
open Classical in
theorem pmY (G E I A M W T F : HP) (Z Y L : List HP) : (E :: I :: A :: M :: G :: (Z ++ (W :: T :: F :: (Y ++ L)))).Perm (F :: (Y ++ (A :: E :: I :: M :: G :: (Z ++ (W :: T :: L))))) := by
 refine List.perm_iff_count.2 fun x => ?_
 simp only [List.count_append, List.count_cons] at *
 omega
open Classical in
theorem pmJ (E I A M G : HP) (Z R : List HP) : (E :: I :: A :: M :: G :: (Z ++ R)).Perm (A :: E :: M :: ([I] ++ (Z ++ (G :: R)))) := by
 refine List.perm_iff_count.2 fun x => ?_
 simp only [List.count_append, List.count_cons, List.count_nil] at *
 omega
open Classical in
theorem pmI (E I A M G W : HP) (Z R : List HP) : (E :: I :: A :: M :: G :: (Z ++ (W :: R))).Perm (W :: E :: I :: A :: M :: G :: (Z ++ R)) := by
 refine List.perm_iff_count.2 fun x => ?_
 simp only [List.count_append, List.count_cons] at *
 omega
open Classical in
theorem pmZ (A E I M G C F : HP) (Z Y Y0 R : List HP) (h : Y.Perm (C :: Y0)) : (F :: (Y ++ (A :: E :: I :: M :: G :: (Z ++ R)))).Perm (C :: F :: A :: E :: I :: M :: G :: (Y0 ++ (Z ++ R))) := by
 refine List.perm_iff_count.2 fun x => ?_
 have e1 := h.count_eq x
 simp only [List.count_append, List.count_cons] at *
 omega
theorem _root_.Go.Own.Has.dropAt {w : World} {A E I M G : HP} {R : List HP} (h : Has w (E :: I :: A :: M :: G :: R)) : Has w (E :: I :: A :: M :: R) := h.re 5 [0, 1, 2, 3]
set_option maxRecDepth 100000 in
set_option maxHeartbeats 8000000 in
theorem mAbove (q t b bm bf clock clf : Nat) (es esf : Array MapEntry) (C : Array Value) (X : List (Ent × Slv × List Int)) (M : List (Int × Mrk)) (Y : List (Int × Option Nat × Fil)) (S : Tre) (rk : Int → Nat) (dir : Int) (w : World) (L : List HP) (hC0 : C[0]? = some (.pointer (some ⟨t, 0, none⟩))) (hC2 : C[2]? = some (.map (some bf))) (hC3 : C[3]? = some (.map (some bm))) (hC : C[4]? = some (.map (some b))) (hW : Wy S rk) (hd : (Lit.int .i64 dir).wf = true)
  (hE : ∀ x ∈ zB X, okEnt x.1 ∧ (Lit.int .i64 (lastI x.2)).wf = true ∧ (lastI x.2 ≠ 0 → ∃ F, fnd (zB Y) (lastI x.2) = some F)) (hl : X.length ≤ 400000) (hml : M.length ≤ 400000) (hO : Has w (pt q (.cells C 142) :: EtX b es clock X :: Mk kInt vMrk bm M :: (zC EntC X ++ (Trc t S :: FlX bf esf clf Y :: (zC FilPC Y ++ L))))) :
  Calls Tryz.prog 168 #[.pointer (some ⟨q, 0, none⟩), .int .i64 dir] w fun e' w' => e' = .returned (.tuple #[]) ∧ (∃ es' clock' X' M', zB X' = lastR (zB X) (selO (zB X) (zB Y) (S.dway dir)) [] ∧ MkR (zB X) (selO (zB X) (zB Y) (S.dway dir)) [] M M' ∧ M'.length ≤ M.length + X.length ∧ Has w' (pt q (.cells C 142) :: EtX b es' clock' X' :: Mk kInt vMrk bm M' :: (zC EntC X' ++ (Trc t S :: FlX bf esf clf Y :: (zC FilPC Y ++ L))))) ∧ Keep w w' := by
 have HC2 := hid (fun (w : World) (L' : List HP) (h : Has w (pt q (.cells C 142) :: L')) => (show w.cell? ⟨q, 2, none⟩ = some (.map (some bf)) from (h.cells 2).trans hC2))
 have HC3 := hid hC3
 have HCC := hid hC
 have hq0 : w.cell? ⟨q, 0, none⟩ = some (.pointer (some ⟨t, 0, none⟩)) := (hO.cells 0).trans hC0
 have HND := hid (show (X.map Prod.fst).Nodup from by have h2 := Mk.nodup (Mx.mk hO.drop); rw [zH_keys] at h2; exact h2)
 have HE := hid hE
 have HL := hid hl
 have HML := hid hml
 obtain ⟨m, f, P, hPT, hO1⟩ := trc_iff.1 (hO.perm (pmW _ _ _ _ _ _))
 have HPT := hid hPT
 have HWY := hid (mDway t m f P S rk dir w _ hW hd hPT hO1)
 have HC4 := hid (fun (w : World) (L' : List HP) (h : Has w (pt q (.cells C 142) :: L')) => (show w.cell? ⟨q, 4, none⟩ = some (.map (some b)) from (h.cells 4).trans hC))
 clear hO hC hC0 hC2 hC3 hE hl hml hPT hO1 hW hd
 go_enter Tryz.func168, Tryz.ntmps168
 go_wp2_with fail
 refine HWY.out.mono ?_
 rintro e w2 ⟨v, rfl, h2, k2⟩
 have HO2 := hid (show Has w2 (Ints v ((S.dway dir).getD []) :: Trc t S :: pt q (.cells C 142) :: EtX b es clock X :: Mk kInt vMrk bm M :: (zC EntC X ++ (FlX bf esf clf Y :: (zC FilPC Y ++ L)))) from (show Has w2 (Trc t S :: Ints v ((S.dway dir).getD []) :: pt q (.cells C 142) :: EtX b es clock X :: Mk kInt vMrk bm M :: (zC EntC X ++ (FlX bf esf clf Y :: (zC FilPC Y ++ L)))) from trc_iff.2 ⟨m, f, P, HPT.out, h2.p1⟩).p1)
 have HK2 := hid k2
 clear h2 k2 hq0 HWY HPT
 try dsimp only
 obtain ⟨dw, hdw⟩ : ∃ dw, S.dway dir = dw := ⟨_, rfl⟩
 rw [hdw] at HO2 ⊢
 have HDW := hid hdw
 have HWL := hid (show ∀ l, dw = some l → l.length ≤ 1000000 from fun l h => by have := dirs_len S 21 dir l (hdw.trans h); omega)
 clear hdw
 rcases dw with _ | way
 ·have HO3 := hid (show Has w2 (pt q (.cells C 142) :: EtX b es clock X :: Mk kInt vMrk bm M :: (zC EntC X ++ (Trc t S :: FlX bf esf clf Y :: (zC FilPC Y ++ L)))) from (HO2.out.drop).perm (pmW _ _ _ _ _ _).symm)
  clear HO2
  dsimp only [Option.isSome]
  go_wp2_with fail
  refine bodyPost_ret (results_none rfl _ _ _) rfl ?_
  rw [HDW.out]
  exact ⟨rfl, ⟨es, clock, X, M, (lastR_none _ _).symm, MkR.none _ _ _, by omega, HO3.out⟩, HK2.out⟩
 ·dsimp only [Option.isSome, Option.getD, selO] at HO2 ⊢
  have HO3 := hid (show Has w2 (pt q (.cells C 142) :: EtX b es clock X :: Mk kInt vMrk bm M :: (zC EntC X ++ (Ints v way :: Trc t S :: FlX bf esf clf Y :: (zC FilPC Y ++ L)))) from HO2.out.perm (pmX _ _ _ _ _ _ _ _))
  clear HO2
  have hq4 := HC4.out _ _ HO3.out
  go_wp2_with (at_range; refine wpList_mxStart HO3.out.p1 tEm undEm rfl _ rfl rfl ?_; intro w4 hO4 hK4 hs4)
  try go_frame
  have HO4 := hid hO4
  have HK4 := hid (HK2.out.trans hK4)
  clear hO4 hK4 hs4 hq4 HO3 HK2
  generalize w2.heap.size = r at *
  generalize hr0 : (zH X).map Prod.fst = rem0 at *
  have HB0 := hid (show zB X = lastR (zB X) (selA (zB X) (zB Y) way) rem0 from by rw [← hr0, zH_keys, ← zB_keys, lastR_all])
  have HM0 := hid (show MkR (zB X) (selA (zB X) (zB Y) way) rem0 M M from by rw [← hr0, zH_keys, ← zB_keys]; exact MkR.start _ _ _)
  have HR0 := hid (show M.length + rem0.length ≤ M.length + X.length from by rw [← hr0, zH_keys, List.length_map]; exact Nat.le_refl _)
  clear hr0
  generalize (zH X).length = cnt0 at *
  go_loopw [] (fun w' => ∃ (es1 : Array MapEntry) (cl1 : Nat) (X1 : List (Ent × Slv × List Int)) (M1 : List (Int × Mrk)) (rem : List Ent) (cnt : Nat), Hid (zB X1 = lastR (zB X) (selA (zB X) (zB Y) way) rem) ∧ Hid (MkR (zB X) (selA (zB X) (zB Y) way) rem M M1) ∧ Hid (M1.length + rem.length ≤ M.length + X.length) ∧ Hid (Has w' (EtX b es1 cl1 X1 :: It kEnt vSI b r es1 cl1 rem cnt :: pt q (.cells C 142) :: Mk kInt vMrk bm M1 :: (zC EntC X1 ++ (Ints v way :: Trc t S :: FlX bf esf clf Y :: (zC FilPC Y ++ L))))) ∧ Hid (Keep w w')) (fun w' => w'.rangeLeft b r)
  case atStart => exact ⟨es, clock, X, M, rem0, cnt0, HB0, HM0, HR0, HO4, HK4⟩
  case round =>
   clear HO4 HK4 HB0 HM0 HR0
   obtain ⟨es1, cl1, X1, M1, rem, cnt, HB, HM, HMR, HO, HK⟩ := hrel
   have hleft := Mx.left HO.out
   have HLF := hid hleft
   go_wp2_with (at_next; refine wpList_mxNext HO.out rfl _ rfl rfl ?_ ?_)
   ·intro hrem
    subst hrem
    have HO5 := hid (show Has _ (pt q (.cells C 142) :: EtX b es1 cl1 X1 :: Mk kInt vMrk bm M1 :: (zC EntC X1 ++ (Ints v way :: Trc t S :: FlX bf esf clf Y :: (zC FilPC Y ++ L)))) from HO.out.re 4 [2, 0, 3])
    clear HO hleft
    go_wp2_with fail
    go_end0
    rw [HDW.out]
    exact ⟨rfl, ⟨es1, cl1, X1, M1, HB.out, HM.out, HMR.out, (HO5.out.perm (pmV _ _ _ _ _ _ _ _ _)).drop⟩, HK.out⟩
   ·rintro d p s w5 cnt' hp hr hky hO5 hlt5 hK5 hsz hen
    obtain ⟨⟨e', s', l⟩, hpX, he⟩ := List.mem_map.1 hp
    simp only [Prod.mk.injEq] at he
    obtain ⟨rfl, rfl⟩ := he
    simp only [kEnt_val, vSI_val] at hen ⊢
    have hmB : ((d, p), l) ∈ zB X1 := List.mem_map.2 ⟨_, hpX, rfl⟩
    have hmT : ((d, p), l) ∈ zB X := lastR_mem hr (by rw [← HB.out]; exact hmB)
    have hnb : ((zB X).map Prod.fst).Nodup := by rw [zB_keys]; exact HND.out
    have hx1 : (X1.map Prod.fst) = X.map Prod.fst := by rw [← zB_keys, HB.out, lastR_keys, zB_keys]
    have hnow : nowE (zB X1) (d, p) = lastI l := by rw [HB.out]; exact now_lastR hnb _ _ hmT
    have hnow0 : nowE (zB X) (d, p) = lastI l := by unfold nowE; rw [fnd_mem hnb hmT]; rfl
    have HNOW := hid hnow
    have HNOW0 := hid hnow0
    have HMT := hid hmT
    have HNB := hid hnb
    have HIN := hid (show (d, p) ∈ X1.map Prod.fst from by rw [hx1, ← zB_keys]; exact List.mem_map_of_mem hmT)
    have HXL := hid (show X1.length < 1000000 from by
     have e1 := congrArg List.length hx1
     rw [List.length_map, List.length_map] at e1
     have := HL.out
     omega)
    have HRL := hid (rem_less hr)
    obtain ⟨-, hwf, hfil⟩ := HE.out _ hmT
    have HWF := hid hwf
    have HFL := hid hfil
    have HO6 := hid (hO5.alloc (.cells #[.int .i64 d, sV p] 144))
    have HK6 := hid ((HK.out.trans hK5).alloc (.cells #[.int .i64 d, sV p] 144))
    have HKY := hid hky
    have HL5 := hid hlt5
    clear hp hr hky hO5 hlt5 hK5 hsz hpX hleft HO HK hmB hmT hnb hnow hnow0 hx1 hwf hfil
    go_upto_region 5 with fail
    generalize w5.alloc (.cells #[.int .i64 d, sV p] 144) = w6 at *
    generalize w5.heap.size = g at *
    have hx0 : w6.cell? ⟨g, 0, none⟩ = some (.int .i64 d) := HO6.out.cells 0
    have hx1 : w6.cell? ⟨g, 1, none⟩ = some (sV p) := HO6.out.cells 1
    have HN := hid (mNowX q b cl1 es1 C X1 (d, p) w6 (It kEnt vSI b r es1 cl1 (rem.filter fun y => !decide (y = (d, p))) cnt' :: pt g (.cells #[.int .i64 d, sV p] 144) :: Mk kInt vMrk bm M1 :: (Ints v way :: Trc t S :: FlX bf esf clf Y :: (zC FilPC Y ++ L))) HCC.out HKY.out (HO6.out.perm (pmN1 _ _ _ _ _ _ _)))
    go_wp2_with fail
    refine HN.out.mono ?_
    rintro e w7 ⟨rfl, h7, k7⟩
    have HO7 := hid (show Has w7 (EtX b es1 cl1 X1 :: It kEnt vSI b r es1 cl1 (rem.filter fun y => !decide (y = (d, p))) cnt' :: pt q (.cells C 142) :: Mk kInt vMrk bm M1 :: pt g (.cells #[.int .i64 d, sV p] 144) :: (zC EntC X1 ++ (Ints v way :: Trc t S :: FlX bf esf clf Y :: (zC FilPC Y ++ L)))) from h7.perm (pmN2 _ _ _ _ _ _ _))
    have HK7 := hid (HK6.out.trans k7)
    clear h7 k7 HN HO6 HK6 hx0 hx1
    try dsimp only
    rw [HNOW.out]
    have HSEL := hid (show selA (zB X) (zB Y) way (d, p) = (decide (lastI l ≠ 0) && decide (lastI l ∈ way) && decide (kindF (zB Y) (lastI l) = 2)) from by unfold selA; rw [HNOW0.out])
    have hleft := Mx.left HO7.out
    obtain ⟨z, hz⟩ : ∃ z, lastI l = z := ⟨_, rfl⟩
    rw [hz] at HNOW HNOW0 HWF HFL HSEL ⊢
    have HZ := hid hz
    clear hz
    by_cases h0 : z = 0
    ·have hqb : (z != 0) = false := by simp [h0]
     have HS0 := hid (show selA (zB X) (zB Y) way (d, p) = false from by rw [HSEL.out, decide_eq_false (fun h => h h0)]; rfl)
     clear h0
     go_wp2_with fail
     exact ⟨⟨es1, cl1, X1, M1, _, cnt', hid (HB.out.trans (lastR_no HS0.out)), hid (HM.out.skip HS0.out), hid (by have := HMR.out; have := HRL.out; omega), hid HO7.out.dropAt, HK7⟩, by rw [hleft, HLF.out]; exact HL5.out⟩
    ·have hqb : (z != 0) = true := by simp [h0]
     have hqc : (z == 0) = false := by simp [h0]
     obtain ⟨F, hF⟩ := HFL.out h0
     clear h0
     have h1 : Has w7 (FlX bf esf clf Y :: (zC FilPC Y ++ (pt q (.cells C 142) :: EtX b es1 cl1 X1 :: It kEnt vSI b r es1 cl1 (rem.filter fun y => !decide (y = (d, p))) cnt' :: Mk kInt vMrk bm M1 :: pt g (.cells #[.int .i64 d, sV p] 144) :: (zC EntC X1 ++ (Ints v way :: Trc t S :: L))))) := HO7.out.perm (pmY _ _ _ _ _ _ _ _ _ _ _)
     obtain ⟨bF, Y0, hH, hP, -⟩ := FlX.pull h1 hF
     have hlk := Mk.look0 (Mx.mk h1) undFm HWF.out
     rw [hH] at hlk
     have hlk2 : (Instr.lookup tFm (.map (some bf)) (.int .i64 z) false).run Tryz.prog w7 = .ok (.pointer (some ⟨bF, 0, none⟩)) w7 := hlk
     obtain ⟨sv, mb, h3⟩ := filC_iff.1 (h1.perm (pmZ _ _ _ _ _ _ _ _ _ _ _ hP))
     have hkc := h3.cells 0
     have hkc : w7.cell? ⟨bF, 0, none⟩ = some (.int .i64 F.kind) := hkc
     have HKF := hid (show kindF (zB Y) z = F.kind from by unfold kindF; rw [hF]; rfl)
     have hq2 : w7.cell? ⟨q, 2, none⟩ = some (.map (some bf)) := HC2.out _ _ HO7.out.p2
     have hx0 : w7.cell? ⟨g, 0, none⟩ = some (.int .i64 d) := HO7.out.p4.cells 0
     have hx1 : w7.cell? ⟨g, 1, none⟩ = some (sV p) := HO7.out.p4.cells 1
     have hIv : Has w7 (Ints v way :: _) := HO7.out.perm (pmI _ _ _ _ _ _ _ _)
     have HCT := hid (mContainsI v way z w7 (Ints.rd hIv) (HWL.out _ rfl))
     clear h1 hH hP hlk h3 hF hIv
     by_cases hw : z ∈ way
     ·have HDC := hid (show ∀ inst : Decidable (z ∈ way), @decide _ inst = true from fun _ => decide_eq_true hw)
      by_cases hk2 : F.kind = 2
      ·have HS1 := hid (show selA (zB X) (zB Y) way (d, p) = true from by rw [HSEL.out, HKF.out, decide_eq_true hw, decide_eq_true hk2, decide_eq_true (by simpa using hqc)]; rfl)
       have hkb : (F.kind == 2) = true := by simp [hk2]
       clear hw hk2
       go_wp2_with fail
       refine HCT.out.mono ?_
       rintro e w' ⟨rfl, rfl⟩
       rw [HDC.out]
       try dsimp only
       have HLS := hid (mLast q b bm cl1 es1 C X1 M1 (d, p) (some (r, rem.filter fun y => !decide (y = (d, p)), cnt')) w7 (pt g (.cells #[.int .i64 d, sV p] 144) :: (Ints v way :: Trc t S :: FlX bf esf clf Y :: (zC FilPC Y ++ L))) HC3.out HCC.out HKY.out HIN.out HXL.out (by have := HMR.out; have := HML.out; have := HL.out; omega) (by rw [HNOW.out]; exact HWF.out) (HO7.out.perm (pmJ _ _ _ _ _ _ _)))
       go_wp2_with fail
       refine HLS.out.mono ?_
       rintro e w8 ⟨rfl, ⟨es2, cl2, X2, hB2, h8⟩, k8⟩
       have HB2 := hid (show zB X2 = lastR (zB X) (selA (zB X) (zB Y) way) (rem.filter fun y => !decide (y = (d, p))) from by rw [hB2, HB.out]; exact lastR_yes HNB.out HMT.out HS1.out)
       have HM2 := hid (show MkR (zB X) (selA (zB X) (zB Y) way) (rem.filter fun y => !decide (y = (d, p))) M (markE (zB X1) M1 (d, p)) from by rw [HB.out]; exact HM.out.step HNB.out HMT.out HS1.out)
       have HO8 := hid (show Has w8 (EtX b es2 cl2 X2 :: It kEnt vSI b r es2 cl2 (rem.filter fun y => !decide (y = (d, p))) cnt' :: pt q (.cells C 142) :: Mk kInt vMrk bm (markE (zB X1) M1 (d, p)) :: pt g (.cells #[.int .i64 d, sV p] 144) :: (zC EntC X2 ++ (Ints v way :: Trc t S :: FlX bf esf clf Y :: (zC FilPC Y ++ L)))) from h8.perm (pmJ _ _ _ _ _ _ _).symm)
       have HK8 := hid (HK7.out.trans k8)
       have hleft8 := Mx.left HO8.out
       clear hB2 h8 k8 HO7 HK7 HLS HCT hleft
       try dsimp only
       go_wp2_with fail
       exact ⟨⟨es2, cl2, X2, _, _, cnt', HB2, HM2, hid (by have := HMR.out; have := HRL.out; have := markE_len (zB X1) M1 (d, p); omega), hid HO8.out.dropAt, HK8⟩, by rw [hleft8, HLF.out]; exact HL5.out⟩
      ·have HS0 := hid (show selA (zB X) (zB Y) way (d, p) = false from by rw [HSEL.out, HKF.out, decide_eq_false hk2, Bool.and_false])
       have hkb : (F.kind == 2) = false := by simp [hk2]
       clear hw hk2
       go_wp2_with fail
       refine HCT.out.mono ?_
       rintro e w' ⟨rfl, rfl⟩
       rw [HDC.out]
       try dsimp only
       go_wp2_with fail
       exact ⟨⟨es1, cl1, X1, M1, _, cnt', hid (HB.out.trans (lastR_no HS0.out)), hid (HM.out.skip HS0.out), hid (by have := HMR.out; have := HRL.out; omega), hid HO7.out.dropAt, HK7⟩, by rw [hleft, HLF.out]; exact HL5.out⟩
     ·have HS0 := hid (show selA (zB X) (zB Y) way (d, p) = false from by rw [HSEL.out, decide_eq_false hw, Bool.and_false]; rfl)
      have HDC := hid (show ∀ inst : Decidable (z ∈ way), @decide _ inst = false from fun _ => decide_eq_false hw)
      clear hw
      go_wp2_with fail
      refine HCT.out.mono ?_
      rintro e w' ⟨rfl, rfl⟩
      rw [HDC.out]
      try dsimp only
      go_wp2_with fail
      exact ⟨⟨es1, cl1, X1, M1, _, cnt', hid (HB.out.trans (lastR_no HS0.out)), hid (HM.out.skip HS0.out), hid (by have := HMR.out; have := HRL.out; omega), hid HO7.out.dropAt, HK7⟩, by rw [hleft, HLF.out]; exact HL5.out⟩
end Go.Proofs.YtmgpgbfgemebbaaGreatDoor
namespace Go.Own
open Go.RowKit
theorem wpList_loadC {P : Program} {ops : Array Oper} {rest : List Oper} {o : Oper} {a : Act} {Q : Exit → Act → World → Prop} {w : World} (hgd : o.guard = none) (t : TypeId) (x : Operand) (ho : o.op = .load t x) (v u : Value) (hx : a.eval x = v)
  (hl : (Instr.loadAt t v).run P w = .ok u w) (h : wpList P ops Q rest (a.put o.dst u) w) : wpList P ops Q (o :: rest) a w := by
 refine wpList_plain hgd fun K hK => ?_
 unfold Oper.wp execOp
 simp only [ho, Sem.run_bind, Sem.run_pure, Result.andThen_ok, hx, hl]
 exact hK _ _ h
section
variable {P : Program} {k e : TypeId} {κ α : Type} [DecidableEq κ] {K : Ky P k κ} {V : El P e α} {D : DataW Unit} {t t' : List (κ × α)} {w : World} {L : List HP} {b : Nat}
omit [DecidableEq κ] in
theorem AlK.perm (h : AlK K V D t) (hp : t.Perm t') : AlK K V D t' where
 tidy := h.tidy
 nodup := (hp.map Prod.fst).nodup h.nodup
 size := h.size.trans hp.length_eq
 ok := fun p hm => h.ok p (hp.mem_iff.2 hm)
 yes := fun p hm => h.yes p (hp.mem_iff.2 hm)
 no := fun x hx => h.no x fun hm => hx ((hp.map Prod.fst).mem_iff.1 hm)
omit [DecidableEq κ] in
theorem Mk.perm (h : Has w (Mk K V b t :: L)) (hp : t.Perm t') : Has w (Mk K V b t' :: L) := by
 obtain ⟨D, h1, h2⟩ := Mk.iff.1 h
 exact Mk.iff.2 ⟨D, h1.perm hp, h2⟩
end
end Go.Own
namespace Go.Proofs.YtmgpgbfgemebbaaGreatDoor
open Go.RowKit Go.Own
theorem perm_of_map {α β : Type} (f : α → β) : ∀ (m : List β) (l : List α), (l.map f).Perm m → ∃ l' : List α, l'.Perm l ∧ l'.map f = m
 | [], l, h => by
  have : l = [] := by simpa using h.eq_nil
  exact ⟨[], by rw [this], rfl⟩
 | b :: m, l, h => by
  have hb : b ∈ l.map f := h.mem_iff.2 List.mem_cons_self
  obtain ⟨a, ha, rfl⟩ := List.mem_map.1 hb
  obtain ⟨A, B, rfl⟩ := List.append_of_mem ha
  have h1 : ((A ++ B).map f).Perm m := by
   rw [List.map_append, List.map_cons] at h
   rw [List.map_append]
   exact (List.perm_cons (f a)).1 (List.perm_middle.symm.trans h)
  obtain ⟨l', h2, h3⟩ := perm_of_map f m (A ++ B) h1
  exact ⟨a :: l', (h2.cons a).trans List.perm_middle.symm, by rw [List.map_cons, h3]⟩
section
variable {w : World} {L : List HP} {q m f : Nat} {P : List Pn} {S : Tre}
theorem trc_perm (hp : (pnN P).Perm S.nodes) (h16 : S.tab.length = 16) (h : Has w (Trb q m f P S.last S.tab :: L)) : Has w (Trc q S :: L) := by
 obtain ⟨P', h1, h2⟩ := perm_of_map (fun p : Pn => (p.1, p.2.2)) S.nodes P hp
 refine trc_iff.2 ⟨m, f, P', ⟨h2, h16⟩, trb_iff.2 ?_⟩
 have h3 := (trb_iff.1 h).re 2 [1, 0]
 have h4 : Has w (Mk kInt vPtr m (pnB P') :: _) := Mk.perm h3 (show (pnB P).Perm (pnB P') from (h1.symm.map _))
 refine (h4.re 2 [1, 0]).perm (.cons _ (.cons _ (.cons _ ?_)))
 exact List.Perm.append_right _ (h1.symm.map _)
end
set_option maxRecDepth 100000 in
theorem mapsCloneY (b : Nat) (t : List (Str × Int)) (w : World) (L : List HP) (hO : Has w (Mk kStr vInt b t :: L)) :
  Calls Tryz.prog 92 #[.map (some b)] w fun e w' => e = .returned (.map (some w.heap.size)) ∧ Has w' (Mk kStr vInt w.heap.size t :: Mk kStr vInt b t :: L) ∧ Keep w w' := by
 obtain ⟨D, h1, h2⟩ := Mk.iff.1 hO
 obtain ⟨es, clock, hF, h3⟩ := Mp.iff.1 h2
 have hb : w.heap[b]? = some (.map es clock) := h3.lookup
 have hq := fun w => run_eql_map_nil_sl (P := Tryz.prog) w 79 _ _ (some b) undNm
 have HF := hid (show Has (w.alloc (.map es clock)) (Mk kStr vInt w.heap.size t :: Mk kStr vInt b t :: L) from by
  have h4 := Mk.iff.2 ⟨D, h1, Mp.iff.2 ⟨es, clock, hF, h3.alloc (.map es clock)⟩⟩
  exact (Mk.iff.2 ⟨D, h1, Mp.iff.2 ⟨es, clock, hF, h4.re 2 [1, 0]⟩⟩ : Has _ (Mk kStr vInt b t :: _)).re 2 [1, 0])
 have HK := hid ((Keep.refl w).alloc (.map es clock))
 clear hO h1 h2 h3 hF
 go_enter Tryz.func92, Tryz.ntmps92
 go_wp2
 rw [run_callFunc_extern Tryz.func154 (by kernel_rfl) (by kernel_rfl) (by kernel_rfl) (e := Extern.MapsClone.clone) (by kernel_rfl), run_maps_clone_sl w 79 hb]
 simp only [Result.andThen]
 rw [Oper.upon_value]
 go_wp2
 rw [run_typeAssert_map_sl _ 79 20 _ _ _ undNm]
 simp only [Result.andThen]
 rw [Oper.upon_value]
 go_wp2
 go_ret
 exact ⟨rfl, HF.out, HK.out⟩
set_option maxRecDepth 100000 in
theorem mapsCloneN (nm : Option Nat) (t : List (Str × Int)) (w : World) (L : List HP) (hO : Has w (Nms nm t :: L)) :
  Calls Tryz.prog 92 #[.map nm] w fun e w' => ∃ nm' : Option Nat, e = .returned (.map nm') ∧ (∀ m, nm = some m → ∃ m', nm' = some m') ∧ Has w' (Nms nm' t :: Nms nm t :: L) ∧ Keep w w' := by
 cases nm with
 | some m =>
  refine (mapsCloneY m t w L hO).mono ?_
  rintro e w' ⟨rfl, h1, h2⟩
  exact ⟨_, rfl, fun m' _ => ⟨_, rfl⟩, h1, h2⟩
 | none =>
  have hq := fun w => run_eql_map_nil_sl (P := Tryz.prog) w 79 _ _ none undNm
  have HF := hid (show Has w (Nms none t :: Nms none t :: L) from by
   have ht : t = [] := (Has.fact_iff.1 hO).1
   exact Has.fact_iff.2 ⟨ht, hO⟩)
  clear hO
  go_enter Tryz.func92, Tryz.ntmps92
  go_wp2
  go_ret
  exact ⟨none, rfl, fun m h => (by cases h), HF.out, Keep.refl _⟩
theorem cloneBytesN (v : Value) (xs : List Int) (w : World) (L : List HP) (hO : Has w L) (hr : Rd w v 1 xs.length (bc xs)) (hsm : xs.length ≤ 1000000000) :
  Calls Tryz.prog 87 #[v] w fun e w' => ∃ v', e = .returned v' ∧ nilS v' = nilS v ∧ Has w' (Bytes v' xs :: L) ∧ Keep w w' :=
 (cloneBytes v xs w L hO hr hsm).mono fun _ _ ⟨v', h1, h2, h3, h4⟩ => ⟨v', h1, h4, h2, h3⟩
theorem dat_clone {w : World} {L : List HP} {k : Int} {v dv : Value} {xs : List Int} (hn : nilS v = nilS dv) (hd : k = 3 → nilS dv = false) (h : Has w (Bytes v xs :: L)) : Has w (Dat k v xs :: L) := by
 by_cases hk : k = 3
 ·unfold Dat
  rw [if_pos hk]
  obtain ⟨hl, ⟨rfl, -⟩ | ⟨g, cap, cur, rfl, h1, h2, h3, h4, h5⟩⟩ := h.row_cases
  ·have := hd hk
   rw [← hn] at this
   cases this
  ·rw [Nat.mul_one] at h4
   exact frz_iff.2 ⟨g, cap, cur, _, ⟨rfl, h1, by omega, h4⟩, h5⟩
 ·rw [dat_ne hk]
  exact h
theorem dat_nil {w : World} {L : List HP} {k : Int} {dv : Value} {xs : List Int} (h : Has w (Dat k dv xs :: L)) : k = 3 → nilS dv = false := by
 intro hk
 unfold Dat at h
 rw [if_pos hk] at h
 obtain ⟨g, cap, cur, sp, ⟨rfl, -⟩, -⟩ := frz_iff.1 h
 rfl
theorem loadTab (T : List Tb.Slot) (hT : T.length = 16) (g : Nat) (w : World) (h : ∀ i, w.cell? ⟨g, i, none⟩ = (Tb.cells T)[i]?) : (Instr.loadAt 127 (.pointer (some ⟨g, 0, none⟩))).run Tryz.prog w = .ok (.agg (Tb.cells T)) w := by
 have hs : (Tb.cells T).size = 64 := by have := Tb.encs_len T; simp [Tb.cells, this, hT]
 have e := run_loadCells_list (P := Tryz.prog) w ⟨g, 0, none⟩ (Tb.cells T).toList (fun j v hj => by rw [add_plain, Nat.zero_add, h j]; simpa using hj)
 simp only [Array.length_toList, hs, Array.toArray_toList] at e
 simp [Instr.loadAt, Instr.sureAddr, loadVar, e]
theorem slots_one (T : List Tb.Slot) : ∀ v ∈ (Tb.cells T).toList, v.oneCell' = true := by
 intro v hv
 simp only [Tb.cells, List.toList_toArray] at hv
 induction T with
 | nil => cases hv
 | cons s T ih =>
  rw [Tb.encs] at hv
  rcases List.mem_append.1 hv with hv | hv
  ·simp only [Tb.Slot.enc, List.mem_cons, List.not_mem_nil, or_false] at hv
   rcases hv with rfl | rfl | rfl | rfl <;> rfl
  ·exact ih hv
def zTab : Array Value := Tb.cells (List.replicate 16 Tb.none4)
theorem zTab_zero (w : World) : (zeroValue 127).run Tryz.prog w = .ok (.agg zTab) w := by unfold zTab; kernel_rfl
theorem tab_size (T : List Tb.Slot) (hT : T.length = 16) : (Tb.cells T).size = 64 := by have := Tb.encs_len T; simp [Tb.cells, this, hT]
theorem zTab_size : zTab.size = 64 := tab_size _ (by simp)
theorem whole_tab (T : List Tb.Slot) (hT : T.length = 16) : (zTab.toList.take 0 ++ (Tb.cells T).toList ++ zTab.toList.drop (0 + (Tb.cells T).size)).toArray = Tb.cells T := by
 rw [List.take_zero, List.nil_append, List.drop_of_length_le (by rw [tab_size T hT, Array.length_toList, zTab_size]; exact Nat.le_refl _), List.append_nil, Array.toArray_toList]
def passed (P : List Pn) (rem : List Int) : List (Int × Nod) := (pnN P).filter fun e => !decide (e.1 ∈ rem)
theorem passed_none (P : List Pn) (rem : List Int) (h : ∀ p ∈ P, p.1 ∈ rem) : passed P rem = [] := by
 unfold passed
 rw [List.filter_eq_nil_iff]
 intro e he
 obtain ⟨p, hp, rfl⟩ := List.mem_map.1 he
 simp [h p hp]
theorem passed_all (P : List Pn) : passed P [] = pnN P := by
 unfold passed
 rw [List.filter_eq_self]
 intro e _
 simp
theorem passed_step {P1 P2 : List Pn} {rem : List Int} {n : Int} {b : Nat} {x : Nod} (hd : ((P1 ++ (n, b, x) :: P2).map Prod.fst).Nodup) (hr : n ∈ rem) : (passed (P1 ++ (n, b, x) :: P2) (rem.filter fun y => !decide (y = n))).Perm (passed (P1 ++ (n, b, x) :: P2) rem ++ [(n, x)]) := by
 unfold passed
 have hE : ∀ l : List Pn, n ∉ l.map Prod.fst → (pnN l).filter (fun e => !decide (e.1 ∈ rem.filter fun y => !decide (y = n))) = (pnN l).filter fun e => !decide (e.1 ∈ rem) := by
  intro l hl
  refine List.filter_congr fun e he => ?_
  obtain ⟨p, hp, rfl⟩ := List.mem_map.1 he
  have hne : p.1 ≠ n := fun e => hl (e ▸ List.mem_map_of_mem hp)
  simp [hne]
 simp only [List.map_append, List.map_cons] at hd
 have h1 := List.nodup_append.1 hd
 have hn1 : n ∉ P1.map Prod.fst := fun hm => h1.2.2 n hm n (by simp) rfl
 have hn2 : n ∉ P2.map Prod.fst := (List.nodup_cons.1 h1.2.1).1
 have e : ∀ f, (pnN (P1 ++ (n, b, x) :: P2)).filter f = (pnN P1).filter f ++ ([(n, x)] : List (Int × Nod)).filter f ++ (pnN P2).filter f := by
  intro f
  simp [pnN, List.filter_append, List.filter_cons]
  split <;> simp
 rw [e, e, hE P1 hn1, hE P2 hn2]
 rw [List.filter_cons_of_pos (by simp), List.filter_cons_of_neg (by simp [hr])]
 simp only [List.filter_nil, List.append_nil]
 rw [List.append_assoc, List.append_assoc]
 exact (List.perm_append_comm (l₁ := [(n, x)])).append_left _
theorem pull_at {w : World} {M : List HP} {A : List HP} {P1 P2 : List Pn} {p : Pn} : Has w (A ++ (pnC (P1 ++ p :: P2) ++ M)) ↔ Has w (Ndc p.2.1 p.2.2 :: (A ++ (pnC (P1 ++ P2) ++ M))) := by
 have h1 : (pnC (P1 ++ p :: P2) ++ M).Perm (Ndc p.2.1 p.2.2 :: (pnC (P1 ++ P2) ++ M)) := by
  unfold pnC
  rw [List.map_append, List.map_cons, List.map_append]
  simp only [List.append_assoc, List.cons_append]
  exact List.perm_middle
 have e : (A ++ (pnC (P1 ++ p :: P2) ++ M)).Perm (Ndc p.2.1 p.2.2 :: (A ++ (pnC (P1 ++ P2) ++ M))) := (h1.append_left A).trans List.perm_middle
 exact ⟨fun h => h.perm e, fun h => h.perm e.symm⟩
theorem push_end {w : World} {M : List HP} {A : List HP} {P P2 : List Pn} {n : Int} {g : Nat} {x : Nod} (h : Has w (Ndc g x :: (A ++ (pnC P ++ (pnC P2 ++ M))))) : Has w (A ++ (pnC P ++ (pnC (P2 ++ [(n, g, x)]) ++ M))) := by
 refine h.perm ?_
 have e : pnC (P2 ++ [(n, g, x)]) ++ M = pnC P2 ++ (Ndc g x :: M) := by
  rw [pnC_app, List.append_assoc]
  rfl
 rw [e]
 have h1 : (Ndc g x :: (pnC P2 ++ M)).Perm (pnC P2 ++ (Ndc g x :: M)) := List.perm_middle.symm
 have h2 : (Ndc g x :: (pnC P ++ (pnC P2 ++ M))).Perm (pnC P ++ (pnC P2 ++ (Ndc g x :: M))) := List.perm_middle.symm.trans (h1.append_left _)
 exact List.perm_middle.symm.trans (h2.append_left A)
theorem copied {w : World} {M : List HP} {P P1 P3 : List Pn} {n : Int} {b g : Nat} {x : Nod} {dv dv' wv wv' : Value} {nm nm' : Option Nat} {R1 R2 R3 R4 R5 R6 : HP} (hP : P = P1 ++ (n, b, x) :: P3) (h2 : x.kind = 2 → ∃ m, nm = some m) (h2' : x.kind = 2 → ∃ m, nm' = some m) (hn : nilS dv' = nilS dv) (hd : x.kind = 3 → nilS dv = false)
  (h : Has w (pt g (.cells (nodC x dv' wv' nm') 82) :: Nms nm' x.names :: Nms nm x.names :: Bools wv' x.wr :: Bytes dv' x.data :: pt b (.cells (nodC x dv wv nm) 82) :: Dat x.kind dv x.data :: Bools wv x.wr :: R1 :: R2 :: R3 :: R4 :: R5 :: R6 :: (pnC (P1 ++ P3) ++ M))) :
  Has w (Ndc g x :: R1 :: R2 :: R3 :: R4 :: R5 :: R6 :: (pnC P ++ M)) := by
 have h3 := h.re 8 [5, 6, 7, 2, 0, 4, 3, 1]
 have h4 : Has w (Ndc b x :: _) := ndc_iff.2 ⟨dv, wv, nm, h2, h3⟩
 have h5 := h4.re 5 [2, 1, 3, 4, 0]
 have h6 := dat_clone (k := x.kind) hn hd h5
 have h7 := h6.re 5 [1, 0, 2, 3, 4]
 have h8 : Has w (Ndc g x :: _) := ndc_iff.2 ⟨dv', wv', nm', h2', h7⟩
 have h9 := h8.re 2 [1, 0]
 have h10 := (pull_at (p := (n, b, x)) (P1 := P1) (P2 := P3) (M := M) (A := [Ndc g x, R1, R2, R3, R4, R5, R6])).2 h9
 rw [← hP] at h10
 exact h10
set_option maxRecDepth 100000 in
set_option maxHeartbeats 8000000 in
theorem tCopy (q : Nat) (S : Tre) (w : World) (L : List HP) (hb : ∀ n x, fnd S.nodes n = some x → x.data.length ≤ 100000 ∧ x.wr.length ≤ 100000) (hn : S.nodes.length ≤ 100000) (hO : Has w (Trc q S :: L)) :
  Calls Tryz.prog 29 #[.pointer (some ⟨q, 0, none⟩)] w fun e w' => ∃ q', e = .returned (.pointer (some ⟨q', 0, none⟩)) ∧ Has w' (Trc q' S :: Trc q S :: L) ∧ Keep w w' := by
 obtain ⟨m, f, P, hPT, h⟩ := trc_iff.1 hO
 have HPT := hid hPT
 have h' := trb_iff.1 h
 have HND := hid (Trb.nodup h)
 have HO := hid (show Has w (Mk kInt vPtr m (pnB P) :: pt q (.cells (treC m f S.last) 87) :: Tab f S.tab :: (pnC P ++ L)) from h'.perm (.swap _ _ _))
 have hq0 : w.cell? ⟨q, 0, none⟩ = some (.map (some m)) := HO.out.p1.cells 0
 have hq1 : w.cell? ⟨q, 1, none⟩ = some (.int .i64 S.last) := HO.out.p1.cells 1
 have hq2 : w.cell? ⟨q, 2, none⟩ = some (.pointer (some ⟨f, 0, none⟩)) := HO.out.p1.cells 2
 have HBD := hid (show ∀ p ∈ P, p.2.2.data.length ≤ 100000 ∧ p.2.2.wr.length ≤ 100000 from by
  intro p hp
  have hm : (p.1, p.2.2) ∈ pnN P := List.mem_map.2 ⟨p, hp, rfl⟩
  have hnd : ((pnN P).map Prod.fst).Nodup := by rw [pnN_keys]; exact HND.out
  exact hb p.1 p.2.2 (by rw [← hPT.1]; exact fnd_mem hnd hm))
 have hPl : P.length = S.nodes.length := by rw [← hPT.1]; simp [pnN]
 have hP9 : P.length ≤ 100000 := by omega
 have hmm := @run_makeMap Tryz.prog
 clear hO h h' hPT hb
 go_enter Tryz.func29, Tryz.ntmps29
 go_upto_region 3 with fail
 go_upto_region 4 with (first | (with_reducible refine wpList_loadC rfl 127 _ rfl (.pointer (some ⟨f, 0, none⟩)) (.agg (Tb.cells S.tab)) rfl (loadTab S.tab HPT.out.2 f w HO.out.p2.cells) ?_) | (with_reducible refine wpList_allocAs rfl 127 rfl zTab zTab_zero ?_) | (refine wpList_storeAt rfl 127 _ _ rfl w.heap.size 0 zTab (Tb.cells S.tab) 127 (HO.out.alloc (.cells zTab 127)) rfl rfl (fun w => by rw [tab_size S.tab HPT.out.2]; exact Tryz.sizeOf127 w) (slots_one S.tab) (by rw [tab_size S.tab HPT.out.2, zTab_size]; decide) ?_; intro w2 h2 k2))
 rw [whole_tab S.tab HPT.out.2] at h2
 have HO2 := hid h2
 have HK2 := hid (((Keep.refl w).alloc (.cells zTab 127)).trans k2)
 clear h2 k2 hq0 hq1 hq2 HO
 generalize w.heap.size = f2 at *
 have HO3 := hid (show Has (w2.alloc (.map #[] 0)) (Mk kInt vPtr m (pnB P) :: Mk kInt vPtr w2.heap.size [] :: pt q (.cells (treC m f S.last) 87) :: Tab f S.tab :: Tab f2 S.tab :: (pnC P ++ L)) from (Mk.made HO2.out kInt vPtr).re 5 [2, 0, 3, 4, 1])
 have HK3 := hid (HK2.out.alloc (.map #[] 0))
 have hq0 : w2.cell? ⟨q, 0, none⟩ = some (.map (some m)) := HO2.out.p2.cells 0
 have hq1 : (w2.alloc (.map #[] 0)).cell? ⟨q, 1, none⟩ = some (.int .i64 S.last) := HO3.out.p2.cells 1
 have HO4 := hid (show Has ((w2.alloc (.map #[] 0)).alloc (.cells (treC w2.heap.size f2 S.last) 87)) (Mk kInt vPtr m (pnB P) :: Mk kInt vPtr w2.heap.size [] :: pt (w2.heap.size + 1) (.cells (treC w2.heap.size f2 S.last) 87) :: pt q (.cells (treC m f S.last) 87) :: Tab f S.tab :: Tab f2 S.tab :: (pnC P ++ (pnC [] ++ L))) from by
  have e1 : (w2.alloc (.map #[] 0)).heap.size = w2.heap.size + 1 := by show (Array.push _ _).size = _; rw [Array.size_push]
  rw [← e1]
  exact (HO3.out.alloc (.cells (treC w2.heap.size f2 S.last) 87)).re 6 [1, 2, 0, 3, 4, 5])
 have HK4 := hid (HK3.out.alloc (.cells (treC w2.heap.size f2 S.last) 87))
 have hq2 : ((w2.alloc (.map #[] 0)).alloc (.cells (treC w2.heap.size f2 S.last) 87)).cell? ⟨q, 0, none⟩ = some (.map (some m)) := HO4.out.p3.cells 0
 clear HO2 HK2 HO3 HK3
 go_upto_region 5 with fail
 unfold treC at HO4 HK4 hq2
 generalize (w2.alloc (.map #[] 0)).alloc (.cells #[.map (some w2.heap.size), .int .i64 S.last, .pointer (some ⟨f2, 0, none⟩)] 87) = w4 at *
 generalize w2.heap.size + 1 = q2 at *
 generalize w2.heap.size = m2 at *
 clear hq0 hq1
 go_wp2_with (at_range; refine wpList_mkStart HO4.out tNo undNo rfl _ rfl rfl ?_; intro w5 hO5 hK5 hs5)
 try go_frame
 have HO5 := hid hO5
 have HK5 := hid (HK4.out.trans hK5)
 clear hO5 hK5 hs5 hq2 HO4 HK4
 generalize w4.heap.size = r at *
 generalize hr0 : (pnB P).map Prod.fst = rem0 at *
 have HS0 := hid (show passed P rem0 = [] from passed_none P rem0 fun p hp => by rw [← hr0, pnB_keys]; exact List.mem_map_of_mem hp)
 clear hr0
 generalize (pnB P).length = cnt0 at *
 go_loopw [] (fun w' => ∃ (rem : List Int) (cnt : Nat) (P2 : List Pn), (pnN P2).Perm (passed P rem) ∧ Hid (Has w' (Mr kInt vPtr m r (pnB P) rem cnt :: Mk kInt vPtr m2 (pnB P2) :: pt q2 (.cells (treC m2 f2 S.last) 87) :: pt q (.cells (treC m f S.last) 87) :: Tab f S.tab :: Tab f2 S.tab :: (pnC P ++ (pnC P2 ++ L)))) ∧ Hid (Keep w w')) (fun w' => w'.rangeLeft m r)
 case atStart => exact ⟨rem0, cnt0, [], by rw [HS0.out]; exact List.Perm.refl _, HO5, HK5⟩
 case round =>
  clear HO5 HK5 HS0
  obtain ⟨rem, cnt, P2, hP2, HO, HK⟩ := hrel
  have hleft := Mr.left HO.out
  have HLF := hid hleft
  have HP2 := hid hP2
  clear hP2
  go_wp2_with (at_next; refine wpList_mkNext HO.out rfl _ rfl rfl ?_ ?_)
  ·intro hrem
   subst hrem
   have HO6 := hid (Mr.end HO.out)
   clear HO hleft
   go_wp2_with fail
   go_ret
   refine ⟨q2, rfl, ?_, HK.out⟩
   have hpm := HP2.out
   rw [passed_all, HPT.out.1] at hpm
   have h1 : Has wr (pt q (.cells (treC m f S.last) 87) :: Mk kInt vPtr m (pnB P) :: Tab f S.tab :: (pnC P ++ ([pt q2 (.cells (treC m2 f2 S.last) 87), Mk kInt vPtr m2 (pnB P2), Tab f2 S.tab] ++ (pnC P2 ++ L)))) := by
    have h2 := HO6.out.re 6 [3, 0, 4, 2, 1, 5]
    exact h2.perm (.cons _ (.cons _ (.cons _ (List.perm_append_comm_assoc [pt q2 (.cells (treC m2 f2 S.last) 87), Mk kInt vPtr m2 (pnB P2), Tab f2 S.tab] (pnC P) (pnC P2 ++ L)))))
   have h2 : Has wr (Trc q S :: ([pt q2 (.cells (treC m2 f2 S.last) 87), Mk kInt vPtr m2 (pnB P2), Tab f2 S.tab] ++ (pnC P2 ++ L))) := trc_iff.2 ⟨m, f, P, HPT.out, trb_iff.2 h1⟩
   have h3 : Has wr (pt q2 (.cells (treC m2 f2 S.last) 87) :: Mk kInt vPtr m2 (pnB P2) :: Tab f2 S.tab :: Trc q S :: (pnC P2 ++ L)) := h2.re 4 [1, 2, 3, 0]
   refine trc_perm hpm HPT.out.2 (trb_iff.2 (h3.perm (.cons _ (.cons _ (.cons _ ?_)))))
   exact List.perm_middle.symm
  ·rintro n ob w6 cnt' hp hr hky hO6 hlt6 hK6 hsz hen
   obtain ⟨⟨n', b, x⟩, hpP, he⟩ := List.mem_map.1 hp
   simp only [Prod.mk.injEq] at he
   obtain ⟨rfl, rfl⟩ := he
   simp only [kInt_val, vPtr_val] at hen ⊢
   have hen2 := hen
   obtain ⟨P1, P3, hPe⟩ := List.append_of_mem hpP
   have HPe := hid hPe
   have hbx := HBD.out _ hpP
   have hbx1 : x.data.length ≤ 100000 := hbx.1
   have hbx2 : x.wr.length ≤ 100000 := hbx.2
   clear hbx
   have HO7 := hid (show Has w6 (Ndc b x :: Mr kInt vPtr m r (pnB P) (rem.filter fun y => !decide (y = n')) cnt' :: Mk kInt vPtr m2 (pnB P2) :: pt q2 (.cells (treC m2 f2 S.last) 87) :: pt q (.cells (treC m f S.last) 87) :: Tab f S.tab :: Tab f2 S.tab :: (pnC (P1 ++ P3) ++ (pnC P2 ++ L))) from (pull_at (p := (n', b, x)) (A := [Mr kInt vPtr m r (pnB P) (rem.filter fun y => !decide (y = n')) cnt', Mk kInt vPtr m2 (pnB P2), pt q2 (.cells (treC m2 f2 S.last) 87), pt q (.cells (treC m f S.last) 87), Tab f S.tab, Tab f2 S.tab])).1 (by rw [← hPe]; exact hO6))
   have HST := hid (show (passed P (rem.filter fun y => !decide (y = n'))).Perm (passed P rem ++ [(n', x)]) from by
    rw [hPe]
    exact passed_step (by rw [← hPe]; exact HND.out) hr)
   have HK7 := hid (HK.out.trans hK6)
   have HL6 := hid hlt6
   have HR := hid hr
   have HKY := hid hky
   clear hp hr hky hO6 hlt6 hK6 hsz hPe hpP hleft HO HK
   obtain ⟨dv, wv, nm, hnm, hN⟩ := ndc_iff.1 HO7.out
   have HNM := hid hnm
   have HN := hid hN
   clear hnm hN HO7
   have hc0 : w6.cell? ⟨b, 0, none⟩ = some (.int .i64 x.kind) := HN.out.cells 0
   have hc1 : w6.cell? ⟨b, 1, none⟩ = some dv := HN.out.cells 1
   have hc2 : w6.cell? ⟨b, 2, none⟩ = some wv := HN.out.cells 2
   have hc3 : w6.cell? ⟨b, 3, none⟩ = some (.map nm) := HN.out.cells 3
   have hc4 : w6.cell? ⟨b, 4, none⟩ = some (.int .i64 x.most) := HN.out.cells 4
   have hc5 : w6.cell? ⟨b, 5, none⟩ = some (.int .i64 x.links) := HN.out.cells 5
   have hc6 : w6.cell? ⟨b, 6, none⟩ = some (.int .i64 x.above) := HN.out.cells 6
   have hdr := Dat.rd HN.out.p1
   have HDN := hid (dat_nil HN.out.p1)
   have hwrd : Rd w6 wv 1 x.wr.length (x.wr.map Value.bool) := Bools.rd HN.out.p2
   obtain ⟨pd, cd, rfl, -⟩ := hdr.form
   obtain ⟨pw, cw, rfl, -⟩ := hwrd.form
   clear hdr hwrd
   go_upto_region 9 with fail
   have HA := hid (HN.out.alloc (.cells #[.int .i64 x.kind, .slice pd x.data.length cd, .slice pw x.wr.length cw, .map nm, .int .i64 x.most, .int .i64 x.links, .int .i64 x.above] 82))
   have HB := hid (HK7.out.alloc (.cells #[.int .i64 x.kind, .slice pd x.data.length cd, .slice pw x.wr.length cw, .map nm, .int .i64 x.most, .int .i64 x.links, .int .i64 x.above] 82))
   clear HN HK7 hc0 hc1 hc2 hc3 hc4 hc5 hc6
   generalize w6.alloc (.cells #[.int .i64 x.kind, .slice pd x.data.length cd, .slice pw x.wr.length cw, .map nm, .int .i64 x.most, .int .i64 x.links, .int .i64 x.above] 82) = y6 at *
   generalize w6.heap.size = g7 at *
   have HAd := hid HA.out.drew
   have HBd := hid HB.out.drew
   clear HA HB
   refine region_text (fun w' => w'.cell? ⟨b, 1, none⟩ = some (.slice pd x.data.length cd) ∧ w'.cell? ⟨b, 2, none⟩ = some (.slice pw x.wr.length cw) ∧ w'.cell? ⟨b, 3, none⟩ = some (.map nm)) (by kernel_rfl) (by kernel_rfl) ⟨HAd.out.p1.cells 1, HAd.out.p1.cells 2, HAd.out.p1.cells 3⟩ ?_
   generalize y6.drew = yd at *
   repeat (first | refine wr3 ?_ | refine wk ?_)
   refine wa fun K hK => ?_
   go_simp
   refine (cloneBytesN _ x.data yd _ HAd.out (Dat.rd HAd.out.p2) (by omega)).mono ?_
   rintro e w8 ⟨v8, rfl, hn8, hO8, hK8⟩
   have HO8 := hid hO8
   have HK8 := hid ((HBd.out).trans hK8)
   clear hO8 hK8
   try dsimp only
   refine hK.out _ _ (⟨HO8.out.p2.cells 1, HO8.out.p2.cells 2, HO8.out.p2.cells 3⟩) ?_
   clear hK K
   try simp only [Act.put, List.setIfInBounds_toArray, List.set_cons_zero, List.set_cons_succ]
   clear HAd HBd
   repeat (first | refine wr3 ?_ | refine wk ?_)
   refine wa fun K hK => ?_
   go_simp
   refine (cloneBools _ x.wr w8 _ HO8.out (Bools.rd HO8.out.p4) (by omega)).mono ?_
   rintro e w9 ⟨v9, rfl, hO9, hK9⟩
   have HO9 := hid hO9
   have HK9 := hid ((HK8.out).trans hK9)
   clear hO9 hK9
   try dsimp only
   refine hK.out _ _ (⟨HO9.out.p3.cells 1, HO9.out.p3.cells 2, HO9.out.p3.cells 3⟩) ?_
   clear hK K
   try simp only [Act.put, List.setIfInBounds_toArray, List.set_cons_zero, List.set_cons_succ]
   clear HO8 HK8
   repeat (first | refine wr3 ?_ | refine wk ?_)
   refine wa fun K hK => ?_
   go_simp
   refine (mapsCloneN nm x.names w9 _ HO9.out.p6).mono ?_
   rintro e w10 ⟨nm', rfl, hnm', hO10, hK10⟩
   have HO10 := hid hO10
   have HK10 := hid ((HK9.out).trans hK10)
   clear hO10 hK10
   try dsimp only
   refine hK.out _ _ (⟨(HO10.out.re 6 [5]).cells 1, (HO10.out.re 6 [5]).cells 2, (HO10.out.re 6 [5]).cells 3⟩) ?_
   clear hK K
   try simp only [Act.put, List.setIfInBounds_toArray, List.set_cons_zero, List.set_cons_succ]
   clear HO9 HK9
   repeat (first | refine wr3 ?_ | refine wk ?_)
   obtain ⟨p8, c8, hv8, -⟩ := (Bytes.rd HO10.out.p3).form
   subst hv8
   obtain ⟨p9, c9, hv9, -⟩ := (Bools.rd HO10.out.p2).form
   subst hv9
   have HZ := hid (HO10.out.re 6 [4, 0, 1, 2, 3, 5])
   clear HO10
   have hs1 := HZ.out.cells 1
   have ht1 := HZ.out.thaw 1
   refine wa fun K hK => ?_
   go_simp
   have HZ1 := hid (HZ.out.set 1 (.slice p8 x.data.length c8))
   refine hK.out _ _ ⟨HZ1.out.p5.cells 1, HZ1.out.p5.cells 2, HZ1.out.p5.cells 3⟩ ?_
   clear hK K hs1 ht1 HZ
   try simp only [Act.put, List.setIfInBounds_toArray, List.set_cons_zero, List.set_cons_succ]
   generalize hu1 : w10.setCell ⟨g7, 1, none⟩ (.slice p8 x.data.length c8) = u1 at *
   have HK11 := hid (show Keep w u1 from by rw [← hu1]; exact HK10.out.set _ _)
   clear hu1 HK10
   repeat (first | refine wr3 ?_ | refine wk ?_)
   have hs2 := HZ1.out.cells 2
   have ht2 := HZ1.out.thaw 2
   refine wa fun K hK => ?_
   go_simp
   have HZ2 := hid (HZ1.out.set 2 (.slice p9 x.wr.length c9))
   refine hK.out _ _ ⟨HZ2.out.p5.cells 1, HZ2.out.p5.cells 2, HZ2.out.p5.cells 3⟩ ?_
   clear hK K hs2 ht2 HZ1
   try simp only [Act.put, List.setIfInBounds_toArray, List.set_cons_zero, List.set_cons_succ]
   generalize hu2 : u1.setCell ⟨g7, 2, none⟩ (.slice p9 x.wr.length c9) = u2 at *
   have HK12 := hid (show Keep w u2 from by rw [← hu2]; exact HK11.out.set _ _)
   clear hu2 HK11
   repeat (first | refine wr3 ?_ | refine wk ?_)
   have hs3 := HZ2.out.cells 3
   have ht3 := HZ2.out.thaw 3
   refine wa fun K hK => ?_
   go_simp
   have HZ3 := hid (HZ2.out.set 3 (.map nm'))
   refine hK.out _ _ ⟨HZ3.out.p5.cells 1, HZ3.out.p5.cells 2, HZ3.out.p5.cells 3⟩ ?_
   clear hK K hs3 ht3 HZ2
   try simp only [Act.put, List.setIfInBounds_toArray, List.set_cons_zero, List.set_cons_succ]
   generalize hu3 : u2.setCell ⟨g7, 3, none⟩ (.map nm') = u3 at *
   have HK13 := hid (show Keep w u3 from by rw [← hu3]; exact HK12.out.set _ _)
   clear hu3 HK12
   refine wpL_nil ?_
   have HY := hid (copied (M := pnC P2 ++ L) HPe.out HNM.out (fun h => by obtain ⟨z, hz⟩ := HNM.out h; exact hnm' z hz) hn8 HDN.out HZ3.out)
   clear HZ3 hn8 hnm'
   have hq3 : u3.cell? ⟨q2, 0, none⟩ = some (.map (some m2)) := HY.out.p3.cells 0
   have hlen : P2.length ≤ P.length := by
    have h1 := HP2.out.length_eq
    have h2 : (passed P rem).length ≤ (pnN P).length := List.length_filter_le _ _
    simp only [pnN, List.length_map] at h1 h2
    omega
   have hno : n' ∉ (pnB P2).map Prod.fst := by
    rw [pnB_keys]
    intro hm
    have h1 : n' ∈ (pnN P2).map Prod.fst := by rw [pnN_keys]; exact hm
    obtain ⟨e, he, hee⟩ := List.mem_map.1 ((HP2.out.map Prod.fst).mem_iff.1 h1)
    have h2 := (List.mem_filter.1 he).2
    rw [hee] at h2
    simp [HR.out] at h2
   have HNO := hid hno
   clear hno
   go_wp2_with (refine wpList_mkPut (HY.out.re 3 [2, 0, 1]) (by rw [show (pnB P2).length = P2.length by simp [pnB]]; omega) tNo undNo rfl _ _ _ rfl rfl n' HKY.out rfl (some g7) trivial rfl ?_; intro u4 hO4 hK4; simp only [Act.put])
   have e : putA (pnB P2) n' (some g7) = pnB (P2 ++ [(n', g7, x)]) := by rw [putA_new _ HNO.out]; simp [pnB]
   have h5 := hO4.re 3 [1, 2, 0]
   rw [e] at h5
   have h6 := push_end (n := n') (A := [Mr kInt vPtr m r (pnB P) (rem.filter fun y => !decide (y = n')) cnt', Mk kInt vPtr m2 (pnB (P2 ++ [(n', g7, x)])), pt q2 (.cells (treC m2 f2 S.last) 87), pt q (.cells (treC m f S.last) 87), Tab f S.tab, Tab f2 S.tab]) (P := P) (P2 := P2) (M := L) h5
   have hl2 := Mr.left h6
   refine ⟨⟨_, _, _, ?_, hid h6, hid (HK13.out.trans hK4)⟩, by rw [hl2, HLF.out]; exact HL6.out⟩
   have e2 : pnN (P2 ++ [(n', g7, x)]) = pnN P2 ++ [(n', x)] := by simp [pnN]
   rw [e2]
   exact (HP2.out.append_right _).trans HST.out.symm
end Go.Proofs.YtmgpgbfgemebbaaGreatDoor
namespace Go.Proofs.YtmgpgbfgemebbaaGreatDoor
open Go.RowKit Go.Own
structure His where
 S : Tre
 nums : List (Int × Int)
 files : List (Int × Fil)
 marks : List (Int × Mrk)
 ents : List (Ent × List Int)
 opened : List (Int × Ent)
def hC (t bn bf bm b bo : Nat) : Array Value := #[.pointer (some ⟨t, 0, none⟩), .map (some bn), .map (some bf), .map (some bm), .map (some b), .map (some bo)]
def Hsc (q : Nat) (H : His) : HP := ex fun a : Nat × Nat × Nat × Nat × Nat × Nat => star [pt q (.cells (hC a.1 a.2.1 a.2.2.1 a.2.2.2.1 a.2.2.2.2.1 a.2.2.2.2.2) 142), Trc a.1 H.S, Mk kInt vInt a.2.1 H.nums, Zm kInt vPf a.2.2.1 FilPC H.files, Mk kInt vMrk a.2.2.2.1 H.marks, Ety a.2.2.2.2.1 H.ents, Mk kInt vEnt a.2.2.2.2.2 H.opened]
theorem hsc_iff {w : World} {L : List HP} {q : Nat} {H : His} : Has w (Hsc q H :: L) ↔ ∃ t bn bf bm b bo, Has w (pt q (.cells (hC t bn bf bm b bo) 142) :: Trc t H.S :: Mk kInt vInt bn H.nums :: Zm kInt vPf bf FilPC H.files :: Mk kInt vMrk bm H.marks :: Ety b H.ents :: Mk kInt vEnt bo H.opened :: L) := by
 unfold Hsc
 rw [Has.ex_iff]
 constructor
 ·rintro ⟨⟨t, bn, bf, bm, b, bo⟩, h⟩
  exact ⟨t, bn, bf, bm, b, bo, Has.star_iff.1 h⟩
 ·rintro ⟨t, bn, bf, bm, b, bo, h⟩
  exact ⟨⟨t, bn, bf, bm, b, bo⟩, Has.star_iff.2 h⟩
abbrev Flz (bf : Nat) (Y : List (Int × Fil)) : HP := Zm kInt vPf bf FilPC Y
open Classical in
theorem pmA1 (A T N F M E O : HP) (L : List HP) : (A :: T :: N :: F :: M :: E :: O :: L).Perm (F :: E :: A :: M :: T :: N :: O :: L) := by
 refine List.perm_iff_count.2 fun x => ?_
 simp only [List.count_cons] at *
 omega
open Classical in
theorem pmA2 (F E A M T N O : HP) (Y Z L : List HP) : (F :: (Y ++ (E :: (Z ++ (A :: M :: T :: N :: O :: L))))).Perm (A :: E :: M :: (Z ++ (T :: F :: (Y ++ (N :: O :: L))))) := by
 refine List.perm_iff_count.2 fun x => ?_
 simp only [List.count_append, List.count_cons] at *
 omega
open Classical in
theorem pmA3 (F E A M T N O : HP) (Y L : List HP) : (F :: (Y ++ (E :: A :: M :: T :: N :: O :: L))).Perm (E :: F :: (Y ++ (A :: M :: T :: N :: O :: L))) := by
 refine List.perm_iff_count.2 fun x => ?_
 simp only [List.count_append, List.count_cons] at *
 omega
open Classical in
theorem pmA4 (F E A M T N O : HP) (Y Z L : List HP) : (E :: (Z ++ (F :: (Y ++ (A :: M :: T :: N :: O :: L))))).Perm (F :: (Y ++ (E :: (Z ++ (A :: M :: T :: N :: O :: L))))) := by
 refine List.perm_iff_count.2 fun x => ?_
 simp only [List.count_append, List.count_cons] at *
 omega
theorem hsx {w : World} {L : List HP} {q t bn bf bm b bo : Nat} {H : His} (h : Has w (pt q (.cells (hC t bn bf bm b bo) 142) :: Trc t H.S :: Mk kInt vInt bn H.nums :: Flz bf H.files :: Mk kInt vMrk bm H.marks :: Ety b H.ents :: Mk kInt vEnt bo H.opened :: L)) :
  ∃ es cl X esf clf Y, zB X = H.ents ∧ zB Y = H.files ∧ Has w (pt q (.cells (hC t bn bf bm b bo) 142) :: EtX b es cl X :: Mk kInt vMrk bm H.marks :: (zC EntC X ++ (Trc t H.S :: FlX bf esf clf Y :: (zC FilPC Y ++ (Mk kInt vInt bn H.nums :: Mk kInt vEnt bo H.opened :: L))))) := by
 obtain ⟨Y, hY, h1⟩ := zm_iff.1 (h.perm (pmA1 _ _ _ _ _ _ _ _))
 obtain ⟨X, hX, h2⟩ := ety_iff.1 (h1.perm (pmA3 _ _ _ _ _ _ _ _ _))
 obtain ⟨es, cl, h3⟩ := Mx.of_mk h2
 obtain ⟨esf, clf, h4⟩ := Mx.of_mk (h3.perm (pmA4 _ _ _ _ _ _ _ _ _ _))
 exact ⟨es, cl, X, esf, clf, Y, hX, hY, h4.perm (pmA2 _ _ _ _ _ _ _ _ _ _)⟩
theorem hsx' {w : World} {L : List HP} {q t bn bf bm b bo cl clf : Nat} {es esf : Array MapEntry} {X : List (Ent × Slv × List Int)} {Y : List (Int × Option Nat × Fil)} {M : List (Int × Mrk)} {S : Tre} {N : List (Int × Int)} {O : List (Int × Ent)} (h : Has w (pt q (.cells (hC t bn bf bm b bo) 142) :: EtX b es cl X :: Mk kInt vMrk bm M :: (zC EntC X ++ (Trc t S :: FlX bf esf clf Y :: (zC FilPC Y ++ (Mk kInt vInt bn N :: Mk kInt vEnt bo O :: L)))))) :
  Has w (pt q (.cells (hC t bn bf bm b bo) 142) :: Trc t S :: Mk kInt vInt bn N :: Flz bf (zB Y) :: Mk kInt vMrk bm M :: Ety b (zB X) :: Mk kInt vEnt bo O :: L) := by
 have h4 := Mx.mk (h.perm (pmA2 _ _ _ _ _ _ _ _ _ _).symm)
 have h3 := Mx.mk (h4.perm (pmA4 _ _ _ _ _ _ _ _ _ _).symm)
 have h1 := (ety_iff.2 ⟨X, rfl, h3⟩)
 have h2 := zm_iff.2 ⟨Y, rfl, h1.perm (pmA3 _ _ _ _ _ _ _ _ _).symm⟩
 exact h2.perm (pmA1 _ _ _ _ _ _ _ _).symm
theorem hsc_x {w : World} {L : List HP} {q t bn bf bm b bo cl clf : Nat} {es esf : Array MapEntry} {X : List (Ent × Slv × List Int)} {Y : List (Int × Option Nat × Fil)} {M : List (Int × Mrk)} {S : Tre} {N : List (Int × Int)} {O : List (Int × Ent)} (h : Has w (pt q (.cells (hC t bn bf bm b bo) 142) :: EtX b es cl X :: Mk kInt vMrk bm M :: (zC EntC X ++ (Trc t S :: FlX bf esf clf Y :: (zC FilPC Y ++ (Mk kInt vInt bn N :: Mk kInt vEnt bo O :: L)))))) :
  Has w (Hsc q ⟨S, N, zB Y, M, zB X, O⟩ :: L) := hsc_iff.2 ⟨t, bn, bf, bm, b, bo, hsx' h⟩
def markF (t : List (Ent × List Int)) (M : List (Int × Mrk)) (x : Ent × List Int) : List (Int × Mrk) := if lastI x.2 = 0 then M else putA M (lastI x.2) (true, true, linksE t (lastI x.2) == 1)
def markR (t : List (Ent × List Int)) (sel : Ent → Bool) (M : List (Int × Mrk)) : List (Int × Mrk) := (t.filter fun x => sel x.1).foldl (markF t) M
theorem markF_fnd (t : List (Ent × List Int)) : ∀ (u : List (Ent × List Int)) (M : List (Int × Mrk)) (n : Int), fnd (u.foldl (markF t) M) n = if (∃ x ∈ u, lastI x.2 ≠ 0 ∧ lastI x.2 = n) then some (true, true, linksE t n == 1) else fnd M n
 | [], M, n => by simp
 | x :: u, M, n => by
  rw [List.foldl_cons, markF_fnd t u]
  by_cases h1 : ∃ y ∈ u, lastI y.2 ≠ 0 ∧ lastI y.2 = n
  ·obtain ⟨y, hy, h2⟩ := h1
   rw [if_pos ⟨y, hy, h2⟩, if_pos ⟨y, List.mem_cons_of_mem _ hy, h2⟩]
  ·rw [if_neg h1]
   unfold markF
   by_cases h0 : lastI x.2 = 0
   ·rw [if_pos h0, if_neg]
    rintro ⟨y, hy, h2, h3⟩
    rcases List.mem_cons.1 hy with rfl | hy
    ·exact h2 h0
    ·exact h1 ⟨y, hy, h2, h3⟩
   ·rw [if_neg h0, fnd_putA]
    by_cases hn : n = lastI x.2
    ·rw [if_pos hn, if_pos ⟨x, List.mem_cons_self, h0, hn.symm⟩, hn]
    ·rw [if_neg hn, if_neg]
     rintro ⟨y, hy, h2, h3⟩
     rcases List.mem_cons.1 hy with rfl | hy
     ·exact hn h3.symm
     ·exact h1 ⟨y, hy, h2, h3⟩
theorem putA_nd {κ α : Type} [DecidableEq κ] {t : List (κ × α)} (k : κ) (a : α) (h : (t.map Prod.fst).Nodup) : ((putA t k a).map Prod.fst).Nodup := by
 unfold putA
 split
 ·rename_i hk
  have e : (t.map fun p => if p.1 = k then (k, a) else p).map Prod.fst = t.map Prod.fst := by
   rw [List.map_map]
   refine List.map_congr_left fun x _ => ?_
   simp only [Function.comp]
   split
   ·rename_i e; exact e.symm
   ·rfl
  rw [e]; exact h
 ·rename_i hk
  rw [List.map_append]
  refine List.nodup_append.2 ⟨h, by simp, ?_⟩
  intro x hx y hy
  simp only [List.map_cons, List.map_nil, List.mem_singleton] at hy
  subst hy
  rintro rfl
  exact hk hx
theorem markF_nodup (t : List (Ent × List Int)) : ∀ (u : List (Ent × List Int)) (M : List (Int × Mrk)), (M.map Prod.fst).Nodup → ((u.foldl (markF t) M).map Prod.fst).Nodup
 | [], _, h => h
 | x :: u, M, h => by
  rw [List.foldl_cons]
  refine markF_nodup t u _ ?_
  unfold markF
  split
  ·exact h
  ·exact putA_nd _ _ h
theorem perm_of_fnd {κ α : Type} [DecidableEq κ] {a b : List (κ × α)} (ha : (a.map Prod.fst).Nodup) (hb : (b.map Prod.fst).Nodup) (h : ∀ k, fnd a k = fnd b k) : a.Perm b := by
 have na : a.Nodup := List.Pairwise.of_map Prod.fst (fun a b h e => h (by rw [e])) ha
 have nb : b.Nodup := List.Pairwise.of_map Prod.fst (fun a b h e => h (by rw [e])) hb
 refine (List.perm_ext_iff_of_nodup na nb).2 fun x => ?_
 obtain ⟨k, v⟩ := x
 constructor
 ·intro hx
  exact fnd_some (by rw [← h k]; exact fnd_mem ha hx)
 ·intro hx
  exact fnd_some (by rw [h k]; exact fnd_mem hb hx)
theorem MkR.perm {t : List (Ent × List Int)} {sel : Ent → Bool} {M M' : List (Int × Mrk)} (h : MkR t sel [] M M') (h1 : (M.map Prod.fst).Nodup) (h2 : (M'.map Prod.fst).Nodup) : M'.Perm (markR t sel M) := by
 refine perm_of_fnd h2 (markF_nodup _ _ _ h1) fun n => ?_
 unfold markR
 rw [markF_fnd]
 by_cases hx : ∃ x ∈ t.filter fun x => sel x.1, lastI x.2 ≠ 0 ∧ lastI x.2 = n
 ·rw [if_pos hx]
  obtain ⟨x, hx, h3, h4⟩ := hx
  obtain ⟨h5, h6⟩ := List.mem_filter.1 hx
  rw [← h4]
  exact h.yes x h5 h6 (by simp) h3
 ·rw [if_neg hx]
  refine h.no n fun x h3 h4 _ h5 h6 => hx ⟨x, List.mem_filter.2 ⟨h3, h4⟩, h5, h6⟩
end Go.Proofs.YtmgpgbfgemebbaaGreatDoor
namespace Go.Proofs.YtmgpgbfgemebbaaGreatDoor
open Go.RowKit Go.Own
theorem FilOk.firm {F : Fil} {K : Nat} (h : FilOk F K) : FilOk F.firm K where
 sz := by unfold Fil.firm; simp
 szl := by
  have h1 := h.szl
  have h2 := List.length_pos_iff.2 h.sz
  show [lastI F.sizes].length ≤ K
  rw [List.length_singleton]; omega
 szb := h.szb
 keys := fun x hx => by
  obtain ⟨y, hy, rfl⟩ := List.mem_map.1 hx
  exact h.keys y hy
 bl := fun x hx => by
  obtain ⟨y, hy, rfl⟩ := List.mem_map.1 hx
  refine ⟨by simp, ?_⟩
  have h1 := h.bl y hy
  have h2 := List.length_pos_iff.2 h1.1
  show [y.2.getLastD []].length ≤ K
  rw [List.length_singleton]; omega
section
variable {κ α : Type} [DecidableEq κ]
def mapR (f : α → α) (t : List (κ × α)) (rem : List κ) : List (κ × α) := t.map fun x => (x.1, if x.1 ∈ rem then x.2 else f x.2)
theorem mapR_keys (f : α → α) (t : List (κ × α)) (rem : List κ) : (mapR f t rem).map Prod.fst = t.map Prod.fst := by simp [mapR]
theorem mapR_all (f : α → α) (t : List (κ × α)) : mapR f t (t.map Prod.fst) = t := by
 unfold mapR
 refine (List.map_congr_left fun x hx => ?_).trans (List.map_id _)
 rw [if_pos (List.mem_map_of_mem hx)]
 rfl
theorem mapR_nil (f : α → α) (t : List (κ × α)) : mapR f t [] = t.map fun x => (x.1, f x.2) := by
 unfold mapR
 refine List.map_congr_left fun x hx => ?_
 rw [if_neg (by simp)]
theorem mapR_mem {f : α → α} {t : List (κ × α)} {rem : List κ} {k : κ} {a : α} (hk : k ∈ rem) (hm : (k, a) ∈ mapR f t rem) : (k, a) ∈ t := by
 obtain ⟨y, hy, he⟩ := List.mem_map.1 hm
 simp only [Prod.mk.injEq] at he
 obtain ⟨rfl, e2⟩ := he
 rw [if_pos hk] at e2
 subst e2
 exact hy
theorem mapR_step {f : α → α} {t : List (κ × α)} (hn : (t.map Prod.fst).Nodup) {rem : List κ} {k : κ} {a : α} (hk : k ∈ rem) (hm : (k, a) ∈ t) : putA (mapR f t rem) k (f a) = mapR f t (rem.filter fun y => !decide (y = k)) := by
 unfold putA
 rw [if_pos (by rw [mapR_keys]; exact List.mem_map_of_mem hm)]
 unfold mapR
 rw [List.map_map]
 refine List.map_congr_left fun x hx => ?_
 simp only [Function.comp]
 by_cases hxk : x.1 = k
 ·rw [if_pos hxk, if_neg (by rw [List.mem_filter]; simp [hxk])]
  have e3 := fnd_mem hn hx
  rw [hxk, fnd_mem hn hm] at e3
  rw [Option.some.inj e3, hxk]
 ·rw [if_neg hxk]
  congr 1
  by_cases hr : x.1 ∈ rem
  ·rw [if_pos hr, if_pos (by rw [List.mem_filter]; exact ⟨hr, by simp [hxk]⟩)]
  ·rw [if_neg hr, if_neg (by rw [List.mem_filter]; exact fun h => hr h.1)]
end
open Classical in
theorem pmB1 (Q F C : HP) (Y Y0 L : List HP) (h : Y.Perm (C :: Y0)) : (Q :: F :: (Y ++ L)).Perm (Q :: F :: C :: (Y0 ++ L)) := by
 refine List.perm_iff_count.2 fun x => ?_
 have e1 := h.count_eq x
 simp only [List.count_append, List.count_cons] at *
 omega
theorem mFirmH (q bf clf K : Nat) (esf : Array MapEntry) (C : Array Value) (Y : List (Int × Option Nat × Fil)) (n : Int) (F : Fil) (w : World) (L : List HP) (hC : C[2]? = some (.map (some bf))) (hn : (Lit.int .i64 n).wf = true) (hF : fnd (zB Y) n = some F) (hK : FilOk F K) (hKb : K ≤ 100000) (hO : Has w (pt q (.cells C 142) :: FlX bf esf clf Y :: (zC FilPC Y ++ L))) :
  Calls Tryz.prog 156 #[.pointer (some ⟨q, 0, none⟩), .int .i64 n] w fun e' w' => e' = .returned (.tuple #[]) ∧ (∃ Y', zB Y' = putA (zB Y) n F.firm ∧ zH Y' = zH Y ∧ Has w' (pt q (.cells C 142) :: FlX bf esf clf Y' :: (zC FilPC Y' ++ L))) ∧ Keep w w' := by
 obtain ⟨bF, Y0, hH, hP, hput⟩ := FlX.pull hO.drop hF
 refine (mFirm q bf bF clf K esf C (zH Y) n F w _ hC hn hH hK hKb (hO.perm (pmB1 _ _ _ _ _ _ hP))).mono ?_
 rintro e w' ⟨rfl, h1, k1⟩
 obtain ⟨Y', e1, e2, e3⟩ := hput F.firm
 have hnd : ((zH Y).map Prod.fst).Nodup := Mk.nodup (Mx.mk hO.drop)
 rw [putA_same _ _ _ hnd hH] at e2
 refine ⟨rfl, ⟨Y', e1, e2, ?_⟩, k1⟩
 have h2 := h1.perm (pmB1 _ _ _ _ _ _ e3).symm
 unfold FlX
 rw [e2]
 exact h2
end Go.Proofs.YtmgpgbfgemebbaaGreatDoor
