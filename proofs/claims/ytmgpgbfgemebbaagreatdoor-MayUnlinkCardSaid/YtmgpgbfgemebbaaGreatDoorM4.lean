/- TEXTS of mine, merged. -/
import Derived.Test.YtmgpgbfgemebbaaGreatDoorM1
import Derived.Test.YtmgpgbfgemebbaaGreatDoorM2
import Derived.Test.YtmgpgbfgemebbaaGreatDoorM3
import Derived.WalkMore
import Derived.Test.YtmgpgbfgemebbaaGreatDoorRows
import Derived.WalkLawsBesides
import Derived.Deep.QuietTactic
import Derived.BigQuiet
import Derived.Lib.AppendStr
import Derived.Laws.BytesArg
set_option linter.all false
namespace Go.Own
open Go.RowKit
section
variable {w : World} {l : List HP} {v : Value} {e : TypeId} {size n : Nat} {xs : List Value}
theorem Has.appendNone {P : Program} (hO : Has w (row v e size n xs :: l)) (t ty : TypeId) (ht : P.underlying t = some (.slice e)) (i : TypeInfo) (hi : P.info? e = some i) (c : Nat) :
  (Builtin.append_ #[t, t] ty #[v, .slice none 0 c]).run P w = .ok v w := by
 obtain ⟨-, ⟨rfl, -⟩ | ⟨g, cap, cur, rfl, hnc, -⟩⟩ := hO.row_cases
 ·simp [Builtin.append_, run_underlying ht, sizeOf, typeInfo, hi, Builtin.lenOf, Builtin.firstCells]
 ·simp [Builtin.append_, run_underlying ht, sizeOf, typeInfo, hi, Builtin.lenOf, Builtin.firstCells, hnc, storeCells]
theorem Has.appendAny {P : Program} (hO : Has w (row v e size n xs :: l)) (t ty : TypeId) {z : Value} {bytes : Nat} (ht : P.underlying t = some (.slice e)) (hi : (P.info? e).map (fun i => (i.zero, i.size, i.bytes)) = some (some z, size, bytes)) (hzs : z.cells.size = size) (hsz : 0 < size)
  (x : Value) (m : Nat) (ys : List Value) (hr : Rd w x size m ys) (h1 : ∀ u ∈ ys, u.oneCell' = true) (h63 : n + m ≤ maxLen) (hbytes : (n + m) * bytes ≤ 140737488355328) :
  ∃ v' w', (Builtin.append_ #[t, t] ty #[v, x]).run P w = .ok v' w' ∧ Has w' (row v' e size (n + m) (xs ++ ys) :: l) ∧ Keep w w' ∧ (v = .slice none 0 0 → m = 0 → v' = .slice none 0 0) := by
 obtain ⟨i, hi, hz, hs, hby⟩ := info_parts hi
 obtain ⟨hyl, hm, p, cap, rfl, -, hc⟩ := hr
 rcases p with _ | ad
 ·have hm0 : m = 0 := by
   rcases Nat.eq_zero_or_pos m with h | h
   ·exact h
   ·obtain ⟨g, o, e, -⟩ := hc (Nat.mul_pos h hsz)
    cases e
  subst hm0
  have hy : ys = [] := List.eq_nil_of_length_eq_zero (by simpa using hyl)
  subst hy
  exact ⟨v, w, hO.appendNone t ty ht i hi cap, by simpa using hO, Keep.refl w, fun h _ => h⟩
 ·obtain ⟨v', w', h2, h3, h4, h5⟩ := hO.append (P := P) t ty i z bytes ht hi hz hs hby hzs ad m cap ys hyl (by
   intro j y hj
   have hjl : j < m * size := by rw [← hyl]; exact (List.getElem?_eq_some_iff.1 hj).1
   obtain ⟨g, o, e2, hc2⟩ := hc (by omega)
   cases e2
   rw [add_plain, hc2 j hjl, hj]) h1 h63 hbytes
  exact ⟨v', w', h2, h3, h4, fun a b => h5.2 ⟨a, b⟩⟩
theorem wp_appendA {P : Program} {o : Oper} {a : Act} {K : Act → World → Prop} {Q : Exit → Act → World → Prop} (s x : Operand) (t : TypeId)
  (ho : o.op = .call { callee := .builtin .append, args := #[s, x], argTypes := #[t, t] })
  {z : Value} {bytes : Nat} (ht : P.underlying t = some (.slice e)) (hi : (P.info? e).map (fun i => (i.zero, i.size, i.bytes)) = some (some z, size, bytes)) (hzs : z.cells.size = size) (hsz : 0 < size)
  (hO : Has w (row v e size n xs :: l)) (hs : a.eval s = v) (xv : Value) (m : Nat) (ys : List Value) (hx : a.eval x = xv) (hr : Rd w xv size m ys) (h1 : ∀ u ∈ ys, u.oneCell' = true) (h63 : n + m ≤ maxLen) (hbytes : (n + m) * bytes ≤ 140737488355328)
  (h : ∀ v' w', Has w' (row v' e size (n + m) (xs ++ ys) :: l) → Keep w w' → K (a.put o.dst v') w') : o.wp P a w K Q := by
 obtain ⟨v', w', hrun, h2, h3, -⟩ := hO.appendAny (P := P) t o.type ht hi hzs hsz xv m ys hr h1 h63 hbytes
 unfold Oper.wp execOp
 simp only [ho, resolve, invoke, builtin, Sem.run_bind, Sem.run_pure, Result.andThen_ok, List.map_toArray, List.map_cons, List.map_nil, hs, hx, hrun]
 exact h v' w' h2 h3
theorem wpList_appendA {P : Program} {ops : Array Oper} {rest : List Oper} {o : Oper} {a : Act} {Q : Exit → Act → World → Prop} (hgd : o.guard = none) (s x : Operand) (t : TypeId)
  (ho : o.op = .call { callee := .builtin .append, args := #[s, x], argTypes := #[t, t] })
  {z : Value} {bytes : Nat} (ht : P.underlying t = some (.slice e)) (hi : (P.info? e).map (fun i => (i.zero, i.size, i.bytes)) = some (some z, size, bytes)) (hzs : z.cells.size = size) (hsz : 0 < size)
  (hO : Has w (row v e size n xs :: l)) (hs : a.eval s = v) (xv : Value) (m : Nat) (ys : List Value) (hx : a.eval x = xv) (hr : Rd w xv size m ys) (h1 : ∀ u ∈ ys, u.oneCell' = true) (h63 : n + m ≤ maxLen) (hbytes : (n + m) * bytes ≤ 140737488355328)
  (h : ∀ v' w', Has w' (row v' e size (n + m) (xs ++ ys) :: l) → Keep w w' → wpList P ops Q rest (a.put o.dst v') w') : wpList P ops Q (o :: rest) a w :=
 wpList_plain hgd fun _ hK => wp_appendA s x t ho ht hi hzs hsz hO hs xv m ys hx hr h1 h63 hbytes fun v' w' h2 h3 => hK _ _ (h v' w' h2 h3)
end
end Go.Own
namespace Go.Proofs.YtmgpgbfgemebbaaGreatDoor
open Go.RowKit Go.Own
def Strs (v : Value) (xs : List Str) : HP := row v tStr 1 xs.length (xs.map sV)
theorem Strs.rd {v : Value} {xs : List Str} {w : World} {L : List HP} (h : Has w (Strs v xs :: L)) : Rd w v 1 xs.length (xs.map sV) := Has.rd h
theorem infoStr : (Tryz.prog.info? tStr).map (fun i => (i.zero, i.size, i.bytes)) = some (some (.string ⟨#[]⟩), 1, 16) := by kernel_rfl
def MxL (mx : Int) (L : List HP) : Prop := ∀ w', Has w' L → w'.cell? ⟨0, 0, none⟩ = some (.int .i64 mx)
theorem MxL.cons {mx : Int} {L : List HP} (h : MxL mx L) (A : HP) : MxL mx (A :: L) := fun w' h' => h w' h'.drop
def pieces (s : Str) : List Str := (Lib.splitB (sB [47]) 0 (Lib.countB (sB s) (sB [47])) (sB s)).map (·.data.toList)
def skipP (p : Str) : Bool := p == [] || p == [46]
def partsL : List Str → List Str → Option (List Str)
 | [], acc => some acc
 | p :: ps, acc => if skipP p = true then partsL ps acc else if 24 < p.length then none else partsL ps (acc ++ [p])
def partsM (s : Str) : List Str × Bool := match partsL (pieces s) [] with
 | none => ([], false)
 | some l => (l, decide (l.length ≤ 20))
theorem sB_toList (l : Str) : (sB l).data.toList = l := by simp [sB]
theorem keepBelow {w w' : World} {L : List HP} (h : Has w L) (hb : Below w.heap.size w w') : Has w' L ∧ Keep w w' := ⟨h.frame fun k hk => hb.block k hk, (Keep.refl w).below hb⟩
set_option maxRecDepth 100000 in
theorem sClone (p : Str) (w : World) (L : List HP) (hp : p.length ≤ 200000) (hO : Has w L) : Calls Tryz.prog 232 #[sV p] w fun e w' => e = .returned (sV p) ∧ Has w' L ∧ Keep w w' := by
 have HC := hid (Tryz.stringslite_Clone (sB p) w (by show p.toArray.size ≤ _; simp; omega))
 go_enter Tryz.func232, Tryz.ntmps232
 go_wp2_with fail
 refine HC.out.mono ?_
 rintro e w' ⟨rfl, hb⟩
 obtain ⟨h1, h2⟩ := keepBelow hO hb
 try dsimp only
 go_wp2_with fail
 go_ret
 exact ⟨rfl, h1, h2⟩
set_option maxRecDepth 100000 in
set_option maxHeartbeats 4000000 in
theorem pParts (s : Str) (mx : Int) (w : World) (L : List HP) (hM : MxL mx L) (hs : s.length ≤ 100000) (hO : Has w L) :
  Calls Tryz.prog 181 #[sV s] w fun e w' => ∃ v, e = .returned (.tuple #[v, .bool (partsM s).2]) ∧ Has w' (Strs v (partsM s).1 :: L) ∧ Keep w w' := by
 have HS := hid hs
 have hsp := Tryz.strings_Split (sB s) (sB [47]) mx w (by show s.toArray.size < _; simp; omega) (hM w hO) (by decide)
 have hpc : (Lib.splitB (sB [47]) 0 (Lib.countB (sB s) (sB [47])) (sB s)).map Value.string = (pieces s).map sV := by
  unfold pieces
  rw [List.map_map]
  refine List.map_congr_left fun x _ => ?_
  simp only [Function.comp]
 have hpl : (pieces s).length = Lib.countB (sB s) (sB [47]) + 1 := by
  unfold pieces
  rw [List.length_map]
  exact Lib.splitB_all _ (by decide) 0 _ _ rfl
 rw [hpc] at hsp
 rw [← hpl] at hsp
 have HSP := hid hsp
 have HMX := hid hM
 have HPM := hid (show partsM s = match partsL (pieces s) [] with | none => ([], false) | some l => (l, decide (l.length ≤ 20)) from rfl)
 generalize partsM s = R at *
 have HPL := hid (show (pieces s).length ≤ 200000 from by
  rw [hpl]
  have h1 := Lib.countB_le (sB [47]) (by decide) _ (sB s) (Nat.le_refl _)
  have h2 : (sB s).size = s.length := by show s.toArray.size = _; simp
  rw [h2] at h1
  have := HS.out
  omega)
 generalize pieces s = ps at *
 have HO1 := hid ((hO.alloc (.cells (ps.map sV).toArray tStr)).row_nil tStr 1)
 have HK1 := hid ((Keep.refl w).alloc (.cells (ps.map sV).toArray tStr))
 have hpi : (ps.length : Int) ≤ 200000 := by have := HPL.out; omega
 clear hsp hpc hpl hM hs hO
 go_enter Tryz.func181, Tryz.ntmps181
 go_wp2_with fail
 go_step3
 go_wp2_with fail
 go_step3
 go_wp2_with fail
 refine HSP.out.mono ?_
 rintro e w1 ⟨rfl, rfl⟩
 try dsimp only
 clear HSP
 generalize w.alloc (.cells (ps.map sV).toArray tStr) = w1 at *
 generalize w.heap.size = g at *
 go_wp2_with fail
 go_loopw [4, 10] (fun v i w' => ∃ (k : Nat) (acc : List Str), k ≤ ps.length ∧ acc.length ≤ k ∧ i = .int .i64 k ∧ Hid (partsL ps [] = partsL (ps.drop k) acc) ∧ Hid (Has w' (Strs v acc :: pt g (.cells (ps.map sV).toArray tStr) :: L)) ∧ Hid (Keep w w')) (fun _ i _ => ps.length - (intOf i).toNat)
 case atStart => exact ⟨0, [], by omega, by simp, rfl, hid rfl, HO1, HK1⟩
 case round =>
  clear HO1 HK1
  obtain ⟨k, acc, hk, hac, rfl, HP, HO, HK⟩ := hrel
  obtain ⟨p4, c4, e4, -⟩ := (Strs.rd HO.out).form
  subst e4
  have hk0 : (0 : Int) ≤ (k : Int) := by omega
  by_cases hlt : k < ps.length
  ·have hki : (k : Int) < (ps.length : Int) := by omega
   have hc : wr.cell? ⟨g, k, none⟩ = some (sV ps[k]) := by rw [HO.out.p1.cells k]; simp [hlt]
   have hdr : ps.drop k = ps[k] :: ps.drop (k + 1) := by simp
   generalize ps[k] = p at *
   rw [hdr] at HP
   have HLT := hid hlt
   have HAC := hid hac
   clear hdr hlt hk hac
   by_cases hs1 : p = []
   ·subst hs1
    have HP2 := hid (show partsL ps [] = partsL (ps.drop (k + 1)) acc by rw [HP.out]; rfl)
    go_wp2_with fail
    exact ⟨⟨k + 1, acc, by have := HLT.out; omega, by have := HAC.out; omega, by go_num, HP2, HO, HK⟩, by have := HLT.out; simp [intOf]; omega⟩
   ·by_cases hs2 : p = [46]
    ·subst hs2
     have HP2 := hid (show partsL ps [] = partsL (ps.drop (k + 1)) acc by rw [HP.out]; rfl)
     clear hs1
     go_wp2_with fail
     exact ⟨⟨k + 1, acc, by have := HLT.out; omega, by have := HAC.out; omega, by go_num, HP2, HO, HK⟩, by have := HLT.out; simp [intOf]; omega⟩
    ·have hsk : ¬ skipP p = true := by simp [skipP, hs1, hs2]
     have he1 : p.isEmpty = false := by simpa using hs1
     have he2 : (p == [46]) = false := by simpa using hs2
     have hpl : (p.length : Int) ≤ (p.length : Int) := by omega
     by_cases hlong : 24 < p.length
     ·have HP2 := hid (show partsL ps [] = none by rw [HP.out]; simp only [partsL]; rw [if_neg hsk, if_pos hlong])
      have hsl : (24 : Int) < (p.length : Int) := by omega
      rw [HP2.out] at HPM
      clear hs1 hsk hs2 hlong hpl
      go_wp2_with fail
      try rw [Exit.noGoto_ret]
      go_ret2
      rw [HPM.out]
      exact ⟨.slice none 0 0, rfl, HO.out.drop.drop.row_nil tStr 1, HK.out⟩
     ·have HP2 := hid (show partsL ps [] = partsL (ps.drop (k + 1)) (acc ++ [p]) by rw [HP.out]; simp only [partsL]; rw [if_neg hsk, if_neg hlong])
      have hsl : ¬ (24 : Int) < (p.length : Int) := by omega
      have HL24 := hid (show p.length ≤ 24 by omega)
      clear hs1 hsk hs2 hlong hpl
      have HSC := hid (sClone p wr _ (by have := HL24.out; omega) HO.out)
      go_wp2_with fail
      refine HSC.out.mono ?_
      rintro e w2 ⟨rfl, hO2, hK2⟩
      have HO2 := hid (hO2.alloc (.cells #[sV p] tStr)).p1
      have HK2 := hid ((HK.out.trans hK2).alloc (.cells #[sV p] tStr))
      have hcx := HO2.out.p1.cells 0
      have HAL := hid (show acc.length ≤ 200000 by have := HAC.out; have := HLT.out; have := HPL.out; omega)
      clear hO2 hK2 HO HK HSC
      try dsimp only
      go_wp2_with (at_builtin; refine wpList_append1 rfl _ _ _ rfl Tryz.underlying36 infoStr rfl (sV p) HO2.out rfl 1 w2.heap.size rfl hcx rfl (le_maxLen (by have := HAL.out; omega)) (by have := HAL.out; omega) ?_; intro v5 w5 h5 k5)
      have HO5 := hid (show Has w5 (Strs v5 (acc ++ [p]) :: pt g (.cells (ps.map sV).toArray tStr) :: L) from by
       have h6 : Has w5 (Strs v5 (acc ++ [p]) :: pt w2.heap.size (.cells #[sV p] tStr) :: pt g (.cells (ps.map sV).toArray tStr) :: L) := by
        unfold Strs
        rw [List.map_append, List.length_append]
        exact h5
       exact h6.re 2 [0])
      have HK5 := hid (HK2.out.trans k5)
      clear h5 k5 HO2 HK2 hcx
      go_wp2_with fail
      exact ⟨⟨k + 1, acc ++ [p], by have := HLT.out; omega, by have := HAC.out; simp; omega, by go_num, HP2, HO5, HK5⟩, by have := HLT.out; simp [intOf]; omega⟩
  ·obtain rfl : k = ps.length := by omega
   have hki : ¬ (ps.length : Int) < (ps.length : Int) := by omega
   have HP2 := hid (show partsL ps [] = some acc by rw [HP.out]; simp [partsL])
   rw [HP2.out] at HPM
   clear hlt hk hac HP
   go_wp2_with fail
   try rw [Exit.noGoto_ret]
   go_ret2
   rw [HPM.out]
   dsimp only
   rw [show decide (acc.length ≤ 20) = decide ((acc.length : Int) ≤ 20) from by rw [decide_eq_decide]; omega]
   exact ⟨_, rfl, HO.out.re 2 [0], HK.out⟩
end Go.Proofs.YtmgpgbfgemebbaaGreatDoor
namespace Go.Proofs.YtmgpgbfgemebbaaGreatDoor
open Go.RowKit Go.Own
def isAbs (p : Str) : Bool := Lib.hasPrefix p [47]
def hasNul (p : Str) : Bool := decide (0 ≤ Lib.indexByte p 0)
def splitM (p : Str) : List Str × Int :=
 if (!isAbs p || hasNul p) = true then ([], 2) else if (!(partsM p).2 || decide ((200 : Int) < p.length)) = true then ([], 11) else ((partsM p).1, 0)
theorem sPrefix (p : Str) (w : World) : Calls Tryz.prog 182 #[sV p, .string ⟨#[47]⟩] w fun e w' => e = .returned (.bool (isAbs p)) ∧ w = w' :=
 (Tryz.strings_HasPrefix (sB p) ⟨#[47]⟩ w).mono fun e w' ⟨h1, h2⟩ => ⟨by rw [h1, sB_toList]; rfl, h2.symm⟩
theorem sNul (p : Str) (w : World) : Calls Tryz.prog 180 #[sV p, .string ⟨#[0]⟩] w fun e w' => e = .returned (.bool (hasNul p)) ∧ w = w' :=
 (Tryz.strings_Contains_one (sB p) 0 w).mono fun e w' ⟨h1, h2⟩ => ⟨by rw [h1, sB_toList]; rfl, h2.symm⟩
set_option maxRecDepth 100000 in
set_option maxHeartbeats 4000000 in
theorem pSplit (p : Str) (mx : Int) (w : World) (L : List HP) (hM : MxL mx L) (hs : p.length ≤ 100000) (hO : Has w L) :
  Calls Tryz.prog 143 #[sV p] w fun e w' => ∃ v, e = .returned (.tuple #[v, .int .i64 (splitM p).2]) ∧ Has w' (Strs v (splitM p).1 :: L) ∧ Keep w w' := by
 have HP := hid (pParts p mx w L hM hs hO)
 have HO := hid hO
 have HSM := hid (show splitM p = if (!isAbs p || hasNul p) = true then ([], 2) else if (!(partsM p).2 || decide ((200 : Int) < p.length)) = true then ([], 11) else ((partsM p).1, 0) from rfl)
 have HS1 := hid (fun w => sPrefix p w)
 have HS2 := hid (fun w => sNul p w)
 generalize splitM p = R at *
 generalize isAbs p = b1 at *
 generalize hasNul p = b2 at *
 generalize partsM p = M at *
 obtain ⟨ms, mb⟩ := M
 dsimp only at HP HSM
 clear hM hO
 cases b1
 ·have HR := hid (show R = ([], 2) from by rw [HSM.out]; rfl)
  go_enter Tryz.func143, Tryz.ntmps143
  go_wp2_with fail
  refine (HS1.out w).mono ?_
  rintro e w' ⟨rfl, rfl⟩
  try dsimp only
  go_wp2_with fail
  go_ret2
  rw [HR.out]
  exact ⟨.slice none 0 0, rfl, HO.out.row_nil tStr 1, Keep.refl _⟩
 cases b2
 ·go_enter Tryz.func143, Tryz.ntmps143
  go_wp2_with fail
  refine (HS1.out w).mono ?_
  rintro e w' ⟨rfl, rfl⟩
  try dsimp only
  go_wp2_with fail
  refine (HS2.out w).mono ?_
  rintro e w' ⟨rfl, rfl⟩
  try dsimp only
  go_wp2_with fail
  refine (HP.out).mono ?_
  rintro e w1 ⟨v1, rfl, hO1, hK1⟩
  have HO1 := hid hO1
  have HK1 := hid ((Keep.refl w).trans hK1)
  clear hO1 hK1
  try dsimp only
  obtain ⟨p1, c1, e1, -⟩ := (Strs.rd HO1.out).form
  subst e1
  cases mb
  ·have HR := hid (show R = ([], 11) from by rw [HSM.out]; rfl)
   go_wp2_with fail
   go_ret2
   rw [HR.out]
   exact ⟨.slice none 0 0, rfl, HO1.out.drop.row_nil tStr 1, HK1.out⟩
  ·by_cases hl : (200 : Int) < p.length
   ·have HR := hid (show R = ([], 11) from by rw [HSM.out, decide_eq_true hl]; rfl)
    go_wp2_with fail
    go_ret2
    rw [HR.out]
    exact ⟨.slice none 0 0, rfl, HO1.out.drop.row_nil tStr 1, HK1.out⟩
   ·have HR := hid (show R = (ms, 0) from by rw [HSM.out, decide_eq_false hl]; rfl)
    go_wp2_with fail
    go_ret2
    rw [HR.out]
    exact ⟨_, rfl, HO1.out, HK1.out⟩
 ·have HR := hid (show R = ([], 2) from by rw [HSM.out]; rfl)
  go_enter Tryz.func143, Tryz.ntmps143
  go_wp2_with fail
  refine (HS1.out w).mono ?_
  rintro e w' ⟨rfl, rfl⟩
  try dsimp only
  go_wp2_with fail
  refine (HS2.out w).mono ?_
  rintro e w' ⟨rfl, rfl⟩
  try dsimp only
  go_wp2_with fail
  go_ret2
  rw [HR.out]
  exact ⟨.slice none 0 0, rfl, HO.out.row_nil tStr 1, Keep.refl _⟩
def joinS (xs : List Str) : Str := Lib.join xs [47]
def joinM (xs : List Str) : Str := 47 :: joinS xs
theorem sB_cons (l : Str) : (⟨#[47]⟩ : ByteArray) ++ sB l = sB (47 :: l) := by
 apply ByteArray.ext
 simp [sB]
set_option maxRecDepth 100000 in
set_option maxHeartbeats 4000000 in
theorem pJoin (v : Value) (xs : List Str) (w : World) (L : List HP) (hr : Rd w v 1 xs.length (xs.map sV)) (hl : xs.length ≤ 100000) (hj : (joinS xs).length ≤ 1000000) (hO : Has w L) :
  Calls Tryz.prog 186 #[v] w fun e w' => e = .returned (sV (joinM xs)) ∧ Has w' L ∧ Keep w w' := by
 obtain ⟨p, c, rfl, hc, -, hcs⟩ := hr.form
 have HJ : Calls Tryz.prog 236 #[.slice p xs.length c, .string ⟨#[47]⟩] w fun e w' => e = .returned (sV (joinS xs)) ∧ Has w' L ∧ Keep w w' := by
  rcases xs with _ | ⟨x, xs⟩
  ·refine (Tryz.strings_Join_none p c ⟨#[47]⟩ w).mono ?_
   rintro e w' ⟨rfl, rfl⟩
   exact ⟨rfl, hO, Keep.refl _⟩
  ·obtain ⟨g, o, rfl, hcs2⟩ := hcs (by simp)
   have hb : g < w.heap.size := by
    have h0 := hcs2 0 (by simp)
    exact World.block_lt_of_cell? w ⟨g, o, none⟩ h0
   have h := Tryz.strings_Join g o c ((x :: xs).map sB) ⟨#[47]⟩ w (fun j y hy => by
    rw [List.getElem?_map] at hy
    obtain ⟨z, hz, rfl⟩ := Option.map_eq_some_iff.1 hy
    rw [hcs2 j (by have := (List.getElem?_eq_some_iff.1 hz).1; omega), List.getElem?_map, hz]
    rfl) hb (by rw [List.length_map]; omega) (by rw [List.length_map]; exact hc) (by
    rw [List.map_map, show ((fun y : ByteArray => y.data.toList) ∘ sB) = id from by funext y; exact sB_toList y, List.map_id]
    exact Nat.le_trans hj (by omega))
   rw [List.map_map, show ((fun y : ByteArray => y.data.toList) ∘ sB) = id from by funext y; exact sB_toList y, List.map_id, List.length_map] at h
   refine h.mono ?_
   rintro e w' ⟨rfl, hb⟩
   obtain ⟨h1, h2⟩ := keepBelow hO hb
   exact ⟨rfl, h1, h2⟩
 have HJ := hid HJ
 clear hcs hr hO
 go_enter Tryz.func186, Tryz.ntmps186
 go_wp2_with fail
 refine HJ.out.mono ?_
 rintro e w1 ⟨rfl, hO1, hK1⟩
 have HO1 := hid hO1
 have HK1 := hid hK1
 clear hO1 hK1
 try dsimp only
 go_wp2_with fail
 go_ret
 rw [show sV (joinM xs) = .string (⟨#[47]⟩ ++ sB (joinS xs)) from by rw [sB_cons]; rfl]
 exact ⟨rfl, HO1.out, HK1.out⟩
def targetM (p : Str) : List Str × Bool × Int :=
 if (p.isEmpty || hasNul p) = true then ([], false, 2) else if (!(partsM p).2 || decide ((100 : Int) < p.length)) = true then ([], false, 11) else ((partsM p).1, isAbs p, 0)
set_option maxRecDepth 100000 in
set_option maxHeartbeats 4000000 in
theorem pTarget (p : Str) (mx : Int) (w : World) (L : List HP) (hM : MxL mx L) (hs : p.length ≤ 100000) (hO : Has w L) :
  Calls Tryz.prog 122 #[sV p] w fun e w' => ∃ v, e = .returned (.tuple #[v, .bool (targetM p).2.1, .int .i64 (targetM p).2.2]) ∧ Has w' (Strs v (targetM p).1 :: L) ∧ Keep w w' := by
 have HP := hid (pParts p mx w L hM hs hO)
 have HO := hid hO
 have HSM := hid (show targetM p = if (p.isEmpty || hasNul p) = true then ([], false, 2) else if (!(partsM p).2 || decide ((100 : Int) < p.length)) = true then ([], false, 11) else ((partsM p).1, isAbs p, 0) from rfl)
 have HS1 := hid (fun w => sPrefix p w)
 have HS2 := hid (fun w => sNul p w)
 generalize targetM p = R at *
 generalize isAbs p = b1 at *
 generalize hasNul p = b2 at *
 generalize partsM p = M at *
 obtain ⟨ms, mb⟩ := M
 dsimp only at HP HSM
 clear hM hO
 cases he : p.isEmpty
 ·rw [he] at HSM
  cases b2
  ·go_enter Tryz.func122, Tryz.ntmps122
   go_wp2_with fail
   refine (HS2.out w).mono ?_
   rintro e w' ⟨rfl, rfl⟩
   try dsimp only
   go_wp2_with fail
   refine (HP.out).mono ?_
   rintro e w1 ⟨v1, rfl, hO1, hK1⟩
   have HO1 := hid hO1
   have HK1 := hid ((Keep.refl w).trans hK1)
   clear hO1 hK1
   try dsimp only
   obtain ⟨p1, c1, e1, -⟩ := (Strs.rd HO1.out).form
   subst e1
   cases mb
   ·have HR := hid (show R = ([], false, 11) from by rw [HSM.out]; rfl)
    go_wp2_with fail
    go_ret3
    rw [HR.out]
    exact ⟨.slice none 0 0, rfl, HO1.out.drop.row_nil tStr 1, HK1.out⟩
   ·by_cases hl : (100 : Int) < p.length
    ·have HR := hid (show R = ([], false, 11) from by rw [HSM.out, decide_eq_true hl]; rfl)
     go_wp2_with fail
     go_ret3
     rw [HR.out]
     exact ⟨.slice none 0 0, rfl, HO1.out.drop.row_nil tStr 1, HK1.out⟩
    ·have HR := hid (show R = (ms, b1, 0) from by rw [HSM.out, decide_eq_false hl]; rfl)
     go_wp2_with fail
     refine (HS1.out w1).mono ?_
     rintro e w' ⟨rfl, rfl⟩
     try dsimp only
     go_wp2_with fail
     go_ret3
     rw [HR.out]
     exact ⟨_, rfl, HO1.out, HK1.out⟩
  ·have HR := hid (show R = ([], false, 2) from by rw [HSM.out]; rfl)
   go_enter Tryz.func122, Tryz.ntmps122
   go_wp2_with fail
   refine (HS2.out w).mono ?_
   rintro e w' ⟨rfl, rfl⟩
   try dsimp only
   go_wp2_with fail
   go_ret3
   rw [HR.out]
   exact ⟨.slice none 0 0, rfl, HO.out.row_nil tStr 1, Keep.refl _⟩
 ·rw [he] at HSM
  have HR := hid (show R = ([], false, 2) from by rw [HSM.out]; rfl)
  go_enter Tryz.func122, Tryz.ntmps122
  go_wp2_with fail
  go_ret3
  rw [HR.out]
  exact ⟨.slice none 0 0, rfl, HO.out.row_nil tStr 1, Keep.refl _⟩
def lastM (p : Str) : Str × Str × Int :=
 if (splitM p).2 ≠ 0 then ([], [], (splitM p).2) else
  match (splitM p).1.getLast? with
  | none => ([], [], 2)
  | some x => if x = [46, 46] then ([], [], 2) else (joinM (splitM p).1.dropLast, x, 0)
set_option maxRecDepth 100000 in
set_option maxHeartbeats 4000000 in
theorem pLast (p : Str) (mx : Int) (w : World) (L : List HP) (hM : MxL mx L) (hs : p.length ≤ 100000) (hl : (splitM p).1.length ≤ 100000) (hj : (joinS (splitM p).1.dropLast).length ≤ 1000000) (hO : Has w L) :
  Calls Tryz.prog 125 #[sV p] w fun e w' => e = .returned (.tuple #[sV (lastM p).1, sV (lastM p).2.1, .int .i64 (lastM p).2.2]) ∧ Has w' L ∧ Keep w w' := by
 have HP := hid (pSplit p mx w L hM hs hO)
 have HSM := hid (show lastM p = if (splitM p).2 ≠ 0 then ([], [], (splitM p).2) else match (splitM p).1.getLast? with | none => ([], [], 2) | some x => if x = [46, 46] then ([], [], 2) else (joinM (splitM p).1.dropLast, x, 0) from rfl)
 generalize lastM p = R at *
 generalize splitM p = M at *
 obtain ⟨ms, me⟩ := M
 dsimp only at HP HSM hj hl
 have HJ := hid hj
 have HL := hid hl
 clear hM hO hj
 by_cases he : me = 0
 ·subst he
  rw [if_neg (by simp)] at HSM
  rcases List.eq_nil_or_concat ms with rfl | ⟨ys, x, rfl⟩
  ·have HR := hid (show R = ([], [], 2) from by rw [HSM.out]; rfl)
   go_enter Tryz.func125, Tryz.ntmps125
   go_wp2_with fail
   refine (HP.out).mono ?_
   rintro e w1 ⟨v1, rfl, hO1, hK1⟩
   have HO1 := hid hO1
   have HK1 := hid ((Keep.refl w).trans hK1)
   clear hO1 hK1
   try dsimp only
   obtain ⟨p1, c1, e1, -⟩ := (Strs.rd HO1.out).form
   subst e1
   try dsimp only
   go_wp2_with fail
   go_ret3
   rw [HR.out]
   exact ⟨rfl, HO1.out.drop, HK1.out⟩
  ·rw [List.concat_eq_append] at *
   rw [List.getLast?_concat, List.dropLast_concat] at HSM
   rw [List.dropLast_concat] at HJ
   dsimp only at HSM
   have hlen : ((ys ++ [x]).length : Int) = (ys.length : Int) + 1 := by simp
   have hal : (ys.length : Int) ≤ 100000 := by have := HL.out; simp at this; omega
   have ha0 : (0 : Int) ≤ (ys.length : Int) := by omega
   by_cases hx : x = [46, 46]
   ·have HR := hid (show R = ([], [], 2) from by rw [HSM.out, if_pos hx])
    subst hx
    go_enter Tryz.func125, Tryz.ntmps125
    go_wp2_with fail
    refine (HP.out).mono ?_
    rintro e w1 ⟨v1, rfl, hO1, hK1⟩
    have HO1 := hid hO1
    have HK1 := hid ((Keep.refl w).trans hK1)
    clear hO1 hK1
    try dsimp only
    obtain ⟨p1, c1, e1, -, -, hcs⟩ := (Strs.rd HO1.out).form
    obtain ⟨g, o, rfl, hcs2⟩ := hcs (by simp)
    subst e1
    have hc := hcs2 ys.length (by simp)
    rw [List.getElem?_map, List.getElem?_concat_length] at hc
    have hc1 : w1.cell? ⟨g, o + ys.length, none⟩ = some (sV [46, 46]) := hc
    clear hcs hcs2 hc
    have hli : (ys.length : Int) < (ys.length : Int) + 1 := by omega
    go_wp2_with fail
    go_ret3
    rw [HR.out]
    exact ⟨rfl, HO1.out.drop, HK1.out⟩
   ·have HR := hid (show R = (joinM ys, x, 0) from by rw [HSM.out, if_neg hx])
    have hxb : (x == [46, 46]) = false := by simpa using hx
    go_enter Tryz.func125, Tryz.ntmps125
    go_wp2_with fail
    refine (HP.out).mono ?_
    rintro e w1 ⟨v1, rfl, hO1, hK1⟩
    have HO1 := hid hO1
    have HK1 := hid ((Keep.refl w).trans hK1)
    clear hO1 hK1
    try dsimp only
    obtain ⟨p1, c1, e1, hcap, -, hcs⟩ := (Strs.rd HO1.out).form
    obtain ⟨g, o, rfl, hcs2⟩ := hcs (by simp)
    subst e1
    have hc := hcs2 ys.length (by simp)
    rw [List.getElem?_map, List.getElem?_concat_length] at hc
    have hc1 : w1.cell? ⟨g, o + ys.length, none⟩ = some (sV x) := hc
    have HX := hid (fun (w' : World) (h : Has w' (Strs (.slice (some ⟨g, o, none⟩) (ys ++ [x]).length c1) (ys ++ [x]) :: L)) => show w'.cell? ⟨g, o + ys.length, none⟩ = some (sV x) from by
     obtain ⟨p', c', e', -, -, hcs'⟩ := (Strs.rd h).form
     obtain ⟨g', o', e2, hcs3⟩ := hcs' (by simp)
     subst e2
     simp only [Value.slice.injEq, Option.some.injEq, Addr.mk.injEq, and_true, true_and] at e'
     obtain ⟨⟨rfl, rfl⟩, rfl⟩ := e'
     have hc := hcs3 ys.length (by simp)
     rw [List.getElem?_map, List.getElem?_concat_length] at hc
     exact hc)
    have HRD := hid (show Rd w1 (.slice (some ⟨g, o, none⟩) ys.length c1) 1 ys.length (ys.map sV) from
     ⟨by simp, le_maxLen (by omega), some ⟨g, o, none⟩, c1, rfl, by simp at hcap; omega, fun _ => ⟨g, o, rfl, fun j hj => by
      rw [hcs2 j (by simp; omega), List.getElem?_map, List.getElem?_append_left (by omega), List.getElem?_map]⟩⟩)
    have hyl : ys.length + 1 ≤ c1 := by simpa using hcap
    have hyi : (ys.length : Int) ≤ (c1 : Int) := by omega
    have HYL := hid (show ys.length ≤ 100000 by omega)
    clear hcs hcs2 hc hcap hx
    go_upto_region 7 with fail
    refine region_text (fun w' => w'.cell? ⟨g, o + ys.length, none⟩ = some (sV x) ∧ True) (by kernel_rfl) (by kernel_rfl) ⟨HX.out _ HO1.out.drew, trivial⟩ ?_
    repeat (first | refine wr2 ?_ | refine wk ?_)
    refine wa fun K hK => ?_
    go_simp
    refine (pJoin (.slice (some ⟨g, o, none⟩) ys.length c1) ys w1.drew _ (HRD.out.cellsOld fun k _ => rfl) HYL.out HJ.out HO1.out.drew).mono ?_
    rintro e w2 ⟨rfl, hO2, hK2⟩
    have HO2 := hid hO2
    have HK2 := hid ((HK1.out.drew).trans hK2)
    clear hO2 hK2
    try dsimp only
    refine hK.out _ _ (⟨HX.out _ HO2.out, trivial⟩) ?_
    clear hK K
    try simp only [Act.put, List.setIfInBounds_toArray, List.set_cons_zero, List.set_cons_succ]
    repeat (first | refine wr2 ?_ | refine wk ?_)
    refine wpL_nil ?_
    go_wp2_with fail
    go_ret3
    rw [HR.out]
    exact ⟨rfl, HO2.out.drop, HK2.out⟩
 ·have HR := hid (show R = ([], [], me) from by rw [HSM.out, if_pos he])
  go_enter Tryz.func125, Tryz.ntmps125
  go_wp2_with fail
  refine (HP.out).mono ?_
  rintro e w1 ⟨v1, rfl, hO1, hK1⟩
  have HO1 := hid hO1
  have HK1 := hid ((Keep.refl w).trans hK1)
  clear hO1 hK1
  try dsimp only
  obtain ⟨p1, c1, e1, -⟩ := (Strs.rd HO1.out).form
  subst e1
  go_wp2_with fail
  go_ret3
  rw [HR.out]
  exact ⟨rfl, HO1.out.drop, HK1.out⟩
end Go.Proofs.YtmgpgbfgemebbaaGreatDoor
namespace Go.Tb
structure Slot where
 node : Int
 off : Int
 flags : Int
 on : Bool
 deriving DecidableEq
def none4 : Slot := ⟨0, 0, 0, false⟩
def Slot.enc (s : Slot) : List Value := [.int .i64 s.node, .int .i64 s.off, .int .i64 s.flags, .bool s.on]
def encs : List Slot → List Value
 | [] => []
 | s :: T => s.enc ++ encs T
def cells (T : List Slot) : Array Value := (encs T).toArray
theorem encs_len (T : List Slot) : (encs T).length = T.length * 4 := by
 induction T with
 | nil => rfl
 | cons s T ih => simp [encs, Slot.enc, ih]; omega
theorem encs_at (T : List Slot) (i : Nat) (h : i < T.length) :
  (encs T)[i * 4]? = some (.int .i64 T[i].node) ∧ (encs T)[i * 4 + 1]? = some (.int .i64 T[i].off) ∧ (encs T)[i * 4 + 2]? = some (.int .i64 T[i].flags) ∧ (encs T)[i * 4 + 3]? = some (.bool T[i].on) := by
 induction T generalizing i with
 | nil => simp at h
 | cons s T ih =>
  cases i with
  | zero => simp [encs, Slot.enc]
  | succ i =>
   have := ih i (by simpa using h)
   simp only [encs, Slot.enc, List.getElem_cons_succ, show (i + 1) * 4 = i * 4 + 4 by omega, show i * 4 + 4 + 1 = i * 4 + 1 + 4 by omega, show i * 4 + 4 + 2 = i * 4 + 2 + 4 by omega, show i * 4 + 4 + 3 = i * 4 + 3 + 4 by omega, List.cons_append, List.nil_append, List.getElem?_cons_succ]
   exact this
theorem cells_at (T : List Slot) (i : Nat) (h : i < T.length) :
  (cells T)[i * 4]? = some (.int .i64 T[i].node) ∧ (cells T)[i * 4 + 1]? = some (.int .i64 T[i].off) ∧ (cells T)[i * 4 + 2]? = some (.int .i64 T[i].flags) ∧ (cells T)[i * 4 + 3]? = some (.bool T[i].on) := by
 simpa [cells] using encs_at T i h
theorem encs_set (T : List Slot) (i : Nat) (h : i < T.length) (s : Slot) :
  ((((encs T).set (i * 4) (.int .i64 s.node)).set (i * 4 + 1) (.int .i64 s.off)).set (i * 4 + 2) (.int .i64 s.flags)).set (i * 4 + 3) (.bool s.on) = encs (T.set i s) := by
 induction T generalizing i with
 | nil => simp at h
 | cons t T ih =>
  cases i with
  | zero => simp [encs, Slot.enc]
  | succ i =>
   have := ih i (by simpa using h)
   simp only [encs, Slot.enc, List.set_cons_succ, show (i + 1) * 4 = i * 4 + 4 by omega, show i * 4 + 4 + 1 = i * 4 + 1 + 4 by omega, show i * 4 + 4 + 2 = i * 4 + 2 + 4 by omega, show i * 4 + 4 + 3 = i * 4 + 3 + 4 by omega, List.cons_append, List.nil_append]
   rw [this]
theorem cells_set (T : List Slot) (i : Nat) (h : i < T.length) (s : Slot) :
  ((((cells T).setIfInBounds (i * 4) (.int .i64 s.node)).setIfInBounds (i * 4 + 1) (.int .i64 s.off)).setIfInBounds (i * 4 + 2) (.int .i64 s.flags)).setIfInBounds (i * 4 + 3) (.bool s.on) = cells (T.set i s) := by
 simp [cells, encs_set T i h s]
def idx : Option Nat → Int
 | some i => i
 | none => -1
theorem idx_some {T : List Slot} {p : Slot → Bool} {k : Nat} (hk : k < T.length) (h : p T[k] = true) (hn : ∀ j (hj : j < T.length), j < k → p T[j] = false) : idx (T.findIdx? p) = k := by
 have : T.findIdx? p = some k := by
  rw [List.findIdx?_eq_some_iff_getElem]
  exact ⟨hk, h, fun j hj => by simp [hn j (by omega) hj]⟩
 rw [this]; rfl
theorem idx_none {T : List Slot} {p : Slot → Bool} (hn : ∀ j (hj : j < T.length), p T[j] = false) : idx (T.findIdx? p) = -1 := by
 have : T.findIdx? p = none := by
  rw [List.findIdx?_eq_none_iff]
  intro x hx
  obtain ⟨j, hj, rfl⟩ := List.getElem_of_mem hx
  exact hn j hj
 rw [this]; rfl
theorem drop_app {α : Type} (a b : List α) (n m : Nat) (h : a.length = n) : (a ++ b).drop (n + m) = b.drop m := by
 subst h; simp
theorem encs_extract (T : List Slot) (i : Nat) (h : i < T.length) : ((encs T).drop (i * 4)).take 4 = T[i].enc := by
 induction T generalizing i with
 | nil => simp at h
 | cons s T ih =>
  cases i with
  | zero => simp [encs, Slot.enc]
  | succ i =>
   have := ih i (by simpa using h)
   simp only [encs, List.getElem_cons_succ, show (i + 1) * 4 = 4 + i * 4 by omega]
   rw [drop_app s.enc (encs T) 4 (i * 4) rfl]
   exact this
theorem cells_extract (T : List Slot) (i : Nat) (h : i < T.length) : (cells T).extract (i * 4) (i * 4 + 4) = T[i].enc.toArray := by
 simp [cells, List.extract_toArray, List.extract_eq_take_drop, encs_extract T i h]
def look (T : List Slot) (fd : Int) : Option Slot :=
 if 0 ≤ fd ∧ fd < 16 then (match T[fd.toNat]? with | some s => if s.on then some s else none | none => none) else none
def opn (T : List Slot) (n fl : Int) : (Int × Int) × List Slot :=
 match T.findIdx? (fun s => !s.on) with
 | some k => ((k, 0), T.set k ⟨n, 0, fl, true⟩)
 | none => ((0, 14), T)
def cls (T : List Slot) (fd : Int) : (Int × Int) × List Slot :=
 match look T fd with
 | some s => ((s.node, 0), T.set fd.toNat none4)
 | none => ((0, 10), T)
def mov (T : List Slot) (fd off : Int) : Int × List Slot :=
 match look T fd with
 | some s => if off < 0 then (2, T) else (0, T.set fd.toNat { s with off := off })
 | none => (10, T)
def get (T : List Slot) (fd : Int) : Slot × Int :=
 match look T fd with
 | some s => (s, 0)
 | none => (none4, 10)
def there (T : List Slot) (fd : Int) : Bool := (look T fd).isSome
def holds (T : List Slot) (n : Int) : Bool := T.any fun s => s.on && s.node == n
def lst (T : List Slot) (k : Nat) : List Int := ((T.zipIdx.take k).filter fun x => x.1.on).map fun x => (x.2 : Int)
theorem look_in {T : List Slot} {fd : Int} {s : Slot} (hT : T.length = 16) (h : look T fd = some s) : ∃ k : Nat, ∃ hk : k < T.length, fd = k ∧ T[k] = s ∧ s.on = true := by
 unfold look at h
 split at h
 ·rename_i hb
  have hk : fd.toNat < T.length := by omega
  rw [List.getElem?_eq_getElem hk] at h
  simp only at h
  split at h
  ·rename_i ho
   cases h
   exact ⟨fd.toNat, hk, by omega, rfl, ho⟩
  ·cases h
 ·cases h
theorem look_out {T : List Slot} {fd : Int} (hT : T.length = 16) (h : look T fd = none) : (fd < 0 ∨ 16 ≤ fd) ∨ ∃ k : Nat, ∃ hk : k < T.length, fd = k ∧ T[k].on = false := by
 unfold look at h
 split at h
 ·rename_i hb
  have hk : fd.toNat < T.length := by omega
  rw [List.getElem?_eq_getElem hk] at h
  simp only at h
  split at h
  ·cases h
  ·rename_i ho
   exact .inr ⟨fd.toNat, hk, by omega, by simpa using ho⟩
 ·rename_i hb; left; omega
theorem lst_succ (T : List Slot) (k : Nat) (hk : k < T.length) : lst T (k + 1) = lst T k ++ if T[k].on then [(k : Int)] else [] := by
 unfold lst
 rw [List.take_succ_eq_append_getElem (by simpa using hk), List.filter_append, List.map_append]
 congr 1
 simp [List.filter_cons]
 split <;> simp
theorem lst_len (T : List Slot) (k : Nat) (hk : k ≤ T.length) : (lst T k).length ≤ k := by
 unfold lst
 rw [List.length_map]
 refine Nat.le_trans (List.length_filter_le _ _) ?_
 simp; omega
theorem idx_ge (T : List Slot) (p : Slot → Bool) : (0 ≤ idx (T.findIdx? p)) ↔ T.any p = true := by
 cases h : T.findIdx? p with
 | none =>
  rw [List.findIdx?_eq_none_iff] at h
  simp [idx]
  intro x hx; simpa using h x hx
 | some k =>
  rw [List.findIdx?_eq_some_iff_getElem] at h
  obtain ⟨hk, hp, _⟩ := h
  simp [idx]
  exact ⟨_, List.getElem_mem hk, hp⟩
theorem opn_len (T : List Slot) (n fl : Int) (h : T.length = 16) : (opn T n fl).2.length = 16 := by
 unfold opn; split <;> simp [h]
def fslot (j : Nat) : Slot := ⟨(j : Int) + 1, 0, (j : Int), true⟩
def full (i : Nat) : List Slot := (List.range i).map fslot ++ List.replicate (16 - i) none4
end Go.Tb
namespace Go.Proofs.YtmgpgbfgemebbaaGreatDoor
open Go.RowKit Go.Own
structure Nod where
 kind : Int
 data : List Int
 wr : List Bool
 names : List (Str × Int)
 most : Int
 links : Int
 above : Int
def nod0 : Nod := ⟨0, [], [], [], 0, 0, 0⟩
structure Tre where
 nodes : List (Int × Nod)
 last : Int
 tab : List Tb.Slot
structure Spt where
 node : Int
 dir : Int
 name : Str
def spt0 : Spt := ⟨0, 0, []⟩
def strOf (xs : List Int) : Str := xs.map fun x => UInt8.ofNat x.toNat
def bytesOf (s : Str) : List Int := s.map fun b => (b.toNat : Int)
namespace Tre
variable (S : Tre)
def at_ (n : Int) : Nod := (fnd S.nodes n).getD nod0
def up (n : Int) : Int := if (S.at_ n).above = 0 then n else (S.at_ n).above
theorem more_len (t : Str) : (targetM t).1.length ≤ 20 := by
 unfold targetM
 split
 ·simp
 ·split
  ·simp
  ·rename_i h
   simp only [Bool.or_eq_true, Bool.not_eq_true', not_or] at h
   have h1 : (partsM t).2 = true := by simpa using h.1
   show (partsM t).1.length ≤ 20
   unfold partsM at h1 ⊢
   split
   ·simp
   ·rename_i l hl
    rw [hl] at h1
    simpa using h1
def walk (s : Spt) (hops : Nat) (parts : List Str) (follow : Bool) : Spt × Int :=
 match parts with
 | [] => (s, 0)
 | p :: ps =>
  if (S.at_ s.node).kind ≠ 2 then (spt0, 7)
  else if p = [46, 46] then walk ⟨S.up s.node, 0, []⟩ hops ps follow
  else match fnd (S.at_ s.node).names p with
   | none => (spt0, 5)
   | some c =>
    if (S.at_ c).kind = 3 ∧ (ps ≠ [] ∨ follow = true) then
     if h : 8 ≤ hops then (spt0, 12)
     else walk ⟨if (targetM (strOf (S.at_ c).data)).2.1 = true then 1 else s.node, 0, []⟩ (hops + 1) ((targetM (strOf (S.at_ c).data)).1 ++ ps) follow
    else walk ⟨c, s.node, p⟩ hops ps follow
 termination_by (9 - hops, parts.length)
 decreasing_by
 all_goals simp_wf
 all_goals first
  | (apply Prod.Lex.right; omega)
  | (apply Prod.Lex.left; omega)
  | omega
def find (p : Str) (follow : Bool) : Spt × Int :=
 if (splitM p).2 ≠ 0 then (spt0, (splitM p).2) else S.walk ⟨1, 0, []⟩ 0 (splitM p).1 follow
end Tre
end Go.Proofs.YtmgpgbfgemebbaaGreatDoor
namespace Go.Proofs.YtmgpgbfgemebbaaGreatDoor
open Go.RowKit Go.Own
def Tab (b : Nat) (T : List Tb.Slot) : HP := pt b (.cells (Tb.cells T) 127)
theorem tabNew (w : World) (L : List HP) (hO : Has w L) :
  Calls Tryz.prog 45 #[] w fun e w' => ∃ b, e = .returned (.pointer (some ⟨b, 0, none⟩)) ∧ Has w' (Tab b (List.replicate 16 Tb.none4) :: L) ∧ Keep w w' := by
 go_enter Tryz.func45, Tryz.ntmps45
 go_wp2
 go_ret
 exact ⟨_, rfl, hO.alloc _, (Keep.refl _).alloc _⟩
theorem tabOpen1 (s : Tb.Slot) (w : World) (L : List HP) (hO : Has w L) :
  Calls Tryz.prog 177 #[.agg s.enc.toArray] w fun e w' => e = .returned (.bool (!s.on)) ∧ Has w' L ∧ Keep w w' := by
 obtain ⟨n, o, f, b⟩ := s
 simp only [Tb.Slot.enc]
 go_enter Tryz.func177, Tryz.ntmps177
 go_wp2
 go_ret
 exact ⟨rfl, hO.alloc' _, (Keep.refl _).alloc _⟩
theorem tabIndexFunc (b : Nat) (T : List Tb.Slot) (p : Tb.Slot → Bool) (f : FuncId) (cap : Array Value) (W : World) (L : List HP) (hT : T.length = 16)
  (hO : Has W (Tab b T :: L))
  (hcf : ∀ args w, (callFunc f args).run Tryz.prog w = .ok (.enter f args) w)
  (hf : ∀ s ∈ T, ∀ w, Has w (Tab b T :: L) → Calls Tryz.prog f (#[.agg s.enc.toArray] ++ cap) w fun e w' => e = .returned (.bool (p s)) ∧ Has w' (Tab b T :: L) ∧ Keep w w') :
  Calls Tryz.prog 176 #[.slice (some ⟨b, 0, none⟩) 16 16, .func (.func f) #[] cap] W fun e w' => e = .returned (.int .i64 (Tb.idx (T.findIdx? p))) ∧ Has w' (Tab b T :: L) ∧ Keep W w' := by
 have Hf := hid hf
 clear hf
 have HO := hid hO
 clear hO
 have HT := hid hT
 clear hT
 go_enter Tryz.func176, Tryz.ntmps176
 go_wp2
 go_loopw [8, 5] (fun i _ w => ∃ k : Nat, k ≤ 16 ∧ i = .int .i64 k ∧ Hid (∀ j (h : j < T.length), j < k → p T[j] = false) ∧ Hid (Has w (Tab b T :: L)) ∧ Hid (Keep W w)) (fun i _ _ => 16 - (intOf i).toNat)
 case atStart => exact ⟨0, by omega, rfl, hid (by omega), HO, hid (Keep.refl _)⟩
 case round =>
  obtain ⟨k, hk, rfl, HN, HOw, HK⟩ := hrel
  by_cases hlt : k < 16
  ·have hl : k < T.length := by rw [HT.out]; exact hlt
   obtain ⟨c0, c1, c2, c3⟩ := Tb.cells_at T k hl
   have hc := HOw.out.cells
   go_wp2_with fail
   refine (Hf.out T[k] (List.getElem_mem hl) _ HOw.out).mono ?_
   rintro e w' ⟨rfl, hO1, hK1⟩
   have HO1 := hid hO1
   have HK1 := hid (HK.out.trans hK1)
   clear hO1 hK1 hc c0 c1 c2 c3 hcf
   rcases hp : p T[k] with _ | _
   ·have Hp := hid hp
    clear hp
    go_wp2_with fail
    go_roundw
    case rel =>
     refine ⟨k + 1, by omega, by go_num, hid fun j hj h => ?_, HO1, HK1⟩
     by_cases hjk : j = k
     ·subst hjk; exact Hp.out
     ·exact HN.out j hj (by omega)
    case measure => simp [intOf]; omega
   ·have Hp := hid hp
    clear hp
    go_wp2_with fail
    go_ret
    exact ⟨by rw [Tb.idx_some hl Hp.out HN.out]; rfl, HO1.out, HK1.out⟩
  ·go_wp2_with fail
   go_ret
   exact ⟨by rw [Tb.idx_none (fun j hj => HN.out j hj (by have := HT.out; omega))]; rfl, HOw.out, HK.out⟩
theorem tabCf1 (args : Array Value) (w : World) : (callFunc 177 args).run Tryz.prog w = .ok (.enter 177 args) w := by
 kernel_rfl
theorem tabCf2 (args : Array Value) (w : World) : (callFunc 229 args).run Tryz.prog w = .ok (.enter 229 args) w := by
 kernel_rfl
theorem tabOpen (b : Nat) (T : List Tb.Slot) (n fl : Int) (w : World) (L : List HP) (hT : T.length = 16) (hO : Has w (Tab b T :: L)) :
  Calls Tryz.prog 115 #[.pointer (some ⟨b, 0, none⟩), .int .i64 n, .int .i64 fl] w fun e w' => e = .returned (.tuple #[.int .i64 (Tb.opn T n fl).1.1, .int .i64 (Tb.opn T n fl).1.2]) ∧ Has w' (Tab b (Tb.opn T n fl).2 :: L) ∧ Keep w w' := by
 have H := hid (tabIndexFunc b T (fun s => !s.on) 177 #[] w L hT hO tabCf1 (fun s _ w' hO' => tabOpen1 s w' _ hO'))
 have HT := hid hT
 clear hO hT
 rcases hf : T.findIdx? (fun s => !s.on) with _ | k
 ·have HF := hid hf
  clear hf
  go_enter Tryz.func115, Tryz.ntmps115
  go_wp2_with fail
  refine H.out.mono ?_
  rintro e w' ⟨rfl, hO1, hK1⟩
  rw [HF.out]
  have HO1 := hid hO1
  have HK1 := hid hK1
  clear hO1 hK1
  simp only [Tb.idx]
  go_wp2_with fail
  go_ret2
  rw [show Tb.opn T n fl = ((0, 14), T) by simp only [Tb.opn, HF.out]]
  exact ⟨rfl, HO1.out, HK1.out⟩
 ·have hk : k < 16 := by rw [List.findIdx?_eq_some_iff_getElem] at hf; obtain ⟨h, _⟩ := hf; have := HT.out; omega
  have hl : k < T.length := by have := HT.out; omega
  have HF := hid hf
  clear hf
  go_enter Tryz.func115, Tryz.ntmps115
  go_wp2_with fail
  refine H.out.mono ?_
  rintro e w' ⟨rfl, hO1, hK1⟩
  rw [HF.out]
  have HO1 := hid hO1
  have HK1 := hid hK1
  simp only [Tb.idx]
  obtain ⟨c0, c1, c2, c3⟩ := Tb.cells_at T k hl
  have hc := hO1.cells
  have ht := hO1.thaw
  clear hO1 hK1
  go_wp2_with fail
  go_ret2
  rw [show Tb.opn T n fl = (((k : Int), 0), T.set k ⟨n, 0, fl, true⟩) by simp only [Tb.opn, HF.out]]
  refine ⟨rfl, ?_, (((HK1.out.set _ _).set _ _).set _ _).set _ _⟩
  have h := (((HO1.out.set (k * 4) (.int .i64 n)).set (k * 4 + 1) (.int .i64 0)).set (k * 4 + 2) (.int .i64 fl)).set (k * 4 + 3) (.bool true)
  rw [Tb.cells_set T k hl ⟨n, 0, fl, true⟩] at h
  exact h
theorem tabAtOut (fd : Int) (b : Nat) (w : World) (T : List Tb.Slot) (L : List HP) (hT : T.length = 16) (hO : Has w (Tab b T :: L)) (h : Tb.look T fd = none) :
  Calls Tryz.prog 178 #[.pointer (some ⟨b, 0, none⟩), .int .i64 fd] w fun e w' => e = .returned (.tuple #[.pointer none, .int .i64 10]) ∧ w = w' := by
 rcases Tb.look_out hT h with (h | h) | ⟨k, hk, rfl, hon⟩
 ·go_enter Tryz.func178, Tryz.ntmps178
  go_wp2
  go_ret2
  exact ⟨rfl, rfl⟩
 ·have h' : ¬ fd < 0 := by omega
  go_enter Tryz.func178, Tryz.ntmps178
  go_wp2
  go_ret2
  exact ⟨rfl, rfl⟩
 ·have hc : w.cell? ⟨b, k * 4 + 3, none⟩ = some (.bool false) := by rw [hO.cells, (Tb.cells_at T k hk).2.2.2, hon]
  have hk' : k < 16 := by omega
  clear hO hT h hon hk
  go_enter Tryz.func178, Tryz.ntmps178
  go_wp2
  go_ret2
  exact ⟨rfl, rfl⟩
theorem tabAtIn (k : Nat) (b : Nat) (w : World) (T : List Tb.Slot) (L : List HP) (hT : T.length = 16) (hO : Has w (Tab b T :: L)) (hk : k < T.length) (hon : T[k].on = true) :
  Calls Tryz.prog 178 #[.pointer (some ⟨b, 0, none⟩), .int .i64 (k : Int)] w fun e w' => e = .returned (.tuple #[.pointer (some ⟨b, k * 4, none⟩), .int .i64 0]) ∧ w = w' := by
 have hc : w.cell? ⟨b, k * 4 + 3, none⟩ = some (.bool true) := by rw [hO.cells, (Tb.cells_at T k hk).2.2.2, hon]
 have hk' : k < 16 := by omega
 clear hO hT hon hk
 go_enter Tryz.func178, Tryz.ntmps178
 go_wp2
 go_ret2
 exact ⟨rfl, rfl⟩
theorem tabGet (b : Nat) (T : List Tb.Slot) (fd : Int) (w : World) (L : List HP) (hT : T.length = 16) (hO : Has w (Tab b T :: L)) :
  Calls Tryz.prog 129 #[.pointer (some ⟨b, 0, none⟩), .int .i64 fd] w fun e w' =>
   e = .returned (.tuple #[.agg #[.int .i64 (Tb.get T fd).1.node, .int .i64 (Tb.get T fd).1.off, .int .i64 (Tb.get T fd).1.flags], .int .i64 (Tb.get T fd).2]) ∧ Has w' (Tab b T :: L) ∧ Keep w w' := by
 rcases hl : Tb.look T fd with _ | s
 ·have HT := hid hT
  have Hl := hid hl
  have HO := hid hO
  clear hO hT hl
  go_enter Tryz.func129, Tryz.ntmps129
  go_wp2_with fail
  refine (tabAtOut fd b _ T L HT.out (HO.out.alloc' _) Hl.out).mono ?_
  rintro e w' ⟨rfl, rfl⟩
  go_wp2_with fail
  rw [show Tb.get T fd = (Tb.none4, 10) by simp only [Tb.get, Hl.out]]
  exact bodyPost_ret (v := .tuple #[.agg #[.int .i64 0, .int .i64 0, .int .i64 0], .int .i64 10]) (by simp [results, Tryz.results129, go_sem]) rfl ⟨rfl, (HO.out.alloc' _), ((Keep.refl _).alloc _)⟩
 ·obtain ⟨k, hk, rfl, rfl, hon⟩ := Tb.look_in hT hl
  have HT := hid hT
  have Hon := hid hon
  obtain ⟨c0, c1, c2, c3⟩ := Tb.cells_at T k hk
  have hc := hO.cells
  have hb := hO.lt
  have HO := hid hO
  have Hl := hid hl
  clear hO hT hl hon
  go_enter Tryz.func129, Tryz.ntmps129
  go_wp2_with fail
  refine (tabAtIn k b _ T L HT.out (HO.out.alloc' _) hk Hon.out).mono ?_
  rintro e w' ⟨rfl, rfl⟩
  go_wp2_with fail
  rw [show Tb.get T k = (T[k], 0) by simp only [Tb.get, Hl.out]]
  exact bodyPost_ret (v := .tuple #[.agg #[.int .i64 T[k].node, .int .i64 T[k].off, .int .i64 T[k].flags], .int .i64 0]) (by simp [results, Tryz.results129, go_sem]) rfl ⟨rfl, (HO.out.alloc' _), ((Keep.refl _).alloc _)⟩
end Go.Proofs.YtmgpgbfgemebbaaGreatDoor
namespace Go.Proofs.YtmgpgbfgemebbaaGreatDoor
open Go.RowKit Go.Own
theorem tabHolds1 (s : Tb.Slot) (n : Int) (b : Nat) (w : World) (L : List HP) (hO : Has w (pt b (.cells #[.int .i64 n] 3) :: L)) :
  Calls Tryz.prog 229 #[.agg s.enc.toArray, .pointer (some ⟨b, 0, none⟩)] w fun e w' => e = .returned (.bool (s.on && s.node == n)) ∧ Has w' (pt b (.cells #[.int .i64 n] 3) :: L) ∧ Keep w w' := by
 obtain ⟨nd, o, f, on⟩ := s
 have hc := hO.cells 0
 simp at hc
 have hb := hO.lt
 have HO := hid hO
 clear hO
 simp only [Tb.Slot.enc]
 cases on
 ·go_enter Tryz.func229, Tryz.ntmps229
  go_wp2
  go_ret
  exact ⟨rfl, HO.out.alloc' _, (Keep.refl _).alloc _⟩
 ·go_enter Tryz.func229, Tryz.ntmps229
  go_wp2
  go_ret
  exact ⟨by simp, HO.out.alloc' _, (Keep.refl _).alloc _⟩
theorem tabContains (b : Nat) (T : List Tb.Slot) (p : Tb.Slot → Bool) (f : FuncId) (cap : Array Value) (w : World) (L : List HP) (hT : T.length = 16)
  (hO : Has w (Tab b T :: L))
  (hcf : ∀ args w, (callFunc f args).run Tryz.prog w = .ok (.enter f args) w)
  (hf : ∀ s ∈ T, ∀ w, Has w (Tab b T :: L) → Calls Tryz.prog f (#[.agg s.enc.toArray] ++ cap) w fun e w' => e = .returned (.bool (p s)) ∧ Has w' (Tab b T :: L) ∧ Keep w w') :
  Calls Tryz.prog 228 #[.slice (some ⟨b, 0, none⟩) 16 16, .func (.func f) #[] cap] w fun e w' => e = .returned (.bool (T.any p)) ∧ Has w' (Tab b T :: L) ∧ Keep w w' := by
 have H := hid (tabIndexFunc b T p f cap w L hT hO hcf hf)
 have HP := hid (Tb.idx_ge T p)
 clear hO hcf hf hT
 go_enter Tryz.func228, Tryz.ntmps228
 go_wp2_with fail
 refine H.out.mono ?_
 rintro e w' ⟨rfl, hO1, hK1⟩
 have HO1 := hid hO1
 have HK1 := hid hK1
 clear hO1 hK1
 go_wp2_with fail
 go_ret
 refine ⟨?_, HO1.out, HK1.out⟩
 have := HP.out
 simp only [Array.getD_eq_getD_getElem?]
 simp
 rw [Bool.eq_iff_iff, ← this]; simp
theorem tabHolds (b : Nat) (T : List Tb.Slot) (n : Int) (w : World) (L : List HP) (hT : T.length = 16) (hO : Has w (Tab b T :: L)) :
  Calls Tryz.prog 179 #[.pointer (some ⟨b, 0, none⟩), .int .i64 n] w fun e w' => e = .returned (.bool (Tb.holds T n)) ∧ Has w' (Tab b T :: L) ∧ Keep w w' := by
 have HO := hid hO
 have HT := hid hT
 clear hO hT
 go_enter Tryz.func179, Tryz.ntmps179
 go_wp2_with fail
 refine (tabContains b T (fun s => s.on && s.node == n) 229 #[.pointer (some ⟨w.heap.size, 0, none⟩)] _ (pt w.heap.size (.cells #[.int .i64 n] 3) :: L) HT.out (HO.out.alloc _).swap tabCf2 (fun s _ w' hO' => (tabHolds1 s n _ w' _ hO'.swap).mono fun e w2 ⟨h1, h2, h3⟩ => ⟨h1, h2.swap, h3⟩)).mono ?_
 rintro e w' ⟨rfl, hO1, hK1⟩
 have HO1 := hid hO1
 have HK1 := hid hK1
 clear hO1 hK1
 go_wp2_with fail
 go_ret
 exact ⟨rfl, HO1.out.swap.drop, ((Keep.refl _).alloc _).trans HK1.out⟩
theorem tabPart (cs : Array Value) (k : Nat) (w : World) : (part 124 cs k).run Tryz.prog w = .ok (.agg (cs.extract k (k + 4))) w := by kernel_rfl
theorem tabIndex (T : List Tb.Slot) (k : Nat) (hT : T.length = 16) (hk : k < T.length) (w : World) : (Instr.index 125 (.agg (Tb.cells T)) (.int .i64 (k : Int))).run Tryz.prog w = .ok (.agg #[.int .i64 T[k].node, .int .i64 T[k].off, .int .i64 T[k].flags, .bool T[k].on]) w := by
 have h2 : k < 16 := by omega
 simp [Instr.index, asIntOf, run_underlying Tryz.underlying125, h2, tabPart, Tb.cells_extract T k hk, Tb.Slot.enc]
theorem tabList (b : Nat) (T : List Tb.Slot) (W : World) (L : List HP) (hT : T.length = 16) (hO : Has W (Tab b T :: L)) :
  Calls Tryz.prog 113 #[.pointer (some ⟨b, 0, none⟩)] W fun e w' => ∃ v, e = .returned v ∧ Has w' (Ints v (Tb.lst T 16) :: Tab b T :: L) ∧ Keep W w' := by
 have hh := hO.lookup
 have HO := hid hO
 have HT := hid hT
 clear hO hT
 go_enter Tryz.func113, Tryz.ntmps113
 go_wp2_with (with_reducible refine wpList_load_row rfl _ _ rfl _ rfl _ _ _ _ hh Tryz.underlying125 rfl ?hsz ?_)
 case hsz =>
  rw [show (Tb.cells T).size = 64 by have := Tb.encs_len T; simp [Tb.cells, this, HT.out]]
  kernel_rfl
 clear hh
 go_loopw [12, 3] (fun i v w => ∃ k : Nat, k ≤ 16 ∧ i = .int .i64 k ∧ Hid (Has w (Ints v (Tb.lst T k) :: Tab b T :: L)) ∧ Hid (Keep W w)) (fun i _ _ => 16 - (intOf i).toNat)
 case atStart => exact ⟨0, by omega, rfl, hid (HO.out.row_nil _ _), hid (Keep.refl _)⟩
 case round =>
  obtain ⟨k, hk, rfl, HOw, HK⟩ := hrel
  by_cases hlt : k < 16
  ·have hl : k < T.length := by rw [HT.out]; exact hlt
   have hix := fun w => tabIndex T k HT.out hl w
   have Hll := hid (Tb.lst_len T k (by omega))
   have Hls := hid (Tb.lst_succ T k hl)
   rcases hon : T[k].on with _ | _
   ·have Hon := hid hon
    go_wp2_with fail
    go_roundw
    case rel => exact ⟨k + 1, by omega, by go_num, hid (by rw [Hls.out, Hon.out]; simpa using HOw.out.alloc' _), hid (HK.out.alloc _)⟩
    case measure => simp [intOf]; omega
   ·have Hon := hid hon
    go_wp2_with (at_builtin; refine wpList_append1 rfl _ _ _ rfl Tryz.underlying69 infoInt rfl (.int .i64 k) ((HOw.out.alloc' _).alloc' _) rfl 1 _ rfl (by simp) rfl (le_maxLen (by have := Hll.out; omega)) (by have := Hll.out; omega) ?_)
    intro v' w' hO' hK'
    have HO' := hid hO'
    have HK' := hid hK'
    clear hO' hK'
    go_wp2_with fail
    go_roundw
    case rel =>
     refine ⟨k + 1, by omega, by go_num, hid ?_, hid (((HK.out.alloc _).alloc _).trans HK'.out)⟩
     rw [Hls.out, Hon.out]
     have := HO'.out
     simpa [Ints, ic_snoc] using this
    case measure => simp [intOf]; omega
  ·obtain rfl : k = 16 := by omega
   go_wp2_with fail
   go_ret
   exact ⟨_, rfl, HOw.out, HK.out⟩
end Go.Proofs.YtmgpgbfgemebbaaGreatDoor
namespace Go.Proofs.YtmgpgbfgemebbaaGreatDoor
open Go.RowKit Go.Own
theorem infoBool : (Tryz.prog.info? 4).map (fun i => (i.zero, i.size, i.bytes)) = some (some (.bool false), 1, 1) := by kernel_rfl
def Bools (v : Value) (bs : List Bool) : HP := row v 4 1 bs.length (bs.map Value.bool)
theorem Bools.rd {v : Value} {xs : List Bool} {w : World} {L : List HP} (h : Has w (Bools v xs :: L)) : Rd w v 1 xs.length (xs.map Value.bool) := Has.rd h
def Nms (nm : Option Nat) (t : List (Str × Int)) : HP := match nm with
 | some m => Mk kStr vInt m t
 | none => fact (t = [])
def nodC (x : Nod) (dv wv : Value) (nm : Option Nat) : Array Value := #[.int .i64 x.kind, dv, wv, .map nm, .int .i64 x.most, .int .i64 x.links, .int .i64 x.above]
def Frz (v : Value) (xs : List Int) : HP := ex fun g : Nat => ex fun cap : Nat => ex fun cur : Array Value => ex fun sp : Nat × Nat => sep (fact (v = .slice (some ⟨g, 0, none⟩) xs.length cap ∧ xs.length ≤ cap ∧ xs.length ≤ maxLen ∧ cur.toList.take xs.length = bc xs)) (pt g (.cells cur 5 sp))
theorem frz_iff {w : World} {L : List HP} {v : Value} {xs : List Int} : Has w (Frz v xs :: L) ↔ ∃ g cap cur sp, (v = .slice (some ⟨g, 0, none⟩) xs.length cap ∧ xs.length ≤ cap ∧ xs.length ≤ maxLen ∧ cur.toList.take xs.length = bc xs) ∧ Has w (pt g (.cells cur 5 sp) :: L) := by
 unfold Frz
 simp only [Has.ex_iff, Has.sep_iff, Has.fact_iff]
def Dat (k : Int) (v : Value) (xs : List Int) : HP := if k = 3 then Frz v xs else Bytes v xs
theorem dat_ne {k : Int} (h : k ≠ 3) (v : Value) (xs : List Int) : Dat k v xs = Bytes v xs := if_neg h
theorem Dat.rd {k : Int} {v : Value} {xs : List Int} {w : World} {L : List HP} (h : Has w (Dat k v xs :: L)) : Rd w v 1 xs.length (bc xs) := by
 by_cases hk : k = 3
 ·unfold Dat at h
  rw [if_pos hk] at h
  obtain ⟨g, cap, cur, sp, ⟨rfl, h1, h2, h3⟩, h9⟩ := frz_iff.1 h
  refine ⟨by simp [bc], h2, _, cap, rfl, h1, fun _ => ⟨g, 0, rfl, fun j hj => ?_⟩⟩
  rw [Nat.zero_add, h9.cells, ← h3, List.getElem?_take, if_pos (by omega), Array.getElem?_toList]
 ·rw [dat_ne hk] at h
  exact Bytes.rd h
def Ndc (b : Nat) (x : Nod) : HP := ex fun dv : Value => ex fun wv : Value => ex fun nm : Option Nat => star [fact (x.kind = 2 → ∃ m, nm = some m), pt b (.cells (nodC x dv wv nm) 82), Dat x.kind dv x.data, Bools wv x.wr, Nms nm x.names]
theorem ndc_iff {w : World} {L : List HP} {b : Nat} {x : Nod} : Has w (Ndc b x :: L) ↔ ∃ dv wv nm, (x.kind = 2 → ∃ m, nm = some m) ∧ Has w (pt b (.cells (nodC x dv wv nm) 82) :: Dat x.kind dv x.data :: Bools wv x.wr :: Nms nm x.names :: L) := by
 unfold Ndc
 simp only [Has.ex_iff, Has.star_iff, List.cons_append, List.nil_append, Has.fact_iff]
theorem ndc_ofB {w : World} {L : List HP} {b : Nat} {x : Nod} (hk : x.kind ≠ 3) (h : ∃ dv wv nm, (x.kind = 2 → ∃ m, nm = some m) ∧ Has w (pt b (.cells (nodC x dv wv nm) 82) :: Bytes dv x.data :: Bools wv x.wr :: Nms nm x.names :: L)) : Has w (Ndc b x :: L) := by
 obtain ⟨dv, wv, nm, h1, h2⟩ := h
 exact ndc_iff.2 ⟨dv, wv, nm, h1, by rw [dat_ne hk]; exact h2⟩
abbrev Pn := Int × Nat × Nod
def pnN (P : List Pn) : List (Int × Nod) := P.map fun p => (p.1, p.2.2)
def pnB (P : List Pn) : List (Int × Option Nat) := P.map fun p => (p.1, some p.2.1)
def pnC (P : List Pn) : List HP := P.map fun p => Ndc p.2.1 p.2.2
def treC (m f : Nat) (last : Int) : Array Value := #[.map (some m), .int .i64 last, .pointer (some ⟨f, 0, none⟩)]
def Trb (q m f : Nat) (P : List Pn) (last : Int) (T : List Tb.Slot) : HP := star (pt q (.cells (treC m f last) 87) :: Mk kInt vPtr m (pnB P) :: Tab f T :: pnC P)
def Trc (q : Nat) (S : Tre) : HP := ex fun m : Nat => ex fun f : Nat => ex fun P : List Pn => sep (fact (pnN P = S.nodes ∧ S.tab.length = 16)) (Trb q m f P S.last S.tab)
section
variable {w : World} {L : List HP} {q m f : Nat} {P : List Pn} {last : Int} {T : List Tb.Slot} {S : Tre}
theorem trb_iff : Has w (Trb q m f P last T :: L) ↔ Has w (pt q (.cells (treC m f last) 87) :: Mk kInt vPtr m (pnB P) :: Tab f T :: (pnC P ++ L)) := by
 unfold Trb
 rw [Has.star_iff]
 rfl
theorem trc_iff : Has w (Trc q S :: L) ↔ ∃ m f P, (pnN P = S.nodes ∧ S.tab.length = 16) ∧ Has w (Trb q m f P S.last S.tab :: L) := by
 unfold Trc
 simp only [Has.ex_iff, Has.sep_iff, Has.fact_iff]
theorem pnB_keys (P : List Pn) : (pnB P).map Prod.fst = P.map Prod.fst := by simp [pnB]
theorem pnN_keys (P : List Pn) : (pnN P).map Prod.fst = P.map Prod.fst := by simp [pnN]
theorem Trb.nodup (h : Has w (Trb q m f P last T :: L)) : (P.map Prod.fst).Nodup := by
 have := Mk.nodup (trb_iff.1 h).p1
 rwa [pnB_keys] at this
theorem pnC_pull {P1 P2 : List Pn} {p : Pn} : Has w (pnC (P1 ++ p :: P2) ++ L) ↔ Has w (Ndc p.2.1 p.2.2 :: (pnC (P1 ++ P2) ++ L)) := by
 unfold pnC
 rw [List.map_append, List.map_cons, List.map_append]
 constructor
 ·intro h
  exact h.perm (by simp only [List.append_assoc, List.cons_append]; exact List.perm_middle)
 ·intro h
  exact h.perm (by simp only [List.append_assoc, List.cons_append]; exact List.perm_middle.symm)
end
end Go.Proofs.YtmgpgbfgemebbaaGreatDoor
namespace Go.Proofs.YtmgpgbfgemebbaaGreatDoor
open Go.RowKit Go.Own
theorem fnd_is {κ α : Type} [DecidableEq κ] {t : List (κ × α)} {x : κ} [Decidable (x ∈ t.map Prod.fst)] : decide (x ∈ t.map Prod.fst) = (fnd t x).isSome := by
 rcases h : fnd t x with _ | a
 ·exact decide_eq_false (fnd_none.1 h)
 ·exact decide_eq_true (List.mem_map_of_mem (f := Prod.fst) (fnd_some h))
theorem Mk.look2 {P : Program} {k e : TypeId} {κ α : Type} [DecidableEq κ] {K : Ky P k κ} {V : El P e α} {w : World} {L : List HP} {b : Nat} {t : List (κ × α)} {x : κ} {T : TypeId} (h : Has w (Mk K V b t :: L)) (ht : P.underlying T = some (.map k e)) (hx : K.ok x) :
  (Instr.lookup T (.map (some b)) (K.val x) true).run P w = .ok (.tuple #[V.val ((fnd t x).getD V.z), .bool (fnd t x).isSome]) w := by
 rw [Mk.look h ht hx, fnd_is]
section
variable {w : World} {L : List HP} {q m f : Nat} {P : List Pn} {last : Int} {T : List Tb.Slot} {S : Tre} {n : Int} {x : Nod}
theorem pn_split (h : fnd (pnN P) n = some x) : ∃ P1 b P2, P = P1 ++ (n, b, x) :: P2 := by
 have h1 := fnd_some h
 unfold pnN at h1
 obtain ⟨⟨n', b, x'⟩, hp, e⟩ := List.mem_map.1 h1
 simp only [Prod.mk.injEq] at e
 obtain ⟨rfl, rfl⟩ := e
 obtain ⟨P1, P2, rfl⟩ := List.append_of_mem hp
 exact ⟨P1, b, P2, rfl⟩
theorem Trb.cells (h : Has w (Trb q m f P last T :: L)) : w.cell? ⟨q, 0, none⟩ = some (.map (some m)) ∧ w.cell? ⟨q, 1, none⟩ = some (.int .i64 last) ∧ w.cell? ⟨q, 2, none⟩ = some (.pointer (some ⟨f, 0, none⟩)) :=
 ⟨(trb_iff.1 h).cells 0, (trb_iff.1 h).cells 1, (trb_iff.1 h).cells 2⟩
theorem Trb.look (h : Has w (Trb q m f P last T :: L)) (hn : fnd (pnN P) n = some x) : ∃ b, (n, b, x) ∈ P ∧ (Instr.lookup tNo (.map (some m)) (.int .i64 n) false).run Tryz.prog w = .ok (.pointer (some ⟨b, 0, none⟩)) w := by
 obtain ⟨P1, b, P2, rfl⟩ := pn_split hn
 have hk := (trb_iff.1 h).p1
 have hnd := Mk.nodup hk
 have hm : (n, some b) ∈ pnB (P1 ++ (n, b, x) :: P2) := by simp [pnB]
 have hok : kInt.ok n := Mk.ok hk (List.mem_map_of_mem (f := Prod.fst) hm)
 have h1 := Mk.look0 hk undNo hok
 rw [fnd_mem hnd hm] at h1
 exact ⟨b, by simp, h1⟩
theorem Trb.node (h : Has w (Trb q m f P last T :: L)) {b : Nat} (hp : (n, b, x) ∈ P) : ∃ dv wv nm, (x.kind = 2 → ∃ m, nm = some m) ∧ (∀ i, w.cell? ⟨b, i, none⟩ = (nodC x dv wv nm)[i]?) ∧ Rd w dv 1 x.data.length (bc x.data) := by
 obtain ⟨P1, P2, rfl⟩ := List.append_of_mem hp
 have h1 := (trb_iff.1 h).drop.drop.drop
 rw [pnC_pull] at h1
 obtain ⟨dv, wv, nm, hd, h2⟩ := ndc_iff.1 h1
 exact ⟨dv, wv, nm, hd, h2.cells, Dat.rd h2.p1⟩
set_option maxRecDepth 100000 in
theorem Trb.node2 (h : Has w (Trb q m f P last T :: L)) {b : Nat} (hp : (n, b, x) ∈ P) : ∃ dv wv nm, (x.kind = 2 → ∃ m, nm = some m) ∧ (∀ i, w.cell? ⟨b, i, none⟩ = (nodC x dv wv nm)[i]?) ∧ Rd w dv 1 x.data.length (bc x.data) ∧
  ∀ mm, nm = some mm → ∀ p : Str, p.length ≤ 1000000 → (Instr.lookup tNm (.map (some mm)) (sV p) true).run Tryz.prog w = .ok (.tuple #[.int .i64 ((fnd x.names p).getD 0), .bool (fnd x.names p).isSome]) w ∧ (Instr.lookup tNm (.map (some mm)) (sV p) false).run Tryz.prog w = .ok (.int .i64 ((fnd x.names p).getD 0)) w := by
 obtain ⟨P1, P2, rfl⟩ := List.append_of_mem hp
 have h1 := (trb_iff.1 h).drop.drop.drop
 rw [pnC_pull] at h1
 obtain ⟨dv, wv, nm, hd, h2⟩ := ndc_iff.1 h1
 refine ⟨dv, wv, nm, hd, h2.cells, Dat.rd h2.p1, ?_⟩
 rintro mm rfl p hp
 have hk : Has w (Mk kStr vInt mm x.names :: _) := h2.drop.drop.drop
 have hok : kStr.ok p := by show p.length ≤ maxLen; exact Nat.le_trans hp (le_maxLen (by omega))
 have e := Mk.look2 hk undNm hok
 exact ⟨e, Mk.look0 hk undNm hok⟩
end
set_option maxRecDepth 100000 in
set_option maxHeartbeats 4000000 in
theorem tAbove (q : Nat) (S : Tre) (n : Int) (x : Nod) (w : World) (L : List HP) (hn : fnd S.nodes n = some x) (hO : Has w (Trc q S :: L)) :
  Calls Tryz.prog 196 #[.pointer (some ⟨q, 0, none⟩), .int .i64 n] w fun e w' => e = .returned (.int .i64 (S.up n)) ∧ w = w' := by
 obtain ⟨m, f, P, ⟨hP, hT⟩, h⟩ := trc_iff.1 hO
 have hu : S.up n = if x.above = 0 then n else x.above := by unfold Tre.up Tre.at_; rw [hn]; rfl
 rw [← hP] at hn
 obtain ⟨b, hb, hl⟩ := Trb.look h hn
 obtain ⟨dv, wv, nm, -, hc, -⟩ := Trb.node h hb
 have hc6 : w.cell? ⟨b, 6, none⟩ = some (.int .i64 x.above) := hc 6
 have hq := (Trb.cells h).1
 have HU := hid hu
 clear hO hP hT h hb hc hn hu
 by_cases ha : x.above = 0
 ·rw [ha] at hc6
  have HU2 := hid (show S.up n = n from by rw [HU.out, if_pos ha])
  clear ha
  go_enter Tryz.func196, Tryz.ntmps196
  go_wp2_with fail
  go_ret
  rw [HU2.out]
  exact ⟨rfl, rfl⟩
 ·have HU2 := hid (show S.up n = x.above from by rw [HU.out, if_neg ha])
  go_enter Tryz.func196, Tryz.ntmps196
  go_wp2_with fail
  go_ret
  rw [HU2.out]
  exact ⟨rfl, rfl⟩
end Go.Proofs.YtmgpgbfgemebbaaGreatDoor
namespace Go.Own
open Go.RowKit
section
variable {w : World} {l : List HP} {e : TypeId} {n m : Nat} {xs : List Value} {v : Value}
theorem zcells (z : Value) (hz : z.cells = #[z]) (m : Nat) : Builtin.zeroCells z.cells m = (List.replicate m z).toArray := by
 rw [hz]
 unfold Builtin.zeroCells
 apply Array.ext
 ·simp
 ·intro i h1 h2
  simp [Nat.mod_one]
theorem Has.appendZ {P : Program} (hO : Has w (row v e 1 n xs :: l)) (t it ty : TypeId) {z : Value} {bytes : Nat} (ht : P.underlying t = some (.slice e)) (hit : P.underlying it = some (.int .i64)) (hi : (P.info? e).map (fun i => (i.zero, i.size, i.bytes)) = some (some z, 1, bytes)) (hz : z.cells = #[z]) (h1 : z.oneCell' = true)
  (h63 : n + m ≤ maxLen) (hbytes : (n + m) * bytes ≤ 140737488355328) :
  ∃ v' w', (Builtin.append_ #[t, it] ty #[v, .int .i64 (m : Int)]).run P w = .ok v' w' ∧ Has w' (row v' e 1 (n + m) (xs ++ List.replicate m z) :: l) ∧ Keep w w' := by
 obtain ⟨i, hi', hzz, hs, hby⟩ := info_parts hi
 subst hby
 have hsmall : n + m ≤ 9223372036854775807 := by simp only [maxLen] at h63; omega
 have hw : IntKind.i64.wrap (m : Int) = (m : Int) := by
  simp [IntKind.wrap, IntKind.bits, IntKind.signed]; omega
 have hneg : ¬ ((m : Int) < 0) := by omega
 have hmb : m * i.bytes ≤ (n + m) * i.bytes := Nat.mul_le_mul_right _ (by omega)
 have h48 : ¬ (281474976710656 < (m : Int) * (i.bytes : Int)) := by
  have : (m : Int) * (i.bytes : Int) = ((m * i.bytes : Nat) : Int) := by simp
  rw [this]; omega
 have hlen : (xs ++ List.replicate m z).length = (n + m) * 1 := by
  have := hO.row_cases.1
  rw [List.length_append, List.length_replicate, this]; omega
 obtain ⟨hxl, hc⟩ := hO.row_cases
 rcases hc with ⟨rfl, rfl, rfl, hO'⟩ | ⟨g, cap, cur, rfl, hnc, hcm, hcs, htake, hp⟩
 ·by_cases hm : m = 0
  ·subst hm
   refine ⟨.slice none 0 0, w, ?_, by simpa using hO'.row_nil e 1, Keep.refl w⟩
   have hw0 : IntKind.i64.wrap 0 = 0 := by decide
   simp [Builtin.append_, run_underlying ht, run_underlying hit, sizeOf, typeInfo, hi', asInt, asIntOf, hw0]
  ·have hg := grownCap_ge w m 0 e
   have hgm : grownCap w m 0 e ≤ maxLen := grownCap_le_maxLen w m 0 e (by omega)
   have h63' : ¬ (9223372036854775807 < (m : Int)) := by omega
   have h48' : ¬ (281474976710656 < Builtin.nextslicecap m 0 * i.bytes) := by rw [nextslicecap_zero (by omega)]; omega
   refine ⟨.slice (some ⟨w.heap.size, 0, none⟩) m (grownCap w m 0 e), w.drew.alloc (.cells ((List.replicate m z).toArray ++ Builtin.zeroCells z.cells (grownCap w m 0 e - m)) e), ?_, ?_, (Keep.refl w).drew.alloc _⟩
   ·simp [Builtin.append_, run_underlying ht, run_underlying hit, sizeOf, typeInfo, zeroValue, hi', hzz, asInt, asIntOf, hw, hneg, h48, hm, h63', h48', hs, Question.forced, run_firstCells_none, newRow, grownCap, zcells z hz]
    done
   ·have h := (hO'.drew.alloc (.cells ((List.replicate m z).toArray ++ Builtin.zeroCells z.cells (grownCap w m 0 e - m)) e)).row_of (n := m) (size := 1) (xs := List.replicate m z) hg hgm (by simp [zcells z hz]; omega) (by simp [zcells z hz]) (by simp)
    simpa using h
 ·by_cases hroom : n + m ≤ cap
  ·have hfit : n + (List.replicate m z).length ≤ cur.size := by rw [List.length_replicate, hcs]; omega
   have hst := run_storeCells_at P g n e (List.replicate m z) 0 cur w hp.lookup (by simpa using hfit) (fun u hu => by rw [List.eq_of_mem_replicate hu]; exact h1)
   simp only [Nat.add_zero] at hst
   refine ⟨.slice (some ⟨g, 0, none⟩) (n + m) cap, w.setRow g (cur.toList.take n ++ List.replicate m z ++ cur.toList.drop (n + (List.replicate m z).length)).toArray, ?_, ?_, ⟨rfl, rfl, rfl, by simp⟩⟩
   ·by_cases hm : m = 0
    ·subst hm
     have hw0 : IntKind.i64.wrap 0 = 0 := by decide
     simp only [List.replicate_zero] at hst
     simp [Builtin.append_, run_underlying ht, run_underlying hit, sizeOf, typeInfo, hi', asInt, asIntOf, hw0, hnc, hs, Addr.add_lit, hst]
     done
    ·simp [Builtin.append_, run_underlying ht, run_underlying hit, sizeOf, typeInfo, zeroValue, hi', hzz, asInt, asIntOf, hw, hneg, h48, hm, hroom, hs, zcells z hz, Addr.add_lit, hst]
     done
   ·refine (hp.turn (fun k _ hk => setRow_other w g k _ hk) (setRow_heap w g cur _ e _ hp.lookup)).row_of hroom hcm ?_ ?_ hlen
    ·simp only [List.size_toArray, List.length_append, List.length_take, List.length_drop, Array.length_toList, List.length_replicate]
     omega
    ·rw [← hlen]
     have hx : cur.toList.take n = xs := by rw [← htake, Nat.mul_one]
     rw [hx]
     exact List.take_left
  ·have hg := grownCap_ge w (n + m) cap e
   have hgm : grownCap w (n + m) cap e ≤ maxLen := grownCap_le_maxLen w (n + m) cap e h63
   have h63' : ¬ (9223372036854775807 < ((n : Int) + (m : Int))) := by omega
   have h48' : ¬ (281474976710656 < Builtin.nextslicecap (n + m) cap * i.bytes) := by have := growslice_fits (show cap < n + m by omega) hbytes; omega
   have holds : ∀ j u, xs[j]? = some u → w.drew.cell? ((⟨g, 0, none⟩ : Addr).add j) = some u := hO.row_own.cells (g := g) rfl
   have hfo := run_firstCells_some (P := P) w.drew i.size n ⟨g, 0, none⟩ n cap xs (by rw [hs]; simpa using hxl) holds
   rw [hs] at hfo
   refine ⟨.slice (some ⟨w.heap.size, 0, none⟩) (n + m) (grownCap w (n + m) cap e), w.drew.alloc (.cells (xs.toArray ++ (List.replicate m z).toArray ++ Builtin.zeroCells z.cells (grownCap w (n + m) cap e - (n + m))) e), ?_, ?_, (Keep.refl w).drew.alloc _⟩
   ·by_cases hm : m = 0
    ·omega
    ·simp [Builtin.append_, run_underlying ht, run_underlying hit, sizeOf, typeInfo, zeroValue, hi', hzz, asInt, asIntOf, hw, hneg, h48, hm, h63', h48', hroom, hs, Question.forced, hfo, newRow, grownCap, zcells z hz]
     done
   ·have h := (hO.drop.drew.alloc (.cells (xs.toArray ++ (List.replicate m z).toArray ++ Builtin.zeroCells z.cells (grownCap w (n + m) cap e - (n + m))) e)).row_of (n := n + m) (size := 1) (xs := xs ++ List.replicate m z) hg hgm (by simp [zcells z hz]; omega) (by
     rw [Nat.mul_one]
     simp only [Array.toList_append, List.toList_toArray]
     exact List.take_left' (by rw [hlen, Nat.mul_one])) (by rw [hlen])
    exact h
theorem wpList_appendZ {P : Program} {ops : Array Oper} {rest : List Oper} {o : Oper} {a : Act} {Q : Exit → Act → World → Prop} (hgd : o.guard = none) (s x : Operand) (t it : TypeId)
  (ho : o.op = .call { callee := .builtin .append, args := #[s, x], argTypes := #[t, it] })
  {z : Value} {bytes : Nat} (ht : P.underlying t = some (.slice e)) (hit : P.underlying it = some (.int .i64)) (hi : (P.info? e).map (fun i => (i.zero, i.size, i.bytes)) = some (some z, 1, bytes)) (hz : z.cells = #[z]) (h1 : z.oneCell' = true)
  (hO : Has w (row v e 1 n xs :: l)) (hs : a.eval s = v) (m : Nat) (hx : a.eval x = .int .i64 (m : Int)) (h63 : n + m ≤ maxLen) (hbytes : (n + m) * bytes ≤ 140737488355328)
  (h : ∀ v' w', Has w' (row v' e 1 (n + m) (xs ++ List.replicate m z) :: l) → Keep w w' → wpList P ops Q rest (a.put o.dst v') w') : wpList P ops Q (o :: rest) a w := by
 refine wpList_plain hgd fun K hK => ?_
 obtain ⟨v', w', hrun, h2, h3⟩ := hO.appendZ (P := P) t it o.type ht hit hi hz h1 h63 hbytes
 unfold Oper.wp execOp
 simp only [ho, resolve, invoke, builtin, Sem.run_bind, Sem.run_pure, Result.andThen_ok, List.map_toArray, List.map_cons, List.map_nil, hs, hx, hrun]
 exact hK _ _ (h v' w' h2 h3)
end
end Go.Own
namespace Go.Proofs.YtmgpgbfgemebbaaGreatDoor
open Go.RowKit Go.Own
theorem _root_.Go.Own.Has.toFront {w : World} {L : List HP} {v : Value} {e : TypeId} {n : Nat} {xs : List Value} (h : Has w (row v e 1 n xs :: L)) (hn : 0 < n) : ∃ g c, v = .slice (some ⟨g, 0, none⟩) n c ∧ n ≤ c ∧ Has w (row (.slice (some ⟨g, 0, none⟩) 0 c) e 1 0 [] :: L) := by
 obtain ⟨hxl, hc⟩ := h.row_cases
 rcases hc with ⟨-, e0, -⟩ | ⟨g, cap, cur, rfl, hnc, hcm, hcs, htake, hp⟩
 ·omega
 ·exact ⟨g, cap, rfl, hnc, hp.row_of (Nat.zero_le _) hcm hcs (by simp) rfl⟩
theorem sv_one (xs : List Str) : ∀ u ∈ xs.map sV, u.oneCell' = true := by
 intro u hu
 obtain ⟨x, -, rfl⟩ := List.mem_map.1 hu
 rfl
set_option maxRecDepth 100000 in
set_option maxHeartbeats 4000000 in
theorem growNilS0 (w : World) (L : List HP) (hO : Has w L) : Calls Tryz.prog 237 #[.slice none 0 0, .int .i64 0] w fun e w' => ∃ v', e = .returned v' ∧ Has w' (row v' 9 1 0 [] :: L) ∧ Keep w w' := by
 have HO := hid hO
 clear hO
 go_enter Tryz.func237, Tryz.ntmps237
 go_wp2_with fail
 go_ret
 exact ⟨_, rfl, HO.out.row_nil 9 1, Keep.refl _⟩
set_option maxRecDepth 100000 in
set_option maxHeartbeats 4000000 in
theorem growNilS (n : Nat) (w : World) (L : List HP) (hO : Has w L) (hn : n ≤ 1000000) : Calls Tryz.prog 237 #[.slice none 0 0, .int .i64 n] w fun e w' => ∃ v', e = .returned v' ∧ Has w' (row v' 9 1 0 [] :: L) ∧ Keep w w' := by
 by_cases h0 : 0 < n
 rotate_left
 ·obtain rfl : n = 0 := by omega
  exact growNilS0 w L hO
 have HO := hid hO
 clear hO
 go_enter Tryz.func237, Tryz.ntmps237
 go_wp2_with (at_builtin; refine wpList_appendZ rfl _ _ _ _ rfl Tryz.underlying36 Tryz.underlying3 infoStr rfl rfl (HO.out.row_nil 9 1) rfl n rfl (le_maxLen (by omega)) (by omega) ?_)
 intro v2 w2 h2 hk2
 obtain ⟨g, c, rfl, hcm, h3⟩ := h2.toFront h0
 have HO2 := hid h3
 have HK2 := hid hk2
 clear h2 h3 hk2 HO
 have hc0 : (0 : Int) ≤ (c : Int) := by omega
 go_wp2_with fail
 go_ret
 exact ⟨_, rfl, HO2.out, HK2.out⟩
set_option maxRecDepth 100000 in
set_option maxHeartbeats 4000000 in
theorem concatS (g0 : Nat) (v1 v2 : Value) (xs ys : List Str) (w : World) (L : List HP) (hO : Has w (pt g0 (.cells #[v1, v2] 36) :: L)) (h1 : ∀ w', Has w' L → Rd w' v1 1 xs.length (xs.map sV)) (h2 : ∀ w', Has w' L → Rd w' v2 1 ys.length (ys.map sV))  (hm : xs.length + ys.length ≤ 1000) :
  Calls Tryz.prog 197 #[.slice (some ⟨g0, 0, none⟩) 2 2] w fun e w' => ∃ v', e = .returned v' ∧ Has w' (Strs v' (xs ++ ys) :: pt g0 (.cells #[v1, v2] 36) :: L) ∧ Keep w w' := by
 obtain ⟨p1, c1, rfl, -⟩ := (h1 w hO.drop).form
 obtain ⟨p2, c2, rfl, -⟩ := (h2 w hO.drop).form
 have HO := hid hO
 have H1 := hid h1
 have H2 := hid h2
 have hc0 := hO.cells 0
 have hc1 := hO.cells 1
 clear hO h1 h2
 go_enter Tryz.func197, Tryz.ntmps197
 have e1 : (xs.length : Int) ≤ 1000 := by omega
 have e2 : (ys.length : Int) ≤ 1000 := by omega
 have HG := hid (show Calls Tryz.prog 237 #[.slice none 0 0, .int .i64 ((xs.length : Int) + (ys.length : Int))] w fun e w' => ∃ v', e = .returned v' ∧ Has w' (row v' 9 1 0 [] :: pt g0 (.cells #[.slice p1 xs.length c1, .slice p2 ys.length c2] 36) :: L) ∧ Keep w w' from growNilS (xs.length + ys.length) w _ HO.out (by omega))
 have HM := hid hm
 clear hm
 go_wp2_with fail
 go_loopw [3, 11] (fun s i w' => ((i = .int .i64 0 ∧ s = .int .i64 0) ∨ (i = .int .i64 1 ∧ s = .int .i64 (xs.length : Int)) ∨ (i = .int .i64 2 ∧ s = .int .i64 ((xs.length : Int) + (ys.length : Int)))) ∧ w = w') (fun _ i _ => 2 - (intOf i).toNat)
 case atStart => exact ⟨.inl ⟨rfl, rfl⟩, rfl⟩
 case round =>
  obtain ⟨⟨rfl, rfl⟩ | ⟨rfl, rfl⟩ | ⟨rfl, rfl⟩, rfl⟩ := hrel
  ·go_wp2_with fail
   exact ⟨⟨.inr (.inl ⟨rfl, by go_num⟩), by trivial⟩, by simp [intOf]⟩
  ·go_wp2_with fail
   exact ⟨⟨.inr (.inr ⟨rfl, by go_num⟩), by trivial⟩, by simp [intOf]⟩
  ·go_wp2_with fail
   refine (HG.out).mono ?_
   rintro e w3 ⟨v3, rfl, hO3, hK3⟩
   have HO3 := hid hO3
   have HK3 := hid ((Keep.refl w).trans hK3)
   clear hO3 hK3
   try dsimp only
   clear hc0 hc1
   go_wp2_with fail
   go_loopw [6, 27] (fun s i w' => ((i = .int .i64 0 ∧ Hid (Has w' (Strs s [] :: pt g0 (.cells #[.slice p1 xs.length c1, .slice p2 ys.length c2] 36) :: L))) ∨ (i = .int .i64 1 ∧ Hid (Has w' (Strs s xs :: pt g0 (.cells #[.slice p1 xs.length c1, .slice p2 ys.length c2] 36) :: L))) ∨ (i = .int .i64 2 ∧ Hid (Has w' (Strs s (xs ++ ys) :: pt g0 (.cells #[.slice p1 xs.length c1, .slice p2 ys.length c2] 36) :: L)))) ∧ Hid (Keep w w')) (fun _ i _ => 2 - (intOf i).toNat)
   case atStart => exact ⟨.inl ⟨rfl, HO3⟩, HK3⟩
   case round =>
    clear HO3 HK3
    obtain ⟨⟨rfl, HA⟩ | ⟨rfl, HA⟩ | ⟨rfl, HA⟩, HB⟩ := hrel
    ·have hc0 := HA.out.p1.cells 0
     go_wp2_with (at_builtin; refine wpList_appendA rfl _ _ _ rfl Tryz.underlying36 infoStr rfl (by decide) HA.out rfl _ xs.length (xs.map sV) rfl (H1.out _ HA.out.drop.drop) (sv_one _) (le_maxLen (by have := HM.out; simp; omega)) (by have := HM.out; simp; omega) ?_)
     intro v5 w5 h5 hk5
     have HO5 := hid (show Has w5 (Strs v5 xs :: pt g0 (.cells #[.slice p1 xs.length c1, .slice p2 ys.length c2] 36) :: L) from by simpa [Strs] using h5)
     have HK5 := hid (HB.out.trans hk5)
     clear h5 hk5 HA HB
     go_wp2_with fail
     exact ⟨⟨.inr (.inl ⟨rfl, HO5⟩), HK5⟩, by simp [intOf]⟩
    ·have hc1 := HA.out.p1.cells 1
     go_wp2_with (at_builtin; refine wpList_appendA rfl _ _ _ rfl Tryz.underlying36 infoStr rfl (by decide) HA.out rfl _ ys.length (ys.map sV) rfl (H2.out _ HA.out.drop.drop) (sv_one _) (le_maxLen (by have := HM.out; omega)) (by have := HM.out; omega) ?_)
     intro v5 w5 h5 hk5
     have HO5 := hid (show Has w5 (Strs v5 (xs ++ ys) :: pt g0 (.cells #[.slice p1 xs.length c1, .slice p2 ys.length c2] 36) :: L) from by
      unfold Strs
      rw [List.length_append, show (xs ++ ys).map sV = xs.map sV ++ ys.map sV by simp]
      exact h5)
     have HK5 := hid (HB.out.trans hk5)
     clear h5 hk5 HA HB
     go_wp2_with fail
     exact ⟨⟨.inr (.inr ⟨rfl, HO5⟩), HK5⟩, by simp [intOf]⟩
    ·go_wp2_with fail
     go_ret
     exact ⟨_, rfl, HA.out, HB.out⟩
end Go.Proofs.YtmgpgbfgemebbaaGreatDoor
namespace Go.Proofs.YtmgpgbfgemebbaaGreatDoor
open Go.RowKit Go.Own
def VwS (v : Value) (xs : List Str) : HP := ex fun v0 : Value => ex fun xs0 : List Str => star [fact (∀ w L, Has w (Strs v0 xs0 :: L) → Rd w v 1 xs.length (xs.map sV)), Strs v0 xs0]
theorem vwS_iff {w : World} {L : List HP} {v : Value} {xs : List Str} : Has w (VwS v xs :: L) ↔ ∃ v0 xs0, (∀ w L, Has w (Strs v0 xs0 :: L) → Rd w v 1 xs.length (xs.map sV)) ∧ Has w (Strs v0 xs0 :: L) := by
 unfold VwS
 simp only [Has.ex_iff, Has.star_iff, List.cons_append, List.nil_append, Has.fact_iff]
theorem VwS.rd {w : World} {L : List HP} {v : Value} {xs : List Str} (h : Has w (VwS v xs :: L)) : Rd w v 1 xs.length (xs.map sV) := by
 obtain ⟨v0, xs0, h1, h2⟩ := vwS_iff.1 h
 exact h1 _ _ h2
theorem VwS.of {w : World} {L : List HP} {v : Value} {xs : List Str} (h : Has w (Strs v xs :: L)) : Has w (VwS v xs :: L) := vwS_iff.2 ⟨v, xs, fun _ _ h => Strs.rd h, h⟩
theorem VwS.tail {w : World} {L : List HP} {p : Option Addr} {n c : Nat} {x : Str} {xs : List Str} (h : Has w (VwS (.slice p n c) (x :: xs) :: L)) : Has w (VwS (.slice (if c = 1 then p else p.map fun a => a.add 1) (n - 1) (c - 1)) xs :: L) := by
 obtain ⟨v0, xs0, h1, h2⟩ := vwS_iff.1 h
 refine vwS_iff.2 ⟨v0, xs0, fun w' L' h' => ?_, h2⟩
 obtain ⟨p', c', e, -⟩ := (h1 w' L' h').form
 simp only [Value.slice.injEq] at e
 obtain ⟨rfl, rfl, rfl⟩ := e
 have := (h1 w' L' h').dropS 1 (by simp)
 simpa using this
theorem strOf_conv {w : World} {v : Value} {xs : List Int} (h : Rd w v 1 xs.length (bc xs)) : (convert 31 9 v).run Tryz.prog w = .ok (sV (strOf xs)) w := by
 obtain ⟨p, c, rfl, -, -, hcs⟩ := h.form
 by_cases h0 : 0 < xs.length
 ·obtain ⟨g, o, rfl, hc⟩ := hcs (by omega)
  exact run_convert_bytes_arg w _ _ Tryz.underlying31 Tryz.underlying5 g o xs.length c xs rfl (fun i hi => by rw [hc i (by omega), bc, List.getElem?_map, List.getElem?_eq_getElem hi, List.getD_eq_getElem?_getD, List.getElem?_eq_getElem hi]; rfl) _ Tryz.underlying9
 ·obtain rfl : xs = [] := by simpa using h0
  rcases p with _ | a
  ·exact run_convert_bytes_nil w _ _ Tryz.underlying31 Tryz.underlying5 _ _ _ Tryz.underlying9
  ·have h1 := run_convert_bytes_string (P := Tryz.prog) w 31 9 _ (some a) 0 c Tryz.underlying31 Tryz.underlying5 Tryz.underlying9
   exact h1.trans ((run_bytesToString w a 0 c [] (by unfold loadCells; rfl)))
theorem partsL_short : ∀ (ps acc l : List Str), partsL ps acc = some l → (∀ p ∈ acc, p.length ≤ 24) → ∀ p ∈ l, p.length ≤ 24
 | [], acc, l, h, ha => by simp only [partsL, Option.some.injEq] at h; subst h; exact ha
 | p :: ps, acc, l, h, ha => by
  simp only [partsL] at h
  split at h
  ·exact partsL_short ps acc l h ha
  ·split at h
   ·cases h
   ·refine partsL_short ps _ l h fun q hq => ?_
    rcases List.mem_append.1 hq with h1 | h1
    ·exact ha q h1
    ·rw [List.mem_singleton.1 h1]
     omega
theorem partsM_short (t : Str) : ∀ p ∈ (partsM t).1, p.length ≤ 24 := by
 unfold partsM
 split
 ·simp
 ·rename_i l hl
  exact partsL_short _ _ _ hl (by simp)
theorem more_short (t : Str) : ∀ p ∈ (targetM t).1, p.length ≤ 24 := by
 unfold targetM
 split
 ·simp
 ·split
  ·simp
  ·exact partsM_short t
theorem split_short (t : Str) : ∀ p ∈ (splitM t).1, p.length ≤ 24 := by
 unfold splitM
 split
 ·simp
 ·split
  ·simp
  ·exact partsM_short t
theorem split_len (t : Str) : (splitM t).1.length ≤ 20 := by
 unfold splitM
 split
 ·simp
 ·split
  ·simp
  ·rename_i h
   simp only [Bool.or_eq_true, Bool.not_eq_true', not_or] at h
   have h1 : (partsM t).2 = true := by simpa using h.1
   show (partsM t).1.length ≤ 20
   unfold partsM at h1 ⊢
   split
   ·simp
   ·rename_i l hl
    rw [hl] at h1
    simpa using h1
structure Wk (S : Tre) : Prop where
 root : ∃ x, fnd S.nodes 1 = some x
 child : ∀ n x, fnd S.nodes n = some x → ∀ p c, fnd x.names p = some c → ∃ y, fnd S.nodes c = some y
 above : ∀ n x, fnd S.nodes n = some x → x.above ≠ 0 → ∃ y, fnd S.nodes x.above = some y
 data : ∀ n x, fnd S.nodes n = some x → x.kind = 3 → x.data.length ≤ 100000
end Go.Proofs.YtmgpgbfgemebbaaGreatDoor
namespace Go.Proofs.YtmgpgbfgemebbaaGreatDoor
open Go.RowKit Go.Own
namespace Tre
variable (S : Tre)
def setN (n : Int) (x : Nod) : Tre := { S with nodes := putA S.nodes n x }
def nameOf (t : List (Str × Int)) (n : Int) : Str := ((t.filter fun p => decide (p.2 = n)).map Prod.fst).flatten
def wayF : Nat → Int → List Str
 | 0, _ => []
 | k + 1, n => if n = 1 ∨ (S.at_ n).above = 0 then [] else wayF k (S.at_ n).above ++ [nameOf (S.at_ (S.at_ n).above).names n]
def way (n : Int) : List Str := S.wayF 21 n
def longM (parts : List Str) : Bool := decide (20 < parts.length) || decide (200 < (joinM parts).length)
def place (p : Str) : Spt × Int :=
 if (lastM p).2.2 ≠ 0 then (spt0, (lastM p).2.2)
 else if (S.find (lastM p).1 true).2 ≠ 0 then (spt0, (S.find (lastM p).1 true).2)
 else if (S.at_ (S.find (lastM p).1 true).1.node).kind ≠ 2 then (spt0, 7)
 else if longM (S.way (S.find (lastM p).1 true).1.node ++ [(lastM p).2.1]) = true then (spt0, 11)
 else (⟨(fnd (S.at_ (S.find (lastM p).1 true).1.node).names (lastM p).2.1).getD 0, (S.find (lastM p).1 true).1.node, (lastM p).2.1⟩, 0)
def dirAdd (d : Nod) (name : Str) (n : Int) : Nod := { d with names := putA d.names name n, most := max d.most ((putA d.names name n).length : Int) }
def nodAdd (x : Nod) (dir : Int) : Nod := if x.kind = 2 then { x with above := dir, links := 1 } else { x with links := x.links + 1 }
def add (dir : Int) (name : Str) (n : Int) : Tre := (S.setN dir (dirAdd (S.at_ dir) name n)).setN n (nodAdd (S.at_ n) dir)
def make (s : Spt) (kind : Int) (data : Str) : Tre := ({ S with last := S.last + 1, nodes := putA S.nodes (S.last + 1) ⟨kind, if kind = 3 then bytesOf data else [], [], [], 0, 0, 0⟩ } : Tre).add s.dir s.name (S.last + 1)
def fresh (p : Str) : Spt × Int :=
 if (S.place p).2 ≠ 0 then (spt0, (S.place p).2) else if (S.place p).1.node ≠ 0 then (spt0, 6) else (S.place p).1 |> fun s => (s, 0)
end Tre
def needM (n : Nat) : Nat := if 20736 ≤ n then 162 else (n + 127) / 128
def nodCut (x : Nod) (size : Nat) : Nod :=
 if size ≤ x.data.length then { x with data := x.data.take size, wr := x.wr.take (needM size) } else { x with data := x.data ++ List.replicate (size - x.data.length) 0 }
namespace Tre
variable (S : Tre)
def resize (n : Int) (size : Nat) : Tre := S.setN n (nodCut (S.at_ n) size)
end Tre
structure Wy (S : Tre) (rk : Int → Nat) : Prop where
 rank : ∀ n x, fnd S.nodes n = some x → n ≠ 1 → x.above ≠ 0 → ∃ y nm, fnd S.nodes x.above = some y ∧ y.names.filter (fun p => decide (p.2 = n)) = [(nm, n)] ∧ rk x.above < rk n ∧ nm.length ≤ 24
 low : ∀ n, rk n ≤ 20
theorem way_stable {S : Tre} {rk : Int → Nat} (hW : Wy S rk) : ∀ (k j : Nat) (n : Int) (x : Nod), fnd S.nodes n = some x → rk n < k → rk n < j → S.wayF k n = S.wayF j n := by
 intro k
 induction k with
 | zero => intro j n x _ h; omega
 | succ k ih =>
  intro j n x hn hk hj
  rcases j with _ | j
  ·omega
  by_cases h1 : n = 1 ∨ (S.at_ n).above = 0
  ·simp only [Tre.wayF, if_pos h1]
  ·simp only [Tre.wayF, if_neg h1]
   have hx : S.at_ n = x := by unfold Tre.at_; rw [hn]; rfl
   simp only [not_or] at h1
   obtain ⟨y, nm, hy, -, hr, -⟩ := hW.rank n x hn h1.1 (by rw [← hx]; exact h1.2)
   rw [hx, ih j _ y hy (by omega) (by omega)]
theorem way_step {S : Tre} {rk : Int → Nat} (hW : Wy S rk) {n : Int} {x : Nod} (hn : fnd S.nodes n = some x) (h1 : n ≠ 1) (h2 : x.above ≠ 0) : ∃ y nm, fnd S.nodes x.above = some y ∧ y.names.filter (fun p => decide (p.2 = n)) = [(nm, n)] ∧ rk x.above < rk n ∧ nm.length ≤ 24 ∧ S.way n = S.way x.above ++ [nm] := by
 obtain ⟨y, nm, hy, hf, hr, hl⟩ := hW.rank n x hn h1 h2
 refine ⟨y, nm, hy, hf, hr, hl, ?_⟩
 have hx : S.at_ n = x := by unfold Tre.at_; rw [hn]; rfl
 have hya : S.at_ x.above = y := by unfold Tre.at_; rw [hy]; rfl
 have hlow := hW.low n
 show S.wayF (20 + 1) n = S.wayF 21 x.above ++ [nm]
 rw [Tre.wayF, if_neg (by rw [hx]; simp [h1, h2]), hx, hya, Tre.nameOf, hf, way_stable hW 20 21 _ y hy (by omega) (by omega)]
 simp
theorem way_stop {S : Tre} {n : Int} (h : n = 1 ∨ (S.at_ n).above = 0) : S.way n = [] := by
 show S.wayF (20 + 1) n = []
 rw [Tre.wayF, if_pos h]
theorem way_len {S : Tre} {rk : Int → Nat} (hW : Wy S rk) : ∀ (k : Nat) (n : Int) (x : Nod), fnd S.nodes n = some x → rk n ≤ k → (S.way n).length ≤ k := by
 intro k
 induction k with
 | zero =>
  intro n x hn hk
  by_cases h1 : n = 1 ∨ (S.at_ n).above = 0
  ·rw [way_stop h1]; simp
  ·have hx : S.at_ n = x := by unfold Tre.at_; rw [hn]; rfl
   simp only [not_or] at h1
   obtain ⟨y, nm, hy, -, hr, -⟩ := way_step hW hn h1.1 (by rw [← hx]; exact h1.2)
   omega
 | succ k ih =>
  intro n x hn hk
  by_cases h1 : n = 1 ∨ (S.at_ n).above = 0
  ·rw [way_stop h1]; simp
  ·have hx : S.at_ n = x := by unfold Tre.at_; rw [hn]; rfl
   simp only [not_or] at h1
   obtain ⟨y, nm, hy, -, hr, -, e⟩ := way_step hW hn h1.1 (by rw [← hx]; exact h1.2)
   have := ih _ y hy (by omega)
   rw [e]; simp; omega
theorem way_short {S : Tre} {rk : Int → Nat} (hW : Wy S rk) : ∀ (k : Nat) (n : Int) (x : Nod), fnd S.nodes n = some x → rk n ≤ k → ∀ p ∈ S.way n, p.length ≤ 24 := by
 intro k
 induction k with
 | zero =>
  intro n x hn hk
  by_cases h1 : n = 1 ∨ (S.at_ n).above = 0
  ·rw [way_stop h1]; simp
  ·have hx : S.at_ n = x := by unfold Tre.at_; rw [hn]; rfl
   simp only [not_or] at h1
   obtain ⟨y, nm, hy, -, hr, -⟩ := way_step hW hn h1.1 (by rw [← hx]; exact h1.2)
   omega
 | succ k ih =>
  intro n x hn hk
  by_cases h1 : n = 1 ∨ (S.at_ n).above = 0
  ·rw [way_stop h1]; simp
  ·have hx : S.at_ n = x := by unfold Tre.at_; rw [hn]; rfl
   simp only [not_or] at h1
   obtain ⟨y, nm, hy, -, hr, hl, e⟩ := way_step hW hn h1.1 (by rw [← hx]; exact h1.2)
   rw [e]
   intro p hp
   rcases List.mem_append.1 hp with h | h
   ·exact ih _ y hy (by omega) p h
   ·rw [List.mem_singleton.1 h]; exact hl
end Go.Proofs.YtmgpgbfgemebbaaGreatDoor
