/- TEXTS of mine, merged. -/
import Derived.Test.YtonhcefgakmpfaaGreatDoorM1
import Derived.Test.YtonhcefgakmpfaaGreatDoorM3
import Derived.Test.YtonhcefgakmpfaaGreatDoorM4
import Derived.WalkMore
/- 'append(s, x...)' of whatever reads as a row, nil let in. No program in sight. -/
namespace Go.Own
open Go.RowKit
section
variable {w : World} {l : List HP} {v : Value} {e : TypeId} {size n : Nat} {xs : List Value}
theorem Has.appendNone {P : Program} (hO : Has w (row v e size n xs :: l)) (t ty : TypeId) (ht : P.underlying t = some (.slice e)) (i : TypeInfo) (hi : P.info? e = some i) (c : Nat) :
    (Builtin.append_ #[t, t] ty #[v, .slice none 0 c]).run P w = .ok v w := by
  obtain ⟨-, ⟨rfl, -⟩ | ⟨g, cap, cur, rfl, hnc, -⟩⟩ := hO.row_cases
  · simp [Builtin.append_, run_underlying ht, sizeOf, typeInfo, hi, Builtin.lenOf, Builtin.firstCells]
  · simp [Builtin.append_, run_underlying ht, sizeOf, typeInfo, hi, Builtin.lenOf, Builtin.firstCells, hnc, storeCells]
theorem Has.appendAny {P : Program} (hO : Has w (row v e size n xs :: l)) (t ty : TypeId) {z : Value} {bytes : Nat} (ht : P.underlying t = some (.slice e)) (hi : (P.info? e).map (fun i => (i.zero, i.size, i.bytes)) = some (some z, size, bytes)) (hzs : z.cells.size = size) (hsz : 0 < size)
    (x : Value) (m : Nat) (ys : List Value) (hr : Rd w x size m ys) (h1 : ∀ u ∈ ys, u.oneCell' = true) (h63 : n + m ≤ maxLen) (hbytes : (n + m) * bytes ≤ 140737488355328) :
    ∃ v' w', (Builtin.append_ #[t, t] ty #[v, x]).run P w = .ok v' w' ∧ Has w' (row v' e size (n + m) (xs ++ ys) :: l) ∧ Keep w w' ∧ (v = .slice none 0 0 → m = 0 → v' = .slice none 0 0) := by
  obtain ⟨i, hi, hz, hs, hby⟩ := info_parts hi
  obtain ⟨hyl, hm, p, cap, rfl, -, hc⟩ := hr
  rcases p with _ | ad
  · have hm0 : m = 0 := by
      rcases Nat.eq_zero_or_pos m with h | h
      · exact h
      · obtain ⟨g, o, e, -⟩ := hc (Nat.mul_pos h hsz)
        cases e
    subst hm0
    have hy : ys = [] := List.eq_nil_of_length_eq_zero (by simpa using hyl)
    subst hy
    exact ⟨v, w, hO.appendNone t ty ht i hi cap, by simpa using hO, Keep.refl w, fun h _ => h⟩
  · obtain ⟨v', w', h2, h3, h4, h5⟩ := hO.append (P := P) t ty i z bytes ht hi hz hs hby hzs ad m cap ys hyl (by
      intro j y hj
      have hjl : j < m * size := by rw [← hyl]; exact (List.getElem?_eq_some_iff.1 hj).1
      obtain ⟨g, o, e2, hc2⟩ := hc (by omega)
      cases e2
      rw [add_plain, hc2 j hjl, hj]) h1 h63 hbytes
    exact ⟨v', w', h2, h3, h4, fun a b => h5.2 ⟨a, b⟩⟩
theorem wp_appendA {P : Program} {o : Oper} {a : Act} {K : Act → World → Prop} {Q : Exit → Act → World → Prop} (s x : Operand) (t : TypeId)
    (ho : o.op = .call { callee := .builtin .append, args := #[s, x], argTypes := #[t, t] })
    {z : Value} {bytes : Nat} (ht : P.underlying t = some (.slice e)) (hi : (P.info? e).map (fun i => (i.zero, i.size, i.bytes)) = some (some z, size, bytes)) (hzs : z.cells.size = size) (hsz : 0 < size)
    (hO : Has w (row v e size n xs :: l)) (hs : a.eval s = v) (xv : Value) (m : Nat) (ys : List Value) (hx : a.eval x = xv) (hr : Rd w xv size m ys) (h1 : ∀ u ∈ ys, u.oneCell' = true) (h63 : n + m ≤ maxLen) (hbytes : (n + m) * bytes ≤ 140737488355328)
    (h : ∀ v' w', Has w' (row v' e size (n + m) (xs ++ ys) :: l) → Keep w w' → K (a.put o.dst v') w') : o.wp P a w K Q := by
  obtain ⟨v', w', hrun, h2, h3, -⟩ := hO.appendAny (P := P) t o.type ht hi hzs hsz xv m ys hr h1 h63 hbytes
  unfold Oper.wp execOp
  simp only [ho, resolve, invoke, builtin, Sem.run_bind, Sem.run_pure, Result.andThen_ok, List.map_toArray, List.map_cons, List.map_nil, hs, hx, hrun]
  exact h v' w' h2 h3
theorem wpList_appendA {P : Program} {ops : Array Oper} {rest : List Oper} {o : Oper} {a : Act} {Q : Exit → Act → World → Prop} (hgd : o.guard = none) (s x : Operand) (t : TypeId)
    (ho : o.op = .call { callee := .builtin .append, args := #[s, x], argTypes := #[t, t] })
    {z : Value} {bytes : Nat} (ht : P.underlying t = some (.slice e)) (hi : (P.info? e).map (fun i => (i.zero, i.size, i.bytes)) = some (some z, size, bytes)) (hzs : z.cells.size = size) (hsz : 0 < size)
    (hO : Has w (row v e size n xs :: l)) (hs : a.eval s = v) (xv : Value) (m : Nat) (ys : List Value) (hx : a.eval x = xv) (hr : Rd w xv size m ys) (h1 : ∀ u ∈ ys, u.oneCell' = true) (h63 : n + m ≤ maxLen) (hbytes : (n + m) * bytes ≤ 140737488355328)
    (h : ∀ v' w', Has w' (row v' e size (n + m) (xs ++ ys) :: l) → Keep w w' → wpList P ops Q rest (a.put o.dst v') w') : wpList P ops Q (o :: rest) a w :=
  wpList_plain hgd fun _ hK => wp_appendA s x t ho ht hi hzs hsz hO hs xv m ys hx hr h1 h63 hbytes fun v' w' h2 h3 => hK _ _ (h v' w' h2 h3)
end
end Go.Own
/- A POOL OF BYTES that nobody writes any more: many slices, each with its own block, owned together. No program in sight. -/
namespace Go.Own
open Go.RowKit
/-- Each pair of the list: a slice value and its bytes. -/
def poolc (u8 : TypeId) (B : List (Value × List Int)) : HP := star (B.map fun x => row x.1 u8 1 x.2.length (bc x.2))
section
variable {w : World} {l : List HP} {u8 : TypeId} {B : List (Value × List Int)}
theorem set_perm {α : Type _} : ∀ (F : List α) (k : Nat) (hk : k < F.length) (y : α), (F.set k y).Perm (y :: F.eraseIdx k)
  | _ :: _, 0, _, _ => .refl _
  | a :: F, k + 1, hk, y => ((set_perm F k (by simpa using hk) y).cons a).trans (.swap _ _ _)
end
end Go.Own
/- CHUNKS SELECTED AND ORDERED by a list of their places. No program in sight. -/
namespace Go.Own
def pickE : List Nat → List HP → List HP
  | [], _ => []
  | i :: is, l => l[i]?.getD emp :: pickE is (l.set i emp)
theorem Has.out1 {w : World} {l m : List HP} (i : Nat) (h : Has w (l ++ m)) : Has w (l[i]?.getD emp :: (l.set i emp ++ m)) := by
  by_cases hi : i < l.length
  · rw [List.getElem?_eq_getElem hi, Option.getD_some]
    have h1 : Has w (l[i] :: (l.eraseIdx i ++ m)) := h.perm ((perm_pull l i hi).append_right m)
    have h2 : Has w (emp :: l[i] :: (l.eraseIdx i ++ m)) := Has.emp_iff.2 h1
    exact h2.p1.perm (((set_perm l i hi emp).symm.append_right m).cons _)
  · rw [List.getElem?_eq_none (by omega), Option.getD_none, List.set_eq_of_length_le (by omega)]
    exact Has.emp_iff.2 h
theorem Has.dropAll {w : World} {m : List HP} : ∀ (l : List HP), Has w (l ++ m) → Has w m
  | [], h => h
  | _ :: l, h => Has.dropAll l h.drop
theorem Has.reIn {w : World} {m : List HP} : ∀ (is : List Nat) (acc l : List HP), Has w (acc ++ (l ++ m)) → Has w (acc ++ (pickE is l ++ m))
  | [], acc, l, h => by
    unfold pickE
    rw [List.nil_append]
    have : Has w (l ++ (acc ++ m)) := h.perm (List.perm_append_comm_assoc _ _ _)
    exact this.dropAll
  | i :: is, acc, l, h => by
    unfold pickE
    have h1 : Has w (l ++ (acc ++ m)) := h.perm (List.perm_append_comm_assoc _ _ _)
    have h2 := h1.out1 i
    have h3 : Has w ((acc ++ [l[i]?.getD emp]) ++ (l.set i emp ++ m)) := by
      rw [List.append_assoc, List.singleton_append]
      exact h2.perm (((List.perm_append_comm_assoc _ _ _).cons _).trans List.perm_middle.symm)
    have h4 := Has.reIn is _ _ h3
    rw [List.append_assoc, List.singleton_append] at h4
    exact h4
/-- Of the first n chunks those at the places 'is', in that order; the rest of the first n are let go. -/
theorem Has.re {w : World} {l : List HP} (n : Nat) (is : List Nat) (h : Has w l) : Has w (pickE is (l.take n) ++ l.drop n) :=
  Has.reIn is [] _ (by rw [List.nil_append, List.take_append_drop]; exact h)
example {w : World} {a b c d : HP} {L : List HP} (h : Has w (a :: b :: c :: d :: L)) : Has w (c :: a :: d :: L) := h.re 3 [2, 0]
end Go.Own
/- THE WALK of path: parts. -/
namespace Go.Proofs.YtonhcefgakmpfaaGreatDoor
open Go.RowKit Go.Own
/-- Strings in a row of their own. -/
def Strs (v : Value) (xs : List Str) : HP := row v tStr 1 xs.length (xs.map sV)
theorem Strs.rd {v : Value} {xs : List Str} {w : World} {L : List HP} (h : Has w (Strs v xs :: L)) : Rd w v 1 xs.length (xs.map sV) := Has.rd h
theorem infoStr : (Tryz.prog.info? tStr).map (fun i => (i.zero, i.size, i.bytes)) = some (some (.string ⟨#[]⟩), 1, 16) := by kernel_rfl
/-- The library's bound of short needles lies where it lay. -/
def MxL (mx : Int) (L : List HP) : Prop := ∀ w', Has w' L → w'.cell? ⟨0, 0, none⟩ = some (.int .i64 mx)
theorem MxL.cons {mx : Int} {L : List HP} (h : MxL mx L) (A : HP) : MxL mx (A :: L) := fun w' h' => h w' h'.drop
def pieces (s : Str) : List Str := (Lib.splitB (sB [47]) 0 (Lib.countB (sB s) (sB [47])) (sB s)).map (·.data.toList)
def skipP (p : Str) : Bool := p == [] || p == [46]
def partsL : List Str → List Str → Option (List Str)
  | [], acc => some acc
  | p :: ps, acc => if skipP p = true then partsL ps acc else if 24 < p.length then none else partsL ps (acc ++ [p])
def partsM (s : Str) : List Str × Bool := match partsL (pieces s) [] with
  | none => ([], false)
  | some l => (l, decide (l.length ≤ 20))
theorem sB_toList (l : Str) : (sB l).data.toList = l := by simp [sB]
theorem sB_of (x : ByteArray) : sB x.data.toList = x := by cases x; simp [sB]
theorem keepBelow {w w' : World} {L : List HP} (h : Has w L) (hb : Below w.heap.size w w') : Has w' L ∧ Keep w w' := ⟨h.frame fun k hk => hb.block k hk, (Keep.refl w).below hb⟩
set_option maxRecDepth 100000 in
theorem sClone (p : Str) (w : World) (L : List HP) (hp : p.length ≤ 200000) (hO : Has w L) : Calls Tryz.prog 235 #[sV p] w fun e w' => e = .returned (sV p) ∧ Has w' L ∧ Keep w w' := by
  have HC := hid (Tryz.stringslite_Clone (sB p) w (by show p.toArray.size ≤ _; simp; omega))
  go_enter Tryz.func235, Tryz.ntmps235
  go_wp2_with fail
  refine HC.out.mono ?_
  rintro e w' ⟨rfl, hb⟩
  obtain ⟨h1, h2⟩ := keepBelow hO hb
  try dsimp only
  go_wp2_with fail
  go_ret
  exact ⟨rfl, h1, h2⟩
set_option maxRecDepth 100000 in
set_option maxHeartbeats 4000000 in
theorem pParts (s : Str) (mx : Int) (w : World) (L : List HP) (hM : MxL mx L) (hs : s.length ≤ 100000) (hO : Has w L) :
    Calls Tryz.prog 185 #[sV s] w fun e w' => ∃ v, e = .returned (.tuple #[v, .bool (partsM s).2]) ∧ Has w' (Strs v (partsM s).1 :: L) ∧ Keep w w' := by
  have HS := hid hs
  have hsp := Tryz.strings_Split (sB s) (sB [47]) mx w (by show s.toArray.size < _; simp; omega) (hM w hO) (by decide)
  have hpc : (Lib.splitB (sB [47]) 0 (Lib.countB (sB s) (sB [47])) (sB s)).map Value.string = (pieces s).map sV := by
    unfold pieces
    rw [List.map_map]
    refine List.map_congr_left fun x _ => ?_
    simp only [Function.comp]
  have hpl : (pieces s).length = Lib.countB (sB s) (sB [47]) + 1 := by
    unfold pieces
    rw [List.length_map]
    exact Lib.splitB_all _ (by decide) 0 _ _ rfl
  rw [hpc] at hsp
  rw [← hpl] at hsp
  have HSP := hid hsp
  have HMX := hid hM
  have HPM := hid (show partsM s = match partsL (pieces s) [] with | none => ([], false) | some l => (l, decide (l.length ≤ 20)) from rfl)
  generalize partsM s = R at *
  have HPL := hid (show (pieces s).length ≤ 200000 from by
    rw [hpl]
    have h1 := Lib.countB_le (sB [47]) (by decide) _ (sB s) (Nat.le_refl _)
    have h2 : (sB s).size = s.length := by show s.toArray.size = _; simp
    rw [h2] at h1
    have := HS.out
    omega)
  generalize pieces s = ps at *
  have HO1 := hid ((hO.alloc (.cells (ps.map sV).toArray tStr)).row_nil tStr 1)
  have HK1 := hid ((Keep.refl w).alloc (.cells (ps.map sV).toArray tStr))
  have hpi : (ps.length : Int) ≤ 200000 := by have := HPL.out; omega
  clear hsp hpc hpl hM hs hO
  go_enter Tryz.func185, Tryz.ntmps185
  go_wp2_with fail
  go_step3
  go_wp2_with fail
  go_step3
  go_wp2_with fail
  refine HSP.out.mono ?_
  rintro e w1 ⟨rfl, rfl⟩
  try dsimp only
  clear HSP
  generalize w.alloc (.cells (ps.map sV).toArray tStr) = w1 at *
  generalize w.heap.size = g at *
  go_wp2_with fail
  go_loopw [4, 10] (fun v i w' => ∃ (k : Nat) (acc : List Str), k ≤ ps.length ∧ acc.length ≤ k ∧ i = .int .i64 k ∧ Hid (partsL ps [] = partsL (ps.drop k) acc) ∧ Hid (Has w' (Strs v acc :: pt g (.cells (ps.map sV).toArray tStr) :: L)) ∧ Hid (Keep w w')) (fun _ i _ => ps.length - (intOf i).toNat)
  case atStart => exact ⟨0, [], by omega, by simp, rfl, hid rfl, HO1, HK1⟩
  case round =>
    clear HO1 HK1
    obtain ⟨k, acc, hk, hac, rfl, HP, HO, HK⟩ := hrel
    obtain ⟨p4, c4, e4, -⟩ := (Strs.rd HO.out).form
    subst e4
    have hk0 : (0 : Int) ≤ (k : Int) := by omega
    by_cases hlt : k < ps.length
    · have hki : (k : Int) < (ps.length : Int) := by omega
      have hc : wr.cell? ⟨g, k, none⟩ = some (sV ps[k]) := by rw [HO.out.p1.cells k]; simp [hlt]
      have hdr : ps.drop k = ps[k] :: ps.drop (k + 1) := by simp
      generalize ps[k] = p at *
      rw [hdr] at HP
      have HLT := hid hlt
      have HAC := hid hac
      clear hdr hlt hk hac
      by_cases hs1 : p = []
      · subst hs1
        have HP2 := hid (show partsL ps [] = partsL (ps.drop (k + 1)) acc by rw [HP.out]; rfl)
        go_wp2_with fail
        exact ⟨⟨k + 1, acc, by have := HLT.out; omega, by have := HAC.out; omega, by go_num, HP2, HO, HK⟩, by have := HLT.out; simp [intOf]; omega⟩
      · by_cases hs2 : p = [46]
        · subst hs2
          have HP2 := hid (show partsL ps [] = partsL (ps.drop (k + 1)) acc by rw [HP.out]; rfl)
          clear hs1
          go_wp2_with fail
          exact ⟨⟨k + 1, acc, by have := HLT.out; omega, by have := HAC.out; omega, by go_num, HP2, HO, HK⟩, by have := HLT.out; simp [intOf]; omega⟩
        · have hsk : ¬ skipP p = true := by simp [skipP, hs1, hs2]
          have he1 : p.isEmpty = false := by simpa using hs1
          have he2 : (p == [46]) = false := by simpa using hs2
          have hpl : (p.length : Int) ≤ (p.length : Int) := by omega
          by_cases hlong : 24 < p.length
          · have HP2 := hid (show partsL ps [] = none by rw [HP.out]; simp only [partsL]; rw [if_neg hsk, if_pos hlong])
            have hsl : (24 : Int) < (p.length : Int) := by omega
            rw [HP2.out] at HPM
            clear hs1 hsk hs2 hlong hpl
            go_wp2_with fail
            try rw [Exit.noGoto_ret]
            go_ret2
            rw [HPM.out]
            exact ⟨.slice none 0 0, rfl, HO.out.drop.drop.row_nil tStr 1, HK.out⟩
          · have HP2 := hid (show partsL ps [] = partsL (ps.drop (k + 1)) (acc ++ [p]) by rw [HP.out]; simp only [partsL]; rw [if_neg hsk, if_neg hlong])
            have hsl : ¬ (24 : Int) < (p.length : Int) := by omega
            have HL24 := hid (show p.length ≤ 24 by omega)
            clear hs1 hsk hs2 hlong hpl
            have HSC := hid (sClone p wr _ (by have := HL24.out; omega) HO.out)
            go_wp2_with fail
            refine HSC.out.mono ?_
            rintro e w2 ⟨rfl, hO2, hK2⟩
            have HO2 := hid (hO2.alloc (.cells #[sV p] tStr)).p1
            have HK2 := hid ((HK.out.trans hK2).alloc (.cells #[sV p] tStr))
            have hcx := HO2.out.p1.cells 0
            have HAL := hid (show acc.length ≤ 200000 by have := HAC.out; have := HLT.out; have := HPL.out; omega)
            clear hO2 hK2 HO HK HSC
            try dsimp only
            go_wp2_with (at_builtin; refine wpList_append1 rfl _ _ _ rfl Tryz.underlying30 infoStr rfl (sV p) HO2.out rfl 1 w2.heap.size rfl hcx rfl (le_maxLen (by have := HAL.out; omega)) (by have := HAL.out; omega) ?_; intro v5 w5 h5 k5)
            have HO5 := hid (show Has w5 (Strs v5 (acc ++ [p]) :: pt g (.cells (ps.map sV).toArray tStr) :: L) from by
              have h6 : Has w5 (Strs v5 (acc ++ [p]) :: pt w2.heap.size (.cells #[sV p] tStr) :: pt g (.cells (ps.map sV).toArray tStr) :: L) := by
                unfold Strs
                rw [List.map_append, List.length_append]
                exact h5
              exact h6.re 2 [0])
            have HK5 := hid (HK2.out.trans k5)
            clear h5 k5 HO2 HK2 hcx
            go_wp2_with fail
            exact ⟨⟨k + 1, acc ++ [p], by have := HLT.out; omega, by have := HAC.out; simp; omega, by go_num, HP2, HO5, HK5⟩, by have := HLT.out; simp [intOf]; omega⟩
    · obtain rfl : k = ps.length := by omega
      have hki : ¬ (ps.length : Int) < (ps.length : Int) := by omega
      have HP2 := hid (show partsL ps [] = some acc by rw [HP.out]; simp [partsL])
      rw [HP2.out] at HPM
      clear hlt hk hac HP
      go_wp2_with fail
      try rw [Exit.noGoto_ret]
      go_ret2
      rw [HPM.out]
      dsimp only
      rw [show decide (acc.length ≤ 20) = decide ((acc.length : Int) ≤ 20) from by rw [decide_eq_decide]; omega]
      exact ⟨_, rfl, HO.out.re 2 [0], HK.out⟩
end Go.Proofs.YtonhcefgakmpfaaGreatDoor
/- THE WALK of path: Split, Join, Last, Target. -/
namespace Go.Proofs.YtonhcefgakmpfaaGreatDoor
open Go.RowKit Go.Own
def isAbs (p : Str) : Bool := Lib.hasPrefix p [47]
def hasNul (p : Str) : Bool := decide (0 ≤ Lib.indexByte p 0)
def splitM (p : Str) : List Str × Int :=
  if (!isAbs p || hasNul p) = true then ([], 2) else if (!(partsM p).2 || decide ((200 : Int) < p.length)) = true then ([], 11) else ((partsM p).1, 0)
theorem sPrefix (p : Str) (w : World) : Calls Tryz.prog 186 #[sV p, .string ⟨#[47]⟩] w fun e w' => e = .returned (.bool (isAbs p)) ∧ w = w' :=
  (Tryz.strings_HasPrefix (sB p) ⟨#[47]⟩ w).mono fun e w' ⟨h1, h2⟩ => ⟨by rw [h1, sB_toList]; rfl, h2.symm⟩
theorem sNul (p : Str) (w : World) : Calls Tryz.prog 184 #[sV p, .string ⟨#[0]⟩] w fun e w' => e = .returned (.bool (hasNul p)) ∧ w = w' :=
  (Tryz.strings_Contains_one (sB p) 0 w).mono fun e w' ⟨h1, h2⟩ => ⟨by rw [h1, sB_toList]; rfl, h2.symm⟩
set_option maxRecDepth 100000 in
set_option maxHeartbeats 4000000 in
theorem pSplit (p : Str) (mx : Int) (w : World) (L : List HP) (hM : MxL mx L) (hs : p.length ≤ 100000) (hO : Has w L) :
    Calls Tryz.prog 152 #[sV p] w fun e w' => ∃ v, e = .returned (.tuple #[v, .int .i64 (splitM p).2]) ∧ Has w' (Strs v (splitM p).1 :: L) ∧ Keep w w' := by
  have HP := hid (pParts p mx w L hM hs hO)
  have HO := hid hO
  have HSM := hid (show splitM p = if (!isAbs p || hasNul p) = true then ([], 2) else if (!(partsM p).2 || decide ((200 : Int) < p.length)) = true then ([], 11) else ((partsM p).1, 0) from rfl)
  have HS1 := hid (fun w => sPrefix p w)
  have HS2 := hid (fun w => sNul p w)
  generalize splitM p = R at *
  generalize isAbs p = b1 at *
  generalize hasNul p = b2 at *
  generalize partsM p = M at *
  obtain ⟨ms, mb⟩ := M
  dsimp only at HP HSM
  clear hM hO
  cases b1
  · have HR := hid (show R = ([], 2) from by rw [HSM.out]; rfl)
    go_enter Tryz.func152, Tryz.ntmps152
    go_wp2_with fail
    refine (HS1.out w).mono ?_
    rintro e w' ⟨rfl, rfl⟩
    try dsimp only
    go_wp2_with fail
    go_ret2
    rw [HR.out]
    exact ⟨.slice none 0 0, rfl, HO.out.row_nil tStr 1, Keep.refl _⟩
  cases b2
  · go_enter Tryz.func152, Tryz.ntmps152
    go_wp2_with fail
    refine (HS1.out w).mono ?_
    rintro e w' ⟨rfl, rfl⟩
    try dsimp only
    go_wp2_with fail
    refine (HS2.out w).mono ?_
    rintro e w' ⟨rfl, rfl⟩
    try dsimp only
    go_wp2_with fail
    refine (HP.out).mono ?_
    rintro e w1 ⟨v1, rfl, hO1, hK1⟩
    have HO1 := hid hO1
    have HK1 := hid ((Keep.refl w).trans hK1)
    clear hO1 hK1
    try dsimp only
    obtain ⟨p1, c1, e1, -⟩ := (Strs.rd HO1.out).form
    subst e1
    cases mb
    · have HR := hid (show R = ([], 11) from by rw [HSM.out]; rfl)
      go_wp2_with fail
      go_ret2
      rw [HR.out]
      exact ⟨.slice none 0 0, rfl, HO1.out.drop.row_nil tStr 1, HK1.out⟩
    · by_cases hl : (200 : Int) < p.length
      · have HR := hid (show R = ([], 11) from by rw [HSM.out, decide_eq_true hl]; rfl)
        go_wp2_with fail
        go_ret2
        rw [HR.out]
        exact ⟨.slice none 0 0, rfl, HO1.out.drop.row_nil tStr 1, HK1.out⟩
      · have HR := hid (show R = (ms, 0) from by rw [HSM.out, decide_eq_false hl]; rfl)
        go_wp2_with fail
        go_ret2
        rw [HR.out]
        exact ⟨_, rfl, HO1.out, HK1.out⟩
  · have HR := hid (show R = ([], 2) from by rw [HSM.out]; rfl)
    go_enter Tryz.func152, Tryz.ntmps152
    go_wp2_with fail
    refine (HS1.out w).mono ?_
    rintro e w' ⟨rfl, rfl⟩
    try dsimp only
    go_wp2_with fail
    refine (HS2.out w).mono ?_
    rintro e w' ⟨rfl, rfl⟩
    try dsimp only
    go_wp2_with fail
    go_ret2
    rw [HR.out]
    exact ⟨.slice none 0 0, rfl, HO.out.row_nil tStr 1, Keep.refl _⟩
def joinS (xs : List Str) : Str := Lib.join xs [47]
def joinM (xs : List Str) : Str := 47 :: joinS xs
theorem sB_cons (l : Str) : (⟨#[47]⟩ : ByteArray) ++ sB l = sB (47 :: l) := by
  apply ByteArray.ext
  simp [sB]
set_option maxRecDepth 100000 in
set_option maxHeartbeats 4000000 in
theorem pJoin (v : Value) (xs : List Str) (w : World) (L : List HP) (hr : Rd w v 1 xs.length (xs.map sV)) (hl : xs.length ≤ 100000) (hj : (joinS xs).length ≤ 1000000) (hO : Has w L) :
    Calls Tryz.prog 190 #[v] w fun e w' => e = .returned (sV (joinM xs)) ∧ Has w' L ∧ Keep w w' := by
  obtain ⟨p, c, rfl, hc, -, hcs⟩ := hr.form
  have HJ : Calls Tryz.prog 239 #[.slice p xs.length c, .string ⟨#[47]⟩] w fun e w' => e = .returned (sV (joinS xs)) ∧ Has w' L ∧ Keep w w' := by
    rcases xs with _ | ⟨x, xs⟩
    · refine (Tryz.strings_Join_none p c ⟨#[47]⟩ w).mono ?_
      rintro e w' ⟨rfl, rfl⟩
      exact ⟨rfl, hO, Keep.refl _⟩
    · obtain ⟨g, o, rfl, hcs2⟩ := hcs (by simp)
      have hb : g < w.heap.size := by
        have h0 := hcs2 0 (by simp)
        exact World.block_lt_of_cell? w ⟨g, o, none⟩ h0
      have h := Tryz.strings_Join g o c ((x :: xs).map sB) ⟨#[47]⟩ w (fun j y hy => by
        rw [List.getElem?_map] at hy
        obtain ⟨z, hz, rfl⟩ := Option.map_eq_some_iff.1 hy
        rw [hcs2 j (by have := (List.getElem?_eq_some_iff.1 hz).1; omega), List.getElem?_map, hz]
        rfl) hb (by rw [List.length_map]; omega) (by rw [List.length_map]; exact hc) (by
        rw [List.map_map, show ((fun y : ByteArray => y.data.toList) ∘ sB) = id from by funext y; exact sB_toList y, List.map_id]
        exact Nat.le_trans hj (by omega))
      rw [List.map_map, show ((fun y : ByteArray => y.data.toList) ∘ sB) = id from by funext y; exact sB_toList y, List.map_id, List.length_map] at h
      refine h.mono ?_
      rintro e w' ⟨rfl, hb⟩
      obtain ⟨h1, h2⟩ := keepBelow hO hb
      exact ⟨rfl, h1, h2⟩
  have HJ := hid HJ
  clear hcs hr hO
  go_enter Tryz.func190, Tryz.ntmps190
  go_wp2_with fail
  refine HJ.out.mono ?_
  rintro e w1 ⟨rfl, hO1, hK1⟩
  have HO1 := hid hO1
  have HK1 := hid hK1
  clear hO1 hK1
  try dsimp only
  go_wp2_with fail
  go_ret
  rw [show sV (joinM xs) = .string (⟨#[47]⟩ ++ sB (joinS xs)) from by rw [sB_cons]; rfl]
  exact ⟨rfl, HO1.out, HK1.out⟩
def targetM (p : Str) : List Str × Bool × Int :=
  if (p.isEmpty || hasNul p) = true then ([], false, 2) else if (!(partsM p).2 || decide ((100 : Int) < p.length)) = true then ([], false, 11) else ((partsM p).1, isAbs p, 0)
set_option maxRecDepth 100000 in
set_option maxHeartbeats 4000000 in
theorem pTarget (p : Str) (mx : Int) (w : World) (L : List HP) (hM : MxL mx L) (hs : p.length ≤ 100000) (hO : Has w L) :
    Calls Tryz.prog 126 #[sV p] w fun e w' => ∃ v, e = .returned (.tuple #[v, .bool (targetM p).2.1, .int .i64 (targetM p).2.2]) ∧ Has w' (Strs v (targetM p).1 :: L) ∧ Keep w w' := by
  have HP := hid (pParts p mx w L hM hs hO)
  have HO := hid hO
  have HSM := hid (show targetM p = if (p.isEmpty || hasNul p) = true then ([], false, 2) else if (!(partsM p).2 || decide ((100 : Int) < p.length)) = true then ([], false, 11) else ((partsM p).1, isAbs p, 0) from rfl)
  have HS1 := hid (fun w => sPrefix p w)
  have HS2 := hid (fun w => sNul p w)
  generalize targetM p = R at *
  generalize isAbs p = b1 at *
  generalize hasNul p = b2 at *
  generalize partsM p = M at *
  obtain ⟨ms, mb⟩ := M
  dsimp only at HP HSM
  clear hM hO
  cases he : p.isEmpty
  · rw [he] at HSM
    cases b2
    · go_enter Tryz.func126, Tryz.ntmps126
      go_wp2_with fail
      refine (HS2.out w).mono ?_
      rintro e w' ⟨rfl, rfl⟩
      try dsimp only
      go_wp2_with fail
      refine (HP.out).mono ?_
      rintro e w1 ⟨v1, rfl, hO1, hK1⟩
      have HO1 := hid hO1
      have HK1 := hid ((Keep.refl w).trans hK1)
      clear hO1 hK1
      try dsimp only
      obtain ⟨p1, c1, e1, -⟩ := (Strs.rd HO1.out).form
      subst e1
      cases mb
      · have HR := hid (show R = ([], false, 11) from by rw [HSM.out]; rfl)
        go_wp2_with fail
        go_ret3
        rw [HR.out]
        exact ⟨.slice none 0 0, rfl, HO1.out.drop.row_nil tStr 1, HK1.out⟩
      · by_cases hl : (100 : Int) < p.length
        · have HR := hid (show R = ([], false, 11) from by rw [HSM.out, decide_eq_true hl]; rfl)
          go_wp2_with fail
          go_ret3
          rw [HR.out]
          exact ⟨.slice none 0 0, rfl, HO1.out.drop.row_nil tStr 1, HK1.out⟩
        · have HR := hid (show R = (ms, b1, 0) from by rw [HSM.out, decide_eq_false hl]; rfl)
          go_wp2_with fail
          refine (HS1.out w1).mono ?_
          rintro e w' ⟨rfl, rfl⟩
          try dsimp only
          go_wp2_with fail
          go_ret3
          rw [HR.out]
          exact ⟨_, rfl, HO1.out, HK1.out⟩
    · have HR := hid (show R = ([], false, 2) from by rw [HSM.out]; rfl)
      go_enter Tryz.func126, Tryz.ntmps126
      go_wp2_with fail
      refine (HS2.out w).mono ?_
      rintro e w' ⟨rfl, rfl⟩
      try dsimp only
      go_wp2_with fail
      go_ret3
      rw [HR.out]
      exact ⟨.slice none 0 0, rfl, HO.out.row_nil tStr 1, Keep.refl _⟩
  · rw [he] at HSM
    have HR := hid (show R = ([], false, 2) from by rw [HSM.out]; rfl)
    go_enter Tryz.func126, Tryz.ntmps126
    go_wp2_with fail
    go_ret3
    rw [HR.out]
    exact ⟨.slice none 0 0, rfl, HO.out.row_nil tStr 1, Keep.refl _⟩
def lastM (p : Str) : Str × Str × Int :=
  if (splitM p).2 ≠ 0 then ([], [], (splitM p).2) else
    match (splitM p).1.getLast? with
    | none => ([], [], 2)
    | some x => if x = [46, 46] then ([], [], 2) else (joinM (splitM p).1.dropLast, x, 0)
set_option maxRecDepth 100000 in
set_option maxHeartbeats 4000000 in
theorem pLast (p : Str) (mx : Int) (w : World) (L : List HP) (hM : MxL mx L) (hs : p.length ≤ 100000) (hl : (splitM p).1.length ≤ 100000) (hj : (joinS (splitM p).1.dropLast).length ≤ 1000000) (hO : Has w L) :
    Calls Tryz.prog 129 #[sV p] w fun e w' => e = .returned (.tuple #[sV (lastM p).1, sV (lastM p).2.1, .int .i64 (lastM p).2.2]) ∧ Has w' L ∧ Keep w w' := by
  have HP := hid (pSplit p mx w L hM hs hO)
  have HSM := hid (show lastM p = if (splitM p).2 ≠ 0 then ([], [], (splitM p).2) else match (splitM p).1.getLast? with | none => ([], [], 2) | some x => if x = [46, 46] then ([], [], 2) else (joinM (splitM p).1.dropLast, x, 0) from rfl)
  generalize lastM p = R at *
  generalize splitM p = M at *
  obtain ⟨ms, me⟩ := M
  dsimp only at HP HSM hj hl
  have HJ := hid hj
  have HL := hid hl
  clear hM hO hj
  by_cases he : me = 0
  · subst he
    rw [if_neg (by simp)] at HSM
    rcases List.eq_nil_or_concat ms with rfl | ⟨ys, x, rfl⟩
    · have HR := hid (show R = ([], [], 2) from by rw [HSM.out]; rfl)
      go_enter Tryz.func129, Tryz.ntmps129
      go_wp2_with fail
      refine (HP.out).mono ?_
      rintro e w1 ⟨v1, rfl, hO1, hK1⟩
      have HO1 := hid hO1
      have HK1 := hid ((Keep.refl w).trans hK1)
      clear hO1 hK1
      try dsimp only
      obtain ⟨p1, c1, e1, -⟩ := (Strs.rd HO1.out).form
      subst e1
      try dsimp only
      go_wp2_with fail
      go_ret3
      rw [HR.out]
      exact ⟨rfl, HO1.out.drop, HK1.out⟩
    · rw [List.concat_eq_append] at *
      rw [List.getLast?_concat, List.dropLast_concat] at HSM
      rw [List.dropLast_concat] at HJ
      dsimp only at HSM
      have hlen : ((ys ++ [x]).length : Int) = (ys.length : Int) + 1 := by simp
      have hal : (ys.length : Int) ≤ 100000 := by have := HL.out; simp at this; omega
      have ha0 : (0 : Int) ≤ (ys.length : Int) := by omega
      by_cases hx : x = [46, 46]
      · have HR := hid (show R = ([], [], 2) from by rw [HSM.out, if_pos hx])
        subst hx
        go_enter Tryz.func129, Tryz.ntmps129
        go_wp2_with fail
        refine (HP.out).mono ?_
        rintro e w1 ⟨v1, rfl, hO1, hK1⟩
        have HO1 := hid hO1
        have HK1 := hid ((Keep.refl w).trans hK1)
        clear hO1 hK1
        try dsimp only
        obtain ⟨p1, c1, e1, -, -, hcs⟩ := (Strs.rd HO1.out).form
        obtain ⟨g, o, rfl, hcs2⟩ := hcs (by simp)
        subst e1
        have hc := hcs2 ys.length (by simp)
        rw [List.getElem?_map, List.getElem?_concat_length] at hc
        have hc1 : w1.cell? ⟨g, o + ys.length, none⟩ = some (sV [46, 46]) := hc
        clear hcs hcs2 hc
        have hli : (ys.length : Int) < (ys.length : Int) + 1 := by omega
        go_wp2_with fail
        go_ret3
        rw [HR.out]
        exact ⟨rfl, HO1.out.drop, HK1.out⟩
      · have HR := hid (show R = (joinM ys, x, 0) from by rw [HSM.out, if_neg hx])
        have hxb : (x == [46, 46]) = false := by simpa using hx
        go_enter Tryz.func129, Tryz.ntmps129
        go_wp2_with fail
        refine (HP.out).mono ?_
        rintro e w1 ⟨v1, rfl, hO1, hK1⟩
        have HO1 := hid hO1
        have HK1 := hid ((Keep.refl w).trans hK1)
        clear hO1 hK1
        try dsimp only
        obtain ⟨p1, c1, e1, hcap, -, hcs⟩ := (Strs.rd HO1.out).form
        obtain ⟨g, o, rfl, hcs2⟩ := hcs (by simp)
        subst e1
        have hc := hcs2 ys.length (by simp)
        rw [List.getElem?_map, List.getElem?_concat_length] at hc
        have hc1 : w1.cell? ⟨g, o + ys.length, none⟩ = some (sV x) := hc
        have HX := hid (fun (w' : World) (h : Has w' (Strs (.slice (some ⟨g, o, none⟩) (ys ++ [x]).length c1) (ys ++ [x]) :: L)) => show w'.cell? ⟨g, o + ys.length, none⟩ = some (sV x) from by
          obtain ⟨p', c', e', -, -, hcs'⟩ := (Strs.rd h).form
          obtain ⟨g', o', e2, hcs3⟩ := hcs' (by simp)
          subst e2
          simp only [Value.slice.injEq, Option.some.injEq, Addr.mk.injEq, and_true, true_and] at e'
          obtain ⟨⟨rfl, rfl⟩, rfl⟩ := e'
          have hc := hcs3 ys.length (by simp)
          rw [List.getElem?_map, List.getElem?_concat_length] at hc
          exact hc)
        have HRD := hid (show Rd w1 (.slice (some ⟨g, o, none⟩) ys.length c1) 1 ys.length (ys.map sV) from
          ⟨by simp, le_maxLen (by omega), some ⟨g, o, none⟩, c1, rfl, by simp at hcap; omega, fun _ => ⟨g, o, rfl, fun j hj => by
            rw [hcs2 j (by simp; omega), List.getElem?_map, List.getElem?_append_left (by omega), List.getElem?_map]⟩⟩)
        have hyl : ys.length + 1 ≤ c1 := by simpa using hcap
        have hyi : (ys.length : Int) ≤ (c1 : Int) := by omega
        have HYL := hid (show ys.length ≤ 100000 by omega)
        clear hcs hcs2 hc hcap hx
        go_upto_region 7 with fail
        refine region_text (fun w' => w'.cell? ⟨g, o + ys.length, none⟩ = some (sV x) ∧ True) (by kernel_rfl) (by kernel_rfl) ⟨HX.out _ HO1.out.drew, trivial⟩ ?_
        repeat (first
          | (refine wpL_read (by rfl) (by rfl) ?_ ?_ ?_; rotate_left; (rintro w ⟨z0, z1⟩; go_simp; with_reducible rfl); simp only [Act.put, List.setIfInBounds_toArray, List.set_cons_zero, List.set_cons_succ]) | (refine wpL_skip (by rfl) ?_; simp only [Act.put, List.setIfInBounds_toArray, List.set_cons_zero, List.set_cons_succ]))
        refine wpL_act (by rfl) (by rfl) (fun K hK => ?_)
        go_simp
        refine (pJoin (.slice (some ⟨g, o, none⟩) ys.length c1) ys w1.drew _ (HRD.out.cellsOld fun k _ => rfl) HYL.out HJ.out HO1.out.drew).mono ?_
        rintro e w2 ⟨rfl, hO2, hK2⟩
        have HO2 := hid hO2
        have HK2 := hid ((HK1.out.drew).trans hK2)
        clear hO2 hK2
        try dsimp only
        refine hK.out _ _ (⟨HX.out _ HO2.out, trivial⟩) ?_
        clear hK K
        try simp only [Act.put, List.setIfInBounds_toArray, List.set_cons_zero, List.set_cons_succ]
        repeat (first
          | (refine wpL_read (by rfl) (by rfl) ?_ ?_ ?_; rotate_left; (rintro w ⟨z0, z1⟩; go_simp; with_reducible rfl); simp only [Act.put, List.setIfInBounds_toArray, List.set_cons_zero, List.set_cons_succ]) | (refine wpL_skip (by rfl) ?_; simp only [Act.put, List.setIfInBounds_toArray, List.set_cons_zero, List.set_cons_succ]))
        refine wpL_nil ?_
        go_wp2_with fail
        go_ret3
        rw [HR.out]
        exact ⟨rfl, HO2.out.drop, HK2.out⟩
  · have HR := hid (show R = ([], [], me) from by rw [HSM.out, if_pos he])
    go_enter Tryz.func129, Tryz.ntmps129
    go_wp2_with fail
    refine (HP.out).mono ?_
    rintro e w1 ⟨v1, rfl, hO1, hK1⟩
    have HO1 := hid hO1
    have HK1 := hid ((Keep.refl w).trans hK1)
    clear hO1 hK1
    try dsimp only
    obtain ⟨p1, c1, e1, -⟩ := (Strs.rd HO1.out).form
    subst e1
    go_wp2_with fail
    go_ret3
    rw [HR.out]
    exact ⟨rfl, HO1.out.drop, HK1.out⟩
end Go.Proofs.YtonhcefgakmpfaaGreatDoor
/- THE PLAIN LAW OF A TABLE: sixteen descriptors as a list; what it reads as in cells. -/
namespace Go.Tb
structure Slot where
  node : Int
  off : Int
  flags : Int
  on : Bool
  deriving DecidableEq
def none4 : Slot := ⟨0, 0, 0, false⟩
def Slot.enc (s : Slot) : List Value := [.int .i64 s.node, .int .i64 s.off, .int .i64 s.flags, .bool s.on]
def encs : List Slot → List Value
  | [] => []
  | s :: T => s.enc ++ encs T
def cells (T : List Slot) : Array Value := (encs T).toArray
theorem encs_len (T : List Slot) : (encs T).length = T.length * 4 := by
  induction T with
  | nil => rfl
  | cons s T ih => simp [encs, Slot.enc, ih]; omega
theorem encs_at (T : List Slot) (i : Nat) (h : i < T.length) :
    (encs T)[i * 4]? = some (.int .i64 T[i].node) ∧ (encs T)[i * 4 + 1]? = some (.int .i64 T[i].off) ∧ (encs T)[i * 4 + 2]? = some (.int .i64 T[i].flags) ∧ (encs T)[i * 4 + 3]? = some (.bool T[i].on) := by
  induction T generalizing i with
  | nil => simp at h
  | cons s T ih =>
    cases i with
    | zero => simp [encs, Slot.enc]
    | succ i =>
      have := ih i (by simpa using h)
      simp only [encs, Slot.enc, List.getElem_cons_succ, show (i + 1) * 4 = i * 4 + 4 by omega, show i * 4 + 4 + 1 = i * 4 + 1 + 4 by omega, show i * 4 + 4 + 2 = i * 4 + 2 + 4 by omega, show i * 4 + 4 + 3 = i * 4 + 3 + 4 by omega, List.cons_append, List.nil_append, List.getElem?_cons_succ]
      exact this
theorem cells_at (T : List Slot) (i : Nat) (h : i < T.length) :
    (cells T)[i * 4]? = some (.int .i64 T[i].node) ∧ (cells T)[i * 4 + 1]? = some (.int .i64 T[i].off) ∧ (cells T)[i * 4 + 2]? = some (.int .i64 T[i].flags) ∧ (cells T)[i * 4 + 3]? = some (.bool T[i].on) := by
  simpa [cells] using encs_at T i h
theorem encs_set (T : List Slot) (i : Nat) (h : i < T.length) (s : Slot) :
    ((((encs T).set (i * 4) (.int .i64 s.node)).set (i * 4 + 1) (.int .i64 s.off)).set (i * 4 + 2) (.int .i64 s.flags)).set (i * 4 + 3) (.bool s.on) = encs (T.set i s) := by
  induction T generalizing i with
  | nil => simp at h
  | cons t T ih =>
    cases i with
    | zero => simp [encs, Slot.enc]
    | succ i =>
      have := ih i (by simpa using h)
      simp only [encs, Slot.enc, List.set_cons_succ, show (i + 1) * 4 = i * 4 + 4 by omega, show i * 4 + 4 + 1 = i * 4 + 1 + 4 by omega, show i * 4 + 4 + 2 = i * 4 + 2 + 4 by omega, show i * 4 + 4 + 3 = i * 4 + 3 + 4 by omega, List.cons_append, List.nil_append]
      rw [this]
theorem cells_set (T : List Slot) (i : Nat) (h : i < T.length) (s : Slot) :
    ((((cells T).setIfInBounds (i * 4) (.int .i64 s.node)).setIfInBounds (i * 4 + 1) (.int .i64 s.off)).setIfInBounds (i * 4 + 2) (.int .i64 s.flags)).setIfInBounds (i * 4 + 3) (.bool s.on) = cells (T.set i s) := by
  simp [cells, encs_set T i h s]
theorem encs_set1 (T : List Slot) (i : Nat) (h : i < T.length) (x : Int) :
    (encs T).set (i * 4 + 1) (.int .i64 x) = encs (T.set i { T[i] with off := x }) := by
  induction T generalizing i with
  | nil => simp at h
  | cons t T ih =>
    cases i with
    | zero => simp [encs, Slot.enc]
    | succ i =>
      have := ih i (by simpa using h)
      simp only [encs, Slot.enc, List.set_cons_succ, List.getElem_cons_succ, show (i + 1) * 4 + 1 = i * 4 + 1 + 4 by omega, List.cons_append, List.nil_append]
      rw [this]
theorem cells_set1 (T : List Slot) (i : Nat) (h : i < T.length) (x : Int) :
    (cells T).setIfInBounds (i * 4 + 1) (.int .i64 x) = cells (T.set i { T[i] with off := x }) := by
  simp [cells, encs_set1 T i h x]
/-- The number of what was found, or -1. -/
def idx : Option Nat → Int
  | some i => i
  | none => -1
theorem idx_some {T : List Slot} {p : Slot → Bool} {k : Nat} (hk : k < T.length) (h : p T[k] = true) (hn : ∀ j (hj : j < T.length), j < k → p T[j] = false) : idx (T.findIdx? p) = k := by
  have : T.findIdx? p = some k := by
    rw [List.findIdx?_eq_some_iff_getElem]
    exact ⟨hk, h, fun j hj => by simp [hn j (by omega) hj]⟩
  rw [this]; rfl
theorem idx_none {T : List Slot} {p : Slot → Bool} (hn : ∀ j (hj : j < T.length), p T[j] = false) : idx (T.findIdx? p) = -1 := by
  have : T.findIdx? p = none := by
    rw [List.findIdx?_eq_none_iff]
    intro x hx
    obtain ⟨j, hj, rfl⟩ := List.getElem_of_mem hx
    exact hn j hj
  rw [this]; rfl

theorem drop_app {α : Type} (a b : List α) (n m : Nat) (h : a.length = n) : (a ++ b).drop (n + m) = b.drop m := by
  subst h; simp
theorem encs_extract (T : List Slot) (i : Nat) (h : i < T.length) : ((encs T).drop (i * 4)).take 4 = T[i].enc := by
  induction T generalizing i with
  | nil => simp at h
  | cons s T ih =>
    cases i with
    | zero => simp [encs, Slot.enc]
    | succ i =>
      have := ih i (by simpa using h)
      simp only [encs, List.getElem_cons_succ, show (i + 1) * 4 = 4 + i * 4 by omega]
      rw [drop_app s.enc (encs T) 4 (i * 4) rfl]
      exact this
theorem cells_extract (T : List Slot) (i : Nat) (h : i < T.length) : (cells T).extract (i * 4) (i * 4 + 4) = T[i].enc.toArray := by
  simp [cells, List.extract_toArray, List.extract_eq_take_drop, encs_extract T i h]
/-! ## What the calls answer -/
def look (T : List Slot) (fd : Int) : Option Slot :=
  if 0 ≤ fd ∧ fd < 16 then (match T[fd.toNat]? with | some s => if s.on then some s else none | none => none) else none
def opn (T : List Slot) (n fl : Int) : (Int × Int) × List Slot :=
  match T.findIdx? (fun s => !s.on) with
  | some k => ((k, 0), T.set k ⟨n, 0, fl, true⟩)
  | none => ((0, 14), T)
def cls (T : List Slot) (fd : Int) : (Int × Int) × List Slot :=
  match look T fd with
  | some s => ((s.node, 0), T.set fd.toNat none4)
  | none => ((0, 10), T)
def mov (T : List Slot) (fd off : Int) : Int × List Slot :=
  match look T fd with
  | some s => if off < 0 then (2, T) else (0, T.set fd.toNat { s with off := off })
  | none => (10, T)
def get (T : List Slot) (fd : Int) : Slot × Int :=
  match look T fd with
  | some s => (s, 0)
  | none => (none4, 10)
def there (T : List Slot) (fd : Int) : Bool := (look T fd).isSome
def holds (T : List Slot) (n : Int) : Bool := T.any fun s => s.on && s.node == n
def lst (T : List Slot) (k : Nat) : List Int := ((T.zipIdx.take k).filter fun x => x.1.on).map fun x => (x.2 : Int)
theorem look_in {T : List Slot} {fd : Int} {s : Slot} (hT : T.length = 16) (h : look T fd = some s) : ∃ k : Nat, ∃ hk : k < T.length, fd = k ∧ T[k] = s ∧ s.on = true := by
  unfold look at h
  split at h
  · rename_i hb
    have hk : fd.toNat < T.length := by omega
    rw [List.getElem?_eq_getElem hk] at h
    simp only at h
    split at h
    · rename_i ho
      cases h
      exact ⟨fd.toNat, hk, by omega, rfl, ho⟩
    · cases h
  · cases h
theorem look_out {T : List Slot} {fd : Int} (hT : T.length = 16) (h : look T fd = none) : (fd < 0 ∨ 16 ≤ fd) ∨ ∃ k : Nat, ∃ hk : k < T.length, fd = k ∧ T[k].on = false := by
  unfold look at h
  split at h
  · rename_i hb
    have hk : fd.toNat < T.length := by omega
    rw [List.getElem?_eq_getElem hk] at h
    simp only at h
    split at h
    · cases h
    · rename_i ho
      exact .inr ⟨fd.toNat, hk, by omega, by simpa using ho⟩
  · rename_i hb; left; omega
theorem lst_succ (T : List Slot) (k : Nat) (hk : k < T.length) : lst T (k + 1) = lst T k ++ if T[k].on then [(k : Int)] else [] := by
  unfold lst
  rw [List.take_succ_eq_append_getElem (by simpa using hk), List.filter_append, List.map_append]
  congr 1
  simp [List.filter_cons]
  split <;> simp
theorem lst_len (T : List Slot) (k : Nat) (hk : k ≤ T.length) : (lst T k).length ≤ k := by
  unfold lst
  rw [List.length_map]
  refine Nat.le_trans (List.length_filter_le _ _) ?_
  simp; omega
theorem idx_ge (T : List Slot) (p : Slot → Bool) : (0 ≤ idx (T.findIdx? p)) ↔ T.any p = true := by
  cases h : T.findIdx? p with
  | none =>
    rw [List.findIdx?_eq_none_iff] at h
    simp [idx]
    intro x hx; simpa using h x hx
  | some k =>
    rw [List.findIdx?_eq_some_iff_getElem] at h
    obtain ⟨hk, hp, _⟩ := h
    simp [idx]
    exact ⟨_, List.getElem_mem hk, hp⟩
theorem opn_len (T : List Slot) (n fl : Int) (h : T.length = 16) : (opn T n fl).2.length = 16 := by
  unfold opn; split <;> simp [h]
theorem cls_len (T : List Slot) (fd : Int) (h : T.length = 16) : (cls T fd).2.length = 16 := by
  unfold cls; split <;> simp [h]
theorem mov_len (T : List Slot) (fd off : Int) (h : T.length = 16) : (mov T fd off).2.length = 16 := by
  unfold mov
  split
  · split <;> simp [h]
  · exact h
/-! ## The first i are open, each of the node i + 1 -/
def fslot (j : Nat) : Slot := ⟨(j : Int) + 1, 0, (j : Int), true⟩
def full (i : Nat) : List Slot := (List.range i).map fslot ++ List.replicate (16 - i) none4
end Go.Tb
/- THE TREE of files, plain: nodes by their numbers, the table of what is open; finding. -/
namespace Go.Proofs.YtonhcefgakmpfaaGreatDoor
open Go.RowKit Go.Own
/-- A file: its kind (1 file, 2 directory, 3 link), bytes, which blocks were written, entries, the most there ever were, names, the directory above. -/
structure Nod where
  kind : Int
  data : List Int
  wr : List Bool
  names : List (Str × Int)
  most : Int
  links : Int
  above : Int
def nod0 : Nod := ⟨0, [], [], [], 0, 0, 0⟩
structure Tre where
  nodes : List (Int × Nod)
  last : Int
  tab : List Tb.Slot
structure Spt where
  node : Int
  dir : Int
  name : Str
def spt0 : Spt := ⟨0, 0, []⟩
/-- A link's bytes as a string. -/
def strOf (xs : List Int) : Str := xs.map fun x => UInt8.ofNat x.toNat
def bytesOf (s : Str) : List Int := s.map fun b => (b.toNat : Int)
namespace Tre
variable (S : Tre)
def at_ (n : Int) : Nod := (fnd S.nodes n).getD nod0
/-- The directory above a directory. -/
def up (n : Int) : Int := if (S.at_ n).above = 0 then n else (S.at_ n).above
theorem more_len (t : Str) : (targetM t).1.length ≤ 20 := by
  unfold targetM
  split
  · simp
  · split
    · simp
    · rename_i h
      simp only [Bool.or_eq_true, Bool.not_eq_true', not_or] at h
      have h1 : (partsM t).2 = true := by simpa using h.1
      show (partsM t).1.length ≤ 20
      unfold partsM at h1 ⊢
      split
      · simp
      · rename_i l hl
        rw [hl] at h1
        simpa using h1
/-- From a directory on, part by part. -/
def walk (s : Spt) (hops : Nat) (parts : List Str) (follow : Bool) : Spt × Int :=
  match parts with
  | [] => (s, 0)
  | p :: ps =>
    if (S.at_ s.node).kind ≠ 2 then (spt0, 7)
    else if p = [46, 46] then walk ⟨S.up s.node, 0, []⟩ hops ps follow
    else match fnd (S.at_ s.node).names p with
      | none => (spt0, 5)
      | some c =>
        if (S.at_ c).kind = 3 ∧ (ps ≠ [] ∨ follow = true) then
          if h : 8 ≤ hops then (spt0, 12)
          else walk ⟨if (targetM (strOf (S.at_ c).data)).2.1 = true then 1 else s.node, 0, []⟩ (hops + 1) ((targetM (strOf (S.at_ c).data)).1 ++ ps) follow
        else walk ⟨c, s.node, p⟩ hops ps follow
  termination_by (9 - hops, parts.length)
  decreasing_by
  all_goals simp_wf
  all_goals first
    | (apply Prod.Lex.right; omega)
    | (apply Prod.Lex.left; omega)
    | omega
/-- A path is found. -/
def find (p : Str) (follow : Bool) : Spt × Int :=
  if (splitM p).2 ≠ 0 then (spt0, (splitM p).2) else S.walk ⟨1, 0, []⟩ 0 (splitM p).1 follow
end Tre
end Go.Proofs.YtonhcefgakmpfaaGreatDoor
