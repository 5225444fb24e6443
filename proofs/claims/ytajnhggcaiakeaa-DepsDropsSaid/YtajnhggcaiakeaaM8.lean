/- TEXTS of mine, merged. -/
import Derived.Test.YtajnhggcaiakeaaM7
import Derived.Test.YtajnhggcaiakeaaM6
import Derived.Test.YtajnhggcaiakeaaM3
/- THE WALK of chapter 17's 'awake'. -/
namespace Go.Proofs.Ytajnhggcaiakeaa
open Go.RowKit Go.Own Go.Maps Go.ChangeMaps Go.Own.Dp
theorem _root_.Go.Own.Has.lit {w : World} {b : Nat} {L : List HP} {x : Int} (hO : Has w (pt b (.cells #[.int .i64 x] 3) :: L)) : Has w (Ints (.slice (some ⟨b, 0, none⟩) 1 1) [x] :: L) :=
  hO.row_of (by simp) (le_maxLen (by omega)) rfl rfl rfl
theorem _root_.Go.Own.Has.lit2 {w : World} {b : Nat} {L : List HP} {x y : Int} (hO : Has w (pt b (.cells #[.int .i64 x, .int .i64 y] 3) :: L)) : Has w (Ints (.slice (some ⟨b, 0, none⟩) 2 2) [x, y] :: L) :=
  hO.row_of (by simp) (le_maxLen (by omega)) rfl rfl rfl
theorem ok1 : okK 1 := by show (Lit.int .i64 1).wf = true; decide
theorem ok2 : okK 2 := by show (Lit.int .i64 2).wf = true; decide
abbrev EA : Gph := [(1, [2]), (2, [])]
/-- A closure by what it holds. -/
theorem clo_is {E : Gph} {is s : List Int} (hE : (ids E).Nodup) (hs : s.Nodup) (h1 : ∀ x ∈ is, x ∈ ids E → x ∈ s) (h2 : ∀ y ∈ s, ∀ x ∈ nd E y, x ∈ ids E → x ∈ s) (h3 : ∀ x ∈ s, Rch E is x) : clo E is = sorted s :=
  (clo_of hE hs fun x => ⟨h3 x, fun hr => by
    induction hr with
    | base x a b => exact h1 x a b
    | step x y _ a b ih => exact h2 y ih x a b⟩).symm
theorem eaNot : ¬ Rch [(1, []), (2, [])] [2] 1 := fun h => by
  cases h with
  | base _ h1 _ => simp at h1
  | step _ y hy h1 _ =>
    have := hy.there
    simp only [ids, List.map_cons, List.map_nil, List.mem_cons, List.not_mem_nil, or_false] at this
    rcases this with rfl | rfl <;> simp [nd] at h1
theorem eaYes : Rch EA [1] 2 := .step 2 1 (.base 1 (by simp) (by simp [ids])) (by simp [nd]) (by simp [ids])
theorem eaClo : clo EA [1] = [1, 2] := by
  rw [clo_is (s := [1, 2]) (by decide) (by decide) (by simp) (by
    intro y hy x hx _
    simp only [List.mem_cons, List.not_mem_nil, or_false] at hy
    rcases hy with rfl | rfl
    · simp [nd] at hx; simp [hx]
    · simp [nd] at hx) (by
    intro x hx
    simp only [List.mem_cons, List.not_mem_nil, or_false] at hx
    rcases hx with rfl | rfl
    · exact .base 1 (by simp) (by simp [ids])
    · exact eaYes)]
  exact List.mergeSort_of_pairwise (by simp)
theorem eaLev : levF EA ([1, 2] : List Int).length [1, 2] [] = [[2], [1]] := by simp [levF, rdy, nd]
theorem eaRdy : ((sorted (ids EA)).filter fun x => !someN EA x) = [2] := by
  have h : sorted (ids EA) = [1, 2] := List.mergeSort_of_pairwise (by simp [ids])
  rw [h]
  simp [someN, nd]
theorem eaAcy : Acy EA (fun x => if x = 1 then 1 else 0) := by
  intro x hx y hy
  simp only [ids, List.map_cons, List.map_nil, List.mem_cons, List.not_mem_nil, or_false] at hx
  rcases hx with rfl | rfl
  · simp [nd] at hy; subst hy; simp [ids]
  · simp [nd] at hy
theorem eaNd (x : Int) : (nd EA x).length ≤ 100 := by
  unfold nd
  simp only [List.find?_cons]
  cases (1 : Int) == x <;> cases (2 : Int) == x <;> simp
theorem ea0Nd (x : Int) : (nd [(1, []), (2, [])] x).length ≤ 100 := by
  unfold nd
  simp only [List.find?_cons]
  cases (1 : Int) == x <;> cases (2 : Int) == x <;> simp
set_option maxRecDepth 100000 in
set_option maxHeartbeats 8000000 in
theorem awake17 (w : World) (L : List HP) (hO : Has w L) :
    Calls Try.prog 7 #[] w fun e w' => e = .returned (.bool true) ∧ Has w' L ∧ Keep w w' := by
  have HO := hid hO
  clear hO
  go_enter Try.func7, Try.ntmps7
  go_wp2_with fail
  refine (xNew w L HO.out).mono ?_
  rintro e w1 ⟨g, rfl, hO1, hK1⟩
  have HO1 := hid hO1
  have HK1 := hid hK1
  clear hO1 hK1
  try dsimp only
  go_wp2_with fail
  refine (xAdd g [] 1 w1 L ok1 (by omega) (by simp [ids]) (by simp) HO1.out).mono ?_
  rintro e w2 ⟨rfl, hO2, hK2⟩
  have HO2 := hid hO2
  have HK2 := hid ((HK1.out).trans hK2)
  clear hO2 hK2
  try dsimp only
  go_wp2_with fail
  refine (xAdd g [(1, [])] 2 w2 L ok2 (by omega) (by simp [ids]) (by simp) HO2.out).mono ?_
  rintro e w3 ⟨rfl, hO3, hK3⟩
  have HO3 := hid hO3
  have HK3 := hid ((HK2.out).trans hK3)
  clear hO3 hK3
  try dsimp only
  rw [show ([(1, [])] ++ [(2, [])] : Gph) = [(1, []), (2, [])] from rfl] at HO3
  go_wp2_with fail
  refine (xNeeds g [(1, []), (2, [])] 1 2 w3 L (by simp [ids]) (by simp [ids]) (by simp) ea0Nd HO3.out).mono ?_
  rintro e w4 ⟨r, rfl, -, h4, ⟨E', -, h5, hO4⟩, hK4⟩
  obtain rfl := h4 eaNot
  obtain rfl := h5 eaNot
  rw [show addN [(1, []), (2, [])] 1 2 = EA from by simp [addN]] at hO4
  have HO4 := hid hO4
  have HK4 := hid (HK3.out.trans hK4)
  clear hO4 hK4 h4 h5
  try dsimp only
  go_wp2_with fail
  refine (xNeeds g EA 2 1 w4 L (by simp [ids]) (by simp [ids]) (by simp) eaNd HO4.out).mono ?_
  rintro e w5 ⟨r, rfl, h4, -, ⟨E', h5, -, hO5⟩, hK5⟩
  obtain rfl := h4 eaYes
  obtain rfl := h5 eaYes
  have HO5 := hid hO5
  have HK5 := hid (HK4.out.trans hK5)
  clear hO5 hK5 h4 h5
  try dsimp only
  go_wp2_with fail
  refine (xClosure g EA (.slice (some ⟨w5.heap.size, 0, none⟩) 1 1) [1] (w5.alloc (.cells #[.int .i64 1] 3)) L (by intro x hx; rw [List.mem_singleton] at hx; rw [hx]; exact ok1) (by simp) (by simp) eaNd (Ints.rd (HO5.out.alloc _).lit) (HO5.out.alloc' _)).mono ?_
  rintro e w6 ⟨v6, rfl, hO6, hK6⟩
  rw [eaClo] at hO6
  have HO6 := hid hO6
  have HK6 := hid ((HK5.out.alloc _).trans hK6)
  clear hO6 hK6
  try dsimp only
  go_wp2_with fail
  go_wp2_with fail
  refine (sameIntsYes v6 _ [1, 2] _ (Ints.rd (HO6.out.alloc' _)) (Ints.rd (HO6.out.alloc _).lit2)).mono ?_
  rintro e w' ⟨rfl, nq7, rfl⟩
  have HO7 := hid ((HO6.out.drop.alloc' (.cells #[.int .i64 1, .int .i64 2] 3)).drewN nq7)
  have HK7 := hid ((HK6.out.alloc (.cells #[.int .i64 1, .int .i64 2] 3)).drewN nq7)
  try dsimp only
  generalize ((w6.alloc (.cells #[.int .i64 1, .int .i64 2] 3)).drewN nq7) = w7 at *
  go_wp2_with fail
  refine (xLevels g EA _ (.slice (some ⟨w7.heap.size, 0, none⟩) 1 1) [1] (w7.alloc (.cells #[.int .i64 1] 3)) L eaAcy (by intro x hx; rw [List.mem_singleton] at hx; rw [hx]; exact ok1) (by simp) (by simp) eaNd (Ints.rd (HO7.out.alloc _).lit) (HO7.out.alloc' _)).mono ?_
  rintro e w8 ⟨v8, B, rfl, hB, hO8, hK8⟩
  rw [eaClo, eaLev] at hB
  have HB := hid hB
  have HO8 := hid hO8
  have HK8 := hid ((HK7.out.alloc _).trans hK8)
  obtain ⟨p8, c8, e8⟩ := Ll.val hO8
  subst e8
  clear hO8 hK8 hB
  try dsimp only
  go_wp2_with fail
  have HO9 := hid (show Has (((w8.alloc (.cells #[.int .i64 2] 3)).alloc (.cells #[.int .i64 1] 3)).alloc (.cells #[.slice (some ⟨w8.heap.size, 0, none⟩) 1 1, .slice (some ⟨w8.heap.size + 1, 0, none⟩) 1 1] 22)) (pt (w8.heap.size + 1 + 1) (.cells #[.slice (some ⟨w8.heap.size, 0, none⟩) 1 1, .slice (some ⟨w8.heap.size + 1, 0, none⟩) 1 1] 22) :: pt (w8.heap.size + 1) (.cells #[.int .i64 1] 3) :: pt w8.heap.size (.cells #[.int .i64 2] 3) :: Ll (.slice p8 B.length c8) B :: Gx g EA :: L) from by
    have h := ((HO8.out.alloc (.cells #[.int .i64 2] 3)).alloc (.cells #[.int .i64 1] 3)).alloc (.cells #[.slice (some ⟨w8.heap.size, 0, none⟩) 1 1, .slice (some ⟨w8.heap.size + 1, 0, none⟩) 1 1] 22)
    have e1 : (w8.alloc (.cells #[.int .i64 2] 3)).heap.size = w8.heap.size + 1 := Array.size_push _
    have e2 : ((w8.alloc (.cells #[.int .i64 2] 3)).alloc (.cells #[.int .i64 1] 3)).heap.size = w8.heap.size + 1 + 1 := by rw [← e1]; exact Array.size_push _
    rw [e2, e1] at h
    exact h)
  have HK9 := hid (((HK8.out.alloc (.cells #[.int .i64 2] 3)).alloc (.cells #[.int .i64 1] 3)).alloc (.cells #[.slice (some ⟨w8.heap.size, 0, none⟩) 1 1, .slice (some ⟨w8.heap.size + 1, 0, none⟩) 1 1] 22))
  have HRQ := hid (show RdQ (((w8.alloc (.cells #[.int .i64 2] 3)).alloc (.cells #[.int .i64 1] 3)).alloc (.cells #[.slice (some ⟨w8.heap.size, 0, none⟩) 1 1, .slice (some ⟨w8.heap.size + 1, 0, none⟩) 1 1] 22)) (.slice (some ⟨w8.heap.size + 1 + 1, 0, none⟩) 2 2) [(.slice (some ⟨w8.heap.size, 0, none⟩) 1 1, [2]), (.slice (some ⟨w8.heap.size + 1, 0, none⟩) 1 1, [1])] from
    ⟨(Has.row_of (n := 2) (size := 1) HO9.out (by simp) (le_maxLen (by omega)) rfl rfl rfl).rd, fun x hx => by
      simp only [List.mem_cons, List.not_mem_nil, or_false] at hx
      rcases hx with rfl | rfl
      · exact Ints.rd HO9.out.p2.lit
      · exact Ints.rd HO9.out.p1.lit⟩)
  go_wp2_with fail
  refine (sameListsYes (.slice p8 B.length c8) _ B _ _ (Ll.rdq HO9.out.p3) HRQ.out HB.out).mono ?_
  rintro e w' ⟨rfl, nq10, rfl⟩
  have HO10 := hid ((HO9.out.drop.drop.drop.drop).drewN nq10)
  have HK10 := hid ((HK9.out).drewN nq10)
  try dsimp only
  generalize (((w8.alloc (.cells #[.int .i64 2] 3)).alloc (.cells #[.int .i64 1] 3)).alloc (.cells #[.slice (some ⟨w8.heap.size, 0, none⟩) 1 1, .slice (some ⟨w8.heap.size + 1, 0, none⟩) 1 1] 22)).drewN nq10 = w10 at *
  clear HO9 HK9 HRQ HO8 HK8 HB
  go_wp2_with fail
  refine (xReady g EA w10 L (by simp) HO10.out).mono ?_
  rintro e w11 ⟨v11, rfl, hO11, hK11⟩
  rw [eaRdy] at hO11
  have HO11 := hid hO11
  have HK11 := hid (HK10.out.trans hK11)
  clear hO11 hK11
  obtain ⟨p11, c11, e11, -⟩ := (Ints.rd HO11.out).form
  subst e11
  try dsimp only
  go_wp2_with fail
  go_wp2_with fail
  refine (sameIntsYes _ _ [2] _ (Ints.rd (HO11.out.alloc' _)) (Ints.rd (HO11.out.alloc _).lit)).mono ?_
  rintro e w' ⟨rfl, nq12, rfl⟩
  have HO12 := hid ((HO11.out.drop.alloc' (.cells #[.int .i64 2] 3)).drewN nq12)
  have HK12 := hid ((HK11.out.alloc (.cells #[.int .i64 2] 3)).drewN nq12)
  try dsimp only
  go_wp2_with fail
  go_ret
  exact ⟨rfl, HO12.out.drop, HK12.out⟩
end Go.Proofs.Ytajnhggcaiakeaa
/- A BLOCK that is made, loaded, and stored into as a whole. No program in sight. -/
namespace Go.Own
open Go.RowKit
section
variable {P : Program} {ops : Array Oper} {rest : List Oper} {o : Oper} {a : Act} {Q : Exit → Act → World → Prop} {w : World} {l : List HP}
theorem wpList_allocAs (hgd : o.guard = none) (t : TypeId) (ho : o.op = .alloc t) (C : Array Value) (hz : ∀ w, (zeroValue t).run P w = .ok (.agg C) w)
    (h : wpList P ops Q rest (a.put o.dst (.pointer (some ⟨w.heap.size, 0, none⟩))) (w.alloc (.cells C t))) : wpList P ops Q (o :: rest) a w := by
  refine wpList_plain hgd fun K hK => ?_
  unfold Oper.wp execOp
  simp only [ho, Instr.alloc, newVar, newRow, Value.cells, Sem.run_bind, Sem.run_pure, Result.andThen_ok, hz]
  exact hK _ _ h
theorem wpList_storeAt (hgd : o.guard = none) (t : TypeId) (x y : Operand) (ho : o.op = .store t x y) (b off : Nat) (C D : Array Value) (T : TypeId) (hO : Has w (pt b (.cells C T) :: l)) (hx : a.eval x = .pointer (some ⟨b, off, none⟩)) (hy : a.eval y = .agg D)
    (hs : ∀ w, (sizeOf t).run P w = .ok D.size w) (h1 : ∀ v ∈ D.toList, v.oneCell' = true) (hfit : off + D.size ≤ C.size)
    (h : ∀ w', Has w' (pt b (.cells (C.toList.take off ++ D.toList ++ C.toList.drop (off + D.size)).toArray T) :: l) → Keep w w' → wpList P ops Q rest (a.put o.dst undef) w') : wpList P ops Q (o :: rest) a w := by
  refine wpList_plain hgd fun K hK => ?_
  have hst := run_storeCells_at P b off T D.toList 0 C w hO.lookup (by simpa using hfit) h1
  simp only [Nat.add_zero, Array.length_toList] at hst
  unfold Oper.wp execOp
  simp only [ho, Instr.storeAt, Instr.sureAddr, storeVar, Value.cells, hx, hy, Sem.run_bind, Sem.run_pure, Result.andThen_ok, hs, ne_eq, not_true, if_false, hst]
  exact hK _ _ (h _ (hO.turn (fun k _ hk => setRow_other w b k _ hk) (setRow_heap w b C _ T _ hO.lookup)) ⟨rfl, rfl, rfl, by simp⟩)
end
end Go.Own
/- THE WALK of Low. -/
namespace Go.Proofs.Ytajnhggcaiakeaa
open Go.RowKit Go.Own
theorem lowAny (x n : Int) (w : World) (hn : 1 ≤ n) (hn' : n ≤ 9223372036854775807) :
    Calls Try.prog 6 #[.int .i64 x, .int .i64 n] w fun e w' => e = .returned (.int .i64 (low x n)) ∧ w = w' := by
  go_enter Try.func6, Try.ntmps6
  go_wp2
  go_ret
  exact ⟨by rw [← low_eq x n hn hn']; rfl, rfl⟩
end Go.Proofs.Ytajnhggcaiakeaa
/- THE WALK of wants: what it hands back is an array of ints, whichever. -/
namespace Go.Own
open Go.RowKit
theorem wpList_loadAll {P : Program} {ops : Array Oper} {rest : List Oper} {o : Oper} {a : Act} {Q : Exit → Act → World → Prop} {w : World} (hgd : o.guard = none) (t : TypeId) (x : Operand) (ho : o.op = .load t x) (v u : Value) (hx : a.eval x = v)
    (hl : (Instr.loadAt t v).run P w = .ok u w) (h : wpList P ops Q rest (a.put o.dst u) w) : wpList P ops Q (o :: rest) a w := by
  refine wpList_plain hgd fun K hK => ?_
  unfold Oper.wp execOp
  simp only [ho, Sem.run_bind, Sem.run_pure, Result.andThen_ok, hx, hl]
  exact hK _ _ h
end Go.Own
namespace Go.Proofs.Ytajnhggcaiakeaa
open Go.RowKit Go.Own
def i8 (l : List Int) : Array Value := (ic l).toArray
theorem i8_at (l : List Int) (k : Nat) (h : k < l.length) : (i8 l)[k]? = some (.int .i64 (l.getD k 0)) := by simp [i8, ic, h]
theorem i8_set (l : List Int) (k : Nat) (x : Int) : (i8 l).setIfInBounds k (.int .i64 x) = i8 (l.set k x) := by simp [i8, ic, List.map_set]
theorem i8_size (l : List Int) : (i8 l).size = l.length := by simp [i8, ic]
theorem i8_one (l : List Int) : ∀ v ∈ (i8 l).toList, v.oneCell' = true := by
  intro v hv
  simp only [i8, List.toList_toArray] at hv
  exact ic_one l v hv
theorem whole (l : List Int) (hl : l.length = 21) : ((i8 (List.replicate 21 0)).toList.take 0 ++ (i8 l).toList ++ (i8 (List.replicate 21 0)).toList.drop (0 + (i8 l).size)).toArray = i8 l := by
  rw [List.take_zero, List.nil_append, List.drop_of_length_le (by rw [i8_size, hl]; simp [i8, ic]), List.append_nil, Array.toArray_toList]
theorem load21 (l : List Int) (hs : l.length = 21) (g : Nat) (w : World) (h : ∀ i, w.cell? ⟨g, i, none⟩ = (i8 l)[i]?) : (Instr.loadAt 29 (.pointer (some ⟨g, 0, none⟩))).run Try.prog w = .ok (.agg (i8 l)) w := by
  have e := run_loadCells_list (P := Try.prog) w ⟨g, 0, none⟩ (i8 l).toList (fun j v hj => by rw [add_plain, Nat.zero_add, h j]; simpa using hj)
  simp only [Array.length_toList, i8_size, hs, Array.toArray_toList] at e
  simp [Instr.loadAt, Instr.sureAddr, loadVar, e]
theorem arr_result {fn : Func} {p : Tmp} {tmps : Array Value} {w : World} {L : List HP} {r : Nat} (l : List Int) (hs : l.length = 21) (h : fn.results = #[.cell p 29]) (ht : tmps.getD p undef = .pointer (some ⟨r, 0, none⟩)) (hO : Has w (pt r (.cells (i8 l) 29) :: L)) :
    (results fn tmps).run Try.prog w = .ok (.agg (i8 l)) w := by
  have e := run_loadCells_list (P := Try.prog) w ⟨r, 0, none⟩ (i8 l).toList (fun j v hj => by rw [add_plain, Nat.zero_add, hO.cells j]; simpa using hj)
  simp only [Array.length_toList, i8_size, hs, Array.toArray_toList] at e
  unfold results
  rw [h]
  have ht2 : tmps[p]?.getD undef = .pointer (some ⟨r, 0, none⟩) := by rw [← ht]; simp
  clear hO h ht
  simp [ht2, loadVar, e, asAddr]
set_option maxRecDepth 100000 in
set_option maxHeartbeats 8000000 in
theorem wantsW (many : Nat) (v : Value) (xs : List Int) (w : World) (L : List HP) (hm : many ≤ 20) (hr : ∀ w', Has w' L → Rd w' v 1 xs.length (ic xs)) (hO : Has w L) :
    Calls Try.prog 10 #[.int .i64 many, v] w fun e w' => ∃ l : List Int, l.length = 21 ∧ e = .returned (.agg (i8 l)) ∧ Has w' L ∧ Keep w w' := by
  obtain ⟨vp, vc, rfl, hvc, hvl, -⟩ := (hr w hO).form
  have HR := hid hr
  have HO0 := hid hO
  clear hr hO
  go_enter Try.func10, Try.ntmps10
  go_wp2_with fail
  have HO := hid (show Has ((w.alloc (.cells (i8 (List.replicate 21 0)) 29)).alloc (.cells (i8 (List.replicate 21 0)) 29)) (pt (w.heap.size + 1) (.cells (i8 (List.replicate 21 0)) 29) :: pt w.heap.size (.cells (i8 (List.replicate 21 0)) 29) :: L) from by
    have h := (HO0.out.alloc (.cells (i8 (List.replicate 21 0)) 29)).alloc (.cells (i8 (List.replicate 21 0)) 29)
    rwa [show (w.alloc (.cells (i8 (List.replicate 21 0)) 29)).heap.size = w.heap.size + 1 from Array.size_push _] at h)
  have HK := hid (((Keep.refl w).alloc (.cells (i8 (List.replicate 21 0)) 29)).alloc (.cells (i8 (List.replicate 21 0)) 29))
  clear HO0
  generalize w.heap.size = r at *
  go_loopw [6] (fun i w' => ∃ (k : Nat) (l : List Int), 1 ≤ k ∧ k ≤ many + 1 ∧ i = .int .i64 k ∧ l.length = 21 ∧ Hid (Has w' (pt (r + 1) (.cells (i8 l) 29) :: pt r (.cells (i8 (List.replicate 21 0)) 29) :: L)) ∧ Hid (Keep w w')) (fun i _ => many + 1 - (intOf i).toNat)
  case atStart => exact ⟨1, _, by omega, by omega, rfl, List.length_replicate, HO, HK⟩
  case round =>
    clear HO HK
    obtain ⟨k, l, hk1, hk2, rfl, hl, HO, HK⟩ := hrel
    have hki : (1 : Int) ≤ (k : Int) := by omega
    have hmi : (many : Int) ≤ 20 := by omega
    by_cases hlt : k ≤ many ∧ 0 < xs.length
    · have hkm : (k : Int) ≤ (many : Int) := by omega
      have hx0 : (0 : Int) < (xs.length : Int) := by omega
      obtain ⟨p, c, e, -, -, hcs⟩ := (HR.out wr HO.out.drop.drop).form
      simp only [Value.slice.injEq, true_and] at e
      obtain ⟨rfl, rfl⟩ := e
      obtain ⟨vg, vo, rfl, hc⟩ := hcs (by omega)
      have hmod : k % xs.length < xs.length := Nat.mod_lt _ hlt.2
      have hck : wr.cell? ⟨vg, vo + k % xs.length, none⟩ = some (.int .i64 (xs[k % xs.length])) := by
        rw [hc _ (by omega), ic_at xs _ hmod]
      have htm : (k : Int).tmod (xs.length : Int) = ((k % xs.length : Nat) : Int) := (Int.ofNat_tmod k xs.length).symm
      have hx1 : ¬ (xs.length : Int) = 0 := by omega
      have hm0 : (0 : Int) ≤ ((k % xs.length : Nat) : Int) := by omega
      have hm1 : ((k % xs.length : Nat) : Int) < (xs.length : Int) := by omega
      have hc1 : wr.cell? ⟨r + 1, k, none⟩ = some (.int .i64 (l.getD k 0)) := by rw [HO.out.cells k]; exact i8_at l k (by omega)
      have ht1 := HO.out.thaw
      have HO1 := hid (HO.out.set k (.int .i64 (xs[k % xs.length])))
      rw [i8_set] at HO1
      have HK1 := hid (HK.out.set ⟨r + 1, k, none⟩ (.int .i64 (xs[k % xs.length])))
      have hkk : (k : Int) < 21 := by omega
      have hk0 : (0 : Int) ≤ (k : Int) := by omega
      have HLT := hid hlt
      have HX := hid (show ∃ x, xs[k % xs.length] = x from ⟨_, rfl⟩)
      generalize xs[k % xs.length] = x at *
      clear hcs hc hmod hlt HO HK HX
      go_wp2_with fail
      exact ⟨⟨k + 1, l.set k x, by omega, by have := HLT.out.1; omega, by go_num, by rw [List.length_set]; exact hl, HO1, HK1⟩, by have := HLT.out.1; simp [intOf]; omega⟩
    · by_cases hkm' : k ≤ many
      · have hkm : (k : Int) ≤ (many : Int) := by omega
        have hx0 : ¬ (0 : Int) < (xs.length : Int) := by omega
        go_wp2_with (first | (refine wpList_loadAll rfl _ _ rfl _ _ rfl (load21 l hl (r + 1) wr HO.out.cells) ?_) | (refine wpList_storeAt rfl _ _ _ rfl r 0 (i8 (List.replicate 21 0)) (i8 l) _ HO.out.p1 rfl rfl (by intro w; rw [i8_size, hl]; exact Try.sizeOf29 w) (i8_one l) (by rw [i8_size, i8_size, hl]; decide) ?_; intro w5 hO5 hK5))
        refine bodyPost_ret (arr_result l hl rfl rfl (show Has w5 (pt r (.cells (i8 l) 29) :: pt (r + 1) (.cells (i8 l) 29) :: L) from by
          rw [whole l hl] at hO5; exact hO5)) rfl ?_
        exact ⟨l, hl, rfl, hO5.drop.drop, HK.out.trans hK5⟩
      · have hkm : ¬ (k : Int) ≤ (many : Int) := by omega
        go_wp2_with (first | (refine wpList_loadAll rfl _ _ rfl _ _ rfl (load21 l hl (r + 1) wr HO.out.cells) ?_) | (refine wpList_storeAt rfl _ _ _ rfl r 0 (i8 (List.replicate 21 0)) (i8 l) _ HO.out.p1 rfl rfl (by intro w; rw [i8_size, hl]; exact Try.sizeOf29 w) (i8_one l) (by rw [i8_size, i8_size, hl]; decide) ?_; intro w5 hO5 hK5))
        refine bodyPost_ret (arr_result l hl rfl rfl (show Has w5 (pt r (.cells (i8 l) 29) :: pt (r + 1) (.cells (i8 l) 29) :: L) from by
          rw [whole l hl] at hO5; exact hO5)) rfl ?_
        exact ⟨l, hl, rfl, hO5.drop.drop, HK.out.trans hK5⟩
end Go.Proofs.Ytajnhggcaiakeaa
/- Graphs that are being built from bits. -/
namespace Go.Own.Dp
def bitW (x : Int) (k : Nat) : Bool := bits BinOp.and IntKind.i64 (x / 2 ^ k) 1 == 1
def bt (l : List Int) (i k : Nat) : Bool := bitW (l.getD i 0) k
/-- What each needs, when i is under way and k is next. -/
def fS (l : List Int) (i k : Nat) (j : Nat) : List Int := if j < i then part (bt l j) j else if j = i then part (bt l i) k else []
def fF (l : List Int) (j : Nat) : List Int := part (bt l j) j
theorem fS_dn (l : List Int) (i k : Nat) (h1 : k ≤ i) (h2 : i ≤ 22) : Dn (fS l i k) where
  lo j y hy := by
    unfold fS at hy
    split at hy
    · have := part_mem.1 hy; omega
    · split at hy
      · have := part_mem.1 hy; omega
      · simp at hy
  len j := by
    unfold fS
    split
    · have := part_len (bt l j) j; omega
    · split
      · have := part_len (bt l i) k; omega
      · simp
theorem fS_self (l : List Int) (i k : Nat) : fS l i k i = part (bt l i) k := by simp [fS]
theorem fS_step {l : List Int} {i k : Nat} (hk : 1 ≤ k) : fS l i (k + 1) = fun j => if j = i then fS l i k j ++ (if bt l i k = true then [(k : Int)] else []) else fS l i k j := by
  funext j
  by_cases e : j = i
  · subst e
    rw [if_pos rfl, fS_self, fS_self, part_succ _ hk]
  · rw [if_neg e]
    unfold fS
    rw [if_neg e, if_neg e]
theorem fS_no {l : List Int} {i k : Nat} (hk : 1 ≤ k) (hb : bt l i k = false) : fS l i (k + 1) = fS l i k := by
  rw [fS_step hk, hb]
  funext j
  split <;> simp
theorem fS_yes {l : List Int} {i k n : Nat} (hk : 1 ≤ k) (hki : k < i) (hb : bt l i k = true) : addN (chain (fS l i k) n) i k = chain (fS l i (k + 1)) n := by
  rw [addN_chain (by omega) (by rw [fS_self]; intro h; have := part_mem.1 h; omega), fS_step hk, hb]
  simp
theorem fS_one (l : List Int) (i n : Nat) : chain (fS l i i) n = chain (fS l (i + 1) 1) n := by
  refine chain_congr fun j _ _ => ?_
  unfold fS
  by_cases h1 : j < i
  · rw [if_pos h1, if_pos (by omega)]
  · rw [if_neg h1]
    by_cases h2 : j = i
    · subst h2; simp
    · rw [if_neg h2, if_neg (by omega)]
      split
      · exact (part_one _).symm
      · rfl
theorem fS_zero (l : List Int) (n : Nat) : chain (fun _ => []) n = chain (fS l 1 1) n := by
  refine chain_congr fun j h _ => ?_
  unfold fS
  rw [if_neg (by omega)]
  split
  · exact (part_one _).symm
  · rfl
theorem fS_end (l : List Int) (n : Nat) : chain (fS l (n + 1) 1) n = chain (fF l) n := by
  refine chain_congr fun j _ h => ?_
  unfold fS fF
  rw [if_pos (by omega)]
theorem fF_dn (l : List Int) (n : Nat) (hn : n ≤ 20) : ∃ f, Dn f ∧ chain (fF l) n = chain f n := ⟨_, fS_dn l (n + 1) 1 (by omega) (by omega), (fS_end l n).symm⟩
end Go.Own.Dp
/- Closures of two, levels of two: plain. -/
namespace Go.Proofs.Ytajnhggcaiakeaa
open Go.RowKit Go.Own Go.Maps Go.ChangeMaps Go.Own.Dp
theorem _root_.Go.Own.Dp.Rch.mono {E : Gph} {is js : List Int} (h : ∀ x ∈ is, x ∈ js) {x : Int} (hr : Rch E is x) : Rch E js x := by
  induction hr with
  | base x h1 h2 => exact .base x (h x h1) h2
  | step x y _ h1 h2 ih => exact .step x y ih h1 h2
theorem _root_.Go.Own.Dp.Rch.two {E : Gph} {a b x : Int} : Rch E [a, b] x ↔ Rch E [a] x ∨ Rch E [b] x := by
  constructor
  · intro hr
    induction hr with
    | base x h1 h2 =>
      simp only [List.mem_cons, List.not_mem_nil, or_false] at h1
      rcases h1 with rfl | rfl
      · exact .inl (.base _ (by simp) h2)
      · exact .inr (.base _ (by simp) h2)
    | step x y _ h1 h2 ih =>
      rcases ih with ih | ih
      · exact .inl (.step x y ih h1 h2)
      · exact .inr (.step x y ih h1 h2)
  · rintro (h | h)
    · exact h.mono (by simp)
    · exact h.mono (by simp)
theorem clo_congr {E : Gph} {is js : List Int} (h : ∀ x, x ∈ is ↔ x ∈ js) : clo E is = clo E js := by
  have : ∀ x, Rch E is x ↔ Rch E js x := fun x => ⟨fun hr => hr.mono fun y => (h y).1, fun hr => hr.mono fun y => (h y).2⟩
  unfold clo
  congr 1
  refine List.filter_congr fun x _ => ?_
  exact decide_eq_decide.2 (this x)
/-- The level of one is the same in all levels. -/
theorem _root_.Go.Own.Dp.Lv.same {E : Gph} {rk : Int → Nat} (hA : Acy E rk) {r1 r2 : List (List Int)} {l1 l2 : List Int} (h1 : Lv E r1 l1 []) (h2 : Lv E r2 l2 []) (hi : ∀ x ∈ l1, x ∈ ids E) :
    ∀ (n : Nat) (x : Int) (q1 q2 : Nat) (a b : List Int), rk x ≤ n → r1[q1]? = some a → r2[q2]? = some b → x ∈ a → x ∈ b → q1 ≤ q2 := by
  intro n
  induction n with
  | zero =>
    intro x q1 q2 a b hn ha hb hxa hxb
    cases q1 with
    | zero => omega
    | succ q1 =>
      obtain ⟨y, hy, -⟩ := h1.near q1 a _ ha (List.getElem?_eq_getElem (by have := (List.getElem?_eq_some_iff.1 ha).1; omega)) x hxa
      have := (hA x (hi x (h1.sub _ _ ha x hxa)) y hy).2
      omega
  | succ n ih =>
    intro x q1 q2 a b hn ha hb hxa hxb
    cases q1 with
    | zero => omega
    | succ q1 =>
      obtain ⟨y, hy, hy0⟩ := h1.near q1 a _ ha (List.getElem?_eq_getElem (by have := (List.getElem?_eq_some_iff.1 ha).1; omega)) x hxa
      have hlt := (hA x (hi x (h1.sub _ _ ha x hxa)) y hy).2
      rcases h2.lower q2 b hb x hxb y hy with h3 | ⟨q', row', h3, h4, h5⟩
      · simp at h3
      · have := ih y q1 q' _ row' (by omega) (List.getElem?_eq_getElem (by have := (List.getElem?_eq_some_iff.1 ha).1; omega)) h4 hy0 h5
        omega
theorem _root_.Go.Own.Dp.Lv.deep {E : Gph} {rk : Int → Nat} (hA : Acy E rk) {r1 r2 : List (List Int)} {l1 l2 : List Int} (h1 : Lv E r1 l1 []) (h2 : Lv E r2 l2 []) (hi : ∀ x ∈ l1, x ∈ ids E) (hs : ∀ x ∈ l1, x ∈ l2) : r1.length ≤ r2.length := by
  cases hr : r1.length with
  | zero => omega
  | succ q =>
    have ha : r1[q]? = some r1[q] := List.getElem?_eq_getElem (by omega)
    obtain ⟨x, hx⟩ := List.exists_mem_of_ne_nil _ (h1.full q _ ha)
    obtain ⟨q2, b, hb, hxb⟩ := h2.cov x (hs x (h1.sub q _ ha x hx))
    have := h1.same hA h2 hi (rk x) x q q2 _ b (Nat.le_refl _) ha hb hx hxb
    have := (List.getElem?_eq_some_iff.1 hb).1
    omega
theorem _root_.Go.Own.Dp.Lv.deep2 {E : Gph} {rk : Int → Nat} (hA : Acy E rk) {r1 r2 r3 : List (List Int)} {l1 l2 l3 : List Int} (h1 : Lv E r1 l1 []) (h2 : Lv E r2 l2 []) (h3 : Lv E r3 l3 []) (hi : ∀ x ∈ l3, x ∈ ids E)
    (hs : ∀ x, x ∈ l3 ↔ x ∈ l1 ∨ x ∈ l2) : r3.length = max r1.length r2.length := by
  have a1 := h1.deep hA h3 (fun x hx => hi x ((hs x).2 (.inl hx))) fun x hx => (hs x).2 (.inl hx)
  have a2 := h2.deep hA h3 (fun x hx => hi x ((hs x).2 (.inr hx))) fun x hx => (hs x).2 (.inr hx)
  have a3 : r3.length ≤ max r1.length r2.length := by
    cases hr : r3.length with
    | zero => omega
    | succ q =>
      have ha : r3[q]? = some r3[q] := List.getElem?_eq_getElem (by omega)
      obtain ⟨x, hx⟩ := List.exists_mem_of_ne_nil _ (h3.full q _ ha)
      rcases (hs x).1 (h3.sub q _ ha x hx) with hm | hm
      · obtain ⟨q2, b, hb, hxb⟩ := h1.cov x hm
        have := h3.same hA h1 hi (rk x) x q q2 _ b (Nat.le_refl _) ha hb hx hxb
        have := (List.getElem?_eq_some_iff.1 hb).1
        omega
      · obtain ⟨q2, b, hb, hxb⟩ := h2.cov x hm
        have := h3.same hA h2 hi (rk x) x q q2 _ b (Nat.le_refl _) ha hb hx hxb
        have := (List.getElem?_eq_some_iff.1 hb).1
        omega
  omega
/-- The members of a set of bits, rising. -/
def mem15 (p : Nat → Bool) (n : Nat) : List Int := ((List.range n).filter fun j => decide (1 ≤ j) && p j).map fun j : Nat => (j : Int)
theorem mem15_mem {p : Nat → Bool} {n : Nat} {x : Int} : x ∈ mem15 p n ↔ 1 ≤ x ∧ x < n ∧ p x.toNat = true := by
  unfold mem15
  simp only [List.mem_map, List.mem_filter, List.mem_range, Bool.and_eq_true, decide_eq_true_eq]
  constructor
  · rintro ⟨j, ⟨h1, h2, h3⟩, rfl⟩
    exact ⟨by omega, by omega, by simpa using h3⟩
  · rintro ⟨h1, h2, h3⟩
    exact ⟨x.toNat, ⟨by omega, by omega, h3⟩, by omega⟩
theorem mem15_one (p : Nat → Bool) : mem15 p 1 = [] := by
  rw [List.eq_nil_iff_forall_not_mem]
  intro y hy
  have := mem15_mem.1 hy
  omega
theorem mem15_succ (p : Nat → Bool) {k : Nat} (h : 1 ≤ k) : mem15 p (k + 1) = mem15 p k ++ (if p k = true then [(k : Int)] else []) := by
  unfold mem15
  rw [List.range_succ, List.filter_append, List.map_append]
  congr 1
  rw [List.filter_cons]
  cases p k <;> simp [h]
theorem mem15_up (p : Nat → Bool) (n : Nat) : (mem15 p n).Pairwise (· < ·) := by
  unfold mem15
  refine List.Pairwise.map _ (R := (· < ·)) (fun a b h => by omega) ?_
  exact List.Pairwise.sublist List.filter_sublist List.pairwise_lt_range
theorem clo_up {E : Gph} {is s : List Int} (hE : (ids E).Nodup) (hu : s.Pairwise (· < ·)) (h : ∀ x, x ∈ s ↔ Rch E is x) : clo E is = s := by
  rw [← clo_of hE (hu.imp fun h e => by omega) h]
  unfold sorted
  exact List.mergeSort_of_pairwise (hu.imp fun h => by simp; omega)
def bA (p : Nat → Bool) : Array Value := ((List.range 15).map fun j => Value.bool (p j)).toArray
theorem bA_at (p : Nat → Bool) (k : Nat) (h : k < 15) : (bA p)[k]? = some (.bool (p k)) := by simp [bA, h]
theorem bA_set (p : Nat → Bool) (k : Nat) : (bA p).setIfInBounds k (.bool true) = bA fun j => p j || j == k := by
  unfold bA
  rw [List.setIfInBounds_toArray]
  congr 1
  refine List.ext_getElem? fun j => ?_
  rw [List.getElem?_set]
  by_cases h : j < 15
  · by_cases e : k = j
    · subst e; simp [h]
    · rw [if_neg e]; simp [h, Ne.symm e]
  · by_cases e : k = j
    · subst e; simp [h]
    · rw [if_neg e]; simp [h]
theorem low_small {x n : Int} (h0 : 0 ≤ x) (h1 : x < n) (hn : n ≤ 1000) : low x n = x := by
  unfold low
  have : IntKind.u64.wrap x = x := by
    simp only [IntKind.wrap, IntKind.bits, IntKind.signed]
    simp
    omega
  rw [this]
  exact Int.emod_eq_of_lt h0 h1
theorem _root_.Go.Own.Has.lit3 {w : World} {b : Nat} {L : List HP} {x y z : Int} (hO : Has w (pt b (.cells #[.int .i64 x, .int .i64 y, .int .i64 z] 3) :: L)) : Has w (Ints (.slice (some ⟨b, 0, none⟩) 3 3) [x, y, z] :: L) :=
  hO.row_of (by simp) (le_maxLen (by omega)) rfl rfl rfl
/-- Which are in: those of X, and the first k of Y. -/
def inS (X Y : List Int) (k : Nat) (j : Nat) : Bool := decide ((j : Int) ∈ X) || decide ((j : Int) ∈ Y.take k)
theorem inS_zero (X : List Int) : inS [] X 0 = fun _ => false := by funext j; simp [inS]
theorem inS_next {X Y : List Int} {k y : Nat} (h : Y[k]? = some (y : Int)) : (fun j => inS X Y k j || j == y) = inS X Y (k + 1) := by
  funext j
  unfold inS
  rw [List.take_add_one, h, Option.toList_some]
  by_cases e : j = y
  · subst e; simp
  · have : ¬ (j : Int) = y := by omega
    simp [e, this, Bool.or_comm]
theorem inS_turn (X Y : List Int) : inS [] X X.length = inS X Y 0 := by funext j; simp [inS]
end Go.Proofs.Ytajnhggcaiakeaa
/- deps.Drop: those that are dropped are gone, and nobody needs them. -/
namespace Go.Proofs.Ytajnhggcaiakeaa
open Go.RowKit Go.Own Go.Maps Go.ChangeMaps Go.Own.Dp
/-- One that is there, gone. -/
def dr1 (E : Gph) (x : Int) : Gph := (E.filter fun e => e.1 != x).map fun e => (e.1, e.2.filter fun y => y != x)
def stepD (p : Gph × Nat) (x : Int) : Gph × Nat := if x ∈ ids p.1 then (dr1 p.1 x, p.2 + 1) else p
def dropF (E : Gph) (is : List Int) : Gph × Nat := is.foldl stepD (E, 0)
theorem dropF_take (E : Gph) (is : List Int) (k : Nat) (x : Int) (h : is[k]? = some x) : dropF E (is.take (k + 1)) = stepD (dropF E (is.take k)) x := by
  unfold dropF
  rw [List.take_add_one, h, List.foldl_append]
  rfl
theorem dropF_cnt (E : Gph) (is : List Int) (k : Nat) : (dropF E (is.take k)).2 ≤ k := by
  induction k with
  | zero => simp [dropF]
  | succ k ih =>
    cases h : is[k]? with
    | none => rw [List.take_add_one, h]; simp; omega
    | some x =>
      rw [dropF_take _ _ _ _ h]
      unfold stepD
      split
      · simp only; omega
      · omega
/-- The loop over the others under way. -/
def fT (x : Int) (rem : List Int) (T : List Ge) : List Ge := T.map fun e => (e.1, e.2.1, if e.1 ∈ rem then e.2.2 else e.2.2.filter fun y => y != x)
theorem fT_start (x : Int) (T : List Ge) : fT x (gids T) T = T := by
  unfold fT
  conv => rhs; rw [← List.map_id T]
  refine List.map_congr_left fun e he => ?_
  rw [if_pos (show e.1 ∈ gids T from List.mem_map_of_mem (f := fun e : Ge => e.1) he)]
  rfl
theorem fT_outer (x : Int) (rem : List Int) (T : List Ge) : outer (fT x rem T) = outer T := by simp [fT, outer]
theorem fT_app (x : Int) (rem : List Int) (A B : List Ge) : fT x rem (A ++ B) = fT x rem A ++ fT x rem B := by simp [fT]
theorem fT_but (x y : Int) (rem : List Int) (A : List Ge) (h : y ∉ gids A) : fT x (rem.filter fun z => z != y) A = fT x rem A := by
  unfold fT
  refine List.map_congr_left fun e he => ?_
  have hne : e.1 ≠ y := fun e2 => h (by rw [← e2]; exact List.mem_map_of_mem (f := fun e : Ge => e.1) he)
  have : e.1 ∈ rem.filter (fun z => z != y) ↔ e.1 ∈ rem := by rw [List.mem_filter]; simp [hne]
  simp only [this]
theorem fT_step {x y : Int} {b : Nat} {rem : List Int} {T : List Ge} (hn : (gids T).Nodup) (hp : (y, b) ∈ outer T) (hr : y ∈ rem) :
    ∃ A s B, fT x rem T = A ++ (y, b, s) :: B ∧ fT x (rem.filter fun z => z != y) T = A ++ (y, b, s.filter fun z => z != x) :: B := by
  unfold outer at hp
  obtain ⟨⟨y', b', s⟩, he, hq⟩ := List.mem_map.1 hp
  simp only [Prod.mk.injEq] at hq
  obtain ⟨rfl, rfl⟩ := hq
  obtain ⟨A, B, rfl⟩ := List.append_of_mem he
  simp only [gids, List.map_append, List.map_cons] at hn
  obtain ⟨-, h2, h3⟩ := List.nodup_append.1 hn
  have h1 : y' ∉ gids A := fun hm => h3 y' hm y' (by simp) rfl
  have h4 : y' ∉ gids B := (List.nodup_cons.1 h2).1
  refine ⟨fT x rem A, s, fT x rem B, ?_, ?_⟩
  · rw [fT_app]
    simp [fT, hr]
  · rw [fT_app, fT_but _ _ _ _ h1]
    congr 1
    rw [show (y', b', s) :: B = [(y', b', s)] ++ B from rfl, fT_app, fT_but _ _ _ _ h4]
    simp [fT]
theorem fT_end (x : Int) (T : List Ge) (T1 T2 : List Ge) (b : Nat) (s : List Int) (hT : T = T1 ++ (x, b, s) :: T2) (h1 : x ∉ gids T1) (h2 : x ∉ gids T2) : er (fT x [] (T1 ++ T2)) = dr1 (er T) x := by
  subst hT
  have hf : ∀ A : List Ge, x ∉ gids A → (er A).filter (fun e => e.1 != x) = er A := fun A h => by
    rw [List.filter_eq_self]
    intro e he
    unfold er at he
    obtain ⟨e', he', rfl⟩ := List.mem_map.1 he
    simp only [bne_iff_ne]
    intro e2
    exact h (by rw [← e2]; exact List.mem_map_of_mem (f := fun e : Ge => e.1) he')
  have e1 : er (T1 ++ (x, b, s) :: T2) = er T1 ++ (x, s) :: er T2 := by simp [er]
  unfold dr1
  rw [e1, List.filter_append, List.filter_cons, hf T1 h1, hf T2 h2]
  simp [fT, er, Function.comp_def]
theorem Gx.any {w : World} {L : List HP} {g m : Nat} {T : List Ge} (h : Has w (Gr g m T :: L)) : Has w (Gx g (er T) :: L) := Gx.iff.2 ⟨m, T, rfl, h⟩
set_option maxRecDepth 100000 in
set_option maxHeartbeats 8000000 in
theorem xDrop (g : Nat) (E : Gph) (v : Value) (is : List Int) (w : World) (L : List HP) (hok : ∀ x ∈ is, okK x) (hil : is.length ≤ 1000) (hr : ∀ w', Has w' L → Rd w' v 1 is.length (ic is)) (hO : Has w (Gx g E :: L)) :
    Calls Try.prog 16 #[gP g, v] w fun e w' => e = .returned (.int .i64 (dropF E is).2) ∧ Has w' (Gx g (dropF E is).1 :: L) ∧ Keep w w' := by
  obtain ⟨vp, vc, rfl, -⟩ := (hr w hO.drop).form
  have HR := hid hr
  have HOK := hid hok
  have HO := hid (show Has w (Gx g (dropF E (is.take 0)).1 :: L) from hO)
  have HK := hid (Keep.refl w)
  clear hr hO hok
  go_enter Try.func16, Try.ntmps16
  go_wp2_with fail
  go_loopw [12, 5] (fun i n w' => ∃ k : Nat, k ≤ is.length ∧ i = .int .i64 k ∧ n = .int .i64 (dropF E (is.take k)).2 ∧ Hid (Has w' (Gx g (dropF E (is.take k)).1 :: L)) ∧ Hid (Keep w w')) (fun i _ _ => is.length - (intOf i).toNat)
  case atStart => exact ⟨0, by omega, rfl, rfl, HO, HK⟩
  case round =>
    clear HO HK
    obtain ⟨k, hk, rfl, rfl, HO, HK⟩ := hrel
    by_cases hlt : k < is.length
    · have hki : (k : Int) < (is.length : Int) := by omega
      have hk0 : (0 : Int) ≤ (k : Int) := by omega
      have hil2 : (is.length : Int) ≤ 1000 := by omega
      obtain ⟨p0, c0, e0, -, -, hcx0⟩ := (HR.out wr HO.out.drop).form
      simp only [Value.slice.injEq] at e0
      obtain ⟨rfl, -, rfl⟩ := e0
      obtain ⟨gx, ox, rfl, hcx1⟩ := hcx0 (by omega)
      have hc := hcx1 k (by omega)
      rw [ic_at is k hlt] at hc
      have hx := HOK.out is[k] (List.getElem_mem hlt)
      have HS := hid (dropF_take E is k is[k] (List.getElem?_eq_getElem hlt))
      have hcnt := dropF_cnt E is k
      generalize is[k] = x at *
      generalize dropF E (is.take k) = F at *
      obtain ⟨E1, n1⟩ := F
      have hn1 : (n1 : Int) ≤ 1000 := by have : n1 ≤ k := hcnt; omega
      have hn0 : (0 : Int) ≤ (n1 : Int) := by omega
      have HX := hid hx
      have HLT := hid hlt
      have hth := xThere g E1 x wr L hx HO.out
      clear hcx0 hcx1 hlt hk hcnt hx
      by_cases hin : x ∈ ids E1
      · rw [decide_eq_true hin] at hth
        have HIN := hid hin
        obtain ⟨m, T, (hT : er T = E1), hh⟩ := Gx.iff.1 HO.out
        rw [← hT, ← gids_er] at hin
        obtain ⟨T1, b, s, T2, hTT, -, -, hx1, hx2⟩ := Gr.split hh hin
        have HND := hid (Gr.nodup hh)
        have HTT := hid hTT
        have HX1 := hid hx1
        have HX2 := hid hx2
        have HT := hid hT
        have hcell : wr.cell? ⟨g, 0, none⟩ = some (.map (some m)) := by rw [(Gr.iff.1 hh).cells 0]; rfl
        have h0 := Gr.iff.1 hh
        rw [hTT] at h0
        have HG := hid (show Has wr (Om m (outer T) :: pt g (.cells #[.map (some m)] 46) :: (inners (T1 ++ T2) ++ L)) from by
          have h2 : (inners (T1 ++ (x, b, s) :: T2) ++ L).Perm (Ns b s :: (inners (T1 ++ T2) ++ L)) := by
            unfold inners
            rw [List.map_append, List.map_cons, List.map_append]
            simp only [List.append_assoc, List.cons_append]
            exact List.perm_middle
          rw [hTT]
          exact (h0.perm ((h2.cons _).cons _)).re 3 [1, 0])
        clear hT hTT hh h0 hx1 hx2 hin
        go_wp2_with fail
        refine (hth).mono ?_
        rintro e w' ⟨rfl, rfl⟩
        try dsimp only
        clear hth HO
        go_upto_region 7 with (at_delete; refine wpList_omDel (b := m) (t := outer T) _ HG.out rfl _ _ rfl rfl x HX.out rfl ?_; intro w3 hO3 hK3; have hc3 : w3.cell? ⟨g, 0, none⟩ = some (.map (some m)) := by rw [hO3.p1.cells 0]; rfl)
        have HO3 := hid (show Has w3 (Om m (outer (T1 ++ T2)) :: pt g (.cells #[.map (some m)] 46) :: (inners (T1 ++ T2) ++ L)) from by
          have e : (outer T).filter (fun p => p.1 != x) = outer (T1 ++ T2) := by
            rw [HTT.out]
            have hf : ∀ A : List Ge, x ∉ gids A → (outer A).filter (fun e => e.1 != x) = outer A := fun A h => by
              rw [List.filter_eq_self]
              intro e he
              unfold outer at he
              obtain ⟨e', he', rfl⟩ := List.mem_map.1 he
              simp only [bne_iff_ne]
              intro e2
              exact h (by rw [← e2]; exact List.mem_map_of_mem (f := fun e : Ge => e.1) he')
            have e1 : ∀ A B : List Ge, outer (A ++ B) = outer A ++ outer B := fun A B => by simp [outer]
            rw [e1, e1, show outer ((x, b, s) :: T2) = (x, b) :: outer T2 from rfl, List.filter_append, List.filter_cons, hf T1 HX1.out, hf T2 HX2.out]
            simp
          rw [← e]
          exact hO3)
        have HK3 := hid (HK.out.trans hK3)
        have HND2 := hid (show (gids (T1 ++ T2)).Nodup from by
          have h := HND.out
          rw [HTT.out] at h
          refine h.sublist ?_
          unfold gids
          exact List.Sublist.map _ (List.Sublist.append_left (List.sublist_cons_self _ _) _))
        have HEN := hid (fT_end x T T1 T2 b s HTT.out HX1.out HX2.out)
        rw [HT.out] at HEN
        clear hO3 hK3 HG HK HND HTT HX1 HX2 HT
        generalize T1 ++ T2 = T' at *
        go_wp2_with (at_range; refine wpList_roStart (b := m) (t := outer T') HO3.out rfl _ rfl rfl ?_; intro w4 hO4 hK4 hs4)
        try go_frame
        have HO4 := hid (show Has w4 (Ro m w3.heap.size (outer T') (gids T') (outer T').length :: pt g (.cells #[.map (some m)] 46) :: (inners (fT x (gids T') T') ++ L)) from by
          rw [fT_start]
          rw [outer_fst] at hO4
          exact hO4)
        have HK4 := hid (HK3.out.trans hK4)
        clear hO4 hK4 hs4 HO3 HK3 hcell hc3
        generalize w3.heap.size = r at *
        generalize (outer T').length = cnt0 at *
        go_loopw [] (fun w4 => ∃ (rem : List Int) (cnt : Nat), Hid (Has w4 (Ro m r (outer T') rem cnt :: pt g (.cells #[.map (some m)] 46) :: (inners (fT x rem T') ++ L))) ∧ Hid (Keep w w4)) (fun w4 => w4.rangeLeft m r)
        case atStart => exact ⟨_, _, HO4, HK4⟩
        case round =>
          clear HO4 HK4
          obtain ⟨rem, cnt, HO, HK⟩ := hrel
          have hleft := Rx.left HO.out
          have HLF := hid hleft
          go_wp2_with (at_next; refine wpList_roNext (b := m) (r := r) (t := outer T') (rem := rem) (cnt := cnt) HO.out rfl _ rfl rfl ?_ ?_)
          · intro hrem
            subst hrem
            have HE := hid (show dropF E (is.take (k + 1)) = (dr1 E1 x, n1 + 1) from by
              rw [HS.out]
              unfold stepD
              rw [if_pos HIN.out])
            have HO5 := hid (show Has wr (Gx g (dropF E (is.take (k + 1))).1 :: L) from by
              rw [HE.out, ← HEN.out]
              refine Gx.any (m := m) (Gr.iff.2 ?_)
              rw [fT_outer]
              exact (Ro.end HO.out).p1)
            have HE2 := hid (show (dropF E (is.take (k + 1))).2 = n1 + 1 from by rw [HE.out])
            clear HO hleft HE
            go_wp2_with fail
            exact ⟨⟨k + 1, by have := HLT.out; omega, by go_num, by rw [HE2.out]; go_num, HO5, HK⟩, by have := HLT.out; simp [intOf]; omega⟩
          · rintro y b w5 cnt' hp hr hky hO5 hlt5 hK5 hsz hen
            obtain ⟨A, s, B, hT1, hT2⟩ := fT_step (x := x) HND2.out hp hr
            have HT2 := hid hT2
            have HP5 := hid (show Has w5 (Ns b s :: Ro m r (outer T') (rem.filter fun y' => y' != y) cnt' :: pt g (.cells #[.map (some m)] 46) :: (inners (A ++ B) ++ L)) from by
              rw [hT1] at hO5
              have h2 : (inners (A ++ (y, b, s) :: B) ++ L).Perm (Ns b s :: (inners (A ++ B) ++ L)) := by
                unfold inners
                rw [List.map_append, List.map_cons, List.map_append]
                simp only [List.append_assoc, List.cons_append]
                exact List.perm_middle
              exact (hO5.perm ((h2.cons _).cons _)).re 3 [2, 0, 1])
            have HK5 := hid (HK.out.trans hK5)
            have HL5 := hid hlt5
            have hen2 := hen
            clear hp hr hky hO5 hlt5 hK5 hsz hT1 hT2 hleft HO HK
            go_wp2_with (at_delete; refine wpList_nsDel (b := b) (s := s) _ HP5.out rfl _ _ rfl rfl x HX.out rfl ?_; intro w6 hO6 hK6; simp only [Act.put])
            have HO6 := hid (show Has w6 (Ro m r (outer T') (rem.filter fun y' => y' != y) cnt' :: pt g (.cells #[.map (some m)] 46) :: (inners (fT x (rem.filter fun y' => y' != y) T') ++ L)) from by
              rw [HT2.out]
              have h2 : (inners (A ++ (y, b, s.filter fun z => z != x) :: B) ++ L).Perm (Ns b (s.filter fun z => z != x) :: (inners (A ++ B) ++ L)) := by
                unfold inners
                rw [List.map_append, List.map_cons, List.map_append]
                simp only [List.append_assoc, List.cons_append]
                exact List.perm_middle
              exact (hO6.re 3 [1, 2, 0]).perm ((h2.symm.cons _).cons _))
            have HK6 := hid (HK5.out.trans hK6)
            have hleft := Rx.left HO6.out
            clear hO6 hK6 HP5 HK5 hen hen2
            go_wp2_with fail
            trace_state
            exact ⟨⟨_, _, HO6, HK6⟩, by rw [hleft, HLF.out]; exact HL5.out⟩
      · rw [decide_eq_false hin] at hth
        have HE := hid (show dropF E (is.take (k + 1)) = (E1, n1) from by
          rw [HS.out]
          unfold stepD
          rw [if_neg hin])
        have HO5 := hid (show Has wr (Gx g (dropF E (is.take (k + 1))).1 :: L) from by rw [HE.out]; exact HO.out)
        have HE2 := hid (show (dropF E (is.take (k + 1))).2 = n1 from by rw [HE.out])
        clear HO HE
        go_wp2_with fail
        refine (hth).mono ?_
        rintro e w' ⟨rfl, rfl⟩
        try dsimp only
        clear hth
        go_wp2_with fail
        exact ⟨⟨k + 1, by have := HLT.out; omega, by go_num, by rw [HE2.out], HO5, HK⟩, by have := HLT.out; simp [intOf]; omega⟩
    · obtain rfl : k = is.length := by omega
      have hki : ¬ (is.length : Int) < (is.length : Int) := by omega
      have HO5 := hid (show Has wr (Gx g (dropF E is).1 :: L) from by have h := HO.out; rwa [List.take_length] at h)
      rw [List.take_length]
      clear hlt hk HO
      go_wp2_with fail
      go_ret
      exact ⟨rfl, HO5.out, HK.out⟩
end Go.Proofs.Ytajnhggcaiakeaa
