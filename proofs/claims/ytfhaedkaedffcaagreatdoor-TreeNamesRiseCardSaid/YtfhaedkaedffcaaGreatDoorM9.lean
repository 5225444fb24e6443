/- TEXTS of mine, merged. -/
import Derived.Test.YtfhaedkaedffcaaGreatDoorM8
import Derived.Test.YtfhaedkaedffcaaGreatDoorM7
import Derived.Test.YtfhaedkaedffcaaGreatDoorM1
import Derived.Sort.Row
import Derived.Sort.Grow
import Derived.Test.YtfhaedkaedffcaaGreatDoorM5
/- THE WALK of tree.read. -/
namespace Go.Proofs.YtfhaedkaedffcaaGreatDoor
open Go.RowKit Go.Own
/-- What is open is there, and stands somewhere. -/
structure Opn (S : Tre) : Prop where
  there : ∀ fd s, Tb.look S.tab fd = some s → ∃ x, fnd S.nodes s.node = some x
  off : ∀ fd s, Tb.look S.tab fd = some s → 0 ≤ s.off ∧ s.off ≤ 2000000000000
  data : ∀ n x, fnd S.nodes n = some x → x.data.length ≤ 100000
  wr : ∀ n x, fnd S.nodes n = some x → x.wr.length ≤ 100000
  nolink : ∀ fd s, Tb.look S.tab fd = some s → (S.at_ s.node).kind ≠ 3
theorem Opn.fileK {S : Tre} (h : Opn S) (fd : Int) (wr : Bool) (h0 : (S.file fd wr).2 = 0) : (S.at_ (S.file fd wr).1.node).kind ≠ 3 := by
  unfold Tre.file at *
  by_cases h1 : (Tb.get S.tab fd).2 ≠ 0
  · rw [if_pos h1] at h0; simp at h0
  · rw [if_neg h1] at *
    by_cases h2 : wr = true ∧ andI (Tb.get S.tab fd).1.flags 32 = 0
    · rw [if_pos h2] at h0; simp at h0
    · rw [if_neg h2] at *
      by_cases h3 : (S.at_ (Tb.get S.tab fd).1.node).kind = 2
      · rw [if_pos h3] at h0; simp at h0
      · rw [if_neg h3]
        unfold Tb.get at *
        cases hl : Tb.look S.tab fd with
        | none => simp [hl] at h1
        | some s => exact h.nolink fd s hl
theorem Opn.file {S : Tre} (h : Opn S) (fd : Int) (wr : Bool) (h0 : (S.file fd wr).2 = 0) : 0 ≤ (S.file fd wr).1.off ∧ (S.file fd wr).1.off ≤ 2000000000000 := by
  unfold Tre.file at *
  by_cases h1 : (Tb.get S.tab fd).2 ≠ 0
  · rw [if_pos h1] at h0; simp at h0
  · rw [if_neg h1] at *
    by_cases h2 : wr = true ∧ andI (Tb.get S.tab fd).1.flags 32 = 0
    · rw [if_pos h2] at h0; simp at h0
    · rw [if_neg h2] at *
      by_cases h3 : (S.at_ (Tb.get S.tab fd).1.node).kind = 2
      · rw [if_pos h3] at h0; simp at h0
      · rw [if_neg h3]
        unfold Tb.get at *
        cases hl : Tb.look S.tab fd with
        | none => simp [hl] at h1
        | some s => exact h.off fd s hl
theorem wrapk_in (n : Int) (h : -9223372036854775808 ≤ n ∧ n ≤ 9223372036854775807) : IntKind.i64.wrap n = n := by
  simp [IntKind.wrap, IntKind.bits, IntKind.signed]; omega
theorem cloneBy (v : Value) (xs : List Int) (w : World) (L : List HP) (hO : Has w L) (hr : Rd w v 1 xs.length (bc xs)) (hsm : xs.length ≤ 1000000000) :
    Calls Tryz.prog 61 #[v] w fun e w' => ∃ v', e = .returned v' ∧ Has w' (Bytes v' xs :: L) ∧ Keep w w' :=
  (cloneBytes v xs w L hO hr hsm).mono fun _ _ ⟨v', h1, h2, h3, _⟩ => ⟨v', h1, h2, h3⟩
end Go.Proofs.YtfhaedkaedffcaaGreatDoor
/- THE WALK of tree.take. -/
namespace Go.Proofs.YtfhaedkaedffcaaGreatDoor
open Go.RowKit Go.Own
theorem fnd_putA {κ α : Type} [DecidableEq κ] {t : List (κ × α)} {x y : κ} {a : α} : fnd (putA t x a) y = if y = x then some a else fnd t y := by
  unfold putA
  by_cases hx : x ∈ t.map Prod.fst
  · rw [if_pos hx]
    unfold fnd
    induction t with
    | nil => simp at hx
    | cons p t ih =>
      rw [List.map_cons, List.find?_cons]
      by_cases hp : p.1 = x
      · rw [if_pos hp]
        by_cases hy : y = x
        · subst hy; simp
        · rw [if_neg hy]
          have h1 : decide (x = y) = false := by simp; exact fun e => hy e.symm
          have h2 : decide (p.1 = y) = false := by simp; rw [hp]; exact fun e => hy e.symm
          rw [List.find?_cons, h2]
          simp only [h1]
          by_cases hx' : x ∈ t.map Prod.fst
          · have := ih hx'
            rw [if_neg hy] at this
            exact this
          · congr 1
            rw [show List.map (fun p => if p.1 = x then (x, a) else p) t = t from by
              conv => rhs; rw [← List.map_id t]
              apply List.map_congr_left
              intro r hr
              show (if r.1 = x then (x, a) else r) = r
              rw [if_neg (fun e : r.1 = x => hx' (e ▸ List.mem_map_of_mem (f := Prod.fst) hr))]]
      · rw [if_neg hp, List.find?_cons]
        have hx' : x ∈ t.map Prod.fst := by
          rw [List.map_cons, List.mem_cons] at hx
          exact hx.resolve_left (fun e => hp e.symm)
        have := ih hx'
        by_cases hpy : p.1 = y
        · have hy : y ≠ x := fun e => hp (hpy.trans e)
          simp [hpy, hy]
        · simp only [hpy, decide_false]
          exact this
  · rw [if_neg hx]
    unfold fnd
    rw [List.find?_append]
    by_cases hy : y = x
    · subst hy
      rw [if_pos rfl]
      have : t.find? (fun p => decide (p.1 = y)) = none := by
        rw [List.find?_eq_none]
        intro p hp
        simp only [decide_eq_true_eq]
        exact fun e => hx (e ▸ List.mem_map_of_mem (f := Prod.fst) hp)
      rw [this]
      simp
    · rw [if_neg hy]
      have h1 : List.find? (fun p => decide (p.1 = y)) [(x, a)] = none := by simp; exact fun e => hy e.symm
      rw [h1]
      cases List.find? (fun p => decide (p.1 = y)) t <;> rfl
end Go.Proofs.YtfhaedkaedffcaaGreatDoor
/- THE WALK of tree.find, long, way. -/
namespace Go.Proofs.YtfhaedkaedffcaaGreatDoor
open Go.RowKit Go.Own
set_option maxRecDepth 100000 in
set_option maxHeartbeats 4000000 in
theorem tFind (q : Nat) (S : Tre) (p : Str) (fo : Bool) (mx : Int) (w : World) (L : List HP) (hW : Wk S) (hM : MxL mx L) (hp : p.length ≤ 100000) (hO : Has w (Trc q S :: L)) :
    Calls Tryz.prog 65 #[.pointer (some ⟨q, 0, none⟩), sV p, .bool fo] w fun e w' => e = .returned (.tuple #[spV (S.find p fo).1, .int .i64 (S.find p fo).2]) ∧ Has w' (Trc q S :: L) ∧ Keep w w' := by
  have HPn := hid (fun (w : World) (L' : List HP) (hM : MxL mx L') (hO : Has w L') => pSplit p mx w L' hM hp hO)
  have hl := split_len p
  have h24 := split_short p
  have HF := hid (show S.find p fo = if (splitM p).2 ≠ 0 then (spt0, (splitM p).2) else S.walk ⟨1, 0, []⟩ 0 (splitM p).1 fo from rfl)
  generalize S.find p fo = R at *
  generalize splitM p = M at *
  obtain ⟨ps, me⟩ := M
  dsimp only at *
  have HM := hid hM
  have HT := hid (fun (v : Value) (w : World) (L' : List HP) (hM : MxL mx L') (hO : Has w (VwS v ps :: Trc q S :: L')) => tWalk q S 1 v ps fo mx w L' hW hM hW.root (by omega) h24 hO)
  generalize S.walk ⟨1, 0, []⟩ 0 ps fo = R2 at *
  obtain ⟨s2, e2⟩ := R2
  dsimp only at *
  have HO := hid hO
  clear hM hO hl h24 hp
  go_enter Tryz.func65, Tryz.ntmps65
  go_wp2_with fail
  refine (HPn.out _ _ ((HM.out.cons _).cons (pt w.heap.size (.cells (spC spt0) 81))) (HO.out.alloc _)).mono ?_
  rintro e w1 ⟨v1, rfl, hO1, hK1⟩
  have HO1 := hid hO1
  have HK1 := hid (((Keep.refl w).alloc _).trans hK1)
  clear hO1 hK1
  try dsimp only
  obtain ⟨p1, c1, rfl, -⟩ := (Strs.rd HO1.out).form
  generalize w.heap.size = g8 at *
  have hc80 : w1.cell? ⟨g8, 0, none⟩ = some (.int .i64 0) := HO1.out.p1.cells 0
  have hc81 : w1.cell? ⟨g8, 1, none⟩ = some (.int .i64 0) := HO1.out.p1.cells 1
  have hc82 : w1.cell? ⟨g8, 2, none⟩ = some (sV []) := HO1.out.p1.cells 2
  have ht80 := HO1.out.p1.thaw 0
  have ht81 := HO1.out.p1.thaw 1
  have ht82 := HO1.out.p1.thaw 2
  by_cases he : me = 0
  · subst he
    have HR := hid (show R = (s2, e2) from by rw [HF.out, if_neg (by simp)])
    go_wp2_with fail
    refine (HT.out _ w1 _ (HM.out.cons (pt g8 (.cells (spC spt0) 81))) (VwS.of (HO1.out.re 3 [0, 2, 1]))).mono ?_
    rintro e w2 ⟨rfl, hO2, hK2⟩
    have HO2 := hid hO2
    have HK2 := hid ((HK1.out).trans hK2)
    clear hO2 hK2
    try dsimp only
    clear hc80 hc81 hc82 ht80 ht81 ht82
    have hc80 : w2.cell? ⟨g8, 0, none⟩ = some (.int .i64 0) := HO2.out.p1.cells 0
    have hc81 : w2.cell? ⟨g8, 1, none⟩ = some (.int .i64 0) := HO2.out.p1.cells 1
    have hc82 : w2.cell? ⟨g8, 2, none⟩ = some (sV []) := HO2.out.p1.cells 2
    have ht80 := HO2.out.p1.thaw 0
    have ht81 := HO2.out.p1.thaw 1
    have ht82 := HO2.out.p1.thaw 2
    unfold spV spC
    go_wp2_with fail
    have h1 := (show Has w2 (pt g8 (.cells (spC spt0) 81) :: Trc q S :: L) from HO2.out.re 2 [1, 0]).spt s2
    refine bodyPost_ret (spt_result s2 rfl rfl rfl h1) rfl ?_
    rw [HR.out]
    exact ⟨rfl, h1.drop, HK2.out.spt _ _ _ _⟩
  · have HR := hid (show R = (spt0, me) from by rw [HF.out, if_pos he])
    clear HF
    go_wp2_with fail
    have h1 := (show Has w1 (pt g8 (.cells (spC spt0) 81) :: Trc q S :: L) from HO1.out.re 3 [1, 2]).spt spt0
    refine bodyPost_ret (spt_result spt0 rfl rfl rfl h1) rfl ?_
    rw [HR.out]
    exact ⟨rfl, h1.drop, HK1.out.spt _ _ _ _⟩
set_option maxRecDepth 100000 in
theorem tLong (v : Value) (parts : List Str) (w : World) (L : List HP) (hr : Rd w v 1 parts.length (parts.map sV)) (hl : parts.length ≤ 1000) (hj : (joinS parts).length ≤ 1000000) (hO : Has w L) :
    Calls Tryz.prog 136 #[v] w fun e w' => e = .returned (.bool (Tre.longM parts)) ∧ Has w' L ∧ Keep w w' := by
  have HJ := hid (pJoin v parts w L hr (by omega) hj hO)
  obtain ⟨p1, c1, rfl, -⟩ := hr.form
  have hm : Tre.longM parts = (decide (20 < parts.length) || decide (200 < (joinM parts).length)) := rfl
  have HO := hid hO
  generalize joinM parts = js at *
  clear hO hr hj
  by_cases h20 : (20 : Int) < (parts.length : Int)
  · have HR := hid (show Tre.longM parts = true from by rw [hm, decide_eq_true (by omega)]; rfl)
    clear hm
    go_enter Tryz.func136, Tryz.ntmps136
    go_wp2_with fail
    go_ret
    rw [HR.out]
    exact ⟨rfl, HO.out, Keep.refl _⟩
  · have HR := hid (show Tre.longM parts = decide ((200 : Int) < (js.length : Int)) from by rw [hm, decide_eq_false (by omega)]; simp; omega)
    clear hm
    go_enter Tryz.func136, Tryz.ntmps136
    go_wp2_with fail
    refine (HJ.out).mono ?_
    rintro e w1 ⟨rfl, hO1, hK1⟩
    have HO1 := hid hO1
    have HK1 := hid ((Keep.refl w).trans hK1)
    clear hO1 hK1
    try dsimp only
    go_wp2_with fail
    go_ret
    rw [HR.out]
    exact ⟨rfl, HO1.out, HK1.out⟩
end Go.Proofs.YtfhaedkaedffcaaGreatDoor
/- WHAT IS OWNED BEHIND THE SHELF's CONTRACTS that turn a row: the world with the row's cells anew, and blocks behind it. No program in sight. -/
namespace Go.Own
open Go.RowKit
section
variable {w w' : World} {l : List HP} {v : Value} {e : TypeId} {size n : Nat} {xs : List Value}
theorem Has.grow (h : Has w l) (os : Array Obj) : Has (Sort.grow w os) l := h.frame fun k hk => by
  show (w.heap ++ os)[k]? = _
  rw [Array.getElem?_append_left hk]
theorem Has.ahead (h : Has w l) (m : Nat) : Has (Sort.ahead w m) l := h
theorem Has.putRow {α : Type} [Inhabited α] (enc : α → Value) {g cap m : Nat} {d : Array α} (h : Has w (row (.slice (some ⟨g, 0, none⟩) m cap) e 1 n xs :: l)) (hd : d.size = n) :
    Has (Sort.putRow enc w g 0 d) (row (.slice (some ⟨g, 0, none⟩) m cap) e 1 n (d.toList.map enc) :: l) := by
  obtain ⟨hl, h | ⟨g', cap', cur, e1, h1, h2, h3, h4, h5⟩⟩ := h.row_cases
  · exact absurd h.1 (by simp)
  · simp only [Value.slice.injEq, Option.some.injEq, Addr.mk.injEq] at e1
    obtain ⟨⟨rfl, -, -⟩, rfl, rfl⟩ := e1
    subst hd
    have hp : Has (Sort.putRow enc w g 0 d) (pt g (.cells (Sort.putCells enc 0 d cur) e) :: l) := by
      refine h5.turn (fun k _ hk => ?_) ?_
      · simp [Sort.putRow, Sort.mapBlock, Array.getElem?_modify, Ne.symm hk]
      · simp [Sort.putRow, Sort.mapBlock, Array.getElem?_modify, h5.lookup, Sort.onCells]
    refine hp.row_of h1 h2 (by simpa [Sort.putCells] using h3) ?_ (by simp)
    apply List.ext_getElem?
    intro k
    rw [Nat.mul_one] at h3
    by_cases hk : k < d.size
    · have hkc : k < cur.size := by omega
      rw [Nat.mul_one, List.getElem?_take, if_pos hk, Array.getElem?_toList, Sort.putCells, Array.getElem?_mapIdx, Array.getElem?_eq_getElem hkc, Option.map_some, if_pos ⟨Nat.zero_le _, by omega⟩, List.getElem?_map, Array.getElem?_toList, Nat.sub_zero,
        Array.getElem?_eq_getElem hk, Option.map_some, getElem!_pos d k hk]
    · rw [List.getElem?_eq_none (by simp; omega), List.getElem?_eq_none (by simp; omega)]
end
end Go.Own
/- slices.Reverse of strings, over owned rows. -/
namespace Go.Proofs.YtfhaedkaedffcaaGreatDoor
open Go.RowKit Go.Own
theorem strs_holds {w : World} {L : List HP} {g cap m : Nat} {l : List Str} (hO : Has w (Strs (.slice (some ⟨g, 0, none⟩) m cap) l :: L)) : Sort.Holds encStr w g 0 l.toArray := by
  obtain ⟨-, hc, hf, -, -⟩ := hO.row_cells
  intro j hj
  have hj' : j < l.length := by simpa using hj
  refine ⟨?_, by rw [Nat.zero_add]; exact hf j⟩
  rw [Nat.zero_add, hc j (by omega), List.getElem?_map, List.getElem?_eq_getElem hj', Option.map_some, getElem!_pos _ j hj, List.getElem_toArray]
theorem reverseS (v : Value) (l : List Str) (w : World) (L : List HP) (hl : l.length ≤ 1000000) (hO : Has w (Strs v l :: L)) :
    Calls Tryz.prog 149 #[v] w fun e w' => e = .returned (.tuple #[]) ∧ Has w' (Strs v l.reverse :: L) ∧ Keep w w' := by
  obtain ⟨h1, ⟨rfl, h2, h3, -⟩ | ⟨g, cap, cur, rfl, h2, h3, -, -, h4⟩⟩ := Has.row_cases hO
  · have hn : l = [] := List.eq_nil_of_length_eq_zero h2
    subst hn
    refine (Tryz.slices_Reverse_string_empty none 0 w).mono ?_
    rintro e w' ⟨rfl, rfl⟩
    exact ⟨rfl, by simpa using hO, Keep.refl _⟩
  · refine (Tryz.slices_Reverse_string g 0 cap l w (strs_holds hO) (by omega)).mono ?_
    rintro e w' ⟨rfl, m, rfl⟩
    have h5 := (Has.ahead hO m).putRow (d := l.reverse.toArray) encStr (by simp)
    refine ⟨rfl, ?_, rfl, rfl, rfl, by simp [Sort.putRow, Sort.mapBlock, Sort.ahead]⟩
    unfold Strs
    rw [List.length_reverse]
    exact h5
end Go.Proofs.YtfhaedkaedffcaaGreatDoor
