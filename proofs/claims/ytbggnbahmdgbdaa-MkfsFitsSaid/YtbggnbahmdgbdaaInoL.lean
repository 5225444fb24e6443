/- THE WALK of inode.Lay, of four inodes of which the first may be the root. -/
import Derived.Test.YtbggnbahmdgbdaaInoF
namespace Go.Own
open Go.RowKit
theorem wpList_loadAll {P : Program} {ops : Array Oper} {rest : List Oper} {o : Oper} {a : Act} {Q : Exit → Act → World → Prop} {w : World} (hgd : o.guard = none) (t : TypeId) (x : Operand) (ho : o.op = .load t x) (v u : Value) (hx : a.eval x = v)
    (hl : (Instr.loadAt t v).run P w = .ok u w) (h : wpList P ops Q rest (a.put o.dst u) w) : wpList P ops Q (o :: rest) a w := by
  refine wpList_plain hgd fun K hK => ?_
  unfold Oper.wp execOp
  simp only [ho, Sem.run_bind, Sem.run_pure, Result.andThen_ok, hx, hl]
  exact hK _ _ h
end Go.Own
namespace Go.Proofs.Ytbggnbahmdgbdaa
open Go.RowKit Go.Own Go.Sl
/-- The flat fields of a sector's inodes: the root first, or none. -/
def ics (k l : Int) : Array Value := (Value.int .i64 k :: Value.int .i64 l :: List.replicate 42 (Value.int .i64 0)).toArray
theorem load44 (C : Array Value) (hs : C.size = 44) (g : Nat) (w : World) (h : ∀ i, w.cell? ⟨g, i, none⟩ = C[i]?) : (Instr.loadAt 66 (.pointer (some ⟨g, 0, none⟩))).run Try.prog w = .ok (.agg C) w := by
  have e := run_loadCells_list (P := Try.prog) w ⟨g, 0, none⟩ C.toList (fun j v hj => by rw [add_plain, Nat.zero_add, h j]; simpa using hj)
  simp only [Array.length_toList, hs, Array.toArray_toList] at e
  simp [Instr.loadAt, Instr.sureAddr, loadVar, e]
set_option maxRecDepth 100000 in
theorem index44 (k l : Int) (j : Nat) (hj : j < 4) (w : World) : (Instr.index 66 (.agg (ics k l)) (.int .i64 (j : Int))).run Try.prog w = .ok (if j = 0 then ino k l else ino 0 0) w := by
  have : j = 0 ∨ j = 1 ∨ j = 2 ∨ j = 3 := by omega
  have e : ∀ (n : Nat) (xs : List Value), ((ics k l).toList.drop n).take 11 = xs → (ics k l).extract n (n + 11) = xs.toArray := fun n xs h => by
    apply Array.toList_inj.1
    rw [Array.toList_extract, List.extract_eq_take_drop, Nat.add_sub_cancel_left, h]
  rcases this with rfl | rfl | rfl | rfl
  · have h := e 0 [.int .i64 k, .int .i64 l, .int .i64 0, .int .i64 0, .int .i64 0, .int .i64 0, .int .i64 0, .int .i64 0, .int .i64 0, .int .i64 0, .int .i64 0] rfl
    generalize ics k l = C at *
    simp [Instr.index, asIntOf, part] at h ⊢
    rw [h]
    rfl
  · have h := e 11 [.int .i64 0, .int .i64 0, .int .i64 0, .int .i64 0, .int .i64 0, .int .i64 0, .int .i64 0, .int .i64 0, .int .i64 0, .int .i64 0, .int .i64 0] rfl
    generalize ics k l = C at *
    simp [Instr.index, asIntOf, part] at h ⊢
    rw [h]
    rfl
  · have h := e 22 [.int .i64 0, .int .i64 0, .int .i64 0, .int .i64 0, .int .i64 0, .int .i64 0, .int .i64 0, .int .i64 0, .int .i64 0, .int .i64 0, .int .i64 0] rfl
    generalize ics k l = C at *
    simp [Instr.index, asIntOf, part] at h ⊢
    rw [h]
    rfl
  · have h := e 33 [.int .i64 0, .int .i64 0, .int .i64 0, .int .i64 0, .int .i64 0, .int .i64 0, .int .i64 0, .int .i64 0, .int .i64 0, .int .i64 0, .int .i64 0] rfl
    generalize ics k l = C at *
    simp [Instr.index, asIntOf, part] at h ⊢
    rw [h]
    rfl
def iwhich (k l : Int) (j : Nat) : Value := if j = 0 then ino k l else ino 0 0
/-- The inodes that are laid here: a free one, the root. -/
def InoOK (k l : Int) : Prop := (k = 0 ∧ l = 0) ∨ (k = 2 ∧ l = 1)
theorem iMayX (k l : Int) (h : InoOK k l) (w : World) (L : List HP) (hO : Has w L) : Calls Try.prog 61 #[ino k l] w fun e w' => e = .returned (.bool true) ∧ Has w' L ∧ Keep w w' := by
  rcases h with ⟨rfl, rfl⟩ | ⟨rfl, rfl⟩
  · exact iMay0 w L hO
  · exact iMay1 w L hO
def bodyB (k l : Int) (j : Nat) : List Int := if j = 0 then [] else inoB k l ++ zs (23 * (j - 1))
theorem inoB0 : inoB 0 0 = zs 23 := by decide
theorem bodyB_next (k l : Int) (hk : InoOK k l) (j : Nat) : ∃ k' l', iwhich k l j = ino k' l' ∧ InoOK k' l' ∧ bodyB k l j ++ inoB k' l' = bodyB k l (j + 1) := by
  rcases j with _ | j
  · exact ⟨k, l, rfl, hk, by simp [bodyB, zs]⟩
  · refine ⟨0, 0, rfl, .inl ⟨rfl, rfl⟩, ?_⟩
    rw [inoB0]
    simp only [bodyB, Nat.add_one_ne_zero, if_false, List.append_assoc, zs_app, Nat.add_sub_cancel]
    congr 2
theorem inoB_len (k l : Int) : (inoB k l).length = 23 := by simp [inoB, fixL_len, zs]
theorem bodyB_len (k l : Int) (j : Nat) : (bodyB k l j).length = 23 * j := by
  rcases j with _ | j
  · rfl
  · simp [bodyB, inoB_len, zs]; omega
theorem ics_size (k l : Int) : (ics k l).size = 44 := by simp [ics]
set_option maxRecDepth 100000 in
set_option maxHeartbeats 800000 in
theorem iLay (k l : Int) (hkl : InoOK k l) (w : World) (L : List HP) (hO : Has w L) :
    Calls Try.prog 38 #[.agg (ics k l)] w fun e w' => ∃ v', e = .returned (.tuple #[v', .int .i64 0]) ∧ Has w' (Bytes v' (sealL 73 (inoB k l ++ zs 69)) :: L) ∧ Keep w w' := by
  have HKL := hid hkl
  clear hkl
  have HIX : Hid (∀ (j : Nat) (w : World), j < 4 → (Instr.index 66 (.agg (ics k l)) (.int .i64 (j : Int))).run Try.prog w = .ok (iwhich k l j) w) := hid fun j w h => index44 k l j h w
  have HSZ := hid (ics_size k l)
  generalize ics k l = C at *
  have HO := hid (hO.alloc (.cells C 66))
  have HK := hid ((Keep.refl w).alloc (.cells C 66))
  clear hO
  go_enter Try.func38, Try.ntmps38
  go_wp2_with (with_reducible refine wpList_loadAll rfl 66 _ rfl (.pointer (some ⟨w.heap.size, 0, none⟩)) (.agg C) rfl (load44 C HSZ.out w.heap.size (w.alloc (.cells C 66)) HO.out.cells) ?_)
  have HO0 := hid (HO.out.drop.row_nil 5 1)
  clear HO
  go_loopw [4, 8] (fun s i w' => ∃ j : Nat, j ≤ 4 ∧ i = .int .i64 j ∧ Hid (Has w' (Bytes s (bodyB k l j) :: L)) ∧ Hid (Keep w w')) (fun _ i _ => 4 - (intOf i).toNat)
  case atStart => exact ⟨0, by omega, rfl, HO0, HK⟩
  case round =>
    clear HO0 HK
    obtain ⟨j, hj, rfl, HO, HK⟩ := hrel
    by_cases hlt : j < 4
    · have hji : (j : Int) < 4 := by omega
      obtain ⟨k', l', e1, e2, e3⟩ := bodyB_next k l HKL.out j
      have hq := fun w => HIX.out j w hlt
      rw [e1] at hq
      have HB := hid e3
      have HI := hid e2
      clear e1 e2 e3
      unfold ino at hq
      have HA := hid (HO.out.alloc (.cells (icell k' l') 65))
      have HKA := hid (HK.out.alloc (.cells (icell k' l') 65))
      clear HO HK
      go_wp2_with fail
      refine (iMayX k' l' HI.out _ _ HA.out).mono ?_
      rintro e w6 ⟨rfl, hO6, hK6⟩
      have HO6 := hid hO6
      have HK6 := hid ((HKA.out).trans hK6)
      clear hO6 hK6
      try dsimp only
      clear hq HA HKA
      have hc := HO6.out.cells
      generalize wr.heap.size = g at *
      unfold icell at hc
      go_wp2_with fail
      refine (iLaid k' l' _ _ HO6.out).mono ?_
      rintro e w7 ⟨v7, rfl, hO7, hK7⟩
      have HO7 := hid hO7
      have HK7 := hid ((HK6.out).trans hK7)
      clear hO7 hK7
      try dsimp only
      obtain ⟨p4, c4, rfl, -⟩ := (Bytes.rd HO7.out.p2).form
      obtain ⟨p7, c7, rfl, -⟩ := (Bytes.rd HO7.out).form
      go_wp2_with (at_builtin; refine wpList_appendA rfl _ _ _ rfl Try.underlying35 infoU8 rfl (by decide) HO7.out.p2 rfl _ (inoB k' l').length (bc (inoB k' l')) rfl (Bytes.rd HO7.out) (bc_one _) (le_maxLen (by rw [bodyB_len, inoB_len]; omega)) (by rw [bodyB_len, inoB_len]; omega) ?_)
      intro v8 w8 h8 hk8
      have HO8 := hid (show Has w8 (Bytes v8 (bodyB k l (j + 1)) :: L) from by
        have h := h8.re 3 [0]
        rw [← HB.out]
        unfold Bytes
        rw [List.length_append, show bc (bodyB k l j ++ inoB k' l') = bc (bodyB k l j) ++ bc (inoB k' l') by simp [bc]]
        exact h)
      have HK8 := hid (HK7.out.trans hk8)
      clear h8 hk8 HO7 HK7 HO6 HK6
      go_wp2_with fail
      exact ⟨⟨j + 1, by omega, by go_num, HO8, HK8⟩, by simp [intOf]; omega⟩
    · obtain rfl : j = 4 := by omega
      clear hlt hj
      rw [show ((4 : Nat) : Int) = 4 from rfl]
      go_wp2_with fail
      refine (sSeal 73 u4 (bodyB k l 4) wr _ (by decide) (by rw [bodyB_len]; decide) (fun w' h => Bytes.rd h) HO.out).mono ?_
      rintro e w5 ⟨v5, rfl, hO5, hK5⟩
      have HO5 := hid hO5
      have HK5 := hid ((HK.out).trans hK5)
      clear hO5 hK5
      try dsimp only
      go_wp2_with fail
      go_ret2
      exact ⟨v5, rfl, HO5.out.p1.drop, HK5.out⟩
end Go.Proofs.Ytbggnbahmdgbdaa
