/- THE WALK of chapter 4's 'done': one act of both disks. -/
import Derived.Test.YtbcilhcmjkgkgaaRdskk
namespace Go.Proofs.Ytbcilhcmjkgkgaa
open Go.RowKit Go.Own Go.Dk
/-- The act, as it is handed over. -/
def actV (do_ at_ n : Int) (short : Bool) (kp : Option Addr) (kl kc : Nat) : Value := .agg #[.int .i64 do_, .int .i64 at_, .int .i64 n, .bool short, .slice kp kl kc]
def DoneP (d c : Nat) (E : Bk) (L : List HP) (w : World) (e : Ending) (w' : World) : Prop := e = .returned (.bool true) ∧ Has w' (Dk d E :: RDk c E :: L) ∧ Keep w w'
theorem fillLit (n : Int) (sz : Nat) (z : Int) (hz : z = (sz : Int)) (W : World) (L : List HP) (hO : Has W L) (hs : sz ≤ 30000) :
    Calls Try.prog 12 #[.int .i64 n, .int .i64 z] W fun e w' => ∃ v, e = .returned v ∧ Has w' (Bytes v (fill n sz) :: L) ∧ Keep W w' := by
  subst hz
  exact fillAny n sz W L hO hs
section
variable (d c : Nat) (E : Bk) (k : Nat) (at_ n : Int) (short : Bool) (kp : Option Addr) (kl kc : Nat) (keep : List Bool) (w : World) (L : List HP) (hB : Bd E k) (hk : k ≤ 1000) (hn : n ≤ 9223372036854775807) (hkl : keep.length ≤ 1000) (hL : ∀ w', Has w' L → Rd w' (.slice kp kl kc) 1 keep.length (keep.map Value.bool)) (hO : Has w (Dk d E :: RDk c E :: L))
omit hB hk hn hkl hL hO in
theorem doneRead (hB : Bd E k) (hk : k ≤ 1000) (hO : Has w (Dk d E :: RDk c E :: L)) : Calls Try.prog 28 #[.pointer (some ⟨d, 0, none⟩), .pointer (some ⟨c, 0, none⟩), actV 0 at_ n short kp kl kc] w (DoneP d c E L w) := by
  have HO := hid (hO.alloc (.cells #[.int .i64 0, .int .i64 at_, .int .i64 n, .bool short, .slice kp kl kc] 52))
  have HK := hid ((Keep.refl w).alloc (.cells #[.int .i64 0, .int .i64 at_, .int .i64 n, .bool short, .slice kp kl kc] 52))
  have HB := hid hB
  clear hB
  have HL := hid hO
  clear hO
  unfold actV
  go_enter Try.func28, Try.ntmps28
  go_upto_region 1 with fail
  generalize w.heap.size = b at *
  generalize w.alloc (.cells #[.int .i64 0, .int .i64 at_, .int .i64 n, .bool short, .slice kp kl kc] 52) = w1 at *
  have hc0 : w1.cell? ⟨b, 0, none⟩ = some (.int .i64 0) := HO.out.cells 0
  have hc1 : w1.cell? ⟨b, 1, none⟩ = some (.int .i64 at_) := HO.out.cells 1
  have hc2 : w1.cell? ⟨b, 2, none⟩ = some (.int .i64 n) := HO.out.cells 2
  have hc3 : w1.cell? ⟨b, 3, none⟩ = some (.bool short) := HO.out.cells 3
  have hc4 : w1.cell? ⟨b, 4, none⟩ = some (.slice kp kl kc) := HO.out.cells 4
  have ht : ((E.read at_).1 == (E.read at_).1) = true := by simp
  have XL := hid (rkLen c E w _ HL.out.p1 at_)
  go_wp2_with fail
  refine (kRead d E w1 _ HO.out.p1 at_ (by have := HB.out.waits; omega)).mono ?_
  rintro e w2 ⟨v2, rfl, hO2, hK2⟩
  have HO2 := hid hO2
  have HK2 := hid ((HK.out).trans hK2)
  clear hO2 hK2
  try dsimp only
  have hc1 : w2.cell? ⟨b, 1, none⟩ = some (.int .i64 at_) := HO2.out.p2.cells 1
  go_wp2_with fail
  refine (rkRead c E w2 _ HO2.out.p3 at_ (by have := HB.out.waits; omega)).mono ?_
  rintro e w3 ⟨v3, rfl, hO3, hK3⟩
  have HO3 := hid hO3
  have HK3 := hid ((HK2.out).trans hK3)
  clear hO3 hK3
  try dsimp only
  go_wp2_with fail
  refine (sameBytesYes v2 v3 (E.read at_).2 w3 (Bytes.rd HO3.out.p2) (Bytes.rd HO3.out)).mono ?_
  rintro e w' ⟨rfl, nq4, rfl⟩
  have HO4 := hid ((HO3.out).drewN nq4)
  have HK4 := hid ((HK3.out).drewN nq4)
  try dsimp only
  generalize w3.drewN nq4 = w4 at *
  go_wp2_with fail
  refine (overBytes v2 (E.read at_).2 w4 _ HO4.out.p2 (by have := XL.out; omega)).mono ?_
  rintro e w5 ⟨rfl, hO5, hK5⟩
  have HO5 := hid hO5
  have HK5 := hid ((HK4.out).trans hK5)
  clear hO5 hK5
  try dsimp only
  go_wp2_with fail
  go_ret
  exact ⟨rfl, HO5.out.re 4 [2, 1], HK5.out⟩
omit hB hk hn hkl hL hO in
theorem doneWrite (hB : Bd E k) (hk : k ≤ 1000) (hs : short = false) (hO : Has w (Dk d E :: RDk c E :: L)) : Calls Try.prog 28 #[.pointer (some ⟨d, 0, none⟩), .pointer (some ⟨c, 0, none⟩), actV 1 at_ n short kp kl kc] w (DoneP d c (E.write at_ (fill n 128)).2 L w) := by
  subst hs
  have HO := hid (hO.alloc (.cells #[.int .i64 1, .int .i64 at_, .int .i64 n, .bool false, .slice kp kl kc] 52))
  have HK := hid ((Keep.refl w).alloc (.cells #[.int .i64 1, .int .i64 at_, .int .i64 n, .bool false, .slice kp kl kc] 52))
  have HB := hid hB
  clear hB
  have HL := hid hO
  clear hO
  unfold actV
  go_enter Try.func28, Try.ntmps28
  go_upto_region 1 with fail
  generalize w.heap.size = b at *
  generalize w.alloc (.cells #[.int .i64 1, .int .i64 at_, .int .i64 n, .bool false, .slice kp kl kc] 52) = w1 at *
  have hc0 : w1.cell? ⟨b, 0, none⟩ = some (.int .i64 1) := HO.out.cells 0
  have hc1 : w1.cell? ⟨b, 1, none⟩ = some (.int .i64 at_) := HO.out.cells 1
  have hc2 : w1.cell? ⟨b, 2, none⟩ = some (.int .i64 n) := HO.out.cells 2
  have hc3 : w1.cell? ⟨b, 3, none⟩ = some (.bool false) := HO.out.cells 3
  have hc4 : w1.cell? ⟨b, 4, none⟩ = some (.slice kp kl kc) := HO.out.cells 4
  have XL := hid (show (fill n 128).length = 128 from fill_len n 128)
  go_wp2_with fail
  refine (fillLit n 128 128 rfl w1 _ HO.out (by omega)).mono ?_
  rintro e w2 ⟨v2, rfl, hO2, hK2⟩
  have HO2 := hid hO2
  have HK2 := hid (HK.out.trans hK2)
  clear hO2 hK2
  try dsimp only
  go_wp2_with fail
  refine (lendBytes v2 (fill n 128) w2 _ HO2.out (Bytes.rd HO2.out) (by have := XL.out; omega)).mono ?_
  rintro e w3 ⟨v3, rfl, hO3, hK3⟩
  have HO3 := hid hO3
  have HK3 := hid ((HK2.out).trans hK3)
  clear hO3 hK3
  try dsimp only
  have hc1 : w3.cell? ⟨b, 1, none⟩ = some (.int .i64 at_) := HO3.out.p2.cells 1
  go_wp2_with fail
  refine (kWrite d E w3 _ HO3.out.p3 at_ v3 (fill n 128) (by have := HB.out.waits; omega) (by have := HB.out.writes; omega) (fun w' h => Lent.rd h (by have := XL.out; omega))).mono ?_
  rintro e w4 ⟨rfl, hO4, hK4⟩
  have HO4 := hid hO4
  have HK4 := hid ((HK3.out).trans hK4)
  clear hO4 hK4
  try dsimp only
  have hc2 : w4.cell? ⟨b, 2, none⟩ = some (.int .i64 n) := HO4.out.p3.cells 2
  go_wp2_with fail
  refine (fillLit n 128 128 rfl w4 _ HO4.out (by omega)).mono ?_
  rintro e w5 ⟨v5, rfl, hO5, hK5⟩
  have HO5 := hid hO5
  have HK5 := hid (HK4.out.trans hK5)
  clear hO5 hK5
  try dsimp only
  go_wp2_with fail
  refine (keptBytes v3 v5 (fill n 128) (fill n 128) w5 _ (by have := XL.out; omega) HO5.out.p2 (Bytes.rd HO5.out)).mono ?_
  rintro e w' ⟨rfl, nq6, rfl⟩
  have HO6 := hid ((HO5.out).drewN nq6)
  have HK6 := hid ((HK5.out).drewN nq6)
  try dsimp only
  simp only [decide_true]
  generalize w5.drewN nq6 = w6 at *
  go_wp2_with fail
  refine (overBytes v3 (fill n 128) w6 _ (Lent.bytes HO6.out.p2 (by have := XL.out; omega)) (by have := XL.out; omega)).mono ?_
  rintro e w7 ⟨rfl, hO7, hK7⟩
  have HO7 := hid hO7
  have HK7 := hid ((HK6.out).trans hK7)
  clear hO7 hK7
  try dsimp only
  have HR := hid (show (Bd E k) from HB.out)
  clear HO HK HO2 HK2 HO3 HK3 HO4 HK4 HO5 HK5 HO6 HK6 hc0 hc1 hc2 hc3 hc4
  have ht : ((E.write at_ (fill n 128)).1 == (E.write at_ (fill n 128)).1) = true := by simp
  go_wp2_with fail
  refine region_text (fun w => w.cell? ⟨b, 1, none⟩ = some (.int .i64 at_) ∧ w.cell? ⟨b, 2, none⟩ = some (.int .i64 n)) (by kernel_rfl) (by kernel_rfl) ⟨HO7.out.drew.p3.cells 1, HO7.out.drew.p3.cells 2⟩ ?_
  repeat (first
    | (refine wpL_read (by rfl) (by rfl) ?_ ?_ ?_; rotate_left; (rintro w ⟨hS, hS1⟩; go_simp; with_reducible rfl); simp only [Act.put, List.setIfInBounds_toArray, List.set_cons_zero, List.set_cons_succ])
    | (refine wpL_skip (by rfl) ?_; simp only [Act.put, List.setIfInBounds_toArray, List.set_cons_zero, List.set_cons_succ]))
  refine wpL_act (by rfl) (by rfl) (fun K hK => ?_)
  go_simp
  refine (fillLit n 128 128 rfl _ _ HO7.out.drew (by omega)).mono ?_
  rintro e w8 ⟨v8, rfl, hO8, hK8⟩
  have HO8 := hid hO8
  have HK8 := hid (HK7.out.drew.trans hK8)
  clear hO8 hK8
  try dsimp only
  refine hK.out _ _ ⟨HO8.out.p4.cells 1, HO8.out.p4.cells 2⟩ ?_
  clear hK K
  try simp only [Act.put, List.setIfInBounds_toArray, List.set_cons_zero, List.set_cons_succ]
  repeat (first
    | (refine wpL_read (by rfl) (by rfl) ?_ ?_ ?_; rotate_left; (rintro w ⟨hS, hS1⟩; go_simp; with_reducible rfl); simp only [Act.put, List.setIfInBounds_toArray, List.set_cons_zero, List.set_cons_succ])
    | (refine wpL_skip (by rfl) ?_; simp only [Act.put, List.setIfInBounds_toArray, List.set_cons_zero, List.set_cons_succ]))
  refine wpL_act (by rfl) (by rfl) (fun K hK => ?_)
  go_simp
  refine (rkWrite c E w8 _ HO8.out.p5 at_ v8 (fill n 128) (by have := HB.out.waits; omega) (by have := HB.out.writes; omega) (fun w' h => Bytes.rd h)).mono ?_
  rintro e w9 ⟨rfl, hO9, hK9⟩
  have HO9 := hid hO9
  have HK9 := hid ((HK8.out).trans hK9)
  clear hO9 hK9
  try dsimp only
  refine hK.out _ _ (⟨HO9.out.p5.cells 1, HO9.out.p5.cells 2⟩) ?_
  clear hK K
  try simp only [Act.put, List.setIfInBounds_toArray, List.set_cons_zero, List.set_cons_succ]
  repeat (first
    | (refine wpL_read (by rfl) (by rfl) ?_ ?_ ?_; rotate_left; (rintro w ⟨hS, hS1⟩; go_simp; with_reducible rfl); simp only [Act.put, List.setIfInBounds_toArray, List.set_cons_zero, List.set_cons_succ])
    | (refine wpL_skip (by rfl) ?_; simp only [Act.put, List.setIfInBounds_toArray, List.set_cons_zero, List.set_cons_succ]))
  refine wpL_nil ?_
  go_wp2_with fail
  go_ret
  exact ⟨rfl, HO9.out.re 6 [3, 0], HK9.out⟩
omit hB hk hn hkl hL hO in
theorem doneWriteS (hB : Bd E k) (hk : k ≤ 1000) (hs : short = true) (hO : Has w (Dk d E :: RDk c E :: L)) : Calls Try.prog 28 #[.pointer (some ⟨d, 0, none⟩), .pointer (some ⟨c, 0, none⟩), actV 1 at_ n short kp kl kc] w (DoneP d c (E.write at_ (fill n 127)).2 L w) := by
  subst hs
  have HO := hid (hO.alloc (.cells #[.int .i64 1, .int .i64 at_, .int .i64 n, .bool true, .slice kp kl kc] 52))
  have HK := hid ((Keep.refl w).alloc (.cells #[.int .i64 1, .int .i64 at_, .int .i64 n, .bool true, .slice kp kl kc] 52))
  have HB := hid hB
  clear hB
  have HL := hid hO
  clear hO
  unfold actV
  go_enter Try.func28, Try.ntmps28
  go_upto_region 1 with fail
  generalize w.heap.size = b at *
  generalize w.alloc (.cells #[.int .i64 1, .int .i64 at_, .int .i64 n, .bool true, .slice kp kl kc] 52) = w1 at *
  have hc0 : w1.cell? ⟨b, 0, none⟩ = some (.int .i64 1) := HO.out.cells 0
  have hc1 : w1.cell? ⟨b, 1, none⟩ = some (.int .i64 at_) := HO.out.cells 1
  have hc2 : w1.cell? ⟨b, 2, none⟩ = some (.int .i64 n) := HO.out.cells 2
  have hc3 : w1.cell? ⟨b, 3, none⟩ = some (.bool true) := HO.out.cells 3
  have hc4 : w1.cell? ⟨b, 4, none⟩ = some (.slice kp kl kc) := HO.out.cells 4
  have XL := hid (show (fill n 127).length = 127 from fill_len n 127)
  go_wp2_with fail
  refine (fillLit n 127 127 rfl w1 _ HO.out (by omega)).mono ?_
  rintro e w2 ⟨v2, rfl, hO2, hK2⟩
  have HO2 := hid hO2
  have HK2 := hid (HK.out.trans hK2)
  clear hO2 hK2
  try dsimp only
  go_wp2_with fail
  refine (lendBytes v2 (fill n 127) w2 _ HO2.out (Bytes.rd HO2.out) (by have := XL.out; omega)).mono ?_
  rintro e w3 ⟨v3, rfl, hO3, hK3⟩
  have HO3 := hid hO3
  have HK3 := hid ((HK2.out).trans hK3)
  clear hO3 hK3
  try dsimp only
  have hc1 : w3.cell? ⟨b, 1, none⟩ = some (.int .i64 at_) := HO3.out.p2.cells 1
  go_wp2_with fail
  refine (kWrite d E w3 _ HO3.out.p3 at_ v3 (fill n 127) (by have := HB.out.waits; omega) (by have := HB.out.writes; omega) (fun w' h => Lent.rd h (by have := XL.out; omega))).mono ?_
  rintro e w4 ⟨rfl, hO4, hK4⟩
  have HO4 := hid hO4
  have HK4 := hid ((HK3.out).trans hK4)
  clear hO4 hK4
  try dsimp only
  have hc2 : w4.cell? ⟨b, 2, none⟩ = some (.int .i64 n) := HO4.out.p3.cells 2
  go_wp2_with fail
  refine (fillLit n 127 127 rfl w4 _ HO4.out (by omega)).mono ?_
  rintro e w5 ⟨v5, rfl, hO5, hK5⟩
  have HO5 := hid hO5
  have HK5 := hid (HK4.out.trans hK5)
  clear hO5 hK5
  try dsimp only
  go_wp2_with fail
  refine (keptBytes v3 v5 (fill n 127) (fill n 127) w5 _ (by have := XL.out; omega) HO5.out.p2 (Bytes.rd HO5.out)).mono ?_
  rintro e w' ⟨rfl, nq6, rfl⟩
  have HO6 := hid ((HO5.out).drewN nq6)
  have HK6 := hid ((HK5.out).drewN nq6)
  try dsimp only
  simp only [decide_true]
  generalize w5.drewN nq6 = w6 at *
  go_wp2_with fail
  refine (overBytes v3 (fill n 127) w6 _ (Lent.bytes HO6.out.p2 (by have := XL.out; omega)) (by have := XL.out; omega)).mono ?_
  rintro e w7 ⟨rfl, hO7, hK7⟩
  have HO7 := hid hO7
  have HK7 := hid ((HK6.out).trans hK7)
  clear hO7 hK7
  try dsimp only
  have HR := hid (show (Bd E k) from HB.out)
  clear HO HK HO2 HK2 HO3 HK3 HO4 HK4 HO5 HK5 HO6 HK6 hc0 hc1 hc2 hc3 hc4
  have ht : ((E.write at_ (fill n 127)).1 == (E.write at_ (fill n 127)).1) = true := by simp
  go_wp2_with fail
  refine region_text (fun w => w.cell? ⟨b, 1, none⟩ = some (.int .i64 at_) ∧ w.cell? ⟨b, 2, none⟩ = some (.int .i64 n)) (by kernel_rfl) (by kernel_rfl) ⟨HO7.out.drew.p3.cells 1, HO7.out.drew.p3.cells 2⟩ ?_
  repeat (first
    | (refine wpL_read (by rfl) (by rfl) ?_ ?_ ?_; rotate_left; (rintro w ⟨hS, hS1⟩; go_simp; with_reducible rfl); simp only [Act.put, List.setIfInBounds_toArray, List.set_cons_zero, List.set_cons_succ])
    | (refine wpL_skip (by rfl) ?_; simp only [Act.put, List.setIfInBounds_toArray, List.set_cons_zero, List.set_cons_succ]))
  refine wpL_act (by rfl) (by rfl) (fun K hK => ?_)
  go_simp
  refine (fillLit n 127 127 rfl _ _ HO7.out.drew (by omega)).mono ?_
  rintro e w8 ⟨v8, rfl, hO8, hK8⟩
  have HO8 := hid hO8
  have HK8 := hid (HK7.out.drew.trans hK8)
  clear hO8 hK8
  try dsimp only
  refine hK.out _ _ ⟨HO8.out.p4.cells 1, HO8.out.p4.cells 2⟩ ?_
  clear hK K
  try simp only [Act.put, List.setIfInBounds_toArray, List.set_cons_zero, List.set_cons_succ]
  repeat (first
    | (refine wpL_read (by rfl) (by rfl) ?_ ?_ ?_; rotate_left; (rintro w ⟨hS, hS1⟩; go_simp; with_reducible rfl); simp only [Act.put, List.setIfInBounds_toArray, List.set_cons_zero, List.set_cons_succ])
    | (refine wpL_skip (by rfl) ?_; simp only [Act.put, List.setIfInBounds_toArray, List.set_cons_zero, List.set_cons_succ]))
  refine wpL_act (by rfl) (by rfl) (fun K hK => ?_)
  go_simp
  refine (rkWrite c E w8 _ HO8.out.p5 at_ v8 (fill n 127) (by have := HB.out.waits; omega) (by have := HB.out.writes; omega) (fun w' h => Bytes.rd h)).mono ?_
  rintro e w9 ⟨rfl, hO9, hK9⟩
  have HO9 := hid hO9
  have HK9 := hid ((HK8.out).trans hK9)
  clear hO9 hK9
  try dsimp only
  refine hK.out _ _ (⟨HO9.out.p5.cells 1, HO9.out.p5.cells 2⟩) ?_
  clear hK K
  try simp only [Act.put, List.setIfInBounds_toArray, List.set_cons_zero, List.set_cons_succ]
  repeat (first
    | (refine wpL_read (by rfl) (by rfl) ?_ ?_ ?_; rotate_left; (rintro w ⟨hS, hS1⟩; go_simp; with_reducible rfl); simp only [Act.put, List.setIfInBounds_toArray, List.set_cons_zero, List.set_cons_succ])
    | (refine wpL_skip (by rfl) ?_; simp only [Act.put, List.setIfInBounds_toArray, List.set_cons_zero, List.set_cons_succ]))
  refine wpL_nil ?_
  go_wp2_with fail
  go_ret
  exact ⟨rfl, HO9.out.re 6 [3, 0], HK9.out⟩
omit hB hk hn hkl hL hO in
theorem doneFlush (hB : Bd E k) (hk : k ≤ 1000) (hO : Has w (Dk d E :: RDk c E :: L)) : Calls Try.prog 28 #[.pointer (some ⟨d, 0, none⟩), .pointer (some ⟨c, 0, none⟩), actV 2 at_ n short kp kl kc] w (DoneP d c E.flush.2 L w) := by
  have HO := hid (hO.alloc (.cells #[.int .i64 2, .int .i64 at_, .int .i64 n, .bool short, .slice kp kl kc] 52))
  have HK := hid ((Keep.refl w).alloc (.cells #[.int .i64 2, .int .i64 at_, .int .i64 n, .bool short, .slice kp kl kc] 52))
  have HB := hid hB
  clear hB
  have HL := hid hO
  clear hO
  unfold actV
  go_enter Try.func28, Try.ntmps28
  go_upto_region 1 with fail
  generalize w.heap.size = b at *
  generalize w.alloc (.cells #[.int .i64 2, .int .i64 at_, .int .i64 n, .bool short, .slice kp kl kc] 52) = w1 at *
  have hc0 : w1.cell? ⟨b, 0, none⟩ = some (.int .i64 2) := HO.out.cells 0
  have hc1 : w1.cell? ⟨b, 1, none⟩ = some (.int .i64 at_) := HO.out.cells 1
  have hc2 : w1.cell? ⟨b, 2, none⟩ = some (.int .i64 n) := HO.out.cells 2
  have hc3 : w1.cell? ⟨b, 3, none⟩ = some (.bool short) := HO.out.cells 3
  have hc4 : w1.cell? ⟨b, 4, none⟩ = some (.slice kp kl kc) := HO.out.cells 4
  have ht : (E.flush.1 == E.flush.1) = true := by simp
  go_wp2_with fail
  refine (kFlush d E w1 _ HO.out.p1 (by have := HB.out.flushes; omega) (by have := HB.out.flushes; omega)).mono ?_
  rintro e w2 ⟨rfl, hO2, hK2⟩
  have HO2 := hid hO2
  have HK2 := hid ((HK.out).trans hK2)
  clear hO2 hK2
  try dsimp only
  go_wp2_with fail
  refine (rkFlush c E w2 _ HO2.out.p2 (by have := HB.out.flushes; omega) (by have := HB.out.flushes; omega)).mono ?_
  rintro e w3 ⟨rfl, hO3, hK3⟩
  have HO3 := hid hO3
  have HK3 := hid ((HK2.out).trans hK3)
  clear hO3 hK3
  try dsimp only
  go_wp2_with fail
  go_ret
  exact ⟨rfl, HO3.out.re 3 [1, 0], HK3.out⟩
omit hB hk hn hkl hL hO in
theorem doneArm (hB : Bd E k) (hk : k ≤ 1000) (hn : n ≤ 9223372036854775807) (hkl : keep.length ≤ 1000) (hL : ∀ w', Has w' L → Rd w' (.slice kp kl kc) 1 keep.length (keep.map Value.bool)) (hO : Has w (Dk d E :: RDk c E :: L)) : Calls Try.prog 28 #[.pointer (some ⟨d, 0, none⟩), .pointer (some ⟨c, 0, none⟩), actV 3 at_ n short kp kl kc] w (DoneP d c (E.arm n keep).2 L w) := by
  have HO := hid (hO.alloc (.cells #[.int .i64 3, .int .i64 at_, .int .i64 n, .bool short, .slice kp kl kc] 52))
  have HK := hid ((Keep.refl w).alloc (.cells #[.int .i64 3, .int .i64 at_, .int .i64 n, .bool short, .slice kp kl kc] 52))
  have HB := hid hB
  clear hB
  have HL := hid hO
  clear hO
  unfold actV
  go_enter Try.func28, Try.ntmps28
  go_upto_region 1 with fail
  generalize w.heap.size = b at *
  generalize w.alloc (.cells #[.int .i64 3, .int .i64 at_, .int .i64 n, .bool short, .slice kp kl kc] 52) = w1 at *
  have hc0 : w1.cell? ⟨b, 0, none⟩ = some (.int .i64 3) := HO.out.cells 0
  have hc1 : w1.cell? ⟨b, 1, none⟩ = some (.int .i64 at_) := HO.out.cells 1
  have hc2 : w1.cell? ⟨b, 2, none⟩ = some (.int .i64 n) := HO.out.cells 2
  have hc3 : w1.cell? ⟨b, 3, none⟩ = some (.bool short) := HO.out.cells 3
  have hc4 : w1.cell? ⟨b, 4, none⟩ = some (.slice kp kl kc) := HO.out.cells 4
  have HLL := hid hL
  clear hL
  have ht : ((E.arm n keep).1 == (E.arm n keep).1) = true := by simp
  go_wp2_with fail
  refine region_text (fun w => w.cell? ⟨b, 2, none⟩ = some (.int .i64 n) ∧ w.cell? ⟨b, 4, none⟩ = some (.slice kp kl kc)) (by kernel_rfl) (by kernel_rfl) ⟨HO.out.drew.cells 2, HO.out.drew.cells 4⟩ ?_
  repeat (first
    | (refine wpL_read (by rfl) (by rfl) ?_ ?_ ?_; rotate_left; (rintro w ⟨hS, hS1⟩; go_simp; with_reducible rfl); simp only [Act.put, List.setIfInBounds_toArray, List.set_cons_zero, List.set_cons_succ])
    | (refine wpL_skip (by rfl) ?_; simp only [Act.put, List.setIfInBounds_toArray, List.set_cons_zero, List.set_cons_succ]))
  refine wpL_act (by rfl) (by rfl) (fun K hK => ?_)
  go_simp
  refine (kArm d E _ _ HO.out.drew.p1 n (.slice kp kl kc) keep hn (HLL.out _ HO.out.drew.drop.drop.drop) (by omega)).mono ?_
  rintro e w2 ⟨rfl, hO2, hK2⟩
  have HO2 := hid hO2
  have HK2 := hid ((HK.out.drew).trans hK2)
  clear hO2 hK2
  try dsimp only
  refine hK.out _ _ (⟨HO2.out.p1.cells 2, HO2.out.p1.cells 4⟩) ?_
  clear hK K
  try simp only [Act.put, List.setIfInBounds_toArray, List.set_cons_zero, List.set_cons_succ]
  repeat (first
    | (refine wpL_read (by rfl) (by rfl) ?_ ?_ ?_; rotate_left; (rintro w ⟨hS, hS1⟩; go_simp; with_reducible rfl); simp only [Act.put, List.setIfInBounds_toArray, List.set_cons_zero, List.set_cons_succ])
    | (refine wpL_skip (by rfl) ?_; simp only [Act.put, List.setIfInBounds_toArray, List.set_cons_zero, List.set_cons_succ]))
  refine wpL_act (by rfl) (by rfl) (fun K hK => ?_)
  go_simp
  refine (rkArm c E _ _ HO2.out.p2 n (.slice kp kl kc) keep hn (HLL.out _ HO2.out.drop.drop.drop) (by omega)).mono ?_
  rintro e w3 ⟨rfl, hO3, hK3⟩
  have HO3 := hid hO3
  have HK3 := hid ((HK2.out).trans hK3)
  clear hO3 hK3
  try dsimp only
  refine hK.out _ _ (⟨HO3.out.p2.cells 2, HO3.out.p2.cells 4⟩) ?_
  clear hK K
  try simp only [Act.put, List.setIfInBounds_toArray, List.set_cons_zero, List.set_cons_succ]
  repeat (first
    | (refine wpL_read (by rfl) (by rfl) ?_ ?_ ?_; rotate_left; (rintro w ⟨hS, hS1⟩; go_simp; with_reducible rfl); simp only [Act.put, List.setIfInBounds_toArray, List.set_cons_zero, List.set_cons_succ])
    | (refine wpL_skip (by rfl) ?_; simp only [Act.put, List.setIfInBounds_toArray, List.set_cons_zero, List.set_cons_succ]))
  refine wpL_nil ?_
  go_wp2_with fail
  go_ret
  exact ⟨rfl, HO3.out.re 3 [1, 0], HK3.out⟩
omit hB hk hn hkl hL hO in
theorem doneCrash (hB : Bd E k) (hk : k ≤ 1000) (hL : ∀ w', Has w' L → Rd w' (.slice kp kl kc) 1 keep.length (keep.map Value.bool)) (hO : Has w (Dk d E :: RDk c E :: L)) : Calls Try.prog 28 #[.pointer (some ⟨d, 0, none⟩), .pointer (some ⟨c, 0, none⟩), actV 4 at_ n short kp kl kc] w (DoneP d c (E.crash keep) L w) := by
  have HO := hid (hO.alloc (.cells #[.int .i64 4, .int .i64 at_, .int .i64 n, .bool short, .slice kp kl kc] 52))
  have HK := hid ((Keep.refl w).alloc (.cells #[.int .i64 4, .int .i64 at_, .int .i64 n, .bool short, .slice kp kl kc] 52))
  have HB := hid hB
  clear hB
  have HL := hid hO
  clear hO
  unfold actV
  go_enter Try.func28, Try.ntmps28
  go_upto_region 1 with fail
  generalize w.heap.size = b at *
  generalize w.alloc (.cells #[.int .i64 4, .int .i64 at_, .int .i64 n, .bool short, .slice kp kl kc] 52) = w1 at *
  have hc0 : w1.cell? ⟨b, 0, none⟩ = some (.int .i64 4) := HO.out.cells 0
  have hc1 : w1.cell? ⟨b, 1, none⟩ = some (.int .i64 at_) := HO.out.cells 1
  have hc2 : w1.cell? ⟨b, 2, none⟩ = some (.int .i64 n) := HO.out.cells 2
  have hc3 : w1.cell? ⟨b, 3, none⟩ = some (.bool short) := HO.out.cells 3
  have hc4 : w1.cell? ⟨b, 4, none⟩ = some (.slice kp kl kc) := HO.out.cells 4
  have HLL := hid hL
  clear hL
  go_wp2_with fail
  refine (kCrash d E w1 _ HO.out.p1 (.slice kp kl kc) keep (fun w' h => HLL.out w' h.drop.drop)).mono ?_
  rintro e w2 ⟨rfl, hO2, hK2⟩
  have HO2 := hid hO2
  have HK2 := hid ((HK.out).trans hK2)
  clear hO2 hK2
  try dsimp only
  have hc4 : w2.cell? ⟨b, 4, none⟩ = some (.slice kp kl kc) := HO2.out.p1.cells 4
  go_wp2_with fail
  refine (rkCrash c E w2 _ HO2.out.p2 (.slice kp kl kc) keep (fun w' h => HLL.out w' h.drop.drop)).mono ?_
  rintro e w3 ⟨rfl, hO3, hK3⟩
  have HO3 := hid hO3
  have HK3 := hid ((HK2.out).trans hK3)
  clear hO3 hK3
  try dsimp only
  go_wp2_with fail
  go_ret
  exact ⟨rfl, HO3.out.re 3 [1, 0], HK3.out⟩
omit hB hk hn hkl hL hO in
theorem doneBoot (hB : Bd E k) (hk : k ≤ 1000) (hO : Has w (Dk d E :: RDk c E :: L)) : Calls Try.prog 28 #[.pointer (some ⟨d, 0, none⟩), .pointer (some ⟨c, 0, none⟩), actV 5 at_ n short kp kl kc] w (DoneP d c E.boot.2 L w) := by
  have HO := hid (hO.alloc (.cells #[.int .i64 5, .int .i64 at_, .int .i64 n, .bool short, .slice kp kl kc] 52))
  have HK := hid ((Keep.refl w).alloc (.cells #[.int .i64 5, .int .i64 at_, .int .i64 n, .bool short, .slice kp kl kc] 52))
  have HB := hid hB
  clear hB
  have HL := hid hO
  clear hO
  unfold actV
  go_enter Try.func28, Try.ntmps28
  go_upto_region 1 with fail
  generalize w.heap.size = b at *
  generalize w.alloc (.cells #[.int .i64 5, .int .i64 at_, .int .i64 n, .bool short, .slice kp kl kc] 52) = w1 at *
  have hc0 : w1.cell? ⟨b, 0, none⟩ = some (.int .i64 5) := HO.out.cells 0
  have hc1 : w1.cell? ⟨b, 1, none⟩ = some (.int .i64 at_) := HO.out.cells 1
  have hc2 : w1.cell? ⟨b, 2, none⟩ = some (.int .i64 n) := HO.out.cells 2
  have hc3 : w1.cell? ⟨b, 3, none⟩ = some (.bool short) := HO.out.cells 3
  have hc4 : w1.cell? ⟨b, 4, none⟩ = some (.slice kp kl kc) := HO.out.cells 4
  have ht : (E.boot.1 == E.boot.1) = true := by simp
  go_wp2_with fail
  refine (kBoot d E w1 _ HO.out.p1).mono ?_
  rintro e w2 ⟨rfl, hO2, hK2⟩
  have HO2 := hid hO2
  have HK2 := hid ((HK.out).trans hK2)
  clear hO2 hK2
  try dsimp only
  go_wp2_with fail
  refine (rkBoot c E w2 _ HO2.out.p2).mono ?_
  rintro e w3 ⟨rfl, hO3, hK3⟩
  have HO3 := hid hO3
  have HK3 := hid ((HK2.out).trans hK3)
  clear hO3 hK3
  try dsimp only
  go_wp2_with fail
  go_ret
  exact ⟨rfl, HO3.out.re 3 [1, 0], HK3.out⟩
omit hB hk hn hkl hL hO in
theorem doneNo (do_ : Int) (h0 : (do_ == 0) = false) (h1 : (do_ == 1) = false) (h2 : (do_ == 2) = false) (h3 : (do_ == 3) = false) (h4 : (do_ == 4) = false) (h5 : (do_ == 5) = false) (hB : Bd E k) (hk : k ≤ 1000) (hO : Has w (Dk d E :: RDk c E :: L)) : Calls Try.prog 28 #[.pointer (some ⟨d, 0, none⟩), .pointer (some ⟨c, 0, none⟩), actV do_ at_ n short kp kl kc] w (DoneP d c E L w) := by
  have HO := hid (hO.alloc (.cells #[.int .i64 do_, .int .i64 at_, .int .i64 n, .bool short, .slice kp kl kc] 52))
  have HK := hid ((Keep.refl w).alloc (.cells #[.int .i64 do_, .int .i64 at_, .int .i64 n, .bool short, .slice kp kl kc] 52))
  have HB := hid hB
  clear hB
  have HL := hid hO
  clear hO
  unfold actV
  go_enter Try.func28, Try.ntmps28
  go_upto_region 1 with fail
  generalize w.heap.size = b at *
  generalize w.alloc (.cells #[.int .i64 do_, .int .i64 at_, .int .i64 n, .bool short, .slice kp kl kc] 52) = w1 at *
  have hc0 : w1.cell? ⟨b, 0, none⟩ = some (.int .i64 do_) := HO.out.cells 0
  have hc1 : w1.cell? ⟨b, 1, none⟩ = some (.int .i64 at_) := HO.out.cells 1
  have hc2 : w1.cell? ⟨b, 2, none⟩ = some (.int .i64 n) := HO.out.cells 2
  have hc3 : w1.cell? ⟨b, 3, none⟩ = some (.bool short) := HO.out.cells 3
  have hc4 : w1.cell? ⟨b, 4, none⟩ = some (.slice kp kl kc) := HO.out.cells 4
  go_wp2_with fail
  go_ret
  exact ⟨rfl, HO.out.re 3 [1, 2], HK.out⟩
include hB hk hn hkl hL hO in
/-- One act of both. -/
theorem doneAny (do_ : Int) : Calls Try.prog 28 #[.pointer (some ⟨d, 0, none⟩), .pointer (some ⟨c, 0, none⟩), actV do_ at_ n short kp kl kc] w (DoneP d c (stepBk E do_ at_ n short keep) L w) := by
  unfold stepBk
  by_cases h1 : do_ = 1
  · subst h1
    cases short
    · exact doneWrite d c E k at_ n false kp kl kc w L hB hk rfl hO
    · exact doneWriteS d c E k at_ n true kp kl kc w L hB hk rfl hO
  rw [if_neg h1]
  by_cases h2 : do_ = 2
  · subst h2; exact doneFlush d c E k at_ n short kp kl kc w L hB hk hO
  rw [if_neg h2]
  by_cases h3 : do_ = 3
  · subst h3; exact doneArm d c E k at_ n short kp kl kc keep w L hB hk hn hkl hL hO
  rw [if_neg h3]
  by_cases h4 : do_ = 4
  · subst h4; exact doneCrash d c E k at_ n short kp kl kc keep w L hB hk hL hO
  rw [if_neg h4]
  by_cases h5 : do_ = 5
  · subst h5; exact doneBoot d c E k at_ n short kp kl kc w L hB hk hO
  rw [if_neg h5]
  by_cases h0 : do_ = 0
  · subst h0; exact doneRead d c E k at_ n short kp kl kc w L hB hk hO
  exact doneNo d c E k at_ n short kp kl kc w L do_ (by simpa using h0) (by simpa using h1) (by simpa using h2) (by simpa using h3) (by simpa using h4) (by simpa using h5) hB hk hO
end
end Go.Proofs.Ytbcilhcmjkgkgaa
