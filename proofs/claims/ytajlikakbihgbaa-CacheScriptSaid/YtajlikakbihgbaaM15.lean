/- TEXTS of mine, merged. -/
import Derived.Test.YtajlikakbihgbaaM14
import Derived.Test.YtajlikakbihgbaaM12
import Derived.Test.YtajlikakbihgbaaM5
import Derived.Test.YtajlikakbihgbaaM11
/- THE WALK of chapter 18's 'done': one act of both caches. -/
namespace Go.Proofs.Ytajlikakbihgbaa
open Go.RowKit Go.Own Go.Ch Go.Dk
def actC (do_ a n : Int) (on : Bool) : Value := .agg #[.int .i64 do_, .int .i64 a, .int .i64 n, .bool on]
def DoneC (q r d c : Nat) (most : Int) (K : List Hb) (E : Bk) (L : List HP) (w : World) (e : Ending) (w' : World) : Prop := e = .returned (.bool true) ∧ Has w' (Cch q (dP d) most K :: Dk d E :: Rcc r (rP c) most K :: RDk c E :: L) ∧ Keep w w'
theorem fillLit (n : Int) (sz : Nat) (z : Int) (hz : z = (sz : Int)) (W : World) (L : List HP) (hO : Has W L) (hs : sz ≤ 30000) :
    Calls Try.prog 12 #[.int .i64 n, .int .i64 z] W fun e w' => ∃ v, e = .returned v ∧ Has w' (Bytes v (fill n sz) :: L) ∧ Keep W w' := by
  subst hz
  exact fillAny n sz W L hO hs
section
variable (q r d c : Nat) (most : Int) (K : List Hb) (E : Bk) (k : Nat) (a n : Int) (on : Bool) (w : World) (L : List HP)
set_option maxRecDepth 100000 in
set_option maxHeartbeats 4000000 in
theorem cdGet (hI : CI most E.firm.length K) (hm : 0 ≤ most ∧ most ≤ 1000000) (hn : E.firm.length ≤ 2000) (hB : Bd E k) (hk : k ≤ 1000) (hO : Has w (Cch q (dP d) most K :: Dk d E :: Rcc r (rP c) most K :: RDk c E :: L)) :
    Calls Try.prog 24 #[.pointer (some ⟨q, 0, none⟩), .pointer (some ⟨r, 0, none⟩), .pointer (some ⟨d, 0, none⟩), actC 0 a n on] w (DoneC q r d c most (getC most K E a) E L w) := by
  have HO := hid (hO.alloc (.cells #[.int .i64 0, .int .i64 a, .int .i64 n, .bool on] 54))
  have HK := hid ((Keep.refl w).alloc (.cells #[.int .i64 0, .int .i64 a, .int .i64 n, .bool on] 54))
  have HBB := hid hB
  have HI := hid hI
  have HM := hid hm
  have HN := hid hn
  have HKK := hid hk
  have HXL := hid (show (E.read a).2.length ≤ 1000 from Nat.le_trans (rkLen c E w _ hO.p3 a) (by omega))
  clear hB hO hI hm hn hk
  unfold actC
  go_enter Try.func24, Try.ntmps24
  go_upto_region 1 with fail
  generalize w.heap.size = b at *
  generalize w.alloc (.cells #[.int .i64 0, .int .i64 a, .int .i64 n, .bool on] 54) = w1 at *
  have hc0 : w1.cell? ⟨b, 0, none⟩ = some (.int .i64 0) := HO.out.cells 0
  have hc1 : w1.cell? ⟨b, 1, none⟩ = some (.int .i64 a) := HO.out.cells 1
  have hc2 : w1.cell? ⟨b, 2, none⟩ = some (.int .i64 n) := HO.out.cells 2
  have hc3 : w1.cell? ⟨b, 3, none⟩ = some (.bool on) := HO.out.cells 3
  have ht : (getR K E a == getR K E a) = true := by simp
  go_wp2_with fail
  refine (pGet HI.out HM.out HN.out (by have := HBB.out.waits; have := HKK.out; omega) HXL.out (HO.out.re 5 [1, 2, 0, 3, 4])).mono ?_
  rintro e w2 ⟨v2, rfl, hO2, hK2⟩
  have HO2 := hid hO2
  have HK2 := hid ((HK.out).trans hK2)
  clear hO2 hK2
  try dsimp only
  have hc1 : w2.cell? ⟨b, 1, none⟩ = some (.int .i64 a) := HO2.out.p3.cells 1
  go_wp2_with fail
  refine (qGet HI.out HM.out HN.out (by have := HBB.out.waits; have := HKK.out; omega) HXL.out (HO2.out.re 6 [4, 5, 0, 1, 2, 3])).mono ?_
  rintro e w3 ⟨v3, rfl, hO3, hK3⟩
  have HO3 := hid hO3
  have HK3 := hid ((HK2.out).trans hK3)
  clear hO3 hK3
  try dsimp only
  have HXB := hid (show (getB K E a).length ≤ 1000 from by
    unfold getB
    split
    · rename_i i hf
      obtain ⟨hi, -⟩ := find_lt hf
      rw [List.getElem?_eq_getElem hi]
      exact HI.out.len _ (List.getElem_mem hi)
    · exact HXL.out)
  clear HO HK HO2 HK2 hc1 hc2 hc3
  go_wp2_with fail
  refine (sameBytesYes v2 v3 (getB K E a) w3 (Bytes.rd HO3.out.p3) (Bytes.rd HO3.out)).mono ?_
  rintro e w' ⟨rfl, nq4, rfl⟩
  have HO4 := hid ((HO3.out).drewN nq4)
  have HK4 := hid ((HK3.out).drewN nq4)
  try dsimp only
  generalize w3.drewN nq4 = w4 at *
  go_wp2_with fail
  refine (overBytes v2 (getB K E a) w4 _ HO4.out.p3 (by have := HXB.out; omega)).mono ?_
  rintro e w5 ⟨rfl, hO5, hK5⟩
  have HO5 := hid hO5
  have HK5 := hid ((HK4.out).trans hK5)
  clear hO5 hK5
  try dsimp only
  go_wp2_with fail
  go_ret
  exact ⟨rfl, HO5.out.re 6 [3, 4, 1, 2], HK5.out⟩
set_option maxRecDepth 100000 in
set_option maxHeartbeats 4000000 in
theorem cdPut (hI : CI most E.firm.length K) (hm : 0 ≤ most ∧ most ≤ 1000000) (hn : E.firm.length ≤ 2000) (hB : Bd E k) (hk : k ≤ 1000) (hO : Has w (Cch q (dP d) most K :: Dk d E :: Rcc r (rP c) most K :: RDk c E :: L)) :
    Calls Try.prog 24 #[.pointer (some ⟨q, 0, none⟩), .pointer (some ⟨r, 0, none⟩), .pointer (some ⟨d, 0, none⟩), actC 1 a n on] w (DoneC q r d c most (putC most K E.firm.length a (fill n 128)) E L w) := by
  have HO := hid (hO.alloc (.cells #[.int .i64 1, .int .i64 a, .int .i64 n, .bool on] 54))
  have HK := hid ((Keep.refl w).alloc (.cells #[.int .i64 1, .int .i64 a, .int .i64 n, .bool on] 54))
  have HBB := hid hB
  have HI := hid hI
  have HM := hid hm
  have HN := hid hn
  have HKK := hid hk
  clear hB hO hI hm hn hk
  unfold actC
  go_enter Try.func24, Try.ntmps24
  go_upto_region 1 with fail
  generalize w.heap.size = b at *
  generalize w.alloc (.cells #[.int .i64 1, .int .i64 a, .int .i64 n, .bool on] 54) = w1 at *
  have hc0 : w1.cell? ⟨b, 0, none⟩ = some (.int .i64 1) := HO.out.cells 0
  have hc1 : w1.cell? ⟨b, 1, none⟩ = some (.int .i64 a) := HO.out.cells 1
  have hc2 : w1.cell? ⟨b, 2, none⟩ = some (.int .i64 n) := HO.out.cells 2
  have hc3 : w1.cell? ⟨b, 3, none⟩ = some (.bool on) := HO.out.cells 3
  have XL := hid (show (fill n 128).length = 128 from fill_len n 128)
  go_wp2_with fail
  refine (fillLit n 128 128 rfl w1 _ HO.out (by omega)).mono ?_
  rintro e w2 ⟨v2, rfl, hO2, hK2⟩
  have HO2 := hid hO2
  have HK2 := hid (HK.out.trans hK2)
  clear hO2 hK2
  try dsimp only
  go_wp2_with fail
  refine (lendBytes v2 (fill n 128) w2 _ HO2.out (Bytes.rd HO2.out) (by have := XL.out; omega)).mono ?_
  rintro e w3 ⟨v3, rfl, hO3, hK3⟩
  have HO3 := hid hO3
  have HK3 := hid ((HK2.out).trans hK3)
  clear hO3 hK3
  try dsimp only
  have hc1 : w3.cell? ⟨b, 1, none⟩ = some (.int .i64 a) := HO3.out.p2.cells 1
  clear HO HK HO2 HK2
  go_wp2_with fail
  refine (pPut HI.out HM.out HN.out v3 (fill n 128) XL.out (fun w' h => Lent.rd h (by have := XL.out; omega)) (HO3.out.re 7 [3, 4, 0, 1, 2, 5, 6])).mono ?_
  rintro e w4 ⟨rfl, hO4, hK4⟩
  have HO4 := hid hO4
  have HK4 := hid ((HK3.out).trans hK4)
  clear hO4 hK4
  try dsimp only
  go_wp2_with fail
  refine (overBytes v3 (fill n 128) w4 _ (Lent.bytes HO4.out.p2 (by have := XL.out; omega)) (by have := XL.out; omega)).mono ?_
  rintro e w5 ⟨rfl, hO5, hK5⟩
  have HO5 := hid hO5
  have HK5 := hid ((HK4.out).trans hK5)
  clear hO5 hK5
  try dsimp only
  clear HO3 HK3 HO4 HK4 hc1 hc2 hc3
  have ht : (putE E.firm.length a == putE E.firm.length a) = true := by simp
  have HO6 := hid (HO5.out.re 6 [3, 0, 1, 2, 4, 5])
  clear HO5
  go_wp2_with fail
  refine region_text (fun w => w.cell? ⟨b, 1, none⟩ = some (.int .i64 a) ∧ w.cell? ⟨b, 2, none⟩ = some (.int .i64 n)) (by kernel_rfl) (by kernel_rfl) ⟨HO6.out.drew.cells 1, HO6.out.drew.cells 2⟩ ?_
  repeat (first
    | (refine wpL_read (by rfl) (by rfl) ?_ ?_ ?_; rotate_left; (rintro w ⟨z0, z1⟩; go_simp; with_reducible rfl); simp only [Act.put, List.setIfInBounds_toArray, List.set_cons_zero, List.set_cons_succ]) | (refine wpL_skip (by rfl) ?_; simp only [Act.put, List.setIfInBounds_toArray, List.set_cons_zero, List.set_cons_succ]))
  refine wpL_act (by rfl) (by rfl) (fun K hK => ?_)
  go_simp
  refine (fillLit n 128 128 rfl _ _ HO6.out.drew (by omega)).mono ?_
  rintro e w8 ⟨v8, rfl, hO8, hK8⟩
  have HO8 := hid hO8
  have HK8 := hid (HK5.out.drew.trans hK8)
  clear hO8 hK8 HO6 HK5
  try dsimp only
  refine hK.out _ _ ⟨HO8.out.p1.cells 1, HO8.out.p1.cells 2⟩ ?_
  clear hK K
  try simp only [Act.put, List.setIfInBounds_toArray, List.set_cons_zero, List.set_cons_succ]
  repeat (first
    | (refine wpL_read (by rfl) (by rfl) ?_ ?_ ?_; rotate_left; (rintro w ⟨z0, z1⟩; go_simp; with_reducible rfl); simp only [Act.put, List.setIfInBounds_toArray, List.set_cons_zero, List.set_cons_succ]) | (refine wpL_skip (by rfl) ?_; simp only [Act.put, List.setIfInBounds_toArray, List.set_cons_zero, List.set_cons_succ]))
  have HO8 := hid (HO8.out.re 7 [5, 6, 0, 1, 2, 3, 4])
  refine wpL_act (by rfl) (by rfl) (fun K hK => ?_)
  go_simp
  refine (qPut HI.out HM.out HN.out v8 (fill n 128) XL.out (fun w' h => Bytes.rd h) HO8.out).mono ?_
  rintro e w9 ⟨rfl, hO9, hK9⟩
  have HO9 := hid hO9
  have HK9 := hid ((HK8.out).trans hK9)
  clear hO9 hK9
  try dsimp only
  refine hK.out _ _ (⟨HO9.out.p3.cells 1, HO9.out.p3.cells 2⟩) ?_
  clear hK K
  try simp only [Act.put, List.setIfInBounds_toArray, List.set_cons_zero, List.set_cons_succ]
  repeat (first
    | (refine wpL_read (by rfl) (by rfl) ?_ ?_ ?_; rotate_left; (rintro w ⟨z0, z1⟩; go_simp; with_reducible rfl); simp only [Act.put, List.setIfInBounds_toArray, List.set_cons_zero, List.set_cons_succ]) | (refine wpL_skip (by rfl) ?_; simp only [Act.put, List.setIfInBounds_toArray, List.set_cons_zero, List.set_cons_succ]))
  refine wpL_nil ?_
  go_wp2_with fail
  go_ret
  exact ⟨rfl, HO9.out.re 7 [4, 5, 0, 1], HK9.out⟩
set_option maxRecDepth 100000 in
set_option maxHeartbeats 4000000 in
theorem cdPin (hI : CI most E.firm.length K) (hm : 0 ≤ most ∧ most ≤ 1000000) (hn : E.firm.length ≤ 2000) (hB : Bd E k) (hk : k ≤ 1000) (hO : Has w (Cch q (dP d) most K :: Dk d E :: Rcc r (rP c) most K :: RDk c E :: L)) :
    Calls Try.prog 24 #[.pointer (some ⟨q, 0, none⟩), .pointer (some ⟨r, 0, none⟩), .pointer (some ⟨d, 0, none⟩), actC 2 a n on] w (DoneC q r d c most (pinC most K a on) E L w) := by
  have HO := hid (hO.alloc (.cells #[.int .i64 2, .int .i64 a, .int .i64 n, .bool on] 54))
  have HK := hid ((Keep.refl w).alloc (.cells #[.int .i64 2, .int .i64 a, .int .i64 n, .bool on] 54))
  have HBB := hid hB
  have HI := hid hI
  have HM := hid hm
  have HN := hid hn
  have HKK := hid hk
  clear hB hO hI hm hn hk
  unfold actC
  go_enter Try.func24, Try.ntmps24
  go_upto_region 1 with fail
  generalize w.heap.size = b at *
  generalize w.alloc (.cells #[.int .i64 2, .int .i64 a, .int .i64 n, .bool on] 54) = w1 at *
  have hc0 : w1.cell? ⟨b, 0, none⟩ = some (.int .i64 2) := HO.out.cells 0
  have hc1 : w1.cell? ⟨b, 1, none⟩ = some (.int .i64 a) := HO.out.cells 1
  have hc2 : w1.cell? ⟨b, 2, none⟩ = some (.int .i64 n) := HO.out.cells 2
  have hc3 : w1.cell? ⟨b, 3, none⟩ = some (.bool on) := HO.out.cells 3
  have ht : (hasE K a == hasE K a) = true := by simp
  clear hc1 hc2 hc3
  have HO2 := hid (HO.out.re 5 [1, 2, 0, 3, 4])
  clear HO
  go_wp2_with fail
  refine region_text (fun w => w.cell? ⟨b, 1, none⟩ = some (.int .i64 a) ∧ w.cell? ⟨b, 3, none⟩ = some (.bool on)) (by kernel_rfl) (by kernel_rfl) ⟨HO2.out.drew.p2.cells 1, HO2.out.drew.p2.cells 3⟩ ?_
  repeat (first
    | (refine wpL_read (by rfl) (by rfl) ?_ ?_ ?_; rotate_left; (rintro w ⟨z0, z1⟩; go_simp; with_reducible rfl); simp only [Act.put, List.setIfInBounds_toArray, List.set_cons_zero, List.set_cons_succ]) | (refine wpL_skip (by rfl) ?_; simp only [Act.put, List.setIfInBounds_toArray, List.set_cons_zero, List.set_cons_succ]))
  refine wpL_act (by rfl) (by rfl) (fun K hK => ?_)
  go_simp
  refine (pPin HI.out HM.out HN.out (dP d) on HO2.out.drew).mono ?_
  rintro e w3 ⟨rfl, hO3, hK3⟩
  have HO3 := hid hO3
  have HK3 := hid ((HK.out.drew).trans hK3)
  clear hO3 hK3
  try dsimp only
  refine hK.out _ _ (⟨HO3.out.p2.cells 1, HO3.out.p2.cells 3⟩) ?_
  clear hK K
  try simp only [Act.put, List.setIfInBounds_toArray, List.set_cons_zero, List.set_cons_succ]
  repeat (first
    | (refine wpL_read (by rfl) (by rfl) ?_ ?_ ?_; rotate_left; (rintro w ⟨z0, z1⟩; go_simp; with_reducible rfl); simp only [Act.put, List.setIfInBounds_toArray, List.set_cons_zero, List.set_cons_succ]) | (refine wpL_skip (by rfl) ?_; simp only [Act.put, List.setIfInBounds_toArray, List.set_cons_zero, List.set_cons_succ]))
  have HO3 := hid (HO3.out.re 5 [3, 4, 0, 1, 2])
  refine wpL_act (by rfl) (by rfl) (fun K hK => ?_)
  go_simp
  refine (qPin HI.out HM.out HN.out (rP c) on HO3.out).mono ?_
  rintro e w4 ⟨rfl, hO4, hK4⟩
  have HO4 := hid hO4
  have HK4 := hid ((HK3.out).trans hK4)
  clear hO4 hK4
  try dsimp only
  refine hK.out _ _ (⟨HO4.out.p4.cells 1, HO4.out.p4.cells 3⟩) ?_
  clear hK K
  try simp only [Act.put, List.setIfInBounds_toArray, List.set_cons_zero, List.set_cons_succ]
  repeat (first
    | (refine wpL_read (by rfl) (by rfl) ?_ ?_ ?_; rotate_left; (rintro w ⟨z0, z1⟩; go_simp; with_reducible rfl); simp only [Act.put, List.setIfInBounds_toArray, List.set_cons_zero, List.set_cons_succ]) | (refine wpL_skip (by rfl) ?_; simp only [Act.put, List.setIfInBounds_toArray, List.set_cons_zero, List.set_cons_succ]))
  refine wpL_nil ?_
  go_wp2_with fail
  go_ret
  exact ⟨rfl, HO4.out.re 5 [2, 3, 0, 1], HK4.out⟩
set_option maxRecDepth 100000 in
set_option maxHeartbeats 4000000 in
theorem cdClean (hI : CI most E.firm.length K) (hm : 0 ≤ most ∧ most ≤ 1000000) (hn : E.firm.length ≤ 2000) (hB : Bd E k) (hk : k ≤ 1000) (hO : Has w (Cch q (dP d) most K :: Dk d E :: Rcc r (rP c) most K :: RDk c E :: L)) :
    Calls Try.prog 24 #[.pointer (some ⟨q, 0, none⟩), .pointer (some ⟨r, 0, none⟩), .pointer (some ⟨d, 0, none⟩), actC 3 a n on] w (DoneC q r d c most (cleanC most K E a).1 (cleanC most K E a).2 L w) := by
  have HO := hid (hO.alloc (.cells #[.int .i64 3, .int .i64 a, .int .i64 n, .bool on] 54))
  have HK := hid ((Keep.refl w).alloc (.cells #[.int .i64 3, .int .i64 a, .int .i64 n, .bool on] 54))
  have HBB := hid hB
  have HI := hid hI
  have HM := hid hm
  have HN := hid hn
  have HKK := hid hk
  clear hB hO hI hm hn hk
  unfold actC
  go_enter Try.func24, Try.ntmps24
  go_upto_region 1 with fail
  generalize w.heap.size = b at *
  generalize w.alloc (.cells #[.int .i64 3, .int .i64 a, .int .i64 n, .bool on] 54) = w1 at *
  have hc0 : w1.cell? ⟨b, 0, none⟩ = some (.int .i64 3) := HO.out.cells 0
  have hc1 : w1.cell? ⟨b, 1, none⟩ = some (.int .i64 a) := HO.out.cells 1
  have hc2 : w1.cell? ⟨b, 2, none⟩ = some (.int .i64 n) := HO.out.cells 2
  have hc3 : w1.cell? ⟨b, 3, none⟩ = some (.bool on) := HO.out.cells 3
  have ht : (cleanE K E a == cleanE K E a) = true := by simp
  clear hc1 hc2 hc3
  have HO2 := hid (HO.out.re 5 [1, 2, 0, 3, 4])
  clear HO
  go_wp2_with fail
  refine region_text (fun w => w.cell? ⟨b, 1, none⟩ = some (.int .i64 a) ∧ w.cell? ⟨b, 1, none⟩ = some (.int .i64 a)) (by kernel_rfl) (by kernel_rfl) ⟨HO2.out.drew.p2.cells 1, HO2.out.drew.p2.cells 1⟩ ?_
  repeat (first
    | (refine wpL_read (by rfl) (by rfl) ?_ ?_ ?_; rotate_left; (rintro w ⟨z0, z1⟩; go_simp; with_reducible rfl); simp only [Act.put, List.setIfInBounds_toArray, List.set_cons_zero, List.set_cons_succ]) | (refine wpL_skip (by rfl) ?_; simp only [Act.put, List.setIfInBounds_toArray, List.set_cons_zero, List.set_cons_succ]))
  refine wpL_act (by rfl) (by rfl) (fun K hK => ?_)
  go_simp
  refine (pClean HI.out HM.out HN.out (by have := HBB.out.waits; have := HKK.out; omega) (by have := HBB.out.writes; have := HKK.out; omega) HO2.out.drew).mono ?_
  rintro e w3 ⟨rfl, hO3, hK3⟩
  have HO3 := hid hO3
  have HK3 := hid ((HK.out.drew).trans hK3)
  clear hO3 hK3
  try dsimp only
  refine hK.out _ _ (⟨HO3.out.p2.cells 1, HO3.out.p2.cells 1⟩) ?_
  clear hK K
  try simp only [Act.put, List.setIfInBounds_toArray, List.set_cons_zero, List.set_cons_succ]
  repeat (first
    | (refine wpL_read (by rfl) (by rfl) ?_ ?_ ?_; rotate_left; (rintro w ⟨z0, z1⟩; go_simp; with_reducible rfl); simp only [Act.put, List.setIfInBounds_toArray, List.set_cons_zero, List.set_cons_succ]) | (refine wpL_skip (by rfl) ?_; simp only [Act.put, List.setIfInBounds_toArray, List.set_cons_zero, List.set_cons_succ]))
  have HO3 := hid (HO3.out.re 5 [3, 4, 0, 1, 2])
  refine wpL_act (by rfl) (by rfl) (fun K hK => ?_)
  go_simp
  refine (qClean HI.out HM.out HN.out (by have := HBB.out.waits; have := HKK.out; omega) (by have := HBB.out.writes; have := HKK.out; omega) HO3.out).mono ?_
  rintro e w4 ⟨rfl, hO4, hK4⟩
  have HO4 := hid hO4
  have HK4 := hid ((HK3.out).trans hK4)
  clear hO4 hK4
  try dsimp only
  refine hK.out _ _ (⟨HO4.out.p4.cells 1, HO4.out.p4.cells 1⟩) ?_
  clear hK K
  try simp only [Act.put, List.setIfInBounds_toArray, List.set_cons_zero, List.set_cons_succ]
  repeat (first
    | (refine wpL_read (by rfl) (by rfl) ?_ ?_ ?_; rotate_left; (rintro w ⟨z0, z1⟩; go_simp; with_reducible rfl); simp only [Act.put, List.setIfInBounds_toArray, List.set_cons_zero, List.set_cons_succ]) | (refine wpL_skip (by rfl) ?_; simp only [Act.put, List.setIfInBounds_toArray, List.set_cons_zero, List.set_cons_succ]))
  refine wpL_nil ?_
  go_wp2_with fail
  go_ret
  exact ⟨rfl, HO4.out.re 5 [2, 3, 0, 1], HK4.out⟩
set_option maxRecDepth 100000 in
set_option maxHeartbeats 4000000 in
theorem cdDrop (hI : CI most E.firm.length K) (hm : 0 ≤ most ∧ most ≤ 1000000) (hn : E.firm.length ≤ 2000) (hB : Bd E k) (hk : k ≤ 1000) (hO : Has w (Cch q (dP d) most K :: Dk d E :: Rcc r (rP c) most K :: RDk c E :: L)) :
    Calls Try.prog 24 #[.pointer (some ⟨q, 0, none⟩), .pointer (some ⟨r, 0, none⟩), .pointer (some ⟨d, 0, none⟩), actC 4 a n on] w (DoneC q r d c most (dropG Hb.stay (n.tmod 9) K).2 E L w) := by
  have HO := hid (hO.alloc (.cells #[.int .i64 4, .int .i64 a, .int .i64 n, .bool on] 54))
  have HK := hid ((Keep.refl w).alloc (.cells #[.int .i64 4, .int .i64 a, .int .i64 n, .bool on] 54))
  have HBB := hid hB
  have HI := hid hI
  have HM := hid hm
  have HN := hid hn
  have HKK := hid hk
  clear hB hO hI hm hn hk
  unfold actC
  go_enter Try.func24, Try.ntmps24
  go_upto_region 1 with fail
  generalize w.heap.size = b at *
  generalize w.alloc (.cells #[.int .i64 4, .int .i64 a, .int .i64 n, .bool on] 54) = w1 at *
  have hc0 : w1.cell? ⟨b, 0, none⟩ = some (.int .i64 4) := HO.out.cells 0
  have hc1 : w1.cell? ⟨b, 1, none⟩ = some (.int .i64 a) := HO.out.cells 1
  have hc2 : w1.cell? ⟨b, 2, none⟩ = some (.int .i64 n) := HO.out.cells 2
  have hc3 : w1.cell? ⟨b, 3, none⟩ = some (.bool on) := HO.out.cells 3
  have HW9 := hid (show (n.tmod 9) ≤ 1000000000 from by have := Int.tmod_lt_of_pos n (show (0 : Int) < 9 by omega); omega)
  have hw9 : wrap64 (n.tmod 9) = n.tmod 9 := IntWalk.wrap64_in _ (by have h1 := Int.tmod_lt_of_pos n (show (0 : Int) < 9 by omega); have h2 := Int.lt_tmod_of_pos n (show (0 : Int) < 9 by omega); omega)
  have HLK := hid HI.out.short
  have ht : ((K.length : Int) - ((dropG Hb.stay (n.tmod 9) K).2.length : Int) == (K.length : Int) - ((dropG Hb.stay (n.tmod 9) K).2.length : Int)) = true := by simp
  clear hc1 hc2 hc3
  have HO2 := hid (HO.out.re 5 [1, 2, 0, 3, 4])
  clear HO
  go_wp2_with fail
  refine region_text (fun w => w.cell? ⟨b, 2, none⟩ = some (.int .i64 n) ∧ w.cell? ⟨b, 2, none⟩ = some (.int .i64 n)) (by kernel_rfl) (by kernel_rfl) ⟨HO2.out.drew.p2.cells 2, HO2.out.drew.p2.cells 2⟩ ?_
  repeat (first
    | (refine wpL_read (by rfl) (by rfl) ?_ ?_ ?_; rotate_left; (rintro w ⟨z0, z1⟩; go_simp; with_reducible rfl); simp only [Act.put, List.setIfInBounds_toArray, List.set_cons_zero, List.set_cons_succ]) | (refine wpL_skip (by rfl) ?_; simp only [Act.put, List.setIfInBounds_toArray, List.set_cons_zero, List.set_cons_succ]))
  refine wpL_act (by rfl) (by rfl) (fun K hK => ?_)
  go_simp
  refine (kcDrop q (dP d) most _ (n.tmod 9) _ _ HW9.out (by have := HLK.out; have := HN.out; omega) HO2.out.drew).mono ?_
  rintro e w3 ⟨rfl, hO3, hK3⟩
  have HO3 := hid hO3
  have HK3 := hid ((HK.out.drew).trans hK3)
  clear hO3 hK3
  try dsimp only
  refine hK.out _ _ (⟨HO3.out.p2.cells 2, HO3.out.p2.cells 2⟩) ?_
  clear hK K
  try simp only [Act.put, List.setIfInBounds_toArray, List.set_cons_zero, List.set_cons_succ]
  repeat (first
    | (refine wpL_read (by rfl) (by rfl) ?_ ?_ ?_; rotate_left; (rintro w ⟨z0, z1⟩; go_simp; with_reducible rfl); simp only [Act.put, List.setIfInBounds_toArray, List.set_cons_zero, List.set_cons_succ]) | (refine wpL_skip (by rfl) ?_; simp only [Act.put, List.setIfInBounds_toArray, List.set_cons_zero, List.set_cons_succ]))
  have HO3 := hid (HO3.out.re 5 [3, 4, 0, 1, 2])
  refine wpL_act (by rfl) (by rfl) (fun K hK => ?_)
  go_simp
  refine (rcDrop r (rP c) most _ (n.tmod 9) _ _ HW9.out (by have := HLK.out; have := HN.out; omega) HO3.out).mono ?_
  rintro e w4 ⟨rfl, hO4, hK4⟩
  have HO4 := hid hO4
  have HK4 := hid ((HK3.out).trans hK4)
  clear hO4 hK4
  try dsimp only
  refine hK.out _ _ (⟨HO4.out.p4.cells 2, HO4.out.p4.cells 2⟩) ?_
  clear hK K
  try simp only [Act.put, List.setIfInBounds_toArray, List.set_cons_zero, List.set_cons_succ]
  repeat (first
    | (refine wpL_read (by rfl) (by rfl) ?_ ?_ ?_; rotate_left; (rintro w ⟨z0, z1⟩; go_simp; with_reducible rfl); simp only [Act.put, List.setIfInBounds_toArray, List.set_cons_zero, List.set_cons_succ]) | (refine wpL_skip (by rfl) ?_; simp only [Act.put, List.setIfInBounds_toArray, List.set_cons_zero, List.set_cons_succ]))
  refine wpL_nil ?_
  go_wp2_with fail
  go_ret
  exact ⟨rfl, HO4.out.re 5 [2, 3, 0, 1], HK4.out⟩
set_option maxRecDepth 100000 in
set_option maxHeartbeats 4000000 in
theorem cdBoot (hI : CI most E.firm.length K) (hm : 0 ≤ most ∧ most ≤ 1000000) (hn : E.firm.length ≤ 2000) (hB : Bd E k) (hk : k ≤ 1000) (hO : Has w (Cch q (dP d) most K :: Dk d E :: Rcc r (rP c) most K :: RDk c E :: L)) :
    Calls Try.prog 24 #[.pointer (some ⟨q, 0, none⟩), .pointer (some ⟨r, 0, none⟩), .pointer (some ⟨d, 0, none⟩), actC 5 a n true] w (DoneC q r d c most K E.boot.2 L w) := by
  have HO := hid (hO.alloc (.cells #[.int .i64 5, .int .i64 a, .int .i64 n, .bool true] 54))
  have HK := hid ((Keep.refl w).alloc (.cells #[.int .i64 5, .int .i64 a, .int .i64 n, .bool true] 54))
  have HBB := hid hB
  have HI := hid hI
  have HM := hid hm
  have HN := hid hn
  have HKK := hid hk
  clear hB hO hI hm hn hk
  unfold actC
  go_enter Try.func24, Try.ntmps24
  go_upto_region 1 with fail
  generalize w.heap.size = b at *
  generalize w.alloc (.cells #[.int .i64 5, .int .i64 a, .int .i64 n, .bool true] 54) = w1 at *
  have hc0 : w1.cell? ⟨b, 0, none⟩ = some (.int .i64 5) := HO.out.cells 0
  have hc1 : w1.cell? ⟨b, 1, none⟩ = some (.int .i64 a) := HO.out.cells 1
  have hc2 : w1.cell? ⟨b, 2, none⟩ = some (.int .i64 n) := HO.out.cells 2
  have hc3 : w1.cell? ⟨b, 3, none⟩ = some (.bool true) := HO.out.cells 3
  have ht : (E.boot.1 == E.boot.1) = true := by simp
  have HO2 := hid (HO.out.re 5 [2, 1, 0, 3, 4])
  obtain ⟨v0, T0, B0, hT0, h0⟩ := rcc_iff.1 (HO2.out.re 5 [3, 0, 1, 2, 4])
  have hq := h0.cells
  unfold caC at hq
  have hr0 : w1.cell? ⟨r, 0, none⟩ = some (rP c) := hq 0
  clear HO h0 hq
  go_upto_region 21 with fail
  refine region_text (fun w => w.cell? ⟨r, 0, none⟩ = some (rP c) ∧ w.cell? ⟨r, 0, none⟩ = some (rP c)) (by kernel_rfl) (by kernel_rfl) ⟨hr0, hr0⟩ ?_
  repeat (first
    | (refine wpL_read (by rfl) (by rfl) ?_ ?_ ?_; rotate_left; (rintro w ⟨z0, z1⟩; go_simp; with_reducible rfl); simp only [Act.put, List.setIfInBounds_toArray, List.set_cons_zero, List.set_cons_succ]) | (refine wpL_skip (by rfl) ?_; simp only [Act.put, List.setIfInBounds_toArray, List.set_cons_zero, List.set_cons_succ]))
  have HCR := hid (fun (w' : World) (l : List HP) (h : Has w' (Rcc r (rP c) most K :: l)) => show w'.cell? ⟨r, 0, none⟩ = some (rP c) from by
    obtain ⟨v0, T0, B0, hT0, h0⟩ := rcc_iff.1 h
    exact h0.cells 0)
  refine wpL_act (by rfl) (by rfl) (fun K hK => ?_)
  go_simp
  refine (kBoot d E _ _ HO2.out.drew).mono ?_
  rintro e w3 ⟨rfl, hO3, hK3⟩
  have HO3 := hid hO3
  have HK3 := hid ((HK.out.drew).trans hK3)
  clear hO3 hK3
  try dsimp only
  refine hK.out _ _ (⟨HCR.out _ _ (HO3.out.re 5 [3, 0, 1, 2, 4]), HCR.out _ _ (HO3.out.re 5 [3, 0, 1, 2, 4])⟩) ?_
  clear hK K
  try simp only [Act.put, List.setIfInBounds_toArray, List.set_cons_zero, List.set_cons_succ]
  repeat (first
    | (refine wpL_read (by rfl) (by rfl) ?_ ?_ ?_; rotate_left; (rintro w ⟨z0, z1⟩; go_simp; with_reducible rfl); simp only [Act.put, List.setIfInBounds_toArray, List.set_cons_zero, List.set_cons_succ]) | (refine wpL_skip (by rfl) ?_; simp only [Act.put, List.setIfInBounds_toArray, List.set_cons_zero, List.set_cons_succ]))
  have HO3 := hid (HO3.out.re 5 [4, 0, 1, 2, 3])
  refine wpL_act (by rfl) (by rfl) (fun K hK => ?_)
  go_simp
  refine (rkBoot c E _ _ HO3.out).mono ?_
  rintro e w4 ⟨rfl, hO4, hK4⟩
  have HO4 := hid hO4
  have HK4 := hid ((HK3.out).trans hK4)
  clear hO4 hK4
  try dsimp only
  refine hK.out _ _ (⟨HCR.out _ _ (HO4.out.re 5 [4, 0, 1, 2, 3]), HCR.out _ _ (HO4.out.re 5 [4, 0, 1, 2, 3])⟩) ?_
  clear hK K
  try simp only [Act.put, List.setIfInBounds_toArray, List.set_cons_zero, List.set_cons_succ]
  repeat (first
    | (refine wpL_read (by rfl) (by rfl) ?_ ?_ ?_; rotate_left; (rintro w ⟨z0, z1⟩; go_simp; with_reducible rfl); simp only [Act.put, List.setIfInBounds_toArray, List.set_cons_zero, List.set_cons_succ]) | (refine wpL_skip (by rfl) ?_; simp only [Act.put, List.setIfInBounds_toArray, List.set_cons_zero, List.set_cons_succ]))
  refine wpL_nil ?_
  go_wp2_with fail
  go_ret
  exact ⟨rfl, HO4.out.re 5 [2, 1, 4, 0], HK4.out⟩
set_option maxRecDepth 100000 in
set_option maxHeartbeats 4000000 in
theorem cdCrash (hI : CI most E.firm.length K) (hm : 0 ≤ most ∧ most ≤ 1000000) (hn : E.firm.length ≤ 2000) (hB : Bd E k) (hk : k ≤ 1000) (hO : Has w (Cch q (dP d) most K :: Dk d E :: Rcc r (rP c) most K :: RDk c E :: L)) :
    Calls Try.prog 24 #[.pointer (some ⟨q, 0, none⟩), .pointer (some ⟨r, 0, none⟩), .pointer (some ⟨d, 0, none⟩), actC 5 a n false] w (DoneC q r d c most K (E.crash []) L w) := by
  have HO := hid (hO.alloc (.cells #[.int .i64 5, .int .i64 a, .int .i64 n, .bool false] 54))
  have HK := hid ((Keep.refl w).alloc (.cells #[.int .i64 5, .int .i64 a, .int .i64 n, .bool false] 54))
  have HBB := hid hB
  have HI := hid hI
  have HM := hid hm
  have HN := hid hn
  have HKK := hid hk
  clear hB hO hI hm hn hk
  unfold actC
  go_enter Try.func24, Try.ntmps24
  go_upto_region 1 with fail
  generalize w.heap.size = b at *
  generalize w.alloc (.cells #[.int .i64 5, .int .i64 a, .int .i64 n, .bool false] 54) = w1 at *
  have hc0 : w1.cell? ⟨b, 0, none⟩ = some (.int .i64 5) := HO.out.cells 0
  have hc1 : w1.cell? ⟨b, 1, none⟩ = some (.int .i64 a) := HO.out.cells 1
  have hc2 : w1.cell? ⟨b, 2, none⟩ = some (.int .i64 n) := HO.out.cells 2
  have hc3 : w1.cell? ⟨b, 3, none⟩ = some (.bool false) := HO.out.cells 3
  have HO2 := hid (HO.out.re 5 [2, 1, 0, 3, 4])
  have HCR := hid (fun (w' : World) (l : List HP) (h : Has w' (Rcc r (rP c) most K :: l)) => show w'.cell? ⟨r, 0, none⟩ = some (rP c) from by
    obtain ⟨v0, T0, B0, hT0, h0⟩ := rcc_iff.1 h
    exact h0.cells 0)
  clear HO
  go_wp2_with fail
  refine (kCrash0 d E w1 _ HO2.out).mono ?_
  rintro e w3 ⟨rfl, h3, k3⟩
  have HO3 := hid (h3.re 5 [4, 0, 1, 2, 3])
  have HK3 := hid (HK.out.trans k3)
  have hr0 := HCR.out _ _ (h3.re 5 [3, 0, 1, 2, 4])
  clear h3 k3 HO2 HK
  try dsimp only
  go_wp2_with fail
  refine (rkCrash c E w3 _ HO3.out (.slice none 0 0) [] (fun w' h => (h.row_nil 4 1).rd)).mono ?_
  rintro e w4 ⟨rfl, h4, k4⟩
  have HO4 := hid h4
  have HK4 := hid (HK3.out.trans k4)
  clear h4 k4 HO3 HK3 hr0
  try dsimp only
  go_wp2_with fail
  go_ret
  exact ⟨rfl, HO4.out.re 5 [2, 1, 4, 0], HK4.out⟩
set_option maxRecDepth 100000 in
set_option maxHeartbeats 4000000 in
theorem cdNo (hI : CI most E.firm.length K) (hm : 0 ≤ most ∧ most ≤ 1000000) (hn : E.firm.length ≤ 2000) (hB : Bd E k) (hk : k ≤ 1000) (do_ : Int) (h0 : (do_ == 0) = false) (h1 : (do_ == 1) = false) (h2 : (do_ == 2) = false) (h3 : (do_ == 3) = false) (h4 : (do_ == 4) = false) (h5 : (do_ == 5) = false) (hO : Has w (Cch q (dP d) most K :: Dk d E :: Rcc r (rP c) most K :: RDk c E :: L)) :
    Calls Try.prog 24 #[.pointer (some ⟨q, 0, none⟩), .pointer (some ⟨r, 0, none⟩), .pointer (some ⟨d, 0, none⟩), actC do_ a n on] w (DoneC q r d c most K E L w) := by
  have HO := hid (hO.alloc (.cells #[.int .i64 do_, .int .i64 a, .int .i64 n, .bool on] 54))
  have HK := hid ((Keep.refl w).alloc (.cells #[.int .i64 do_, .int .i64 a, .int .i64 n, .bool on] 54))
  have HBB := hid hB
  have HI := hid hI
  have HM := hid hm
  have HN := hid hn
  have HKK := hid hk
  clear hB hO hI hm hn hk
  unfold actC
  go_enter Try.func24, Try.ntmps24
  go_upto_region 1 with fail
  generalize w.heap.size = b at *
  generalize w.alloc (.cells #[.int .i64 do_, .int .i64 a, .int .i64 n, .bool on] 54) = w1 at *
  have hc0 : w1.cell? ⟨b, 0, none⟩ = some (.int .i64 do_) := HO.out.cells 0
  have hc1 : w1.cell? ⟨b, 1, none⟩ = some (.int .i64 a) := HO.out.cells 1
  have hc2 : w1.cell? ⟨b, 2, none⟩ = some (.int .i64 n) := HO.out.cells 2
  have hc3 : w1.cell? ⟨b, 3, none⟩ = some (.bool on) := HO.out.cells 3
  go_wp2_with fail
  go_ret
  exact ⟨rfl, HO.out.re 5 [1, 2, 3, 4], HK.out⟩
end
end Go.Proofs.Ytajlikakbihgbaa
/- One act of both caches, whichever. -/
namespace Go.Proofs.Ytajlikakbihgbaa
open Go.RowKit Go.Own Go.Ch Go.Dk
section
variable {q r d c : Nat} {most : Int} {K : List Hb} {E : Bk} {k : Nat} {w : World} {L : List HP}
theorem cdAny (a n : Int) (on : Bool) (do_ : Int) (hI : CI most E.firm.length K) (hm : 0 ≤ most ∧ most ≤ 1000000) (hn : E.firm.length ≤ 2000) (hB : Bd E k) (hk : k ≤ 1000) (hO : Has w (Cch q (dP d) most K :: Dk d E :: Rcc r (rP c) most K :: RDk c E :: L)) :
    Calls Try.prog 24 #[.pointer (some ⟨q, 0, none⟩), .pointer (some ⟨r, 0, none⟩), .pointer (some ⟨d, 0, none⟩), actC do_ a n on] w (DoneC q r d c most (stepC most K E do_ a n on).1 (stepC most K E do_ a n on).2 L w) := by
  unfold stepC
  by_cases h0 : do_ = 0
  · subst h0; exact cdGet q r d c most K E k a n on w L hI hm hn hB hk hO
  rw [if_neg h0]
  by_cases h1 : do_ = 1
  · subst h1; exact cdPut q r d c most K E k a n on w L hI hm hn hB hk hO
  rw [if_neg h1]
  by_cases h2 : do_ = 2
  · subst h2; exact cdPin q r d c most K E k a n on w L hI hm hn hB hk hO
  rw [if_neg h2]
  by_cases h3 : do_ = 3
  · subst h3; exact cdClean q r d c most K E k a n on w L hI hm hn hB hk hO
  rw [if_neg h3]
  by_cases h4 : do_ = 4
  · subst h4; exact cdDrop q r d c most K E k a n on w L hI hm hn hB hk hO
  rw [if_neg h4]
  by_cases h5 : do_ = 5
  · subst h5
    rw [if_pos rfl]
    cases on
    · exact cdCrash q r d c most K E k a n w L hI hm hn hB hk hO
    · exact cdBoot q r d c most K E k a n w L hI hm hn hB hk hO
  rw [if_neg h5]
  exact cdNo q r d c most K E k a n on w L hI hm hn hB hk do_ (by simpa using h0) (by simpa using h1) (by simpa using h2) (by simpa using h3) (by simpa using h4) (by simpa using h5) hO
theorem stepC_E (a n : Int) (on : Bool) (do_ : Int) : ∃ s a' n' sh kp, (stepC most K E do_ a n on).2 = stepBk E s a' n' sh kp ∨ ∃ x b, (stepC most K E do_ a n on).2 = (E.write x b).2 := by
  have hE : ∃ s a' n' sh kp, E = stepBk E s a' n' sh kp ∨ ∃ x b, E = (E.write x b).2 := ⟨0, 0, 0, false, [], .inl (by simp [stepBk])⟩
  unfold stepC
  by_cases h3 : do_ = 3
  · subst h3
    simp only [show ¬ (3 : Int) = 0 by omega, show ¬ (3 : Int) = 1 by omega, show ¬ (3 : Int) = 2 by omega, if_false, if_true]
    unfold cleanC
    split
    · split
      · split
        · exact ⟨0, 0, 0, false, [], .inr ⟨_, _, rfl⟩⟩
        · exact hE
      · exact hE
    · exact hE
  by_cases h5 : do_ = 5
  · subst h5
    simp only [show ¬ (5 : Int) = 0 by omega, show ¬ (5 : Int) = 1 by omega, show ¬ (5 : Int) = 2 by omega, show ¬ (5 : Int) = 3 by omega, show ¬ (5 : Int) = 4 by omega, if_false, if_true]
    cases on
    · exact ⟨4, 0, 0, false, [], .inl (by simp [stepBk])⟩
    · exact ⟨5, 0, 0, false, [], .inl (by simp [stepBk])⟩
  rw [if_neg h3, if_neg h5]
  by_cases h0 : do_ = 0
  · rw [if_pos h0]; exact hE
  rw [if_neg h0]
  by_cases h1 : do_ = 1
  · rw [if_pos h1]; exact hE
  rw [if_neg h1]
  by_cases h2 : do_ = 2
  · rw [if_pos h2]; exact hE
  rw [if_neg h2]
  by_cases h4 : do_ = 4
  · rw [if_pos h4]; exact hE
  rw [if_neg h4]; exact hE
theorem stepC_bd (hB : Bd E k) (a n : Int) (on : Bool) (do_ : Int) : Bd (stepC most K E do_ a n on).2 (k + 1) ∧ (stepC most K E do_ a n on).2.firm.length = E.firm.length := by
  obtain ⟨s, a', n', sh, kp, h | ⟨x, b, h⟩⟩ := stepC_E (most := most) (K := K) (E := E) a n on do_
  · rw [h]; exact ⟨hB.step s a' n' sh kp, step_len E s a' n' sh kp⟩
  · rw [h]; exact ⟨hB.write x b, write_len E x b⟩
theorem stepC_ci (hI : CI most E.firm.length K) (hb : ∀ a, (E.read a).2.length ≤ 1000) (a n : Int) (on : Bool) (do_ : Int) : CI most E.firm.length (stepC most K E do_ a n on).1 := by
  unfold stepC
  by_cases h0 : do_ = 0
  · rw [if_pos h0]; exact CI.get hI (hb a)
  rw [if_neg h0]
  by_cases h1 : do_ = 1
  · rw [if_pos h1]; exact CI.putC hI _ (fill_len n 128)
  rw [if_neg h1]
  by_cases h2 : do_ = 2
  · rw [if_pos h2]; exact CI.pin hI on
  rw [if_neg h2]
  by_cases h3 : do_ = 3
  · rw [if_pos h3]; exact CI.clean hI
  rw [if_neg h3]
  by_cases h4 : do_ = 4
  · rw [if_pos h4]; exact hI.drop _
  rw [if_neg h4]
  by_cases h5 : do_ = 5
  · rw [if_pos h5]; exact hI
  rw [if_neg h5]; exact hI
end
end Go.Proofs.Ytajlikakbihgbaa
/- THE WALK of chapter 18's 'awake'. -/
namespace Go.Proofs.Ytajlikakbihgbaa
open Go.RowKit Go.Own Go.Dk Go.Ch
set_option maxRecDepth 100000 in
set_option maxHeartbeats 8000000 in
theorem awake18 (w : World) (L : List HP) (hO : Has w L) :
    Calls Try.prog 7 #[] w fun e w' => e = .returned (.bool true) ∧ Has w' L ∧ Keep w w' := by
  have HO := hid hO
  clear hO
  generalize hb : fill 3 128 = bs
  have HBL := hid (show bs.length = 128 by rw [← hb]; exact fill128 3)
  have HFILL := hid (fun (w : World) (L : List HP) (hO : Has w L) => show Calls Try.prog 12 #[.int .i64 3, .int .i64 128] w fun e w' => ∃ v, e = .returned v ∧ Has w' (Bytes v bs :: L) ∧ Keep w w' from hb ▸ fillAny 3 128 w L hO (by omega))
  have E1 := hid (Bk.write_ok (D := Bk.zero 4) rfl rfl (a := 2) (by omega) (by decide) (x := bs) HBL.out)
  clear hb
  go_enter Try.func7, Try.ntmps7
  go_wp2_with fail
  refine (kNew 4 w L (by omega) (by omega) HO.out).mono ?_
  rintro e w1 ⟨d, rfl, hO1, hK1⟩
  have HO1 := hid hO1
  have HK1 := hid hK1
  clear hO1 hK1
  try dsimp only
  go_wp2_with fail
  refine (kcNew (dP d) ⟨d, 0, none⟩ rfl 1 w1 _ (by omega) HO1.out).mono ?_
  rintro e w2 ⟨q, rfl, hO2, hK2⟩
  have HO2 := hid hO2
  have HK2 := hid ((HK1.out).trans hK2)
  clear hO2 hK2
  try dsimp only
  go_wp2_with fail
  refine (HFILL.out w2 _ HO2.out).mono ?_
  rintro e w3 ⟨v3, rfl, hO3, hK3⟩
  have HO3 := hid hO3
  have HK3 := hid ((HK2.out).trans hK3)
  clear hO3 hK3
  try dsimp only
  go_wp2_with fail
  refine (kcPut q d 1 [] (Bk.zero 4) 2 v3 bs w3 (Bytes v3 bs :: L) (by decide) (by decide) (by decide) HBL.out (fun w' h => Bytes.rd h) (HO3.out.re 3 [1, 2, 0])).mono ?_
  rintro e w4 ⟨rfl, hO4, hK4⟩
  have HO4 := hid hO4
  have HK4 := hid ((HK3.out).trans hK4)
  clear hO4 hK4
  try dsimp only
  rw [show newK 1 [] ⟨2, bs, true, false⟩ = [⟨2, bs, true, false⟩] from rfl] at HO4
  go_wp2_with fail
  refine (kcGetHit q d 1 [⟨2, bs, true, false⟩] 2 0 w4 _ (by decide) (by simp) (by simp [HBL.out]) rfl (by simp) HO4.out).mono ?_
  rintro e w5 ⟨v5, rfl, hO5, hK5⟩
  have HO5 := hid hO5
  have HK5 := hid ((HK4.out).trans hK5)
  clear hO5 hK5
  try dsimp only
  rw [show newK 1 [⟨2, bs, true, false⟩] ([⟨2, bs, true, false⟩] : List Hb)[0] = [⟨2, bs, true, false⟩] from rfl] at HO5
  rw [show (([⟨2, bs, true, false⟩] : List Hb)[0]).b = bs from rfl] at HO5
  go_wp2_with fail
  refine (kcHeld q (dP d) 1 [⟨2, bs, true, false⟩] w5 _ (by simp) HO5.out.p1).mono ?_
  rintro e w6 ⟨v6, rfl, hO6, hK6⟩
  have HO6 := hid hO6
  have HK6 := hid ((HK5.out).trans hK6)
  clear hO6 hK6
  try dsimp only
  rw [show ([⟨2, bs, true, false⟩] : List Hb).map Hb.at_ = [2] from rfl] at HO6
  go_wp2_with fail
  refine (kcDrop q (dP d) 1 [⟨2, bs, true, false⟩] 9 w6 _ (by omega) (by simp) HO6.out.p1).mono ?_
  rintro e w7 ⟨rfl, hO7, hK7⟩
  have HO7 := hid hO7
  have HK7 := hid ((HK6.out).trans hK7)
  clear hO7 hK7
  try dsimp only
  rw [show dropG Hb.stay 9 [⟨2, bs, true, false⟩] = (9, [⟨2, bs, true, false⟩]) from rfl] at HO7
  rw [show ((([⟨2, bs, true, false⟩] : List Hb).length : Int) - ((dropG Hb.stay 9 [⟨2, bs, true, false⟩]).2.length : Int)) = 0 from rfl]
  go_wp2_with fail
  refine (kcClean q d 1 [⟨2, bs, true, false⟩] (Bk.zero 4) 2 0 w7 (Ints v6 [2] :: Bytes v5 bs :: Bytes v3 bs :: L) (by decide) (by simp) (by decide) (by decide) rfl (by simp) rfl (HO7.out.re 5 [0, 3, 1, 2, 4])).mono ?_
  rintro e w8 ⟨rfl, hO8, hK8⟩
  have HO8 := hid hO8
  have HK8 := hid ((HK7.out).trans hK8)
  clear hO8 hK8
  try dsimp only
  generalize hE : ({ Bk.zero 4 with waits := (Bk.zero 4).waits ++ [(2, bs)], writes := (Bk.zero 4).writes ++ [2] } : Bk) = E at E1
  have X1 := hid (show E.writes = [2] by rw [← hE]; rfl)
  clear hE
  have hw : (Bk.zero 4).write 2 (([⟨2, bs, true, false⟩] : List Hb)[0]).b = (0, E) := E1.out
  rw [hw] at HO8 ⊢
  clear hw
  have HO8 := hid (show Has w8 (Cch q (dP d) 1 [⟨2, bs, false, false⟩] :: Dk d E :: Ints v6 [2] :: Bytes v5 bs :: Bytes v3 bs :: L) from HO8.out)
  go_wp2_with fail
  refine (HFILL.out w8 _ HO8.out).mono ?_
  rintro e w9 ⟨v9, rfl, hO9, hK9⟩
  have HO9 := hid hO9
  have HK9 := hid ((HK8.out).trans hK9)
  clear hO9 hK9
  try dsimp only
  go_wp2_with fail
  refine (sameBytesYes v5 v9 bs w9 (Bytes.rd HO9.out.p4) (Bytes.rd HO9.out)).mono ?_
  rintro e w' ⟨rfl, nq10, rfl⟩
  have HO10 := hid ((HO9.out).drewN nq10)
  have HK10 := hid ((HK9.out).drewN nq10)
  try dsimp only
  generalize w9.drewN nq10 = w10 at *
  go_wp2_with fail
  refine (sameIntsYes v6 _ [2] _ (Ints.rd (HO10.out.alloc' _).p3) (Ints.rd (HO10.out.alloc _).lit)).mono ?_
  rintro e w' ⟨rfl, nq11, rfl⟩
  have HO11 := hid ((HO10.out.alloc' (.cells #[.int .i64 2] 3)).drewN nq11)
  have HK11 := hid ((HK10.out.alloc (.cells #[.int .i64 2] 3)).drewN nq11)
  try dsimp only
  generalize ((w10.alloc (.cells #[.int .i64 2] 3)).drewN nq11) = w11 at *
  go_wp2_with fail
  refine (kcDirty q (dP d) 1 [⟨2, bs, false, false⟩] w11 _ (by simp) HO11.out.p1).mono ?_
  rintro e w12 ⟨v12, rfl, hO12, hK12⟩
  have HO12 := hid hO12
  have HK12 := hid ((HK11.out).trans hK12)
  clear hO12 hK12
  try dsimp only
  rw [show sorted (dirts [⟨2, bs, false, false⟩]) = [] by simp [dirts, sorted]] at HO12
  obtain ⟨p12, c12, rfl, -⟩ := (Ints.rd HO12.out).form
  go_wp2_with fail
  refine (kWrites d E w12 _ HO12.out.p3 (by rw [X1.out]; decide)).mono ?_
  rintro e w13 ⟨v13, rfl, hO13, hK13⟩
  have HO13 := hid hO13
  have HK13 := hid ((HK12.out).trans hK13)
  clear hO13 hK13
  try dsimp only
  rw [X1.out] at HO13
  go_wp2_with fail
  refine (sameIntsYes v13 _ [2] _ (Ints.rd (HO13.out.alloc' _)) (Ints.rd (HO13.out.alloc _).lit)).mono ?_
  rintro e w' ⟨rfl, nq14, rfl⟩
  have HO14 := hid ((HO13.out.alloc' (.cells #[.int .i64 2] 3)).drewN nq14)
  have HK14 := hid ((HK13.out.alloc (.cells #[.int .i64 2] 3)).drewN nq14)
  try dsimp only
  generalize ((w13.alloc (.cells #[.int .i64 2] 3)).drewN nq14) = w14 at *
  go_wp2_with fail
  refine (kcNewNil (.pointer none) 1 w14 (.inl rfl)).mono ?_
  rintro e w' ⟨rfl, rfl⟩
  try dsimp only
  go_wp2_with fail
  refine (kcNewNil (dP d) 0 w14 (.inr ⟨by decide, ⟨d, 0, none⟩, rfl⟩)).mono ?_
  rintro e w' ⟨rfl, rfl⟩
  try dsimp only
  go_wp2_with fail
  go_ret
  exact ⟨rfl, HO14.out.drop.drop.drop.drop.drop.drop.drop.drop, HK14.out⟩
end Go.Proofs.Ytajlikakbihgbaa
