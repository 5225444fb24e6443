/- TEXTS of mine, merged. -/
import Derived.Test.YtfhaedkaedffcaaGreatDoorM16
import Derived.Test.YtfhaedkaedffcaaGreatDoorM5
import Derived.Test.YtfhaedkaedffcaaGreatDoorM6
import Derived.Test.YtfhaedkaedffcaaGreatDoorM7
/- THE WALK of TreeReads. -/
namespace Go.Proofs.YtfhaedkaedffcaaGreatDoor
open Go.RowKit Go.Own
theorem sameT (a b : Value) (xs ys : List Int) (w : World) (h : xs = ys) (ha : Rd w a 1 xs.length (bc xs)) (hb : Rd w b 1 ys.length (bc ys)) :
    Calls Tryz.prog 19 #[a, b] w fun e w' => e = .returned (.bool true) ∧ ∃ n, w' = w.drewN n := by
  refine (sameBytes a b xs ys w ha hb).mono ?_
  rintro e w' ⟨rfl, h2⟩
  exact ⟨by simp [h], h2⟩
theorem lowN (x n : Int) (m : Nat) (w : World) (hn : 1 ≤ n) (hn' : n ≤ 9223372036854775807) (hm : low x n = m) :
    Calls Tryz.prog 20 #[.int .i64 x, .int .i64 n] w fun e w' => e = .returned (.int .i64 (m : Int)) ∧ w = w' := by
  have h := lowAny x n w hn hn'
  rw [hm] at h
  exact h
theorem low_nat (x n : Int) (hn : 1 ≤ n) : ∃ m : Nat, low x n = m ∧ (m : Int) < n := by
  have h := low_in x n hn
  exact ⟨(low x n).toNat, by omega, by omega⟩
theorem rdStart {W w : World} {L : List HP} {v : Value} {size n : Nat} {xs : List Value} (hr : Rd W v size n xs) (h : Has w (old W :: L)) : Rd w v size n xs := hr.cellsOld h.old_look
theorem mxStart {W : World} {mx : Int} (h : W.cell? ⟨0, 0, none⟩ = some (.int .i64 mx)) : MxL mx [old W] := fun w' h' => (World.cell?_of_block (h'.old_look 0 (World.block_lt_of_cell? W _ h))).trans h
theorem bytesApp {w : World} {L : List HP} {v : Value} {n : Nat} {A B : List Int} (h : Has w (row v 5 1 n (bc A ++ bc B) :: L)) (hn : n = (A ++ B).length) : Has w (Bytes v (A ++ B) :: L) := by
  subst hn
  unfold Bytes
  rw [show bc (A ++ B) = bc A ++ bc B by simp [bc]]
  exact h
/-- A piece more. -/
theorem piece_len (b : List Int) (K s : Nat) : (((b.drop K).take s).length : Int) = ((min s (b.length - K) : Nat) : Int) := by
  rw [List.length_take, List.length_drop]
theorem piece (b : List Int) (K s : Nat) (hK : K ≤ b.length) : b.take K ++ (b.drop K).take s = b.take (K + ((b.drop K).take s).length) := by
  rw [List.length_take, List.length_drop]
  have h := List.take_append_drop K (b.take (K + min s (b.length - K)))
  rw [List.take_take, List.drop_take] at h
  rw [← h, show min K (K + min s (b.length - K)) = K by omega, show K + min s (b.length - K) - K = min s (b.length - K) by omega]
  congr 1
  apply List.ext_getElem?
  intro i
  rw [List.getElem?_take, List.getElem?_take]
  by_cases h1 : i < s
  · by_cases h2 : i < min s (b.length - K)
    · rw [if_pos h1, if_pos h2]
    · rw [if_pos h1, if_neg h2, List.getElem?_eq_none (by rw [List.length_drop]; omega)]
  · rw [if_neg h1, if_neg (by omega)]
theorem rWrite (q : Nat) (w : World) (L : List HP) (po : Option Addr) (co : Nat) (ds : List Int) (hds : ds.length ≤ 10000) (hrd : ∀ w', Has w' L → Rd w' (.slice po ds.length co) 1 ds.length (bc ds)) (hO : Has w (Trc q (trF [] [] (tabA ⟨2, 0, 33, true⟩)) :: L)) :
    Calls Tryz.prog 17 #[.pointer (some ⟨q, 0, none⟩), opW 4 0 0 0 0 [] (.slice po ds.length co)] w fun e w' => ∃ p c wr, e = .returned (.agg #[.int .i64 0, .int .i64 ds.length, .int .i64 0, .int .i64 0, .slice p 0 c, .slice none 0 0]) ∧ wr.length ≤ 162 ∧ Has w' (Trc q (trF ds wr (tabA ⟨2, ds.length, 33, true⟩)) :: L) ∧ Keep w w' := by
  refine (fWrite4 q w L (d := []) (wr := []) (fd := 0) (s := ⟨2, 0, 33, true⟩) (by simp) (by simp) (tabF_A rfl (by decide) (by decide)) (look_A rfl) (by decide +kernel) po co hds rfl (by simp) hrd hO).mono ?_
  rintro e w' ⟨p, c, wr', o', rfl, h1, -, -, h2, h3, h4⟩
  have h5 := h2 rfl
  rw [show ((⟨2, 0, 33, true⟩ : Tb.Slot).off + ds.length : Int) = ds.length by simp] at h5
  subst h5
  exact ⟨p, c, wr', rfl, h1, h3, h4⟩
theorem tabR {b : List Int} (hd : b.length ≤ 10000) (K : Nat) (hK : K ≤ b.length) : TabF (tabB ⟨2, b.length, 33, true⟩ ⟨2, K, 0, true⟩) := by
  refine tabF_B rfl ?_ ?_ rfl ?_ ?_ <;> dsimp only <;> omega
section
variable (q : Nat) (w : World) (L : List HP) {b : List Int} {wr : List Bool} (hd : b.length ≤ 10000) (hw : wr.length ≤ 162) (K : Nat) (hK : K ≤ b.length)
include hd hw hK
theorem rRead (st : Nat) (hO : Has w (Trc q (trF b wr (tabB ⟨2, b.length, 33, true⟩ ⟨2, K, 0, true⟩)) :: L)) :
    Calls Tryz.prog 17 #[.pointer (some ⟨q, 0, none⟩), opW 3 1 st 0 0 [] nilV] w fun e w' => ∃ p c, e = .returned (.agg #[.int .i64 0, .int .i64 0, .int .i64 0, .int .i64 0, .slice p ((b.drop K).take st).length c, .slice none 0 0]) ∧ Has w' (Bytes (.slice p ((b.drop K).take st).length c) ((b.drop K).take st) :: Trc q (trF b wr (tabB ⟨2, b.length, 33, true⟩ ⟨2, (K + ((b.drop K).take st).length : Nat), 0, true⟩)) :: L) ∧ Keep w w' := by
  have h := fRead3 q w L (by omega : b.length ≤ 100000) hw (tabR hd K hK) (look_B1 (s := ⟨2, b.length, 33, true⟩) (t := ⟨2, K, 0, true⟩) rfl) (n := (st : Int)) (by omega) hO
  exact h
theorem rPread (fr : Nat) (hf : fr ≤ 100000) (hO : Has w (Trc q (trF b wr (tabB ⟨2, b.length, 33, true⟩ ⟨2, K, 0, true⟩)) :: L)) :
    Calls Tryz.prog 17 #[.pointer (some ⟨q, 0, none⟩), opW 5 1 5000 fr 0 [] nilV] w fun e w' => ∃ p c, e = .returned (.agg #[.int .i64 0, .int .i64 0, .int .i64 0, .int .i64 0, .slice p ((b.drop fr).take 5000).length c, .slice none 0 0]) ∧ Has w' (Bytes (.slice p ((b.drop fr).take 5000).length c) ((b.drop fr).take 5000) :: Trc q (trF b wr (tabB ⟨2, b.length, 33, true⟩ ⟨2, K, 0, true⟩)) :: L) ∧ Keep w w' := by
  have h := fRead5 q w L (by omega : b.length ≤ 100000) hw (tabR hd K hK) (look_B1 (s := ⟨2, b.length, 33, true⟩) (t := ⟨2, K, 0, true⟩) rfl) (n := 5000) (off := (fr : Int)) (by omega) (by omega) (by omega) hO
  exact h
theorem rSeek (hO : Has w (Trc q (trF b wr (tabB ⟨2, b.length, 33, true⟩ ⟨2, K, 0, true⟩)) :: L)) :
    Calls Tryz.prog 17 #[.pointer (some ⟨q, 0, none⟩), opW 7 1 1 0 0 [] nilV] w fun e w' => ∃ p c, e = .returned (.agg #[.int .i64 0, .int .i64 K, .int .i64 0, .int .i64 0, .slice p 0 c, .slice none 0 0]) ∧ Has w' (Trc q (trF b wr (tabB ⟨2, b.length, 33, true⟩ ⟨2, K, 0, true⟩)) :: L) ∧ Keep w w' := by
  have h := fSeek1 q w L (by omega : b.length ≤ 100000) hw (tabR hd K hK) (look_B1 (s := ⟨2, b.length, 33, true⟩) (t := ⟨2, K, 0, true⟩) rfl) (by dsimp only; omega) hO
  exact h
theorem rNone (hO : Has w (Trc q (trF b wr (tabB ⟨2, b.length, 33, true⟩ ⟨2, K, 0, true⟩)) :: L)) :
    Calls Tryz.prog 17 #[.pointer (some ⟨q, 0, none⟩), opW 3 0 9 0 0 [] nilV] w fun e w' => ∃ p c, e = .returned (.agg #[.int .i64 0, .int .i64 0, .int .i64 0, .int .i64 0, .slice p 0 c, .slice none 0 0]) ∧ Has w' L ∧ Keep w w' := by
  have h := fRead3 q w L (by omega : b.length ≤ 100000) hw (tabR hd K hK) (look_B0 (s := ⟨2, b.length, 33, true⟩) (t := ⟨2, K, 0, true⟩) rfl) (n := 9) (by omega) hO
  have e : (b.drop (⟨2, b.length, 33, true⟩ : Tb.Slot).off.toNat).take (9 : Int).toNat = [] := by
    dsimp only
    rw [Int.toNat_natCast, List.drop_length, List.take_nil]
  rw [e] at h
  refine h.mono ?_
  rintro e w' ⟨p, c, rfl, h1, h2⟩
  exact ⟨p, c, rfl, h1.drop.drop, h2⟩
end
set_option maxRecDepth 100000 in
set_option maxHeartbeats 8000000 in
theorem readsWalk (mx : Int) (bv : Value) (b : List Int) (step from_ : Int) (W : World) (hmx : W.cell? ⟨0, 0, none⟩ = some (.int .i64 mx)) (hb : Rd W bv 1 b.length (bc b)) :
    Calls Tryz.prog 10 #[bv, .int .i64 step, .int .i64 from_] W fun e w' => e = .returned (.bool true) ∧ Below W.heap.size W w' := by
  obtain ⟨bp, bcp, rfl, hbc, hbl, -⟩ := hb.form
  have HX := hid hb
  have HO := hid (Has.start W)
  have HM := hid (mxStart hmx)
  have hH := fun (w' : World) (h : Has w' [old W]) => rdStart HX.out h
  have HR := hid hH
  clear hb hmx hH
  obtain ⟨s0, hs0, hs1⟩ := low_nat step 200 (by decide)
  obtain ⟨fr, hf0, hf1⟩ := low_nat from_ 1200 (by decide)
  have HS0 := hid hs0
  have HF0 := hid hf0
  clear hs0 hf0
  have hst : ∃ st : Nat, st = 1 + s0 := ⟨_, rfl⟩
  obtain ⟨st, hst⟩ := hst
  have wst : IntKind.i64.wrap (1 + (s0 : Int)) = (st : Int) := by rw [wrapk_in _ (by omega)]; omega
  have hst0 : 1 ≤ st := by omega
  have hst1 : st ≤ 200 := by omega
  clear hst hs1
  by_cases hl : b.length ≤ 1000
  · have hli : ¬ (1000 : Int) < (b.length : Int) := by omega
    have af0 := ansF0
    have af1 := ansF1
    have af4 := ansF4
    go_enter Tryz.func10, Tryz.ntmps10
    go_wp2_with fail
    refine (lowN step 200 s0 W (by decide) (by decide) HS0.out).mono ?_
    rintro e w' ⟨rfl, rfl⟩
    try dsimp only
    go_wp2_with fail
    refine (lowN from_ 1200 fr W (by decide) (by decide) HF0.out).mono ?_
    rintro e w' ⟨rfl, rfl⟩
    try dsimp only
    clear HS0 HF0
    go_wp2_with fail
    refine (tNew W [old W] HO.out).mono ?_
    rintro e w1 ⟨q, rfl, hO1, hK1⟩
    have HO1 := hid hO1
    have HK1 := hid ((Keep.refl W).trans hK1)
    clear hO1 hK1
    try dsimp only
    clear HO
    go_wp2_with fail
    refine (fOpen33 q mx w1 _ HM.out HO1.out).mono ?_
    rintro e w2 ⟨rfl, hO2, hK2⟩
    have HO2 := hid hO2
    have HK2 := hid ((HK1.out).trans hK2)
    clear hO2 hK2
    try dsimp only
    clear HO1 HK1
    go_wp2_with fail
    refine (rWrite q w2 [old W] bp bcp b (by omega) HR.out HO2.out).mono ?_
    rintro e w3 ⟨p3, c3, wr, rfl, hwr, hO3, hK3⟩
    have HO3 := hid hO3
    have HK3 := hid ((HK2.out).trans hK3)
    clear hO3 hK3
    try dsimp only
    clear HO2 HK2
    go_wp2_with fail
    refine (fOpen0 q mx w3 [old W] (by omega) hwr rfl HM.out HO3.out).mono ?_
    rintro e w4 ⟨rfl, hO4, hK4⟩
    have HO4 := hid hO4
    have HK4 := hid ((HK3.out).trans hK4)
    clear hO4 hK4
    try dsimp only
    clear HO3 HK3
    go_wp2_with fail
    go_loopw [9, 8] (fun i v w => ∃ (k K : Nat) (v0 : Value) (w0 : World), v0 = v ∧ w0 = w ∧ k ≤ b.length + 1 ∧ i = .int .i64 k ∧ K ≤ b.length ∧ min k b.length ≤ K ∧ Hid (Has w0 (Bytes v0 (b.take K) :: Trc q (trF b wr (tabB ⟨2, b.length, 33, true⟩ ⟨2, K, 0, true⟩)) :: [old W])) ∧ Hid (Keep W w0)) (fun i _ _ => b.length + 1 - (intOf i).toNat)
    case atStart => exact ⟨0, 0, _, _, rfl, rfl, by omega, rfl, by omega, by omega, hid (HO4.out.row_nil _ _), HK4⟩
    case round =>
      clear HO4 HK4
      obtain ⟨k, K, v0, w0, rfl, rfl, hk, rfl, hK, hkK, HOx, HKx⟩ := hrel
      have htl : (b.take K).length = K := by rw [List.length_take]; omega
      by_cases hlt : k ≤ b.length
      · have hki : (k : Int) ≤ (b.length : Int) := by omega
        go_wp2_with fail
        refine (rRead q w0 (Bytes v0 (b.take K) :: [old W]) (by omega) hwr K hK st (HOx.out.re 3 [1, 0, 2])).mono ?_
        rintro e w5 ⟨p5, c5, rfl, hO5, hK5⟩
        have HO5 := hid hO5
        have HK5 := hid ((HKx.out).trans hK5)
        clear hO5 hK5
        try dsimp only
        clear HOx HKx
        have hpl := piece_len b K st
        have hpc := piece b K st hK
        generalize (b.drop K).take st = X at *
        have hxs : ¬ (st : Int) < (X.length : Int) := by omega
        obtain ⟨K2, hK2⟩ : ∃ K2, K + X.length = K2 := ⟨_, rfl⟩
        rw [hK2] at HO5 hpc
        have HK2 := hid (show K2 ≤ b.length ∧ min (k + 1) b.length ≤ K2 by omega)
        have hXl : X.length ≤ 1000 := by omega
        clear hpl hK2
        go_upto_region 12 with fail
        have HP5 := hid (HO5.out.alloc (.cells #[.int .i64 0, .int .i64 0, .int .i64 0, .int .i64 0, .slice p5 X.length c5, .slice none 0 0] 29)).p1
        have HQ5 := hid (HK5.out.alloc (.cells #[.int .i64 0, .int .i64 0, .int .i64 0, .int .i64 0, .slice p5 X.length c5, .slice none 0 0] 29))
        clear HO5 HK5
        generalize w5.alloc (.cells #[.int .i64 0, .int .i64 0, .int .i64 0, .int .i64 0, .slice p5 X.length c5, .slice none 0 0] 29) = y5 at *
        generalize w5.heap.size = g5 at *
        have hc0 : y5.cell? ⟨g5, 0, none⟩ = some (.int .i64 0) := HP5.out.p1.cells 0
        have hc4 : y5.cell? ⟨g5, 4, none⟩ = some (.slice p5 X.length c5) := HP5.out.p1.cells 4
        go_wp2_with (at_builtin; refine wpList_appendA rfl _ _ _ rfl Tryz.underlying22 infoU8 rfl (by decide) (HP5.out.re 5 [3, 0, 1, 2, 4]) rfl _ X.length (bc X) rfl (Bytes.rd HP5.out) (bc_one _) (le_maxLen (by omega)) (by omega) ?_)
        intro v6 w6 hO6 hK6
        have HO6 := hid (show Has w6 (Bytes v6 (b.take K2) :: Trc q (trF b wr (tabB ⟨2, b.length, 33, true⟩ ⟨2, K2, 0, true⟩)) :: [old W]) from by
          rw [← hpc]
          exact bytesApp (hO6.re 5 [0, 3, 4]) (by rw [List.length_append, htl]))
        have HK6 := hid (HQ5.out.trans hK6)
        clear hO6 hK6 HP5 HQ5 hpc
        go_wp2_with fail
        go_roundw
        case rel => exact ⟨k + 1, K2, _, _, rfl, rfl, by omega, by go_num, HK2.out.1, HK2.out.2, HO6, HK6⟩
        case measure => simp [intOf]; omega
      · obtain rfl : k = b.length + 1 := by omega
        obtain rfl : K = b.length := by omega
        have hki : ¬ ((b.length + 1 : Nat) : Int) ≤ (b.length : Int) := by omega
        rw [List.take_length] at HOx
        go_wp2_with fail
        refine (rPread q w0 (Bytes v0 b :: [old W]) (by omega) hwr b.length (by omega) fr (by omega) (HOx.out.re 3 [1, 0, 2])).mono ?_
        rintro e w5 ⟨p5, c5, rfl, hO5, hK5⟩
        have HO5 := hid hO5
        have HK5 := hid ((HKx.out).trans hK5)
        clear hO5 hK5
        try dsimp only
        clear HOx HKx
        have hrest : (b.drop fr).take 5000 = b.drop (min fr b.length) := by
          rw [List.take_of_length_le (by rw [List.length_drop]; omega)]
          rcases Nat.le_total fr b.length with h | h
          · rw [Nat.min_eq_left h]
          · rw [Nat.min_eq_right h, List.drop_of_length_le h, List.drop_of_length_le (Nat.le_refl _)]
        rw [hrest] at HO5 ⊢
        have hmf : ∃ m, min fr b.length = m := ⟨_, rfl⟩
        obtain ⟨m, hm⟩ := hmf
        have hmb : m ≤ b.length := by omega
        have hmi : min (fr : Int) (b.length : Int) = (m : Int) := by omega
        rw [hm] at HO5 ⊢
        have hDl : (b.drop m).length = b.length - m := List.length_drop ..
        have HDL := hid hDl
        clear hDl
        generalize hD : b.drop m = D at *
        go_upto_region 16 with fail
        have HP5 := hid (HO5.out.alloc (.cells #[.int .i64 0, .int .i64 0, .int .i64 0, .int .i64 0, .slice p5 D.length c5, .slice none 0 0] 29)).p1
        have HQ5 := hid (HK5.out.alloc (.cells #[.int .i64 0, .int .i64 0, .int .i64 0, .int .i64 0, .slice p5 D.length c5, .slice none 0 0] 29))
        clear HO5 HK5
        generalize w5.alloc (.cells #[.int .i64 0, .int .i64 0, .int .i64 0, .int .i64 0, .slice p5 D.length c5, .slice none 0 0] 29) = y5 at *
        generalize w5.heap.size = g5 at *
        go_wp2_with fail
        refine (rSeek q y5 (Bytes (.slice p5 D.length c5) D :: pt g5 (.cells #[.int .i64 0, .int .i64 0, .int .i64 0, .int .i64 0, .slice p5 D.length c5, .slice none 0 0] 29) :: Bytes v0 b :: [old W]) (by omega) hwr b.length (by omega) (HP5.out.re 5 [2, 0, 1, 3, 4])).mono ?_
        rintro e w6 ⟨p6, c6, rfl, hO6, hK6⟩
        have HO6 := hid hO6
        have HK6 := hid ((HQ5.out).trans hK6)
        clear hO6 hK6
        try dsimp only
        clear HP5 HQ5
        go_upto_region 17 with fail
        have HP6 := hid (HO6.out.alloc (.cells #[.int .i64 0, .int .i64 b.length, .int .i64 0, .int .i64 0, .slice p6 0 c6, .slice none 0 0] 29)).p1
        have HQ6 := hid (HK6.out.alloc (.cells #[.int .i64 0, .int .i64 b.length, .int .i64 0, .int .i64 0, .slice p6 0 c6, .slice none 0 0] 29))
        clear HO6 HK6
        generalize w6.alloc (.cells #[.int .i64 0, .int .i64 b.length, .int .i64 0, .int .i64 0, .slice p6 0 c6, .slice none 0 0] 29) = y6 at *
        generalize w6.heap.size = g6 at *
        go_wp2_with fail
        refine (rNone q y6 (pt g6 (.cells #[.int .i64 0, .int .i64 b.length, .int .i64 0, .int .i64 0, .slice p6 0 c6, .slice none 0 0] 29) :: Bytes (.slice p5 D.length c5) D :: pt g5 (.cells #[.int .i64 0, .int .i64 0, .int .i64 0, .int .i64 0, .slice p5 D.length c5, .slice none 0 0] 29) :: Bytes v0 b :: [old W]) (by omega) hwr b.length (by omega) HP6.out).mono ?_
        rintro e w7 ⟨p7, c7, rfl, hO7, hK7⟩
        have HO7 := hid hO7
        have HK7 := hid ((HQ6.out).trans hK7)
        clear hO7 hK7
        try dsimp only
        clear HP6 HQ6
        go_upto_region 18 with fail
        have HP7 := hid (HO7.out.alloc (.cells #[.int .i64 0, .int .i64 0, .int .i64 0, .int .i64 0, .slice p7 0 c7, .slice none 0 0] 29)).p1
        have HQ7 := hid (HK7.out.alloc (.cells #[.int .i64 0, .int .i64 0, .int .i64 0, .int .i64 0, .slice p7 0 c7, .slice none 0 0] 29))
        clear HO7 HK7
        generalize w7.alloc (.cells #[.int .i64 0, .int .i64 0, .int .i64 0, .int .i64 0, .slice p7 0 c7, .slice none 0 0] 29) = y7 at *
        generalize w7.heap.size = g7 at *
        have HF := hid HP7.out.drew
        have HG := hid HQ7.out.drew
        clear HP7 HQ7
        have HS := hid (show ∀ (w' : World), Has w' (pt g6 (.cells #[.int .i64 0, .int .i64 b.length, .int .i64 0, .int .i64 0, .slice p6 0 c6, .slice none 0 0] 29) :: pt g7 (.cells #[.int .i64 0, .int .i64 0, .int .i64 0, .int .i64 0, .slice p7 0 c7, .slice none 0 0] 29) :: Bytes (.slice p5 D.length c5) D :: pt g5 (.cells #[.int .i64 0, .int .i64 0, .int .i64 0, .int .i64 0, .slice p5 D.length c5, .slice none 0 0] 29) :: Bytes v0 b :: [old W]) → w'.cell? ⟨g5, 4, none⟩ = some (.slice p5 D.length c5) ∧ w'.cell? ⟨g6, 1, none⟩ = some (.int .i64 b.length) ∧ w'.cell? ⟨g7, 0, none⟩ = some (.int .i64 0) ∧ w'.cell? ⟨g7, 4, none⟩ = some (.slice p7 0 c7) from fun w' h => ⟨h.p3.cells 4, h.cells 1, h.p1.cells 0, h.p1.cells 4⟩)
        obtain ⟨vp, vc, rfl, hvc, -⟩ := (Bytes.rd HF.out.p4).form
        refine region_text (fun w' => w'.cell? ⟨g5, 4, none⟩ = some (.slice p5 D.length c5) ∧ w'.cell? ⟨g6, 1, none⟩ = some (.int .i64 b.length) ∧ w'.cell? ⟨g7, 0, none⟩ = some (.int .i64 0) ∧ w'.cell? ⟨g7, 4, none⟩ = some (.slice p7 0 c7)) (by kernel_rfl) (by kernel_rfl) (HS.out _ HF.out) ?_
        have hm0 : (0 : Int) ≤ (m : Int) := by omega
        have hmb2 : (m : Int) ≤ (b.length : Int) := by omega
        have hbc2 : (b.length : Int) ≤ (bcp : Int) := by omega
        repeat (first
          | (refine wpL_read (by rfl) (by rfl) ?_ ?_ ?_; rotate_left; (rintro w ⟨z0, z1, z2, z3⟩; go_simp; with_reducible rfl); simp only [Act.put, List.setIfInBounds_toArray, List.set_cons_zero, List.set_cons_succ]) | (refine wpL_skip (by rfl) ?_; simp only [Act.put, List.setIfInBounds_toArray, List.set_cons_zero, List.set_cons_succ]))
        refine wpL_act (by rfl) (by rfl) (fun K hK => ?_)
        go_simp
        refine (sameT _ _ b b _ rfl (Bytes.rd HF.out.p4) (HR.out _ (HF.out.re 6 [5]))).mono ?_
        rintro e w' ⟨rfl, nq8, rfl⟩
        have HO8 := hid ((HF.out).drewN nq8)
        have HK8 := hid ((HG.out).drewN nq8)
        try dsimp only
        refine hK.out _ _ (HS.out _ (HF.out.drewN _)) ?_
        clear hK K
        try simp only [Act.put, List.setIfInBounds_toArray, List.set_cons_zero, List.set_cons_succ]
        generalize y7.drew.drewN nq8 = y8 at *
        clear HF HG
        repeat (first
          | (refine wpL_read (by rfl) (by rfl) ?_ ?_ ?_; rotate_left; (rintro w ⟨z0, z1, z2, z3⟩; go_simp; with_reducible rfl); simp only [Act.put, List.setIfInBounds_toArray, List.set_cons_zero, List.set_cons_succ]) | (refine wpL_skip (by rfl) ?_; simp only [Act.put, List.setIfInBounds_toArray, List.set_cons_zero, List.set_cons_succ]))
        have HD := hid (show Rd y8 _ 1 D.length (bc D) from by
          have h := (HR.out y8 (HO8.out.re 6 [5])).dropS m hmb
          rw [Nat.mul_one] at h
          rw [HDL.out, ← hD, show bc (b.drop m) = (bc b).drop m by simp [bc]]
          exact h)
        refine wpL_act (by rfl) (by rfl) (fun K hK => ?_)
        go_simp
        refine (sameT _ _ D D _ rfl (Bytes.rd HO8.out.p2) HD.out).mono ?_
        rintro e w' ⟨rfl, nq9, rfl⟩
        have HO9 := hid ((HO8.out).drewN nq9)
        have HK9 := hid ((HK8.out).drewN nq9)
        try dsimp only
        refine hK.out _ _ (HS.out _ (HO8.out.drewN _)) ?_
        clear hK K
        try simp only [Act.put, List.setIfInBounds_toArray, List.set_cons_zero, List.set_cons_succ]
        generalize y8.drewN nq9 = y9 at *
        clear HD HO8 HK8
        repeat (first
          | (refine wpL_read (by rfl) (by rfl) ?_ ?_ ?_; rotate_left; (rintro w ⟨z0, z1, z2, z3⟩; go_simp; with_reducible rfl); simp only [Act.put, List.setIfInBounds_toArray, List.set_cons_zero, List.set_cons_succ]) | (refine wpL_skip (by rfl) ?_; simp only [Act.put, List.setIfInBounds_toArray, List.set_cons_zero, List.set_cons_succ]))
        refine wpL_act (by rfl) (by rfl) (fun K hK => ?_)
        go_simp
        refine (awake14 mx y9 _ (((((HM.out.cons _).cons _).cons _).cons _).cons _) HO9.out).mono ?_
        rintro e w10 ⟨rfl, hO10, hK10⟩
        have HO10 := hid hO10
        have HK10 := hid ((HK9.out).trans hK10)
        clear hO10 hK10
        try dsimp only
        refine hK.out _ _ (HS.out _ HO10.out) ?_
        clear hK K
        try simp only [Act.put, List.setIfInBounds_toArray, List.set_cons_zero, List.set_cons_succ]
        repeat (first
          | (refine wpL_read (by rfl) (by rfl) ?_ ?_ ?_; rotate_left; (rintro w ⟨z0, z1, z2, z3⟩; go_simp; with_reducible rfl); simp only [Act.put, List.setIfInBounds_toArray, List.set_cons_zero, List.set_cons_succ]) | (refine wpL_skip (by rfl) ?_; simp only [Act.put, List.setIfInBounds_toArray, List.set_cons_zero, List.set_cons_succ]))
        refine wpL_nil ?_
        go_wp2_with fail
        all_goals go_ret
        all_goals exact ⟨rfl, (HO10.out.re 6 [5]).below HK10.out.os HK10.out.tape HK10.out.output⟩
  · have hli : (1000 : Int) < (b.length : Int) := by omega
    have af0 := ansF0
    have af1 := ansF1
    have af4 := ansF4
    go_enter Tryz.func10, Tryz.ntmps10
    go_wp2_with fail
    refine (awake14 mx W [old W] HM.out HO.out).mono ?_
    rintro e w1 ⟨rfl, hO1, hK1⟩
    have HO1 := hid hO1
    have HK1 := hid ((Keep.refl W).trans hK1)
    clear hO1 hK1
    try dsimp only
    go_wp2_with fail
    go_ret
    exact ⟨rfl, HO1.out.below HK1.out.os HK1.out.tape HK1.out.output⟩
end Go.Proofs.YtfhaedkaedffcaaGreatDoor
/- THE WALK of Fill. -/
namespace Go.Proofs.YtfhaedkaedffcaaGreatDoor
open Go.RowKit Go.Own
/-- Byte k of number n's text. -/
def fb (n : Int) (k : Nat) : Int := (n / 2 ^ (8 * (k % 4)) + (k : Int) * 7) % 256
def fill (n : Int) (sz : Nat) : List Int := (List.range sz).map (fb n)
theorem fill_len (n : Int) (sz : Nat) : (fill n sz).length = sz := by simp [fill]
theorem fill_succ (n : Int) (k : Nat) : fill n (k + 1) = fill n k ++ [(n / 2 ^ (8 * (k % 4)) + (k : Int) * 7) % 256] := by simp [fill, List.range_succ, fb]
theorem fillAny (n : Int) (sz : Nat) (W : World) (L : List HP) (hO : Has W L) (hs : sz ≤ 30000) :
    Calls Tryz.prog 21 #[.int .i64 n, .int .i64 (sz : Int)] W fun e w' => ∃ v, e = .returned v ∧ Has w' (Bytes v (fill n sz) :: L) ∧ Keep W w' := by
  have HO := hid hO
  clear hO
  go_enter Tryz.func21, Tryz.ntmps21
  go_wp2
  go_loopw [6, 5] (fun i v w => ∃ k : Nat, k ≤ sz ∧ i = .int .i64 k ∧ Hid (Has w (Bytes v (fill n k) :: L)) ∧ Hid (Keep W w)) (fun i _ _ => sz - (intOf i).toNat)
  case atStart => exact ⟨0, by omega, rfl, hid (HO.out.row_nil _ _), hid (Keep.refl _)⟩
  case round =>
    obtain ⟨k, hk, rfl, HOw, HK⟩ := hrel
    by_cases hlt : k < sz
    · have hm : 0 ≤ (k : Int) % 4 ∧ (k : Int) % 4 < 4 := by omega
      go_wp2_with (at_builtin; refine wpList_append1 rfl _ _ _ rfl Tryz.underlying22 infoU8 rfl (.int .u8 ((n / 2 ^ (8 * (k % 4)) + (k : Int) * 7) % 256)) (HOw.out.alloc' _) rfl 1 _ rfl (by simp) rfl (le_maxLen (by rw [fill_len]; omega)) (by rw [fill_len]; omega) ?_)
      intro v' w' hO' hK'
      have HO' := hid hO'
      have HK' := hid hK'
      clear hO' hK'
      go_wp2_with fail
      go_roundw
      case rel =>
        refine ⟨k + 1, by omega, by go_num, hid ?_, hid ((HK.out.alloc _).trans HK'.out)⟩
        rw [fill_succ]
        have := HO'.out
        simpa [Bytes, bc_snoc] using this
      case measure => simp [intOf]; omega
    · obtain rfl : k = sz := by omega
      go_wp2_with fail
      go_ret
      exact ⟨_, rfl, HOw.out, HK.out⟩
end Go.Proofs.YtfhaedkaedffcaaGreatDoor
/- THE WALK of TreeAppends. -/
namespace Go.Proofs.YtfhaedkaedffcaaGreatDoor
open Go.RowKit Go.Own
def lowQ : Qc := ⟨[20], fun _ args => .int .i64 (low (intOf (args.getD 0 undef)) (intOf (args.getD 1 undef)))⟩
theorem tabP (o : Nat) (ho : o ≤ 5000) : TabF (tabA ⟨2, o, 41, true⟩) := tabF_A rfl (by dsimp only; omega) (by dsimp only; omega)
section
variable (q : Nat) (w : World) (L : List HP) {d : List Int} {wr : List Bool} (hd : d.length ≤ 5000) (hw : wr.length ≤ 162) (o : Nat) (ho : o ≤ 5000)
include hd hw ho
theorem aSeek (n : Nat) (hn : n ≤ 5000) (hO : Has w (Trc q (trF d wr (tabA ⟨2, o, 41, true⟩)) :: L)) :
    Calls Tryz.prog 17 #[.pointer (some ⟨q, 0, none⟩), opW 7 0 0 n 0 [] nilV] w fun e w' => ∃ p c, e = .returned (.agg #[.int .i64 0, .int .i64 n, .int .i64 0, .int .i64 0, .slice p 0 c, .slice none 0 0]) ∧ Has w' (Trc q (trF d wr (tabA ⟨2, n, 41, true⟩)) :: L) ∧ Keep w w' := by
  have h := fSeek0 q w L (by omega : d.length ≤ 100000) hw (tabP o ho) (look_A (s := ⟨2, o, 41, true⟩) rfl) (off := (n : Int)) (by omega) (by omega) hO
  exact h
theorem aSeek0 (hO : Has w (Trc q (trF d wr (tabA ⟨2, o, 41, true⟩)) :: L)) :
    Calls Tryz.prog 17 #[.pointer (some ⟨q, 0, none⟩), opW 7 0 0 0 0 [] nilV] w fun e w' => ∃ p c, e = .returned (.agg #[.int .i64 0, .int .i64 0, .int .i64 0, .int .i64 0, .slice p 0 c, .slice none 0 0]) ∧ Has w' (Trc q (trF d wr (tabA ⟨2, (0 : Nat), 41, true⟩)) :: L) ∧ Keep w w' := aSeek q w L hd hw o ho 0 (by omega) hO
theorem aWrite (po : Option Addr) (co : Nat) (ds : List Int) (hds : ds.length ≤ 1000) (hrd : ∀ w', Has w' L → Rd w' (.slice po ds.length co) 1 ds.length (bc ds)) (hO : Has w (Trc q (trF d wr (tabA ⟨2, o, 41, true⟩)) :: L)) :
    Calls Tryz.prog 17 #[.pointer (some ⟨q, 0, none⟩), opW 4 0 0 0 0 [] (.slice po ds.length co)] w fun e w' => ∃ p c wr' o', e = .returned (.agg #[.int .i64 0, .int .i64 ds.length, .int .i64 0, .int .i64 0, .slice p 0 c, .slice none 0 0]) ∧ wr'.length ≤ 162 ∧ o' ≤ max o (d.length + ds.length) ∧ Has w' (Trc q (trF (d ++ ds) wr' (tabA ⟨2, (o' : Nat), 41, true⟩)) :: L) ∧ Keep w w' := by
  refine (fWrite4 q w L (by omega : d.length ≤ 100000) hw (tabP o ho) (look_A (s := ⟨2, o, 41, true⟩) rfl) (show andI 41 32 ≠ 0 by decide +kernel) po co (by omega) (by unfold wrO; rw [if_pos (show andI 41 8 ≠ 0 by decide +kernel)]) (by omega) hrd hO).mono ?_
  rintro e w' ⟨p, c, wr', o', rfl, h1, h0, h2, -, h3, h4⟩
  dsimp only at h2
  obtain ⟨n, rfl⟩ : ∃ n : Nat, o' = n := ⟨o'.toNat, by omega⟩
  exact ⟨p, c, wr', n, rfl, h1, by omega, h3, h4⟩
theorem aRead (hO : Has w (Trc q (trF d wr (tabA ⟨2, o, 41, true⟩)) :: L)) :
    Calls Tryz.prog 17 #[.pointer (some ⟨q, 0, none⟩), opW 3 0 37 0 0 [] nilV] w fun e w' => ∃ p c, e = .returned (.agg #[.int .i64 0, .int .i64 0, .int .i64 0, .int .i64 0, .slice p ((d.drop o).take 37).length c, .slice none 0 0]) ∧ Has w' (Bytes (.slice p ((d.drop o).take 37).length c) ((d.drop o).take 37) :: Trc q (trF d wr (tabA ⟨2, (o + ((d.drop o).take 37).length : Nat), 41, true⟩)) :: L) ∧ Keep w w' := by
  have h := fRead3 q w L (by omega : d.length ≤ 100000) hw (tabP o ho) (look_A (s := ⟨2, o, 41, true⟩) rfl) (n := 37) (by omega) hO
  exact h
end
theorem oldCell {W w : World} {L : List HP} {g o : Nat} {v : Value} (h : W.cell? ⟨g, o, none⟩ = some v) (hO : Has w (old W :: L)) : w.cell? ⟨g, o, none⟩ = some v := (World.cell?_of_block (hO.old_look g (World.block_lt_of_cell? W _ h))).trans h
set_option maxRecDepth 100000 in
set_option maxHeartbeats 8000000 in
theorem appendsWalk (mx : Int) (nv : Value) (ns : List Int) (sv : Value) (ks : List Int) (W : World) (hmx : W.cell? ⟨0, 0, none⟩ = some (.int .i64 mx)) (hn : Rd W nv 1 ns.length (ic ns)) (hs : Rd W sv 1 ks.length (ic ks)) :
    Calls Tryz.prog 6 #[nv, sv] W fun e w' => e = .returned (.bool true) ∧ Below W.heap.size W w' := by
  obtain ⟨np, nc, rfl, hnc, hnl, hN⟩ := hn.form
  obtain ⟨sp, sc, rfl, hsc, hsl, hS⟩ := hs.form
  have HN := hid hN
  have HS := hid hS
  have HO := hid (Has.start W)
  have HM := hid (mxStart hmx)
  clear hn hs hN hS hmx
  by_cases hl : ns.length ≤ 12 ∧ ks.length ≤ 12
  · obtain ⟨hl1, hl2⟩ := hl
    have hli : ¬ (12 : Int) < (ns.length : Int) := by omega
    have hlj : ¬ (12 : Int) < (ks.length : Int) := by omega
    have af0 := ansF0
    have af1 := ansF1
    have af4 := ansF4
    go_enter Tryz.func6, Tryz.ntmps6
    go_wp2_with fail
    refine (tNew W [old W] HO.out).mono ?_
    rintro e w1 ⟨q, rfl, hO1, hK1⟩
    have HO1 := hid hO1
    have HK1 := hid ((Keep.refl W).trans hK1)
    clear hO1 hK1
    try dsimp only
    clear HO
    go_wp2_with fail
    refine (fOpen41 q mx w1 _ HM.out HO1.out).mono ?_
    rintro e w2 ⟨rfl, hO2, hK2⟩
    have HO2 := hid hO2
    have HK2 := hid ((HK1.out).trans hK2)
    clear hO2 hK2
    try dsimp only
    clear HO1 HK1
    go_wp2_with fail
    go_loopw [7, 6] (fun i v w => ∃ (k o : Nat) (acc : List Int) (wr : List Bool) (v0 : Value) (w0 : World), v0 = v ∧ w0 = w ∧ k ≤ ns.length ∧ i = .int .i64 k ∧ o ≤ 5000 ∧ acc.length ≤ k * 100 ∧ wr.length ≤ 162 ∧ Hid (Has w0 (Bytes v0 acc :: Trc q (trF acc wr (tabA ⟨2, o, 41, true⟩)) :: [old W])) ∧ Hid (Keep W w0)) (fun i _ _ => ns.length - (intOf i).toNat)
    case atStart => exact ⟨0, 0, [], [], _, _, rfl, rfl, by omega, rfl, by omega, by simp, by simp, hid (HO2.out.row_nil _ _), HK2⟩
    case round =>
      clear HO2 HK2
      obtain ⟨k, o, acc, wr, v0, w0, rfl, rfl, hk, rfl, ho, hacc, hwr, HOw, HKw⟩ := hrel
      obtain ⟨vp, vc, rfl, hvc, -⟩ := (Bytes.rd HOw.out).form
      by_cases hlt : k < ns.length
      · have hki : (k : Int) < (ns.length : Int) := by omega
        have hk0 : (0 : Int) ≤ (k : Int) := by omega
        obtain ⟨g0, o0, rfl, hcn⟩ := HN.out (by omega)
        obtain ⟨x, hx⟩ : ∃ x, ns[k] = x := ⟨_, rfl⟩
        have HC0 := hid (show ∀ (w' : World) (L' : List HP), Has w' (old W :: L') → w'.cell? ⟨g0, o0 + k, none⟩ = some (.int .i64 x) from fun w' L' h => by rw [← hx]; exact oldCell ((hcn k (by omega)).trans (ic_at ns k hlt)) h)
        clear hcn hx
        obtain ⟨sz, hsz, hsz1⟩ := low_nat x 100 (by decide)
        have HZ := hid hsz
        clear hsz
        go_upto_region 10 with fail
        go_cut [56] (fun a wx => a = .bool false ∧ ∃ (o2 : Nat) (w2 : World), w2 = wx ∧ o2 ≤ 5000 ∧ Hid (Has w2 (Bytes (.slice vp acc.length vc) acc :: Trc q (trF acc wr (tabA ⟨2, o2, 41, true⟩)) :: [old W])) ∧ Hid (Keep W w2))
        case first =>
          have HOd := hid HOw.out.drew
          have HKd := hid HKw.out.drew
          clear HOw HKw
          by_cases hsk : k < ks.length
          · have hsi : (k : Int) < (ks.length : Int) := by omega
            obtain ⟨g1, o1, rfl, hcs⟩ := HS.out (by omega)
            obtain ⟨y, hy⟩ : ∃ y, ks[k] = y := ⟨_, rfl⟩
            have HC1 := hid (show ∀ (w' : World) (L' : List HP), Has w' (old W :: L') → w'.cell? ⟨g1, o1 + k, none⟩ = some (.int .i64 y) from fun w' L' h => by rw [← hy]; exact oldCell ((hcs k (by omega)).trans (ic_at ks k hsk)) h)
            clear hcs hy
            obtain ⟨sk, hsk0, hsk1⟩ := low_nat y 500 (by decide)
            have HY := hid hsk0
            clear hsk0
            refine region_textC lowQ (fun w' => w'.cell? ⟨g1, o1 + k, none⟩ = some (.int .i64 y)) (by kernel_rfl) (by kernel_rfl) (HC1.out _ _ HOd.out.p2) ?_
            repeat (first
              | (refine wpL_read (by rfl) (by rfl) ?_ ?_ ?_; rotate_left; (intro w hS; go_simp; with_reducible rfl); simp only [Act.put, List.setIfInBounds_toArray, List.set_cons_zero, List.set_cons_succ]) | (refine wpL_skip (by rfl) ?_; simp only [Act.put, List.setIfInBounds_toArray, List.set_cons_zero, List.set_cons_succ]))
            refine wpL_call (by rfl) (by rfl) 20 #[.int .i64 y, .int .i64 500] (.int .i64 (sk : Int)) (congrArg (Value.int .i64) HY.out) (by intro w hS; go_simp) (fun w' _ => lowN y 500 sk w' (by decide) (by decide) HY.out) ?_
            try simp only [Act.put, List.setIfInBounds_toArray, List.set_cons_zero, List.set_cons_succ]
            repeat (first
              | (refine wpL_read (by rfl) (by rfl) ?_ ?_ ?_; rotate_left; (intro w hS; go_simp; with_reducible rfl); simp only [Act.put, List.setIfInBounds_toArray, List.set_cons_zero, List.set_cons_succ]) | (refine wpL_skip (by rfl) ?_; simp only [Act.put, List.setIfInBounds_toArray, List.set_cons_zero, List.set_cons_succ]))
            refine wpL_act (by rfl) (by rfl) (fun K hK => ?_)
            go_simp
            refine (aSeek q _ _ (by omega) hwr o ho sk (by omega) HOd.out.p1).mono ?_
            rintro e w3 ⟨p3, c3, rfl, hO3, hK3⟩
            have HO3 := hid hO3
            have HK3 := hid ((HKd.out).trans hK3)
            clear hO3 hK3
            try dsimp only
            refine hK.out _ _ (HC1.out _ _ HO3.out.p2) ?_
            clear hK K
            try simp only [Act.put, List.setIfInBounds_toArray, List.set_cons_zero, List.set_cons_succ]
            repeat (first
              | (refine wpL_read (by rfl) (by rfl) ?_ ?_ ?_; rotate_left; (intro w hS; go_simp; with_reducible rfl); simp only [Act.put, List.setIfInBounds_toArray, List.set_cons_zero, List.set_cons_succ]) | (refine wpL_skip (by rfl) ?_; simp only [Act.put, List.setIfInBounds_toArray, List.set_cons_zero, List.set_cons_succ]))
            refine wpL_call (by rfl) (by rfl) 20 #[.int .i64 y, .int .i64 500] (.int .i64 (sk : Int)) (congrArg (Value.int .i64) HY.out) (by intro w hS; go_simp) (fun w' _ => lowN y 500 sk w' (by decide) (by decide) HY.out) ?_
            try simp only [Act.put, List.setIfInBounds_toArray, List.set_cons_zero, List.set_cons_succ]
            repeat (first
              | (refine wpL_read (by rfl) (by rfl) ?_ ?_ ?_; rotate_left; (intro w hS; go_simp; with_reducible rfl); simp only [Act.put, List.setIfInBounds_toArray, List.set_cons_zero, List.set_cons_succ]) | (refine wpL_skip (by rfl) ?_; simp only [Act.put, List.setIfInBounds_toArray, List.set_cons_zero, List.set_cons_succ]))
            refine wpL_nil ?_
            go_wp2_with fail
            go_meet
            exact ⟨rfl, sk, _, rfl, by omega, hid HO3.out.p1, HK3⟩
          · have hsi : ¬ (k : Int) < (ks.length : Int) := by omega
            refine region_textC lowQ (fun w' => True) (by kernel_rfl) (by kernel_rfl) trivial ?_
            repeat (first
              | (refine wpL_read (by rfl) (by rfl) ?_ ?_ ?_; rotate_left; (intro w hS; go_simp; with_reducible rfl); simp only [Act.put, List.setIfInBounds_toArray, List.set_cons_zero, List.set_cons_succ]) | (refine wpL_skip (by rfl) ?_; simp only [Act.put, List.setIfInBounds_toArray, List.set_cons_zero, List.set_cons_succ]))
            refine wpL_nil ?_
            go_wp2_with fail
            go_meet
            exact ⟨rfl, o, _, rfl, by omega, HOd, HKd⟩
        case rest =>
          clear HOw HKw
          obtain ⟨rfl, o2, w2, rfl, ho2, HO2, HK2⟩ := hcut
          go_upto_region 12 with fail
          have HOd := hid HO2.out.drew
          have HKd := hid HK2.out.drew
          clear HO2 HK2
          refine region_textC lowQ (fun w' => w'.cell? ⟨g0, o0 + k, none⟩ = some (.int .i64 x)) (by kernel_rfl) (by kernel_rfl) (HC0.out _ _ HOd.out.p2) ?_
          repeat (first
            | (refine wpL_read (by rfl) (by rfl) ?_ ?_ ?_; rotate_left; (intro w hS; go_simp; with_reducible rfl); simp only [Act.put, List.setIfInBounds_toArray, List.set_cons_zero, List.set_cons_succ]) | (refine wpL_skip (by rfl) ?_; simp only [Act.put, List.setIfInBounds_toArray, List.set_cons_zero, List.set_cons_succ]))
          refine wpL_call (by rfl) (by rfl) 20 #[.int .i64 x, .int .i64 100] (.int .i64 (sz : Int)) (congrArg (Value.int .i64) HZ.out) (by intro w hS; go_simp) (fun w' _ => lowN x 100 sz w' (by decide) (by decide) HZ.out) ?_
          try simp only [Act.put, List.setIfInBounds_toArray, List.set_cons_zero, List.set_cons_succ]
          repeat (first
            | (refine wpL_read (by rfl) (by rfl) ?_ ?_ ?_; rotate_left; (intro w hS; go_simp; with_reducible rfl); simp only [Act.put, List.setIfInBounds_toArray, List.set_cons_zero, List.set_cons_succ]) | (refine wpL_skip (by rfl) ?_; simp only [Act.put, List.setIfInBounds_toArray, List.set_cons_zero, List.set_cons_succ]))
          refine wpL_act (by rfl) (by rfl) (fun K hK => ?_)
          go_simp
          refine (fillAny x sz _ _ HOd.out (by omega)).mono ?_
          rintro e w4 ⟨v4, rfl, hO4, hK4⟩
          have HO4 := hid hO4
          have HK4 := hid ((HKd.out).trans hK4)
          clear hO4 hK4
          try dsimp only
          refine hK.out _ _ (HC0.out _ _ HO4.out.p3) ?_
          clear hK K
          try simp only [Act.put, List.setIfInBounds_toArray, List.set_cons_zero, List.set_cons_succ]
          repeat (first
            | (refine wpL_read (by rfl) (by rfl) ?_ ?_ ?_; rotate_left; (intro w hS; go_simp; with_reducible rfl); simp only [Act.put, List.setIfInBounds_toArray, List.set_cons_zero, List.set_cons_succ]) | (refine wpL_skip (by rfl) ?_; simp only [Act.put, List.setIfInBounds_toArray, List.set_cons_zero, List.set_cons_succ]))
          refine wpL_nil ?_
          clear HOd HKd
          obtain ⟨fp, fc, rfl, -⟩ := (Bytes.rd HO4.out).form
          have HFL := hid (show (fill x sz).length ≤ 100 by rw [fill_len]; omega)
          generalize fill x sz = F at *
          go_wp2_with fail
          refine (aWrite q w4 (Bytes (.slice fp F.length fc) F :: Bytes (.slice vp acc.length vc) acc :: [old W]) (by omega) hwr o2 ho2 fp fc F (by have := HFL.out; omega) (fun w' h => Bytes.rd h) (HO4.out.re 4 [2, 0, 1, 3])).mono ?_
          rintro e w5 ⟨p5, c5, wr5, o5, rfl, hwr5, ho5, hO5, hK5⟩
          have HO5 := hid hO5
          have HK5 := hid ((HK4.out).trans hK5)
          clear hO5 hK5
          try dsimp only
          clear HO4 HK4
          go_wp2_with (at_builtin; refine wpList_appendA rfl _ _ _ rfl Tryz.underlying22 infoU8 rfl (by decide) (HO5.out.re 4 [2, 1, 0, 3]) rfl _ F.length (bc F) rfl (Bytes.rd HO5.out.p1) (bc_one _) (le_maxLen (by have := HFL.out; omega)) (by have := HFL.out; omega) ?_)
          intro v6 w6 hO6 hK6
          have HO6 := hid (show Has w6 (Bytes v6 (acc ++ F) :: Trc q (trF (acc ++ F) wr5 (tabA ⟨2, o5, 41, true⟩)) :: [old W]) from by
            exact bytesApp (hO6.re 4 [0, 2, 3]) (by rw [List.length_append]))
          have HK6 := hid (HK5.out.trans hK6)
          clear hO6 hK6 HO5 HK5
          go_wp2_with fail
          go_roundw
          case rel => exact ⟨k + 1, o5, acc ++ F, wr5, _, _, rfl, rfl, by omega, by go_num, by have := HFL.out; omega, by have := HFL.out; rw [List.length_append]; omega, hwr5, HO6, HK6⟩
          case measure => simp [intOf]; omega
      · obtain rfl : k = ns.length := by omega
        have hki : ¬ (ns.length : Int) < (ns.length : Int) := by omega
        go_wp2_with fail
        refine (aSeek0 q w0 (Bytes (.slice vp acc.length vc) acc :: [old W]) (by omega) hwr o ho (HOw.out.re 3 [1, 0, 2])).mono ?_
        rintro e w3 ⟨p3, c3, rfl, hO3, hK3⟩
        have HO3 := hid hO3
        have HK3 := hid ((HKw.out).trans hK3)
        clear hO3 hK3
        try dsimp only
        clear HOw HKw
        go_wp2_with fail
        go_loopw [10, 9] (fun i v w => ∃ (j K : Nat) (v1 : Value) (w1 : World), v1 = v ∧ w1 = w ∧ j ≤ 60 ∧ i = .int .i64 j ∧ K ≤ acc.length ∧ min (j * 37) acc.length ≤ K ∧ Hid (Has w1 (Bytes v1 (acc.take K) :: Trc q (trF acc wr (tabA ⟨2, K, 41, true⟩)) :: Bytes (.slice vp acc.length vc) acc :: [old W])) ∧ Hid (Keep W w1)) (fun i _ _ => 60 - (intOf i).toNat)
        case atStart => exact ⟨0, 0, _, _, rfl, rfl, by omega, rfl, by omega, by omega, hid (HO3.out.row_nil _ _), HK3⟩
        case round =>
          clear HO3 HK3
          obtain ⟨j, K, v1, w1, rfl, rfl, hj, rfl, hK, hjK, HOx, HKx⟩ := hrel
          by_cases hlt : j < 60
          · have hji : (j : Int) < 60 := by omega
            go_wp2_with fail
            refine (aRead q w1 (Bytes v1 (acc.take K) :: Bytes (.slice vp acc.length vc) acc :: [old W]) (by omega) hwr K (by omega) (HOx.out.re 4 [1, 0, 2, 3])).mono ?_
            rintro e w5 ⟨p5, c5, rfl, hO5, hK5⟩
            have HO5 := hid hO5
            have HK5 := hid ((HKx.out).trans hK5)
            clear hO5 hK5
            try dsimp only
            clear HOx HKx
            have hpl := piece_len acc K 37
            have hpc := piece acc K 37 hK
            generalize (acc.drop K).take 37 = X at *
            obtain ⟨K2, hK2⟩ : ∃ K2, K + X.length = K2 := ⟨_, rfl⟩
            rw [hK2] at HO5 hpc
            have HK2 := hid (show K2 ≤ acc.length ∧ min ((j + 1) * 37) acc.length ≤ K2 by omega)
            have hXl : X.length ≤ 37 := by omega
            clear hpl hK2
            have htl : (acc.take K).length = K := by rw [List.length_take]; omega
            go_wp2_with (at_builtin; refine wpList_appendA rfl _ _ _ rfl Tryz.underlying22 infoU8 rfl (by decide) (HO5.out.re 5 [2, 0, 1, 3, 4]) rfl _ X.length (bc X) rfl (Bytes.rd HO5.out) (bc_one _) (le_maxLen (by omega)) (by omega) ?_)
            intro v6 w6 hO6 hK6
            have HO6 := hid (show Has w6 (Bytes v6 (acc.take K2) :: Trc q (trF acc wr (tabA ⟨2, K2, 41, true⟩)) :: Bytes (.slice vp acc.length vc) acc :: [old W]) from by
              rw [← hpc]
              exact bytesApp (hO6.re 5 [0, 2, 3, 4]) (by rw [List.length_append, htl]))
            have HK6 := hid (HK5.out.trans hK6)
            clear hO6 hK6 HO5 HK5 hpc
            go_wp2_with fail
            go_roundw
            case rel => exact ⟨j + 1, K2, _, _, rfl, rfl, by omega, by go_num, HK2.out.1, HK2.out.2, HO6, HK6⟩
            case measure => simp [intOf]; omega
          · obtain rfl : j = 60 := by omega
            rw [show ((60 : Nat) : Int) = 60 from rfl]
            obtain rfl : K = acc.length := by omega
            go_wp2_with fail
            refine (sameT _ _ (acc.take acc.length) acc w1 (List.take_length) (Bytes.rd HOx.out) (Bytes.rd HOx.out.p2)).mono ?_
            rintro e w' ⟨rfl, nq6, rfl⟩
            have HO6 := hid ((HOx.out).drewN nq6)
            have HK6 := hid ((HKx.out).drewN nq6)
            try dsimp only
            clear HOx HKx
            generalize w1.drewN nq6 = w6 at *
            go_wp2_with fail
            refine (awake14 mx w6 _ (((HM.out.cons _).cons _).cons _) HO6.out).mono ?_
            rintro e w7 ⟨rfl, hO7, hK7⟩
            have HO7 := hid hO7
            have HK7 := hid ((HK6.out).trans hK7)
            clear hO7 hK7
            try dsimp only
            go_wp2_with fail
            go_ret
            exact ⟨rfl, HO7.out.drop.drop.drop.below HK7.out.os HK7.out.tape HK7.out.output⟩
  · by_cases hl1 : ns.length ≤ 12
    · have hli : ¬ (12 : Int) < (ns.length : Int) := by omega
      have hlj : (12 : Int) < (ks.length : Int) := by omega
      have af0 := ansF0
      have af1 := ansF1
      have af4 := ansF4
      go_enter Tryz.func6, Tryz.ntmps6
      go_wp2_with fail
      refine (awake14 mx W [old W] HM.out HO.out).mono ?_
      rintro e w1 ⟨rfl, hO1, hK1⟩
      have HO1 := hid hO1
      have HK1 := hid ((Keep.refl W).trans hK1)
      clear hO1 hK1
      try dsimp only
      go_wp2_with fail
      go_ret
      exact ⟨rfl, HO1.out.below HK1.out.os HK1.out.tape HK1.out.output⟩
    · have hli : (12 : Int) < (ns.length : Int) := by omega
      have af0 := ansF0
      have af1 := ansF1
      have af4 := ansF4
      go_enter Tryz.func6, Tryz.ntmps6
      go_wp2_with fail
      refine (awake14 mx W [old W] HM.out HO.out).mono ?_
      rintro e w1 ⟨rfl, hO1, hK1⟩
      have HO1 := hid hO1
      have HK1 := hid ((Keep.refl W).trans hK1)
      clear hO1 hK1
      try dsimp only
      go_wp2_with fail
      go_ret
      exact ⟨rfl, HO1.out.below HK1.out.os HK1.out.tape HK1.out.output⟩
end Go.Proofs.YtfhaedkaedffcaaGreatDoor
