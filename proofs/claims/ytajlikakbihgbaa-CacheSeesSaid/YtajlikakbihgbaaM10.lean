/- TEXTS of mine, merged. -/
import Derived.Test.YtajlikakbihgbaaM3
import Derived.Test.YtajlikakbihgbaaM6
import Derived.Test.YtajlikakbihgbaaM9
import Derived.Test.YtajlikakbihgbaaM5
import Derived.Test.YtajlikakbihgbaaM1
/- THE WALK of Fill. -/
namespace Go.Proofs.Ytajlikakbihgbaa
open Go.RowKit Go.Own
/-- Byte k of number n's text. -/
def fb (n : Int) (k : Nat) : Int := (n / 2 ^ (8 * (k % 4)) + (k : Int) * 7) % 256
def fill (n : Int) (sz : Nat) : List Int := (List.range sz).map (fb n)
theorem fill_len (n : Int) (sz : Nat) : (fill n sz).length = sz := by simp [fill]
theorem fill_succ (n : Int) (k : Nat) : fill n (k + 1) = fill n k ++ [(n / 2 ^ (8 * (k % 4)) + (k : Int) * 7) % 256] := by simp [fill, List.range_succ, fb]
theorem fillAny (n : Int) (sz : Nat) (W : World) (L : List HP) (hO : Has W L) (hs : sz ≤ 30000) :
    Calls Try.prog 12 #[.int .i64 n, .int .i64 (sz : Int)] W fun e w' => ∃ v, e = .returned v ∧ Has w' (Bytes v (fill n sz) :: L) ∧ Keep W w' := by
  have HO := hid hO
  clear hO
  go_enter Try.func12, Try.ntmps12
  go_wp2
  go_loopw [6, 5] (fun i v w => ∃ k : Nat, k ≤ sz ∧ i = .int .i64 k ∧ Hid (Has w (Bytes v (fill n k) :: L)) ∧ Hid (Keep W w)) (fun i _ _ => sz - (intOf i).toNat)
  case atStart => exact ⟨0, by omega, rfl, hid (HO.out.row_nil _ _), hid (Keep.refl _)⟩
  case round =>
    obtain ⟨k, hk, rfl, HOw, HK⟩ := hrel
    by_cases hlt : k < sz
    · have hm : 0 ≤ (k : Int) % 4 ∧ (k : Int) % 4 < 4 := by omega
      go_wp2_with (at_builtin; refine wpList_append1 rfl _ _ _ rfl Try.underlying33 infoU8 rfl (.int .u8 ((n / 2 ^ (8 * (k % 4)) + (k : Int) * 7) % 256)) (HOw.out.alloc' _) rfl 1 _ rfl (by simp) rfl (le_maxLen (by rw [fill_len]; omega)) (by rw [fill_len]; omega) ?_)
      intro v' w' hO' hK'
      have HO' := hid hO'
      have HK' := hid hK'
      clear hO' hK'
      go_wp2_with fail
      go_roundw
      case rel =>
        refine ⟨k + 1, by omega, by go_num, hid ?_, hid ((HK.out.alloc _).trans HK'.out)⟩
        rw [fill_succ]
        have := HO'.out
        simpa [Bytes, bc_snoc] using this
      case measure => simp [intOf]; omega
    · obtain rfl : k = sz := by omega
      go_wp2_with fail
      go_ret
      exact ⟨_, rfl, HOw.out, HK.out⟩
end Go.Proofs.Ytajlikakbihgbaa
/- THE PLAIN LAW of DiskPrefix. -/
namespace Go.Proofs.Ytajlikakbihgbaa
open Go.RowKit Go.Own Go.Dk
theorem fill128 (n : Int) : (fill n 128).length = 128 := fill_len n 128
def nth (xs : List Int) (k : Nat) : Int := xs.getD k 0
theorem fillAny128 (n : Int) (W : World) (L : List HP) (hO : Has W L) :
    Calls Try.prog 12 #[.int .i64 n, .int .i64 128] W fun e w' => ∃ p c, e = .returned (.slice p 128 c) ∧ Has w' (Bytes (.slice p 128 c) (fill n 128) :: L) ∧ Keep W w' := by
  refine (fillAny n 128 W L hO (by omega)).mono ?_
  rintro e w' ⟨v, rfl, h, hK⟩
  obtain ⟨p, c, rfl, -⟩ := (Bytes.rd h).form
  rw [fill128] at h ⊢
  exact ⟨p, c, rfl, h, hK⟩
theorem bools_snoc {w : World} {L : List HP} {v : Value} {ks : List Bool} {b : Bool} (h : Has w (row v 4 1 (ks.length + 1) (ks.map Value.bool ++ [Value.bool b]) :: L)) : Has w (Bools v (ks ++ [b]) :: L) := by
  simpa [Bools] using h
/-- What waits behind k writes. -/
def putW (q : Int) (xs : List Int) (k : Nat) : List (Int × List Int) := (List.range k).map fun j => (low (nth xs j) q, fill (j : Int) 128)
def putL (q : Int) (xs : List Int) (k : Nat) : List Int := (List.range k).map fun j => low (nth xs j) q
theorem putW_succ (q : Int) (xs : List Int) (k : Nat) : putW q xs (k + 1) = putW q xs k ++ [(low (nth xs k) q, fill (k : Int) 128)] := by simp [putW, List.range_succ]
theorem putL_succ (q : Int) (xs : List Int) (k : Nat) : putL q xs (k + 1) = putL q xs k ++ [low (nth xs k) q] := by simp [putL, List.range_succ]
theorem putW_len (q : Int) (xs : List Int) (k : Nat) : (putW q xs k).length = k := by simp [putW]
theorem putL_len (q : Int) (xs : List Int) (k : Nat) : (putL q xs k).length = k := by simp [putL]
def keepL (m k : Nat) : List Bool := (List.range k).map fun j => decide (j < m)
theorem keepL_succ (m k : Nat) : keepL m (k + 1) = keepL m k ++ [decide (k < m)] := by simp [keepL, List.range_succ]
theorem keepL_len (m k : Nat) : (keepL m k).length = k := by simp [keepL]
def wantL (q : Int) (Z : List (List Int)) (xs : List Int) (m k : Nat) : List (List Int) := (List.range k).foldl (fun T (j : Nat) => if j < m then blay T (low (nth xs j) q, fill (j : Int) 128) else T) Z
theorem wantL_succ (q : Int) (Z : List (List Int)) (xs : List Int) (m k : Nat) : wantL q Z xs m (k + 1) = if k < m then blay (wantL q Z xs m k) (low (nth xs k) q, fill (k : Int) 128) else wantL q Z xs m k := by simp [wantL, List.range_succ]
theorem wantL_len (q : Int) (Z : List (List Int)) (xs : List Int) (m k : Nat) : (wantL q Z xs m k).length = Z.length := by
  induction k with
  | zero => rfl
  | succ k ih =>
    rw [wantL_succ]
    split
    · rw [blay_len, ih]
    · exact ih
theorem kept_all (q : Int) (Z : List (List Int)) (xs : List Int) (m n : Nat) : blayKept (keepL m n) Z (putW q xs n) = wantL q Z xs m n := by
  have key : ∀ k, k ≤ n → blayKept (keepL m n) Z (putW q xs k) = wantL q Z xs m k := by
    intro k
    induction k with
    | zero => intro _; rfl
    | succ k ih =>
      intro hk
      rw [putW_succ, blayKept_snoc, ih (by omega), wantL_succ, putW_len]
      have : kept (keepL m n) k = decide (k < m) := by
        unfold kept
        rw [keepL_len, Nat.mod_eq_of_lt (by omega)]
        simp [keepL, show k < n by omega, show 0 < n by omega]
      rw [this]
      by_cases h : k < m <;> simp [h]
  exact key n (Nat.le_refl _)
def prefD (xs : List Int) (k : Nat) : Bk := ⟨List.replicate 5 zer, putW 5 xs k, true, none, putL 5 xs k, 0⟩
theorem prefD_write (xs : List Int) (k : Nat) : (prefD xs k).write (low (nth xs k) 5) (fill (k : Int) 128) = (0, prefD xs (k + 1)) := by
  rw [Bk.write_ok rfl rfl (low_in _ 5 (by omega)).1 (low_in _ 5 (by omega)).2 (fill128 _)]
  simp only [prefD, putW_succ, putL_succ]
end Go.Proofs.Ytajlikakbihgbaa
/- THE WALK of chapter 18's 'awake'. -/
namespace Go.Proofs.Ytajlikakbihgbaa
open Go.RowKit Go.Own Go.Dk Go.Ch
theorem _root_.Go.Own.Has.lit {w : World} {b : Nat} {L : List HP} {x : Int} (hO : Has w (pt b (.cells #[.int .i64 x] 3) :: L)) : Has w (Ints (.slice (some ⟨b, 0, none⟩) 1 1) [x] :: L) :=
  hO.row_of (by simp) (le_maxLen (by omega)) rfl rfl rfl
set_option maxRecDepth 100000 in
set_option maxHeartbeats 8000000 in
theorem awake18 (w : World) (L : List HP) (hO : Has w L) :
    Calls Try.prog 7 #[] w fun e w' => e = .returned (.bool true) ∧ Has w' L ∧ Keep w w' := by
  have HO := hid hO
  clear hO
  generalize hb : fill 3 128 = bs
  have HBL := hid (show bs.length = 128 by rw [← hb]; exact fill128 3)
  have HFILL := hid (fun (w : World) (L : List HP) (hO : Has w L) => show Calls Try.prog 12 #[.int .i64 3, .int .i64 128] w fun e w' => ∃ v, e = .returned v ∧ Has w' (Bytes v bs :: L) ∧ Keep w w' from hb ▸ fillAny 3 128 w L hO (by omega))
  have E1 := hid (Bk.write_ok (D := Bk.zero 4) rfl rfl (a := 2) (by omega) (by decide) (x := bs) HBL.out)
  clear hb
  go_enter Try.func7, Try.ntmps7
  go_wp2_with fail
  refine (kNew 4 w L (by omega) (by omega) HO.out).mono ?_
  rintro e w1 ⟨d, rfl, hO1, hK1⟩
  have HO1 := hid hO1
  have HK1 := hid hK1
  clear hO1 hK1
  try dsimp only
  go_wp2_with fail
  refine (kcNew (dP d) ⟨d, 0, none⟩ rfl 1 w1 _ (by omega) HO1.out).mono ?_
  rintro e w2 ⟨q, rfl, hO2, hK2⟩
  have HO2 := hid hO2
  have HK2 := hid ((HK1.out).trans hK2)
  clear hO2 hK2
  try dsimp only
  go_wp2_with fail
  refine (HFILL.out w2 _ HO2.out).mono ?_
  rintro e w3 ⟨v3, rfl, hO3, hK3⟩
  have HO3 := hid hO3
  have HK3 := hid ((HK2.out).trans hK3)
  clear hO3 hK3
  try dsimp only
  go_wp2_with fail
  refine (kcPut q d 1 [] (Bk.zero 4) 2 v3 bs w3 (Bytes v3 bs :: L) (by decide) (by decide) (by decide) HBL.out (fun w' h => Bytes.rd h) (HO3.out.re 3 [1, 2, 0])).mono ?_
  rintro e w4 ⟨rfl, hO4, hK4⟩
  have HO4 := hid hO4
  have HK4 := hid ((HK3.out).trans hK4)
  clear hO4 hK4
  try dsimp only
  rw [show newK 1 [] ⟨2, bs, true, false⟩ = [⟨2, bs, true, false⟩] from rfl] at HO4
  go_wp2_with fail
  refine (kcGetHit q d 1 [⟨2, bs, true, false⟩] 2 0 w4 _ (by decide) (by simp) (by simp [HBL.out]) rfl (by simp) HO4.out).mono ?_
  rintro e w5 ⟨v5, rfl, hO5, hK5⟩
  have HO5 := hid hO5
  have HK5 := hid ((HK4.out).trans hK5)
  clear hO5 hK5
  try dsimp only
  rw [show newK 1 [⟨2, bs, true, false⟩] ([⟨2, bs, true, false⟩] : List Hb)[0] = [⟨2, bs, true, false⟩] from rfl] at HO5
  rw [show (([⟨2, bs, true, false⟩] : List Hb)[0]).b = bs from rfl] at HO5
  go_wp2_with fail
  refine (kcHeld q (dP d) 1 [⟨2, bs, true, false⟩] w5 _ (by simp) HO5.out.p1).mono ?_
  rintro e w6 ⟨v6, rfl, hO6, hK6⟩
  have HO6 := hid hO6
  have HK6 := hid ((HK5.out).trans hK6)
  clear hO6 hK6
  try dsimp only
  rw [show ([⟨2, bs, true, false⟩] : List Hb).map Hb.at_ = [2] from rfl] at HO6
  go_wp2_with fail
  refine (kcDrop q (dP d) 1 [⟨2, bs, true, false⟩] 9 w6 _ (by omega) (by simp) HO6.out.p1).mono ?_
  rintro e w7 ⟨rfl, hO7, hK7⟩
  have HO7 := hid hO7
  have HK7 := hid ((HK6.out).trans hK7)
  clear hO7 hK7
  try dsimp only
  rw [show dropG Hb.stay 9 [⟨2, bs, true, false⟩] = (9, [⟨2, bs, true, false⟩]) from rfl] at HO7
  rw [show ((([⟨2, bs, true, false⟩] : List Hb).length : Int) - ((dropG Hb.stay 9 [⟨2, bs, true, false⟩]).2.length : Int)) = 0 from rfl]
  go_wp2_with fail
  refine (kcClean q d 1 [⟨2, bs, true, false⟩] (Bk.zero 4) 2 0 w7 (Ints v6 [2] :: Bytes v5 bs :: Bytes v3 bs :: L) (by decide) (by simp) (by decide) (by decide) rfl (by simp) rfl (HO7.out.re 5 [0, 3, 1, 2, 4])).mono ?_
  rintro e w8 ⟨rfl, hO8, hK8⟩
  have HO8 := hid hO8
  have HK8 := hid ((HK7.out).trans hK8)
  clear hO8 hK8
  try dsimp only
  generalize hE : ({ Bk.zero 4 with waits := (Bk.zero 4).waits ++ [(2, bs)], writes := (Bk.zero 4).writes ++ [2] } : Bk) = E at E1
  have X1 := hid (show E.writes = [2] by rw [← hE]; rfl)
  clear hE
  have hw : (Bk.zero 4).write 2 (([⟨2, bs, true, false⟩] : List Hb)[0]).b = (0, E) := E1.out
  rw [hw] at HO8 ⊢
  clear hw
  have HO8 := hid (show Has w8 (Cch q (dP d) 1 [⟨2, bs, false, false⟩] :: Dk d E :: Ints v6 [2] :: Bytes v5 bs :: Bytes v3 bs :: L) from HO8.out)
  go_wp2_with fail
  refine (HFILL.out w8 _ HO8.out).mono ?_
  rintro e w9 ⟨v9, rfl, hO9, hK9⟩
  have HO9 := hid hO9
  have HK9 := hid ((HK8.out).trans hK9)
  clear hO9 hK9
  try dsimp only
  go_wp2_with fail
  refine (sameBytesYes v5 v9 bs w9 (Bytes.rd HO9.out.p4) (Bytes.rd HO9.out)).mono ?_
  rintro e w' ⟨rfl, nq10, rfl⟩
  have HO10 := hid ((HO9.out).drewN nq10)
  have HK10 := hid ((HK9.out).drewN nq10)
  try dsimp only
  generalize w9.drewN nq10 = w10 at *
  go_wp2_with fail
  refine (sameIntsYes v6 _ [2] _ (Ints.rd (HO10.out.alloc' _).p3) (Ints.rd (HO10.out.alloc _).lit)).mono ?_
  rintro e w' ⟨rfl, nq11, rfl⟩
  have HO11 := hid ((HO10.out.alloc' (.cells #[.int .i64 2] 3)).drewN nq11)
  have HK11 := hid ((HK10.out.alloc (.cells #[.int .i64 2] 3)).drewN nq11)
  try dsimp only
  generalize ((w10.alloc (.cells #[.int .i64 2] 3)).drewN nq11) = w11 at *
  go_wp2_with fail
  refine (kcDirty q (dP d) 1 [⟨2, bs, false, false⟩] w11 _ (by simp) HO11.out.p1).mono ?_
  rintro e w12 ⟨v12, rfl, hO12, hK12⟩
  have HO12 := hid hO12
  have HK12 := hid ((HK11.out).trans hK12)
  clear hO12 hK12
  try dsimp only
  rw [show sorted (dirts [⟨2, bs, false, false⟩]) = [] by simp [dirts, sorted]] at HO12
  obtain ⟨p12, c12, rfl, -⟩ := (Ints.rd HO12.out).form
  go_wp2_with fail
  refine (kWrites d E w12 _ HO12.out.p3 (by rw [X1.out]; decide)).mono ?_
  rintro e w13 ⟨v13, rfl, hO13, hK13⟩
  have HO13 := hid hO13
  have HK13 := hid ((HK12.out).trans hK13)
  clear hO13 hK13
  try dsimp only
  rw [X1.out] at HO13
  go_wp2_with fail
  refine (sameIntsYes v13 _ [2] _ (Ints.rd (HO13.out.alloc' _)) (Ints.rd (HO13.out.alloc _).lit)).mono ?_
  rintro e w' ⟨rfl, nq14, rfl⟩
  have HO14 := hid ((HO13.out.alloc' (.cells #[.int .i64 2] 3)).drewN nq14)
  have HK14 := hid ((HK13.out.alloc (.cells #[.int .i64 2] 3)).drewN nq14)
  try dsimp only
  generalize ((w13.alloc (.cells #[.int .i64 2] 3)).drewN nq14) = w14 at *
  go_wp2_with fail
  refine (kcNewNil (.pointer none) 1 w14 (.inl rfl)).mono ?_
  rintro e w' ⟨rfl, rfl⟩
  try dsimp only
  go_wp2_with fail
  refine (kcNewNil (dP d) 0 w14 (.inr ⟨by decide, ⟨d, 0, none⟩, rfl⟩)).mono ?_
  rintro e w' ⟨rfl, rfl⟩
  try dsimp only
  go_wp2_with fail
  go_ret
  exact ⟨rfl, HO14.out.drop.drop.drop.drop.drop.drop.drop.drop, HK14.out⟩
end Go.Proofs.Ytajlikakbihgbaa
/- THE PLAIN LAW of a cache of clean sectors. No program in sight. -/
namespace Go.Ch
open Go.Own Go.RowKit Go.Dk
theorem dropG_free {α : Type} (st : α → Bool) (l : List α) (h : ∀ x ∈ l, st x = false) (m : Int) : (dropG st m l).2 = l.drop m.toNat := by
  induction l generalizing m with
  | nil => simp [dropG]
  | cons x l ih =>
    by_cases hm : m ≤ 0
    · rw [dropG_none st (.inl hm)]
      rw [show m.toNat = 0 by omega]
      rfl
    · rw [dropG, if_neg (by rw [h x List.mem_cons_self]; simp; omega), ih (fun y hy => h y (List.mem_cons_of_mem _ hy))]
      rw [show m.toNat = (m - 1).toNat + 1 by omega]
      rfl
theorem erase_nodup : ∀ (W : List Int) (i : Nat) (hi : i < W.length), W.Nodup → W.eraseIdx i = W.filter (fun x => x != W[i])
  | x :: W, 0, _, h => by
    have h1 := List.nodup_cons.1 h
    simp only [List.eraseIdx_cons_zero, List.getElem_cons_zero]
    rw [List.filter_cons_of_neg (by simp)]
    refine (List.filter_eq_self.2 fun y hy => ?_).symm
    simp only [bne_iff_ne, ne_eq]
    rintro rfl
    exact h1.1 hy
  | x :: W, i + 1, hi, h => by
    have h1 := List.nodup_cons.1 h
    simp only [List.eraseIdx_cons_succ, List.getElem_cons_succ]
    rw [List.filter_cons_of_pos (by simp only [bne_iff_ne, ne_eq]; intro e; exact h1.1 (e ▸ List.getElem_mem _)), erase_nodup W i (by simpa using hi) h1.2]
/-- A clean sector of zeros. -/
def cl (b : List Int) (a : Int) : Hb := ⟨a, b, false, false⟩
def gotA (s : Int) (W : List Int) : List Int := W.filter (fun x => x != s) ++ [s]
def stepA (most s : Int) (W : List Int) : List Int := if most < (gotA s W).length then (gotA s W).drop 1 else gotA s W
theorem find_cl {b : List Int} {W : List Int} {s : Int} {i : Nat} (h : find (W.map (cl b)) s = some i) : ∃ hi : i < W.length, W[i] = s := by
  obtain ⟨hi, h1⟩ := find_lt h
  have hi' : i < W.length := by simpa using hi
  refine ⟨hi', ?_⟩
  rw [List.getElem_map] at h1
  exact h1
theorem find_cl_none {b : List Int} {W : List Int} {s : Int} (h : find (W.map (cl b)) s = none) : s ∉ W := by
  unfold find at h
  rw [List.findIdx?_eq_none_iff] at h
  intro hs
  have := h (cl b s) (List.mem_map_of_mem hs)
  simp [cl] at this
theorem addK_cl (b : List Int) (W : List Int) (s : Int) (h : W.Nodup) : addK (W.map (cl b)) (cl b s) = (gotA s W).map (cl b) := by
  unfold addK gotA
  show (match find (W.map (cl b)) s with | some i => _ | none => _) = _
  rcases hf : find (W.map (cl b)) s with _ | i
  · have := find_cl_none hf
    dsimp only
    rw [List.filter_eq_self.2 fun y hy => by simp only [bne_iff_ne, ne_eq]; rintro rfl; exact this hy, List.map_append]
    rfl
  · obtain ⟨hi, rfl⟩ := find_cl hf
    dsimp only
    rw [← map_eraseIdx, erase_nodup W i hi h, List.map_append, List.getElem?_map, List.getElem?_eq_getElem hi]
    rfl
theorem got_len (s : Int) (W : List Int) : (gotA s W).length ≤ W.length + 1 := by
  unfold gotA
  rw [List.length_append, List.length_singleton]
  have := List.length_filter_le (fun x => x != s) W
  omega
theorem cl_stay (b : List Int) (W : List Int) : ∀ x ∈ W.map (cl b), x.stay = false := by
  intro x hx
  obtain ⟨a, -, rfl⟩ := List.mem_map.1 hx
  rfl
theorem settle_cl (most : Int) (b : List Int) (W : List Int) : settleK most (W.map (cl b)) = (W.drop ((W.length : Int) - most).toNat).map (cl b) := by
  unfold settleK
  rw [dropG_free _ _ (cl_stay b W), List.length_map, List.map_drop]
theorem newK_cl (most : Int) (b : List Int) (W : List Int) (s : Int) (h : W.Nodup) (hl : (W.length : Int) ≤ most) : newK most (W.map (cl b)) (cl b s) = (stepA most s W).map (cl b) := by
  unfold newK stepA
  rw [addK_cl b W s h, settle_cl]
  have := got_len s W
  split
  · rw [show (((gotA s W).length : Int) - most).toNat = 1 by omega]
  · rw [show (((gotA s W).length : Int) - most).toNat = 0 by omega]
    rfl
theorem got_nodup {s : Int} {W : List Int} (h : W.Nodup) : (gotA s W).Nodup := by
  unfold gotA
  rw [List.nodup_append]
  refine ⟨h.sublist List.filter_sublist, by simp, ?_⟩
  intro a ha b hb
  rw [List.mem_singleton] at hb
  subst hb
  have := (List.mem_filter.1 ha).2
  simpa using this
theorem step_nodup {most s : Int} {W : List Int} (h : W.Nodup) : (stepA most s W).Nodup := by
  unfold stepA
  split
  · exact (got_nodup h).sublist (List.drop_sublist _ _)
  · exact got_nodup h
theorem step_len {most s : Int} {W : List Int} (hl : (W.length : Int) ≤ most) : ((stepA most s W).length : Int) ≤ most := by
  unfold stepA
  have := got_len s W
  split
  · rw [List.length_drop]; omega
  · omega
theorem dirts_cl (b : List Int) (W : List Int) : (W.map (cl b)).filter Hb.dirty = [] := by
  rw [List.filter_eq_nil_iff]
  intro x hx
  obtain ⟨a, -, rfl⟩ := List.mem_map.1 hx
  simp [cl]
theorem ats_cl (b : List Int) (W : List Int) : (W.map (cl b)).map Hb.at_ = W := by
  rw [List.map_map]
  exact List.map_id' W
theorem dropped_cl (b : List Int) (W : List Int) (m : Int) : dropG Hb.stay m (W.map (cl b)) = ((dropG Hb.stay m (W.map (cl b))).1, (W.drop m.toNat).map (cl b)) := by
  have h := dropG_free Hb.stay (W.map (cl b)) (cl_stay b W) m
  rw [← List.map_drop] at h
  rw [← h]
end Go.Ch
/- THE WALK of Low. -/
namespace Go.Proofs.Ytajlikakbihgbaa
open Go.RowKit Go.Own
theorem lowAny (x n : Int) (w : World) (hn : 1 ≤ n) (hn' : n ≤ 9223372036854775807) :
    Calls Try.prog 10 #[.int .i64 x, .int .i64 n] w fun e w' => e = .returned (.int .i64 (low x n)) ∧ w = w' := by
  go_enter Try.func10, Try.ntmps10
  go_wp2
  go_ret
  exact ⟨by rw [← low_eq x n hn hn']; rfl, rfl⟩
end Go.Proofs.Ytajlikakbihgbaa
/- v[m:] and v[:m] of a slice that is read. -/
namespace Go.Own
open Go.RowKit
theorem Rd.dropS {w : World} {p : Option Addr} {n c size : Nat} {xs : List Value} (h : Rd w (.slice p n c) size n xs) (m : Nat) (hm : m ≤ n) : Rd w (.slice (if c = m then p else p.map fun a => a.add (m * size)) (n - m) (c - m)) size (n - m) (xs.drop (m * size)) := by
  obtain ⟨h1, h2, p', c', e, h3, h4⟩ := h
  injection e with e1 e2 e3
  subst e1 e3
  refine ⟨by rw [List.length_drop, h1, Nat.sub_mul], by omega, _, _, rfl, by omega, fun hp => ?_⟩
  have hlt : 0 < n - m := Nat.pos_of_mul_pos_right hp
  have hs : 0 < size := Nat.pos_of_mul_pos_left hp
  obtain ⟨g, o, rfl, hc⟩ := h4 (Nat.mul_pos (by omega) hs)
  refine ⟨g, o + m * size, ?_, fun j hj => ?_⟩
  · rw [if_neg (by omega), Option.map_some, add_plain]
  · rw [List.getElem?_drop, ← hc (m * size + j) (by rw [Nat.sub_mul] at hj; omega), Nat.add_assoc]
theorem Rd.takeS {w : World} {p : Option Addr} {n c size : Nat} {xs : List Value} (h : Rd w (.slice p n c) size n xs) (m : Nat) (hm : m ≤ n) : Rd w (.slice p m c) size m (xs.take (m * size)) := by
  obtain ⟨h1, h2, p', c', e, h3, h4⟩ := h
  injection e with e1 e2 e3
  subst e1 e3
  have hle := Nat.mul_le_mul_right size hm
  refine ⟨by rw [List.length_take]; omega, by omega, _, _, rfl, by omega, fun hp => ?_⟩
  obtain ⟨g, o, rfl, hc⟩ := h4 (by omega)
  refine ⟨g, o, rfl, fun j hj => ?_⟩
  rw [hc j (by omega), List.getElem?_take, if_pos hj]
end Go.Own
/- CacheAges: of sectors that were got alone as many are held as may be. For every input. -/
namespace Go.Proofs.Ytajlikakbihgbaa
open Go.RowKit Go.Own Go.Dk Go.Ch
/-- An argument that lay there at the start. -/
theorem Rd.start {W w : World} {L : List HP} {v : Value} {size n : Nat} {xs : List Value} (hr : Rd W v size n xs) (h : Has w (old W :: L)) : Rd w v size n xs := hr.cellsOld h.old_look
/-- A slice that is read: of some block that is owned. -/
def Vw (v : Value) (xs : List Int) : HP := ex fun v0 : Value => ex fun xs0 : List Int => star [fact (∀ w L, Has w (Ints v0 xs0 :: L) → Rd w v 1 xs.length (ic xs)), Ints v0 xs0]
theorem vw_iff {w : World} {L : List HP} {v : Value} {xs : List Int} : Has w (Vw v xs :: L) ↔ ∃ v0 xs0, (∀ w L, Has w (Ints v0 xs0 :: L) → Rd w v 1 xs.length (ic xs)) ∧ Has w (Ints v0 xs0 :: L) := by
  unfold Vw
  simp only [Has.ex_iff, Has.star_iff, List.cons_append, List.nil_append, Has.fact_iff]
theorem Vw.rd {w : World} {L : List HP} {v : Value} {xs : List Int} (h : Has w (Vw v xs :: L)) : Rd w v 1 xs.length (ic xs) := by
  obtain ⟨v0, xs0, h1, h2⟩ := vw_iff.1 h
  exact h1 _ _ h2
theorem Vw.of {w : World} {L : List HP} {v : Value} {xs : List Int} (h : Has w (Ints v xs :: L)) : Has w (Vw v xs :: L) := vw_iff.2 ⟨v, xs, fun _ _ h => Ints.rd h, h⟩
theorem Vw.of_drop {w : World} {L : List HP} {p : Option Addr} {c : Nat} {xs : List Int} (m : Nat) (hm : m ≤ xs.length) (h : Has w (Ints (.slice p xs.length c) xs :: L)) : Has w (Vw (.slice (if c = m then p else p.map fun a => a.add m) (xs.length - m) (c - m)) (xs.drop m) :: L) := by
  refine vw_iff.2 ⟨_, xs, fun _ _ h => ?_, h⟩
  have := (Ints.rd h).dropS m hm
  rw [Nat.mul_one] at this
  rw [List.length_drop]
  rw [show ic (xs.drop m) = (ic xs).drop m by simp [ic]]
  exact this
theorem kcGetA (q d : Nat) (most : Int) (W : List Int) (E : Bk) (s : Int) (w : World) (L : List HP) (hm : 0 ≤ most ∧ most ≤ 1000000) (hn : W.Nodup) (hl : (W.length : Int) ≤ most) (hl2 : W.length ≤ 10000) (hw : E.waits.length ≤ 1000000000) (hE : E.read s = (0, zer)) (hO : Has w (Cch q (dP d) most (W.map (cl zer)) :: Dk d E :: L)) :
    Calls Try.prog 15 #[.pointer (some ⟨q, 0, none⟩), .int .i64 s] w fun e w' => ∃ v', e = .returned (.tuple #[v', .int .i64 0]) ∧ Has w' (Bytes v' zer :: Cch q (dP d) most ((stepA most s W).map (cl zer)) :: Dk d E :: L) ∧ Keep w w' := by
  have hz : zer.length ≤ 1000 := by rw [zer, List.length_replicate]; omega
  have hlen : (W.map (cl zer)).length ≤ 10000 := by simpa using hl2
  rw [← newK_cl most zer W s hn hl]
  rcases hf : find (W.map (cl zer)) s with _ | i
  · have h := kcGetMiss q d most (W.map (cl zer)) E s w L hm hlen hw hf (by rw [hE]) (by rw [hE]; exact hz) hO
    rw [hE] at h
    exact h
  · obtain ⟨hi, hs⟩ := find_cl hf
    have hi2 : i < (W.map (cl zer)).length := by simpa using hi
    have e : (W.map (cl zer))[i] = cl zer s := by rw [List.getElem_map, hs]
    have h := kcGetHit q d most (W.map (cl zer)) s i w (Dk d E :: L) hm hlen (fun x hx => by obtain ⟨a, -, rfl⟩ := List.mem_map.1 hx; exact hz) hf hi2 hO
    rw [e] at h
    exact h
set_option maxRecDepth 100000 in
set_option maxHeartbeats 8000000 in
theorem agesWalk (v : Value) (xs : List Int) (most drop : Int) (W : World) (hr : Rd W v 1 xs.length (ic xs)) :
    Calls Try.prog 4 #[v, .int .i64 most, .int .i64 drop] W fun e w' => e = .returned (.bool true) ∧ Below W.heap.size W w' := by
  obtain ⟨vp, vc, rfl, hvc, hvl, -⟩ := hr.form
  have HR := hid hr
  have HO0 := hid (Has.start W)
  clear hr
  by_cases hbig : 40 < xs.length
  · go_enter Try.func4, Try.ntmps4
    go_wp2_with fail
    refine (awake18 W _ HO0.out).mono ?_
    rintro e w1 ⟨rfl, hO1, hK1⟩
    have HO1 := hid hO1
    have HK1 := hid ((Keep.refl W).trans hK1)
    clear hO1 hK1
    try dsimp only
    go_wp2_with fail
    go_ret
    exact ⟨rfl, HO1.out.below HK1.out.os HK1.out.tape HK1.out.output⟩
  · obtain ⟨m, hm⟩ : ∃ m : Nat, (m : Int) = low most 9 := ⟨(low most 9).toNat, by have := low_in most 9 (by omega); omega⟩
    have hml : m ≤ 8 := by have := low_in most 9 (by omega); omega
    obtain ⟨dr, hdr⟩ : ∃ dr : Nat, (dr : Int) = low drop 12 := ⟨(low drop 12).toNat, by have := low_in drop 12 (by omega); omega⟩
    have hdl : dr ≤ 11 := by have := low_in drop 12 (by omega); omega
    have HM := hid hm
    have HDR := hid hdr
    have hm0 : (0 : Int) ≤ (m : Int) := by omega
    have hm8 : (m : Int) ≤ 8 := by omega
    clear hm hdr
    go_enter Try.func4, Try.ntmps4
    go_wp2_with fail
    refine (lowAny most 9 W (by omega) (by omega)).mono ?_
    rintro e w' ⟨rfl, rfl⟩
    try dsimp only
    rw [← HM.out]
    go_wp2_with fail
    refine (lowAny drop 12 W (by omega) (by omega)).mono ?_
    rintro e w' ⟨rfl, rfl⟩
    try dsimp only
    rw [← HDR.out]
    go_wp2_with fail
    refine (kNew 10 W _ (by omega) (by omega) HO0.out).mono ?_
    rintro e w1 ⟨d, rfl, hO1, hK1⟩
    have HO1 := hid hO1
    have HK1 := hid ((Keep.refl W).trans hK1)
    clear hO1 hK1
    try dsimp only
    have hmo : (1 : Int) ≤ 1 + (m : Int) := by omega
    go_wp2_with fail
    refine (kcNew (dP d) ⟨d, 0, none⟩ rfl (1 + (m : Int)) w1 _ hmo HO1.out).mono ?_
    rintro e w2 ⟨q, rfl, hO2, hK2⟩
    have HO2 := hid hO2
    have HK2 := hid ((HK1.out).trans hK2)
    clear hO2 hK2
    try dsimp only
    have HO3 := hid (Vw.of (xs := []) (v := .slice none 0 0) (HO2.out.row_nil 3 1))
    clear HO0 HO1 HO2 HK1
    go_wp2_with fail
    go_loopw [9, 10] (fun a i w => ∃ (k : Nat) (Wl : List Int), k ≤ xs.length ∧ i = .int .i64 k ∧ Hid (Wl.Nodup ∧ (Wl.length : Int) ≤ 1 + (m : Int)) ∧ Hid (Has w (Vw a Wl :: Cch q (dP d) (1 + (m : Int)) (Wl.map (cl zer)) :: Dk d (Bk.zero 10) :: [old W])) ∧ Hid (Keep W w)) (fun _ i _ => xs.length - (intOf i).toNat)
    case atStart => exact ⟨0, [], by omega, rfl, hid ⟨List.nodup_nil, by simp; omega⟩, HO3, HK2⟩
    case round =>
      clear HO3 HK2
      obtain ⟨k, Wl, hk, rfl, HWL, HO, HK⟩ := hrel
      obtain ⟨wp, wc, rfl, hwc, -⟩ := (Vw.rd HO.out).form
      have hwl : (Wl.length : Int) ≤ 9 := by have := HWL.out.2; omega
      have HWR := hid (fun (w' : World) (L : List HP) (h : Has w' (Vw (.slice wp Wl.length wc) Wl :: L)) => Vw.rd h)
      by_cases hlt : k < xs.length
      · have hki : (k : Int) < (xs.length : Int) := by omega
        have hk0 : (0 : Int) ≤ (k : Int) := by omega
        obtain ⟨p2, c2, e, -, -, hR⟩ := (Rd.start HR.out HO.out.p3).form
        simp only [Value.slice.injEq, true_and] at e
        obtain ⟨rfl, rfl⟩ := e
        obtain ⟨vg, vo, rfl, hc⟩ := hR (by omega)
        have hck : wr.cell? ⟨vg, vo + k, none⟩ = some (.int .i64 (nth xs k)) := by
          rw [hc k (by omega), ic_at xs k hlt]; simp [nth, hlt]
        clear hR hc
        obtain ⟨s, hs⟩ : ∃ s : Nat, (s : Int) = low (nth xs k) 10 := ⟨(low (nth xs k) 10).toNat, by have := low_in (nth xs k) 10 (by omega); omega⟩
        have hs10 : s < 10 := by have := low_in (nth xs k) 10 (by omega); omega
        have HS := hid hs
        have HE := hid (show (Bk.zero 10).read (s : Int) = (0, zer) from by
          rw [Bk.read_ok rfl (by omega) (by simp [Bk.zero]; omega)]
          congr 1
          show ((List.replicate 10 zer)[(s : Int).toNat]?).getD [] = zer
          rw [List.getElem?_replicate]
          simp [hs10])
        clear hs
        go_wp2_with fail
        refine (lowAny (nth xs k) 10 wr (by omega) (by omega)).mono ?_
        rintro e w' ⟨rfl, rfl⟩
        try dsimp only
        rw [← HS.out]
        clear hck
        go_wp2_with fail
        refine (kcGetA q d (1 + (m : Int)) Wl (Bk.zero 10) s wr _ ⟨by omega, by omega⟩ HWL.out.1 HWL.out.2 (by have := HWL.out.2; omega) (by decide) HE.out HO.out.b2).mono ?_
        rintro e w4 ⟨v4, rfl, hO4, hK4⟩
        have HO4 := hid hO4
        have HK4 := hid ((HK.out).trans hK4)
        clear hO4 hK4
        try dsimp only
        have HOI := hid (show Has w4 (Ints (.slice none 0 0) [] :: Vw (.slice wp Wl.length wc) Wl :: Cch q (dP d) (1 + (m : Int)) ((stepA (1 + (m : Int)) s Wl).map (cl zer)) :: Dk d (Bk.zero 10) :: [old W]) from (HO4.out.drop.p2.row_nil 3 1))
        clear HO HO4 HK HS HE
        go_wp2_with fail
        go_loopw [14, 15] (fun a i w => ∃ j : Nat, j ≤ Wl.length ∧ i = .int .i64 j ∧ Hid (Has w (Ints a ((Wl.take j).filter fun x => x != (s : Int)) :: Vw (.slice wp Wl.length wc) Wl :: Cch q (dP d) (1 + (m : Int)) ((stepA (1 + (m : Int)) s Wl).map (cl zer)) :: Dk d (Bk.zero 10) :: [old W])) ∧ Hid (Keep W w)) (fun _ i _ => Wl.length - (intOf i).toNat)
        case atStart => exact ⟨0, by omega, rfl, HOI, HK4⟩
        case round =>
          clear HOI HK4
          obtain ⟨j, hj, rfl, HO, HK⟩ := hrel
          by_cases hjl : j < Wl.length
          · have hji : (j : Int) < (Wl.length : Int) := by omega
            have hj0 : (0 : Int) ≤ (j : Int) := by omega
            obtain ⟨p2, c2, e, -, -, hR⟩ := (HWR.out _ _ HO.out.p1).form
            simp only [Value.slice.injEq, true_and] at e
            obtain ⟨rfl, rfl⟩ := e
            obtain ⟨gw, ow, rfl, hc⟩ := hR (by omega)
            have hck : wr.cell? ⟨gw, ow + j, none⟩ = some (.int .i64 Wl[j]) := by
              rw [hc j (by omega), ic_at Wl j hjl]
            have HTK := hid (filter_take (fun x => x != (s : Int)) Wl j hjl)
            have HLT := hid hjl
            generalize Wl[j] = y at *
            clear hR hc hjl hj
            by_cases hy : y = (s : Int)
            · subst hy
              rw [if_neg (by simp), List.append_nil] at HTK
              clear HR HWR
              go_wp2_with fail
              refine ⟨⟨j + 1, by have := HLT.out; omega, by go_num, ?_, HK⟩, by have := HLT.out; simp [intOf]; omega⟩
              rw [HTK.out]
              exact HO
            · rw [if_pos (by simpa using hy)] at HTK
              generalize hF : (Wl.take j).filter (fun x => x != (s : Int)) = F at *
              have HFL := hid (show F.length ≤ 100 from by rw [← hF]; refine Nat.le_trans (List.length_filter_le _ _) ?_; rw [List.length_take]; omega)
              clear hF
              have HO2 := hid (HO.out.alloc (.cells #[.int .i64 y] 3)).p1
              have HK2 := hid (HK.out.alloc (.cells #[.int .i64 y] 3))
              clear HO HK HR HWR
              have hcx := HO2.out.p1.cells 0
              go_wp2_with (at_builtin; refine wpList_append1 rfl _ _ _ rfl Try.underlying22 infoInt rfl (.int .i64 y) HO2.out rfl 1 wr.heap.size rfl hcx rfl (le_maxLen (by have := HFL.out; omega)) (by have := HFL.out; omega) ?_)
              intro v5 w5 h5 k5
              have HO5 := hid (show Has w5 (Ints v5 (F ++ [y]) :: Vw (.slice (some ⟨gw, ow, none⟩) Wl.length wc) Wl :: Cch q (dP d) (1 + (m : Int)) ((stepA (1 + (m : Int)) s Wl).map (cl zer)) :: Dk d (Bk.zero 10) :: [old W]) from by
                unfold Ints
                rw [ic_snoc, List.length_append]
                exact h5.p1.drop)
              have HK5 := hid (HK2.out.trans k5)
              clear h5 k5 HO2 HK2 hcx
              go_wp2_with fail
              refine ⟨⟨j + 1, by have := HLT.out; omega, by go_num, ?_, HK5⟩, by have := HLT.out; simp [intOf]; omega⟩
              rw [HTK.out]
              exact HO5
          · obtain rfl : j = Wl.length := by omega
            have hji : ¬ (Wl.length : Int) < (Wl.length : Int) := by omega
            have HT := hid (show Wl.take Wl.length = Wl from List.take_of_length_le (Nat.le_refl _))
            rw [HT.out] at HO
            have HG := hid (show gotA (s : Int) Wl = Wl.filter (fun x => x != (s : Int)) ++ [(s : Int)] from rfl)
            have HGL := hid (got_len (s : Int) Wl)
            generalize hF : Wl.filter (fun x => x != (s : Int)) = F at *
            have HFL := hid (show F.length ≤ 9 from by rw [← hF]; refine Nat.le_trans (List.length_filter_le _ _) ?_; omega)
            have HO2 := hid (HO.out.alloc (.cells #[.int .i64 s] 3)).p1
            have HK2 := hid (HK.out.alloc (.cells #[.int .i64 s] 3))
            clear hF hjl hj HO HK HT
            have hcx := HO2.out.p1.cells 0
            go_wp2_with (at_builtin; refine wpList_append1 rfl _ _ _ rfl Try.underlying22 infoInt rfl (.int .i64 s) HO2.out rfl 1 wr.heap.size rfl hcx rfl (le_maxLen (by have := HFL.out; omega)) (by have := HFL.out; omega) ?_)
            intro v5 w5 h5 k5
            have HO5 := hid (show Has w5 (Ints v5 (gotA (s : Int) Wl) :: Cch q (dP d) (1 + (m : Int)) ((stepA (1 + (m : Int)) s Wl).map (cl zer)) :: Dk d (Bk.zero 10) :: [old W]) from by
              rw [HG.out]
              unfold Ints
              rw [ic_snoc, List.length_append]
              exact h5.p1.drop.p1.drop)
            have HK5 := hid (HK2.out.trans k5)
            clear h5 k5 HO2 HK2 hcx HG HFL
            have HST := hid (show stepA (1 + (m : Int)) s Wl = if 1 + (m : Int) < ((gotA (s : Int) Wl).length : Int) then (gotA (s : Int) Wl).drop 1 else gotA (s : Int) Wl from rfl)
            obtain ⟨np, nc, rfl, hnc, -, hnR⟩ := (Ints.rd HO5.out).form
            have HNR := hid hnR
            clear hnR
            generalize gotA (s : Int) Wl = N at *
            have hnl : (N.length : Int) ≤ 10 := by have := HGL.out; omega
            by_cases hcut : 1 + (m : Int) < (N.length : Int)
            · rw [if_pos hcut] at HST
              have h1n : (1 : Int) ≤ (N.length : Int) := by omega
              have hnc' : (N.length : Int) ≤ (nc : Int) := by omega
              have hnc1 : (1 : Int) ≤ (nc : Int) := by omega
              obtain ⟨ng, no, rfl, -⟩ := HNR.out (by omega)
              have HOV := hid (show Has w5 (Vw (.slice (some ⟨ng, no + 1, none⟩) (N.length - 1) (nc - 1)) (stepA (1 + (m : Int)) s Wl) :: Cch q (dP d) (1 + (m : Int)) ((stepA (1 + (m : Int)) s Wl).map (cl zer)) :: Dk d (Bk.zero 10) :: [old W]) from by
                have h := Vw.of_drop 1 (by omega) HO5.out
                rw [if_neg (by omega), ← HST.out] at h
                exact h)
              have HSL := hid (step_len (s := (s : Int)) HWL.out.2)
              have HSN := hid (step_nodup (most := 1 + (m : Int)) (s := (s : Int)) HWL.out.1)
              clear HO5 HNR
              go_upto_region 25 with fail
              clear HST HGL hcut hnl hnc hnc' hnc1 h1n
              generalize (Value.slice (some ⟨ng, no + 1, none⟩) (N.length - 1) (nc - 1)) = V at *
              generalize stepA (1 + (m : Int)) s Wl = W2 at *
              go_wp2_with fail
              refine (kcHeld q (dP d) (1 + (m : Int)) (W2.map (cl zer)) w5 _ (by rw [List.length_map]; have := HSL.out; omega) HOV.out.p1).mono ?_
              rintro e w6 ⟨v6, rfl, hO6, hK6⟩
              have HO6 := hid hO6
              have HK6 := hid ((HK5.out).trans hK6)
              clear hO6 hK6
              try dsimp only
              rw [ats_cl] at HO6
              go_wp2_with fail
              refine (sameIntsYes v6 V W2 w6 (Ints.rd HO6.out) (Vw.rd HO6.out.p2)).mono ?_
              rintro e w' ⟨rfl, nq7, rfl⟩
              have HO7 := hid ((HO6.out).drewN nq7)
              have HK7 := hid ((HK6.out).drewN nq7)
              try dsimp only
              generalize w6.drewN nq7 = w7 at *
              go_wp2_with fail
              exact ⟨⟨k + 1, W2, by omega, by go_num, hid ⟨HSN.out, HSL.out⟩, hid HO7.out.drop.p1, HK7⟩, by simp [intOf]; omega⟩
            · rw [if_neg hcut] at HST
              have HOV := hid (show Has w5 (Vw (.slice np N.length nc) (stepA (1 + (m : Int)) s Wl) :: Cch q (dP d) (1 + (m : Int)) ((stepA (1 + (m : Int)) s Wl).map (cl zer)) :: Dk d (Bk.zero 10) :: [old W]) from by
                rw [HST.out]
                have h := Vw.of HO5.out
                rw [HST.out] at h
                exact h)
              have HSL := hid (step_len (s := (s : Int)) HWL.out.2)
              have HSN := hid (step_nodup (most := 1 + (m : Int)) (s := (s : Int)) HWL.out.1)
              clear HO5 HNR
              go_upto_region 25 with fail
              clear HST HGL hcut hnl hnc
              generalize (Value.slice np N.length nc) = V at *
              generalize stepA (1 + (m : Int)) s Wl = W2 at *
              go_wp2_with fail
              refine (kcHeld q (dP d) (1 + (m : Int)) (W2.map (cl zer)) w5 _ (by rw [List.length_map]; have := HSL.out; omega) HOV.out.p1).mono ?_
              rintro e w6 ⟨v6, rfl, hO6, hK6⟩
              have HO6 := hid hO6
              have HK6 := hid ((HK5.out).trans hK6)
              clear hO6 hK6
              try dsimp only
              rw [ats_cl] at HO6
              go_wp2_with fail
              refine (sameIntsYes v6 V W2 w6 (Ints.rd HO6.out) (Vw.rd HO6.out.p2)).mono ?_
              rintro e w' ⟨rfl, nq7, rfl⟩
              have HO7 := hid ((HO6.out).drewN nq7)
              have HK7 := hid ((HK6.out).drewN nq7)
              try dsimp only
              generalize w6.drewN nq7 = w7 at *
              go_wp2_with fail
              exact ⟨⟨k + 1, W2, by omega, by go_num, hid ⟨HSN.out, HSL.out⟩, hid HO7.out.drop.p1, HK7⟩, by simp [intOf]; omega⟩
      · obtain rfl : k = xs.length := by omega
        have hki : ¬ (xs.length : Int) < (xs.length : Int) := by omega
        clear hlt hk
        have HDL := hid (dropped_cl zer Wl (dr : Int))
        have HLW := hid (show (Wl.map (cl zer)).length ≤ 10000 by rw [List.length_map]; omega)
        go_wp2_with fail
        refine (kcDrop q (dP d) (1 + (m : Int)) (Wl.map (cl zer)) dr wr _ (by omega) HLW.out HO.out.p1).mono ?_
        rintro e w4 ⟨rfl, hO4, hK4⟩
        have HO4 := hid hO4
        have HK4 := hid ((HK.out).trans hK4)
        clear hO4 hK4
        try dsimp only
        have hn : ((Wl.map (cl zer)).length : Int) - ((dropG Hb.stay (dr : Int) (Wl.map (cl zer))).2.length : Int) = ((min dr Wl.length : Nat) : Int) := by
          rw [HDL.out]
          dsimp only
          rw [List.length_map, List.length_map, List.length_drop]
          omega
        have hdr : (dropG Hb.stay (dr : Int) (Wl.map (cl zer))).2 = (Wl.drop (min dr Wl.length)).map (cl zer) := by
          rw [HDL.out]
          dsimp only
          congr 1
          rw [Int.toNat_natCast]
          rcases Nat.le_total dr Wl.length with h | h
          · rw [Nat.min_eq_left h]
          · rw [Nat.min_eq_right h, List.drop_of_length_le h, List.drop_of_length_le (Nat.le_refl _)]
        rw [hn]
        rw [hdr] at HO4
        clear hn hdr HDL HLW
        have hmn : (min (dr : Int) (Wl.length : Int)) = ((min dr Wl.length : Nat) : Int) := by omega
        have hmin := Nat.min_le_right dr Wl.length
        generalize hnd : min dr Wl.length = n at *
        have hnl : n ≤ Wl.length := hmin
        have hnl2 : (n : Int) ≤ (Wl.length : Int) := by omega
        have hwc' : (Wl.length : Int) ≤ (wc : Int) := by omega
        have HND := hid hnd
        clear hnd
        go_upto_region 29 with fail
        refine region_text (fun _ => True) (by kernel_rfl) (by kernel_rfl) trivial ?_
        repeat (first
          | (refine wpL_read (by rfl) (by rfl) ?_ ?_ ?_; rotate_left; (intro w hS; go_simp; with_reducible rfl); simp only [Act.put, List.setIfInBounds_toArray, List.set_cons_zero, List.set_cons_succ]) | (refine wpL_skip (by rfl) ?_; simp only [Act.put, List.setIfInBounds_toArray, List.set_cons_zero, List.set_cons_succ]))
        have HLD := hid (show ((Wl.drop n).map (cl zer)).length ≤ 10000 by rw [List.length_map, List.length_drop]; omega)
        refine wpL_act (by rfl) (by rfl) (fun K hK => ?_)
        go_simp
        refine (kcHeld q (dP d) (1 + (m : Int)) ((Wl.drop n).map (cl zer)) _ _ HLD.out HO4.out.drew).mono ?_
        rintro e w5 ⟨v5, rfl, hO5, hK5⟩
        have HO5 := hid hO5
        have HK5 := hid ((HK4.out.drew).trans hK5)
        clear hO5 hK5
        try dsimp only
        refine hK.out _ _ (trivial) ?_
        clear hK K
        try simp only [Act.put, List.setIfInBounds_toArray, List.set_cons_zero, List.set_cons_succ]
        rw [ats_cl] at HO5
        have HD := hid (show Rd w5 _ 1 (Wl.drop n).length (ic (Wl.drop n)) from by
          have h := (HWR.out _ _ HO5.out.p2).dropS n hnl
          rw [Nat.mul_one] at h
          rw [List.length_drop, show ic (Wl.drop n) = (ic Wl).drop n by simp [ic]]
          exact h)
        repeat (first
          | (refine wpL_read (by rfl) (by rfl) ?_ ?_ ?_; rotate_left; (intro w hS; go_simp; with_reducible rfl); simp only [Act.put, List.setIfInBounds_toArray, List.set_cons_zero, List.set_cons_succ]) | (refine wpL_skip (by rfl) ?_; simp only [Act.put, List.setIfInBounds_toArray, List.set_cons_zero, List.set_cons_succ]))
        refine wpL_act (by rfl) (by rfl) (fun K hK => ?_)
        go_simp
        refine (sameIntsYes v5 _ (Wl.drop n) _ (Ints.rd HO5.out) HD.out).mono ?_
        rintro e w' ⟨rfl, nq6, rfl⟩
        have HO6 := hid ((HO5.out).drewN nq6)
        have HK6 := hid ((HK5.out).drewN nq6)
        try dsimp only
        refine hK.out _ _ (trivial) ?_
        clear hK K
        try simp only [Act.put, List.setIfInBounds_toArray, List.set_cons_zero, List.set_cons_succ]
        generalize w5.drewN nq6 = w6 at *
        clear HD
        repeat (first
          | (refine wpL_read (by rfl) (by rfl) ?_ ?_ ?_; rotate_left; (intro w hS; go_simp; with_reducible rfl); simp only [Act.put, List.setIfInBounds_toArray, List.set_cons_zero, List.set_cons_succ]) | (refine wpL_skip (by rfl) ?_; simp only [Act.put, List.setIfInBounds_toArray, List.set_cons_zero, List.set_cons_succ]))
        have HDI := hid (show dirts ((Wl.drop n).map (cl zer)) = [] from by unfold dirts; rw [dirts_cl]; rfl)
        refine wpL_act (by rfl) (by rfl) (fun K hK => ?_)
        go_simp
        refine (kcDirty q (dP d) (1 + (m : Int)) ((Wl.drop n).map (cl zer)) w6 _ HLD.out HO6.out.p1).mono ?_
        rintro e w7 ⟨v7, rfl, hO7, hK7⟩
        have HO7 := hid hO7
        have HK7 := hid ((HK6.out).trans hK7)
        clear hO7 hK7
        try dsimp only
        refine hK.out _ _ (trivial) ?_
        clear hK K
        try simp only [Act.put, List.setIfInBounds_toArray, List.set_cons_zero, List.set_cons_succ]
        rw [HDI.out, show sorted [] = [] by simp [sorted]] at HO7
        obtain ⟨p7, c7, rfl, -⟩ := (Ints.rd HO7.out).form
        repeat (first
          | (refine wpL_read (by rfl) (by rfl) ?_ ?_ ?_; rotate_left; (intro w hS; go_simp; with_reducible rfl); simp only [Act.put, List.setIfInBounds_toArray, List.set_cons_zero, List.set_cons_succ]) | (refine wpL_skip (by rfl) ?_; simp only [Act.put, List.setIfInBounds_toArray, List.set_cons_zero, List.set_cons_succ]))
        refine wpL_act (by rfl) (by rfl) (fun K hK => ?_)
        go_simp
        refine (kWrites d (Bk.zero 10) w7 _ HO7.out.p4 (by decide)).mono ?_
        rintro e w8 ⟨v8, rfl, hO8, hK8⟩
        have HO8 := hid hO8
        have HK8 := hid ((HK7.out).trans hK8)
        clear hO8 hK8
        try dsimp only
        refine hK.out _ _ (trivial) ?_
        clear hK K
        try simp only [Act.put, List.setIfInBounds_toArray, List.set_cons_zero, List.set_cons_succ]
        rw [show (Bk.zero 10).writes = [] from rfl] at HO8
        obtain ⟨p8, c8, rfl, -⟩ := (Ints.rd HO8.out).form
        repeat (first
          | (refine wpL_read (by rfl) (by rfl) ?_ ?_ ?_; rotate_left; (intro w hS; go_simp; with_reducible rfl); simp only [Act.put, List.setIfInBounds_toArray, List.set_cons_zero, List.set_cons_succ]) | (refine wpL_skip (by rfl) ?_; simp only [Act.put, List.setIfInBounds_toArray, List.set_cons_zero, List.set_cons_succ]))
        refine wpL_act (by rfl) (by rfl) (fun K hK => ?_)
        go_simp
        refine (awake18 w8 _ HO8.out).mono ?_
        rintro e w9 ⟨rfl, hO9, hK9⟩
        have HO9 := hid hO9
        have HK9 := hid ((HK8.out).trans hK9)
        clear hO9 hK9
        try dsimp only
        refine hK.out _ _ (trivial) ?_
        clear hK K
        try simp only [Act.put, List.setIfInBounds_toArray, List.set_cons_zero, List.set_cons_succ]
        repeat (first
          | (refine wpL_read (by rfl) (by rfl) ?_ ?_ ?_; rotate_left; (intro w hS; go_simp; with_reducible rfl); simp only [Act.put, List.setIfInBounds_toArray, List.set_cons_zero, List.set_cons_succ]) | (refine wpL_skip (by rfl) ?_; simp only [Act.put, List.setIfInBounds_toArray, List.set_cons_zero, List.set_cons_succ]))
        refine wpL_nil ?_
        go_wp2_with fail
        all_goals go_ret
        all_goals exact ⟨rfl, HO9.out.re 7 [6] |>.below HK9.out.os HK9.out.tape HK9.out.output⟩
end Go.Proofs.Ytajlikakbihgbaa
