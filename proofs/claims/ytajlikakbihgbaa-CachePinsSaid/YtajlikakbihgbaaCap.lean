/- A CACHE's Put, Get and Held. -/
import Derived.Test.YtajlikakbihgbaaCak
import Derived.Test.YtajlikakbihgbaaCloneB
namespace Go.Proofs.Ytajlikakbihgbaa
open Go.RowKit Go.Own Go.Ch Go.Dk
abbrev dP (d : Nat) : Value := .pointer (some ⟨d, 0, none⟩)
set_option maxRecDepth 100000 in
set_option maxHeartbeats 4000000 in
theorem kcPut (q d : Nat) (most : Int) (K : List Hb) (E : Bk) (a : Int) (v : Value) (xs : List Int) (w : World) (L : List HP) (hm : 0 ≤ most ∧ most ≤ 1000000) (hl : K.length ≤ 10000) (ha : 0 ≤ a ∧ a < E.firm.length) (hx : xs.length = 128) (hr : ∀ w', Has w' L → Rd w' v 1 xs.length (bc xs)) (hO : Has w (Cch q (dP d) most K :: Dk d E :: L)) :
    Calls Try.prog 11 #[.pointer (some ⟨q, 0, none⟩), .int .i64 a, v] w fun e w' => e = .returned (.int .i64 0) ∧ Has w' (Cch q (dP d) most (newK most K ⟨a, xs, true, false⟩) :: Dk d E :: L) ∧ Keep w w' := by
  obtain ⟨p, c, rfl, -⟩ := (hr w hO.drop.drop).form
  have HR := hid hr
  have HSX := hid (kSectors d E w _ hO.p1)
  have HX := hid hx
  have HM := hid (And.intro hm hl)
  obtain ⟨v0, T, B, ⟨hT, hB⟩, h2⟩ := cch_iff.1 hO
  have hc := h2.cells
  have HO := hid hO
  have ha1 : ¬ a < 0 := by omega
  have ha2 : decide (a ≥ (E.firm.length : Int)) = false := decide_eq_false (by omega)
  have ha3 : ¬ (E.firm.length : Int) ≤ a := by omega
  have ha4 : a < (E.firm.length : Int) := ha.2
  have hxl : ((xs.length : Int) != 128) = false := by simp [hx]
  clear hr hx hm hl ha h2 hO hT hB
  unfold caC at hc
  go_enter Try.func11, Try.ntmps11
  go_wp2_with fail
  refine (HSX.out).mono ?_
  rintro e w' ⟨rfl, rfl⟩
  try dsimp only
  clear hc
  go_wp2_with fail
  refine (cloneBytes (.slice p xs.length c) xs w _ HO.out (HR.out w HO.out.drop.drop) (by rw [HX.out]; omega)).mono ?_
  rintro e w2 ⟨v2, rfl, h2, k2, -⟩
  have HO2 := hid h2
  have HK2 := hid k2
  obtain ⟨p2, c2, rfl, -⟩ := (Bytes.rd h2).form
  clear h2 k2
  try dsimp only
  have HN := hid (kNewest (dP d) most K a (.slice p2 xs.length c2) xs true false q w2 _ HM.out.1 HM.out.2 HO2.out)
  go_wp2_with fail
  refine (HN.out).mono ?_
  rintro e w3 ⟨rfl, hO3, hK3⟩
  have HO3 := hid hO3
  have HK3 := hid ((HK2.out).trans hK3)
  clear hO3 hK3
  try dsimp only
  go_wp2_with fail
  go_ret
  exact ⟨rfl, HO3.out, HK3.out⟩
set_option maxRecDepth 100000 in
set_option maxHeartbeats 4000000 in
theorem kcGetHit (q d : Nat) (most : Int) (K : List Hb) (a : Int) (i : Nat) (w : World) (L : List HP) (hm : 0 ≤ most ∧ most ≤ 1000000) (hl : K.length ≤ 10000) (h128 : ∀ x ∈ K, x.b.length ≤ 1000) (hf : find K a = some i) (hi : i < K.length) (hO : Has w (Cch q (dP d) most K :: L)) :
    Calls Try.prog 15 #[.pointer (some ⟨q, 0, none⟩), .int .i64 a] w fun e w' => ∃ v', e = .returned (.tuple #[v', .int .i64 0]) ∧ Has w' (Bytes v' K[i].b :: Cch q (dP d) most (newK most K K[i]) :: L) ∧ Keep w w' := by
  obtain ⟨v, T, B, ⟨rfl, hB⟩, h2⟩ := cch_iff.1 hO
  have HO := hid h2
  have HF := hid (cFind (dP d) most v T q a w _ (fun w' h => Has.rd h) (by simp at hl; omega) h2)
  have hiT : i < T.length := by simpa using hi
  have HX : Hid (T[i] ∈ T) := hid (List.getElem_mem hiT)
  have HLX := hid (show T[i].t.2.length ≤ 1000 from h128 T[i].hb (List.mem_map_of_mem HX.out))
  have HKI : Hid ((T.map Hd.hb)[i] = T[i].hb) := hid (List.getElem_map ..)
  obtain ⟨px, cx, hxt, -⟩ := ((h2.p2).pool_rd (hB T[i] HX.out)).form
  obtain ⟨p, c, rfl, -⟩ := h2.p1.rd.form
  obtain ⟨g, rfl⟩ : ∃ g, p = some ⟨g, 0, none⟩ := by
    obtain ⟨-, h | ⟨gr, cap, cur, e, -⟩⟩ := h2.p1.row_cases
    · have := h.2.1; omega
    · injection e with e; exact ⟨gr, e⟩
  have HM := hid (And.intro hm hl)
  have HBB := hid hB
  have HII := hid hiT
  rw [hf] at HF
  simp only [atN] at HF
  have hi0 : (0 : Int) ≤ (i : Int) := by omega
  have hi1 : (i : Int) < (T.length : Int) := by omega
  have hi2 : (T.length : Int) ≤ 10000 := by simp at hl; omega
  rw [HKI.out]
  generalize hx : T[i] = x at *
  have HXE := hid hx
  clear HKI
  clear hO h2 hB hl hm hf h128 hi hx
  go_enter Try.func15, Try.ntmps15
  go_wp2_with fail
  refine HF.out.mono ?_
  rintro e w2 ⟨rfl, h2, k2⟩
  have HO2 := hid h2
  have HK2 := hid k2
  clear h2 k2 HF HO
  try dsimp only
  have hq := HO2.out.cells
  obtain ⟨c0, c1, c2, c3⟩ := hd_cells HO2.out.p1.rd i HII.out
  have hxe : T[i]'HII.out = x := HXE.out
  rw [hxe] at c0 c1 c2 c3
  clear hxe
  simp only [Nat.zero_add] at c0 c1 c2 c3
  obtain ⟨xa, ⟨xv, xb⟩, xd, xp⟩ := x
  dsimp only at hxt c0 c1 c2 c3
  subst hxt
  have HO3 := hid (HO2.out.alloc (.cells #[.int .i64 xa, .slice px xb.length cx, .bool xd, .bool xp] 76))
  have HK3 := hid (HK2.out.alloc (.cells #[.int .i64 xa, .slice px xb.length cx, .bool xd, .bool xp] 76))
  have HN := hid (kNewestB (dP d) most (.slice (some ⟨g, 0, none⟩) T.length c) T B ⟨xa, ⟨.slice px xb.length cx, xb⟩, xd, xp⟩ q _ _ HM.out.1 (by omega) HBB.out (HBB.out _ HX.out) (HO3.out.re 4 [1, 2, 3, 0]))
  unfold hdV at HN
  dsimp only at HN
  unfold caC at hq
  go_wp2_with fail
  refine HN.out.mono ?_
  rintro e w4 ⟨rfl, ⟨v4, T4, hB4, hT4, h4⟩, k4⟩
  have HO4 := hid h4
  have HK4 := hid (HK3.out.trans k4)
  have HB4 := hid hB4
  have HT4 := hid hT4
  clear h4 k4 hB4 hT4 HO3 HK3 HN c0 c1 c2 c3 hq HO2 HK2
  try dsimp only
  have hbx := HO4.out.p3.cells
  generalize w2.heap.size = b at *
  go_wp2_with fail
  refine (cloneBytes (.slice px xb.length cx) xb w4 _ HO4.out ((HO4.out.p2).pool_rd (HBB.out _ HX.out)) (by have := HLX.out; omega)).mono ?_
  rintro e w5 ⟨v5, rfl, h5, k5, -⟩
  have HO5 := hid h5
  have HK5 := hid (HK4.out.trans k5)
  clear h5 k5
  try dsimp only
  go_wp2_with fail
  go_ret2
  refine ⟨v5, rfl, ?_, HK5.out⟩
  exact ((cch_iff.2 ⟨v4, T4, B, ⟨HT4.out, HB4.out⟩, HO5.out.re 5 [1, 2, 3, 0]⟩) : Has w5 (Cch q (dP d) most _ :: Bytes v5 xb :: L)).p1
set_option maxRecDepth 100000 in
set_option maxHeartbeats 4000000 in
theorem kcGetMiss (q d : Nat) (most : Int) (K : List Hb) (E : Bk) (a : Int) (w : World) (L : List HP) (hm : 0 ≤ most ∧ most ≤ 1000000) (hl : K.length ≤ 10000) (hw : E.waits.length ≤ 1000000000) (hf : find K a = none) (he : (E.read a).1 = 0) (hbl : (E.read a).2.length ≤ 1000) (hO : Has w (Cch q (dP d) most K :: Dk d E :: L)) :
    Calls Try.prog 15 #[.pointer (some ⟨q, 0, none⟩), .int .i64 a] w fun e w' => ∃ v', e = .returned (.tuple #[v', .int .i64 0]) ∧ Has w' (Bytes v' (E.read a).2 :: Cch q (dP d) most (newK most K ⟨a, (E.read a).2, false, false⟩) :: Dk d E :: L) ∧ Keep w w' := by
  obtain ⟨v, T, B, ⟨rfl, hB⟩, h2⟩ := cch_iff.1 hO
  have HF := hid (cFind (dP d) most v T q a w _ (fun w' h => Has.rd h) (by simp at hl; omega) h2)
  have HM := hid (And.intro hm hl)
  have HBB := hid hB
  have HW := hid hw
  have HE := hid he
  have HBL := hid hbl
  rw [hf] at HF
  simp only [atN] at HF
  clear hO h2 hB hl hm hf hw he hbl
  go_enter Try.func15, Try.ntmps15
  go_wp2_with fail
  refine HF.out.mono ?_
  rintro e w2 ⟨rfl, h2, k2⟩
  have HO2 := hid h2
  have HK2 := hid k2
  clear h2 k2 HF
  try dsimp only
  have hq := HO2.out.cells
  unfold caC at hq
  have HRD := hid (kRead d E w2 _ HO2.out.p3 a HW.out)
  rw [HE.out] at HRD
  go_wp2_with fail
  refine HRD.out.mono ?_
  rintro e w3 ⟨v3, rfl, h3, k3⟩
  have HO3 := hid (show Has w3 (Cch q (dP d) most (T.map Hd.hb) :: Bytes v3 (E.read a).2 :: Dk d E :: L) from cch_iff.2 ⟨v, T, B, ⟨rfl, HBB.out⟩, h3.re 5 [2, 3, 4, 0, 1]⟩)
  have HK3 := hid (HK2.out.trans k3)
  obtain ⟨p3, c3, rfl, -⟩ := (Bytes.rd h3).form
  clear h3 k3 HO2 HK2 HRD hq
  try dsimp only
  generalize hbs : (E.read a).2 = bs at *
  have HBS := hid hbs
  clear hbs
  go_wp2_with fail
  refine (cloneBytes (.slice p3 bs.length c3) bs w3 _ HO3.out (Bytes.rd HO3.out.p1) (by have := HBL.out; omega)).mono ?_
  rintro e w4 ⟨v4, rfl, h4, k4, -⟩
  have HO4 := hid h4
  have HK4 := hid (HK3.out.trans k4)
  obtain ⟨p4, c4, rfl, -⟩ := (Bytes.rd h4).form
  clear h4 k4
  try dsimp only
  have HN := hid (kNewest (dP d) most (T.map Hd.hb) a (.slice p4 bs.length c4) bs false false q w4 _ HM.out.1 HM.out.2 HO4.out)
  go_wp2_with fail
  refine (HN.out).mono ?_
  rintro e w5 ⟨rfl, hO5, hK5⟩
  have HO5 := hid hO5
  have HK5 := hid ((HK4.out).trans hK5)
  clear hO5 hK5
  try dsimp only
  go_wp2_with fail
  go_ret2
  rw [HBS.out]
  exact ⟨.slice p3 bs.length c3, rfl, HO5.out.p1, HK5.out⟩
set_option maxRecDepth 100000 in
set_option maxHeartbeats 4000000 in
theorem kcHeld (q : Nat) (dv : Value) (most : Int) (K : List Hb) (w : World) (L : List HP) (hl : K.length ≤ 10000) (hO : Has w (Cch q dv most K :: L)) :
    Calls Try.prog 19 #[.pointer (some ⟨q, 0, none⟩)] w fun e w' => ∃ v', e = .returned v' ∧ Has w' (Ints v' (K.map Hb.at_) :: Cch q dv most K :: L) ∧ Keep w w' := by
  obtain ⟨v, T, B, ⟨rfl, hB⟩, h2⟩ := cch_iff.1 hO
  obtain ⟨p, c, rfl, -, -, hcs⟩ := h2.p1.rd.form
  have HO := hid (h2.row_nil 3 1)
  have HB := hid hB
  have HL := hid (show T.length ≤ 10000 by simpa using hl)
  have HCS := hid hcs
  have hq := h2.cells
  unfold caC at hq
  have HK := hid (Keep.refl w)
  clear hO h2 hB hl hcs
  go_enter Try.func19, Try.ntmps19
  go_wp2_with fail
  clear hq
  go_loopw [3, 13] (fun s i w' => ∃ k : Nat, k ≤ T.length ∧ i = .int .i64 k ∧ Hid (Has w' (row s 3 1 k (ic ((T.map Hd.at_).take k)) :: pt q (.cells (caC dv most (.slice p T.length c)) 70) :: row (.slice p T.length c) 76 4 T.length (hcells T) :: poolc 5 B :: L)) ∧ Hid (Keep w w')) (fun _ i _ => T.length - (intOf i).toNat)
  case atStart => exact ⟨0, by omega, rfl, HO, HK⟩
  case round =>
    clear HO HK
    obtain ⟨k, hk, rfl, HO, HK⟩ := hrel
    by_cases hlt : k < T.length
    · have hki : (k : Int) < (T.length : Int) := by omega
      have hk0 : (0 : Int) ≤ (k : Int) := by omega
      have hnb : (T.length : Int) ≤ 10000 := by have := HL.out; omega
      obtain ⟨g, o, rfl, -⟩ := HCS.out (by omega)
      obtain ⟨c0, c1, c2, c3⟩ := hd_cells HO.out.p2.rd k hlt
      obtain ⟨px, cx, hxt, -⟩ := (HO.out.p3.pool_rd (HB.out T[k] (List.getElem_mem hlt))).form
      have HTK := hid (show (T.map Hd.at_).take (k + 1) = (T.map Hd.at_).take k ++ [T[k].at_] by rw [← List.map_take, ← List.map_take, take_one hlt, List.map_append]; rfl)
      have HLT := hid hlt
      generalize T[k] = x at *
      obtain ⟨xa, ⟨xv, xb⟩, xd, xp⟩ := x
      dsimp only at hxt c0 c1 c2 c3 HTK
      subst hxt
      have HO2 := hid (HO.out.alloc (.cells #[.int .i64 xa, .slice px xb.length cx, .bool xd, .bool xp] 76))
      have HK2 := hid (HK.out.alloc (.cells #[.int .i64 xa, .slice px xb.length cx, .bool xd, .bool xp] 76))
      have HO3 := hid ((HO2.out.alloc (.cells #[.int .i64 xa] 3)))
      have HK3 := hid (HK2.out.alloc (.cells #[.int .i64 xa] 3))
      have e1 : (wr.alloc (.cells #[.int .i64 xa, .slice px xb.length cx, .bool xd, .bool xp] 76)).heap.size = wr.heap.size + 1 := Array.size_push _
      rw [e1] at HO3
      clear hlt hk HO HK e1 HO2 HK2
      have hcx := HO3.out.cells 0
      go_wp2_with (at_builtin; refine wpList_append1 rfl _ _ _ rfl Try.underlying22 infoInt rfl (.int .i64 xa) HO3.out.p2 rfl 1 (wr.heap.size + 1) rfl hcx rfl (le_maxLen (by have := HLT.out; have := HL.out; omega)) (by have := HLT.out; have := HL.out; omega) ?_)
      intro v4 w4 h4 k4
      have HO4 := hid (show Has w4 (row v4 3 1 (k + 1) (ic ((T.map Hd.at_).take (k + 1))) :: pt q (.cells (caC dv most (.slice (some ⟨g, o, none⟩) T.length c)) 70) :: row (.slice (some ⟨g, o, none⟩) T.length c) 76 4 T.length (hcells T) :: poolc 5 B :: L) from by
        rw [HTK.out, ic_snoc]
        exact h4.re 6 [0, 3, 4, 5])
      have HK4 := hid (HK3.out.trans k4)
      clear h4 k4 HO3 HK3 hcx c0 c1 c2 c3
      go_wp2_with fail
      exact ⟨⟨k + 1, by have := HLT.out; omega, rfl, HO4, HK4⟩, by have := HLT.out; simp [intOf]; omega⟩
    · obtain rfl : k = T.length := by omega
      have hki : ¬ (T.length : Int) < (T.length : Int) := by omega
      clear hlt hk
      go_wp2_with fail
      go_ret
      refine ⟨_, rfl, ?_, HK.out⟩
      have h := HO.out
      rw [List.take_of_length_le (by rw [List.length_map]; exact Nat.le_refl _)] at h
      have h5 : Has wr (Ints u3 (T.map Hd.at_) :: pt q (.cells (caC dv most (.slice p T.length c)) 70) :: row (.slice p T.length c) 76 4 T.length (hcells T) :: poolc 5 B :: L) := by
        unfold Ints
        rw [List.length_map]
        exact h
      show Has wr (Ints u3 (T.map Hd.at_) :: Cch q dv most (T.map Hd.hb) :: L)
      exact ((cch_iff.2 ⟨_, T, B, ⟨rfl, HB.out⟩, h5.re 4 [1, 2, 3, 0]⟩) : Has wr (Cch q dv most _ :: Ints u3 (T.map Hd.at_) :: L)).p1
end Go.Proofs.Ytajlikakbihgbaa
