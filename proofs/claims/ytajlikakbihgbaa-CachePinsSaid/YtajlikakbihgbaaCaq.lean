/- A CACHE's Pin and Clean. -/
import Derived.Test.YtajlikakbihgbaaCap
namespace Go.Proofs.Ytajlikakbihgbaa
open Go.RowKit Go.Own Go.Ch Go.Dk
theorem hcells_pin (T : List Hd) (i : Nat) (hi : i < T.length) (on : Bool) : (hcells T).set (i * 4 + 3) (.bool on) = hcells (T.set i ⟨T[i].at_, T[i].t, T[i].dirty, on⟩) := by
  induction T generalizing i with
  | nil => simp at hi
  | cons h T ih =>
    cases i with
    | zero => rfl
    | succ i =>
      rw [List.set_cons_succ, hcells_cons, hcells_cons]
      have e0 : (i + 1) * 4 + 3 = (Ch.hc h).length + (i * 4 + 3) := by simp [Ch.hc]; omega
      rw [e0, List.set_append_right _ _ (Nat.le_add_right _ _), Nat.add_sub_cancel_left, ih i (by simpa using hi)]
      rfl
theorem hcells_dirty (T : List Hd) (i : Nat) (hi : i < T.length) (di : Bool) : (hcells T).set (i * 4 + 2) (.bool di) = hcells (T.set i ⟨T[i].at_, T[i].t, di, T[i].pin⟩) := by
  induction T generalizing i with
  | nil => simp at hi
  | cons h T ih =>
    cases i with
    | zero => rfl
    | succ i =>
      rw [List.set_cons_succ, hcells_cons, hcells_cons]
      have e0 : (i + 1) * 4 + 2 = (Ch.hc h).length + (i * 4 + 2) := by simp [Ch.hc]; omega
      rw [e0, List.set_append_right _ _ (Nat.le_add_right _ _), Nat.add_sub_cancel_left, ih i (by simpa using hi)]
      rfl
set_option maxRecDepth 100000 in
set_option maxHeartbeats 4000000 in
theorem cAsked (dv : Value) (most : Int) (v : Value) (T : List Hd) (q : Nat) (a : Int) (w : World) (L : List HP) (hr : ∀ w', Has w' L → Rd w' v 4 T.length (hcells T)) (hl : T.length ≤ 1000000) (hO : Has w (pt q (.cells (caC dv most v) 70) :: L)) :
    Calls Try.prog 33 #[.pointer (some ⟨q, 0, none⟩), .int .i64 a] w fun e w' => e = .returned (match find (T.map Hd.hb) a with | some i => .tuple #[.int .i64 (i : Int), .int .i64 0] | none => .tuple #[.int .i64 0, .int .i64 5]) ∧ Has w' (pt q (.cells (caC dv most v) 70) :: L) ∧ Keep w w' := by
  have HF := hid (cFind dv most v T q a w L hr hl hO)
  clear hr hl hO
  rcases hf : find (T.map Hd.hb) a with _ | i
  · rw [hf] at HF
    clear hf
    simp only [atN] at HF
    go_enter Try.func33, Try.ntmps33
    go_wp2_with fail
    refine HF.out.mono ?_
    rintro e w2 ⟨rfl, h2, k2⟩
    have HO2 := hid h2
    have HK2 := hid k2
    clear h2 k2
    try dsimp only
    go_wp2_with fail
    go_ret2
    exact ⟨rfl, HO2.out, HK2.out⟩
  · rw [hf] at HF
    clear hf
    simp only [atN] at HF
    have hi : ¬ (i : Int) < 0 := by omega
    go_enter Try.func33, Try.ntmps33
    go_wp2_with fail
    refine HF.out.mono ?_
    rintro e w2 ⟨rfl, h2, k2⟩
    have HO2 := hid h2
    have HK2 := hid k2
    clear h2 k2
    try dsimp only
    go_wp2_with fail
    go_ret2
    exact ⟨rfl, HO2.out, HK2.out⟩
set_option maxRecDepth 100000 in
set_option maxHeartbeats 4000000 in
theorem kcPin (q : Nat) (dv : Value) (most : Int) (K : List Hb) (a : Int) (on : Bool) (i : Nat) (w : World) (L : List HP) (hm : 0 ≤ most ∧ most ≤ 1000000) (hl : K.length ≤ 10000) (hf : find K a = some i) (hi : i < K.length) (hO : Has w (Cch q dv most K :: L)) :
    Calls Try.prog 22 #[.pointer (some ⟨q, 0, none⟩), .int .i64 a, .bool on] w fun e w' => e = .returned (.int .i64 0) ∧ Has w' (Cch q dv most (settleK most (K.set i ⟨K[i].at_, K[i].b, K[i].dirty, on⟩)) :: L) ∧ Keep w w' := by
  obtain ⟨v, T, B, ⟨rfl, hB⟩, h2⟩ := cch_iff.1 hO
  have HA := hid (cAsked dv most v T q a w _ (fun w' h => Has.rd h) (by simp at hl; omega) h2)
  rw [hf] at HA
  dsimp only at HA
  have hiT : i < T.length := by simpa using hi
  obtain ⟨p, c, rfl, -⟩ := h2.p1.rd.form
  obtain ⟨g, rfl⟩ : ∃ g, p = some ⟨g, 0, none⟩ := by
    obtain ⟨-, h | ⟨gr, cap, cur, e, -⟩⟩ := h2.p1.row_cases
    · have := h.2.1; omega
    · injection e with e; exact ⟨gr, e⟩
  have HM := hid (And.intro hm hl)
  have HII := hid hiT
  have HMAP := hid (show (T.set i ⟨T[i].at_, T[i].t, T[i].dirty, on⟩).map Hd.hb = (T.map Hd.hb).set i ⟨(T.map Hd.hb)[i].at_, (T.map Hd.hb)[i].b, (T.map Hd.hb)[i].dirty, on⟩ by
    rw [List.map_set]; simp only [List.getElem_map]; rfl)
  have HB := hid (show ∀ x ∈ T.set i ⟨T[i].at_, T[i].t, T[i].dirty, on⟩, x.t ∈ B from fun x hx => by
    rcases List.mem_or_eq_of_mem_set hx with hx | rfl
    · exact hB x hx
    · exact hB T[i] (List.getElem_mem hiT))
  have HC := hid (hcells_pin T i hiT on)
  have hi0 : (0 : Int) ≤ (i : Int) := by omega
  have hi1 : (i : Int) < (T.length : Int) := by omega
  have hi2 : (T.length : Int) ≤ 10000 := by simp at hl; omega
  rw [← HMAP.out]
  generalize hT2 : T.set i ⟨T[i].at_, T[i].t, T[i].dirty, on⟩ = T2 at *
  have HL2 := hid (show T2.length = T.length by rw [← hT2, List.length_set])
  clear HMAP hT2 hO h2 hB hl hm hf
  go_enter Try.func22, Try.ntmps22
  go_wp2_with fail
  refine HA.out.mono ?_
  rintro e w2 ⟨rfl, h2, k2⟩
  have HO2 := hid h2
  have HK2 := hid k2
  clear h2 k2 HA
  try dsimp only
  have hq := HO2.out.cells
  unfold caC at hq
  obtain ⟨c0, c1, c2, c3⟩ := hd_cells HO2.out.p1.rd i HII.out
  simp only [Nat.zero_add] at c3
  have hth := (HO2.out.p1.row_cells).2.2.1
  clear c0 c1 c2
  have HO3 := hid (show Has (w2.setCell ⟨g, i * 4 + 3, none⟩ (.bool on)) (pt q (.cells (caC dv most (.slice (some ⟨g, 0, none⟩) T.length c)) 70) :: row (.slice (some ⟨g, 0, none⟩) T.length c) 76 4 T2.length (hcells T2) :: poolc 5 B :: L) from by
    have h := HO2.out.p1.row_set (i * 4 + 3) (by have := HII.out; omega) (.bool on)
    rw [HC.out] at h
    rw [HL2.out]
    exact h.p1)
  have HK3 := hid (HK2.out.set ⟨g, i * 4 + 3, none⟩ (.bool on))
  have HS := hid (cSettle dv most (.slice (some ⟨g, 0, none⟩) T.length c) T2 q _ _ HM.out.1 (by rw [HL2.out]; omega) (one1_of HO3.out.p2 HB.out) HO3.out)
  go_wp2_with fail
  refine HS.out.mono ?_
  rintro e w4 ⟨rfl, ⟨v4, h4⟩, k4⟩
  have HO4 := hid h4
  have HK4 := hid (HK3.out.trans k4)
  clear h4 k4 HO3 HK3 HS c3 hth hq HO2 HK2
  try dsimp only
  go_wp2_with fail
  go_ret
  refine ⟨rfl, cch_iff.2 ⟨v4, _, B, ⟨settleT_map most T2, fun x hx => HB.out x (dropG_mem _ _ _ x hx)⟩, HO4.out⟩, HK4.out⟩
set_option maxRecDepth 100000 in
set_option maxHeartbeats 4000000 in
theorem kcCleanNot (q : Nat) (dv : Value) (most : Int) (K : List Hb) (a : Int) (i : Nat) (w : World) (L : List HP) (hm : 0 ≤ most ∧ most ≤ 1000000) (hl : K.length ≤ 10000) (hf : find K a = some i) (hi : i < K.length) (hd : K[i].dirty = false) (hO : Has w (Cch q dv most K :: L)) :
    Calls Try.prog 13 #[.pointer (some ⟨q, 0, none⟩), .int .i64 a] w fun e w' => e = .returned (.int .i64 0) ∧ Has w' (Cch q dv most (settleK most K) :: L) ∧ Keep w w' := by
  obtain ⟨v, T, B, ⟨rfl, hB⟩, h2⟩ := cch_iff.1 hO
  have HA := hid (cAsked dv most v T q a w _ (fun w' h => Has.rd h) (by simp at hl; omega) h2)
  rw [hf] at HA
  dsimp only at HA
  have hiT : i < T.length := by simpa using hi
  rw [List.getElem_map] at hd
  obtain ⟨p, c, rfl, -⟩ := h2.p1.rd.form
  obtain ⟨g, rfl⟩ : ∃ g, p = some ⟨g, 0, none⟩ := by
    obtain ⟨-, h | ⟨gr, cap, cur, e, -⟩⟩ := h2.p1.row_cases
    · have := h.2.1; omega
    · injection e with e; exact ⟨gr, e⟩
  have HM := hid (And.intro hm hl)
  have HII := hid hiT
  have HD := hid (show T[i].dirty = false from hd)
  have HB := hid hB
  have hi0 : (0 : Int) ≤ (i : Int) := by omega
  have hi1 : (i : Int) < (T.length : Int) := by omega
  have hi2 : (T.length : Int) ≤ 10000 := by simp at hl; omega
  clear hO h2 hB hl hm hf hd
  go_enter Try.func13, Try.ntmps13
  go_wp2_with fail
  refine HA.out.mono ?_
  rintro e w2 ⟨rfl, h2, k2⟩
  have HO2 := hid h2
  have HK2 := hid k2
  clear h2 k2 HA
  try dsimp only
  have hq := HO2.out.cells
  unfold caC at hq
  obtain ⟨c0, c1, c2, c3⟩ := hd_cells HO2.out.p1.rd i HII.out
  have hde : (T[i]'HII.out).dirty = false := HD.out
  rw [hde] at c2
  simp only [Nat.zero_add] at c2
  clear c0 c1 c3 hde
  have HS := hid (cSettle dv most (.slice (some ⟨g, 0, none⟩) T.length c) T q _ _ HM.out.1 (by omega) (one1_of HO2.out.p2 HB.out) HO2.out)
  go_wp2_with fail
  refine HS.out.mono ?_
  rintro e w4 ⟨rfl, ⟨v4, h4⟩, k4⟩
  have HO4 := hid h4
  have HK4 := hid (HK2.out.trans k4)
  clear h4 k4 HS c2 hq HO2 HK2
  try dsimp only
  go_wp2_with fail
  go_ret
  refine ⟨rfl, cch_iff.2 ⟨v4, _, B, ⟨settleT_map most T, fun x hx => HB.out x (dropG_mem _ _ _ x hx)⟩, HO4.out⟩, HK4.out⟩
set_option maxRecDepth 100000 in
set_option maxHeartbeats 4000000 in
theorem kcClean (q d : Nat) (most : Int) (K : List Hb) (E : Bk) (a : Int) (i : Nat) (w : World) (L : List HP) (hm : 0 ≤ most ∧ most ≤ 1000000) (hl : K.length ≤ 10000) (hw : E.waits.length ≤ 1000000000) (hw2 : E.writes.length ≤ 1000000000) (hf : find K a = some i) (hi : i < K.length) (hd : K[i].dirty = true) (hO : Has w (Cch q (dP d) most K :: Dk d E :: L)) :
    Calls Try.prog 13 #[.pointer (some ⟨q, 0, none⟩), .int .i64 a] w fun e w' => e = .returned (.int .i64 (E.write a K[i].b).1) ∧ Has w' (Cch q (dP d) most (settleK most (K.set i ⟨K[i].at_, K[i].b, (E.write a K[i].b).1 != 0, K[i].pin⟩)) :: Dk d (E.write a K[i].b).2 :: L) ∧ Keep w w' := by
  obtain ⟨v, T, B, ⟨rfl, hB⟩, h2⟩ := cch_iff.1 hO
  have HA := hid (cAsked (dP d) most v T q a w _ (fun w' h => Has.rd h) (by simp at hl; omega) h2)
  rw [hf] at HA
  dsimp only at HA
  have hiT : i < T.length := by simpa using hi
  simp only [List.getElem_map, Hd.hb]
  rw [List.getElem_map] at hd
  obtain ⟨p, c, rfl, -⟩ := h2.p1.rd.form
  obtain ⟨g, rfl⟩ : ∃ g, p = some ⟨g, 0, none⟩ := by
    obtain ⟨-, h | ⟨gr, cap, cur, e, -⟩⟩ := h2.p1.row_cases
    · have := h.2.1; omega
    · injection e with e; exact ⟨gr, e⟩
  have HM := hid (And.intro hm hl)
  have HII := hid hiT
  have HXB := hid (hB _ (List.getElem_mem hiT))
  have HWL := hid (And.intro hw hw2)
  generalize hwe : E.write a T[i].t.2 = we at *
  have HWE := hid hwe
  have HMAP := hid (show (T.set i ⟨T[i].at_, T[i].t, we.1 != 0, T[i].pin⟩).map Hd.hb = (T.map Hd.hb).set i ⟨T[i].at_, T[i].t.2, we.1 != 0, T[i].pin⟩ by
    rw [List.map_set]; rfl)
  have HB := hid (show ∀ x ∈ T.set i ⟨T[i].at_, T[i].t, we.1 != 0, T[i].pin⟩, x.t ∈ B from fun x hx => by
    rcases List.mem_or_eq_of_mem_set hx with hx | rfl
    · exact hB x hx
    · exact hB T[i] (List.getElem_mem hiT))
  have HC := hid (hcells_dirty T i hiT (we.1 != 0))
  have HD := hid (show T[i].dirty = true from hd)
  have hi0 : (0 : Int) ≤ (i : Int) := by omega
  have hi1 : (i : Int) < (T.length : Int) := by omega
  have hi2 : (T.length : Int) ≤ 10000 := by simp at hl; omega
  erw [← HMAP.out]
  generalize hT2 : T.set i ⟨T[i].at_, T[i].t, we.1 != 0, T[i].pin⟩ = T2 at *
  have HL2 := hid (show T2.length = T.length by rw [← hT2, List.length_set])
  clear HMAP hT2 hO h2 hB hl hm hf hd hw hw2 hwe
  go_enter Try.func13, Try.ntmps13
  go_wp2_with fail
  refine HA.out.mono ?_
  rintro e w2 ⟨rfl, h2, k2⟩
  have HO2 := hid h2
  have HK2 := hid k2
  clear h2 k2 HA
  try dsimp only
  have hq := HO2.out.cells
  unfold caC at hq
  obtain ⟨c0, c1, c2, c3⟩ := hd_cells HO2.out.p1.rd i HII.out
  have hde : (T[i]'HII.out).dirty = true := HD.out
  rw [hde] at c2
  simp only [Nat.zero_add] at c2
  clear c0 c3 hde
  obtain ⟨px, cx, hxt, -⟩ := (HO2.out.p2.pool_rd HXB.out).form
  rw [hxt] at c1
  simp only [Nat.zero_add] at c1
  have HXT := hid hxt
  have HC1 := hid (fun (w' : World) (h : Has w' (row (.slice (some ⟨g, 0, none⟩) T.length c) 76 4 T.length (hcells T) :: poolc 5 B :: pt q (.cells (caC (dP d) most (.slice (some ⟨g, 0, none⟩) T.length c)) 70) :: Dk d (E.write a (T[i]'HII.out).t.2).2 :: L)) => show w'.cell? ⟨g, i * 4 + 1, none⟩ = some (.slice px (T[i]'HII.out).t.2.length cx) from by
    obtain ⟨c0, c1, c2, c3⟩ := hd_cells h.rd i HII.out
    simp only [Nat.zero_add] at c1
    rw [c1, HXT.out])
  have HXR := hid (fun (w' : World) (h : Has w' (pt q (.cells (caC (dP d) most (.slice (some ⟨g, 0, none⟩) T.length c)) 70) :: row (.slice (some ⟨g, 0, none⟩) T.length c) 76 4 T.length (hcells T) :: poolc 5 B :: L)) => show Rd w' (.slice px (T[i]'HII.out).t.2.length cx) 1 (T[i]'HII.out).t.2.length (bc (T[i]'HII.out).t.2) from by
    have h1 := h.p2.pool_rd HXB.out
    rw [HXT.out] at h1
    exact h1)
  generalize hbb : (T[i]'HII.out).t.2 = bb at *
  clear hxt hbb
  go_upto_region 5 with fail
  refine region_text (fun w' => w'.cell? ⟨q, 0, none⟩ = some (.pointer (some ⟨d, 0, none⟩)) ∧ w'.cell? ⟨q, 2, none⟩ = some (.slice (some ⟨g, 0, none⟩) T.length c) ∧ w'.cell? ⟨g, i * 4 + 1, none⟩ = some (.slice px bb.length cx)) (by kernel_rfl) (by kernel_rfl) ⟨hq 0, hq 2, c1⟩ ?_
  clear hq c2 c1
  repeat (first
    | (refine wpL_read (by rfl) (by rfl) ?_ ?_ ?_; rotate_left; (rintro w ⟨z0, z1, z2⟩; go_simp; with_reducible rfl); simp only [Act.put, List.setIfInBounds_toArray, List.set_cons_zero, List.set_cons_succ]) | (refine wpL_skip (by rfl) ?_; simp only [Act.put, List.setIfInBounds_toArray, List.set_cons_zero, List.set_cons_succ]))
  refine wpL_act (by rfl) (by rfl) (fun K hK => ?_)
  go_simp
  refine (kWrite d E _ _ HO2.out.drew.p3 a (.slice px bb.length cx) bb HWL.out.1 HWL.out.2 (fun w' h => HXR.out w' h)).mono ?_
  rintro e w5 ⟨rfl, hO5, hK5⟩
  have HO5 := hid hO5
  have HK5 := hid ((HK2.out.drew).trans hK5)
  clear hO5 hK5
  try dsimp only
  refine hK.out _ _ (⟨HO5.out.p1.cells 0, HO5.out.p1.cells 2, HC1.out _ (HO5.out.re 4 [2, 3, 1, 0])⟩) ?_
  clear hK K
  try simp only [Act.put, List.setIfInBounds_toArray, List.set_cons_zero, List.set_cons_succ]
  repeat (first
    | (refine wpL_read (by rfl) (by rfl) ?_ ?_ ?_; rotate_left; (rintro w ⟨z0, z1, z2⟩; go_simp; with_reducible rfl); simp only [Act.put, List.setIfInBounds_toArray, List.set_cons_zero, List.set_cons_succ]) | (refine wpL_skip (by rfl) ?_; simp only [Act.put, List.setIfInBounds_toArray, List.set_cons_zero, List.set_cons_succ]))
  refine wpL_nil ?_
  rw [HWE.out] at *
  have hq := HO5.out.p1.cells
  unfold caC at hq
  have hth := (HO5.out.p2.row_cells).2.2.1
  obtain ⟨c0, c1, c2, c3⟩ := hd_cells HO5.out.p2.rd i HII.out
  simp only [Nat.zero_add] at c2
  clear c0 c1 c3
  have HO3 := hid (show Has (w5.setCell ⟨g, i * 4 + 2, none⟩ (.bool (we.1 != 0))) (pt q (.cells (caC (dP d) most (.slice (some ⟨g, 0, none⟩) T.length c)) 70) :: row (.slice (some ⟨g, 0, none⟩) T.length c) 76 4 T2.length (hcells T2) :: poolc 5 B :: Dk d we.2 :: L) from by
    have h := HO5.out.p2.row_set (i * 4 + 2) (by have := HII.out; omega) (.bool (we.1 != 0))
    rw [HC.out] at h
    rw [HL2.out]
    exact h.re 4 [2, 0, 3, 1])
  have HK3 := hid (HK5.out.set ⟨g, i * 4 + 2, none⟩ (.bool (we.1 != 0)))
  have HS := hid (cSettle (dP d) most (.slice (some ⟨g, 0, none⟩) T.length c) T2 q _ _ HM.out.1 (by rw [HL2.out]; omega) (one1_of HO3.out.p2 HB.out) HO3.out)
  go_wp2_with fail
  refine HS.out.mono ?_
  rintro e w4 ⟨rfl, ⟨v4, h4⟩, k4⟩
  have HO4 := hid h4
  have HK4 := hid (HK3.out.trans k4)
  clear h4 k4 HO3 HK3 HS c2 hth hq HO5 HK5
  try dsimp only
  go_wp2_with fail
  go_ret
  refine ⟨rfl, ?_, HK4.out⟩
  exact cch_iff.2 ⟨v4, _, B, ⟨settleT_map most T2, fun x hx => HB.out x (dropG_mem _ _ _ x hx)⟩, HO4.out⟩
end Go.Proofs.Ytajlikakbihgbaa
