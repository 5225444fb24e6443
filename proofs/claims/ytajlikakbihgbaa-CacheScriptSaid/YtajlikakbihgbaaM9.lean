/- TEXTS of mine, merged. -/
import Derived.Test.YtajlikakbihgbaaM8
import Derived.Test.YtajlikakbihgbaaM1
import Derived.Sort.Row
import Derived.Sort.Grow
import Derived.Shelf.Small.Bits
import Derived.Shelf.Small.Wraps
import Derived.Shelf.Strconv.Itoa0
import Derived.Shelf.Sort.Plain
import Derived.Ground.Names2Prog
import Derived.Shelf.Slices.Clone
import Derived.Shelf.Slices.SearchI
import Derived.Shelf.Slices.In.SortNone
import Derived.Ground.SlgnProg
import Derived.Shelf.SlicesE.Clone
import Derived.Test.YtajlikakbihgbaaProg
import Derived.Test.YtajlikakbihgbaaM3
/- A CACHE's Pin and Clean. -/
namespace Go.Proofs.Ytajlikakbihgbaa
open Go.RowKit Go.Own Go.Ch Go.Dk
theorem hcells_pin (T : List Hd) (i : Nat) (hi : i < T.length) (on : Bool) : (hcells T).set (i * 4 + 3) (.bool on) = hcells (T.set i ⟨T[i].at_, T[i].t, T[i].dirty, on⟩) := by
  induction T generalizing i with
  | nil => simp at hi
  | cons h T ih =>
    cases i with
    | zero => rfl
    | succ i =>
      rw [List.set_cons_succ, hcells_cons, hcells_cons]
      have e0 : (i + 1) * 4 + 3 = (Ch.hc h).length + (i * 4 + 3) := by simp [Ch.hc]; omega
      rw [e0, List.set_append_right _ _ (Nat.le_add_right _ _), Nat.add_sub_cancel_left, ih i (by simpa using hi)]
      rfl
theorem hcells_dirty (T : List Hd) (i : Nat) (hi : i < T.length) (di : Bool) : (hcells T).set (i * 4 + 2) (.bool di) = hcells (T.set i ⟨T[i].at_, T[i].t, di, T[i].pin⟩) := by
  induction T generalizing i with
  | nil => simp at hi
  | cons h T ih =>
    cases i with
    | zero => rfl
    | succ i =>
      rw [List.set_cons_succ, hcells_cons, hcells_cons]
      have e0 : (i + 1) * 4 + 2 = (Ch.hc h).length + (i * 4 + 2) := by simp [Ch.hc]; omega
      rw [e0, List.set_append_right _ _ (Nat.le_add_right _ _), Nat.add_sub_cancel_left, ih i (by simpa using hi)]
      rfl
set_option maxRecDepth 100000 in
set_option maxHeartbeats 4000000 in
theorem cAsked (dv : Value) (most : Int) (v : Value) (T : List Hd) (q : Nat) (a : Int) (w : World) (L : List HP) (hr : ∀ w', Has w' L → Rd w' v 4 T.length (hcells T)) (hl : T.length ≤ 1000000) (hO : Has w (pt q (.cells (caC dv most v) 70) :: L)) :
    Calls Try.prog 33 #[.pointer (some ⟨q, 0, none⟩), .int .i64 a] w fun e w' => e = .returned (match find (T.map Hd.hb) a with | some i => .tuple #[.int .i64 (i : Int), .int .i64 0] | none => .tuple #[.int .i64 0, .int .i64 5]) ∧ Has w' (pt q (.cells (caC dv most v) 70) :: L) ∧ Keep w w' := by
  have HF := hid (cFind dv most v T q a w L hr hl hO)
  clear hr hl hO
  rcases hf : find (T.map Hd.hb) a with _ | i
  · rw [hf] at HF
    clear hf
    simp only [atN] at HF
    go_enter Try.func33, Try.ntmps33
    go_wp2_with fail
    refine HF.out.mono ?_
    rintro e w2 ⟨rfl, h2, k2⟩
    have HO2 := hid h2
    have HK2 := hid k2
    clear h2 k2
    try dsimp only
    go_wp2_with fail
    go_ret2
    exact ⟨rfl, HO2.out, HK2.out⟩
  · rw [hf] at HF
    clear hf
    simp only [atN] at HF
    have hi : ¬ (i : Int) < 0 := by omega
    go_enter Try.func33, Try.ntmps33
    go_wp2_with fail
    refine HF.out.mono ?_
    rintro e w2 ⟨rfl, h2, k2⟩
    have HO2 := hid h2
    have HK2 := hid k2
    clear h2 k2
    try dsimp only
    go_wp2_with fail
    go_ret2
    exact ⟨rfl, HO2.out, HK2.out⟩
set_option maxRecDepth 100000 in
set_option maxHeartbeats 4000000 in
theorem kcPin (q : Nat) (dv : Value) (most : Int) (K : List Hb) (a : Int) (on : Bool) (i : Nat) (w : World) (L : List HP) (hm : 0 ≤ most ∧ most ≤ 1000000) (hl : K.length ≤ 10000) (hf : find K a = some i) (hi : i < K.length) (hO : Has w (Cch q dv most K :: L)) :
    Calls Try.prog 22 #[.pointer (some ⟨q, 0, none⟩), .int .i64 a, .bool on] w fun e w' => e = .returned (.int .i64 0) ∧ Has w' (Cch q dv most (settleK most (K.set i ⟨K[i].at_, K[i].b, K[i].dirty, on⟩)) :: L) ∧ Keep w w' := by
  obtain ⟨v, T, B, ⟨rfl, hB⟩, h2⟩ := cch_iff.1 hO
  have HA := hid (cAsked dv most v T q a w _ (fun w' h => Has.rd h) (by simp at hl; omega) h2)
  rw [hf] at HA
  dsimp only at HA
  have hiT : i < T.length := by simpa using hi
  obtain ⟨p, c, rfl, -⟩ := h2.p1.rd.form
  obtain ⟨g, rfl⟩ : ∃ g, p = some ⟨g, 0, none⟩ := by
    obtain ⟨-, h | ⟨gr, cap, cur, e, -⟩⟩ := h2.p1.row_cases
    · have := h.2.1; omega
    · injection e with e; exact ⟨gr, e⟩
  have HM := hid (And.intro hm hl)
  have HII := hid hiT
  have HMAP := hid (show (T.set i ⟨T[i].at_, T[i].t, T[i].dirty, on⟩).map Hd.hb = (T.map Hd.hb).set i ⟨(T.map Hd.hb)[i].at_, (T.map Hd.hb)[i].b, (T.map Hd.hb)[i].dirty, on⟩ by
    rw [List.map_set]; simp only [List.getElem_map]; rfl)
  have HB := hid (show ∀ x ∈ T.set i ⟨T[i].at_, T[i].t, T[i].dirty, on⟩, x.t ∈ B from fun x hx => by
    rcases List.mem_or_eq_of_mem_set hx with hx | rfl
    · exact hB x hx
    · exact hB T[i] (List.getElem_mem hiT))
  have HC := hid (hcells_pin T i hiT on)
  have hi0 : (0 : Int) ≤ (i : Int) := by omega
  have hi1 : (i : Int) < (T.length : Int) := by omega
  have hi2 : (T.length : Int) ≤ 10000 := by simp at hl; omega
  rw [← HMAP.out]
  generalize hT2 : T.set i ⟨T[i].at_, T[i].t, T[i].dirty, on⟩ = T2 at *
  have HL2 := hid (show T2.length = T.length by rw [← hT2, List.length_set])
  clear HMAP hT2 hO h2 hB hl hm hf
  go_enter Try.func22, Try.ntmps22
  go_wp2_with fail
  refine HA.out.mono ?_
  rintro e w2 ⟨rfl, h2, k2⟩
  have HO2 := hid h2
  have HK2 := hid k2
  clear h2 k2 HA
  try dsimp only
  have hq := HO2.out.cells
  unfold caC at hq
  obtain ⟨c0, c1, c2, c3⟩ := hd_cells HO2.out.p1.rd i HII.out
  simp only [Nat.zero_add] at c3
  have hth := (HO2.out.p1.row_cells).2.2.1
  clear c0 c1 c2
  have HO3 := hid (show Has (w2.setCell ⟨g, i * 4 + 3, none⟩ (.bool on)) (pt q (.cells (caC dv most (.slice (some ⟨g, 0, none⟩) T.length c)) 70) :: row (.slice (some ⟨g, 0, none⟩) T.length c) 76 4 T2.length (hcells T2) :: poolc 5 B :: L) from by
    have h := HO2.out.p1.row_set (i * 4 + 3) (by have := HII.out; omega) (.bool on)
    rw [HC.out] at h
    rw [HL2.out]
    exact h.p1)
  have HK3 := hid (HK2.out.set ⟨g, i * 4 + 3, none⟩ (.bool on))
  have HS := hid (cSettle dv most (.slice (some ⟨g, 0, none⟩) T.length c) T2 q _ _ HM.out.1 (by rw [HL2.out]; omega) (one1_of HO3.out.p2 HB.out) HO3.out)
  go_wp2_with fail
  refine HS.out.mono ?_
  rintro e w4 ⟨rfl, ⟨v4, h4⟩, k4⟩
  have HO4 := hid h4
  have HK4 := hid (HK3.out.trans k4)
  clear h4 k4 HO3 HK3 HS c3 hth hq HO2 HK2
  try dsimp only
  go_wp2_with fail
  go_ret
  refine ⟨rfl, cch_iff.2 ⟨v4, _, B, ⟨settleT_map most T2, fun x hx => HB.out x (dropG_mem _ _ _ x hx)⟩, HO4.out⟩, HK4.out⟩
set_option maxRecDepth 100000 in
set_option maxHeartbeats 4000000 in
theorem kcCleanNot (q : Nat) (dv : Value) (most : Int) (K : List Hb) (a : Int) (i : Nat) (w : World) (L : List HP) (hm : 0 ≤ most ∧ most ≤ 1000000) (hl : K.length ≤ 10000) (hf : find K a = some i) (hi : i < K.length) (hd : K[i].dirty = false) (hO : Has w (Cch q dv most K :: L)) :
    Calls Try.prog 13 #[.pointer (some ⟨q, 0, none⟩), .int .i64 a] w fun e w' => e = .returned (.int .i64 0) ∧ Has w' (Cch q dv most (settleK most K) :: L) ∧ Keep w w' := by
  obtain ⟨v, T, B, ⟨rfl, hB⟩, h2⟩ := cch_iff.1 hO
  have HA := hid (cAsked dv most v T q a w _ (fun w' h => Has.rd h) (by simp at hl; omega) h2)
  rw [hf] at HA
  dsimp only at HA
  have hiT : i < T.length := by simpa using hi
  rw [List.getElem_map] at hd
  obtain ⟨p, c, rfl, -⟩ := h2.p1.rd.form
  obtain ⟨g, rfl⟩ : ∃ g, p = some ⟨g, 0, none⟩ := by
    obtain ⟨-, h | ⟨gr, cap, cur, e, -⟩⟩ := h2.p1.row_cases
    · have := h.2.1; omega
    · injection e with e; exact ⟨gr, e⟩
  have HM := hid (And.intro hm hl)
  have HII := hid hiT
  have HD := hid (show T[i].dirty = false from hd)
  have HB := hid hB
  have hi0 : (0 : Int) ≤ (i : Int) := by omega
  have hi1 : (i : Int) < (T.length : Int) := by omega
  have hi2 : (T.length : Int) ≤ 10000 := by simp at hl; omega
  clear hO h2 hB hl hm hf hd
  go_enter Try.func13, Try.ntmps13
  go_wp2_with fail
  refine HA.out.mono ?_
  rintro e w2 ⟨rfl, h2, k2⟩
  have HO2 := hid h2
  have HK2 := hid k2
  clear h2 k2 HA
  try dsimp only
  have hq := HO2.out.cells
  unfold caC at hq
  obtain ⟨c0, c1, c2, c3⟩ := hd_cells HO2.out.p1.rd i HII.out
  have hde : (T[i]'HII.out).dirty = false := HD.out
  rw [hde] at c2
  simp only [Nat.zero_add] at c2
  clear c0 c1 c3 hde
  have HS := hid (cSettle dv most (.slice (some ⟨g, 0, none⟩) T.length c) T q _ _ HM.out.1 (by omega) (one1_of HO2.out.p2 HB.out) HO2.out)
  go_wp2_with fail
  refine HS.out.mono ?_
  rintro e w4 ⟨rfl, ⟨v4, h4⟩, k4⟩
  have HO4 := hid h4
  have HK4 := hid (HK2.out.trans k4)
  clear h4 k4 HS c2 hq HO2 HK2
  try dsimp only
  go_wp2_with fail
  go_ret
  refine ⟨rfl, cch_iff.2 ⟨v4, _, B, ⟨settleT_map most T, fun x hx => HB.out x (dropG_mem _ _ _ x hx)⟩, HO4.out⟩, HK4.out⟩
set_option maxRecDepth 100000 in
set_option maxHeartbeats 4000000 in
theorem kcClean (q d : Nat) (most : Int) (K : List Hb) (E : Bk) (a : Int) (i : Nat) (w : World) (L : List HP) (hm : 0 ≤ most ∧ most ≤ 1000000) (hl : K.length ≤ 10000) (hw : E.waits.length ≤ 1000000000) (hw2 : E.writes.length ≤ 1000000000) (hf : find K a = some i) (hi : i < K.length) (hd : K[i].dirty = true) (hO : Has w (Cch q (dP d) most K :: Dk d E :: L)) :
    Calls Try.prog 13 #[.pointer (some ⟨q, 0, none⟩), .int .i64 a] w fun e w' => e = .returned (.int .i64 (E.write a K[i].b).1) ∧ Has w' (Cch q (dP d) most (settleK most (K.set i ⟨K[i].at_, K[i].b, (E.write a K[i].b).1 != 0, K[i].pin⟩)) :: Dk d (E.write a K[i].b).2 :: L) ∧ Keep w w' := by
  obtain ⟨v, T, B, ⟨rfl, hB⟩, h2⟩ := cch_iff.1 hO
  have HA := hid (cAsked (dP d) most v T q a w _ (fun w' h => Has.rd h) (by simp at hl; omega) h2)
  rw [hf] at HA
  dsimp only at HA
  have hiT : i < T.length := by simpa using hi
  simp only [List.getElem_map, Hd.hb]
  rw [List.getElem_map] at hd
  obtain ⟨p, c, rfl, -⟩ := h2.p1.rd.form
  obtain ⟨g, rfl⟩ : ∃ g, p = some ⟨g, 0, none⟩ := by
    obtain ⟨-, h | ⟨gr, cap, cur, e, -⟩⟩ := h2.p1.row_cases
    · have := h.2.1; omega
    · injection e with e; exact ⟨gr, e⟩
  have HM := hid (And.intro hm hl)
  have HII := hid hiT
  have HXB := hid (hB _ (List.getElem_mem hiT))
  have HWL := hid (And.intro hw hw2)
  generalize hwe : E.write a T[i].t.2 = we at *
  have HWE := hid hwe
  have HMAP := hid (show (T.set i ⟨T[i].at_, T[i].t, we.1 != 0, T[i].pin⟩).map Hd.hb = (T.map Hd.hb).set i ⟨T[i].at_, T[i].t.2, we.1 != 0, T[i].pin⟩ by
    rw [List.map_set]; rfl)
  have HB := hid (show ∀ x ∈ T.set i ⟨T[i].at_, T[i].t, we.1 != 0, T[i].pin⟩, x.t ∈ B from fun x hx => by
    rcases List.mem_or_eq_of_mem_set hx with hx | rfl
    · exact hB x hx
    · exact hB T[i] (List.getElem_mem hiT))
  have HC := hid (hcells_dirty T i hiT (we.1 != 0))
  have HD := hid (show T[i].dirty = true from hd)
  have hi0 : (0 : Int) ≤ (i : Int) := by omega
  have hi1 : (i : Int) < (T.length : Int) := by omega
  have hi2 : (T.length : Int) ≤ 10000 := by simp at hl; omega
  erw [← HMAP.out]
  generalize hT2 : T.set i ⟨T[i].at_, T[i].t, we.1 != 0, T[i].pin⟩ = T2 at *
  have HL2 := hid (show T2.length = T.length by rw [← hT2, List.length_set])
  clear HMAP hT2 hO h2 hB hl hm hf hd hw hw2 hwe
  go_enter Try.func13, Try.ntmps13
  go_wp2_with fail
  refine HA.out.mono ?_
  rintro e w2 ⟨rfl, h2, k2⟩
  have HO2 := hid h2
  have HK2 := hid k2
  clear h2 k2 HA
  try dsimp only
  have hq := HO2.out.cells
  unfold caC at hq
  obtain ⟨c0, c1, c2, c3⟩ := hd_cells HO2.out.p1.rd i HII.out
  have hde : (T[i]'HII.out).dirty = true := HD.out
  rw [hde] at c2
  simp only [Nat.zero_add] at c2
  clear c0 c3 hde
  obtain ⟨px, cx, hxt, -⟩ := (HO2.out.p2.pool_rd HXB.out).form
  rw [hxt] at c1
  simp only [Nat.zero_add] at c1
  have HXT := hid hxt
  have HC1 := hid (fun (w' : World) (h : Has w' (row (.slice (some ⟨g, 0, none⟩) T.length c) 76 4 T.length (hcells T) :: poolc 5 B :: pt q (.cells (caC (dP d) most (.slice (some ⟨g, 0, none⟩) T.length c)) 70) :: Dk d (E.write a (T[i]'HII.out).t.2).2 :: L)) => show w'.cell? ⟨g, i * 4 + 1, none⟩ = some (.slice px (T[i]'HII.out).t.2.length cx) from by
    obtain ⟨c0, c1, c2, c3⟩ := hd_cells h.rd i HII.out
    simp only [Nat.zero_add] at c1
    rw [c1, HXT.out])
  have HXR := hid (fun (w' : World) (h : Has w' (pt q (.cells (caC (dP d) most (.slice (some ⟨g, 0, none⟩) T.length c)) 70) :: row (.slice (some ⟨g, 0, none⟩) T.length c) 76 4 T.length (hcells T) :: poolc 5 B :: L)) => show Rd w' (.slice px (T[i]'HII.out).t.2.length cx) 1 (T[i]'HII.out).t.2.length (bc (T[i]'HII.out).t.2) from by
    have h1 := h.p2.pool_rd HXB.out
    rw [HXT.out] at h1
    exact h1)
  generalize hbb : (T[i]'HII.out).t.2 = bb at *
  clear hxt hbb
  go_upto_region 5 with fail
  refine region_text (fun w' => w'.cell? ⟨q, 0, none⟩ = some (.pointer (some ⟨d, 0, none⟩)) ∧ w'.cell? ⟨q, 2, none⟩ = some (.slice (some ⟨g, 0, none⟩) T.length c) ∧ w'.cell? ⟨g, i * 4 + 1, none⟩ = some (.slice px bb.length cx)) (by kernel_rfl) (by kernel_rfl) ⟨hq 0, hq 2, c1⟩ ?_
  clear hq c2 c1
  repeat (first
    | (refine wpL_read (by rfl) (by rfl) ?_ ?_ ?_; rotate_left; (rintro w ⟨z0, z1, z2⟩; go_simp; with_reducible rfl); simp only [Act.put, List.setIfInBounds_toArray, List.set_cons_zero, List.set_cons_succ]) | (refine wpL_skip (by rfl) ?_; simp only [Act.put, List.setIfInBounds_toArray, List.set_cons_zero, List.set_cons_succ]))
  refine wpL_act (by rfl) (by rfl) (fun K hK => ?_)
  go_simp
  refine (kWrite d E _ _ HO2.out.drew.p3 a (.slice px bb.length cx) bb HWL.out.1 HWL.out.2 (fun w' h => HXR.out w' h)).mono ?_
  rintro e w5 ⟨rfl, hO5, hK5⟩
  have HO5 := hid hO5
  have HK5 := hid ((HK2.out.drew).trans hK5)
  clear hO5 hK5
  try dsimp only
  refine hK.out _ _ (⟨HO5.out.p1.cells 0, HO5.out.p1.cells 2, HC1.out _ (HO5.out.re 4 [2, 3, 1, 0])⟩) ?_
  clear hK K
  try simp only [Act.put, List.setIfInBounds_toArray, List.set_cons_zero, List.set_cons_succ]
  repeat (first
    | (refine wpL_read (by rfl) (by rfl) ?_ ?_ ?_; rotate_left; (rintro w ⟨z0, z1, z2⟩; go_simp; with_reducible rfl); simp only [Act.put, List.setIfInBounds_toArray, List.set_cons_zero, List.set_cons_succ]) | (refine wpL_skip (by rfl) ?_; simp only [Act.put, List.setIfInBounds_toArray, List.set_cons_zero, List.set_cons_succ]))
  refine wpL_nil ?_
  rw [HWE.out] at *
  have hq := HO5.out.p1.cells
  unfold caC at hq
  have hth := (HO5.out.p2.row_cells).2.2.1
  obtain ⟨c0, c1, c2, c3⟩ := hd_cells HO5.out.p2.rd i HII.out
  simp only [Nat.zero_add] at c2
  clear c0 c1 c3
  have HO3 := hid (show Has (w5.setCell ⟨g, i * 4 + 2, none⟩ (.bool (we.1 != 0))) (pt q (.cells (caC (dP d) most (.slice (some ⟨g, 0, none⟩) T.length c)) 70) :: row (.slice (some ⟨g, 0, none⟩) T.length c) 76 4 T2.length (hcells T2) :: poolc 5 B :: Dk d we.2 :: L) from by
    have h := HO5.out.p2.row_set (i * 4 + 2) (by have := HII.out; omega) (.bool (we.1 != 0))
    rw [HC.out] at h
    rw [HL2.out]
    exact h.re 4 [2, 0, 3, 1])
  have HK3 := hid (HK5.out.set ⟨g, i * 4 + 2, none⟩ (.bool (we.1 != 0)))
  have HS := hid (cSettle (dP d) most (.slice (some ⟨g, 0, none⟩) T.length c) T2 q _ _ HM.out.1 (by rw [HL2.out]; omega) (one1_of HO3.out.p2 HB.out) HO3.out)
  go_wp2_with fail
  refine HS.out.mono ?_
  rintro e w4 ⟨rfl, ⟨v4, h4⟩, k4⟩
  have HO4 := hid h4
  have HK4 := hid (HK3.out.trans k4)
  clear h4 k4 HO3 HK3 HS c2 hth hq HO5 HK5
  try dsimp only
  go_wp2_with fail
  go_ret
  refine ⟨rfl, ?_, HK4.out⟩
  exact cch_iff.2 ⟨v4, _, B, ⟨settleT_map most T2, fun x hx => HB.out x (dropG_mem _ _ _ x hx)⟩, HO4.out⟩
end Go.Proofs.Ytajlikakbihgbaa
/- WHAT IS OWNED BEHIND THE SHELF's CONTRACTS that turn a row: the world with the row's cells anew, and blocks behind it. No program in sight. -/
namespace Go.Own
open Go.RowKit
section
variable {w w' : World} {l : List HP} {v : Value} {e : TypeId} {size n : Nat} {xs : List Value}
theorem Has.grow (h : Has w l) (os : Array Obj) : Has (Sort.grow w os) l := h.frame fun k hk => by
  show (w.heap ++ os)[k]? = _
  rw [Array.getElem?_append_left hk]
theorem Has.ahead (h : Has w l) (m : Nat) : Has (Sort.ahead w m) l := h
theorem Has.putRow {α : Type} [Inhabited α] (enc : α → Value) {g cap m : Nat} {d : Array α} (h : Has w (row (.slice (some ⟨g, 0, none⟩) m cap) e 1 n xs :: l)) (hd : d.size = n) :
    Has (Sort.putRow enc w g 0 d) (row (.slice (some ⟨g, 0, none⟩) m cap) e 1 n (d.toList.map enc) :: l) := by
  obtain ⟨hl, h | ⟨g', cap', cur, e1, h1, h2, h3, h4, h5⟩⟩ := h.row_cases
  · exact absurd h.1 (by simp)
  · simp only [Value.slice.injEq, Option.some.injEq, Addr.mk.injEq] at e1
    obtain ⟨⟨rfl, -, -⟩, rfl, rfl⟩ := e1
    subst hd
    have hp : Has (Sort.putRow enc w g 0 d) (pt g (.cells (Sort.putCells enc 0 d cur) e) :: l) := by
      refine h5.turn (fun k _ hk => ?_) ?_
      · simp [Sort.putRow, Sort.mapBlock, Array.getElem?_modify, Ne.symm hk]
      · simp [Sort.putRow, Sort.mapBlock, Array.getElem?_modify, h5.lookup, Sort.onCells]
    refine hp.row_of h1 h2 (by simpa [Sort.putCells] using h3) ?_ (by simp)
    apply List.ext_getElem?
    intro k
    rw [Nat.mul_one] at h3
    by_cases hk : k < d.size
    · have hkc : k < cur.size := by omega
      rw [Nat.mul_one, List.getElem?_take, if_pos hk, Array.getElem?_toList, Sort.putCells, Array.getElem?_mapIdx, Array.getElem?_eq_getElem hkc, Option.map_some, if_pos ⟨Nat.zero_le _, by omega⟩, List.getElem?_map, Array.getElem?_toList, Nat.sub_zero,
        Array.getElem?_eq_getElem hk, Option.map_some, getElem!_pos d k hk]
    · rw [List.getElem?_eq_none (by simp; omega), List.getElem?_eq_none (by simp; omega)]
/-- The first of it. -/
theorem Has.row_take {g cap m : Nat} (h : Has w (row (.slice (some ⟨g, 0, none⟩) m cap) e size n xs :: l)) (k : Nat) (hk : k ≤ n) :
    Has w (row (.slice (some ⟨g, 0, none⟩) k cap) e size k (xs.take (k * size)) :: l) := by
  obtain ⟨hl, h | ⟨g', cap', cur, e1, h1, h2, h3, h4, h5⟩⟩ := h.row_cases
  · exact absurd h.1 (by simp)
  · simp only [Value.slice.injEq, Option.some.injEq, Addr.mk.injEq] at e1
    obtain ⟨⟨rfl, -, -⟩, rfl, rfl⟩ := e1
    have hle := Nat.mul_le_mul_right size hk
    refine h5.row_of (by omega) h2 h3 ?_ (by rw [List.length_take]; omega)
    rw [← h4, List.take_take, Nat.min_eq_left hle]
end
end Go.Own
/-
  DERIVED: THE SHELF's CONTRACTS AT THIS DUMP, IN PLAIN WORDS (tools/lay-plain.mjs out of 'TryShelf.lean', which tools/lay-shelf.mjs wrote): THE SAME DECLARATIONS UNDER THE SAME NAMES: 'import', 'namespace', 'open', 'def', 'theorem' AND NOTHING ELSE: no command of the shelf's: FOR A HAND-IN. Each laying: the table of numbers ('.._ren') and one theorem, a field a fact of the dump's own or the kernel's comparison; each contract: ONE APPLICATION.
-/
namespace Go.Proofs
open Go.Shelf
def Try.lays128_ren : Go.Shelf.Ren := ⟨fun | 128 => 76 | n => n, fun | 51 => 114 | 3 => 3 | 4 => 4 | 46 => 71 | 5 => 5 | 9 => 9 | n => n, fun | n => n⟩
theorem Try.lays128 : Go.Proofs.Lays.n128 Try.prog Try.lays128_ren := {
  mixed := by kernel_rfl
  f128 := Try.func76.trans (congrArg some (by kernel_rfl))
  t3 := Try.underlying3
  a3 := Try.isAgg3
  z3 := Try.sizeOf3
  v3 := Try.zeroValue3
  t4 := Try.underlying4
  a4 := Try.isAgg4
  z4 := Try.sizeOf4
  v4 := Try.zeroValue4
  t5 := Try.underlying5
  a5 := Try.isAgg5
  z5 := Try.sizeOf5
  v5 := Try.zeroValue5
  t9 := Try.underlying9
  a9 := Try.isAgg9
  z9 := Try.sizeOf9
  v9 := Try.zeroValue9
  t46 := Try.underlying71
  a46 := Try.isAgg71
  z46 := Try.sizeOf71
  v46 := Try.zeroValue71
  t51 := Try.underlying114
  a51 := Try.isAgg114
  z51 := Try.sizeOf114
  v51 := Try.zeroValue114 }
/-- bits.Len32: "Len32 returns the minimum number of bits required to represent x; the result is 0 for x == 0.": IT RETURNS 'Lib.bitLen x'; the world is as it was. ('h0', 'h1': x is a uint32.) (LAID: no walk: one application.) -/
theorem Try.bits_Len32 (x : Int) (w : World) (h0 : 0 ≤ x) (h1 : x ≤ 4294967295) :
    Calls Try.prog 76 #[.int .u32 x] w fun e w' => e = .returned (.int .i64 (Lib.bitLen x.toNat)) ∧ w' = w := Any.bits_Len32 Try.lays128 x w h0 h1
def Try.lays125_ren : Go.Shelf.Ren := ⟨fun | 125 => 63 | 128 => 76 | 129 => 77 | n => n, fun | 46 => 71 | 3 => 3 | 51 => 114 | 53 => 116 | 4 => 4 | 5 => 5 | 9 => 9 | n => n, fun | n => n⟩
theorem Try.lays125 : Go.Proofs.Lays.n125 Try.prog Try.lays125_ren := {
  mixed := by kernel_rfl
  f125 := Try.func63.trans (congrArg some (by kernel_rfl))
  f128 := Try.func76.trans (congrArg some (by kernel_rfl))
  f129 := Try.func77.trans (congrArg some (by kernel_rfl))
  t3 := Try.underlying3
  a3 := Try.isAgg3
  z3 := Try.sizeOf3
  v3 := Try.zeroValue3
  t4 := Try.underlying4
  a4 := Try.isAgg4
  z4 := Try.sizeOf4
  v4 := Try.zeroValue4
  t5 := Try.underlying5
  a5 := Try.isAgg5
  z5 := Try.sizeOf5
  v5 := Try.zeroValue5
  t9 := Try.underlying9
  a9 := Try.isAgg9
  z9 := Try.sizeOf9
  v9 := Try.zeroValue9
  t46 := Try.underlying71
  a46 := Try.isAgg71
  z46 := Try.sizeOf71
  v46 := Try.zeroValue71
  t51 := Try.underlying114
  a51 := Try.isAgg114
  z51 := Try.sizeOf114
  v51 := Try.zeroValue114
  t53 := Try.underlying116
  a53 := Try.isAgg116
  z53 := Try.sizeOf116
  v53 := Try.zeroValue116 }
/-- bits.Len: "Len returns the minimum number of bits required to represent x; the result is 0 for x == 0.": IT RETURNS 'Lib.bitLen x'; the world is as it was. (A uint has 64 bits in the model.) ITS CALLEE bits.Len64 IS MET BY ITS OWN CONTRACT OFF THE SHELF (lay that first). (LAID: no walk: one application.) -/
theorem Try.bits_Len (x : Int) (w : World) (h0 : 0 ≤ x) (h1 : x ≤ 18446744073709551615) :
    Calls Try.prog 63 #[.int .u64 x] w fun e w' => e = .returned (.int .i64 (Lib.bitLen x.toNat)) ∧ w' = w := Any.bits_Len Try.lays125 x w h0 h1
def Try.lays215_ren : Go.Shelf.Ren := ⟨fun | 215 => 84 | n => n, fun | 3 => 3 | 4 => 4 | n => n, fun | n => n⟩
theorem Try.lays215 : Go.Proofs.Lays.n215 Try.prog Try.lays215_ren := {
  mixed := by kernel_rfl
  f215 := Try.func84.trans (congrArg some (by kernel_rfl))
  t3 := Try.underlying3
  a3 := Try.isAgg3
  z3 := Try.sizeOf3
  v3 := Try.zeroValue3
  t4 := Try.underlying4
  a4 := Try.isAgg4
  z4 := Try.sizeOf4
  v4 := Try.zeroValue4 }
open Go.RowKit in
/-- cmp.isNaN at int: 'x != x': false. (LAID: no walk: one application.) -/
theorem Try.cmp_isNaN_int (x : Int) (w : World) :
    Calls Try.prog 84 #[.int .i64 x] w fun e w' => e = .returned (.bool false) ∧ w' = w := Any.cmp_isNaN_int Try.lays215 x w
def Try.lays129_ren : Go.Shelf.Ren := ⟨fun | 129 => 77 | n => n, fun | 53 => 116 | 3 => 3 | 4 => 4 | 46 => 71 | 5 => 5 | 9 => 9 | n => n, fun | n => n⟩
theorem Try.lays129 : Go.Proofs.Lays.n129 Try.prog Try.lays129_ren := {
  mixed := by kernel_rfl
  f129 := Try.func77.trans (congrArg some (by kernel_rfl))
  t3 := Try.underlying3
  a3 := Try.isAgg3
  z3 := Try.sizeOf3
  v3 := Try.zeroValue3
  t4 := Try.underlying4
  a4 := Try.isAgg4
  z4 := Try.sizeOf4
  v4 := Try.zeroValue4
  t5 := Try.underlying5
  a5 := Try.isAgg5
  z5 := Try.sizeOf5
  v5 := Try.zeroValue5
  t9 := Try.underlying9
  a9 := Try.isAgg9
  z9 := Try.sizeOf9
  v9 := Try.zeroValue9
  t46 := Try.underlying71
  a46 := Try.isAgg71
  z46 := Try.sizeOf71
  v46 := Try.zeroValue71
  t53 := Try.underlying116
  a53 := Try.isAgg116
  z53 := Try.sizeOf116
  v53 := Try.zeroValue116 }
/-- bits.Len64: "Len64 returns the minimum number of bits required to represent x; the result is 0 for x == 0.": IT RETURNS 'Lib.bitLen x'; the world is as it was. ('h0', 'h1': x is a uint64.) (LAID: no walk: one application.) -/
theorem Try.bits_Len64 (x : Int) (w : World) (h0 : 0 ≤ x) (h1 : x ≤ 18446744073709551615) :
    Calls Try.prog 77 #[.int .u64 x] w fun e w' => e = .returned (.int .i64 (Lib.bitLen x.toNat)) ∧ w' = w := Any.bits_Len64 Try.lays129 x w h0 h1
def Try.lays189_ren : Go.Shelf.Ren := ⟨fun | 189 => 41 | 125 => 63 | 257 => 62 | 128 => 76 | 129 => 77 | 294 => 67 | 295 => 68 | 296 => 69 | 297 => 70 | 298 => 71 | 299 => 72 | 216 => 73 | 300 => 74 | 301 => 75 | 328 => 79 | 329 => 80 | 330 => 81 | 331 => 82 | 332 => 83 | 215 => 84 | 343 => 85 | n => n, fun | 28 => 22 | 3 => 3 | 46 => 71 | 0 => 0 | 51 => 114 | 53 => 116 | 4 => 4 | 183 => 107 | 182 => 106 | 131 => 111 | 5 => 5 | 9 => 9 | 218 => 117 | 222 => 121 | 228 => 123 | 229 => 124 | n => n, fun | n => n⟩
theorem Try.lays189 : Go.Proofs.Lays.n189 Try.prog Try.lays189_ren := {
  mixed := by kernel_rfl
  f125 := Try.func63.trans (congrArg some (by kernel_rfl))
  f128 := Try.func76.trans (congrArg some (by kernel_rfl))
  f129 := Try.func77.trans (congrArg some (by kernel_rfl))
  f189 := Try.func41.trans (congrArg some (by kernel_rfl))
  f215 := Try.func84.trans (congrArg some (by kernel_rfl))
  f216 := Try.func73.trans (congrArg some (by kernel_rfl))
  f257 := Try.func62.trans (congrArg some (by kernel_rfl))
  f294 := Try.func67.trans (congrArg some (by kernel_rfl))
  f295 := Try.func68.trans (congrArg some (by kernel_rfl))
  f296 := Try.func69.trans (congrArg some (by kernel_rfl))
  f297 := Try.func70.trans (congrArg some (by kernel_rfl))
  f298 := Try.func71.trans (congrArg some (by kernel_rfl))
  f299 := Try.func72.trans (congrArg some (by kernel_rfl))
  f300 := Try.func74.trans (congrArg some (by kernel_rfl))
  f301 := Try.func75.trans (congrArg some (by kernel_rfl))
  f328 := Try.func79.trans (congrArg some (by kernel_rfl))
  f329 := Try.func80.trans (congrArg some (by kernel_rfl))
  f330 := Try.func81.trans (congrArg some (by kernel_rfl))
  f331 := Try.func82.trans (congrArg some (by kernel_rfl))
  f332 := Try.func83.trans (congrArg some (by kernel_rfl))
  f343 := Try.func85.trans (congrArg some (by kernel_rfl))
  t0 := Try.underlying0
  a0 := Try.isAgg0
  z0 := Try.sizeOf0
  v0 := Try.zeroValue0
  t3 := Try.underlying3
  a3 := Try.isAgg3
  z3 := Try.sizeOf3
  v3 := Try.zeroValue3
  t4 := Try.underlying4
  a4 := Try.isAgg4
  z4 := Try.sizeOf4
  v4 := Try.zeroValue4
  t5 := Try.underlying5
  a5 := Try.isAgg5
  z5 := Try.sizeOf5
  v5 := Try.zeroValue5
  t9 := Try.underlying9
  a9 := Try.isAgg9
  z9 := Try.sizeOf9
  v9 := Try.zeroValue9
  t28 := Try.underlying22
  a28 := Try.isAgg22
  z28 := Try.sizeOf22
  v28 := Try.zeroValue22
  t46 := Try.underlying71
  a46 := Try.isAgg71
  z46 := Try.sizeOf71
  v46 := Try.zeroValue71
  t51 := Try.underlying114
  a51 := Try.isAgg114
  z51 := Try.sizeOf114
  v51 := Try.zeroValue114
  t53 := Try.underlying116
  a53 := Try.isAgg116
  z53 := Try.sizeOf116
  v53 := Try.zeroValue116
  t131 := Try.underlying111
  a131 := Try.isAgg111
  z131 := Try.sizeOf111
  v131 := Try.zeroValue111
  t182 := Try.underlying106
  a182 := Try.isAgg106
  z182 := Try.sizeOf106
  v182 := Try.zeroValue106
  t183 := Try.underlying107
  a183 := Try.isAgg107
  z183 := Try.sizeOf107
  v183 := Try.zeroValue107
  t218 := Try.underlying117
  a218 := Try.isAgg117
  z218 := Try.sizeOf117
  v218 := Try.zeroValue117
  t222 := Try.underlying121
  a222 := Try.isAgg121
  z222 := Try.sizeOf121
  v222 := Try.zeroValue121
  t228 := Try.underlying123
  a228 := Try.isAgg123
  z228 := Try.sizeOf123
  v228 := Try.zeroValue123
  t229 := Try.underlying124
  a229 := Try.isAgg124
  z229 := Try.sizeOf124
  v229 := Try.zeroValue124 }
open Go.Sort Go.RowKit in
theorem Try.slices_Sort_int (blk off cap : Nat) (zs : List Int) (w : World) (hH : Holds (Value.int .i64) w blk off zs.toArray) (hblk : blk < w.heap.size) (hsz : zs.length < 4611686018427387904) :
    Calls Try.prog 41 #[.slice (some ⟨blk, off, none⟩) zs.length cap] w fun e w' =>
      e = .returned (.tuple #[]) ∧ ∃ n os, w' = grow (putRow (Value.int .i64) (Sort.ahead w n) blk off (zs.mergeSort fun x y => decide (x ≤ y)).toArray) os := Any.slices_Sort_int Try.lays189 blk off cap zs w hH hblk hsz
def Try.laysNm215_ren : Go.Shelf.Ren := ⟨fun | 15 => 42 | n => n, fun | 22 => 22 | 3 => 3 | 4 => 4 | n => n, fun | n => n⟩
theorem Try.laysNm215 : Go.Proofs.Lays2.n15 Try.prog Try.laysNm215_ren := {
  mixed := by kernel_rfl
  f15 := Try.func42.trans (congrArg some (by kernel_rfl))
  t3 := Try.underlying3
  a3 := Try.isAgg3
  z3 := Try.sizeOf3
  v3 := Try.zeroValue3
  t4 := Try.underlying4
  a4 := Try.isAgg4
  z4 := Try.sizeOf4
  v4 := Try.zeroValue4
  t22 := Try.underlying22
  a22 := Try.isAgg22
  z22 := Try.sizeOf22
  v22 := Try.zeroValue22
  i3 := by kernel_rfl }
open Go.RowKit Go.Lib in
/-- slices.Clone at []int: "Clone returns a copy of the slice. The elements are copied using assignment, so this is a shallow clone. The result may have additional unused capacity. The result preserves the nilness of s.": OF A SLICE THAT IS NOT nil IT RETURNS A SLICE THAT IS NOT nil, OF THE SAME ELEMENTS, IN MEMORY OF THE CALL's OWN: in the how-to's words (6f): 'w'.ownsRow B e 1 v' n cells': v' begins at the head of a row among the blocks from B on (B: the heap's size at the call), not frozen, whose first cells are the elements · 'Below B w w'': below B all is as it was. The capacity is whatever the run-time gives. 'zs': what the cells behind the slice's address hold; 'zs.take n': its elements. (LAID: no walk: one application.) -/
theorem Try.slices_Clone_int (b off n c : Nat) (zs : List Int) (w : World) (hz : n ≤ zs.length) (hbig : n * 8 ≤ 140737488355328) (hc : ∀ j, j < zs.length → w.cell? ⟨b, off + j, none⟩ = some (.int .i64 (zs.getD j 0))) :
    Calls Try.prog 42 #[.slice (some ⟨b, off, none⟩) n c] w fun e w' => ∃ v', e = .returned v' ∧ w'.ownsRow w.heap.size 3 1 v' n ((zs.take n).map (Value.int .i64)) ∧ v' ≠ .slice none 0 0 ∧ Below w.heap.size w w' := Any.slices_Clone_int Try.laysNm215 b off n c zs w hz hbig hc
open Go.RowKit Go.Lib in
/-- The same at nil: nil comes back; the world is as it was. (LAID: no walk: one application.) -/
theorem Try.slices_Clone_int_nil (n c : Nat) (w : World) :
    Calls Try.prog 42 #[.slice none n c] w fun e w' => e = .returned (.slice none 0 0) ∧ w' = w := Any.slices_Clone_int_nil Try.laysNm215 n c w
open Go.RowKit Go.Lib in
/-- The same at a slice of length 0 that is not nil, WHATEVER ITS ADDRESS (no cell is asked for): a slice that is not nil and owns nothing comes back. (LAID: no walk: one application.) -/
theorem Try.slices_Clone_int_zero (a : Addr) (c : Nat) (w : World) :
    Calls Try.prog 42 #[.slice (some a) 0 c] w fun e w' => ∃ v', e = .returned v' ∧ w'.ownsRow w.heap.size 3 1 v' 0 [] ∧ v' ≠ .slice none 0 0 ∧ Below w.heap.size w w' := Any.slices_Clone_int_zero Try.laysNm215 a c w
def Try.laysNm237_ren : Go.Shelf.Ren := ⟨fun | 37 => 84 | n => n, fun | 3 => 3 | 4 => 4 | n => n, fun | n => n⟩
theorem Try.laysNm237 : Go.Proofs.Lays2.n37 Try.prog Try.laysNm237_ren := {
  mixed := by kernel_rfl
  f37 := Try.func84.trans (congrArg some (by kernel_rfl))
  t3 := Try.underlying3
  a3 := Try.isAgg3
  z3 := Try.sizeOf3
  v3 := Try.zeroValue3
  t4 := Try.underlying4
  a4 := Try.isAgg4
  z4 := Try.sizeOf4
  v4 := Try.zeroValue4 }
open Go.RowKit Go.Lib in
/-- cmp.isNaN[int]: 'x != x': false. (LAID: no walk: one application.) -/
theorem Try.cmp_isNaN_int2 (x : Int) (w : World) :
    Calls Try.prog 84 #[.int .i64 x] w fun e w' => e = .returned (.bool false) ∧ w' = w := Any.cmp_isNaN_int2 Try.laysNm237 x w
def Try.laysNm231_ren : Go.Shelf.Ren := ⟨fun | 31 => 73 | 37 => 84 | n => n, fun | 3 => 3 | 4 => 4 | n => n, fun | n => n⟩
theorem Try.laysNm231 : Go.Proofs.Lays2.n31 Try.prog Try.laysNm231_ren := {
  mixed := by kernel_rfl
  f31 := Try.func73.trans (congrArg some (by kernel_rfl))
  f37 := Try.func84.trans (congrArg some (by kernel_rfl))
  t3 := Try.underlying3
  a3 := Try.isAgg3
  z3 := Try.sizeOf3
  v3 := Try.zeroValue3
  t4 := Try.underlying4
  a4 := Try.isAgg4
  z4 := Try.sizeOf4
  v4 := Try.zeroValue4 }
open Go.RowKit Go.Lib in
/-- cmp.Less[int]: "Less reports whether x is less than y.": 'x < y'; the world is as it was. (LAID: no walk: one application.) -/
theorem Try.cmp_Less_int2 (x y : Int) (w : World) :
    Calls Try.prog 73 #[.int .i64 x, .int .i64 y] w fun e w' => e = .returned (.bool (decide (x < y))) ∧ w' = w := Any.cmp_Less_int2 Try.laysNm231 x y w
open Go.RowKit Go.Sort in
/-- .. and plain. (LAID: no walk: one application.) -/
theorem Try.slices_Sort_int_none (p : Option Addr) (cap : Nat) (w : World) :
    Calls Try.prog 41 #[.slice p 0 cap] w fun e w' => e = .returned (.tuple #[]) ∧ w' = w := Any.slices_Sort_int_none Try.lays189 p cap w
def Try.laysSlE041_f42_ren : Go.Shelf.Ren := ⟨fun | 41 => 42 | n => n, fun | 22 => 22 | 23 => 3 | 4 => 4 | n => n, fun | n => n⟩
theorem Try.laysSlE041_f42 : Go.Proofs.SlLaysE0.n41 Try.prog Try.laysSlE041_f42_ren := {
  mixed := by kernel_rfl
  f41 := ⟨Try.f42.name, by decide, Try.func42.trans (congrArg some (by kernel_rfl))⟩
  t4 := Try.underlying4
  a4 := Try.isAgg4
  z4 := Try.sizeOf4
  v4 := Try.zeroValue4
  t22 := Try.underlying22
  a22 := Try.isAgg22
  z22 := Try.sizeOf22
  v22 := Try.zeroValue22 }
open Go.RowKit Go.Lib in
/-- slices.Clone: "Clone returns a copy of the slice. The elements are copied using assignment, so this is a shallow clone. The result may have additional unused capacity. The result preserves the nilness of s.": OF A SLICE THAT IS NOT nil IT RETURNS A SLICE THAT IS NOT nil, OF THE SAME CELLS, IN MEMORY OF THE CALL's OWN ('ownsRow': the how-to's 6f); below the heap's size at the call all is as it was. (LAID AT THE INSTANCE 'slices.Clone[[]int,int]': no walk: one application.) -/
theorem Try.slices_Clone (i0 : TypeInfo) (z : Value) (size bytes : Nat) (hi : Try.prog.info? 3 = some i0) (hz0 : i0.zero = some z) (hz1 : i0.size = size) (hz2 : i0.bytes = bytes) (hzs : z.cells.size = size) (hsz : 0 < size) (z23 : ∀ w, (Go.sizeOf 3).run Try.prog w = .ok size w) (b off n c : Nat) (news : List Value) (w : World) (hl : news.length = n * size) (hn : n ≤ maxLen) (hbig : n * bytes ≤ 140737488355328) (hc : ∀ j u, news[j]? = some u → w.cell? ⟨b, off + j, none⟩ = some u) (h1 : ∀ u ∈ news, u.oneCell' = true) :
    Calls Try.prog 42 #[.slice (some ⟨b, off, none⟩) n c] w fun e w' => ∃ v', e = .returned v' ∧ w'.ownsRow w.heap.size 3 size v' n news ∧ v' ≠ .slice none 0 0 ∧ Below w.heap.size w w' := AnyE.slices_Clone Try.laysSlE041_f42 i0 z size bytes hi hz0 hz1 hz2 hzs hsz z23 b off n c news w hl hn hbig hc h1
open Go.RowKit Go.Lib in
/-- The same at nil: nil comes back; the world is as it was; nothing is asked of the element's type. (LAID AT THE INSTANCE 'slices.Clone[[]int,int]': no walk: one application.) -/
theorem Try.slices_Clone_nil (n c : Nat) (w : World) :
    Calls Try.prog 42 #[.slice none n c] w fun e w' => e = .returned (.slice none 0 0) ∧ w' = w := AnyE.slices_Clone_nil Try.laysSlE041_f42 n c w
end Go.Proofs
/- slices.Sort, slices.Compact and slices.Contains of ints, over owned rows. -/
namespace Go.Proofs.Ytajlikakbihgbaa
open Go.RowKit Go.Own
theorem ints_holds {w : World} {L : List HP} {g cap m : Nat} {l : List Int} (hO : Has w (Ints (.slice (some ⟨g, 0, none⟩) m cap) l :: L)) : Sort.Holds (Value.int .i64) w g 0 l.toArray := by
  obtain ⟨-, hc, hf, -, -⟩ := hO.row_cells
  intro j hj
  have hj' : j < l.length := by simpa using hj
  refine ⟨?_, by rw [Nat.zero_add]; exact hf j⟩
  rw [Nat.zero_add, hc j (by omega), ic, List.getElem?_map, List.getElem?_eq_getElem hj', Option.map_some, getElem!_pos _ j hj, List.getElem_toArray]
def sorted (l : List Int) : List Int := l.mergeSort fun x y => decide (x ≤ y)
theorem sorted_len (l : List Int) : (sorted l).length = l.length := List.length_mergeSort _
theorem sortInts (v : Value) (l : List Int) (w : World) (L : List HP) (hl : l.length ≤ 1000000) (hO : Has w (Ints v l :: L)) :
    Calls Try.prog 41 #[v] w fun e w' => e = .returned (.tuple #[]) ∧ Has w' (Ints v (sorted l) :: L) ∧ Keep w w' := by
  obtain ⟨h1, ⟨rfl, h2, h3, -⟩ | ⟨g, cap, cur, rfl, h2, h3, -, -, h4⟩⟩ := Has.row_cases hO
  · have hn : l = [] := List.eq_nil_of_length_eq_zero h2
    subst hn
    refine (Try.slices_Sort_int_none none 0 w).mono ?_
    rintro e w' ⟨rfl, rfl⟩
    exact ⟨rfl, by simpa [sorted] using hO, Keep.refl _⟩
  · refine (Try.slices_Sort_int g 0 cap l w (ints_holds hO) h4.lt (by omega)).mono ?_
    rintro e w' ⟨rfl, m, os, rfl⟩
    have h5 := ((Has.ahead hO m).putRow (d := (sorted l).toArray) (Value.int .i64) (by simp [sorted_len])).grow os
    refine ⟨rfl, ?_, rfl, rfl, rfl, by simp [Sort.grow, Sort.putRow, Sort.mapBlock, Sort.ahead]⟩
    unfold Ints
    rw [sorted_len]
    exact h5
end Go.Proofs.Ytajlikakbihgbaa
/- A CACHE's CALLS: Dirty, and what they answer of none, and of what is not held. -/
namespace Go.Proofs.Ytajlikakbihgbaa
open Go.RowKit Go.Own Go.Dk Go.Ch
def dirts (K : List Hb) : List Int := (K.filter Hb.dirty).map Hb.at_
theorem filter_take {α : Type} (p : α → Bool) (T : List α) (k : Nat) (hk : k < T.length) : (T.take (k + 1)).filter p = (T.take k).filter p ++ (if p T[k] then [T[k]] else []) := by
  rw [List.take_succ_eq_append_getElem hk, List.filter_append]
  congr 1
  simp only [List.filter_cons, List.filter_nil]
def dirtT (T : List Hd) : List Int := (T.filter Hd.dirty).map Hd.at_
theorem dirtT_map (T : List Hd) : dirts (T.map Hd.hb) = dirtT T := by
  unfold dirts dirtT
  rw [List.filter_map, List.map_map]
  rfl
theorem dirtT_take (T : List Hd) (k : Nat) (hk : k < T.length) : dirtT (T.take (k + 1)) = dirtT (T.take k) ++ (if T[k].dirty then [T[k].at_] else []) := by
  unfold dirtT
  rw [filter_take _ _ _ hk, List.map_append]
  congr 1
  split <;> rfl
theorem dirtT_len (T : List Hd) (k : Nat) : (dirtT (T.take k)).length ≤ T.length := by
  unfold dirtT
  rw [List.length_map]
  refine Nat.le_trans (List.length_filter_le _ _) ?_
  simp only [List.length_take]
  omega
set_option maxRecDepth 100000 in
set_option maxHeartbeats 4000000 in
theorem kcDirty (q : Nat) (dv : Value) (most : Int) (K : List Hb) (w : World) (L : List HP) (hl : K.length ≤ 10000) (hO : Has w (Cch q dv most K :: L)) :
    Calls Try.prog 18 #[.pointer (some ⟨q, 0, none⟩)] w fun e w' => ∃ v', e = .returned v' ∧ Has w' (Ints v' (sorted (dirts K)) :: Cch q dv most K :: L) ∧ Keep w w' := by
  obtain ⟨v, T, B, ⟨rfl, hB⟩, h2⟩ := cch_iff.1 hO
  rw [dirtT_map]
  obtain ⟨p, c, rfl, -, -, hcs⟩ := h2.p1.rd.form
  have HO := hid (h2.row_nil 3 1)
  have HB := hid hB
  have HL := hid (show T.length ≤ 10000 by simpa using hl)
  have HCS := hid hcs
  have hq := h2.cells
  unfold caC at hq
  have HK := hid (Keep.refl w)
  clear hO h2 hB hl hcs
  go_enter Try.func18, Try.ntmps18
  go_wp2_with fail
  clear hq
  go_loopw [3, 13] (fun s i w' => ∃ k : Nat, k ≤ T.length ∧ i = .int .i64 k ∧ Hid (Has w' (row s 3 1 (dirtT (T.take k)).length (ic (dirtT (T.take k))) :: pt q (.cells (caC dv most (.slice p T.length c)) 70) :: row (.slice p T.length c) 76 4 T.length (hcells T) :: poolc 5 B :: L)) ∧ Hid (Keep w w')) (fun _ i _ => T.length - (intOf i).toNat)
  case atStart => exact ⟨0, by omega, rfl, HO, HK⟩
  case round =>
    clear HO HK
    obtain ⟨k, hk, rfl, HO, HK⟩ := hrel
    by_cases hlt : k < T.length
    · have hki : (k : Int) < (T.length : Int) := by omega
      have hk0 : (0 : Int) ≤ (k : Int) := by omega
      have hnb : (T.length : Int) ≤ 10000 := by have := HL.out; omega
      obtain ⟨g, o, rfl, -⟩ := HCS.out (by omega)
      obtain ⟨c0, c1, c2, c3⟩ := hd_cells HO.out.p2.rd k hlt
      obtain ⟨px, cx, hxt, -⟩ := (HO.out.p3.pool_rd (HB.out T[k] (List.getElem_mem hlt))).form
      have HTK := hid (dirtT_take T k hlt)
      have HLT := hid hlt
      have HDL := hid (dirtT_len T k)
      generalize T[k] = x at *
      obtain ⟨xa, ⟨xv, xb⟩, xd, xp⟩ := x
      dsimp only at hxt c0 c1 c2 c3 HTK
      subst hxt
      have HO2 := hid (HO.out.alloc (.cells #[.int .i64 xa, .slice px xb.length cx, .bool xd, .bool xp] 76))
      have HK2 := hid (HK.out.alloc (.cells #[.int .i64 xa, .slice px xb.length cx, .bool xd, .bool xp] 76))
      cases xd
      · rw [if_neg (by decide), List.append_nil] at HTK
        clear hlt hk HO HK
        go_wp2_with fail
        refine ⟨⟨k + 1, by have := HLT.out; omega, rfl, ?_, HK2⟩, by have := HLT.out; simp [intOf]; omega⟩
        rw [HTK.out]
        exact hid (HO2.out.re 5 [1, 2, 3, 4])
      · rw [if_pos rfl] at HTK
        have HO3 := hid ((HO2.out.alloc (.cells #[.int .i64 xa] 3)))
        have HK3 := hid (HK2.out.alloc (.cells #[.int .i64 xa] 3))
        have e1 : (wr.alloc (.cells #[.int .i64 xa, .slice px xb.length cx, .bool true, .bool xp] 76)).heap.size = wr.heap.size + 1 := Array.size_push _
        rw [e1] at HO3
        clear hlt hk HO HK e1 HO2 HK2
        have hcx := HO3.out.cells 0
        go_wp2_with (at_builtin; refine wpList_append1 rfl _ _ _ rfl Try.underlying22 infoInt rfl (.int .i64 xa) HO3.out.p2 rfl 1 (wr.heap.size + 1) rfl hcx rfl (le_maxLen (by have := HDL.out; have := HL.out; omega)) (by have := HDL.out; have := HL.out; omega) ?_)
        intro v4 w4 h4 k4
        have HO4 := hid (show Has w4 (row v4 3 1 (dirtT (T.take (k + 1))).length (ic (dirtT (T.take (k + 1)))) :: pt q (.cells (caC dv most (.slice (some ⟨g, o, none⟩) T.length c)) 70) :: row (.slice (some ⟨g, o, none⟩) T.length c) 76 4 T.length (hcells T) :: poolc 5 B :: L) from by
          rw [HTK.out, ic_snoc, List.length_append]
          exact h4.re 6 [0, 3, 4, 5])
        have HK4 := hid (HK3.out.trans k4)
        clear h4 k4 HO3 HK3 hcx c0 c1 c2 c3
        go_wp2_with fail
        exact ⟨⟨k + 1, by have := HLT.out; omega, rfl, HO4, HK4⟩, by have := HLT.out; simp [intOf]; omega⟩
    · obtain rfl : k = T.length := by omega
      have hki : ¬ (T.length : Int) < (T.length : Int) := by omega
      have HDL := hid (dirtT_len T T.length)
      have HT := hid (show T.take T.length = T from List.take_of_length_le (Nat.le_refl _))
      rw [HT.out] at HO HDL
      clear hlt hk
      go_wp2_with fail
      refine (sortInts u3 (dirtT T) wr _ (by have := HL.out; have := HDL.out; omega) HO.out).mono ?_
      rintro e w4 ⟨rfl, hO4, hK4⟩
      have HO4 := hid hO4
      have HK4 := hid ((HK.out).trans hK4)
      clear hO4 hK4
      try dsimp only
      go_wp2_with fail
      go_ret
      refine ⟨_, rfl, ?_, HK4.out⟩
      exact ((cch_iff.2 ⟨_, T, B, ⟨rfl, HB.out⟩, HO4.out.re 4 [1, 2, 3, 0]⟩) : Has _ (Cch q dv most _ :: Ints u3 (sorted (dirtT T)) :: L)).p1
end Go.Proofs.Ytajlikakbihgbaa
/- append of one element of more cells. No program in sight. -/
namespace Go.Own
open Go.RowKit
/-- 'append(s, u)' of one element of more cells. -/
theorem wpList_appendS {P : Program} {w : World} {l : List HP} {v : Value} {e : TypeId} {size n : Nat} {xs : List Value} {ops : Array Oper} {rest : List Oper} {o : Oper} {a : Act} {Q : Exit → Act → World → Prop} (hgd : o.guard = none) (s x : Operand) (t : TypeId)
    (ho : o.op = .call { callee := .builtin .append, args := #[s, x], argTypes := #[t, t] })
    {z : Value} {bytes : Nat} (ht : P.underlying t = some (.slice e)) (hi : (P.info? e).map (fun i => (i.zero, i.size, i.bytes)) = some (some z, size, bytes)) (hzs : z.cells.size = size)
    (us : List Value) (hus : us.length = size) (hO : Has w (row v e size n xs :: l)) (hs : a.eval s = v) (c : Nat) (b : Nat)
    (hx : a.eval x = .slice (some ⟨b, 0, none⟩) 1 c) (hu : ∀ j, w.cell? ⟨b, j, none⟩ = us[j]?) (h1 : ∀ u ∈ us, u.oneCell' = true)
    (h63 : n + 1 ≤ maxLen) (hbytes : (n + 1) * bytes ≤ 140737488355328)
    (h : ∀ v' w', Has w' (row v' e size (n + 1) (xs ++ us) :: l) → Keep w w' → wpList P ops Q rest (a.put o.dst v') w') : wpList P ops Q (o :: rest) a w :=
  wpList_plain hgd fun _ hK => wp_append1 s x t ho ht hi hzs us hus hO hs c b hx hu h1 h63 hbytes fun v' w' h2 h3 => hK _ _ (h v' w' h2 h3)
end Go.Own
