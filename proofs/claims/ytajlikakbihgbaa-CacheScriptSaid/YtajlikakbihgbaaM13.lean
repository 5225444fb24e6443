/- TEXTS of mine, merged. -/
import Derived.Test.YtajlikakbihgbaaM12
/- THE REFERENCE's CACHE: what is refused, Put, Pin. -/
namespace Go.Proofs.Ytajlikakbihgbaa
open Go.RowKit Go.Own Go.Ch Go.Dk
abbrev rP (d : Nat) : Value := .pointer (some ⟨d, 0, none⟩)
theorem rkFirm {c : Nat} {E : Bk} {w : World} {L : List HP} (hO : Has w (RDk c E :: L)) : ∃ p k, w.cell? ⟨c, 0, none⟩ = some (.slice p E.firm.length k) := by
  obtain ⟨fv, lv, h0, -, -, -, h1, -⟩ := rkCells c E w L hO
  obtain ⟨R, hR, h2, -⟩ := h1
  obtain ⟨p, k, rfl, -⟩ := h2.form
  refine ⟨p, k, ?_⟩
  rw [h0, ← hR, List.length_map]
set_option maxRecDepth 100000 in
set_option maxHeartbeats 4000000 in
theorem rcGetErr (q d : Nat) (most : Int) (K : List Hb) (E : Bk) (a : Int) (w : World) (L : List HP) (hl : K.length ≤ 9000) (hw : E.waits.length ≤ 1000000000) (hf : find K a = none) (he : (E.read a).1 ≠ 0) (hO : Has w (Rcc q (rP d) most K :: RDk d E :: L)) :
    Calls Try.prog 43 #[.pointer (some ⟨q, 0, none⟩), .int .i64 a] w fun e w' => e = .returned (.tuple #[.slice none 0 0, .int .i64 (E.read a).1]) ∧ Has w' (Rcc q (rP d) most K :: RDk d E :: L) ∧ Keep w w' := by
  obtain ⟨v, T, B, ⟨rfl, hB⟩, h2⟩ := rcc_iff.1 hO
  have HF := hid (rcAt q (rP d) most v T B a w _ (by simp at hl; omega) h2)
  obtain ⟨p, c, rfl, -⟩ := h2.p1.rd.form
  have HBB := hid hB
  have HWT := hid hw
  rw [hf] at HF
  simp only [atN] at HF
  have HO2 := hid (h2.alloc (.cells #[.int .i64 a, .slice none 0 0, .bool false, .bool false] 92))
  have HK2 := hid ((Keep.refl w).alloc (.cells #[.int .i64 a, .slice none 0 0, .bool false, .bool false] 92))
  have hq := HO2.out.p1.cells
  unfold caC at hq
  clear hO h2 hB hl hf hw
  go_enter Try.func43, Try.ntmps43
  go_wp2_with fail
  refine HF.out.mono ?_
  rintro e w' ⟨rfl, rfl⟩
  try dsimp only
  go_wp2_with fail
  refine (rkRead d E _ _ HO2.out.p4 a HWT.out).mono ?_
  rintro e w3 ⟨v3, rfl, h3, k3⟩
  obtain ⟨p3, c3, rfl, -⟩ := (Bytes.rd h3).form
  have HO3 := hid (show Has w3 (Rcc q (rP d) most (T.map Hd.hb) :: RDk d E :: L) from rcc_iff.2 ⟨_, T, B, ⟨rfl, HBB.out⟩, h3.re 6 [3, 4, 5, 1]⟩)
  have HK3 := hid (HK2.out.trans k3)
  clear h3 k3 HO2 HK2 hq HF
  generalize hr : (E.read a).1 = r at *
  have HR := hid hr
  clear hr
  try dsimp only
  go_wp2_with fail
  go_ret2
  rw [HR.out]
  exact ⟨rfl, HO3.out, HK3.out⟩
set_option maxRecDepth 100000 in
set_option maxHeartbeats 4000000 in
theorem rcPutBad (q d : Nat) (most : Int) (K : List Hb) (E : Bk) (a : Int) (v : Value) (xs : List Int) (w : World) (L : List HP) (ha : ¬ (0 ≤ a ∧ a < E.firm.length)) (hv : ∃ p c, v = .slice p xs.length c) (hO : Has w (Rcc q (rP d) most K :: RDk d E :: L)) :
    Calls Try.prog 46 #[.pointer (some ⟨q, 0, none⟩), .int .i64 a, v] w fun e w' => e = .returned (.int .i64 2) ∧ w = w' := by
  obtain ⟨p, c, rfl⟩ := hv
  obtain ⟨v, T, B, -, h2⟩ := rcc_iff.1 hO
  obtain ⟨p2, k2, hf⟩ := rkFirm (h2.p3)
  have hq := h2.cells
  unfold caC at hq
  have hc0 : w.cell? ⟨q, 0, none⟩ = some (rP d) := hq 0
  clear hO h2 hq
  by_cases h0 : a < 0
  · go_enter Try.func46, Try.ntmps46
    go_wp2_with fail
    go_ret
    exact ⟨rfl, rfl⟩
  · have h1 : (E.firm.length : Int) ≤ a := by omega
    go_enter Try.func46, Try.ntmps46
    go_wp2_with fail
    go_ret
    exact ⟨rfl, rfl⟩
set_option maxRecDepth 100000 in
set_option maxHeartbeats 4000000 in
theorem rcPinNone (q : Nat) (dv : Value) (most : Int) (K : List Hb) (a : Int) (on : Bool) (w : World) (L : List HP) (hl : K.length ≤ 9000) (hf : find K a = none) (hO : Has w (Rcc q dv most K :: L)) :
    Calls Try.prog 47 #[.pointer (some ⟨q, 0, none⟩), .int .i64 a, .bool on] w fun e w' => e = .returned (.int .i64 5) ∧ w = w' := by
  obtain ⟨v, T, B, ⟨rfl, hB⟩, h2⟩ := rcc_iff.1 hO
  have HF := hid (rcAt q dv most v T B a w _ (by simp at hl; omega) h2)
  rw [hf] at HF
  simp only [atN] at HF
  clear hO h2 hB hl hf
  go_enter Try.func47, Try.ntmps47
  go_wp2_with fail
  refine HF.out.mono ?_
  rintro e w' ⟨rfl, rfl⟩
  try dsimp only
  go_wp2_with fail
  go_ret
  exact ⟨rfl, rfl⟩
set_option maxRecDepth 100000 in
set_option maxHeartbeats 4000000 in
theorem rcCleanNone (q : Nat) (dv : Value) (most : Int) (K : List Hb) (a : Int) (w : World) (L : List HP) (hl : K.length ≤ 9000) (hf : find K a = none) (hO : Has w (Rcc q dv most K :: L)) :
    Calls Try.prog 48 #[.pointer (some ⟨q, 0, none⟩), .int .i64 a] w fun e w' => e = .returned (.int .i64 5) ∧ w = w' := by
  obtain ⟨v, T, B, ⟨rfl, hB⟩, h2⟩ := rcc_iff.1 hO
  have HF := hid (rcAt q dv most v T B a w _ (by simp at hl; omega) h2)
  rw [hf] at HF
  simp only [atN] at HF
  clear hO h2 hB hl hf
  go_enter Try.func48, Try.ntmps48
  go_wp2_with fail
  refine HF.out.mono ?_
  rintro e w' ⟨rfl, rfl⟩
  try dsimp only
  go_wp2_with fail
  go_ret
  exact ⟨rfl, rfl⟩
set_option maxRecDepth 100000 in
set_option maxHeartbeats 4000000 in
theorem rcPutN (q d : Nat) (most : Int) (K : List Hb) (E : Bk) (a : Int) (v : Value) (xs : List Int) (w : World) (L : List HP) (hm : 0 ≤ most ∧ most ≤ 1000000) (hl : K.length ≤ 9000) (ha : 0 ≤ a ∧ a < E.firm.length) (hx : xs.length = 128) (hr : ∀ w', Has w' L → Rd w' v 1 xs.length (bc xs)) (hf : find K a = none) (hO : Has w (Rcc q (rP d) most K :: RDk d E :: L)) :
    Calls Try.prog 46 #[.pointer (some ⟨q, 0, none⟩), .int .i64 a, v] w fun e w' => e = .returned (.int .i64 0) ∧ Has w' (Rcc q (rP d) most (settleK most (putK K ⟨a, xs, true, false⟩)) :: RDk d E :: L) ∧ Keep w w' := by
  obtain ⟨v0, T, B, ⟨rfl, hB⟩, h2⟩ := rcc_iff.1 hO
  obtain ⟨vp, vc, rfl, -⟩ := (hr w h2.drop.drop.drop.drop).form
  obtain ⟨p2, k2, hf0⟩ := rkFirm (h2.p3)
  obtain ⟨p, c, rfl, -, -, hcs⟩ := h2.p1.rd.form
  have HRX := hid hr
  have HO := hid h2
  have HM := hid hm
  have HL := hid (show T.length ≤ 9000 by simpa using hl)
  have HBB := hid hB
  have HX := hid hx
  have HFI := hid hf
  clear hf
  have hq := h2.cells
  unfold caC at hq
  have hc0 : w.cell? ⟨q, 0, none⟩ = some (rP d) := hq 0
  have ha0 : ¬ a < 0 := by omega
  have ha1 : ¬ (E.firm.length : Int) ≤ a := by omega
  have hxl : (xs.length : Int) = 128 := by omega
  clear hO h2 hB hl hm hr hx hq hcs
  go_enter Try.func46, Try.ntmps46
  go_wp2_with (at_builtin; refine wpList_appendA rfl _ _ _ rfl Try.underlying33 infoU8 rfl (by decide) (HO.out.row_nil 5 1) rfl _ xs.length _ rfl (HRX.out _ HO.out.drop.drop.drop.drop) (bc_one _) (le_maxLen (by have := HX.out; omega)) (by have := HX.out; omega) ?_)
  intro v2 w2 h2 k2'
  have HO2 := hid (bytes_of h2)
  have HK2 := hid k2'
  obtain ⟨p3, c3, rfl, -⟩ := (Bytes.rd HO2.out).form
  clear h2 k2' HO hc0 hf0
  have HO3 := hid (show Has w2 (rC q (rP d) most (.slice p T.length c) :: rRow (.slice p T.length c) T :: poolc 5 ((.slice p3 xs.length c3, xs) :: B) :: RDk d E :: L) from (show Has w2 (Bytes (.slice p3 xs.length c3) xs :: poolc 5 B :: rC q (rP d) most (.slice p T.length c) :: rRow (.slice p T.length c) T :: RDk d E :: L) from HO2.out.re 4 [0, 3, 1, 2]).pool_add.re 3 [1, 2, 0])
  clear HO2
  have HO4 := hid (HO3.out.alloc (.cells #[.int .i64 a, .slice p3 xs.length c3, .bool true, .bool false] 92))
  have HK4 := hid (HK2.out.alloc (.cells #[.int .i64 a, .slice p3 xs.length c3, .bool true, .bool false] 92))
  have HF := hid (rcAt q (rP d) most (.slice p T.length c) T ((.slice p3 xs.length c3, xs) :: B) a _ _ (by have := HL.out; omega) (HO4.out.re 4 [1, 2, 3, 0]))
  rw [HFI.out] at HF
  simp only [atN] at HF
  have HHB := hid (show ∀ x ∈ T, x.t ∈ ((.slice p3 xs.length c3, xs) :: B : Txs) from fun x hx => List.mem_cons_of_mem _ (HBB.out x hx))
  have hi2 : (T.length : Int) ≤ 10000 := by have := HL.out; omega
  go_wp2_with fail
  refine HF.out.mono ?_
  rintro e w' ⟨rfl, rfl⟩
  have HO5 := HO4
  have HK5 := HK4
  have hbx5 := HO5.out.cells
  have HN := hid (rcNewest q (rP d) most (.slice p T.length c) T ((.slice p3 xs.length c3, xs) :: B) ⟨a, ⟨.slice p3 xs.length c3, xs⟩, true, false⟩ _ _ (by have := HL.out; omega) HHB.out List.mem_cons_self (HO5.out.re 4 [1, 2, 3, 0]))
  unfold hdV at HN
  dsimp only at HN
  try dsimp only
  go_wp2_with fail
  refine HN.out.mono ?_
  rintro e w4 ⟨rfl, ⟨v4, T4, hT4, hl4, h4⟩, k4⟩
  have HO4 := hid h4
  have HK4 := hid (HK5.out.trans k4)
  have HT4 := hid hT4
  have HL4 := hid hl4
  obtain ⟨p4, c4, e4, -⟩ := h4.p1.rd.form
  subst e4
  clear h4 k4 hT4 hl4 HO3 HN hbx5 HO5 HK5 HF
  try dsimp only
  have hl5 : (T4.length : Int) ≤ 10000 := by have := HL4.out; have := HL.out; omega
  have hm1 : 0 ≤ most := HM.out.1
  have hm2 : most ≤ 1000000 := HM.out.2
  go_upto_region 8 with fail
  refine region_tail1 (fun w' => w'.cell? ⟨q, 1, none⟩ = some (.int .i64 most) ∧ w'.cell? ⟨q, 2, none⟩ = some (.slice p4 T4.length c4)) (by kernel_rfl) (by kernel_rfl) (by kernel_rfl) (by decide) ⟨HO4.out.drew.cells 1, HO4.out.drew.cells 2⟩ ?_
  have HW5 := hid (show IntKind.i64.wrap ((T4.length : Int) - most) = (T4.length : Int) - most from wrapk_in _ (by omega))
  have HO5 := hid HO4.out.drew
  have HK5 := hid HK4.out.drew
  have HLE := hid hl5
  generalize w4.drew = w5 at *
  clear HO4 HK4
  repeat (first
    | (refine wpL_read (by rfl) (by rfl) ?_ ?_ ?_; rotate_left; (rintro w ⟨z0, z1⟩; go_simp; with_reducible rfl); simp only [Act.put, List.setIfInBounds_toArray, List.set_cons_zero, List.set_cons_succ]) | (refine wpL_skip (by rfl) ?_; simp only [Act.put, List.setIfInBounds_toArray, List.set_cons_zero, List.set_cons_succ]))
  refine wpL_nil ?_
  refine wpOp_last rfl (by rfl) ?_
  go_simp
  rw [HW5.out]
  refine (rcDropT q (rP d) most (.slice p4 T4.length c4) T4 ((.slice p3 xs.length c3, xs) :: B) ((T4.length : Int) - most) w5 _ (by have := HLE.out; have := HM.out.1; omega) (by have := HLE.out; omega) HT4.out.2 HO5.out).mono ?_
  rintro e w6 ⟨rfl, ⟨v6, T6, hT6, h6⟩, k6⟩
  rw [show ((T4.length : Int) - most) = (((T4.map Hd.hb).length : Nat) : Int) - most by rw [List.length_map], settle_is, HT4.out.1] at hT6
  have HO6 := hid h6
  have HK6 := hid (HK5.out.trans k6)
  have HT6 := hid hT6
  clear h6 k6 hT6 HO5 HK5
  try dsimp only
  go_wp2_with fail
  go_ret
  exact ⟨rfl, rcc_iff.2 ⟨v6, T6, _, HT6.out, HO6.out.re 5 [0, 1, 2, 4]⟩, HK6.out⟩
set_option maxRecDepth 100000 in
set_option maxHeartbeats 4000000 in
theorem rcPutY (q d : Nat) (most : Int) (K : List Hb) (E : Bk) (a : Int) (v : Value) (xs : List Int) (i : Nat) (w : World) (L : List HP) (hm : 0 ≤ most ∧ most ≤ 1000000) (hl : K.length ≤ 9000) (ha : 0 ≤ a ∧ a < E.firm.length) (hx : xs.length = 128) (hr : ∀ w', Has w' L → Rd w' v 1 xs.length (bc xs)) (hf : find K a = some i) (hi : i < K.length) (hO : Has w (Rcc q (rP d) most K :: RDk d E :: L)) :
    Calls Try.prog 46 #[.pointer (some ⟨q, 0, none⟩), .int .i64 a, v] w fun e w' => e = .returned (.int .i64 0) ∧ Has w' (Rcc q (rP d) most (settleK most (putK K ⟨a, xs, true, K[i].pin⟩)) :: RDk d E :: L) ∧ Keep w w' := by
  obtain ⟨v0, T, B, ⟨rfl, hB⟩, h2⟩ := rcc_iff.1 hO
  obtain ⟨vp, vc, rfl, -⟩ := (hr w h2.drop.drop.drop.drop).form
  obtain ⟨p2, k2, hf0⟩ := rkFirm (h2.p3)
  obtain ⟨p, c, rfl, -, -, hcs⟩ := h2.p1.rd.form
  have HRX := hid hr
  have HO := hid h2
  have HM := hid hm
  have HL := hid (show T.length ≤ 9000 by simpa using hl)
  have HBB := hid hB
  have HX := hid hx
  have HFI := hid hf
  have hiT : i < T.length := by simpa using hi
  obtain ⟨g, o, rfl, -⟩ := hcs (by omega)
  have hi0 : (0 : Int) ≤ (i : Int) := by omega
  have hi1 : (i : Int) < (T.length : Int) := by omega
  have HKI := hid (show (T.map Hd.hb)[i].pin = T[i].pin by rw [List.getElem_map]; rfl)
  rw [HKI.out]
  have HII := hid hiT
  generalize hpp : (T[i]'hiT).pin = pp at *
  have HPP : Hid ((T[i]'HII.out).pin = pp) := hid hpp
  clear hf hi hiT hpp HKI
  have hq := h2.cells
  unfold caC at hq
  have hc0 : w.cell? ⟨q, 0, none⟩ = some (rP d) := hq 0
  have ha0 : ¬ a < 0 := by omega
  have ha1 : ¬ (E.firm.length : Int) ≤ a := by omega
  have hxl : (xs.length : Int) = 128 := by omega
  clear hO h2 hB hl hm hr hx hq hcs
  go_enter Try.func46, Try.ntmps46
  go_wp2_with (at_builtin; refine wpList_appendA rfl _ _ _ rfl Try.underlying33 infoU8 rfl (by decide) (HO.out.row_nil 5 1) rfl _ xs.length _ rfl (HRX.out _ HO.out.drop.drop.drop.drop) (bc_one _) (le_maxLen (by have := HX.out; omega)) (by have := HX.out; omega) ?_)
  intro v2 w2 h2 k2'
  have HO2 := hid (bytes_of h2)
  have HK2 := hid k2'
  obtain ⟨p3, c3, rfl, -⟩ := (Bytes.rd HO2.out).form
  clear h2 k2' HO hc0 hf0
  have HO3 := hid (show Has w2 (rC q (rP d) most (.slice (some ⟨g, o, none⟩) T.length c) :: rRow (.slice (some ⟨g, o, none⟩) T.length c) T :: poolc 5 ((.slice p3 xs.length c3, xs) :: B) :: RDk d E :: L) from (show Has w2 (Bytes (.slice p3 xs.length c3) xs :: poolc 5 B :: rC q (rP d) most (.slice (some ⟨g, o, none⟩) T.length c) :: rRow (.slice (some ⟨g, o, none⟩) T.length c) T :: RDk d E :: L) from HO2.out.re 4 [0, 3, 1, 2]).pool_add.re 3 [1, 2, 0])
  clear HO2
  have HO4 := hid (HO3.out.alloc (.cells #[.int .i64 a, .slice p3 xs.length c3, .bool true, .bool false] 92))
  have HK4 := hid (HK2.out.alloc (.cells #[.int .i64 a, .slice p3 xs.length c3, .bool true, .bool false] 92))
  have HF := hid (rcAt q (rP d) most (.slice (some ⟨g, o, none⟩) T.length c) T ((.slice p3 xs.length c3, xs) :: B) a _ _ (by have := HL.out; omega) (HO4.out.re 4 [1, 2, 3, 0]))
  rw [HFI.out] at HF
  simp only [atN] at HF
  have HHB := hid (show ∀ x ∈ T, x.t ∈ ((.slice p3 xs.length c3, xs) :: B : Txs) from fun x hx => List.mem_cons_of_mem _ (HBB.out x hx))
  have hi2 : (T.length : Int) ≤ 10000 := by have := HL.out; omega
  obtain ⟨d0, d1, d2, d3⟩ := hd_cells HO4.out.p2.rd i HII.out
  have hpe : (T[i]'HII.out).pin = pp := HPP.out
  rw [hpe] at d3
  have hq4 := HO4.out.p1.cells
  unfold caC at hq4
  clear d0 d1 d2 hpe
  go_wp2_with fail
  refine HF.out.mono ?_
  rintro e w' ⟨rfl, rfl⟩
  have HO5 := hid (HO3.out.alloc (.cells #[.int .i64 a, .slice p3 xs.length c3, .bool true, .bool pp] 92))
  have HK5 := hid (HK2.out.alloc (.cells #[.int .i64 a, .slice p3 xs.length c3, .bool true, .bool pp] 92))
  have hbx5 := HO5.out.cells
  have HN := hid (rcNewest q (rP d) most (.slice (some ⟨g, o, none⟩) T.length c) T ((.slice p3 xs.length c3, xs) :: B) ⟨a, ⟨.slice p3 xs.length c3, xs⟩, true, pp⟩ _ _ (by have := HL.out; omega) HHB.out List.mem_cons_self (HO5.out.re 4 [1, 2, 3, 0]))
  unfold hdV at HN
  dsimp only at HN
  try dsimp only
  go_wp2_with fail
  refine HN.out.mono ?_
  rintro e w4 ⟨rfl, ⟨v4, T4, hT4, hl4, h4⟩, k4⟩
  have HO4 := hid h4
  have HK4 := hid (HK5.out.trans k4)
  have HT4 := hid hT4
  have HL4 := hid hl4
  obtain ⟨p4, c4, e4, -⟩ := h4.p1.rd.form
  subst e4
  clear h4 k4 hT4 hl4 HO3 HN hbx5 HO5 HK5 HF d3 hq4
  try dsimp only
  have hl5 : (T4.length : Int) ≤ 10000 := by have := HL4.out; have := HL.out; omega
  have hm1 : 0 ≤ most := HM.out.1
  have hm2 : most ≤ 1000000 := HM.out.2
  go_upto_region 8 with fail
  refine region_tail1 (fun w' => w'.cell? ⟨q, 1, none⟩ = some (.int .i64 most) ∧ w'.cell? ⟨q, 2, none⟩ = some (.slice p4 T4.length c4)) (by kernel_rfl) (by kernel_rfl) (by kernel_rfl) (by decide) ⟨HO4.out.drew.cells 1, HO4.out.drew.cells 2⟩ ?_
  have HW5 := hid (show IntKind.i64.wrap ((T4.length : Int) - most) = (T4.length : Int) - most from wrapk_in _ (by omega))
  have HO5 := hid HO4.out.drew
  have HK5 := hid HK4.out.drew
  have HLE := hid hl5
  generalize w4.drew = w5 at *
  clear HO4 HK4
  repeat (first
    | (refine wpL_read (by rfl) (by rfl) ?_ ?_ ?_; rotate_left; (rintro w ⟨z0, z1⟩; go_simp; with_reducible rfl); simp only [Act.put, List.setIfInBounds_toArray, List.set_cons_zero, List.set_cons_succ]) | (refine wpL_skip (by rfl) ?_; simp only [Act.put, List.setIfInBounds_toArray, List.set_cons_zero, List.set_cons_succ]))
  refine wpL_nil ?_
  refine wpOp_last rfl (by rfl) ?_
  go_simp
  rw [HW5.out]
  refine (rcDropT q (rP d) most (.slice p4 T4.length c4) T4 ((.slice p3 xs.length c3, xs) :: B) ((T4.length : Int) - most) w5 _ (by have := HLE.out; have := HM.out.1; omega) (by have := HLE.out; omega) HT4.out.2 HO5.out).mono ?_
  rintro e w6 ⟨rfl, ⟨v6, T6, hT6, h6⟩, k6⟩
  rw [show ((T4.length : Int) - most) = (((T4.map Hd.hb).length : Nat) : Int) - most by rw [List.length_map], settle_is, HT4.out.1] at hT6
  have HO6 := hid h6
  have HK6 := hid (HK5.out.trans k6)
  have HT6 := hid hT6
  clear h6 k6 hT6 HO5 HK5
  try dsimp only
  go_wp2_with fail
  go_ret
  exact ⟨rfl, rcc_iff.2 ⟨v6, T6, _, HT6.out, HO6.out.re 5 [0, 1, 2, 4]⟩, HK6.out⟩
end Go.Proofs.Ytajlikakbihgbaa
/- THE REFERENCE's CACHE: Pin, Clean. -/
namespace Go.Proofs.Ytajlikakbihgbaa
open Go.RowKit Go.Own Go.Ch Go.Dk
set_option maxRecDepth 100000 in
set_option maxHeartbeats 4000000 in
theorem rcPin (q : Nat) (dv : Value) (most : Int) (K : List Hb) (a : Int) (on : Bool) (i : Nat) (w : World) (L : List HP) (hm : 0 ≤ most ∧ most ≤ 1000000) (hl : K.length ≤ 9000) (hf : find K a = some i) (hi : i < K.length) (hO : Has w (Rcc q dv most K :: L)) :
    Calls Try.prog 47 #[.pointer (some ⟨q, 0, none⟩), .int .i64 a, .bool on] w fun e w' => e = .returned (.int .i64 0) ∧ Has w' (Rcc q dv most (settleK most (K.set i ⟨K[i].at_, K[i].b, K[i].dirty, on⟩)) :: L) ∧ Keep w w' := by
  obtain ⟨v, T, B, ⟨rfl, hB⟩, h2⟩ := rcc_iff.1 hO
  have HF := hid (rcAt q dv most v T B a w _ (by simp at hl; omega) h2)
  have hiT : i < T.length := by simpa using hi
  obtain ⟨p, c, rfl, -⟩ := h2.p1.rd.form
  obtain ⟨g, rfl⟩ : ∃ g, p = some ⟨g, 0, none⟩ := by
    obtain ⟨-, h | ⟨gr, cap, cur, e, -⟩⟩ := h2.p1.row_cases
    · have := h.2.1; omega
    · injection e with e; exact ⟨gr, e⟩
  have HM := hid hm
  have HL := hid (show T.length ≤ 9000 by simpa using hl)
  have HII := hid hiT
  have hi0 : (0 : Int) ≤ (i : Int) := by omega
  have hi1 : (i : Int) < (T.length : Int) := by omega
  have hi2 : (T.length : Int) ≤ 10000 := by simp at hl; omega
  rw [hf] at HF
  simp only [atN] at HF
  have HMAP := hid (show (T.set i ⟨T[i].at_, T[i].t, T[i].dirty, on⟩).map Hd.hb = (T.map Hd.hb).set i ⟨(T.map Hd.hb)[i].at_, (T.map Hd.hb)[i].b, (T.map Hd.hb)[i].dirty, on⟩ by
    rw [List.map_set]; simp only [List.getElem_map]; rfl)
  have HB := hid (show ∀ x ∈ T.set i ⟨T[i].at_, T[i].t, T[i].dirty, on⟩, x.t ∈ B from fun x hx => by
    rcases List.mem_or_eq_of_mem_set hx with hx | rfl
    · exact hB x hx
    · exact hB T[i] (List.getElem_mem hiT))
  have HC := hid (hcells_pin T i hiT on)
  rw [← HMAP.out]
  generalize hT2 : T.set i ⟨T[i].at_, T[i].t, T[i].dirty, on⟩ = T2 at *
  have HL2 := hid (show T2.length = T.length by rw [← hT2, List.length_set])
  have hq := h2.cells
  unfold caC at hq
  obtain ⟨c0, c1, c2, c3⟩ := hd_cells h2.p1.rd i HII.out
  simp only [Nat.zero_add] at c3
  have hth := (h2.p1.row_cells).2.2.1
  clear c0 c1 c2
  have HO3 := hid (show Has (w.setCell ⟨g, i * 4 + 3, none⟩ (.bool on)) (rC q dv most (.slice (some ⟨g, 0, none⟩) T.length c) :: rRow (.slice (some ⟨g, 0, none⟩) T.length c) T2 :: poolc 5 B :: L) from by
    have h := h2.p1.row_set (i * 4 + 3) (by have := HII.out; omega) (.bool on)
    rw [HC.out] at h
    unfold rRow
    rw [HL2.out]
    exact h.p1)
  have HK3 := hid ((Keep.refl w).set ⟨g, i * 4 + 3, none⟩ (.bool on))
  clear HMAP hT2 hO h2 hB hl hm hf
  go_enter Try.func47, Try.ntmps47
  go_wp2_with fail
  refine HF.out.mono ?_
  rintro e w' ⟨rfl, rfl⟩
  try dsimp only
  go_upto_region 5 with fail
  generalize w.setCell ⟨g, i * 4 + 3, none⟩ (.bool on) = w4 at *
  have HO4 := HO3
  have HK4 := HK3
  clear HO3 HK3 hq c3 hth HF
  have hm1 : 0 ≤ most := HM.out.1
  have hm2 : most ≤ 1000000 := HM.out.2
  refine region_tail1 (fun w' => w'.cell? ⟨q, 1, none⟩ = some (.int .i64 most) ∧ w'.cell? ⟨q, 2, none⟩ = some (.slice (some ⟨g, 0, none⟩) T.length c)) (by kernel_rfl) (by kernel_rfl) (by kernel_rfl) (by decide) ⟨HO4.out.drew.cells 1, HO4.out.drew.cells 2⟩ ?_
  have HW5 := hid (show IntKind.i64.wrap ((T.length : Int) - most) = (T.length : Int) - most from wrapk_in _ (by omega))
  have HO5 := hid HO4.out.drew
  have HK5 := hid HK4.out.drew
  have HLE := hid hi2
  generalize w4.drew = w5 at *
  clear HO4 HK4
  repeat (first
    | (refine wpL_read (by rfl) (by rfl) ?_ ?_ ?_; rotate_left; (rintro w ⟨z0, z1⟩; go_simp; with_reducible rfl); simp only [Act.put, List.setIfInBounds_toArray, List.set_cons_zero, List.set_cons_succ]) | (refine wpL_skip (by rfl) ?_; simp only [Act.put, List.setIfInBounds_toArray, List.set_cons_zero, List.set_cons_succ]))
  refine wpL_nil ?_
  refine wpOp_last rfl (by rfl) ?_
  go_simp
  rw [HW5.out]
  refine (rcDropT q dv most (.slice (some ⟨g, 0, none⟩) T.length c) T2 B ((T.length : Int) - most) w5 _ (by have := HLE.out; have := HM.out.1; omega) (by have := HL2.out; have := HLE.out; omega) HB.out HO5.out).mono ?_
  rintro e w6 ⟨rfl, ⟨v6, T6, hT6, h6⟩, k6⟩
  rw [show ((T.length : Int) - most) = (((T2.map Hd.hb).length : Nat) : Int) - most by rw [List.length_map, HL2.out], settle_is] at hT6
  have HO6 := hid h6
  have HK6 := hid (HK5.out.trans k6)
  have HT6 := hid hT6
  clear h6 k6 hT6 HO5 HK5
  try dsimp only
  go_wp2_with fail
  go_ret
  exact ⟨rfl, rcc_iff.2 ⟨v6, T6, _, HT6.out, HO6.out⟩, HK6.out⟩
set_option maxRecDepth 100000 in
set_option maxHeartbeats 4000000 in
theorem rcCleanNot (q : Nat) (dv : Value) (most : Int) (K : List Hb) (a : Int) (i : Nat) (w : World) (L : List HP) (hm : 0 ≤ most ∧ most ≤ 1000000) (hl : K.length ≤ 9000) (hf : find K a = some i) (hi : i < K.length) (hd : K[i].dirty = false) (hO : Has w (Rcc q dv most K :: L)) :
    Calls Try.prog 48 #[.pointer (some ⟨q, 0, none⟩), .int .i64 a] w fun e w' => e = .returned (.int .i64 0) ∧ Has w' (Rcc q dv most (settleK most K) :: L) ∧ Keep w w' := by
  obtain ⟨v, T, B, ⟨rfl, hB⟩, h2⟩ := rcc_iff.1 hO
  have HF := hid (rcAt q dv most v T B a w _ (by simp at hl; omega) h2)
  have hiT : i < T.length := by simpa using hi
  obtain ⟨p, c, rfl, -⟩ := h2.p1.rd.form
  obtain ⟨g, rfl⟩ : ∃ g, p = some ⟨g, 0, none⟩ := by
    obtain ⟨-, h | ⟨gr, cap, cur, e, -⟩⟩ := h2.p1.row_cases
    · have := h.2.1; omega
    · injection e with e; exact ⟨gr, e⟩
  have HM := hid hm
  have HL := hid (show T.length ≤ 9000 by simpa using hl)
  have HII := hid hiT
  have hi0 : (0 : Int) ≤ (i : Int) := by omega
  have hi1 : (i : Int) < (T.length : Int) := by omega
  have hi2 : (T.length : Int) ≤ 10000 := by simp at hl; omega
  rw [hf] at HF
  simp only [atN] at HF
  have HB := hid hB
  have HD := hid (show (T[i]'hiT).dirty = false by rw [List.getElem_map] at hd; exact hd)
  have hq := h2.cells
  unfold caC at hq
  obtain ⟨c0, c1, c2, c3⟩ := hd_cells h2.p1.rd i hiT
  rw [HD.out] at c2
  simp only [Nat.zero_add] at c2
  clear c0 c1 c3
  have HO4 := hid h2
  have HK4 := hid (Keep.refl w)
  clear hO h2 hB hl hm hf hd
  go_enter Try.func48, Try.ntmps48
  go_wp2_with fail
  refine HF.out.mono ?_
  rintro e w' ⟨rfl, rfl⟩
  try dsimp only
  go_upto_region 9 with fail
  obtain ⟨w4, hw4⟩ : ∃ w4, w4 = w := ⟨_, rfl⟩
  rw [← hw4] at HO4 HK4 ⊢
  clear hq c2 HF HD
  have hm1 : 0 ≤ most := HM.out.1
  have hm2 : most ≤ 1000000 := HM.out.2
  refine region_tail1 (fun w' => w'.cell? ⟨q, 1, none⟩ = some (.int .i64 most) ∧ w'.cell? ⟨q, 2, none⟩ = some (.slice (some ⟨g, 0, none⟩) T.length c)) (by kernel_rfl) (by kernel_rfl) (by kernel_rfl) (by decide) ⟨HO4.out.drew.cells 1, HO4.out.drew.cells 2⟩ ?_
  have HW5 := hid (show IntKind.i64.wrap ((T.length : Int) - most) = (T.length : Int) - most from wrapk_in _ (by omega))
  have HO5 := hid HO4.out.drew
  have HK5 := hid HK4.out.drew
  have HLE := hid hi2
  generalize w4.drew = w5 at *
  clear HO4 HK4
  repeat (first
    | (refine wpL_read (by rfl) (by rfl) ?_ ?_ ?_; rotate_left; (rintro w ⟨z0, z1⟩; go_simp; with_reducible rfl); simp only [Act.put, List.setIfInBounds_toArray, List.set_cons_zero, List.set_cons_succ]) | (refine wpL_skip (by rfl) ?_; simp only [Act.put, List.setIfInBounds_toArray, List.set_cons_zero, List.set_cons_succ]))
  refine wpL_nil ?_
  refine wpOp_last rfl (by rfl) ?_
  go_simp
  rw [HW5.out]
  refine (rcDropT q dv most (.slice (some ⟨g, 0, none⟩) T.length c) T B ((T.length : Int) - most) w5 _ (by have := HLE.out; have := HM.out.1; omega) (by  have := HLE.out; omega) HB.out HO5.out).mono ?_
  rintro e w6 ⟨rfl, ⟨v6, T6, hT6, h6⟩, k6⟩
  rw [show ((T.length : Int) - most) = (((T.map Hd.hb).length : Nat) : Int) - most by rw [List.length_map], settle_is] at hT6
  have HO6 := hid h6
  have HK6 := hid (HK5.out.trans k6)
  have HT6 := hid hT6
  clear h6 k6 hT6 HO5 HK5
  try dsimp only
  go_wp2_with fail
  go_ret
  subst hw4
  exact ⟨rfl, rcc_iff.2 ⟨v6, T6, _, HT6.out, HO6.out⟩, HK6.out⟩
set_option maxRecDepth 100000 in
set_option maxHeartbeats 4000000 in
theorem rcCleanErr (q d : Nat) (most : Int) (K : List Hb) (E : Bk) (a : Int) (i : Nat) (w : World) (L : List HP) (hm : 0 ≤ most ∧ most ≤ 1000000) (hl : K.length ≤ 9000) (hw : E.waits.length ≤ 100000000) (hw2 : E.writes.length ≤ 1000000000) (hf : find K a = some i) (hi : i < K.length) (hd : K[i].dirty = true) (he : (E.write a K[i].b).1 ≠ 0) (hO : Has w (Rcc q (rP d) most K :: RDk d E :: L)) :
    Calls Try.prog 48 #[.pointer (some ⟨q, 0, none⟩), .int .i64 a] w fun e w' => e = .returned (.int .i64 (E.write a K[i].b).1) ∧ Has w' (Rcc q (rP d) most K :: RDk d (E.write a K[i].b).2 :: L) ∧ Keep w w' := by
  obtain ⟨v, T, B, ⟨rfl, hB⟩, h2⟩ := rcc_iff.1 hO
  have HF := hid (rcAt q (rP d) most v T B a w _ (by simp at hl; omega) h2)
  have hiT : i < T.length := by simpa using hi
  obtain ⟨p, c, rfl, -⟩ := h2.p1.rd.form
  obtain ⟨g, rfl⟩ : ∃ g, p = some ⟨g, 0, none⟩ := by
    obtain ⟨-, h | ⟨gr, cap, cur, e, -⟩⟩ := h2.p1.row_cases
    · have := h.2.1; omega
    · injection e with e; exact ⟨gr, e⟩
  have HM := hid hm
  have HL := hid (show T.length ≤ 9000 by simpa using hl)
  have HII := hid hiT
  have hi0 : (0 : Int) ≤ (i : Int) := by omega
  have hi1 : (i : Int) < (T.length : Int) := by omega
  have hi2 : (T.length : Int) ≤ 10000 := by simp at hl; omega
  rw [hf] at HF
  simp only [atN] at HF
  have HB := hid hB
  have HD := hid (show (T[i]'hiT).dirty = true by rw [List.getElem_map] at hd; exact hd)
  have HWL := hid (And.intro hw hw2)
  have HXB := hid (hB T[i] (List.getElem_mem hiT))
  have hKb : (T.map Hd.hb)[i].b = T[i].t.2 := by rw [List.getElem_map]; rfl
  rw [hKb] at he ⊢
  obtain ⟨px, cx, hxt, -⟩ := (h2.p2.pool_rd HXB.out).form
  have hq := h2.cells
  unfold caC at hq
  obtain ⟨c0, c1, c2, c3⟩ := hd_cells h2.p1.rd i hiT
  rw [HD.out] at c2
  have hxt1 : (T[i]'hiT).t.1 = .slice px (T[i]'hiT).t.2.length cx := hxt
  rw [hxt1] at c1
  simp only [Nat.zero_add] at c1 c2
  clear c0 c3 hKb
  have HXT : Hid ((T[i]'HII.out).t.1 = .slice px (T[i]'HII.out).t.2.length cx) := hid hxt1
  have HXR := hid (fun (w' : World) (h : Has w' (rC q (rP d) most (.slice (some ⟨g, 0, none⟩) T.length c) :: rRow (.slice (some ⟨g, 0, none⟩) T.length c) T :: poolc 5 B :: L)) => show Rd w' (.slice px (T[i]'HII.out).t.2.length cx) 1 (T[i]'HII.out).t.2.length (bc (T[i]'HII.out).t.2) from by
    have h1 : Rd w' (T[i]'HII.out).t.1 1 (T[i]'HII.out).t.2.length (bc (T[i]'HII.out).t.2) := h.p2.pool_rd HXB.out
    rw [HXT.out] at h1
    exact h1)
  generalize hbb : (T[i]'hiT).t.2 = bb at *
  generalize hwe : E.write a bb = we at *
  have HWE := hid hwe
  have HER := hid he
  have HO2 := hid (h2.re 4 [3, 0, 1, 2])
  clear hO h2 hB hl hm hf hd hxt hxt1 hbb hw hw2 hwe he
  go_enter Try.func48, Try.ntmps48
  go_wp2_with fail
  refine HF.out.mono ?_
  rintro e w' ⟨rfl, rfl⟩
  try dsimp only
  go_upto_region 5 with fail
  refine region_text (fun w' => w'.cell? ⟨q, 0, none⟩ = some (rP d) ∧ w'.cell? ⟨q, 2, none⟩ = some (.slice (some ⟨g, 0, none⟩) T.length c) ∧ w'.cell? ⟨g, i * 4 + 1, none⟩ = some (.slice px bb.length cx)) (by kernel_rfl) (by kernel_rfl) ⟨hq 0, hq 2, c1⟩ ?_
  have HC1 := hid (fun (w' : World) (h : Has w' (RDk d we.2 :: rC q (rP d) most (.slice (some ⟨g, 0, none⟩) T.length c) :: rRow (.slice (some ⟨g, 0, none⟩) T.length c) T :: poolc 5 B :: L)) => show w'.cell? ⟨g, i * 4 + 1, none⟩ = some (.slice px bb.length cx) from by
    obtain ⟨c0, c1, c2, c3⟩ := hd_cells h.p2.rd i HII.out
    simp only [Nat.zero_add] at c1
    rw [c1, HXT.out])
  clear hq c2 c1 HF
  repeat (first
    | (refine wpL_read (by rfl) (by rfl) ?_ ?_ ?_; rotate_left; (rintro w ⟨z0, z1, z2⟩; go_simp; with_reducible rfl); simp only [Act.put, List.setIfInBounds_toArray, List.set_cons_zero, List.set_cons_succ]) | (refine wpL_skip (by rfl) ?_; simp only [Act.put, List.setIfInBounds_toArray, List.set_cons_zero, List.set_cons_succ]))
  have HCL := hid (rkWrite d E w.drew _ HO2.out.drew a (.slice px bb.length cx) bb HWL.out.1 HWL.out.2 (fun w' h => HXR.out w' h))
  rw [HWE.out] at HCL
  refine wpL_act (by rfl) (by rfl) (fun K hK => ?_)
  go_simp
  refine (HCL.out).mono ?_
  rintro e w5 ⟨rfl, hO5, hK5⟩
  have HO5 := hid hO5
  have HK5 := hid (((Keep.refl w).drew).trans hK5)
  clear hO5 hK5
  try dsimp only
  refine hK.out _ _ (⟨HO5.out.p1.cells 0, HO5.out.p1.cells 2, HC1.out _ HO5.out⟩) ?_
  clear hK K
  try simp only [Act.put, List.setIfInBounds_toArray, List.set_cons_zero, List.set_cons_succ]
  repeat (first
    | (refine wpL_read (by rfl) (by rfl) ?_ ?_ ?_; rotate_left; (rintro w ⟨z0, z1, z2⟩; go_simp; with_reducible rfl); simp only [Act.put, List.setIfInBounds_toArray, List.set_cons_zero, List.set_cons_succ]) | (refine wpL_skip (by rfl) ?_; simp only [Act.put, List.setIfInBounds_toArray, List.set_cons_zero, List.set_cons_succ]))
  refine wpL_nil ?_
  clear HCL HO2 HC1
  have hq := HO5.out.p1.cells
  unfold caC at hq
  have her := HER.out
  generalize hr : we.1 = r at *
  have HRR := hid hr
  clear hr
  go_wp2_with fail
  go_ret
  rw [HRR.out]
  exact ⟨rfl, rcc_iff.2 ⟨_, T, B, ⟨rfl, HB.out⟩, HO5.out.re 4 [1, 2, 3, 0]⟩, HK5.out⟩
set_option maxRecDepth 100000 in
set_option maxHeartbeats 4000000 in
theorem rcCleanOk (q d : Nat) (most : Int) (K : List Hb) (E : Bk) (a : Int) (i : Nat) (w : World) (L : List HP) (hm : 0 ≤ most ∧ most ≤ 1000000) (hl : K.length ≤ 9000) (hw : E.waits.length ≤ 100000000) (hw2 : E.writes.length ≤ 1000000000) (hf : find K a = some i) (hi : i < K.length) (hd : K[i].dirty = true) (he : (E.write a K[i].b).1 = 0) (hO : Has w (Rcc q (rP d) most K :: RDk d E :: L)) :
    Calls Try.prog 48 #[.pointer (some ⟨q, 0, none⟩), .int .i64 a] w fun e w' => e = .returned (.int .i64 (E.write a K[i].b).1) ∧ Has w' (Rcc q (rP d) most (settleK most (K.set i ⟨K[i].at_, K[i].b, false, K[i].pin⟩)) :: RDk d (E.write a K[i].b).2 :: L) ∧ Keep w w' := by
  obtain ⟨v, T, B, ⟨rfl, hB⟩, h2⟩ := rcc_iff.1 hO
  have HF := hid (rcAt q (rP d) most v T B a w _ (by simp at hl; omega) h2)
  have hiT : i < T.length := by simpa using hi
  obtain ⟨p, c, rfl, -⟩ := h2.p1.rd.form
  obtain ⟨g, rfl⟩ : ∃ g, p = some ⟨g, 0, none⟩ := by
    obtain ⟨-, h | ⟨gr, cap, cur, e, -⟩⟩ := h2.p1.row_cases
    · have := h.2.1; omega
    · injection e with e; exact ⟨gr, e⟩
  have HM := hid hm
  have HL := hid (show T.length ≤ 9000 by simpa using hl)
  have HII := hid hiT
  have hi0 : (0 : Int) ≤ (i : Int) := by omega
  have hi1 : (i : Int) < (T.length : Int) := by omega
  have hi2 : (T.length : Int) ≤ 10000 := by simp at hl; omega
  rw [hf] at HF
  simp only [atN] at HF
  have HB := hid hB
  have HD := hid (show (T[i]'hiT).dirty = true by rw [List.getElem_map] at hd; exact hd)
  have HWL := hid (And.intro hw hw2)
  have HXB := hid (hB T[i] (List.getElem_mem hiT))
  have hKb : (T.map Hd.hb)[i].b = T[i].t.2 := by rw [List.getElem_map]; rfl
  rw [hKb] at he ⊢
  obtain ⟨px, cx, hxt, -⟩ := (h2.p2.pool_rd HXB.out).form
  have HMAP := hid (show (T.set i ⟨T[i].at_, T[i].t, false, T[i].pin⟩).map Hd.hb = (T.map Hd.hb).set i ⟨(T.map Hd.hb)[i].at_, (T.map Hd.hb)[i].b, false, (T.map Hd.hb)[i].pin⟩ by
    rw [List.map_set]; simp only [List.getElem_map]; rfl)
  have HB2 := hid (show ∀ x ∈ T.set i ⟨T[i].at_, T[i].t, false, T[i].pin⟩, x.t ∈ B from fun x hx => by
    rcases List.mem_or_eq_of_mem_set hx with hx | rfl
    · exact hB x hx
    · exact hB T[i] (List.getElem_mem hiT))
  have HC := hid (hcells_dirty T i hiT false)
  have hKb2 : (⟨(T.map Hd.hb)[i].at_, T[i].t.2, false, (T.map Hd.hb)[i].pin⟩ : Hb) = ⟨(T.map Hd.hb)[i].at_, (T.map Hd.hb)[i].b, false, (T.map Hd.hb)[i].pin⟩ := by rw [hKb]
  rw [hKb2, ← HMAP.out]
  generalize hT2 : T.set i ⟨T[i].at_, T[i].t, false, T[i].pin⟩ = T2 at *
  have HL2 := hid (show T2.length = T.length by rw [← hT2, List.length_set])
  clear HMAP hKb2 hT2
  have hq := h2.cells
  unfold caC at hq
  obtain ⟨c0, c1, c2, c3⟩ := hd_cells h2.p1.rd i hiT
  rw [HD.out] at c2
  have hxt1 : (T[i]'hiT).t.1 = .slice px (T[i]'hiT).t.2.length cx := hxt
  rw [hxt1] at c1
  simp only [Nat.zero_add] at c1 c2
  clear c0 c3 hKb
  have HXT : Hid ((T[i]'HII.out).t.1 = .slice px (T[i]'HII.out).t.2.length cx) := hid hxt1
  have HXR := hid (fun (w' : World) (h : Has w' (rC q (rP d) most (.slice (some ⟨g, 0, none⟩) T.length c) :: rRow (.slice (some ⟨g, 0, none⟩) T.length c) T :: poolc 5 B :: L)) => show Rd w' (.slice px (T[i]'HII.out).t.2.length cx) 1 (T[i]'HII.out).t.2.length (bc (T[i]'HII.out).t.2) from by
    have h1 : Rd w' (T[i]'HII.out).t.1 1 (T[i]'HII.out).t.2.length (bc (T[i]'HII.out).t.2) := h.p2.pool_rd HXB.out
    rw [HXT.out] at h1
    exact h1)
  generalize hbb : (T[i]'hiT).t.2 = bb at *
  generalize hwe : E.write a bb = we at *
  have HWE := hid hwe
  have HER := hid he
  have HO2 := hid (h2.re 4 [3, 0, 1, 2])
  clear hO h2 hB hl hm hf hd hxt hxt1 hbb hw hw2 hwe he
  go_enter Try.func48, Try.ntmps48
  go_wp2_with fail
  refine HF.out.mono ?_
  rintro e w' ⟨rfl, rfl⟩
  try dsimp only
  go_upto_region 5 with fail
  refine region_text (fun w' => w'.cell? ⟨q, 0, none⟩ = some (rP d) ∧ w'.cell? ⟨q, 2, none⟩ = some (.slice (some ⟨g, 0, none⟩) T.length c) ∧ w'.cell? ⟨g, i * 4 + 1, none⟩ = some (.slice px bb.length cx)) (by kernel_rfl) (by kernel_rfl) ⟨hq 0, hq 2, c1⟩ ?_
  have HC1 := hid (fun (w' : World) (h : Has w' (RDk d we.2 :: rC q (rP d) most (.slice (some ⟨g, 0, none⟩) T.length c) :: rRow (.slice (some ⟨g, 0, none⟩) T.length c) T :: poolc 5 B :: L)) => show w'.cell? ⟨g, i * 4 + 1, none⟩ = some (.slice px bb.length cx) from by
    obtain ⟨c0, c1, c2, c3⟩ := hd_cells h.p2.rd i HII.out
    simp only [Nat.zero_add] at c1
    rw [c1, HXT.out])
  clear hq c2 c1 HF
  repeat (first
    | (refine wpL_read (by rfl) (by rfl) ?_ ?_ ?_; rotate_left; (rintro w ⟨z0, z1, z2⟩; go_simp; with_reducible rfl); simp only [Act.put, List.setIfInBounds_toArray, List.set_cons_zero, List.set_cons_succ]) | (refine wpL_skip (by rfl) ?_; simp only [Act.put, List.setIfInBounds_toArray, List.set_cons_zero, List.set_cons_succ]))
  have HCL := hid (rkWrite d E w.drew _ HO2.out.drew a (.slice px bb.length cx) bb HWL.out.1 HWL.out.2 (fun w' h => HXR.out w' h))
  rw [HWE.out] at HCL
  refine wpL_act (by rfl) (by rfl) (fun K hK => ?_)
  go_simp
  refine (HCL.out).mono ?_
  rintro e w5 ⟨rfl, hO5, hK5⟩
  have HO5 := hid hO5
  have HK5 := hid (((Keep.refl w).drew).trans hK5)
  clear hO5 hK5
  try dsimp only
  refine hK.out _ _ (⟨HO5.out.p1.cells 0, HO5.out.p1.cells 2, HC1.out _ HO5.out⟩) ?_
  clear hK K
  try simp only [Act.put, List.setIfInBounds_toArray, List.set_cons_zero, List.set_cons_succ]
  repeat (first
    | (refine wpL_read (by rfl) (by rfl) ?_ ?_ ?_; rotate_left; (rintro w ⟨z0, z1, z2⟩; go_simp; with_reducible rfl); simp only [Act.put, List.setIfInBounds_toArray, List.set_cons_zero, List.set_cons_succ]) | (refine wpL_skip (by rfl) ?_; simp only [Act.put, List.setIfInBounds_toArray, List.set_cons_zero, List.set_cons_succ]))
  refine wpL_nil ?_
  clear HCL HO2 HC1
  have hq := HO5.out.p1.cells
  unfold caC at hq
  have hth := (HO5.out.p2.row_cells).2.2.1
  obtain ⟨c0, c1, c2, c3⟩ := hd_cells HO5.out.p2.rd i HII.out
  simp only [Nat.zero_add] at c2
  clear c0 c1 c3
  have her : we.1 = 0 := HER.out
  rw [her]
  have HO3 := hid (show Has (w5.setCell ⟨g, i * 4 + 2, none⟩ (.bool false)) (rC q (rP d) most (.slice (some ⟨g, 0, none⟩) T.length c) :: rRow (.slice (some ⟨g, 0, none⟩) T.length c) T2 :: poolc 5 B :: RDk d we.2 :: L) from by
    have h := HO5.out.p2.row_set (i * 4 + 2) (by have := HII.out; omega) (.bool false)
    rw [HC.out] at h
    unfold rRow
    rw [HL2.out]
    exact h.re 4 [2, 0, 3, 1])
  have HK3 := hid (HK5.out.set ⟨g, i * 4 + 2, none⟩ (.bool false))
  go_upto_region 9 with fail
  generalize w5.setCell ⟨g, i * 4 + 2, none⟩ (.bool false) = w4 at *
  have HO4 := HO3
  have HK4 := HK3
  clear HO3 HK3 hq c2 hth HO5 HK5 her
  have hm1 : 0 ≤ most := HM.out.1
  have hm2 : most ≤ 1000000 := HM.out.2
  generalize w5 = w9 at *
  refine region_tail1 (fun w' => w'.cell? ⟨q, 1, none⟩ = some (.int .i64 most) ∧ w'.cell? ⟨q, 2, none⟩ = some (.slice (some ⟨g, 0, none⟩) T.length c)) (by kernel_rfl) (by kernel_rfl) (by kernel_rfl) (by decide) ⟨HO4.out.drew.cells 1, HO4.out.drew.cells 2⟩ ?_
  have HW5 := hid (show IntKind.i64.wrap ((T.length : Int) - most) = (T.length : Int) - most from wrapk_in _ (by omega))
  have HO5 := hid HO4.out.drew
  have HK5 := hid HK4.out.drew
  have HLE := hid hi2
  generalize w4.drew = w5 at *
  clear HO4 HK4
  repeat (first
    | (refine wpL_read (by rfl) (by rfl) ?_ ?_ ?_; rotate_left; (rintro w ⟨z0, z1⟩; go_simp; with_reducible rfl); simp only [Act.put, List.setIfInBounds_toArray, List.set_cons_zero, List.set_cons_succ]) | (refine wpL_skip (by rfl) ?_; simp only [Act.put, List.setIfInBounds_toArray, List.set_cons_zero, List.set_cons_succ]))
  refine wpL_nil ?_
  refine wpOp_last rfl (by rfl) ?_
  go_simp
  rw [HW5.out]
  refine (rcDropT q (rP d) most (.slice (some ⟨g, 0, none⟩) T.length c) T2 B ((T.length : Int) - most) w5 _ (by have := HLE.out; have := HM.out.1; omega) (by have := HL2.out; have := HLE.out; omega) HB2.out HO5.out).mono ?_
  rintro e w6 ⟨rfl, ⟨v6, T6, hT6, h6⟩, k6⟩
  rw [show ((T.length : Int) - most) = (((T2.map Hd.hb).length : Nat) : Int) - most by rw [List.length_map, HL2.out], settle_is] at hT6
  have HO6 := hid h6
  have HK6 := hid (HK5.out.trans k6)
  have HT6 := hid hT6
  clear h6 k6 hT6 HO5 HK5
  try dsimp only
  go_wp2_with fail
  go_ret
  rw [HER.out]
  exact ⟨rfl, rcc_iff.2 ⟨v6, T6, _, HT6.out, HO6.out⟩, HK6.out⟩
end Go.Proofs.Ytajlikakbihgbaa
