/- TEXTS of mine, merged. -/
import Derived.Test.YtonhcefgakmpfaaGreatDoorM16
import Derived.Test.YtonhcefgakmpfaaGreatDoorM17
import Derived.Test.YtonhcefgakmpfaaGreatDoorM10
import Derived.Test.YtonhcefgakmpfaaGreatDoorM11
import Derived.Test.YtonhcefgakmpfaaGreatDoorM6
import Derived.Test.YtonhcefgakmpfaaGreatDoorM9
import Derived.Test.YtonhcefgakmpfaaGreatDoorM12
import Derived.Test.YtonhcefgakmpfaaGreatDoorM13
import Derived.Test.YtonhcefgakmpfaaGreatDoorM8
import Derived.Laws.IdiomStrings
/- THE WALK of tree.Do, by the kinds of operations. -/
namespace Go.Proofs.YtonhcefgakmpfaaGreatDoor
open Go.RowKit Go.Own
set_option maxRecDepth 100000 in
set_option maxHeartbeats 8000000 in
theorem doStat (q : Nat) (S : Tre) (fd n off flags : Int) (path dest : Str) (ov : Value) (w : World) (L : List HP) (mx : Int) (hW : Wk S) (hM : MxL mx L) (hp : path.length ≤ 100000) (hdl : ∀ n x, fnd S.nodes n = some x → x.data.length ≤ 100000 ∧ x.names.length ≤ 1000000) (hO : Has w (Trc q S :: L)) :
    Calls Tryz.prog 17 #[.pointer (some ⟨q, 0, none⟩), opV ⟨16, fd, n, off, flags, path, dest⟩ (ov)] w fun e w' => e = .returned (ansV (S.stat path true) nilV nilV) ∧ Has w' (Trc q S :: L) ∧ Keep w w' := by
  have HX0 : ∀ (w : World) (L' : List HP), MxL mx L' → Has w (Trc q S :: L') → Calls Tryz.prog 65 #[.pointer (some ⟨q, 0, none⟩), opV ⟨16, fd, n, off, flags, path, dest⟩ ov] w (fun e w' => e = .returned (ansV (S.stat path true) nilV nilV) ∧ Has w' (Trc q S :: L') ∧ Keep w w') := fun w L' hM hO => tStat q S ⟨16, fd, n, off, flags, path, dest⟩ ov mx w L' (.inl rfl) hW hM hp hdl hO
  have HX := hid HX0
  clear HX0
  have HM := hid hM
  clear hM
  generalize S.stat path true = R at *
  have HO := hid hO
  clear hO
  unfold opV opC at HX ⊢
  go_enter Tryz.func17, Tryz.ntmps17
  go_upto_region 1 with fail
  have h1 := (HO.out.alloc (.cells #[.int .i64 16, .int .i64 fd, .int .i64 n, .int .i64 off, .int .i64 flags, sV path, sV dest, ov] 35)).alloc (.cells (ansC (ansE 0) nilV nilV) 32)
  have HK1 := hid (((Keep.refl w).alloc (.cells #[.int .i64 16, .int .i64 fd, .int .i64 n, .int .i64 off, .int .i64 flags, sV path, sV dest, ov] 35)).alloc (.cells (ansC (ansE 0) nilV nilV) 32))
  unfold ansC ansE at h1 HK1
  have e1 : (w.alloc (.cells #[.int .i64 16, .int .i64 fd, .int .i64 n, .int .i64 off, .int .i64 flags, sV path, sV dest, ov] 35)).heap.size = w.heap.size + 1 := by show (Array.push _ _).size = _; rw [Array.size_push]
  rw [e1] at h1
  have HO1 := hid h1
  clear h1 e1 HO
  generalize (w.alloc (.cells #[.int .i64 16, .int .i64 fd, .int .i64 n, .int .i64 off, .int .i64 flags, sV path, sV dest, ov] 35)).alloc (.cells #[.int .i64 0, .int .i64 0, .int .i64 0, .int .i64 0, nilV, nilV] 32) = w1 at *
  generalize w.heap.size = g3 at *
  generalize g3 + 1 = g4 at *
  have hp0 : w1.cell? ⟨g3, 0, none⟩ = some (.int .i64 16) := HO1.out.p1.cells 0
  have hp1 : w1.cell? ⟨g3, 1, none⟩ = some (.int .i64 fd) := HO1.out.p1.cells 1
  have hp2 : w1.cell? ⟨g3, 2, none⟩ = some (.int .i64 n) := HO1.out.p1.cells 2
  have hp3 : w1.cell? ⟨g3, 3, none⟩ = some (.int .i64 off) := HO1.out.p1.cells 3
  have hp4 : w1.cell? ⟨g3, 4, none⟩ = some (.int .i64 flags) := HO1.out.p1.cells 4
  have hp5 : w1.cell? ⟨g3, 5, none⟩ = some (sV path) := HO1.out.p1.cells 5
  have hp6 : w1.cell? ⟨g3, 6, none⟩ = some (sV dest) := HO1.out.p1.cells 6
  have hp7 : w1.cell? ⟨g3, 7, none⟩ = some (ov) := HO1.out.p1.cells 7
  go_wp2_with fail
  refine (HX.out w1 _ ((HM.out.cons (pt g3 (.cells #[.int .i64 16, .int .i64 fd, .int .i64 n, .int .i64 off, .int .i64 flags, sV path, sV dest, ov] 35))).cons (pt g4 (.cells #[.int .i64 0, .int .i64 0, .int .i64 0, .int .i64 0, nilV, nilV] 32))) (HO1.out.re 3 [2, 0, 1])).mono ?_
  rintro e w2 ⟨rfl, hO2, hK2⟩
  have HO2 := hid hO2
  have HK2 := hid ((HK1.out).trans hK2)
  clear hO2 hK2
  try dsimp only
  have HO3 := hid (show Has w2 (pt g4 (.cells (ansC (ansE 0) nilV nilV) 32) :: Trc q S :: L) from HO2.out.re 3 [1, 0])
  have hz0 : w2.cell? ⟨g4, 0, none⟩ = some (.int .i64 0) := (HO3.out).cells 0
  have hz1 : w2.cell? ⟨g4, 1, none⟩ = some (.int .i64 0) := (HO3.out).cells 1
  have hz2 : w2.cell? ⟨g4, 2, none⟩ = some (.int .i64 0) := (HO3.out).cells 2
  have hz3 : w2.cell? ⟨g4, 3, none⟩ = some (.int .i64 0) := (HO3.out).cells 3
  have hz4 : w2.cell? ⟨g4, 4, none⟩ = some (.slice none 0 0) := (HO3.out).cells 4
  have hz5 : w2.cell? ⟨g4, 5, none⟩ = some (.slice none 0 0) := (HO3.out).cells 5
  have hy0 := (HO3.out).thaw 0
  have hy1 := (HO3.out).thaw 1
  have hy2 := (HO3.out).thaw 2
  have hy3 := (HO3.out).thaw 3
  have hy4 := (HO3.out).thaw 4
  have hy5 := (HO3.out).thaw 5
  unfold ansV ansC
  go_wp2_with fail
  have h1 := HO3.out.ans R nilV nilV
  refine bodyPost_ret (ans_result rfl rfl h1) rfl ?_
  exact ⟨rfl, h1.drop, HK2.out.ans _ _ _ _ _ _ _⟩
end Go.Proofs.YtonhcefgakmpfaaGreatDoor
/- THE WALKS of chapter 13's own answer, and of what the statements share on lists of numbers. -/
namespace Go.Proofs.YtonhcefgakmpfaaGreatDoor
open Go.RowKit Go.Own
def RTab (b : Nat) (T : List Tb.Slot) : HP := pt b (.cells (Tb.cells T) 120)
end Go.Proofs.YtonhcefgakmpfaaGreatDoor
/- THE WALKS of tree.close, lasts. -/
namespace Go.Proofs.YtonhcefgakmpfaaGreatDoor
open Go.RowKit Go.Own
theorem trc_tab {w : World} {L : List HP} {q m f : Nat} {P : List Pn} {last : Int} {T : List Tb.Slot} {S : Tre} (h : Has w (Tab f T :: Trt q m f P last :: L)) (hN : pnN P = S.nodes) (hl : S.last = last) (hT : S.tab = T) (h16 : T.length = 16) : Has w (Trc q S :: L) := by
  subst hl hT
  exact trc_iff.2 ⟨m, f, P, ⟨hN, h16⟩, Trb.tab.2 h⟩
theorem cls_same {T : List Tb.Slot} {fd : Int} (h : (Tb.cls T fd).1.2 ≠ 0) : (Tb.cls T fd).2 = T := by
  unfold Tb.cls at *
  cases hl : Tb.look T fd with
  | none => simp [hl]
  | some s => simp [hl] at h
set_option maxRecDepth 100000 in
set_option maxHeartbeats 8000000 in
theorem tClose (q : Nat) (S : Tre) (fd : Int) (w : World) (L : List HP) (hop : (Tb.cls S.tab fd).1.2 = 0 → ∃ x, fnd S.nodes (Tb.cls S.tab fd).1.1 = some x) (hO : Has w (Trc q S :: L)) :
    Calls Tryz.prog 53 #[.pointer (some ⟨q, 0, none⟩), .int .i64 fd] w fun e w' => e = .returned (ansV (S.close fd).1 nilV nilV) ∧ Has w' (Trc q (S.close fd).2 :: L) ∧ Keep w w' := by
  have HCL := hid (fun (w : World) (f : Nat) (L' : List HP) (hT : S.tab.length = 16) (hO : Has w (Tab f S.tab :: L')) => tabClose f S.tab fd w L' hT hO)
  have hcl := Tb.cls_len S.tab fd
  generalize hR : S.close fd = R
  unfold Tre.close at hR
  have hkeep : (Tb.cls S.tab fd).1.2 ≠ 0 → (Tb.cls S.tab fd).2 = S.tab := fun h => cls_same h
  generalize Tb.cls S.tab fd = C at *
  obtain ⟨⟨n, e⟩, T'⟩ := C
  dsimp only at *
  have HR := hid hR
  have HOP := hid hop
  have HKP := hid hkeep
  obtain ⟨m, f, P, hPT, h⟩ := trc_iff.1 hO
  have HPT := hid hPT
  have HCLN := hid (hcl hPT.2)
  have HO := hid h
  clear hO hR hop h hPT hcl hkeep
  go_enter Tryz.func53, Tryz.ntmps53
  go_upto_region 1 with fail
  have HO1 := hid (HO.out.alloc (.cells (ansC (ansE 0) nilV nilV) 32)).p1
  have HK1 := hid ((Keep.refl w).alloc (.cells (ansC (ansE 0) nilV nilV) 32))
  unfold ansC ansE at HO1 HK1
  dsimp only at HO1 HK1
  clear HO
  generalize w.alloc (.cells #[.int .i64 0, .int .i64 0, .int .i64 0, .int .i64 0, nilV, nilV] 32) = w1 at *
  generalize w.heap.size = g4 at *
  have hq2 := (Trb.cells HO1.out).2.2
  go_wp2_with fail
  refine (HCL.out w1 f _ HPT.out.2 (Trb.tab.1 HO1.out)).mono ?_
  rintro e w2 ⟨rfl, hO2, hK2⟩
  have HO2 := hid hO2
  have HK2 := hid ((HK1.out).trans hK2)
  clear hO2 hK2
  try dsimp only
  clear HO1 HK1 hq2
  by_cases he : e = 0
  · subst he
    obtain ⟨x, hx⟩ := HOP.out rfl
    have HRR := hid (show R = (ansE 0, ({ S with tab := T' } : Tre).forget n) from by rw [← HR.out, if_neg (fun h => h rfl)])
    have HO3 := hid (show Has w2 (Trc q { S with tab := T' } :: pt g4 (.cells (ansC (ansE 0) nilV nilV) 32) :: L) from trc_tab HO2.out HPT.out.1 rfl rfl HCLN.out)
    go_wp2_with fail
    refine (tForget q { S with tab := T' } n x w2 _ hx HO3.out).mono ?_
    rintro e w4 ⟨rfl, hO4, hK4⟩
    have HO4 := hid hO4
    have HK4 := hid ((HK2.out).trans hK4)
    clear hO4 hK4
    try dsimp only
    have HO6 := hid (show Has w4 (pt g4 (.cells (ansC (ansE 0) nilV nilV) 32) :: Trc q (({ S with tab := T' } : Tre).forget n) :: L) from HO4.out.re 2 [1, 0])
    have hz0 : w4.cell? ⟨g4, 0, none⟩ = some (.int .i64 0) := (HO6.out).cells 0
    have hz1 : w4.cell? ⟨g4, 1, none⟩ = some (.int .i64 0) := (HO6.out).cells 1
    have hz2 : w4.cell? ⟨g4, 2, none⟩ = some (.int .i64 0) := (HO6.out).cells 2
    have hz3 : w4.cell? ⟨g4, 3, none⟩ = some (.int .i64 0) := (HO6.out).cells 3
    have hz4 : w4.cell? ⟨g4, 4, none⟩ = some (.slice none 0 0) := (HO6.out).cells 4
    have hz5 : w4.cell? ⟨g4, 5, none⟩ = some (.slice none 0 0) := (HO6.out).cells 5
    have hy0 := (HO6.out).thaw 0
    have hy1 := (HO6.out).thaw 1
    have hy2 := (HO6.out).thaw 2
    have hy3 := (HO6.out).thaw 3
    have hy4 := (HO6.out).thaw 4
    have hy5 := (HO6.out).thaw 5
    go_wp2_with fail
    have h1 := HO6.out.ans (ansE 0) nilV nilV
    refine bodyPost_ret (ans_result rfl rfl h1) rfl ?_
    rw [HRR.out]
    exact ⟨rfl, h1.drop, HK4.out.ans _ _ _ _ _ _ _⟩
  · have HRR := hid (show R = (ansE 10, S) from by rw [← HR.out, if_pos he])
    have HOa := hid (show Has w2 (pt g4 (.cells (ansC (ansE 0) nilV nilV) 32) :: Trc q S :: L) from by
      have h1 := HKP.out he
      have h2 : Has w2 (Tab f S.tab :: Trt q m f P S.last :: pt g4 (.cells (ansC (ansE 0) nilV nilV) 32) :: L) := by rw [← h1]; exact HO2.out
      exact (trc_tab h2 HPT.out.1 rfl rfl HPT.out.2).re 2 [1, 0])
    have hz0 : w2.cell? ⟨g4, 0, none⟩ = some (.int .i64 0) := (HOa.out).cells 0
    have hz1 : w2.cell? ⟨g4, 1, none⟩ = some (.int .i64 0) := (HOa.out).cells 1
    have hz2 : w2.cell? ⟨g4, 2, none⟩ = some (.int .i64 0) := (HOa.out).cells 2
    have hz3 : w2.cell? ⟨g4, 3, none⟩ = some (.int .i64 0) := (HOa.out).cells 3
    have hz4 : w2.cell? ⟨g4, 4, none⟩ = some (.slice none 0 0) := (HOa.out).cells 4
    have hz5 : w2.cell? ⟨g4, 5, none⟩ = some (.slice none 0 0) := (HOa.out).cells 5
    have hy0 := (HOa.out).thaw 0
    have hy1 := (HOa.out).thaw 1
    have hy2 := (HOa.out).thaw 2
    have hy3 := (HOa.out).thaw 3
    have hy4 := (HOa.out).thaw 4
    have hy5 := (HOa.out).thaw 5
    go_wp2_with fail
    refine (tCode (10 : Int) w2 _ HOa.out).mono ?_
    rintro e w5 ⟨rfl, hO5, hK5⟩
    have HO5 := hid hO5
    have HK5 := hid ((HK2.out).trans hK5)
    clear hO5 hK5
    unfold ansV ansC ansE
    clear hz0 hz1 hz2 hz3 hz4 hz5 hy0 hy1 hy2 hy3 hy4 hy5
    have hz0 : w5.cell? ⟨g4, 0, none⟩ = some (.int .i64 0) := (HO5.out).cells 0
    have hz1 : w5.cell? ⟨g4, 1, none⟩ = some (.int .i64 0) := (HO5.out).cells 1
    have hz2 : w5.cell? ⟨g4, 2, none⟩ = some (.int .i64 0) := (HO5.out).cells 2
    have hz3 : w5.cell? ⟨g4, 3, none⟩ = some (.int .i64 0) := (HO5.out).cells 3
    have hz4 : w5.cell? ⟨g4, 4, none⟩ = some (.slice none 0 0) := (HO5.out).cells 4
    have hz5 : w5.cell? ⟨g4, 5, none⟩ = some (.slice none 0 0) := (HO5.out).cells 5
    have hy0 := (HO5.out).thaw 0
    have hy1 := (HO5.out).thaw 1
    have hy2 := (HO5.out).thaw 2
    have hy3 := (HO5.out).thaw 3
    have hy4 := (HO5.out).thaw 4
    have hy5 := (HO5.out).thaw 5
    go_wp2_with fail
    have h1 := ((show Has w5 (pt g4 (.cells (ansC (ansE 0) nilV nilV) 32) :: Trc q S :: L) from HO5.out)).ans (ansE (10 : Int)) nilV nilV
    refine bodyPost_ret (ans_result rfl rfl h1) rfl ?_
    rw [HRR.out]
    exact ⟨rfl, h1.drop, HK5.out.ans _ _ _ _ _ _ _⟩
set_option maxRecDepth 100000 in
set_option maxHeartbeats 8000000 in
theorem tLasts (q : Nat) (S : Tre) (fd : Int) (w : World) (L : List HP) (hO : Has w (Trc q S :: L)) :
    Calls Tryz.prog 66 #[.pointer (some ⟨q, 0, none⟩), .int .i64 fd] w fun e w' => e = .returned (ansV (S.lasts fd) nilV nilV) ∧ Has w' (Trc q S :: L) ∧ Keep w w' := by
  have HCL := hid (fun (w : World) (f : Nat) (L' : List HP) (hT : S.tab.length = 16) (hO : Has w (Tab f S.tab :: L')) => tabGet f S.tab fd w L' hT hO)
  generalize hR : S.lasts fd = R
  unfold Tre.lasts at hR
  generalize Tb.get S.tab fd = C at *
  obtain ⟨s, e⟩ := C
  dsimp only at *
  have HR := hid hR
  obtain ⟨m, f, P, hPT, h⟩ := trc_iff.1 hO
  have HPT := hid hPT
  have HO := hid h
  clear hO hR h hPT
  go_enter Tryz.func66, Tryz.ntmps66
  go_upto_region 1 with fail
  have HO1 := hid (HO.out.alloc (.cells (ansC (ansE 0) nilV nilV) 32)).p1
  have HK1 := hid ((Keep.refl w).alloc (.cells (ansC (ansE 0) nilV nilV) 32))
  unfold ansC ansE at HO1 HK1
  dsimp only at HO1 HK1
  clear HO
  generalize w.alloc (.cells #[.int .i64 0, .int .i64 0, .int .i64 0, .int .i64 0, nilV, nilV] 32) = w1 at *
  generalize w.heap.size = g4 at *
  have hq2 := (Trb.cells HO1.out).2.2
  go_cut [6] (fun e6 wx => ∃ w3 : World, w3 = wx ∧ e6 = .int .i64 e ∧ Hid (Has w3 (pt g4 (.cells (ansC (ansE 0) nilV nilV) 32) :: Trc q S :: L)) ∧ Hid (Keep w w3))
  case first =>
    go_wp2_with fail
    refine (HCL.out w1 f _ HPT.out.2 (Trb.tab.1 HO1.out)).mono ?_
    rintro e w2 ⟨rfl, hO2, hK2⟩
    have HO2 := hid hO2
    have HK2 := hid ((HK1.out).trans hK2)
    clear hO2 hK2
    try dsimp only
    go_wp2_with fail
    go_meet
    exact ⟨_, rfl, rfl, hid ((trc_tab (HO2.out.alloc _).drop HPT.out.1 rfl rfl HPT.out.2).re 2 [1, 0]), hid (HK2.out.alloc _)⟩
  case rest =>
    obtain ⟨w3, rfl, rfl, HO3, HK3⟩ := hcut
    clear HO1 HK1 hq2
    by_cases he : e = 0
    · subst he
      have HRR := hid (show R = ansE 0 from by rw [← HR.out, if_neg (fun h => h rfl)])
      have hz0 : w3.cell? ⟨g4, 0, none⟩ = some (.int .i64 0) := (HO3.out).cells 0
      have hz1 : w3.cell? ⟨g4, 1, none⟩ = some (.int .i64 0) := (HO3.out).cells 1
      have hz2 : w3.cell? ⟨g4, 2, none⟩ = some (.int .i64 0) := (HO3.out).cells 2
      have hz3 : w3.cell? ⟨g4, 3, none⟩ = some (.int .i64 0) := (HO3.out).cells 3
      have hz4 : w3.cell? ⟨g4, 4, none⟩ = some (.slice none 0 0) := (HO3.out).cells 4
      have hz5 : w3.cell? ⟨g4, 5, none⟩ = some (.slice none 0 0) := (HO3.out).cells 5
      have hy0 := (HO3.out).thaw 0
      have hy1 := (HO3.out).thaw 1
      have hy2 := (HO3.out).thaw 2
      have hy3 := (HO3.out).thaw 3
      have hy4 := (HO3.out).thaw 4
      have hy5 := (HO3.out).thaw 5
      go_wp2_with fail
      have h1 := HO3.out.ans (ansE 0) nilV nilV
      refine bodyPost_ret (ans_result rfl rfl h1) rfl ?_
      rw [HRR.out]
      exact ⟨rfl, h1.drop, HK3.out.ans _ _ _ _ _ _ _⟩
    · have HRR := hid (show R = ansE 10 from by rw [← HR.out, if_pos he])
      have hz0 : w3.cell? ⟨g4, 0, none⟩ = some (.int .i64 0) := (HO3.out).cells 0
      have hz1 : w3.cell? ⟨g4, 1, none⟩ = some (.int .i64 0) := (HO3.out).cells 1
      have hz2 : w3.cell? ⟨g4, 2, none⟩ = some (.int .i64 0) := (HO3.out).cells 2
      have hz3 : w3.cell? ⟨g4, 3, none⟩ = some (.int .i64 0) := (HO3.out).cells 3
      have hz4 : w3.cell? ⟨g4, 4, none⟩ = some (.slice none 0 0) := (HO3.out).cells 4
      have hz5 : w3.cell? ⟨g4, 5, none⟩ = some (.slice none 0 0) := (HO3.out).cells 5
      have hy0 := (HO3.out).thaw 0
      have hy1 := (HO3.out).thaw 1
      have hy2 := (HO3.out).thaw 2
      have hy3 := (HO3.out).thaw 3
      have hy4 := (HO3.out).thaw 4
      have hy5 := (HO3.out).thaw 5
      go_wp2_with fail
      refine (tCode (10 : Int) w3 _ HO3.out).mono ?_
      rintro e w5 ⟨rfl, hO5, hK5⟩
      have HO5 := hid hO5
      have HK5 := hid ((HK3.out).trans hK5)
      clear hO5 hK5
      unfold ansV ansC ansE
      clear hz0 hz1 hz2 hz3 hz4 hz5 hy0 hy1 hy2 hy3 hy4 hy5
      have hz0 : w5.cell? ⟨g4, 0, none⟩ = some (.int .i64 0) := (HO5.out).cells 0
      have hz1 : w5.cell? ⟨g4, 1, none⟩ = some (.int .i64 0) := (HO5.out).cells 1
      have hz2 : w5.cell? ⟨g4, 2, none⟩ = some (.int .i64 0) := (HO5.out).cells 2
      have hz3 : w5.cell? ⟨g4, 3, none⟩ = some (.int .i64 0) := (HO5.out).cells 3
      have hz4 : w5.cell? ⟨g4, 4, none⟩ = some (.slice none 0 0) := (HO5.out).cells 4
      have hz5 : w5.cell? ⟨g4, 5, none⟩ = some (.slice none 0 0) := (HO5.out).cells 5
      have hy0 := (HO5.out).thaw 0
      have hy1 := (HO5.out).thaw 1
      have hy2 := (HO5.out).thaw 2
      have hy3 := (HO5.out).thaw 3
      have hy4 := (HO5.out).thaw 4
      have hy5 := (HO5.out).thaw 5
      go_wp2_with fail
      have h1 := ((show Has w5 (pt g4 (.cells (ansC (ansE 0) nilV nilV) 32) :: Trc q S :: L) from HO5.out)).ans (ansE (10 : Int)) nilV nilV
      refine bodyPost_ret (ans_result rfl rfl h1) rfl ?_
      rw [HRR.out]
      exact ⟨rfl, h1.drop, HK5.out.ans _ _ _ _ _ _ _⟩
end Go.Proofs.YtonhcefgakmpfaaGreatDoor
/- THE WALK of tree.Do: close. -/
namespace Go.Proofs.YtonhcefgakmpfaaGreatDoor
open Go.RowKit Go.Own
set_option maxRecDepth 100000 in
set_option maxHeartbeats 8000000 in
theorem doClose (q : Nat) (S : Tre) (fd n off flags : Int) (path dest : Str) (ov : Value) (w : World) (L : List HP) (hop : (Tb.cls S.tab fd).1.2 = 0 → ∃ x, fnd S.nodes (Tb.cls S.tab fd).1.1 = some x) (hO : Has w (Trc q S :: L)) :
    Calls Tryz.prog 17 #[.pointer (some ⟨q, 0, none⟩), opV ⟨2, fd, n, off, flags, path, dest⟩ (ov)] w fun e w' => e = .returned (ansV (S.close fd).1 nilV nilV) ∧ Has w' (Trc q (S.close fd).2 :: L) ∧ Keep w w' := by
  have HX0 := (fun (w : World) (L' : List HP) (hO : Has w (Trc q S :: L')) => tClose q S fd w L' hop hO)
  try dsimp only at HX0
  have HX := hid HX0
  clear HX0
  skip
  generalize S.close fd = R at *
  have HO := hid hO
  clear hO
  try unfold opV opC at HX
  unfold opV opC
  go_enter Tryz.func17, Tryz.ntmps17
  go_upto_region 1 with fail
  have h1 := (HO.out.alloc (.cells #[.int .i64 2, .int .i64 fd, .int .i64 n, .int .i64 off, .int .i64 flags, sV path, sV dest, ov] 35)).alloc (.cells (ansC (ansE 0) nilV nilV) 32)
  have HK1 := hid (((Keep.refl w).alloc (.cells #[.int .i64 2, .int .i64 fd, .int .i64 n, .int .i64 off, .int .i64 flags, sV path, sV dest, ov] 35)).alloc (.cells (ansC (ansE 0) nilV nilV) 32))
  unfold ansC ansE at h1 HK1
  have e1 : (w.alloc (.cells #[.int .i64 2, .int .i64 fd, .int .i64 n, .int .i64 off, .int .i64 flags, sV path, sV dest, ov] 35)).heap.size = w.heap.size + 1 := by show (Array.push _ _).size = _; rw [Array.size_push]
  rw [e1] at h1
  have HO1 := hid h1
  clear h1 e1 HO
  generalize (w.alloc (.cells #[.int .i64 2, .int .i64 fd, .int .i64 n, .int .i64 off, .int .i64 flags, sV path, sV dest, ov] 35)).alloc (.cells #[.int .i64 0, .int .i64 0, .int .i64 0, .int .i64 0, nilV, nilV] 32) = w1 at *
  generalize w.heap.size = g3 at *
  generalize g3 + 1 = g4 at *
  have hp0 : w1.cell? ⟨g3, 0, none⟩ = some (.int .i64 2) := HO1.out.p1.cells 0
  have hp1 : w1.cell? ⟨g3, 1, none⟩ = some (.int .i64 fd) := HO1.out.p1.cells 1
  have hp2 : w1.cell? ⟨g3, 2, none⟩ = some (.int .i64 n) := HO1.out.p1.cells 2
  have hp3 : w1.cell? ⟨g3, 3, none⟩ = some (.int .i64 off) := HO1.out.p1.cells 3
  have hp4 : w1.cell? ⟨g3, 4, none⟩ = some (.int .i64 flags) := HO1.out.p1.cells 4
  have hp5 : w1.cell? ⟨g3, 5, none⟩ = some (sV path) := HO1.out.p1.cells 5
  have hp6 : w1.cell? ⟨g3, 6, none⟩ = some (sV dest) := HO1.out.p1.cells 6
  have hp7 : w1.cell? ⟨g3, 7, none⟩ = some (ov) := HO1.out.p1.cells 7
  go_wp2_with fail
  refine (HX.out w1 _ (HO1.out.re 3 [2, 0, 1])).mono ?_
  rintro e w2 ⟨rfl, hO2, hK2⟩
  have HO2 := hid hO2
  have HK2 := hid ((HK1.out).trans hK2)
  clear hO2 hK2
  try dsimp only
  have HO3 := hid (show Has w2 (pt g4 (.cells (ansC (ansE 0) nilV nilV) 32) :: Trc q R.2 :: L) from HO2.out.re 3 [1, 0])
  have hz0 : w2.cell? ⟨g4, 0, none⟩ = some (.int .i64 0) := (HO3.out).cells 0
  have hz1 : w2.cell? ⟨g4, 1, none⟩ = some (.int .i64 0) := (HO3.out).cells 1
  have hz2 : w2.cell? ⟨g4, 2, none⟩ = some (.int .i64 0) := (HO3.out).cells 2
  have hz3 : w2.cell? ⟨g4, 3, none⟩ = some (.int .i64 0) := (HO3.out).cells 3
  have hz4 : w2.cell? ⟨g4, 4, none⟩ = some (.slice none 0 0) := (HO3.out).cells 4
  have hz5 : w2.cell? ⟨g4, 5, none⟩ = some (.slice none 0 0) := (HO3.out).cells 5
  have hy0 := (HO3.out).thaw 0
  have hy1 := (HO3.out).thaw 1
  have hy2 := (HO3.out).thaw 2
  have hy3 := (HO3.out).thaw 3
  have hy4 := (HO3.out).thaw 4
  have hy5 := (HO3.out).thaw 5
  unfold ansV ansC
  go_wp2_with fail
  have h1 := HO3.out.ans R.1 nilV nilV
  refine bodyPost_ret (ans_result rfl rfl h1) rfl ?_
  exact ⟨rfl, h1.drop, HK2.out.ans _ _ _ _ _ _ _⟩
end Go.Proofs.YtonhcefgakmpfaaGreatDoor
/- THE WALK of tree.Do: rmdir, unlink. -/
namespace Go.Proofs.YtonhcefgakmpfaaGreatDoor
open Go.RowKit Go.Own
set_option maxRecDepth 100000 in
set_option maxHeartbeats 8000000 in
theorem doRmdir (q : Nat) (S : Tre) (fd n off flags : Int) (path dest : Str) (ov : Value) (w : World) (L : List HP) (rk : Int → Nat) (mx : Int) (hW : Wk S) (hY : Wy S rk) (hM : MxL mx L) (hp : path.length ≤ 100000) (hKO : (S.place path).2 = 0 → (S.place path).1.node ≠ 0 → KidOk S (S.place path).1) (hO : Has w (Trc q S :: L)) :
    Calls Tryz.prog 17 #[.pointer (some ⟨q, 0, none⟩), opV ⟨10, fd, n, off, flags, path, dest⟩ (ov)] w fun e w' => e = .returned (ansV (S.remove 10 path).1 nilV nilV) ∧ Has w' (Trc q (S.remove 10 path).2 :: L) ∧ Keep w w' := by
  have HX0 := (fun (w : World) (L' : List HP) (hM : MxL mx L') (hO : Has w (Trc q S :: L')) => tRemove q S rk ⟨10, fd, n, off, flags, path, dest⟩ ov mx w L' (.inl rfl) hW hY hM hp hKO hO)
  try dsimp only at HX0
  have HX := hid HX0
  clear HX0
  have HM := hid hM
  clear hM
  generalize S.remove 10 path = R at *
  have HO := hid hO
  clear hO
  try unfold opV opC at HX
  unfold opV opC
  go_enter Tryz.func17, Tryz.ntmps17
  go_upto_region 1 with fail
  have h1 := (HO.out.alloc (.cells #[.int .i64 10, .int .i64 fd, .int .i64 n, .int .i64 off, .int .i64 flags, sV path, sV dest, ov] 35)).alloc (.cells (ansC (ansE 0) nilV nilV) 32)
  have HK1 := hid (((Keep.refl w).alloc (.cells #[.int .i64 10, .int .i64 fd, .int .i64 n, .int .i64 off, .int .i64 flags, sV path, sV dest, ov] 35)).alloc (.cells (ansC (ansE 0) nilV nilV) 32))
  unfold ansC ansE at h1 HK1
  have e1 : (w.alloc (.cells #[.int .i64 10, .int .i64 fd, .int .i64 n, .int .i64 off, .int .i64 flags, sV path, sV dest, ov] 35)).heap.size = w.heap.size + 1 := by show (Array.push _ _).size = _; rw [Array.size_push]
  rw [e1] at h1
  have HO1 := hid h1
  clear h1 e1 HO
  generalize (w.alloc (.cells #[.int .i64 10, .int .i64 fd, .int .i64 n, .int .i64 off, .int .i64 flags, sV path, sV dest, ov] 35)).alloc (.cells #[.int .i64 0, .int .i64 0, .int .i64 0, .int .i64 0, nilV, nilV] 32) = w1 at *
  generalize w.heap.size = g3 at *
  generalize g3 + 1 = g4 at *
  have hp0 : w1.cell? ⟨g3, 0, none⟩ = some (.int .i64 10) := HO1.out.p1.cells 0
  have hp1 : w1.cell? ⟨g3, 1, none⟩ = some (.int .i64 fd) := HO1.out.p1.cells 1
  have hp2 : w1.cell? ⟨g3, 2, none⟩ = some (.int .i64 n) := HO1.out.p1.cells 2
  have hp3 : w1.cell? ⟨g3, 3, none⟩ = some (.int .i64 off) := HO1.out.p1.cells 3
  have hp4 : w1.cell? ⟨g3, 4, none⟩ = some (.int .i64 flags) := HO1.out.p1.cells 4
  have hp5 : w1.cell? ⟨g3, 5, none⟩ = some (sV path) := HO1.out.p1.cells 5
  have hp6 : w1.cell? ⟨g3, 6, none⟩ = some (sV dest) := HO1.out.p1.cells 6
  have hp7 : w1.cell? ⟨g3, 7, none⟩ = some (ov) := HO1.out.p1.cells 7
  go_wp2_with fail
  refine (HX.out w1 _ ((HM.out.cons (pt g3 (.cells #[.int .i64 10, .int .i64 fd, .int .i64 n, .int .i64 off, .int .i64 flags, sV path, sV dest, ov] 35))).cons (pt g4 (.cells #[.int .i64 0, .int .i64 0, .int .i64 0, .int .i64 0, nilV, nilV] 32))) (HO1.out.re 3 [2, 0, 1])).mono ?_
  rintro e w2 ⟨rfl, hO2, hK2⟩
  have HO2 := hid hO2
  have HK2 := hid ((HK1.out).trans hK2)
  clear hO2 hK2
  try dsimp only
  have HO3 := hid (show Has w2 (pt g4 (.cells (ansC (ansE 0) nilV nilV) 32) :: Trc q R.2 :: L) from HO2.out.re 3 [1, 0])
  have hz0 : w2.cell? ⟨g4, 0, none⟩ = some (.int .i64 0) := (HO3.out).cells 0
  have hz1 : w2.cell? ⟨g4, 1, none⟩ = some (.int .i64 0) := (HO3.out).cells 1
  have hz2 : w2.cell? ⟨g4, 2, none⟩ = some (.int .i64 0) := (HO3.out).cells 2
  have hz3 : w2.cell? ⟨g4, 3, none⟩ = some (.int .i64 0) := (HO3.out).cells 3
  have hz4 : w2.cell? ⟨g4, 4, none⟩ = some (.slice none 0 0) := (HO3.out).cells 4
  have hz5 : w2.cell? ⟨g4, 5, none⟩ = some (.slice none 0 0) := (HO3.out).cells 5
  have hy0 := (HO3.out).thaw 0
  have hy1 := (HO3.out).thaw 1
  have hy2 := (HO3.out).thaw 2
  have hy3 := (HO3.out).thaw 3
  have hy4 := (HO3.out).thaw 4
  have hy5 := (HO3.out).thaw 5
  unfold ansV ansC
  go_wp2_with fail
  have h1 := HO3.out.ans R.1 nilV nilV
  refine bodyPost_ret (ans_result rfl rfl h1) rfl ?_
  exact ⟨rfl, h1.drop, HK2.out.ans _ _ _ _ _ _ _⟩
set_option maxRecDepth 100000 in
set_option maxHeartbeats 8000000 in
theorem doUnlink (q : Nat) (S : Tre) (fd n off flags : Int) (path dest : Str) (ov : Value) (w : World) (L : List HP) (rk : Int → Nat) (mx : Int) (hW : Wk S) (hY : Wy S rk) (hM : MxL mx L) (hp : path.length ≤ 100000) (hKO : (S.place path).2 = 0 → (S.place path).1.node ≠ 0 → KidOk S (S.place path).1) (hO : Has w (Trc q S :: L)) :
    Calls Tryz.prog 17 #[.pointer (some ⟨q, 0, none⟩), opV ⟨11, fd, n, off, flags, path, dest⟩ (ov)] w fun e w' => e = .returned (ansV (S.remove 11 path).1 nilV nilV) ∧ Has w' (Trc q (S.remove 11 path).2 :: L) ∧ Keep w w' := by
  have HX0 := (fun (w : World) (L' : List HP) (hM : MxL mx L') (hO : Has w (Trc q S :: L')) => tRemove q S rk ⟨11, fd, n, off, flags, path, dest⟩ ov mx w L' (.inr rfl) hW hY hM hp hKO hO)
  try dsimp only at HX0
  have HX := hid HX0
  clear HX0
  have HM := hid hM
  clear hM
  generalize S.remove 11 path = R at *
  have HO := hid hO
  clear hO
  try unfold opV opC at HX
  unfold opV opC
  go_enter Tryz.func17, Tryz.ntmps17
  go_upto_region 1 with fail
  have h1 := (HO.out.alloc (.cells #[.int .i64 11, .int .i64 fd, .int .i64 n, .int .i64 off, .int .i64 flags, sV path, sV dest, ov] 35)).alloc (.cells (ansC (ansE 0) nilV nilV) 32)
  have HK1 := hid (((Keep.refl w).alloc (.cells #[.int .i64 11, .int .i64 fd, .int .i64 n, .int .i64 off, .int .i64 flags, sV path, sV dest, ov] 35)).alloc (.cells (ansC (ansE 0) nilV nilV) 32))
  unfold ansC ansE at h1 HK1
  have e1 : (w.alloc (.cells #[.int .i64 11, .int .i64 fd, .int .i64 n, .int .i64 off, .int .i64 flags, sV path, sV dest, ov] 35)).heap.size = w.heap.size + 1 := by show (Array.push _ _).size = _; rw [Array.size_push]
  rw [e1] at h1
  have HO1 := hid h1
  clear h1 e1 HO
  generalize (w.alloc (.cells #[.int .i64 11, .int .i64 fd, .int .i64 n, .int .i64 off, .int .i64 flags, sV path, sV dest, ov] 35)).alloc (.cells #[.int .i64 0, .int .i64 0, .int .i64 0, .int .i64 0, nilV, nilV] 32) = w1 at *
  generalize w.heap.size = g3 at *
  generalize g3 + 1 = g4 at *
  have hp0 : w1.cell? ⟨g3, 0, none⟩ = some (.int .i64 11) := HO1.out.p1.cells 0
  have hp1 : w1.cell? ⟨g3, 1, none⟩ = some (.int .i64 fd) := HO1.out.p1.cells 1
  have hp2 : w1.cell? ⟨g3, 2, none⟩ = some (.int .i64 n) := HO1.out.p1.cells 2
  have hp3 : w1.cell? ⟨g3, 3, none⟩ = some (.int .i64 off) := HO1.out.p1.cells 3
  have hp4 : w1.cell? ⟨g3, 4, none⟩ = some (.int .i64 flags) := HO1.out.p1.cells 4
  have hp5 : w1.cell? ⟨g3, 5, none⟩ = some (sV path) := HO1.out.p1.cells 5
  have hp6 : w1.cell? ⟨g3, 6, none⟩ = some (sV dest) := HO1.out.p1.cells 6
  have hp7 : w1.cell? ⟨g3, 7, none⟩ = some (ov) := HO1.out.p1.cells 7
  go_wp2_with fail
  refine (HX.out w1 _ ((HM.out.cons (pt g3 (.cells #[.int .i64 11, .int .i64 fd, .int .i64 n, .int .i64 off, .int .i64 flags, sV path, sV dest, ov] 35))).cons (pt g4 (.cells #[.int .i64 0, .int .i64 0, .int .i64 0, .int .i64 0, nilV, nilV] 32))) (HO1.out.re 3 [2, 0, 1])).mono ?_
  rintro e w2 ⟨rfl, hO2, hK2⟩
  have HO2 := hid hO2
  have HK2 := hid ((HK1.out).trans hK2)
  clear hO2 hK2
  try dsimp only
  have HO3 := hid (show Has w2 (pt g4 (.cells (ansC (ansE 0) nilV nilV) 32) :: Trc q R.2 :: L) from HO2.out.re 3 [1, 0])
  have hz0 : w2.cell? ⟨g4, 0, none⟩ = some (.int .i64 0) := (HO3.out).cells 0
  have hz1 : w2.cell? ⟨g4, 1, none⟩ = some (.int .i64 0) := (HO3.out).cells 1
  have hz2 : w2.cell? ⟨g4, 2, none⟩ = some (.int .i64 0) := (HO3.out).cells 2
  have hz3 : w2.cell? ⟨g4, 3, none⟩ = some (.int .i64 0) := (HO3.out).cells 3
  have hz4 : w2.cell? ⟨g4, 4, none⟩ = some (.slice none 0 0) := (HO3.out).cells 4
  have hz5 : w2.cell? ⟨g4, 5, none⟩ = some (.slice none 0 0) := (HO3.out).cells 5
  have hy0 := (HO3.out).thaw 0
  have hy1 := (HO3.out).thaw 1
  have hy2 := (HO3.out).thaw 2
  have hy3 := (HO3.out).thaw 3
  have hy4 := (HO3.out).thaw 4
  have hy5 := (HO3.out).thaw 5
  unfold ansV ansC
  go_wp2_with fail
  have h1 := HO3.out.ans R.1 nilV nilV
  refine bodyPost_ret (ans_result rfl rfl h1) rfl ?_
  exact ⟨rfl, h1.drop, HK2.out.ans _ _ _ _ _ _ _⟩
end Go.Proofs.YtonhcefgakmpfaaGreatDoor
/- THE WALK of tree.Do: link. -/
namespace Go.Proofs.YtonhcefgakmpfaaGreatDoor
open Go.RowKit Go.Own
set_option maxRecDepth 100000 in
set_option maxHeartbeats 8000000 in
theorem doLink (q : Nat) (S : Tre) (fd n off flags : Int) (path dest : Str) (ov : Value) (w : World) (L : List HP) (rk : Int → Nat) (mx : Int) (hW : Wk S) (hY : Wy S rk) (hM : MxL mx L) (hp : path.length ≤ 100000) (hd : dest.length ≤ 100000) (hlk : ∀ n x, fnd S.nodes n = some x → 0 ≤ x.links ∧ x.links < 1000000) (hDO : (S.fresh dest).2 = 0 → DirOk S (S.fresh dest).1) (hO : Has w (Trc q S :: L)) :
    Calls Tryz.prog 17 #[.pointer (some ⟨q, 0, none⟩), opV ⟨12, fd, n, off, flags, path, dest⟩ (ov)] w fun e w' => e = .returned (ansV (S.link path dest).1 nilV nilV) ∧ Has w' (Trc q (S.link path dest).2 :: L) ∧ Keep w w' := by
  have HX0 := (fun (w : World) (L' : List HP) (hM : MxL mx L') (hO : Has w (Trc q S :: L')) => tLink q S rk ⟨12, fd, n, off, flags, path, dest⟩ ov mx w L' hW hY hM hp hd hlk hDO hO)
  try dsimp only at HX0
  have HX := hid HX0
  clear HX0
  have HM := hid hM
  clear hM
  generalize S.link path dest = R at *
  have HO := hid hO
  clear hO
  try unfold opV opC at HX
  unfold opV opC
  go_enter Tryz.func17, Tryz.ntmps17
  go_upto_region 1 with fail
  have h1 := (HO.out.alloc (.cells #[.int .i64 12, .int .i64 fd, .int .i64 n, .int .i64 off, .int .i64 flags, sV path, sV dest, ov] 35)).alloc (.cells (ansC (ansE 0) nilV nilV) 32)
  have HK1 := hid (((Keep.refl w).alloc (.cells #[.int .i64 12, .int .i64 fd, .int .i64 n, .int .i64 off, .int .i64 flags, sV path, sV dest, ov] 35)).alloc (.cells (ansC (ansE 0) nilV nilV) 32))
  unfold ansC ansE at h1 HK1
  have e1 : (w.alloc (.cells #[.int .i64 12, .int .i64 fd, .int .i64 n, .int .i64 off, .int .i64 flags, sV path, sV dest, ov] 35)).heap.size = w.heap.size + 1 := by show (Array.push _ _).size = _; rw [Array.size_push]
  rw [e1] at h1
  have HO1 := hid h1
  clear h1 e1 HO
  generalize (w.alloc (.cells #[.int .i64 12, .int .i64 fd, .int .i64 n, .int .i64 off, .int .i64 flags, sV path, sV dest, ov] 35)).alloc (.cells #[.int .i64 0, .int .i64 0, .int .i64 0, .int .i64 0, nilV, nilV] 32) = w1 at *
  generalize w.heap.size = g3 at *
  generalize g3 + 1 = g4 at *
  have hp0 : w1.cell? ⟨g3, 0, none⟩ = some (.int .i64 12) := HO1.out.p1.cells 0
  have hp1 : w1.cell? ⟨g3, 1, none⟩ = some (.int .i64 fd) := HO1.out.p1.cells 1
  have hp2 : w1.cell? ⟨g3, 2, none⟩ = some (.int .i64 n) := HO1.out.p1.cells 2
  have hp3 : w1.cell? ⟨g3, 3, none⟩ = some (.int .i64 off) := HO1.out.p1.cells 3
  have hp4 : w1.cell? ⟨g3, 4, none⟩ = some (.int .i64 flags) := HO1.out.p1.cells 4
  have hp5 : w1.cell? ⟨g3, 5, none⟩ = some (sV path) := HO1.out.p1.cells 5
  have hp6 : w1.cell? ⟨g3, 6, none⟩ = some (sV dest) := HO1.out.p1.cells 6
  have hp7 : w1.cell? ⟨g3, 7, none⟩ = some (ov) := HO1.out.p1.cells 7
  go_wp2_with fail
  refine (HX.out w1 _ ((HM.out.cons (pt g3 (.cells #[.int .i64 12, .int .i64 fd, .int .i64 n, .int .i64 off, .int .i64 flags, sV path, sV dest, ov] 35))).cons (pt g4 (.cells #[.int .i64 0, .int .i64 0, .int .i64 0, .int .i64 0, nilV, nilV] 32))) (HO1.out.re 3 [2, 0, 1])).mono ?_
  rintro e w2 ⟨rfl, hO2, hK2⟩
  have HO2 := hid hO2
  have HK2 := hid ((HK1.out).trans hK2)
  clear hO2 hK2
  try dsimp only
  have HO3 := hid (show Has w2 (pt g4 (.cells (ansC (ansE 0) nilV nilV) 32) :: Trc q R.2 :: L) from HO2.out.re 3 [1, 0])
  have hz0 : w2.cell? ⟨g4, 0, none⟩ = some (.int .i64 0) := (HO3.out).cells 0
  have hz1 : w2.cell? ⟨g4, 1, none⟩ = some (.int .i64 0) := (HO3.out).cells 1
  have hz2 : w2.cell? ⟨g4, 2, none⟩ = some (.int .i64 0) := (HO3.out).cells 2
  have hz3 : w2.cell? ⟨g4, 3, none⟩ = some (.int .i64 0) := (HO3.out).cells 3
  have hz4 : w2.cell? ⟨g4, 4, none⟩ = some (.slice none 0 0) := (HO3.out).cells 4
  have hz5 : w2.cell? ⟨g4, 5, none⟩ = some (.slice none 0 0) := (HO3.out).cells 5
  have hy0 := (HO3.out).thaw 0
  have hy1 := (HO3.out).thaw 1
  have hy2 := (HO3.out).thaw 2
  have hy3 := (HO3.out).thaw 3
  have hy4 := (HO3.out).thaw 4
  have hy5 := (HO3.out).thaw 5
  unfold ansV ansC
  go_wp2_with fail
  have h1 := HO3.out.ans R.1 nilV nilV
  refine bodyPost_ret (ans_result rfl rfl h1) rfl ?_
  exact ⟨rfl, h1.drop, HK2.out.ans _ _ _ _ _ _ _⟩
end Go.Proofs.YtonhcefgakmpfaaGreatDoor
/- THE WALK of tree.make for a link. -/
namespace Go.Proofs.YtonhcefgakmpfaaGreatDoor
open Go.RowKit Go.Own
def nodL (p : Str) : Nod := ⟨3, bytesOf p, [], [], 0, 0, 0⟩
/-- '[]byte(s)'. -/
theorem strBytes {w : World} {L : List HP} (h : Has w L) (p : Str) (hp : p.length ≤ 1000000) : ∃ v w', (convert 9 29 (sV p)).run Tryz.prog w = .ok v w' ∧ Has w' (Dat 3 v (bytesOf p) :: L) ∧ Keep w w' := by
  have hrun := run_bytes_of_string (P := Tryz.prog) w 9 29 5 (sB p) Tryz.underlying9 Tryz.underlying29 Tryz.underlying5
  have hsz : (sB p).size = p.length := rfl
  have hbl : (bytesOf p).length = p.length := by simp [bytesOf]
  have hcap := grownCap_ge w (sB p).size 0 5
  refine ⟨_, _, hrun, ?_, (Keep.refl w).drew.alloc _⟩
  unfold Dat
  rw [if_pos rfl]
  refine frz_iff.2 ⟨_, grownCap w (sB p).size 0 5, _, _, ⟨by rw [hbl, hsz]; rfl, by rw [hbl, ← hsz]; exact hcap, le_maxLen (by rw [hbl]; omega), ?_⟩, h.drew.alloc _⟩
  rw [hbl]
  unfold bytesRow
  rw [Array.toList_append, List.take_append, show ((sB p).data.map fun b => Value.int .u8 b.toNat).toList = bc (bytesOf p) from by simp [bc, bytesOf, sB]]
  rw [List.take_of_length_le (by simp [bc, bytesOf]), show p.length - (bc (bytesOf p)).length = 0 by simp [bc, bytesOf]]
  simp
set_option maxRecDepth 100000 in
set_option maxHeartbeats 8000000 in
theorem tMake3 (q : Nat) (S : Tre) (s : Spt) (p : Str) (d : Nod) (w : World) (L : List HP) (hp : p.length ≤ 1000000) (hd : fnd S.nodes s.dir = some d) (hk : d.kind = 2) (hl : s.name.length ≤ 1000000) (hm : d.names.length < 1000000) (h0 : 0 ≤ S.last) (h1 : S.last < 1000000) (hfree : fnd S.nodes (S.last + 1) = none) (hS : S.nodes.length < 1000000) (hO : Has w (Trc q S :: L)) :
    Calls Tryz.prog 59 #[.pointer (some ⟨q, 0, none⟩), spV s, .int .i64 3, sV p] w fun e w' => e = .returned (.int .i64 (S.last + 1)) ∧ Has w' (Trc q (S.make s 3 p) :: L) ∧ Keep w w' := by
  obtain ⟨m, f, P, ⟨hP, hT⟩, h⟩ := trc_iff.1 hO
  have HPT := hid (And.intro hP hT)
  have h := trb_iff.1 h
  have HO := hid (show Has w (pt q (.cells (treC m f S.last) 88) :: Mk kInt vPtr m (pnB P) :: Tab f S.tab :: (pnC P ++ L)) from h)
  have hq0 : w.cell? ⟨q, 0, none⟩ = some (.map (some m)) := HO.out.cells 0
  have hq1 : w.cell? ⟨q, 1, none⟩ = some (.int .i64 S.last) := HO.out.cells 1
  have hqt := HO.out.thaw 1
  have hql := HO.out.lt
  clear h hO hP hT
  unfold spV spC
  go_enter Tryz.func59, Tryz.ntmps59
  have hmm := @run_makeMap Tryz.prog
  go_upto_region 3 with fail
  have h2 := ((HO.out.set 1 (.int .i64 (S.last + 1))).alloc (.cells #[.int .i64 s.node, .int .i64 s.dir, sV s.name] 93)).alloc (.cells #[.int .i64 3, .slice none 0 0, .slice none 0 0, .map none, .int .i64 0, .int .i64 0, .int .i64 0] 83)
  have e1 : (w.setCell ⟨q, 1, none⟩ (.int .i64 (S.last + 1))).heap.size = w.heap.size := by simp
  have e2 : ((w.setCell ⟨q, 1, none⟩ (.int .i64 (S.last + 1))).alloc (.cells #[.int .i64 s.node, .int .i64 s.dir, sV s.name] 93)).heap.size = w.heap.size + 1 := by show (Array.push _ _).size = _; rw [Array.size_push, e1]
  rw [e2, e1] at h2
  have HK2 := hid ((((Keep.refl w).set ⟨q, 1, none⟩ (.int .i64 (S.last + 1))).alloc (.cells #[.int .i64 s.node, .int .i64 s.dir, sV s.name] 93)).alloc (.cells #[.int .i64 3, .slice none 0 0, .slice none 0 0, .map none, .int .i64 0, .int .i64 0, .int .i64 0] 83))
  have HO2 := hid h2
  clear h2 e1 e2 hqt hql hq0 hq1
  generalize ((w.setCell ⟨q, 1, none⟩ (.int .i64 (S.last + 1))).alloc (.cells #[.int .i64 s.node, .int .i64 s.dir, sV s.name] 93)).alloc (.cells #[.int .i64 3, .slice none 0 0, .slice none 0 0, .map none, .int .i64 0, .int .i64 0, .int .i64 0] 83) = w2 at *
  generalize hgs : w.heap.size = gs at *
  generalize hgn : gs + 1 = gn at *
  have hfin : ∀ w5 : World, Has w5 (Mk kInt vPtr m (putA (pnB P) (S.last + 1) (some gn)) :: pt q (.cells (treC m f (S.last + 1)) 88) :: Tab f S.tab :: Ndc gn (nodL p) :: pt gs (.cells (spC s) 93) :: (pnC P ++ L)) → Has w5 (Trc q { S with last := S.last + 1, nodes := putA S.nodes (S.last + 1) (nodL p) } :: pt gs (.cells (spC s) 93) :: L) := by
    intro w5 h5
    have hnk : (S.last + 1) ∉ P.map Prod.fst := by
      have := fnd_none.1 hfree
      rwa [← HPT.out.1, pnN_keys] at this
    refine trc_iff.2 ⟨m, f, P ++ [(S.last + 1, gn, nodL p)], ⟨?_, HPT.out.2⟩, trb_iff.2 ?_⟩
    · show pnN _ = putA S.nodes (S.last + 1) (nodL p)
      rw [putA_new _ (fnd_none.1 hfree), ← HPT.out.1]
      simp [pnN]
    · rw [putA_new _ (by rw [pnB_keys]; exact hnk)] at h5
      have e : pnB (P ++ [(S.last + 1, gn, nodL p)]) = pnB P ++ [(S.last + 1, some gn)] := by simp [pnB]
      have e2 : pnC (P ++ [(S.last + 1, gn, nodL p)]) = pnC P ++ [Ndc gn (nodL p)] := by simp [pnC]
      rw [e, e2]
      refine h5.perm ?_
      refine (List.Perm.swap _ _ _).trans (.cons _ (.cons _ (.cons _ ?_)))
      rw [List.append_assoc]
      refine List.Perm.trans ?_ List.perm_middle.symm
      refine .cons _ ?_
      exact List.perm_middle.symm
  have HFIN := hid hfin
  have HFR := hid hfree
  have hPl : P.length < 1000000 := by
    have : (pnN P).length = P.length := by simp [pnN]
    rw [HPT.out.1] at this
    omega
  have HIN := hid (show (fnd (putA S.nodes (S.last + 1) (nodL p)) s.dir = some d ∧ fnd (putA S.nodes (S.last + 1) (nodL p)) (S.last + 1) = some (nodL p)) ∧ s.dir ≠ S.last + 1 from by
    have hne : s.dir ≠ S.last + 1 := by intro e; rw [e] at hd; rw [hd] at hfree; cases hfree
    rw [putA_new _ (fnd_none.1 hfree)]
    refine ⟨⟨?_, ?_⟩, hne⟩
    · unfold fnd at *
      rw [List.find?_append]
      generalize S.nodes.find? (fun p => decide (p.1 = s.dir)) = o at *
      cases o with
      | none => cases hd
      | some v => exact hd
    · unfold fnd at *
      rw [List.find?_append]
      generalize S.nodes.find? (fun p => decide (p.1 = S.last + 1)) = o at *
      cases o with
      | none => simp
      | some v => cases hfree)
  have HME := hid (show S.make s 3 p = ({ S with last := S.last + 1, nodes := putA S.nodes (S.last + 1) (nodL p) } : Tre).add s.dir s.name (S.last + 1) from by
    unfold Tre.make nodL
    rw [if_pos rfl])
  clear hfin hfree hd
  obtain ⟨vd, wd, hrun, hOd, hKd⟩ := strBytes HO2.out p hp
  obtain ⟨pd, cd, rfl, -⟩ := (Dat.rd hOd).form
  have HOd := hid hOd
  have HKd := hid (HK2.out.trans hKd)
  clear hOd hKd HO2 HK2
  have hcn1 := HOd.out.p1.cells 1
  have htn1 := HOd.out.p1.thaw 1
  go_upto_region 8 with fail
  have HO4 := hid (show Has (wd.setCell ⟨gn, 1, none⟩ (.slice pd (bytesOf p).length cd)) (Mk kInt vPtr m (pnB P) :: pt q (.cells (treC m f (S.last + 1)) 88) :: Tab f S.tab :: Ndc gn (nodL p) :: pt gs (.cells (spC s) 93) :: (pnC P ++ L)) from by
    have h1 := (HOd.out.p1).set 1 (.slice pd (bytesOf p).length cd)
    have h2 : Has (wd.setCell ⟨gn, 1, none⟩ (.slice pd (bytesOf p).length cd)) (fact (([] : List (Str × Int)) = []) :: _) := Has.fact_iff.2 ⟨rfl, h1⟩
    have h3 := (h2.row_nil 4 1).re 4 [2, 3, 0, 1]
    have h4 : Has (wd.setCell ⟨gn, 1, none⟩ (.slice pd (bytesOf p).length cd)) (Ndc gn (nodL p) :: pt gs (.cells (spC s) 93) :: pt q (.cells (treC m f (S.last + 1)) 88) :: Mk kInt vPtr m (pnB P) :: Tab f S.tab :: (pnC P ++ L)) := ndc_iff.2 ⟨.slice pd (bytesOf p).length cd, .slice none 0 0, none, fun h => absurd h (by show ¬ (3 : Int) = 2; decide), h3⟩
    exact h4.re 5 [3, 2, 4, 0, 1])
  have HK4 := hid (HKd.out.set ⟨gn, 1, none⟩ (.slice pd (bytesOf p).length cd))
  clear HOd HKd hcn1 htn1 hrun
  generalize wd.setCell ⟨gn, 1, none⟩ (.slice pd (bytesOf p).length cd) = w4 at *
  have hq0 : w4.drew.cell? ⟨q, 0, none⟩ = some (.map (some m)) := HO4.out.p1.cells 0
  have hq1 : w4.drew.cell? ⟨q, 1, none⟩ = some (.int .i64 (S.last + 1)) := HO4.out.p1.cells 1
  refine region_text (fun w' => w'.cell? ⟨q, 0, none⟩ = some (.map (some m)) ∧ w'.cell? ⟨q, 1, none⟩ = some (.int .i64 (S.last + 1))) (by kernel_rfl) (by kernel_rfl) ⟨hq0, hq1⟩ ?_
  repeat (first
    | (refine wpL_read (by rfl) (by rfl) ?_ ?_ ?_; rotate_left; (rintro w ⟨z0, z1⟩; go_simp; with_reducible rfl); simp only [Act.put, List.setIfInBounds_toArray, List.set_cons_zero, List.set_cons_succ]) | (refine wpL_skip (by rfl) ?_; simp only [Act.put, List.setIfInBounds_toArray, List.set_cons_zero, List.set_cons_succ]))
  refine wpL_act (by rfl) (by rfl) (fun K hK => ?_)
  refine wp_mkPut HO4.out.drew (by simp only [pnB, List.length_map]; exact hPl) tNo undNo _ _ _ rfl rfl (S.last + 1) (wf_small _ (by omega) (by omega)) rfl (some gn) trivial rfl ?_
  intro w5 hO5 hK5
  refine hK.out _ _ ⟨hO5.p1.cells 0, hO5.p1.cells 1⟩ ?_
  clear hK K
  try simp only [Act.put, List.setIfInBounds_toArray, List.set_cons_zero, List.set_cons_succ]
  have HO5 := hid (HFIN.out _ hO5)
  have HK5 := hid (HK4.out.drew.trans hK5)
  clear hO5 hK5 HO4 HK4 hq0 hq1
  refine wpL_nil ?_
  go_upto_region 9 with fail
  refine region_text (fun w' => w'.cell? ⟨q, 1, none⟩ = some (.int .i64 (S.last + 1)) ∧ w'.cell? ⟨gs, 1, none⟩ = some (.int .i64 s.dir) ∧ w'.cell? ⟨gs, 2, none⟩ = some (sV s.name)) (by kernel_rfl) (by kernel_rfl) ⟨Trc.last HO5.out.drew, HO5.out.drew.p1.cells 1, HO5.out.drew.p1.cells 2⟩ ?_
  repeat (first
    | (refine wpL_read (by rfl) (by rfl) ?_ ?_ ?_; rotate_left; (rintro w ⟨z0, z1, z2⟩; go_simp; with_reducible rfl); simp only [Act.put, List.setIfInBounds_toArray, List.set_cons_zero, List.set_cons_succ]) | (refine wpL_skip (by rfl) ?_; simp only [Act.put, List.setIfInBounds_toArray, List.set_cons_zero, List.set_cons_succ]))
  refine wpL_act (by rfl) (by rfl) (fun K hK => ?_)
  go_simp
  refine (tAdd q _ s.dir s.name (S.last + 1) d _ _ _ HIN.out.1.1 HIN.out.1.2 HIN.out.2 hk hl hm (by show (0 : Int) ≤ 0; decide) (by show (0 : Int) < 1000000; decide) HO5.out.drew).mono ?_
  rintro e w6 ⟨rfl, hO6, hK6⟩
  have HO6 := hid hO6
  have HK6 := hid ((HK5.out.drew).trans hK6)
  clear hO6 hK6
  try dsimp only
  refine hK.out _ _ (⟨Trc.last HO6.out, HO6.out.p1.cells 1, HO6.out.p1.cells 2⟩) ?_
  clear hK K
  try simp only [Act.put, List.setIfInBounds_toArray, List.set_cons_zero, List.set_cons_succ]
  refine wpL_nil ?_
  have hq1 := Trc.last HO6.out
  go_wp2_with fail
  go_ret
  exact ⟨rfl, by rw [HME.out]; exact HO6.out.re 2 [0], HK6.out⟩
end Go.Proofs.YtonhcefgakmpfaaGreatDoor
