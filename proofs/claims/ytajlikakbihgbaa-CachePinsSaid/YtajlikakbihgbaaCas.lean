/- A CACHE's CALLS of none, of what is not held, and what is refused. -/
import Derived.Test.YtajlikakbihgbaaCar
namespace Go.Proofs.Ytajlikakbihgbaa
open Go.RowKit Go.Own Go.Dk Go.Ch
theorem kcGetNil (a : Int) (w : World) : Calls Try.prog 15 #[.pointer none, .int .i64 a] w fun e w' => e = .returned (.tuple #[.slice none 0 0, .int .i64 1]) ∧ w = w' := by
  go_enter Try.func15, Try.ntmps15
  go_wp2_with fail
  go_ret2
  exact ⟨rfl, rfl⟩
theorem kcPutNil (a : Int) (p : Option Addr) (n c : Nat) (w : World) : Calls Try.prog 11 #[.pointer none, .int .i64 a, .slice p n c] w fun e w' => e = .returned (.int .i64 1) ∧ w = w' := by
  go_enter Try.func11, Try.ntmps11
  go_wp2_with fail
  go_ret
  exact ⟨rfl, rfl⟩
theorem kcDropNil (a : Int) (w : World) : Calls Try.prog 14 #[.pointer none, .int .i64 a] w fun e w' => e = .returned (.int .i64 0) ∧ w = w' := by
  go_enter Try.func14, Try.ntmps14
  go_wp2_with fail
  go_ret
  exact ⟨rfl, rfl⟩
theorem kcHeldNil (w : World) : Calls Try.prog 19 #[.pointer none] w fun e w' => e = .returned (.slice none 0 0) ∧ w = w' := by
  go_enter Try.func19, Try.ntmps19
  go_wp2_with fail
  go_ret
  exact ⟨rfl, rfl⟩
set_option maxRecDepth 100000 in
set_option maxHeartbeats 4000000 in
theorem kcPinNone (q : Nat) (dv : Value) (most : Int) (K : List Hb) (a : Int) (on : Bool) (w : World) (L : List HP) (hl : K.length ≤ 10000) (hf : find K a = none) (hO : Has w (Cch q dv most K :: L)) :
    Calls Try.prog 22 #[.pointer (some ⟨q, 0, none⟩), .int .i64 a, .bool on] w fun e w' => e = .returned (.int .i64 5) ∧ Has w' (Cch q dv most K :: L) ∧ Keep w w' := by
  obtain ⟨v, T, B, ⟨rfl, hB⟩, h2⟩ := cch_iff.1 hO
  have HA := hid (cAsked dv most v T q a w _ (fun w' h => Has.rd h) (by simp at hl; omega) h2)
  rw [hf] at HA
  dsimp only at HA
  have HB := hid hB
  clear hO h2 hB hf hl
  go_enter Try.func22, Try.ntmps22
  go_wp2_with fail
  refine HA.out.mono ?_
  rintro e w2 ⟨rfl, h2, k2⟩
  have HO2 := hid h2
  have HK2 := hid k2
  clear h2 k2 HA
  try dsimp only
  go_wp2_with fail
  go_ret
  exact ⟨rfl, cch_iff.2 ⟨v, T, B, ⟨rfl, HB.out⟩, HO2.out⟩, HK2.out⟩
set_option maxRecDepth 100000 in
set_option maxHeartbeats 4000000 in
theorem kcCleanNone (q : Nat) (dv : Value) (most : Int) (K : List Hb) (a : Int) (w : World) (L : List HP) (hl : K.length ≤ 10000) (hf : find K a = none) (hO : Has w (Cch q dv most K :: L)) :
    Calls Try.prog 13 #[.pointer (some ⟨q, 0, none⟩), .int .i64 a] w fun e w' => e = .returned (.int .i64 5) ∧ Has w' (Cch q dv most K :: L) ∧ Keep w w' := by
  obtain ⟨v, T, B, ⟨rfl, hB⟩, h2⟩ := cch_iff.1 hO
  have HA := hid (cAsked dv most v T q a w _ (fun w' h => Has.rd h) (by simp at hl; omega) h2)
  rw [hf] at HA
  dsimp only at HA
  have HB := hid hB
  clear hO h2 hB hf hl
  go_enter Try.func13, Try.ntmps13
  go_wp2_with fail
  refine HA.out.mono ?_
  rintro e w2 ⟨rfl, h2, k2⟩
  have HO2 := hid h2
  have HK2 := hid k2
  clear h2 k2 HA
  try dsimp only
  go_wp2_with fail
  go_ret
  exact ⟨rfl, cch_iff.2 ⟨v, T, B, ⟨rfl, HB.out⟩, HO2.out⟩, HK2.out⟩
set_option maxRecDepth 100000 in
set_option maxHeartbeats 4000000 in
theorem kcPutBad (q d : Nat) (most : Int) (K : List Hb) (E : Bk) (a : Int) (v : Value) (xs : List Int) (w : World) (L : List HP) (ha : ¬ (0 ≤ a ∧ a < E.firm.length)) (hx : xs.length = 128) (hr : ∀ w', Has w' L → Rd w' v 1 xs.length (bc xs)) (hO : Has w (Cch q (dP d) most K :: Dk d E :: L)) :
    Calls Try.prog 11 #[.pointer (some ⟨q, 0, none⟩), .int .i64 a, v] w fun e w' => e = .returned (.int .i64 2) ∧ Has w' (Cch q (dP d) most K :: Dk d E :: L) ∧ Keep w w' := by
  obtain ⟨p, c, rfl, -⟩ := (hr w hO.drop.drop).form
  have HSX := hid (kSectors d E w _ hO.p1)
  obtain ⟨v0, T, B, ⟨hT, hB⟩, h2⟩ := cch_iff.1 hO
  have hc := h2.cells
  have HO := hid hO
  unfold caC at hc
  by_cases h1 : a < 0
  · clear hr hx ha h2 hO hT hB
    go_enter Try.func11, Try.ntmps11
    go_wp2_with fail
    go_ret
    exact ⟨rfl, HO.out, Keep.refl w⟩
  · have ha3 : (E.firm.length : Int) ≤ a := by omega
    clear hr hx ha h2 hO hT hB
    go_enter Try.func11, Try.ntmps11
    go_wp2_with fail
    refine (HSX.out).mono ?_
    rintro e w' ⟨rfl, rfl⟩
    try dsimp only
    clear hc
    go_wp2_with fail
    go_ret
    exact ⟨rfl, HO.out, Keep.refl w⟩
set_option maxRecDepth 100000 in
set_option maxHeartbeats 4000000 in
theorem kcGetErr (q d : Nat) (most : Int) (K : List Hb) (E : Bk) (a : Int) (w : World) (L : List HP) (hl : K.length ≤ 10000) (hw : E.waits.length ≤ 1000000000) (hf : find K a = none) (he : (E.read a).1 ≠ 0) (hO : Has w (Cch q (dP d) most K :: Dk d E :: L)) :
    Calls Try.prog 15 #[.pointer (some ⟨q, 0, none⟩), .int .i64 a] w fun e w' => e = .returned (.tuple #[.slice none 0 0, .int .i64 (E.read a).1]) ∧ Has w' (Cch q (dP d) most K :: Dk d E :: L) ∧ Keep w w' := by
  obtain ⟨v, T, B, ⟨rfl, hB⟩, h2⟩ := cch_iff.1 hO
  have HF := hid (cFind (dP d) most v T q a w _ (fun w' h => Has.rd h) (by simp at hl; omega) h2)
  have HBB := hid hB
  have HW := hid hw
  have HE := hid he
  rw [hf] at HF
  simp only [atN] at HF
  clear hO h2 hB hl hf hw he
  go_enter Try.func15, Try.ntmps15
  go_wp2_with fail
  refine HF.out.mono ?_
  rintro e w2 ⟨rfl, h2, k2⟩
  have HO2 := hid h2
  have HK2 := hid k2
  clear h2 k2 HF
  try dsimp only
  have hq := HO2.out.cells
  unfold caC at hq
  have HRD := hid (kRead d E w2 _ HO2.out.p3 a HW.out)
  generalize her : (E.read a).1 = er at *
  have HER := hid her
  clear her
  go_wp2_with fail
  refine HRD.out.mono ?_
  rintro e w3 ⟨v3, rfl, h3, k3⟩
  have HO3 := hid (show Has w3 (Cch q (dP d) most (T.map Hd.hb) :: Bytes v3 (E.read a).2 :: Dk d E :: L) from cch_iff.2 ⟨v, T, B, ⟨rfl, HBB.out⟩, h3.re 5 [2, 3, 4, 0, 1]⟩)
  have HK3 := hid (HK2.out.trans k3)
  obtain ⟨p3, c3, rfl, -⟩ := (Bytes.rd h3).form
  clear h3 k3 HO2 HK2 HRD hq
  try dsimp only
  have he := HE.out
  go_wp2_with fail
  go_ret2
  rw [HER.out]
  exact ⟨rfl, HO3.out.p1.drop, HK3.out⟩
end Go.Proofs.Ytajlikakbihgbaa
