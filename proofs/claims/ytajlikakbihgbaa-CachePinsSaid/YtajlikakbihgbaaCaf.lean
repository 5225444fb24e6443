/- THE WALKS of where a sector is held. -/
import Derived.Test.YtajlikakbihgbaaCam
import Derived.Test.YtajlikakbihgbaaRe
namespace Go.Proofs.Ytajlikakbihgbaa
open Go.RowKit Go.Own Go.Ch
def hdV (h : Hd) : Value := .agg #[.int .i64 h.at_, h.t.1, .bool h.dirty, .bool h.pin]
def hdC (h : Hd) : Array Value := #[.int .i64 h.at_, h.t.1, .bool h.dirty, .bool h.pin]
set_option maxRecDepth 100000 in
set_option maxHeartbeats 4000000 in
theorem cFind1 (h : Hd) (q : Nat) (a : Int) (w : World) (L : List HP) (hO : Has w (pt q (.cells #[.int .i64 a] 3) :: L)) :
    Calls Try.prog 60 #[hdV h, .pointer (some ⟨q, 0, none⟩)] w fun e w' => e = .returned (.bool (h.at_ == a)) ∧ Has w' (pt q (.cells #[.int .i64 a] 3) :: L) ∧ Keep w w' := by
  have HO := hid (hO.alloc (.cells (hdC h) 76))
  have HK := hid ((Keep.refl w).alloc (.cells (hdC h) 76))
  have hc1 := (hO.alloc (.cells (hdC h) 76)).cells
  have hc2 := (hO.alloc (.cells (hdC h) 76)).p1.cells
  clear hO
  unfold hdV hdC at *
  go_enter Try.func60, Try.ntmps60
  go_wp2_with fail
  go_ret
  exact ⟨rfl, HO.out.drop, HK.out⟩
/-- What an element's cells are, read. -/
theorem hd_cells {w : World} {g o n c : Nat} {T : List Hd} (h : Rd w (.slice (some ⟨g, o, none⟩) n c) 4 T.length (hcells T)) (k : Nat) (hk : k < T.length) :
    w.cell? ⟨g, o + k * 4, none⟩ = some (.int .i64 T[k].at_) ∧ w.cell? ⟨g, o + k * 4 + 1, none⟩ = some T[k].t.1 ∧ w.cell? ⟨g, o + k * 4 + 2, none⟩ = some (.bool T[k].dirty) ∧ w.cell? ⟨g, o + k * 4 + 3, none⟩ = some (.bool T[k].pin) := by
  obtain ⟨p, c', e, -, -, hcc⟩ := h.form
  obtain ⟨g', o', rfl, hd⟩ := hcc (by omega)
  injection e with e
  injection e with e
  injection e with e1 e2
  subst e1 e2
  have hx : ∀ j, j < 4 → w.cell? ⟨g, o + k * 4 + j, none⟩ = (Ch.hc T[k])[j]? := fun j hj => by
    rw [Nat.add_assoc, hd (k * 4 + j) (by omega), hcells_at T k hk j hj]
  exact ⟨hx 0 (by omega), hx 1 (by omega), hx 2 (by omega), hx 3 (by omega)⟩
/-- Where, as a number; -1. -/
def atN : Option Nat → Int
  | some i => i
  | none => -1
theorem find_none {K : List Hb} {a : Int} (h : ∀ j (hj : j < K.length), K[j].at_ ≠ a) : find K a = none := by
  unfold find
  rw [List.findIdx?_eq_none_iff]
  intro x hx
  obtain ⟨j, hj, rfl⟩ := List.getElem_of_mem hx
  simpa using h j hj
theorem find_some {K : List Hb} {a : Int} {k : Nat} (hk : k < K.length) (e : K[k].at_ = a) (h : ∀ j (hj : j < k), K[j].at_ ≠ a) : find K a = some k := by
  unfold find
  rw [List.findIdx?_eq_some_iff_getElem]
  exact ⟨hk, by simpa using e, fun j hj => by simpa using h j hj⟩
set_option maxRecDepth 100000 in
set_option maxHeartbeats 4000000 in
theorem cIndexFind (v : Value) (T : List Hd) (q : Nat) (a : Int) (w : World) (L : List HP) (hr : ∀ w', Has w' L → Rd w' v 4 T.length (hcells T)) (hl : T.length ≤ 1000000) (hO : Has w (pt q (.cells #[.int .i64 a] 3) :: L)) :
    Calls Try.prog 59 #[v, .func (Fn.func 60) #[] #[.pointer (some ⟨q, 0, none⟩)]] w fun e w' => e = .returned (.int .i64 (atN (find (T.map Hd.hb) a))) ∧ Has w' (pt q (.cells #[.int .i64 a] 3) :: L) ∧ Keep w w' := by
  obtain ⟨p, c, rfl, -, -, hcs⟩ := (hr w hO.drop).form
  have HO := hid hO
  have HK := hid (Keep.refl w)
  have HR := hid hr
  have HL := hid hl
  have HCS := hid hcs
  clear hr hO hl hcs
  go_enter Try.func59, Try.ntmps59
  go_wp2_with fail
  go_loopw [8] (fun i w' => ∃ k : Nat, k ≤ T.length ∧ i = .int .i64 k ∧ Hid (∀ j (hj : j < T.length), j < k → T[j].at_ ≠ a) ∧ Hid (Has w' (pt q (.cells #[.int .i64 a] 3) :: L)) ∧ Hid (Keep w w')) (fun i _ => T.length - (intOf i).toNat)
  case atStart => exact ⟨0, by omega, rfl, hid fun j hj h => by omega, HO, HK⟩
  case round =>
    clear HO HK
    obtain ⟨k, hk, rfl, HN, HO, HK⟩ := hrel
    by_cases hlt : k < T.length
    · have hki : (k : Int) < (T.length : Int) := by omega
      have hk0 : (0 : Int) ≤ (k : Int) := by omega
      have hnb : (T.length : Int) ≤ 1000000 := by have := HL.out; omega
      obtain ⟨g, o, rfl, -⟩ := HCS.out (by omega)
      obtain ⟨c0, c1, c2, c3⟩ := hd_cells (HR.out wr HO.out.drop) k hlt
      have HLT := hid hlt
      generalize hx : T[k] = x at *
      have HX := hid hx
      clear hx hlt hk
      have HF := hid (cFind1 x q a wr L HO.out)
      unfold hdV at HF
      by_cases hat : x.at_ = a
      · have hb : (x.at_ == a) = true := by simpa using hat
        rw [hb] at HF
        have HFI := hid (show find (T.map Hd.hb) a = some k from find_some (by simpa using HLT.out) (by rw [List.getElem_map]; show T[k].at_ = a; rw [HX.out]; exact hat) (fun j hj => by rw [List.getElem_map]; exact HN.out j (by have := HLT.out; omega) hj))
        clear hat hb
        go_wp2_with fail
        refine HF.out.mono ?_
        rintro e w2 ⟨rfl, h2, k2⟩
        have HO2 := hid h2
        have HK2 := hid (HK.out.trans k2)
        clear h2 k2 c0 c1 c2 c3
        try dsimp only
        go_wp2_with fail
        go_ret
        exact ⟨by rw [HFI.out]; rfl, HO2.out, HK2.out⟩
      · have hb : (x.at_ == a) = false := by simpa using hat
        rw [hb] at HF
        have HN2 := hid (show ∀ j (hj : j < T.length), j < k + 1 → T[j].at_ ≠ a from fun j hj h => by
          by_cases e : j = k
          · have e2 : T[j] = x := by simp only [e]; exact HX.out
            rw [e2]; exact hat
          · exact HN.out j hj (by omega))
        clear hat hb
        go_wp2_with fail
        refine HF.out.mono ?_
        rintro e w2 ⟨rfl, h2, k2⟩
        have HO2 := hid h2
        have HK2 := hid (HK.out.trans k2)
        clear h2 k2 c0 c1 c2 c3
        try dsimp only
        go_wp2_with fail
        exact ⟨⟨k + 1, by have := HLT.out; omega, rfl, HN2, HO2, HK2⟩, by have := HLT.out; simp [intOf]; omega⟩
    · have hki : ¬ (k : Int) < (T.length : Int) := by omega
      have HFI := hid (show find (T.map Hd.hb) a = none from find_none fun j hj => by
        rw [List.getElem_map]
        exact HN.out j (by simpa using hj) (by have : j < T.length := (by simpa using hj); omega))
      clear hlt hk
      go_wp2_with fail
      go_ret
      exact ⟨by rw [HFI.out]; rfl, HO.out, HK.out⟩
/-- A cache's own cells. -/
def caC (dv : Value) (most : Int) (v : Value) : Array Value := #[dv, .int .i64 most, v]
set_option maxRecDepth 100000 in
set_option maxHeartbeats 4000000 in
theorem cFind (dv : Value) (most : Int) (v : Value) (T : List Hd) (q : Nat) (a : Int) (w : World) (L : List HP) (hr : ∀ w', Has w' L → Rd w' v 4 T.length (hcells T)) (hl : T.length ≤ 1000000) (hO : Has w (pt q (.cells (caC dv most v) 70) :: L)) :
    Calls Try.prog 37 #[.pointer (some ⟨q, 0, none⟩), .int .i64 a] w fun e w' => e = .returned (.int .i64 (atN (find (T.map Hd.hb) a))) ∧ Has w' (pt q (.cells (caC dv most v) 70) :: L) ∧ Keep w w' := by
  have HO := hid (hO.alloc (.cells #[.int .i64 a] 3))
  have HK := hid ((Keep.refl w).alloc (.cells #[.int .i64 a] 3))
  have hc1 := HO.out.p1.cells
  have HI := hid (cIndexFind v T w.heap.size a _ _ (fun w' h => hr w' h.drop) hl HO.out)
  obtain ⟨p, c, rfl, -⟩ := (hr w hO.drop).form
  clear hO hr hl
  unfold caC at *
  go_enter Try.func37, Try.ntmps37
  go_wp2_with fail
  refine HI.out.mono ?_
  rintro e w2 ⟨rfl, h2, k2⟩
  have HO2 := hid h2
  have HK2 := hid (HK.out.trans k2)
  clear h2 k2 hc1
  try dsimp only
  go_wp2_with fail
  go_ret
  exact ⟨rfl, HO2.out.drop, HK2.out⟩
end Go.Proofs.Ytajlikakbihgbaa
