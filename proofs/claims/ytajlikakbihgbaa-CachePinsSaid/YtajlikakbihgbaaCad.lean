/- THE WALKS of what a cache gives up. -/
import Derived.Test.YtajlikakbihgbaaCaf
import Derived.Test.YtajlikakbihgbaaClear
import Derived.Test.YtajlikakbihgbaaDiska
namespace Go.Proofs.Ytajlikakbihgbaa
open Go.RowKit Go.Own Go.Ch
abbrev boxI (q : Nat) (m : Int) : HP := pt q (.cells #[.int .i64 m] 3)
set_option maxRecDepth 100000 in
set_option maxHeartbeats 4000000 in
theorem cDropNo (h : Hd) (q : Nat) (m : Int) (w : World) (L : List HP) (hn : m ≤ 0 ∨ h.stay = true) (hO : Has w (boxI q m :: L)) :
    Calls Try.prog 58 #[hdV h, .pointer (some ⟨q, 0, none⟩)] w fun e w' => e = .returned (.bool false) ∧ Has w' (boxI q m :: L) ∧ Keep w w' := by
  have HO := hid (hO.alloc (.cells (hdC h) 76))
  have HK := hid ((Keep.refl w).alloc (.cells (hdC h) 76))
  have hc1 := (hO.alloc (.cells (hdC h) 76)).cells
  have hc2 := (hO.alloc (.cells (hdC h) 76)).p1.cells
  clear hO
  unfold hdV hdC at *
  by_cases hm : m ≤ 0
  · clear hn
    go_enter Try.func58, Try.ntmps58
    go_wp2_with fail
    go_ret
    exact ⟨rfl, HO.out.drop, HK.out⟩
  · have hs := hn.resolve_left hm
    have hm3 : ¬ m ≤ 0 := hm
    clear hn
    unfold Hd.stay at hs
    cases hd : h.dirty
    · rw [hd, Bool.false_or] at hs
      rw [hd] at hc1 hc2 HO HK
      rw [hs] at hc1 hc2 HO HK ⊢
      go_enter Try.func58, Try.ntmps58
      go_wp2_with fail
      go_ret
      exact ⟨rfl, HO.out.drop, HK.out⟩
    · rw [hd] at hc1 hc2 HO HK
      clear hs
      go_enter Try.func58, Try.ntmps58
      go_wp2_with fail
      go_ret
      exact ⟨rfl, HO.out.drop, HK.out⟩
set_option maxRecDepth 100000 in
set_option maxHeartbeats 4000000 in
theorem cDropYes (h : Hd) (q : Nat) (m : Int) (w : World) (L : List HP) (hm : 0 < m) (hm2 : m ≤ 1000000000) (hs : h.stay = false) (hO : Has w (boxI q m :: L)) :
    Calls Try.prog 58 #[hdV h, .pointer (some ⟨q, 0, none⟩)] w fun e w' => e = .returned (.bool true) ∧ Has w' (boxI q (m - 1) :: L) ∧ Keep w w' := by
  have HO := hid (hO.alloc (.cells (hdC h) 76))
  have HK := hid ((Keep.refl w).alloc (.cells (hdC h) 76))
  have hc1 := (hO.alloc (.cells (hdC h) 76)).cells
  have hc2 := (hO.alloc (.cells (hdC h) 76)).p1.cells
  have ht2 := (hO.alloc (.cells (hdC h) 76)).p1.thaw
  clear hO
  unfold hdV hdC at *
  unfold Hd.stay at hs
  rw [Bool.or_eq_false_iff] at hs
  obtain ⟨hd, hp⟩ := hs
  rw [hd] at hc1 hc2 ht2 HO HK ⊢
  rw [hp] at hc1 hc2 ht2 HO HK ⊢
  clear hd hp
  have hm3 : ¬ m ≤ 0 := by omega
  go_enter Try.func58, Try.ntmps58
  go_wp2_with fail
  go_ret
  refine ⟨rfl, ?_, HK.out.set _ _⟩
  exact (HO.out.p1.set 0 (.int .i64 (m - 1))).p1.drop
theorem drop_skip {m : Int} {T : List Hd} {k : Nat} (h : ∀ j (hj : j < T.length), j < k → m ≤ 0 ∨ T[j].stay = true) : dropG Hd.stay m (T.take k) = (m, T.take k) := by
  by_cases hm : m ≤ 0
  · exact dropG_none _ (.inl hm)
  · refine dropG_none _ (.inr fun x hx => ?_)
    obtain ⟨j, hj, rfl⟩ := List.getElem_of_mem hx
    rw [List.length_take] at hj
    rw [List.getElem_take]
    exact (h j (by omega) (by omega)).resolve_left hm
theorem take_one {T : List Hd} {k : Nat} (hk : k < T.length) : T.take (k + 1) = T.take k ++ [T[k]] := List.take_succ_eq_append_getElem hk
set_option maxRecDepth 100000 in
set_option maxHeartbeats 4000000 in
theorem cIndexDrop (v : Value) (T : List Hd) (q : Nat) (m : Int) (w : World) (L : List HP) (hm : m ≤ 1000000000) (hr : ∀ w' m', Has w' (boxI q m' :: L) → Rd w' v 4 T.length (hcells T)) (hl : T.length ≤ 1000000) (hO : Has w (boxI q m :: L)) :
    Calls Try.prog 59 #[v, .func (Fn.func 58) #[] #[.pointer (some ⟨q, 0, none⟩)]] w fun e w' => (∃ r : Option Nat, e = .returned (.int .i64 (atN r)) ∧ match r with
      | none => dropG Hd.stay m T = (m, T) ∧ Has w' (boxI q m :: L)
      | some i => i < T.length ∧ dropG Hd.stay m (T.take (i + 1)) = (m - 1, T.take i) ∧ Has w' (boxI q (m - 1) :: L)) ∧ Keep w w' := by
  obtain ⟨p, c, rfl, -, -, hcs⟩ := (hr w m hO).form
  have HO := hid hO
  have HK := hid (Keep.refl w)
  have HR := hid hr
  have HL := hid hl
  have HCS := hid hcs
  have HM := hid hm
  clear hr hO hl hcs hm
  go_enter Try.func59, Try.ntmps59
  go_wp2_with fail
  go_loopw [8] (fun i w' => ∃ k : Nat, k ≤ T.length ∧ i = .int .i64 k ∧ Hid (∀ j (hj : j < T.length), j < k → m ≤ 0 ∨ T[j].stay = true) ∧ Hid (Has w' (boxI q m :: L)) ∧ Hid (Keep w w')) (fun i _ => T.length - (intOf i).toNat)
  case atStart => exact ⟨0, by omega, rfl, hid fun j hj h => by omega, HO, HK⟩
  case round =>
    clear HO HK
    obtain ⟨k, hk, rfl, HN, HO, HK⟩ := hrel
    by_cases hlt : k < T.length
    · have hki : (k : Int) < (T.length : Int) := by omega
      have hk0 : (0 : Int) ≤ (k : Int) := by omega
      have hnb : (T.length : Int) ≤ 1000000 := by have := HL.out; omega
      obtain ⟨g, o, rfl, -⟩ := HCS.out (by omega)
      obtain ⟨c0, c1, c2, c3⟩ := hd_cells (HR.out wr m HO.out) k hlt
      have HLT := hid hlt
      have HT1 := hid (take_one hlt)
      generalize hx : T[k] = x at *
      have HX := hid hx
      clear hx hlt hk
      by_cases hst : m ≤ 0 ∨ x.stay = true
      · have HF := hid (cDropNo x q m wr L hst HO.out)
        unfold hdV at HF
        have HN2 := hid (show ∀ j (hj : j < T.length), j < k + 1 → m ≤ 0 ∨ T[j].stay = true from fun j hj h => by
          by_cases e : j = k
          · have e2 : T[j] = x := by simp only [e]; exact HX.out
            rw [e2]; exact hst
          · exact HN.out j hj (by omega))
        clear hst
        go_wp2_with fail
        refine HF.out.mono ?_
        rintro e w2 ⟨rfl, h2, k2⟩
        have HO2 := hid h2
        have HK2 := hid (HK.out.trans k2)
        clear h2 k2 c0 c1 c2 c3
        try dsimp only
        go_wp2_with fail
        exact ⟨⟨k + 1, by have := HLT.out; omega, rfl, HN2, HO2, HK2⟩, by have := HLT.out; simp [intOf]; omega⟩
      · have HST := hid hst
        have hst2 : x.stay = false := by
          cases e : x.stay
          · rfl
          · exact absurd (.inr e) hst
        have HF := hid (cDropYes x q m wr L (by omega) HM.out hst2 HO.out)
        unfold hdV at HF
        clear hst hst2
        go_wp2_with fail
        refine HF.out.mono ?_
        rintro e w2 ⟨rfl, h2, k2⟩
        have HO2 := hid h2
        have HK2 := hid (HK.out.trans k2)
        clear h2 k2 c0 c1 c2 c3
        try dsimp only
        go_wp2_with fail
        go_ret
        refine ⟨⟨some k, rfl, HLT.out, ?_, HO2.out⟩, HK2.out⟩
        rw [HT1.out, dropG_append, drop_skip HN.out, dropG_one, if_neg HST.out, List.append_nil]
    · have hki : ¬ (k : Int) < (T.length : Int) := by omega
      obtain rfl : k = T.length := by omega
      clear hlt hk
      go_wp2_with fail
      go_ret
      refine ⟨⟨none, rfl, ?_, HO.out⟩, HK.out⟩
      have := drop_skip HN.out
      rwa [List.take_length] at this
end Go.Proofs.Ytajlikakbihgbaa
