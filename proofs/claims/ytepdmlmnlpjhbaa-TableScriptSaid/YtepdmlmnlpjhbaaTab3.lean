/- THE WALKS of chapter 13's own answer, and of what the statements share on lists of numbers. -/
import Derived.Test.YtepdmlmnlpjhbaaTab2
namespace Go.Proofs.Ytepdmlmnlpjhbaa
open Go.RowKit Go.Own
def RTab (b : Nat) (T : List Tb.Slot) : HP := pt b (.cells (Tb.cells T) 31)
theorem rtabOpen (b : Nat) (T : List Tb.Slot) (n fl : Int) (W : World) (L : List HP) (hT : T.length = 16) (hO : Own W (RTab b T :: L)) :
    Calls Try.prog 9 #[.pointer (some ⟨b, 0, none⟩), .int .i64 n, .int .i64 fl] W fun e w' => e = .returned (.tuple #[.int .i64 (Tb.opn T n fl).1.1, .int .i64 (Tb.opn T n fl).1.2]) ∧ Own w' (RTab b (Tb.opn T n fl).2 :: L) ∧ Keep W w' := by
  have hc := hO.cells
  have ht := hO.thaw
  have HO := hid hO
  have HT := hid hT
  clear hO hT
  go_enter Try.func9, Try.ntmps9
  go_wp2
  go_loop [8] (fun i => ∃ k : Nat, k ≤ 16 ∧ i = .int .i64 k ∧ Hid (∀ j (h : j < T.length), j < k → (!T[j].on) = false)) (fun i => 16 - (intOf i).toNat)
  case atStart => exact ⟨0, by omega, rfl, hid (by omega)⟩
  case round =>
    obtain ⟨k, hk, rfl, HN⟩ := hrel
    by_cases hlt : k < 16
    · have hl : k < T.length := by rw [HT.out]; exact hlt
      obtain ⟨c0, c1, c2, c3⟩ := Tb.cells_at T k hl
      rcases hon : T[k].on with _ | _
      · have HF := hid (show T.findIdx? (fun s => !s.on) = some k by
          rw [List.findIdx?_eq_some_iff_getElem]
          exact ⟨hl, by simp [hon], fun j hj => by simpa using HN.out j (by omega) hj⟩)
        go_wp2
        go_ret2
        rw [show Tb.opn T n fl = (((k : Int), 0), T.set k ⟨n, 0, fl, true⟩) by simp only [Tb.opn, HF.out]]
        refine ⟨rfl, ?_, ((((Keep.refl _).set _ _).set _ _).set _ _).set _ _⟩
        have h := (((HO.out.set (k * 4) (.int .i64 n)).set (k * 4 + 1) (.int .i64 0)).set (k * 4 + 2) (.int .i64 fl)).set (k * 4 + 3) (.bool true)
        rw [Tb.cells_set T k hl ⟨n, 0, fl, true⟩] at h
        exact h
      · have Hon := hid hon
        go_wp2
        go_round
        case rel =>
          refine ⟨k + 1, by omega, by go_num, hid fun j hj h => ?_⟩
          by_cases hjk : j = k
          · subst hjk; simp [Hon.out]
          · exact HN.out j hj (by omega)
        case measure => simp [intOf]; omega
    · have HF := hid (show T.findIdx? (fun s => !s.on) = none by
        rw [List.findIdx?_eq_none_iff]
        intro x hx
        obtain ⟨j, hj, rfl⟩ := List.getElem_of_mem hx
        exact HN.out j hj (by have := HT.out; omega))
      go_wp2
      go_ret2
      rw [show Tb.opn T n fl = ((0, 14), T) by simp only [Tb.opn, HF.out]]
      exact ⟨rfl, HO.out, Keep.refl _⟩
theorem rtabThere (b : Nat) (T : List Tb.Slot) (fd : Int) (w : World) (L : List HP) (hT : T.length = 16) (hO : Own w (RTab b T :: L)) :
    Calls Try.prog 15 #[.pointer (some ⟨b, 0, none⟩), .int .i64 fd] w fun e w' => e = .returned (.bool (Tb.there T fd)) ∧ w = w' := by
  rcases hl : Tb.look T fd with _ | s
  · have HR := hid (show Tb.there T fd = false by simp [Tb.there, hl])
    rcases Tb.look_out hT hl with (h | h) | ⟨k, hk, rfl, hon⟩
    · clear hO hT hl
      have h' : ¬ 0 ≤ fd := by omega
      go_enter Try.func15, Try.ntmps15
      go_wp2
      go_ret
      exact ⟨by rw [HR.out]; rfl, rfl⟩
    · clear hO hT hl
      have h' : 0 ≤ fd := by omega
      have h'' : ¬ fd < 16 := by omega
      go_enter Try.func15, Try.ntmps15
      go_wp2
      go_ret
      exact ⟨by rw [HR.out]; rfl, rfl⟩
    · have hc : w.cell? ⟨b, k * 4 + 3, none⟩ = some (.bool false) := by rw [hO.cells, (Tb.cells_at T k hk).2.2.2, hon]
      have hk' : k < 16 := by omega
      clear hO hT hl hon hk
      go_enter Try.func15, Try.ntmps15
      go_wp2
      go_ret
      exact ⟨by rw [HR.out]; rfl, rfl⟩
  · have HR := hid (show Tb.there T fd = true by simp [Tb.there, hl])
    obtain ⟨k, hk, rfl, rfl, hon⟩ := Tb.look_in hT hl
    have hc : w.cell? ⟨b, k * 4 + 3, none⟩ = some (.bool true) := by rw [hO.cells, (Tb.cells_at T k hk).2.2.2, hon]
    have hk' : k < 16 := by omega
    clear hO hT hl hon hk
    go_enter Try.func15, Try.ntmps15
    go_wp2
    go_ret
    exact ⟨by rw [HR.out]; rfl, rfl⟩
theorem rtabClose (b : Nat) (T : List Tb.Slot) (fd : Int) (w : World) (L : List HP) (hT : T.length = 16) (hO : Own w (RTab b T :: L)) :
    Calls Try.prog 11 #[.pointer (some ⟨b, 0, none⟩), .int .i64 fd] w fun e w' => e = .returned (.tuple #[.int .i64 (Tb.cls T fd).1.1, .int .i64 (Tb.cls T fd).1.2]) ∧ Own w' (RTab b (Tb.cls T fd).2 :: L) ∧ Keep w w' := by
  have H := hid (rtabThere b T fd w L hT hO)
  rcases hl : Tb.look T fd with _ | s
  · have HR := hid (show Tb.there T fd = false by simp [Tb.there, hl])
    have Hl := hid hl
    have HO := hid hO
    clear hO hT hl
    go_enter Try.func11, Try.ntmps11
    go_wp2_with fail
    refine H.out.mono ?_
    rintro e w' ⟨rfl, rfl⟩
    rw [HR.out]
    go_wp2_with fail
    go_ret2
    rw [show Tb.cls T fd = ((0, 10), T) by simp only [Tb.cls, Hl.out]]
    exact ⟨rfl, HO.out, Keep.refl _⟩
  · have HR := hid (show Tb.there T fd = true by simp [Tb.there, hl])
    obtain ⟨k, hk, rfl, rfl, hon⟩ := Tb.look_in hT hl
    have hk' : k < 16 := by omega
    obtain ⟨c0, c1, c2, c3⟩ := Tb.cells_at T k hk
    have hc := hO.cells
    have ht := hO.thaw
    have HO := hid hO
    have Hl := hid hl
    clear hO hT hl hon
    go_enter Try.func11, Try.ntmps11
    go_wp2_with fail
    refine H.out.mono ?_
    rintro e w' ⟨rfl, rfl⟩
    rw [HR.out]
    go_wp2_with fail
    go_ret2
    rw [show Tb.cls T k = ((T[k].node, 0), T.set k Tb.none4) by simp only [Tb.cls, Hl.out, Int.toNat_natCast]]
    refine ⟨rfl, ?_, ((((Keep.refl _).set _ _).set _ _).set _ _).set _ _⟩
    have h := (((HO.out.set (k * 4) (.int .i64 0)).set (k * 4 + 1) (.int .i64 0)).set (k * 4 + 2) (.int .i64 0)).set (k * 4 + 3) (.bool false)
    rw [Tb.cells_set T k hk ⟨0, 0, 0, false⟩] at h
    exact h
theorem rtabMove (b : Nat) (T : List Tb.Slot) (fd off : Int) (w : World) (L : List HP) (hT : T.length = 16) (hO : Own w (RTab b T :: L)) :
    Calls Try.prog 13 #[.pointer (some ⟨b, 0, none⟩), .int .i64 fd, .int .i64 off] w fun e w' => e = .returned (.int .i64 (Tb.mov T fd off).1) ∧ Own w' (RTab b (Tb.mov T fd off).2 :: L) ∧ Keep w w' := by
  have H := hid (rtabThere b T fd w L hT hO)
  rcases hl : Tb.look T fd with _ | s
  · have HR := hid (show Tb.there T fd = false by simp [Tb.there, hl])
    have HO := hid hO
    have Hl := hid hl
    clear hO hT hl
    go_enter Try.func13, Try.ntmps13
    go_wp2_with fail
    refine H.out.mono ?_
    rintro e w' ⟨rfl, rfl⟩
    rw [HR.out]
    go_wp2_with fail
    go_ret
    rw [show Tb.mov T fd off = (10, T) by simp only [Tb.mov, Hl.out]]
    exact ⟨rfl, HO.out, Keep.refl _⟩
  · have HR := hid (show Tb.there T fd = true by simp [Tb.there, hl])
    obtain ⟨k, hk, rfl, rfl, hon⟩ := Tb.look_in hT hl
    have hk' : k < 16 := by omega
    obtain ⟨c0, c1, c2, c3⟩ := Tb.cells_at T k hk
    have hc := hO.cells
    have ht := hO.thaw
    have HO := hid hO
    have Hl := hid hl
    clear hO hT hl hon
    by_cases hoff : off < 0
    · go_enter Try.func13, Try.ntmps13
      go_wp2_with fail
      refine H.out.mono ?_
      rintro e w' ⟨rfl, rfl⟩
      rw [HR.out]
      go_wp2_with fail
      go_ret
      rw [show Tb.mov T k off = (2, T) by simp only [Tb.mov, Hl.out, hoff, if_true]]
      exact ⟨rfl, HO.out, Keep.refl _⟩
    · go_enter Try.func13, Try.ntmps13
      go_wp2_with fail
      refine H.out.mono ?_
      rintro e w' ⟨rfl, rfl⟩
      rw [HR.out]
      go_wp2_with fail
      go_ret
      rw [show Tb.mov T k off = (0, T.set k { T[k] with off := off }) by simp only [Tb.mov, Hl.out, if_neg (show ¬ off < 0 by omega), Int.toNat_natCast]]
      refine ⟨rfl, ?_, (Keep.refl _).set _ _⟩
      have h := HO.out.set (k * 4 + 1) (.int .i64 off)
      rw [Tb.cells_set1 T k hk off] at h
      exact h
theorem rtabHolds (b : Nat) (T : List Tb.Slot) (n : Int) (w : World) (L : List HP) (hT : T.length = 16) (hO : Own w (RTab b T :: L)) :
    Calls Try.prog 20 #[.pointer (some ⟨b, 0, none⟩), .int .i64 n] w fun e w' => e = .returned (.bool (Tb.holds T n)) ∧ w = w' := by
  have hc := hO.cells
  have HT := hid hT
  clear hO hT
  go_enter Try.func20, Try.ntmps20
  go_wp2
  go_loop [5] (fun i => ∃ k : Nat, k ≤ 16 ∧ i = .int .i64 k ∧ Hid (∀ j (h : j < T.length), j < k → (T[j].on && T[j].node == n) = false)) (fun i => 16 - (intOf i).toNat)
  case atStart => exact ⟨0, by omega, rfl, hid (by omega)⟩
  case round =>
    obtain ⟨k, hk, rfl, HN⟩ := hrel
    by_cases hlt : k < 16
    · have hl : k < T.length := by rw [HT.out]; exact hlt
      obtain ⟨c0, c1, c2, c3⟩ := Tb.cells_at T k hl
      have step : (T[k].on && T[k].node == n) = false → Hid (∀ j (h : j < T.length), j < k + 1 → (T[j].on && T[j].node == n) = false) := fun h0 => hid fun j hj h => by
        by_cases hjk : j = k
        · subst hjk; exact h0
        · exact HN.out j hj (by omega)
      have Step := hid step
      clear step
      rcases hon : T[k].on with _ | _
      · have Hon := hid hon
        go_wp2
        go_round
        case rel => exact ⟨k + 1, by omega, by go_num, Step.out (by simp [Hon.out])⟩
        case measure => simp [intOf]; omega
      · rcases hn : (T[k].node == n) with _ | _
        · have Hn := hid hn
          go_wp2
          go_round
          case rel => exact ⟨k + 1, by omega, by go_num, Step.out (by simp [Hn.out])⟩
          case measure => simp [intOf]; omega
        · have HR := hid (show Tb.holds T n = true by
            unfold Tb.holds
            rw [List.any_eq_true]
            exact ⟨T[k], List.getElem_mem hl, by simp [hon, hn]⟩)
          go_wp2
          go_ret
          exact ⟨by rw [HR.out]; rfl, rfl⟩
    · have HR := hid (show Tb.holds T n = false by
        unfold Tb.holds
        rw [List.any_eq_false]
        intro x hx
        obtain ⟨j, hj, rfl⟩ := List.getElem_of_mem hx
        rw [HN.out j hj (by have := HT.out; omega)]; simp)
      go_wp2
      go_ret
      exact ⟨by rw [HR.out]; rfl, rfl⟩
theorem rtabList (b : Nat) (T : List Tb.Slot) (W : World) (L : List HP) (hT : T.length = 16) (hO : Own W (RTab b T :: L)) :
    Calls Try.prog 18 #[.pointer (some ⟨b, 0, none⟩)] W fun e w' => ∃ v, e = .returned v ∧ Own w' (Ints v (Tb.lst T 16) :: RTab b T :: L) ∧ Keep W w' := by
  have HO := hid hO
  have HT := hid hT
  clear hO hT
  go_enter Try.func18, Try.ntmps18
  go_wp2
  go_loopw [4, 3] (fun i v w => ∃ k : Nat, k ≤ 16 ∧ i = .int .i64 k ∧ Hid (Own w (Ints v (Tb.lst T k) :: RTab b T :: L)) ∧ Hid (Keep W w)) (fun i _ _ => 16 - (intOf i).toNat)
  case atStart => exact ⟨0, by omega, rfl, hid (HO.out.row_nil _ _), hid (Keep.refl _)⟩
  case round =>
    obtain ⟨k, hk, rfl, HOw, HK⟩ := hrel
    by_cases hlt : k < 16
    · have hl : k < T.length := by rw [HT.out]; exact hlt
      obtain ⟨c0, c1, c2, c3⟩ := Tb.cells_at T k hl
      have hc := HOw.out.drop.cells
      have Hll := hid (Tb.lst_len T k (by omega))
      have Hls := hid (Tb.lst_succ T k hl)
      rcases hon : T[k].on with _ | _
      · have Hon := hid hon
        go_wp2_with fail
        go_roundw
        case rel => exact ⟨k + 1, by omega, by go_num, hid (by rw [Hls.out, Hon.out]; simpa using HOw.out), HK⟩
        case measure => simp [intOf]; omega
      · have Hon := hid hon
        go_wp2_with (at_builtin; refine wpList_append1 rfl _ _ _ rfl Try.underlying44 infoInt rfl (.int .i64 k) (HOw.out.alloc' _) rfl 1 _ rfl (by simp) rfl (le_maxLen (by have := Hll.out; omega)) (by have := Hll.out; omega) ?_)
        intro v' w' hO' hK'
        have HO' := hid hO'
        have HK' := hid hK'
        clear hO' hK'
        go_wp2_with fail
        go_roundw
        case rel =>
          refine ⟨k + 1, by omega, by go_num, hid ?_, hid ((HK.out.alloc _).trans HK'.out)⟩
          rw [Hls.out, Hon.out]
          have := HO'.out
          simpa [Ints, ic_snoc] using this
        case measure => simp [intOf]; omega
    · obtain rfl : k = 16 := by omega
      go_wp2_with fail
      go_ret
      exact ⟨_, rfl, HOw.out, HK.out⟩
end Go.Proofs.Ytepdmlmnlpjhbaa
