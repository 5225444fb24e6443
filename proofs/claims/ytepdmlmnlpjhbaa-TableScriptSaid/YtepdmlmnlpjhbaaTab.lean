/- THE WALKS of package table: each call does to the sixteen descriptors what the plain law says. -/
import Derived.Test.YtepdmlmnlpjhbaaRows
import Derived.Test.YtepdmlmnlpjhbaaRow
import Derived.Test.YtepdmlmnlpjhbaaTabm
import Derived.WalkLawsBesides
import Derived.Deep.QuietTactic
import Derived.BigQuiet
namespace Go.Proofs.Ytepdmlmnlpjhbaa
open Go.RowKit Go.Own
def Tab (b : Nat) (T : List Tb.Slot) : HP := pt b (.cells (Tb.cells T) 56)
theorem tabNew (w : World) (L : List HP) (hO : Own w L) :
    Calls Try.prog 7 #[] w fun e w' => ∃ b, e = .returned (.pointer (some ⟨b, 0, none⟩)) ∧ Own w' (Tab b (List.replicate 16 Tb.none4) :: L) ∧ Keep w w' := by
  go_enter Try.func7, Try.ntmps7
  go_wp2
  go_ret
  exact ⟨_, rfl, hO.alloc _, (Keep.refl _).alloc _⟩
theorem tabOpen1 (s : Tb.Slot) (w : World) (L : List HP) (hO : Own w L) :
    Calls Try.prog 24 #[.agg s.enc.toArray] w fun e w' => e = .returned (.bool (!s.on)) ∧ Own w' L ∧ Keep w w' := by
  obtain ⟨n, o, f, b⟩ := s
  simp only [Tb.Slot.enc]
  go_enter Try.func24, Try.ntmps24
  go_wp2
  go_ret
  exact ⟨rfl, hO.alloc' _, (Keep.refl _).alloc _⟩
theorem tabIndexFunc (b : Nat) (T : List Tb.Slot) (p : Tb.Slot → Bool) (f : FuncId) (cap : Array Value) (W : World) (L : List HP) (hT : T.length = 16)
    (hO : Own W (Tab b T :: L))
    (hcf : ∀ args w, (callFunc f args).run Try.prog w = .ok (.enter f args) w)
    (hf : ∀ s ∈ T, ∀ w, Own w (Tab b T :: L) → Calls Try.prog f (#[.agg s.enc.toArray] ++ cap) w fun e w' => e = .returned (.bool (p s)) ∧ Own w' (Tab b T :: L) ∧ Keep w w') :
    Calls Try.prog 23 #[.slice (some ⟨b, 0, none⟩) 16 16, .func (.func f) #[] cap] W fun e w' => e = .returned (.int .i64 (Tb.idx (T.findIdx? p))) ∧ Own w' (Tab b T :: L) ∧ Keep W w' := by
  have Hf := hid hf
  clear hf
  have HO := hid hO
  clear hO
  have HT := hid hT
  clear hT
  go_enter Try.func23, Try.ntmps23
  go_wp2
  go_loopw [8, 5] (fun i _ w => ∃ k : Nat, k ≤ 16 ∧ i = .int .i64 k ∧ Hid (∀ j (h : j < T.length), j < k → p T[j] = false) ∧ Hid (Own w (Tab b T :: L)) ∧ Hid (Keep W w)) (fun i _ _ => 16 - (intOf i).toNat)
  case atStart => exact ⟨0, by omega, rfl, hid (by omega), HO, hid (Keep.refl _)⟩
  case round =>
    obtain ⟨k, hk, rfl, HN, HOw, HK⟩ := hrel
    by_cases hlt : k < 16
    · have hl : k < T.length := by rw [HT.out]; exact hlt
      obtain ⟨c0, c1, c2, c3⟩ := Tb.cells_at T k hl
      have hc := HOw.out.cells
      go_wp2_with fail
      refine (Hf.out T[k] (List.getElem_mem hl) _ HOw.out).mono ?_
      rintro e w' ⟨rfl, hO1, hK1⟩
      have HO1 := hid hO1
      have HK1 := hid (HK.out.trans hK1)
      clear hO1 hK1 hc c0 c1 c2 c3 hcf
      rcases hp : p T[k] with _ | _
      · have Hp := hid hp
        clear hp
        go_wp2_with fail
        go_roundw
        case rel =>
          refine ⟨k + 1, by omega, by go_num, hid fun j hj h => ?_, HO1, HK1⟩
          by_cases hjk : j = k
          · subst hjk; exact Hp.out
          · exact HN.out j hj (by omega)
        case measure => simp [intOf]; omega
      · have Hp := hid hp
        clear hp
        go_wp2_with fail
        go_ret
        exact ⟨by rw [Tb.idx_some hl Hp.out HN.out]; rfl, HO1.out, HK1.out⟩
    · go_wp2_with fail
      go_ret
      exact ⟨by rw [Tb.idx_none (fun j hj => HN.out j hj (by have := HT.out; omega))]; rfl, HOw.out, HK.out⟩
theorem tabCf1 (args : Array Value) (w : World) : (callFunc 24 args).run Try.prog w = .ok (.enter 24 args) w := by
  kernel_rfl
theorem tabCf2 (args : Array Value) (w : World) : (callFunc 27 args).run Try.prog w = .ok (.enter 27 args) w := by
  kernel_rfl
theorem tabOpenNil (n fl : Int) (w : World) : Calls Try.prog 8 #[.pointer none, .int .i64 n, .int .i64 fl] w fun e w' => e = .returned (.tuple #[.int .i64 0, .int .i64 1]) ∧ w = w' := by
  go_enter Try.func8, Try.ntmps8
  go_wp2
  go_ret2
  exact ⟨rfl, rfl⟩
theorem tabOpen (b : Nat) (T : List Tb.Slot) (n fl : Int) (w : World) (L : List HP) (hT : T.length = 16) (hO : Own w (Tab b T :: L)) :
    Calls Try.prog 8 #[.pointer (some ⟨b, 0, none⟩), .int .i64 n, .int .i64 fl] w fun e w' => e = .returned (.tuple #[.int .i64 (Tb.opn T n fl).1.1, .int .i64 (Tb.opn T n fl).1.2]) ∧ Own w' (Tab b (Tb.opn T n fl).2 :: L) ∧ Keep w w' := by
  have H := hid (tabIndexFunc b T (fun s => !s.on) 24 #[] w L hT hO tabCf1 (fun s _ w' hO' => tabOpen1 s w' _ hO'))
  have HT := hid hT
  clear hO hT
  rcases hf : T.findIdx? (fun s => !s.on) with _ | k
  · have HF := hid hf
    clear hf
    go_enter Try.func8, Try.ntmps8
    go_wp2_with fail
    refine H.out.mono ?_
    rintro e w' ⟨rfl, hO1, hK1⟩
    rw [HF.out]
    have HO1 := hid hO1
    have HK1 := hid hK1
    clear hO1 hK1
    simp only [Tb.idx]
    go_wp2_with fail
    go_ret2
    rw [show Tb.opn T n fl = ((0, 14), T) by simp only [Tb.opn, HF.out]]
    exact ⟨rfl, HO1.out, HK1.out⟩
  · have hk : k < 16 := by rw [List.findIdx?_eq_some_iff_getElem] at hf; obtain ⟨h, _⟩ := hf; have := HT.out; omega
    have hl : k < T.length := by have := HT.out; omega
    have HF := hid hf
    clear hf
    go_enter Try.func8, Try.ntmps8
    go_wp2_with fail
    refine H.out.mono ?_
    rintro e w' ⟨rfl, hO1, hK1⟩
    rw [HF.out]
    have HO1 := hid hO1
    have HK1 := hid hK1
    simp only [Tb.idx]
    obtain ⟨c0, c1, c2, c3⟩ := Tb.cells_at T k hl
    have hc := hO1.cells
    have ht := hO1.thaw
    clear hO1 hK1
    go_wp2_with fail
    go_ret2
    rw [show Tb.opn T n fl = (((k : Int), 0), T.set k ⟨n, 0, fl, true⟩) by simp only [Tb.opn, HF.out]]
    refine ⟨rfl, ?_, (((HK1.out.set _ _).set _ _).set _ _).set _ _⟩
    have h := (((HO1.out.set (k * 4) (.int .i64 n)).set (k * 4 + 1) (.int .i64 0)).set (k * 4 + 2) (.int .i64 fl)).set (k * 4 + 3) (.bool true)
    rw [Tb.cells_set T k hl ⟨n, 0, fl, true⟩] at h
    exact h
/-! ### 'at' -/
theorem tabAtNil (fd : Int) (w : World) :
    Calls Try.prog 25 #[.pointer none, .int .i64 fd] w fun e w' => e = .returned (.tuple #[.pointer none, .int .i64 1]) ∧ w = w' := by
  go_enter Try.func25, Try.ntmps25
  go_wp2
  go_ret2
  exact ⟨rfl, rfl⟩
theorem tabAtOut (fd : Int) (b : Nat) (w : World) (T : List Tb.Slot) (L : List HP) (hT : T.length = 16) (hO : Own w (Tab b T :: L)) (h : Tb.look T fd = none) :
    Calls Try.prog 25 #[.pointer (some ⟨b, 0, none⟩), .int .i64 fd] w fun e w' => e = .returned (.tuple #[.pointer none, .int .i64 10]) ∧ w = w' := by
  rcases Tb.look_out hT h with (h | h) | ⟨k, hk, rfl, hon⟩
  · go_enter Try.func25, Try.ntmps25
    go_wp2
    go_ret2
    exact ⟨rfl, rfl⟩
  · have h' : ¬ fd < 0 := by omega
    go_enter Try.func25, Try.ntmps25
    go_wp2
    go_ret2
    exact ⟨rfl, rfl⟩
  · have hc : w.cell? ⟨b, k * 4 + 3, none⟩ = some (.bool false) := by rw [hO.cells, (Tb.cells_at T k hk).2.2.2, hon]
    have hk' : k < 16 := by omega
    clear hO hT h hon hk
    go_enter Try.func25, Try.ntmps25
    go_wp2
    go_ret2
    exact ⟨rfl, rfl⟩
theorem tabAtIn (k : Nat) (b : Nat) (w : World) (T : List Tb.Slot) (L : List HP) (hT : T.length = 16) (hO : Own w (Tab b T :: L)) (hk : k < T.length) (hon : T[k].on = true) :
    Calls Try.prog 25 #[.pointer (some ⟨b, 0, none⟩), .int .i64 (k : Int)] w fun e w' => e = .returned (.tuple #[.pointer (some ⟨b, k * 4, none⟩), .int .i64 0]) ∧ w = w' := by
  have hc : w.cell? ⟨b, k * 4 + 3, none⟩ = some (.bool true) := by rw [hO.cells, (Tb.cells_at T k hk).2.2.2, hon]
  have hk' : k < 16 := by omega
  clear hO hT hon hk
  go_enter Try.func25, Try.ntmps25
  go_wp2
  go_ret2
  exact ⟨rfl, rfl⟩
theorem tabCloseNil (fd : Int) (w : World) : Calls Try.prog 10 #[.pointer none, .int .i64 fd] w fun e w' => e = .returned (.tuple #[.int .i64 0, .int .i64 1]) ∧ w = w' := by
  go_enter Try.func10, Try.ntmps10
  go_wp2_with fail
  refine (tabAtNil fd w).mono ?_
  rintro e w' ⟨rfl, rfl⟩
  go_wp2_with fail
  go_ret2
  exact ⟨rfl, rfl⟩
theorem tabClose (b : Nat) (T : List Tb.Slot) (fd : Int) (w : World) (L : List HP) (hT : T.length = 16) (hO : Own w (Tab b T :: L)) :
    Calls Try.prog 10 #[.pointer (some ⟨b, 0, none⟩), .int .i64 fd] w fun e w' => e = .returned (.tuple #[.int .i64 (Tb.cls T fd).1.1, .int .i64 (Tb.cls T fd).1.2]) ∧ Own w' (Tab b (Tb.cls T fd).2 :: L) ∧ Keep w w' := by
  rcases hl : Tb.look T fd with _ | s
  · have H := hid (tabAtOut fd b w T L hT hO hl)
    have HO := hid hO
    have Hl := hid hl
    clear hO hT hl
    go_enter Try.func10, Try.ntmps10
    go_wp2_with fail
    refine H.out.mono ?_
    rintro e w' ⟨rfl, rfl⟩
    go_wp2_with fail
    go_ret2
    rw [show Tb.cls T fd = ((0, 10), T) by simp only [Tb.cls, Hl.out]]
    exact ⟨rfl, HO.out, Keep.refl _⟩
  · obtain ⟨k, hk, rfl, rfl, hon⟩ := Tb.look_in hT hl
    have H := hid (tabAtIn k b w T L hT hO hk hon)
    obtain ⟨c0, c1, c2, c3⟩ := Tb.cells_at T k hk
    have hc := hO.cells
    have ht := hO.thaw
    have HO := hid hO
    have Hl := hid hl
    clear hO hT hl hon
    go_enter Try.func10, Try.ntmps10
    go_wp2_with fail
    refine H.out.mono ?_
    rintro e w' ⟨rfl, rfl⟩
    go_wp2_with fail
    go_ret2
    rw [show Tb.cls T k = ((T[k].node, 0), T.set k Tb.none4) by simp only [Tb.cls, Hl.out, Int.toNat_natCast]]
    refine ⟨rfl, ?_, ((((Keep.refl _).set _ _).set _ _).set _ _).set _ _⟩
    have h := (((HO.out.set (k * 4) (.int .i64 0)).set (k * 4 + 1) (.int .i64 0)).set (k * 4 + 2) (.int .i64 0)).set (k * 4 + 3) (.bool false)
    rw [Tb.cells_set T k hk ⟨0, 0, 0, false⟩] at h
    exact h
theorem tabMoveNil (fd off : Int) (w : World) : Calls Try.prog 12 #[.pointer none, .int .i64 fd, .int .i64 off] w fun e w' => e = .returned (.int .i64 1) ∧ w = w' := by
  go_enter Try.func12, Try.ntmps12
  go_wp2_with fail
  refine (tabAtNil fd w).mono ?_
  rintro e w' ⟨rfl, rfl⟩
  go_wp2_with fail
  go_ret
  exact ⟨rfl, rfl⟩
theorem tabMove (b : Nat) (T : List Tb.Slot) (fd off : Int) (w : World) (L : List HP) (hT : T.length = 16) (hO : Own w (Tab b T :: L)) :
    Calls Try.prog 12 #[.pointer (some ⟨b, 0, none⟩), .int .i64 fd, .int .i64 off] w fun e w' => e = .returned (.int .i64 (Tb.mov T fd off).1) ∧ Own w' (Tab b (Tb.mov T fd off).2 :: L) ∧ Keep w w' := by
  rcases hl : Tb.look T fd with _ | s
  · have H := hid (tabAtOut fd b w T L hT hO hl)
    have HO := hid hO
    have Hl := hid hl
    clear hO hT hl
    go_enter Try.func12, Try.ntmps12
    go_wp2_with fail
    refine H.out.mono ?_
    rintro e w' ⟨rfl, rfl⟩
    go_wp2_with fail
    go_ret
    rw [show Tb.mov T fd off = (10, T) by simp only [Tb.mov, Hl.out]]
    exact ⟨rfl, HO.out, Keep.refl _⟩
  · obtain ⟨k, hk, rfl, rfl, hon⟩ := Tb.look_in hT hl
    have H := hid (tabAtIn k b w T L hT hO hk hon)
    obtain ⟨c0, c1, c2, c3⟩ := Tb.cells_at T k hk
    have hc := hO.cells
    have ht := hO.thaw
    have HO := hid hO
    have Hl := hid hl
    clear hO hT hl hon
    by_cases hoff : off < 0
    · go_enter Try.func12, Try.ntmps12
      go_wp2_with fail
      refine H.out.mono ?_
      rintro e w' ⟨rfl, rfl⟩
      go_wp2_with fail
      go_ret
      rw [show Tb.mov T k off = (2, T) by simp only [Tb.mov, Hl.out, hoff, if_true]]
      exact ⟨rfl, HO.out, Keep.refl _⟩
    · go_enter Try.func12, Try.ntmps12
      go_wp2_with fail
      refine H.out.mono ?_
      rintro e w' ⟨rfl, rfl⟩
      go_wp2_with fail
      go_ret
      rw [show Tb.mov T k off = (0, T.set k { T[k] with off := off }) by simp only [Tb.mov, Hl.out, if_neg (show ¬ off < 0 by omega), Int.toNat_natCast]]
      refine ⟨rfl, ?_, (Keep.refl _).set _ _⟩
      have h := HO.out.set (k * 4 + 1) (.int .i64 off)
      rw [Tb.cells_set1 T k hk off] at h
      exact h
theorem tabGetNil (fd : Int) (w : World) (L : List HP) (hO : Own w L) : Calls Try.prog 14 #[.pointer none, .int .i64 fd] w fun e w' => e = .returned (.tuple #[.agg #[.int .i64 0, .int .i64 0, .int .i64 0], .int .i64 1]) ∧ Own w' L ∧ Keep w w' := by
  have HO := hid hO
  clear hO
  go_enter Try.func14, Try.ntmps14
  go_wp2_with fail
  refine (tabAtNil fd _).mono ?_
  rintro e w' ⟨rfl, rfl⟩
  go_wp2_with fail
  exact bodyPost_ret (v := .tuple #[.agg #[.int .i64 0, .int .i64 0, .int .i64 0], .int .i64 1]) (by simp [results, Try.results14, go_sem]) rfl ⟨rfl, (HO.out.alloc' _), ((Keep.refl _).alloc _)⟩
theorem tabGet (b : Nat) (T : List Tb.Slot) (fd : Int) (w : World) (L : List HP) (hT : T.length = 16) (hO : Own w (Tab b T :: L)) :
    Calls Try.prog 14 #[.pointer (some ⟨b, 0, none⟩), .int .i64 fd] w fun e w' =>
      e = .returned (.tuple #[.agg #[.int .i64 (Tb.get T fd).1.node, .int .i64 (Tb.get T fd).1.off, .int .i64 (Tb.get T fd).1.flags], .int .i64 (Tb.get T fd).2]) ∧ Own w' (Tab b T :: L) ∧ Keep w w' := by
  rcases hl : Tb.look T fd with _ | s
  · have HT := hid hT
    have Hl := hid hl
    have HO := hid hO
    clear hO hT hl
    go_enter Try.func14, Try.ntmps14
    go_wp2_with fail
    refine (tabAtOut fd b _ T L HT.out (HO.out.alloc' _) Hl.out).mono ?_
    rintro e w' ⟨rfl, rfl⟩
    go_wp2_with fail
    rw [show Tb.get T fd = (Tb.none4, 10) by simp only [Tb.get, Hl.out]]
    exact bodyPost_ret (v := .tuple #[.agg #[.int .i64 0, .int .i64 0, .int .i64 0], .int .i64 10]) (by simp [results, Try.results14, go_sem]) rfl ⟨rfl, (HO.out.alloc' _), ((Keep.refl _).alloc _)⟩
  · obtain ⟨k, hk, rfl, rfl, hon⟩ := Tb.look_in hT hl
    have HT := hid hT
    have Hon := hid hon
    obtain ⟨c0, c1, c2, c3⟩ := Tb.cells_at T k hk
    have hc := hO.cells
    have hb := hO.lt
    have HO := hid hO
    have Hl := hid hl
    clear hO hT hl hon
    go_enter Try.func14, Try.ntmps14
    go_wp2_with fail
    refine (tabAtIn k b _ T L HT.out (HO.out.alloc' _) hk Hon.out).mono ?_
    rintro e w' ⟨rfl, rfl⟩
    go_wp2_with fail
    rw [show Tb.get T k = (T[k], 0) by simp only [Tb.get, Hl.out]]
    exact bodyPost_ret (v := .tuple #[.agg #[.int .i64 T[k].node, .int .i64 T[k].off, .int .i64 T[k].flags], .int .i64 0]) (by simp [results, Try.results14, go_sem]) rfl ⟨rfl, (HO.out.alloc' _), ((Keep.refl _).alloc _)⟩
end Go.Proofs.Ytepdmlmnlpjhbaa
