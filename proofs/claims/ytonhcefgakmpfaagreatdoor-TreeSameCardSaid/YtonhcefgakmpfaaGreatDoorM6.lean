/- TEXTS of mine, merged. -/
import Derived.Test.YtonhcefgakmpfaaGreatDoorRows
import Derived.Test.YtonhcefgakmpfaaGreatDoorM1
import Derived.Test.YtonhcefgakmpfaaGreatDoorM5
import Derived.WalkLawsBesides
import Derived.Deep.QuietTactic
import Derived.BigQuiet
import Derived.Test.YtonhcefgakmpfaaGreatDoorM2
import Derived.Lib.AppendStr
import Derived.WalkMore
import Derived.Laws.BytesArg
/- THE WALKS of package table: each call does to the sixteen descriptors what the plain law says. -/
namespace Go.Proofs.YtonhcefgakmpfaaGreatDoor
open Go.RowKit Go.Own
def Tab (b : Nat) (T : List Tb.Slot) : HP := pt b (.cells (Tb.cells T) 103)
theorem tabNew (w : World) (L : List HP) (hO : Has w L) :
    Calls Tryz.prog 48 #[] w fun e w' => ∃ b, e = .returned (.pointer (some ⟨b, 0, none⟩)) ∧ Has w' (Tab b (List.replicate 16 Tb.none4) :: L) ∧ Keep w w' := by
  go_enter Tryz.func48, Tryz.ntmps48
  go_wp2
  go_ret
  exact ⟨_, rfl, hO.alloc _, (Keep.refl _).alloc _⟩
theorem tabOpen1 (s : Tb.Slot) (w : World) (L : List HP) (hO : Has w L) :
    Calls Tryz.prog 181 #[.agg s.enc.toArray] w fun e w' => e = .returned (.bool (!s.on)) ∧ Has w' L ∧ Keep w w' := by
  obtain ⟨n, o, f, b⟩ := s
  simp only [Tb.Slot.enc]
  go_enter Tryz.func181, Tryz.ntmps181
  go_wp2
  go_ret
  exact ⟨rfl, hO.alloc' _, (Keep.refl _).alloc _⟩
theorem tabIndexFunc (b : Nat) (T : List Tb.Slot) (p : Tb.Slot → Bool) (f : FuncId) (cap : Array Value) (W : World) (L : List HP) (hT : T.length = 16)
    (hO : Has W (Tab b T :: L))
    (hcf : ∀ args w, (callFunc f args).run Tryz.prog w = .ok (.enter f args) w)
    (hf : ∀ s ∈ T, ∀ w, Has w (Tab b T :: L) → Calls Tryz.prog f (#[.agg s.enc.toArray] ++ cap) w fun e w' => e = .returned (.bool (p s)) ∧ Has w' (Tab b T :: L) ∧ Keep w w') :
    Calls Tryz.prog 180 #[.slice (some ⟨b, 0, none⟩) 16 16, .func (.func f) #[] cap] W fun e w' => e = .returned (.int .i64 (Tb.idx (T.findIdx? p))) ∧ Has w' (Tab b T :: L) ∧ Keep W w' := by
  have Hf := hid hf
  clear hf
  have HO := hid hO
  clear hO
  have HT := hid hT
  clear hT
  go_enter Tryz.func180, Tryz.ntmps180
  go_wp2
  go_loopw [8, 5] (fun i _ w => ∃ k : Nat, k ≤ 16 ∧ i = .int .i64 k ∧ Hid (∀ j (h : j < T.length), j < k → p T[j] = false) ∧ Hid (Has w (Tab b T :: L)) ∧ Hid (Keep W w)) (fun i _ _ => 16 - (intOf i).toNat)
  case atStart => exact ⟨0, by omega, rfl, hid (by omega), HO, hid (Keep.refl _)⟩
  case round =>
    obtain ⟨k, hk, rfl, HN, HOw, HK⟩ := hrel
    by_cases hlt : k < 16
    · have hl : k < T.length := by rw [HT.out]; exact hlt
      obtain ⟨c0, c1, c2, c3⟩ := Tb.cells_at T k hl
      have hc := HOw.out.cells
      go_wp2_with fail
      refine (Hf.out T[k] (List.getElem_mem hl) _ HOw.out).mono ?_
      rintro e w' ⟨rfl, hO1, hK1⟩
      have HO1 := hid hO1
      have HK1 := hid (HK.out.trans hK1)
      clear hO1 hK1 hc c0 c1 c2 c3 hcf
      rcases hp : p T[k] with _ | _
      · have Hp := hid hp
        clear hp
        go_wp2_with fail
        go_roundw
        case rel =>
          refine ⟨k + 1, by omega, by go_num, hid fun j hj h => ?_, HO1, HK1⟩
          by_cases hjk : j = k
          · subst hjk; exact Hp.out
          · exact HN.out j hj (by omega)
        case measure => simp [intOf]; omega
      · have Hp := hid hp
        clear hp
        go_wp2_with fail
        go_ret
        exact ⟨by rw [Tb.idx_some hl Hp.out HN.out]; rfl, HO1.out, HK1.out⟩
    · go_wp2_with fail
      go_ret
      exact ⟨by rw [Tb.idx_none (fun j hj => HN.out j hj (by have := HT.out; omega))]; rfl, HOw.out, HK.out⟩
theorem tabCf1 (args : Array Value) (w : World) : (callFunc 181 args).run Tryz.prog w = .ok (.enter 181 args) w := by
  kernel_rfl
theorem tabCf2 (args : Array Value) (w : World) : (callFunc 232 args).run Tryz.prog w = .ok (.enter 232 args) w := by
  kernel_rfl
theorem tabOpen (b : Nat) (T : List Tb.Slot) (n fl : Int) (w : World) (L : List HP) (hT : T.length = 16) (hO : Has w (Tab b T :: L)) :
    Calls Tryz.prog 119 #[.pointer (some ⟨b, 0, none⟩), .int .i64 n, .int .i64 fl] w fun e w' => e = .returned (.tuple #[.int .i64 (Tb.opn T n fl).1.1, .int .i64 (Tb.opn T n fl).1.2]) ∧ Has w' (Tab b (Tb.opn T n fl).2 :: L) ∧ Keep w w' := by
  have H := hid (tabIndexFunc b T (fun s => !s.on) 181 #[] w L hT hO tabCf1 (fun s _ w' hO' => tabOpen1 s w' _ hO'))
  have HT := hid hT
  clear hO hT
  rcases hf : T.findIdx? (fun s => !s.on) with _ | k
  · have HF := hid hf
    clear hf
    go_enter Tryz.func119, Tryz.ntmps119
    go_wp2_with fail
    refine H.out.mono ?_
    rintro e w' ⟨rfl, hO1, hK1⟩
    rw [HF.out]
    have HO1 := hid hO1
    have HK1 := hid hK1
    clear hO1 hK1
    simp only [Tb.idx]
    go_wp2_with fail
    go_ret2
    rw [show Tb.opn T n fl = ((0, 14), T) by simp only [Tb.opn, HF.out]]
    exact ⟨rfl, HO1.out, HK1.out⟩
  · have hk : k < 16 := by rw [List.findIdx?_eq_some_iff_getElem] at hf; obtain ⟨h, _⟩ := hf; have := HT.out; omega
    have hl : k < T.length := by have := HT.out; omega
    have HF := hid hf
    clear hf
    go_enter Tryz.func119, Tryz.ntmps119
    go_wp2_with fail
    refine H.out.mono ?_
    rintro e w' ⟨rfl, hO1, hK1⟩
    rw [HF.out]
    have HO1 := hid hO1
    have HK1 := hid hK1
    simp only [Tb.idx]
    obtain ⟨c0, c1, c2, c3⟩ := Tb.cells_at T k hl
    have hc := hO1.cells
    have ht := hO1.thaw
    clear hO1 hK1
    go_wp2_with fail
    go_ret2
    rw [show Tb.opn T n fl = (((k : Int), 0), T.set k ⟨n, 0, fl, true⟩) by simp only [Tb.opn, HF.out]]
    refine ⟨rfl, ?_, (((HK1.out.set _ _).set _ _).set _ _).set _ _⟩
    have h := (((HO1.out.set (k * 4) (.int .i64 n)).set (k * 4 + 1) (.int .i64 0)).set (k * 4 + 2) (.int .i64 fl)).set (k * 4 + 3) (.bool true)
    rw [Tb.cells_set T k hl ⟨n, 0, fl, true⟩] at h
    exact h
/-! ### 'at' -/
theorem tabAtOut (fd : Int) (b : Nat) (w : World) (T : List Tb.Slot) (L : List HP) (hT : T.length = 16) (hO : Has w (Tab b T :: L)) (h : Tb.look T fd = none) :
    Calls Tryz.prog 182 #[.pointer (some ⟨b, 0, none⟩), .int .i64 fd] w fun e w' => e = .returned (.tuple #[.pointer none, .int .i64 10]) ∧ w = w' := by
  rcases Tb.look_out hT h with (h | h) | ⟨k, hk, rfl, hon⟩
  · go_enter Tryz.func182, Tryz.ntmps182
    go_wp2
    go_ret2
    exact ⟨rfl, rfl⟩
  · have h' : ¬ fd < 0 := by omega
    go_enter Tryz.func182, Tryz.ntmps182
    go_wp2
    go_ret2
    exact ⟨rfl, rfl⟩
  · have hc : w.cell? ⟨b, k * 4 + 3, none⟩ = some (.bool false) := by rw [hO.cells, (Tb.cells_at T k hk).2.2.2, hon]
    have hk' : k < 16 := by omega
    clear hO hT h hon hk
    go_enter Tryz.func182, Tryz.ntmps182
    go_wp2
    go_ret2
    exact ⟨rfl, rfl⟩
theorem tabAtIn (k : Nat) (b : Nat) (w : World) (T : List Tb.Slot) (L : List HP) (hT : T.length = 16) (hO : Has w (Tab b T :: L)) (hk : k < T.length) (hon : T[k].on = true) :
    Calls Tryz.prog 182 #[.pointer (some ⟨b, 0, none⟩), .int .i64 (k : Int)] w fun e w' => e = .returned (.tuple #[.pointer (some ⟨b, k * 4, none⟩), .int .i64 0]) ∧ w = w' := by
  have hc : w.cell? ⟨b, k * 4 + 3, none⟩ = some (.bool true) := by rw [hO.cells, (Tb.cells_at T k hk).2.2.2, hon]
  have hk' : k < 16 := by omega
  clear hO hT hon hk
  go_enter Tryz.func182, Tryz.ntmps182
  go_wp2
  go_ret2
  exact ⟨rfl, rfl⟩
theorem tabClose (b : Nat) (T : List Tb.Slot) (fd : Int) (w : World) (L : List HP) (hT : T.length = 16) (hO : Has w (Tab b T :: L)) :
    Calls Tryz.prog 120 #[.pointer (some ⟨b, 0, none⟩), .int .i64 fd] w fun e w' => e = .returned (.tuple #[.int .i64 (Tb.cls T fd).1.1, .int .i64 (Tb.cls T fd).1.2]) ∧ Has w' (Tab b (Tb.cls T fd).2 :: L) ∧ Keep w w' := by
  rcases hl : Tb.look T fd with _ | s
  · have H := hid (tabAtOut fd b w T L hT hO hl)
    have HO := hid hO
    have Hl := hid hl
    clear hO hT hl
    go_enter Tryz.func120, Tryz.ntmps120
    go_wp2_with fail
    refine H.out.mono ?_
    rintro e w' ⟨rfl, rfl⟩
    go_wp2_with fail
    go_ret2
    rw [show Tb.cls T fd = ((0, 10), T) by simp only [Tb.cls, Hl.out]]
    exact ⟨rfl, HO.out, Keep.refl _⟩
  · obtain ⟨k, hk, rfl, rfl, hon⟩ := Tb.look_in hT hl
    have H := hid (tabAtIn k b w T L hT hO hk hon)
    obtain ⟨c0, c1, c2, c3⟩ := Tb.cells_at T k hk
    have hc := hO.cells
    have ht := hO.thaw
    have HO := hid hO
    have Hl := hid hl
    clear hO hT hl hon
    go_enter Tryz.func120, Tryz.ntmps120
    go_wp2_with fail
    refine H.out.mono ?_
    rintro e w' ⟨rfl, rfl⟩
    go_wp2_with fail
    go_ret2
    rw [show Tb.cls T k = ((T[k].node, 0), T.set k Tb.none4) by simp only [Tb.cls, Hl.out, Int.toNat_natCast]]
    refine ⟨rfl, ?_, ((((Keep.refl _).set _ _).set _ _).set _ _).set _ _⟩
    have h := (((HO.out.set (k * 4) (.int .i64 0)).set (k * 4 + 1) (.int .i64 0)).set (k * 4 + 2) (.int .i64 0)).set (k * 4 + 3) (.bool false)
    rw [Tb.cells_set T k hk ⟨0, 0, 0, false⟩] at h
    exact h
theorem tabMove (b : Nat) (T : List Tb.Slot) (fd off : Int) (w : World) (L : List HP) (hT : T.length = 16) (hO : Has w (Tab b T :: L)) :
    Calls Tryz.prog 123 #[.pointer (some ⟨b, 0, none⟩), .int .i64 fd, .int .i64 off] w fun e w' => e = .returned (.int .i64 (Tb.mov T fd off).1) ∧ Has w' (Tab b (Tb.mov T fd off).2 :: L) ∧ Keep w w' := by
  rcases hl : Tb.look T fd with _ | s
  · have H := hid (tabAtOut fd b w T L hT hO hl)
    have HO := hid hO
    have Hl := hid hl
    clear hO hT hl
    go_enter Tryz.func123, Tryz.ntmps123
    go_wp2_with fail
    refine H.out.mono ?_
    rintro e w' ⟨rfl, rfl⟩
    go_wp2_with fail
    go_ret
    rw [show Tb.mov T fd off = (10, T) by simp only [Tb.mov, Hl.out]]
    exact ⟨rfl, HO.out, Keep.refl _⟩
  · obtain ⟨k, hk, rfl, rfl, hon⟩ := Tb.look_in hT hl
    have H := hid (tabAtIn k b w T L hT hO hk hon)
    obtain ⟨c0, c1, c2, c3⟩ := Tb.cells_at T k hk
    have hc := hO.cells
    have ht := hO.thaw
    have HO := hid hO
    have Hl := hid hl
    clear hO hT hl hon
    by_cases hoff : off < 0
    · go_enter Tryz.func123, Tryz.ntmps123
      go_wp2_with fail
      refine H.out.mono ?_
      rintro e w' ⟨rfl, rfl⟩
      go_wp2_with fail
      go_ret
      rw [show Tb.mov T k off = (2, T) by simp only [Tb.mov, Hl.out, hoff, if_true]]
      exact ⟨rfl, HO.out, Keep.refl _⟩
    · go_enter Tryz.func123, Tryz.ntmps123
      go_wp2_with fail
      refine H.out.mono ?_
      rintro e w' ⟨rfl, rfl⟩
      go_wp2_with fail
      go_ret
      rw [show Tb.mov T k off = (0, T.set k { T[k] with off := off }) by simp only [Tb.mov, Hl.out, if_neg (show ¬ off < 0 by omega), Int.toNat_natCast]]
      refine ⟨rfl, ?_, (Keep.refl _).set _ _⟩
      have h := HO.out.set (k * 4 + 1) (.int .i64 off)
      rw [Tb.cells_set1 T k hk off] at h
      exact h
theorem tabGet (b : Nat) (T : List Tb.Slot) (fd : Int) (w : World) (L : List HP) (hT : T.length = 16) (hO : Has w (Tab b T :: L)) :
    Calls Tryz.prog 133 #[.pointer (some ⟨b, 0, none⟩), .int .i64 fd] w fun e w' =>
      e = .returned (.tuple #[.agg #[.int .i64 (Tb.get T fd).1.node, .int .i64 (Tb.get T fd).1.off, .int .i64 (Tb.get T fd).1.flags], .int .i64 (Tb.get T fd).2]) ∧ Has w' (Tab b T :: L) ∧ Keep w w' := by
  rcases hl : Tb.look T fd with _ | s
  · have HT := hid hT
    have Hl := hid hl
    have HO := hid hO
    clear hO hT hl
    go_enter Tryz.func133, Tryz.ntmps133
    go_wp2_with fail
    refine (tabAtOut fd b _ T L HT.out (HO.out.alloc' _) Hl.out).mono ?_
    rintro e w' ⟨rfl, rfl⟩
    go_wp2_with fail
    rw [show Tb.get T fd = (Tb.none4, 10) by simp only [Tb.get, Hl.out]]
    exact bodyPost_ret (v := .tuple #[.agg #[.int .i64 0, .int .i64 0, .int .i64 0], .int .i64 10]) (by simp [results, Tryz.results133, go_sem]) rfl ⟨rfl, (HO.out.alloc' _), ((Keep.refl _).alloc _)⟩
  · obtain ⟨k, hk, rfl, rfl, hon⟩ := Tb.look_in hT hl
    have HT := hid hT
    have Hon := hid hon
    obtain ⟨c0, c1, c2, c3⟩ := Tb.cells_at T k hk
    have hc := hO.cells
    have hb := hO.lt
    have HO := hid hO
    have Hl := hid hl
    clear hO hT hl hon
    go_enter Tryz.func133, Tryz.ntmps133
    go_wp2_with fail
    refine (tabAtIn k b _ T L HT.out (HO.out.alloc' _) hk Hon.out).mono ?_
    rintro e w' ⟨rfl, rfl⟩
    go_wp2_with fail
    rw [show Tb.get T k = (T[k], 0) by simp only [Tb.get, Hl.out]]
    exact bodyPost_ret (v := .tuple #[.agg #[.int .i64 T[k].node, .int .i64 T[k].off, .int .i64 T[k].flags], .int .i64 0]) (by simp [results, Tryz.results133, go_sem]) rfl ⟨rfl, (HO.out.alloc' _), ((Keep.refl _).alloc _)⟩
end Go.Proofs.YtonhcefgakmpfaaGreatDoor
/- THE WALKS of package table, the rest; and of what the statements share on lists of numbers. -/
namespace Go.Proofs.YtonhcefgakmpfaaGreatDoor
open Go.RowKit Go.Own
theorem tabHolds1 (s : Tb.Slot) (n : Int) (b : Nat) (w : World) (L : List HP) (hO : Has w (pt b (.cells #[.int .i64 n] 3) :: L)) :
    Calls Tryz.prog 232 #[.agg s.enc.toArray, .pointer (some ⟨b, 0, none⟩)] w fun e w' => e = .returned (.bool (s.on && s.node == n)) ∧ Has w' (pt b (.cells #[.int .i64 n] 3) :: L) ∧ Keep w w' := by
  obtain ⟨nd, o, f, on⟩ := s
  have hc := hO.cells 0
  simp at hc
  have hb := hO.lt
  have HO := hid hO
  clear hO
  simp only [Tb.Slot.enc]
  cases on
  · go_enter Tryz.func232, Tryz.ntmps232
    go_wp2
    go_ret
    exact ⟨rfl, HO.out.alloc' _, (Keep.refl _).alloc _⟩
  · go_enter Tryz.func232, Tryz.ntmps232
    go_wp2
    go_ret
    exact ⟨by simp, HO.out.alloc' _, (Keep.refl _).alloc _⟩
theorem tabContains (b : Nat) (T : List Tb.Slot) (p : Tb.Slot → Bool) (f : FuncId) (cap : Array Value) (w : World) (L : List HP) (hT : T.length = 16)
    (hO : Has w (Tab b T :: L))
    (hcf : ∀ args w, (callFunc f args).run Tryz.prog w = .ok (.enter f args) w)
    (hf : ∀ s ∈ T, ∀ w, Has w (Tab b T :: L) → Calls Tryz.prog f (#[.agg s.enc.toArray] ++ cap) w fun e w' => e = .returned (.bool (p s)) ∧ Has w' (Tab b T :: L) ∧ Keep w w') :
    Calls Tryz.prog 231 #[.slice (some ⟨b, 0, none⟩) 16 16, .func (.func f) #[] cap] w fun e w' => e = .returned (.bool (T.any p)) ∧ Has w' (Tab b T :: L) ∧ Keep w w' := by
  have H := hid (tabIndexFunc b T p f cap w L hT hO hcf hf)
  have HP := hid (Tb.idx_ge T p)
  clear hO hcf hf hT
  go_enter Tryz.func231, Tryz.ntmps231
  go_wp2_with fail
  refine H.out.mono ?_
  rintro e w' ⟨rfl, hO1, hK1⟩
  have HO1 := hid hO1
  have HK1 := hid hK1
  clear hO1 hK1
  go_wp2_with fail
  go_ret
  refine ⟨?_, HO1.out, HK1.out⟩
  have := HP.out
  simp only [Array.getD_eq_getD_getElem?]
  simp
  rw [Bool.eq_iff_iff, ← this]; simp
theorem tabHolds (b : Nat) (T : List Tb.Slot) (n : Int) (w : World) (L : List HP) (hT : T.length = 16) (hO : Has w (Tab b T :: L)) :
    Calls Tryz.prog 183 #[.pointer (some ⟨b, 0, none⟩), .int .i64 n] w fun e w' => e = .returned (.bool (Tb.holds T n)) ∧ Has w' (Tab b T :: L) ∧ Keep w w' := by
  have HO := hid hO
  have HT := hid hT
  clear hO hT
  go_enter Tryz.func183, Tryz.ntmps183
  go_wp2_with fail
  refine (tabContains b T (fun s => s.on && s.node == n) 232 #[.pointer (some ⟨w.heap.size, 0, none⟩)] _ (pt w.heap.size (.cells #[.int .i64 n] 3) :: L) HT.out (HO.out.alloc _).swap tabCf2 (fun s _ w' hO' => (tabHolds1 s n _ w' _ hO'.swap).mono fun e w2 ⟨h1, h2, h3⟩ => ⟨h1, h2.swap, h3⟩)).mono ?_
  rintro e w' ⟨rfl, hO1, hK1⟩
  have HO1 := hid hO1
  have HK1 := hid hK1
  clear hO1 hK1
  go_wp2_with fail
  go_ret
  exact ⟨rfl, HO1.out.swap.drop, ((Keep.refl _).alloc _).trans HK1.out⟩
theorem tabPart (cs : Array Value) (k : Nat) (w : World) : (part 100 cs k).run Tryz.prog w = .ok (.agg (cs.extract k (k + 4))) w := by kernel_rfl
theorem tabIndex (T : List Tb.Slot) (k : Nat) (hT : T.length = 16) (hk : k < T.length) (w : World) : (Instr.index 101 (.agg (Tb.cells T)) (.int .i64 (k : Int))).run Tryz.prog w = .ok (.agg #[.int .i64 T[k].node, .int .i64 T[k].off, .int .i64 T[k].flags, .bool T[k].on]) w := by
  have h2 : k < 16 := by omega
  simp [Instr.index, asIntOf, run_underlying Tryz.underlying101, h2, tabPart, Tb.cells_extract T k hk, Tb.Slot.enc]
theorem tabList (b : Nat) (T : List Tb.Slot) (W : World) (L : List HP) (hT : T.length = 16) (hO : Has W (Tab b T :: L)) :
    Calls Tryz.prog 117 #[.pointer (some ⟨b, 0, none⟩)] W fun e w' => ∃ v, e = .returned v ∧ Has w' (Ints v (Tb.lst T 16) :: Tab b T :: L) ∧ Keep W w' := by
  have hh := hO.lookup
  have HO := hid hO
  have HT := hid hT
  clear hO hT
  go_enter Tryz.func117, Tryz.ntmps117
  go_wp2_with (with_reducible refine wpList_load_row rfl _ _ rfl _ rfl _ _ _ _ hh Tryz.underlying101 rfl ?hsz ?_)
  case hsz =>
    rw [show (Tb.cells T).size = 64 by have := Tb.encs_len T; simp [Tb.cells, this, HT.out]]
    kernel_rfl
  clear hh
  go_loopw [12, 3] (fun i v w => ∃ k : Nat, k ≤ 16 ∧ i = .int .i64 k ∧ Hid (Has w (Ints v (Tb.lst T k) :: Tab b T :: L)) ∧ Hid (Keep W w)) (fun i _ _ => 16 - (intOf i).toNat)
  case atStart => exact ⟨0, by omega, rfl, hid (HO.out.row_nil _ _), hid (Keep.refl _)⟩
  case round =>
    obtain ⟨k, hk, rfl, HOw, HK⟩ := hrel
    by_cases hlt : k < 16
    · have hl : k < T.length := by rw [HT.out]; exact hlt
      have hix := fun w => tabIndex T k HT.out hl w
      have Hll := hid (Tb.lst_len T k (by omega))
      have Hls := hid (Tb.lst_succ T k hl)
      rcases hon : T[k].on with _ | _
      · have Hon := hid hon
        go_wp2_with fail
        go_roundw
        case rel => exact ⟨k + 1, by omega, by go_num, hid (by rw [Hls.out, Hon.out]; simpa using HOw.out.alloc' _), hid (HK.out.alloc _)⟩
        case measure => simp [intOf]; omega
      · have Hon := hid hon
        go_wp2_with (at_builtin; refine wpList_append1 rfl _ _ _ rfl Tryz.underlying71 infoInt rfl (.int .i64 k) ((HOw.out.alloc' _).alloc' _) rfl 1 _ rfl (by simp) rfl (le_maxLen (by have := Hll.out; omega)) (by have := Hll.out; omega) ?_)
        intro v' w' hO' hK'
        have HO' := hid hO'
        have HK' := hid hK'
        clear hO' hK'
        go_wp2_with fail
        go_roundw
        case rel =>
          refine ⟨k + 1, by omega, by go_num, hid ?_, hid (((HK.out.alloc _).alloc _).trans HK'.out)⟩
          rw [Hls.out, Hon.out]
          have := HO'.out
          simpa [Ints, ic_snoc] using this
        case measure => simp [intOf]; omega
    · obtain rfl : k = 16 := by omega
      go_wp2_with fail
      go_ret
      exact ⟨_, rfl, HOw.out, HK.out⟩
end Go.Proofs.YtonhcefgakmpfaaGreatDoor
/- THE TREE's chunk. -/
namespace Go.Proofs.YtonhcefgakmpfaaGreatDoor
open Go.RowKit Go.Own
theorem infoBool : (Tryz.prog.info? 4).map (fun i => (i.zero, i.size, i.bytes)) = some (some (.bool false), 1, 1) := by kernel_rfl
def Bools (v : Value) (bs : List Bool) : HP := row v 4 1 bs.length (bs.map Value.bool)
theorem Bools.rd {v : Value} {xs : List Bool} {w : World} {L : List HP} (h : Has w (Bools v xs :: L)) : Rd w v 1 xs.length (xs.map Value.bool) := Has.rd h
/-- A directory's entries, or none. -/
def Nms (nm : Option Nat) (t : List (Str × Int)) : HP := match nm with
  | some m => Mk kStr vInt m t
  | none => fact (t = [])
def nodC (x : Nod) (dv wv : Value) (nm : Option Nat) : Array Value := #[.int .i64 x.kind, dv, wv, .map nm, .int .i64 x.most, .int .i64 x.links, .int .i64 x.above]
/-- A link's bytes: their block bears a mark behind its last cell. -/
def Frz (v : Value) (xs : List Int) : HP := ex fun g : Nat => ex fun cap : Nat => ex fun cur : Array Value => ex fun sp : Nat × Nat => sep (fact (v = .slice (some ⟨g, 0, none⟩) xs.length cap ∧ xs.length ≤ cap ∧ xs.length ≤ maxLen ∧ cur.toList.take xs.length = bc xs)) (pt g (.cells cur 5 sp))
theorem frz_iff {w : World} {L : List HP} {v : Value} {xs : List Int} : Has w (Frz v xs :: L) ↔ ∃ g cap cur sp, (v = .slice (some ⟨g, 0, none⟩) xs.length cap ∧ xs.length ≤ cap ∧ xs.length ≤ maxLen ∧ cur.toList.take xs.length = bc xs) ∧ Has w (pt g (.cells cur 5 sp) :: L) := by
  unfold Frz
  simp only [Has.ex_iff, Has.sep_iff, Has.fact_iff]
/-- What a node holds. -/
def Dat (k : Int) (v : Value) (xs : List Int) : HP := if k = 3 then Frz v xs else Bytes v xs
theorem dat_ne {k : Int} (h : k ≠ 3) (v : Value) (xs : List Int) : Dat k v xs = Bytes v xs := if_neg h
theorem Dat.rd {k : Int} {v : Value} {xs : List Int} {w : World} {L : List HP} (h : Has w (Dat k v xs :: L)) : Rd w v 1 xs.length (bc xs) := by
  by_cases hk : k = 3
  · unfold Dat at h
    rw [if_pos hk] at h
    obtain ⟨g, cap, cur, sp, ⟨rfl, h1, h2, h3⟩, h9⟩ := frz_iff.1 h
    refine ⟨by simp [bc], h2, _, cap, rfl, h1, fun _ => ⟨g, 0, rfl, fun j hj => ?_⟩⟩
    rw [Nat.zero_add, h9.cells, ← h3, List.getElem?_take, if_pos (by omega), Array.getElem?_toList]
  · rw [dat_ne hk] at h
    exact Bytes.rd h
/-- A node in block b. -/
def Ndc (b : Nat) (x : Nod) : HP := ex fun dv : Value => ex fun wv : Value => ex fun nm : Option Nat => star [fact (x.kind = 2 → ∃ m, nm = some m), pt b (.cells (nodC x dv wv nm) 83), Dat x.kind dv x.data, Bools wv x.wr, Nms nm x.names]
theorem ndc_iff {w : World} {L : List HP} {b : Nat} {x : Nod} : Has w (Ndc b x :: L) ↔ ∃ dv wv nm, (x.kind = 2 → ∃ m, nm = some m) ∧ Has w (pt b (.cells (nodC x dv wv nm) 83) :: Dat x.kind dv x.data :: Bools wv x.wr :: Nms nm x.names :: L) := by
  unfold Ndc
  simp only [Has.ex_iff, Has.star_iff, List.cons_append, List.nil_append, Has.fact_iff]
theorem ndc_ofB {w : World} {L : List HP} {b : Nat} {x : Nod} (hk : x.kind ≠ 3) (h : ∃ dv wv nm, (x.kind = 2 → ∃ m, nm = some m) ∧ Has w (pt b (.cells (nodC x dv wv nm) 83) :: Bytes dv x.data :: Bools wv x.wr :: Nms nm x.names :: L)) : Has w (Ndc b x :: L) := by
  obtain ⟨dv, wv, nm, h1, h2⟩ := h
  exact ndc_iff.2 ⟨dv, wv, nm, h1, by rw [dat_ne hk]; exact h2⟩
/-- A node's number, block, and what it holds. -/
abbrev Pn := Int × Nat × Nod
def pnN (P : List Pn) : List (Int × Nod) := P.map fun p => (p.1, p.2.2)
def pnB (P : List Pn) : List (Int × Option Nat) := P.map fun p => (p.1, some p.2.1)
def pnC (P : List Pn) : List HP := P.map fun p => Ndc p.2.1 p.2.2
def treC (m f : Nat) (last : Int) : Array Value := #[.map (some m), .int .i64 last, .pointer (some ⟨f, 0, none⟩)]
/-- A tree in block q, its blocks told. -/
def Trb (q m f : Nat) (P : List Pn) (last : Int) (T : List Tb.Slot) : HP := star (pt q (.cells (treC m f last) 88) :: Mk kInt vPtr m (pnB P) :: Tab f T :: pnC P)
def Trc (q : Nat) (S : Tre) : HP := ex fun m : Nat => ex fun f : Nat => ex fun P : List Pn => sep (fact (pnN P = S.nodes ∧ S.tab.length = 16)) (Trb q m f P S.last S.tab)
section
variable {w : World} {L : List HP} {q m f : Nat} {P : List Pn} {last : Int} {T : List Tb.Slot} {S : Tre}
theorem trb_iff : Has w (Trb q m f P last T :: L) ↔ Has w (pt q (.cells (treC m f last) 88) :: Mk kInt vPtr m (pnB P) :: Tab f T :: (pnC P ++ L)) := by
  unfold Trb
  rw [Has.star_iff]
  rfl
theorem trc_iff : Has w (Trc q S :: L) ↔ ∃ m f P, (pnN P = S.nodes ∧ S.tab.length = 16) ∧ Has w (Trb q m f P S.last S.tab :: L) := by
  unfold Trc
  simp only [Has.ex_iff, Has.sep_iff, Has.fact_iff]
theorem pnB_keys (P : List Pn) : (pnB P).map Prod.fst = P.map Prod.fst := by simp [pnB]
theorem pnN_keys (P : List Pn) : (pnN P).map Prod.fst = P.map Prod.fst := by simp [pnN]
theorem Trb.nodup (h : Has w (Trb q m f P last T :: L)) : (P.map Prod.fst).Nodup := by
  have := Mk.nodup (trb_iff.1 h).p1
  rwa [pnB_keys] at this
/-- One of the nodes at the head. -/
theorem pnC_pull {P1 P2 : List Pn} {p : Pn} : Has w (pnC (P1 ++ p :: P2) ++ L) ↔ Has w (Ndc p.2.1 p.2.2 :: (pnC (P1 ++ P2) ++ L)) := by
  unfold pnC
  rw [List.map_append, List.map_cons, List.map_append]
  constructor
  · intro h
    exact h.perm (by simp only [List.append_assoc, List.cons_append]; exact List.perm_middle)
  · intro h
    exact h.perm (by simp only [List.append_assoc, List.cons_append]; exact List.perm_middle.symm)
end
end Go.Proofs.YtonhcefgakmpfaaGreatDoor
/- A node of the tree, as the walk reads it; above. -/
namespace Go.Proofs.YtonhcefgakmpfaaGreatDoor
open Go.RowKit Go.Own
theorem fnd_is {κ α : Type} [DecidableEq κ] {t : List (κ × α)} {x : κ} [Decidable (x ∈ t.map Prod.fst)] : decide (x ∈ t.map Prod.fst) = (fnd t x).isSome := by
  rcases h : fnd t x with _ | a
  · exact decide_eq_false (fnd_none.1 h)
  · exact decide_eq_true (List.mem_map_of_mem (f := Prod.fst) (fnd_some h))
theorem Mk.look2 {P : Program} {k e : TypeId} {κ α : Type} [DecidableEq κ] {K : Ky P k κ} {V : El P e α} {w : World} {L : List HP} {b : Nat} {t : List (κ × α)} {x : κ} {T : TypeId} (h : Has w (Mk K V b t :: L)) (ht : P.underlying T = some (.map k e)) (hx : K.ok x) :
    (Instr.lookup T (.map (some b)) (K.val x) true).run P w = .ok (.tuple #[V.val ((fnd t x).getD V.z), .bool (fnd t x).isSome]) w := by
  rw [Mk.look h ht hx, fnd_is]
section
variable {w : World} {L : List HP} {q m f : Nat} {P : List Pn} {last : Int} {T : List Tb.Slot} {S : Tre} {n : Int} {x : Nod}
theorem pn_split (h : fnd (pnN P) n = some x) : ∃ P1 b P2, P = P1 ++ (n, b, x) :: P2 := by
  have h1 := fnd_some h
  unfold pnN at h1
  obtain ⟨⟨n', b, x'⟩, hp, e⟩ := List.mem_map.1 h1
  simp only [Prod.mk.injEq] at e
  obtain ⟨rfl, rfl⟩ := e
  obtain ⟨P1, P2, rfl⟩ := List.append_of_mem hp
  exact ⟨P1, b, P2, rfl⟩
theorem Trb.cells (h : Has w (Trb q m f P last T :: L)) : w.cell? ⟨q, 0, none⟩ = some (.map (some m)) ∧ w.cell? ⟨q, 1, none⟩ = some (.int .i64 last) ∧ w.cell? ⟨q, 2, none⟩ = some (.pointer (some ⟨f, 0, none⟩)) :=
  ⟨(trb_iff.1 h).cells 0, (trb_iff.1 h).cells 1, (trb_iff.1 h).cells 2⟩
/-- `t.nodes[n]`. -/
theorem Trb.look (h : Has w (Trb q m f P last T :: L)) (hn : fnd (pnN P) n = some x) : ∃ b, (n, b, x) ∈ P ∧ (Instr.lookup tNo (.map (some m)) (.int .i64 n) false).run Tryz.prog w = .ok (.pointer (some ⟨b, 0, none⟩)) w := by
  obtain ⟨P1, b, P2, rfl⟩ := pn_split hn
  have hk := (trb_iff.1 h).p1
  have hnd := Mk.nodup hk
  have hm : (n, some b) ∈ pnB (P1 ++ (n, b, x) :: P2) := by simp [pnB]
  have hok : kInt.ok n := Mk.ok hk (List.mem_map_of_mem (f := Prod.fst) hm)
  have h1 := Mk.look0 hk undNo hok
  rw [fnd_mem hnd hm] at h1
  exact ⟨b, by simp, h1⟩
/-- What the node's block holds. -/
theorem Trb.node (h : Has w (Trb q m f P last T :: L)) {b : Nat} (hp : (n, b, x) ∈ P) : ∃ dv wv nm, (x.kind = 2 → ∃ m, nm = some m) ∧ (∀ i, w.cell? ⟨b, i, none⟩ = (nodC x dv wv nm)[i]?) ∧ Rd w dv 1 x.data.length (bc x.data) := by
  obtain ⟨P1, P2, rfl⟩ := List.append_of_mem hp
  have h1 := (trb_iff.1 h).drop.drop.drop
  rw [pnC_pull] at h1
  obtain ⟨dv, wv, nm, hd, h2⟩ := ndc_iff.1 h1
  exact ⟨dv, wv, nm, hd, h2.cells, Dat.rd h2.p1⟩
set_option maxRecDepth 100000 in
/-- .. and what its names are found as. -/
theorem Trb.node2 (h : Has w (Trb q m f P last T :: L)) {b : Nat} (hp : (n, b, x) ∈ P) : ∃ dv wv nm, (x.kind = 2 → ∃ m, nm = some m) ∧ (∀ i, w.cell? ⟨b, i, none⟩ = (nodC x dv wv nm)[i]?) ∧ Rd w dv 1 x.data.length (bc x.data) ∧
    ∀ mm, nm = some mm → ∀ p : Str, p.length ≤ 1000000 → (Instr.lookup tNm (.map (some mm)) (sV p) true).run Tryz.prog w = .ok (.tuple #[.int .i64 ((fnd x.names p).getD 0), .bool (fnd x.names p).isSome]) w ∧ (Instr.lookup tNm (.map (some mm)) (sV p) false).run Tryz.prog w = .ok (.int .i64 ((fnd x.names p).getD 0)) w := by
  obtain ⟨P1, P2, rfl⟩ := List.append_of_mem hp
  have h1 := (trb_iff.1 h).drop.drop.drop
  rw [pnC_pull] at h1
  obtain ⟨dv, wv, nm, hd, h2⟩ := ndc_iff.1 h1
  refine ⟨dv, wv, nm, hd, h2.cells, Dat.rd h2.p1, ?_⟩
  rintro mm rfl p hp
  have hk : Has w (Mk kStr vInt mm x.names :: _) := h2.drop.drop.drop
  have hok : kStr.ok p := by show p.length ≤ maxLen; exact Nat.le_trans hp (le_maxLen (by omega))
  have e := Mk.look2 hk undNm hok
  exact ⟨e, Mk.look0 hk undNm hok⟩
end
set_option maxRecDepth 100000 in
set_option maxHeartbeats 4000000 in
theorem tAbove (q : Nat) (S : Tre) (n : Int) (x : Nod) (w : World) (L : List HP) (hn : fnd S.nodes n = some x) (hO : Has w (Trc q S :: L)) :
    Calls Tryz.prog 211 #[.pointer (some ⟨q, 0, none⟩), .int .i64 n] w fun e w' => e = .returned (.int .i64 (S.up n)) ∧ w = w' := by
  obtain ⟨m, f, P, ⟨hP, hT⟩, h⟩ := trc_iff.1 hO
  have hu : S.up n = if x.above = 0 then n else x.above := by unfold Tre.up Tre.at_; rw [hn]; rfl
  rw [← hP] at hn
  obtain ⟨b, hb, hl⟩ := Trb.look h hn
  obtain ⟨dv, wv, nm, -, hc, -⟩ := Trb.node h hb
  have hc6 : w.cell? ⟨b, 6, none⟩ = some (.int .i64 x.above) := hc 6
  have hq := (Trb.cells h).1
  have HU := hid hu
  clear hO hP hT h hb hc hn hu
  by_cases ha : x.above = 0
  · rw [ha] at hc6
    have HU2 := hid (show S.up n = n from by rw [HU.out, if_pos ha])
    clear ha
    go_enter Tryz.func211, Tryz.ntmps211
    go_wp2_with fail
    go_ret
    rw [HU2.out]
    exact ⟨rfl, rfl⟩
  · have HU2 := hid (show S.up n = x.above from by rw [HU.out, if_neg ha])
    go_enter Tryz.func211, Tryz.ntmps211
    go_wp2_with fail
    go_ret
    rw [HU2.out]
    exact ⟨rfl, rfl⟩
end Go.Proofs.YtonhcefgakmpfaaGreatDoor
/- append(v, make([]T, n)...), the elements of one cell. No program in sight. -/
namespace Go.Own
open Go.RowKit
section
variable {w : World} {l : List HP} {e : TypeId} {n m : Nat} {xs : List Value} {v : Value}
theorem zcells (z : Value) (hz : z.cells = #[z]) (m : Nat) : Builtin.zeroCells z.cells m = (List.replicate m z).toArray := by
  rw [hz]
  unfold Builtin.zeroCells
  apply Array.ext
  · simp
  · intro i h1 h2
    simp [Nat.mod_one]
theorem Has.appendZ {P : Program} (hO : Has w (row v e 1 n xs :: l)) (t it ty : TypeId) {z : Value} {bytes : Nat} (ht : P.underlying t = some (.slice e)) (hit : P.underlying it = some (.int .i64)) (hi : (P.info? e).map (fun i => (i.zero, i.size, i.bytes)) = some (some z, 1, bytes)) (hz : z.cells = #[z]) (h1 : z.oneCell' = true)
    (h63 : n + m ≤ maxLen) (hbytes : (n + m) * bytes ≤ 140737488355328) :
    ∃ v' w', (Builtin.append_ #[t, it] ty #[v, .int .i64 (m : Int)]).run P w = .ok v' w' ∧ Has w' (row v' e 1 (n + m) (xs ++ List.replicate m z) :: l) ∧ Keep w w' := by
  obtain ⟨i, hi', hzz, hs, hby⟩ := info_parts hi
  subst hby
  have hsmall : n + m ≤ 9223372036854775807 := by simp only [maxLen] at h63; omega
  have hw : IntKind.i64.wrap (m : Int) = (m : Int) := by
    simp [IntKind.wrap, IntKind.bits, IntKind.signed]; omega
  have hneg : ¬ ((m : Int) < 0) := by omega
  have hmb : m * i.bytes ≤ (n + m) * i.bytes := Nat.mul_le_mul_right _ (by omega)
  have h48 : ¬ (281474976710656 < (m : Int) * (i.bytes : Int)) := by
    have : (m : Int) * (i.bytes : Int) = ((m * i.bytes : Nat) : Int) := by simp
    rw [this]; omega
  have hlen : (xs ++ List.replicate m z).length = (n + m) * 1 := by
    have := hO.row_cases.1
    rw [List.length_append, List.length_replicate, this]; omega
  obtain ⟨hxl, hc⟩ := hO.row_cases
  rcases hc with ⟨rfl, rfl, rfl, hO'⟩ | ⟨g, cap, cur, rfl, hnc, hcm, hcs, htake, hp⟩
  · by_cases hm : m = 0
    · subst hm
      refine ⟨.slice none 0 0, w, ?_, by simpa using hO'.row_nil e 1, Keep.refl w⟩
      have hw0 : IntKind.i64.wrap 0 = 0 := by decide
      simp [Builtin.append_, run_underlying ht, run_underlying hit, sizeOf, typeInfo, hi', asInt, asIntOf, hw0]
    · have hg := grownCap_ge w m 0 e
      have hgm : grownCap w m 0 e ≤ maxLen := grownCap_le_maxLen w m 0 e (by omega)
      have h63' : ¬ (9223372036854775807 < (m : Int)) := by omega
      have h48' : ¬ (281474976710656 < Builtin.nextslicecap m 0 * i.bytes) := by rw [nextslicecap_zero (by omega)]; omega
      refine ⟨.slice (some ⟨w.heap.size, 0, none⟩) m (grownCap w m 0 e), w.drew.alloc (.cells ((List.replicate m z).toArray ++ Builtin.zeroCells z.cells (grownCap w m 0 e - m)) e), ?_, ?_, (Keep.refl w).drew.alloc _⟩
      · simp [Builtin.append_, run_underlying ht, run_underlying hit, sizeOf, typeInfo, zeroValue, hi', hzz, asInt, asIntOf, hw, hneg, h48, hm, h63', h48', hs, Question.forced, run_firstCells_none, newRow, grownCap, zcells z hz]
        done
      · have h := (hO'.drew.alloc (.cells ((List.replicate m z).toArray ++ Builtin.zeroCells z.cells (grownCap w m 0 e - m)) e)).row_of (n := m) (size := 1) (xs := List.replicate m z) hg hgm (by simp [zcells z hz]; omega) (by simp [zcells z hz]) (by simp)
        simpa using h
  · by_cases hroom : n + m ≤ cap
    · have hfit : n + (List.replicate m z).length ≤ cur.size := by rw [List.length_replicate, hcs]; omega
      have hst := run_storeCells_at P g n e (List.replicate m z) 0 cur w hp.lookup (by simpa using hfit) (fun u hu => by rw [List.eq_of_mem_replicate hu]; exact h1)
      simp only [Nat.add_zero] at hst
      refine ⟨.slice (some ⟨g, 0, none⟩) (n + m) cap, w.setRow g (cur.toList.take n ++ List.replicate m z ++ cur.toList.drop (n + (List.replicate m z).length)).toArray, ?_, ?_, ⟨rfl, rfl, rfl, by simp⟩⟩
      · by_cases hm : m = 0
        · subst hm
          have hw0 : IntKind.i64.wrap 0 = 0 := by decide
          simp only [List.replicate_zero] at hst
          simp [Builtin.append_, run_underlying ht, run_underlying hit, sizeOf, typeInfo, hi', asInt, asIntOf, hw0, hnc, hs, Addr.add_lit, hst]
          done
        · simp [Builtin.append_, run_underlying ht, run_underlying hit, sizeOf, typeInfo, zeroValue, hi', hzz, asInt, asIntOf, hw, hneg, h48, hm, hroom, hs, zcells z hz, Addr.add_lit, hst]
          done
      · refine (hp.turn (fun k _ hk => setRow_other w g k _ hk) (setRow_heap w g cur _ e _ hp.lookup)).row_of hroom hcm ?_ ?_ hlen
        · simp only [List.size_toArray, List.length_append, List.length_take, List.length_drop, Array.length_toList, List.length_replicate]
          omega
        · rw [← hlen]
          have hx : cur.toList.take n = xs := by rw [← htake, Nat.mul_one]
          rw [hx]
          exact List.take_left
    · have hg := grownCap_ge w (n + m) cap e
      have hgm : grownCap w (n + m) cap e ≤ maxLen := grownCap_le_maxLen w (n + m) cap e h63
      have h63' : ¬ (9223372036854775807 < ((n : Int) + (m : Int))) := by omega
      have h48' : ¬ (281474976710656 < Builtin.nextslicecap (n + m) cap * i.bytes) := by have := growslice_fits (show cap < n + m by omega) hbytes; omega
      have holds : ∀ j u, xs[j]? = some u → w.drew.cell? ((⟨g, 0, none⟩ : Addr).add j) = some u := hO.row_own.cells (g := g) rfl
      have hfo := run_firstCells_some (P := P) w.drew i.size n ⟨g, 0, none⟩ n cap xs (by rw [hs]; simpa using hxl) holds
      rw [hs] at hfo
      refine ⟨.slice (some ⟨w.heap.size, 0, none⟩) (n + m) (grownCap w (n + m) cap e), w.drew.alloc (.cells (xs.toArray ++ (List.replicate m z).toArray ++ Builtin.zeroCells z.cells (grownCap w (n + m) cap e - (n + m))) e), ?_, ?_, (Keep.refl w).drew.alloc _⟩
      · by_cases hm : m = 0
        · omega
        · simp [Builtin.append_, run_underlying ht, run_underlying hit, sizeOf, typeInfo, zeroValue, hi', hzz, asInt, asIntOf, hw, hneg, h48, hm, h63', h48', hroom, hs, Question.forced, hfo, newRow, grownCap, zcells z hz]
          done
      · have h := (hO.drop.drew.alloc (.cells (xs.toArray ++ (List.replicate m z).toArray ++ Builtin.zeroCells z.cells (grownCap w (n + m) cap e - (n + m))) e)).row_of (n := n + m) (size := 1) (xs := xs ++ List.replicate m z) hg hgm (by simp [zcells z hz]; omega) (by
          rw [Nat.mul_one]
          simp only [Array.toList_append, List.toList_toArray]
          exact List.take_left' (by rw [hlen, Nat.mul_one])) (by rw [hlen])
        exact h
theorem wpList_appendZ {P : Program} {ops : Array Oper} {rest : List Oper} {o : Oper} {a : Act} {Q : Exit → Act → World → Prop} (hgd : o.guard = none) (s x : Operand) (t it : TypeId)
    (ho : o.op = .call { callee := .builtin .append, args := #[s, x], argTypes := #[t, it] })
    {z : Value} {bytes : Nat} (ht : P.underlying t = some (.slice e)) (hit : P.underlying it = some (.int .i64)) (hi : (P.info? e).map (fun i => (i.zero, i.size, i.bytes)) = some (some z, 1, bytes)) (hz : z.cells = #[z]) (h1 : z.oneCell' = true)
    (hO : Has w (row v e 1 n xs :: l)) (hs : a.eval s = v) (m : Nat) (hx : a.eval x = .int .i64 (m : Int)) (h63 : n + m ≤ maxLen) (hbytes : (n + m) * bytes ≤ 140737488355328)
    (h : ∀ v' w', Has w' (row v' e 1 (n + m) (xs ++ List.replicate m z) :: l) → Keep w w' → wpList P ops Q rest (a.put o.dst v') w') : wpList P ops Q (o :: rest) a w := by
  refine wpList_plain hgd fun K hK => ?_
  obtain ⟨v', w', hrun, h2, h3⟩ := hO.appendZ (P := P) t it o.type ht hit hi hz h1 h63 hbytes
  unfold Oper.wp execOp
  simp only [ho, resolve, invoke, builtin, Sem.run_bind, Sem.run_pure, Result.andThen_ok, List.map_toArray, List.map_cons, List.map_nil, hs, hx, hrun]
  exact hK _ _ (h v' w' h2 h3)
end
end Go.Own
/- (strings) THE WALKS of slices.Grow of nothing, of slices.Concat of two lists of numbers. -/
namespace Go.Proofs.YtonhcefgakmpfaaGreatDoor
open Go.RowKit Go.Own
/-- A row cut to nothing, its room kept. -/
theorem _root_.Go.Own.Has.toFront {w : World} {L : List HP} {v : Value} {e : TypeId} {n : Nat} {xs : List Value} (h : Has w (row v e 1 n xs :: L)) (hn : 0 < n) : ∃ g c, v = .slice (some ⟨g, 0, none⟩) n c ∧ n ≤ c ∧ Has w (row (.slice (some ⟨g, 0, none⟩) 0 c) e 1 0 [] :: L) := by
  obtain ⟨hxl, hc⟩ := h.row_cases
  rcases hc with ⟨-, e0, -⟩ | ⟨g, cap, cur, rfl, hnc, hcm, hcs, htake, hp⟩
  · omega
  · exact ⟨g, cap, rfl, hnc, hp.row_of (Nat.zero_le _) hcm hcs (by simp) rfl⟩
theorem sv_one (xs : List Str) : ∀ u ∈ xs.map sV, u.oneCell' = true := by
  intro u hu
  obtain ⟨x, -, rfl⟩ := List.mem_map.1 hu
  rfl
set_option maxRecDepth 100000 in
set_option maxHeartbeats 4000000 in
theorem growNilS0 (w : World) (L : List HP) (hO : Has w L) : Calls Tryz.prog 245 #[.slice none 0 0, .int .i64 0] w fun e w' => ∃ v', e = .returned v' ∧ Has w' (row v' 9 1 0 [] :: L) ∧ Keep w w' := by
  have HO := hid hO
  clear hO
  go_enter Tryz.func245, Tryz.ntmps245
  go_wp2_with fail
  go_ret
  exact ⟨_, rfl, HO.out.row_nil 9 1, Keep.refl _⟩
set_option maxRecDepth 100000 in
set_option maxHeartbeats 4000000 in
theorem growNilS (n : Nat) (w : World) (L : List HP) (hO : Has w L) (hn : n ≤ 1000000) : Calls Tryz.prog 245 #[.slice none 0 0, .int .i64 n] w fun e w' => ∃ v', e = .returned v' ∧ Has w' (row v' 9 1 0 [] :: L) ∧ Keep w w' := by
  by_cases h0 : 0 < n
  rotate_left
  · obtain rfl : n = 0 := by omega
    exact growNilS0 w L hO
  have HO := hid hO
  clear hO
  go_enter Tryz.func245, Tryz.ntmps245
  go_wp2_with (at_builtin; refine wpList_appendZ rfl _ _ _ _ rfl Tryz.underlying30 Tryz.underlying3 infoStr rfl rfl (HO.out.row_nil 9 1) rfl n rfl (le_maxLen (by omega)) (by omega) ?_)
  intro v2 w2 h2 hk2
  obtain ⟨g, c, rfl, hcm, h3⟩ := h2.toFront h0
  have HO2 := hid h3
  have HK2 := hid hk2
  clear h2 h3 hk2 HO
  have hc0 : (0 : Int) ≤ (c : Int) := by omega
  go_wp2_with fail
  go_ret
  exact ⟨_, rfl, HO2.out, HK2.out⟩
set_option maxRecDepth 100000 in
set_option maxHeartbeats 4000000 in
theorem concatS (g0 : Nat) (v1 v2 : Value) (xs ys : List Str) (w : World) (L : List HP) (hO : Has w (pt g0 (.cells #[v1, v2] 30) :: L)) (h1 : ∀ w', Has w' L → Rd w' v1 1 xs.length (xs.map sV)) (h2 : ∀ w', Has w' L → Rd w' v2 1 ys.length (ys.map sV))  (hm : xs.length + ys.length ≤ 1000) :
    Calls Tryz.prog 212 #[.slice (some ⟨g0, 0, none⟩) 2 2] w fun e w' => ∃ v', e = .returned v' ∧ Has w' (Strs v' (xs ++ ys) :: pt g0 (.cells #[v1, v2] 30) :: L) ∧ Keep w w' := by
  obtain ⟨p1, c1, rfl, -⟩ := (h1 w hO.drop).form
  obtain ⟨p2, c2, rfl, -⟩ := (h2 w hO.drop).form
  have HO := hid hO
  have H1 := hid h1
  have H2 := hid h2
  have hc0 := hO.cells 0
  have hc1 := hO.cells 1
  clear hO h1 h2
  go_enter Tryz.func212, Tryz.ntmps212
  have e1 : (xs.length : Int) ≤ 1000 := by omega
  have e2 : (ys.length : Int) ≤ 1000 := by omega
  have HG := hid (show Calls Tryz.prog 245 #[.slice none 0 0, .int .i64 ((xs.length : Int) + (ys.length : Int))] w fun e w' => ∃ v', e = .returned v' ∧ Has w' (row v' 9 1 0 [] :: pt g0 (.cells #[.slice p1 xs.length c1, .slice p2 ys.length c2] 30) :: L) ∧ Keep w w' from growNilS (xs.length + ys.length) w _ HO.out (by omega))
  have HM := hid hm
  clear hm
  go_wp2_with fail
  go_loopw [3, 11] (fun s i w' => ((i = .int .i64 0 ∧ s = .int .i64 0) ∨ (i = .int .i64 1 ∧ s = .int .i64 (xs.length : Int)) ∨ (i = .int .i64 2 ∧ s = .int .i64 ((xs.length : Int) + (ys.length : Int)))) ∧ w = w') (fun _ i _ => 2 - (intOf i).toNat)
  case atStart => exact ⟨.inl ⟨rfl, rfl⟩, rfl⟩
  case round =>
    obtain ⟨⟨rfl, rfl⟩ | ⟨rfl, rfl⟩ | ⟨rfl, rfl⟩, rfl⟩ := hrel
    · go_wp2_with fail
      exact ⟨⟨.inr (.inl ⟨rfl, by go_num⟩), by trivial⟩, by simp [intOf]⟩
    · go_wp2_with fail
      exact ⟨⟨.inr (.inr ⟨rfl, by go_num⟩), by trivial⟩, by simp [intOf]⟩
    · go_wp2_with fail
      refine (HG.out).mono ?_
      rintro e w3 ⟨v3, rfl, hO3, hK3⟩
      have HO3 := hid hO3
      have HK3 := hid ((Keep.refl w).trans hK3)
      clear hO3 hK3
      try dsimp only
      clear hc0 hc1
      go_wp2_with fail
      go_loopw [6, 27] (fun s i w' => ((i = .int .i64 0 ∧ Hid (Has w' (Strs s [] :: pt g0 (.cells #[.slice p1 xs.length c1, .slice p2 ys.length c2] 30) :: L))) ∨ (i = .int .i64 1 ∧ Hid (Has w' (Strs s xs :: pt g0 (.cells #[.slice p1 xs.length c1, .slice p2 ys.length c2] 30) :: L))) ∨ (i = .int .i64 2 ∧ Hid (Has w' (Strs s (xs ++ ys) :: pt g0 (.cells #[.slice p1 xs.length c1, .slice p2 ys.length c2] 30) :: L)))) ∧ Hid (Keep w w')) (fun _ i _ => 2 - (intOf i).toNat)
      case atStart => exact ⟨.inl ⟨rfl, HO3⟩, HK3⟩
      case round =>
        clear HO3 HK3
        obtain ⟨⟨rfl, HA⟩ | ⟨rfl, HA⟩ | ⟨rfl, HA⟩, HB⟩ := hrel
        · have hc0 := HA.out.p1.cells 0
          go_wp2_with (at_builtin; refine wpList_appendA rfl _ _ _ rfl Tryz.underlying30 infoStr rfl (by decide) HA.out rfl _ xs.length (xs.map sV) rfl (H1.out _ HA.out.drop.drop) (sv_one _) (le_maxLen (by have := HM.out; simp; omega)) (by have := HM.out; simp; omega) ?_)
          intro v5 w5 h5 hk5
          have HO5 := hid (show Has w5 (Strs v5 xs :: pt g0 (.cells #[.slice p1 xs.length c1, .slice p2 ys.length c2] 30) :: L) from by simpa [Strs] using h5)
          have HK5 := hid (HB.out.trans hk5)
          clear h5 hk5 HA HB
          go_wp2_with fail
          exact ⟨⟨.inr (.inl ⟨rfl, HO5⟩), HK5⟩, by simp [intOf]⟩
        · have hc1 := HA.out.p1.cells 1
          go_wp2_with (at_builtin; refine wpList_appendA rfl _ _ _ rfl Tryz.underlying30 infoStr rfl (by decide) HA.out rfl _ ys.length (ys.map sV) rfl (H2.out _ HA.out.drop.drop) (sv_one _) (le_maxLen (by have := HM.out; omega)) (by have := HM.out; omega) ?_)
          intro v5 w5 h5 hk5
          have HO5 := hid (show Has w5 (Strs v5 (xs ++ ys) :: pt g0 (.cells #[.slice p1 xs.length c1, .slice p2 ys.length c2] 30) :: L) from by
            unfold Strs
            rw [List.length_append, show (xs ++ ys).map sV = xs.map sV ++ ys.map sV by simp]
            exact h5)
          have HK5 := hid (HB.out.trans hk5)
          clear h5 hk5 HA HB
          go_wp2_with fail
          exact ⟨⟨.inr (.inr ⟨rfl, HO5⟩), HK5⟩, by simp [intOf]⟩
        · go_wp2_with fail
          go_ret
          exact ⟨_, rfl, HA.out, HB.out⟩
end Go.Proofs.YtonhcefgakmpfaaGreatDoor
/- v[m:] and v[:m] of a slice that is read. -/
namespace Go.Own
open Go.RowKit
theorem Rd.dropS {w : World} {p : Option Addr} {n c size : Nat} {xs : List Value} (h : Rd w (.slice p n c) size n xs) (m : Nat) (hm : m ≤ n) : Rd w (.slice (if c = m then p else p.map fun a => a.add (m * size)) (n - m) (c - m)) size (n - m) (xs.drop (m * size)) := by
  obtain ⟨h1, h2, p', c', e, h3, h4⟩ := h
  injection e with e1 e2 e3
  subst e1 e3
  refine ⟨by rw [List.length_drop, h1, Nat.sub_mul], by omega, _, _, rfl, by omega, fun hp => ?_⟩
  have hlt : 0 < n - m := Nat.pos_of_mul_pos_right hp
  have hs : 0 < size := Nat.pos_of_mul_pos_left hp
  obtain ⟨g, o, rfl, hc⟩ := h4 (Nat.mul_pos (by omega) hs)
  refine ⟨g, o + m * size, ?_, fun j hj => ?_⟩
  · rw [if_neg (by omega), Option.map_some, add_plain]
  · rw [List.getElem?_drop, ← hc (m * size + j) (by rw [Nat.sub_mul] at hj; omega), Nat.add_assoc]
theorem Rd.takeS {w : World} {p : Option Addr} {n c size : Nat} {xs : List Value} (h : Rd w (.slice p n c) size n xs) (m : Nat) (hm : m ≤ n) : Rd w (.slice p m c) size m (xs.take (m * size)) := by
  obtain ⟨h1, h2, p', c', e, h3, h4⟩ := h
  injection e with e1 e2 e3
  subst e1 e3
  have hle := Nat.mul_le_mul_right size hm
  refine ⟨by rw [List.length_take]; omega, by omega, _, _, rfl, by omega, fun hp => ?_⟩
  obtain ⟨g, o, rfl, hc⟩ := h4 (by omega)
  refine ⟨g, o, rfl, fun j hj => ?_⟩
  rw [hc j (by omega), List.getElem?_take, if_pos hj]
end Go.Own
/- Views of strings; what a path is walked through; bytes as a string. -/
namespace Go.Proofs.YtonhcefgakmpfaaGreatDoor
open Go.RowKit Go.Own
/-- Strings that are read: of some block that is owned. -/
def VwS (v : Value) (xs : List Str) : HP := ex fun v0 : Value => ex fun xs0 : List Str => star [fact (∀ w L, Has w (Strs v0 xs0 :: L) → Rd w v 1 xs.length (xs.map sV)), Strs v0 xs0]
theorem vwS_iff {w : World} {L : List HP} {v : Value} {xs : List Str} : Has w (VwS v xs :: L) ↔ ∃ v0 xs0, (∀ w L, Has w (Strs v0 xs0 :: L) → Rd w v 1 xs.length (xs.map sV)) ∧ Has w (Strs v0 xs0 :: L) := by
  unfold VwS
  simp only [Has.ex_iff, Has.star_iff, List.cons_append, List.nil_append, Has.fact_iff]
theorem VwS.rd {w : World} {L : List HP} {v : Value} {xs : List Str} (h : Has w (VwS v xs :: L)) : Rd w v 1 xs.length (xs.map sV) := by
  obtain ⟨v0, xs0, h1, h2⟩ := vwS_iff.1 h
  exact h1 _ _ h2
theorem VwS.of {w : World} {L : List HP} {v : Value} {xs : List Str} (h : Has w (Strs v xs :: L)) : Has w (VwS v xs :: L) := vwS_iff.2 ⟨v, xs, fun _ _ h => Strs.rd h, h⟩
/-- `parts[1:]`. -/
theorem VwS.tail {w : World} {L : List HP} {p : Option Addr} {n c : Nat} {x : Str} {xs : List Str} (h : Has w (VwS (.slice p n c) (x :: xs) :: L)) : Has w (VwS (.slice (if c = 1 then p else p.map fun a => a.add 1) (n - 1) (c - 1)) xs :: L) := by
  obtain ⟨v0, xs0, h1, h2⟩ := vwS_iff.1 h
  refine vwS_iff.2 ⟨v0, xs0, fun w' L' h' => ?_, h2⟩
  obtain ⟨p', c', e, -⟩ := (h1 w' L' h').form
  simp only [Value.slice.injEq] at e
  obtain ⟨rfl, rfl, rfl⟩ := e
  have := (h1 w' L' h').dropS 1 (by simp)
  simpa using this
/-- Bytes as a string. -/
theorem strOf_conv {w : World} {v : Value} {xs : List Int} (h : Rd w v 1 xs.length (bc xs)) : (convert 29 9 v).run Tryz.prog w = .ok (sV (strOf xs)) w := by
  obtain ⟨p, c, rfl, -, -, hcs⟩ := h.form
  by_cases h0 : 0 < xs.length
  · obtain ⟨g, o, rfl, hc⟩ := hcs (by omega)
    exact run_convert_bytes_arg w _ _ Tryz.underlying29 Tryz.underlying5 g o xs.length c xs rfl (fun i hi => by rw [hc i (by omega), bc, List.getElem?_map, List.getElem?_eq_getElem hi, List.getD_eq_getElem?_getD, List.getElem?_eq_getElem hi]; rfl) _ Tryz.underlying9
  · obtain rfl : xs = [] := by simpa using h0
    rcases p with _ | a
    · exact run_convert_bytes_nil w _ _ Tryz.underlying29 Tryz.underlying5 _ _ _ Tryz.underlying9
    · have h1 := run_convert_bytes_string (P := Tryz.prog) w 29 9 _ (some a) 0 c Tryz.underlying29 Tryz.underlying5 Tryz.underlying9
      exact h1.trans ((run_bytesToString w a 0 c [] (by unfold loadCells; rfl)))
theorem partsL_short : ∀ (ps acc l : List Str), partsL ps acc = some l → (∀ p ∈ acc, p.length ≤ 24) → ∀ p ∈ l, p.length ≤ 24
  | [], acc, l, h, ha => by simp only [partsL, Option.some.injEq] at h; subst h; exact ha
  | p :: ps, acc, l, h, ha => by
    simp only [partsL] at h
    split at h
    · exact partsL_short ps acc l h ha
    · split at h
      · cases h
      · refine partsL_short ps _ l h fun q hq => ?_
        rcases List.mem_append.1 hq with h1 | h1
        · exact ha q h1
        · rw [List.mem_singleton.1 h1]
          omega
theorem partsM_short (t : Str) : ∀ p ∈ (partsM t).1, p.length ≤ 24 := by
  unfold partsM
  split
  · simp
  · rename_i l hl
    exact partsL_short _ _ _ hl (by simp)
theorem more_short (t : Str) : ∀ p ∈ (targetM t).1, p.length ≤ 24 := by
  unfold targetM
  split
  · simp
  · split
    · simp
    · exact partsM_short t
theorem split_short (t : Str) : ∀ p ∈ (splitM t).1, p.length ≤ 24 := by
  unfold splitM
  split
  · simp
  · split
    · simp
    · exact partsM_short t
theorem split_len (t : Str) : (splitM t).1.length ≤ 20 := by
  unfold splitM
  split
  · simp
  · split
    · simp
    · rename_i h
      simp only [Bool.or_eq_true, Bool.not_eq_true', not_or] at h
      have h1 : (partsM t).2 = true := by simpa using h.1
      show (partsM t).1.length ≤ 20
      unfold partsM at h1 ⊢
      split
      · simp
      · rename_i l hl
        rw [hl] at h1
        simpa using h1
/-- A tree that may be walked: what is named is there. -/
structure Wk (S : Tre) : Prop where
  root : ∃ x, fnd S.nodes 1 = some x
  child : ∀ n x, fnd S.nodes n = some x → ∀ p c, fnd x.names p = some c → ∃ y, fnd S.nodes c = some y
  above : ∀ n x, fnd S.nodes n = some x → x.above ≠ 0 → ∃ y, fnd S.nodes x.above = some y
  data : ∀ n x, fnd S.nodes n = some x → x.kind = 3 → x.data.length ≤ 100000
end Go.Proofs.YtonhcefgakmpfaaGreatDoor
