/- THE WALKS of package table, the rest; and of what the statements share on lists of numbers. -/
import Derived.Test.YtepdmlmnlpjhbaaTab
namespace Go.Proofs.Ytepdmlmnlpjhbaa
open Go.RowKit Go.Own
theorem tabHolds1 (s : Tb.Slot) (n : Int) (b : Nat) (w : World) (L : List HP) (hO : Own w (pt b (.cells #[.int .i64 n] 3) :: L)) :
    Calls Try.prog 27 #[.agg s.enc.toArray, .pointer (some ⟨b, 0, none⟩)] w fun e w' => e = .returned (.bool (s.on && s.node == n)) ∧ Own w' (pt b (.cells #[.int .i64 n] 3) :: L) ∧ Keep w w' := by
  obtain ⟨nd, o, f, on⟩ := s
  have hc := hO.cells 0
  simp at hc
  have hb := hO.lt
  have HO := hid hO
  clear hO
  simp only [Tb.Slot.enc]
  cases on
  · go_enter Try.func27, Try.ntmps27
    go_wp2
    go_ret
    exact ⟨rfl, HO.out.alloc' _, (Keep.refl _).alloc _⟩
  · go_enter Try.func27, Try.ntmps27
    go_wp2
    go_ret
    exact ⟨by simp, HO.out.alloc' _, (Keep.refl _).alloc _⟩
theorem tabContains (b : Nat) (T : List Tb.Slot) (p : Tb.Slot → Bool) (f : FuncId) (cap : Array Value) (w : World) (L : List HP) (hT : T.length = 16)
    (hO : Own w (Tab b T :: L))
    (hcf : ∀ args w, (callFunc f args).run Try.prog w = .ok (.enter f args) w)
    (hf : ∀ s ∈ T, ∀ w, Own w (Tab b T :: L) → Calls Try.prog f (#[.agg s.enc.toArray] ++ cap) w fun e w' => e = .returned (.bool (p s)) ∧ Own w' (Tab b T :: L) ∧ Keep w w') :
    Calls Try.prog 26 #[.slice (some ⟨b, 0, none⟩) 16 16, .func (.func f) #[] cap] w fun e w' => e = .returned (.bool (T.any p)) ∧ Own w' (Tab b T :: L) ∧ Keep w w' := by
  have H := hid (tabIndexFunc b T p f cap w L hT hO hcf hf)
  have HP := hid (Tb.idx_ge T p)
  clear hO hcf hf hT
  go_enter Try.func26, Try.ntmps26
  go_wp2_with fail
  refine H.out.mono ?_
  rintro e w' ⟨rfl, hO1, hK1⟩
  have HO1 := hid hO1
  have HK1 := hid hK1
  clear hO1 hK1
  go_wp2_with fail
  go_ret
  refine ⟨?_, HO1.out, HK1.out⟩
  have := HP.out
  simp only [Array.getD_eq_getD_getElem?]
  simp
  rw [Bool.eq_iff_iff, ← this]; simp
theorem tabHoldsNil (n : Int) (w : World) (L : List HP) (hO : Own w L) :
    Calls Try.prog 19 #[.pointer none, .int .i64 n] w fun e w' => e = .returned (.bool false) ∧ Own w' L ∧ Keep w w' := by
  have HO := hid hO
  clear hO
  go_enter Try.func19, Try.ntmps19
  go_wp2_with fail
  go_ret
  exact ⟨rfl, HO.out.alloc' _, (Keep.refl _).alloc _⟩
theorem tabHolds (b : Nat) (T : List Tb.Slot) (n : Int) (w : World) (L : List HP) (hT : T.length = 16) (hO : Own w (Tab b T :: L)) :
    Calls Try.prog 19 #[.pointer (some ⟨b, 0, none⟩), .int .i64 n] w fun e w' => e = .returned (.bool (Tb.holds T n)) ∧ Own w' (Tab b T :: L) ∧ Keep w w' := by
  have HO := hid hO
  have HT := hid hT
  clear hO hT
  go_enter Try.func19, Try.ntmps19
  go_wp2_with fail
  refine (tabContains b T (fun s => s.on && s.node == n) 27 #[.pointer (some ⟨w.heap.size, 0, none⟩)] _ (pt w.heap.size (.cells #[.int .i64 n] 3) :: L) HT.out (HO.out.alloc _).swap tabCf2 (fun s _ w' hO' => (tabHolds1 s n _ w' _ hO'.swap).mono fun e w2 ⟨h1, h2, h3⟩ => ⟨h1, h2.swap, h3⟩)).mono ?_
  rintro e w' ⟨rfl, hO1, hK1⟩
  have HO1 := hid hO1
  have HK1 := hid hK1
  clear hO1 hK1
  go_wp2_with fail
  go_ret
  exact ⟨rfl, HO1.out.swap.drop, ((Keep.refl _).alloc _).trans HK1.out⟩
theorem tabListNil (w : World) : Calls Try.prog 16 #[.pointer none] w fun e w' => e = .returned (.slice none 0 0) ∧ w = w' := by
  go_enter Try.func16, Try.ntmps16
  go_wp2_with fail
  go_ret
  exact ⟨rfl, rfl⟩
theorem tabPart (cs : Array Value) (k : Nat) (w : World) : (part 53 cs k).run Try.prog w = .ok (.agg (cs.extract k (k + 4))) w := by kernel_rfl
theorem tabIndex (T : List Tb.Slot) (k : Nat) (hT : T.length = 16) (hk : k < T.length) (w : World) : (Instr.index 54 (.agg (Tb.cells T)) (.int .i64 (k : Int))).run Try.prog w = .ok (.agg #[.int .i64 T[k].node, .int .i64 T[k].off, .int .i64 T[k].flags, .bool T[k].on]) w := by
  have h2 : k < 16 := by omega
  simp [Instr.index, asIntOf, run_underlying Try.underlying54, h2, tabPart, Tb.cells_extract T k hk, Tb.Slot.enc]
theorem infoInt : (Try.prog.info? 3).map (fun i => (i.zero, i.size, i.bytes)) = some (some (.int .i64 0), 1, 8) := by kernel_rfl
def Ints (v : Value) (xs : List Int) : HP := row v 3 1 xs.length (ic xs)
theorem tabList (b : Nat) (T : List Tb.Slot) (W : World) (L : List HP) (hT : T.length = 16) (hO : Own W (Tab b T :: L)) :
    Calls Try.prog 16 #[.pointer (some ⟨b, 0, none⟩)] W fun e w' => ∃ v, e = .returned v ∧ Own w' (Ints v (Tb.lst T 16) :: Tab b T :: L) ∧ Keep W w' := by
  have hh := hO.lookup
  have HO := hid hO
  have HT := hid hT
  clear hO hT
  go_enter Try.func16, Try.ntmps16
  go_wp2_with (with_reducible refine wpList_load_row rfl _ _ rfl _ rfl _ _ _ _ hh Try.underlying54 rfl ?hsz ?_)
  case hsz =>
    rw [show (Tb.cells T).size = 64 by have := Tb.encs_len T; simp [Tb.cells, this, HT.out]]
    kernel_rfl
  clear hh
  go_loopw [12, 3] (fun i v w => ∃ k : Nat, k ≤ 16 ∧ i = .int .i64 k ∧ Hid (Own w (Ints v (Tb.lst T k) :: Tab b T :: L)) ∧ Hid (Keep W w)) (fun i _ _ => 16 - (intOf i).toNat)
  case atStart => exact ⟨0, by omega, rfl, hid (HO.out.row_nil _ _), hid (Keep.refl _)⟩
  case round =>
    obtain ⟨k, hk, rfl, HOw, HK⟩ := hrel
    by_cases hlt : k < 16
    · have hl : k < T.length := by rw [HT.out]; exact hlt
      have hix := fun w => tabIndex T k HT.out hl w
      have Hll := hid (Tb.lst_len T k (by omega))
      have Hls := hid (Tb.lst_succ T k hl)
      rcases hon : T[k].on with _ | _
      · have Hon := hid hon
        go_wp2_with fail
        go_roundw
        case rel => exact ⟨k + 1, by omega, by go_num, hid (by rw [Hls.out, Hon.out]; simpa using HOw.out.alloc' _), hid (HK.out.alloc _)⟩
        case measure => simp [intOf]; omega
      · have Hon := hid hon
        go_wp2_with (at_builtin; refine wpList_append1 rfl _ _ _ rfl Try.underlying44 infoInt rfl (.int .i64 k) ((HOw.out.alloc' _).alloc' _) rfl 1 _ rfl (by simp) rfl (le_maxLen (by have := Hll.out; omega)) (by have := Hll.out; omega) ?_)
        intro v' w' hO' hK'
        have HO' := hid hO'
        have HK' := hid hK'
        clear hO' hK'
        go_wp2_with fail
        go_roundw
        case rel =>
          refine ⟨k + 1, by omega, by go_num, hid ?_, hid (((HK.out.alloc _).alloc _).trans HK'.out)⟩
          rw [Hls.out, Hon.out]
          have := HO'.out
          simpa [Ints, ic_snoc] using this
        case measure => simp [intOf]; omega
    · obtain rfl : k = 16 := by omega
      go_wp2_with fail
      go_ret
      exact ⟨_, rfl, HOw.out, HK.out⟩
end Go.Proofs.Ytepdmlmnlpjhbaa
