/- THE WALKS of slices.DeleteFunc, drop and settle of a cache. -/
import Derived.Test.YtajlikakbihgbaaCad
namespace Go.Proofs.Ytajlikakbihgbaa
open Go.RowKit Go.Own Go.Ch
theorem hcells_put (T : List Hd) (i : Nat) (hi : i < T.length) (x : Hd) :
    ((((hcells T).set (i * 4) (.int .i64 x.at_)).set (i * 4 + 1) x.t.1).set (i * 4 + 2) (.bool x.dirty)).set (i * 4 + 3) (.bool x.pin) = hcells (T.set i x) := by
  induction T generalizing i with
  | nil => simp at hi
  | cons h T ih =>
    cases i with
    | zero => rfl
    | succ i =>
      rw [List.set_cons_succ, hcells_cons, hcells_cons, ← ih i (by simpa using hi)]
      have e0 : (i + 1) * 4 = (Ch.hc h).length + i * 4 := by simp [Ch.hc]; omega
      rw [e0]
      simp only [Nat.add_assoc, List.set_append_right _ _ (Nat.le_add_right _ _), Nat.add_sub_cancel_left]
def zeroH : Value := .agg #[.int .i64 0, .slice none 0 0, .bool false, .bool false]
theorem zeroHeld (w : World) : (zeroValue 76).run Try.prog w = .ok zeroH w := (Try.zeroValue76 w).trans rfl
theorem zeroH_size : zeroH.cells.size = 4 := rfl
theorem zeroH_one : ∀ u ∈ zeroH.cells.toList, u.oneCell' = true := by
  intro u hu
  simp only [zeroH, Value.cells, List.mem_cons, List.not_mem_nil, or_false] at hu
  rcases hu with rfl | rfl | rfl | rfl <;> rfl
/-- Four cells of an element, laid anew. -/
theorem Has.put4 {w : World} {L : List HP} {g n c : Nat} {T : List Hd} (h : Has w (row (.slice (some ⟨g, 0, none⟩) n c) 76 4 T.length (hcells T) :: L)) (i : Nat) (hi : i < T.length) (x : Hd) :
    Has ((((w.setCell ⟨g, i * 4, none⟩ (.int .i64 x.at_)).setCell ⟨g, i * 4 + 1, none⟩ x.t.1).setCell ⟨g, i * 4 + 2, none⟩ (.bool x.dirty)).setCell ⟨g, i * 4 + 3, none⟩ (.bool x.pin)) (row (.slice (some ⟨g, 0, none⟩) n c) 76 4 (T.set i x).length (hcells (T.set i x)) :: L) := by
  have h1 := h.row_set (i * 4) (by omega) (.int .i64 x.at_)
  have h2 := h1.row_set (i * 4 + 1) (by omega) x.t.1
  have h3 := h2.row_set (i * 4 + 2) (by omega) (.bool x.dirty)
  have h4 := h3.row_set (i * 4 + 3) (by omega) (.bool x.pin)
  rw [hcells_put T i hi x] at h4
  rw [List.length_set]
  exact h4
/-- Of what a text's slice is. -/
def one1 (T : List Hd) : Prop := ∀ x ∈ T, ∃ p n c, x.t.1 = .slice p n c
set_option maxRecDepth 100000 in
set_option maxHeartbeats 8000000 in
theorem cDeleteFunc (v : Value) (T : List Hd) (q : Nat) (m : Int) (w : World) (L : List HP) (hm : m ≤ 1000000000) (hl : T.length ≤ 1000000) (h1 : one1 T) (hO : Has w (row v 76 4 T.length (hcells T) :: boxI q m :: L)) :
    Calls Try.prog 57 #[v, .func (Fn.func 58) #[] #[.pointer (some ⟨q, 0, none⟩)]] w fun e w' => ∃ v', e = .returned v' ∧ Has w' (row v' 76 4 (dropG Hd.stay m T).2.length (hcells (dropG Hd.stay m T).2) :: boxI q (dropG Hd.stay m T).1 :: L) ∧ Keep w w' := by
  obtain ⟨p, c, rfl, -, -, hcs⟩ := hO.rd.form
  have HCS := hid hcs
  have HI := hid (cIndexDrop (.slice p T.length c) T q m w _ hm (fun w' m' h => Has.rd h.p1) hl hO.p1)
  have HL := hid hl
  have HM := hid hm
  have H1 := hid h1
  have hcnt := dropG_num Hd.stay m T
  have HO := hid hO
  clear hO hcs hl hm h1 hcnt
  go_enter Try.func57, Try.ntmps57
  go_wp2_with fail
  refine HI.out.mono ?_
  rintro e w2 ⟨⟨r, rfl, hr⟩, k2⟩
  have HK2 := hid k2
  clear k2 HI
  rcases r with _ | i0
  · obtain ⟨e1, h2⟩ := hr
    have HO2 := hid h2
    have HE := hid e1
    clear h2 e1
    simp only [atN]
    go_wp2_with fail
    go_ret
    refine ⟨_, rfl, ?_, HK2.out⟩
    rw [HE.out]
    exact HO2.out.p1
  · obtain ⟨hi0, e1, h2⟩ := hr
    obtain ⟨g, o, hp, -⟩ := HCS.out (by omega)
    have ho : o = 0 := by
      obtain ⟨_, h | ⟨g', c', cur, e, _⟩⟩ := h2.p1.row_cases
      · rw [hp] at h; cases h.1
      · rw [hp] at e; simp at e; exact e.1.2
    subst ho
    subst hp
    have HX : Hid (∃ M : List Hd, i0 + M.length = i0 + 1 ∧ Has w2 (row (.slice (some ⟨g, 0, none⟩) T.length c) 76 4 (T.take i0 ++ M ++ T.drop (i0 + 1)).length (hcells (T.take i0 ++ M ++ T.drop (i0 + 1))) :: boxI q (m - 1) :: L)) := hid ⟨[T[i0]], by simp, by
      have e : T.take i0 ++ [T[i0]] ++ T.drop (i0 + 1) = T := by rw [← take_one hi0, List.take_append_drop]
      rw [e]; exact h2.p1⟩
    have HE := hid e1
    have HI0 := hid hi0
    have hib : (i0 : Int) < 1000000 := by have := HL.out; omega
    have hi00 : (0 : Int) ≤ (i0 : Int) := by omega
    have hi1 : ((i0 : Int) == -1) = false := by simp
    clear h2 e1 HO hi0
    simp only [atN]
    go_wp2_with fail
    go_loopw [5, 6] (fun a b w' => ∃ i j : Nat, i < j ∧ j ≤ T.length ∧ a = .int .i64 i ∧ b = .int .i64 j ∧ Hid (i = (dropG Hd.stay m (T.take j)).2.length ∧ ∃ M : List Hd, i + M.length = j ∧ Has w' (row (.slice (some ⟨g, 0, none⟩) T.length c) 76 4 ((dropG Hd.stay m (T.take j)).2 ++ M ++ T.drop j).length (hcells ((dropG Hd.stay m (T.take j)).2 ++ M ++ T.drop j)) :: boxI q (dropG Hd.stay m (T.take j)).1 :: L)) ∧ Hid (Keep w w')) (fun _ b _ => T.length - (intOf b).toNat)
    case atStart =>
      obtain ⟨M, hM, hH⟩ := HX.out
      refine ⟨i0, i0 + 1, by omega, by have := HI0.out; omega, rfl, rfl, hid ⟨?_, M, hM, ?_⟩, HK2⟩
      · rw [HE.out]
        show i0 = (T.take i0).length
        rw [List.length_take]; have := HI0.out; omega
      · rw [HE.out]; exact hH
    case round =>
      clear HX HK2 HE HI0 hib hi00 hi1
      obtain ⟨i, j, hij, hj, rfl, rfl, HX, HK⟩ := hrel
      obtain ⟨hi, M, hM, hO⟩ := HX.out
      have HO := hid hO
      have HI := hid hi
      have HMM := hid hM
      clear hO hi hM HX
      by_cases hlt : j < T.length
      · have hji : (j : Int) < (T.length : Int) := by omega
        have hj0 : (0 : Int) ≤ (j : Int) := by omega
        have hi0 : (0 : Int) ≤ (i : Int) := by omega
        have hin : (i : Int) < (T.length : Int) := by omega
        have hnb : (T.length : Int) ≤ 1000000 := by have := HL.out; omega
        generalize hK : (dropG Hd.stay m (T.take j)).2 = K at *
        generalize hmj : (dropG Hd.stay m (T.take j)).1 = mj at *
        have HKD := hid hK
        have HMJ := hid hmj
        have hlen : (K ++ M ++ T.drop j).length = T.length := by
          have := HI.out; have := HMM.out
          simp only [List.length_append, List.length_drop]; omega
        have hat : (K ++ M ++ T.drop j)[j]'(by omega) = T[j] := by
          have := HI.out; have := HMM.out
          rw [List.getElem_append_right (by simp only [List.length_append]; omega), List.getElem_drop]
          congr 1
          simp only [List.length_append]; omega
        obtain ⟨c0, c1, c2, c3⟩ := hd_cells HO.out.rd j (by omega)
        rw [hat] at c0 c1 c2 c3
        simp only [Nat.zero_add] at c0 c1 c2 c3
        have HLEN := hid hlen
        have HT1 := hid (take_one hlt)
        have HDR := hid (show T.drop j = T[j] :: T.drop (j + 1) from List.drop_eq_getElem_cons hlt)
        have HXM := hid (H1.out T[j] (List.getElem_mem hlt))
        have HLT := hid hlt
        have HIJ := hid hij
        have hmb := dropG_num Hd.stay m (T.take j)
        rw [hmj] at hmb
        have HMB := hid (show mj ≤ 1000000000 by have := HM.out; omega)
        generalize T[j] = x at *
        clear hK hmj hlen hat hlt hj hij hmb
        obtain ⟨xa, ⟨xv, xb⟩, xd, xp⟩ := x
        obtain ⟨px, nx, cx, hxv⟩ := HXM.out
        dsimp only at hxv
        subst hxv
        dsimp only at c0 c1 c2 c3
        have HO3 := hid ((HO.out.alloc (.cells #[.int .i64 xa, .slice px nx cx, .bool xd, .bool xp] 76)))
        have HK3 := hid (HK.out.alloc (.cells #[.int .i64 xa, .slice px nx cx, .bool xd, .bool xp] 76))
        by_cases hst : mj ≤ 0 ∨ (⟨xa, ⟨.slice px nx cx, xb⟩, xd, xp⟩ : Hd).stay = true
        · have HF := hid (cDropNo (⟨xa, ⟨.slice px nx cx, xb⟩, xd, xp⟩ : Hd) q mj _ _ hst HO3.out.p2)
          have HNX := hid (show dropG Hd.stay m (T.take (j + 1)) = (mj, K ++ [(⟨xa, ⟨.slice px nx cx, xb⟩, xd, xp⟩ : Hd)]) by
            rw [HT1.out, dropG_append, HKD.out, HMJ.out, dropG_one, if_pos hst])
          clear hst
          unfold hdV at HF
          dsimp only at HF
          go_wp2_with fail
          refine HF.out.mono ?_
          rintro e w5 ⟨rfl, h5, k5⟩
          have HO5 := hid h5
          have HK5 := hid (HK3.out.trans k5)
          clear h5 k5 c0 c1 c2 c3 HO3 HK3 HF HO HK
          try dsimp only
          have hcx := HO5.out.p1.cells
          have hrow := HO5.out.p2
          obtain ⟨d0, d1, d2, d3⟩ := hd_cells hrow.rd i (by rw [HLEN.out]; omega)
          have hth := (hrow.row_cells).2.2.1
          simp only [Nat.zero_add] at d0 d1 d2 d3
          have HP := hid (Has.put4 hrow i (by rw [HLEN.out]; omega) (⟨xa, ⟨.slice px nx cx, xb⟩, xd, xp⟩ : Hd))
          clear hrow
          go_wp2_with fail
          obtain ⟨y, M0, hM0⟩ : ∃ y M0, M = y :: M0 := by
            rcases M with _ | ⟨y, M0⟩
            · have := HMM.out; have := HIJ.out; simp at *; omega
            · exact ⟨y, M0, rfl⟩
          have hset : (K ++ M ++ T.drop j).set i (⟨xa, ⟨.slice px nx cx, xb⟩, xd, xp⟩ : Hd) = K ++ [(⟨xa, ⟨.slice px nx cx, xb⟩, xd, xp⟩ : Hd)] ++ (M0 ++ [(⟨xa, ⟨.slice px nx cx, xb⟩, xd, xp⟩ : Hd)]) ++ T.drop (j + 1) := by
            rw [HDR.out, hM0, HI.out]
            simp [List.set_append_right]
          rw [hset] at HP
          refine ⟨⟨i + 1, j + 1, by have := HIJ.out; omega, by have := HLT.out; omega, rfl, rfl, hid ⟨?_, M0 ++ [(⟨xa, ⟨.slice px nx cx, xb⟩, xd, xp⟩ : Hd)], ?_, ?_⟩, hid ((((HK5.out.set _ _).set _ _).set _ _).set _ _)⟩, by have := HLT.out; simp [intOf]; omega⟩
          · rw [HNX.out]
            show i + 1 = (K ++ [_]).length
            rw [List.length_append, HI.out]; rfl
          · have := HMM.out
            rw [hM0] at this
            simp only [List.length_append, List.length_cons, List.length_nil] at *
            omega
          · rw [HNX.out]
            exact HP.out.re 3 [0, 1]
        · have hst2 : (⟨xa, ⟨.slice px nx cx, xb⟩, xd, xp⟩ : Hd).stay = false := by
            cases e : (⟨xa, ⟨.slice px nx cx, xb⟩, xd, xp⟩ : Hd).stay
            · rfl
            · exact absurd (.inr e) hst
          have HF := hid (cDropYes (⟨xa, ⟨.slice px nx cx, xb⟩, xd, xp⟩ : Hd) q mj _ _ (by omega) HMB.out hst2 HO3.out.p2)
          have HNX := hid (show dropG Hd.stay m (T.take (j + 1)) = (mj - 1, K) by
            rw [HT1.out, dropG_append, HKD.out, HMJ.out, dropG_one, if_neg hst, List.append_nil])
          clear hst hst2
          unfold hdV at HF
          dsimp only at HF
          go_wp2_with fail
          refine HF.out.mono ?_
          rintro e w5 ⟨rfl, h5, k5⟩
          have HO5 := hid h5
          have HK5 := hid (HK3.out.trans k5)
          clear h5 k5 c0 c1 c2 c3 HO3 HK3 HF HO HK
          try dsimp only
          go_wp2_with fail
          refine ⟨⟨i, j + 1, by have := HIJ.out; omega, by have := HLT.out; omega, rfl, rfl, hid ⟨?_, M ++ [(⟨xa, ⟨.slice px nx cx, xb⟩, xd, xp⟩ : Hd)], ?_, ?_⟩, HK5⟩, by have := HLT.out; simp [intOf]; omega⟩
          · rw [HNX.out]; exact HI.out
          · have := HMM.out
            simp only [List.length_append, List.length_cons, List.length_nil]
            omega
          · rw [HNX.out]
            have h := HO5.out.re 3 [2, 0]
            rw [HDR.out] at h
            have e : K ++ M ++ (⟨xa, ⟨.slice px nx cx, xb⟩, xd, xp⟩ : Hd) :: T.drop (j + 1) = K ++ (M ++ [(⟨xa, ⟨.slice px nx cx, xb⟩, xd, xp⟩ : Hd)]) ++ T.drop (j + 1) := by simp
            rw [e] at h
            exact h
      · obtain rfl : j = T.length := by omega
        have hji : ¬ (T.length : Int) < (T.length : Int) := by omega
        have hi0 : (0 : Int) ≤ (i : Int) := by omega
        have hin : (i : Int) ≤ (T.length : Int) := by omega
        have hnb : (T.length : Int) ≤ 1000000 := by have := HL.out; omega
        rw [List.take_length] at HO HI
        rw [List.drop_length, List.append_nil] at HO
        have hca := (HO.out.row_cells).2.2.2.1
        have hlen : ((dropG Hd.stay m T).2 ++ M).length = T.length := by rw [List.length_append, ← HI.out]; exact HMM.out
        rw [hlen] at HO hca
        have hcai : (T.length : Int) ≤ (c : Int) := by omega
        have HIL := hid (show i ≤ T.length by omega)
        clear hj hlt hlen hca
        go_wp2_with (refine wpList_clearTail rfl _ _ rfl HO.out Try.underlying68 zeroHeld zeroH_size zeroH_one i HIL.out (some ⟨g, i * 4, none⟩) (c - i) rfl (fun _ => rfl) ?_)
        intro w7 h7 k7
        have HO7 := hid (show Has w7 (row (.slice (some ⟨g, 0, none⟩) i c) 76 4 (dropG Hd.stay m T).2.length (hcells (dropG Hd.stay m T).2) :: boxI q (dropG Hd.stay m T).1 :: L) from by
          rw [hcells_take, List.take_left' HI.out.symm] at h7
          rw [← HI.out]
          exact h7)
        have HK7 := hid (HK.out.trans k7)
        clear h7 k7
        go_wp2_with fail
        go_ret
        exact ⟨_, rfl, HO7.out, HK7.out⟩
set_option maxRecDepth 100000 in
set_option maxHeartbeats 4000000 in
theorem cDrop (dv : Value) (most : Int) (v : Value) (T : List Hd) (q : Nat) (m : Int) (w : World) (L : List HP) (hm : m ≤ 1000000000) (hl : T.length ≤ 1000000) (h1 : one1 T) (hO : Has w (pt q (.cells (caC dv most v) 70) :: row v 76 4 T.length (hcells T) :: L)) :
    Calls Try.prog 36 #[.pointer (some ⟨q, 0, none⟩), .int .i64 m] w fun e w' => e = .returned (.int .i64 ((T.length : Int) - ((dropG Hd.stay m T).2.length : Int))) ∧ (∃ v', Has w' (pt q (.cells (caC dv most v') 70) :: row v' 76 4 (dropG Hd.stay m T).2.length (hcells (dropG Hd.stay m T).2) :: L)) ∧ Keep w w' := by
  have HO := hid (hO.alloc (.cells #[.int .i64 m] 3))
  have HK := hid ((Keep.refl w).alloc (.cells #[.int .i64 m] 3))
  have hc1 := HO.out.p1.cells
  have HD := hid (cDeleteFunc v T w.heap.size m _ _ hm hl h1 (HO.out.re 3 [2, 0, 1]))
  obtain ⟨p, c, rfl, -⟩ := hO.p1.rd.form
  have HL := hid (show (T.length : Int) ≤ 1000000 by omega)
  have HLE := hid (dropG_le Hd.stay m T)
  clear hO hm hl h1
  unfold caC at *
  go_enter Try.func36, Try.ntmps36
  go_wp2_with fail
  refine HD.out.mono ?_
  rintro e w2 ⟨v2, rfl, h2, k2⟩
  have HO2 := hid (show Has w2 (pt q (.cells #[dv, .int .i64 most, .slice p T.length c] 70) :: row v2 76 4 (dropG Hd.stay m T).2.length (hcells (dropG Hd.stay m T).2) :: L) from h2.re 3 [2, 0])
  have HK2 := hid (HK.out.trans k2)
  obtain ⟨p2, c2, rfl, -⟩ := HO2.out.p1.rd.form
  clear h2 k2 hc1 HD HO
  try dsimp only
  have hc2 := HO2.out.cells
  have ht2 := HO2.out.thaw
  have hw : wrap64 ((T.length : Int) - ((dropG Hd.stay m T).2.length : Int)) = (T.length : Int) - ((dropG Hd.stay m T).2.length : Int) := by
    have := HL.out; have := HLE.out
    unfold wrap64; omega
  have HW := hid hw
  clear hw
  go_wp2_with fail
  go_ret
  exact ⟨congrArg (fun z => Ending.returned (Value.int .i64 z)) HW.out, ⟨_, HO2.out.set 2 _⟩, HK2.out.set _ _⟩
end Go.Proofs.Ytajlikakbihgbaa
