/- TEXTS of mine, merged. -/
import Derived.Test.YtajlikakbihgbaaM6
import Derived.Test.YtajlikakbihgbaaM3
/- clear of a slice's end: what is ahead of it stays. No program in sight. -/
namespace Go.Own
open Go.RowKit
section
variable {w : World} {l : List HP} {e : TypeId} {size n cap g : Nat} {xs : List Value}
theorem Has.row_less (h : Has w (row (.slice (some ⟨g, 0, none⟩) n cap) e size n xs :: l)) (k : Nat) (hk : k ≤ n) : Has w (row (.slice (some ⟨g, 0, none⟩) k cap) e size k (xs.take (k * size)) :: l) := by
  obtain ⟨hl, h1 | ⟨g', cap', cur, e1, h1, h2, h3, h4, h5⟩⟩ := h.row_cases
  · exact absurd h1.1 (by simp)
  · simp only [Value.slice.injEq, Option.some.injEq, Addr.mk.injEq, true_and] at e1
    obtain ⟨⟨rfl, -⟩, rfl⟩ := e1
    have hm : k * size ≤ n * size := Nat.mul_le_mul_right _ hk
    refine h5.row_of (by omega) h2 h3 ?_ (by rw [List.length_take]; omega)
    rw [← h4, List.take_take, Nat.min_eq_left hm]
theorem Has.clearTail {P : Program} (hO : Has w (row (.slice (some ⟨g, 0, none⟩) n cap) e size n xs :: l)) (t ty : TypeId) (ht : P.underlying t = some (.slice e)) {z : Value} (hz : ∀ w, (zeroValue e).run P w = .ok z w) (hzs : z.cells.size = size) (h1 : ∀ u ∈ z.cells.toList, u.oneCell' = true)
    (k : Nat) (hk : k ≤ n) (ad : Option Addr) (c' : Nat) (had : k < n → ad = some ⟨g, k * size, none⟩) :
    ∃ w', (Builtin.clear_ #[t] ty #[.slice ad (n - k) c']).run P w = .ok (.tuple #[]) w' ∧ Has w' (row (.slice (some ⟨g, 0, none⟩) k cap) e size k (xs.take (k * size)) :: l) ∧ Keep w w' := by
  by_cases hkn : k = n
  · subst hkn
    refine ⟨w, ?_, hO.row_less k (Nat.le_refl _), Keep.refl w⟩
    rw [Nat.sub_self]
    cases ad <;> simp [Builtin.clear_, run_underlying ht]
  · obtain rfl := had (by omega)
    obtain ⟨hl, h2 | ⟨g', cap', cur, e1, h3, h4, h5, h6, h7⟩⟩ := hO.row_cases
    · exact absurd h2.1 (by simp)
    · simp only [Value.slice.injEq, Option.some.injEq, Addr.mk.injEq, true_and] at e1
      obtain ⟨⟨rfl, -⟩, rfl⟩ := e1
      have hzl : (Builtin.zeroCells z.cells (n - k)).toList.length = (n - k) * size := by rw [Array.length_toList, size_zeroCells, hzs]
      have hone : ∀ v ∈ (Builtin.zeroCells z.cells (n - k)).toList, v.oneCell' = true := by
        intro v hv
        obtain ⟨i, hi, rfl⟩ := List.getElem_of_mem hv
        have hi2 : i < (n - k) * z.cells.size := by rw [hzs, ← hzl]; exact hi
        have hp : 0 < z.cells.size := Nat.pos_of_mul_pos_left (Nat.lt_of_le_of_lt (Nat.zero_le _) hi2)
        have : (Builtin.zeroCells z.cells (n - k)).toList[i] ∈ z.cells.toList := by
          unfold Builtin.zeroCells
          simp
          have hm := Nat.mod_lt i hp
          rw [getElem!_pos z.cells _ hm]
          exact Array.getElem_mem hm
        exact h1 _ this
      have hms : (n - k) * size + k * size = n * size := by rw [← Nat.add_mul]; congr 1; omega
      have hmc : n * size ≤ cap * size := Nat.mul_le_mul_right _ h3
      have hst := run_storeCells_at P g (k * size) e (Builtin.zeroCells z.cells (n - k)).toList 0 cur w h7.lookup (by rw [hzl, h5]; omega) hone
      simp only [Nat.add_zero] at hst
      refine ⟨w.setRow g (cur.toList.take (k * size) ++ (Builtin.zeroCells z.cells (n - k)).toList ++ cur.toList.drop (k * size + (Builtin.zeroCells z.cells (n - k)).toList.length)).toArray, ?_, ?_, ⟨rfl, rfl, rfl, by simp⟩⟩
      · obtain ⟨m, hm⟩ : ∃ m, n - k = m + 1 := ⟨n - k - 1, by omega⟩
        rw [hm] at hst ⊢
        simp [Builtin.clear_, run_underlying ht, hz, hst]
      · refine (h7.turn (fun k _ hk => setRow_other w g k _ hk) (setRow_heap w g cur _ e _ h7.lookup)).row_of (by omega) h4 ?_ ?_ (by rw [List.length_take]; omega)
        · simp only [List.size_toArray, List.length_append, List.length_take, List.length_drop, Array.length_toList, hzl]
          omega
        · simp only [List.append_assoc]
          rw [List.take_append_of_le_length (by rw [List.length_take, Array.length_toList, h5]; omega), List.take_take, Nat.min_self, ← h6, List.take_take, Nat.min_eq_left (by omega)]
theorem wpList_clearTail {P : Program} {ops : Array Oper} {rest : List Oper} {o : Oper} {a : Act} {Q : Exit → Act → World → Prop} (hgd : o.guard = none) (x : Operand) (t : TypeId) (ho : o.op = .call { callee := .builtin .clear, args := #[x], argTypes := #[t] })
    (hO : Has w (row (.slice (some ⟨g, 0, none⟩) n cap) e size n xs :: l)) (ht : P.underlying t = some (.slice e)) {z : Value} (hz : ∀ w, (zeroValue e).run P w = .ok z w) (hzs : z.cells.size = size) (h1 : ∀ u ∈ z.cells.toList, u.oneCell' = true)
    (k : Nat) (hk : k ≤ n) (ad : Option Addr) (c' : Nat) (hx : a.eval x = .slice ad (n - k) c') (had : k < n → ad = some ⟨g, k * size, none⟩)
    (h : ∀ w', Has w' (row (.slice (some ⟨g, 0, none⟩) k cap) e size k (xs.take (k * size)) :: l) → Keep w w' → wpList P ops Q rest (a.put o.dst (.tuple #[])) w') : wpList P ops Q (o :: rest) a w :=
  wpList_plain hgd fun K hK => by
    obtain ⟨w', hrun, h2, h3⟩ := hO.clearTail (P := P) t o.type ht hz hzs h1 k hk ad c' had
    unfold Oper.wp execOp
    simp only [ho, resolve, invoke, builtin, Sem.run_bind, Sem.run_pure, Result.andThen_ok, List.map_toArray, List.map_cons, List.map_nil, hx, hrun]
    exact hK _ _ (h w' h2 h3)
end
end Go.Own
/- THE WALKS of what a cache gives up. -/
namespace Go.Proofs.Ytajlikakbihgbaa
open Go.RowKit Go.Own Go.Ch
abbrev boxI (q : Nat) (m : Int) : HP := pt q (.cells #[.int .i64 m] 3)
set_option maxRecDepth 100000 in
set_option maxHeartbeats 4000000 in
theorem cDropNo (h : Hd) (q : Nat) (m : Int) (w : World) (L : List HP) (hn : m ≤ 0 ∨ h.stay = true) (hO : Has w (boxI q m :: L)) :
    Calls Try.prog 58 #[hdV h, .pointer (some ⟨q, 0, none⟩)] w fun e w' => e = .returned (.bool false) ∧ Has w' (boxI q m :: L) ∧ Keep w w' := by
  have HO := hid (hO.alloc (.cells (hdC h) 76))
  have HK := hid ((Keep.refl w).alloc (.cells (hdC h) 76))
  have hc1 := (hO.alloc (.cells (hdC h) 76)).cells
  have hc2 := (hO.alloc (.cells (hdC h) 76)).p1.cells
  clear hO
  unfold hdV hdC at *
  by_cases hm : m ≤ 0
  · clear hn
    go_enter Try.func58, Try.ntmps58
    go_wp2_with fail
    go_ret
    exact ⟨rfl, HO.out.drop, HK.out⟩
  · have hs := hn.resolve_left hm
    have hm3 : ¬ m ≤ 0 := hm
    clear hn
    unfold Hd.stay at hs
    cases hd : h.dirty
    · rw [hd, Bool.false_or] at hs
      rw [hd] at hc1 hc2 HO HK
      rw [hs] at hc1 hc2 HO HK ⊢
      go_enter Try.func58, Try.ntmps58
      go_wp2_with fail
      go_ret
      exact ⟨rfl, HO.out.drop, HK.out⟩
    · rw [hd] at hc1 hc2 HO HK
      clear hs
      go_enter Try.func58, Try.ntmps58
      go_wp2_with fail
      go_ret
      exact ⟨rfl, HO.out.drop, HK.out⟩
set_option maxRecDepth 100000 in
set_option maxHeartbeats 4000000 in
theorem cDropYes (h : Hd) (q : Nat) (m : Int) (w : World) (L : List HP) (hm : 0 < m) (hm2 : m ≤ 1000000000) (hs : h.stay = false) (hO : Has w (boxI q m :: L)) :
    Calls Try.prog 58 #[hdV h, .pointer (some ⟨q, 0, none⟩)] w fun e w' => e = .returned (.bool true) ∧ Has w' (boxI q (m - 1) :: L) ∧ Keep w w' := by
  have HO := hid (hO.alloc (.cells (hdC h) 76))
  have HK := hid ((Keep.refl w).alloc (.cells (hdC h) 76))
  have hc1 := (hO.alloc (.cells (hdC h) 76)).cells
  have hc2 := (hO.alloc (.cells (hdC h) 76)).p1.cells
  have ht2 := (hO.alloc (.cells (hdC h) 76)).p1.thaw
  clear hO
  unfold hdV hdC at *
  unfold Hd.stay at hs
  rw [Bool.or_eq_false_iff] at hs
  obtain ⟨hd, hp⟩ := hs
  rw [hd] at hc1 hc2 ht2 HO HK ⊢
  rw [hp] at hc1 hc2 ht2 HO HK ⊢
  clear hd hp
  have hm3 : ¬ m ≤ 0 := by omega
  go_enter Try.func58, Try.ntmps58
  go_wp2_with fail
  go_ret
  refine ⟨rfl, ?_, HK.out.set _ _⟩
  exact (HO.out.p1.set 0 (.int .i64 (m - 1))).p1.drop
theorem drop_skip {m : Int} {T : List Hd} {k : Nat} (h : ∀ j (hj : j < T.length), j < k → m ≤ 0 ∨ T[j].stay = true) : dropG Hd.stay m (T.take k) = (m, T.take k) := by
  by_cases hm : m ≤ 0
  · exact dropG_none _ (.inl hm)
  · refine dropG_none _ (.inr fun x hx => ?_)
    obtain ⟨j, hj, rfl⟩ := List.getElem_of_mem hx
    rw [List.length_take] at hj
    rw [List.getElem_take]
    exact (h j (by omega) (by omega)).resolve_left hm
theorem take_one {T : List Hd} {k : Nat} (hk : k < T.length) : T.take (k + 1) = T.take k ++ [T[k]] := List.take_succ_eq_append_getElem hk
set_option maxRecDepth 100000 in
set_option maxHeartbeats 4000000 in
theorem cIndexDrop (v : Value) (T : List Hd) (q : Nat) (m : Int) (w : World) (L : List HP) (hm : m ≤ 1000000000) (hr : ∀ w' m', Has w' (boxI q m' :: L) → Rd w' v 4 T.length (hcells T)) (hl : T.length ≤ 1000000) (hO : Has w (boxI q m :: L)) :
    Calls Try.prog 59 #[v, .func (Fn.func 58) #[] #[.pointer (some ⟨q, 0, none⟩)]] w fun e w' => (∃ r : Option Nat, e = .returned (.int .i64 (atN r)) ∧ match r with
      | none => dropG Hd.stay m T = (m, T) ∧ Has w' (boxI q m :: L)
      | some i => i < T.length ∧ dropG Hd.stay m (T.take (i + 1)) = (m - 1, T.take i) ∧ Has w' (boxI q (m - 1) :: L)) ∧ Keep w w' := by
  obtain ⟨p, c, rfl, -, -, hcs⟩ := (hr w m hO).form
  have HO := hid hO
  have HK := hid (Keep.refl w)
  have HR := hid hr
  have HL := hid hl
  have HCS := hid hcs
  have HM := hid hm
  clear hr hO hl hcs hm
  go_enter Try.func59, Try.ntmps59
  go_wp2_with fail
  go_loopw [8] (fun i w' => ∃ k : Nat, k ≤ T.length ∧ i = .int .i64 k ∧ Hid (∀ j (hj : j < T.length), j < k → m ≤ 0 ∨ T[j].stay = true) ∧ Hid (Has w' (boxI q m :: L)) ∧ Hid (Keep w w')) (fun i _ => T.length - (intOf i).toNat)
  case atStart => exact ⟨0, by omega, rfl, hid fun j hj h => by omega, HO, HK⟩
  case round =>
    clear HO HK
    obtain ⟨k, hk, rfl, HN, HO, HK⟩ := hrel
    by_cases hlt : k < T.length
    · have hki : (k : Int) < (T.length : Int) := by omega
      have hk0 : (0 : Int) ≤ (k : Int) := by omega
      have hnb : (T.length : Int) ≤ 1000000 := by have := HL.out; omega
      obtain ⟨g, o, rfl, -⟩ := HCS.out (by omega)
      obtain ⟨c0, c1, c2, c3⟩ := hd_cells (HR.out wr m HO.out) k hlt
      have HLT := hid hlt
      have HT1 := hid (take_one hlt)
      generalize hx : T[k] = x at *
      have HX := hid hx
      clear hx hlt hk
      by_cases hst : m ≤ 0 ∨ x.stay = true
      · have HF := hid (cDropNo x q m wr L hst HO.out)
        unfold hdV at HF
        have HN2 := hid (show ∀ j (hj : j < T.length), j < k + 1 → m ≤ 0 ∨ T[j].stay = true from fun j hj h => by
          by_cases e : j = k
          · have e2 : T[j] = x := by simp only [e]; exact HX.out
            rw [e2]; exact hst
          · exact HN.out j hj (by omega))
        clear hst
        go_wp2_with fail
        refine HF.out.mono ?_
        rintro e w2 ⟨rfl, h2, k2⟩
        have HO2 := hid h2
        have HK2 := hid (HK.out.trans k2)
        clear h2 k2 c0 c1 c2 c3
        try dsimp only
        go_wp2_with fail
        exact ⟨⟨k + 1, by have := HLT.out; omega, rfl, HN2, HO2, HK2⟩, by have := HLT.out; simp [intOf]; omega⟩
      · have HST := hid hst
        have hst2 : x.stay = false := by
          cases e : x.stay
          · rfl
          · exact absurd (.inr e) hst
        have HF := hid (cDropYes x q m wr L (by omega) HM.out hst2 HO.out)
        unfold hdV at HF
        clear hst hst2
        go_wp2_with fail
        refine HF.out.mono ?_
        rintro e w2 ⟨rfl, h2, k2⟩
        have HO2 := hid h2
        have HK2 := hid (HK.out.trans k2)
        clear h2 k2 c0 c1 c2 c3
        try dsimp only
        go_wp2_with fail
        go_ret
        refine ⟨⟨some k, rfl, HLT.out, ?_, HO2.out⟩, HK2.out⟩
        rw [HT1.out, dropG_append, drop_skip HN.out, dropG_one, if_neg HST.out, List.append_nil]
    · have hki : ¬ (k : Int) < (T.length : Int) := by omega
      obtain rfl : k = T.length := by omega
      clear hlt hk
      go_wp2_with fail
      go_ret
      refine ⟨⟨none, rfl, ?_, HO.out⟩, HK.out⟩
      have := drop_skip HN.out
      rwa [List.take_length] at this
end Go.Proofs.Ytajlikakbihgbaa
/- THE WALKS of slices.DeleteFunc, drop and settle of a cache. -/
namespace Go.Proofs.Ytajlikakbihgbaa
open Go.RowKit Go.Own Go.Ch
theorem hcells_put (T : List Hd) (i : Nat) (hi : i < T.length) (x : Hd) :
    ((((hcells T).set (i * 4) (.int .i64 x.at_)).set (i * 4 + 1) x.t.1).set (i * 4 + 2) (.bool x.dirty)).set (i * 4 + 3) (.bool x.pin) = hcells (T.set i x) := by
  induction T generalizing i with
  | nil => simp at hi
  | cons h T ih =>
    cases i with
    | zero => rfl
    | succ i =>
      rw [List.set_cons_succ, hcells_cons, hcells_cons, ← ih i (by simpa using hi)]
      have e0 : (i + 1) * 4 = (Ch.hc h).length + i * 4 := by simp [Ch.hc]; omega
      rw [e0]
      simp only [Nat.add_assoc, List.set_append_right _ _ (Nat.le_add_right _ _), Nat.add_sub_cancel_left]
def zeroH : Value := .agg #[.int .i64 0, .slice none 0 0, .bool false, .bool false]
theorem zeroHeld (w : World) : (zeroValue 76).run Try.prog w = .ok zeroH w := (Try.zeroValue76 w).trans rfl
theorem zeroH_size : zeroH.cells.size = 4 := rfl
theorem zeroH_one : ∀ u ∈ zeroH.cells.toList, u.oneCell' = true := by
  intro u hu
  simp only [zeroH, Value.cells, List.mem_cons, List.not_mem_nil, or_false] at hu
  rcases hu with rfl | rfl | rfl | rfl <;> rfl
/-- Four cells of an element, laid anew. -/
theorem Has.put4 {w : World} {L : List HP} {g n c : Nat} {T : List Hd} (h : Has w (row (.slice (some ⟨g, 0, none⟩) n c) 76 4 T.length (hcells T) :: L)) (i : Nat) (hi : i < T.length) (x : Hd) :
    Has ((((w.setCell ⟨g, i * 4, none⟩ (.int .i64 x.at_)).setCell ⟨g, i * 4 + 1, none⟩ x.t.1).setCell ⟨g, i * 4 + 2, none⟩ (.bool x.dirty)).setCell ⟨g, i * 4 + 3, none⟩ (.bool x.pin)) (row (.slice (some ⟨g, 0, none⟩) n c) 76 4 (T.set i x).length (hcells (T.set i x)) :: L) := by
  have h1 := h.row_set (i * 4) (by omega) (.int .i64 x.at_)
  have h2 := h1.row_set (i * 4 + 1) (by omega) x.t.1
  have h3 := h2.row_set (i * 4 + 2) (by omega) (.bool x.dirty)
  have h4 := h3.row_set (i * 4 + 3) (by omega) (.bool x.pin)
  rw [hcells_put T i hi x] at h4
  rw [List.length_set]
  exact h4
/-- Of what a text's slice is. -/
def one1 (T : List Hd) : Prop := ∀ x ∈ T, ∃ p n c, x.t.1 = .slice p n c
set_option maxRecDepth 100000 in
set_option maxHeartbeats 8000000 in
theorem cDeleteFunc (v : Value) (T : List Hd) (q : Nat) (m : Int) (w : World) (L : List HP) (hm : m ≤ 1000000000) (hl : T.length ≤ 1000000) (h1 : one1 T) (hO : Has w (row v 76 4 T.length (hcells T) :: boxI q m :: L)) :
    Calls Try.prog 57 #[v, .func (Fn.func 58) #[] #[.pointer (some ⟨q, 0, none⟩)]] w fun e w' => ∃ v', e = .returned v' ∧ Has w' (row v' 76 4 (dropG Hd.stay m T).2.length (hcells (dropG Hd.stay m T).2) :: boxI q (dropG Hd.stay m T).1 :: L) ∧ Keep w w' := by
  obtain ⟨p, c, rfl, -, -, hcs⟩ := hO.rd.form
  have HCS := hid hcs
  have HI := hid (cIndexDrop (.slice p T.length c) T q m w _ hm (fun w' m' h => Has.rd h.p1) hl hO.p1)
  have HL := hid hl
  have HM := hid hm
  have H1 := hid h1
  have hcnt := dropG_num Hd.stay m T
  have HO := hid hO
  clear hO hcs hl hm h1 hcnt
  go_enter Try.func57, Try.ntmps57
  go_wp2_with fail
  refine HI.out.mono ?_
  rintro e w2 ⟨⟨r, rfl, hr⟩, k2⟩
  have HK2 := hid k2
  clear k2 HI
  rcases r with _ | i0
  · obtain ⟨e1, h2⟩ := hr
    have HO2 := hid h2
    have HE := hid e1
    clear h2 e1
    simp only [atN]
    go_wp2_with fail
    go_ret
    refine ⟨_, rfl, ?_, HK2.out⟩
    rw [HE.out]
    exact HO2.out.p1
  · obtain ⟨hi0, e1, h2⟩ := hr
    obtain ⟨g, o, hp, -⟩ := HCS.out (by omega)
    have ho : o = 0 := by
      obtain ⟨_, h | ⟨g', c', cur, e, _⟩⟩ := h2.p1.row_cases
      · rw [hp] at h; cases h.1
      · rw [hp] at e; simp at e; exact e.1.2
    subst ho
    subst hp
    have HX : Hid (∃ M : List Hd, i0 + M.length = i0 + 1 ∧ Has w2 (row (.slice (some ⟨g, 0, none⟩) T.length c) 76 4 (T.take i0 ++ M ++ T.drop (i0 + 1)).length (hcells (T.take i0 ++ M ++ T.drop (i0 + 1))) :: boxI q (m - 1) :: L)) := hid ⟨[T[i0]], by simp, by
      have e : T.take i0 ++ [T[i0]] ++ T.drop (i0 + 1) = T := by rw [← take_one hi0, List.take_append_drop]
      rw [e]; exact h2.p1⟩
    have HE := hid e1
    have HI0 := hid hi0
    have hib : (i0 : Int) < 1000000 := by have := HL.out; omega
    have hi00 : (0 : Int) ≤ (i0 : Int) := by omega
    have hi1 : ((i0 : Int) == -1) = false := by simp
    clear h2 e1 HO hi0
    simp only [atN]
    go_wp2_with fail
    go_loopw [5, 6] (fun a b w' => ∃ i j : Nat, i < j ∧ j ≤ T.length ∧ a = .int .i64 i ∧ b = .int .i64 j ∧ Hid (i = (dropG Hd.stay m (T.take j)).2.length ∧ ∃ M : List Hd, i + M.length = j ∧ Has w' (row (.slice (some ⟨g, 0, none⟩) T.length c) 76 4 ((dropG Hd.stay m (T.take j)).2 ++ M ++ T.drop j).length (hcells ((dropG Hd.stay m (T.take j)).2 ++ M ++ T.drop j)) :: boxI q (dropG Hd.stay m (T.take j)).1 :: L)) ∧ Hid (Keep w w')) (fun _ b _ => T.length - (intOf b).toNat)
    case atStart =>
      obtain ⟨M, hM, hH⟩ := HX.out
      refine ⟨i0, i0 + 1, by omega, by have := HI0.out; omega, rfl, rfl, hid ⟨?_, M, hM, ?_⟩, HK2⟩
      · rw [HE.out]
        show i0 = (T.take i0).length
        rw [List.length_take]; have := HI0.out; omega
      · rw [HE.out]; exact hH
    case round =>
      clear HX HK2 HE HI0 hib hi00 hi1
      obtain ⟨i, j, hij, hj, rfl, rfl, HX, HK⟩ := hrel
      obtain ⟨hi, M, hM, hO⟩ := HX.out
      have HO := hid hO
      have HI := hid hi
      have HMM := hid hM
      clear hO hi hM HX
      by_cases hlt : j < T.length
      · have hji : (j : Int) < (T.length : Int) := by omega
        have hj0 : (0 : Int) ≤ (j : Int) := by omega
        have hi0 : (0 : Int) ≤ (i : Int) := by omega
        have hin : (i : Int) < (T.length : Int) := by omega
        have hnb : (T.length : Int) ≤ 1000000 := by have := HL.out; omega
        generalize hK : (dropG Hd.stay m (T.take j)).2 = K at *
        generalize hmj : (dropG Hd.stay m (T.take j)).1 = mj at *
        have HKD := hid hK
        have HMJ := hid hmj
        have hlen : (K ++ M ++ T.drop j).length = T.length := by
          have := HI.out; have := HMM.out
          simp only [List.length_append, List.length_drop]; omega
        have hat : (K ++ M ++ T.drop j)[j]'(by omega) = T[j] := by
          have := HI.out; have := HMM.out
          rw [List.getElem_append_right (by simp only [List.length_append]; omega), List.getElem_drop]
          congr 1
          simp only [List.length_append]; omega
        obtain ⟨c0, c1, c2, c3⟩ := hd_cells HO.out.rd j (by omega)
        rw [hat] at c0 c1 c2 c3
        simp only [Nat.zero_add] at c0 c1 c2 c3
        have HLEN := hid hlen
        have HT1 := hid (take_one hlt)
        have HDR := hid (show T.drop j = T[j] :: T.drop (j + 1) from List.drop_eq_getElem_cons hlt)
        have HXM := hid (H1.out T[j] (List.getElem_mem hlt))
        have HLT := hid hlt
        have HIJ := hid hij
        have hmb := dropG_num Hd.stay m (T.take j)
        rw [hmj] at hmb
        have HMB := hid (show mj ≤ 1000000000 by have := HM.out; omega)
        generalize T[j] = x at *
        clear hK hmj hlen hat hlt hj hij hmb
        obtain ⟨xa, ⟨xv, xb⟩, xd, xp⟩ := x
        obtain ⟨px, nx, cx, hxv⟩ := HXM.out
        dsimp only at hxv
        subst hxv
        dsimp only at c0 c1 c2 c3
        have HO3 := hid ((HO.out.alloc (.cells #[.int .i64 xa, .slice px nx cx, .bool xd, .bool xp] 76)))
        have HK3 := hid (HK.out.alloc (.cells #[.int .i64 xa, .slice px nx cx, .bool xd, .bool xp] 76))
        by_cases hst : mj ≤ 0 ∨ (⟨xa, ⟨.slice px nx cx, xb⟩, xd, xp⟩ : Hd).stay = true
        · have HF := hid (cDropNo (⟨xa, ⟨.slice px nx cx, xb⟩, xd, xp⟩ : Hd) q mj _ _ hst HO3.out.p2)
          have HNX := hid (show dropG Hd.stay m (T.take (j + 1)) = (mj, K ++ [(⟨xa, ⟨.slice px nx cx, xb⟩, xd, xp⟩ : Hd)]) by
            rw [HT1.out, dropG_append, HKD.out, HMJ.out, dropG_one, if_pos hst])
          clear hst
          unfold hdV at HF
          dsimp only at HF
          go_wp2_with fail
          refine HF.out.mono ?_
          rintro e w5 ⟨rfl, h5, k5⟩
          have HO5 := hid h5
          have HK5 := hid (HK3.out.trans k5)
          clear h5 k5 c0 c1 c2 c3 HO3 HK3 HF HO HK
          try dsimp only
          have hcx := HO5.out.p1.cells
          have hrow := HO5.out.p2
          obtain ⟨d0, d1, d2, d3⟩ := hd_cells hrow.rd i (by rw [HLEN.out]; omega)
          have hth := (hrow.row_cells).2.2.1
          simp only [Nat.zero_add] at d0 d1 d2 d3
          have HP := hid (Has.put4 hrow i (by rw [HLEN.out]; omega) (⟨xa, ⟨.slice px nx cx, xb⟩, xd, xp⟩ : Hd))
          clear hrow
          go_wp2_with fail
          obtain ⟨y, M0, hM0⟩ : ∃ y M0, M = y :: M0 := by
            rcases M with _ | ⟨y, M0⟩
            · have := HMM.out; have := HIJ.out; simp at *; omega
            · exact ⟨y, M0, rfl⟩
          have hset : (K ++ M ++ T.drop j).set i (⟨xa, ⟨.slice px nx cx, xb⟩, xd, xp⟩ : Hd) = K ++ [(⟨xa, ⟨.slice px nx cx, xb⟩, xd, xp⟩ : Hd)] ++ (M0 ++ [(⟨xa, ⟨.slice px nx cx, xb⟩, xd, xp⟩ : Hd)]) ++ T.drop (j + 1) := by
            rw [HDR.out, hM0, HI.out]
            simp [List.set_append_right]
          rw [hset] at HP
          refine ⟨⟨i + 1, j + 1, by have := HIJ.out; omega, by have := HLT.out; omega, rfl, rfl, hid ⟨?_, M0 ++ [(⟨xa, ⟨.slice px nx cx, xb⟩, xd, xp⟩ : Hd)], ?_, ?_⟩, hid ((((HK5.out.set _ _).set _ _).set _ _).set _ _)⟩, by have := HLT.out; simp [intOf]; omega⟩
          · rw [HNX.out]
            show i + 1 = (K ++ [_]).length
            rw [List.length_append, HI.out]; rfl
          · have := HMM.out
            rw [hM0] at this
            simp only [List.length_append, List.length_cons, List.length_nil] at *
            omega
          · rw [HNX.out]
            exact HP.out.re 3 [0, 1]
        · have hst2 : (⟨xa, ⟨.slice px nx cx, xb⟩, xd, xp⟩ : Hd).stay = false := by
            cases e : (⟨xa, ⟨.slice px nx cx, xb⟩, xd, xp⟩ : Hd).stay
            · rfl
            · exact absurd (.inr e) hst
          have HF := hid (cDropYes (⟨xa, ⟨.slice px nx cx, xb⟩, xd, xp⟩ : Hd) q mj _ _ (by omega) HMB.out hst2 HO3.out.p2)
          have HNX := hid (show dropG Hd.stay m (T.take (j + 1)) = (mj - 1, K) by
            rw [HT1.out, dropG_append, HKD.out, HMJ.out, dropG_one, if_neg hst, List.append_nil])
          clear hst hst2
          unfold hdV at HF
          dsimp only at HF
          go_wp2_with fail
          refine HF.out.mono ?_
          rintro e w5 ⟨rfl, h5, k5⟩
          have HO5 := hid h5
          have HK5 := hid (HK3.out.trans k5)
          clear h5 k5 c0 c1 c2 c3 HO3 HK3 HF HO HK
          try dsimp only
          go_wp2_with fail
          refine ⟨⟨i, j + 1, by have := HIJ.out; omega, by have := HLT.out; omega, rfl, rfl, hid ⟨?_, M ++ [(⟨xa, ⟨.slice px nx cx, xb⟩, xd, xp⟩ : Hd)], ?_, ?_⟩, HK5⟩, by have := HLT.out; simp [intOf]; omega⟩
          · rw [HNX.out]; exact HI.out
          · have := HMM.out
            simp only [List.length_append, List.length_cons, List.length_nil]
            omega
          · rw [HNX.out]
            have h := HO5.out.re 3 [2, 0]
            rw [HDR.out] at h
            have e : K ++ M ++ (⟨xa, ⟨.slice px nx cx, xb⟩, xd, xp⟩ : Hd) :: T.drop (j + 1) = K ++ (M ++ [(⟨xa, ⟨.slice px nx cx, xb⟩, xd, xp⟩ : Hd)]) ++ T.drop (j + 1) := by simp
            rw [e] at h
            exact h
      · obtain rfl : j = T.length := by omega
        have hji : ¬ (T.length : Int) < (T.length : Int) := by omega
        have hi0 : (0 : Int) ≤ (i : Int) := by omega
        have hin : (i : Int) ≤ (T.length : Int) := by omega
        have hnb : (T.length : Int) ≤ 1000000 := by have := HL.out; omega
        rw [List.take_length] at HO HI
        rw [List.drop_length, List.append_nil] at HO
        have hca := (HO.out.row_cells).2.2.2.1
        have hlen : ((dropG Hd.stay m T).2 ++ M).length = T.length := by rw [List.length_append, ← HI.out]; exact HMM.out
        rw [hlen] at HO hca
        have hcai : (T.length : Int) ≤ (c : Int) := by omega
        have HIL := hid (show i ≤ T.length by omega)
        clear hj hlt hlen hca
        go_wp2_with (refine wpList_clearTail rfl _ _ rfl HO.out Try.underlying68 zeroHeld zeroH_size zeroH_one i HIL.out (some ⟨g, i * 4, none⟩) (c - i) rfl (fun _ => rfl) ?_)
        intro w7 h7 k7
        have HO7 := hid (show Has w7 (row (.slice (some ⟨g, 0, none⟩) i c) 76 4 (dropG Hd.stay m T).2.length (hcells (dropG Hd.stay m T).2) :: boxI q (dropG Hd.stay m T).1 :: L) from by
          rw [hcells_take, List.take_left' HI.out.symm] at h7
          rw [← HI.out]
          exact h7)
        have HK7 := hid (HK.out.trans k7)
        clear h7 k7
        go_wp2_with fail
        go_ret
        exact ⟨_, rfl, HO7.out, HK7.out⟩
set_option maxRecDepth 100000 in
set_option maxHeartbeats 4000000 in
theorem cDrop (dv : Value) (most : Int) (v : Value) (T : List Hd) (q : Nat) (m : Int) (w : World) (L : List HP) (hm : m ≤ 1000000000) (hl : T.length ≤ 1000000) (h1 : one1 T) (hO : Has w (pt q (.cells (caC dv most v) 70) :: row v 76 4 T.length (hcells T) :: L)) :
    Calls Try.prog 36 #[.pointer (some ⟨q, 0, none⟩), .int .i64 m] w fun e w' => e = .returned (.int .i64 ((T.length : Int) - ((dropG Hd.stay m T).2.length : Int))) ∧ (∃ v', Has w' (pt q (.cells (caC dv most v') 70) :: row v' 76 4 (dropG Hd.stay m T).2.length (hcells (dropG Hd.stay m T).2) :: L)) ∧ Keep w w' := by
  have HO := hid (hO.alloc (.cells #[.int .i64 m] 3))
  have HK := hid ((Keep.refl w).alloc (.cells #[.int .i64 m] 3))
  have hc1 := HO.out.p1.cells
  have HD := hid (cDeleteFunc v T w.heap.size m _ _ hm hl h1 (HO.out.re 3 [2, 0, 1]))
  obtain ⟨p, c, rfl, -⟩ := hO.p1.rd.form
  have HL := hid (show (T.length : Int) ≤ 1000000 by omega)
  have HLE := hid (dropG_le Hd.stay m T)
  clear hO hm hl h1
  unfold caC at *
  go_enter Try.func36, Try.ntmps36
  go_wp2_with fail
  refine HD.out.mono ?_
  rintro e w2 ⟨v2, rfl, h2, k2⟩
  have HO2 := hid (show Has w2 (pt q (.cells #[dv, .int .i64 most, .slice p T.length c] 70) :: row v2 76 4 (dropG Hd.stay m T).2.length (hcells (dropG Hd.stay m T).2) :: L) from h2.re 3 [2, 0])
  have HK2 := hid (HK.out.trans k2)
  obtain ⟨p2, c2, rfl, -⟩ := HO2.out.p1.rd.form
  clear h2 k2 hc1 HD HO
  try dsimp only
  have hc2 := HO2.out.cells
  have ht2 := HO2.out.thaw
  have hw : wrap64 ((T.length : Int) - ((dropG Hd.stay m T).2.length : Int)) = (T.length : Int) - ((dropG Hd.stay m T).2.length : Int) := by
    have := HL.out; have := HLE.out
    unfold wrap64; omega
  have HW := hid hw
  clear hw
  go_wp2_with fail
  go_ret
  exact ⟨congrArg (fun z => Ending.returned (Value.int .i64 z)) HW.out, ⟨_, HO2.out.set 2 _⟩, HK2.out.set _ _⟩
end Go.Proofs.Ytajlikakbihgbaa
/- append within a slice's own block: what is put behind the first ones, whence ever it is read. No program in sight. -/
namespace Go.Own
open Go.RowKit
section
variable {w : World} {l : List HP} {e : TypeId} {size n cap g : Nat} {xs : List Value}
theorem Has.appendIn {P : Program} (hO : Has w (row (.slice (some ⟨g, 0, none⟩) n cap) e size n xs :: l)) (t ty : TypeId) {z : Value} {bytes : Nat} (ht : P.underlying t = some (.slice e)) (hi : (P.info? e).map (fun i => (i.zero, i.size, i.bytes)) = some (some z, size, bytes))
    (i m : Nat) (ys : List Value) (xv : Value) (hr : Rd w xv size m ys) (h1 : ∀ u ∈ ys, u.oneCell' = true) (him : i + m ≤ n) (hs0 : 0 < size) :
    ∃ w', (Builtin.append_ #[t, t] ty #[.slice (some ⟨g, 0, none⟩) i cap, xv]).run P w = .ok (.slice (some ⟨g, 0, none⟩) (i + m) cap) w' ∧ Has w' (row (.slice (some ⟨g, 0, none⟩) n cap) e size n (xs.take (i * size) ++ ys ++ xs.drop ((i + m) * size)) :: l) ∧ Keep w w' := by
  obtain ⟨inf, hi', hz, hs, hby⟩ := info_parts hi
  obtain ⟨hxl, h2 | ⟨g', cap', cur, e1, hnc, hcm, hcs, htake, hp⟩⟩ := hO.row_cases
  · exact absurd h2.1 (by simp)
  · simp only [Value.slice.injEq, Option.some.injEq, Addr.mk.injEq, true_and] at e1
    obtain ⟨⟨rfl, -⟩, rfl⟩ := e1
    obtain ⟨hyl, hmm, p, xc, rfl, hxc, hcc⟩ := hr
    have him2 : (i + m) * size ≤ n * size := Nat.mul_le_mul_right _ him
    have hnc2 : n * size ≤ cap * size := Nat.mul_le_mul_right _ hnc
    have e3 : (i + m) * size = i * size + m * size := Nat.add_mul ..
    have hcx : cur.toList.take (i * size) = xs.take (i * size) := by rw [← htake, List.take_take, Nat.min_eq_left (by omega)]
    by_cases hm0 : m = 0
    · subst hm0
      have : ys = [] := List.eq_nil_of_length_eq_zero (by omega)
      subst this
      refine ⟨w, ?_, by rw [List.append_nil, Nat.add_zero, List.take_append_drop]; exact hO, Keep.refl w⟩
      cases p with
      | none =>
        have hic : i ≤ cap := by omega
        simp [Builtin.append_, run_underlying ht, sizeOf, typeInfo, hi', Builtin.lenOf, Builtin.firstCells, loadCells, loadCellsFrom, hic, storeCells]
      | some ad =>
        have hr := run_append_room (P := P) w t ty e inf ht hi' g i cap cur hp.lookup ad 0 xc [] (by simp) (by simp) (by simp) (by omega) (by rw [hs, hcs]; simp; omega)
        rw [hr]
        simp only [List.length_nil, Nat.add_zero, List.append_nil, List.take_append_drop, Array.toArray_toList]
        rw [setRow_self w g cur e (0, 0) hp.lookup]
    · obtain ⟨gs, os, rfl, hd⟩ := hcc (Nat.mul_pos (by omega) hs0)
      have hfit : i * inf.size + ys.length ≤ cur.size := by rw [hs, hyl, hcs]; omega
      have hr := run_append_room (P := P) w t ty e inf ht hi' g i cap cur hp.lookup ⟨gs, os, none⟩ m xc ys (by rw [hs, hyl]) (fun j u hj => by
        have hjl : j < m * size := by
          rw [← hyl]
          exact (List.getElem?_eq_some_iff.1 hj).1
        rw [add_plain, hd j hjl, hj]) h1 (by omega) hfit
      refine ⟨_, hr, ?_, ⟨rfl, rfl, rfl, by simp⟩⟩
      refine (hp.turn (fun k _ hk => setRow_other w g k _ hk) (setRow_heap w g cur _ e _ hp.lookup)).row_of hnc hcm ?_ ?_ ?_
      · simp only [List.size_toArray, List.length_append, List.length_take, List.length_drop, Array.length_toList, hs, hyl, hcs]
        omega
      · rw [hs, hyl, hcx]
        simp only [List.append_assoc]
        have hl1 : (xs.take (i * size)).length = i * size := by rw [List.length_take]; omega
        rw [List.take_append, hl1, List.take_of_length_le (by rw [hl1]; omega), List.take_append, hyl, List.take_of_length_le (l := ys) (by omega)]
        congr 2
        rw [← htake, e3, List.drop_take]
        congr 1
        omega
      · simp only [List.length_append, List.length_take, List.length_drop, hyl]
        omega
theorem wp_appendIn {P : Program} {o : Oper} {a : Act} {K : Act → World → Prop} {Q : Exit → Act → World → Prop} (s x : Operand) (t : TypeId) (ho : o.op = .call { callee := .builtin .append, args := #[s, x], argTypes := #[t, t] })
    (hO : Has w (row (.slice (some ⟨g, 0, none⟩) n cap) e size n xs :: l)) {z : Value} {bytes : Nat} (ht : P.underlying t = some (.slice e)) (hi : (P.info? e).map (fun i => (i.zero, i.size, i.bytes)) = some (some z, size, bytes))
    (i m : Nat) (ys : List Value) (xv : Value) (hs : a.eval s = .slice (some ⟨g, 0, none⟩) i cap) (hx : a.eval x = xv) (hr : Rd w xv size m ys) (h1 : ∀ u ∈ ys, u.oneCell' = true) (him : i + m ≤ n) (hs0 : 0 < size)
    (h : ∀ w', Has w' (row (.slice (some ⟨g, 0, none⟩) n cap) e size n (xs.take (i * size) ++ ys ++ xs.drop ((i + m) * size)) :: l) → Keep w w' → K (a.put o.dst (.slice (some ⟨g, 0, none⟩) (i + m) cap)) w') : o.wp P a w K Q := by
  obtain ⟨w', hrun, h2, h3⟩ := hO.appendIn (P := P) t o.type ht hi i m ys xv hr h1 him hs0
  unfold Oper.wp execOp
  simp only [ho, resolve, invoke, builtin, Sem.run_bind, Sem.run_pure, Result.andThen_ok, List.map_toArray, List.map_cons, List.map_nil, hs, hx, hrun]
  exact h w' h2 h3
end
end Go.Own
/- THE WALKS of slices.Delete, settle and newest of a cache. -/
namespace Go.Proofs.Ytajlikakbihgbaa
open Go.RowKit Go.Own Go.Ch
theorem wrapk_in (n : Int) (h : -9223372036854775808 ≤ n ∧ n ≤ 9223372036854775807) : IntKind.i64.wrap n = n := by
  simp [IntKind.wrap, IntKind.bits, IntKind.signed]
  omega
theorem infoHeld : (Try.prog.info? 76).map (fun i => (i.zero, i.size, i.bytes)) = some (some zeroH, 4, 40) := by kernel_rfl
theorem hd_one {T : List Hd} (h : one1 T) : ∀ u ∈ hcells T, u.oneCell' = true := by
  refine hcells_one (k := 0) fun x hx => ?_
  obtain ⟨p, n, c, e⟩ := h x hx
  rw [e]; rfl
theorem rd_drop {w : World} {g n c : Nat} {T : List Hd} (h : Rd w (.slice (some ⟨g, 0, none⟩) n c) 4 T.length (hcells T)) (k : Nat) (hk : k ≤ T.length) (ad : Option Addr) (m c' : Nat) (hm : m = T.length - k) (had : k < T.length → ad = some ⟨g, k * 4, none⟩) (hmc : m ≤ c') : Rd w (.slice ad m c') 4 m (hcells (T.drop k)) := by
  subst hm
  obtain ⟨h1, h2, p, c1, e, h3, h4⟩ := h
  injection e with e1 e2 e3
  subst e1
  refine ⟨by rw [hcells_len, List.length_drop], by omega, _, _, rfl, hmc, fun hp => ?_⟩
  have hlt : k < T.length := by omega
  refine ⟨g, k * 4, had hlt, fun j hj => ?_⟩
  obtain ⟨g', o', e, hd⟩ := h4 (by omega)
  injection e with e
  injection e with e1 e2
  subst e1 e2
  have := hd (k * 4 + j) (by omega)
  rw [Nat.zero_add] at this
  rw [this, ← hcells_drop, List.getElem?_drop]
set_option maxRecDepth 100000 in
set_option maxHeartbeats 4000000 in
theorem cDelete (v : Value) (T : List Hd) (i : Nat) (w : World) (L : List HP) (hi : i < T.length) (hl : T.length ≤ 1000000) (h1 : one1 T) (hO : Has w (row v 76 4 T.length (hcells T) :: L)) :
    Calls Try.prog 55 #[v, .int .i64 (i : Int), .int .i64 ((i : Int) + 1)] w fun e w' => ∃ v', e = .returned v' ∧ Has w' (row v' 76 4 (T.eraseIdx i).length (hcells (T.eraseIdx i)) :: L) ∧ Keep w w' := by
  obtain ⟨p, c, rfl, hca, -, hcs⟩ := hO.rd.form
  obtain ⟨g, o, rfl, -⟩ := hcs (by omega)
  have ho : o = 0 := by
    obtain ⟨_, h | ⟨g', c', cur, e, _⟩⟩ := hO.row_cases
    · cases h.1
    · simp at e; exact e.1.2
  subst ho
  have HO := hid hO
  have HI := hid hi
  have HL := hid hl
  have H1 := hid h1
  have hi0 : (0 : Int) ≤ (i : Int) := by omega
  have hi1 : (i : Int) + 1 ≤ (T.length : Int) := by omega
  have hi2 : (T.length : Int) ≤ (c : Int) := by omega
  have hi3 : (T.length : Int) ≤ 1000000 := by omega
  have hi4 : (i : Int) ≤ (c : Int) := by omega
  have hi5 : (i : Int) + 1 ≤ (c : Int) := by omega
  have hi6 : i ≤ c := by omega
  have hi7 : i + 1 ≤ T.length := by omega
  have hi8 : (0 : Int) ≤ (i : Int) + 1 := by omega
  have hne : ¬ (i : Int) = (i : Int) + 1 := by omega
  clear hO hcs hi hl h1
  go_enter Try.func55, Try.ntmps55
  go_wp2_with fail
  have HL2 := hid (show T.length ≤ c by omega)
  refine region_text (fun _ => True) (by kernel_rfl) (by kernel_rfl) trivial ?_
  have HO2 := hid HO.out.drew
  have HK2 := hid ((Keep.refl w).drew)
  generalize w.drew = w2 at *
  clear HO
  repeat (first
    | (refine wpL_read (by rfl) (by rfl) ?_ ?_ ?_; rotate_left; (intro w hS; go_simp; with_reducible rfl); simp only [Act.put, List.setIfInBounds_toArray, List.set_cons_zero, List.set_cons_succ])
    | (refine wpL_skip (by rfl) ?_; simp only [Act.put, List.setIfInBounds_toArray, List.set_cons_zero, List.set_cons_succ]))
  refine wpL_act (by rfl) (by rfl) (fun K hK => ?_)
  refine wp_appendIn (.tmp 22) (.tmp 25) 68 rfl HO2.out Try.underlying68 infoHeld i (T.length - (i + 1)) (hcells (T.drop (i + 1))) _ (by rfl) (by rfl) (rd_drop HO2.out.rd (i + 1) HI.out _ _ _ rfl (fun h => if_neg (by have := HL2.out; omega)) (by have := HL2.out; omega)) (hd_one (fun x hx => H1.out x (List.mem_of_mem_drop hx))) (by have := HI.out; omega) (by omega) fun w3 h3 k3 => ?_
  refine hK.out _ _ trivial ?_
  clear hK K
  try simp only [Act.put, List.setIfInBounds_toArray, List.set_cons_zero, List.set_cons_succ]
  have HO3 := hid h3
  have HK3 := hid (HK2.out.trans k3)
  clear h3 k3 HO2 HK2
  refine wpL_read (by rfl) (by rfl) ?_ ?_ ?_; rotate_left; (intro w hS; go_simp; with_reducible rfl); simp only [Act.put, List.setIfInBounds_toArray, List.set_cons_zero, List.set_cons_succ]
  refine wpL_nil ?_
  generalize (if c = i + 1 then (some (⟨g, 0, none⟩ : Addr)) else some ⟨g, (i + 1) * 4, none⟩) = adx
  obtain ⟨n1, hn1⟩ : ∃ n1, T.length = n1 + 1 := ⟨T.length - 1, by have := HI.out; omega⟩
  have hk : i + (T.length - (i + 1)) = n1 := by have := HI.out; omega
  rw [hk] at HO3 ⊢
  have hx1 : (0 : Int) ≤ (n1 : Int) := by omega
  have hx2 : (n1 : Int) ≤ (T.length : Int) := by omega
  have hx3 : ¬ c = n1 := by have := HL2.out; omega
  have HN1 := hid hn1
  have hx4 : (n1 : Int) ≤ (c : Int) := by have := HL2.out; omega
  clear hk hn1
  go_wp2_with (refine wpList_clearTail rfl _ _ rfl HO3.out Try.underlying68 zeroHeld zeroH_size zeroH_one n1 (by have := HN1.out; omega) (some ⟨g, n1 * 4, none⟩) _ rfl (fun _ => rfl) ?_)
  intro w4 h4 k4
  have HO4 := hid (show Has w4 (row (.slice (some ⟨g, 0, none⟩) n1 c) 76 4 (T.eraseIdx i).length (hcells (T.eraseIdx i)) :: L) from by
    have e1 : (T.eraseIdx i).length = n1 := by rw [List.length_eraseIdx, if_pos (by have := HI.out; omega), HN1.out]; rfl
    have e2 : ((hcells T).take (i * 4) ++ hcells (T.drop (i + 1)) ++ (hcells T).drop (n1 * 4)).take (n1 * 4) = hcells (T.eraseIdx i) := by
      rw [hcells_take, ← hcells_append, ← List.eraseIdx_eq_take_drop_succ]
      exact List.take_left' (by rw [hcells_len, e1])
    rw [e1, ← e2, List.append_assoc]
    exact h4)
  have HK4 := hid (HK3.out.trans k4)
  clear h4 k4 HO3 HK3
  go_wp2_with fail
  go_ret
  exact ⟨_, rfl, HO4.out, HK4.out⟩
set_option maxRecDepth 100000 in
set_option maxHeartbeats 4000000 in
theorem cSettle (dv : Value) (most : Int) (v : Value) (T : List Hd) (q : Nat) (w : World) (L : List HP) (hm : 0 ≤ most ∧ most ≤ 1000000) (hl : T.length ≤ 1000000) (h1 : one1 T) (hO : Has w (pt q (.cells (caC dv most v) 70) :: row v 76 4 T.length (hcells T) :: L)) :
    Calls Try.prog 35 #[.pointer (some ⟨q, 0, none⟩)] w fun e w' => e = .returned (.tuple #[]) ∧ (∃ v', Has w' (pt q (.cells (caC dv most v') 70) :: row v' 76 4 (dropG Hd.stay ((T.length : Int) - most) T).2.length (hcells (dropG Hd.stay ((T.length : Int) - most) T).2) :: L)) ∧ Keep w w' := by
  obtain ⟨p, c, rfl, -⟩ := hO.p1.rd.form
  have HO := hid hO
  have HW := hid (show IntKind.i64.wrap ((T.length : Int) - most) = (T.length : Int) - most from wrapk_in _ (by omega))
  have HB := hid (And.intro hm (And.intro hl h1))
  clear hO hm hl h1
  go_enter Try.func35, Try.ntmps35
  refine region_tail1 (fun w' => w'.cell? ⟨q, 1, none⟩ = some (.int .i64 most) ∧ w'.cell? ⟨q, 2, none⟩ = some (.slice p T.length c)) (by kernel_rfl) (by kernel_rfl) (by kernel_rfl) (by decide) ⟨HO.out.drew.cells 1, HO.out.drew.cells 2⟩ ?_
  have HO2 := hid HO.out.drew
  have HK2 := hid ((Keep.refl w).drew)
  generalize w.drew = w2 at *
  clear HO
  repeat (first
    | (refine wpL_read (by rfl) (by rfl) ?_ ?_ ?_; rotate_left; (rintro w ⟨z0, z1⟩; go_simp; with_reducible rfl); simp only [Act.put, List.setIfInBounds_toArray, List.set_cons_zero, List.set_cons_succ]) | (refine wpL_skip (by rfl) ?_; simp only [Act.put, List.setIfInBounds_toArray, List.set_cons_zero, List.set_cons_succ]))
  refine wpL_nil ?_
  refine wpOp_last rfl (by rfl) ?_
  go_simp
  rw [HW.out]
  refine (cDrop dv most _ T q ((T.length : Int) - most) w2 L (by have := HB.out; omega) HB.out.2.1 HB.out.2.2 HO2.out).mono ?_
  rintro e w3 ⟨rfl, ⟨v3, h3⟩, k3⟩
  have HO3 := hid h3
  have HK3 := hid (HK2.out.trans k3)
  clear h3 k3 HO2 HK2
  try dsimp only
  go_wp2_with fail
  go_end0
  exact ⟨rfl, ⟨v3, HO3.out⟩, HK3.out⟩
end Go.Proofs.Ytajlikakbihgbaa
