/- TEXTS of mine, merged. -/
import Derived.Test.YtajlikakbihgbaaM4
import Derived.Test.YtajlikakbihgbaaM3
/- THE WALK of Write. -/
namespace Go.Proofs.Ytajlikakbihgbaa
open Go.RowKit Go.Own Go.Dk
theorem diskThereNil (at_ : Int) (w : World) : Calls Try.prog 39 #[.pointer none, .int .i64 at_] w fun e w' => e = .returned (.bool false) ∧ w = w' := by
  have H := hid (diskSectorsNil w)
  by_cases h0 : 0 ≤ at_
  · go_enter Try.func39, Try.ntmps39
    go_wp2_with fail
    refine H.out.mono ?_
    rintro e w' ⟨rfl, rfl⟩
    go_wp2_with fail
    go_ret
    exact ⟨by simp; omega, rfl⟩
  · go_enter Try.func39, Try.ntmps39
    go_wp2_with fail
    go_ret
    exact ⟨rfl, rfl⟩
/-- Refused. -/
theorem writeNot (d : Nat) (D : Disk) (at_ : Int) (b : Value) (xs : List Int) (x : Value) (w : World) (L : List HP) (hA : D.asked (D.there at_ && xs.length == 128) ≠ 0) (hb : Rd w b 1 xs.length (bc xs)) (hO : Has w (Dsk d D :: L)) :
    Calls Try.prog 34 #[.pointer (some ⟨d, 0, none⟩), .int .i64 at_, b] w fun e w' => e = .returned (.int .i64 (D.write at_ (x, xs)).1) ∧ Has w' (Dsk d (D.write at_ (x, xs)).2 :: L) ∧ Keep w w' := by
  obtain ⟨bp, bcap, rfl, -, -, -⟩ := hb.form
  have HT := hid (diskThere d D at_ w L hO)
  have H := hid (diskAsked d D (D.there at_ && xs.length == 128) w L hO)
  have HO := hid hO
  have HF := hid (show D.write at_ (x, xs) = (D.asked (D.there at_ && xs.length == 128), D) from if_pos hA)
  clear hO
  generalize D.asked (D.there at_ && xs.length == 128) = c at *
  rcases ht : D.there at_ with _ | _
  all_goals rw [ht] at H HT
  all_goals clear ht
  · rw [Bool.false_and] at H
    go_enter Try.func34, Try.ntmps34
    go_wp2_with (first
      | (go_at_call 39; refine HT.out.mono ?_; rintro e w' ⟨rfl, rfl⟩; dsimp only)
      | (go_at_call 38; refine H.out.mono ?_; rintro e w' ⟨rfl, rfl⟩; dsimp only))
    go_ret
    rw [HF.out]
    exact ⟨rfl, HO.out, Keep.refl _⟩
  · rw [Bool.true_and] at H
    by_cases hl : xs.length = 128
    · rw [hl] at H
      have hl' : (xs.length : Int) = 128 := by omega
      go_enter Try.func34, Try.ntmps34
      go_wp2_with (first
        | (go_at_call 39; refine HT.out.mono ?_; rintro e w' ⟨rfl, rfl⟩; dsimp only)
        | (go_at_call 38; refine H.out.mono ?_; rintro e w' ⟨rfl, rfl⟩; dsimp only))
      go_ret
      rw [HF.out]
      exact ⟨rfl, HO.out, Keep.refl _⟩
    · rw [show (xs.length == 128) = false from by simpa using hl] at H
      have hl' : ((xs.length : Int) == 128) = false := by simp; omega
      go_enter Try.func34, Try.ntmps34
      go_wp2_with (first
        | (go_at_call 39; refine HT.out.mono ?_; rintro e w' ⟨rfl, rfl⟩; dsimp only)
        | (go_at_call 38; refine H.out.mono ?_; rintro e w' ⟨rfl, rfl⟩; dsimp only))
      go_ret
      rw [HF.out]
      exact ⟨rfl, HO.out, Keep.refl _⟩
/-- The power goes. -/
theorem writeFalls (d : Nat) (D : Disk) (at_ : Int) (b : Value) (xs : List Int) (x : Value) (w : World) (L : List HP) (ht : D.there at_ = true) (hl : xs.length = 128) (hA : D.asked true = 0) (hf : D.falls.1 = true) (hb : Rd w b 1 xs.length (bc xs)) (hO : Has w (Dsk d D :: L)) :
    Calls Try.prog 34 #[.pointer (some ⟨d, 0, none⟩), .int .i64 at_, b] w fun e w' => e = .returned (.int .i64 (D.write at_ (x, xs)).1) ∧ Has w' (Dsk d (D.write at_ (x, xs)).2 :: L) ∧ Keep w w' := by
  obtain ⟨bp, bcap, rfl, -, -, -⟩ := hb.form
  have HT := hid (diskThere d D at_ w L hO)
  have H := hid (diskAsked d D true w L hO)
  have H2 := hid (diskFalls d D w L hO)
  have HF := hid (show D.write at_ (x, xs) = (4, D.falls.2) from by simp [Disk.write, ht, hl, hA, hf])
  rw [hA] at H
  rw [hf] at H2
  rw [ht] at HT
  have hl' : (xs.length : Int) = 128 := by omega
  clear hO hA hf ht hb
  go_enter Try.func34, Try.ntmps34
  go_wp2_with (first
    | (go_at_call 39; refine HT.out.mono ?_; rintro e w' ⟨rfl, rfl⟩; dsimp only)
    | (go_at_call 38; refine H.out.mono ?_; rintro e w' ⟨rfl, rfl⟩; dsimp only)
    | (go_at_call 56; refine H2.out.mono ?_; rintro e w' ⟨rfl, h, hK⟩; dsimp only))
  go_ret
  rw [HF.out]
  exact ⟨rfl, h, hK⟩
theorem infoWr : (Try.prog.info? 85).map (fun i => (i.zero, i.size, i.bytes)) = some (some (.agg #[.int .i64 0, .slice none 0 0]), 2, 32) := by kernel_rfl
theorem falls_firm {D E : Disk} (hf : D.falls = (false, E)) : E.firm = D.firm := by
  unfold Disk.falls at hf
  split at hf
  · cases hf; rfl
  · split at hf <;> cases hf; rfl
theorem okWrite {B : List Txt} {D : Disk} (h : Ok B D) (at_ : Int) (x : Txt) (ws : List Int) (ha : 0 ≤ at_ ∧ at_ < D.firm.length) (hl : x.2.length = 128) : Ok (x :: B) { D with waits := D.waits ++ [(at_, x)], writes := ws } where
  firm := fun y hy => List.mem_cons_of_mem _ (h.firm y hy)
  waits := fun y hy => by
    rcases List.mem_append.1 hy with h1 | h1
    · exact List.mem_cons_of_mem _ (h.waits y h1)
    · rw [List.mem_singleton.1 h1]; exact List.mem_cons_self
  at_ := fun y hy => by
    rcases List.mem_append.1 hy with h1 | h1
    · exact h.at_ y h1
    · rw [List.mem_singleton.1 h1]; exact ha
  len := h.len
  wlen := fun y hy => by
    rcases List.mem_append.1 hy with h1 | h1
    · exact h.wlen y h1
    · rw [List.mem_singleton.1 h1]; exact hl
  left := h.left
/-- The write waits. -/
theorem writeGo (d : Nat) (D E : Disk) (at_ : Int) (b : Value) (xs : List Int) (w : World) (L : List HP) (ht : D.there at_ = true) (hl : xs.length = 128) (hA : D.asked true = 0) (hf : D.falls = (false, E)) (hw : E.waits.length ≤ 1000000000) (hw2 : E.writes.length ≤ 1000000000) (hL : ∀ w', Has w' L → Rd w' b 1 xs.length (bc xs)) (hO : Has w (Dsk d D :: L)) :
    Calls Try.prog 34 #[.pointer (some ⟨d, 0, none⟩), .int .i64 at_, b] w fun e w' => ∃ x, e = .returned (.int .i64 (D.write at_ (x, xs)).1) ∧ Has w' (Dsk d (D.write at_ (x, xs)).2 :: L) ∧ Keep w w' := by
  have hb := hL _ hO.drop
  obtain ⟨bp, bcap, rfl, -, -, -⟩ := hb.form
  have HL := hid hL
  have HT := hid (diskThere d D at_ w L hO)
  have H := hid (diskAsked d D true w L hO)
  have H2 : Hid (Calls Try.prog 56 #[.pointer (some ⟨d, 0, none⟩)] w fun e w' => e = .returned (.bool false) ∧ Has w' (Dsk d E :: L) ∧ Keep w w') := by
    have := diskFalls d D w L hO
    rw [hf] at this
    exact hid this
  have HF := hid (fun x => show D.write at_ (x, xs) = (0, { E with waits := E.waits ++ [(at_, (x, xs))], writes := E.writes ++ [at_] }) from by simp [Disk.write, ht, hl, hA, hf])
  have HTh := hid (show 0 ≤ at_ ∧ at_ < E.firm.length from by rw [falls_firm hf]; simpa [Disk.there] using ht)
  rw [hA] at H
  rw [ht] at HT
  have hl' : (xs.length : Int) = 128 := by omega
  clear hO hA hf ht hb hL
  go_enter Try.func34, Try.ntmps34
  go_wp2_with (first
    | (go_at_call 39; refine HT.out.mono ?_; rintro e w' ⟨rfl, rfl⟩; dsimp only)
    | (go_at_call 38; refine H.out.mono ?_; rintro e w' ⟨rfl, rfl⟩; dsimp only)
    | (go_at_call 56; refine H2.out.mono ?_; rintro e w' ⟨rfl, h, hK⟩; dsimp only))
  clear H H2 HT
  obtain ⟨fv, wv, av, lv, B, hok, hO⟩ := dsk_iff.1 h.drew
  have hrd := HL.out _ h.drop.drew
  rw [hl] at hrd
  obtain ⟨F, W, on, ar, ws, fl⟩ := E
  simp only at hO hw hw2
  have H3 := hid (cloneBytes (.slice bp 128 bcap) xs w'.drew _ hO (by rw [hl]; exact hrd) (by omega))
  have HK := hid hK.drew
  have Hok := hid hok
  have hc := hO.cells
  refine region_tail1 (fun w => w.cell? ⟨d, 1, none⟩ = some wv) (by kernel_rfl) (by kernel_rfl) (by kernel_rfl) (by decide) (hc 1) ?_
  clear hc hO h hok hrd hK
  repeat (first
    | (refine wpL_read (by rfl) (by rfl) ?_ ?_ ?_; rotate_left; (intro w hS; go_simp; with_reducible rfl); simp only [Act.put, List.setIfInBounds_toArray, List.set_cons_zero, List.set_cons_succ]) | (refine wpL_skip (by rfl) ?_; simp only [Act.put, List.setIfInBounds_toArray, List.set_cons_zero, List.set_cons_succ]))
  refine wpL_act (by rfl) (by rfl) (fun K hK => ?_)
  go_simp
  go_at_call 32
  refine H3.out.mono ?_
  rintro e w2 ⟨v', rfl, h2, hk2, -⟩
  dsimp only
  have HO2 := hid h2
  have HK2 := hid (HK.out.trans hk2)
  clear h2 hk2 H3 HK
  refine hK.out _ _ (HO2.out.p1.cells 1) ?_
  clear hK K
  try simp only [Act.put, List.setIfInBounds_toArray, List.set_cons_zero, List.set_cons_succ]
  obtain ⟨vp, vc, rfl, -⟩ := HO2.out.rd.form
  rw [hl]
  repeat (first
    | (refine wpL_read (by rfl) (by rfl) ?_ ?_ ?_; rotate_left; (intro w hS; go_simp; with_reducible rfl); simp only [Act.put, List.setIfInBounds_toArray, List.set_cons_zero, List.set_cons_succ]) | (refine wpL_skip (by rfl) ?_; simp only [Act.put, List.setIfInBounds_toArray, List.set_cons_zero, List.set_cons_succ]))
  refine wpL_act (by rfl) (by rfl) (fun K hK => ?_)
  go_simp
  have HO3 := hid (HO2.out.alloc (.cells #[.int .i64 at_, .slice vp 128 vc] 85))
  have HK3 := hid (HK2.out.alloc (.cells #[.int .i64 at_, .slice vp 128 vc] 85))
  have hb2 : w2.heap.size = w2.heap.size := rfl
  generalize w2.heap.size = b2 at HO3 HK3 ⊢
  refine hK.out _ _ (HO3.out.p2.cells 1) ?_
  clear hK K
  try simp only [Act.put, List.setIfInBounds_toArray, List.set_cons_zero, List.set_cons_succ]
  generalize w2.alloc (.cells #[.int .i64 at_, .slice vp 128 vc] 85) = w3 at *
  refine wpL_act (by rfl) (by rfl) (fun K hK => ?_)
  refine wp_append1 (.tmp 27) (.tmp 32) 64 rfl Try.underlying64 infoWr rfl [.int .i64 at_, .slice vp 128 vc] rfl HO3.out.p4 (by rfl) 1 b2 (by rfl) (fun j => by simpa using HO3.out.cells j) (by simp [Value.oneCell']) (le_maxLen (by omega)) (by omega) fun v' w' h2 h3 => ?_
  obtain ⟨np, nc, rfl, -⟩ := h2.rd.form
  have HO4 := hid h2
  have HK4 := hid (HK3.out.trans h3)
  clear h2 h3 HO3 HK3 HO2 HK2
  refine hK.out _ _ (HO4.out.p3.cells 1) ?_
  clear hK K
  try simp only [Act.put, List.setIfInBounds_toArray, List.set_cons_zero, List.set_cons_succ]
  repeat (first
    | (refine wpL_read (by rfl) (by rfl) ?_ ?_ ?_; rotate_left; (intro w hS; go_simp; with_reducible rfl); simp only [Act.put, List.setIfInBounds_toArray, List.set_cons_zero, List.set_cons_succ]) | (refine wpL_skip (by rfl) ?_; simp only [Act.put, List.setIfInBounds_toArray, List.set_cons_zero, List.set_cons_succ]))
  refine wpL_nil ?_
  refine wpOp_last rfl (by rfl) ?_
  have ht := HO4.out.p3.thaw
  have hc := HO4.out.p3.cells
  go_simp
  have HO5 := hid (HO4.out.p3.set 1 (.slice np (W.length + 1) nc))
  have HK5 := hid (HK4.out.set ⟨d, 1, none⟩ (.slice np (W.length + 1) nc))
  clear HO4 HK4 ht hc
  generalize World.setCell _ ⟨d, 1, none⟩ (.slice np (W.length + 1) nc) = w5 at HO5 HK5 ⊢
  have hc := HO5.out.cells
  have ht := HO5.out.thaw
  go_wp2_with (at_builtin; refine wpList_append1 rfl _ _ _ rfl Try.underlying22 infoInt rfl (.int .i64 at_) (HO5.out.p6.alloc' _) rfl 1 _ rfl (by simp) rfl (le_maxLen (by omega)) (by omega) ?_)
  intro v6 w6 h6 hk6
  obtain ⟨lp, lc, rfl, -⟩ := h6.rd.form
  have HO6 := hid h6.p1
  have HK6 := hid ((HK5.out.alloc _).trans hk6)
  clear h6 hk6 hc ht HO5 HK5
  have hc := HO6.out.cells
  have ht := HO6.out.thaw
  go_wp2_with fail
  go_ret
  refine ⟨.slice vp 128 vc, ?_⟩
  rw [HF.out]
  refine ⟨rfl, dsk_iff.2 ⟨fv, .slice np (W.length + 1) nc, av, .slice lp (ws.length + 1) lc, (.slice vp 128 vc, xs) :: B, ?_, ?_⟩, HK6.out.set _ _⟩
  · exact okWrite Hok.out at_ (.slice vp 128 vc, xs) (ws ++ [at_]) HTh.out hl
  · have h := HO6.out.set 4 (.slice lp (ws.length + 1) lc)
    have h1 := h.p3.drop.p6.p4
    rw [show (128 : Nat) = xs.length from hl.symm] at h1
    have h2 := h1.pool_add.b5.p1.b4.p1.b2
    rw [hl] at h2
    have e1 : wenc W ++ [.int .i64 at_, .slice vp 128 vc] = wenc (W ++ [(at_, (.slice vp 128 vc, xs))]) := by simp [wenc]
    have e2 : W.length + 1 = (W ++ [(at_, ((.slice vp 128 vc : Value), xs))]).length := by simp
    have e3 : ic ws ++ [.int .i64 at_] = ic (ws ++ [at_]) := (ic_snoc _ _).symm
    have e4 : ws.length + 1 = (ws ++ [at_]).length := by simp
    rw [e1, e3] at h2
    generalize Value.slice np (W.length + 1) nc = v1 at h2 ⊢
    generalize Value.slice lp (ws.length + 1) lc = v2 at h2 ⊢
    rw [e2, e4] at h2
    exact h2
theorem diskWrite (d : Nat) (D : Disk) (at_ : Int) (b : Value) (xs : List Int) (w : World) (L : List HP) (hw : D.waits.length ≤ 1000000000) (hw2 : D.writes.length ≤ 1000000000) (hL : ∀ w', Has w' L → Rd w' b 1 xs.length (bc xs)) (hO : Has w (Dsk d D :: L)) :
    Calls Try.prog 34 #[.pointer (some ⟨d, 0, none⟩), .int .i64 at_, b] w fun e w' => ∃ x, e = .returned (.int .i64 (D.write at_ (x, xs)).1) ∧ Has w' (Dsk d (D.write at_ (x, xs)).2 :: L) ∧ Keep w w' := by
  by_cases hA : D.asked (D.there at_ && xs.length == 128) = 0
  · have hg : (D.there at_ && xs.length == 128) = true := by
      cases h : (D.there at_ && xs.length == 128)
      · rw [h] at hA
        unfold Disk.asked at hA
        split at hA <;> simp at hA
      · rfl
    have hl : xs.length = 128 := by have := (Bool.and_eq_true_iff.1 hg).2; simpa using this
    have ht := (Bool.and_eq_true_iff.1 hg).1
    rw [hg] at hA
    rcases hf : D.falls with ⟨c, E⟩
    cases c
    · have hE : E.waits = D.waits ∧ E.writes = D.writes := by
        unfold Disk.falls at hf
        split at hf
        · cases hf; exact ⟨rfl, rfl⟩
        · split at hf <;> cases hf; exact ⟨rfl, rfl⟩
      exact writeGo d D E at_ b xs w L ht hl hA hf (by rw [hE.1]; exact hw) (by rw [hE.2]; exact hw2) hL hO
    · exact (writeFalls d D at_ b xs (.slice none 0 0) w L ht hl hA (by rw [hf]) (hL _ hO.drop) hO).mono fun e w' h => ⟨_, h⟩
  · exact (writeNot d D at_ b xs (.slice none 0 0) w L hA (hL _ hO.drop) hO).mono fun e w' h => ⟨_, h⟩
end Go.Proofs.Ytajlikakbihgbaa
/- THE WALKS of what the statements share on lists of numbers. -/
namespace Go.Proofs.Ytajlikakbihgbaa
open Go.RowKit Go.Own
theorem sameInts (a b : Value) (xs ys : List Int) (w : World) (ha : Rd w a 1 xs.length (ic xs)) (hb : Rd w b 1 ys.length (ic ys)) :
    Calls Try.prog 20 #[a, b] w fun e w' => e = .returned (.bool (decide (xs = ys))) ∧ ∃ n, w' = w.drewN n := by
  obtain ⟨pa, ca, rfl, hca, hla, hra⟩ := ha.form
  obtain ⟨pb, cb, rfl, hcb, hlb, hrb⟩ := hb.form
  have Hra := hid hra
  have Hrb := hid hrb
  clear hra hrb ha hb
  by_cases hl : xs.length = ys.length
  · have ht : ((xs.length : Int) != (ys.length : Int)) = false := by simp [hl]
    have Hl := hid hl
    clear hl
    go_enter Try.func20, Try.ntmps20
    go_wp2
    go_loopw [5] (fun i w' => ∃ k m : Nat, k ≤ xs.length ∧ i = .int .i64 k ∧ w' = w.drewN m ∧ Hid (∀ j, j < k → xs[j]? = ys[j]?)) (fun i _ => xs.length - (intOf i).toNat)
    case atStart => exact ⟨0, 0, by omega, rfl, rfl, hid (by omega)⟩
    case round =>
      obtain ⟨k, m, hk, rfl, rfl, HN⟩ := hrel
      by_cases hlt : k < xs.length
      · have hky : k < ys.length := by have := Hl.out; omega
        obtain ⟨ga, oa, rfl, ra⟩ := Hra.out (by omega)
        obtain ⟨gb, ob, rfl, rb⟩ := Hrb.out (by omega)
        have h1 : w.cell? ⟨ga, oa + k, none⟩ = some (.int .i64 xs[k]) := by rw [ra k (by omega), ic_at xs k hlt]
        have h2 : w.cell? ⟨gb, ob + k, none⟩ = some (.int .i64 ys[k]) := by rw [rb k (by omega), ic_at ys k hky]
        clear ra rb
        rcases he : (xs[k] != ys[k]) with _ | _
        · have HE := hid he
          go_wp2
          go_quiet (fail)
          go_wp2
          go_roundw
          case rel =>
            refine ⟨k + 1, _, by omega, by go_num, rfl, hid fun j hj => ?_⟩
            by_cases hjk : j = k
            · subst hjk
              have := HE.out
              rw [List.getElem?_eq_getElem hlt, List.getElem?_eq_getElem hky]
              simpa using this
            · exact HN.out j (by omega)
          case measure => simp [intOf]; omega
        · have HE := hid he
          go_wp2
          go_quiet (fail)
          go_wp2
          go_ret
          refine ⟨?_, _, World.drewN_drewN ..⟩
          have hne : xs ≠ ys := by
            intro e
            have := HE.out
            subst e
            simp at this
          simp [hne]
      · go_wp2
        go_ret
        refine ⟨?_, _, rfl⟩
        have he : xs = ys := by
          apply List.ext_getElem?
          intro j
          by_cases hj : j < k
          · exact HN.out j hj
          · have := Hl.out
            rw [List.getElem?_eq_none (by omega), List.getElem?_eq_none (by omega)]
        simp [he]
  · have ht : ((xs.length : Int) != (ys.length : Int)) = true := by simp; omega
    have Hl := hid hl
    clear hl
    go_enter Try.func20, Try.ntmps20
    go_wp2
    go_ret
    refine ⟨?_, 0, rfl⟩
    have hne : xs ≠ ys := by
      intro e
      exact Hl.out (by rw [e])
    simp [hne]
theorem sameIntsYes (a b : Value) (xs : List Int) (w : World) (ha : Rd w a 1 xs.length (ic xs)) (hb : Rd w b 1 xs.length (ic xs)) :
    Calls Try.prog 20 #[a, b] w fun e w' => e = .returned (.bool true) ∧ ∃ n, w' = w.drewN n :=
  (sameInts a b xs xs w ha hb).mono fun e w' ⟨h1, h2⟩ => ⟨by simpa using h1, h2⟩
theorem overInts (v : Value) (xs : List Int) (W : World) (L : List HP) (hO : Has W (Ints v xs :: L)) (hsm : xs.length ≤ 1000000) :
    Calls Try.prog 27 #[v] W fun e w' => e = .returned (.tuple #[]) ∧ Has w' L ∧ Keep W w' := by
  obtain ⟨p, cap, rfl, hcap, hla, hr⟩ := hO.rd.form
  have Hr := hid hr
  have HO := hid hO
  clear hO hr
  go_enter Try.func27, Try.ntmps27
  go_wp2
  go_loopw [2] (fun i w => ∃ k : Nat, k ≤ xs.length ∧ i = .int .i64 k ∧ Hid (∃ ys : List Int, ys.length = xs.length ∧ Has w (Ints (.slice p xs.length cap) ys :: L)) ∧ Hid (Keep W w)) (fun i _ => xs.length - (intOf i).toNat)
  case atStart => exact ⟨0, by omega, rfl, hid ⟨xs, rfl, HO.out⟩, hid (Keep.refl _)⟩
  case round =>
    obtain ⟨k, hk, rfl, HY, HK⟩ := hrel
    by_cases hlt : k < xs.length
    · obtain ⟨g, o, rfl, -⟩ := Hr.out (by omega)
      obtain ⟨ys, hy, hO⟩ := HY.out
      have ho : o = 0 := by
        obtain ⟨_, h | ⟨g', c', cur, e, _⟩⟩ := hO.row_cases
        · cases h.1
        · simp at e; exact e.1.2
      subst ho
      obtain ⟨-, hc, ht, -, -⟩ := hO.row_cells
      have hc1 : wr.cell? ⟨g, k, none⟩ = some (.int .i64 (ys.getD k 0)) := by
        rw [hc k (by omega), ic_at ys k (by omega)]; simp [List.getD, hy, hlt]
      have HO1 := hid hO
      have Hy := hid hy
      clear hc hO hy
      go_wp2
      go_roundw
      case rel =>
        refine ⟨k + 1, by omega, by go_num, hid ⟨ys.set k (-999), by simp [Hy.out], ?_⟩, hid (HK.out.set _ _)⟩
        have := HO1.out.row_set k (by have := Hy.out; omega) (.int .i64 (-999))
        simpa [Ints, ic, List.map_set] using this
      case measure => simp [intOf]; omega
    · obtain ⟨ys, hy, hO⟩ := HY.out
      have HO1 := hid hO
      have Hy := hid hy
      clear hO hy
      go_wp2_with (at_builtin; refine wpList_append1 rfl _ _ _ rfl Try.underlying22 infoInt rfl (.int .i64 (-999)) (HO1.out.alloc' _) rfl 1 _ rfl (by simp) rfl (le_maxLen (by have := Hy.out; omega)) (by have := Hy.out; omega) ?_)
      intro v' w' hO' hK'
      have HO' := hid hO'
      have HK' := hid hK'
      clear hO' hK'
      go_wp2_with fail
      go_end0
      exact ⟨rfl, HO'.out.drop, (HK.out.alloc _).trans HK'.out⟩
end Go.Proofs.Ytajlikakbihgbaa
/- THE WALKS of slices.Clone. -/
namespace Go.Proofs.Ytajlikakbihgbaa
open Go.RowKit Go.Own
theorem cloneInts (v : Value) (xs : List Int) (w : World) (L : List HP) (hO : Has w L) (hr : Rd w v 1 xs.length (ic xs)) (hsm : xs.length ≤ 1000000000) :
    Calls Try.prog 42 #[v] w fun e w' => ∃ v', e = .returned v' ∧ Has w' (Ints v' xs :: L) ∧ Keep w w' ∧ nilS v' = nilS v := by
  obtain ⟨p, cap, rfl, hca, hla, hra⟩ := hr.form
  have Hra := hid hra
  have Hr := hid hr
  have HO := hid hO
  clear hO hra hr
  rcases p with _ | ad
  · have hz : xs = [] := by
      rcases Nat.eq_zero_or_pos xs.length with h | h
      · exact List.eq_nil_of_length_eq_zero h
      · obtain ⟨g, o, h1, -⟩ := Hra.out (by omega)
        cases h1
    subst hz
    have hnil := Lib.run_eql_slice_nil w 22 3 none 0 cap 0 0 Try.underlying22
    simp only [Option.isNone] at hnil
    go_enter Try.func42, Try.ntmps42
    go_wp2
    go_ret
    exact ⟨_, rfl, HO.out.row_nil _ _, Keep.refl _, rfl⟩
  · have hnil := Lib.run_eql_slice_nil w 22 3 (some ad) xs.length cap 0 0 Try.underlying22
    simp only [Option.isNone] at hnil
    go_enter Try.func42, Try.ntmps42
    go_wp2_with (at_builtin; refine wpList_append_rd rfl _ _ _ rfl Try.underlying22 infoInt rfl ((HO.out.alloc (.cells #[] 3)).row_of (n := 0) (cap := 0) (Nat.le_refl _) (Nat.zero_le _) rfl rfl rfl) rfl ad xs.length cap (ic xs) rfl (Hr.out.alloc _) (ic_one xs) (le_maxLen (by omega)) (by omega) ?_)
    intro v' w' hO' hK' hN
    have HO' := hid hO'
    have HK' := hid hK'
    have HN := hid hN
    clear hO' hK' hN
    go_wp2_with fail
    go_ret
    refine ⟨_, rfl, ?_, ((Keep.refl _).alloc _).trans HK'.out, ?_⟩
    · have := HO'.out
      simpa [Ints] using this
    · exact HO'.out.row_nilS HN.out
end Go.Proofs.Ytajlikakbihgbaa
/- THE WALKS of Writes, Waiting. -/
namespace Go.Proofs.Ytajlikakbihgbaa
open Go.RowKit Go.Own Go.Dk
theorem writesNil (w : World) : Calls Try.prog 21 #[.pointer none] w fun e w' => e = .returned (.slice none 0 0) ∧ w = w' := by
  go_enter Try.func21, Try.ntmps21
  go_wp2
  go_ret
  exact ⟨rfl, rfl⟩
theorem diskWrites (d : Nat) (D : Disk) (w : World) (L : List HP) (hw : D.writes.length ≤ 1000000000) (hO : Has w (Dsk d D :: L)) :
    Calls Try.prog 21 #[.pointer (some ⟨d, 0, none⟩)] w fun e w' => ∃ v, e = .returned v ∧ Has w' (Ints v D.writes :: Dsk d D :: L) ∧ Keep w w' := by
  have hO0 := hO
  obtain ⟨fv, wv, av, lv, B, hok, hO⟩ := dsk_iff.1 hO
  obtain ⟨lp, lc, rfl, -⟩ := hO.p4.rd.form
  have hc := hO.cells
  have H := hid (cloneInts (.slice lp D.writes.length lc) D.writes w (Dsk d D :: L) hO0 (Ints.rd hO.p4) hw)
  clear hO hO0 hok
  go_enter Try.func21, Try.ntmps21
  go_wp2_with (go_at_call 42; refine H.out.mono ?_; rintro e w' ⟨v', rfl, h, hK, -⟩; dsimp only)
  go_ret
  exact ⟨_, rfl, h, hK⟩
end Go.Proofs.Ytajlikakbihgbaa
/- THE WALKS of what the statements share on lists of bytes. -/
namespace Go.Proofs.Ytajlikakbihgbaa
open Go.RowKit Go.Own
theorem qaddN {P : Program} {f : FuncId} {args : Array Value} {w : World} {a n : Nat} {v : Value}
    (h : Calls P f args (w.drewN (a + n)) fun e w' => e = .returned v ∧ ∃ m, w' = (w.drewN (a + n)).drewN m) :
    Calls P f args (w.drewN (a + n)) fun e w'' => e = .returned v ∧ ∃ m, w'' = w.drewN (a + m) :=
  h.mono fun _ _ ⟨he, m, hm⟩ => ⟨he, n + m, by rw [hm, World.drewN_drewN, Nat.add_assoc]⟩
abbrev Txs := List (Value × List Int)
/-- v reads as a list of texts. -/
def RdP (w : World) (v : Value) (R : Txs) : Prop := Rd w v 1 R.length (R.map (·.1)) ∧ ∀ x ∈ R, Rd w x.1 1 x.2.length (bc x.2)
theorem RdP.drewN {w : World} {v : Value} {R : Txs} (h : RdP w v R) (n : Nat) : RdP (w.drewN n) v R := ⟨h.1.drewN n, fun x hx => (h.2 x hx).drewN n⟩
theorem RdP.at_ {w : World} {v : Value} {R : Txs} (h : RdP w v R) (k : Nat) (hk : k < R.length) : ∃ g o c p m, v = .slice (some ⟨g, o, none⟩) R.length c ∧ w.cell? ⟨g, o + k, none⟩ = some (.slice p R[k].2.length m) ∧ R[k].1 = .slice p R[k].2.length m := by
  obtain ⟨p, c, rfl, -, -, hr⟩ := h.1.form
  obtain ⟨g, o, rfl, hc⟩ := hr (by omega)
  obtain ⟨p, m, hx, -⟩ := (h.2 _ (List.getElem_mem hk)).form
  refine ⟨g, o, c, p, m, rfl, ?_, hx⟩
  rw [hc k (by omega), List.getElem?_map, List.getElem?_eq_getElem hk, Option.map_some, hx]
theorem RdP.form {w : World} {v : Value} {R : Txs} (h : RdP w v R) : ∃ p c, v = .slice p R.length c := by
  obtain ⟨p, c, h, -⟩ := h.1.form
  exact ⟨p, c, h⟩
theorem RdP.len {w : World} {v : Value} {R : Txs} (h : RdP w v R) : R.length ≤ 9223372036854775807 := by
  obtain ⟨p, c, -, -, h, -⟩ := h.1.form
  exact h
theorem sameParts (a b : Value) (R T : Txs) (w : World) (ha : RdP w a R) (hb : RdP w b T) :
    Calls Try.prog 28 #[a, b] w fun e w' => e = .returned (.bool (decide (R.map (·.2) = T.map (·.2)))) ∧ ∃ n, w' = w.drewN n := by
  obtain ⟨pa, ca, ea⟩ := ha.form
  obtain ⟨pb, cb, eb⟩ := hb.form
  have hla := ha.len
  have hlb := hb.len
  have Ha := hid ha
  have Hb := hid hb
  clear ha hb
  subst ea eb
  by_cases hl : R.length = T.length
  · have ht : ((R.length : Int) != (T.length : Int)) = false := by simp [hl]
    have Hl := hid hl
    clear hl
    go_enter Try.func28, Try.ntmps28
    go_wp2
    go_loopw [5] (fun i w' => ∃ k m : Nat, k ≤ R.length ∧ i = .int .i64 k ∧ w' = w.drewN m ∧ Hid (∀ j, j < k → (R.map (·.2))[j]? = (T.map (·.2))[j]?)) (fun i _ => R.length - (intOf i).toNat)
    case atStart => exact ⟨0, 0, by omega, rfl, rfl, hid (by omega)⟩
    case round =>
      obtain ⟨k, m, hk, rfl, rfl, HN⟩ := hrel
      by_cases hlt : k < R.length
      · have hky : k < T.length := by have := Hl.out; omega
        obtain ⟨ga, oa, c, p1, m1, e, h1, x1⟩ := Ha.out.at_ k hlt
        simp only [Value.slice.injEq, true_and] at e
        obtain ⟨rfl, rfl⟩ := e
        obtain ⟨gb, ob, c, p2, m2, e, h2, x2⟩ := Hb.out.at_ k hky
        simp only [Value.slice.injEq, true_and] at e
        obtain ⟨rfl, rfl⟩ := e
        have HC := hid (fun n => sameBytes R[k].1 T[k].1 R[k].2 T[k].2 (w.drewN n) ((Ha.out.2 _ (List.getElem_mem hlt)).drewN _) ((Hb.out.2 _ (List.getElem_mem hky)).drewN _))
        rw [x1, x2] at HC
        rcases he : (decide (R[k].2 = T[k].2)) with _ | _
        · have HE := hid he
          rw [he] at HC
          clear he x1 x2
          go_wp2
          go_quiet ((first | exact Calls.quiet_of (HC.out _) | exact qaddN (HC.out _)))
          go_wp2
          go_ret
          refine ⟨?_, _, World.drewN_drewN ..⟩
          have hne : R.map (·.2) ≠ T.map (·.2) := by
            intro e
            have h := congrArg (fun l => l[k]?) e
            simp only [List.getElem?_map, List.getElem?_eq_getElem hlt, List.getElem?_eq_getElem hky, Option.map_some, Option.some.injEq] at h
            have := HE.out
            simp [h] at this
          simp [hne]
        · have HE := hid he
          rw [he] at HC
          clear he x1 x2
          go_wp2
          go_quiet ((first | exact Calls.quiet_of (HC.out _) | exact qaddN (HC.out _)))
          go_wp2
          go_roundw
          case rel =>
            refine ⟨k + 1, _, by omega, by go_num, rfl, hid fun j hj => ?_⟩
            by_cases hjk : j = k
            · subst hjk
              have := HE.out
              simp only [List.getElem?_map, List.getElem?_eq_getElem hlt, List.getElem?_eq_getElem hky, Option.map_some]
              simpa using this
            · exact HN.out j (by omega)
          case measure => simp [intOf]; omega
      · go_wp2
        go_ret
        refine ⟨?_, _, rfl⟩
        have he : R.map (·.2) = T.map (·.2) := by
          apply List.ext_getElem?
          intro j
          by_cases hj : j < k
          · exact HN.out j hj
          · have := Hl.out
            rw [List.getElem?_eq_none (by simp; omega), List.getElem?_eq_none (by simp; omega)]
        simp [he]
  · have ht : ((R.length : Int) != (T.length : Int)) = true := by simp; omega
    have Hl := hid hl
    clear hl
    go_enter Try.func28, Try.ntmps28
    go_wp2
    go_ret
    refine ⟨?_, 0, rfl⟩
    have hne : R.map (·.2) ≠ T.map (·.2) := by
      intro e
      have := congrArg List.length e
      exact Hl.out (by simpa using this)
    simp [hne]
theorem samePartsYes (a b : Value) (R T : Txs) (w : World) (ha : RdP w a R) (hb : RdP w b T) (h : R.map (·.2) = T.map (·.2)) :
    Calls Try.prog 28 #[a, b] w fun e w' => e = .returned (.bool true) ∧ ∃ n, w' = w.drewN n :=
  (sameParts a b R T w ha hb).mono fun e w' ⟨h1, h2⟩ => ⟨by simpa [h] using h1, h2⟩
end Go.Proofs.Ytajlikakbihgbaa
/- LISTS OF TEXTS, owned, read; of the same texts. -/
namespace Go.Proofs.Ytajlikakbihgbaa
open Go.RowKit Go.Own
theorem infoBs : (Try.prog.info? 33).map (fun i => (i.zero, i.size, i.bytes)) = some (some (.slice none 0 0), 1, 24) := by kernel_rfl
/-- A list of texts of its own, each of them too. -/
def Prts (v : Value) (T : List (List Int)) : HP := ex fun R : Txs => star [fact (R.map (·.2) = T), row v 33 1 R.length (R.map (·.1)), poolc 5 R]
theorem prts_iff {w : World} {L : List HP} {v : Value} {T : List (List Int)} : Has w (Prts v T :: L) ↔ ∃ R : Txs, R.map (·.2) = T ∧ Has w (row v 33 1 R.length (R.map (·.1)) :: poolc 5 R :: L) := by
  unfold Prts
  simp only [Has.ex_iff, Has.star_iff, List.cons_append, List.nil_append, Has.fact_iff]
/-- It reads as texts. -/
def RdT (w : World) (v : Value) (T : List (List Int)) : Prop := ∃ R : Txs, R.map (·.2) = T ∧ RdP w v R
theorem rdT_of {w : World} {L : List HP} {v : Value} {R : Txs} {B : Txs} (h : Has w (row v 33 1 R.length (R.map (·.1)) :: poolc 5 B :: L)) (hB : ∀ x ∈ R, x ∈ B) : RdT w v (R.map (·.2)) :=
  ⟨R, rfl, h.rd, fun x hx => h.p1.pool_rd (hB x hx)⟩
theorem Prts.rd {w : World} {L : List HP} {v : Value} {T : List (List Int)} (h : Has w (Prts v T :: L)) : RdT w v T := by
  obtain ⟨R, rfl, h2⟩ := prts_iff.1 h
  exact rdT_of h2 fun _ h => h
theorem RdT.drewN {w : World} {v : Value} {T : List (List Int)} (h : RdT w v T) (n : Nat) : RdT (w.drewN n) v T := by
  obtain ⟨R, h1, h2⟩ := h
  exact ⟨R, h1, h2.drewN n⟩
theorem sameTexts (a b : Value) (R T : List (List Int)) (w : World) (ha : RdT w a R) (hb : RdT w b T) :
    Calls Try.prog 28 #[a, b] w fun e w' => e = .returned (.bool (decide (R = T))) ∧ ∃ n, w' = w.drewN n := by
  obtain ⟨R, rfl, h1⟩ := ha
  obtain ⟨T, rfl, h2⟩ := hb
  exact sameParts a b R T w h1 h2
end Go.Proofs.Ytajlikakbihgbaa
/- THE PLAIN LAW OF A DISK, its bytes alone. -/
namespace Go.Dk
open Go.Own
structure Bk where
  firm : List (List Int)
  waits : List (Int × List Int)
  on : Bool
  armed : Option (Int × List Bool)
  writes : List Int
  flushes : Int
def Disk.bk (D : Disk) : Bk := ⟨D.firm.map (·.2), D.waits.map fun x => (x.1, x.2.2), D.on, D.armed, D.writes, D.flushes⟩
def blay (F : List (List Int)) (x : Int × List Int) : List (List Int) := F.set x.1.toNat x.2
def blayAll (F : List (List Int)) (W : List (Int × List Int)) : List (List Int) := W.foldl blay F
def blayKept (keep : List Bool) (F : List (List Int)) (W : List (Int × List Int)) : List (List Int) := W.zipIdx.foldl (fun F x => if kept keep x.2 then blay F x.1 else F) F
def Bk.crash (D : Bk) (keep : List Bool) : Bk := { D with firm := blayKept keep D.firm D.waits, waits := [], armed := none, on := false }
def Bk.falls (D : Bk) : Bool × Bk :=
  match D.armed with
  | none => (false, D)
  | some (n, k) => if 0 < n then (false, { D with armed := some (n - 1, k) }) else (true, D.crash k)
def Bk.there (D : Bk) (at_ : Int) : Bool := decide (0 ≤ at_) && decide (at_ < D.firm.length)
def Bk.asked (D : Bk) (good : Bool) : Int := if D.on then (if good then 0 else 2) else 4
def Bk.write (D : Bk) (at_ : Int) (x : List Int) : Int × Bk :=
  if D.asked (D.there at_ && x.length == 128) ≠ 0 then (D.asked (D.there at_ && x.length == 128), D)
  else if D.falls.1 then (4, D.falls.2)
  else (0, { D.falls.2 with waits := D.falls.2.waits ++ [(at_, x)], writes := D.falls.2.writes ++ [at_] })
def Bk.flush (D : Bk) : Int × Bk :=
  if D.asked true ≠ 0 then (D.asked true, D)
  else if D.falls.1 then (4, D.falls.2)
  else (0, { D.falls.2 with firm := blayAll D.falls.2.firm D.falls.2.waits, waits := [], flushes := D.falls.2.flushes + 1 })
def Bk.arm (D : Bk) (after : Int) (keep : List Bool) : Int × Bk :=
  if D.asked (decide (0 ≤ after)) ≠ 0 then (D.asked (decide (0 ≤ after)), D) else (0, { D with armed := some (after, keep) })
def Bk.boot (D : Bk) : Int × Bk := if D.on then (19, D) else (0, { D with on := true })
def Bk.last (D : Bk) (at_ : Int) : List Int :=
  match D.waits.reverse.find? (fun x => x.1 == at_) with
  | some x => x.2
  | none => D.firm.getD at_.toNat []
def Bk.read (D : Bk) (at_ : Int) : Int × List Int := if D.asked (D.there at_) ≠ 0 then (D.asked (D.there at_), []) else (0, D.last at_)
def zer : List Int := List.replicate 128 0
def Bk.zero (n : Nat) : Bk := ⟨List.replicate n zer, [], true, none, [], 0⟩
theorem bk_lay (F : List Txt) (x : Int × Txt) : (lay F x).map (·.2) = blay (F.map (·.2)) (x.1, x.2.2) := by simp [lay, blay, List.map_set]
theorem bk_layAll (F : List Txt) (W : List (Int × Txt)) : (layAll F W).map (·.2) = blayAll (F.map (·.2)) (W.map fun x => (x.1, x.2.2)) := by
  unfold layAll blayAll
  induction W generalizing F with
  | nil => rfl
  | cons x W ih => rw [List.foldl_cons, ih, bk_lay]; rfl
theorem bk_layKept (keep : List Bool) (F : List Txt) (W : List (Int × Txt)) : (layKept keep F W).map (·.2) = blayKept keep (F.map (·.2)) (W.map fun x => (x.1, x.2.2)) := by
  unfold layKept blayKept
  rw [List.zipIdx_map]
  generalize W.zipIdx = Z
  induction Z generalizing F with
  | nil => rfl
  | cons x Z ih =>
    rw [List.map_cons, List.foldl_cons, List.foldl_cons, ih]
    congr 1
    show _ = if kept keep x.2 then _ else _
    by_cases h : kept keep x.2 <;> simp [h, bk_lay]
theorem bk_crash (D : Disk) (keep : List Bool) : (D.crash keep).bk = D.bk.crash keep := by simp [Disk.crash, Bk.crash, Disk.bk, bk_layKept]
theorem bk_falls (D : Disk) : D.bk.falls = (D.falls.1, D.falls.2.bk) := by
  unfold Bk.falls Disk.falls
  show (match D.armed with | none => _ | some (n, k) => _) = _
  rcases h : D.armed with _ | ⟨n, k⟩
  · rfl
  · by_cases hn : 0 < n
    · simp only [hn, if_true]; rfl
    · simp only [hn, if_false, bk_crash]
theorem bk_there (D : Disk) (x : Int) : D.bk.there x = D.there x := by simp [Bk.there, Disk.there, Disk.bk]
theorem bk_asked (D : Disk) (b : Bool) : D.bk.asked b = D.asked b := rfl
theorem bk_write (D : Disk) (at_ : Int) (x : Txt) : D.bk.write at_ x.2 = ((D.write at_ x).1, (D.write at_ x).2.bk) := by
  unfold Bk.write Disk.write
  rw [bk_there, bk_asked, bk_falls]
  split
  · rfl
  · dsimp only
    split
    · rfl
    · simp [Disk.bk]
theorem bk_flush (D : Disk) : D.bk.flush = (D.flush.1, D.flush.2.bk) := by
  unfold Bk.flush Disk.flush
  rw [bk_asked, bk_falls]
  split
  · rfl
  · dsimp only
    split
    · rfl
    · simp [Disk.bk, bk_layAll]
theorem bk_arm (D : Disk) (n : Int) (k : List Bool) : D.bk.arm n k = ((D.arm n k).1, (D.arm n k).2.bk) := by
  unfold Bk.arm Disk.arm
  rw [bk_asked]
  split <;> rfl
theorem bk_boot (D : Disk) : D.bk.boot = (D.boot.1, D.boot.2.bk) := by
  unfold Bk.boot Disk.boot
  show (if D.on then _ else _) = _
  split <;> rfl
theorem bk_last (D : Disk) (x : Int) : D.bk.last x = (D.last x).2 := by
  unfold Bk.last Disk.last
  show (match (D.waits.map fun x => (x.1, x.2.2)).reverse.find? _ with | some x => _ | none => _) = _
  rw [← List.map_reverse, List.find?_map]
  have e : ((fun y : Int × List Int => y.1 == x) ∘ fun y : Int × Txt => (y.1, y.2.2)) = fun y => y.1 == x := rfl
  rw [e]
  generalize D.waits.reverse.find? (fun y => y.1 == x) = o
  cases o with
  | none =>
    simp only [Option.map_none, Disk.bk, List.getD_eq_getElem?_getD, List.getElem?_map]
    cases D.firm[x.toNat]? <;> rfl
  | some y => rfl
/-! ### What a disk in order does -/
theorem blay_len (F : List (List Int)) (x : Int × List Int) : (blay F x).length = F.length := by simp [blay]
theorem blayAll_len (F : List (List Int)) (W : List (Int × List Int)) : (blayAll F W).length = F.length := by
  unfold blayAll
  induction W generalizing F with
  | nil => rfl
  | cons x W ih => rw [List.foldl_cons, ih, blay_len]
theorem blayKept_len (keep : List Bool) (F : List (List Int)) (W : List (Int × List Int)) : (blayKept keep F W).length = F.length := by
  unfold blayKept
  generalize W.zipIdx = Z
  induction Z generalizing F with
  | nil => rfl
  | cons x Z ih =>
    rw [List.foldl_cons, ih]
    split
    · rw [blay_len]
    · rfl
theorem blayKept_snoc (keep : List Bool) (F : List (List Int)) (W : List (Int × List Int)) (x : Int × List Int) : blayKept keep F (W ++ [x]) = if kept keep W.length then blay (blayKept keep F W) x else blayKept keep F W := by
  simp [blayKept, List.zipIdx_append]
theorem blayAll_snoc (F : List (List Int)) (W : List (Int × List Int)) (x : Int × List Int) : blayAll F (W ++ [x]) = blay (blayAll F W) x := by simp [blayAll]
theorem blayKept_nil (F : List (List Int)) (W : List (Int × List Int)) : blayKept [] F W = F := by
  unfold blayKept
  generalize W.zipIdx = Z
  induction Z generalizing F with
  | nil => rfl
  | cons x Z ih => rw [List.foldl_cons]; simpa [kept] using ih F
theorem Bk.write_ok {D : Bk} (h1 : D.on = true) (h2 : D.armed = none) {a : Int} (h3 : 0 ≤ a) (h4 : a < D.firm.length) {x : List Int} (h5 : x.length = 128) :
    D.write a x = (0, { D with waits := D.waits ++ [(a, x)], writes := D.writes ++ [a] }) := by
  simp [Bk.write, Bk.asked, Bk.there, Bk.falls, h1, h2, h3, h4, h5]
theorem Bk.flush_ok {D : Bk} (h1 : D.on = true) (h2 : D.armed = none) : D.flush = (0, { D with firm := blayAll D.firm D.waits, waits := [], flushes := D.flushes + 1 }) := by
  simp [Bk.flush, Bk.asked, Bk.falls, h1, h2]
theorem Bk.read_ok {D : Bk} (h1 : D.on = true) {a : Int} (h3 : 0 ≤ a) (h4 : a < D.firm.length) : D.read a = (0, D.last a) := by
  simp [Bk.read, Bk.asked, Bk.there, h1, h3, h4]
theorem Bk.read_off {D : Bk} (h1 : D.on = false) (a : Int) : D.read a = (4, []) := by simp [Bk.read, Bk.asked, h1]
theorem Bk.last_firm {D : Bk} (h : D.waits = []) (a : Int) : D.last a = D.firm.getD a.toNat [] := by simp [Bk.last, h]
theorem Bk.last_snoc (F : List (List Int)) (W : List (Int × List Int)) (on : Bool) (ar : Option (Int × List Bool)) (ws : List Int) (fl : Int) (x : Int × List Int) (a : Int) : (Bk.mk F (W ++ [x]) on ar ws fl).last a = if x.1 = a then x.2 else (Bk.mk F W on ar ws fl).last a := by
  unfold Bk.last
  simp only [List.reverse_append, List.reverse_cons, List.reverse_nil, List.nil_append, List.cons_append, List.find?_cons]
  by_cases h : x.1 = a
  · simp [h]
  · have : (x.1 == a) = false := by simpa using h
    simp [this, h]
end Go.Dk
