/- THE WALK of Write. -/
import Derived.Test.YtajlikakbihgbaaDiskr
import Derived.Test.YtajlikakbihgbaaDiskf
import Derived.Test.YtajlikakbihgbaaCloneB
namespace Go.Proofs.Ytajlikakbihgbaa
open Go.RowKit Go.Own Go.Dk
theorem diskThereNil (at_ : Int) (w : World) : Calls Try.prog 39 #[.pointer none, .int .i64 at_] w fun e w' => e = .returned (.bool false) ∧ w = w' := by
  have H := hid (diskSectorsNil w)
  by_cases h0 : 0 ≤ at_
  · go_enter Try.func39, Try.ntmps39
    go_wp2_with fail
    refine H.out.mono ?_
    rintro e w' ⟨rfl, rfl⟩
    go_wp2_with fail
    go_ret
    exact ⟨by simp; omega, rfl⟩
  · go_enter Try.func39, Try.ntmps39
    go_wp2_with fail
    go_ret
    exact ⟨rfl, rfl⟩
/-- Refused. -/
theorem writeNot (d : Nat) (D : Disk) (at_ : Int) (b : Value) (xs : List Int) (x : Value) (w : World) (L : List HP) (hA : D.asked (D.there at_ && xs.length == 128) ≠ 0) (hb : Rd w b 1 xs.length (bc xs)) (hO : Has w (Dsk d D :: L)) :
    Calls Try.prog 34 #[.pointer (some ⟨d, 0, none⟩), .int .i64 at_, b] w fun e w' => e = .returned (.int .i64 (D.write at_ (x, xs)).1) ∧ Has w' (Dsk d (D.write at_ (x, xs)).2 :: L) ∧ Keep w w' := by
  obtain ⟨bp, bcap, rfl, -, -, -⟩ := hb.form
  have HT := hid (diskThere d D at_ w L hO)
  have H := hid (diskAsked d D (D.there at_ && xs.length == 128) w L hO)
  have HO := hid hO
  have HF := hid (show D.write at_ (x, xs) = (D.asked (D.there at_ && xs.length == 128), D) from if_pos hA)
  clear hO
  generalize D.asked (D.there at_ && xs.length == 128) = c at *
  rcases ht : D.there at_ with _ | _
  all_goals rw [ht] at H HT
  all_goals clear ht
  · rw [Bool.false_and] at H
    go_enter Try.func34, Try.ntmps34
    go_wp2_with (first
      | (go_at_call 39; refine HT.out.mono ?_; rintro e w' ⟨rfl, rfl⟩; dsimp only)
      | (go_at_call 38; refine H.out.mono ?_; rintro e w' ⟨rfl, rfl⟩; dsimp only))
    go_ret
    rw [HF.out]
    exact ⟨rfl, HO.out, Keep.refl _⟩
  · rw [Bool.true_and] at H
    by_cases hl : xs.length = 128
    · rw [hl] at H
      have hl' : (xs.length : Int) = 128 := by omega
      go_enter Try.func34, Try.ntmps34
      go_wp2_with (first
        | (go_at_call 39; refine HT.out.mono ?_; rintro e w' ⟨rfl, rfl⟩; dsimp only)
        | (go_at_call 38; refine H.out.mono ?_; rintro e w' ⟨rfl, rfl⟩; dsimp only))
      go_ret
      rw [HF.out]
      exact ⟨rfl, HO.out, Keep.refl _⟩
    · rw [show (xs.length == 128) = false from by simpa using hl] at H
      have hl' : ((xs.length : Int) == 128) = false := by simp; omega
      go_enter Try.func34, Try.ntmps34
      go_wp2_with (first
        | (go_at_call 39; refine HT.out.mono ?_; rintro e w' ⟨rfl, rfl⟩; dsimp only)
        | (go_at_call 38; refine H.out.mono ?_; rintro e w' ⟨rfl, rfl⟩; dsimp only))
      go_ret
      rw [HF.out]
      exact ⟨rfl, HO.out, Keep.refl _⟩
/-- The power goes. -/
theorem writeFalls (d : Nat) (D : Disk) (at_ : Int) (b : Value) (xs : List Int) (x : Value) (w : World) (L : List HP) (ht : D.there at_ = true) (hl : xs.length = 128) (hA : D.asked true = 0) (hf : D.falls.1 = true) (hb : Rd w b 1 xs.length (bc xs)) (hO : Has w (Dsk d D :: L)) :
    Calls Try.prog 34 #[.pointer (some ⟨d, 0, none⟩), .int .i64 at_, b] w fun e w' => e = .returned (.int .i64 (D.write at_ (x, xs)).1) ∧ Has w' (Dsk d (D.write at_ (x, xs)).2 :: L) ∧ Keep w w' := by
  obtain ⟨bp, bcap, rfl, -, -, -⟩ := hb.form
  have HT := hid (diskThere d D at_ w L hO)
  have H := hid (diskAsked d D true w L hO)
  have H2 := hid (diskFalls d D w L hO)
  have HF := hid (show D.write at_ (x, xs) = (4, D.falls.2) from by simp [Disk.write, ht, hl, hA, hf])
  rw [hA] at H
  rw [hf] at H2
  rw [ht] at HT
  have hl' : (xs.length : Int) = 128 := by omega
  clear hO hA hf ht hb
  go_enter Try.func34, Try.ntmps34
  go_wp2_with (first
    | (go_at_call 39; refine HT.out.mono ?_; rintro e w' ⟨rfl, rfl⟩; dsimp only)
    | (go_at_call 38; refine H.out.mono ?_; rintro e w' ⟨rfl, rfl⟩; dsimp only)
    | (go_at_call 56; refine H2.out.mono ?_; rintro e w' ⟨rfl, h, hK⟩; dsimp only))
  go_ret
  rw [HF.out]
  exact ⟨rfl, h, hK⟩
theorem infoWr : (Try.prog.info? 85).map (fun i => (i.zero, i.size, i.bytes)) = some (some (.agg #[.int .i64 0, .slice none 0 0]), 2, 32) := by kernel_rfl
theorem falls_firm {D E : Disk} (hf : D.falls = (false, E)) : E.firm = D.firm := by
  unfold Disk.falls at hf
  split at hf
  · cases hf; rfl
  · split at hf <;> cases hf; rfl
theorem okWrite {B : List Txt} {D : Disk} (h : Ok B D) (at_ : Int) (x : Txt) (ws : List Int) (ha : 0 ≤ at_ ∧ at_ < D.firm.length) (hl : x.2.length = 128) : Ok (x :: B) { D with waits := D.waits ++ [(at_, x)], writes := ws } where
  firm := fun y hy => List.mem_cons_of_mem _ (h.firm y hy)
  waits := fun y hy => by
    rcases List.mem_append.1 hy with h1 | h1
    · exact List.mem_cons_of_mem _ (h.waits y h1)
    · rw [List.mem_singleton.1 h1]; exact List.mem_cons_self
  at_ := fun y hy => by
    rcases List.mem_append.1 hy with h1 | h1
    · exact h.at_ y h1
    · rw [List.mem_singleton.1 h1]; exact ha
  len := h.len
  wlen := fun y hy => by
    rcases List.mem_append.1 hy with h1 | h1
    · exact h.wlen y h1
    · rw [List.mem_singleton.1 h1]; exact hl
  left := h.left
/-- The write waits. -/
theorem writeGo (d : Nat) (D E : Disk) (at_ : Int) (b : Value) (xs : List Int) (w : World) (L : List HP) (ht : D.there at_ = true) (hl : xs.length = 128) (hA : D.asked true = 0) (hf : D.falls = (false, E)) (hw : E.waits.length ≤ 1000000000) (hw2 : E.writes.length ≤ 1000000000) (hL : ∀ w', Has w' L → Rd w' b 1 xs.length (bc xs)) (hO : Has w (Dsk d D :: L)) :
    Calls Try.prog 34 #[.pointer (some ⟨d, 0, none⟩), .int .i64 at_, b] w fun e w' => ∃ x, e = .returned (.int .i64 (D.write at_ (x, xs)).1) ∧ Has w' (Dsk d (D.write at_ (x, xs)).2 :: L) ∧ Keep w w' := by
  have hb := hL _ hO.drop
  obtain ⟨bp, bcap, rfl, -, -, -⟩ := hb.form
  have HL := hid hL
  have HT := hid (diskThere d D at_ w L hO)
  have H := hid (diskAsked d D true w L hO)
  have H2 : Hid (Calls Try.prog 56 #[.pointer (some ⟨d, 0, none⟩)] w fun e w' => e = .returned (.bool false) ∧ Has w' (Dsk d E :: L) ∧ Keep w w') := by
    have := diskFalls d D w L hO
    rw [hf] at this
    exact hid this
  have HF := hid (fun x => show D.write at_ (x, xs) = (0, { E with waits := E.waits ++ [(at_, (x, xs))], writes := E.writes ++ [at_] }) from by simp [Disk.write, ht, hl, hA, hf])
  have HTh := hid (show 0 ≤ at_ ∧ at_ < E.firm.length from by rw [falls_firm hf]; simpa [Disk.there] using ht)
  rw [hA] at H
  rw [ht] at HT
  have hl' : (xs.length : Int) = 128 := by omega
  clear hO hA hf ht hb hL
  go_enter Try.func34, Try.ntmps34
  go_wp2_with (first
    | (go_at_call 39; refine HT.out.mono ?_; rintro e w' ⟨rfl, rfl⟩; dsimp only)
    | (go_at_call 38; refine H.out.mono ?_; rintro e w' ⟨rfl, rfl⟩; dsimp only)
    | (go_at_call 56; refine H2.out.mono ?_; rintro e w' ⟨rfl, h, hK⟩; dsimp only))
  clear H H2 HT
  obtain ⟨fv, wv, av, lv, B, hok, hO⟩ := dsk_iff.1 h.drew
  have hrd := HL.out _ h.drop.drew
  rw [hl] at hrd
  obtain ⟨F, W, on, ar, ws, fl⟩ := E
  simp only at hO hw hw2
  have H3 := hid (cloneBytes (.slice bp 128 bcap) xs w'.drew _ hO (by rw [hl]; exact hrd) (by omega))
  have HK := hid hK.drew
  have Hok := hid hok
  have hc := hO.cells
  refine region_tail1 (fun w => w.cell? ⟨d, 1, none⟩ = some wv) (by kernel_rfl) (by kernel_rfl) (by kernel_rfl) (by decide) (hc 1) ?_
  clear hc hO h hok hrd hK
  repeat (first
    | (refine wpL_read (by rfl) (by rfl) ?_ ?_ ?_; rotate_left; (intro w hS; go_simp; with_reducible rfl); simp only [Act.put, List.setIfInBounds_toArray, List.set_cons_zero, List.set_cons_succ]) | (refine wpL_skip (by rfl) ?_; simp only [Act.put, List.setIfInBounds_toArray, List.set_cons_zero, List.set_cons_succ]))
  refine wpL_act (by rfl) (by rfl) (fun K hK => ?_)
  go_simp
  go_at_call 32
  refine H3.out.mono ?_
  rintro e w2 ⟨v', rfl, h2, hk2, -⟩
  dsimp only
  have HO2 := hid h2
  have HK2 := hid (HK.out.trans hk2)
  clear h2 hk2 H3 HK
  refine hK.out _ _ (HO2.out.p1.cells 1) ?_
  clear hK K
  try simp only [Act.put, List.setIfInBounds_toArray, List.set_cons_zero, List.set_cons_succ]
  obtain ⟨vp, vc, rfl, -⟩ := HO2.out.rd.form
  rw [hl]
  repeat (first
    | (refine wpL_read (by rfl) (by rfl) ?_ ?_ ?_; rotate_left; (intro w hS; go_simp; with_reducible rfl); simp only [Act.put, List.setIfInBounds_toArray, List.set_cons_zero, List.set_cons_succ]) | (refine wpL_skip (by rfl) ?_; simp only [Act.put, List.setIfInBounds_toArray, List.set_cons_zero, List.set_cons_succ]))
  refine wpL_act (by rfl) (by rfl) (fun K hK => ?_)
  go_simp
  have HO3 := hid (HO2.out.alloc (.cells #[.int .i64 at_, .slice vp 128 vc] 85))
  have HK3 := hid (HK2.out.alloc (.cells #[.int .i64 at_, .slice vp 128 vc] 85))
  have hb2 : w2.heap.size = w2.heap.size := rfl
  generalize w2.heap.size = b2 at HO3 HK3 ⊢
  refine hK.out _ _ (HO3.out.p2.cells 1) ?_
  clear hK K
  try simp only [Act.put, List.setIfInBounds_toArray, List.set_cons_zero, List.set_cons_succ]
  generalize w2.alloc (.cells #[.int .i64 at_, .slice vp 128 vc] 85) = w3 at *
  refine wpL_act (by rfl) (by rfl) (fun K hK => ?_)
  refine wp_append1 (.tmp 27) (.tmp 32) 64 rfl Try.underlying64 infoWr rfl [.int .i64 at_, .slice vp 128 vc] rfl HO3.out.p4 (by rfl) 1 b2 (by rfl) (fun j => by simpa using HO3.out.cells j) (by simp [Value.oneCell']) (le_maxLen (by omega)) (by omega) fun v' w' h2 h3 => ?_
  obtain ⟨np, nc, rfl, -⟩ := h2.rd.form
  have HO4 := hid h2
  have HK4 := hid (HK3.out.trans h3)
  clear h2 h3 HO3 HK3 HO2 HK2
  refine hK.out _ _ (HO4.out.p3.cells 1) ?_
  clear hK K
  try simp only [Act.put, List.setIfInBounds_toArray, List.set_cons_zero, List.set_cons_succ]
  repeat (first
    | (refine wpL_read (by rfl) (by rfl) ?_ ?_ ?_; rotate_left; (intro w hS; go_simp; with_reducible rfl); simp only [Act.put, List.setIfInBounds_toArray, List.set_cons_zero, List.set_cons_succ]) | (refine wpL_skip (by rfl) ?_; simp only [Act.put, List.setIfInBounds_toArray, List.set_cons_zero, List.set_cons_succ]))
  refine wpL_nil ?_
  refine wpOp_last rfl (by rfl) ?_
  have ht := HO4.out.p3.thaw
  have hc := HO4.out.p3.cells
  go_simp
  have HO5 := hid (HO4.out.p3.set 1 (.slice np (W.length + 1) nc))
  have HK5 := hid (HK4.out.set ⟨d, 1, none⟩ (.slice np (W.length + 1) nc))
  clear HO4 HK4 ht hc
  generalize World.setCell _ ⟨d, 1, none⟩ (.slice np (W.length + 1) nc) = w5 at HO5 HK5 ⊢
  have hc := HO5.out.cells
  have ht := HO5.out.thaw
  go_wp2_with (at_builtin; refine wpList_append1 rfl _ _ _ rfl Try.underlying22 infoInt rfl (.int .i64 at_) (HO5.out.p6.alloc' _) rfl 1 _ rfl (by simp) rfl (le_maxLen (by omega)) (by omega) ?_)
  intro v6 w6 h6 hk6
  obtain ⟨lp, lc, rfl, -⟩ := h6.rd.form
  have HO6 := hid h6.p1
  have HK6 := hid ((HK5.out.alloc _).trans hk6)
  clear h6 hk6 hc ht HO5 HK5
  have hc := HO6.out.cells
  have ht := HO6.out.thaw
  go_wp2_with fail
  go_ret
  refine ⟨.slice vp 128 vc, ?_⟩
  rw [HF.out]
  refine ⟨rfl, dsk_iff.2 ⟨fv, .slice np (W.length + 1) nc, av, .slice lp (ws.length + 1) lc, (.slice vp 128 vc, xs) :: B, ?_, ?_⟩, HK6.out.set _ _⟩
  · exact okWrite Hok.out at_ (.slice vp 128 vc, xs) (ws ++ [at_]) HTh.out hl
  · have h := HO6.out.set 4 (.slice lp (ws.length + 1) lc)
    have h1 := h.p3.drop.p6.p4
    rw [show (128 : Nat) = xs.length from hl.symm] at h1
    have h2 := h1.pool_add.b5.p1.b4.p1.b2
    rw [hl] at h2
    have e1 : wenc W ++ [.int .i64 at_, .slice vp 128 vc] = wenc (W ++ [(at_, (.slice vp 128 vc, xs))]) := by simp [wenc]
    have e2 : W.length + 1 = (W ++ [(at_, ((.slice vp 128 vc : Value), xs))]).length := by simp
    have e3 : ic ws ++ [.int .i64 at_] = ic (ws ++ [at_]) := (ic_snoc _ _).symm
    have e4 : ws.length + 1 = (ws ++ [at_]).length := by simp
    rw [e1, e3] at h2
    generalize Value.slice np (W.length + 1) nc = v1 at h2 ⊢
    generalize Value.slice lp (ws.length + 1) lc = v2 at h2 ⊢
    rw [e2, e4] at h2
    exact h2
theorem diskWrite (d : Nat) (D : Disk) (at_ : Int) (b : Value) (xs : List Int) (w : World) (L : List HP) (hw : D.waits.length ≤ 1000000000) (hw2 : D.writes.length ≤ 1000000000) (hL : ∀ w', Has w' L → Rd w' b 1 xs.length (bc xs)) (hO : Has w (Dsk d D :: L)) :
    Calls Try.prog 34 #[.pointer (some ⟨d, 0, none⟩), .int .i64 at_, b] w fun e w' => ∃ x, e = .returned (.int .i64 (D.write at_ (x, xs)).1) ∧ Has w' (Dsk d (D.write at_ (x, xs)).2 :: L) ∧ Keep w w' := by
  by_cases hA : D.asked (D.there at_ && xs.length == 128) = 0
  · have hg : (D.there at_ && xs.length == 128) = true := by
      cases h : (D.there at_ && xs.length == 128)
      · rw [h] at hA
        unfold Disk.asked at hA
        split at hA <;> simp at hA
      · rfl
    have hl : xs.length = 128 := by have := (Bool.and_eq_true_iff.1 hg).2; simpa using this
    have ht := (Bool.and_eq_true_iff.1 hg).1
    rw [hg] at hA
    rcases hf : D.falls with ⟨c, E⟩
    cases c
    · have hE : E.waits = D.waits ∧ E.writes = D.writes := by
        unfold Disk.falls at hf
        split at hf
        · cases hf; exact ⟨rfl, rfl⟩
        · split at hf <;> cases hf; exact ⟨rfl, rfl⟩
      exact writeGo d D E at_ b xs w L ht hl hA hf (by rw [hE.1]; exact hw) (by rw [hE.2]; exact hw2) hL hO
    · exact (writeFalls d D at_ b xs (.slice none 0 0) w L ht hl hA (by rw [hf]) (hL _ hO.drop) hO).mono fun e w' h => ⟨_, h⟩
  · exact (writeNot d D at_ b xs (.slice none 0 0) w L hA (hL _ hO.drop) hO).mono fun e w' h => ⟨_, h⟩
end Go.Proofs.Ytajlikakbihgbaa
