/- THE WALKS of the reference's disk: Write, Read, Waiting, New. -/
import Derived.Test.YtbcilhcmjkgkgaaRdskb
namespace Go.Proofs.Ytbcilhcmjkgkgaa
open Go.RowKit Go.Own Go.Dk
theorem infoWait : (Try.prog.info? 81).map (fun i => (i.zero, i.size, i.bytes)) = some (some (.agg #[.int .i64 0, .slice none 0 0]), 2, 32) := by kernel_rfl
theorem wenc_one {B : List Txt} {D : Disk} (h : Ok B D) {w : World} {L : List HP} (hO : Has w (poolc 5 B :: L)) : ∀ u ∈ wenc D.waits, u.oneCell' = true := by
  intro u hu
  unfold wenc at hu
  obtain ⟨x, hx, hu⟩ := List.mem_flatMap.1 hu
  obtain ⟨p, c, e⟩ := okSlicesP h hO x hx
  simp only [List.mem_cons, List.not_mem_nil, or_false] at hu
  rcases hu with rfl | rfl
  · rfl
  · rw [e]; rfl
theorem bytes_of {w : World} {L : List HP} {v : Value} {xs : List Int} (h : Has w (row v 5 1 xs.length (bc xs) :: L)) : Has w (Bytes v xs :: L) := h
/-- 'append(s, u)' of one element of more cells. -/
theorem wpList_appendS {P : Program} {w : World} {l : List HP} {v : Value} {e : TypeId} {size n : Nat} {xs : List Value} {ops : Array Oper} {rest : List Oper} {o : Oper} {a : Act} {Q : Exit → Act → World → Prop} (hgd : o.guard = none) (s x : Operand) (t : TypeId)
    (ho : o.op = .call { callee := .builtin .append, args := #[s, x], argTypes := #[t, t] })
    {z : Value} {bytes : Nat} (ht : P.underlying t = some (.slice e)) (hi : (P.info? e).map (fun i => (i.zero, i.size, i.bytes)) = some (some z, size, bytes)) (hzs : z.cells.size = size)
    (us : List Value) (hus : us.length = size) (hO : Has w (row v e size n xs :: l)) (hs : a.eval s = v) (c : Nat) (b : Nat)
    (hx : a.eval x = .slice (some ⟨b, 0, none⟩) 1 c) (hu : ∀ j, w.cell? ⟨b, j, none⟩ = us[j]?) (h1 : ∀ u ∈ us, u.oneCell' = true)
    (h63 : n + 1 ≤ maxLen) (hbytes : (n + 1) * bytes ≤ 140737488355328)
    (h : ∀ v' w', Has w' (row v' e size (n + 1) (xs ++ us) :: l) → Keep w w' → wpList P ops Q rest (a.put o.dst v') w') : wpList P ops Q (o :: rest) a w :=
  wpList_plain hgd fun _ hK => wp_append1 s x t ho ht hi hzs us hus hO hs c b hx hu h1 h63 hbytes fun v' w' h2 h3 => hK _ _ (h v' w' h2 h3)
theorem rWriteNo (c : Nat) (D : Disk) (at_ : Int) (b : Value) (x : Value) (xs : List Int) (w : World) (L : List HP) (hb : Rd w b 1 xs.length (bc xs)) (hA : D.asked (D.there at_ && xs.length == 128) ≠ 0) (hO : Has w (RDsk c D :: L)) :
    Calls Try.prog 43 #[.pointer (some ⟨c, 0, none⟩), .int .i64 at_, b] w fun e w' => e = .returned (.int .i64 (D.write at_ (x, xs)).1) ∧ Has w' (RDsk c (D.write at_ (x, xs)).2 :: L) ∧ Keep w w' := by
  have HO := hid hO
  obtain ⟨bp, bcap, rfl, -, hbl, -⟩ := hb.form
  have HF := hid (show D.write at_ (x, xs) = (D.asked (D.there at_ && xs.length == 128), D) from if_pos hA)
  obtain ⟨fv, wv, kv, lv, ks, left, B, hok, hO⟩ := rdsk_iff.1 hO
  obtain ⟨fp, fc, rfl, -, hfl, -⟩ := hO.p1.rd.form
  have hc0 : w.cell? ⟨c, 0, none⟩ = some (.slice fp D.firm.length fc) := hO.cells 0
  rcases hon : D.on with _ | _
  · have hc : w.cell? ⟨c, 2, none⟩ = some (.bool true) := by have := hO.cells 2; rw [hon] at this; exact this
    have HV := hid (asked_off hon (D.there at_ && xs.length == 128))
    clear hO hok hon hA hb
    go_enter Try.func43, Try.ntmps43
    go_wp2_with fail
    go_ret
    rw [HF.out, HV.out]
    exact ⟨rfl, HO.out, Keep.refl _⟩
  · have hc : w.cell? ⟨c, 2, none⟩ = some (.bool false) := by have := hO.cells 2; rw [hon] at this; exact this
    have hg : (D.there at_ && xs.length == 128) = false := by
      cases h : (D.there at_ && xs.length == 128)
      · rfl
      · rw [h] at hA; exact absurd (asked_on hon) hA
    have HV := hid (show D.asked (D.there at_ && xs.length == 128) = 2 by rw [hg]; simp [Disk.asked, hon])
    have HG := hid hg
    clear hO hok hon hA hb hg
    by_cases h1 : at_ < 0
    · go_enter Try.func43, Try.ntmps43
      go_wp2_with fail
      go_ret
      rw [HF.out, HV.out]
      exact ⟨rfl, HO.out, Keep.refl _⟩
    · have h1' : decide (at_ < 0) = false := by simp; omega
      by_cases h2 : (D.firm.length : Int) ≤ at_
      · go_enter Try.func43, Try.ntmps43
        go_wp2_with fail
        go_ret
        rw [HF.out, HV.out]
        exact ⟨rfl, HO.out, Keep.refl _⟩
      · have h2' : decide ((D.firm.length : Int) ≤ at_) = false := by simp; omega
        have h3 : ((xs.length : Int) != 128) = true := by
          have := HG.out
          simp only [Disk.there, Bool.and_eq_false_iff, decide_eq_false_iff_not, beq_eq_false_iff_ne] at this
          simp
          omega
        go_enter Try.func43, Try.ntmps43
        go_wp2_with fail
        go_ret
        rw [HF.out, HV.out]
        exact ⟨rfl, HO.out, Keep.refl _⟩
set_option maxHeartbeats 2000000 in
theorem rWriteGo (c : Nat) (D : Disk) (at_ : Int) (b : Value) (xs : List Int) (w : World) (L : List HP) (hw : D.waits.length ≤ 100000000) (hw2 : D.writes.length ≤ 1000000000) (hL : ∀ w', Has w' L → Rd w' b 1 xs.length (bc xs)) (hA : D.asked (D.there at_ && xs.length == 128) = 0) (hO : Has w (RDsk c D :: L)) :
    Calls Try.prog 43 #[.pointer (some ⟨c, 0, none⟩), .int .i64 at_, b] w fun e w' => ∃ x, e = .returned (.int .i64 (D.write at_ (x, xs)).1) ∧ Has w' (RDsk c (D.write at_ (x, xs)).2 :: L) ∧ Keep w w' := by
  have HO := hid hO
  have hg : (D.there at_ && xs.length == 128) = true := by
    cases h : (D.there at_ && xs.length == 128)
    · rw [h] at hA
      unfold Disk.asked at hA
      split at hA <;> simp at hA
    · rfl
  have hon : D.on = true := by
    cases h : D.on
    · rw [asked_off h] at hA; simp at hA
    · rfl
  have hl : xs.length = 128 := by have := (Bool.and_eq_true_iff.1 hg).2; simpa using this
  have hth := (Bool.and_eq_true_iff.1 hg).1
  have h0 : 0 ≤ at_ ∧ at_ < D.firm.length := by simpa [Disk.there] using hth
  have hb := hL _ hO.drop
  obtain ⟨bp, bcap, rfl, -, -, -⟩ := hb.form
  have HL := hid hL
  have HF := hid (fun x : Value => show D.write at_ (x, xs) = if D.falls.1 then (4, D.falls.2) else (0, { D.falls.2 with waits := D.falls.2.waits ++ [(at_, (x, xs))], writes := D.falls.2.writes ++ [at_] }) by unfold Disk.write; rw [if_neg (by rw [hg, asked_on hon]; simp)])
  have H2 := hid (rFalls c D w L hO)
  obtain ⟨fv, wv, kv, lv, ks, left, B, hok, hP⟩ := rdsk_iff.1 hO
  obtain ⟨fp, fc, rfl, -, hfl, -⟩ := hP.p1.rd.form
  have hc0 : w.cell? ⟨c, 0, none⟩ = some (.slice fp D.firm.length fc) := hP.cells 0
  have hc : w.cell? ⟨c, 2, none⟩ = some (.bool false) := by have := hP.cells 2; rw [hon] at this; exact this
  have h1' : decide (at_ < 0) = false := by simp; omega
  have h2' : decide ((D.firm.length : Int) ≤ at_) = false := by simp; omega
  have h3 : ((xs.length : Int) != 128) = false := by simp [hl]
  have Hl := hid hl
  rcases hf : D.falls with ⟨fb, E⟩
  have HFE := hid hf
  rw [hf] at H2 HF
  have H0 := hid h0
  clear hO hP hok hon hA hb hL hg hl hth h0 hf
  cases fb
  · go_enter Try.func43, Try.ntmps43
    go_wp2_with fail
    refine H2.out.mono ?_
    rintro e w' ⟨rfl, h, hK⟩
    clear H2 HO hc0 hc
    have hEw : E.waits = D.waits ∧ E.writes = D.writes ∧ E.firm = D.firm := by
      have := HFE.out
      unfold Disk.falls at this
      split at this
      · cases this; exact ⟨rfl, rfl, rfl⟩
      · split at this <;> cases this; exact ⟨rfl, rfl, rfl⟩
    obtain ⟨fv, wv, kv, lv, ks, left, B, hok, hO⟩ := rdsk_iff.1 h
    have hone := wenc_one hok.1 hO.p5
    obtain ⟨F, W, on, ar, ws, fl⟩ := E
    simp only at hO hEw hok hone
    have hWl : W.length ≤ 100000000 := by rw [hEw.1]; exact hw
    have hwsl : ws.length ≤ 1000000000 := by rw [hEw.2.1]; exact hw2
    have Hat := hid (show 0 ≤ at_ ∧ at_ < F.length by rw [hEw.2.2]; exact H0.out)
    obtain ⟨wp, wc, rfl, -⟩ := hO.p2.rd.form
    obtain ⟨lp, lc, rfl, -⟩ := (Ints.rd hO.p4).form
    have HO := hid hO
    have Hok := hid hok
    have HK := hid hK
    have Hone := hid hone
    have hc1 : w'.cell? ⟨c, 1, none⟩ = some (.slice wp W.length wc) := hO.cells 1
    clear h hO hok hK hone hEw
    dsimp only
    go_wp2_with (at_builtin; refine wpList_appendA rfl _ _ _ rfl Try.underlying54 infoWait rfl (by decide) (HO.out.row_nil 81 2) rfl _ W.length _ rfl (HO.out.p2.rd) Hone.out (le_maxLen (by omega)) (by omega) ?_)
    intro v1 w1 h1 hk1
    have HO1 := hid h1
    have HK1 := hid (HK.out.trans hk1)
    clear h1 hk1 HK Hone hc1
    go_wp2_with (at_builtin; refine wpList_appendA rfl _ _ _ rfl Try.underlying28 infoU8 rfl (by decide) (HO1.out.row_nil 5 1) rfl _ xs.length _ rfl (HL.out _ HO1.out.drop.drop.drop.drop.drop.drop.drop) (bc_one _) (le_maxLen (by have := Hl.out; omega)) (by have := Hl.out; omega) ?_)
    intro v2 w2 h2 hk2
    replace h2 := bytes_of h2
    obtain ⟨p2, c2, rfl, -⟩ := (Bytes.rd h2).form
    rw [Hl.out] at h2 ⊢
    have HO2 := hid h2
    have HK2 := hid (HK1.out.trans hk2)
    have HO3 := hid (h2.alloc (.cells #[.int .i64 at_, .slice p2 128 c2] 81))
    clear h2 hk2 HO1 HK1
    go_wp2_with (at_builtin; refine wpList_appendS rfl _ _ _ rfl Try.underlying54 infoWait rfl [.int .i64 at_, .slice p2 128 c2] rfl HO3.out.p2 rfl 1 _ rfl (fun j => by simp) (by simp [Value.oneCell']) (le_maxLen (by omega)) (by omega) ?_)
    intro v4 w4 h4 hk4
    obtain ⟨p4, c4, rfl, -⟩ := h4.rd.form
    have HO4 := hid (h4.p1.drop.p2)
    have HK4 := hid ((HK2.out.alloc _).trans hk4)
    have hc := h4.p1.drop.p2.cells
    have ht := h4.p1.drop.p2.thaw
    clear h4 hk4 HO2 HK2 HO3
    go_upto_region 8 with fail
    have HO5 := hid (HO4.out.set 1 (.slice p4 (W.length + 1) c4))
    have HK5 := hid (HK4.out.set ⟨c, 1, none⟩ (.slice p4 (W.length + 1) c4))
    clear HO4 HK4 hc ht
    generalize w4.setCell ⟨c, 1, none⟩ (.slice p4 (W.length + 1) c4) = w5 at HO5 HK5 ⊢
    have hc5 : w5.cell? ⟨c, 6, none⟩ = some (.slice lp ws.length lc) := HO5.out.cells 6
    have ht5 := HO5.out.thaw 6
    go_wp2_with (at_builtin; refine wpList_append1 rfl _ _ _ rfl Try.underlying22 infoInt rfl (.int .i64 at_) (HO5.out.p6.alloc' _) rfl 1 _ rfl (by simp) rfl (le_maxLen (by omega)) (by omega) ?_)
    intro v6 w6 h6 hk6
    obtain ⟨p6, c6, rfl, -⟩ := h6.rd.form
    have HO6 := hid h6.p1
    have HK6 := hid ((HK5.out.alloc _).trans hk6)
    have hc6 := h6.p1.cells
    have ht6 := h6.p1.thaw
    clear h6 hk6 HO5 HK5 hc5 ht5
    go_wp2_with fail
    go_ret
    refine ⟨.slice p2 128 c2, ?_⟩
    rw [HF.out]
    refine ⟨rfl, rdsk_iff.2 ⟨fv, .slice p4 (W.length + 1) c4, kv, .slice p6 (ws.length + 1) c6, ks, left, (.slice p2 128 c2, xs) :: B, ⟨okWrite Hok.out.1 at_ (.slice p2 128 c2, xs) (ws ++ [at_]) Hat.out Hl.out, Hok.out.2⟩, ?_⟩, HK6.out.set _ _⟩
    have h := (HO6.out.set 6 (.slice p6 (ws.length + 1) c6)).p5.drop.p6.p4
    have h2 := (Has.pool_add h).b5.p1.b4.p1.b2
    have e1 : wenc W ++ [.int .i64 at_, .slice p2 128 c2] = wenc (W ++ [(at_, (.slice p2 128 c2, xs))]) := by simp [wenc]
    have e2 : W.length + 1 = (W ++ [(at_, ((.slice p2 128 c2 : Value), xs))]).length := by simp
    have e3 : ic ws ++ [.int .i64 at_] = ic (ws ++ [at_]) := (ic_snoc _ _).symm
    have e4 : ws.length + 1 = (ws ++ [at_]).length := by simp
    rw [e1, e3] at h2
    generalize Value.slice p4 (W.length + 1) c4 = v1 at h2 ⊢
    generalize Value.slice p6 (ws.length + 1) c6 = v2 at h2 ⊢
    rw [e2, e4] at h2
    exact h2
  · go_enter Try.func43, Try.ntmps43
    go_wp2_with fail
    refine H2.out.mono ?_
    rintro e w' ⟨rfl, h, hK⟩
    dsimp only
    go_wp2_with fail
    go_ret
    refine ⟨.slice none 0 0, ?_⟩
    rw [HF.out]
    exact ⟨rfl, h, hK⟩
end Go.Proofs.Ytbcilhcmjkgkgaa
