/- TEXTS of mine, merged. -/
import Derived.Test.YtajlikakbihgbaaM10
import Derived.Test.YtajlikakbihgbaaM6
import Derived.Test.YtajlikakbihgbaaM3
import Derived.Deep.DeepCutAuto
import Derived.Test.YtajlikakbihgbaaM5
/- THE WALKS of the reference's disk: Write, Read, Waiting, New. -/
namespace Go.Proofs.Ytajlikakbihgbaa
open Go.RowKit Go.Own Go.Dk
theorem infoWait : (Try.prog.info? 102).map (fun i => (i.zero, i.size, i.bytes)) = some (some (.agg #[.int .i64 0, .slice none 0 0]), 2, 32) := by kernel_rfl
theorem wenc_one {B : List Txt} {D : Disk} (h : Ok B D) {w : World} {L : List HP} (hO : Has w (poolc 5 B :: L)) : ∀ u ∈ wenc D.waits, u.oneCell' = true := by
  intro u hu
  unfold wenc at hu
  obtain ⟨x, hx, hu⟩ := List.mem_flatMap.1 hu
  obtain ⟨p, c, e⟩ := okSlicesP h hO x hx
  simp only [List.mem_cons, List.not_mem_nil, or_false] at hu
  rcases hu with rfl | rfl
  · rfl
  · rw [e]; rfl
theorem bytes_of {w : World} {L : List HP} {v : Value} {xs : List Int} (h : Has w (row v 5 1 xs.length (bc xs) :: L)) : Has w (Bytes v xs :: L) := h
/-- 'append(s, u)' of one element of more cells. -/
theorem wpList_appendS {P : Program} {w : World} {l : List HP} {v : Value} {e : TypeId} {size n : Nat} {xs : List Value} {ops : Array Oper} {rest : List Oper} {o : Oper} {a : Act} {Q : Exit → Act → World → Prop} (hgd : o.guard = none) (s x : Operand) (t : TypeId)
    (ho : o.op = .call { callee := .builtin .append, args := #[s, x], argTypes := #[t, t] })
    {z : Value} {bytes : Nat} (ht : P.underlying t = some (.slice e)) (hi : (P.info? e).map (fun i => (i.zero, i.size, i.bytes)) = some (some z, size, bytes)) (hzs : z.cells.size = size)
    (us : List Value) (hus : us.length = size) (hO : Has w (row v e size n xs :: l)) (hs : a.eval s = v) (c : Nat) (b : Nat)
    (hx : a.eval x = .slice (some ⟨b, 0, none⟩) 1 c) (hu : ∀ j, w.cell? ⟨b, j, none⟩ = us[j]?) (h1 : ∀ u ∈ us, u.oneCell' = true)
    (h63 : n + 1 ≤ maxLen) (hbytes : (n + 1) * bytes ≤ 140737488355328)
    (h : ∀ v' w', Has w' (row v' e size (n + 1) (xs ++ us) :: l) → Keep w w' → wpList P ops Q rest (a.put o.dst v') w') : wpList P ops Q (o :: rest) a w :=
  wpList_plain hgd fun _ hK => wp_append1 s x t ho ht hi hzs us hus hO hs c b hx hu h1 h63 hbytes fun v' w' h2 h3 => hK _ _ (h v' w' h2 h3)
theorem rWriteNo (c : Nat) (D : Disk) (at_ : Int) (b : Value) (x : Value) (xs : List Int) (w : World) (L : List HP) (hb : Rd w b 1 xs.length (bc xs)) (hA : D.asked (D.there at_ && xs.length == 128) ≠ 0) (hO : Has w (RDsk c D :: L)) :
    Calls Try.prog 66 #[.pointer (some ⟨c, 0, none⟩), .int .i64 at_, b] w fun e w' => e = .returned (.int .i64 (D.write at_ (x, xs)).1) ∧ Has w' (RDsk c (D.write at_ (x, xs)).2 :: L) ∧ Keep w w' := by
  have HO := hid hO
  obtain ⟨bp, bcap, rfl, -, hbl, -⟩ := hb.form
  have HF := hid (show D.write at_ (x, xs) = (D.asked (D.there at_ && xs.length == 128), D) from if_pos hA)
  obtain ⟨fv, wv, kv, lv, ks, left, B, hok, hO⟩ := rdsk_iff.1 hO
  obtain ⟨fp, fc, rfl, -, hfl, -⟩ := hO.p1.rd.form
  have hc0 : w.cell? ⟨c, 0, none⟩ = some (.slice fp D.firm.length fc) := hO.cells 0
  rcases hon : D.on with _ | _
  · have hc : w.cell? ⟨c, 2, none⟩ = some (.bool true) := by have := hO.cells 2; rw [hon] at this; exact this
    have HV := hid (asked_off hon (D.there at_ && xs.length == 128))
    clear hO hok hon hA hb
    go_enter Try.func66, Try.ntmps66
    go_wp2_with fail
    go_ret
    rw [HF.out, HV.out]
    exact ⟨rfl, HO.out, Keep.refl _⟩
  · have hc : w.cell? ⟨c, 2, none⟩ = some (.bool false) := by have := hO.cells 2; rw [hon] at this; exact this
    have hg : (D.there at_ && xs.length == 128) = false := by
      cases h : (D.there at_ && xs.length == 128)
      · rfl
      · rw [h] at hA; exact absurd (asked_on hon) hA
    have HV := hid (show D.asked (D.there at_ && xs.length == 128) = 2 by rw [hg]; simp [Disk.asked, hon])
    have HG := hid hg
    clear hO hok hon hA hb hg
    by_cases h1 : at_ < 0
    · go_enter Try.func66, Try.ntmps66
      go_wp2_with fail
      go_ret
      rw [HF.out, HV.out]
      exact ⟨rfl, HO.out, Keep.refl _⟩
    · have h1' : decide (at_ < 0) = false := by simp; omega
      by_cases h2 : (D.firm.length : Int) ≤ at_
      · go_enter Try.func66, Try.ntmps66
        go_wp2_with fail
        go_ret
        rw [HF.out, HV.out]
        exact ⟨rfl, HO.out, Keep.refl _⟩
      · have h2' : decide ((D.firm.length : Int) ≤ at_) = false := by simp; omega
        have h3 : ((xs.length : Int) != 128) = true := by
          have := HG.out
          simp only [Disk.there, Bool.and_eq_false_iff, decide_eq_false_iff_not, beq_eq_false_iff_ne] at this
          simp
          omega
        go_enter Try.func66, Try.ntmps66
        go_wp2_with fail
        go_ret
        rw [HF.out, HV.out]
        exact ⟨rfl, HO.out, Keep.refl _⟩
set_option maxHeartbeats 2000000 in
theorem rWriteGo (c : Nat) (D : Disk) (at_ : Int) (b : Value) (xs : List Int) (w : World) (L : List HP) (hw : D.waits.length ≤ 100000000) (hw2 : D.writes.length ≤ 1000000000) (hL : ∀ w', Has w' L → Rd w' b 1 xs.length (bc xs)) (hA : D.asked (D.there at_ && xs.length == 128) = 0) (hO : Has w (RDsk c D :: L)) :
    Calls Try.prog 66 #[.pointer (some ⟨c, 0, none⟩), .int .i64 at_, b] w fun e w' => ∃ x, e = .returned (.int .i64 (D.write at_ (x, xs)).1) ∧ Has w' (RDsk c (D.write at_ (x, xs)).2 :: L) ∧ Keep w w' := by
  have HO := hid hO
  have hg : (D.there at_ && xs.length == 128) = true := by
    cases h : (D.there at_ && xs.length == 128)
    · rw [h] at hA
      unfold Disk.asked at hA
      split at hA <;> simp at hA
    · rfl
  have hon : D.on = true := by
    cases h : D.on
    · rw [asked_off h] at hA; simp at hA
    · rfl
  have hl : xs.length = 128 := by have := (Bool.and_eq_true_iff.1 hg).2; simpa using this
  have hth := (Bool.and_eq_true_iff.1 hg).1
  have h0 : 0 ≤ at_ ∧ at_ < D.firm.length := by simpa [Disk.there] using hth
  have hb := hL _ hO.drop
  obtain ⟨bp, bcap, rfl, -, -, -⟩ := hb.form
  have HL := hid hL
  have HF := hid (fun x : Value => show D.write at_ (x, xs) = if D.falls.1 then (4, D.falls.2) else (0, { D.falls.2 with waits := D.falls.2.waits ++ [(at_, (x, xs))], writes := D.falls.2.writes ++ [at_] }) by unfold Disk.write; rw [if_neg (by rw [hg, asked_on hon]; simp)])
  have H2 := hid (rFalls c D w L hO)
  obtain ⟨fv, wv, kv, lv, ks, left, B, hok, hP⟩ := rdsk_iff.1 hO
  obtain ⟨fp, fc, rfl, -, hfl, -⟩ := hP.p1.rd.form
  have hc0 : w.cell? ⟨c, 0, none⟩ = some (.slice fp D.firm.length fc) := hP.cells 0
  have hc : w.cell? ⟨c, 2, none⟩ = some (.bool false) := by have := hP.cells 2; rw [hon] at this; exact this
  have h1' : decide (at_ < 0) = false := by simp; omega
  have h2' : decide ((D.firm.length : Int) ≤ at_) = false := by simp; omega
  have h3 : ((xs.length : Int) != 128) = false := by simp [hl]
  have Hl := hid hl
  rcases hf : D.falls with ⟨fb, E⟩
  have HFE := hid hf
  rw [hf] at H2 HF
  have H0 := hid h0
  clear hO hP hok hon hA hb hL hg hl hth h0 hf
  cases fb
  · go_enter Try.func66, Try.ntmps66
    go_wp2_with fail
    refine H2.out.mono ?_
    rintro e w' ⟨rfl, h, hK⟩
    clear H2 HO hc0 hc
    have hEw : E.waits = D.waits ∧ E.writes = D.writes ∧ E.firm = D.firm := by
      have := HFE.out
      unfold Disk.falls at this
      split at this
      · cases this; exact ⟨rfl, rfl, rfl⟩
      · split at this <;> cases this; exact ⟨rfl, rfl, rfl⟩
    obtain ⟨fv, wv, kv, lv, ks, left, B, hok, hO⟩ := rdsk_iff.1 h
    have hone := wenc_one hok.1 hO.p5
    obtain ⟨F, W, on, ar, ws, fl⟩ := E
    simp only at hO hEw hok hone
    have hWl : W.length ≤ 100000000 := by rw [hEw.1]; exact hw
    have hwsl : ws.length ≤ 1000000000 := by rw [hEw.2.1]; exact hw2
    have Hat := hid (show 0 ≤ at_ ∧ at_ < F.length by rw [hEw.2.2]; exact H0.out)
    obtain ⟨wp, wc, rfl, -⟩ := hO.p2.rd.form
    obtain ⟨lp, lc, rfl, -⟩ := (Ints.rd hO.p4).form
    have HO := hid hO
    have Hok := hid hok
    have HK := hid hK
    have Hone := hid hone
    have hc1 : w'.cell? ⟨c, 1, none⟩ = some (.slice wp W.length wc) := hO.cells 1
    clear h hO hok hK hone hEw
    dsimp only
    go_wp2_with (at_builtin; refine wpList_appendA rfl _ _ _ rfl Try.underlying56 infoWait rfl (by decide) (HO.out.row_nil 102 2) rfl _ W.length _ rfl (HO.out.p2.rd) Hone.out (le_maxLen (by omega)) (by omega) ?_)
    intro v1 w1 h1 hk1
    have HO1 := hid h1
    have HK1 := hid (HK.out.trans hk1)
    clear h1 hk1 HK Hone hc1
    go_wp2_with (at_builtin; refine wpList_appendA rfl _ _ _ rfl Try.underlying33 infoU8 rfl (by decide) (HO1.out.row_nil 5 1) rfl _ xs.length _ rfl (HL.out _ HO1.out.drop.drop.drop.drop.drop.drop.drop) (bc_one _) (le_maxLen (by have := Hl.out; omega)) (by have := Hl.out; omega) ?_)
    intro v2 w2 h2 hk2
    replace h2 := bytes_of h2
    obtain ⟨p2, c2, rfl, -⟩ := (Bytes.rd h2).form
    rw [Hl.out] at h2 ⊢
    have HO2 := hid h2
    have HK2 := hid (HK1.out.trans hk2)
    have HO3 := hid (h2.alloc (.cells #[.int .i64 at_, .slice p2 128 c2] 102))
    clear h2 hk2 HO1 HK1
    go_wp2_with (at_builtin; refine wpList_appendS rfl _ _ _ rfl Try.underlying56 infoWait rfl [.int .i64 at_, .slice p2 128 c2] rfl HO3.out.p2 rfl 1 _ rfl (fun j => by simp) (by simp [Value.oneCell']) (le_maxLen (by omega)) (by omega) ?_)
    intro v4 w4 h4 hk4
    obtain ⟨p4, c4, rfl, -⟩ := h4.rd.form
    have HO4 := hid (h4.p1.drop.p2)
    have HK4 := hid ((HK2.out.alloc _).trans hk4)
    have hc := h4.p1.drop.p2.cells
    have ht := h4.p1.drop.p2.thaw
    clear h4 hk4 HO2 HK2 HO3
    go_upto_region 8 with fail
    have HO5 := hid (HO4.out.set 1 (.slice p4 (W.length + 1) c4))
    have HK5 := hid (HK4.out.set ⟨c, 1, none⟩ (.slice p4 (W.length + 1) c4))
    clear HO4 HK4 hc ht
    generalize w4.setCell ⟨c, 1, none⟩ (.slice p4 (W.length + 1) c4) = w5 at HO5 HK5 ⊢
    have hc5 : w5.cell? ⟨c, 6, none⟩ = some (.slice lp ws.length lc) := HO5.out.cells 6
    have ht5 := HO5.out.thaw 6
    go_wp2_with (at_builtin; refine wpList_append1 rfl _ _ _ rfl Try.underlying22 infoInt rfl (.int .i64 at_) (HO5.out.p6.alloc' _) rfl 1 _ rfl (by simp) rfl (le_maxLen (by omega)) (by omega) ?_)
    intro v6 w6 h6 hk6
    obtain ⟨p6, c6, rfl, -⟩ := h6.rd.form
    have HO6 := hid h6.p1
    have HK6 := hid ((HK5.out.alloc _).trans hk6)
    have hc6 := h6.p1.cells
    have ht6 := h6.p1.thaw
    clear h6 hk6 HO5 HK5 hc5 ht5
    go_wp2_with fail
    go_ret
    refine ⟨.slice p2 128 c2, ?_⟩
    rw [HF.out]
    refine ⟨rfl, rdsk_iff.2 ⟨fv, .slice p4 (W.length + 1) c4, kv, .slice p6 (ws.length + 1) c6, ks, left, (.slice p2 128 c2, xs) :: B, ⟨okWrite Hok.out.1 at_ (.slice p2 128 c2, xs) (ws ++ [at_]) Hat.out Hl.out, Hok.out.2⟩, ?_⟩, HK6.out.set _ _⟩
    have h := (HO6.out.set 6 (.slice p6 (ws.length + 1) c6)).p5.drop.p6.p4
    have h2 := (Has.pool_add h).b5.p1.b4.p1.b2
    have e1 : wenc W ++ [.int .i64 at_, .slice p2 128 c2] = wenc (W ++ [(at_, (.slice p2 128 c2, xs))]) := by simp [wenc]
    have e2 : W.length + 1 = (W ++ [(at_, ((.slice p2 128 c2 : Value), xs))]).length := by simp
    have e3 : ic ws ++ [.int .i64 at_] = ic (ws ++ [at_]) := (ic_snoc _ _).symm
    have e4 : ws.length + 1 = (ws ++ [at_]).length := by simp
    rw [e1, e3] at h2
    generalize Value.slice p4 (W.length + 1) c4 = v1 at h2 ⊢
    generalize Value.slice p6 (ws.length + 1) c6 = v2 at h2 ⊢
    rw [e2, e4] at h2
    exact h2
  · go_enter Try.func66, Try.ntmps66
    go_wp2_with fail
    refine H2.out.mono ?_
    rintro e w' ⟨rfl, h, hK⟩
    dsimp only
    go_wp2_with fail
    go_ret
    refine ⟨.slice none 0 0, ?_⟩
    rw [HF.out]
    exact ⟨rfl, h, hK⟩
end Go.Proofs.Ytajlikakbihgbaa
/- THE WALKS of the reference's disk: Read, Waiting, New. -/
namespace Go.Proofs.Ytajlikakbihgbaa
open Go.RowKit Go.Own Go.Dk
theorem rlast_none (D : Disk) (x : Int) (h : ∀ z ∈ D.waits, z.1 ≠ x) : D.last x = D.firm.getD x.toNat (.slice none 0 0, []) := by
  unfold Disk.last
  have : D.waits.reverse.find? (fun y => y.1 == x) = none := by
    rw [List.find?_eq_none]
    intro y hy
    simpa using h y (by simpa using hy)
  rw [this]
theorem rlast_some (D : Disk) (x : Int) (m : Nat) (hm : m < D.waits.length) (h1 : D.waits[m].1 = x) (h : ∀ z ∈ D.waits.drop (m + 1), z.1 ≠ x) : D.last x = D.waits[m].2 := by
  unfold Disk.last
  have : D.waits.reverse.find? (fun y => y.1 == x) = some D.waits[m] := by
    have e : D.waits = D.waits.take m ++ D.waits[m] :: D.waits.drop (m + 1) := by rw [List.getElem_cons_drop, List.take_append_drop]
    have e2 : D.waits.reverse = (D.waits.drop (m + 1)).reverse ++ (D.waits[m] :: (D.waits.take m).reverse) := by
      conv => lhs; rw [e]
      simp
    rw [e2, List.find?_append]
    have h3 : List.find? (fun y : Int × Txt => y.1 == x) (D.waits.drop (m + 1)).reverse = none := by
      rw [List.find?_eq_none]
      intro y hy
      simpa using h y (by simpa using hy)
    rw [h3]
    simp [List.find?_cons, h1]
  rw [this]
theorem bc_one' (xs : List Int) : ∀ u ∈ bc xs, u.oneCell' = true := bc_one xs
set_option maxHeartbeats 2000000 in
theorem rRead (c : Nat) (D : Disk) (x : Int) (w : World) (L : List HP) (hw : D.waits.length ≤ 1000000000) (hO : Has w (RDsk c D :: L)) :
    Calls Try.prog 64 #[.pointer (some ⟨c, 0, none⟩), .int .i64 x] w fun e w' => ∃ v, e = .returned (.tuple #[v, .int .i64 (D.read x).1]) ∧ Has w' (Bytes v (D.read x).2 :: RDsk c D :: L) ∧ Keep w w' := by
  have HO := hid hO
  obtain ⟨fv, wv, kv, lv, ks, left, B, hok, hP⟩ := rdsk_iff.1 hO
  obtain ⟨fp, fc, rfl, -, hfl, hfr⟩ := hP.p1.rd.form
  have hc0 : w.cell? ⟨c, 0, none⟩ = some (.slice fp D.firm.length fc) := hP.cells 0
  rcases hon : D.on with _ | _
  · have hc : w.cell? ⟨c, 2, none⟩ = some (.bool true) := by have := hP.cells 2; rw [hon] at this; exact this
    have HF := hid (show D.read x = (4, []) by unfold Disk.read; rw [asked_off hon]; rfl)
    clear hO hP hok hon hfr
    go_enter Try.func64, Try.ntmps64
    go_wp2_with fail
    go_ret2
    rw [HF.out]
    exact ⟨_, rfl, HO.out.row_nil _ _, Keep.refl _⟩
  · have hc : w.cell? ⟨c, 2, none⟩ = some (.bool false) := by have := hP.cells 2; rw [hon] at this; exact this
    by_cases h1 : x < 0
    · have HF := hid (show D.read x = (2, []) by unfold Disk.read; rw [show D.there x = false by simp [Disk.there]; omega]; simp [Disk.asked, hon])
      clear hO hP hok hon hfr
      go_enter Try.func64, Try.ntmps64
      go_wp2_with fail
      go_ret2
      rw [HF.out]
      exact ⟨_, rfl, HO.out.row_nil _ _, Keep.refl _⟩
    have h1' : decide (x < 0) = false := by simp; omega
    by_cases h2 : (D.firm.length : Int) ≤ x
    · have HF := hid (show D.read x = (2, []) by unfold Disk.read; rw [show D.there x = false by simp [Disk.there]; omega]; simp [Disk.asked, hon])
      clear hO hP hok hon hfr
      go_enter Try.func64, Try.ntmps64
      go_wp2_with fail
      go_ret2
      rw [HF.out]
      exact ⟨_, rfl, HO.out.row_nil _ _, Keep.refl _⟩
    have h2' : decide ((D.firm.length : Int) ≤ x) = false := by simp; omega
    have HF := hid (show D.read x = (0, (D.last x).2) by unfold Disk.read; rw [show D.there x = true by simp [Disk.there]; omega]; simp [Disk.asked, hon])
    obtain ⟨q, rfl⟩ := Int.eq_ofNat_of_zero_le (show 0 ≤ x by omega)
    have hq : q < D.firm.length := by omega
    obtain ⟨fg, fo, rfl, hfcc⟩ := hfr (by omega)
    obtain ⟨wp, wc, rfl, hwc, hwl, -⟩ := hP.p2.rd.form
    have hc1 : w.cell? ⟨c, 1, none⟩ = some (.slice wp D.waits.length wc) := hP.cells 1
    have HP := hid hP
    have HOK := hid hok
    have HFC := hid hfcc
    clear hO hP hok hon hfcc h1 h2
    go_enter Try.func64, Try.ntmps64
    go_wp2_with fail
    go_loop [6] (fun i => ∃ m : Nat, m ≤ D.waits.length ∧ i = .int .i64 ((m : Int) - 1) ∧ Hid (∀ z ∈ D.waits.drop m, z.1 ≠ (q : Int))) (fun i => (intOf i + 1).toNat)
    case atStart => exact ⟨D.waits.length, Nat.le_refl _, rfl, hid (by simp)⟩
    case round =>
      obtain ⟨m, hm, rfl, HN⟩ := hrel
      rcases m with _ | m
      · have hrd := HP.out.p5.pool_rd (HOK.out.1.firm _ (List.getElem_mem hq))
        obtain ⟨yp, yc, hy, -⟩ := hrd.form
        have hyl := HOK.out.1.len _ (List.getElem_mem hq)
        have hfq := HFC.out q (by omega)
        rw [List.getElem?_map, List.getElem?_eq_getElem hq, Option.map_some, hy] at hfq
        rw [hy] at hrd
        have HRD := hid hrd
        have HL := hid (show (D.last (q : Int)).2 = D.firm[q].2 by rw [rlast_none D q (by simpa using HN.out)]; simp [hq])
        have HYL := hid hyl
        clear hrd hy hyl
        have hqi : (q : Int) < (D.firm.length : Int) := by omega
        go_wp2_with (at_builtin; refine wpList_appendA rfl _ _ _ rfl Try.underlying33 infoU8 rfl (by decide) (HO.out.row_nil 5 1) rfl _ D.firm[q].2.length _ rfl HRD.out (bc_one _) (le_maxLen (by have := HYL.out; omega)) (by have := HYL.out; omega) ?_)
        intro v' w' h hk
        have h := bytes_of h
        go_wp2_with fail
        go_ret2
        rw [HF.out, HL.out]
        exact ⟨_, rfl, h, hk⟩
      · have e1 : ((m + 1 : Nat) : Int) - 1 = (m : Int) := by omega
        rw [e1]
        have hmw : m < D.waits.length := hm
        obtain ⟨g, c', e, hw1, hw2⟩ := wcellsT HP.out.p2 m hmw
        simp only [Value.slice.injEq, true_and] at e
        obtain ⟨rfl, rfl⟩ := e
        obtain ⟨xp, xc, hx⟩ := okSlicesP HOK.out.1 HP.out.p5 _ (List.getElem_mem hmw)
        have hrd := HP.out.p5.pool_rd (HOK.out.1.waits _ (List.getElem_mem hmw))
        have hwl2 := HOK.out.1.wlen _ (List.getElem_mem hmw)
        rw [hx] at hw2 hrd
        have hmi : (m : Int) < (D.waits.length : Int) := by omega
        have hmi0 : (0 : Int) ≤ (m : Int) := by omega
        have HRD := hid hrd
        have HWL := hid hwl2
        clear hrd hwl2 hx e1
        by_cases hat : D.waits[m].1 = (q : Int)
        · have htt : (D.waits[m].1 == (q : Int)) = true := by simp [hat]
          have HL := hid (show (D.last (q : Int)).2 = D.waits[m].2.2 by rw [rlast_some D q m hmw hat HN.out])
          clear hat
          go_wp2_with (at_builtin; refine wpList_appendA rfl _ _ _ rfl Try.underlying33 infoU8 rfl (by decide) (HO.out.row_nil 5 1) rfl _ D.waits[m].2.2.length _ rfl (by rw [HWL.out]; have := HRD.out; rw [HWL.out] at this; exact this) (bc_one _) (le_maxLen (by have := HWL.out; omega)) (by have := HWL.out; omega) ?_)
          intro v' w' h hk
          have h := bytes_of h
          go_wp2_with fail
          go_ret2
          rw [HF.out, HL.out]
          exact ⟨_, rfl, h, hk⟩
        · have htt : (D.waits[m].1 == (q : Int)) = false := by simp [hat]
          have HN2 := hid (show ∀ z ∈ D.waits.drop m, z.1 ≠ (q : Int) by
            intro z hz
            rw [← List.getElem_cons_drop hmw] at hz
            rcases List.mem_cons.1 hz with rfl | hz
            · exact hat
            · exact HN.out z hz)
          clear hat
          go_wp2_with fail
          exact ⟨⟨m, by omega, rfl, HN2⟩, by simp [intOf]⟩
theorem rNewNil (n : Int) (w : World) (h : n < 1 ∨ 2048 < n) : Calls Try.prog 23 #[.int .i64 n] w fun e w' => e = .returned (.pointer none) ∧ w = w' := by
  by_cases h1 : n < 1
  · go_enter Try.func23, Try.ntmps23
    go_wp2
    go_ret
    exact ⟨rfl, rfl⟩
  · have h1' : decide (n < 1) = false := by simp; omega
    have h2 : decide ((2048 : Int) < n) = true := by simp; omega
    go_enter Try.func23, Try.ntmps23
    go_wp2
    go_ret
    exact ⟨rfl, rfl⟩
set_option maxHeartbeats 1000000 in
theorem rNew (n : Nat) (W : World) (L : List HP) (h1 : 1 ≤ n) (h2 : n ≤ 2048) (hO : Has W L) :
    Calls Try.prog 23 #[.int .i64 (n : Int)] W fun e w' => ∃ (d : Nat) (F : List Txt), e = .returned (.pointer (some ⟨d, 0, none⟩)) ∧ F.length = n ∧ (∀ x ∈ F, x.2 = zer) ∧ Has w' (RDsk d ⟨F, [], true, none, [], 0⟩ :: L) ∧ Keep W w' := by
  have HO := hid hO
  clear hO
  have hn1 : decide ((n : Int) < 1) = false := by simp; omega
  have hn2 : decide ((2048 : Int) < (n : Int)) = false := by simp; omega
  go_enter Try.func23, Try.ntmps23
  go_wp2_with fail
  have HN := hid (HO.out.alloc (.cells #[.slice none 0 0, .slice none 0 0, .bool false, .int .i64 (-1), .int .i64 0, .slice none 0 0, .slice none 0 0] 59))
  have HK0 := hid ((Keep.refl W).alloc (.cells #[.slice none 0 0, .slice none 0 0, .bool false, .int .i64 (-1), .int .i64 0, .slice none 0 0, .slice none 0 0] 59))
  generalize W.heap.size = d at *
  go_loopw [4] (fun i w => ∃ k : Nat, k ≤ n ∧ i = .int .i64 k ∧ Hid (∃ (fv : Value) (F : List Txt), F.length = k ∧ (∀ x ∈ F, x.2 = zer) ∧ Has w (pt d (.cells #[fv, .slice none 0 0, .bool false, .int .i64 (-1), .int .i64 0, .slice none 0 0, .slice none 0 0] 59) :: row fv 33 1 k (F.map (·.1)) :: poolc 5 F :: L)) ∧ Hid (Keep W w)) (fun i _ => n - (intOf i).toNat)
  case atStart => exact ⟨0, by omega, rfl, hid ⟨.slice none 0 0, [], rfl, by simp, (HN.out.pool_nil.row_nil _ _).p2⟩, HK0⟩
  case round =>
    obtain ⟨k, hk, rfl, HY, HK⟩ := hrel
    obtain ⟨fv, F, hF, hz, hO⟩ := HY.out
    by_cases hlt : k < n
    · have hc := hO.cells
      have ht := hO.thaw
      have HO1 := hid hO
      have HF := hid hF
      have HZ := hid hz
      clear hO hF hz
      go_wp2_with fail
      refine region_tail1 (fun w => w.cell? ⟨d, 0, none⟩ = some fv) (by kernel_rfl) (by kernel_rfl) (by kernel_rfl) (by decide) (HO1.out.drew.cells 0) ?_
      repeat (first
        | (refine wpL_read (by rfl) (by rfl) ?_ ?_ ?_; rotate_left; (intro w hS; go_simp; with_reducible rfl); simp only [Act.put, List.setIfInBounds_toArray, List.set_cons_zero, List.set_cons_succ]) | (refine wpL_skip (by rfl) ?_; simp only [Act.put, List.setIfInBounds_toArray, List.set_cons_zero, List.set_cons_succ]))
      refine wpL_act (by rfl) (by rfl) (fun K hK => ?_)
      go_simp
      rw [make128]
      go_simp
      have HO2 := hid (made128 HO1.out).drew
      generalize wr.heap.size = b at *
      refine hK.out _ _ (HO2.out.p1.cells 0) ?_
      clear hK K
      try simp only [Act.put, List.setIfInBounds_toArray, List.set_cons_zero, List.set_cons_succ]
      have HK2 := hid ((HK.out.alloc (.cells zeros128 5)).drew)
      clear HO1 HK hc ht HN HO
      generalize (wr.alloc (.cells zeros128 5)).drew = w2 at *
      repeat (first
        | (refine wpL_read (by rfl) (by rfl) ?_ ?_ ?_; rotate_left; (intro w hS; go_simp; with_reducible rfl); simp only [Act.put, List.setIfInBounds_toArray, List.set_cons_zero, List.set_cons_succ]) | (refine wpL_skip (by rfl) ?_; simp only [Act.put, List.setIfInBounds_toArray, List.set_cons_zero, List.set_cons_succ]))
      refine wpL_act (by rfl) (by rfl) (fun K hK => ?_)
      go_simp
      have HO3 := hid (HO2.out.alloc (.cells #[.slice (some ⟨b, 0, none⟩) 128 128] 33))
      have HK3 := hid (HK2.out.alloc (.cells #[.slice (some ⟨b, 0, none⟩) 128 128] 33))
      generalize w2.heap.size = b2 at *
      refine hK.out _ _ (HO3.out.p2.cells 0) ?_
      clear hK K
      try simp only [Act.put, List.setIfInBounds_toArray, List.set_cons_zero, List.set_cons_succ]
      generalize w2.alloc (.cells #[.slice (some ⟨b, 0, none⟩) 128 128] 33) = w3 at *
      refine wpL_act (by rfl) (by rfl) (fun K hK => ?_)
      refine wp_append1 (.tmp 22) (.tmp 24) 55 rfl Try.underlying55 infoBs rfl [.slice (some ⟨b, 0, none⟩) 128 128] rfl HO3.out.p3 (by rfl) 1 b2 (by rfl) (fun j => by simpa using HO3.out.cells j) (by simp [Value.oneCell']) (le_maxLen (by omega)) (by omega) fun v' w' h2 h3 => ?_
      obtain ⟨vp, vc, rfl, -⟩ := h2.rd.form
      have HO4 := hid h2
      have HK4 := hid (HK3.out.trans h3)
      clear h2 h3 HO3 HK3 HO2 HK2
      refine hK.out _ _ (HO4.out.p3.cells 0) ?_
      clear hK K
      try simp only [Act.put, List.setIfInBounds_toArray, List.set_cons_zero, List.set_cons_succ]
      repeat (first
        | (refine wpL_read (by rfl) (by rfl) ?_ ?_ ?_; rotate_left; (intro w hS; go_simp; with_reducible rfl); simp only [Act.put, List.setIfInBounds_toArray, List.set_cons_zero, List.set_cons_succ]) | (refine wpL_skip (by rfl) ?_; simp only [Act.put, List.setIfInBounds_toArray, List.set_cons_zero, List.set_cons_succ]))
      refine wpL_nil ?_
      refine wpOp_last rfl (by rfl) ?_
      have ht := HO4.out.p3.thaw
      have hc := HO4.out.p3.cells
      go_simp
      have HO5 := hid (HO4.out.p3.set 0 (.slice vp (k + 1) vc))
      have HK5 := hid (HK4.out.set ⟨d, 0, none⟩ (.slice vp (k + 1) vc))
      clear HO4 HK4 ht hc
      go_wp2_with fail
      refine ⟨⟨k + 1, by omega, rfl, hid ⟨.slice vp (k + 1) vc, F ++ [(.slice (some ⟨b, 0, none⟩) 128 128, zer)], ?_, ?_, ?_⟩, HK5⟩, ?_⟩
      · rw [List.length_append, HF.out]; rfl
      · intro x hx
        rcases List.mem_append.1 hx with h | h
        · exact HZ.out x h
        · rw [List.mem_singleton.1 h]
      · rw [List.map_append]
        exact HO5.out.p2.drop.p2.p3.p1.pool_snoc.b2
      · simp only [intOf]; omega
    · have hc := hO.cells
      have ht := hO.thaw
      have e : k = n := by omega
      subst e
      have HO1 := hid hO
      have HF := hid hF
      have HZ := hid hz
      clear hO hF hz
      go_wp2_with fail
      go_ret
      refine ⟨d, F, rfl, HF.out, HZ.out, rdsk_iff.2 ⟨fv, .slice none 0 0, .slice none 0 0, .slice none 0 0, [], -1, F, ⟨⟨fun _ h => h, by simp, by simp, fun x hx => by rw [HZ.out x hx]; rfl, by simp, by simp⟩, rfl⟩, ?_⟩, HK.out⟩
      have hF := HF.out
      have h1 := (((HO1.out.row_nil 3 1).row_nil 4 1).row_nil 102 2)
      rw [← hF] at h1
      exact h1.p3.p4.p1
end Go.Proofs.Ytajlikakbihgbaa
/- THE WALKS of LendBytes, KeptBytes. -/
namespace Go.Own
open Go.RowKit
/-- An append with room, elements of one cell: in place. -/
theorem Has.appendRoom {P : Program} {w : World} {l : List HP} {g n cap : Nat} {cur : Array Value} {e : TypeId} (hO : Has w (pt g (.cells cur e) :: l)) (hcur : cur.size = cap) (t ty : TypeId) {z : Value} {bytes : Nat} (ht : P.underlying t = some (.slice e)) (hi : (P.info? e).map (fun i => (i.zero, i.size, i.bytes)) = some (some z, 1, bytes))
    (x : Value) (m : Nat) (ys : List Value) (hr : Rd w x 1 m ys) (h1 : ∀ u ∈ ys, u.oneCell' = true) (hroom : n + m ≤ cap) (hcm : cap ≤ maxLen) :
    ∃ w', (Builtin.append_ #[t, t] ty #[.slice (some ⟨g, 0, none⟩) n cap, x]).run P w = .ok (.slice (some ⟨g, 0, none⟩) (n + m) cap) w' ∧ Has w' (pt g (.cells (cur.toList.take n ++ ys ++ cur.toList.drop (n + m)).toArray e) :: l) ∧ Keep w w' := by
  obtain ⟨i, hi, hz, hs, hby⟩ := info_parts hi
  obtain ⟨hyl, hm, p, xcap, rfl, -, hc⟩ := hr
  rw [Nat.mul_one] at hyl
  rcases p with _ | ad
  · have hm0 : m = 0 := by
      rcases Nat.eq_zero_or_pos m with h | h
      · exact h
      · obtain ⟨g, o, e, -⟩ := hc (by omega)
        cases e
    subst hm0
    have hy : ys = [] := List.eq_nil_of_length_eq_zero hyl
    subst hy
    have hrow : Has w (row (.slice (some ⟨g, 0, none⟩) n cap) e 1 n (cur.toList.take n) :: l) := hO.row_of (by omega) hcm (by rw [hcur, Nat.mul_one]) (by rw [Nat.mul_one]) (by simp; omega)
    refine ⟨w, by rw [Nat.add_zero]; exact hrow.appendNone t ty ht i hi xcap, ?_, Keep.refl w⟩
    rw [Nat.add_zero, List.append_nil, List.take_append_drop]
    exact hO
  · have hr := run_append_room (P := P) w t ty e i ht hi g n cap cur hO.lookup ad m xcap ys (by rw [hs]; omega) (by
      intro j y hj
      have hjl : j < m := by rw [← hyl]; exact (List.getElem?_eq_some_iff.1 hj).1
      obtain ⟨g, o, e2, hc2⟩ := hc (by omega)
      cases e2
      rw [add_plain, hc2 j (by omega), hj]) h1 hroom (by rw [hs, hyl, hcur]; omega)
    refine ⟨_, hr, ?_, ⟨rfl, rfl, rfl, by simp⟩⟩
    have h := hO.turn (fun k _ hk => setRow_other w g k _ hk) (setRow_heap w g cur (cur.toList.take (n * i.size) ++ ys ++ cur.toList.drop (n * i.size + ys.length)).toArray e _ hO.lookup)
    rw [hs, Nat.mul_one, hyl] at h
    rw [hs, Nat.mul_one, hyl]
    exact h
theorem wpList_appendRoom {P : Program} {w : World} {l : List HP} {g n cap : Nat} {cur : Array Value} {e : TypeId} {ops : Array Oper} {rest : List Oper} {o : Oper} {a : Act} {Q : Exit → Act → World → Prop} (hgd : o.guard = none) (s x : Operand) (t : TypeId)
    (ho : o.op = .call { callee := .builtin .append, args := #[s, x], argTypes := #[t, t] })
    {z : Value} {bytes : Nat} (ht : P.underlying t = some (.slice e)) (hi : (P.info? e).map (fun i => (i.zero, i.size, i.bytes)) = some (some z, 1, bytes))
    (hO : Has w (pt g (.cells cur e) :: l)) (hcur : cur.size = cap) (hs : a.eval s = .slice (some ⟨g, 0, none⟩) n cap) (xv : Value) (m : Nat) (ys : List Value) (hx : a.eval x = xv) (hr : Rd w xv 1 m ys) (h1 : ∀ u ∈ ys, u.oneCell' = true) (hroom : n + m ≤ cap) (hcm : cap ≤ maxLen)
    (h : ∀ w', Has w' (pt g (.cells (cur.toList.take n ++ ys ++ cur.toList.drop (n + m)).toArray e) :: l) → Keep w w' → wpList P ops Q rest (a.put o.dst (.slice (some ⟨g, 0, none⟩) (n + m) cap)) w') : wpList P ops Q (o :: rest) a w :=
  wpList_plain hgd fun _ hK => by
    obtain ⟨w', hrun, h2, h3⟩ := hO.appendRoom (P := P) hcur t o.type ht hi xv m ys hr h1 hroom hcm
    unfold Oper.wp execOp
    simp only [ho, resolve, invoke, builtin, Sem.run_bind, Sem.run_pure, Result.andThen_ok, List.map_toArray, List.map_cons, List.map_nil, hs, hx, hrun]
    exact hK _ _ (h w' h2 h3)
end Go.Own
namespace Go.Proofs.Ytajlikakbihgbaa
open Go.RowKit Go.Own
theorem fillUp' {α : Type} (n k : Nat) (a b : α) (h : k < n) : (List.replicate k a ++ List.replicate (n - k) b).set k a = List.replicate (k + 1) a ++ List.replicate (n - (k + 1)) b := by
  obtain ⟨m, hm⟩ : ∃ m, n - k = m + 1 := ⟨n - k - 1, by omega⟩
  rw [hm, show n - (k + 1) = m from by omega, List.set_append_right _ _ (by simp), List.replicate_succ, List.replicate_succ']
  simp
/-- Bytes that are lent: spare room behind them, marked. -/
def Lent (v : Value) (xs : List Int) : HP := ex fun g : Nat => star [fact (v = .slice (some ⟨g, 0, none⟩) xs.length (xs.length + 3)), pt g (.cells (bc (xs ++ [119, 119, 119])).toArray 5)]
section
variable {w : World} {L : List HP} {v : Value} {xs : List Int}
theorem lent_iff : Has w (Lent v xs :: L) ↔ ∃ g, v = .slice (some ⟨g, 0, none⟩) xs.length (xs.length + 3) ∧ Has w (pt g (.cells (bc (xs ++ [119, 119, 119])).toArray 5) :: L) := by
  unfold Lent
  simp only [Has.ex_iff, Has.star_iff, List.cons_append, List.nil_append, Has.fact_iff]
theorem Lent.bytes (h : Has w (Lent v xs :: L)) (hl : xs.length ≤ 1000000000) : Has w (Bytes v xs :: L) := by
  obtain ⟨g, rfl, h2⟩ := lent_iff.1 h
  exact h2.row_of (by omega) (le_maxLen (by omega)) (by simp [bc]) (by rw [Nat.mul_one]; simp [bc]) (by simp [bc])
theorem Lent.rd (h : Has w (Lent v xs :: L)) (hl : xs.length ≤ 1000000000) : Rd w v 1 xs.length (bc xs) := Bytes.rd (Lent.bytes h hl)
end
def roomOf (n : Nat) : Array Value := (List.replicate (n + 3) (Value.int .u8 0)).toArray
set_option maxRecDepth 100000 in
theorem makeRoom (n : Nat) (hn : n ≤ 1000000000) (w : World) : (Instr.makeSlice 33 (.int .i64 0) (.int .i64 ((n : Int) + 3))).run Try.prog w = .ok (.slice (some ⟨w.heap.size, 0, none⟩) 0 (n + 3)) (w.alloc (.cells (roomOf n) 5)) := by
  obtain ⟨i, hi, hz, hsz, hby⟩ := info_parts infoU8
  have hr := run_make (P := Try.prog) w 33 5 i (.int .u8 0) Try.underlying33 hi hz .i64 .i64 0 ((n : Int) + 3) (by omega) (by omega) (by rw [hby]; omega) (by omega)
  rw [hr]
  have e : ((n : Int) + 3).toNat = n + 3 := by omega
  rw [e]
  congr 3
  apply Array.toList_inj.1
  rw [hsz, Nat.mul_one]
  exact toList_madeCells_one _ _
theorem lendBytes (v : Value) (xs : List Int) (W : World) (L : List HP) (hO : Has W L) (hr : Rd W v 1 xs.length (bc xs)) (hl : xs.length ≤ 100000000) :
    Calls Try.prog 45 #[v] W fun e w' => ∃ v', e = .returned v' ∧ Has w' (Lent v' xs :: L) ∧ Keep W w' := by
  obtain ⟨p, c, rfl, -⟩ := hr.form
  have HO := hid (hO.alloc (.cells (roomOf xs.length) 5))
  have HK := hid ((Keep.refl W).alloc (.cells (roomOf xs.length) 5))
  have hmk := makeRoom xs.length (by omega) W
  have HR := hid (hr.alloc (.cells (roomOf xs.length) 5))
  clear hO hr
  go_enter Try.func45, Try.ntmps45
  go_upto_region 2 with fail
  clear hmk
  generalize W.heap.size = g at *
  generalize W.alloc (.cells (roomOf xs.length) 5) = w1 at *
  go_wp2_with (at_builtin; refine wpList_appendRoom rfl _ _ _ rfl Try.underlying33 infoU8 HO.out (by simp [roomOf]) rfl _ xs.length _ rfl HR.out (bc_one _) (by omega) (le_maxLen (by omega)) ?_)
  intro w2 h2 hk2
  have HO2 := hid (show Has w2 (pt g (.cells (bc (xs ++ List.replicate 0 119 ++ List.replicate 3 0)).toArray 5) :: L) by
    have e : (roomOf xs.length).toList.take 0 ++ bc xs ++ (roomOf xs.length).toList.drop (0 + xs.length) = bc (xs ++ List.replicate 0 119 ++ List.replicate 3 0) := by
      simp [roomOf, bc, List.drop_replicate]
    rw [← e]
    simpa using h2)
  have HK2 := hid (HK.out.trans hk2)
  clear h2 hk2 HO HK HR
  go_wp2_with fail
  go_loopw [5] (fun i w => ∃ k : Nat, k ≤ 3 ∧ i = .int .i64 k ∧ Hid (Has w (pt g (.cells (bc (xs ++ List.replicate k 119 ++ List.replicate (3 - k) 0)).toArray 5) :: L)) ∧ Hid (Keep W w)) (fun i _ => 3 - (intOf i).toNat)
  case atStart => exact ⟨0, by omega, rfl, HO2, HK2⟩
  case round =>
    clear HO2 HK2
    obtain ⟨k, hk, rfl, HO, HK⟩ := hrel
    by_cases hlt : k < 3
    · have ht := HO.out.thaw (xs.length + k)
      have hc : wr.cell? ⟨g, xs.length + k, none⟩ = some (.int .u8 0) := by
        rw [HO.out.cells (xs.length + k)]
        have : 3 - k = (3 - k - 1) + 1 := by omega
        rw [this, List.replicate_succ]
        simp [bc]
      go_wp2_with fail
      refine ⟨⟨k + 1, by omega, by go_num, hid ?_, hid (HK.out.set _ _)⟩, by simp [intOf]; omega⟩
      have h := HO.out.set (xs.length + k) (.int .u8 119)
      have e : (bc (xs ++ List.replicate k 119 ++ List.replicate (3 - k) 0)).toArray.setIfInBounds (xs.length + k) (.int .u8 119) = (bc (xs ++ List.replicate (k + 1) 119 ++ List.replicate (3 - (k + 1)) 0)).toArray := by
        have h2 := fillUp' 3 k (119 : Int) 0 hlt
        rw [List.append_assoc, List.append_assoc, ← h2]
        simp [bc, List.map_set, List.set_append_right]
      rw [e] at h
      exact h
    · obtain rfl : k = 3 := by omega
      go_wp2_with fail
      go_ret
      exact ⟨_, rfl, lent_iff.2 ⟨g, rfl, by simpa using HO.out⟩, HK.out⟩
end Go.Proofs.Ytajlikakbihgbaa
/- THE WALK of Fill. -/
namespace Go.Proofs.Ytajlikakbihgbaa
open Go.RowKit Go.Own
/-- Byte k of number n's text. -/
def fb (n : Int) (k : Nat) : Int := (n / 2 ^ (8 * (k % 4)) + (k : Int) * 7) % 256
def fill (n : Int) (sz : Nat) : List Int := (List.range sz).map (fb n)
theorem fill_len (n : Int) (sz : Nat) : (fill n sz).length = sz := by simp [fill]
theorem fill_succ (n : Int) (k : Nat) : fill n (k + 1) = fill n k ++ [(n / 2 ^ (8 * (k % 4)) + (k : Int) * 7) % 256] := by simp [fill, List.range_succ, fb]
theorem fillAny (n : Int) (sz : Nat) (W : World) (L : List HP) (hO : Has W L) (hs : sz ≤ 30000) :
    Calls Try.prog 12 #[.int .i64 n, .int .i64 (sz : Int)] W fun e w' => ∃ v, e = .returned v ∧ Has w' (Bytes v (fill n sz) :: L) ∧ Keep W w' := by
  have HO := hid hO
  clear hO
  go_enter Try.func12, Try.ntmps12
  go_wp2
  go_loopw [6, 5] (fun i v w => ∃ k : Nat, k ≤ sz ∧ i = .int .i64 k ∧ Hid (Has w (Bytes v (fill n k) :: L)) ∧ Hid (Keep W w)) (fun i _ _ => sz - (intOf i).toNat)
  case atStart => exact ⟨0, by omega, rfl, hid (HO.out.row_nil _ _), hid (Keep.refl _)⟩
  case round =>
    obtain ⟨k, hk, rfl, HOw, HK⟩ := hrel
    by_cases hlt : k < sz
    · have hm : 0 ≤ (k : Int) % 4 ∧ (k : Int) % 4 < 4 := by omega
      go_wp2_with (at_builtin; refine wpList_append1 rfl _ _ _ rfl Try.underlying33 infoU8 rfl (.int .u8 ((n / 2 ^ (8 * (k % 4)) + (k : Int) * 7) % 256)) (HOw.out.alloc' _) rfl 1 _ rfl (by simp) rfl (le_maxLen (by rw [fill_len]; omega)) (by rw [fill_len]; omega) ?_)
      intro v' w' hO' hK'
      have HO' := hid hO'
      have HK' := hid hK'
      clear hO' hK'
      go_wp2_with fail
      go_roundw
      case rel =>
        refine ⟨k + 1, by omega, by go_num, hid ?_, hid ((HK.out.alloc _).trans HK'.out)⟩
        rw [fill_succ]
        have := HO'.out
        simpa [Bytes, bc_snoc] using this
      case measure => simp [intOf]; omega
    · obtain rfl : k = sz := by omega
      go_wp2_with fail
      go_ret
      exact ⟨_, rfl, HOw.out, HK.out⟩
end Go.Proofs.Ytajlikakbihgbaa
/- THE PLAIN LAW of DiskPrefix. -/
namespace Go.Proofs.Ytajlikakbihgbaa
open Go.RowKit Go.Own Go.Dk
theorem fill128 (n : Int) : (fill n 128).length = 128 := fill_len n 128
def nth (xs : List Int) (k : Nat) : Int := xs.getD k 0
theorem fillAny128 (n : Int) (W : World) (L : List HP) (hO : Has W L) :
    Calls Try.prog 12 #[.int .i64 n, .int .i64 128] W fun e w' => ∃ p c, e = .returned (.slice p 128 c) ∧ Has w' (Bytes (.slice p 128 c) (fill n 128) :: L) ∧ Keep W w' := by
  refine (fillAny n 128 W L hO (by omega)).mono ?_
  rintro e w' ⟨v, rfl, h, hK⟩
  obtain ⟨p, c, rfl, -⟩ := (Bytes.rd h).form
  rw [fill128] at h ⊢
  exact ⟨p, c, rfl, h, hK⟩
theorem bools_snoc {w : World} {L : List HP} {v : Value} {ks : List Bool} {b : Bool} (h : Has w (row v 4 1 (ks.length + 1) (ks.map Value.bool ++ [Value.bool b]) :: L)) : Has w (Bools v (ks ++ [b]) :: L) := by
  simpa [Bools] using h
/-- What waits behind k writes. -/
def putW (q : Int) (xs : List Int) (k : Nat) : List (Int × List Int) := (List.range k).map fun j => (low (nth xs j) q, fill (j : Int) 128)
def putL (q : Int) (xs : List Int) (k : Nat) : List Int := (List.range k).map fun j => low (nth xs j) q
theorem putW_succ (q : Int) (xs : List Int) (k : Nat) : putW q xs (k + 1) = putW q xs k ++ [(low (nth xs k) q, fill (k : Int) 128)] := by simp [putW, List.range_succ]
theorem putL_succ (q : Int) (xs : List Int) (k : Nat) : putL q xs (k + 1) = putL q xs k ++ [low (nth xs k) q] := by simp [putL, List.range_succ]
theorem putW_len (q : Int) (xs : List Int) (k : Nat) : (putW q xs k).length = k := by simp [putW]
theorem putL_len (q : Int) (xs : List Int) (k : Nat) : (putL q xs k).length = k := by simp [putL]
def keepL (m k : Nat) : List Bool := (List.range k).map fun j => decide (j < m)
theorem keepL_succ (m k : Nat) : keepL m (k + 1) = keepL m k ++ [decide (k < m)] := by simp [keepL, List.range_succ]
theorem keepL_len (m k : Nat) : (keepL m k).length = k := by simp [keepL]
def wantL (q : Int) (Z : List (List Int)) (xs : List Int) (m k : Nat) : List (List Int) := (List.range k).foldl (fun T (j : Nat) => if j < m then blay T (low (nth xs j) q, fill (j : Int) 128) else T) Z
theorem wantL_succ (q : Int) (Z : List (List Int)) (xs : List Int) (m k : Nat) : wantL q Z xs m (k + 1) = if k < m then blay (wantL q Z xs m k) (low (nth xs k) q, fill (k : Int) 128) else wantL q Z xs m k := by simp [wantL, List.range_succ]
theorem wantL_len (q : Int) (Z : List (List Int)) (xs : List Int) (m k : Nat) : (wantL q Z xs m k).length = Z.length := by
  induction k with
  | zero => rfl
  | succ k ih =>
    rw [wantL_succ]
    split
    · rw [blay_len, ih]
    · exact ih
theorem kept_all (q : Int) (Z : List (List Int)) (xs : List Int) (m n : Nat) : blayKept (keepL m n) Z (putW q xs n) = wantL q Z xs m n := by
  have key : ∀ k, k ≤ n → blayKept (keepL m n) Z (putW q xs k) = wantL q Z xs m k := by
    intro k
    induction k with
    | zero => intro _; rfl
    | succ k ih =>
      intro hk
      rw [putW_succ, blayKept_snoc, ih (by omega), wantL_succ, putW_len]
      have : kept (keepL m n) k = decide (k < m) := by
        unfold kept
        rw [keepL_len, Nat.mod_eq_of_lt (by omega)]
        simp [keepL, show k < n by omega, show 0 < n by omega]
      rw [this]
      by_cases h : k < m <;> simp [h]
  exact key n (Nat.le_refl _)
def prefD (xs : List Int) (k : Nat) : Bk := ⟨List.replicate 5 zer, putW 5 xs k, true, none, putL 5 xs k, 0⟩
theorem prefD_write (xs : List Int) (k : Nat) : (prefD xs k).write (low (nth xs k) 5) (fill (k : Int) 128) = (0, prefD xs (k + 1)) := by
  rw [Bk.write_ok rfl rfl (low_in _ 5 (by omega)).1 (low_in _ 5 (by omega)).2 (fill128 _)]
  simp only [prefD, putW_succ, putL_succ]
end Go.Proofs.Ytajlikakbihgbaa
/- THE WALK of chapter 4's 'awake'. -/
namespace Go.Proofs.Ytajlikakbihgbaa
open Go.RowKit Go.Own Go.Dk
theorem _root_.Go.Own.Has.lit {w : World} {b : Nat} {L : List HP} {x : Int} (hO : Has w (pt b (.cells #[.int .i64 x] 3) :: L)) : Has w (Ints (.slice (some ⟨b, 0, none⟩) 1 1) [x] :: L) :=
  hO.row_of (by simp) (le_maxLen (by omega)) rfl rfl rfl

end Go.Proofs.Ytajlikakbihgbaa
