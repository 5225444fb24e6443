/- TEXTS of mine, merged. -/
import Derived.Test.YtajlikakbihgbaaM5
import Derived.Test.YtajlikakbihgbaaM3
import Derived.Test.YtajlikakbihgbaaM4
import Derived.Test.YtajlikakbihgbaaM1
/- THE WALK of disk.New. -/
namespace Go.Proofs.Ytajlikakbihgbaa
open Go.RowKit Go.Own Go.Dk
def zeros128 : Array Value := (List.replicate 128 (Value.int .u8 0)).toArray
theorem make128 (w : World) : (Instr.makeSlice 33 (.int .i64 128) (.int .i64 128)).run Try.prog w = .ok (.slice (some ⟨w.heap.size, 0, none⟩) 128 128) (w.alloc (.cells zeros128 5)) :=
  run_make_row w _ Try.underlying33 infoU8 rfl .i64 .i64 128 (by omega) (le_maxLen (by omega))
theorem made128 {w : World} {L : List HP} (h : Has w L) : Has (w.alloc (.cells zeros128 5)) (row (.slice (some ⟨w.heap.size, 0, none⟩) 128 128) 5 1 zer.length (bc zer) :: L) := by
  have := h.row_made (e := 5) (k := 128) (z := .int .u8 0) (le_maxLen (by omega))
  exact this
theorem diskNewNil (n : Int) (w : World) (h : n < 1 ∨ 2048 < n) : Calls Try.prog 8 #[.int .i64 n] w fun e w' => e = .returned (.pointer none) ∧ w = w' := by
  rcases h with h | h
  · go_enter Try.func8, Try.ntmps8
    go_wp2
    go_ret
    exact ⟨rfl, rfl⟩
  · have h' : ¬ n < 1 := by omega
    go_enter Try.func8, Try.ntmps8
    go_wp2
    go_ret
    exact ⟨rfl, rfl⟩
set_option maxHeartbeats 1000000 in
theorem diskNew1 (n : Nat) (W : World) (L : List HP) (h1 : 1 ≤ n) (h2 : n ≤ 2048) (hO : Has W L) :
    Calls Try.prog 8 #[.int .i64 (n : Int)] W fun e w' => ∃ (d : Nat) (fv : Value) (F : List Txt), e = .returned (.pointer (some ⟨d, 0, none⟩)) ∧ F.length = n ∧ (∀ x ∈ F, x.2 = zer) ∧ Has w' (pt d (.cells #[fv, .slice none 0 0, .bool true, .pointer none, .slice none 0 0, .int .i64 0] 67) :: row fv 33 1 n (F.map (·.1)) :: poolc 5 F :: L) ∧ Keep W w' := by
  have HO := hid hO
  clear hO
  go_enter Try.func8, Try.ntmps8
  go_wp2_with fail
  have HN := hid (HO.out.alloc (.cells #[.slice none 0 0, .slice none 0 0, .bool true, .pointer none, .slice none 0 0, .int .i64 0] 67))
  have HK0 := hid ((Keep.refl W).alloc (.cells #[.slice none 0 0, .slice none 0 0, .bool true, .pointer none, .slice none 0 0, .int .i64 0] 67))
  generalize W.heap.size = d at *
  go_loopw [13] (fun i w => ∃ k : Nat, k ≤ n ∧ i = .int .i64 k ∧ Hid (∃ (fv : Value) (F : List Txt), F.length = k ∧ (∀ x ∈ F, x.2 = zer) ∧ Has w (pt d (.cells #[fv, .slice none 0 0, .bool true, .pointer none, .slice none 0 0, .int .i64 0] 67) :: row fv 33 1 k (F.map (·.1)) :: poolc 5 F :: L)) ∧ Hid (Keep W w)) (fun i _ => n - (intOf i).toNat)
  case atStart => exact ⟨0, by omega, rfl, hid ⟨.slice none 0 0, [], rfl, by simp, (HN.out.pool_nil.row_nil _ _).p2⟩, HK0⟩
  case round =>
    obtain ⟨k, hk, rfl, HY, HK⟩ := hrel
    obtain ⟨fv, F, hF, hz, hO⟩ := HY.out
    by_cases hlt : k < n
    · have hc := hO.cells
      have ht := hO.thaw
      have HO1 := hid hO
      have HF := hid hF
      have HZ := hid hz
      clear hO hF hz
      go_wp2_with fail
      refine region_tail1 (fun w => w.cell? ⟨d, 0, none⟩ = some fv) (by kernel_rfl) (by kernel_rfl) (by kernel_rfl) (by decide) (HO1.out.drew.cells 0) ?_
      repeat (first
        | (refine wpL_read (by rfl) (by rfl) ?_ ?_ ?_; rotate_left; (intro w hS; go_simp; with_reducible rfl); simp only [Act.put, List.setIfInBounds_toArray, List.set_cons_zero, List.set_cons_succ]) | (refine wpL_skip (by rfl) ?_; simp only [Act.put, List.setIfInBounds_toArray, List.set_cons_zero, List.set_cons_succ]))
      refine wpL_act (by rfl) (by rfl) (fun K hK => ?_)
      go_simp
      rw [make128]
      go_simp
      have HO2 := hid (made128 HO1.out).drew
      generalize wr.heap.size = b at *
      refine hK.out _ _ (HO2.out.p1.cells 0) ?_
      clear hK K
      try simp only [Act.put, List.setIfInBounds_toArray, List.set_cons_zero, List.set_cons_succ]
      have HK2 := hid ((HK.out.alloc (.cells zeros128 5)).drew)
      clear HO1 HK hc ht HN HO
      generalize (wr.alloc (.cells zeros128 5)).drew = w2 at *
      refine wpL_act (by rfl) (by rfl) (fun K hK => ?_)
      go_simp
      have HO3 := hid (HO2.out.alloc (.cells #[.slice (some ⟨b, 0, none⟩) 128 128] 33))
      have HK3 := hid (HK2.out.alloc (.cells #[.slice (some ⟨b, 0, none⟩) 128 128] 33))
      generalize w2.heap.size = b2 at *
      refine hK.out _ _ (HO3.out.p2.cells 0) ?_
      clear hK K
      try simp only [Act.put, List.setIfInBounds_toArray, List.set_cons_zero, List.set_cons_succ]
      generalize w2.alloc (.cells #[.slice (some ⟨b, 0, none⟩) 128 128] 33) = w3 at *
      refine wpL_act (by rfl) (by rfl) (fun K hK => ?_)
      refine wp_append1 (.tmp 19) (.tmp 21) 55 rfl Try.underlying55 infoBs rfl [.slice (some ⟨b, 0, none⟩) 128 128] rfl HO3.out.p3 (by rfl) 1 b2 (by rfl) (fun j => by simpa using HO3.out.cells j) (by simp [Value.oneCell']) (le_maxLen (by omega)) (by omega) fun v' w' h2 h3 => ?_
      obtain ⟨vp, vc, rfl, -⟩ := h2.rd.form
      have HO4 := hid h2
      have HK4 := hid (HK3.out.trans h3)
      clear h2 h3 HO3 HK3 HO2 HK2
      refine hK.out _ _ (HO4.out.p3.cells 0) ?_
      clear hK K
      try simp only [Act.put, List.setIfInBounds_toArray, List.set_cons_zero, List.set_cons_succ]
      repeat (first
        | (refine wpL_read (by rfl) (by rfl) ?_ ?_ ?_; rotate_left; (intro w hS; go_simp; with_reducible rfl); simp only [Act.put, List.setIfInBounds_toArray, List.set_cons_zero, List.set_cons_succ]) | (refine wpL_skip (by rfl) ?_; simp only [Act.put, List.setIfInBounds_toArray, List.set_cons_zero, List.set_cons_succ]))
      refine wpL_nil ?_
      refine wpOp_last rfl (by rfl) ?_
      have ht := HO4.out.p3.thaw
      have hc := HO4.out.p3.cells
      go_simp
      have HO5 := hid (HO4.out.p3.set 0 (.slice vp (k + 1) vc))
      have HK5 := hid (HK4.out.set ⟨d, 0, none⟩ (.slice vp (k + 1) vc))
      clear HO4 HK4 ht hc
      go_wp2_with fail
      refine ⟨⟨k + 1, by omega, rfl, hid ⟨.slice vp (k + 1) vc, F ++ [(.slice (some ⟨b, 0, none⟩) 128 128, zer)], ?_, ?_, ?_⟩, HK5⟩, ?_⟩
      · rw [List.length_append, HF.out]; rfl
      · intro x hx
        rcases List.mem_append.1 hx with h | h
        · exact HZ.out x h
        · rw [List.mem_singleton.1 h]
      · rw [List.map_append]
        exact HO5.out.p2.drop.p2.p3.p1.pool_snoc.b2
      · simp only [intOf]; omega
    · have hc := hO.cells
      have ht := hO.thaw
      have e : k = n := by omega
      subst e
      have HO1 := hid hO
      have HF := hid hF
      have HZ := hid hz
      clear hO hF hz
      go_wp2_with fail
      go_ret
      exact ⟨d, fv, F, rfl, HF.out, HZ.out, HO1.out, HK.out⟩
theorem diskNew (n : Nat) (W : World) (L : List HP) (h1 : 1 ≤ n) (h2 : n ≤ 2048) (hO : Has W L) :
    Calls Try.prog 8 #[.int .i64 (n : Int)] W fun e w' => ∃ d F, e = .returned (.pointer (some ⟨d, 0, none⟩)) ∧ F.length = n ∧ (∀ x ∈ F, x.2 = zer) ∧ Has w' (Dsk d ⟨F, [], true, none, [], 0⟩ :: L) ∧ Keep W w' := by
  refine (diskNew1 n W L h1 h2 hO).mono ?_
  rintro e w' ⟨d, fv, F, he, hF, hz, h, hK⟩
  refine ⟨d, F, he, hF, hz, dsk_iff.2 ⟨fv, .slice none 0 0, .pointer none, .slice none 0 0, F, ⟨fun _ h => h, by simp, by simp, fun x hx => by rw [hz x hx]; rfl, by simp, by simp⟩, ?_⟩, hK⟩
  have h1 := ((armc_none.2 ⟨rfl, (h.row_nil 3 1).b2⟩).b2.row_nil 85 2).b2
  rw [← hF] at h1
  exact h1
end Go.Proofs.Ytajlikakbihgbaa
/- THE WALK of Image. -/
namespace Go.Proofs.Ytajlikakbihgbaa
open Go.RowKit Go.Own Go.Dk
theorem imageNil (w : World) : Calls Try.prog 29 #[.pointer none] w fun e w' => e = .returned (.slice none 0 0) ∧ w = w' := by
  go_enter Try.func29, Try.ntmps29
  go_wp2
  go_ret
  exact ⟨rfl, rfl⟩
set_option maxHeartbeats 2000000 in
theorem diskImage (d : Nat) (D : Disk) (w : World) (L : List HP) (hw : D.firm.length ≤ 1000000000) (hO : Has w (Dsk d D :: L)) :
    Calls Try.prog 29 #[.pointer (some ⟨d, 0, none⟩)] w fun e w' => ∃ v R, e = .returned v ∧ R.map (·.2) = D.firm.map (·.2) ∧ Has w' (row v 33 1 R.length (R.map (·.1)) :: poolc 5 R :: Dsk d D :: L) ∧ Keep w w' := by
  obtain ⟨fv, wv, av, lv, B, hok, hO⟩ := dsk_iff.1 hO
  have HOk := hid hok
  have HD := hid (fun w' M h => (dsk_iff (w := w') (L := M) (d := d)).2 ⟨fv, wv, av, lv, B, hok, h⟩)
  obtain ⟨F, W, on, ar, ws, fl⟩ := D
  simp only at hO hw HD
  obtain ⟨fp, fc, rfl, hfc, hfl, -⟩ := hO.p1.rd.form
  have hc := hO.cells
  have HO := hid hO
  clear hO hok
  go_enter Try.func29, Try.ntmps29
  go_wp2_with fail
  go_loopw [5, 3, 13] (fun _ v i w' => ∃ k : Nat, k ≤ F.length ∧ i = .int .i64 k ∧ Hid (∃ R : List Txt, R.length = k ∧ R.map (·.2) = (F.take k).map (·.2) ∧ Has w' (row v 33 1 k (R.map (·.1)) :: poolc 5 R :: pt d (.cells #[.slice fp F.length fc, wv, .bool on, av, lv, .int .i64 fl] 67) :: row (.slice fp F.length fc) 33 1 F.length (F.map (·.1)) :: row wv 85 2 W.length (wenc W) :: Armc av ar :: Ints lv ws :: poolc 5 B :: L)) ∧ Hid (Keep w w')) (fun _ _ i _ => F.length - (intOf i).toNat)
  case atStart => exact ⟨0, by omega, rfl, hid ⟨[], rfl, rfl, (HO.out.pool_nil).row_nil _ _⟩, hid (Keep.refl _)⟩
  case round =>
    obtain ⟨k, hk, rfl, HX, HK⟩ := hrel
    clear HO
    obtain ⟨R, hR, hRm, hX⟩ := HX.out
    have HX := hid hX
    have HR := hid hR
    have HRm := hid hRm
    clear hX hR hRm
    by_cases hlt : k < F.length
    · have hF1 := HOk.out.firm _ (List.getElem_mem hlt)
      have hlenk := HOk.out.len _ (List.getElem_mem hlt)
      have hrd := (HX.out.drop.drop.p5).pool_rd hF1
      obtain ⟨fp', fc', ef, -, -, hcf⟩ := HX.out.p3.rd.form
      simp only [Value.slice.injEq, true_and] at ef
      obtain ⟨rfl, rfl⟩ := ef
      obtain ⟨fg, fo, rfl, hcg⟩ := hcf (by omega)
      have hk1 := hcg k (by omega)
      clear hcg
      have HT := hid (show (F.take (k + 1)).map (·.2) = (F.take k).map (·.2) ++ [F[k].2] from by rw [← List.take_append_getElem hlt, List.map_append]; rfl)
      rw [List.getElem?_map, List.getElem?_eq_getElem hlt] at hk1
      simp only [Option.map_some] at hk1
      have HC := hid (cloneBytes F[k].1 F[k].2 wr _ HX.out hrd (by omega))
      obtain ⟨xp, xc, ex, -⟩ := hrd.form
      rw [ex] at hk1 HC
      rw [hlenk] at hk1 HC
      clear hrd
      go_wp2_with fail
      refine HC.out.mono ?_
      rintro e w' ⟨v', rfl, h, hK, -⟩
      dsimp only
      obtain ⟨vp, vc, rfl, -⟩ := h.rd.form
      have HO2 := hid h.p1
      have HK2 := hid (HK.out.trans hK)
      clear h hK HC
      have hlk : (F[k].2).length = 128 := hlenk
      go_wp2_with (at_builtin; refine wpList_append1 rfl _ _ _ rfl Try.underlying55 infoBs rfl (.slice vp 128 vc) (HO2.out.alloc' _) rfl 1 _ rfl (by simp) rfl (le_maxLen (by omega)) (by omega) ?_)
      intro v2 w2 h hk
      have HO3 := hid h
      have HK3 := hid ((HK2.out.alloc _).trans hk)
      clear h hk HO2 HK2
      go_wp2_with fail
      refine ⟨⟨k + 1, by omega, rfl, hid ⟨R ++ [(.slice vp 128 vc, F[k].2)], ?_, ?_, ?_⟩, HK3⟩, ?_⟩
      · rw [List.length_append, HR.out]; rfl
      · rw [List.map_append, HRm.out, HT.out]; rfl
      · rw [List.map_append]
        exact (HO3.out.p1.p2.p1.pool_snoc).p1
      · simp only [intOf]; omega
    · obtain rfl : k = F.length := by omega
      go_wp2_with fail
      go_ret
      have h := HX.out
      have e := HR.out
      refine ⟨_, rfl, R, ?_, ?_, HK.out⟩
      · have := HRm.out; rw [List.take_length] at this; exact this
      · rw [e]
        exact (HD.out _ _ (h.perm (List.perm_append_comm_assoc [_, _] [_, _, _, _, _, _] L))).b2
end Go.Proofs.Ytajlikakbihgbaa
/- A DISK's CALLS, its bytes alone. -/
namespace Go.Proofs.Ytajlikakbihgbaa
open Go.RowKit Go.Own Go.Dk
/-- A disk whose bytes are E, at block d. -/
def Dk (d : Nat) (E : Bk) : HP := ex fun D => star [fact (D.bk = E), Dsk d D]
theorem dk_iff {w : World} {L : List HP} {d : Nat} {E : Bk} : Has w (Dk d E :: L) ↔ ∃ D, D.bk = E ∧ Has w (Dsk d D :: L) := by
  unfold Dk
  simp only [Has.ex_iff, Has.star_iff, List.cons_append, List.nil_append, Has.fact_iff]
theorem kNew (n : Nat) (W : World) (L : List HP) (h1 : 1 ≤ n) (h2 : n ≤ 2048) (hO : Has W L) :
    Calls Try.prog 8 #[.int .i64 (n : Int)] W fun e w' => ∃ d, e = .returned (.pointer (some ⟨d, 0, none⟩)) ∧ Has w' (Dk d (Bk.zero n) :: L) ∧ Keep W w' :=
  (diskNew n W L h1 h2 hO).mono fun e w' ⟨d, F, he, hl, hz, h, hK⟩ => ⟨d, he, dk_iff.2 ⟨_, by
    simp only [Disk.bk, Bk.zero, List.map_nil, Bk.mk.injEq, and_true]
    rw [List.eq_replicate_iff]
    refine ⟨by simpa using hl, fun y hy => ?_⟩
    obtain ⟨x, hx, rfl⟩ := List.mem_map.1 hy
    exact hz x hx, h⟩, hK⟩
section
variable (d : Nat) (E : Bk) (w : World) (L : List HP) (hO : Has w (Dk d E :: L))
include hO
theorem kSectors : Calls Try.prog 30 #[.pointer (some ⟨d, 0, none⟩)] w fun e w' => e = .returned (.int .i64 E.firm.length) ∧ w = w' := by
  obtain ⟨D, rfl, h⟩ := dk_iff.1 hO
  have := diskSectors d D w L h
  simpa [Disk.bk] using this
theorem kBoot : Calls Try.prog 50 #[.pointer (some ⟨d, 0, none⟩)] w fun e w' => e = .returned (.int .i64 E.boot.1) ∧ Has w' (Dk d E.boot.2 :: L) ∧ Keep w w' := by
  obtain ⟨D, rfl, h⟩ := dk_iff.1 hO
  rw [bk_boot]
  exact (diskBoot d D w L h).mono fun e w' ⟨h1, h2, h3⟩ => ⟨h1, dk_iff.2 ⟨_, rfl, h2⟩, h3⟩
theorem kCrash (kv : Value) (keep : List Bool) (hL : ∀ w', Has w' L → Rd w' kv 1 keep.length (keep.map Value.bool)) :
    Calls Try.prog 52 #[.pointer (some ⟨d, 0, none⟩), kv] w fun e w' => e = .returned (.tuple #[]) ∧ Has w' (Dk d (E.crash keep) :: L) ∧ Keep w w' := by
  obtain ⟨D, rfl, h⟩ := dk_iff.1 hO
  exact (diskCrash d D kv keep w L hL h).mono fun e w' ⟨h1, h2, h3⟩ => ⟨h1, dk_iff.2 ⟨_, bk_crash D keep, h2⟩, h3⟩
theorem kCrash0 : Calls Try.prog 52 #[.pointer (some ⟨d, 0, none⟩), .slice none 0 0] w fun e w' => e = .returned (.tuple #[]) ∧ Has w' (Dk d (E.crash []) :: L) ∧ Keep w w' :=
  kCrash d E w L hO _ [] fun w' h => (h.row_nil 4 1).rd
theorem kWrite (at_ : Int) (b : Value) (xs : List Int) (hw : E.waits.length ≤ 1000000000) (hw2 : E.writes.length ≤ 1000000000) (hL : ∀ w', Has w' L → Rd w' b 1 xs.length (bc xs)) :
    Calls Try.prog 34 #[.pointer (some ⟨d, 0, none⟩), .int .i64 at_, b] w fun e w' => e = .returned (.int .i64 (E.write at_ xs).1) ∧ Has w' (Dk d (E.write at_ xs).2 :: L) ∧ Keep w w' := by
  obtain ⟨D, rfl, h⟩ := dk_iff.1 hO
  refine (diskWrite d D at_ b xs w L (by simpa [Disk.bk] using hw) hw2 hL h).mono ?_
  rintro e w' ⟨x, h1, h2, h3⟩
  have := bk_write D at_ (x, xs)
  dsimp only at this
  rw [this]
  exact ⟨h1, dk_iff.2 ⟨_, rfl, h2⟩, h3⟩
theorem kRead (x : Int) (hw : E.waits.length ≤ 1000000000) :
    Calls Try.prog 17 #[.pointer (some ⟨d, 0, none⟩), .int .i64 x] w fun e w' => ∃ v, e = .returned (.tuple #[v, .int .i64 (E.read x).1]) ∧ Has w' (Bytes v (E.read x).2 :: Dk d E :: L) ∧ Keep w w' := by
  obtain ⟨D, rfl, h⟩ := dk_iff.1 hO
  refine (diskRead d D x w L (by simpa [Disk.bk] using hw) h).mono ?_
  rintro e w' ⟨v, h1, h2, h3⟩
  have e : D.bk.read x = D.read x := by
    unfold Bk.read Disk.read
    rw [bk_asked, bk_there, bk_last]
  rw [e]
  exact ⟨v, h1, (dk_iff.2 ⟨_, rfl, h2.p1⟩).p1, h3⟩
theorem kImage (hw : E.firm.length ≤ 1000000000) :
    Calls Try.prog 29 #[.pointer (some ⟨d, 0, none⟩)] w fun e w' => ∃ v, e = .returned v ∧ Has w' (Prts v E.firm :: Dk d E :: L) ∧ Keep w w' := by
  obtain ⟨D, rfl, h⟩ := dk_iff.1 hO
  refine (diskImage d D w L (by simpa [Disk.bk] using hw) h).mono ?_
  rintro e w' ⟨v, R, h1, h2, h3, h4⟩
  exact ⟨v, h1, prts_iff.2 ⟨R, h2, (dk_iff.2 ⟨_, rfl, h3.p2⟩).b2⟩, h4⟩
theorem kWrites (hw : E.writes.length ≤ 1000000000) :
    Calls Try.prog 21 #[.pointer (some ⟨d, 0, none⟩)] w fun e w' => ∃ v, e = .returned v ∧ Has w' (Ints v E.writes :: Dk d E :: L) ∧ Keep w w' := by
  obtain ⟨D, rfl, h⟩ := dk_iff.1 hO
  refine (diskWrites d D w L hw h).mono ?_
  rintro e w' ⟨v, h1, h3, h4⟩
  exact ⟨v, h1, (dk_iff.2 ⟨_, rfl, h3.p1⟩).p1, h4⟩
end
end Go.Proofs.Ytajlikakbihgbaa
/- THE PLAIN MODEL OF A CACHE: sectors in memory, the oldest first. -/
namespace Go.Ch
open Go.Own Go.RowKit
/-- A sector in memory: its number, its slice and bytes, whether it is dirty, pinned. -/
structure Hd where
  at_ : Int
  t : Value × List Int
  dirty : Bool
  pin : Bool
/-- The same, its bytes alone. -/
structure Hb where
  at_ : Int
  b : List Int
  dirty : Bool
  pin : Bool
deriving DecidableEq
def Hd.hb (h : Hd) : Hb := ⟨h.at_, h.t.2, h.dirty, h.pin⟩
def hc (h : Hd) : List Value := [.int .i64 h.at_, h.t.1, .bool h.dirty, .bool h.pin]
def hcells (T : List Hd) : List Value := T.flatMap hc
theorem hcells_len (T : List Hd) : (hcells T).length = T.length * 4 := by
  induction T with
  | nil => rfl
  | cons h T ih => rw [hcells, List.flatMap_cons, List.length_append, ← hcells, ih]; simp [hc]; omega
theorem hcells_cons (h : Hd) (T : List Hd) : hcells (h :: T) = hc h ++ hcells T := rfl
theorem hcells_append (S T : List Hd) : hcells (S ++ T) = hcells S ++ hcells T := by simp [hcells]
theorem hcells_drop (T : List Hd) (k : Nat) : (hcells T).drop (k * 4) = hcells (T.drop k) := by
  induction T generalizing k with
  | nil => simp [hcells]
  | cons h T ih =>
    cases k with
    | zero => simp
    | succ k =>
      rw [hcells_cons, List.drop_succ_cons, ← ih k, show (k + 1) * 4 = 4 + k * 4 by omega, ← List.drop_drop]
      rfl
theorem hcells_take (T : List Hd) (k : Nat) : (hcells T).take (k * 4) = hcells (T.take k) := by
  induction T generalizing k with
  | nil => simp [hcells]
  | cons h T ih =>
    cases k with
    | zero => simp [hcells]
    | succ k =>
      rw [hcells_cons, List.take_succ_cons, hcells_cons, ← ih k, show (k + 1) * 4 = (hc h).length + k * 4 by simp [hc]; omega, List.take_length_add_append]
theorem hcells_at (T : List Hd) (k : Nat) (hk : k < T.length) (j : Nat) (hj : j < 4) : (hcells T)[k * 4 + j]? = (hc T[k])[j]? := by
  have h1 : ((hcells T).drop (k * 4))[j]? = (hcells T)[k * 4 + j]? := by rw [List.getElem?_drop]
  rw [← h1, hcells_drop, List.drop_eq_getElem_cons hk, hcells_cons, List.getElem?_append_left (by simpa [hc] using hj)]
theorem hcells_set (T : List Hd) (k : Nat) (hk : k < T.length) (h : Hd) : hcells (T.set k h) = (hcells T).take (k * 4) ++ hc h ++ (hcells T).drop ((k + 1) * 4) := by
  rw [hcells_take, hcells_drop, List.set_eq_take_append_cons_drop, if_pos hk, hcells_append, hcells_cons, List.append_assoc]
theorem hcells_one {T : List Hd} {k : Nat} (h : ∀ x ∈ T, x.t.1.oneCell' = true) : ∀ u ∈ hcells T, u.oneCell' = true := by
  intro u hu
  obtain ⟨x, hx, hxu⟩ := List.mem_flatMap.1 hu
  simp only [hc, List.mem_cons, List.not_mem_nil, or_false] at hxu
  rcases hxu with rfl | rfl | rfl | rfl
  · rfl
  · exact h x hx
  · rfl
  · rfl
/-! ### The plain ways -/
/-- Where a sector is held. -/
def find (K : List Hb) (a : Int) : Option Nat := K.findIdx? fun h => h.at_ == a
/-- So many of the first that may go are given up: how many are left to be given up, and what stays. -/
def dropG {α : Type} (st : α → Bool) : Int → List α → Int × List α
  | m, [] => (m, [])
  | m, h :: K => if m ≤ 0 ∨ st h = true then ((dropG st m K).1, h :: (dropG st m K).2) else dropG st (m - 1) K
def Hb.stay (h : Hb) : Bool := h.dirty || h.pin
def Hd.stay (h : Hd) : Bool := h.dirty || h.pin
def dropL (m : Int) (K : List Hb) : Int × List Hb := dropG Hb.stay m K
theorem dropG_map {α β : Type} (st : β → Bool) (f : α → β) (m : Int) (l : List α) : dropG st m (l.map f) = ((dropG (fun x => st (f x)) m l).1, (dropG (fun x => st (f x)) m l).2.map f) := by
  induction l generalizing m with
  | nil => rfl
  | cons h l ih =>
    rw [List.map_cons]
    unfold dropG
    split
    · rw [ih]; rfl
    · rw [ih]
theorem dropG_append {α : Type} (st : α → Bool) (m : Int) (A B : List α) : dropG st m (A ++ B) = ((dropG st (dropG st m A).1 B).1, (dropG st m A).2 ++ (dropG st (dropG st m A).1 B).2) := by
  induction A generalizing m with
  | nil => rfl
  | cons h A ih =>
    rw [List.cons_append, dropG, dropG]
    split
    · rw [ih]; rfl
    · rw [ih]
theorem dropG_none {α : Type} (st : α → Bool) {m : Int} {l : List α} (h : m ≤ 0 ∨ ∀ x ∈ l, st x = true) : dropG st m l = (m, l) := by
  induction l with
  | nil => rfl
  | cons x l ih =>
    have ih := ih (h.imp id fun h y hy => h y (List.mem_cons_of_mem _ hy))
    rw [dropG, if_pos (h.imp id fun h => h x (List.mem_cons_self ..)), ih]
theorem dropG_one {α : Type} (st : α → Bool) (m : Int) (x : α) : dropG st m [x] = if m ≤ 0 ∨ st x = true then (m, [x]) else (m - 1, []) := by
  rw [dropG]
  split <;> rfl
theorem dropG_le {α : Type} (st : α → Bool) (m : Int) (K : List α) : (dropG st m K).2.length ≤ K.length := by
  induction K generalizing m with
  | nil => simp [dropG]
  | cons h K ih =>
    unfold dropG
    split
    · have := ih m; simp; omega
    · have := ih (m - 1); simp; omega
theorem dropG_mem {α : Type} (st : α → Bool) (m : Int) (K : List α) : ∀ x ∈ (dropG st m K).2, x ∈ K := by
  induction K generalizing m with
  | nil => simp [dropG]
  | cons h K ih =>
    unfold dropG
    split
    · intro x hx
      rcases List.mem_cons.1 hx with rfl | hx
      · exact List.mem_cons_self
      · exact List.mem_cons_of_mem _ (ih m x hx)
    · intro x hx
      exact List.mem_cons_of_mem _ (ih (m - 1) x hx)
theorem dropG_num {α : Type} (st : α → Bool) (m : Int) (K : List α) : (dropG st m K).1 ≤ m ∧ m ≤ (dropG st m K).1 + K.length := by
  induction K generalizing m with
  | nil => simp [dropG]
  | cons h K ih =>
    unfold dropG
    split
    · have := ih m; simp; omega
    · have := ih (m - 1); simp; omega
/-- A sector is put in, as the newest. -/
def addT (T : List Hd) (h : Hd) : List Hd :=
  match find (T.map Hd.hb) h.at_ with
  | some i => T.eraseIdx i ++ [⟨h.at_, h.t, h.dirty, ((T[i]?).map Hd.pin).getD false⟩]
  | none => T ++ [h]
def settleT (most : Int) (T : List Hd) : List Hd := (dropG Hd.stay ((T.length : Int) - most) T).2
theorem find_lt {K : List Hb} {a : Int} {i : Nat} (h : find K a = some i) : ∃ hi : i < K.length, K[i].at_ = a := by
  unfold find at h
  rw [List.findIdx?_eq_some_iff_getElem] at h
  obtain ⟨hi, h1, -⟩ := h
  exact ⟨hi, by simpa using h1⟩
/-- The same, of bytes alone. -/
def addK (K : List Hb) (h : Hb) : List Hb :=
  match find K h.at_ with
  | some i => K.eraseIdx i ++ [⟨h.at_, h.b, h.dirty, ((K[i]?).map Hb.pin).getD false⟩]
  | none => K ++ [h]
def settleK (most : Int) (K : List Hb) : List Hb := (dropG Hb.stay ((K.length : Int) - most) K).2
def newK (most : Int) (K : List Hb) (h : Hb) : List Hb := settleK most (addK K h)
theorem map_eraseIdx {α β : Type} (f : α → β) : ∀ (l : List α) (i : Nat), (l.eraseIdx i).map f = (l.map f).eraseIdx i
  | [], _ => rfl
  | _ :: _, 0 => rfl
  | a :: l, i + 1 => by rw [List.eraseIdx_cons_succ, List.map_cons, List.map_cons, List.eraseIdx_cons_succ, map_eraseIdx f l i]
theorem addT_map (T : List Hd) (h : Hd) : (addT T h).map Hd.hb = addK (T.map Hd.hb) h.hb := by
  unfold addT addK
  show List.map Hd.hb (match find (T.map Hd.hb) h.at_ with | some i => _ | none => _) = (match find (T.map Hd.hb) h.at_ with | some i => _ | none => _)
  cases find (T.map Hd.hb) h.at_ with
  | none => simp
  | some i =>
    dsimp only
    rw [List.map_append, map_eraseIdx, List.getElem?_map, Option.map_map]
    rfl
theorem drop_map (m : Int) (T : List Hd) : dropG Hb.stay m (T.map Hd.hb) = ((dropG Hd.stay m T).1, (dropG Hd.stay m T).2.map Hd.hb) := dropG_map Hb.stay Hd.hb m T
theorem settleT_map (most : Int) (T : List Hd) : (settleT most T).map Hd.hb = settleK most (T.map Hd.hb) := by
  unfold settleT settleK
  rw [drop_map, List.length_map]
theorem newT_map (most : Int) (T : List Hd) (h : Hd) : (settleT most (addT T h)).map Hd.hb = newK most (T.map Hd.hb) h.hb := by
  rw [settleT_map, addT_map]; rfl
theorem addT_mem {T : List Hd} {h x : Hd} (hx : x ∈ addT T h) : x ∈ T ∨ x.t = h.t := by
  unfold addT at hx
  split at hx
  · rcases List.mem_append.1 hx with hx | hx
    · exact .inl (List.mem_of_mem_eraseIdx hx)
    · rw [List.mem_singleton.1 hx]; exact .inr rfl
  · rcases List.mem_append.1 hx with hx | hx
    · exact .inl hx
    · rw [List.mem_singleton.1 hx]; exact .inr rfl
theorem addT_len (T : List Hd) (h : Hd) : (addT T h).length ≤ T.length + 1 := by
  unfold addT
  split
  · have := List.length_eraseIdx_le T ‹Nat›
    simp only [List.length_append, List.length_singleton]
    omega
  · simp
theorem newT_mem {most : Int} {T : List Hd} {h x : Hd} (hx : x ∈ settleT most (addT T h)) : x ∈ T ∨ x.t = h.t := addT_mem (dropG_mem _ _ _ x hx)
end Go.Ch
/- CHUNKS SELECTED AND ORDERED by a list of their places. No program in sight. -/
namespace Go.Own
def pickE : List Nat → List HP → List HP
  | [], _ => []
  | i :: is, l => l[i]?.getD emp :: pickE is (l.set i emp)
theorem Has.out1 {w : World} {l m : List HP} (i : Nat) (h : Has w (l ++ m)) : Has w (l[i]?.getD emp :: (l.set i emp ++ m)) := by
  by_cases hi : i < l.length
  · rw [List.getElem?_eq_getElem hi, Option.getD_some]
    have h1 : Has w (l[i] :: (l.eraseIdx i ++ m)) := h.perm ((perm_pull l i hi).append_right m)
    have h2 : Has w (emp :: l[i] :: (l.eraseIdx i ++ m)) := Has.emp_iff.2 h1
    exact h2.p1.perm (((set_perm l i hi emp).symm.append_right m).cons _)
  · rw [List.getElem?_eq_none (by omega), Option.getD_none, List.set_eq_of_length_le (by omega)]
    exact Has.emp_iff.2 h
theorem Has.dropAll {w : World} {m : List HP} : ∀ (l : List HP), Has w (l ++ m) → Has w m
  | [], h => h
  | _ :: l, h => Has.dropAll l h.drop
theorem Has.reIn {w : World} {m : List HP} : ∀ (is : List Nat) (acc l : List HP), Has w (acc ++ (l ++ m)) → Has w (acc ++ (pickE is l ++ m))
  | [], acc, l, h => by
    unfold pickE
    rw [List.nil_append]
    have : Has w (l ++ (acc ++ m)) := h.perm (List.perm_append_comm_assoc _ _ _)
    exact this.dropAll
  | i :: is, acc, l, h => by
    unfold pickE
    have h1 : Has w (l ++ (acc ++ m)) := h.perm (List.perm_append_comm_assoc _ _ _)
    have h2 := h1.out1 i
    have h3 : Has w ((acc ++ [l[i]?.getD emp]) ++ (l.set i emp ++ m)) := by
      rw [List.append_assoc, List.singleton_append]
      exact h2.perm (((List.perm_append_comm_assoc _ _ _).cons _).trans List.perm_middle.symm)
    have h4 := Has.reIn is _ _ h3
    rw [List.append_assoc, List.singleton_append] at h4
    exact h4
/-- Of the first n chunks those at the places 'is', in that order; the rest of the first n are let go. -/
theorem Has.re {w : World} {l : List HP} (n : Nat) (is : List Nat) (h : Has w l) : Has w (pickE is (l.take n) ++ l.drop n) :=
  Has.reIn is [] _ (by rw [List.nil_append, List.take_append_drop]; exact h)
example {w : World} {a b c d : HP} {L : List HP} (h : Has w (a :: b :: c :: d :: L)) : Has w (c :: a :: d :: L) := h.re 3 [2, 0]
end Go.Own
/- THE WALKS of where a sector is held. -/
namespace Go.Proofs.Ytajlikakbihgbaa
open Go.RowKit Go.Own Go.Ch
def hdV (h : Hd) : Value := .agg #[.int .i64 h.at_, h.t.1, .bool h.dirty, .bool h.pin]
def hdC (h : Hd) : Array Value := #[.int .i64 h.at_, h.t.1, .bool h.dirty, .bool h.pin]
set_option maxRecDepth 100000 in
set_option maxHeartbeats 4000000 in
theorem cFind1 (h : Hd) (q : Nat) (a : Int) (w : World) (L : List HP) (hO : Has w (pt q (.cells #[.int .i64 a] 3) :: L)) :
    Calls Try.prog 60 #[hdV h, .pointer (some ⟨q, 0, none⟩)] w fun e w' => e = .returned (.bool (h.at_ == a)) ∧ Has w' (pt q (.cells #[.int .i64 a] 3) :: L) ∧ Keep w w' := by
  have HO := hid (hO.alloc (.cells (hdC h) 76))
  have HK := hid ((Keep.refl w).alloc (.cells (hdC h) 76))
  have hc1 := (hO.alloc (.cells (hdC h) 76)).cells
  have hc2 := (hO.alloc (.cells (hdC h) 76)).p1.cells
  clear hO
  unfold hdV hdC at *
  go_enter Try.func60, Try.ntmps60
  go_wp2_with fail
  go_ret
  exact ⟨rfl, HO.out.drop, HK.out⟩
/-- What an element's cells are, read. -/
theorem hd_cells {w : World} {g o n c : Nat} {T : List Hd} (h : Rd w (.slice (some ⟨g, o, none⟩) n c) 4 T.length (hcells T)) (k : Nat) (hk : k < T.length) :
    w.cell? ⟨g, o + k * 4, none⟩ = some (.int .i64 T[k].at_) ∧ w.cell? ⟨g, o + k * 4 + 1, none⟩ = some T[k].t.1 ∧ w.cell? ⟨g, o + k * 4 + 2, none⟩ = some (.bool T[k].dirty) ∧ w.cell? ⟨g, o + k * 4 + 3, none⟩ = some (.bool T[k].pin) := by
  obtain ⟨p, c', e, -, -, hcc⟩ := h.form
  obtain ⟨g', o', rfl, hd⟩ := hcc (by omega)
  injection e with e
  injection e with e
  injection e with e1 e2
  subst e1 e2
  have hx : ∀ j, j < 4 → w.cell? ⟨g, o + k * 4 + j, none⟩ = (Ch.hc T[k])[j]? := fun j hj => by
    rw [Nat.add_assoc, hd (k * 4 + j) (by omega), hcells_at T k hk j hj]
  exact ⟨hx 0 (by omega), hx 1 (by omega), hx 2 (by omega), hx 3 (by omega)⟩
/-- Where, as a number; -1. -/
def atN : Option Nat → Int
  | some i => i
  | none => -1
theorem find_none {K : List Hb} {a : Int} (h : ∀ j (hj : j < K.length), K[j].at_ ≠ a) : find K a = none := by
  unfold find
  rw [List.findIdx?_eq_none_iff]
  intro x hx
  obtain ⟨j, hj, rfl⟩ := List.getElem_of_mem hx
  simpa using h j hj
theorem find_some {K : List Hb} {a : Int} {k : Nat} (hk : k < K.length) (e : K[k].at_ = a) (h : ∀ j (hj : j < k), K[j].at_ ≠ a) : find K a = some k := by
  unfold find
  rw [List.findIdx?_eq_some_iff_getElem]
  exact ⟨hk, by simpa using e, fun j hj => by simpa using h j hj⟩
set_option maxRecDepth 100000 in
set_option maxHeartbeats 4000000 in
theorem cIndexFind (v : Value) (T : List Hd) (q : Nat) (a : Int) (w : World) (L : List HP) (hr : ∀ w', Has w' L → Rd w' v 4 T.length (hcells T)) (hl : T.length ≤ 1000000) (hO : Has w (pt q (.cells #[.int .i64 a] 3) :: L)) :
    Calls Try.prog 59 #[v, .func (Fn.func 60) #[] #[.pointer (some ⟨q, 0, none⟩)]] w fun e w' => e = .returned (.int .i64 (atN (find (T.map Hd.hb) a))) ∧ Has w' (pt q (.cells #[.int .i64 a] 3) :: L) ∧ Keep w w' := by
  obtain ⟨p, c, rfl, -, -, hcs⟩ := (hr w hO.drop).form
  have HO := hid hO
  have HK := hid (Keep.refl w)
  have HR := hid hr
  have HL := hid hl
  have HCS := hid hcs
  clear hr hO hl hcs
  go_enter Try.func59, Try.ntmps59
  go_wp2_with fail
  go_loopw [8] (fun i w' => ∃ k : Nat, k ≤ T.length ∧ i = .int .i64 k ∧ Hid (∀ j (hj : j < T.length), j < k → T[j].at_ ≠ a) ∧ Hid (Has w' (pt q (.cells #[.int .i64 a] 3) :: L)) ∧ Hid (Keep w w')) (fun i _ => T.length - (intOf i).toNat)
  case atStart => exact ⟨0, by omega, rfl, hid fun j hj h => by omega, HO, HK⟩
  case round =>
    clear HO HK
    obtain ⟨k, hk, rfl, HN, HO, HK⟩ := hrel
    by_cases hlt : k < T.length
    · have hki : (k : Int) < (T.length : Int) := by omega
      have hk0 : (0 : Int) ≤ (k : Int) := by omega
      have hnb : (T.length : Int) ≤ 1000000 := by have := HL.out; omega
      obtain ⟨g, o, rfl, -⟩ := HCS.out (by omega)
      obtain ⟨c0, c1, c2, c3⟩ := hd_cells (HR.out wr HO.out.drop) k hlt
      have HLT := hid hlt
      generalize hx : T[k] = x at *
      have HX := hid hx
      clear hx hlt hk
      have HF := hid (cFind1 x q a wr L HO.out)
      unfold hdV at HF
      by_cases hat : x.at_ = a
      · have hb : (x.at_ == a) = true := by simpa using hat
        rw [hb] at HF
        have HFI := hid (show find (T.map Hd.hb) a = some k from find_some (by simpa using HLT.out) (by rw [List.getElem_map]; show T[k].at_ = a; rw [HX.out]; exact hat) (fun j hj => by rw [List.getElem_map]; exact HN.out j (by have := HLT.out; omega) hj))
        clear hat hb
        go_wp2_with fail
        refine HF.out.mono ?_
        rintro e w2 ⟨rfl, h2, k2⟩
        have HO2 := hid h2
        have HK2 := hid (HK.out.trans k2)
        clear h2 k2 c0 c1 c2 c3
        try dsimp only
        go_wp2_with fail
        go_ret
        exact ⟨by rw [HFI.out]; rfl, HO2.out, HK2.out⟩
      · have hb : (x.at_ == a) = false := by simpa using hat
        rw [hb] at HF
        have HN2 := hid (show ∀ j (hj : j < T.length), j < k + 1 → T[j].at_ ≠ a from fun j hj h => by
          by_cases e : j = k
          · have e2 : T[j] = x := by simp only [e]; exact HX.out
            rw [e2]; exact hat
          · exact HN.out j hj (by omega))
        clear hat hb
        go_wp2_with fail
        refine HF.out.mono ?_
        rintro e w2 ⟨rfl, h2, k2⟩
        have HO2 := hid h2
        have HK2 := hid (HK.out.trans k2)
        clear h2 k2 c0 c1 c2 c3
        try dsimp only
        go_wp2_with fail
        exact ⟨⟨k + 1, by have := HLT.out; omega, rfl, HN2, HO2, HK2⟩, by have := HLT.out; simp [intOf]; omega⟩
    · have hki : ¬ (k : Int) < (T.length : Int) := by omega
      have HFI := hid (show find (T.map Hd.hb) a = none from find_none fun j hj => by
        rw [List.getElem_map]
        exact HN.out j (by simpa using hj) (by have : j < T.length := (by simpa using hj); omega))
      clear hlt hk
      go_wp2_with fail
      go_ret
      exact ⟨by rw [HFI.out]; rfl, HO.out, HK.out⟩
/-- A cache's own cells. -/
def caC (dv : Value) (most : Int) (v : Value) : Array Value := #[dv, .int .i64 most, v]
set_option maxRecDepth 100000 in
set_option maxHeartbeats 4000000 in
theorem cFind (dv : Value) (most : Int) (v : Value) (T : List Hd) (q : Nat) (a : Int) (w : World) (L : List HP) (hr : ∀ w', Has w' L → Rd w' v 4 T.length (hcells T)) (hl : T.length ≤ 1000000) (hO : Has w (pt q (.cells (caC dv most v) 70) :: L)) :
    Calls Try.prog 37 #[.pointer (some ⟨q, 0, none⟩), .int .i64 a] w fun e w' => e = .returned (.int .i64 (atN (find (T.map Hd.hb) a))) ∧ Has w' (pt q (.cells (caC dv most v) 70) :: L) ∧ Keep w w' := by
  have HO := hid (hO.alloc (.cells #[.int .i64 a] 3))
  have HK := hid ((Keep.refl w).alloc (.cells #[.int .i64 a] 3))
  have hc1 := HO.out.p1.cells
  have HI := hid (cIndexFind v T w.heap.size a _ _ (fun w' h => hr w' h.drop) hl HO.out)
  obtain ⟨p, c, rfl, -⟩ := (hr w hO.drop).form
  clear hO hr hl
  unfold caC at *
  go_enter Try.func37, Try.ntmps37
  go_wp2_with fail
  refine HI.out.mono ?_
  rintro e w2 ⟨rfl, h2, k2⟩
  have HO2 := hid h2
  have HK2 := hid (HK.out.trans k2)
  clear h2 k2 hc1
  try dsimp only
  go_wp2_with fail
  go_ret
  exact ⟨rfl, HO2.out.drop, HK2.out⟩
end Go.Proofs.Ytajlikakbihgbaa
/- 'append(s, x...)' of whatever reads as a row, nil let in. No program in sight. -/
namespace Go.Own
open Go.RowKit
section
variable {w : World} {l : List HP} {v : Value} {e : TypeId} {size n : Nat} {xs : List Value}
theorem Has.appendNone {P : Program} (hO : Has w (row v e size n xs :: l)) (t ty : TypeId) (ht : P.underlying t = some (.slice e)) (i : TypeInfo) (hi : P.info? e = some i) (c : Nat) :
    (Builtin.append_ #[t, t] ty #[v, .slice none 0 c]).run P w = .ok v w := by
  obtain ⟨-, ⟨rfl, -⟩ | ⟨g, cap, cur, rfl, hnc, -⟩⟩ := hO.row_cases
  · simp [Builtin.append_, run_underlying ht, sizeOf, typeInfo, hi, Builtin.lenOf, Builtin.firstCells]
  · simp [Builtin.append_, run_underlying ht, sizeOf, typeInfo, hi, Builtin.lenOf, Builtin.firstCells, hnc, storeCells]
theorem Has.appendAny {P : Program} (hO : Has w (row v e size n xs :: l)) (t ty : TypeId) {z : Value} {bytes : Nat} (ht : P.underlying t = some (.slice e)) (hi : (P.info? e).map (fun i => (i.zero, i.size, i.bytes)) = some (some z, size, bytes)) (hzs : z.cells.size = size) (hsz : 0 < size)
    (x : Value) (m : Nat) (ys : List Value) (hr : Rd w x size m ys) (h1 : ∀ u ∈ ys, u.oneCell' = true) (h63 : n + m ≤ maxLen) (hbytes : (n + m) * bytes ≤ 140737488355328) :
    ∃ v' w', (Builtin.append_ #[t, t] ty #[v, x]).run P w = .ok v' w' ∧ Has w' (row v' e size (n + m) (xs ++ ys) :: l) ∧ Keep w w' ∧ (v = .slice none 0 0 → m = 0 → v' = .slice none 0 0) := by
  obtain ⟨i, hi, hz, hs, hby⟩ := info_parts hi
  obtain ⟨hyl, hm, p, cap, rfl, -, hc⟩ := hr
  rcases p with _ | ad
  · have hm0 : m = 0 := by
      rcases Nat.eq_zero_or_pos m with h | h
      · exact h
      · obtain ⟨g, o, e, -⟩ := hc (Nat.mul_pos h hsz)
        cases e
    subst hm0
    have hy : ys = [] := List.eq_nil_of_length_eq_zero (by simpa using hyl)
    subst hy
    exact ⟨v, w, hO.appendNone t ty ht i hi cap, by simpa using hO, Keep.refl w, fun h _ => h⟩
  · obtain ⟨v', w', h2, h3, h4, h5⟩ := hO.append (P := P) t ty i z bytes ht hi hz hs hby hzs ad m cap ys hyl (by
      intro j y hj
      have hjl : j < m * size := by rw [← hyl]; exact (List.getElem?_eq_some_iff.1 hj).1
      obtain ⟨g, o, e2, hc2⟩ := hc (by omega)
      cases e2
      rw [add_plain, hc2 j hjl, hj]) h1 h63 hbytes
    exact ⟨v', w', h2, h3, h4, fun a b => h5.2 ⟨a, b⟩⟩
theorem wp_appendA {P : Program} {o : Oper} {a : Act} {K : Act → World → Prop} {Q : Exit → Act → World → Prop} (s x : Operand) (t : TypeId)
    (ho : o.op = .call { callee := .builtin .append, args := #[s, x], argTypes := #[t, t] })
    {z : Value} {bytes : Nat} (ht : P.underlying t = some (.slice e)) (hi : (P.info? e).map (fun i => (i.zero, i.size, i.bytes)) = some (some z, size, bytes)) (hzs : z.cells.size = size) (hsz : 0 < size)
    (hO : Has w (row v e size n xs :: l)) (hs : a.eval s = v) (xv : Value) (m : Nat) (ys : List Value) (hx : a.eval x = xv) (hr : Rd w xv size m ys) (h1 : ∀ u ∈ ys, u.oneCell' = true) (h63 : n + m ≤ maxLen) (hbytes : (n + m) * bytes ≤ 140737488355328)
    (h : ∀ v' w', Has w' (row v' e size (n + m) (xs ++ ys) :: l) → Keep w w' → K (a.put o.dst v') w') : o.wp P a w K Q := by
  obtain ⟨v', w', hrun, h2, h3, -⟩ := hO.appendAny (P := P) t o.type ht hi hzs hsz xv m ys hr h1 h63 hbytes
  unfold Oper.wp execOp
  simp only [ho, resolve, invoke, builtin, Sem.run_bind, Sem.run_pure, Result.andThen_ok, List.map_toArray, List.map_cons, List.map_nil, hs, hx, hrun]
  exact h v' w' h2 h3
theorem wpList_appendA {P : Program} {ops : Array Oper} {rest : List Oper} {o : Oper} {a : Act} {Q : Exit → Act → World → Prop} (hgd : o.guard = none) (s x : Operand) (t : TypeId)
    (ho : o.op = .call { callee := .builtin .append, args := #[s, x], argTypes := #[t, t] })
    {z : Value} {bytes : Nat} (ht : P.underlying t = some (.slice e)) (hi : (P.info? e).map (fun i => (i.zero, i.size, i.bytes)) = some (some z, size, bytes)) (hzs : z.cells.size = size) (hsz : 0 < size)
    (hO : Has w (row v e size n xs :: l)) (hs : a.eval s = v) (xv : Value) (m : Nat) (ys : List Value) (hx : a.eval x = xv) (hr : Rd w xv size m ys) (h1 : ∀ u ∈ ys, u.oneCell' = true) (h63 : n + m ≤ maxLen) (hbytes : (n + m) * bytes ≤ 140737488355328)
    (h : ∀ v' w', Has w' (row v' e size (n + m) (xs ++ ys) :: l) → Keep w w' → wpList P ops Q rest (a.put o.dst v') w') : wpList P ops Q (o :: rest) a w :=
  wpList_plain hgd fun _ hK => wp_appendA s x t ho ht hi hzs hsz hO hs xv m ys hx hr h1 h63 hbytes fun v' w' h2 h3 => hK _ _ (h v' w' h2 h3)
/-- .. where a guard says yes. -/
theorem wpList_appendG {P : Program} {ops : Array Oper} {rest : List Oper} {o : Oper} {a : Act} {Q : Exit → Act → World → Prop} (hw : Region.wanted o (yielded ops a.tmps) = true) (s x : Operand) (t : TypeId)
    (ho : o.op = .call { callee := .builtin .append, args := #[s, x], argTypes := #[t, t] })
    {z : Value} {bytes : Nat} (ht : P.underlying t = some (.slice e)) (hi : (P.info? e).map (fun i => (i.zero, i.size, i.bytes)) = some (some z, size, bytes)) (hzs : z.cells.size = size) (hsz : 0 < size)
    (hO : Has w (row v e size n xs :: l)) (hs : a.eval s = v) (xv : Value) (m : Nat) (ys : List Value) (hx : a.eval x = xv) (hr : Rd w xv size m ys) (h1 : ∀ u ∈ ys, u.oneCell' = true) (h63 : n + m ≤ maxLen) (hbytes : (n + m) * bytes ≤ 140737488355328)
    (h : ∀ v' w', Has w' (row v' e size (n + m) (xs ++ ys) :: l) → Keep w w' → wpList P ops Q rest (a.put o.dst v') w') : wpList P ops Q (o :: rest) a w :=
  wpList_step fun K hK => by
    rw [if_pos hw]
    exact wp_appendA s x t ho ht hi hzs hsz hO hs xv m ys hx hr h1 h63 hbytes fun v' w' h2 h3 => hK _ _ (h v' w' h2 h3)
end
end Go.Own
