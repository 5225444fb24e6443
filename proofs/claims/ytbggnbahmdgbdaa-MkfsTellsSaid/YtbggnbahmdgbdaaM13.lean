/- TEXTS of mine, merged. -/
import Derived.Test.YtbggnbahmdgbdaaM12
import Derived.Test.YtbggnbahmdgbdaaM5
import Derived.Test.YtbggnbahmdgbdaaM3
import Derived.Test.YtbggnbahmdgbdaaM11
import Derived.Test.YtbggnbahmdgbdaaM6
/- THE WALK of Write. -/
namespace Go.Proofs.Ytbggnbahmdgbdaa
open Go.RowKit Go.Own Go.Dk
theorem diskThereNil (at_ : Int) (w : World) : Calls Try.prog 46 #[.pointer none, .int .i64 at_] w fun e w' => e = .returned (.bool false) ∧ w = w' := by
  have H := hid (diskSectorsNil w)
  by_cases h0 : 0 ≤ at_
  · go_enter Try.func46, Try.ntmps46
    go_wp2_with fail
    refine H.out.mono ?_
    rintro e w' ⟨rfl, rfl⟩
    go_wp2_with fail
    go_ret
    exact ⟨by simp; omega, rfl⟩
  · go_enter Try.func46, Try.ntmps46
    go_wp2_with fail
    go_ret
    exact ⟨rfl, rfl⟩
/-- Refused. -/
theorem writeNot (d : Nat) (D : Disk) (at_ : Int) (b : Value) (xs : List Int) (x : Value) (w : World) (L : List HP) (hA : D.asked (D.there at_ && xs.length == 128) ≠ 0) (hb : Rd w b 1 xs.length (bc xs)) (hO : Has w (Dsk d D :: L)) :
    Calls Try.prog 18 #[.pointer (some ⟨d, 0, none⟩), .int .i64 at_, b] w fun e w' => e = .returned (.int .i64 (D.write at_ (x, xs)).1) ∧ Has w' (Dsk d (D.write at_ (x, xs)).2 :: L) ∧ Keep w w' := by
  obtain ⟨bp, bcap, rfl, -, -, -⟩ := hb.form
  have HT := hid (diskThere d D at_ w L hO)
  have H := hid (diskAsked d D (D.there at_ && xs.length == 128) w L hO)
  have HO := hid hO
  have HF := hid (show D.write at_ (x, xs) = (D.asked (D.there at_ && xs.length == 128), D) from if_pos hA)
  clear hO
  generalize D.asked (D.there at_ && xs.length == 128) = c at *
  rcases ht : D.there at_ with _ | _
  all_goals rw [ht] at H HT
  all_goals clear ht
  · rw [Bool.false_and] at H
    go_enter Try.func18, Try.ntmps18
    go_wp2_with (first
      | (go_at_call 46; refine HT.out.mono ?_; rintro e w' ⟨rfl, rfl⟩; dsimp only)
      | (go_at_call 45; refine H.out.mono ?_; rintro e w' ⟨rfl, rfl⟩; dsimp only))
    go_ret
    rw [HF.out]
    exact ⟨rfl, HO.out, Keep.refl _⟩
  · rw [Bool.true_and] at H
    by_cases hl : xs.length = 128
    · rw [hl] at H
      have hl' : (xs.length : Int) = 128 := by omega
      go_enter Try.func18, Try.ntmps18
      go_wp2_with (first
        | (go_at_call 46; refine HT.out.mono ?_; rintro e w' ⟨rfl, rfl⟩; dsimp only)
        | (go_at_call 45; refine H.out.mono ?_; rintro e w' ⟨rfl, rfl⟩; dsimp only))
      go_ret
      rw [HF.out]
      exact ⟨rfl, HO.out, Keep.refl _⟩
    · rw [show (xs.length == 128) = false from by simpa using hl] at H
      have hl' : ((xs.length : Int) == 128) = false := by simp; omega
      go_enter Try.func18, Try.ntmps18
      go_wp2_with (first
        | (go_at_call 46; refine HT.out.mono ?_; rintro e w' ⟨rfl, rfl⟩; dsimp only)
        | (go_at_call 45; refine H.out.mono ?_; rintro e w' ⟨rfl, rfl⟩; dsimp only))
      go_ret
      rw [HF.out]
      exact ⟨rfl, HO.out, Keep.refl _⟩
/-- The power goes. -/
theorem writeFalls (d : Nat) (D : Disk) (at_ : Int) (b : Value) (xs : List Int) (x : Value) (w : World) (L : List HP) (ht : D.there at_ = true) (hl : xs.length = 128) (hA : D.asked true = 0) (hf : D.falls.1 = true) (hb : Rd w b 1 xs.length (bc xs)) (hO : Has w (Dsk d D :: L)) :
    Calls Try.prog 18 #[.pointer (some ⟨d, 0, none⟩), .int .i64 at_, b] w fun e w' => e = .returned (.int .i64 (D.write at_ (x, xs)).1) ∧ Has w' (Dsk d (D.write at_ (x, xs)).2 :: L) ∧ Keep w w' := by
  obtain ⟨bp, bcap, rfl, -, -, -⟩ := hb.form
  have HT := hid (diskThere d D at_ w L hO)
  have H := hid (diskAsked d D true w L hO)
  have H2 := hid (diskFalls d D w L hO)
  have HF := hid (show D.write at_ (x, xs) = (4, D.falls.2) from by simp [Disk.write, ht, hl, hA, hf])
  rw [hA] at H
  rw [hf] at H2
  rw [ht] at HT
  have hl' : (xs.length : Int) = 128 := by omega
  clear hO hA hf ht hb
  go_enter Try.func18, Try.ntmps18
  go_wp2_with (first
    | (go_at_call 46; refine HT.out.mono ?_; rintro e w' ⟨rfl, rfl⟩; dsimp only)
    | (go_at_call 45; refine H.out.mono ?_; rintro e w' ⟨rfl, rfl⟩; dsimp only)
    | (go_at_call 47; refine H2.out.mono ?_; rintro e w' ⟨rfl, h, hK⟩; dsimp only))
  go_ret
  rw [HF.out]
  exact ⟨rfl, h, hK⟩
theorem infoWr : (Try.prog.info? 79).map (fun i => (i.zero, i.size, i.bytes)) = some (some (.agg #[.int .i64 0, .slice none 0 0]), 2, 32) := by kernel_rfl
theorem falls_firm {D E : Disk} (hf : D.falls = (false, E)) : E.firm = D.firm := by
  unfold Disk.falls at hf
  split at hf
  · cases hf; rfl
  · split at hf <;> cases hf; rfl
theorem okWrite {B : List Txt} {D : Disk} (h : Ok B D) (at_ : Int) (x : Txt) (ws : List Int) (ha : 0 ≤ at_ ∧ at_ < D.firm.length) (hl : x.2.length = 128) : Ok (x :: B) { D with waits := D.waits ++ [(at_, x)], writes := ws } where
  firm := fun y hy => List.mem_cons_of_mem _ (h.firm y hy)
  waits := fun y hy => by
    rcases List.mem_append.1 hy with h1 | h1
    · exact List.mem_cons_of_mem _ (h.waits y h1)
    · rw [List.mem_singleton.1 h1]; exact List.mem_cons_self
  at_ := fun y hy => by
    rcases List.mem_append.1 hy with h1 | h1
    · exact h.at_ y h1
    · rw [List.mem_singleton.1 h1]; exact ha
  len := h.len
  wlen := fun y hy => by
    rcases List.mem_append.1 hy with h1 | h1
    · exact h.wlen y h1
    · rw [List.mem_singleton.1 h1]; exact hl
  left := h.left
/-- The write waits. -/
theorem writeGo (d : Nat) (D E : Disk) (at_ : Int) (b : Value) (xs : List Int) (w : World) (L : List HP) (ht : D.there at_ = true) (hl : xs.length = 128) (hA : D.asked true = 0) (hf : D.falls = (false, E)) (hw : E.waits.length ≤ 1000000000) (hw2 : E.writes.length ≤ 1000000000) (hL : ∀ w', Has w' L → Rd w' b 1 xs.length (bc xs)) (hO : Has w (Dsk d D :: L)) :
    Calls Try.prog 18 #[.pointer (some ⟨d, 0, none⟩), .int .i64 at_, b] w fun e w' => ∃ x, e = .returned (.int .i64 (D.write at_ (x, xs)).1) ∧ Has w' (Dsk d (D.write at_ (x, xs)).2 :: L) ∧ Keep w w' := by
  have hb := hL _ hO.drop
  obtain ⟨bp, bcap, rfl, -, -, -⟩ := hb.form
  have HL := hid hL
  have HT := hid (diskThere d D at_ w L hO)
  have H := hid (diskAsked d D true w L hO)
  have H2 : Hid (Calls Try.prog 47 #[.pointer (some ⟨d, 0, none⟩)] w fun e w' => e = .returned (.bool false) ∧ Has w' (Dsk d E :: L) ∧ Keep w w') := by
    have := diskFalls d D w L hO
    rw [hf] at this
    exact hid this
  have HF := hid (fun x => show D.write at_ (x, xs) = (0, { E with waits := E.waits ++ [(at_, (x, xs))], writes := E.writes ++ [at_] }) from by simp [Disk.write, ht, hl, hA, hf])
  have HTh := hid (show 0 ≤ at_ ∧ at_ < E.firm.length from by rw [falls_firm hf]; simpa [Disk.there] using ht)
  rw [hA] at H
  rw [ht] at HT
  have hl' : (xs.length : Int) = 128 := by omega
  clear hO hA hf ht hb hL
  go_enter Try.func18, Try.ntmps18
  go_wp2_with (first
    | (go_at_call 46; refine HT.out.mono ?_; rintro e w' ⟨rfl, rfl⟩; dsimp only)
    | (go_at_call 45; refine H.out.mono ?_; rintro e w' ⟨rfl, rfl⟩; dsimp only)
    | (go_at_call 47; refine H2.out.mono ?_; rintro e w' ⟨rfl, h, hK⟩; dsimp only))
  clear H H2 HT
  obtain ⟨fv, wv, av, lv, B, hok, hO⟩ := dsk_iff.1 h.drew
  have hrd := HL.out _ h.drop.drew
  rw [hl] at hrd
  obtain ⟨F, W, on, ar, ws, fl⟩ := E
  simp only at hO hw hw2
  have H3 := hid (cloneBytes (.slice bp 128 bcap) xs w'.drew _ hO (by rw [hl]; exact hrd) (by omega))
  have HK := hid hK.drew
  have Hok := hid hok
  have hc := hO.cells
  refine region_tail1 (fun w => w.cell? ⟨d, 1, none⟩ = some wv) (by kernel_rfl) (by kernel_rfl) (by kernel_rfl) (by decide) (hc 1) ?_
  clear hc hO h hok hrd hK
  repeat (first
    | (refine wpL_read (by rfl) (by rfl) ?_ ?_ ?_; rotate_left; (intro w hS; go_simp; with_reducible rfl); simp only [Act.put, List.setIfInBounds_toArray, List.set_cons_zero, List.set_cons_succ]) | (refine wpL_skip (by rfl) ?_; simp only [Act.put, List.setIfInBounds_toArray, List.set_cons_zero, List.set_cons_succ]))
  refine wpL_act (by rfl) (by rfl) (fun K hK => ?_)
  go_simp
  go_at_call 48
  refine H3.out.mono ?_
  rintro e w2 ⟨v', rfl, h2, hk2, -⟩
  dsimp only
  have HO2 := hid h2
  have HK2 := hid (HK.out.trans hk2)
  clear h2 hk2 H3 HK
  refine hK.out _ _ (HO2.out.p1.cells 1) ?_
  clear hK K
  try simp only [Act.put, List.setIfInBounds_toArray, List.set_cons_zero, List.set_cons_succ]
  obtain ⟨vp, vc, rfl, -⟩ := HO2.out.rd.form
  rw [hl]
  repeat (first
    | (refine wpL_read (by rfl) (by rfl) ?_ ?_ ?_; rotate_left; (intro w hS; go_simp; with_reducible rfl); simp only [Act.put, List.setIfInBounds_toArray, List.set_cons_zero, List.set_cons_succ]) | (refine wpL_skip (by rfl) ?_; simp only [Act.put, List.setIfInBounds_toArray, List.set_cons_zero, List.set_cons_succ]))
  refine wpL_act (by rfl) (by rfl) (fun K hK => ?_)
  go_simp
  have HO3 := hid (HO2.out.alloc (.cells #[.int .i64 at_, .slice vp 128 vc] 79))
  have HK3 := hid (HK2.out.alloc (.cells #[.int .i64 at_, .slice vp 128 vc] 79))
  have hb2 : w2.heap.size = w2.heap.size := rfl
  generalize w2.heap.size = b2 at HO3 HK3 ⊢
  refine hK.out _ _ (HO3.out.p2.cells 1) ?_
  clear hK K
  try simp only [Act.put, List.setIfInBounds_toArray, List.set_cons_zero, List.set_cons_succ]
  generalize w2.alloc (.cells #[.int .i64 at_, .slice vp 128 vc] 79) = w3 at *
  refine wpL_act (by rfl) (by rfl) (fun K hK => ?_)
  refine wp_append1 (.tmp 27) (.tmp 32) 71 rfl Try.underlying71 infoWr rfl [.int .i64 at_, .slice vp 128 vc] rfl HO3.out.p4 (by rfl) 1 b2 (by rfl) (fun j => by simpa using HO3.out.cells j) (by simp [Value.oneCell']) (le_maxLen (by omega)) (by omega) fun v' w' h2 h3 => ?_
  obtain ⟨np, nc, rfl, -⟩ := h2.rd.form
  have HO4 := hid h2
  have HK4 := hid (HK3.out.trans h3)
  clear h2 h3 HO3 HK3 HO2 HK2
  refine hK.out _ _ (HO4.out.p3.cells 1) ?_
  clear hK K
  try simp only [Act.put, List.setIfInBounds_toArray, List.set_cons_zero, List.set_cons_succ]
  repeat (first
    | (refine wpL_read (by rfl) (by rfl) ?_ ?_ ?_; rotate_left; (intro w hS; go_simp; with_reducible rfl); simp only [Act.put, List.setIfInBounds_toArray, List.set_cons_zero, List.set_cons_succ]) | (refine wpL_skip (by rfl) ?_; simp only [Act.put, List.setIfInBounds_toArray, List.set_cons_zero, List.set_cons_succ]))
  refine wpL_nil ?_
  refine wpOp_last rfl (by rfl) ?_
  have ht := HO4.out.p3.thaw
  have hc := HO4.out.p3.cells
  go_simp
  have HO5 := hid (HO4.out.p3.set 1 (.slice np (W.length + 1) nc))
  have HK5 := hid (HK4.out.set ⟨d, 1, none⟩ (.slice np (W.length + 1) nc))
  clear HO4 HK4 ht hc
  generalize World.setCell _ ⟨d, 1, none⟩ (.slice np (W.length + 1) nc) = w5 at HO5 HK5 ⊢
  have hc := HO5.out.cells
  have ht := HO5.out.thaw
  go_wp2_with (at_builtin; refine wpList_append1 rfl _ _ _ rfl Try.underlying30 infoInt rfl (.int .i64 at_) (HO5.out.p6.alloc' _) rfl 1 _ rfl (by simp) rfl (le_maxLen (by omega)) (by omega) ?_)
  intro v6 w6 h6 hk6
  obtain ⟨lp, lc, rfl, -⟩ := h6.rd.form
  have HO6 := hid h6.p1
  have HK6 := hid ((HK5.out.alloc _).trans hk6)
  clear h6 hk6 hc ht HO5 HK5
  have hc := HO6.out.cells
  have ht := HO6.out.thaw
  go_wp2_with fail
  go_ret
  refine ⟨.slice vp 128 vc, ?_⟩
  rw [HF.out]
  refine ⟨rfl, dsk_iff.2 ⟨fv, .slice np (W.length + 1) nc, av, .slice lp (ws.length + 1) lc, (.slice vp 128 vc, xs) :: B, ?_, ?_⟩, HK6.out.set _ _⟩
  · exact okWrite Hok.out at_ (.slice vp 128 vc, xs) (ws ++ [at_]) HTh.out hl
  · have h := HO6.out.set 4 (.slice lp (ws.length + 1) lc)
    have h1 := h.p3.drop.p6.p4
    rw [show (128 : Nat) = xs.length from hl.symm] at h1
    have h2 := h1.pool_add.b5.p1.b4.p1.b2
    rw [hl] at h2
    have e1 : wenc W ++ [.int .i64 at_, .slice vp 128 vc] = wenc (W ++ [(at_, (.slice vp 128 vc, xs))]) := by simp [wenc]
    have e2 : W.length + 1 = (W ++ [(at_, ((.slice vp 128 vc : Value), xs))]).length := by simp
    have e3 : ic ws ++ [.int .i64 at_] = ic (ws ++ [at_]) := (ic_snoc _ _).symm
    have e4 : ws.length + 1 = (ws ++ [at_]).length := by simp
    rw [e1, e3] at h2
    generalize Value.slice np (W.length + 1) nc = v1 at h2 ⊢
    generalize Value.slice lp (ws.length + 1) lc = v2 at h2 ⊢
    rw [e2, e4] at h2
    exact h2
theorem diskWrite (d : Nat) (D : Disk) (at_ : Int) (b : Value) (xs : List Int) (w : World) (L : List HP) (hw : D.waits.length ≤ 1000000000) (hw2 : D.writes.length ≤ 1000000000) (hL : ∀ w', Has w' L → Rd w' b 1 xs.length (bc xs)) (hO : Has w (Dsk d D :: L)) :
    Calls Try.prog 18 #[.pointer (some ⟨d, 0, none⟩), .int .i64 at_, b] w fun e w' => ∃ x, e = .returned (.int .i64 (D.write at_ (x, xs)).1) ∧ Has w' (Dsk d (D.write at_ (x, xs)).2 :: L) ∧ Keep w w' := by
  by_cases hA : D.asked (D.there at_ && xs.length == 128) = 0
  · have hg : (D.there at_ && xs.length == 128) = true := by
      cases h : (D.there at_ && xs.length == 128)
      · rw [h] at hA
        unfold Disk.asked at hA
        split at hA <;> simp at hA
      · rfl
    have hl : xs.length = 128 := by have := (Bool.and_eq_true_iff.1 hg).2; simpa using this
    have ht := (Bool.and_eq_true_iff.1 hg).1
    rw [hg] at hA
    rcases hf : D.falls with ⟨c, E⟩
    cases c
    · have hE : E.waits = D.waits ∧ E.writes = D.writes := by
        unfold Disk.falls at hf
        split at hf
        · cases hf; exact ⟨rfl, rfl⟩
        · split at hf <;> cases hf; exact ⟨rfl, rfl⟩
      exact writeGo d D E at_ b xs w L ht hl hA hf (by rw [hE.1]; exact hw) (by rw [hE.2]; exact hw2) hL hO
    · exact (writeFalls d D at_ b xs (.slice none 0 0) w L ht hl hA (by rw [hf]) (hL _ hO.drop) hO).mono fun e w' h => ⟨_, h⟩
  · exact (writeNot d D at_ b xs (.slice none 0 0) w L hA (hL _ hO.drop) hO).mono fun e w' h => ⟨_, h⟩
end Go.Proofs.Ytbggnbahmdgbdaa
/- THE WALKS of what the statements share on lists of numbers. -/
namespace Go.Proofs.Ytbggnbahmdgbdaa
open Go.RowKit Go.Own
end Go.Proofs.Ytbggnbahmdgbdaa
/- THE WALKS of slices.Clone. -/
namespace Go.Proofs.Ytbggnbahmdgbdaa
open Go.RowKit Go.Own
end Go.Proofs.Ytbggnbahmdgbdaa
/- THE WALKS of Writes, Waiting. -/
namespace Go.Proofs.Ytbggnbahmdgbdaa
open Go.RowKit Go.Own Go.Dk
end Go.Proofs.Ytbggnbahmdgbdaa
/- THE PLAIN LAW OF A DISK, its bytes alone. -/
namespace Go.Dk
open Go.Own
structure Bk where
  firm : List (List Int)
  waits : List (Int × List Int)
  on : Bool
  armed : Option (Int × List Bool)
  writes : List Int
  flushes : Int
def Disk.bk (D : Disk) : Bk := ⟨D.firm.map (·.2), D.waits.map fun x => (x.1, x.2.2), D.on, D.armed, D.writes, D.flushes⟩
def blay (F : List (List Int)) (x : Int × List Int) : List (List Int) := F.set x.1.toNat x.2
def blayAll (F : List (List Int)) (W : List (Int × List Int)) : List (List Int) := W.foldl blay F
def blayKept (keep : List Bool) (F : List (List Int)) (W : List (Int × List Int)) : List (List Int) := W.zipIdx.foldl (fun F x => if kept keep x.2 then blay F x.1 else F) F
def Bk.crash (D : Bk) (keep : List Bool) : Bk := { D with firm := blayKept keep D.firm D.waits, waits := [], armed := none, on := false }
def Bk.falls (D : Bk) : Bool × Bk :=
  match D.armed with
  | none => (false, D)
  | some (n, k) => if 0 < n then (false, { D with armed := some (n - 1, k) }) else (true, D.crash k)
def Bk.there (D : Bk) (at_ : Int) : Bool := decide (0 ≤ at_) && decide (at_ < D.firm.length)
def Bk.asked (D : Bk) (good : Bool) : Int := if D.on then (if good then 0 else 2) else 4
def Bk.write (D : Bk) (at_ : Int) (x : List Int) : Int × Bk :=
  if D.asked (D.there at_ && x.length == 128) ≠ 0 then (D.asked (D.there at_ && x.length == 128), D)
  else if D.falls.1 then (4, D.falls.2)
  else (0, { D.falls.2 with waits := D.falls.2.waits ++ [(at_, x)], writes := D.falls.2.writes ++ [at_] })
def Bk.flush (D : Bk) : Int × Bk :=
  if D.asked true ≠ 0 then (D.asked true, D)
  else if D.falls.1 then (4, D.falls.2)
  else (0, { D.falls.2 with firm := blayAll D.falls.2.firm D.falls.2.waits, waits := [], flushes := D.falls.2.flushes + 1 })
def Bk.arm (D : Bk) (after : Int) (keep : List Bool) : Int × Bk :=
  if D.asked (decide (0 ≤ after)) ≠ 0 then (D.asked (decide (0 ≤ after)), D) else (0, { D with armed := some (after, keep) })
def Bk.boot (D : Bk) : Int × Bk := if D.on then (19, D) else (0, { D with on := true })
def Bk.last (D : Bk) (at_ : Int) : List Int :=
  match D.waits.reverse.find? (fun x => x.1 == at_) with
  | some x => x.2
  | none => D.firm.getD at_.toNat []
def Bk.read (D : Bk) (at_ : Int) : Int × List Int := if D.asked (D.there at_) ≠ 0 then (D.asked (D.there at_), []) else (0, D.last at_)
def zer : List Int := List.replicate 128 0
def Bk.zero (n : Nat) : Bk := ⟨List.replicate n zer, [], true, none, [], 0⟩
theorem bk_lay (F : List Txt) (x : Int × Txt) : (lay F x).map (·.2) = blay (F.map (·.2)) (x.1, x.2.2) := by simp [lay, blay, List.map_set]
theorem bk_layAll (F : List Txt) (W : List (Int × Txt)) : (layAll F W).map (·.2) = blayAll (F.map (·.2)) (W.map fun x => (x.1, x.2.2)) := by
  unfold layAll blayAll
  induction W generalizing F with
  | nil => rfl
  | cons x W ih => rw [List.foldl_cons, ih, bk_lay]; rfl
theorem bk_layKept (keep : List Bool) (F : List Txt) (W : List (Int × Txt)) : (layKept keep F W).map (·.2) = blayKept keep (F.map (·.2)) (W.map fun x => (x.1, x.2.2)) := by
  unfold layKept blayKept
  rw [List.zipIdx_map]
  generalize W.zipIdx = Z
  induction Z generalizing F with
  | nil => rfl
  | cons x Z ih =>
    rw [List.map_cons, List.foldl_cons, List.foldl_cons, ih]
    congr 1
    show _ = if kept keep x.2 then _ else _
    by_cases h : kept keep x.2 <;> simp [h, bk_lay]
theorem bk_crash (D : Disk) (keep : List Bool) : (D.crash keep).bk = D.bk.crash keep := by simp [Disk.crash, Bk.crash, Disk.bk, bk_layKept]
theorem bk_falls (D : Disk) : D.bk.falls = (D.falls.1, D.falls.2.bk) := by
  unfold Bk.falls Disk.falls
  show (match D.armed with | none => _ | some (n, k) => _) = _
  rcases h : D.armed with _ | ⟨n, k⟩
  · rfl
  · by_cases hn : 0 < n
    · simp only [hn, if_true]; rfl
    · simp only [hn, if_false, bk_crash]
theorem bk_there (D : Disk) (x : Int) : D.bk.there x = D.there x := by simp [Bk.there, Disk.there, Disk.bk]
theorem bk_asked (D : Disk) (b : Bool) : D.bk.asked b = D.asked b := rfl
theorem bk_write (D : Disk) (at_ : Int) (x : Txt) : D.bk.write at_ x.2 = ((D.write at_ x).1, (D.write at_ x).2.bk) := by
  unfold Bk.write Disk.write
  rw [bk_there, bk_asked, bk_falls]
  split
  · rfl
  · dsimp only
    split
    · rfl
    · simp [Disk.bk]
theorem bk_flush (D : Disk) : D.bk.flush = (D.flush.1, D.flush.2.bk) := by
  unfold Bk.flush Disk.flush
  rw [bk_asked, bk_falls]
  split
  · rfl
  · dsimp only
    split
    · rfl
    · simp [Disk.bk, bk_layAll]
theorem bk_arm (D : Disk) (n : Int) (k : List Bool) : D.bk.arm n k = ((D.arm n k).1, (D.arm n k).2.bk) := by
  unfold Bk.arm Disk.arm
  rw [bk_asked]
  split <;> rfl
theorem bk_boot (D : Disk) : D.bk.boot = (D.boot.1, D.boot.2.bk) := by
  unfold Bk.boot Disk.boot
  show (if D.on then _ else _) = _
  split <;> rfl
theorem bk_last (D : Disk) (x : Int) : D.bk.last x = (D.last x).2 := by
  unfold Bk.last Disk.last
  show (match (D.waits.map fun x => (x.1, x.2.2)).reverse.find? _ with | some x => _ | none => _) = _
  rw [← List.map_reverse, List.find?_map]
  have e : ((fun y : Int × List Int => y.1 == x) ∘ fun y : Int × Txt => (y.1, y.2.2)) = fun y => y.1 == x := rfl
  rw [e]
  generalize D.waits.reverse.find? (fun y => y.1 == x) = o
  cases o with
  | none =>
    simp only [Option.map_none, Disk.bk, List.getD_eq_getElem?_getD, List.getElem?_map]
    cases D.firm[x.toNat]? <;> rfl
  | some y => rfl
/-! ### What a disk in order does -/
theorem blay_len (F : List (List Int)) (x : Int × List Int) : (blay F x).length = F.length := by simp [blay]
theorem blayAll_len (F : List (List Int)) (W : List (Int × List Int)) : (blayAll F W).length = F.length := by
  unfold blayAll
  induction W generalizing F with
  | nil => rfl
  | cons x W ih => rw [List.foldl_cons, ih, blay_len]
theorem blayKept_len (keep : List Bool) (F : List (List Int)) (W : List (Int × List Int)) : (blayKept keep F W).length = F.length := by
  unfold blayKept
  generalize W.zipIdx = Z
  induction Z generalizing F with
  | nil => rfl
  | cons x Z ih =>
    rw [List.foldl_cons, ih]
    split
    · rw [blay_len]
    · rfl
theorem blayKept_snoc (keep : List Bool) (F : List (List Int)) (W : List (Int × List Int)) (x : Int × List Int) : blayKept keep F (W ++ [x]) = if kept keep W.length then blay (blayKept keep F W) x else blayKept keep F W := by
  simp [blayKept, List.zipIdx_append]
theorem blayAll_snoc (F : List (List Int)) (W : List (Int × List Int)) (x : Int × List Int) : blayAll F (W ++ [x]) = blay (blayAll F W) x := by simp [blayAll]
theorem blayKept_nil (F : List (List Int)) (W : List (Int × List Int)) : blayKept [] F W = F := by
  unfold blayKept
  generalize W.zipIdx = Z
  induction Z generalizing F with
  | nil => rfl
  | cons x Z ih => rw [List.foldl_cons]; simpa [kept] using ih F
theorem Bk.write_ok {D : Bk} (h1 : D.on = true) (h2 : D.armed = none) {a : Int} (h3 : 0 ≤ a) (h4 : a < D.firm.length) {x : List Int} (h5 : x.length = 128) :
    D.write a x = (0, { D with waits := D.waits ++ [(a, x)], writes := D.writes ++ [a] }) := by
  simp [Bk.write, Bk.asked, Bk.there, Bk.falls, h1, h2, h3, h4, h5]
theorem Bk.flush_ok {D : Bk} (h1 : D.on = true) (h2 : D.armed = none) : D.flush = (0, { D with firm := blayAll D.firm D.waits, waits := [], flushes := D.flushes + 1 }) := by
  simp [Bk.flush, Bk.asked, Bk.falls, h1, h2]
theorem Bk.read_ok {D : Bk} (h1 : D.on = true) {a : Int} (h3 : 0 ≤ a) (h4 : a < D.firm.length) : D.read a = (0, D.last a) := by
  simp [Bk.read, Bk.asked, Bk.there, h1, h3, h4]
theorem Bk.read_off {D : Bk} (h1 : D.on = false) (a : Int) : D.read a = (4, []) := by simp [Bk.read, Bk.asked, h1]
theorem Bk.last_firm {D : Bk} (h : D.waits = []) (a : Int) : D.last a = D.firm.getD a.toNat [] := by simp [Bk.last, h]
theorem Bk.last_snoc (F : List (List Int)) (W : List (Int × List Int)) (on : Bool) (ar : Option (Int × List Bool)) (ws : List Int) (fl : Int) (x : Int × List Int) (a : Int) : (Bk.mk F (W ++ [x]) on ar ws fl).last a = if x.1 = a then x.2 else (Bk.mk F W on ar ws fl).last a := by
  unfold Bk.last
  simp only [List.reverse_append, List.reverse_cons, List.reverse_nil, List.nil_append, List.cons_append, List.find?_cons]
  by_cases h : x.1 = a
  · simp [h]
  · have : (x.1 == a) = false := by simpa using h
    simp [this, h]
end Go.Dk
/- THE WALK of disk.New. -/
namespace Go.Proofs.Ytbggnbahmdgbdaa
open Go.RowKit Go.Own Go.Dk
def zeros128 : Array Value := (List.replicate 128 (Value.int .u8 0)).toArray
theorem make128 (w : World) : (Instr.makeSlice 35 (.int .i64 128) (.int .i64 128)).run Try.prog w = .ok (.slice (some ⟨w.heap.size, 0, none⟩) 128 128) (w.alloc (.cells zeros128 5)) :=
  run_make_row w _ Try.underlying35 infoU8 rfl .i64 .i64 128 (by omega) (le_maxLen (by omega))
theorem made128 {w : World} {L : List HP} (h : Has w L) : Has (w.alloc (.cells zeros128 5)) (row (.slice (some ⟨w.heap.size, 0, none⟩) 128 128) 5 1 zer.length (bc zer) :: L) := by
  have := h.row_made (e := 5) (k := 128) (z := .int .u8 0) (le_maxLen (by omega))
  exact this
theorem diskNewNil (n : Int) (w : World) (h : n < 1 ∨ 2048 < n) : Calls Try.prog 17 #[.int .i64 n] w fun e w' => e = .returned (.pointer none) ∧ w = w' := by
  rcases h with h | h
  · go_enter Try.func17, Try.ntmps17
    go_wp2
    go_ret
    exact ⟨rfl, rfl⟩
  · have h' : ¬ n < 1 := by omega
    go_enter Try.func17, Try.ntmps17
    go_wp2
    go_ret
    exact ⟨rfl, rfl⟩
set_option maxHeartbeats 1000000 in
theorem diskNew1 (n : Nat) (W : World) (L : List HP) (h1 : 1 ≤ n) (h2 : n ≤ 2048) (hO : Has W L) :
    Calls Try.prog 17 #[.int .i64 (n : Int)] W fun e w' => ∃ (d : Nat) (fv : Value) (F : List Txt), e = .returned (.pointer (some ⟨d, 0, none⟩)) ∧ F.length = n ∧ (∀ x ∈ F, x.2 = zer) ∧ Has w' (pt d (.cells #[fv, .slice none 0 0, .bool true, .pointer none, .slice none 0 0, .int .i64 0] 74) :: row fv 35 1 n (F.map (·.1)) :: poolc 5 F :: L) ∧ Keep W w' := by
  have HO := hid hO
  clear hO
  go_enter Try.func17, Try.ntmps17
  go_wp2_with fail
  have HN := hid (HO.out.alloc (.cells #[.slice none 0 0, .slice none 0 0, .bool true, .pointer none, .slice none 0 0, .int .i64 0] 74))
  have HK0 := hid ((Keep.refl W).alloc (.cells #[.slice none 0 0, .slice none 0 0, .bool true, .pointer none, .slice none 0 0, .int .i64 0] 74))
  generalize W.heap.size = d at *
  go_loopw [13] (fun i w => ∃ k : Nat, k ≤ n ∧ i = .int .i64 k ∧ Hid (∃ (fv : Value) (F : List Txt), F.length = k ∧ (∀ x ∈ F, x.2 = zer) ∧ Has w (pt d (.cells #[fv, .slice none 0 0, .bool true, .pointer none, .slice none 0 0, .int .i64 0] 74) :: row fv 35 1 k (F.map (·.1)) :: poolc 5 F :: L)) ∧ Hid (Keep W w)) (fun i _ => n - (intOf i).toNat)
  case atStart => exact ⟨0, by omega, rfl, hid ⟨.slice none 0 0, [], rfl, by simp, (HN.out.pool_nil.row_nil _ _).p2⟩, HK0⟩
  case round =>
    obtain ⟨k, hk, rfl, HY, HK⟩ := hrel
    obtain ⟨fv, F, hF, hz, hO⟩ := HY.out
    by_cases hlt : k < n
    · have hc := hO.cells
      have ht := hO.thaw
      have HO1 := hid hO
      have HF := hid hF
      have HZ := hid hz
      clear hO hF hz
      go_wp2_with fail
      refine region_tail1 (fun w => w.cell? ⟨d, 0, none⟩ = some fv) (by kernel_rfl) (by kernel_rfl) (by kernel_rfl) (by decide) (HO1.out.drew.cells 0) ?_
      repeat (first
        | (refine wpL_read (by rfl) (by rfl) ?_ ?_ ?_; rotate_left; (intro w hS; go_simp; with_reducible rfl); simp only [Act.put, List.setIfInBounds_toArray, List.set_cons_zero, List.set_cons_succ]) | (refine wpL_skip (by rfl) ?_; simp only [Act.put, List.setIfInBounds_toArray, List.set_cons_zero, List.set_cons_succ]))
      refine wpL_act (by rfl) (by rfl) (fun K hK => ?_)
      go_simp
      rw [make128]
      go_simp
      have HO2 := hid (made128 HO1.out).drew
      generalize wr.heap.size = b at *
      refine hK.out _ _ (HO2.out.p1.cells 0) ?_
      clear hK K
      try simp only [Act.put, List.setIfInBounds_toArray, List.set_cons_zero, List.set_cons_succ]
      have HK2 := hid ((HK.out.alloc (.cells zeros128 5)).drew)
      clear HO1 HK hc ht HN HO
      generalize (wr.alloc (.cells zeros128 5)).drew = w2 at *
      refine wpL_act (by rfl) (by rfl) (fun K hK => ?_)
      go_simp
      have HO3 := hid (HO2.out.alloc (.cells #[.slice (some ⟨b, 0, none⟩) 128 128] 35))
      have HK3 := hid (HK2.out.alloc (.cells #[.slice (some ⟨b, 0, none⟩) 128 128] 35))
      generalize w2.heap.size = b2 at *
      refine hK.out _ _ (HO3.out.p2.cells 0) ?_
      clear hK K
      try simp only [Act.put, List.setIfInBounds_toArray, List.set_cons_zero, List.set_cons_succ]
      generalize w2.alloc (.cells #[.slice (some ⟨b, 0, none⟩) 128 128] 35) = w3 at *
      refine wpL_act (by rfl) (by rfl) (fun K hK => ?_)
      refine wp_append1 (.tmp 19) (.tmp 21) 31 rfl Try.underlying31 infoBs rfl [.slice (some ⟨b, 0, none⟩) 128 128] rfl HO3.out.p3 (by rfl) 1 b2 (by rfl) (fun j => by simpa using HO3.out.cells j) (by simp [Value.oneCell']) (le_maxLen (by omega)) (by omega) fun v' w' h2 h3 => ?_
      obtain ⟨vp, vc, rfl, -⟩ := h2.rd.form
      have HO4 := hid h2
      have HK4 := hid (HK3.out.trans h3)
      clear h2 h3 HO3 HK3 HO2 HK2
      refine hK.out _ _ (HO4.out.p3.cells 0) ?_
      clear hK K
      try simp only [Act.put, List.setIfInBounds_toArray, List.set_cons_zero, List.set_cons_succ]
      repeat (first
        | (refine wpL_read (by rfl) (by rfl) ?_ ?_ ?_; rotate_left; (intro w hS; go_simp; with_reducible rfl); simp only [Act.put, List.setIfInBounds_toArray, List.set_cons_zero, List.set_cons_succ]) | (refine wpL_skip (by rfl) ?_; simp only [Act.put, List.setIfInBounds_toArray, List.set_cons_zero, List.set_cons_succ]))
      refine wpL_nil ?_
      refine wpOp_last rfl (by rfl) ?_
      have ht := HO4.out.p3.thaw
      have hc := HO4.out.p3.cells
      go_simp
      have HO5 := hid (HO4.out.p3.set 0 (.slice vp (k + 1) vc))
      have HK5 := hid (HK4.out.set ⟨d, 0, none⟩ (.slice vp (k + 1) vc))
      clear HO4 HK4 ht hc
      go_wp2_with fail
      refine ⟨⟨k + 1, by omega, rfl, hid ⟨.slice vp (k + 1) vc, F ++ [(.slice (some ⟨b, 0, none⟩) 128 128, zer)], ?_, ?_, ?_⟩, HK5⟩, ?_⟩
      · rw [List.length_append, HF.out]; rfl
      · intro x hx
        rcases List.mem_append.1 hx with h | h
        · exact HZ.out x h
        · rw [List.mem_singleton.1 h]
      · rw [List.map_append]
        exact HO5.out.p2.drop.p2.p3.p1.pool_snoc.b2
      · simp only [intOf]; omega
    · have hc := hO.cells
      have ht := hO.thaw
      have e : k = n := by omega
      subst e
      have HO1 := hid hO
      have HF := hid hF
      have HZ := hid hz
      clear hO hF hz
      go_wp2_with fail
      go_ret
      exact ⟨d, fv, F, rfl, HF.out, HZ.out, HO1.out, HK.out⟩
theorem diskNew (n : Nat) (W : World) (L : List HP) (h1 : 1 ≤ n) (h2 : n ≤ 2048) (hO : Has W L) :
    Calls Try.prog 17 #[.int .i64 (n : Int)] W fun e w' => ∃ d F, e = .returned (.pointer (some ⟨d, 0, none⟩)) ∧ F.length = n ∧ (∀ x ∈ F, x.2 = zer) ∧ Has w' (Dsk d ⟨F, [], true, none, [], 0⟩ :: L) ∧ Keep W w' := by
  refine (diskNew1 n W L h1 h2 hO).mono ?_
  rintro e w' ⟨d, fv, F, he, hF, hz, h, hK⟩
  refine ⟨d, F, he, hF, hz, dsk_iff.2 ⟨fv, .slice none 0 0, .pointer none, .slice none 0 0, F, ⟨fun _ h => h, by simp, by simp, fun x hx => by rw [hz x hx]; rfl, by simp, by simp⟩, ?_⟩, hK⟩
  have h1 := ((armc_none.2 ⟨rfl, (h.row_nil 3 1).b2⟩).b2.row_nil 79 2).b2
  rw [← hF] at h1
  exact h1
end Go.Proofs.Ytbggnbahmdgbdaa
/- THE WALK of Image. -/
namespace Go.Proofs.Ytbggnbahmdgbdaa
open Go.RowKit Go.Own Go.Dk
theorem imageNil (w : World) : Calls Try.prog 22 #[.pointer none] w fun e w' => e = .returned (.slice none 0 0) ∧ w = w' := by
  go_enter Try.func22, Try.ntmps22
  go_wp2
  go_ret
  exact ⟨rfl, rfl⟩
set_option maxHeartbeats 2000000 in
theorem diskImage (d : Nat) (D : Disk) (w : World) (L : List HP) (hw : D.firm.length ≤ 1000000000) (hO : Has w (Dsk d D :: L)) :
    Calls Try.prog 22 #[.pointer (some ⟨d, 0, none⟩)] w fun e w' => ∃ v R, e = .returned v ∧ R.map (·.2) = D.firm.map (·.2) ∧ Has w' (row v 35 1 R.length (R.map (·.1)) :: poolc 5 R :: Dsk d D :: L) ∧ Keep w w' := by
  obtain ⟨fv, wv, av, lv, B, hok, hO⟩ := dsk_iff.1 hO
  have HOk := hid hok
  have HD := hid (fun w' M h => (dsk_iff (w := w') (L := M) (d := d)).2 ⟨fv, wv, av, lv, B, hok, h⟩)
  obtain ⟨F, W, on, ar, ws, fl⟩ := D
  simp only at hO hw HD
  obtain ⟨fp, fc, rfl, hfc, hfl, -⟩ := hO.p1.rd.form
  have hc := hO.cells
  have HO := hid hO
  clear hO hok
  go_enter Try.func22, Try.ntmps22
  go_wp2_with fail
  go_loopw [5, 3, 13] (fun _ v i w' => ∃ k : Nat, k ≤ F.length ∧ i = .int .i64 k ∧ Hid (∃ R : List Txt, R.length = k ∧ R.map (·.2) = (F.take k).map (·.2) ∧ Has w' (row v 35 1 k (R.map (·.1)) :: poolc 5 R :: pt d (.cells #[.slice fp F.length fc, wv, .bool on, av, lv, .int .i64 fl] 74) :: row (.slice fp F.length fc) 35 1 F.length (F.map (·.1)) :: row wv 79 2 W.length (wenc W) :: Armc av ar :: Ints lv ws :: poolc 5 B :: L)) ∧ Hid (Keep w w')) (fun _ _ i _ => F.length - (intOf i).toNat)
  case atStart => exact ⟨0, by omega, rfl, hid ⟨[], rfl, rfl, (HO.out.pool_nil).row_nil _ _⟩, hid (Keep.refl _)⟩
  case round =>
    obtain ⟨k, hk, rfl, HX, HK⟩ := hrel
    clear HO
    obtain ⟨R, hR, hRm, hX⟩ := HX.out
    have HX := hid hX
    have HR := hid hR
    have HRm := hid hRm
    clear hX hR hRm
    by_cases hlt : k < F.length
    · have hF1 := HOk.out.firm _ (List.getElem_mem hlt)
      have hlenk := HOk.out.len _ (List.getElem_mem hlt)
      have hrd := (HX.out.drop.drop.p5).pool_rd hF1
      obtain ⟨fp', fc', ef, -, -, hcf⟩ := HX.out.p3.rd.form
      simp only [Value.slice.injEq, true_and] at ef
      obtain ⟨rfl, rfl⟩ := ef
      obtain ⟨fg, fo, rfl, hcg⟩ := hcf (by omega)
      have hk1 := hcg k (by omega)
      clear hcg
      have HT := hid (show (F.take (k + 1)).map (·.2) = (F.take k).map (·.2) ++ [F[k].2] from by rw [← List.take_append_getElem hlt, List.map_append]; rfl)
      rw [List.getElem?_map, List.getElem?_eq_getElem hlt] at hk1
      simp only [Option.map_some] at hk1
      have HC := hid (cloneBytes F[k].1 F[k].2 wr _ HX.out hrd (by omega))
      obtain ⟨xp, xc, ex, -⟩ := hrd.form
      rw [ex] at hk1 HC
      rw [hlenk] at hk1 HC
      clear hrd
      go_wp2_with fail
      refine HC.out.mono ?_
      rintro e w' ⟨v', rfl, h, hK, -⟩
      dsimp only
      obtain ⟨vp, vc, rfl, -⟩ := h.rd.form
      have HO2 := hid h.p1
      have HK2 := hid (HK.out.trans hK)
      clear h hK HC
      have hlk : (F[k].2).length = 128 := hlenk
      go_wp2_with (at_builtin; refine wpList_append1 rfl _ _ _ rfl Try.underlying31 infoBs rfl (.slice vp 128 vc) (HO2.out.alloc' _) rfl 1 _ rfl (by simp) rfl (le_maxLen (by omega)) (by omega) ?_)
      intro v2 w2 h hk
      have HO3 := hid h
      have HK3 := hid ((HK2.out.alloc _).trans hk)
      clear h hk HO2 HK2
      go_wp2_with fail
      refine ⟨⟨k + 1, by omega, rfl, hid ⟨R ++ [(.slice vp 128 vc, F[k].2)], ?_, ?_, ?_⟩, HK3⟩, ?_⟩
      · rw [List.length_append, HR.out]; rfl
      · rw [List.map_append, HRm.out, HT.out]; rfl
      · rw [List.map_append]
        exact (HO3.out.p1.p2.p1.pool_snoc).p1
      · simp only [intOf]; omega
    · obtain rfl : k = F.length := by omega
      go_wp2_with fail
      go_ret
      have h := HX.out
      have e := HR.out
      refine ⟨_, rfl, R, ?_, ?_, HK.out⟩
      · have := HRm.out; rw [List.take_length] at this; exact this
      · rw [e]
        exact (HD.out _ _ (h.perm (List.perm_append_comm_assoc [_, _] [_, _, _, _, _, _] L))).b2
end Go.Proofs.Ytbggnbahmdgbdaa
/- A DISK's CALLS, its bytes alone. -/
namespace Go.Proofs.Ytbggnbahmdgbdaa
open Go.RowKit Go.Own Go.Dk
/-- A disk whose bytes are E, at block d. -/
def Dk (d : Nat) (E : Bk) : HP := ex fun D => star [fact (D.bk = E), Dsk d D]
theorem dk_iff {w : World} {L : List HP} {d : Nat} {E : Bk} : Has w (Dk d E :: L) ↔ ∃ D, D.bk = E ∧ Has w (Dsk d D :: L) := by
  unfold Dk
  simp only [Has.ex_iff, Has.star_iff, List.cons_append, List.nil_append, Has.fact_iff]
theorem kNew (n : Nat) (W : World) (L : List HP) (h1 : 1 ≤ n) (h2 : n ≤ 2048) (hO : Has W L) :
    Calls Try.prog 17 #[.int .i64 (n : Int)] W fun e w' => ∃ d, e = .returned (.pointer (some ⟨d, 0, none⟩)) ∧ Has w' (Dk d (Bk.zero n) :: L) ∧ Keep W w' :=
  (diskNew n W L h1 h2 hO).mono fun e w' ⟨d, F, he, hl, hz, h, hK⟩ => ⟨d, he, dk_iff.2 ⟨_, by
    simp only [Disk.bk, Bk.zero, List.map_nil, Bk.mk.injEq, and_true]
    rw [List.eq_replicate_iff]
    refine ⟨by simpa using hl, fun y hy => ?_⟩
    obtain ⟨x, hx, rfl⟩ := List.mem_map.1 hy
    exact hz x hx, h⟩, hK⟩
section
variable (d : Nat) (E : Bk) (w : World) (L : List HP) (hO : Has w (Dk d E :: L))
include hO
theorem kSectors : Calls Try.prog 50 #[.pointer (some ⟨d, 0, none⟩)] w fun e w' => e = .returned (.int .i64 E.firm.length) ∧ w = w' := by
  obtain ⟨D, rfl, h⟩ := dk_iff.1 hO
  have := diskSectors d D w L h
  simpa [Disk.bk] using this
theorem kOn : Calls Try.prog 49 #[.pointer (some ⟨d, 0, none⟩)] w fun e w' => e = .returned (.bool E.on) ∧ w = w' := by
  obtain ⟨D, rfl, h⟩ := dk_iff.1 hO
  exact diskOn d D w L h
theorem kCrash (kv : Value) (keep : List Bool) (hL : ∀ w', Has w' L → Rd w' kv 1 keep.length (keep.map Value.bool)) :
    Calls Try.prog 21 #[.pointer (some ⟨d, 0, none⟩), kv] w fun e w' => e = .returned (.tuple #[]) ∧ Has w' (Dk d (E.crash keep) :: L) ∧ Keep w w' := by
  obtain ⟨D, rfl, h⟩ := dk_iff.1 hO
  exact (diskCrash d D kv keep w L hL h).mono fun e w' ⟨h1, h2, h3⟩ => ⟨h1, dk_iff.2 ⟨_, bk_crash D keep, h2⟩, h3⟩
theorem kCrash0 : Calls Try.prog 21 #[.pointer (some ⟨d, 0, none⟩), .slice none 0 0] w fun e w' => e = .returned (.tuple #[]) ∧ Has w' (Dk d (E.crash []) :: L) ∧ Keep w w' :=
  kCrash d E w L hO _ [] fun w' h => (h.row_nil 4 1).rd
theorem kFlush (h1 : 0 ≤ E.flushes) (h2 : E.flushes ≤ 1000000000000) : Calls Try.prog 51 #[.pointer (some ⟨d, 0, none⟩)] w fun e w' => e = .returned (.int .i64 E.flush.1) ∧ Has w' (Dk d E.flush.2 :: L) ∧ Keep w w' := by
  obtain ⟨D, rfl, h⟩ := dk_iff.1 hO
  rw [bk_flush]
  exact (diskFlush d D w L h1 h2 h).mono fun e w' ⟨h1, h2, h3⟩ => ⟨h1, dk_iff.2 ⟨_, rfl, h2⟩, h3⟩
theorem kWrite (at_ : Int) (b : Value) (xs : List Int) (hw : E.waits.length ≤ 1000000000) (hw2 : E.writes.length ≤ 1000000000) (hL : ∀ w', Has w' L → Rd w' b 1 xs.length (bc xs)) :
    Calls Try.prog 18 #[.pointer (some ⟨d, 0, none⟩), .int .i64 at_, b] w fun e w' => e = .returned (.int .i64 (E.write at_ xs).1) ∧ Has w' (Dk d (E.write at_ xs).2 :: L) ∧ Keep w w' := by
  obtain ⟨D, rfl, h⟩ := dk_iff.1 hO
  refine (diskWrite d D at_ b xs w L (by simpa [Disk.bk] using hw) hw2 hL h).mono ?_
  rintro e w' ⟨x, h1, h2, h3⟩
  have := bk_write D at_ (x, xs)
  dsimp only at this
  rw [this]
  exact ⟨h1, dk_iff.2 ⟨_, rfl, h2⟩, h3⟩
theorem kImage (hw : E.firm.length ≤ 1000000000) :
    Calls Try.prog 22 #[.pointer (some ⟨d, 0, none⟩)] w fun e w' => ∃ v, e = .returned v ∧ Has w' (Prts v E.firm :: Dk d E :: L) ∧ Keep w w' := by
  obtain ⟨D, rfl, h⟩ := dk_iff.1 hO
  refine (diskImage d D w L (by simpa [Disk.bk] using hw) h).mono ?_
  rintro e w' ⟨v, R, h1, h2, h3, h4⟩
  exact ⟨v, h1, prts_iff.2 ⟨R, h2, (dk_iff.2 ⟨_, rfl, h3.p2⟩).b2⟩, h4⟩
end
end Go.Proofs.Ytbggnbahmdgbdaa
/- THE WALK of Fill. -/
namespace Go.Proofs.Ytbggnbahmdgbdaa
open Go.RowKit Go.Own
/-- Byte k of number n's text. -/
def fb (n : Int) (k : Nat) : Int := (n / 2 ^ (8 * (k % 4)) + (k : Int) * 7) % 256
def fill (n : Int) (sz : Nat) : List Int := (List.range sz).map (fb n)
theorem fill_len (n : Int) (sz : Nat) : (fill n sz).length = sz := by simp [fill]
theorem fill_succ (n : Int) (k : Nat) : fill n (k + 1) = fill n k ++ [(n / 2 ^ (8 * (k % 4)) + (k : Int) * 7) % 256] := by simp [fill, List.range_succ, fb]
theorem fillAny (n : Int) (sz : Nat) (W : World) (L : List HP) (hO : Has W L) (hs : sz ≤ 30000) :
    Calls Try.prog 19 #[.int .i64 n, .int .i64 (sz : Int)] W fun e w' => ∃ v, e = .returned v ∧ Has w' (Bytes v (fill n sz) :: L) ∧ Keep W w' := by
  have HO := hid hO
  clear hO
  go_enter Try.func19, Try.ntmps19
  go_wp2
  go_loopw [6, 5] (fun i v w => ∃ k : Nat, k ≤ sz ∧ i = .int .i64 k ∧ Hid (Has w (Bytes v (fill n k) :: L)) ∧ Hid (Keep W w)) (fun i _ _ => sz - (intOf i).toNat)
  case atStart => exact ⟨0, by omega, rfl, hid (HO.out.row_nil _ _), hid (Keep.refl _)⟩
  case round =>
    obtain ⟨k, hk, rfl, HOw, HK⟩ := hrel
    by_cases hlt : k < sz
    · have hm : 0 ≤ (k : Int) % 4 ∧ (k : Int) % 4 < 4 := by omega
      go_wp2_with (at_builtin; refine wpList_append1 rfl _ _ _ rfl Try.underlying35 infoU8 rfl (.int .u8 ((n / 2 ^ (8 * (k % 4)) + (k : Int) * 7) % 256)) (HOw.out.alloc' _) rfl 1 _ rfl (by simp) rfl (le_maxLen (by rw [fill_len]; omega)) (by rw [fill_len]; omega) ?_)
      intro v' w' hO' hK'
      have HO' := hid hO'
      have HK' := hid hK'
      clear hO' hK'
      go_wp2_with fail
      go_roundw
      case rel =>
        refine ⟨k + 1, by omega, by go_num, hid ?_, hid ((HK.out.alloc _).trans HK'.out)⟩
        rw [fill_succ]
        have := HO'.out
        simpa [Bytes, bc_snoc] using this
      case measure => simp [intOf]; omega
    · obtain rfl : k = sz := by omega
      go_wp2_with fail
      go_ret
      exact ⟨_, rfl, HOw.out, HK.out⟩
end Go.Proofs.Ytbggnbahmdgbdaa
/- THE PLAIN LAW of DiskPrefix. -/
namespace Go.Proofs.Ytbggnbahmdgbdaa
open Go.RowKit Go.Own Go.Dk
theorem fill128 (n : Int) : (fill n 128).length = 128 := fill_len n 128
def nth (xs : List Int) (k : Nat) : Int := xs.getD k 0
theorem fillAny128 (n : Int) (W : World) (L : List HP) (hO : Has W L) :
    Calls Try.prog 19 #[.int .i64 n, .int .i64 128] W fun e w' => ∃ p c, e = .returned (.slice p 128 c) ∧ Has w' (Bytes (.slice p 128 c) (fill n 128) :: L) ∧ Keep W w' := by
  refine (fillAny n 128 W L hO (by omega)).mono ?_
  rintro e w' ⟨v, rfl, h, hK⟩
  obtain ⟨p, c, rfl, -⟩ := (Bytes.rd h).form
  rw [fill128] at h ⊢
  exact ⟨p, c, rfl, h, hK⟩
theorem bools_snoc {w : World} {L : List HP} {v : Value} {ks : List Bool} {b : Bool} (h : Has w (row v 4 1 (ks.length + 1) (ks.map Value.bool ++ [Value.bool b]) :: L)) : Has w (Bools v (ks ++ [b]) :: L) := by
  simpa [Bools] using h
/-- What waits behind k writes. -/
def putW (q : Int) (xs : List Int) (k : Nat) : List (Int × List Int) := (List.range k).map fun j => (low (nth xs j) q, fill (j : Int) 128)
def putL (q : Int) (xs : List Int) (k : Nat) : List Int := (List.range k).map fun j => low (nth xs j) q
theorem putW_succ (q : Int) (xs : List Int) (k : Nat) : putW q xs (k + 1) = putW q xs k ++ [(low (nth xs k) q, fill (k : Int) 128)] := by simp [putW, List.range_succ]
theorem putL_succ (q : Int) (xs : List Int) (k : Nat) : putL q xs (k + 1) = putL q xs k ++ [low (nth xs k) q] := by simp [putL, List.range_succ]
theorem putW_len (q : Int) (xs : List Int) (k : Nat) : (putW q xs k).length = k := by simp [putW]
theorem putL_len (q : Int) (xs : List Int) (k : Nat) : (putL q xs k).length = k := by simp [putL]
def keepL (m k : Nat) : List Bool := (List.range k).map fun j => decide (j < m)
theorem keepL_succ (m k : Nat) : keepL m (k + 1) = keepL m k ++ [decide (k < m)] := by simp [keepL, List.range_succ]
theorem keepL_len (m k : Nat) : (keepL m k).length = k := by simp [keepL]
def wantL (q : Int) (Z : List (List Int)) (xs : List Int) (m k : Nat) : List (List Int) := (List.range k).foldl (fun T (j : Nat) => if j < m then blay T (low (nth xs j) q, fill (j : Int) 128) else T) Z
theorem wantL_succ (q : Int) (Z : List (List Int)) (xs : List Int) (m k : Nat) : wantL q Z xs m (k + 1) = if k < m then blay (wantL q Z xs m k) (low (nth xs k) q, fill (k : Int) 128) else wantL q Z xs m k := by simp [wantL, List.range_succ]
theorem wantL_len (q : Int) (Z : List (List Int)) (xs : List Int) (m k : Nat) : (wantL q Z xs m k).length = Z.length := by
  induction k with
  | zero => rfl
  | succ k ih =>
    rw [wantL_succ]
    split
    · rw [blay_len, ih]
    · exact ih
theorem kept_all (q : Int) (Z : List (List Int)) (xs : List Int) (m n : Nat) : blayKept (keepL m n) Z (putW q xs n) = wantL q Z xs m n := by
  have key : ∀ k, k ≤ n → blayKept (keepL m n) Z (putW q xs k) = wantL q Z xs m k := by
    intro k
    induction k with
    | zero => intro _; rfl
    | succ k ih =>
      intro hk
      rw [putW_succ, blayKept_snoc, ih (by omega), wantL_succ, putW_len]
      have : kept (keepL m n) k = decide (k < m) := by
        unfold kept
        rw [keepL_len, Nat.mod_eq_of_lt (by omega)]
        simp [keepL, show k < n by omega, show 0 < n by omega]
      rw [this]
      by_cases h : k < m <;> simp [h]
  exact key n (Nat.le_refl _)
def prefD (xs : List Int) (k : Nat) : Bk := ⟨List.replicate 5 zer, putW 5 xs k, true, none, putL 5 xs k, 0⟩
theorem prefD_write (xs : List Int) (k : Nat) : (prefD xs k).write (low (nth xs k) 5) (fill (k : Int) 128) = (0, prefD xs (k + 1)) := by
  rw [Bk.write_ok rfl rfl (low_in _ 5 (by omega)).1 (low_in _ 5 (by omega)).2 (fill128 _)]
  simp only [prefD, putW_succ, putL_succ]
end Go.Proofs.Ytbggnbahmdgbdaa
