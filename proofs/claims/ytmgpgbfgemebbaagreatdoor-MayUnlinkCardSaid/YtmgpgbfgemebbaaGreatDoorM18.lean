/- TEXTS of mine, merged. -/
import Derived.Test.YtmgpgbfgemebbaaGreatDoorM14
import Derived.Test.YtmgpgbfgemebbaaGreatDoorM9
import Derived.Test.YtmgpgbfgemebbaaGreatDoorM15
import Derived.Test.YtmgpgbfgemebbaaGreatDoorM16
import Derived.Test.YtmgpgbfgemebbaaGreatDoorM17
import Derived.Test.YtmgpgbfgemebbaaGreatDoorM12
import Derived.Test.YtmgpgbfgemebbaaGreatDoorM8
import Derived.Test.YtmgpgbfgemebbaaGreatDoorM7
set_option linter.all false
namespace Go.Proofs.YtmgpgbfgemebbaaGreatDoor
open Go.RowKit Go.Own
namespace Tre
def doM (S : Tre) (o : Opm) (ds : List Int) : Ans × Tre :=
 if o.kind = 1 then S.openFd o.path o.flags
 else if o.kind = 2 then S.close o.fd
 else if o.kind = 3 then S.read 3 o.fd o.n o.off
 else if o.kind = 4 then S.write 4 o.fd o.off ds
 else if o.kind = 5 then S.read 5 o.fd o.n o.off
 else if o.kind = 6 then S.write 6 o.fd o.off ds
 else if o.kind = 7 then S.seek o.fd o.n o.off
 else if o.kind = 8 then S.trunc o.fd o.off
 else if o.kind = 9 then S.mkdir o.path
 else if o.kind = 10 then S.remove 10 o.path
 else if o.kind = 11 then S.remove 11 o.path
 else if o.kind = 12 then S.link o.path o.dest
 else if o.kind = 13 then S.symlink o.path o.dest
 else if o.kind = 14 then (S.list 14 o.path, S)
 else if o.kind = 15 then S.rename o.path o.dest
 else if o.kind = 16 then (S.stat o.path true, S)
 else if o.kind = 17 then (S.stat o.path false, S)
 else if o.kind = 18 then (S.list 18 o.path, S)
 else if o.kind = 19 then (S.lasts o.fd, S)
 else if o.kind = 20 then (S.lasts o.fd, S)
 else if o.kind = 21 then (ansE 0, S)
 else if o.kind = 22 then (if 0 ≤ o.n then ansE 0 else ansE 2, S)
 else if o.kind = 23 then (if 0 ≤ o.n then ansE 0 else ansE 2, S)
 else (ansE 2, S)
end Tre
def Bare (a : Ans) : Prop := a.data = [] ∧ a.names = []
variable (S : Tre)
theorem and12_all : ∀ i : Fin 64, andI (i.val : Int) 4 ≠ 0 → andI (i.val : Int) 12 ≠ 0 := by decide +kernel
theorem and12 {fl : Int} (h0 : 0 ≤ fl) (h1 : fl < 64) : andI fl 4 ≠ 0 → andI fl 12 ≠ 0 := by
 have := and12_all ⟨fl.toNat, by omega⟩
 rwa [show ((fl.toNat : Nat) : Int) = fl by omega] at this
variable {S} {rk : Int → Nat} {k : Nat}
theorem Gd.openFd' (h : Gd S rk k) (p : Str) (fl : Int) : ∃ rk', Gd (S.openFd p fl).2 rk' (k + 1) := by
 by_cases hb : 0 ≤ fl ∧ fl < 64
 ·exact h.openFd p fl (and12 hb.1 hb.2)
 ·unfold Tre.openFd
  rw [if_pos (by omega)]
  exact ⟨rk, h.mono (Nat.le_succ k)⟩
theorem Gd.doM (h : Gd S rk k) (o : Opm) (ds : List Int) (hp : o.path.length ≤ 100000) : ∃ rk', Gd (S.doM o ds).2 rk' (k + 1) := by
 have hm := h.mono (Nat.le_succ k)
 unfold Tre.doM
 by_cases h1 : o.kind = 1
 ·rw [if_pos h1]; exact h.openFd' _ _
 rw [if_neg h1]; clear h1
 by_cases h1 : o.kind = 2
 ·rw [if_pos h1]; exact ⟨rk, hm.close _⟩
 rw [if_neg h1]; clear h1
 by_cases h1 : o.kind = 3
 ·rw [if_pos h1]; exact ⟨rk, hm.read _ _ _ _⟩
 rw [if_neg h1]; clear h1
 by_cases h1 : o.kind = 4
 ·rw [if_pos h1]; exact ⟨rk, hm.write _ _ _ _⟩
 rw [if_neg h1]; clear h1
 by_cases h1 : o.kind = 5
 ·rw [if_pos h1]; exact ⟨rk, hm.read _ _ _ _⟩
 rw [if_neg h1]; clear h1
 by_cases h1 : o.kind = 6
 ·rw [if_pos h1]; exact ⟨rk, hm.write _ _ _ _⟩
 rw [if_neg h1]; clear h1
 by_cases h1 : o.kind = 7
 ·rw [if_pos h1]; exact ⟨rk, hm.seek _ _ _⟩
 rw [if_neg h1]; clear h1
 by_cases h1 : o.kind = 8
 ·rw [if_pos h1]; exact ⟨rk, hm.trunc _ _⟩
 rw [if_neg h1]; clear h1
 by_cases h1 : o.kind = 9
 ·rw [if_pos h1]; exact h.mkdir _
 rw [if_neg h1]; clear h1
 by_cases h1 : o.kind = 10
 ·rw [if_pos h1]; exact ⟨rk, hm.remove (.inl rfl) _⟩
 rw [if_neg h1]; clear h1
 by_cases h1 : o.kind = 11
 ·rw [if_pos h1]; exact ⟨rk, hm.remove (.inr rfl) _⟩
 rw [if_neg h1]; clear h1
 by_cases h1 : o.kind = 12
 ·rw [if_pos h1]; exact h.link _ _
 rw [if_neg h1]; clear h1
 by_cases h1 : o.kind = 13
 ·rw [if_pos h1]; exact h.symlink _ _ hp
 rw [if_neg h1]; clear h1
 by_cases h1 : o.kind = 14
 ·rw [if_pos h1]; exact ⟨rk, hm⟩
 rw [if_neg h1]; clear h1
 by_cases h1 : o.kind = 15
 ·rw [if_pos h1]; exact h.rename _ _
 rw [if_neg h1]; clear h1
 refine ⟨rk, ?_⟩
 split
 ·exact hm
 split
 ·exact hm
 split
 ·exact hm
 split
 ·exact hm
 split
 ·exact hm
 split
 ·exact hm
 split
 ·exact hm
 split
 ·exact hm
 exact hm
end Go.Proofs.YtmgpgbfgemebbaaGreatDoor
namespace Go.Proofs.YtmgpgbfgemebbaaGreatDoor
open Go.RowKit Go.Own
open Classical in
theorem pmK (G E I A M : HP) (Z R : List HP) : (G :: E :: I :: A :: M :: (Z ++ R)).Perm (A :: E :: M :: ([I] ++ (Z ++ (G :: R)))) := by
 refine List.perm_iff_count.2 fun x => ?_
 simp only [List.count_append, List.count_cons, List.count_nil] at *
 omega
open Classical in
theorem pmK2 (F I A : HP) (Z R : List HP) : (F :: I :: A :: (Z ++ R)).Perm (A :: F :: (Z ++ (I :: R))) := by
 refine List.perm_iff_count.2 fun x => ?_
 simp only [List.count_append, List.count_cons, List.count_nil] at *
 omega
def His.fdN (H : His) (fd : Int) : Int := (Tb.get H.S.tab fd).1.node
def His.lasts (H : His) (o : Opm) : His :=
 if o.kind = 21 then (H.lastAll fun _ => true).firmAll
 else if o.kind = 4 ∨ o.kind = 6 then (if andI (Tb.get H.S.tab o.fd).1.flags 16 ≠ 0 then H.firm (H.fdN o.fd) else H)
 else if o.kind = 20 then H.firm (H.fdN o.fd)
 else if o.kind = 19 then
  (if kindF (H.firm (H.fdN o.fd)).files (H.fdN o.fd) = 2 then ((H.firm (H.fdN o.fd)).lastAll fun e => decide (e.1 = H.fdN o.fd)).above (H.fdN o.fd)
  else match fnd H.opened o.fd with
   | some e => if nowE H.ents e = H.fdN o.fd then ((H.firm (H.fdN o.fd)).lastOne e).above e.1 else H.firm (H.fdN o.fd)
   | none => H.firm (H.fdN o.fd))
 else H
set_option maxRecDepth 100000 in
set_option maxHeartbeats 8000000 in
theorem mLastsT (q : Nat) (H : His) (o : Opm) (ov : Value) (K : Nat) (rk : Int → Nat) (w : World) (L : List HP) (hok : HisOk H K) (hW : Wy H.S rk) (hkd : o.kind = 20 ∨ ((o.kind = 4 ∨ o.kind = 6) ∧ andI (Tb.get H.S.tab o.fd).1.flags 16 ≠ 0)) (hF : ∃ F, fnd H.files (H.fdN o.fd) = some F) (hO : Has w (Hsc q H :: L)) :
  Calls Tryz.prog 103 #[.pointer (some ⟨q, 0, none⟩), opV o ov] w fun e' w' => e' = .returned (.tuple #[]) ∧ Has w' (Hsc q (H.firm (H.fdN o.fd)) :: L) ∧ Keep w w' := by
 have HOK := hid hok
 have HW := hid hW
 clear hok hW
 unfold opV opC
 go_enter Tryz.func103, Tryz.ntmps103
 go_upto_region 1 with fail
 obtain ⟨t, bn, bf, bm, b, bo, h0⟩ := hsc_iff.1 hO
 have HO1 := hid (h0.alloc (.cells #[.int .i64 o.kind, .int .i64 o.fd, .int .i64 o.n, .int .i64 o.off, .int .i64 o.flags, sV o.path, sV o.dest, ov] 33))
 have HK1 := hid ((Keep.refl w).alloc (.cells #[.int .i64 o.kind, .int .i64 o.fd, .int .i64 o.n, .int .i64 o.off, .int .i64 o.flags, sV o.path, sV o.dest, ov] 33))
 clear h0 hO
 generalize w.alloc (.cells #[.int .i64 o.kind, .int .i64 o.fd, .int .i64 o.n, .int .i64 o.off, .int .i64 o.flags, sV o.path, sV o.dest, ov] 33) = w1 at *
 generalize w.heap.size = g at *
 have HO2 := hid HO1.out.drew
 have HK2 := hid HK1.out.drew
 clear HO1 HK1
 refine region_text (fun w' => w'.cell? ⟨q, 0, none⟩ = some (.pointer (some ⟨t, 0, none⟩)) ∧ w'.cell? ⟨g, 1, none⟩ = some (.int .i64 o.fd)) (by kernel_rfl) (by kernel_rfl) ⟨HO2.out.p1.cells 0, HO2.out.cells 1⟩ ?_
 generalize w1.drew = w2 at *
 repeat (first | refine wr2 ?_ | refine wk ?_)
 refine wa fun K hK => ?_
 go_simp
 refine (mOpenFd t H.S o.fd w2 _ (HO2.out.re 3 [2, 0, 1])).mono ?_
 rintro e w3 ⟨rfl, h3, k3⟩
 have HO3 := hid (show Has w3 (pt g (.cells #[.int .i64 o.kind, .int .i64 o.fd, .int .i64 o.n, .int .i64 o.off, .int .i64 o.flags, sV o.path, sV o.dest, ov] 33) :: pt q (.cells (hC t bn bf bm b bo) 142) :: Trc t H.S :: _) from h3.re 3 [1, 2, 0])
 have HK3 := hid (HK2.out.trans k3)
 clear h3 k3 HO2 HK2
 refine hK.out _ _ ⟨HO3.out.p1.cells 0, HO3.out.cells 1⟩ ?_
 clear hK K
 try simp only [Act.put, List.setIfInBounds_toArray, List.set_cons_zero, List.set_cons_succ]
 repeat (first | refine wr2 ?_ | refine wk ?_)
 refine wpL_nil ?_
 have HO4 := hid (show Has w3 (pt g (.cells #[.int .i64 o.kind, .int .i64 o.fd, .int .i64 o.n, .int .i64 o.off, .int .i64 o.flags, sV o.path, sV o.dest, ov] 33) :: Hsc q H :: L) from (show Has w3 (Hsc q H :: pt g (.cells #[.int .i64 o.kind, .int .i64 o.fd, .int .i64 o.n, .int .i64 o.off, .int .i64 o.flags, sV o.path, sV o.dest, ov] 33) :: L) from hsc_iff.2 ⟨t, bn, bf, bm, b, bo, HO3.out.re 8 [1, 2, 3, 4, 5, 6, 7, 0]⟩).p1)
 clear HO3
 have hp0 : w3.cell? ⟨g, 0, none⟩ = some (.int .i64 o.kind) := HO4.out.cells 0
 obtain ⟨n, hn⟩ : ∃ n, (Tb.get H.S.tab o.fd).1.node = n := ⟨_, rfl⟩
 obtain ⟨fl, hfl⟩ : ∃ fl, (Tb.get H.S.tab o.fd).1.flags = fl := ⟨_, rfl⟩
 have HN := hid (show H.fdN o.fd = n from hn)
 have HFLG := hid hfl
 have HFX := hid (show ∃ F, fnd H.files n = some F from by rw [← HN.out]; exact hF)
 rw [hfl] at hkd
 rw [hn, hfl]
 clear hn hfl hF
 rcases hkd with hkd | ⟨hkd, hf⟩
 ·have hkb21 : (o.kind == 21) = false := by rw [hkd]; rfl
  have hkb4 : (o.kind == 4) = false := by rw [hkd]; rfl
  have hkb6 : (o.kind == 6) = false := by rw [hkd]; rfl
  have hkb20 : (o.kind == 20) = true := by rw [hkd]; rfl
  clear hkd
  have HF := hid (aFirm q H n K w3 _ HOK.out HFX.out HO4.out.p1)
  go_wp2_with fail
  refine HF.out.mono ?_
  rintro e w5 ⟨rfl, h5, k5⟩
  try dsimp only
  go_wp2_with fail
  go_end0
  rw [HN.out]
  exact ⟨rfl, h5.p1.drop, HK3.out.trans k5⟩
 ·have hfb : (bits BinOp.and IntKind.i64 fl 16 != 0) = true := by simpa [andI] using hf
  clear hf
  rcases hkd with hkd | hkd
  ·have hkb21 : (o.kind == 21) = false := by rw [hkd]; rfl
   have hkb4 : (o.kind == 4) = true := by rw [hkd]; rfl
   clear hkd
   have HF := hid (aFirm q H n K w3 _ HOK.out HFX.out HO4.out.p1)
   go_wp2_with fail
   refine HF.out.mono ?_
   rintro e w5 ⟨rfl, h5, k5⟩
   try dsimp only
   go_wp2_with fail
   go_end0
   rw [HN.out]
   exact ⟨rfl, h5.p1.drop, HK3.out.trans k5⟩
  ·have hkb21 : (o.kind == 21) = false := by rw [hkd]; rfl
   have hkb4 : (o.kind == 4) = false := by rw [hkd]; rfl
   have hkb6 : (o.kind == 6) = true := by rw [hkd]; rfl
   clear hkd
   have HF := hid (aFirm q H n K w3 _ HOK.out HFX.out HO4.out.p1)
   go_wp2_with fail
   refine HF.out.mono ?_
   rintro e w5 ⟨rfl, h5, k5⟩
   try dsimp only
   go_wp2_with fail
   go_end0
   rw [HN.out]
   exact ⟨rfl, h5.p1.drop, HK3.out.trans k5⟩
set_option maxRecDepth 100000 in
set_option maxHeartbeats 8000000 in
theorem mLastsN (q : Nat) (H : His) (o : Opm) (ov : Value) (K : Nat) (rk : Int → Nat) (w : World) (L : List HP) (hok : HisOk H K) (hW : Wy H.S rk) (hkd : ((o.kind = 4 ∨ o.kind = 6) ∧ andI (Tb.get H.S.tab o.fd).1.flags 16 = 0) ∨ (o.kind ≠ 4 ∧ o.kind ≠ 6 ∧ o.kind ≠ 19 ∧ o.kind ≠ 20 ∧ o.kind ≠ 21)) (hO : Has w (Hsc q H :: L)) :
  Calls Tryz.prog 103 #[.pointer (some ⟨q, 0, none⟩), opV o ov] w fun e' w' => e' = .returned (.tuple #[]) ∧ Has w' (Hsc q (H) :: L) ∧ Keep w w' := by
 have HOK := hid hok
 have HW := hid hW
 clear hok hW
 unfold opV opC
 go_enter Tryz.func103, Tryz.ntmps103
 go_upto_region 1 with fail
 obtain ⟨t, bn, bf, bm, b, bo, h0⟩ := hsc_iff.1 hO
 have HO1 := hid (h0.alloc (.cells #[.int .i64 o.kind, .int .i64 o.fd, .int .i64 o.n, .int .i64 o.off, .int .i64 o.flags, sV o.path, sV o.dest, ov] 33))
 have HK1 := hid ((Keep.refl w).alloc (.cells #[.int .i64 o.kind, .int .i64 o.fd, .int .i64 o.n, .int .i64 o.off, .int .i64 o.flags, sV o.path, sV o.dest, ov] 33))
 clear h0 hO
 generalize w.alloc (.cells #[.int .i64 o.kind, .int .i64 o.fd, .int .i64 o.n, .int .i64 o.off, .int .i64 o.flags, sV o.path, sV o.dest, ov] 33) = w1 at *
 generalize w.heap.size = g at *
 have HO2 := hid HO1.out.drew
 have HK2 := hid HK1.out.drew
 clear HO1 HK1
 refine region_text (fun w' => w'.cell? ⟨q, 0, none⟩ = some (.pointer (some ⟨t, 0, none⟩)) ∧ w'.cell? ⟨g, 1, none⟩ = some (.int .i64 o.fd)) (by kernel_rfl) (by kernel_rfl) ⟨HO2.out.p1.cells 0, HO2.out.cells 1⟩ ?_
 generalize w1.drew = w2 at *
 repeat (first | refine wr2 ?_ | refine wk ?_)
 refine wa fun K hK => ?_
 go_simp
 refine (mOpenFd t H.S o.fd w2 _ (HO2.out.re 3 [2, 0, 1])).mono ?_
 rintro e w3 ⟨rfl, h3, k3⟩
 have HO3 := hid (show Has w3 (pt g (.cells #[.int .i64 o.kind, .int .i64 o.fd, .int .i64 o.n, .int .i64 o.off, .int .i64 o.flags, sV o.path, sV o.dest, ov] 33) :: pt q (.cells (hC t bn bf bm b bo) 142) :: Trc t H.S :: _) from h3.re 3 [1, 2, 0])
 have HK3 := hid (HK2.out.trans k3)
 clear h3 k3 HO2 HK2
 refine hK.out _ _ ⟨HO3.out.p1.cells 0, HO3.out.cells 1⟩ ?_
 clear hK K
 try simp only [Act.put, List.setIfInBounds_toArray, List.set_cons_zero, List.set_cons_succ]
 repeat (first | refine wr2 ?_ | refine wk ?_)
 refine wpL_nil ?_
 have HO4 := hid (show Has w3 (pt g (.cells #[.int .i64 o.kind, .int .i64 o.fd, .int .i64 o.n, .int .i64 o.off, .int .i64 o.flags, sV o.path, sV o.dest, ov] 33) :: Hsc q H :: L) from (show Has w3 (Hsc q H :: pt g (.cells #[.int .i64 o.kind, .int .i64 o.fd, .int .i64 o.n, .int .i64 o.off, .int .i64 o.flags, sV o.path, sV o.dest, ov] 33) :: L) from hsc_iff.2 ⟨t, bn, bf, bm, b, bo, HO3.out.re 8 [1, 2, 3, 4, 5, 6, 7, 0]⟩).p1)
 clear HO3
 have hp0 : w3.cell? ⟨g, 0, none⟩ = some (.int .i64 o.kind) := HO4.out.cells 0
 obtain ⟨n, hn⟩ : ∃ n, (Tb.get H.S.tab o.fd).1.node = n := ⟨_, rfl⟩
 obtain ⟨fl, hfl⟩ : ∃ fl, (Tb.get H.S.tab o.fd).1.flags = fl := ⟨_, rfl⟩
 have HN := hid (show H.fdN o.fd = n from hn)
 have HFLG := hid hfl
 rw [hfl] at hkd
 rw [hn, hfl]
 clear hn hfl
 rcases hkd with ⟨hkd, hf⟩ | ⟨h4, h6, h19, h20, h21⟩
 ·have hfb : (bits BinOp.and IntKind.i64 fl 16 != 0) = false := by simpa [andI] using hf
  clear hf
  rcases hkd with hkd | hkd
  ·have hkb21 : (o.kind == 21) = false := by rw [hkd]; rfl
   have hkb4 : (o.kind == 4) = true := by rw [hkd]; rfl
   clear hkd
   go_wp2_with fail
   go_end0
   exact ⟨rfl, HO4.out.drop, HK3.out⟩
  ·have hkb21 : (o.kind == 21) = false := by rw [hkd]; rfl
   have hkb4 : (o.kind == 4) = false := by rw [hkd]; rfl
   have hkb6 : (o.kind == 6) = true := by rw [hkd]; rfl
   clear hkd
   go_wp2_with fail
   go_end0
   exact ⟨rfl, HO4.out.drop, HK3.out⟩
 ·have hkb4 : (o.kind == 4) = false := by simpa using h4
  have hkb6 : (o.kind == 6) = false := by simpa using h6
  have hkb19 : (o.kind == 19) = false := by simpa using h19
  have hkb20 : (o.kind == 20) = false := by simpa using h20
  have hkb21 : (o.kind == 21) = false := by simpa using h21
  clear h4 h6 h19 h20 h21
  go_wp2_with fail
  go_end0
  exact ⟨rfl, HO4.out.drop, HK3.out⟩
set_option maxRecDepth 100000 in
set_option maxHeartbeats 8000000 in
theorem mLastsS (q : Nat) (H : His) (o : Opm) (ov : Value) (K : Nat) (rk : Int → Nat) (w : World) (L : List HP) (hok : HisOk H K) (hW : Wy H.S rk) (hkd : o.kind = 21) (hO : Has w (Hsc q H :: L)) :
  Calls Tryz.prog 103 #[.pointer (some ⟨q, 0, none⟩), opV o ov] w fun e' w' => e' = .returned (.tuple #[]) ∧ Has w' (Hsc q ((H.lastAll fun _ => true).firmAll) :: L) ∧ Keep w w' := by
 have HKD := hid hkd
 clear hkd
 have HOK := hid hok
 have HW := hid hW
 clear hok hW
 unfold opV opC
 go_enter Tryz.func103, Tryz.ntmps103
 go_upto_region 1 with fail
 obtain ⟨t, bn, bf, bm, b, bo, h0⟩ := hsc_iff.1 hO
 have HO1 := hid (h0.alloc (.cells #[.int .i64 o.kind, .int .i64 o.fd, .int .i64 o.n, .int .i64 o.off, .int .i64 o.flags, sV o.path, sV o.dest, ov] 33))
 have HK1 := hid ((Keep.refl w).alloc (.cells #[.int .i64 o.kind, .int .i64 o.fd, .int .i64 o.n, .int .i64 o.off, .int .i64 o.flags, sV o.path, sV o.dest, ov] 33))
 clear h0 hO
 generalize w.alloc (.cells #[.int .i64 o.kind, .int .i64 o.fd, .int .i64 o.n, .int .i64 o.off, .int .i64 o.flags, sV o.path, sV o.dest, ov] 33) = w1 at *
 generalize w.heap.size = g at *
 have HO2 := hid HO1.out.drew
 have HK2 := hid HK1.out.drew
 clear HO1 HK1
 refine region_text (fun w' => w'.cell? ⟨q, 0, none⟩ = some (.pointer (some ⟨t, 0, none⟩)) ∧ w'.cell? ⟨g, 1, none⟩ = some (.int .i64 o.fd)) (by kernel_rfl) (by kernel_rfl) ⟨HO2.out.p1.cells 0, HO2.out.cells 1⟩ ?_
 generalize w1.drew = w2 at *
 repeat (first | refine wr2 ?_ | refine wk ?_)
 refine wa fun K hK => ?_
 go_simp
 refine (mOpenFd t H.S o.fd w2 _ (HO2.out.re 3 [2, 0, 1])).mono ?_
 rintro e w3 ⟨rfl, h3, k3⟩
 have HO3 := hid (show Has w3 (pt g (.cells #[.int .i64 o.kind, .int .i64 o.fd, .int .i64 o.n, .int .i64 o.off, .int .i64 o.flags, sV o.path, sV o.dest, ov] 33) :: pt q (.cells (hC t bn bf bm b bo) 142) :: Trc t H.S :: _) from h3.re 3 [1, 2, 0])
 have HK3 := hid (HK2.out.trans k3)
 clear h3 k3 HO2 HK2
 refine hK.out _ _ ⟨HO3.out.p1.cells 0, HO3.out.cells 1⟩ ?_
 clear hK K
 try simp only [Act.put, List.setIfInBounds_toArray, List.set_cons_zero, List.set_cons_succ]
 repeat (first | refine wr2 ?_ | refine wk ?_)
 refine wpL_nil ?_
 have HO4 := hid (show Has w3 (pt g (.cells #[.int .i64 o.kind, .int .i64 o.fd, .int .i64 o.n, .int .i64 o.off, .int .i64 o.flags, sV o.path, sV o.dest, ov] 33) :: Hsc q H :: L) from (show Has w3 (Hsc q H :: pt g (.cells #[.int .i64 o.kind, .int .i64 o.fd, .int .i64 o.n, .int .i64 o.off, .int .i64 o.flags, sV o.path, sV o.dest, ov] 33) :: L) from hsc_iff.2 ⟨t, bn, bf, bm, b, bo, HO3.out.re 8 [1, 2, 3, 4, 5, 6, 7, 0]⟩).p1)
 clear HO3
 have hp0 : w3.cell? ⟨g, 0, none⟩ = some (.int .i64 o.kind) := HO4.out.cells 0
 obtain ⟨n, hn⟩ : ∃ n, (Tb.get H.S.tab o.fd).1.node = n := ⟨_, rfl⟩
 obtain ⟨fl, hfl⟩ : ∃ fl, (Tb.get H.S.tab o.fd).1.flags = fl := ⟨_, rfl⟩
 have HN := hid (show H.fdN o.fd = n from hn)
 have HFLG := hid hfl
 rw [hn, hfl]
 clear hn hfl
 have hkd := HKD.out
 have hkb21 : (o.kind == 21) = true := by rw [hkd]; rfl
 clear hkd
 obtain ⟨t2, bn, bf, bm, b, bo, h0⟩ := hsc_iff.1 HO4.out.p1
 have HNODM := hid (hsc_nod HO4.out.p1).1
 have HNDE := hid (hsc_nod HO4.out.p1).2.1
 obtain ⟨es, cl, X, esf, clf, Y, hX, hY, h1⟩ := hsx h0
 obtain ⟨C, hCe⟩ : ∃ C, C = hC t2 bn bf bm b bo := ⟨_, rfl⟩
 rw [← hCe] at h1
 have HCE := hid hCe
 have HX := hid hX
 have HY := hid hY
 have HCC := hid (show C[4]? = some (.map (some b)) from by rw [hCe]; rfl)
 have HC3 := hid (show C[3]? = some (.map (some bm)) from by rw [hCe]; rfl)
 have HC2c := hid (show C[2]? = some (.map (some bf)) from by rw [hCe]; rfl)
 have HC4 := hid (fun (w : World) (L' : List HP) (h : Has w (pt q (.cells C 142) :: L')) => (show w.cell? ⟨q, 4, none⟩ = some (.map (some b)) from (h.cells 4).trans HCC.out))
 have HC2 := hid (fun (w : World) (L' : List HP) (h : Has w (pt q (.cells C 142) :: L')) => (show w.cell? ⟨q, 2, none⟩ = some (.map (some bf)) from (h.cells 2).trans HC2c.out))
 have HND := hid (show (X.map Prod.fst).Nodup from by have h2 := Mk.nodup (Mx.mk h1.drop); rw [zH_keys] at h2; exact h2)
 have HE := hid (show ∀ x ∈ zB X, okEnt x.1 ∧ (Lit.int .i64 (lastI x.2)).wf = true from fun x hx => by have := HOK.out.ents x (by rw [← hX]; exact hx); exact ⟨this.1, this.2.1⟩)
 have HL := hid (show X.length ≤ 300000 from by have := HOK.out.el; rw [← hX, zB_len] at this; exact this)
 have HML := hid (show H.marks.length ≤ 300000 from by have := marks_len HOK.out.mks HNODM.out; have := HOK.out.fl; omega)
 have HNY := hid (show (Y.map Prod.fst).Nodup from by have h2 := Mk.nodup (Mx.mk (h1.perm (pmC1 _ _ _ _ _ _ _ _)).drop); rw [zH_keys] at h2; exact h2)
 have HFI := hid (show ∀ x ∈ zB Y, (Lit.int .i64 x.1).wf = true ∧ FilOk x.2 K from fun x hx => HOK.out.fil x (by rw [← hY]; exact hx))
 have HKB := hid HOK.out.kb
 obtain ⟨R, hR⟩ : ∃ R, R = Trc t2 H.S :: FlX bf esf clf Y :: (zC FilPC Y ++ (Mk kInt vInt bn H.nums :: Mk kInt vEnt bo H.opened :: pt g (.cells #[.int .i64 o.kind, .int .i64 o.fd, .int .i64 o.n, .int .i64 o.off, .int .i64 o.flags, sV o.path, sV o.dest, ov] 33) :: L)) := ⟨_, rfl⟩
 rw [← hR] at h1
 have HR := hid hR
 have HO := hid h1
 have HK := hid HK3.out
 obtain ⟨M, hM⟩ : ∃ M, H.marks = M := ⟨_, rfl⟩
 rw [hM] at HO HML HNODM
 have HMM := hid hM
 clear h0 h1 hX hY hCe hR hM HO4 HK3
 have hq4 := HC4.out _ _ HO.out
 go_wp2_with (at_range; refine wpList_mxStart HO.out.p1 tEm undEm rfl _ rfl rfl ?_; intro w4 hO4 hK4 hs4)
 try go_frame
 have HO4 := hid hO4
 have HK4 := hid (HK.out.trans hK4)
 clear hO4 hK4 hs4 hq4 HO HK
 generalize w3.heap.size = r at *
 generalize hr0 : (zH X).map Prod.fst = rem0 at *
 have HB0 := hid (show zB X = lastR (zB X) (fun _ => true) rem0 from by rw [← hr0, zH_keys, ← zB_keys, lastR_all])
 have HM0 := hid (show MkR (zB X) (fun _ => true) rem0 M M from by rw [← hr0, zH_keys, ← zB_keys]; exact MkR.start _ _ _)
 have HR0 := hid (show M.length + rem0.length ≤ M.length + X.length from by rw [← hr0, zH_keys, List.length_map]; exact Nat.le_refl _)
 clear hr0
 generalize (zH X).length = cnt0 at *
 go_loopw [] (fun w' => ∃ (es1 : Array MapEntry) (cl1 : Nat) (X1 : List (Ent × Slv × List Int)) (M1 : List (Int × Mrk)) (rem : List Ent) (cnt : Nat), Hid (zB X1 = lastR (zB X) (fun _ => true) rem) ∧ Hid (MkR (zB X) (fun _ => true) rem M M1) ∧ Hid (M1.length + rem.length ≤ M.length + X.length) ∧ Hid (Has w' (EtX b es1 cl1 X1 :: It kEnt vSI b r es1 cl1 rem cnt :: pt q (.cells C 142) :: Mk kInt vMrk bm M1 :: (zC EntC X1 ++ R))) ∧ Hid (Keep w w')) (fun w' => w'.rangeLeft b r)
 case atStart => exact ⟨es, cl, X, M, rem0, cnt0, HB0, HM0, HR0, HO4, HK4⟩
 case round =>
  clear HO4 HK4 HB0 HM0 HR0
  obtain ⟨es1, cl1, X1, M1, rem, cnt, HB, HM, HMR, HO, HK⟩ := hrel
  have hleft := Mx.left HO.out
  have HLF := hid hleft
  go_wp2_with (at_next; refine wpList_mxNext HO.out rfl _ rfl rfl ?_ ?_)
  ·intro hrem
   subst hrem
   have HO5 := hid (show Has _ (pt q (.cells C 142) :: EtX b es1 cl1 X1 :: Mk kInt vMrk bm M1 :: (zC EntC X1 ++ R)) from HO.out.re 4 [2, 0, 3])
   clear HO hleft HLF
   have h9 := HO5.out
   rw [HR.out] at h9
   have HO6 := hid (h9.perm (pmC1 _ _ _ _ _ _ _ _))
   obtain ⟨R2, hR2⟩ : ∃ R2, R2 = EtX b es1 cl1 X1 :: Mk kInt vMrk bm M1 :: Trc t2 H.S :: (zC EntC X1 ++ (Mk kInt vInt bn H.nums :: Mk kInt vEnt bo H.opened :: pt g (.cells #[.int .i64 o.kind, .int .i64 o.fd, .int .i64 o.n, .int .i64 o.off, .int .i64 o.flags, sV o.path, sV o.dest, ov] 33) :: L)) := ⟨_, rfl⟩
   have HO := hid (show Has _ (pt q (.cells C 142) :: FlX bf esf clf Y :: (zC FilPC Y ++ R2)) from by rw [hR2]; exact HO6.out)
   have HR2 := hid hR2
   have HNODM2 := hid (show (M1.map Prod.fst).Nodup from Mk.nodup (show Has _ (Mk kInt vMrk bm M1 :: _) from HO5.out.p2))
   clear h9 hR2 HO5 HO6 HR
   have hq2 := HC2.out _ _ HO.out
   go_wp2_with (at_range; refine wpList_mxStart HO.out.p1 tFm undFm rfl _ rfl rfl ?_; intro w4 hO4 hK4 hs4)
   try go_frame
   have HO4 := hid hO4
   have HK4 := hid (HK.out.trans hK4)
   clear hO4 hK4 hs4 hq2 HO HK
   generalize wr.heap.size = r2 at *
   generalize hr0 : (zH Y).map Prod.fst = rem0 at *
   have HB0 := hid (show zB Y = mapR Fil.firm (zB Y) rem0 from by rw [← hr0, zH_keys, ← zB_keys, mapR_all])
   clear hr0
   generalize (zH Y).length = cnt0 at *
   go_loopw [] (fun w' => ∃ (Y1 : List (Int × Option Nat × Fil)) (rem : List Int) (cnt : Nat), Hid (zB Y1 = mapR Fil.firm (zB Y) rem) ∧ Hid (zH Y1 = zH Y) ∧ Hid (Has w' (FlX bf esf clf Y1 :: It kInt vPf bf r2 esf clf rem cnt :: pt q (.cells C 142) :: (zC FilPC Y1 ++ R2))) ∧ Hid (Keep w w')) (fun w' => w'.rangeLeft bf r2)
   case atStart => exact ⟨Y, rem0, cnt0, HB0, hid rfl, HO4, HK4⟩
   case round =>
    clear HO4 HK4 HB0
    obtain ⟨Y1, rem, cnt, HBY, HZY, HO, HK⟩ := hrel
    have hleft := Mx.left HO.out
    have HLF := hid hleft
    go_wp2_with (at_next; refine wpList_mxNext HO.out rfl _ rfl rfl ?_ ?_)
    ·intro hrem
     subst hrem
     have HO5 := hid (show Has _ (pt q (.cells C 142) :: FlX bf esf clf Y1 :: (zC FilPC Y1 ++ R2)) from HO.out.re 3 [2, 0])
     clear HO hleft HLF
     go_wp2_with fail
     go_end0
     have h9 := HO5.out
     rw [HR2.out] at h9
     have h8 := h9.perm (pmC1 _ _ _ _ _ _ _ _).symm
     rw [HCE.out] at h8
     have h7 := hsc_x h8
     rw [HB.out, HBY.out, mapR_nil, HX.out, HY.out] at h7
     have hm := HM.out
     rw [HX.out] at hm
     have hm2 := hm.perm HNODM.out HNODM2.out
     rw [← HMM.out] at hm2
     exact ⟨rfl, (hsc_m h7 hm2).p1.drop, HK.out⟩
    ·rintro k s w5 cnt' hp hr hky hO5 hlt5 hK5 hsz hen
     obtain ⟨⟨k', s', F⟩, hpY, he⟩ := List.mem_map.1 hp
     simp only [Prod.mk.injEq] at he
     obtain ⟨rfl, rfl⟩ := he
     simp only [kInt_val] at hen ⊢
     have hmB : (k', F) ∈ zB Y1 := List.mem_map.2 ⟨_, hpY, rfl⟩
     have hmT : (k', F) ∈ zB Y := mapR_mem hr (by rw [← HBY.out]; exact hmB)
     have hnb1 : ((zB Y1).map Prod.fst).Nodup := by rw [HBY.out, mapR_keys, zB_keys]; exact HNY.out
     have hnb : ((zB Y).map Prod.fst).Nodup := by rw [zB_keys]; exact HNY.out
     have HFI1 := hid (HFI.out _ hmT)
     have HST := hid (mapR_step (f := Fil.firm) hnb hr hmT)
     have HFM := hid (mFirmH q bf clf K esf C Y1 k' F w5 (It kInt vPf bf r2 esf clf (rem.filter fun y => !decide (y = k')) cnt' :: R2) HC2c.out HFI1.out.1 (fnd_mem hnb1 hmB) HFI1.out.2 HKB.out (hO5.perm (pmK2 _ _ _ _ _)))
     have HK6 := hid (HK.out.trans hK5)
     have HL5 := hid hlt5
     clear hp hr hky hO5 hlt5 hK5 hsz hpY hleft HO HK hmB hmT hnb hnb1
     go_wp2_with fail
     refine HFM.out.mono ?_
     rintro e w8 ⟨rfl, ⟨Y2, hB2, hZ2, h8⟩, k8⟩
     have HB2 := hid (show zB Y2 = mapR Fil.firm (zB Y) (rem.filter fun y => !decide (y = k')) from by rw [hB2, HBY.out]; exact HST.out)
     have HZ2 := hid (show zH Y2 = zH Y from hZ2.trans HZY.out)
     have HO8 := hid (show Has w8 (FlX bf esf clf Y2 :: It kInt vPf bf r2 esf clf (rem.filter fun y => !decide (y = k')) cnt' :: pt q (.cells C 142) :: (zC FilPC Y2 ++ R2)) from h8.perm (pmK2 _ _ _ _ _).symm)
     have HK8 := hid (HK6.out.trans k8)
     have hleft8 := Mx.left HO8.out
     clear hB2 hZ2 h8 k8 HK6 HFM
     try dsimp only
     go_wp2_with fail
     exact ⟨⟨Y2, _, cnt', HB2, HZ2, HO8, HK8⟩, by rw [hleft8, HLF.out]; exact HL5.out⟩
  ·rintro d p s w5 cnt' hp hr hky hO5 hlt5 hK5 hsz hen
   obtain ⟨⟨e', s', l⟩, hpX, he⟩ := List.mem_map.1 hp
   simp only [Prod.mk.injEq] at he
   obtain ⟨rfl, rfl⟩ := he
   simp only [kEnt_val, vSI_val] at hen ⊢
   have hmB : ((d, p), l) ∈ zB X1 := List.mem_map.2 ⟨_, hpX, rfl⟩
   have hmT : ((d, p), l) ∈ zB X := lastR_mem hr (by rw [← HB.out]; exact hmB)
   have hnb : ((zB X).map Prod.fst).Nodup := by rw [zB_keys]; exact HND.out
   have hx1 : (X1.map Prod.fst) = X.map Prod.fst := by rw [← zB_keys, HB.out, lastR_keys, zB_keys]
   have HNOW := hid (show nowE (zB X1) (d, p) = lastI l from by rw [HB.out]; exact now_lastR hnb _ _ hmT)
   have HMT := hid hmT
   have HNB := hid hnb
   have HIN := hid (show (d, p) ∈ X1.map Prod.fst from by rw [hx1, ← zB_keys]; exact List.mem_map_of_mem hmT)
   have HXL := hid (show X1.length < 1000000 from by
    have e1 := congrArg List.length hx1
    rw [List.length_map, List.length_map] at e1
    have := HL.out
    omega)
   have HRL := hid (rem_less hr)
   have HWF := hid (HE.out _ hmT)
   have HO6 := hid (hO5.alloc (.cells #[.int .i64 d, sV p] 144))
   have HK6 := hid ((HK.out.trans hK5).alloc (.cells #[.int .i64 d, sV p] 144))
   have HKY := hid hky
   have HL5 := hid hlt5
   clear hp hr hky hO5 hlt5 hK5 hsz hpX hleft HO HK hmB hmT hnb hx1
   go_upto_region 7 with fail
   generalize w5.alloc (.cells #[.int .i64 d, sV p] 144) = w6 at *
   generalize w5.heap.size = g6 at *
   have hx0 : w6.cell? ⟨g6, 0, none⟩ = some (.int .i64 d) := HO6.out.cells 0
   have hx1 : w6.cell? ⟨g6, 1, none⟩ = some (sV p) := HO6.out.cells 1
   have HLS := hid (mLast q b bm cl1 es1 C X1 M1 (d, p) (some (r, rem.filter fun y => !decide (y = (d, p)), cnt')) w6 (pt g6 (.cells #[.int .i64 d, sV p] 144) :: R) HC3.out HCC.out HKY.out HIN.out HXL.out (by have := HMR.out; have := HML.out; have := HL.out; omega) (by rw [HNOW.out]; exact HWF.out.2) (HO6.out.perm (pmK _ _ _ _ _ _ _)))
   go_wp2_with fail
   refine HLS.out.mono ?_
   rintro e w8 ⟨rfl, ⟨es2, cl2, X2, hB2, h8⟩, k8⟩
   have HB2 := hid (show zB X2 = lastR (zB X) (fun _ => true) (rem.filter fun y => !decide (y = (d, p))) from by rw [hB2, HB.out]; exact lastR_yes HNB.out HMT.out rfl)
   have HM2 := hid (show MkR (zB X) (fun _ => true) (rem.filter fun y => !decide (y = (d, p))) M (markE (zB X1) M1 (d, p)) from by rw [HB.out]; exact HM.out.step HNB.out HMT.out rfl)
   have HO8 := hid (show Has w8 (pt g6 (.cells #[.int .i64 d, sV p] 144) :: EtX b es2 cl2 X2 :: It kEnt vSI b r es2 cl2 (rem.filter fun y => !decide (y = (d, p))) cnt' :: pt q (.cells C 142) :: Mk kInt vMrk bm (markE (zB X1) M1 (d, p)) :: (zC EntC X2 ++ R)) from h8.perm (pmK _ _ _ _ _ _ _).symm)
   have HK8 := hid (HK6.out.trans k8)
   have hleft8 := Mx.left HO8.out.drop
   clear hB2 h8 k8 HO6 HK6 HLS hx0 hx1
   try dsimp only
   go_wp2_with fail
   exact ⟨⟨es2, cl2, X2, _, _, cnt', HB2, HM2, hid (by have := HMR.out; have := HRL.out; have := markE_len (zB X1) M1 (d, p); omega), hid HO8.out.drop, HK8⟩, by rw [hleft8, HLF.out]; exact HL5.out⟩
theorem _root_.Go.Own.Has.drop2 {w : World} {a b c : HP} {L : List HP} (h : Has w (a :: b :: c :: L)) : Has w (a :: L) := h.re 3 [0]
theorem HisOk.lastOne {H : His} {K : Nat} (h : HisOk H K) {e : Ent} (he : e ∈ H.ents.map Prod.fst) (hn : (H.ents.map Prod.fst).Nodup) : HisOk (H.lastOne e) K where
 ents := fun x hx => by
  rw [show (H.lastOne e).ents = lastR H.ents (fun x => decide (x = e)) [] from lastE_lastR hn he] at hx
  obtain ⟨y, hy, e1, e2⟩ := lastR_mem2 hx
  have h1 := h.ents y hy
  rw [e1, e2] at h1
  exact h1
 el := by
  show (lastE H.ents e).length ≤ _
  rw [lastE_lastR hn he, lastR_len]; exact h.el
 mks := fun x hx => by
  have hx : x ∈ markE H.ents H.marks e := hx
  unfold markE at hx
  split at hx
  ·exact h.mks x hx
  ·rename_i h0
   obtain ⟨v, hv⟩ := fnd_has (List.mem_map_of_mem (f := Prod.fst) hx)
   rw [fnd_putA] at hv
   split at hv
   ·rename_i e1
    rw [e1]
    obtain ⟨l, hl⟩ := fnd_has he
    have h1 := h.ents _ (fnd_some hl)
    have h2 : nowE H.ents e = lastI l := by unfold nowE; rw [hl]; rfl
    rw [h2] at h0 ⊢
    obtain ⟨F, hF⟩ := h1.2.2 h0
    exact mem_of_fnd hF
   ·exact h.mks (x.1, v) (fnd_some hv)
 fl := h.fl
 fil := h.fil
 kb := h.kb
 op := h.op
abbrev tOm : TypeId := 140
theorem undOm : Tryz.prog.underlying tOm = some (.map tInt tEnt) := by kernel_rfl
open Classical in
theorem pmC2 (F C : HP) (Y Y0 R : List HP) (h : Y.Perm (C :: Y0)) : (F :: (Y ++ R)).Perm (C :: F :: (Y0 ++ R)) := by
 refine List.perm_iff_count.2 fun x => ?_
 have e1 := h.count_eq x
 simp only [List.count_append, List.count_cons] at *
 omega
set_option maxRecDepth 100000 in
set_option maxHeartbeats 8000000 in
theorem mLastsF (q : Nat) (H0 : His) (o : Opm) (ov : Value) (K : Nat) (rk : Int → Nat) (w : World) (L : List HP) (hok : HisOk H0 K) (hW : Wy H0.S rk) (hkd : o.kind = 19) (hF : ∃ F, fnd H0.files (H0.fdN o.fd) = some F) (h0n : H0.fdN o.fd ≠ 0) (hfw : (Lit.int .i64 o.fd).wf = true) (hO : Has w (Hsc q H0 :: L)) :
  Calls Tryz.prog 103 #[.pointer (some ⟨q, 0, none⟩), opV o ov] w fun e' w' => e' = .returned (.tuple #[]) ∧ Has w' (Hsc q (H0.lasts o) :: L) ∧ Keep w w' := by
 have HRES0 := hid (show H0.lasts o = _ from by unfold His.lasts; rw [if_neg (by rw [hkd]; decide), if_neg (by rw [hkd]; decide), if_neg (by rw [hkd]; decide), if_pos hkd])
 have HKD := hid hkd
 have HFDW := hid hfw
 clear hkd hfw
 have HOK0 := hid hok
 have HW := hid hW
 clear hok hW
 unfold opV opC
 go_enter Tryz.func103, Tryz.ntmps103
 go_upto_region 1 with fail
 obtain ⟨t, bn, bf, bm, b, bo, h0⟩ := hsc_iff.1 hO
 have HO1 := hid (h0.alloc (.cells #[.int .i64 o.kind, .int .i64 o.fd, .int .i64 o.n, .int .i64 o.off, .int .i64 o.flags, sV o.path, sV o.dest, ov] 33))
 have HK1 := hid ((Keep.refl w).alloc (.cells #[.int .i64 o.kind, .int .i64 o.fd, .int .i64 o.n, .int .i64 o.off, .int .i64 o.flags, sV o.path, sV o.dest, ov] 33))
 clear h0 hO
 generalize w.alloc (.cells #[.int .i64 o.kind, .int .i64 o.fd, .int .i64 o.n, .int .i64 o.off, .int .i64 o.flags, sV o.path, sV o.dest, ov] 33) = w1 at *
 generalize w.heap.size = g at *
 have HO2 := hid HO1.out.drew
 have HK2 := hid HK1.out.drew
 clear HO1 HK1
 refine region_text (fun w' => w'.cell? ⟨q, 0, none⟩ = some (.pointer (some ⟨t, 0, none⟩)) ∧ w'.cell? ⟨g, 1, none⟩ = some (.int .i64 o.fd)) (by kernel_rfl) (by kernel_rfl) ⟨HO2.out.p1.cells 0, HO2.out.cells 1⟩ ?_
 generalize w1.drew = w2 at *
 repeat (first | refine wr2 ?_ | refine wk ?_)
 refine wa fun K hK => ?_
 go_simp
 refine (mOpenFd t H0.S o.fd w2 _ (HO2.out.re 3 [2, 0, 1])).mono ?_
 rintro e w3 ⟨rfl, h3, k3⟩
 have HO3 := hid (show Has w3 (pt g (.cells #[.int .i64 o.kind, .int .i64 o.fd, .int .i64 o.n, .int .i64 o.off, .int .i64 o.flags, sV o.path, sV o.dest, ov] 33) :: pt q (.cells (hC t bn bf bm b bo) 142) :: Trc t H0.S :: _) from h3.re 3 [1, 2, 0])
 have HK3 := hid (HK2.out.trans k3)
 clear h3 k3 HO2 HK2
 refine hK.out _ _ ⟨HO3.out.p1.cells 0, HO3.out.cells 1⟩ ?_
 clear hK K
 try simp only [Act.put, List.setIfInBounds_toArray, List.set_cons_zero, List.set_cons_succ]
 repeat (first | refine wr2 ?_ | refine wk ?_)
 refine wpL_nil ?_
 have HO4 := hid (show Has w3 (pt g (.cells #[.int .i64 o.kind, .int .i64 o.fd, .int .i64 o.n, .int .i64 o.off, .int .i64 o.flags, sV o.path, sV o.dest, ov] 33) :: Hsc q H0 :: L) from (show Has w3 (Hsc q H0 :: pt g (.cells #[.int .i64 o.kind, .int .i64 o.fd, .int .i64 o.n, .int .i64 o.off, .int .i64 o.flags, sV o.path, sV o.dest, ov] 33) :: L) from hsc_iff.2 ⟨t, bn, bf, bm, b, bo, HO3.out.re 8 [1, 2, 3, 4, 5, 6, 7, 0]⟩).p1)
 clear HO3
 have hp0 : w3.cell? ⟨g, 0, none⟩ = some (.int .i64 o.kind) := HO4.out.cells 0
 obtain ⟨n, hn⟩ : ∃ n, (Tb.get H0.S.tab o.fd).1.node = n := ⟨_, rfl⟩
 obtain ⟨fl, hfl⟩ : ∃ fl, (Tb.get H0.S.tab o.fd).1.flags = fl := ⟨_, rfl⟩
 have HN := hid (show H0.fdN o.fd = n from hn)
 have HFLG := hid hfl
 have HFX0 := hid (show ∃ F, fnd H0.files n = some F from by rw [← HN.out]; exact hF)
 have HN0 := hid (show n ≠ 0 from by rw [← HN.out]; exact h0n)
 rw [HN.out] at HRES0
 rw [hn, hfl]
 clear hn hfl hF h0n
 have hkd := HKD.out
 have hkb21 : (o.kind == 21) = false := by rw [hkd]; rfl
 have hkb4 : (o.kind == 4) = false := by rw [hkd]; rfl
 have hkb6 : (o.kind == 6) = false := by rw [hkd]; rfl
 have hkb20 : (o.kind == 20) = false := by rw [hkd]; rfl
 have hkb19 : (o.kind == 19) = true := by rw [hkd]; rfl
 clear hkd
 go_wp2_with fail
 refine (aFirm q H0 n K w3 _ HOK0.out HFX0.out HO4.out.p1).mono ?_
 rintro e w5 ⟨rfl, h5, k5⟩
 have HO5 := hid (show Has w5 (pt g (.cells #[.int .i64 o.kind, .int .i64 o.fd, .int .i64 o.n, .int .i64 o.off, .int .i64 o.flags, sV o.path, sV o.dest, ov] 33) :: Hsc q (H0.firm n) :: L) from h5.p1)
 have HK5 := hid (HK3.out.trans k5)
 have HOK1 := hid (HOK0.out.firm n)
 have HFX1 := hid (show ∃ F, fnd (H0.firm n).files n = some F from fnd_keys (firmF_keys _ _).symm HFX0.out)
 have HW1 := hid (show Wy (H0.firm n).S rk from HW.out)
 have HNW := hid (show nowE (H0.firm n).ents = nowE H0.ents ∧ (H0.firm n).opened = H0.opened from ⟨rfl, rfl⟩)
 clear h5 k5 HO4 HK3 hp0 HOK0 HFX0 HW
 try dsimp only
 obtain ⟨H, hH⟩ : ∃ H, H0.firm n = H := ⟨_, rfl⟩
 rw [hH] at HO5 HOK1 HFX1 HW1 HNW
 have HH := hid hH
 have HOK := HOK1
 have HFX := HFX1
 clear hH HOK1 HFX1
 obtain ⟨t2, bn, bf, bm, b, bo, h0⟩ := hsc_iff.1 HO5.out.p1
 have HNODM := hid (hsc_nod HO5.out.p1).1
 have HNDE := hid (hsc_nod HO5.out.p1).2.1
 obtain ⟨es, cl, X, esf, clf, Y, hX, hY, h1⟩ := hsx h0
 obtain ⟨C, hCe⟩ : ∃ C, C = hC t2 bn bf bm b bo := ⟨_, rfl⟩
 rw [← hCe] at h1
 have HCE := hid hCe
 have HX := hid hX
 have HY := hid hY
 have HCC := hid (show C[4]? = some (.map (some b)) from by rw [hCe]; rfl)
 have HC3 := hid (show C[3]? = some (.map (some bm)) from by rw [hCe]; rfl)
 have HC2c := hid (show C[2]? = some (.map (some bf)) from by rw [hCe]; rfl)
 have HC4 := hid (fun (w : World) (L' : List HP) (h : Has w (pt q (.cells C 142) :: L')) => (show w.cell? ⟨q, 4, none⟩ = some (.map (some b)) from (h.cells 4).trans HCC.out))
 have HC2 := hid (fun (w : World) (L' : List HP) (h : Has w (pt q (.cells C 142) :: L')) => (show w.cell? ⟨q, 2, none⟩ = some (.map (some bf)) from (h.cells 2).trans HC2c.out))
 have HND := hid (show (X.map Prod.fst).Nodup from by have h2 := Mk.nodup (Mx.mk h1.drop); rw [zH_keys] at h2; exact h2)
 have HE := hid (show ∀ x ∈ zB X, okEnt x.1 ∧ (Lit.int .i64 (lastI x.2)).wf = true from fun x hx => by have := HOK.out.ents x (by rw [← hX]; exact hx); exact ⟨this.1, this.2.1⟩)
 have HL := hid (show X.length ≤ 300000 from by have := HOK.out.el; rw [← hX, zB_len] at this; exact this)
 have HML := hid (show H.marks.length ≤ 300000 from by have := marks_len HOK.out.mks HNODM.out; have := HOK.out.fl; omega)
 obtain ⟨F, hF0⟩ := HFX.out
 have hF1 : fnd (zB Y) n = some F := by rw [hY]; exact hF0
 have h6 := h1.perm (pmC1 _ _ _ _ _ _ _ _)
 obtain ⟨bF, Y0, hH, hP, -⟩ := FlX.pull h6.drop hF1
 have HWN := hid (HOK.out.fil _ (fnd_some hF0)).1
 have hlk := Mk.look0 (Mx.mk h6.drop) undFm HWN.out
 rw [hH] at hlk
 have hlk2 : (Instr.lookup tFm (.map (some bf)) (.int .i64 n) false).run Tryz.prog w5 = .ok (.pointer (some ⟨bF, 0, none⟩)) w5 := hlk
 obtain ⟨sv, mb, h7⟩ := filC_iff.1 ((h6.drop).perm (pmC2 _ _ _ _ _ hP))
 have hkc : w5.cell? ⟨bF, 0, none⟩ = some (.int .i64 F.kind) := h7.cells 0
 have HKF := hid (show kindF H.files n = F.kind from by unfold kindF; rw [hF0]; rfl)
 have hq2 : w5.cell? ⟨q, 2, none⟩ = some (.map (some bf)) := HC2.out _ _ h6
 have HN1 := hid hF0
 clear hF1 hF0 h6 hH hP hlk h7
 rw [HH.out] at HRES0
 by_cases hk2 : F.kind = 2
 ·have HRES := hid (show H0.lasts o = (H.lastAll fun e => decide (e.1 = n)).above n from by rw [HRES0.out, if_pos (by rw [HKF.out]; exact hk2)])
  have hkb : (F.kind == 2) = true := by simp [hk2]
  clear hk2
  obtain ⟨R, hR⟩ : ∃ R, R = Trc t2 H.S :: FlX bf esf clf Y :: (zC FilPC Y ++ (Mk kInt vInt bn H.nums :: Mk kInt vEnt bo H.opened :: pt g (.cells #[.int .i64 o.kind, .int .i64 o.fd, .int .i64 o.n, .int .i64 o.off, .int .i64 o.flags, sV o.path, sV o.dest, ov] 33) :: L)) := ⟨_, rfl⟩
  rw [← hR] at h1
  have HR := hid hR
  have HO := hid h1
  have HK := hid HK5.out
  obtain ⟨M, hM⟩ : ∃ M, H.marks = M := ⟨_, rfl⟩
  rw [hM] at HO HML HNODM
  have HMM := hid hM
  clear h0 h1 hX hY hCe hR hM HO5 HK5
  have hq4 := HC4.out _ _ HO.out
  go_wp2_with (at_range; refine wpList_mxStart HO.out.p1 tEm undEm rfl _ rfl rfl ?_; intro w4 hO4 hK4 hs4)
  try go_frame
  have HO4 := hid hO4
  have HK4 := hid (HK.out.trans hK4)
  clear hO4 hK4 hs4 hq4 HO HK
  generalize w5.heap.size = r at *
  generalize hr0 : (zH X).map Prod.fst = rem0 at *
  have HB0 := hid (show zB X = lastR (zB X) (fun e => decide (e.1 = n)) rem0 from by rw [← hr0, zH_keys, ← zB_keys, lastR_all])
  have HM0 := hid (show MkR (zB X) (fun e => decide (e.1 = n)) rem0 M M from by rw [← hr0, zH_keys, ← zB_keys]; exact MkR.start _ _ _)
  have HR0 := hid (show M.length + rem0.length ≤ M.length + X.length from by rw [← hr0, zH_keys, List.length_map]; exact Nat.le_refl _)
  clear hr0
  generalize (zH X).length = cnt0 at *
  go_loopw [] (fun w' => ∃ (es1 : Array MapEntry) (cl1 : Nat) (X1 : List (Ent × Slv × List Int)) (M1 : List (Int × Mrk)) (rem : List Ent) (cnt : Nat), Hid (zB X1 = lastR (zB X) (fun e => decide (e.1 = n)) rem) ∧ Hid (MkR (zB X) (fun e => decide (e.1 = n)) rem M M1) ∧ Hid (M1.length + rem.length ≤ M.length + X.length) ∧ Hid (Has w' (EtX b es1 cl1 X1 :: It kEnt vSI b r es1 cl1 rem cnt :: pt q (.cells C 142) :: Mk kInt vMrk bm M1 :: (zC EntC X1 ++ R))) ∧ Hid (Keep w w')) (fun w' => w'.rangeLeft b r)
  case atStart => exact ⟨es, cl, X, M, rem0, cnt0, HB0, HM0, HR0, HO4, HK4⟩
  case round =>
   clear HO4 HK4 HB0 HM0 HR0
   obtain ⟨es1, cl1, X1, M1, rem, cnt, HB, HM, HMR, HO, HK⟩ := hrel
   have hleft := Mx.left HO.out
   have HLF := hid hleft
   go_wp2_with (at_next; refine wpList_mxNext HO.out rfl _ rfl rfl ?_ ?_)
   ·intro hrem
    subst hrem
    have HO5 := hid (show Has _ (pt q (.cells C 142) :: EtX b es1 cl1 X1 :: Mk kInt vMrk bm M1 :: (zC EntC X1 ++ R)) from HO.out.re 4 [2, 0, 3])
    clear HO hleft HLF
    have h9 := HO5.out
    rw [HR.out, HCE.out] at h9
    have h7 := hsc_x h9
    rw [HB.out, HX.out, HY.out] at h7
    have hm := HM.out
    rw [HX.out] at hm
    have hm2 := hm.perm HNODM.out (Mk.nodup (show Has _ (Mk kInt vMrk bm M1 :: _) from HO5.out.p2))
    rw [← HMM.out] at hm2
    have HO9 := hid (show Has _ (pt g (.cells #[.int .i64 o.kind, .int .i64 o.fd, .int .i64 o.n, .int .i64 o.off, .int .i64 o.flags, sV o.path, sV o.dest, ov] 33) :: Hsc q (H.lastAll fun e => decide (e.1 = n)) :: L) from (hsc_m h7 hm2).p1)
    have HAB := hid (aAbove q (H.lastAll fun e => decide (e.1 = n)) n K rk _ _ (HOK.out.lastAll _) HW1.out HWN.out HO9.out.p1)
    clear h9 h7 hm hm2 HO5
    go_wp2_with fail
    refine HAB.out.mono ?_
    rintro e w9 ⟨rfl, h9, k9⟩
    try dsimp only
    go_wp2_with fail
    go_end0
    rw [HRES.out]
    exact ⟨rfl, h9.p1.drop, HK.out.trans k9⟩
   ·rintro d p s w5 cnt' hp hr hky hO5 hlt5 hK5 hsz hen
    obtain ⟨⟨e', s', l⟩, hpX, he⟩ := List.mem_map.1 hp
    simp only [Prod.mk.injEq] at he
    obtain ⟨rfl, rfl⟩ := he
    simp only [kEnt_val, vSI_val] at hen ⊢
    have hmB : ((d, p), l) ∈ zB X1 := List.mem_map.2 ⟨_, hpX, rfl⟩
    have hmT : ((d, p), l) ∈ zB X := lastR_mem hr (by rw [← HB.out]; exact hmB)
    have hnb : ((zB X).map Prod.fst).Nodup := by rw [zB_keys]; exact HND.out
    have hx1 : (X1.map Prod.fst) = X.map Prod.fst := by rw [← zB_keys, HB.out, lastR_keys, zB_keys]
    have HNOW := hid (show nowE (zB X1) (d, p) = lastI l from by rw [HB.out]; exact now_lastR hnb _ _ hmT)
    have HMT := hid hmT
    have HNB := hid hnb
    have HIN := hid (show (d, p) ∈ X1.map Prod.fst from by rw [hx1, ← zB_keys]; exact List.mem_map_of_mem hmT)
    have HXL := hid (show X1.length < 1000000 from by
     have e1 := congrArg List.length hx1
     rw [List.length_map, List.length_map] at e1
     have := HL.out
     omega)
    have HRL := hid (rem_less hr)
    have HWF := hid (HE.out _ hmT)
    have HO6 := hid (hO5.alloc (.cells #[.int .i64 d, sV p] 144))
    have HK6 := hid ((HK.out.trans hK5).alloc (.cells #[.int .i64 d, sV p] 144))
    have HKY := hid hky
    have HL5 := hid hlt5
    clear hp hr hky hO5 hlt5 hK5 hsz hpX hleft HO HK hmB hmT hnb hx1
    go_upto_region 24 with fail
    generalize w5.alloc (.cells #[.int .i64 d, sV p] 144) = w6 at *
    generalize w5.heap.size = g6 at *
    have hx0 : w6.cell? ⟨g6, 0, none⟩ = some (.int .i64 d) := HO6.out.cells 0
    have hx1 : w6.cell? ⟨g6, 1, none⟩ = some (sV p) := HO6.out.cells 1
    by_cases hc : d = n
    ·have HS1 := hid (show (fun e => decide (e.1 = n)) (d, p) = true from by simpa using hc)
     have hcb : (d == n) = true := by simpa using hc
     clear hc
     go_upto_region 25 with fail
     have HLS := hid (mLast q b bm cl1 es1 C X1 M1 (d, p) (some (r, rem.filter fun y => !decide (y = (d, p)), cnt')) w6 (pt g6 (.cells #[.int .i64 d, sV p] 144) :: R) HC3.out HCC.out HKY.out HIN.out HXL.out (by have := HMR.out; have := HML.out; have := HL.out; omega) (by rw [HNOW.out]; exact HWF.out.2) (HO6.out.perm (pmK _ _ _ _ _ _ _)))
     go_wp2_with fail
     refine HLS.out.mono ?_
     rintro e w8 ⟨rfl, ⟨es2, cl2, X2, hB2, h8⟩, k8⟩
     have HB2 := hid (show zB X2 = lastR (zB X) (fun e => decide (e.1 = n)) (rem.filter fun y => !decide (y = (d, p))) from by rw [hB2, HB.out]; exact lastR_yes HNB.out HMT.out HS1.out)
     have HM2 := hid (show MkR (zB X) (fun e => decide (e.1 = n)) (rem.filter fun y => !decide (y = (d, p))) M (markE (zB X1) M1 (d, p)) from by rw [HB.out]; exact HM.out.step HNB.out HMT.out HS1.out)
     have HO8 := hid (show Has w8 (pt g6 (.cells #[.int .i64 d, sV p] 144) :: EtX b es2 cl2 X2 :: It kEnt vSI b r es2 cl2 (rem.filter fun y => !decide (y = (d, p))) cnt' :: pt q (.cells C 142) :: Mk kInt vMrk bm (markE (zB X1) M1 (d, p)) :: (zC EntC X2 ++ R)) from h8.perm (pmK _ _ _ _ _ _ _).symm)
     have HK8 := hid (HK6.out.trans k8)
     have hleft8 := Mx.left HO8.out.drop
     clear hB2 h8 k8 HO6 HK6 HLS hx0 hx1
     try dsimp only
     go_wp2_with fail
     exact ⟨⟨es2, cl2, X2, _, _, cnt', HB2, HM2, hid (by have := HMR.out; have := HRL.out; have := markE_len (zB X1) M1 (d, p); omega), hid HO8.out.drop, HK8⟩, by rw [hleft8, HLF.out]; exact HL5.out⟩
    ·have HS0 := hid (show (fun e => decide (e.1 = n)) (d, p) = false from by simpa using hc)
     have hcb : (d == n) = false := by simpa using hc
     have hleft6 := Mx.left HO6.out.drop
     clear hc
     go_wp2_with fail
     exact ⟨⟨es1, cl1, X1, M1, _, cnt', hid (HB.out.trans (lastR_no HS0.out)), hid (HM.out.skip HS0.out), hid (by have := HMR.out; have := HRL.out; omega), hid HO6.out.drop, HK6⟩, by rw [hleft6, HLF.out]; exact HL5.out⟩
 ·have HRES := hid (show H0.lasts o = _ from by rw [HRES0.out, if_neg (by rw [HKF.out]; exact hk2)])
  have hkb : (F.kind == 2) = false := by simp [hk2]
  clear hk2
  have HNOP := hid HNW.out.2
  have HNWE := hid HNW.out.1
  clear HNW
  obtain ⟨⟨ed, ep⟩, hee⟩ : ∃ e, (fnd H.opened o.fd).getD (0, []) = e := ⟨_, rfl⟩
  have HLO := hid (fun (w : World) (L' : List HP) (h : Has w (Mk kInt vEnt bo H.opened :: L')) => (show (Instr.lookup tOm (.map (some bo)) (.int .i64 o.fd) true).run Tryz.prog w = .ok (.tuple #[.agg #[.int .i64 ed, sV ep], .bool (fnd H.opened o.fd).isSome]) w from by
   have h1 := Mk.look (V := vEnt) h undOm HFDW.out
   rw [fnd_is] at h1
   have h2 : (Instr.lookup tOm (.map (some bo)) (.int .i64 o.fd) true).run Tryz.prog w = .ok (.tuple #[entV ((fnd H.opened o.fd).getD (0, [])), .bool (fnd H.opened o.fd).isSome]) w := h1
   rw [hee] at h2
   exact h2))
  have HEE := hid hee
  clear hee
  have h00 := h0.re 8 [7, 0, 6, 1, 2, 3, 4, 5]
  go_upto_region 27 with fail
  have HO7 := hid h00.drew
  have HK7 := hid HK5.out.drew
  refine region_text (fun w' => w'.cell? ⟨q, 5, none⟩ = some (.map (some bo)) ∧ w'.cell? ⟨g, 1, none⟩ = some (.int .i64 o.fd) ∧ (Instr.lookup tOm (.map (some bo)) (.int .i64 o.fd) true).run Tryz.prog w' = .ok (.tuple #[.agg #[.int .i64 ed, sV ep], .bool (fnd H.opened o.fd).isSome]) w') (by kernel_rfl) (by kernel_rfl) ⟨HO7.out.p1.cells 5, HO7.out.cells 1, HLO.out _ _ HO7.out.p2⟩ ?_
  clear h00 h0 h1 HO5 HK5 hq2 hlk2 hkc
  generalize w5.drew = w6 at *
  repeat (first | refine wr3 ?_ | refine wk ?_)
  refine wa fun K hK => ?_
  go_simp
  have HOa := hid (show Has (w6.alloc (.cells #[.int .i64 0, .string { data := #[] }] 144)) (pt w6.heap.size (.cells #[.int .i64 0, .string { data := #[] }] 144) :: pt g (.cells #[.int .i64 o.kind, .int .i64 o.fd, .int .i64 o.n, .int .i64 o.off, .int .i64 o.flags, sV o.path, sV o.dest, ov] 33) :: pt q (.cells (hC t2 bn bf bm b bo) 142) :: Mk kInt vEnt bo H.opened :: Trc t2 H.S :: Mk kInt vInt bn H.nums :: Flz bf H.files :: Mk kInt vMrk bm H.marks :: Ety b H.ents :: L) from HO7.out.alloc _)
  have HKa := hid (HK7.out.alloc (.cells #[.int .i64 0, .string { data := #[] }] 144))
  refine hK.out _ _ ⟨HOa.out.p2.cells 5, HOa.out.p1.cells 1, HLO.out _ _ HOa.out.p3⟩ ?_
  clear hK K HO7 HK7
  try simp only [Act.put, List.setIfInBounds_toArray, List.set_cons_zero, List.set_cons_succ]
  generalize w6.alloc (.cells #[.int .i64 0, .string { data := #[] }] 144) = wZ9 at *
  generalize w6.heap.size = g7 at *
  repeat (first | refine wr3 ?_ | refine wk ?_)
  have hb0 := HOa.out.thaw 0
  have hb1 := HOa.out.thaw 1
  have ha0 : wZ9.cell? ⟨g7, 0, none⟩ = some (.int .i64 0) := HOa.out.cells 0
  have ha1 : wZ9.cell? ⟨g7, 1, none⟩ = some (.string { data := #[] }) := HOa.out.cells 1
  refine wa fun K hK => ?_
  go_simp
  have HO8 := hid (show Has ((wZ9.setCell ⟨g7, 0, none⟩ (.int .i64 ed)).setCell ⟨g7, 1, none⟩ (sV ep)) (pt g7 (.cells #[.int .i64 ed, sV ep] 144) :: pt g (.cells #[.int .i64 o.kind, .int .i64 o.fd, .int .i64 o.n, .int .i64 o.off, .int .i64 o.flags, sV o.path, sV o.dest, ov] 33) :: pt q (.cells (hC t2 bn bf bm b bo) 142) :: Mk kInt vEnt bo H.opened :: Trc t2 H.S :: Mk kInt vInt bn H.nums :: Flz bf H.files :: Mk kInt vMrk bm H.marks :: Ety b H.ents :: L) from (HOa.out.set 0 _).set 1 _)
  have HK8 := hid ((HKa.out.set ⟨g7, 0, none⟩ (.int .i64 ed)).set ⟨g7, 1, none⟩ (sV ep))
  refine hK.out _ _ ⟨HO8.out.p2.cells 5, HO8.out.p1.cells 1, HLO.out _ _ HO8.out.p3⟩ ?_
  clear hK K HOa HKa ha0 ha1 hb0 hb1
  try simp only [Act.put, List.setIfInBounds_toArray, List.set_cons_zero, List.set_cons_succ]
  generalize (wZ9.setCell ⟨g7, 0, none⟩ (.int .i64 ed)).setCell ⟨g7, 1, none⟩ (sV ep) = w8 at *
  repeat (first | refine wr3 ?_ | refine wk ?_)
  refine wpL_nil ?_
  have HO9 := hid (show Has w8 (Hsc q H :: pt g7 (.cells #[.int .i64 ed, sV ep] 144) :: pt g (.cells #[.int .i64 o.kind, .int .i64 o.fd, .int .i64 o.n, .int .i64 o.off, .int .i64 o.flags, sV o.path, sV o.dest, ov] 33) :: L) from hsc_iff.2 ⟨t2, bn, bf, bm, b, bo, HO8.out.re 9 [2, 4, 5, 6, 7, 8, 3, 0, 1]⟩)
  clear HO8
  rcases hop : fnd H.opened o.fd with _ | e
  ·have HRES2 := hid (show H0.lasts o = H from by rw [HRES.out, HNOP.out.symm, hop])
   clear hop
   dsimp only [Option.isSome]
   go_wp2_with fail
   go_end0
   rw [HRES2.out]
   exact ⟨rfl, HO9.out.drop2, HK8.out⟩
  ·have he : e = (ed, ep) := by have := HEE.out; rw [hop] at this; exact this
   subst he
   have HRES2 := hid (show H0.lasts o = if nowE H.ents (ed, ep) = n then (H.lastOne (ed, ep)).above ed else H from by rw [HRES.out, HNOP.out.symm, hop, HNWE.out])
   have HOKE := hid (HOK.out.op _ (fnd_some hop))
   clear hop
   dsimp only [Option.isSome]
   have he0 : w8.cell? ⟨g7, 0, none⟩ = some (.int .i64 ed) := HO9.out.p1.cells 0
   have he1 : w8.cell? ⟨g7, 1, none⟩ = some (sV ep) := HO9.out.p1.cells 1
   have HNO := hid (aNow q H (ed, ep) w8 _ HOKE.out HO9.out)
   go_wp2_with fail
   refine HNO.out.mono ?_
   rintro e w9 ⟨rfl, h9, k9⟩
   have HO10 := hid h9
   have HK10 := hid (HK8.out.trans k9)
   clear h9 k9 HO9 HK8 HNO he0 he1
   try dsimp only
   by_cases hne : nowE H.ents (ed, ep) = n
   ·rw [hne]
    have HIN := hid (show (ed, ep) ∈ H.ents.map Prod.fst from by
     refine Classical.byContradiction fun hx => HN0.out ?_
     rw [← hne]
     unfold nowE
     rw [fnd_none.2 hx]
     rfl)
    rw [if_pos hne] at HRES2
    clear hne
    have he0 : w9.cell? ⟨g7, 0, none⟩ = some (.int .i64 ed) := HO10.out.p1.cells 0
    have he1 : w9.cell? ⟨g7, 1, none⟩ = some (sV ep) := HO10.out.p1.cells 1
    have HLA := hid (aLast q H (ed, ep) K w9 _ HOK.out HIN.out HO10.out)
    go_wp2_with fail
    refine HLA.out.mono ?_
    rintro e w10 ⟨rfl, h10, k10⟩
    have HO11 := hid h10
    have HK11 := hid (HK10.out.trans k10)
    clear h10 k10 HO10 HK10 HLA he0 he1
    try dsimp only
    have he0 : w10.cell? ⟨g7, 0, none⟩ = some (.int .i64 ed) := HO11.out.p1.cells 0
    have HAB := hid (aAbove q (H.lastOne (ed, ep)) ed K rk w10 _ (HOK.out.lastOne HIN.out HNDE.out) HW1.out HOKE.out.1 HO11.out)
    go_wp2_with fail
    refine HAB.out.mono ?_
    rintro e w11 ⟨rfl, h11, k11⟩
    try dsimp only
    go_wp2_with fail
    go_end0
    rw [HRES2.out]
    exact ⟨rfl, h11.drop2, HK11.out.trans k11⟩
   ·rw [if_neg hne] at HRES2
    have hnb : (nowE H.ents (ed, ep) == n) = false := by simpa using hne
    clear hne
    generalize nowE H.ents (ed, ep) = z at *
    go_wp2_with fail
    go_end0
    rw [HRES2.out]
    exact ⟨rfl, HO10.out.drop2, HK10.out⟩
structure LastsOk (H : His) (o : Opm) : Prop where
 file : o.kind = 19 ∨ o.kind = 20 ∨ ((o.kind = 4 ∨ o.kind = 6) ∧ andI (Tb.get H.S.tab o.fd).1.flags 16 ≠ 0) → ∃ F, fnd H.files (H.fdN o.fd) = some F
 ne0 : o.kind = 19 → H.fdN o.fd ≠ 0
 wf : (Lit.int .i64 o.fd).wf = true
theorem mLasts (q : Nat) (H : His) (o : Opm) (ov : Value) (K : Nat) (rk : Int → Nat) (w : World) (L : List HP) (hok : HisOk H K) (hW : Wy H.S rk) (hl : LastsOk H o) (hO : Has w (Hsc q H :: L)) :
  Calls Tryz.prog 103 #[.pointer (some ⟨q, 0, none⟩), opV o ov] w fun e' w' => e' = .returned (.tuple #[]) ∧ Has w' (Hsc q (H.lasts o) :: L) ∧ Keep w w' := by
 by_cases h19 : o.kind = 19
 ·exact mLastsF q H o ov K rk w L hok hW h19 (hl.file (.inl h19)) (hl.ne0 h19) hl.wf hO
 by_cases h20 : o.kind = 20
 ·have e : H.lasts o = H.firm (H.fdN o.fd) := by unfold His.lasts; rw [if_neg (by rw [h20]; decide), if_neg (by rw [h20]; decide), if_pos h20]
  rw [e]
  exact mLastsT q H o ov K rk w L hok hW (.inl h20) (hl.file (.inr (.inl h20))) hO
 by_cases h21 : o.kind = 21
 ·have e : H.lasts o = (H.lastAll fun _ => true).firmAll := by unfold His.lasts; rw [if_pos h21]
  rw [e]
  exact mLastsS q H o ov K rk w L hok hW h21 hO
 by_cases h46 : o.kind = 4 ∨ o.kind = 6
 ·by_cases hf : andI (Tb.get H.S.tab o.fd).1.flags 16 = 0
  ·have e : H.lasts o = H := by unfold His.lasts; rw [if_neg h21, if_pos h46, if_neg (fun h => h hf)]
   rw [e]
   exact mLastsN q H o ov K rk w L hok hW (.inl ⟨h46, hf⟩) hO
  ·have e : H.lasts o = H.firm (H.fdN o.fd) := by unfold His.lasts; rw [if_neg h21, if_pos h46, if_pos hf]
   rw [e]
   exact mLastsT q H o ov K rk w L hok hW (.inr ⟨h46, hf⟩) (hl.file (.inr (.inr ⟨h46, hf⟩))) hO
 ·have e : H.lasts o = H := by unfold His.lasts; rw [if_neg h21, if_neg h46, if_neg h20, if_neg h19]
  rw [e]
  exact mLastsN q H o ov K rk w L hok hW (.inr ⟨fun h => h46 (.inl h), fun h => h46 (.inr h), h19, h20, h21⟩) hO
end Go.Proofs.YtmgpgbfgemebbaaGreatDoor
namespace Go.Proofs.YtmgpgbfgemebbaaGreatDoor
open Go.RowKit Go.Own
set_option maxRecDepth 100000 in
theorem cmpOrI (g : Nat) (a b : Int) (w : World) (h0 : w.cell? ⟨g, 0, none⟩ = some (.int .i64 a)) (h1 : w.cell? ⟨g, 1, none⟩ = some (.int .i64 b)) : Calls Tryz.prog 211 #[.slice (some ⟨g, 0, none⟩) 2 2] w fun e w' => e = .returned (.int .i64 (if a = 0 then b else a)) ∧ w = w' := by
 obtain ⟨z, hz⟩ : ∃ z, (if a = 0 then b else a) = z := ⟨_, rfl⟩
 rw [hz]
 have HZ := hid hz
 clear hz
 go_enter Tryz.func211, Tryz.ntmps211
 go_wp2_with fail
 go_loopw [8] (fun kv w' => w' = w ∧ ((kv = .int .i64 0) ∨ (kv = .int .i64 1 ∧ Hid (a = 0)) ∨ (kv = .int .i64 2 ∧ Hid (z = 0)))) (fun kv _ => 2 - (intOf kv).toNat)
 case atStart => exact ⟨rfl, .inl rfl⟩
 case round =>
  obtain ⟨rfl, rfl | ⟨rfl, ha⟩ | ⟨rfl, hz⟩⟩ := hrel
  ·by_cases hp : a = 0
   ·have hb : (a != 0) = false := by simp [hp]
    have HP := hid hp
    clear hp
    go_wp2_with fail
    exact ⟨⟨trivial, .inr (.inl ⟨rfl, HP⟩)⟩, by simp [intOf]⟩
   ·have hb : (a != 0) = true := by simp [hp]
    have HR := hid (show z = a from by rw [← HZ.out, if_neg hp])
    clear hp
    go_wp2_with fail
    try rw [Exit.noGoto_ret]
    go_ret
    rw [HR.out]
    exact ⟨rfl, rfl⟩
  ·have HR := hid (show z = b from by rw [← HZ.out, if_pos ha.out])
   by_cases hp : b = 0
   ·have hb : (b != 0) = false := by simp [hp]
    have HP := hid (HR.out.trans hp)
    clear hp
    go_wp2_with fail
    exact ⟨⟨trivial, .inr (.inr ⟨rfl, HP⟩)⟩, by simp [intOf]⟩
   ·have hb : (b != 0) = true := by simp [hp]
    clear hp
    go_wp2_with fail
    try rw [Exit.noGoto_ret]
    go_ret
    rw [HR.out]
    exact ⟨rfl, rfl⟩
  ·go_wp2_with fail
   try rw [Exit.noGoto_ret]
   go_ret
   rw [hz.out]
   exact ⟨rfl, rfl⟩
def youngM (N : List (Int × Int)) (num : Int) : Int := N.foldl (fun y x => if x.2 = num then max y x.1 else y) 0
structure YoR (N : List (Int × Int)) (num : Int) (rem : List Int) (y : Int) : Prop where
 pos : 0 ≤ y
 all : ∀ x ∈ N, x.1 ∉ rem → x.2 = num → x.1 ≤ y
 one : y = 0 ∨ ∃ x ∈ N, x.1 ∉ rem ∧ x.2 = num ∧ x.1 = y
theorem young_fold (num : Int) : ∀ (u : List (Int × Int)) (s : Int), s ≤ u.foldl (fun y x => if x.2 = num then max y x.1 else y) s ∧ (∀ x ∈ u, x.2 = num → x.1 ≤ u.foldl (fun y x => if x.2 = num then max y x.1 else y) s) ∧ (u.foldl (fun y x => if x.2 = num then max y x.1 else y) s = s ∨ ∃ x ∈ u, x.2 = num ∧ x.1 = u.foldl (fun y x => if x.2 = num then max y x.1 else y) s)
 | [], s => ⟨Int.le_refl _, fun x hx => (List.not_mem_nil hx).elim, .inl rfl⟩
 | x :: u, s => by
  rw [List.foldl_cons]
  obtain ⟨h1, h2, h3⟩ := young_fold num u (if x.2 = num then max s x.1 else s)
  generalize u.foldl (fun y x => if x.2 = num then max y x.1 else y) (if x.2 = num then max s x.1 else s) = r at *
  by_cases hx : x.2 = num
  ·rw [if_pos hx] at h1 h3
   refine ⟨by omega, fun y hy hn => ?_, ?_⟩
   ·rcases List.mem_cons.1 hy with rfl | hy
    ·omega
    ·exact h2 y hy hn
   ·rcases h3 with h3 | ⟨y, hy, hn⟩
    ·by_cases hs : s = r
     ·exact .inl hs.symm
     ·exact .inr ⟨x, List.mem_cons_self, hx, by omega⟩
    ·exact .inr ⟨y, List.mem_cons_of_mem _ hy, hn⟩
  ·rw [if_neg hx] at h1 h3
   refine ⟨h1, fun y hy hn => ?_, ?_⟩
   ·rcases List.mem_cons.1 hy with rfl | hy
    ·exact absurd hn hx
    ·exact h2 y hy hn
   ·rcases h3 with h3 | ⟨y, hy, hn⟩
    ·exact .inl h3
    ·exact .inr ⟨y, List.mem_cons_of_mem _ hy, hn⟩
theorem YoR.eq {N : List (Int × Int)} {num y : Int} (h : YoR N num [] y) : y = youngM N num := by
 obtain ⟨h1, h2, h3⟩ := young_fold num N 0
 have e1 : youngM N num ≤ y := by
  rcases h3 with h3 | ⟨x, hx, hn, he⟩
  ·exact Int.le_trans (Int.le_of_eq h3) h.pos
  ·rw [show youngM N num = x.1 from he.symm]
   exact h.all x hx (by simp) hn
 have e2 : y ≤ youngM N num := by
  rcases h.one with h4 | ⟨x, hx, -, hn, he⟩
  ·rw [h4]; exact h1
  ·rw [← he]; exact h2 x hx hn
 omega
theorem YoR.start (N : List (Int × Int)) (num : Int) : YoR N num (N.map Prod.fst) 0 :=
 ⟨Int.le_refl _, fun x hx h => absurd (List.mem_map_of_mem hx) h, .inl rfl⟩
theorem YoR.step {N : List (Int × Int)} (hnd : (N.map Prod.fst).Nodup) {num y k x : Int} {rem : List Int} (h : YoR N num rem y) (hm : (k, x) ∈ N) : YoR N num (rem.filter fun z => !decide (z = k)) (if x = num then max y k else y) := by
 have key : ∀ z : Int × Int, z ∈ N → z.1 ∉ (rem.filter fun z => !decide (z = k)) → z.1 ∉ rem ∨ z = (k, x) := by
  intro z hz hr
  by_cases hzk : z.1 = k
  ·right
   have e1 := fnd_mem hnd hz
   rw [hzk, fnd_mem hnd hm] at e1
   exact Prod.ext hzk (Option.some.inj e1).symm
  ·left
   exact fun h => hr (List.mem_filter.2 ⟨h, by simp [hzk]⟩)
 have hk : k ∉ rem.filter fun z => !decide (z = k) := by rw [List.mem_filter]; simp
 have sub : ∀ z : Int, z ∉ rem → z ∉ rem.filter fun z => !decide (z = k) := fun z h1 h2 => h1 (List.mem_filter.1 h2).1
 have h0 := h.pos
 by_cases hx : x = num
 ·rw [if_pos hx]
  refine ⟨by omega, fun z hz hr hn => ?_, ?_⟩
  ·rcases key z hz hr with h1 | rfl
   ·have := h.all z hz h1 hn; omega
   ·dsimp only; omega
  ·by_cases hyk : y ≤ k
   ·by_cases h9 : k = 0
    ·left; omega
    ·right; exact ⟨(k, x), hm, hk, hx, by dsimp only; omega⟩
   ·rcases h.one with h1 | ⟨z, hz, h1, h2, h3⟩
    ·left; omega
    ·right; exact ⟨z, hz, sub _ h1, h2, by omega⟩
 ·rw [if_neg hx]
  refine ⟨h0, fun z hz hr hn => ?_, ?_⟩
  ·rcases key z hz hr with h1 | rfl
   ·exact h.all z hz h1 hn
   ·exact absurd hn hx
  ·rcases h.one with h1 | ⟨z, hz, h1, h2, h3⟩
   ·exact .inl h1
   ·exact .inr ⟨z, hz, sub _ h1, h2, h3⟩
abbrev tNu : TypeId := 133
theorem undNu : Tryz.prog.underlying tNu = some (.map tInt tInt) := by kernel_rfl
set_option maxRecDepth 100000 in
set_option maxHeartbeats 8000000 in
theorem mYoungest (q b : Nat) (C : Array Value) (N : List (Int × Int)) (num : Int) (w : World) (L : List HP) (hC : C[1]? = some (.map (some b))) (hO : Has w (pt q (.cells C 142) :: Mk kInt vInt b N :: L)) :
  Calls Tryz.prog 212 #[.pointer (some ⟨q, 0, none⟩), .int .i64 num] w fun e' w' => e' = .returned (.int .i64 (youngM N num)) ∧ Has w' (pt q (.cells C 142) :: Mk kInt vInt b N :: L) ∧ Keep w w' := by
 have hq1 : w.cell? ⟨q, 1, none⟩ = some (.map (some b)) := (hO.cells 1).trans hC
 have HND := hid (show (N.map Prod.fst).Nodup from Mk.nodup hO.drop)
 have HO := hid (show Has w (Mk kInt vInt b N :: pt q (.cells C 142) :: L) from hO.p1)
 clear hO hC
 go_enter Tryz.func212, Tryz.ntmps212
 go_wp2_with (at_range; refine wpList_mkStart HO.out tNu undNu rfl _ rfl rfl ?_; intro w4 hO4 hK4 hs4)
 try go_frame
 have HO4 := hid hO4
 have HK4 := hid hK4
 clear hO4 hK4 hs4 hq1 HO
 generalize w.heap.size = r at *
 have HS0 := hid (YoR.start N num)
 generalize N.map Prod.fst = rem0 at HO4 HS0 ⊢
 generalize N.length = cnt0 at HO4 ⊢
 go_loopw [5] (fun cv w' => ∃ (rem : List Int) (cnt : Nat) (y : Int), cv = .int .i64 y ∧ Hid (YoR N num rem y) ∧ Hid (Has w' (Mr kInt vInt b r N rem cnt :: pt q (.cells C 142) :: L)) ∧ Hid (Keep w w')) (fun _ w' => w'.rangeLeft b r)
 case atStart => exact ⟨rem0, cnt0, 0, rfl, HS0, HO4, HK4⟩
 case round =>
  clear HO4 HK4 HS0
  obtain ⟨rem, cnt, y, rfl, HY, HO, HK⟩ := hrel
  have hleft := Mr.left HO.out
  have HLF := hid hleft
  go_wp2_with (at_next; refine wpList_mkNext HO.out rfl _ rfl rfl ?_ ?_)
  ·intro hrem
   subst hrem
   have HO5 := hid (Mr.end HO.out)
   clear HO hleft
   go_wp2_with fail
   go_ret
   rw [HY.out.eq]
   exact ⟨rfl, HO5.out.p1, HK.out⟩
  ·rintro k x w5 cnt' hp hr hky hO5 hlt5 hK5 hsz hen
   simp only [kInt_val, vInt_val] at hen ⊢
   have HST := hid (HY.out.step HND.out hp)
   have HO6 := hid hO5
   have HK6 := hid (HK.out.trans hK5)
   have HL5 := hid hlt5
   have hleft6 := Mr.left HO6.out
   clear hp hr hky hO5 hlt5 hK5 hsz hleft HO HK
   by_cases hq : x = num
   ·have hqb : (x == num) = true := by simp [hq]
    rw [if_pos hq] at HST
    clear hq
    go_wp2_with fail
    exact ⟨⟨_, cnt', _, rfl, HST, HO6, HK6⟩, by rw [hleft6, HLF.out]; exact HL5.out⟩
   ·have hqb : (x == num) = false := by simp [hq]
    rw [if_neg hq] at HST
    clear hq
    go_wp2_with fail
    exact ⟨⟨_, cnt', y, rfl, HST, HO6, HK6⟩, by rw [hleft6, HLF.out]; exact HL5.out⟩
def nodeM (N : List (Int × Int)) (num : Int) : Int := if num < 1 then 0 else if youngM N num = 0 then youngM N 0 else youngM N num
set_option maxRecDepth 100000 in
set_option maxHeartbeats 8000000 in
theorem mNode (q b : Nat) (C : Array Value) (N : List (Int × Int)) (num : Int) (w : World) (L : List HP) (hC : C[1]? = some (.map (some b))) (hO : Has w (pt q (.cells C 142) :: Mk kInt vInt b N :: L)) :
  Calls Tryz.prog 157 #[.pointer (some ⟨q, 0, none⟩), .int .i64 num] w fun e' w' => e' = .returned (.int .i64 (nodeM N num)) ∧ Has w' (pt q (.cells C 142) :: Mk kInt vInt b N :: L) ∧ Keep w w' := by
 by_cases hn : num < 1
 ·have HR := hid (show nodeM N num = 0 from if_pos hn)
  have HO := hid hO
  clear hO
  go_enter Tryz.func157, Tryz.ntmps157
  go_wp2_with fail
  go_ret
  rw [HR.out]
  exact ⟨rfl, HO.out, Keep.refl w⟩
 ·have HR := hid (show nodeM N num = if youngM N num = 0 then youngM N 0 else youngM N num from if_neg hn)
  have hnb : ¬ num < 1 := hn
  have HO := hid hO
  have HC := hid hC
  clear hO hC hn
  have H1 := hid (mYoungest q b C N num w L HC.out HO.out)
  go_enter Tryz.func157, Tryz.ntmps157
  go_wp2_with fail
  refine H1.out.mono ?_
  rintro e w1 ⟨rfl, h1, k1⟩
  have HO1 := hid h1
  have HK1 := hid k1
  have H2 := hid (mYoungest q b C N 0 w1 L HC.out HO1.out)
  clear h1 k1 HO H1
  try dsimp only
  generalize youngM N num = a at *
  generalize youngM N 0 = c at *
  go_wp2_with fail
  refine H2.out.mono ?_
  rintro e w2 ⟨rfl, h2, k2⟩
  have HO2 := hid (h2.alloc (.cells #[.int .i64 a, .int .i64 c] 3))
  have HK2 := hid ((HK1.out.trans k2).alloc (.cells #[.int .i64 a, .int .i64 c] 3))
  clear h2 k2 HO1 HK1 H2
  try dsimp only
  have H3 := hid (cmpOrI w2.heap.size a c (w2.alloc (.cells #[.int .i64 a, .int .i64 c] 3)) (HO2.out.cells 0) (HO2.out.cells 1))
  obtain ⟨z, hz⟩ : ∃ z, (if a = 0 then c else a) = z := ⟨_, rfl⟩
  rw [hz] at H3 HR
  clear hz
  go_wp2_with fail
  refine H3.out.mono ?_
  rintro e w' ⟨rfl, rfl⟩
  try dsimp only
  go_wp2_with fail
  go_ret
  rw [HR.out]
  exact ⟨rfl, HO2.out.drop, HK2.out⟩
end Go.Proofs.YtmgpgbfgemebbaaGreatDoor
namespace Go.Proofs.YtmgpgbfgemebbaaGreatDoor
open Go.RowKit Go.Own
def lastIxN (s : Str) : Nat → Int
 | 0 => -1
 | k + 1 => if s[k]? = some 47 then (k : Int) else lastIxN s k
def lastIx (s : Str) : Int := lastIxN s s.length
theorem sBm_take (l : Str) (n : Nat) : (sB l).extract 0 n = sB (l.take n) := by
 apply ByteArray.ext
 simp [sB, ByteArray.data_extract]
theorem sBm_drop (l : Str) (k : Nat) : (sB l).extract k l.length = sB (l.drop k) := by
 apply ByteArray.ext
 simp [sB, ByteArray.data_extract, List.extract_toArray, List.extract_eq_take_drop]
 rw [List.take_of_length_le (by simp)]
theorem sBm_size (s : Str) : (sB s).size = s.length := by simp [sB, ByteArray.size]
theorem sBm_at (s : Str) (k : Nat) (h : k < (sB s).size) (h' : k < s.length) : (sB s)[k] = s[k] := by
 show (sB s).data[k] = _
 simp [sB]
theorem ba_loopM (bs : ByteArray) : ∀ (n i : Nat) (r : List UInt8), bs.size - i = n → ByteArray.toList.loop bs i r = r.reverse ++ bs.data.toList.drop i := by
 intro n
 have hs : bs.size = bs.data.toList.length := by show bs.data.size = _; rw [Array.length_toList]
 induction n with
 | zero =>
  intro i r h
  rw [ByteArray.toList.loop, if_neg (by omega), List.drop_eq_nil_of_le (by omega), List.append_nil]
 | succ n ih =>
  intro i r h
  have hi : i < bs.data.toList.length := by omega
  have hi2 : i < bs.data.size := by rw [Array.length_toList] at hi; exact hi
  have hg : bs.get! i = bs.data.toList[i] := by
   show bs.data[i]! = _
   rw [getElem!_pos bs.data i hi2, Array.getElem_toList]
  rw [ByteArray.toList.loop, if_pos (by omega), ih (i + 1) _ (by omega), List.reverse_cons, List.append_assoc, List.drop_eq_getElem_cons hi, hg, List.cons_append, List.nil_append]
theorem ba_toListM (bs : ByteArray) : bs.toList = bs.data.toList := by
 rw [ByteArray.toList, ba_loopM bs _ 0 [] rfl]
 try rfl
theorem sBm_toList (s : Str) : (sB s).toList = s := by
 rw [ba_toListM]
 try rfl
set_option maxRecDepth 100000 in
theorem mLastIx0 (s : Str) (w : World) (hs : s.length ≤ 100000) : Calls Tryz.prog 223 #[sV s, .int .u8 47] w fun e w' => e = .returned (.int .i64 (lastIx s)) ∧ w = w' := by
 obtain ⟨P, hP⟩ : ∃ P, sB s = P := ⟨_, rfl⟩
 have hsz : P.size = s.length := by rw [← hP, sBm_size]
 have hP1 : (P.size : Int) ≤ 100000 := by omega
 have HSZ := hid hsz
 have HP := hid hP
 rw [show sV s = .string P from by rw [← hP]]
 obtain ⟨z0, hz0⟩ : ∃ z, lastIx s = z := ⟨_, rfl⟩
 rw [hz0]
 have HZ0 := hid hz0
 clear hP hs hsz hz0
 go_enter Tryz.func223, Tryz.ntmps223
 go_wp2_with fail
 go_loopw [5] (fun i w' => w' = w ∧ ∃ z : Int, i = .int .i64 z ∧ ((z = -1 ∧ Hid (z0 = -1)) ∨ ∃ j : Nat, z = (j : Int) ∧ j < P.size ∧ Hid (z0 = lastIxN s (j + 1)))) (fun i _ => ((intOf i) + 1).toNat)
 case atStart =>
  refine ⟨rfl, _, rfl, ?_⟩
  rcases Nat.eq_zero_or_pos P.size with h | h
  ·left
   rw [h]
   refine ⟨by rfl, hid ?_⟩
   rw [← HZ0.out]; unfold lastIx; rw [← HSZ.out, h]; rfl
  ·right
   refine ⟨P.size - 1, by first | (go_num; done) | (go_num; omega), by omega, hid ?_⟩
   rw [← HZ0.out]; unfold lastIx; rw [← HSZ.out, show P.size - 1 + 1 = P.size from by omega]
 case round =>
  obtain ⟨rfl, z, rfl, ⟨rfl, hz⟩ | ⟨j, rfl, hj, hz⟩⟩ := hrel
  ·go_wp2_with fail
   try rw [Exit.noGoto_ret]
   go_ret
   rw [hz.out]
   exact ⟨rfl, rfl⟩
  ·have hj0 : (0 : Int) ≤ (j : Int) := by omega
   have hj1 : (j : Int) < (P.size : Int) := by omega
   have hjs : j < s.length := by have := HSZ.out; omega
   obtain ⟨c, hsc⟩ : ∃ c, s[j]? = some c := ⟨_, List.getElem?_eq_getElem hjs⟩
   have hb : P[j] = c := by
    have h := sBm_at s j (by rw [HP.out]; exact hj) hjs
    simp only [HP.out] at h
    rw [h]
    rw [List.getElem?_eq_getElem hjs] at hsc
    exact Option.some.inj hsc
   have HB := hid hb
   have HSC := hid hsc
   clear hsc hb hjs
   by_cases hc : c = 47
   ·have hch : ((P[j].toNat : Int) == 47) = true := by rw [HB.out, hc]; rfl
    have HR := hid (show z0 = (j : Int) from by rw [hz.out]; show (if s[j]? = some 47 then (j : Int) else lastIxN s j) = _; rw [if_pos (by rw [HSC.out, hc])])
    clear hc
    go_wp2_with fail
    try rw [Exit.noGoto_ret]
    go_ret
    rw [HR.out]
    exact ⟨rfl, rfl⟩
   ·have hch : ((P[j].toNat : Int) == 47) = false := by
     rw [HB.out]
     simp only [beq_eq_false_iff_ne, ne_eq]
     intro e3
     exact hc (UInt8.toNat_inj.1 (by show _ = (47 : UInt8).toNat; have : (47 : UInt8).toNat = 47 := rfl; omega))
    have HR := hid (show z0 = lastIxN s j from by rw [hz.out]; show (if s[j]? = some 47 then (j : Int) else lastIxN s j) = _; rw [if_neg (by rw [HSC.out]; simpa using hc)])
    have HJ := hid hj
    clear hc
    go_wp2_with fail
    rcases j with _ | i
    ·exact ⟨⟨trivial, -1, rfl, .inl ⟨rfl, hid (by rw [HR.out]; rfl)⟩⟩, by simp [intOf]⟩
    ·exact ⟨⟨trivial, (i : Int), by go_num, .inr ⟨i, rfl, by have := HJ.out; omega, HR⟩⟩, by simp [intOf]; omega⟩
theorem mLastIx (s : Str) (w : World) (hs : s.length ≤ 100000) : Calls Tryz.prog 170 #[sV s, .int .u8 47] w fun e w' => e = .returned (.int .i64 (lastIx s)) ∧ w = w' := by
 have H := hid (mLastIx0 s w hs)
 clear hs
 go_enter Tryz.func170, Tryz.ntmps170
 go_wp2_with fail
 refine H.out.mono ?_
 rintro e w' ⟨rfl, rfl⟩
 try dsimp only
 go_wp2_with fail
 go_ret
 exact ⟨rfl, rfl⟩
def partedM (p : Str) : Str × Str × Bool :=
 if lastIx p < 0 ∨ lastIx p = (p.length : Int) - 1 then ([], [], false)
 else if lastIx p = 0 then ([47], p.drop 1, true)
 else (p.take (lastIx p).toNat, p.drop ((lastIx p).toNat + 1), decide (p.take (lastIx p).toNat ≠ [47]))
theorem lastIxN_lt (s : Str) : ∀ k : Nat, -1 ≤ lastIxN s k ∧ lastIxN s k < (k : Int)
 | 0 => by show -1 ≤ (-1 : Int) ∧ (-1 : Int) < 0; omega
 | k + 1 => by
  show -1 ≤ (if s[k]? = some 47 then (k : Int) else lastIxN s k) ∧ (if s[k]? = some 47 then (k : Int) else lastIxN s k) < _
  have := lastIxN_lt s k
  split <;> omega
set_option maxRecDepth 100000 in
set_option maxHeartbeats 8000000 in
theorem mParted (p : Str) (w : World) (hs : p.length ≤ 100000) : Calls Tryz.prog 105 #[sV p] w fun e w' => e = .returned (.tuple #[sV (partedM p).1, sV (partedM p).2.1, .bool (partedM p).2.2]) ∧ (∃ n, w' = w.drewN n) := by
 have H := hid (mLastIx p w hs)
 obtain ⟨hi1, hi2⟩ := lastIxN_lt p p.length
 obtain ⟨i, hi⟩ : ∃ i, lastIx p = i := ⟨_, rfl⟩
 have hi1 : -1 ≤ i := by rw [← hi]; exact hi1
 have hi2 : i < (p.length : Int) := by rw [← hi]; exact hi2
 have HM := hid (show partedM p = (if lastIx p < 0 ∨ lastIx p = (p.length : Int) - 1 then ([], [], false) else if lastIx p = 0 then ([47], p.drop 1, true) else (p.take (lastIx p).toNat, p.drop ((lastIx p).toNat + 1), decide (p.take (lastIx p).toNat ≠ [47]))) from rfl)
 rw [hi] at H HM
 obtain ⟨P, hP⟩ : ∃ P, sB p = P := ⟨_, rfl⟩
 have hsz : P.size = p.length := by rw [← hP, sBm_size]
 have hP1 : (P.size : Int) ≤ 100000 := by omega
 rw [← hsz] at HM hi2
 have HP := hid hP
 have HSZ := hid hsz
 rw [show sV p = .string P from by rw [← hP]] at H ⊢
 obtain ⟨R, hR⟩ : ∃ R, partedM p = R := ⟨_, rfl⟩
 rw [hR] at HM ⊢
 clear hP hsz hi hR hs
 by_cases h1 : i < 0
 ·obtain rfl : i = -1 := by omega
  have HR := hid (show R = ([], [], false) from by rw [HM.out, if_pos (.inl h1)])
  clear h1 hi1 hi2 HM
  go_enter Tryz.func105, Tryz.ntmps105
  go_wp2_with fail
  refine H.out.mono ?_
  rintro e w' ⟨rfl, rfl⟩
  try dsimp only
  go_wp2_with fail
  go_ret3
  rw [HR.out]
  exact ⟨rfl, 0, rfl⟩
 ·obtain ⟨k, rfl⟩ : ∃ k : Nat, i = (k : Int) := ⟨i.toNat, by omega⟩
  have hk0 : (0 : Int) ≤ (k : Int) := by omega
  by_cases h2 : (k : Int) = (P.size : Int) - 1
  ·have HR := hid (show R = ([], [], false) from by rw [HM.out, if_pos (.inr h2)])
   have hkb : ((k : Int) == (P.size : Int) - 1) = true := by simp [h2]
   clear h1 hi1 hi2 HM h2
   go_enter Tryz.func105, Tryz.ntmps105
   go_wp2_with fail
   refine H.out.mono ?_
   rintro e w' ⟨rfl, rfl⟩
   try dsimp only
   go_wp2_with fail
   go_ret3
   rw [HR.out]
   exact ⟨rfl, 0, rfl⟩
  ·have HM2 := hid (show R = (if (k : Int) = 0 then ([47], p.drop 1, true) else (p.take k, p.drop (k + 1), decide (p.take k ≠ [47]))) from by rw [HM.out, if_neg (fun h => h.elim h1 h2)]; rfl)
   have hkb : ((k : Int) == (P.size : Int) - 1) = false := by simpa using h2
   have hks : (k : Int) < (P.size : Int) := by omega
   clear h1 hi1 hi2 HM h2
   by_cases h3 : k = 0
   ·subst h3
    have HR := hid (show R = ([47], p.drop 1, true) from by rw [HM2.out]; rfl)
    clear HM2
    have h1s : (1 : Int) ≤ (P.size : Int) := by omega
    have HD := hid (show P.extract 1 P.size = sB (p.drop 1) from by have := sBm_drop p 1; rw [HP.out, ← HSZ.out] at this; exact this)
    go_enter Tryz.func105, Tryz.ntmps105
    go_wp2_with fail
    refine H.out.mono ?_
    rintro e w' ⟨rfl, rfl⟩
    try dsimp only
    go_upto_region 5 with fail
    refine region_text (fun _ => True ∧ True) (by kernel_rfl) (by kernel_rfl) ⟨trivial, trivial⟩ ?_
    generalize hw2 : w.drew = w2 at *
    repeat (first | refine wr2 ?_ | refine wk ?_)
    refine wpL_nil ?_
    go_wp2_with fail
    go_ret3
    rw [HR.out]
    refine ⟨?_, 1, hw2.symm⟩
    show Ending.returned (.tuple #[.string ⟨#[47]⟩, .string (P.extract 1 P.size), .bool true]) = _
    rw [HD.out]
   ·have hk3 : ((k : Int) == 0) = false := by simpa using h3
    have HR := hid (show R = (p.take k, p.drop (k + 1), decide (p.take k ≠ [47])) from by rw [HM2.out, if_neg (by omega)])
    have hk1 : (k : Int) + 1 ≤ (P.size : Int) := by omega
    have HD := hid (show P.extract (k + 1) P.size = sB (p.drop (k + 1)) from by have := sBm_drop p (k + 1); rw [HP.out, ← HSZ.out] at this; exact this)
    have HT := hid (show P.extract 0 k = sB (p.take k) from by have := sBm_take p k; rw [HP.out] at this; exact this)
    obtain ⟨c, hc⟩ : ∃ c, decide (p.take k = [47]) = c := ⟨_, rfl⟩
    have hcb : ((P.extract 0 k).toList == [47]) = c := by rw [HT.out, sBm_toList, ← hc]; by_cases h : p.take k = [47] <;> simp [h]
    have HCC := hid (show decide (p.take k ≠ [47]) = !c from by rw [← hc]; simp)
    have hkn : k ≤ P.size := by omega
    obtain ⟨j, hj⟩ : ∃ j : Nat, k + 1 = j := ⟨_, rfl⟩
    have hkn1 : j ≤ P.size := by omega
    have hj0 : (0 : Int) ≤ (j : Int) := by omega
    have hj1 : (j : Int) ≤ (P.size : Int) := by omega
    have hw1 : IntKind.i64.wrap ((k : Int) + 1) = (j : Int) := (wrapk_in' _ (by omega)).trans (by omega)
    rw [hj] at HR HD
    clear hj
    clear HM2 h3 hc
    go_enter Tryz.func105, Tryz.ntmps105
    go_wp2_with fail
    refine H.out.mono ?_
    rintro e w' ⟨rfl, rfl⟩
    try dsimp only
    go_upto_region 6 with fail
    refine region_text (fun _ => True ∧ True) (by kernel_rfl) (by kernel_rfl) ⟨trivial, trivial⟩ ?_
    generalize hw2 : w.drew = w2 at *
    repeat (first | refine wr2 ?_ | refine wk ?_)
    refine wpL_nil ?_
    go_wp2_with fail
    go_ret3
    rw [HR.out]
    refine ⟨?_, 1, hw2.symm⟩
    show Ending.returned (.tuple #[.string (P.extract 0 k), .string (P.extract j P.size), .bool !c]) = _
    rw [HT.out, HD.out, ← HCC.out]
end Go.Proofs.YtmgpgbfgemebbaaGreatDoor
namespace Go.Proofs.YtmgpgbfgemebbaaGreatDoor
open Go.RowKit Go.Own
theorem pre_take (s t : Str) (h : t.length ≤ s.length) : decide (s.take t.length = t) = t.isPrefixOf s := by
 by_cases e : s.take t.length = t
 ·rw [decide_eq_true e]
  exact (List.isPrefixOf_iff_prefix.2 (List.prefix_iff_eq_take.2 e.symm)).symm
 ·rw [decide_eq_false e]
  cases hp : t.isPrefixOf s with
  | false => rfl
  | true => exact absurd (List.prefix_iff_eq_take.1 (List.isPrefixOf_iff_prefix.1 hp)).symm e
theorem pre_long (s t : Str) (h : s.length < t.length) : t.isPrefixOf s = false := by
 cases hp : t.isPrefixOf s with
 | false => rfl
 | true => exact absurd (List.isPrefixOf_iff_prefix.1 hp).length_le (by omega)
theorem strOf_len (xs : List Int) : (strOf xs).length = xs.length := List.length_map ..
theorem strOf_take (xs : List Int) (n : Nat) : strOf (xs.take n) = (strOf xs).take n := List.map_take ..
theorem mHasPrefix (a b : Value) (xs ys : List Int) (w : World) (ha : Rd w a 1 xs.length (bc xs)) (hb : Rd w b 1 ys.length (bc ys)) :
  Calls Tryz.prog 216 #[a, b] w fun e w' => e = .returned (.bool ((strOf ys).isPrefixOf (strOf xs))) ∧ w = w' := by
 obtain ⟨pa, ca, rfl, hca, -, -⟩ := ha.form
 obtain ⟨pb, cb, rfl, -, hyl, -⟩ := hb.form
 by_cases h : ys.length ≤ xs.length
 ·have H := hid (mEqual (.slice pa ys.length ca) (.slice pb ys.length cb) (xs.take ys.length) ys w (by have := ha.takeS ys.length h; rw [Nat.mul_one, ← show bc (xs.take ys.length) = (bc xs).take ys.length from List.map_take ..] at this; rw [List.length_take, Nat.min_eq_left h]; exact this) hb)
  have HR := hid (show decide (strOf (xs.take ys.length) = strOf ys) = (strOf ys).isPrefixOf (strOf xs) from by
   have e := pre_take (strOf xs) (strOf ys) (by rw [strOf_len, strOf_len]; exact h)
   rw [strOf_len] at e
   rw [strOf_take]
   exact e)
  rw [HR.out] at H
  generalize (strOf ys).isPrefixOf (strOf xs) = r at *
  have hge : (ys.length : Int) ≤ (xs.length : Int) := by omega
  have hcl : ys.length ≤ ca := by omega
  have hci : (ys.length : Int) ≤ (ca : Int) := by omega
  clear ha hb h
  go_enter Tryz.func216, Tryz.ntmps216
  go_wp2_with fail
  refine H.out.mono ?_
  rintro e w' ⟨rfl, rfl⟩
  try dsimp only
  go_wp2_with fail
  go_ret
  exact ⟨rfl, rfl⟩
 ·have HR := hid (show (strOf ys).isPrefixOf (strOf xs) = false from pre_long _ _ (by rw [strOf_len, strOf_len]; omega))
  rw [HR.out]
  have hge : ¬ (ys.length : Int) ≤ (xs.length : Int) := by omega
  clear ha hb h
  go_enter Tryz.func216, Tryz.ntmps216
  go_wp2_with fail
  go_ret
  exact ⟨rfl, rfl⟩
theorem mHolds1 (a b : Value) (xs ys : List Int) (g : Nat) (w : World) (ha : Rd w a 1 xs.length (bc xs)) (hb : Rd w b 1 ys.length (bc ys)) (hg : w.cell? ⟨g, 0, none⟩ = some b) :
  Calls Tryz.prog 215 #[a, .pointer (some ⟨g, 0, none⟩)] w fun e w' => e = .returned (.bool ((strOf ys).isPrefixOf (strOf xs))) ∧ w = w' := by
 have H := hid (mHasPrefix a b xs ys w ha hb)
 obtain ⟨pa, ca, rfl, -⟩ := ha.form
 obtain ⟨pb, cb, rfl, -⟩ := hb.form
 clear ha hb
 generalize (strOf ys).isPrefixOf (strOf xs) = r at *
 go_enter Tryz.func215, Tryz.ntmps215
 go_wp2_with fail
 refine H.out.mono ?_
 rintro e w' ⟨rfl, rfl⟩
 try dsimp only
 go_wp2_with fail
 go_ret
 exact ⟨rfl, rfl⟩
theorem mIndexFB (v b : Value) (hs : List (Value × List Int)) (ys : List Int) (g : Nat) (w : World) (hl : hs.length ≤ 1000000) (hr : Rd w v 1 hs.length (hs.map Prod.fst)) (hrd : ∀ x ∈ hs, Rd w x.1 1 x.2.length (bc x.2)) (hb : Rd w b 1 ys.length (bc ys)) (hg : w.cell? ⟨g, 0, none⟩ = some b) :
  Calls Tryz.prog 243 #[v, .func (.func 215) #[] #[.pointer (some ⟨g, 0, none⟩)]] w fun e w' => (∃ k : Int, e = .returned (.int .i64 k) ∧ decide (0 ≤ k) = hs.any fun x => (strOf ys).isPrefixOf (strOf x.2)) ∧ w = w' := by
 obtain ⟨p, c, rfl, hc, -, hcs⟩ := hr.form
 have hcf : ∀ args w, (callFunc 215 args).run Tryz.prog w = .ok (.enter 215 args) w := fun args w => by kernel_rfl
 have HRD := hid hrd
 have HB := hid hb
 have HG := hid hg
 have HCS := hid hcs
 have hli : (hs.length : Int) ≤ 1000000 := by omega
 clear hr hrd hb hg hcs hl
 go_enter Tryz.func243, Tryz.ntmps243
 go_wp2_with fail
 go_loopw [8, 5] (fun i _ w' => w' = w ∧ ∃ k : Nat, k ≤ hs.length ∧ i = .int .i64 k ∧ Hid (∀ j (h : j < hs.length), j < k → (strOf ys).isPrefixOf (strOf hs[j].2) = false)) (fun i _ _ => hs.length - (intOf i).toNat)
 case atStart => exact ⟨rfl, 0, by omega, rfl, hid (by omega)⟩
 case round =>
  obtain ⟨rfl, k, hk, rfl, HN⟩ := hrel
  by_cases hlt : k < hs.length
  ·have hk0 : (0 : Int) ≤ (k : Int) := by omega
   have hk1 : (k : Int) < (hs.length : Int) := by omega
   obtain ⟨g2, o2, rfl, hcs2⟩ := HCS.out (by omega)
   have hck : wr.cell? ⟨g2, o2 + k, none⟩ = some hs[k].1 := by
    have e := hcs2 k (by omega)
    rw [e, List.getElem?_map, List.getElem?_eq_getElem hlt]
    rfl
   have hx := HRD.out hs[k] (List.getElem_mem hlt)
   have H := hid (mHolds1 hs[k].1 b hs[k].2 ys g wr hx HB.out HG.out)
   obtain ⟨hv, xs, hh⟩ : ∃ hv xs, hs[k] = (hv, xs) := ⟨_, _, rfl⟩
   have HH := hid hh
   rw [hh] at hck H
   dsimp only at hck H
   clear hcs2 hx hh
   go_wp2_with fail
   refine H.out.mono ?_
   rintro e w' ⟨rfl, rfl⟩
   clear hck
   try dsimp only
   obtain ⟨r, hr⟩ : ∃ r, (strOf ys).isPrefixOf (strOf xs) = r := ⟨_, rfl⟩
   rw [hr]
   have HR := hid (show (strOf ys).isPrefixOf (strOf (hs[k]).2) = r from by rw [HH.out]; exact hr)
   clear hr
   cases r with
   | false =>
    go_wp2_with fail
    refine ⟨⟨trivial, k + 1, by omega, by go_num, hid fun j hj h => ?_⟩, by simp [intOf]; omega⟩
    by_cases hjk : j = k
    ·subst hjk; exact HR.out
    ·exact HN.out j hj (by omega)
   | true =>
    go_wp2_with fail
    go_ret
    refine ⟨⟨(k : Int), rfl, ?_⟩, rfl⟩
    rw [decide_eq_true (by omega)]
    exact (List.any_eq_true.2 ⟨hs[k], List.getElem_mem _, HR.out⟩).symm
  ·have hk1 : ¬ (k : Int) < (hs.length : Int) := by omega
   have HALL := hid (show (hs.any fun x => (strOf ys).isPrefixOf (strOf x.2)) = false from by
    rw [List.any_eq_false]
    intro x hx
    obtain ⟨j, hj, rfl⟩ := List.getElem_of_mem hx
    rw [HN.out j hj (by omega)]
    decide)
   clear hlt hk
   go_wp2_with fail
   go_ret
   exact ⟨⟨-1, rfl, by rw [HALL.out]; rfl⟩, rfl⟩
theorem mContainsFB (v b : Value) (hs : List (Value × List Int)) (ys : List Int) (g : Nat) (w : World) (hl : hs.length ≤ 1000000) (hr : Rd w v 1 hs.length (hs.map Prod.fst)) (hrd : ∀ x ∈ hs, Rd w x.1 1 x.2.length (bc x.2)) (hb : Rd w b 1 ys.length (bc ys)) (hg : w.cell? ⟨g, 0, none⟩ = some b) :
  Calls Tryz.prog 214 #[v, .func (.func 215) #[] #[.pointer (some ⟨g, 0, none⟩)]] w fun e w' => e = .returned (.bool (hs.any fun x => (strOf ys).isPrefixOf (strOf x.2))) ∧ w = w' := by
 have H := hid (mIndexFB v b hs ys g w hl hr hrd hb hg)
 clear hl hr hrd hb hg
 generalize (hs.any fun x => (strOf ys).isPrefixOf (strOf x.2)) = r at *
 go_enter Tryz.func214, Tryz.ntmps214
 go_wp2_with fail
 refine H.out.mono ?_
 rintro e w' ⟨⟨k, rfl, hk⟩, rfl⟩
 have HK := hid hk
 clear hk
 try dsimp only
 go_wp2_with fail
 go_ret
 refine ⟨?_, rfl⟩
 rw [← HK.out]
 rfl
end Go.Proofs.YtmgpgbfgemebbaaGreatDoor
