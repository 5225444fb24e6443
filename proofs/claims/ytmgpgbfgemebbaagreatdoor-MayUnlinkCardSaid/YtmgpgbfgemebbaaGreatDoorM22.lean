/- TEXTS of mine, merged. -/
import Derived.Test.YtmgpgbfgemebbaaGreatDoorM20
import Derived.Test.YtmgpgbfgemebbaaGreatDoorM21
import Derived.Test.YtmgpgbfgemebbaaGreatDoorM11
import Derived.Test.YtmgpgbfgemebbaaGreatDoorM1
import Derived.ProofKit
import Derived.OpenShut
import Derived.ShutString
import Derived.ChangeOld
import Derived.Deep.Slices
import Derived.Test.YtmgpgbfgemebbaaGreatDoorM8
import Derived.Test.YtmgpgbfgemebbaaGreatDoorM9
import Derived.Test.YtmgpgbfgemebbaaGreatDoorM14
import Derived.Test.YtmgpgbfgemebbaaGreatDoorM4
import Derived.Test.YtmgpgbfgemebbaaGreatDoorM2
import Derived.Test.YtmgpgbfgemebbaaGreatDoorM18
set_option linter.all false
namespace Go.Proofs.YtmgpgbfgemebbaaGreatDoor
open Go.RowKit Go.Own
end Go.Proofs.YtmgpgbfgemebbaaGreatDoor
namespace Go.Proofs.YtmgpgbfgemebbaaGreatDoor
open Go.RowKit Go.Own
def freshN (S S0 : Tre) : Int := ((sorted (S.nodes.map Prod.fst)).find? fun n => !decide (n ∈ S0.nodes.map Prod.fst)).getD 0
theorem any_keys {S : Tre} {os : List Fiv} (h : os.map (fun f => (f.num, f.nod)) = filesQ S (sorted (S.nodes.map Prod.fst))) (n : Int) : (os.any fun f => f.num == n) = decide (n ∈ S.nodes.map Prod.fst) := by
 have h1 : os.map (fun f => f.num) = sorted (S.nodes.map Prod.fst) := by
  have := congrArg (List.map Prod.fst) h
  rw [List.map_map, filesQ, List.map_map] at this
  simpa [Function.comp_def] using this
 have h2 : n ∈ S.nodes.map Prod.fst ↔ n ∈ os.map (fun f => f.num) := by rw [h1]; exact (sorted_perm _).mem_iff.symm
 have e : decide (n ∈ S.nodes.map Prod.fst) = decide (n ∈ os.map fun f => f.num) := decide_eq_decide.2 h2
 rw [e, Bool.eq_iff_iff]
 simp
theorem oneV_slice (v : Value) : ∃ p n c, oneV v = .slice p n c := by
 unfold oneV
 split
 ·exact ⟨_, _, _, rfl⟩
 ·exact ⟨_, _, _, rfl⟩
set_option maxRecDepth 100000 in
set_option maxHeartbeats 8000000 in
theorem mFresh (q q0 : Nat) (S S0 : Tre) (w : World) (L : List HP) (hb : ∀ n x, fnd S.nodes n = some x → x.data.length ≤ 100000 ∧ x.wr.length ≤ 100000) (hb0 : ∀ n x, fnd S0.nodes n = some x → x.data.length ≤ 100000 ∧ x.wr.length ≤ 100000) (hn : S.nodes.length ≤ 100000) (hn0 : S0.nodes.length ≤ 100000) (hO : Has w (Trc q S :: Trc q0 S0 :: L)) :
  Calls Tryz.prog 100 #[.pointer (some ⟨q, 0, none⟩), .pointer (some ⟨q0, 0, none⟩)] w fun e w' => e = .returned (.int .i64 (freshN S S0)) ∧ Has w' (Trc q S :: Trc q0 S0 :: L) ∧ Keep w w' := by
 have HO := hid hO
 have HB := hid hb
 have HN := hid hn
 clear hO hb hn
 go_enter Tryz.func100, Tryz.ntmps100
 go_wp2_with fail
 refine (tFiles q0 S0 w _ hb0 hn0 HO.out.p1).mono ?_
 rintro e w2 ⟨v5, os0, rfl, hm0, -, hO2, hK2⟩
 have HO2 := hid (hO2.re 3 [2, 0, 1])
 have HK2 := hid hK2
 have HM0 := hid (any_keys hm0)
 have hl0 : os0.length ≤ 1000000 := by
  have h1 := congrArg List.length hm0
  rw [filesQ, List.length_map, List.length_map, sorted_len, List.length_map] at h1
  omega
 have HL0 := hid hl0
 clear hm0 hO2 hK2 hl0 HO hb0 hn0
 try dsimp only
 go_wp2_with fail
 refine (tFiles q S w2 _ HB.out HN.out HO2.out).mono ?_
 rintro e w3 ⟨v11, os, rfl, hm, -, hO3, hK3⟩
 have HO3 := hid hO3
 have HK3 := hid (HK2.out.trans hK3)
 have hks : os.map (fun f => f.num) = sorted (S.nodes.map Prod.fst) := by
  have := congrArg (List.map Prod.fst) hm
  rw [List.map_map, filesQ, List.map_map] at this
  simpa [Function.comp_def] using this
 have hl : os.length ≤ 100000 := by
  have h1 := congrArg List.length hks
  rw [List.length_map, sorted_len, List.length_map] at h1
  have := HN.out
  omega
 have HKS := hid hks
 obtain ⟨p, c, rfl, hc, -, -⟩ := (tfs_iff.1 HO3.out).rd.form
 clear hm hO3 hK3 hks HO2 HK2 HB HN
 try dsimp only
 go_wp2_with fail
 have HR := hid (show freshN S S0 = (((os.drop 0).map fun f => f.num).find? (fun n => !decide (n ∈ S0.nodes.map Prod.fst))).getD 0 from by rw [List.drop_zero, HKS.out]; rfl)
 go_loopw [13] (fun i w' => ∃ k : Nat, k ≤ os.length ∧ i = .int .i64 k ∧ Hid (freshN S S0 = (((os.drop k).map fun f => f.num).find? (fun n => !decide (n ∈ S0.nodes.map Prod.fst))).getD 0) ∧ Hid (Has w' (Tfs (.slice p os.length c) os :: Trc q S :: Tfs v5 os0 :: Trc q0 S0 :: L)) ∧ Hid (Keep w w')) (fun i _ => os.length - (intOf i).toNat)
 case atStart => exact ⟨0, by omega, rfl, HR, HO3, HK3⟩
 case round =>
  clear HO3 HK3 HR
  obtain ⟨k, hk, rfl, HR, HO, HK⟩ := hrel
  by_cases hlt : k < os.length
  ·have hk0 : (0 : Int) ≤ (k : Int) := by omega
   have hk1 : (k : Int) < (os.length : Int) := by omega
   obtain ⟨-, g2, o2, rfl, c0, c1, c2, c3, c4, c5⟩ := tfs_cells HO.out (k := k) (f := os[k]) (List.getElem?_eq_getElem hlt)
   have HD := hid (List.drop_eq_getElem_cons hlt)
   generalize os[k] = f at *
   obtain ⟨p1, n1, e1, h1⟩ := oneV_slice f.dv
   obtain ⟨p2, n2, e2, h2⟩ := oneV_slice f.wv
   rw [h1] at c3
   rw [h2] at c4
   clear h1 h2
   have hf := (HO.out.alloc (.cells #[.int .i64 0, .int .i64 0, .int .i64 0, .slice none 0 0, .slice none 0 0, .map none] 159))
   have z0 := hf.cells 0
   go_upto_region 5 with fail
   have HO4 := hid (HO.out.alloc (.cells #[.int .i64 f.num, .int .i64 f.nod.kind, .int .i64 f.nod.links, .slice p1 n1 e1, .slice p2 n2 e2, .map f.nm] 159))
   have HK4 := hid (HK.out.alloc (.cells #[.int .i64 f.num, .int .i64 f.nod.kind, .int .i64 f.nod.links, .slice p1 n1 e1, .slice p2 n2 e2, .map f.nm] 159))
   clear c0 c1 c2 c3 c4 c5 hf z0 HO HK
   generalize wr.alloc (.cells #[.int .i64 f.num, .int .i64 f.nod.kind, .int .i64 f.nod.links, .slice p1 n1 e1, .slice p2 n2 e2, .map f.nm] 159) = w4 at *
   generalize wr.heap.size = g4 at *
   have HH := hid (mContainsFF v5 os0 f.num g4 _ _ w4 _ HL0.out (show (#[.int .i64 f.num, .int .i64 f.nod.kind, .int .i64 f.nod.links, .slice p1 n1 e1, .slice p2 n2 e2, .map f.nm] : Array Value)[0]? = _ from rfl) (HO4.out.re 5 [0, 3, 1, 2, 4]))
   rw [HM0.out] at HH
   go_wp2_with fail
   refine HH.out.mono ?_
   rintro e w5 ⟨rfl, hO5, hK5⟩
   have HO5 := hid (hO5.re 5 [2, 3, 1, 4])
   have HK5 := hid (HK4.out.trans hK5)
   have hg : w5.cell? ⟨g4, 0, none⟩ = some (.int .i64 f.num) := hO5.cells 0
   clear hO5 hK5 HH HO4 HK4
   try dsimp only
   have hD := HR.out
   rw [HD.out, List.map_cons, List.find?_cons] at hD
   obtain ⟨r, hr⟩ : ∃ r, decide (f.num ∈ S0.nodes.map Prod.fst) = r := ⟨_, rfl⟩
   rw [hr]
   rw [hr] at hD
   clear hr
   cases r with
   | false =>
    have hR0 : freshN S S0 = f.num := by rw [hD]; rfl
    clear hD
    go_wp2_with fail
    go_ret
    exact ⟨by rw [hR0]; rfl, HO5.out.re 4 [1, 3], HK5.out⟩
   | true =>
    have HD5 := hid hD
    clear hD hg
    go_wp2_with fail
    exact ⟨⟨k + 1, by omega, by go_num, HD5, HO5, HK5⟩, by simp [intOf]; omega⟩
  ·have hk1 : ¬ (k : Int) < (os.length : Int) := by omega
   obtain rfl : k = os.length := by omega
   have hR0 : freshN S S0 = 0 := by rw [HR.out, List.drop_length]; rfl
   clear hlt hk HR
   rw [hR0]
   go_wp2_with fail
   go_ret
   exact ⟨rfl, HO.out.re 4 [1, 3], HK.out⟩
end Go.Proofs.YtmgpgbfgemebbaaGreatDoor
namespace Go.Proofs.YtmgpgbfgemebbaaGreatDoor
open Go.RowKit Go.Own
section
open Go.Maps
variable {P : Program} {k e : TypeId} {κ α : Type} [DecidableEq κ] {K : Ky P k κ} {V : El P e α} {w : World} {L : List HP} {b : Nat} {t : List (κ × α)} {o : Oper} {a : Act} {Q : Exit → Act → World → Prop} {R : Act → World → Prop}
theorem wp_mkDel (h : Has w (Mk K V b t :: L)) (T : TypeId) (ht : P.underlying T = some (.map k e)) (m kx : Operand) (hop : o.op = Op.call { callee := Callee.builtin Builtin.delete, args := #[m, kx], argTypes := #[T, k] }) (hm : a.eval m = .map (some b)) (x : κ) (hx : K.ok x) (hk : a.eval kx = K.val x)
  (hK : ∀ w', Has w' (Mk K V b (delA t x) :: L) → Keep w w' → R (a.put o.dst (.tuple #[])) w') : o.wp P a w R Q := by
 obtain ⟨D, h1, h2⟩ := Mk.iff.1 h
 obtain ⟨w', hrun, r1, r2⟩ := h2.owns.drop K.law ht (K.spell hx) o.type
 unfold Oper.wp
 simp [execOp, hop, resolve, invoke, builtin, hm, hk, hrun, Result.andThen]
 have h3 := h2.mapTurn (grown_but r2.grown fun r e => by cases e; rfl) r1
 exact hK w' (Mk.iff.2 ⟨_, h1.del x, h3⟩) (Mk.keep r2)
end
def whereE (S : Tre) (p : Str) : Ent := ((S.find p true).1.dir, (S.find p true).1.name)
def whereOk (S : Tre) (p : Str) : Bool := (S.find p true).2 == 0 && (S.find p true).1.dir != 0
def His.didN (H : His) (o : Opm) (num : Int) (A : Ans) (S' : Tre) : His :=
 { ({ H with S := S' } : His).noteL (filL S') with
  nums := if freshN S' H.S = 0 then H.nums else putA H.nums (freshN S' H.S) num
  opened := if o.kind = 1 then (if whereOk S' o.path = true then putA (delA H.opened A.n) A.n (whereE S' o.path) else delA H.opened A.n) else H.opened }
def His.did (H : His) (o : Opm) (num : Int) (A : Ans) (S' : Tre) : His := (H.didN o num A S').lasts o
abbrev tOpd : TypeId := 140
theorem undOpd : Tryz.prog.underlying tOpd = some (.map tInt tEnt) := by kernel_rfl
structure DidOk (H : His) (o : Opm) (num : Int) (A : Ans) (S' : Tre) (K k : Nat) (rk rk' : Int → Nat) : Prop where
 ok : HisOk H K
 kb : K + 1 ≤ 100000
 k1 : 1 ≤ K
 gd : Gd H.S rk k
 gd' : Gd S' rk' (k + 1)
 kk : k ≤ 400
 wy : Wy S' rk'
 wk : Wk S'
 el : H.ents.length + (k + 1 + 1) * (k + 1) ≤ 300000
 fl : H.files.length + (k + 2) ≤ 300000
 ll : ∀ x ∈ H.ents, x.2.length ≤ K
 nl : H.nums.length ≤ 300000
 ol : H.opened.length ≤ 300000
 code : A.code = 0
 path : o.path.length ≤ 100000
 nwf : (Lit.int .i64 num).wf = true
 an : o.kind = 1 → (Lit.int .i64 A.n).wf = true
 fr : (Lit.int .i64 (freshN S' H.S)).wf = true
 we : o.kind = 1 → whereOk S' o.path = true → okEnt (whereE S' o.path)
 la : LastsOk (H.didN o num A S') o
theorem DidOk.hisOk {H : His} {o : Opm} {num : Int} {A : Ans} {S' : Tre} {K k : Nat} {rk rk' : Int → Nat} (h : DidOk H o num A S' K k rk rk') (hE : (H.ents.map Prod.fst).Nodup) : HisOk (H.didN o num A S') (K + 1) := by
 have h1 := gd_there h.gd'
 have h2 := gd_filLen h.gd'
 have h3 : HisOk (({ H with S := S' } : His).noteL (filL S')) (K + 1) := HisOk.noteL (H := { H with S := S' }) { ents := h.ok.ents, el := h.ok.el, mks := h.ok.mks, fl := h.ok.fl, fil := h.ok.fil, kb := h.ok.kb, op := h.ok.op } h.gd' (by have := h.kk; omega) h.k1 h.kb hE (by have := h.el; show H.ents.length + _ ≤ _; omega) (by have := h.fl; show H.files.length + _ ≤ _; omega)
 refine { ents := h3.ents, el := h3.el, mks := h3.mks, fl := h3.fl, fil := h3.fil, kb := h3.kb, op := ?_ }
 intro x hx
 have hdel : ∀ y ∈ delA H.opened A.n, okEnt y.2 := fun y hy => h.ok.op y (List.mem_filter.1 hy).1
 have hx : x ∈ (if o.kind = 1 then (if whereOk S' o.path = true then putA (delA H.opened A.n) A.n (whereE S' o.path) else delA H.opened A.n) else H.opened) := hx
 by_cases hk : o.kind = 1
 ·rw [if_pos hk] at hx
  by_cases hw : whereOk S' o.path = true
  ·rw [if_pos hw] at hx
   rcases mem_putA hx with rfl | ⟨hx, -⟩
   ·exact h.we hk hw
   ·exact hdel x hx
  ·rw [if_neg hw] at hx
   exact hdel x hx
 ·rw [if_neg hk] at hx
  exact h.ok.op x hx
theorem MxL.app {mx : Int} {L : List HP} (h : MxL mx L) (X : List HP) : MxL mx (X ++ L) := fun w' h' => h w' (has_drops X h')
set_option maxRecDepth 100000 in
set_option maxHeartbeats 8000000 in
theorem mDid0 (q : Nat) (H : His) (o : Opm) (ov : Value) (num : Int) (S' : Tre) (A : Ans) (K k : Nat) (rk rk' : Int → Nat) (mx : Int) (w : World) (L : List HP) (hd : DidOk H o num A S' K k rk rk') (hM : MxL mx L)
  (hdo : ∀ (w' : World) (q' : Nat) (X : List HP), Has w' (Trc q' H.S :: (X ++ L)) → Calls Tryz.prog 16 #[.pointer (some ⟨q', 0, none⟩), opV o ov] w' fun e w2 => ∃ p n c p' n' c', e = .returned (ansV A (.slice p n c) (.slice p' n' c')) ∧ Has w2 (Trc q' S' :: (X ++ L)) ∧ Keep w' w2)
  (hO : Has w (Hsc q H :: L)) :
  Calls Tryz.prog 37 #[.pointer (some ⟨q, 0, none⟩), opV o ov, .int .i64 0, .int .i64 num] w fun e w' => e = .returned (.bool true) ∧ Has w' (Hsc q (H.did o num A S') :: L) ∧ Keep w w' := by
 have HD := hid hd
 have HM := hid hM
 have HDO := hid hdo
 have HNDE := hid (hsc_nod hO).2.1
 clear hd hM hdo
 obtain ⟨t, bn, bf, bm, b, bo, h0⟩ := hsc_iff.1 hO
 have HO1 := hid (h0.alloc (.cells (opC o ov) 33))
 have HK1 := hid ((Keep.refl w).alloc (.cells (opC o ov) 33))
 clear h0 hO
 unfold opV
 unfold opC at HO1 HK1 ⊢
 go_enter Tryz.func37, Tryz.ntmps37
 go_upto_region 3 with fail
 generalize w.alloc (.cells #[.int .i64 o.kind, .int .i64 o.fd, .int .i64 o.n, .int .i64 o.off, .int .i64 o.flags, sV o.path, sV o.dest, ov] 33) = w1 at *
 generalize w.heap.size = g at *
 have hq0 : w1.cell? ⟨q, 0, none⟩ = some (.pointer (some ⟨t, 0, none⟩)) := HO1.out.p1.cells 0
 go_wp2_with fail
 refine (tCopy t H.S w1 _ (fun n x hx => ⟨(HD.out.gd.nod hx).size.1, (HD.out.gd.nod hx).size.2.1⟩) (by have := HD.out.gd.many; have := HD.out.kk; omega) (HO1.out.re 3 [2, 0, 1])).mono ?_
 rintro e w2 ⟨t2, rfl, h2, k2⟩
 obtain ⟨X, hX⟩ : ∃ X, X = [Trc t H.S, pt g (.cells #[.int .i64 o.kind, .int .i64 o.fd, .int .i64 o.n, .int .i64 o.off, .int .i64 o.flags, sV o.path, sV o.dest, ov] 33), pt q (.cells (hC t bn bf bm b bo) 142), Mk kInt vInt bn H.nums, Flz bf H.files, Mk kInt vMrk bm H.marks, Ety b H.ents, Mk kInt vEnt bo H.opened] := ⟨_, rfl⟩
 have HO2 := hid (show Has w2 (Trc t2 H.S :: (X ++ L)) from by rw [hX]; exact h2)
 have HXE := hid hX
 have HK2 := hid (HK1.out.trans k2)
 have hx := (show Has w2 (pt g (.cells #[.int .i64 o.kind, .int .i64 o.fd, .int .i64 o.n, .int .i64 o.off, .int .i64 o.flags, sV o.path, sV o.dest, ov] 33) :: _) from h2.re 3 [2, 0, 1]).cells
 have hx0 : w2.cell? ⟨g, 0, none⟩ = some (.int .i64 o.kind) := hx 0
 have hx1 : w2.cell? ⟨g, 1, none⟩ = some (.int .i64 o.fd) := hx 1
 have hx2 : w2.cell? ⟨g, 2, none⟩ = some (.int .i64 o.n) := hx 2
 have hx3 : w2.cell? ⟨g, 3, none⟩ = some (.int .i64 o.off) := hx 3
 have hx4 : w2.cell? ⟨g, 4, none⟩ = some (.int .i64 o.flags) := hx 4
 have hx5 : w2.cell? ⟨g, 5, none⟩ = some (sV o.path) := hx 5
 have hx6 : w2.cell? ⟨g, 6, none⟩ = some (sV o.dest) := hx 6
 have hx7 : w2.cell? ⟨g, 7, none⟩ = some ov := hx 7
 clear h2 k2 hX hx HO1 HK1 hq0
 try dsimp only
 go_wp2_with fail
 refine (HDO.out w2 t2 X HO2.out).mono ?_
 rintro e w3 ⟨p4, n4, c4, p5, n5, c5, rfl, h3, k3⟩
 clear hx0 hx1 hx2 hx3 hx4 hx5 hx6 hx7
 unfold ansV ansC
 rw [HD.out.code]
 have HK3 := hid (HK2.out.trans k3)
 have h4 : Has w3 (Trc t2 S' :: Trc t H.S :: pt g (.cells #[.int .i64 o.kind, .int .i64 o.fd, .int .i64 o.n, .int .i64 o.off, .int .i64 o.flags, sV o.path, sV o.dest, ov] 33) :: pt q (.cells (hC t bn bf bm b bo) 142) :: Mk kInt vInt bn H.nums :: Flz bf H.files :: Mk kInt vMrk bm H.marks :: Ety b H.ents :: Mk kInt vEnt bo H.opened :: L) := by
  rw [HXE.out] at h3
  exact h3
 have HO4 := hid (h4.alloc (.cells #[.int .i64 0, .int .i64 A.n, .int .i64 A.kind, .int .i64 A.links, .slice p4 n4 c4, .slice p5 n5 c5] 38))
 have HK4 := hid (HK3.out.alloc (.cells #[.int .i64 0, .int .i64 A.n, .int .i64 A.kind, .int .i64 A.links, .slice p4 n4 c4, .slice p5 n5 c5] 38))
 clear h3 k3 h4 HO2 HXE HK2 HK3
 try dsimp only
 go_upto_region 5 with fail
 generalize w3.alloc (.cells #[.int .i64 0, .int .i64 A.n, .int .i64 A.kind, .int .i64 A.links, .slice p4 n4 c4, .slice p5 n5 c5] 38) = w4 at *
 generalize w3.heap.size = ga at *
 have ha0 : w4.cell? ⟨ga, 0, none⟩ = some (.int .i64 0) := HO4.out.cells 0
 go_upto_region 18 with fail
 have hq0 : w4.cell? ⟨q, 0, none⟩ = some (.pointer (some ⟨t, 0, none⟩)) := HO4.out.p4.cells 0
 go_wp2_with fail
 refine (mFresh t2 t S' H.S w4 _ (fun n x hx => ⟨(HD.out.gd'.nod hx).size.1, (HD.out.gd'.nod hx).size.2.1⟩) (fun n x hx => ⟨(HD.out.gd.nod hx).size.1, (HD.out.gd.nod hx).size.2.1⟩) (by have := HD.out.gd'.many; have := HD.out.kk; omega) (by have := HD.out.gd.many; have := HD.out.kk; omega) (HO4.out.re 3 [1, 2, 0])).mono ?_
 rintro e w5 ⟨rfl, h5, k5⟩
 have HO5 := hid (show Has w5 (pt q (.cells (hC t bn bf bm b bo) 142) :: Trc t2 S' :: pt ga (.cells #[.int .i64 0, .int .i64 A.n, .int .i64 A.kind, .int .i64 A.links, .slice p4 n4 c4, .slice p5 n5 c5] 38) :: pt g (.cells #[.int .i64 o.kind, .int .i64 o.fd, .int .i64 o.n, .int .i64 o.off, .int .i64 o.flags, sV o.path, sV o.dest, ov] 33) :: Mk kInt vInt bn H.nums :: Flz bf H.files :: Mk kInt vMrk bm H.marks :: Ety b H.ents :: Mk kInt vEnt bo H.opened :: L) from h5.re 10 [4, 0, 2, 3, 5, 6, 7, 8, 9])
 have HK5 := hid (HK4.out.trans k5)
 clear h5 k5 hq0 ha0 HO4 HK4
 try dsimp only
 obtain ⟨fr, hfr⟩ : ∃ fr, freshN S' H.S = fr := ⟨_, rfl⟩
 have HFR := hid hfr
 rw [hfr]
 clear hfr
 have hq0 : w5.cell? ⟨q, 0, none⟩ = some (.pointer (some ⟨t, 0, none⟩)) := HO5.out.cells 0
 have ht0 := HO5.out.thaw 0
 go_upto_region 20 with fail
 have HO6 := hid (show Has (w5.setCell ⟨q, 0, none⟩ (.pointer (some ⟨t2, 0, none⟩))) (pt q (.cells (hC t2 bn bf bm b bo) 142) :: Trc t2 S' :: Flz bf H.files :: Mk kInt vMrk bm H.marks :: Ety b H.ents :: pt ga (.cells #[.int .i64 0, .int .i64 A.n, .int .i64 A.kind, .int .i64 A.links, .slice p4 n4 c4, .slice p5 n5 c5] 38) :: pt g (.cells #[.int .i64 o.kind, .int .i64 o.fd, .int .i64 o.n, .int .i64 o.off, .int .i64 o.flags, sV o.path, sV o.dest, ov] 33) :: Mk kInt vInt bn H.nums :: Mk kInt vEnt bo H.opened :: L) from (HO5.out.set 0 (.pointer (some ⟨t2, 0, none⟩))).re 9 [0, 1, 5, 6, 7, 2, 3, 4, 8])
 have HK6 := hid (HK5.out.set ⟨q, 0, none⟩ (.pointer (some ⟨t2, 0, none⟩)))
 clear hq0 ht0 HO5 HK5
 generalize w5.setCell ⟨q, 0, none⟩ (.pointer (some ⟨t2, 0, none⟩)) = w6 at *
 have HNT := hid (mNote q t2 bf bm b (hC t2 bn bf bm b bo) S' H.files H.marks H.ents K K w6 _ rfl rfl rfl (fun n x hx => ⟨(HD.out.gd'.nod hx).size.1, (HD.out.gd'.nod hx).size.2.1⟩) (by have := HD.out.gd'.many; have := HD.out.kk; omega) (fun x hx => ⟨((HD.out.gd'.filG (by have := HD.out.kk; omega)).2.2 x hx).1, ((HD.out.gd'.filG (by have := HD.out.kk; omega)).2.2 x hx).2.1, fun p hp => (((HD.out.gd'.filG (by have := HD.out.kk; omega)).2.2 x hx).2.2.1 p hp).1⟩) (fun x hx => (HD.out.ok.fil x hx).2) (by have := HD.out.kb; omega) HD.out.k1 (by have := HD.out.fl; omega) (fun x hx => ⟨HD.out.ll x hx, (HD.out.ok.ents x hx).1⟩) (by have := HD.out.kb; omega) (by have := gd_there HD.out.gd'; have := HD.out.el; omega) (by
  have h1 := marks_len HD.out.ok.mks (Mk.nodup (show Has w6 (Mk kInt vMrk bm H.marks :: _) from HO6.out.re 4 [3]))
  have := HD.out.fl
  omega) HO6.out)
 go_wp2_with fail
 refine HNT.out.mono ?_
 rintro e w7 ⟨rfl, h7, k7⟩
 have HO7 := hid (show Has w7 (Mk kInt vInt bn H.nums :: pt q (.cells (hC t2 bn bf bm b bo) 142) :: Trc t2 S' :: Flz bf (noteF H.files (filL S')) :: Mk kInt vMrk bm (noteM (filL S') H.marks) :: Ety b (noteE (thereL (filL S')) H.ents) :: pt ga (.cells #[.int .i64 0, .int .i64 A.n, .int .i64 A.kind, .int .i64 A.links, .slice p4 n4 c4, .slice p5 n5 c5] 38) :: pt g (.cells #[.int .i64 o.kind, .int .i64 o.fd, .int .i64 o.n, .int .i64 o.off, .int .i64 o.flags, sV o.path, sV o.dest, ov] 33) :: Mk kInt vEnt bo H.opened :: L) from h7.re 9 [7, 0, 1, 2, 3, 4, 5, 6, 8])
 have HK7 := hid (HK6.out.trans k7)
 clear h7 k7 HNT HO6 HK6
 obtain ⟨N1, hN1⟩ : ∃ N1, (if freshN S' H.S = 0 then H.nums else putA H.nums (freshN S' H.S) num) = N1 := ⟨_, rfl⟩
 have HN1 := hid hN1
 rw [HFR.out] at hN1
 have HNQ := hid hN1
 clear hN1
 try dsimp only
 go_upto_if 73 with fail
 go_cut [] (fun wx => Hid (Has wx (Mk kInt vInt bn N1 :: pt q (.cells (hC t2 bn bf bm b bo) 142) :: Trc t2 S' :: Flz bf (noteF H.files (filL S')) :: Mk kInt vMrk bm (noteM (filL S') H.marks) :: Ety b (noteE (thereL (filL S')) H.ents) :: pt ga (.cells #[.int .i64 0, .int .i64 A.n, .int .i64 A.kind, .int .i64 A.links, .slice p4 n4 c4, .slice p5 n5 c5] 38) :: pt g (.cells #[.int .i64 o.kind, .int .i64 o.fd, .int .i64 o.n, .int .i64 o.off, .int .i64 o.flags, sV o.path, sV o.dest, ov] 33) :: Mk kInt vEnt bo H.opened :: L)) ∧ Hid (Keep w wx))
 case first =>
  by_cases h0 : fr = 0
  ·have hfb : (fr != 0) = false := by simp [h0]
   have HE := hid (show H.nums = N1 from by rw [← HNQ.out, if_pos h0])
   clear h0
   go_wp2_with fail
   go_meet
   exact ⟨hid (by rw [← HE.out]; exact HO7.out), HK7⟩
  ·have hfb : (fr != 0) = true := by simp [h0]
   have HE := hid (show putA H.nums fr num = N1 from by rw [← HNQ.out, if_neg h0])
   have HFW := hid (show (Lit.int .i64 fr).wf = true from by rw [← HFR.out]; exact HD.out.fr)
   have hq1 : w7.cell? ⟨q, 1, none⟩ = some (.map (some bn)) := HO7.out.p1.cells 1
   clear h0
   go_wp2_with (refine wpList_mkPut HO7.out (by have := HD.out.nl; omega) tNu undNu rfl _ _ _ rfl rfl fr HFW.out rfl num HD.out.nwf rfl ?_; intro w8 hO8 hK8; simp only [Act.put])
   try go_wp2_with fail
   go_meet
   exact ⟨hid (by rw [← HE.out]; exact hO8), hid (HK7.out.trans hK8)⟩
 case rest =>
  obtain ⟨HO8, HK8⟩ := hcut
  clear HO7 HK7 HNQ
  generalize wc = w8 at *
  obtain ⟨O1, hO1⟩ : ∃ O1, (if o.kind = 1 then (if whereOk S' o.path = true then putA (delA H.opened A.n) A.n (whereE S' o.path) else delA H.opened A.n) else H.opened) = O1 := ⟨_, rfl⟩
  have HOQ := hid hO1
  clear hO1
  have hx0 : w8.cell? ⟨g, 0, none⟩ = some (.int .i64 o.kind) := (HO8.out.re 8 [7]).cells 0
  go_upto_if 82 with fail
  go_cut [] (fun wx => Hid (Has wx (Mk kInt vEnt bo O1 :: pt q (.cells (hC t2 bn bf bm b bo) 142) :: Mk kInt vInt bn N1 :: Trc t2 S' :: Flz bf (noteF H.files (filL S')) :: Mk kInt vMrk bm (noteM (filL S') H.marks) :: Ety b (noteE (thereL (filL S')) H.ents) :: pt ga (.cells #[.int .i64 0, .int .i64 A.n, .int .i64 A.kind, .int .i64 A.links, .slice p4 n4 c4, .slice p5 n5 c5] 38) :: pt g (.cells #[.int .i64 o.kind, .int .i64 o.fd, .int .i64 o.n, .int .i64 o.off, .int .i64 o.flags, sV o.path, sV o.dest, ov] 33) :: L)) ∧ Hid (Keep w wx))
  case first =>
   clear hx0
   by_cases hk : o.kind = 1
   ·have hkb : (o.kind == 1) = true := by rw [hk]; rfl
    have HK1' := hid hk
    clear hk
    go_upto_region 24 with fail
    have HO9 := hid (show Has w8.drew (Mk kInt vEnt bo H.opened :: pt q (.cells (hC t2 bn bf bm b bo) 142) :: Mk kInt vInt bn N1 :: Trc t2 S' :: Flz bf (noteF H.files (filL S')) :: Mk kInt vMrk bm (noteM (filL S') H.marks) :: Ety b (noteE (thereL (filL S')) H.ents) :: pt ga (.cells #[.int .i64 0, .int .i64 A.n, .int .i64 A.kind, .int .i64 A.links, .slice p4 n4 c4, .slice p5 n5 c5] 38) :: pt g (.cells #[.int .i64 o.kind, .int .i64 o.fd, .int .i64 o.n, .int .i64 o.off, .int .i64 o.flags, sV o.path, sV o.dest, ov] 33) :: L) from HO8.out.drew.re 9 [8, 1, 0, 2, 3, 4, 5, 6, 7])
    have HK9 := hid HK8.out.drew
    clear HO8 HK8
    refine region_tail1 (fun w' => w'.cell? ⟨q, 5, none⟩ = some (.map (some bo)) ∧ w'.cell? ⟨ga, 1, none⟩ = some (.int .i64 A.n)) (by kernel_rfl) (by kernel_rfl) (by kernel_rfl) (by decide) ⟨HO9.out.p1.cells 5, (HO9.out.re 8 [7]).cells 1⟩ ?_
    generalize w8.drew = w9 at *
    repeat (first | refine wr2 ?_ | refine wk ?_)
    refine wpL_nil ?_
    refine wpOp_last rfl (by rfl) ?_
    refine wp_mkDel HO9.out tOpd undOpd _ _ rfl rfl A.n (HD.out.an HK1'.out) rfl ?_
    intro w10 h10 k10
    have HO10 := hid h10
    have HK10 := hid (HK9.out.trans k10)
    clear h10 k10 HO9 HK9
    try simp only [Act.put, List.setIfInBounds_toArray, List.set_cons_zero, List.set_cons_succ]
    have hx5 : w10.cell? ⟨g, 5, none⟩ = some (sV o.path) := (HO10.out.re 9 [8]).cells 5
    go_wp2_with fail
    refine (mWhere t2 S' o.path mx w10 ([Mk kInt vEnt bo (delA H.opened A.n), pt q (.cells (hC t2 bn bf bm b bo) 142), Mk kInt vInt bn N1, Flz bf (noteF H.files (filL S')), Mk kInt vMrk bm (noteM (filL S') H.marks), Ety b (noteE (thereL (filL S')) H.ents), pt ga (.cells #[.int .i64 0, .int .i64 A.n, .int .i64 A.kind, .int .i64 A.links, .slice p4 n4 c4, .slice p5 n5 c5] 38), pt g (.cells #[.int .i64 o.kind, .int .i64 o.fd, .int .i64 o.n, .int .i64 o.off, .int .i64 o.flags, sV o.path, sV o.dest, ov] 33)] ++ L) HD.out.wk (HM.out.app _) HD.out.path (show Has w10 (Trc t2 S' :: ([Mk kInt vEnt bo (delA H.opened A.n), pt q (.cells (hC t2 bn bf bm b bo) 142), Mk kInt vInt bn N1, Flz bf (noteF H.files (filL S')), Mk kInt vMrk bm (noteM (filL S') H.marks), Ety b (noteE (thereL (filL S')) H.ents), pt ga (.cells #[.int .i64 0, .int .i64 A.n, .int .i64 A.kind, .int .i64 A.links, .slice p4 n4 c4, .slice p5 n5 c5] 38), pt g (.cells #[.int .i64 o.kind, .int .i64 o.fd, .int .i64 o.n, .int .i64 o.off, .int .i64 o.flags, sV o.path, sV o.dest, ov] 33)] ++ L)) from HO10.out.re 9 [3, 0, 1, 2, 4, 5, 6, 7, 8])).mono ?_
    rintro e w11 ⟨rfl, h11, k11⟩
    have HO11 := hid (show Has w11 (Mk kInt vEnt bo (delA H.opened A.n) :: pt q (.cells (hC t2 bn bf bm b bo) 142) :: Mk kInt vInt bn N1 :: Trc t2 S' :: Flz bf (noteF H.files (filL S')) :: Mk kInt vMrk bm (noteM (filL S') H.marks) :: Ety b (noteE (thereL (filL S')) H.ents) :: pt ga (.cells #[.int .i64 0, .int .i64 A.n, .int .i64 A.kind, .int .i64 A.links, .slice p4 n4 c4, .slice p5 n5 c5] 38) :: pt g (.cells #[.int .i64 o.kind, .int .i64 o.fd, .int .i64 o.n, .int .i64 o.off, .int .i64 o.flags, sV o.path, sV o.dest, ov] 33) :: L) from (show Has w11 (Trc t2 S' :: Mk kInt vEnt bo (delA H.opened A.n) :: pt q (.cells (hC t2 bn bf bm b bo) 142) :: Mk kInt vInt bn N1 :: Flz bf (noteF H.files (filL S')) :: Mk kInt vMrk bm (noteM (filL S') H.marks) :: Ety b (noteE (thereL (filL S')) H.ents) :: pt ga (.cells #[.int .i64 0, .int .i64 A.n, .int .i64 A.kind, .int .i64 A.links, .slice p4 n4 c4, .slice p5 n5 c5] 38) :: pt g (.cells #[.int .i64 o.kind, .int .i64 o.fd, .int .i64 o.n, .int .i64 o.off, .int .i64 o.flags, sV o.path, sV o.dest, ov] 33) :: L) from h11).re 9 [1, 2, 3, 0, 4, 5, 6, 7, 8])
    have HK11 := hid (HK10.out.trans k11)
    clear h11 k11 hx5 HO10 HK10
    try dsimp only
    obtain ⟨wo, hwo⟩ : ∃ wo, ((S'.find o.path true).2 == 0 && (S'.find o.path true).1.dir != 0) = wo := ⟨_, rfl⟩
    rw [hwo]
    have HWO := hid (show whereOk S' o.path = wo from hwo)
    have HWE := hid (show whereE S' o.path = ((S'.find o.path true).1.dir, (S'.find o.path true).1.name) from rfl)
    clear hwo
    generalize (S'.find o.path true).1.dir = wd at *
    generalize (S'.find o.path true).1.name = wn at *
    cases wo with
    | false =>
     have HE := hid (show delA H.opened A.n = O1 from by rw [← HOQ.out, if_pos HK1'.out, HWO.out, if_neg Bool.false_ne_true])
     go_wp2_with fail
     go_meet
     exact ⟨hid (by rw [← HE.out]; exact HO11.out), HK11⟩
    | true =>
     have HE := hid (show putA (delA H.opened A.n) A.n (wd, wn) = O1 from by rw [← HOQ.out, if_pos HK1'.out, HWO.out, if_pos rfl, HWE.out])
     go_upto_region 27 with fail
     have HO12 := hid HO11.out.drew
     have HK12 := hid HK11.out.drew
     clear HO11 HK11
     refine region_text (fun w' => w'.cell? ⟨q, 5, none⟩ = some (.map (some bo)) ∧ w'.cell? ⟨ga, 1, none⟩ = some (.int .i64 A.n)) (by kernel_rfl) (by kernel_rfl) ⟨HO12.out.p1.cells 5, (HO12.out.re 8 [7]).cells 1⟩ ?_
     generalize w11.drew = w12 at *
     repeat (first | refine wr2 ?_ | refine wk ?_)
     refine wa fun K' hK' => ?_
     refine wp_mkPut HO12.out (by
      have h1 := HD.out.ol
      have h2 : (delA H.opened A.n).length ≤ H.opened.length := List.length_filter_le _ _
      omega) tOpd undOpd _ _ _ rfl rfl A.n (HD.out.an HK1'.out) rfl ((wd, wn) : Ent) trivial rfl ?_
     intro w13 h13 k13
     have HO13 := hid h13
     have HK13 := hid (HK12.out.trans k13)
     clear h13 k13 HO12 HK12
     refine hK'.out _ _ ⟨HO13.out.p1.cells 5, (HO13.out.re 8 [7]).cells 1⟩ ?_
     clear hK' K'
     try simp only [Act.put, List.setIfInBounds_toArray, List.set_cons_zero, List.set_cons_succ]
     refine wpL_nil ?_
     go_wp2_with fail
     go_meet
     exact ⟨hid (by rw [← HE.out]; exact HO13.out), HK13⟩
   ·have hkb : (o.kind == 1) = false := by simp [hk]
    have HE := hid (show H.opened = O1 from by rw [← HOQ.out, if_neg hk])
    clear hk
    go_wp2_with fail
    go_meet
    exact ⟨hid (by rw [← HE.out]; exact HO8.out.re 9 [8, 1, 0, 2, 3, 4, 5, 6, 7]), HK8⟩
  case rest =>
   obtain ⟨HO9, HK9⟩ := hcut
   clear hx0 HO8 HK8
   generalize wc = w9 at *
   have HO10 := hid (show Has w9 (pt g (.cells #[.int .i64 o.kind, .int .i64 o.fd, .int .i64 o.n, .int .i64 o.off, .int .i64 o.flags, sV o.path, sV o.dest, ov] 33) :: Hsc q (H.didN o num A S') :: L) from by
    have h1 : Has w9 (Hsc q (H.didN o num A S') :: pt ga (.cells #[.int .i64 0, .int .i64 A.n, .int .i64 A.kind, .int .i64 A.links, .slice p4 n4 c4, .slice p5 n5 c5] 38) :: pt g (.cells #[.int .i64 o.kind, .int .i64 o.fd, .int .i64 o.n, .int .i64 o.off, .int .i64 o.flags, sV o.path, sV o.dest, ov] 33) :: L) := by
     unfold His.didN
     rw [HN1.out, HOQ.out]
     exact hsc_iff.2 ⟨t2, bn, bf, bm, b, bo, HO9.out.re 9 [1, 3, 2, 4, 5, 6, 0, 7, 8]⟩
    exact h1.re 3 [2, 0])
   clear HO9 HOQ HN1
   have hx := HO10.out.cells
   have hx0 : w9.cell? ⟨g, 0, none⟩ = some (.int .i64 o.kind) := hx 0
   have hx1 : w9.cell? ⟨g, 1, none⟩ = some (.int .i64 o.fd) := hx 1
   have hx2 : w9.cell? ⟨g, 2, none⟩ = some (.int .i64 o.n) := hx 2
   have hx3 : w9.cell? ⟨g, 3, none⟩ = some (.int .i64 o.off) := hx 3
   have hx4 : w9.cell? ⟨g, 4, none⟩ = some (.int .i64 o.flags) := hx 4
   have hx5 : w9.cell? ⟨g, 5, none⟩ = some (sV o.path) := hx 5
   have hx6 : w9.cell? ⟨g, 6, none⟩ = some (sV o.dest) := hx 6
   have hx7 : w9.cell? ⟨g, 7, none⟩ = some ov := hx 7
   have HLS := hid (mLasts q (H.didN o num A S') o ov (K + 1) rk' w9 _ (HD.out.hisOk HNDE.out) HD.out.wy HD.out.la HO10.out.p1)
   clear hx
   go_wp2_with fail
   refine HLS.out.mono ?_
   rintro e w10 ⟨rfl, h10, k10⟩
   clear hx0 hx1 hx2 hx3 hx4 hx5 hx6 hx7 HLS HO10
   try dsimp only
   go_wp2_with fail
   go_ret
   exact ⟨rfl, h10.re 2 [0], HK9.out.trans k10⟩
end Go.Proofs.YtmgpgbfgemebbaaGreatDoor
namespace Go.Proofs.YtmgpgbfgemebbaaGreatDoor
open Go.RowKit Go.Own
structure Hgs (H : His) (K m : Nat) : Prop where
 ok : HisOk H K
 nd : (H.ents.map Prod.fst).Nodup
 ll : ∀ x ∈ H.ents, x.2.length ≤ K
 el : H.ents.length ≤ m
 fl : H.files.length ≤ m
 sub : ∀ n x, fnd H.S.nodes n = some x → n ∈ H.files.map Prod.fst
 k1 : 1 ≤ K
 nl : H.nums.length ≤ m
 ol : H.opened.length ≤ m
 nwf : ∀ x ∈ H.nums, (Lit.int .i64 x.1).wf = true
 sh : ∀ x ∈ H.ents, x.1.2.length ≤ 24
section
variable {H : His} {K m : Nat}
theorem Hgs.firm (h : Hgs H K m) (n : Int) : Hgs (H.firm n) K m where
 ok := h.ok.firm n
 nd := h.nd
 ll := h.ll
 el := h.el
 fl := by
  have e := congrArg List.length (firmF_keys H.files n)
  rw [List.length_map, List.length_map] at e
  show (firmF H.files n).length ≤ _
  rw [e]; exact h.fl
 sub := fun a x hx => by show a ∈ (firmF H.files n).map Prod.fst; rw [firmF_keys]; exact h.sub a x hx
 k1 := h.k1
 nl := h.nl
 ol := h.ol
 nwf := h.nwf
 sh := h.sh
theorem firmAll_keys (Y : List (Int × Fil)) : (Y.map fun x => (x.1, x.2.firm)).map Prod.fst = Y.map Prod.fst := by simp
theorem HisOk.firmAll (h : HisOk H K) : HisOk H.firmAll K where
 ents := fun x hx => ⟨(h.ents x hx).1, (h.ents x hx).2.1, fun h0 => fnd_keys (firmAll_keys H.files).symm ((h.ents x hx).2.2 h0)⟩
 el := h.el
 mks := fun x hx => by show x.1 ∈ (H.files.map fun x => (x.1, x.2.firm)).map Prod.fst; rw [firmAll_keys]; exact h.mks x hx
 fl := by show (H.files.map _).length ≤ _; rw [List.length_map]; exact h.fl
 fil := fun x hx => by
  obtain ⟨y, hy, rfl⟩ := List.mem_map.1 hx
  exact ⟨(h.fil y hy).1, (h.fil y hy).2.firm⟩
 kb := h.kb
 op := h.op
theorem Hgs.firmAll (h : Hgs H K m) : Hgs H.firmAll K m where
 ok := h.ok.firmAll
 nd := h.nd
 ll := h.ll
 el := h.el
 fl := by show (H.files.map _).length ≤ _; rw [List.length_map]; exact h.fl
 sub := fun a x hx => by show a ∈ (H.files.map fun x => (x.1, x.2.firm)).map Prod.fst; rw [firmAll_keys]; exact h.sub a x hx
 k1 := h.k1
 nl := h.nl
 ol := h.ol
 nwf := h.nwf
 sh := h.sh
theorem Hgs.lastAll (h : Hgs H K m) (sel : Ent → Bool) : Hgs (H.lastAll sel) K m where
 ok := h.ok.lastAll sel
 nd := by show ((lastR _ _ _).map Prod.fst).Nodup; rw [lastR_keys]; exact h.nd
 ll := fun x hx => by
  obtain ⟨y, hy, rfl⟩ := List.mem_map.1 hx
  dsimp only
  split
  ·exact h.k1
  ·exact h.ll y hy
 el := by show (lastR _ _ _).length ≤ _; rw [lastR_len]; exact h.el
 fl := h.fl
 sub := h.sub
 k1 := h.k1
 nl := h.nl
 ol := h.ol
 nwf := h.nwf
 sh := fun x hx => by
  obtain ⟨y, hy, rfl⟩ := List.mem_map.1 hx
  exact h.sh y hy
theorem Hgs.above (h : Hgs H K m) (n : Int) : Hgs (H.above n) K m := h.lastAll _
theorem Hgs.lastOne (h : Hgs H K m) {e : Ent} (he : e ∈ H.ents.map Prod.fst) : Hgs (H.lastOne e) K m where
 ok := h.ok.lastOne he h.nd
 nd := putA_nd _ _ h.nd
 ll := fun x hx => by
  rcases mem_putA hx with rfl | ⟨hx, -⟩
  ·exact h.k1
  ·exact h.ll x hx
 el := by show (lastE H.ents e).length ≤ _; unfold lastE; rw [putA_lenK _ _ _ he]; exact h.el
 fl := h.fl
 sub := h.sub
 k1 := h.k1
 nl := h.nl
 ol := h.ol
 nwf := h.nwf
 sh := fun x hx => by
  rcases mem_putA hx with rfl | ⟨hx, -⟩
  ·obtain ⟨y, hy, rfl⟩ := List.mem_map.1 he
   exact h.sh y hy
  ·exact h.sh x hx
theorem Hgs.lasts (h : Hgs H K m) {o : Opm} (hl : LastsOk H o) : Hgs (H.lasts o) K m := by
 unfold His.lasts
 split
 ·exact (h.lastAll _).firmAll
 ·split
  ·split
   ·exact h.firm _
   ·exact h
  ·split
   ·exact h.firm _
   ·split
    ·rename_i h19
     split
     ·exact ((h.firm _).lastAll _).above _
     ·cases hf : fnd H.opened o.fd with
      | none => exact h.firm _
      | some e =>
       dsimp only
       split
       ·rename_i hnow
        have he : e ∈ (H.firm (H.fdN o.fd)).ents.map Prod.fst := by
         show e ∈ H.ents.map Prod.fst
         cases hfe : fnd H.ents e with
         | some l => exact mem_of_fnd hfe
         | none =>
          exfalso
          have h9 := hl.ne0 h19
          rw [← hnow] at h9
          unfold nowE at h9
          rw [hfe] at h9
          exact h9 rfl
        exact ((h.firm _).lastOne he).above _
       ·exact h.firm _
    ·exact h
end
theorem lasts_S (H : His) (o : Opm) : (H.lasts o).S = H.S := by
 unfold His.lasts
 repeat' split
 all_goals rfl
structure Hgo (H : His) (j : Nat) : Prop where
 gd : ∃ rk, Gd H.S rk j
 s : Hgs H (j + 2) (2000 * (j + 1))
theorem gdx_there {S : Tre} {rk : Int → Nat} {k : Nat} (h : Gd S rk k) (hk : k ≤ 41) : (thereL (filL S)).length ≤ 2000 ∧ (filL S).length ≤ 2000 := by
 have h1 := gd_there h
 have h2 := gd_filLen h
 have h3 : (k + 1) * k ≤ 42 * 41 := Nat.mul_le_mul (by omega) hk
 omega
theorem hgo0 : Hgo (His.begin tre0 [(1, 1)]) 0 where
 gd := ⟨_, gd0⟩
 s := by
  have hg := gdx_there gd0 (by omega)
  have h0 : Hgs ((⟨tre0, [(1, 1)], [], [], [], []⟩ : His).noteL (filL tre0)) 2 2000 := {
   ok := (hisOk0 tre0 [(1, 1)]).noteL gd0 (by omega) (by omega) (by omega) List.nodup_nil (by simp only [List.length_nil]; omega) (by simp only [List.length_nil]; omega)
   nd := noteE_nd List.nodup_nil (thereL_nd (gd0.filG (by omega)).1 (gd0.filG (by omega)).2.1)
   ll := fun x hx => by
    have hx : x ∈ noteE (thereL (filL tre0)) [] := hx
    unfold noteE mapK at hx
    simp only [List.map_nil, List.nil_append] at hx
    obtain ⟨y, -, rfl⟩ := List.mem_map.1 hx
    have := addV_len [(0 : Int)] y.2 0
    simpa using this
   el := by
    show (noteE (thereL (filL tre0)) []).length ≤ _
    unfold noteE mapK
    rw [List.length_append, List.length_map, List.length_map]
    have := List.length_filter_le (fun x : Ent × Int => decide (x.1 ∉ ([] : List (Ent × List Int)).map Prod.fst)) (thereL (filL tre0))
    simp only [List.length_nil]
    omega
   fl := by
    show (noteF [] (filL tre0)).length ≤ _
    have := noteF_len [] (filL tre0)
    simp only [List.length_nil] at this
    omega
   sub := fun n x hx => noteF_keys _ _ (.inr (filL_of ⟨x, hx⟩))
   k1 := by omega
   nl := by show [((1 : Int), (1 : Int))].length ≤ _; simp
   ol := by show ([] : List (Int × Ent)).length ≤ _; simp
   nwf := fun x hx => by
    have hx : x ∈ [((1 : Int), (1 : Int))] := hx
    rw [List.mem_singleton] at hx
    subst hx
    decide
   sh := fun x hx => by
    have hx : x ∈ noteE (thereL (filL tre0)) [] := hx
    have e : noteE (thereL (filL tre0)) [] = [] := by decide +kernel
    rw [e] at hx
    cases hx }
  exact (h0.lastAll _).firmAll
section
variable {H : His} {j : Nat}
theorem freshN_wf {S S0 : Tre} {rk : Int → Nat} {k : Nat} (h : Gd S rk k) (hk : k ≤ 100000) : (Lit.int .i64 (freshN S S0)).wf = true := by
 unfold freshN
 cases hf : (sorted (S.nodes.map Prod.fst)).find? fun n => !decide (n ∈ S0.nodes.map Prod.fst) with
 | none => decide
 | some n =>
  have h1 := (sorted_perm _).mem_iff.1 (List.mem_of_find?_eq_some hf)
  obtain ⟨x, hx⟩ := fnd_has h1
  have h2 := h.num n x hx
  have h3 := h.last
  exact (show (Lit.int .i64 n).wf = true from wf_small n (by omega) (by omega))
theorem lookE {T : List Tb.Slot} {fd : Int} (h : (Tb.get T fd).2 = 0) : ∃ s, Tb.look T fd = some s ∧ (Tb.get T fd).1 = s := by
 unfold Tb.get at h ⊢
 cases hl : Tb.look T fd with
 | none => rw [hl] at h; cases h
 | some s => exact ⟨s, rfl, rfl⟩
theorem Hgo.step (h : Hgo H j) (hj : j ≤ 40) (o : Opm) (ds : List Int) (num : Int) (hp : o.path.length ≤ 100000) (hnum : (Lit.int .i64 num).wf = true) (hfd : (Lit.int .i64 o.fd).wf = true) (han : o.kind = 1 → (Lit.int .i64 (H.S.doM o ds).1.n).wf = true) (hc : (H.S.doM o ds).1.code = 0) : ∃ rk rk', DidOk H o num (H.S.doM o ds).1 (H.S.doM o ds).2 (j + 2) j rk rk' ∧ Hgo (H.did o num (H.S.doM o ds).1 (H.S.doM o ds).2) (j + 1) := by
 obtain ⟨rk, hG⟩ := h.gd
 obtain ⟨rk', hG'⟩ := hG.doM o ds hp
 obtain ⟨S', hS'⟩ : ∃ S', (H.S.doM o ds).2 = S' := ⟨_, rfl⟩
 obtain ⟨A, hA⟩ : ∃ A, (H.S.doM o ds).1 = A := ⟨_, rfl⟩
 have hth := gdx_there hG' (by omega)
 have hgt := gd_there hG'
 have h41 : (j + 1 + 1) * (j + 1) ≤ 42 * 41 := Nat.mul_le_mul (by omega) (by omega)
 have hel := h.s.el
 have hfl := h.s.fl
 have hm : 2000 * (j + 1) ≤ 82000 := by omega
 have hla : LastsOk (H.didN o num A S') o := by
  have hfile : ∀ s, Tb.look S'.tab o.fd = some s → (∃ F, fnd (noteF H.files (filL S')) s.node = some F) ∧ s.node ≠ 0 := fun s hs => by
   obtain ⟨⟨x, hx, -⟩, -⟩ := (hS' ▸ hG').opn _ _ hs
   exact ⟨fnd_has (noteF_keys _ _ (.inr (filL_of ⟨x, hx⟩))), (hS' ▸ hG').ne0 hx⟩
  have hget : o.kind = 19 ∨ o.kind = 20 → ∃ s, Tb.look S'.tab o.fd = some s ∧ (Tb.get S'.tab o.fd).1 = s := fun hk => by
   have h1 : H.S.doM o ds = (H.S.lasts o.fd, H.S) := by
    unfold Tre.doM
    rcases hk with hk | hk <;> simp [hk]
   rw [h1] at hS' hc
   dsimp only at hS' hc
   subst hS'
   unfold Tre.lasts at hc
   split at hc
   ·cases hc
   ·rename_i h2
    exact lookE (by omega)
  refine ⟨fun hk => ?_, fun hk => ?_, hfd⟩
  ·rcases hk with hk | hk | ⟨hk, hfl2⟩
   ·obtain ⟨s, h1, h2⟩ := hget (.inl hk)
    obtain ⟨h3, -⟩ := hfile s h1
    show ∃ F, fnd (noteF H.files (filL S')) (Tb.get S'.tab o.fd).1.node = some F
    rw [h2]; exact h3
   ·obtain ⟨s, h1, h2⟩ := hget (.inr hk)
    obtain ⟨h3, -⟩ := hfile s h1
    show ∃ F, fnd (noteF H.files (filL S')) (Tb.get S'.tab o.fd).1.node = some F
    rw [h2]; exact h3
   ·have hfl2 : andI (Tb.get S'.tab o.fd).1.flags 16 ≠ 0 := hfl2
    cases hl : Tb.look S'.tab o.fd with
    | none =>
     exfalso
     unfold Tb.get at hfl2
     rw [hl] at hfl2
     exact hfl2 (by decide)
    | some s =>
     obtain ⟨h3, -⟩ := hfile s hl
     show ∃ F, fnd (noteF H.files (filL S')) (Tb.get S'.tab o.fd).1.node = some F
     have h2 : (Tb.get S'.tab o.fd).1 = s := by unfold Tb.get; rw [hl]
     rw [h2]; exact h3
  ·obtain ⟨s, h1, h2⟩ := hget (.inl hk)
   obtain ⟨-, h3⟩ := hfile s h1
   show (Tb.get S'.tab o.fd).1.node ≠ 0
   rw [h2]; exact h3
 rw [hS'] at hG' hth hgt ⊢
 rw [hA] at hc han ⊢
 have hdo : DidOk H o num A S' (j + 2) j rk rk' := {
  ok := h.s.ok
  kb := by omega
  k1 := by omega
  gd := hG
  gd' := hG'
  kk := by omega
  wy := hG'.wy
  wk := hG'.wk
  el := by omega
  fl := by omega
  ll := h.s.ll
  nl := by have := h.s.nl; omega
  ol := by have := h.s.ol; omega
  code := hc
  path := hp
  nwf := hnum
  an := han
  fr := freshN_wf hG' (by omega)
  we := fun _ hw => by
   unfold whereOk at hw
   rw [Bool.and_eq_true] at hw
   have h0 : (S'.find o.path true).2 = 0 := by simpa using hw.1
   have h1 : (S'.find o.path true).1.dir ≠ 0 := by simpa using hw.2
   obtain ⟨h2, -⟩ := hG'.find_ok o.path true h0
   obtain ⟨-, d, h3, -, h4⟩ := h2.dir h1
   obtain ⟨h5, -⟩ := (hG'.nod h3).ents _ (fnd_some h4)
   have h6 := hG'.num _ _ h3
   have h7 := hG'.last
   exact ⟨wf_small _ (by show 0 ≤ (S'.find o.path true).1.dir; omega) (by show (S'.find o.path true).1.dir ≤ _; omega), Nat.le_trans h5.2.1 (by decide)⟩
  la := hla }
 refine ⟨rk, rk', hdo, ?_, ?_⟩
 ·show ∃ rk, Gd (H.did o num A S').S rk (j + 1)
  unfold His.did
  rw [lasts_S]
  exact ⟨rk', hG'⟩
 ·refine Hgs.lasts ?_ hla
  exact {
   ok := hdo.hisOk h.s.nd
   nd := noteE_nd h.s.nd (thereL_nd (hG'.filG (by omega)).1 (hG'.filG (by omega)).2.1)
   ll := fun x hx => by
    have hx : x ∈ noteE (thereL (filL S')) H.ents := hx
    unfold noteE at hx
    rcases List.mem_append.1 hx with hx | hx
    ·rw [mapK_nil] at hx
     obtain ⟨y, hy, rfl⟩ := List.mem_map.1 hx
     have h1 := addV_len y.2 (thrE (thereL (filL S')) y.1) 0
     have h2 := h.s.ll y hy
     show (addV y.2 (thrE (thereL (filL S')) y.1) 0).length ≤ _
     omega
    ·obtain ⟨y, -, rfl⟩ := List.mem_map.1 hx
     have h1 := addV_len [(0 : Int)] y.2 0
     simp only [List.length_singleton] at h1
     show (addV [(0 : Int)] y.2 0).length ≤ _
     omega
   el := by
    show (noteE (thereL (filL S')) H.ents).length ≤ _
    unfold noteE
    rw [List.length_append, mapK_len, List.length_map]
    have := List.length_filter_le (fun x : Ent × Int => decide (x.1 ∉ H.ents.map Prod.fst)) (thereL (filL S'))
    omega
   fl := by
    show (noteF H.files (filL S')).length ≤ _
    have := noteF_len H.files (filL S')
    omega
   sub := fun n x hx => noteF_keys _ _ (.inr (filL_of ⟨x, hx⟩))
   k1 := by omega
   nl := by
    have h1 := h.s.nl
    show (if freshN S' H.S = 0 then H.nums else putA H.nums (freshN S' H.S) num).length ≤ _
    split
    ·omega
    ·have := putA_len1M H.nums (freshN S' H.S) num
     omega
   ol := by
    have h1 := h.s.ol
    have h2 : (delA H.opened A.n).length ≤ H.opened.length := List.length_filter_le _ _
    show (if o.kind = 1 then (if whereOk S' o.path = true then putA (delA H.opened A.n) A.n (whereE S' o.path) else delA H.opened A.n) else H.opened).length ≤ _
    split
    ·split
     ·have := putA_len1M (delA H.opened A.n) A.n (whereE S' o.path)
      omega
     ·omega
    ·omega
   nwf := fun x hx => by
    have hx : x ∈ (if freshN S' H.S = 0 then H.nums else putA H.nums (freshN S' H.S) num) := hx
    split at hx
    ·exact h.s.nwf x hx
    ·rcases mem_putA hx with rfl | ⟨hx, -⟩
     ·exact freshN_wf hG' (by omega)
     ·exact h.s.nwf x hx
   sh := fun x hx => by
    have hx : x ∈ noteE (thereL (filL S')) H.ents := hx
    unfold noteE at hx
    rcases List.mem_append.1 hx with hx | hx
    ·rw [mapK_nil] at hx
     obtain ⟨y, hy, rfl⟩ := List.mem_map.1 hx
     exact h.s.sh y hy
    ·obtain ⟨y, hy, rfl⟩ := List.mem_map.1 hx
     obtain ⟨z, hz, h2, h3⟩ := mem_thereL.1 (List.mem_filter.1 hy).1
     exact (((hG'.filG (by omega)).2.2 z hz).2.2.1 _ h3).2.2.2 }
end
end Go.Proofs.YtmgpgbfgemebbaaGreatDoor
namespace Go.Proofs.YtmgpgbfgemebbaaGreatDoor
open Go.RowKit Go.Own
def insI (x : Int) : List Int → List Int
 | [] => [x]
 | y :: l => if x ≤ y then x :: y :: l else y :: insI x l
def sortI : List Int → List Int
 | [] => []
 | x :: l => insI x (sortI l)
theorem insI_perm (x : Int) : ∀ l, (insI x l).Perm (x :: l)
 | [] => .refl _
 | y :: l => by
  unfold insI
  split
  ·exact .refl _
  ·exact ((insI_perm x l).cons y).trans (.swap _ _ _)
theorem sortI_perm : ∀ l, (sortI l).Perm l
 | [] => .refl _
 | x :: l => (insI_perm x (sortI l)).trans ((sortI_perm l).cons x)
theorem insI_low (x : Int) : ∀ l : List Int, l.Pairwise (· ≤ ·) → (insI x l).Pairwise (· ≤ ·)
 | [], _ => by simp [insI]
 | y :: l, h => by
  unfold insI
  split
  ·rename_i hxy
   refine List.pairwise_cons.2 ⟨fun z hz => ?_, h⟩
   rcases List.mem_cons.1 hz with rfl | hz
   ·exact hxy
   ·exact Int.le_trans hxy ((List.pairwise_cons.1 h).1 z hz)
  ·rename_i hxy
   refine List.pairwise_cons.2 ⟨fun z hz => ?_, insI_low x l (List.pairwise_cons.1 h).2⟩
   rcases List.mem_cons.1 ((insI_perm x l).mem_iff.1 hz) with rfl | hz
   ·omega
   ·exact (List.pairwise_cons.1 h).1 z hz
theorem sortI_low : ∀ l, (sortI l).Pairwise (· ≤ ·)
 | [] => List.Pairwise.nil
 | x :: l => insI_low x _ (sortI_low l)
theorem sorted_I (l : List Int) : sorted l = sortI l := by
 have h1 : sorted l = sorted (sortI l) := sorted_congr (sortI_perm l).symm
 rw [h1]
 refine List.mergeSort_of_pairwise ?_
 exact (sortI_low l).imp fun h => by simpa using h
def filI (S : Tre) : List (Int × Nod) := filesQ S (sortI (S.nodes.map Prod.fst))
theorem fil_I (S : Tre) : filL S = filI S := by unfold filL filI; rw [sorted_I]
def freshI (S S0 : Tre) : Int := ((sortI (S.nodes.map Prod.fst)).find? fun n => !decide (n ∈ S0.nodes.map Prod.fst)).getD 0
theorem fresh_I (S S0 : Tre) : freshN S S0 = freshI S S0 := by unfold freshN freshI; rw [sorted_I]
def His.didI (H : His) (o : Opm) (num : Int) (A : Ans) (S' : Tre) (wo : Bool) (we : Ent) : His :=
 ({ ({ H with S := S' } : His).noteL (filI S') with
  nums := if freshI S' H.S = 0 then H.nums else putA H.nums (freshI S' H.S) num
  opened := if o.kind = 1 then (if wo = true then putA (delA H.opened A.n) A.n we else delA H.opened A.n) else H.opened } : His).lasts o
theorem did_I (H : His) (o : Opm) (num : Int) (A : Ans) (S' : Tre) (wo : Bool) (we : Ent) (h : o.kind = 1 → whereOk S' o.path = wo ∧ whereE S' o.path = we) : H.did o num A S' = H.didI o num A S' wo we := by
 unfold His.did His.didI His.didN
 rw [fil_I, fresh_I]
 by_cases hk : o.kind = 1
 ·obtain ⟨h1, h2⟩ := h hk
  rw [h1, h2]
 ·rw [if_neg hk, if_neg hk]
def His.beginI (S : Tre) (N : List (Int × Int)) : His := (((⟨S, N, [], [], [], []⟩ : His).noteL (filI S)).lastAll fun _ => true).firmAll
theorem begin_I (S : Tre) (N : List (Int × Int)) : His.begin S N = His.beginI S N := by unfold His.begin His.beginI; rw [fil_I]
end Go.Proofs.YtmgpgbfgemebbaaGreatDoor
namespace Go.Own
open Go.ChangeShapes Go.WideShapes Go.ChangeAt Go.RowKit
section
variable {H : Type} {enc : TypeId × Value → H} {P : Program} {W : World} {base : Nat} {spare : Nat → Bool} {held : Bool}
end
end Go.Own
namespace Go.Own
open Go.ChangeShapes Go.WideShapes Go.ChangeAt Go.RowKit
section
variable {H : Type} {enc : TypeId × Value → H} {P : Program} {W : World} {base : Nat} {spare : Nat → Bool} {held : Bool}
end
end Go.Own
namespace Go.Proofs.YtmgpgbfgemebbaaGreatDoor
open Go.RowKit Go.Own
def tabB (s t : Tb.Slot) : List Tb.Slot := s :: t :: List.replicate 14 Tb.none4
section
variable {d : List Int} {wr : List Bool} {T : List Tb.Slot} {fd : Int} {s : Tb.Slot}
def cutD (d : List Int) (size : Nat) : List Int := if size ≤ d.length then d.take size else d ++ List.replicate (size - d.length) 0
def cutW (d : List Int) (wr : List Bool) (size : Nat) : List Bool := if size ≤ d.length then wr.take (needM size) else wr
def wrD (d : List Int) (o : Nat) (ds : List Int) : List Int := (cutD d (max d.length (o + ds.length))).take o ++ ds ++ (cutD d (max d.length (o + ds.length))).drop (o + ds.length)
def wrW (d : List Int) (wr : List Bool) (o : Nat) (ds : List Int) : List Bool := wrSet (cutW d wr (max d.length (o + ds.length)) ++ List.replicate (needM (o + ds.length) - (cutW d wr (max d.length (o + ds.length))).length) false) (o / 128) (needM (o + ds.length))
def wrO (d : List Int) (s : Tb.Slot) : Int := if andI s.flags 8 ≠ 0 then (d.length : Int) else s.off
end
end Go.Proofs.YtmgpgbfgemebbaaGreatDoor
namespace Go.Proofs.YtmgpgbfgemebbaaGreatDoor
open Go.RowKit Go.Own
section
variable (q : Nat) (mx : Int) (w : World) (L : List HP)
variable {d : List Int} {wr : List Bool} {T : List Tb.Slot} {fd : Int} {s : Tb.Slot} (hd : d.length ≤ 100000) (hw : wr.length ≤ 162)
include hd hw
variable (hT : TabF T) (hl : Tb.look T fd = some s)
include hT hl
variable (hf : andI s.flags 32 ≠ 0)
include hf
variable (po : Option Addr) (co : Nat) {ds : List Int} (hds : ds.length ≤ 10000)
include hds
def pwD (d : List Int) (o : Nat) (ds : List Int) : List Int := if ds = [] then d else wrD d o ds
end
end Go.Proofs.YtmgpgbfgemebbaaGreatDoor
namespace Go.Proofs.YtmgpgbfgemebbaaGreatDoor
open Go.RowKit Go.Own
end Go.Proofs.YtmgpgbfgemebbaaGreatDoor
namespace Go.Proofs.YtmgpgbfgemebbaaGreatDoor
open Go.RowKit Go.Own
theorem rdStart {W w : World} {L : List HP} {v : Value} {size n : Nat} {xs : List Value} (hr : Rd W v size n xs) (h : Has w (old W :: L)) : Rd w v size n xs := hr.cellsOld h.old_look
theorem mxStart {W : World} {mx : Int} (h : W.cell? ⟨0, 0, none⟩ = some (.int .i64 mx)) : MxL mx [old W] := fun w' h' => (World.cell?_of_block (h'.old_look 0 (World.block_lt_of_cell? W _ h))).trans h
section
variable (q : Nat) (w : World) (L : List HP) {b : List Int} {wr : List Bool} (hd : b.length ≤ 10000) (hw : wr.length ≤ 162) (K : Nat) (hK : K ≤ b.length)
include hd hw hK
end
end Go.Proofs.YtmgpgbfgemebbaaGreatDoor
namespace Go.Proofs.YtmgpgbfgemebbaaGreatDoor
open Go.RowKit Go.Own
structure Oq where
 op : Opm
 dv : Value
 data : List Int
def Oq.cells (y : Oq) : List Value := (opC y.op y.dv).toList
def oqCells (R : List Oq) : List Value := R.flatMap Oq.cells
theorem oqCells_at (R : List Oq) (k : Nat) (hk : k < R.length) (j : Nat) (hj : j < 8) : (oqCells R)[k * 8 + j]? = (R[k].cells)[j]? := by
 induction R generalizing k with
 | nil => simp at hk
 | cons x R ih =>
  cases k with
  | zero =>
   simp only [oqCells, List.flatMap_cons, List.getElem_cons_zero, Nat.zero_mul, Nat.zero_add]
   rw [List.getElem?_append_left (by simp [Oq.cells, opC]; omega)]
  | succ k =>
   simp only [oqCells, List.flatMap_cons, List.getElem_cons_succ]
   have hl : x.cells.length = 8 := rfl
   rw [List.getElem?_append_right (by omega), hl, show (k + 1) * 8 + j - 8 = k * 8 + j by omega]
   exact ih k (by simpa using hk)
def OpWf (o : Opm) : Prop := -9223372036854775808 ≤ o.off ∧ o.off ≤ 9223372036854775807 ∧ o.path.length ≤ 9223372036854775807 ∧ o.dest.length ≤ 9223372036854775807
def RdOp (w : World) (y : Oq) : Prop := Rd w y.dv 1 y.data.length (bc y.data) ∧ OpWf y.op
def RdOps (w : World) (v : Value) (R : List Oq) : Prop := Rd w v 8 R.length (oqCells R) ∧ ∀ y ∈ R, RdOp w y
theorem RdOps.form {w : World} {v : Value} {R : List Oq} (h : RdOps w v R) : ∃ p c, v = .slice p R.length c ∧ R.length ≤ c ∧ R.length ≤ 9223372036854775807 := by
 obtain ⟨p, c, h, h1, h2, -⟩ := h.1.form
 exact ⟨p, c, h, h1, h2⟩
theorem RdOps.at_ {w : World} {v : Value} {R : List Oq} (h : RdOps w v R) (k : Nat) (hk : k < R.length) : ∃ g o c, v = .slice (some ⟨g, o, none⟩) R.length c ∧ ∀ j, j < 8 → w.cell? ⟨g, o + (k * 8 + j), none⟩ = (R[k].cells)[j]? := by
 obtain ⟨p, c, rfl, -, -, hr⟩ := h.1.form
 obtain ⟨g, o, rfl, hc⟩ := hr (by omega)
 exact ⟨g, o, c, rfl, fun j hj => (hc (k * 8 + j) (by omega)).trans (oqCells_at R k hk j hj)⟩
theorem RdOp.start {W w : World} {L : List HP} {y : Oq} (h : RdOp W y) (hO : Has w (old W :: L)) : RdOp w y := ⟨rdStart h.1 hO, h.2⟩
theorem RdOps.start {W w : World} {L : List HP} {v : Value} {R : List Oq} (h : RdOps W v R) (hO : Has w (old W :: L)) : RdOps w v R := ⟨rdStart h.1 hO, fun y hy => (h.2 y hy).start hO⟩
section
variable {H : Type} {enc : TypeId × Value → H} {W : World} {base : Nat} {spare : Nat → Bool} {held : Bool}
end
end Go.Proofs.YtmgpgbfgemebbaaGreatDoor
