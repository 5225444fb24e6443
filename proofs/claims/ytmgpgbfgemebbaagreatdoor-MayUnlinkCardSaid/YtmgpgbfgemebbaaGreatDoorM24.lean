/- TEXTS of mine, merged. -/
import Derived.Test.YtmgpgbfgemebbaaGreatDoorM23
import Derived.Test.YtmgpgbfgemebbaaGreatDoorM22
import Derived.Test.YtmgpgbfgemebbaaGreatDoorM8
import Derived.Test.YtmgpgbfgemebbaaGreatDoorM9
import Derived.Test.YtmgpgbfgemebbaaGreatDoorM17
import Derived.Test.YtmgpgbfgemebbaaGreatDoorM6
set_option linter.all false
namespace Go.Proofs.YtmgpgbfgemebbaaGreatDoor
open Go.RowKit Go.Own
def nm3 (a : Nat) : Str := [UInt8.ofNat (97 + a), 122, 113]
theorem nums_low {S : Tre} {k : Nat} (h : Gdx S k) {os : List Sn} (h1 : (os.map Sn.key).Perm ((seen S.nodes 22 1 []).map keyE)) : ∀ s ∈ os, 1 ≤ s.num ∧ s.num ≤ k + 1 := by
 intro s hs
 obtain ⟨rk, hg⟩ := h
 have h2 := h1.subset (List.mem_map_of_mem hs)
 obtain ⟨e, he, hk⟩ := List.mem_map.1 h2
 rw [files_seen] at he
 obtain ⟨f, hf, rfl⟩ := List.mem_map.1 he
 have h3 := ((hg.files_mem f).1 hf).2
 have h4 := hg.num _ _ h3
 have h5 : f.2.1 = s.num := congrArg (fun t => t.2.1) hk
 have h6 := hg.last
 omega
theorem lens_of {S : Tre} {k : Nat} (h : Gdx S k) {os : List Sn} (h1 : (os.map Sn.key).Perm ((seen S.nodes 22 1 []).map keyE)) : os.length = (filesP S).length := by
 obtain ⟨rk, hg⟩ := h
 exact hg.files_len h1
def mul7 (s : Sn) : Sn := { s with num := s.num * 7 + 3 }
def upto7 (os : List Sn) (k : Nat) : List Sn := (os.take k).map mul7 ++ os.drop k
end Go.Proofs.YtmgpgbfgemebbaaGreatDoor
namespace Go.Proofs.YtmgpgbfgemebbaaGreatDoor
open Go.RowKit Go.Own
def renum (N : List (Int × Int)) (s : Sn) : Sn := { s with num := (fnd N s.num).getD 0 }
theorem snEnc_at2 : ∀ (os : List Sn) (k : Nat) (s : Sn) (j : Nat), os[k]? = some s → j < 5 → (snEnc os)[k * 5 + j]? = s.enc[j]?
 | [], k, s, j, h, _ => by simp at h
 | y :: os, 0, s, j, h, hj => by
  simp only [List.getElem?_cons_zero, Option.some.injEq] at h
  subst h
  show (y.enc ++ snEnc os)[0 * 5 + j]? = _
  rw [Nat.zero_mul, Nat.zero_add, List.getElem?_append_left (by show j < 5; exact hj)]
 | y :: os, k + 1, s, j, h, hj => by
  simp only [List.getElem?_cons_succ] at h
  show (y.enc ++ snEnc os)[(k + 1) * 5 + j]? = _
  rw [List.getElem?_append_right (by show 5 ≤ _; omega), ← snEnc_at2 os k s j h hj]
  congr 1
  show (k + 1) * 5 + j - 5 = _
  omega
theorem snEnc_set : ∀ (os : List Sn) (k : Nat) (s : Sn) (n : Int), os[k]? = some s → snEnc (os.set k { s with num := n }) = (snEnc os).set (k * 5 + 1) (.int .i64 n)
 | [], k, s, n, h => by simp at h
 | y :: os, 0, s, n, h => by
  simp only [List.getElem?_cons_zero, Option.some.injEq] at h
  subst h
  rfl
 | y :: os, k + 1, s, n, h => by
  simp only [List.getElem?_cons_succ] at h
  show y.enc ++ snEnc (os.set k { s with num := n }) = (y.enc ++ snEnc os).set ((k + 1) * 5 + 1) _
  rw [snEnc_set os k s n h, List.set_append_right _ _ (by show 5 ≤ _; omega)]
  congr 2
  show k * 5 + 1 = (k + 1) * 5 + 1 - 5
  omega
def renK (N : List (Int × Int)) (os : List Sn) (k : Nat) : List Sn := (os.take k).map (renum N) ++ os.drop k
theorem renK_at {N : List (Int × Int)} {os : List Sn} {k : Nat} {s : Sn} (h : os[k]? = some s) : (renK N os k)[k]? = some s := by
 have hk : k < os.length := (List.getElem?_eq_some_iff.1 h).1
 unfold renK
 rw [List.getElem?_append_right (by rw [List.length_map, List.length_take]; omega), List.length_map, List.length_take, List.getElem?_drop]
 rw [← h]
 congr 1
 omega
theorem renK_step {N : List (Int × Int)} {os : List Sn} {k : Nat} {s : Sn} (h : os[k]? = some s) : renK N os (k + 1) = (renK N os k).set k (renum N s) := by
 have hk : k < os.length := (List.getElem?_eq_some_iff.1 h).1
 have h2 : os[k] = s := by rw [List.getElem?_eq_getElem hk] at h; exact Option.some.inj h
 have e1 : os.drop k = s :: os.drop (k + 1) := by rw [List.drop_eq_getElem_cons hk, h2]
 have e2 : os.take (k + 1) = os.take k ++ [s] := by rw [List.take_add_one, h]; rfl
 unfold renK
 rw [e1, e2, List.set_append_right _ _ (by rw [List.length_map, List.length_take]; omega), List.length_map, List.length_take, List.map_append, List.append_assoc]
 congr 1
 rw [show k - min k os.length = 0 by omega]
 rfl
theorem renK_all (N : List (Int × Int)) (os : List Sn) : renK N os os.length = os.map (renum N) := by
 unfold renK
 rw [List.take_length, List.drop_length, List.append_nil]
open Classical in
theorem pmZ1 (R T Q N F M E O : HP) (Z L : List HP) : (R :: (Z ++ (T :: Q :: N :: F :: M :: E :: O :: L))).Perm (R :: Q :: N :: (Z ++ (T :: F :: M :: E :: O :: L))) := by
 refine List.perm_iff_count.2 fun x => ?_
 simp only [List.count_append, List.count_cons] at *
 omega
set_option maxRecDepth 100000 in
set_option maxHeartbeats 8000000 in
theorem mNodesH (q : Nat) (H : His) (k : Nat) (w : World) (L : List HP) (hG : Gdx H.S k) (hk : k < 900) (hO : Has w (Hsc q H :: L)) :
  Calls Tryz.prog 38 #[.pointer (some ⟨q, 0, none⟩)] w fun e w' => ∃ p c os, e = .returned (.slice p os.length c) ∧ (os.map Sn.key).Perm ((seen H.S.nodes 22 1 []).map keyE) ∧ Srt os ∧ Has w' (Sns (.slice p os.length c) (os.map (renum H.nums)) :: Hsc q H :: L) ∧ Keep w w' := by
 obtain ⟨t, bn, bf, bm, b, bo, h0⟩ := hsc_iff.1 hO
 have HG := hid hG
 have HKK := hid hk
 have hq0 : w.cell? ⟨q, 0, none⟩ = some (.pointer (some ⟨t, 0, none⟩)) := h0.cells 0
 have HO := hid (h0.re 2 [1, 0])
 clear h0 hO hG hk
 go_enter Tryz.func38, Tryz.ntmps38
 go_wp2_with fail
 refine (stepNodes' t w _ HG.out HKK.out HO.out).mono ?_
 rintro e w1 ⟨p, c, os, rfl, hp, hs, h1, k1⟩
 have HNUM := hid (nums_low HG.out hp)
 have HP := hid hp
 have HS := hid hs
 obtain ⟨RR, hRR⟩ : ∃ RR, RR = os.map (fun s => Bytes s.dv s.data) ++ (Trc t H.S :: Flz bf H.files :: Mk kInt vMrk bm H.marks :: Ety b H.ents :: Mk kInt vEnt bo H.opened :: L) := ⟨_, rfl⟩
 have HRR := hid hRR
 have HO1 := hid (show Has w1 (row (.slice p os.length c) 57 5 os.length (snEnc (renK H.nums os 0)) :: pt q (.cells (hC t bn bf bm b bo) 142) :: Mk kInt vInt bn H.nums :: RR) from by
  have e0 : renK H.nums os 0 = os := by unfold renK; simp
  rw [e0, hRR]
  exact (sns_iff.1 h1).perm (pmZ1 _ _ _ _ _ _ _ _ _ _))
 have HK1 := hid k1
 have hol : (os.length : Int) ≤ 1000000 := by
  have h2 := lens_of HG.out hp
  have h3 : (filesP H.S).length ≤ 1000000 := by
   obtain ⟨rk, hg⟩ := HG.out
   exact hg.files_few' HKK.out
  omega
 clear h1 k1 hp hs hRR HO hq0
 try dsimp only
 go_wp2_with fail
 go_loopw [14] (fun i w' => ∃ k : Nat, k ≤ os.length ∧ i = .int .i64 k ∧ Hid (Has w' (row (.slice p os.length c) 57 5 os.length (snEnc (renK H.nums os k)) :: pt q (.cells (hC t bn bf bm b bo) 142) :: Mk kInt vInt bn H.nums :: RR)) ∧ Hid (Keep w w')) (fun i _ => os.length - (intOf i).toNat)
 case atStart => exact ⟨0, by omega, rfl, HO1, HK1⟩
 case round =>
  clear HO1 HK1
  obtain ⟨k, hk, rfl, HO, HK⟩ := hrel
  by_cases hlt : k < os.length
  ·obtain ⟨s, hs⟩ : ∃ s, os[k]? = some s := ⟨os[k], List.getElem?_eq_getElem hlt⟩
   have hk0 : (0 : Int) ≤ (k : Int) := by omega
   have hk1 : (k : Int) < (os.length : Int) := by omega
   obtain ⟨p', c', e1, -, -, h4⟩ := (Has.rd HO.out).form
   injection e1 with e1 e2 e3
   clear e2 e3
   subst e1
   obtain ⟨g0, o0, rfl, -⟩ := h4 (by omega)
   have hg0 : o0 = 0 := by
    obtain ⟨-, h9 | ⟨g', cap', cur, e1, -⟩⟩ := HO.out.row_cases
    ·exact absurd h9.1 (by simp)
    ·simp only [Value.slice.injEq, Option.some.injEq, Addr.mk.injEq] at e1
     exact e1.1.2.1
   subst hg0
   obtain ⟨-, hcs, hfz, -⟩ := HO.out.row_cells
   have hc1 : wr.cell? ⟨g0, k * 5 + 1, none⟩ = some (.int .i64 s.num) := by
    rw [hcs (k * 5 + 1) (by omega), snEnc_at2 _ k s 1 (renK_at hs) (by omega)]
    rfl
   have hz1 : wr.frozen? ⟨g0, k * 5 + 1, none⟩ = false := hfz _
   have hsn := HNUM.out s (List.mem_of_getElem? hs)
   have HWF := hid (show (Lit.int .i64 s.num).wf = true from wf_small _ (by omega) (by have := HKK.out; omega))
   have hlk : (Instr.lookup tNu (.map (some bn)) (.int .i64 s.num) false).run Tryz.prog wr = .ok (.int .i64 ((fnd H.nums s.num).getD 0)) wr := Mk.look0 (V := vInt) (show Has wr (Mk kInt vInt bn H.nums :: _) from HO.out.p2) undNu (x := s.num) HWF.out
   obtain ⟨z, hz⟩ : ∃ z, (fnd H.nums s.num).getD 0 = z := ⟨_, rfl⟩
   have HZ := hid hz
   rw [hz] at hlk
   have HST := hid (show snEnc (renK H.nums os (k + 1)) = (snEnc (renK H.nums os k)).set (k * 5 + 1) (.int .i64 z) from by
    rw [renK_step hs, ← hz]
    exact snEnc_set _ k s _ (renK_at hs))
   have hkb : k * 5 + 1 < os.length * 5 := by omega
   have HKB := hid hkb
   have HOd := hid HO.out.drew
   have HKd := hid HK.out.drew
   clear hcs hfz hs h4 hsn hz hkb HO HK
   go_upto_region 7 with fail
   have hlk2 : (Instr.lookup tNu (.map (some bn)) (.int .i64 s.num) false).run Tryz.prog wr.drew = .ok (.int .i64 z) wr.drew := by
    have h9 := Mk.look0 (V := vInt) (show Has wr.drew (Mk kInt vInt bn H.nums :: _) from HOd.out.p2) undNu (x := s.num) HWF.out
    rw [show (fnd H.nums s.num).getD vInt.z = z from HZ.out] at h9
    exact h9
   have hc2 : wr.drew.cell? ⟨g0, k * 5 + 1, none⟩ = some (.int .i64 s.num) := hc1
   have hz2 : wr.drew.frozen? ⟨g0, k * 5 + 1, none⟩ = false := hz1
   refine region_tail1 (fun w' => w'.cell? ⟨q, 1, none⟩ = some (.map (some bn)) ∧ w'.cell? ⟨g0, k * 5 + 1, none⟩ = some (.int .i64 s.num) ∧ (Instr.lookup tNu (.map (some bn)) (.int .i64 s.num) false).run Tryz.prog w' = .ok (.int .i64 z) w') (by kernel_rfl) (by kernel_rfl) (by kernel_rfl) (by decide) ⟨HOd.out.p1.cells 1, hc2, hlk2⟩ ?_
   clear hlk hlk2 hc1 hz1
   generalize wr.drew = wd at *
   repeat (first | refine wr3 ?_ | refine wk ?_)
   refine wpL_nil ?_
   refine wpOp_last rfl (by rfl) ?_
   go_simp
   have HO9 := hid (show Has (wd.setCell ⟨g0, k * 5 + 1, none⟩ (.int .i64 z)) (row (.slice (some ⟨g0, 0, none⟩) os.length c) 57 5 os.length (snEnc (renK H.nums os (k + 1))) :: pt q (.cells (hC t bn bf bm b bo) 142) :: Mk kInt vInt bn H.nums :: RR) from by
    rw [HST.out]
    exact HOd.out.row_set (k * 5 + 1) HKB.out (.int .i64 z))
   have HK9 := hid (HKd.out.set ⟨g0, k * 5 + 1, none⟩ (.int .i64 z))
   clear hc2 hz2 HOd HKd
   generalize wd.setCell ⟨g0, k * 5 + 1, none⟩ (.int .i64 z) = w9 at *
   go_wp2_with fail
   exact ⟨⟨k + 1, by omega, by go_num, HO9, HK9⟩, by simp [intOf]; omega⟩
  ·obtain rfl : k = os.length := by omega
   have hki : ¬ (os.length : Int) < (os.length : Int) := by omega
   have HO2 := hid (show Has wr (Sns (.slice p os.length c) (os.map (renum H.nums)) :: Hsc q H :: L) from by
    have h2 := HO.out
    rw [renK_all, HRR.out] at h2
    have h3 : Has wr (row (.slice p os.length c) 57 5 (os.map (renum H.nums)).length (snEnc (os.map (renum H.nums))) :: ((os.map (renum H.nums)).map (fun s => Bytes s.dv s.data) ++ (Trc t H.S :: pt q (.cells (hC t bn bf bm b bo) 142) :: Mk kInt vInt bn H.nums :: Flz bf H.files :: Mk kInt vMrk bm H.marks :: Ety b H.ents :: Mk kInt vEnt bo H.opened :: L))) := by
     rw [List.length_map, show (os.map (renum H.nums)).map (fun s => Bytes s.dv s.data) = os.map (fun s => Bytes s.dv s.data) from by rw [List.map_map]; rfl]
     exact h2.perm (pmZ1 _ _ _ _ _ _ _ _ _ _).symm
    have h4 := sns_iff.2 h3
    have h5 := hsc_iff.2 ⟨t, bn, bf, bm, b, bo, h4.re 8 [2, 1, 3, 4, 5, 6, 7, 0]⟩
    exact h5.p1)
   clear HO hlt hk
   go_wp2_with fail
   go_ret
   exact ⟨p, c, os, rfl, HP.out, HS.out, HO2.out, HK.out⟩
end Go.Proofs.YtmgpgbfgemebbaaGreatDoor
namespace Go.Proofs.YtmgpgbfgemebbaaGreatDoor
open Go.RowKit Go.Own
def nRoot : Nv := ⟨[47], 1, 2, 1, nilV, []⟩
def nA2 : Nv := ⟨[47, 97], 2, 2, 1, nilV, []⟩
def oMkA : Opm := ⟨9, 0, 0, 0, 0, [47, 97], []⟩
def oSync : Opm := ⟨21, 0, 0, 0, 0, [], []⟩
def h24 : His := His.begin tre0 [(1, 1)]
def h24a : His := h24.did oMkA 2 (ansE 0) treE1
def h24b : His := h24a.did oSync 0 (ansE 0) treE1
theorem h24_I : h24 = His.beginI tre0 [(1, 1)] := begin_I _ _
theorem h24a_I : h24a = (His.beginI tre0 [(1, 1)]).didI oMkA 2 (ansE 0) treE1 false (0, []) := by unfold h24a; rw [h24_I]; exact did_I _ _ _ _ _ _ _ (fun h => by cases h)
theorem h24b_I : h24b = ((His.beginI tre0 [(1, 1)]).didI oMkA 2 (ansE 0) treE1 false (0, [])).didI oSync 0 (ansE 0) treE1 false (0, []) := by unfold h24b; rw [h24a_I]; exact did_I _ _ _ _ _ _ _ (fun h => by cases h)
theorem ev1 : h24.allows [nRoot] = true := by rw [h24_I]; decide +kernel
theorem ev2 : h24.allows [nRoot, nA2] = false := by rw [h24_I]; decide +kernel
theorem ev3 : h24a.allows [nRoot] = true := by rw [h24a_I]; decide +kernel
theorem ev4 : h24a.allows [nRoot, nA2] = true := by rw [h24a_I]; decide +kernel
theorem ev5 : h24b.allows [nRoot] = false := by rw [h24b_I]; decide +kernel
theorem ev6 : h24b.allows [nRoot, nA2] = true := by rw [h24b_I]; decide +kernel
theorem S24 : h24.S = tre0 := rfl
theorem S24a : h24a.S = treE1 := lasts_S _ _
theorem S24b : h24b.S = treE1 := lasts_S _ _
theorem doM_mk : h24.S.doM oMkA [] = (ansE 0, treE1) := by
 rw [S24]
 unfold Tre.doM oMkA
 simp only [show ((9 : Int) = 1) = False from by simp, show ((9 : Int) = 2) = False from by simp, show ((9 : Int) = 3) = False from by simp, show ((9 : Int) = 4) = False from by simp, show ((9 : Int) = 5) = False from by simp, show ((9 : Int) = 6) = False from by simp, show ((9 : Int) = 7) = False from by simp, show ((9 : Int) = 8) = False from by simp, if_false, if_true]
 exact mkdir_A
theorem doM_sync (H : His) : H.S.doM oSync [] = (ansE 0, H.S) := by
 unfold Tre.doM oSync
 simp
theorem hgo24a : (∃ rk rk', DidOk h24 oMkA 2 (ansE 0) treE1 2 0 rk rk') ∧ Hgo h24a 1 := by
 obtain ⟨rk, rk', h1, h2⟩ := hgo0.step (by omega) oMkA [] 2 (by decide) (by decide) (by decide) (fun h => by cases h) (by rw [show (His.begin tre0 [(1, 1)]).S.doM oMkA [] = _ from doM_mk]; rfl)
 rw [show (His.begin tre0 [(1, 1)]).S.doM oMkA [] = _ from doM_mk] at h1 h2
 exact ⟨⟨rk, rk', h1⟩, h2⟩
theorem hgo24b : (∃ rk rk', DidOk h24a oSync 0 (ansE 0) treE1 3 1 rk rk') ∧ Hgo h24b 2 := by
 obtain ⟨rk, rk', h1, h2⟩ := hgo24a.2.step (by omega) oSync [] 0 (by decide) (by decide) (by decide) (fun h => by cases h) (by rw [doM_sync]; rfl)
 rw [doM_sync, S24a] at h1 h2
 exact ⟨⟨rk, rk', h1⟩, h2⟩
theorem stepAllows (q g : Nat) (H : His) (j : Nat) (ns : List Nv) (C : Array Value) (w : World) (L : List HP) (h : Hgo H j) (hj : j ≤ 40) (hC : C.toList = nvs ns) (hn : ns.length ≤ 1000) (hp : ∀ x ∈ ns, x.path.length ≤ 100000 ∧ x.dv = nilV ∧ x.data = []) (hO : Has w (pt g (.cells C 57) :: Hsc q H :: L)) :
  Calls Tryz.prog 36 #[.pointer (some ⟨q, 0, none⟩), .slice (some ⟨g, 0, none⟩) ns.length ns.length] w fun e w' => e = .returned (.bool (H.allows ns)) ∧ Has w' (Hsc q H :: L) ∧ Keep w w' := by
 refine (mAllows q H _ ns (j + 2) w (pt g (.cells C 57) :: L) h.s.ok h.s.nwf (by omega) (fun x hx => ⟨(hp x hx).1, by rw [(hp x hx).2.2]; exact Nat.zero_le _⟩) (fun e he => ⟨by have := h.s.ll e he; omega, by have := h.s.sh e he; omega⟩) (fun w' h' => ?_) hO.p1).mono ?_
 ·have hl : (nvs ns).length = ns.length * 5 := by
   clear h hC hn hp hO h'
   induction ns with
   | nil => rfl
   | cons x l ih =>
    show (nvC x ++ nvs l).length = _
    rw [List.length_append, ih, List.length_cons]
    show 5 + _ = _
    omega
  refine ⟨⟨?_, ?_, some ⟨g, 0, none⟩, ns.length, rfl, Nat.le_refl _, fun _ => ⟨g, 0, rfl, fun i hi => ?_⟩⟩, fun x hx => ?_⟩
  ·rw [hl]
  ·exact le_maxLen (by omega)
  ·rw [Nat.zero_add, h'.cells, ← hC, Array.getElem?_toList]
  ·rw [(hp x hx).2.1, (hp x hx).2.2]
   exact ⟨rfl, by decide, none, 0, rfl, Nat.le_refl _, fun h => by simp at h⟩
 ·rintro e w' ⟨rfl, h1, k1⟩
  exact ⟨rfl, h1.re 2 [0], k1⟩
theorem didMk (q : Nat) (mx : Int) (w : World) (L : List HP) (hM : MxL mx L) (hO : Has w (Hsc q h24 :: L)) :
  Calls Tryz.prog 37 #[.pointer (some ⟨q, 0, none⟩), opV oMkA nilV, .int .i64 0, .int .i64 2] w fun e w' => e = .returned (.bool true) ∧ Has w' (Hsc q h24a :: L) ∧ Keep w w' := by
 obtain ⟨rk, rk', hd⟩ := hgo24a.1
 refine mDid0 q h24 oMkA nilV 2 treE1 (ansE 0) 2 0 rk rk' mx w L hd hM (fun w' q' X h => ?_) hO
 refine (akMkdir q' mx w' (X ++ L) (hM.app X) h).mono ?_
 rintro e w2 ⟨rfl, h2, k2⟩
 exact ⟨none, 0, 0, none, 0, 0, rfl, h2, k2⟩
theorem didSync (q : Nat) (H : His) (j : Nat) (num : Int) (mx : Int) (w : World) (L : List HP) (hd : ∃ rk rk', DidOk H oSync num (ansE 0) H.S (j + 2) j rk rk') (hM : MxL mx L) (hO : Has w (Hsc q H :: L)) :
  Calls Tryz.prog 37 #[.pointer (some ⟨q, 0, none⟩), opV oSync nilV, .int .i64 0, .int .i64 num] w fun e w' => e = .returned (.bool true) ∧ Has w' (Hsc q (H.did oSync num (ansE 0) H.S) :: L) ∧ Keep w w' := by
 obtain ⟨rk, rk', hd⟩ := hd
 refine mDid0 q H oSync nilV num H.S (ansE 0) (j + 2) j rk rk' mx w L hd hM (fun w' q' X h => ?_) hO
 refine (doSync q' H.S 0 0 0 0 [] [] nilV w' (X ++ L) h).mono ?_
 rintro e w2 ⟨rfl, h2, k2⟩
 exact ⟨none, 0, 0, none, 0, 0, rfl, h2, k2⟩
theorem nodes24 (q : Nat) (w : World) (L : List HP) (hO : Has w (Hsc q h24b :: L)) :
  Calls Tryz.prog 38 #[.pointer (some ⟨q, 0, none⟩)] w fun e w' => ∃ p c, e = .returned (.slice p 2 c) ∧ Has w' (Hsc q h24b :: L) ∧ Keep w w' := by
 refine (mNodesH q h24b 2 w L hgo24b.2.gd (by omega) hO).mono ?_
 rintro e w' ⟨p, c, os, rfl, hp, -, h1, k1⟩
 have hl : os.length = 2 := by
  have h3 := hp.length_eq
  rw [List.length_map, List.length_map, S24b, show (seen treE1.nodes 22 1 []).length = 2 from by decide +kernel] at h3
  exact h3
 exact ⟨p, c, by rw [hl], Has.dropL _ (sns_iff.1 h1).drop, k1⟩
end Go.Proofs.YtmgpgbfgemebbaaGreatDoor
namespace Go.Proofs.YtmgpgbfgemebbaaGreatDoor
open Go.RowKit Go.Own
abbrev Rch := Int × Int × Str × Int
def rchOf (r : Spt × Int) : Rch := (r.1.node, r.1.dir, r.1.name, r.2)
def sptOf (r : Rch) : Spt × Int := (⟨r.1, r.2.1, r.2.2.1⟩, r.2.2.2)
namespace Tre
variable (S : Tre)
def walkE : Nat → Spt → List Str → Bool → Option Rch
 | 0, _, _, _ => none
 | _ + 1, s, [], _ => some (s.node, s.dir, s.name, 0)
 | f + 1, s, p :: ps, fo =>
  if (S.at_ s.node).kind ≠ 2 then some (0, 0, [], 7)
  else if p = [46, 46] then walkE f ⟨S.up s.node, 0, []⟩ ps fo
  else match fnd (S.at_ s.node).names p with
   | none => some (0, 0, [], 5)
   | some c => if (S.at_ c).kind = 3 then none else walkE f ⟨c, s.node, p⟩ ps fo
def findE (p : Str) (fo : Bool) : Option Rch := if (splitM p).2 ≠ 0 then some (0, 0, [], (splitM p).2) else S.walkE 30 ⟨1, 0, []⟩ (splitM p).1 fo
def placeE (p : Str) : Option Rch :=
 if (lastM p).2.2 ≠ 0 then some (0, 0, [], (lastM p).2.2)
 else match S.findE (lastM p).1 true with
  | none => none
  | some r =>
   if r.2.2.2 ≠ 0 then some (0, 0, [], r.2.2.2)
   else if (S.at_ r.1).kind ≠ 2 then some (0, 0, [], 7)
   else if longM (S.way r.1 ++ [(lastM p).2.1]) = true then some (0, 0, [], 11)
   else some ((fnd (S.at_ r.1).names (lastM p).2.1).getD 0, r.1, (lastM p).2.1, 0)
def removeT (kind : Int) (s : Spt) : Ans × Tre :=
 if s.node = 0 then (ansE 5, S)
 else if kind = 10 ∧ (S.at_ s.node).kind ≠ 2 then (ansE 7, S)
 else if kind = 10 ∧ 0 < (S.at_ s.node).names.length then (ansE 9, S)
 else if kind = 11 ∧ (S.at_ s.node).kind = 2 then (ansE 8, S)
 else (ansE 0, S.take s.dir s.name)
def renameT (s t : Spt) : Ans × Tre :=
 if s.node = 0 then (ansE 5, S)
 else
  let x := S.at_ s.node
  if x.kind = 2 ∧ S.within t.dir s.node = true then (ansE 2, S)
  else if x.kind = 2 ∧ S.deep s.node (S.way t.dir ++ [t.name]) = true then (ansE 11, S)
  else if t.node = s.node then (ansE 0, S)
  else if t.node ≠ 0 ∧ x.kind = 2 ∧ (S.at_ t.node).kind ≠ 2 then (ansE 7, S)
  else if t.node ≠ 0 ∧ x.kind = 2 ∧ 0 < (S.at_ t.node).names.length then (ansE 9, S)
  else if t.node ≠ 0 ∧ x.kind ≠ 2 ∧ (S.at_ t.node).kind = 2 then (ansE 8, S)
  else (ansE 0, (if t.node ≠ 0 then S.take t.dir t.name else S).mv1 s t)
end Tre
section
variable {S : Tre} {p q : Str} {fo : Bool} {r t : Rch}
theorem walk_E : ∀ (f : Nat) (s : Spt) (hops : Nat) (ps : List Str), S.walkE f s ps fo = some r → S.walk s hops ps fo = sptOf r
 | 0, _, _, _, h => by cases h
 | f + 1, s, hops, [], h => by
  rw [Tre.walk]
  simp only [Tre.walkE, Option.some.injEq] at h
  rw [← h]
  rfl
 | f + 1, s, hops, p :: ps, h => by
  rw [Tre.walk]
  unfold Tre.walkE at h
  by_cases h1 : (S.at_ s.node).kind ≠ 2
  ·rw [if_pos h1] at h ⊢
   rw [← Option.some.inj h]
   rfl
  ·rw [if_neg h1] at h ⊢
   by_cases h2 : p = [46, 46]
   ·rw [if_pos h2] at h ⊢
    exact walk_E f _ hops ps h
   ·rw [if_neg h2] at h ⊢
    cases hf : fnd (S.at_ s.node).names p with
    | none =>
     rw [hf] at h
     dsimp only at h ⊢
     rw [← Option.some.inj h]
     rfl
    | some c =>
     rw [hf] at h
     dsimp only at h ⊢
     by_cases h3 : (S.at_ c).kind = 3
     ·rw [if_pos h3] at h; cases h
     ·rw [if_neg h3] at h
      rw [if_neg (fun h4 => h3 h4.1)]
      exact walk_E f _ hops ps h
theorem find_E (h : S.findE p fo = some r) : S.find p fo = sptOf r := by
 unfold Tre.findE at h
 unfold Tre.find
 by_cases h1 : (splitM p).2 ≠ 0
 ·rw [if_pos h1] at h ⊢
  rw [← Option.some.inj h]
  rfl
 ·rw [if_neg h1] at h ⊢
  exact walk_E _ _ 0 _ h
theorem place_E (h : S.placeE p = some r) : S.place p = sptOf r := by
 unfold Tre.placeE at h
 unfold Tre.place
 by_cases h1 : (lastM p).2.2 ≠ 0
 ·rw [if_pos h1] at h ⊢
  rw [← Option.some.inj h]
  rfl
 ·rw [if_neg h1] at h ⊢
  cases hf : S.findE (lastM p).1 true with
  | none => rw [hf] at h; cases h
  | some u =>
   rw [hf] at h
   dsimp only at h
   have e := find_E hf
   rw [e]
   show (if u.2.2.2 ≠ 0 then (spt0, u.2.2.2) else if (S.at_ u.1).kind ≠ 2 then (spt0, 7) else if Tre.longM (S.way u.1 ++ [(lastM p).2.1]) = true then (spt0, 11) else (⟨(fnd (S.at_ u.1).names (lastM p).2.1).getD 0, u.1, (lastM p).2.1⟩, 0)) = _
   by_cases h2 : u.2.2.2 ≠ 0
   ·rw [if_pos h2] at h ⊢
    rw [← Option.some.inj h]
    rfl
   ·rw [if_neg h2] at h ⊢
    by_cases h3 : (S.at_ u.1).kind ≠ 2
    ·rw [if_pos h3] at h ⊢
     rw [← Option.some.inj h]
     rfl
    ·rw [if_neg h3] at h ⊢
     by_cases h4 : Tre.longM (S.way u.1 ++ [(lastM p).2.1]) = true
     ·rw [if_pos h4] at h ⊢
      rw [← Option.some.inj h]
      rfl
     ·rw [if_neg h4] at h ⊢
      rw [← Option.some.inj h]
      rfl
theorem fresh_E {d : Int} {nm : Str} (h : S.placeE p = some (0, d, nm, 0)) : S.fresh p = (⟨0, d, nm⟩, 0) := by
 unfold Tre.fresh
 rw [place_E h]
 rfl
theorem mkdir_E {d : Int} {nm : Str} (h : S.placeE p = some (0, d, nm, 0)) : S.mkdir p = (ansE 0, S.make ⟨0, d, nm⟩ 2 []) := by
 unfold Tre.mkdir
 rw [fresh_E h]
 rfl
theorem open_E {d fl : Int} {nm : Str} (h : S.placeE p = some (0, d, nm, 0)) (hd : d ≠ 0) (h1 : ¬ (fl < 0 ∨ 64 ≤ fl ∨ (andI fl 12 ≠ 0 ∧ andI fl 32 = 0))) (h2 : andI fl 1 ≠ 0) : S.openFd p fl = S.openAt ⟨0, d, nm⟩ fl := by
 unfold Tre.openFd
 rw [place_E h, if_neg h1, if_pos h2, if_neg (show ¬ (sptOf (0, d, nm, 0)).2 ≠ 0 from fun h => h rfl), if_neg (show ¬ ((sptOf (0, d, nm, 0)).1.node ≠ 0 ∧ andI fl 2 ≠ 0) from fun h => h.1 rfl), if_neg (show ¬ ((sptOf (0, d, nm, 0)).1.node ≠ 0 ∨ (sptOf (0, d, nm, 0)).1.dir = 0) from fun h => h.elim (fun h => h rfl) hd)]
 rfl
theorem remove_E {kind : Int} (h : S.placeE p = some r) (h0 : r.2.2.2 = 0) : S.remove kind p = S.removeT kind (sptOf r).1 := by
 unfold Tre.remove Tre.removeT
 rw [place_E h, if_neg (show ¬ (sptOf r).2 ≠ 0 from fun h => h h0)]
theorem link_E {d : Int} {nm : Str} (h : S.findE p false = some r) (h0 : r.2.2.2 = 0) (hk : (S.at_ r.1).kind ≠ 2) (hq : S.placeE q = some (0, d, nm, 0)) : S.link p q = (ansE 0, S.add d nm r.1) := by
 unfold Tre.link
 rw [find_E h, if_neg (show ¬ (sptOf r).2 ≠ 0 from fun h => h h0), if_neg (show ¬ (S.at_ (sptOf r).1.node).kind = 2 from hk), fresh_E hq]
 rfl
end
end Go.Proofs.YtmgpgbfgemebbaaGreatDoor
namespace Go.Proofs.YtmgpgbfgemebbaaGreatDoor
open Go.RowKit Go.Own
def DoC (S : Tre) (o : Opm) (ov : Value) (L : List HP) (A : Ans) (S' : Tre) : Prop := ∀ (w' : World) (q' : Nat) (X : List HP), Has w' (Trc q' S :: (X ++ L)) → Calls Tryz.prog 16 #[.pointer (some ⟨q', 0, none⟩), opV o ov] w' fun e w2 => ∃ p n c p' n' c', e = .returned (ansV A (.slice p n c) (.slice p' n' c')) ∧ Has w2 (Trc q' S' :: (X ++ L)) ∧ Keep w' w2
theorem DoC.cons {S : Tre} {o : Opm} {ov : Value} {L : List HP} {A : Ans} {S' : Tre} (h : DoC S o ov L A S') (G : HP) : DoC S o ov (G :: L) A S' := fun w' q' X hO => by
 have e : X ++ (G :: L) = (X ++ [G]) ++ L := by simp
 rw [e] at hO ⊢
 exact h w' q' (X ++ [G]) hO
section
variable {S : Tre} {rk : Int → Nat} {k : Nat} {mx : Int} {L : List HP}
theorem docMkdir (hg : Gd S rk k) (hk : k < 900000) (hM : MxL mx L) (p : Str) (hp : p.length ≤ 100000) : DoC S ⟨9, 0, 0, 0, 0, p, []⟩ nilV L (S.mkdir p).1 (S.mkdir p).2 := fun w' q' X h => by
 refine (doMkdir q' S 0 0 0 0 p [] nilV w' (X ++ L) rk mx hg.wk hg.wy (hg.opb hk) (hM.app X) hp h).mono ?_
 rintro e w2 ⟨rfl, h2, k2⟩
 exact ⟨none, 0, 0, none, 0, 0, rfl, h2, k2⟩
theorem docOpen (hg : Gd S rk k) (hk : k < 900000) (hM : MxL mx L) (p : Str) (fl : Int) (hp : p.length ≤ 100000) (h4 : andI fl 4 = 0) : DoC S ⟨1, 0, 0, 0, fl, p, []⟩ nilV L (S.openFd p fl).1 (S.openFd p fl).2 := fun w' q' X h => by
 refine (doOpen q' S 0 0 0 fl p [] nilV w' (X ++ L) rk mx hg.wk hg.wy (hg.opb hk) (hM.app X) hp h4 h).mono ?_
 rintro e w2 ⟨rfl, h2, k2⟩
 exact ⟨none, 0, 0, none, 0, 0, rfl, h2, k2⟩
theorem docUnlink (hg : Gd S rk k) (hk : k < 900000) (hM : MxL mx L) (p : Str) (hp : p.length ≤ 100000) : DoC S ⟨11, 0, 0, 0, 0, p, []⟩ nilV L (S.remove 11 p).1 (S.remove 11 p).2 := fun w' q' X h => by
 refine (doUnlink q' S 0 0 0 0 p [] nilV w' (X ++ L) rk mx hg.wk hg.wy (hM.app X) hp (fun h0 hn => (hg.kidOk hk p h0 hn).1) h).mono ?_
 rintro e w2 ⟨rfl, h2, k2⟩
 exact ⟨none, 0, 0, none, 0, 0, rfl, h2, k2⟩
theorem docLink (hg : Gd S rk k) (hk : k < 900000) (hM : MxL mx L) (p d : Str) (hp : p.length ≤ 100000) (hd : d.length ≤ 100000) : DoC S ⟨12, 0, 0, 0, 0, p, d⟩ nilV L (S.link p d).1 (S.link p d).2 := fun w' q' X h => by
 refine (doLink q' S 0 0 0 0 p d nilV w' (X ++ L) rk mx hg.wk hg.wy (hM.app X) hp hd (fun n x hx => by have := (hg.nod hx).size; omega) (fun h0 => by
  obtain ⟨h1, _, h3⟩ := fresh_place h0
  rw [h3]
  exact hg.dirOk hk d h1) h).mono ?_
 rintro e w2 ⟨rfl, h2, k2⟩
 exact ⟨none, 0, 0, none, 0, 0, rfl, h2, k2⟩
theorem docSync : DoC S oSync nilV L (ansE 0) S := fun w' q' X h => by
 refine (doSync q' S 0 0 0 0 [] [] nilV w' (X ++ L) h).mono ?_
 rintro e w2 ⟨rfl, h2, k2⟩
 exact ⟨none, 0, 0, none, 0, 0, rfl, h2, k2⟩
end
structure Stp1 (H : His) (j : Nat) (o : Opm) (num : Int) (A : Ans) (S' : Tre) : Prop where
 did : ∃ rk rk', DidOk H o num A S' (j + 2) j rk rk'
 hgo : Hgo (H.did o num A S') (j + 1)
theorem Hgo.st {H : His} {j : Nat} (h : Hgo H j) (hj : j ≤ 40) {o : Opm} {ds : List Int} {num : Int} {A : Ans} {S' : Tre} (he : H.S.doM o ds = (A, S')) (hp : o.path.length ≤ 100000) (hnum : (Lit.int .i64 num).wf = true) (hfd : (Lit.int .i64 o.fd).wf = true) (han : o.kind = 1 → (Lit.int .i64 A.n).wf = true) (hc : A.code = 0) : Stp1 H j o num A S' := by
 obtain ⟨rk, rk', h1, h2⟩ := h.step hj o ds num hp hnum hfd (by rw [he]; exact han) (by rw [he]; exact hc)
 rw [he] at h1 h2
 exact ⟨⟨rk, rk', h1⟩, h2⟩
set_option maxRecDepth 100000 in
set_option maxHeartbeats 8000000 in
theorem stepOne (q : Nat) (H : His) (j : Nat) (o : Opm) (ov : Value) (num : Int) (A : Ans) (S' : Tre) (mx : Int) (w : World) (L : List HP) (hs : Stp1 H j o num A S') (hM : MxL mx L) (hD : DoC H.S o ov L A S') (hO : Has w (Hsc q H :: L)) :
  Calls Tryz.prog 35 #[.pointer (some ⟨q, 0, none⟩), opV o ov, .int .i64 num] w fun e w' => e = .returned (.bool true) ∧ Has w' (Hsc q (H.did o num A S') :: L) ∧ Keep w w' := by
 have HS := hid hs
 have HM := hid hM
 have HD := hid hD
 have HO1 := hid (hO.alloc (.cells (opC o ov) 33))
 have HK1 := hid ((Keep.refl w).alloc (.cells (opC o ov) 33))
 clear hO hs hM hD
 unfold opV
 unfold opC at HO1 HK1 ⊢
 go_enter Tryz.func35, Tryz.ntmps35
 go_upto_region 1 with fail
 generalize w.alloc (.cells #[.int .i64 o.kind, .int .i64 o.fd, .int .i64 o.n, .int .i64 o.off, .int .i64 o.flags, sV o.path, sV o.dest, ov] 33) = w1 at *
 generalize w.heap.size = g at *
 have hx := HO1.out.cells
 have hx0 : w1.cell? ⟨g, 0, none⟩ = some (.int .i64 o.kind) := hx 0
 have hx1 : w1.cell? ⟨g, 1, none⟩ = some (.int .i64 o.fd) := hx 1
 have hx2 : w1.cell? ⟨g, 2, none⟩ = some (.int .i64 o.n) := hx 2
 have hx3 : w1.cell? ⟨g, 3, none⟩ = some (.int .i64 o.off) := hx 3
 have hx4 : w1.cell? ⟨g, 4, none⟩ = some (.int .i64 o.flags) := hx 4
 have hx5 : w1.cell? ⟨g, 5, none⟩ = some (sV o.path) := hx 5
 have hx6 : w1.cell? ⟨g, 6, none⟩ = some (sV o.dest) := hx 6
 have hx7 : w1.cell? ⟨g, 7, none⟩ = some ov := hx 7
 have HC := hid (show Calls Tryz.prog 37 #[.pointer (some ⟨q, 0, none⟩), opV o ov, .int .i64 0, .int .i64 num] w1 (fun e w' => e = .returned (.bool true) ∧ Has w' (Hsc q (H.did o num A S') :: pt g (.cells #[.int .i64 o.kind, .int .i64 o.fd, .int .i64 o.n, .int .i64 o.off, .int .i64 o.flags, sV o.path, sV o.dest, ov] 33) :: L) ∧ Keep w1 w') from by
  obtain ⟨rk, rk', hd⟩ := HS.out.did
  exact mDid0 q H o ov num S' A (j + 2) j rk rk' mx w1 _ hd (HM.out.cons _) (HD.out.cons _) HO1.out.p1)
 clear hx
 go_wp2_with fail
 refine HC.out.mono ?_
 rintro e w2 ⟨rfl, h2, k2⟩
 clear hx0 hx1 hx2 hx3 hx4 hx5 hx6 hx7 HC HO1
 try dsimp only
 go_wp2_with fail
 go_ret
 exact ⟨rfl, h2.re 2 [0], HK1.out.trans k2⟩
end Go.Proofs.YtmgpgbfgemebbaaGreatDoor
namespace Go.Proofs.YtmgpgbfgemebbaaGreatDoor
open Go.RowKit Go.Own
theorem plain1 : ∀ x ∈ [nRoot], x.path.length ≤ 100000 ∧ x.dv = nilV ∧ x.data = [] := by
 intro x hx
 rw [List.mem_singleton] at hx
 subst hx
 exact ⟨by decide, rfl, rfl⟩
theorem plain2 : ∀ x ∈ [nRoot, nA2], x.path.length ≤ 100000 ∧ x.dv = nilV ∧ x.data = [] := by
 intro x hx
 simp only [List.mem_cons, List.not_mem_nil, or_false] at hx
 rcases hx with rfl | rfl
 ·exact ⟨by decide, rfl, rfl⟩
 ·exact ⟨by decide, rfl, rfl⟩
set_option maxRecDepth 100000 in
set_option maxHeartbeats 8000000 in
theorem awake24 (mx : Int) (w : World) (L : List HP) (hM : MxL mx L) (hO : Has w L) :
  Calls Tryz.prog 33 #[] w fun e w' => e = .returned (.bool true) ∧ Has w' L ∧ Keep w w' := by
 have HO := hid hO
 have HM := hid hM
 clear hO hM
 go_enter Tryz.func33, Tryz.ntmps33
 go_wp2_with fail
 refine (mNew w L HO.out).mono ?_
 rintro e w1 ⟨q, rfl, h1, k1⟩
 have h2 := ((show Has w1 (Hsc q h24 :: L) from h1).alloc (.cells #[.string ⟨#[47]⟩, .int .i64 1, .int .i64 2, .int .i64 1, .slice none 0 0] 57)).alloc (.cells #[.string ⟨#[47, 97]⟩, .int .i64 2, .int .i64 2, .int .i64 1, .slice none 0 0] 57)
 have e5 : (w1.alloc (.cells #[.string ⟨#[47]⟩, .int .i64 1, .int .i64 2, .int .i64 1, .slice none 0 0] 57)).heap.size = w1.heap.size + 1 := by show (Array.push _ _).size = _; rw [Array.size_push]
 rw [e5] at h2
 have HP1 := hid h2
 have HK1 := hid ((k1.alloc (.cells #[.string ⟨#[47]⟩, .int .i64 1, .int .i64 2, .int .i64 1, .slice none 0 0] 57)).alloc (.cells #[.string ⟨#[47, 97]⟩, .int .i64 2, .int .i64 2, .int .i64 1, .slice none 0 0] 57))
 clear h1 h2 e5 k1 HO
 try dsimp only
 go_upto_region 4 with fail
 generalize (w1.alloc (.cells #[.string ⟨#[47]⟩, .int .i64 1, .int .i64 2, .int .i64 1, .slice none 0 0] 57)).alloc (.cells #[.string ⟨#[47, 97]⟩, .int .i64 2, .int .i64 2, .int .i64 1, .slice none 0 0] 57) = w2 at *
 generalize w1.heap.size + 1 = ga at *
 generalize w1.heap.size = gr at *
 have HS1 := hid (show Has w2 (Hsc q h24 :: pt gr (.cells #[.string ⟨#[47]⟩, .int .i64 1, .int .i64 2, .int .i64 1, .slice none 0 0] 57) :: pt ga (.cells #[.string ⟨#[47, 97]⟩, .int .i64 2, .int .i64 2, .int .i64 1, .slice none 0 0] 57) :: L) from HP1.out.re 3 [2, 1, 0])
 clear HP1
 have hr0 := (show Has w2 (pt gr (.cells #[.string ⟨#[47]⟩, .int .i64 1, .int .i64 2, .int .i64 1, .slice none 0 0] 57) :: _) from HS1.out.p1).cells 0
 have hr1 := (show Has w2 (pt gr (.cells #[.string ⟨#[47]⟩, .int .i64 1, .int .i64 2, .int .i64 1, .slice none 0 0] 57) :: _) from HS1.out.p1).cells 1
 have hr2 := (show Has w2 (pt gr (.cells #[.string ⟨#[47]⟩, .int .i64 1, .int .i64 2, .int .i64 1, .slice none 0 0] 57) :: _) from HS1.out.p1).cells 2
 have hr3 := (show Has w2 (pt gr (.cells #[.string ⟨#[47]⟩, .int .i64 1, .int .i64 2, .int .i64 1, .slice none 0 0] 57) :: _) from HS1.out.p1).cells 3
 have hr4 := (show Has w2 (pt gr (.cells #[.string ⟨#[47]⟩, .int .i64 1, .int .i64 2, .int .i64 1, .slice none 0 0] 57) :: _) from HS1.out.p1).cells 4
 go_wp2_with fail
 refine (stepAllows q _ h24 0 [nRoot] #[.string ⟨#[47]⟩, .int .i64 1, .int .i64 2, .int .i64 1, .slice none 0 0] _ (pt gr (.cells #[.string ⟨#[47]⟩, .int .i64 1, .int .i64 2, .int .i64 1, .slice none 0 0] 57) :: pt ga (.cells #[.string ⟨#[47, 97]⟩, .int .i64 2, .int .i64 2, .int .i64 1, .slice none 0 0] 57) :: L) hgo0 (by omega) rfl (by decide) plain1 (HS1.out.alloc (.cells #[.string ⟨#[47]⟩, .int .i64 1, .int .i64 2, .int .i64 1, .slice none 0 0] 57))).mono ?_
 rintro e w3 ⟨rfl, h3, k3⟩
 have HS3 := hid h3
 have HK3 := hid ((HK1.out.alloc (.cells #[.string ⟨#[47]⟩, .int .i64 1, .int .i64 2, .int .i64 1, .slice none 0 0] 57)).trans k3)
 clear h3 k3 hr0 hr1 hr2 hr3 hr4 HS1 HK1
 rw [ev1]
 try dsimp only
 have hr0 := (show Has w3 (pt gr (.cells #[.string ⟨#[47]⟩, .int .i64 1, .int .i64 2, .int .i64 1, .slice none 0 0] 57) :: _) from HS3.out.p1).cells 0
 have hr1 := (show Has w3 (pt gr (.cells #[.string ⟨#[47]⟩, .int .i64 1, .int .i64 2, .int .i64 1, .slice none 0 0] 57) :: _) from HS3.out.p1).cells 1
 have hr2 := (show Has w3 (pt gr (.cells #[.string ⟨#[47]⟩, .int .i64 1, .int .i64 2, .int .i64 1, .slice none 0 0] 57) :: _) from HS3.out.p1).cells 2
 have hr3 := (show Has w3 (pt gr (.cells #[.string ⟨#[47]⟩, .int .i64 1, .int .i64 2, .int .i64 1, .slice none 0 0] 57) :: _) from HS3.out.p1).cells 3
 have hr4 := (show Has w3 (pt gr (.cells #[.string ⟨#[47]⟩, .int .i64 1, .int .i64 2, .int .i64 1, .slice none 0 0] 57) :: _) from HS3.out.p1).cells 4
 have ha0 := (show Has w3 (pt ga (.cells #[.string ⟨#[47, 97]⟩, .int .i64 2, .int .i64 2, .int .i64 1, .slice none 0 0] 57) :: _) from HS3.out.p2).cells 0
 have ha1 := (show Has w3 (pt ga (.cells #[.string ⟨#[47, 97]⟩, .int .i64 2, .int .i64 2, .int .i64 1, .slice none 0 0] 57) :: _) from HS3.out.p2).cells 1
 have ha2 := (show Has w3 (pt ga (.cells #[.string ⟨#[47, 97]⟩, .int .i64 2, .int .i64 2, .int .i64 1, .slice none 0 0] 57) :: _) from HS3.out.p2).cells 2
 have ha3 := (show Has w3 (pt ga (.cells #[.string ⟨#[47, 97]⟩, .int .i64 2, .int .i64 2, .int .i64 1, .slice none 0 0] 57) :: _) from HS3.out.p2).cells 3
 have ha4 := (show Has w3 (pt ga (.cells #[.string ⟨#[47, 97]⟩, .int .i64 2, .int .i64 2, .int .i64 1, .slice none 0 0] 57) :: _) from HS3.out.p2).cells 4
 go_wp2_with fail
 refine (stepAllows q _ h24 0 [nRoot, nA2] #[.string ⟨#[47]⟩, .int .i64 1, .int .i64 2, .int .i64 1, .slice none 0 0, .string ⟨#[47, 97]⟩, .int .i64 2, .int .i64 2, .int .i64 1, .slice none 0 0] _ (pt gr (.cells #[.string ⟨#[47]⟩, .int .i64 1, .int .i64 2, .int .i64 1, .slice none 0 0] 57) :: pt ga (.cells #[.string ⟨#[47, 97]⟩, .int .i64 2, .int .i64 2, .int .i64 1, .slice none 0 0] 57) :: L) hgo0 (by omega) rfl (by decide) plain2 (HS3.out.alloc (.cells #[.string ⟨#[47]⟩, .int .i64 1, .int .i64 2, .int .i64 1, .slice none 0 0, .string ⟨#[47, 97]⟩, .int .i64 2, .int .i64 2, .int .i64 1, .slice none 0 0] 57))).mono ?_
 rintro e w4 ⟨rfl, h4, k4⟩
 have HS4 := hid h4
 have HK4 := hid ((HK3.out.alloc (.cells #[.string ⟨#[47]⟩, .int .i64 1, .int .i64 2, .int .i64 1, .slice none 0 0, .string ⟨#[47, 97]⟩, .int .i64 2, .int .i64 2, .int .i64 1, .slice none 0 0] 57)).trans k4)
 clear h4 k4 hr0 hr1 hr2 hr3 hr4 ha0 ha1 ha2 ha3 ha4 HS3 HK3
 rw [ev2]
 try dsimp only
 go_wp2_with fail
 refine (didMk q mx w4 _ ((HM.out.cons _).cons _) HS4.out).mono ?_
 rintro e w5 ⟨rfl, h5, k5⟩
 have HS5 := hid h5
 have HK5 := hid (HK4.out.trans k5)
 clear h5 k5 HS4 HK4
 try dsimp only
 have hr0 := (show Has w5 (pt gr (.cells #[.string ⟨#[47]⟩, .int .i64 1, .int .i64 2, .int .i64 1, .slice none 0 0] 57) :: _) from HS5.out.p1).cells 0
 have hr1 := (show Has w5 (pt gr (.cells #[.string ⟨#[47]⟩, .int .i64 1, .int .i64 2, .int .i64 1, .slice none 0 0] 57) :: _) from HS5.out.p1).cells 1
 have hr2 := (show Has w5 (pt gr (.cells #[.string ⟨#[47]⟩, .int .i64 1, .int .i64 2, .int .i64 1, .slice none 0 0] 57) :: _) from HS5.out.p1).cells 2
 have hr3 := (show Has w5 (pt gr (.cells #[.string ⟨#[47]⟩, .int .i64 1, .int .i64 2, .int .i64 1, .slice none 0 0] 57) :: _) from HS5.out.p1).cells 3
 have hr4 := (show Has w5 (pt gr (.cells #[.string ⟨#[47]⟩, .int .i64 1, .int .i64 2, .int .i64 1, .slice none 0 0] 57) :: _) from HS5.out.p1).cells 4
 go_wp2_with fail
 refine (stepAllows q _ h24a 1 [nRoot] #[.string ⟨#[47]⟩, .int .i64 1, .int .i64 2, .int .i64 1, .slice none 0 0] _ (pt gr (.cells #[.string ⟨#[47]⟩, .int .i64 1, .int .i64 2, .int .i64 1, .slice none 0 0] 57) :: pt ga (.cells #[.string ⟨#[47, 97]⟩, .int .i64 2, .int .i64 2, .int .i64 1, .slice none 0 0] 57) :: L) hgo24a.2 (by omega) rfl (by decide) plain1 (HS5.out.alloc (.cells #[.string ⟨#[47]⟩, .int .i64 1, .int .i64 2, .int .i64 1, .slice none 0 0] 57))).mono ?_
 rintro e w6 ⟨rfl, h6, k6⟩
 have HS6 := hid h6
 have HK6 := hid ((HK5.out.alloc (.cells #[.string ⟨#[47]⟩, .int .i64 1, .int .i64 2, .int .i64 1, .slice none 0 0] 57)).trans k6)
 clear h6 k6 hr0 hr1 hr2 hr3 hr4 HS5 HK5
 rw [ev3]
 try dsimp only
 have hr0 := (show Has w6 (pt gr (.cells #[.string ⟨#[47]⟩, .int .i64 1, .int .i64 2, .int .i64 1, .slice none 0 0] 57) :: _) from HS6.out.p1).cells 0
 have hr1 := (show Has w6 (pt gr (.cells #[.string ⟨#[47]⟩, .int .i64 1, .int .i64 2, .int .i64 1, .slice none 0 0] 57) :: _) from HS6.out.p1).cells 1
 have hr2 := (show Has w6 (pt gr (.cells #[.string ⟨#[47]⟩, .int .i64 1, .int .i64 2, .int .i64 1, .slice none 0 0] 57) :: _) from HS6.out.p1).cells 2
 have hr3 := (show Has w6 (pt gr (.cells #[.string ⟨#[47]⟩, .int .i64 1, .int .i64 2, .int .i64 1, .slice none 0 0] 57) :: _) from HS6.out.p1).cells 3
 have hr4 := (show Has w6 (pt gr (.cells #[.string ⟨#[47]⟩, .int .i64 1, .int .i64 2, .int .i64 1, .slice none 0 0] 57) :: _) from HS6.out.p1).cells 4
 have ha0 := (show Has w6 (pt ga (.cells #[.string ⟨#[47, 97]⟩, .int .i64 2, .int .i64 2, .int .i64 1, .slice none 0 0] 57) :: _) from HS6.out.p2).cells 0
 have ha1 := (show Has w6 (pt ga (.cells #[.string ⟨#[47, 97]⟩, .int .i64 2, .int .i64 2, .int .i64 1, .slice none 0 0] 57) :: _) from HS6.out.p2).cells 1
 have ha2 := (show Has w6 (pt ga (.cells #[.string ⟨#[47, 97]⟩, .int .i64 2, .int .i64 2, .int .i64 1, .slice none 0 0] 57) :: _) from HS6.out.p2).cells 2
 have ha3 := (show Has w6 (pt ga (.cells #[.string ⟨#[47, 97]⟩, .int .i64 2, .int .i64 2, .int .i64 1, .slice none 0 0] 57) :: _) from HS6.out.p2).cells 3
 have ha4 := (show Has w6 (pt ga (.cells #[.string ⟨#[47, 97]⟩, .int .i64 2, .int .i64 2, .int .i64 1, .slice none 0 0] 57) :: _) from HS6.out.p2).cells 4
 go_wp2_with fail
 refine (stepAllows q _ h24a 1 [nRoot, nA2] #[.string ⟨#[47]⟩, .int .i64 1, .int .i64 2, .int .i64 1, .slice none 0 0, .string ⟨#[47, 97]⟩, .int .i64 2, .int .i64 2, .int .i64 1, .slice none 0 0] _ (pt gr (.cells #[.string ⟨#[47]⟩, .int .i64 1, .int .i64 2, .int .i64 1, .slice none 0 0] 57) :: pt ga (.cells #[.string ⟨#[47, 97]⟩, .int .i64 2, .int .i64 2, .int .i64 1, .slice none 0 0] 57) :: L) hgo24a.2 (by omega) rfl (by decide) plain2 (HS6.out.alloc (.cells #[.string ⟨#[47]⟩, .int .i64 1, .int .i64 2, .int .i64 1, .slice none 0 0, .string ⟨#[47, 97]⟩, .int .i64 2, .int .i64 2, .int .i64 1, .slice none 0 0] 57))).mono ?_
 rintro e w7 ⟨rfl, h7, k7⟩
 have HS7 := hid h7
 have HK7 := hid ((HK6.out.alloc (.cells #[.string ⟨#[47]⟩, .int .i64 1, .int .i64 2, .int .i64 1, .slice none 0 0, .string ⟨#[47, 97]⟩, .int .i64 2, .int .i64 2, .int .i64 1, .slice none 0 0] 57)).trans k7)
 clear h7 k7 hr0 hr1 hr2 hr3 hr4 ha0 ha1 ha2 ha3 ha4 HS6 HK6
 rw [ev4]
 try dsimp only
 go_wp2_with fail
 refine (show Calls Tryz.prog _ _ _ (fun e w' => e = .returned (.bool true) ∧ Has w' (Hsc q h24b :: pt gr (.cells #[.string ⟨#[47]⟩, .int .i64 1, .int .i64 2, .int .i64 1, .slice none 0 0] 57) :: pt ga (.cells #[.string ⟨#[47, 97]⟩, .int .i64 2, .int .i64 2, .int .i64 1, .slice none 0 0] 57) :: L) ∧ Keep _ w') from didSync q h24a 1 0 mx w7 _ hgo24b.1 ((HM.out.cons _).cons _) HS7.out).mono ?_
 rintro e w8 ⟨rfl, h8, k8⟩
 have HS8 := hid h8
 have HK8 := hid (HK7.out.trans k8)
 clear h8 k8 HS7 HK7
 try dsimp only
 have hr0 := (show Has w8 (pt gr (.cells #[.string ⟨#[47]⟩, .int .i64 1, .int .i64 2, .int .i64 1, .slice none 0 0] 57) :: _) from HS8.out.p1).cells 0
 have hr1 := (show Has w8 (pt gr (.cells #[.string ⟨#[47]⟩, .int .i64 1, .int .i64 2, .int .i64 1, .slice none 0 0] 57) :: _) from HS8.out.p1).cells 1
 have hr2 := (show Has w8 (pt gr (.cells #[.string ⟨#[47]⟩, .int .i64 1, .int .i64 2, .int .i64 1, .slice none 0 0] 57) :: _) from HS8.out.p1).cells 2
 have hr3 := (show Has w8 (pt gr (.cells #[.string ⟨#[47]⟩, .int .i64 1, .int .i64 2, .int .i64 1, .slice none 0 0] 57) :: _) from HS8.out.p1).cells 3
 have hr4 := (show Has w8 (pt gr (.cells #[.string ⟨#[47]⟩, .int .i64 1, .int .i64 2, .int .i64 1, .slice none 0 0] 57) :: _) from HS8.out.p1).cells 4
 go_wp2_with fail
 refine (stepAllows q _ h24b 2 [nRoot] #[.string ⟨#[47]⟩, .int .i64 1, .int .i64 2, .int .i64 1, .slice none 0 0] _ (pt gr (.cells #[.string ⟨#[47]⟩, .int .i64 1, .int .i64 2, .int .i64 1, .slice none 0 0] 57) :: pt ga (.cells #[.string ⟨#[47, 97]⟩, .int .i64 2, .int .i64 2, .int .i64 1, .slice none 0 0] 57) :: L) hgo24b.2 (by omega) rfl (by decide) plain1 (HS8.out.alloc (.cells #[.string ⟨#[47]⟩, .int .i64 1, .int .i64 2, .int .i64 1, .slice none 0 0] 57))).mono ?_
 rintro e w9 ⟨rfl, h9, k9⟩
 have HS9 := hid h9
 have HK9 := hid ((HK8.out.alloc (.cells #[.string ⟨#[47]⟩, .int .i64 1, .int .i64 2, .int .i64 1, .slice none 0 0] 57)).trans k9)
 clear h9 k9 hr0 hr1 hr2 hr3 hr4 HS8 HK8
 rw [ev5]
 try dsimp only
 have hr0 := (show Has w9 (pt gr (.cells #[.string ⟨#[47]⟩, .int .i64 1, .int .i64 2, .int .i64 1, .slice none 0 0] 57) :: _) from HS9.out.p1).cells 0
 have hr1 := (show Has w9 (pt gr (.cells #[.string ⟨#[47]⟩, .int .i64 1, .int .i64 2, .int .i64 1, .slice none 0 0] 57) :: _) from HS9.out.p1).cells 1
 have hr2 := (show Has w9 (pt gr (.cells #[.string ⟨#[47]⟩, .int .i64 1, .int .i64 2, .int .i64 1, .slice none 0 0] 57) :: _) from HS9.out.p1).cells 2
 have hr3 := (show Has w9 (pt gr (.cells #[.string ⟨#[47]⟩, .int .i64 1, .int .i64 2, .int .i64 1, .slice none 0 0] 57) :: _) from HS9.out.p1).cells 3
 have hr4 := (show Has w9 (pt gr (.cells #[.string ⟨#[47]⟩, .int .i64 1, .int .i64 2, .int .i64 1, .slice none 0 0] 57) :: _) from HS9.out.p1).cells 4
 have ha0 := (show Has w9 (pt ga (.cells #[.string ⟨#[47, 97]⟩, .int .i64 2, .int .i64 2, .int .i64 1, .slice none 0 0] 57) :: _) from HS9.out.p2).cells 0
 have ha1 := (show Has w9 (pt ga (.cells #[.string ⟨#[47, 97]⟩, .int .i64 2, .int .i64 2, .int .i64 1, .slice none 0 0] 57) :: _) from HS9.out.p2).cells 1
 have ha2 := (show Has w9 (pt ga (.cells #[.string ⟨#[47, 97]⟩, .int .i64 2, .int .i64 2, .int .i64 1, .slice none 0 0] 57) :: _) from HS9.out.p2).cells 2
 have ha3 := (show Has w9 (pt ga (.cells #[.string ⟨#[47, 97]⟩, .int .i64 2, .int .i64 2, .int .i64 1, .slice none 0 0] 57) :: _) from HS9.out.p2).cells 3
 have ha4 := (show Has w9 (pt ga (.cells #[.string ⟨#[47, 97]⟩, .int .i64 2, .int .i64 2, .int .i64 1, .slice none 0 0] 57) :: _) from HS9.out.p2).cells 4
 go_wp2_with fail
 refine (stepAllows q _ h24b 2 [nRoot, nA2] #[.string ⟨#[47]⟩, .int .i64 1, .int .i64 2, .int .i64 1, .slice none 0 0, .string ⟨#[47, 97]⟩, .int .i64 2, .int .i64 2, .int .i64 1, .slice none 0 0] _ (pt gr (.cells #[.string ⟨#[47]⟩, .int .i64 1, .int .i64 2, .int .i64 1, .slice none 0 0] 57) :: pt ga (.cells #[.string ⟨#[47, 97]⟩, .int .i64 2, .int .i64 2, .int .i64 1, .slice none 0 0] 57) :: L) hgo24b.2 (by omega) rfl (by decide) plain2 (HS9.out.alloc (.cells #[.string ⟨#[47]⟩, .int .i64 1, .int .i64 2, .int .i64 1, .slice none 0 0, .string ⟨#[47, 97]⟩, .int .i64 2, .int .i64 2, .int .i64 1, .slice none 0 0] 57))).mono ?_
 rintro e w10 ⟨rfl, h10, k10⟩
 have HS10 := hid h10
 have HK10 := hid ((HK9.out.alloc (.cells #[.string ⟨#[47]⟩, .int .i64 1, .int .i64 2, .int .i64 1, .slice none 0 0, .string ⟨#[47, 97]⟩, .int .i64 2, .int .i64 2, .int .i64 1, .slice none 0 0] 57)).trans k10)
 clear h10 k10 hr0 hr1 hr2 hr3 hr4 ha0 ha1 ha2 ha3 ha4 HS9 HK9
 rw [ev6]
 try dsimp only
 go_wp2_with fail
 refine (nodes24 q w10 _ HS10.out).mono ?_
 rintro e wz ⟨pz, cz, rfl, hz, kz⟩
 have HSZ := hid hz
 have HKZ := hid (HK10.out.trans kz)
 clear hz kz HS10 HK10
 try dsimp only
 go_wp2_with fail
 go_ret
 exact ⟨rfl, HSZ.out.re 3 [] , HKZ.out⟩
end Go.Proofs.YtmgpgbfgemebbaaGreatDoor
