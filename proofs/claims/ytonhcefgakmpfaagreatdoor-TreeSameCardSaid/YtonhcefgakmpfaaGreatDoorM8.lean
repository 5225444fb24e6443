/- TEXTS of mine, merged. -/
import Derived.Test.YtonhcefgakmpfaaGreatDoorM6
import Derived.Test.YtonhcefgakmpfaaGreatDoorM7
import Derived.Test.YtonhcefgakmpfaaGreatDoorM3
import Derived.Test.YtonhcefgakmpfaaGreatDoorM2
/- THE WALK of tree.add, make. -/
namespace Go.Proofs.YtonhcefgakmpfaaGreatDoor
open Go.RowKit Go.Own
set_option maxRecDepth 100000 in
set_option maxHeartbeats 8000000 in
theorem tAdd (q : Nat) (S : Tre) (dir : Int) (name : Str) (n : Int) (d x : Nod) (w : World) (L : List HP) (hd : fnd S.nodes dir = some d) (hn : fnd S.nodes n = some x) (hne : dir ≠ n) (hk : d.kind = 2) (hl : name.length ≤ 1000000) (hm : d.names.length < 1000000) (hx0 : 0 ≤ x.links) (hx1 : x.links < 1000000) (hO : Has w (Trc q S :: L)) :
    Calls Tryz.prog 124 #[.pointer (some ⟨q, 0, none⟩), .int .i64 dir, sV name, .int .i64 n] w fun e w' => e = .returned (.tuple #[]) ∧ Has w' (Trc q (S.add dir name n) :: L) ∧ Keep w w' := by
  obtain ⟨m, f, P, ⟨hP, hT⟩, h⟩ := trc_iff.1 hO
  have hd' := hd
  have hn' := hn
  rw [← hP] at hd' hn'
  obtain ⟨b, b2, R, hperm⟩ := pn_split2 hd' hn' hne
  have hnd := Trb.nodup h
  have hokn : kInt.ok n := Mk.ok (trb_iff.1 h).p1 (by rw [pnB_keys]; exact (hperm.map Prod.fst).mem_iff.2 (by simp))
  have hq := (Trb.cells h.drew).1
  have hld := Trg.look (n := dir) (b := b) (x := d) (Trg.of h.drew) (hperm.mem_iff.2 (by simp))
  have hln := Trg.look (n := n) (b := b2) (x := x) (Trg.of h.drew) (hperm.mem_iff.2 (by simp))
  have h1 := (Trg.pullP (Trg.of h) hperm).re 2 [1, 0]
  have h2 := Trg.pullP h1 (.refl _)
  obtain ⟨dv2, wv2, nm2, hnm2, h3⟩ := ndc_iff.1 h2
  obtain ⟨dv, wv, nm, hnm, h4⟩ := ndc_iff.1 (h3.re 6 [5, 0, 1, 2, 3, 4])
  obtain ⟨mm, rfl⟩ := hnm hk
  have HO := hid (show Has w (Mk kStr vInt mm d.names :: pt b (.cells (nodC d dv wv (some mm)) 83) :: Dat d.kind dv d.data :: Bools wv d.wr :: pt b2 (.cells (nodC x dv2 wv2 nm2) 83) :: Dat x.kind dv2 x.data :: Bools wv2 x.wr :: Nms nm2 x.names :: Trg q m f P S.last S.tab R :: L) from h4.re 4 [3, 0, 1, 2])
  have HPM := hid hperm
  have HND := hid hnd
  have HPT := hid (And.intro hP hT)
  have HNM := hid hnm
  have HNM2 := hid hnm2
  have HDN := hid (And.intro hd hn)
  have HM := hid hm
  have HOK := hid hokn
  have hc3 : w.drew.cell? ⟨b, 3, none⟩ = some (.map (some mm)) := HO.out.p1.cells 3
  clear hd' hn' hd hn h h1 h2 h3 h4 hO hperm hnd hP hT hnm hnm2 hm hokn
  go_enter Tryz.func124, Tryz.ntmps124
  go_upto_region 0 with fail
  refine region_text (fun w' => w'.cell? ⟨q, 0, none⟩ = some (.map (some m)) ∧ (Instr.lookup tNo (.map (some m)) (.int .i64 dir) false).run Tryz.prog w' = .ok (.pointer (some ⟨b, 0, none⟩)) w' ∧ (Instr.lookup tNo (.map (some m)) (.int .i64 n) false).run Tryz.prog w' = .ok (.pointer (some ⟨b2, 0, none⟩)) w') (by kernel_rfl) (by kernel_rfl) ⟨hq, hld, hln⟩ ?_
  repeat (first
    | (refine wpL_read (by rfl) (by rfl) ?_ ?_ ?_; rotate_left; (rintro w ⟨z0, z1, z2⟩; go_simp; with_reducible rfl); simp only [Act.put, List.setIfInBounds_toArray, List.set_cons_zero, List.set_cons_succ]) | (refine wpL_skip (by rfl) ?_; simp only [Act.put, List.setIfInBounds_toArray, List.set_cons_zero, List.set_cons_succ]))
  refine wpL_nil ?_
  have HOd := hid HO.out.drew
  have HKd := hid (Keep.refl w).drew
  clear HO hq hld hln
  generalize w.drew = w1 at *
  go_wp2_with (at_mapUpdate; refine wpList_mkPut HOd.out HM.out tNm undNm rfl _ _ _ rfl rfl name (Nat.le_trans hl (le_maxLen (by omega))) rfl n HOK.out rfl ?_; intro w2 hO2 hK2; simp only [Act.put])
  have HO2 := hid (show Has w2 (pt b (.cells (nodC d dv wv (some mm)) 83) :: Mk kStr vInt mm (putA d.names name n) :: Dat d.kind dv d.data :: Bools wv d.wr :: pt b2 (.cells (nodC x dv2 wv2 nm2) 83) :: Dat x.kind dv2 x.data :: Bools wv2 x.wr :: Nms nm2 x.names :: Trg q m f P S.last S.tab R :: L) from hO2.re 2 [1, 0])
  have HK2 := hid (HKd.out.trans hK2)
  have hlen := Mk.len HO2.out.p1.drew undNm 3
  have hlen2 := Mk.len HO2.out.p1 undNm 3
  have hcb3 : w2.drew.cell? ⟨b, 3, none⟩ = some (.map (some mm)) := HO2.out.cells 3
  have hcb4 : w2.drew.cell? ⟨b, 4, none⟩ = some (.int .i64 d.most) := HO2.out.cells 4
  have hcb3' : w2.cell? ⟨b, 3, none⟩ = some (.map (some mm)) := HO2.out.cells 3
  have hcb4' : w2.cell? ⟨b, 4, none⟩ = some (.int .i64 d.most) := HO2.out.cells 4
  have ht4 := HO2.out.thaw 4
  have ht4' := HO2.out.drew.thaw 4
  clear hO2 hK2 HOd HKd hc3
  generalize hpl : putA d.names name n = pl at *
  go_upto_region 2 with fail
  go_region
  have HO3 := hid (show Has (w2.setCell ⟨b, 4, none⟩ (.int .i64 (max d.most (pl.length : Int)))).drew (pt b2 (.cells (nodC x dv2 wv2 nm2) 83) :: pt b (.cells (nodC { d with names := pl, most := max d.most (pl.length : Int) } dv wv (some mm)) 83) :: Mk kStr vInt mm pl :: Dat d.kind dv d.data :: Bools wv d.wr :: Dat x.kind dv2 x.data :: Bools wv2 x.wr :: Nms nm2 x.names :: Trg q m f P S.last S.tab R :: L) from ((HO2.out.set 4 (.int .i64 (max d.most (pl.length : Int)))).drew).re 5 [4, 0, 1, 2, 3])
  have HK3 := hid ((HK2.out.set ⟨b, 4, none⟩ (.int .i64 (max d.most (pl.length : Int)))).drew)
  clear HO2 HK2 hlen hlen2 hcb3 hcb4 hcb3' hcb4' ht4 ht4'
  generalize (w2.setCell ⟨b, 4, none⟩ (.int .i64 (max d.most (pl.length : Int)))).drew = w3 at *
  have hy0 : w3.cell? ⟨b2, 0, none⟩ = some (.int .i64 x.kind) := HO3.out.cells 0
  have hy5 : w3.cell? ⟨b2, 5, none⟩ = some (.int .i64 x.links) := HO3.out.cells 5
  have hy6 : w3.cell? ⟨b2, 6, none⟩ = some (.int .i64 x.above) := HO3.out.cells 6
  have hz5 := HO3.out.thaw 5
  have hz6 := HO3.out.thaw 6
  have hfin : ∀ (w' : World) (x' : Nod), x'.kind = x.kind → x'.data = x.data → x'.wr = x.wr → x'.names = x.names → Tre.nodAdd x dir = x' → Has w' (pt b2 (.cells (nodC x' dv2 wv2 nm2) 83) :: pt b (.cells (nodC { d with names := pl, most := max d.most (pl.length : Int) } dv wv (some mm)) 83) :: Mk kStr vInt mm pl :: Dat d.kind dv d.data :: Bools wv d.wr :: Dat x.kind dv2 x.data :: Bools wv2 x.wr :: Nms nm2 x.names :: Trg q m f P S.last S.tab R :: L) → Has w' (Trc q (S.add dir name n) :: L) := by
    intro w' x' e1 e2 e3 e4 hxe h
    have g1 : Has w' (Ndc b2 x' :: pt b (.cells (nodC { d with names := pl, most := max d.most (pl.length : Int) } dv wv (some mm)) 83) :: Mk kStr vInt mm pl :: Dat d.kind dv d.data :: Bools wv d.wr :: Trg q m f P S.last S.tab R :: L) := ndc_iff.2 ⟨dv2, wv2, nm2, by rw [e1]; exact HNM2.out, by rw [e1, e2, e3, e4]; exact h.re 8 [0, 5, 6, 7, 1, 2, 3, 4]⟩
    have g2 : Has w' (Ndc b (Tre.dirAdd d name n) :: Ndc b2 x' :: Trg q m f P S.last S.tab R :: L) := ndc_iff.2 ⟨dv, wv, some mm, fun _ => ⟨mm, rfl⟩, by
      have hda : Tre.dirAdd d name n = { d with names := pl, most := max d.most (pl.length : Int) } := by rw [← hpl]; rfl
      rw [hda]
      exact g1.re 5 [1, 3, 4, 2, 0]⟩
    have g3 : Has w' (Trg q m f P S.last S.tab ((n, b2, x') :: R) :: Ndc b (Tre.dirAdd d name n) :: L) := Trg.push n (g2.re 3 [1, 2, 0])
    have g4 : Has w' (Trg q m f P S.last S.tab ((dir, b, Tre.dirAdd d name n) :: (n, b2, x') :: R) :: L) := Trg.push dir (g3.re 2 [1, 0])
    have a1 : S.at_ dir = d := by unfold Tre.at_; rw [HDN.out.1]; rfl
    have a2 : S.at_ n = x := by unfold Tre.at_; rw [HDN.out.2]; rfl
    refine Trg.close (P := P.map (rep2 dir (Tre.dirAdd d name n) n x')) g4 (rep2_perm HPM.out HND.out hne).symm rep2_pnB ?_ rfl rfl HPT.out.2
    rw [rep2_pnN (by rw [pnN_keys]; exact (HPM.out.map Prod.fst).mem_iff.2 (by simp)) (by rw [pnN_keys]; exact (HPM.out.map Prod.fst).mem_iff.2 (by simp)), HPT.out.1, ← hxe]
    show _ = putA (putA S.nodes dir (Tre.dirAdd (S.at_ dir) name n)) n (Tre.nodAdd (S.at_ n) dir)
    rw [a1, a2]
  have HFIN := hid hfin
  have HNA := hid (show Tre.nodAdd x dir = if x.kind = 2 then { x with above := dir, links := 1 } else { x with links := x.links + 1 } from rfl)
  clear hfin hpl
  by_cases hk2 : x.kind = 2
  · go_wp2_with fail
    go_end0
    refine ⟨rfl, HFIN.out _ { x with above := dir, links := 1 } rfl rfl rfl rfl (by rw [HNA.out, if_pos hk2]) ?_, ((HK3.out.set _ _).set _ _).set _ _⟩
    exact ((HO3.out.set 5 (.int .i64 (x.links + 1))).set 6 (.int .i64 dir)).set 5 (.int .i64 1)
  · go_wp2_with fail
    go_end0
    refine ⟨rfl, HFIN.out _ { x with links := x.links + 1 } rfl rfl rfl rfl (by rw [HNA.out, if_neg hk2]) ?_, HK3.out.set _ _⟩
    exact HO3.out.set 5 (.int .i64 (x.links + 1))
end Go.Proofs.YtonhcefgakmpfaaGreatDoor
/- `m[x] = y` as one operation of a region that draws. No program in sight. -/
namespace Go.Own
open Go.RowKit Go.Maps
section
variable {P : Program} {k e : TypeId} {κ α : Type} [DecidableEq κ] {K : Ky P k κ} {V : El P e α} {w : World} {L : List HP} {b : Nat} {t : List (κ × α)} {o : Oper} {a : Act} {Q : Exit → Act → World → Prop} {R : Act → World → Prop}
theorem wp_mkPut (h : Has w (Mk K V b t :: L)) (hl : t.length < 1000000) (T : TypeId) (ht : P.underlying T = some (.map k e)) (m kx v : Operand) (hop : o.op = Op.mapUpdate T m kx v) (hm : a.eval m = .map (some b)) (x : κ) (hx : K.ok x) (hk : a.eval kx = K.val x) (y : α) (hy : V.ok y) (hv : a.eval v = V.val y)
    (hK : ∀ w', Has w' (Mk K V b (putA t x y) :: L) → Keep w w' → R (a.put o.dst undef) w') : o.wp P a w R Q := by
  obtain ⟨D, h1, h2⟩ := Mk.iff.1 h
  obtain ⟨w', hrun, r1, r2⟩ := h2.owns.store K.law ht (by rw [h1.size]; show t.length < maxLen; unfold maxLen; omega) (K.spell hx) (V.spell hy)
  unfold Oper.wp
  simp [execOp, hop, hm, hk, hv, hrun, Result.andThen]
  have h3 := h2.mapTurn (grown_but r2.grown fun r e => by cases e; rfl) r1
  exact hK w' (Mk.iff.2 ⟨_, h1.put x y hx, h3⟩) (Mk.keep r2)
/-- An entry of a map's literal. -/
theorem wpList_mkIns {ops : Array Oper} {rest : List Oper} {Q : Exit → Act → World → Prop} (h : Has w (Mk K V b t :: L)) (hl : t.length < 1000000) (T : TypeId) (ht : P.underlying T = some (.map k e)) (hg : o.guard = none) (m kx v : Operand) (hop : o.op = Op.insert T m kx v) (hm : a.eval m = .map (some b)) (x : κ) (hx : K.ok x) (hk : a.eval kx = K.val x) (y : α) (hy : V.ok y) (hv : a.eval v = V.val y)
    (hK : ∀ w', Has w' (Mk K V b (putA t x y) :: L) → Keep w w' → wpList P ops Q rest (a.put o.dst undef) w') : wpList P ops Q (o :: rest) a w := by
  refine wpList_plain hg fun K' hK' => ?_
  obtain ⟨D, h1, h2⟩ := Mk.iff.1 h
  obtain ⟨w', hrun, r1, r2⟩ := h2.owns.store K.law ht (by rw [h1.size]; show t.length < maxLen; unfold maxLen; omega) (K.spell hx) (V.spell hy)
  unfold Oper.wp
  simp [execOp, hop, hm, hk, hv, hrun, Result.andThen]
  have h3 := h2.mapTurn (grown_but r2.grown fun r e => by cases e; rfl) r1
  exact hK' _ _ (hK w' (Mk.iff.2 ⟨_, h1.put x y hx, h3⟩) (Mk.keep r2))
end
end Go.Own
/- THE WALK of tree.make. -/
namespace Go.Proofs.YtonhcefgakmpfaaGreatDoor
open Go.RowKit Go.Own
theorem Trc.last {w : World} {L : List HP} {q : Nat} {S : Tre} (h : Has w (Trc q S :: L)) : w.cell? ⟨q, 1, none⟩ = some (.int .i64 S.last) := by
  obtain ⟨m, f, P, -, h⟩ := trc_iff.1 h
  exact (Trb.cells h).2.1
theorem wf_small (x : Int) (h0 : 0 ≤ x) (h1 : x ≤ 1000000) : kInt.ok x := by
  show (Lit.int .i64 x).wf = true
  unfold Lit.wf
  rw [Bool.and_eq_true, decide_eq_true_iff, decide_eq_true_iff]
  have h1 : IntKind.min .i64 = -9223372036854775808 := by decide
  have h2 : IntKind.max .i64 = 9223372036854775807 := by decide
  rw [h1, h2]
  omega
def nodNew (kind : Int) : Nod := ⟨kind, [], [], [], 0, 0, 0⟩
set_option maxRecDepth 100000 in
set_option maxHeartbeats 8000000 in
theorem tMake (q : Nat) (S : Tre) (s : Spt) (kind : Int) (d : Nod) (w : World) (L : List HP) (hk3 : kind ≠ 3) (hd : fnd S.nodes s.dir = some d) (hk : d.kind = 2) (hl : s.name.length ≤ 1000000) (hm : d.names.length < 1000000) (h0 : 0 ≤ S.last) (h1 : S.last < 1000000) (hfree : fnd S.nodes (S.last + 1) = none) (hS : S.nodes.length < 1000000) (hO : Has w (Trc q S :: L)) :
    Calls Tryz.prog 59 #[.pointer (some ⟨q, 0, none⟩), spV s, .int .i64 kind, sV []] w fun e w' => e = .returned (.int .i64 (S.last + 1)) ∧ Has w' (Trc q (S.make s kind []) :: L) ∧ Keep w w' := by
  obtain ⟨m, f, P, ⟨hP, hT⟩, h⟩ := trc_iff.1 hO
  have HPT := hid (And.intro hP hT)
  have h := trb_iff.1 h
  have HO := hid (show Has w (pt q (.cells (treC m f S.last) 88) :: Mk kInt vPtr m (pnB P) :: Tab f S.tab :: (pnC P ++ L)) from h)
  have hq0 : w.cell? ⟨q, 0, none⟩ = some (.map (some m)) := HO.out.cells 0
  have hq1 : w.cell? ⟨q, 1, none⟩ = some (.int .i64 S.last) := HO.out.cells 1
  have hqt := HO.out.thaw 1
  have hql := HO.out.lt
  clear h hO hP hT
  unfold spV spC
  go_enter Tryz.func59, Tryz.ntmps59
  have hmm := @run_makeMap Tryz.prog
  go_upto_region 3 with fail
  have h2 := ((HO.out.set 1 (.int .i64 (S.last + 1))).alloc (.cells #[.int .i64 s.node, .int .i64 s.dir, sV s.name] 93)).alloc (.cells #[.int .i64 kind, .slice none 0 0, .slice none 0 0, .map none, .int .i64 0, .int .i64 0, .int .i64 0] 83)
  have e1 : (w.setCell ⟨q, 1, none⟩ (.int .i64 (S.last + 1))).heap.size = w.heap.size := by simp
  have e2 : ((w.setCell ⟨q, 1, none⟩ (.int .i64 (S.last + 1))).alloc (.cells #[.int .i64 s.node, .int .i64 s.dir, sV s.name] 93)).heap.size = w.heap.size + 1 := by show (Array.push _ _).size = _; rw [Array.size_push, e1]
  rw [e2, e1] at h2
  have HK2 := hid ((((Keep.refl w).set ⟨q, 1, none⟩ (.int .i64 (S.last + 1))).alloc (.cells #[.int .i64 s.node, .int .i64 s.dir, sV s.name] 93)).alloc (.cells #[.int .i64 kind, .slice none 0 0, .slice none 0 0, .map none, .int .i64 0, .int .i64 0, .int .i64 0] 83))
  have HO2 := hid h2
  clear h2 e1 e2 hqt hql hq0 hq1
  generalize ((w.setCell ⟨q, 1, none⟩ (.int .i64 (S.last + 1))).alloc (.cells #[.int .i64 s.node, .int .i64 s.dir, sV s.name] 93)).alloc (.cells #[.int .i64 kind, .slice none 0 0, .slice none 0 0, .map none, .int .i64 0, .int .i64 0, .int .i64 0] 83) = w2 at *
  generalize hgs : w.heap.size = gs at *
  generalize hgn : gs + 1 = gn at *
  have hfin : ∀ w5 : World, Has w5 (Mk kInt vPtr m (putA (pnB P) (S.last + 1) (some gn)) :: pt q (.cells (treC m f (S.last + 1)) 88) :: Tab f S.tab :: Ndc gn (nodNew kind) :: pt gs (.cells (spC s) 93) :: (pnC P ++ L)) → Has w5 (Trc q { S with last := S.last + 1, nodes := putA S.nodes (S.last + 1) (nodNew kind) } :: pt gs (.cells (spC s) 93) :: L) := by
    intro w5 h5
    have hnk : (S.last + 1) ∉ P.map Prod.fst := by
      have := fnd_none.1 hfree
      rwa [← HPT.out.1, pnN_keys] at this
    refine trc_iff.2 ⟨m, f, P ++ [(S.last + 1, gn, nodNew kind)], ⟨?_, HPT.out.2⟩, trb_iff.2 ?_⟩
    · show pnN _ = putA S.nodes (S.last + 1) (nodNew kind)
      rw [putA_new _ (fnd_none.1 hfree), ← HPT.out.1]
      simp [pnN]
    · rw [putA_new _ (by rw [pnB_keys]; exact hnk)] at h5
      have e : pnB (P ++ [(S.last + 1, gn, nodNew kind)]) = pnB P ++ [(S.last + 1, some gn)] := by simp [pnB]
      have e2 : pnC (P ++ [(S.last + 1, gn, nodNew kind)]) = pnC P ++ [Ndc gn (nodNew kind)] := by simp [pnC]
      rw [e, e2]
      refine h5.perm ?_
      refine (List.Perm.swap _ _ _).trans (.cons _ (.cons _ (.cons _ ?_)))
      rw [List.append_assoc]
      refine List.Perm.trans ?_ List.perm_middle.symm
      refine .cons _ ?_
      exact List.perm_middle.symm
  have HFIN := hid hfin
  have HFR := hid hfree
  have hPl : P.length < 1000000 := by
    have : (pnN P).length = P.length := by simp [pnN]
    rw [HPT.out.1] at this
    omega
  have HIN := hid (show (fnd (putA S.nodes (S.last + 1) (nodNew kind)) s.dir = some d ∧ fnd (putA S.nodes (S.last + 1) (nodNew kind)) (S.last + 1) = some (nodNew kind)) ∧ s.dir ≠ S.last + 1 from by
    have hne : s.dir ≠ S.last + 1 := by intro e; rw [e] at hd; rw [hd] at hfree; cases hfree
    rw [putA_new _ (fnd_none.1 hfree)]
    refine ⟨⟨?_, ?_⟩, hne⟩
    · unfold fnd at *
      rw [List.find?_append]
      generalize S.nodes.find? (fun p => decide (p.1 = s.dir)) = o at *
      cases o with
      | none => cases hd
      | some v => exact hd
    · unfold fnd at *
      rw [List.find?_append]
      generalize S.nodes.find? (fun p => decide (p.1 = S.last + 1)) = o at *
      cases o with
      | none => simp
      | some v => cases hfree)
  have HME := hid (show S.make s kind [] = ({ S with last := S.last + 1, nodes := putA S.nodes (S.last + 1) (nodNew kind) } : Tre).add s.dir s.name (S.last + 1) from by
    unfold Tre.make nodNew
    rw [if_neg hk3])
  clear hfin hfree hd
  by_cases hk2 : kind = 2
  · subst hk2
    have HM := hid (Mk.made HO2.out kStr vInt)
    have hcn3 := HM.out.p1.cells 3
    have htn3 := HM.out.p1.thaw 3
    go_upto_region 8 with fail
    have HO4 := hid (show Has ((w2.alloc (.map #[] 0)).setCell ⟨gn, 3, none⟩ (.map (some w2.heap.size))) (Mk kInt vPtr m (pnB P) :: pt q (.cells (treC m f (S.last + 1)) 88) :: Tab f S.tab :: Ndc gn (nodNew 2) :: pt gs (.cells (spC s) 93) :: (pnC P ++ L)) from by
      have h1 := (HM.out.re 2 [1, 0]).set 3 (.map (some w2.heap.size))
      have h2 := ((h1.row_nil 4 1).row_nil 5 1).re 5 [2, 0, 1, 3, 4]
      have h3 : Has ((w2.alloc (.map #[] 0)).setCell ⟨gn, 3, none⟩ (.map (some w2.heap.size))) (Ndc gn (nodNew 2) :: pt gs (.cells (spC s) 93) :: pt q (.cells (treC m f (S.last + 1)) 88) :: Mk kInt vPtr m (pnB P) :: Tab f S.tab :: (pnC P ++ L)) := ndc_ofB (by show (2 : Int) ≠ 3; decide) ⟨.slice none 0 0, .slice none 0 0, some w2.heap.size, fun _ => ⟨_, rfl⟩, h2⟩
      exact h3.re 5 [3, 2, 4, 0, 1])
    have HK4 := hid ((HK2.out.alloc (.map #[] 0)).set ⟨gn, 3, none⟩ (.map (some w2.heap.size)))
    clear HO2 HK2 HM hcn3 htn3
    generalize (w2.alloc (.map #[] 0)).setCell ⟨gn, 3, none⟩ (.map (some w2.heap.size)) = w4 at *
    have hq0 : w4.drew.cell? ⟨q, 0, none⟩ = some (.map (some m)) := HO4.out.p1.cells 0
    have hq1 : w4.drew.cell? ⟨q, 1, none⟩ = some (.int .i64 (S.last + 1)) := HO4.out.p1.cells 1
    refine region_text (fun w' => w'.cell? ⟨q, 0, none⟩ = some (.map (some m)) ∧ w'.cell? ⟨q, 1, none⟩ = some (.int .i64 (S.last + 1))) (by kernel_rfl) (by kernel_rfl) ⟨hq0, hq1⟩ ?_
    repeat (first
      | (refine wpL_read (by rfl) (by rfl) ?_ ?_ ?_; rotate_left; (rintro w ⟨z0, z1⟩; go_simp; with_reducible rfl); simp only [Act.put, List.setIfInBounds_toArray, List.set_cons_zero, List.set_cons_succ]) | (refine wpL_skip (by rfl) ?_; simp only [Act.put, List.setIfInBounds_toArray, List.set_cons_zero, List.set_cons_succ]))
    refine wpL_act (by rfl) (by rfl) (fun K hK => ?_)
    refine wp_mkPut HO4.out.drew (by simp only [pnB, List.length_map]; exact hPl) tNo undNo _ _ _ rfl rfl (S.last + 1) (wf_small _ (by omega) (by omega)) rfl (some gn) trivial rfl ?_
    intro w5 hO5 hK5
    refine hK.out _ _ ⟨hO5.p1.cells 0, hO5.p1.cells 1⟩ ?_
    clear hK K
    try simp only [Act.put, List.setIfInBounds_toArray, List.set_cons_zero, List.set_cons_succ]
    have HO5 := hid (HFIN.out _ hO5)
    have HK5 := hid (HK4.out.drew.trans hK5)
    clear hO5 hK5 HO4 HK4 hq0 hq1
    refine wpL_nil ?_
    go_upto_region 9 with fail
    refine region_text (fun w' => w'.cell? ⟨q, 1, none⟩ = some (.int .i64 (S.last + 1)) ∧ w'.cell? ⟨gs, 1, none⟩ = some (.int .i64 s.dir) ∧ w'.cell? ⟨gs, 2, none⟩ = some (sV s.name)) (by kernel_rfl) (by kernel_rfl) ⟨Trc.last HO5.out.drew, HO5.out.drew.p1.cells 1, HO5.out.drew.p1.cells 2⟩ ?_
    repeat (first
      | (refine wpL_read (by rfl) (by rfl) ?_ ?_ ?_; rotate_left; (rintro w ⟨z0, z1, z2⟩; go_simp; with_reducible rfl); simp only [Act.put, List.setIfInBounds_toArray, List.set_cons_zero, List.set_cons_succ]) | (refine wpL_skip (by rfl) ?_; simp only [Act.put, List.setIfInBounds_toArray, List.set_cons_zero, List.set_cons_succ]))
    refine wpL_act (by rfl) (by rfl) (fun K hK => ?_)
    go_simp
    refine (tAdd q _ s.dir s.name (S.last + 1) d _ _ _ HIN.out.1.1 HIN.out.1.2 HIN.out.2 hk hl hm (by show (0 : Int) ≤ 0; decide) (by show (0 : Int) < 1000000; decide) HO5.out.drew).mono ?_
    rintro e w6 ⟨rfl, hO6, hK6⟩
    have HO6 := hid hO6
    have HK6 := hid ((HK5.out.drew).trans hK6)
    clear hO6 hK6
    try dsimp only
    refine hK.out _ _ (⟨Trc.last HO6.out, HO6.out.p1.cells 1, HO6.out.p1.cells 2⟩) ?_
    clear hK K
    try simp only [Act.put, List.setIfInBounds_toArray, List.set_cons_zero, List.set_cons_succ]
    refine wpL_nil ?_
    have hq1 := Trc.last HO6.out
    go_wp2_with fail
    go_ret
    exact ⟨rfl, by rw [HME.out]; exact HO6.out.re 2 [0], HK6.out⟩
  · go_upto_region 8 with fail
    have HO4 := hid (show Has w2 (Mk kInt vPtr m (pnB P) :: pt q (.cells (treC m f (S.last + 1)) 88) :: Tab f S.tab :: Ndc gn (nodNew kind) :: pt gs (.cells (spC s) 93) :: (pnC P ++ L)) from by
      have h1 := HO2.out
      have h2 : Has w2 (fact (([] : List (Str × Int)) = []) :: _) := Has.fact_iff.2 ⟨rfl, h1⟩
      have h3 := ((h2.row_nil 4 1).row_nil 5 1).re 4 [3, 0, 1, 2]
      have h4 : Has w2 (Ndc gn (nodNew kind) :: pt gs (.cells (spC s) 93) :: pt q (.cells (treC m f (S.last + 1)) 88) :: Mk kInt vPtr m (pnB P) :: Tab f S.tab :: (pnC P ++ L)) := ndc_ofB hk3 ⟨.slice none 0 0, .slice none 0 0, none, fun h => absurd h hk2, h3⟩
      exact h4.re 5 [3, 2, 4, 0, 1])
    have HK4 := HK2
    clear HO2 HK2
    generalize w2 = w4 at *
    have hq0 : w4.drew.cell? ⟨q, 0, none⟩ = some (.map (some m)) := HO4.out.p1.cells 0
    have hq1 : w4.drew.cell? ⟨q, 1, none⟩ = some (.int .i64 (S.last + 1)) := HO4.out.p1.cells 1
    refine region_text (fun w' => w'.cell? ⟨q, 0, none⟩ = some (.map (some m)) ∧ w'.cell? ⟨q, 1, none⟩ = some (.int .i64 (S.last + 1))) (by kernel_rfl) (by kernel_rfl) ⟨hq0, hq1⟩ ?_
    repeat (first
      | (refine wpL_read (by rfl) (by rfl) ?_ ?_ ?_; rotate_left; (rintro w ⟨z0, z1⟩; go_simp; with_reducible rfl); simp only [Act.put, List.setIfInBounds_toArray, List.set_cons_zero, List.set_cons_succ]) | (refine wpL_skip (by rfl) ?_; simp only [Act.put, List.setIfInBounds_toArray, List.set_cons_zero, List.set_cons_succ]))
    refine wpL_act (by rfl) (by rfl) (fun K hK => ?_)
    refine wp_mkPut HO4.out.drew (by simp only [pnB, List.length_map]; exact hPl) tNo undNo _ _ _ rfl rfl (S.last + 1) (wf_small _ (by omega) (by omega)) rfl (some gn) trivial rfl ?_
    intro w5 hO5 hK5
    refine hK.out _ _ ⟨hO5.p1.cells 0, hO5.p1.cells 1⟩ ?_
    clear hK K
    try simp only [Act.put, List.setIfInBounds_toArray, List.set_cons_zero, List.set_cons_succ]
    have HO5 := hid (HFIN.out _ hO5)
    have HK5 := hid (HK4.out.drew.trans hK5)
    clear hO5 hK5 HO4 HK4 hq0 hq1
    refine wpL_nil ?_
    go_upto_region 9 with fail
    refine region_text (fun w' => w'.cell? ⟨q, 1, none⟩ = some (.int .i64 (S.last + 1)) ∧ w'.cell? ⟨gs, 1, none⟩ = some (.int .i64 s.dir) ∧ w'.cell? ⟨gs, 2, none⟩ = some (sV s.name)) (by kernel_rfl) (by kernel_rfl) ⟨Trc.last HO5.out.drew, HO5.out.drew.p1.cells 1, HO5.out.drew.p1.cells 2⟩ ?_
    repeat (first
      | (refine wpL_read (by rfl) (by rfl) ?_ ?_ ?_; rotate_left; (rintro w ⟨z0, z1, z2⟩; go_simp; with_reducible rfl); simp only [Act.put, List.setIfInBounds_toArray, List.set_cons_zero, List.set_cons_succ]) | (refine wpL_skip (by rfl) ?_; simp only [Act.put, List.setIfInBounds_toArray, List.set_cons_zero, List.set_cons_succ]))
    refine wpL_act (by rfl) (by rfl) (fun K hK => ?_)
    go_simp
    refine (tAdd q _ s.dir s.name (S.last + 1) d _ _ _ HIN.out.1.1 HIN.out.1.2 HIN.out.2 hk hl hm (by show (0 : Int) ≤ 0; decide) (by show (0 : Int) < 1000000; decide) HO5.out.drew).mono ?_
    rintro e w6 ⟨rfl, hO6, hK6⟩
    have HO6 := hid hO6
    have HK6 := hid ((HK5.out.drew).trans hK6)
    clear hO6 hK6
    try dsimp only
    refine hK.out _ _ (⟨Trc.last HO6.out, HO6.out.p1.cells 1, HO6.out.p1.cells 2⟩) ?_
    clear hK K
    try simp only [Act.put, List.setIfInBounds_toArray, List.set_cons_zero, List.set_cons_succ]
    refine wpL_nil ?_
    have hq1 := Trc.last HO6.out
    go_wp2_with fail
    go_ret
    exact ⟨rfl, by rw [HME.out]; exact HO6.out.re 2 [0], HK6.out⟩
end Go.Proofs.YtonhcefgakmpfaaGreatDoor
/- THE WALK of tree.file. -/
namespace Go.Proofs.YtonhcefgakmpfaaGreatDoor
open Go.RowKit Go.Own
def filC (s : Tb.Slot) : Array Value := #[.int .i64 s.node, .int .i64 s.off, .int .i64 s.flags]
theorem _root_.Go.Own.Has.fil {w : World} {l : List HP} {b : Nat} {s0 : Tb.Slot} (h : Has w (pt b (.cells (filC s0) 98) :: l)) (s : Tb.Slot) : Has (((w.setCell ⟨b, 0, none⟩ (.int .i64 s.node)).setCell ⟨b, 1, none⟩ (.int .i64 s.off)).setCell ⟨b, 2, none⟩ (.int .i64 s.flags)) (pt b (.cells (filC s) 98) :: l) :=
  ((h.set 0 (.int .i64 s.node)).set 1 (.int .i64 s.off)).set 2 (.int .i64 s.flags)
theorem fil_result {fn : Func} {p p2 p3 : Tmp} {tmps : Array Value} {w : World} {L : List HP} {r : Nat} {e1 e2 : Value} (s : Tb.Slot) (h : fn.results = #[.cell p 98, .tmp p2, .tmp p3]) (ht : tmps.getD p undef = .pointer (some ⟨r, 0, none⟩)) (he1 : tmps.getD p2 undef = e1) (he2 : tmps.getD p3 undef = e2) (hO : Has w (pt r (.cells (filC s) 98) :: L)) :
    (results fn tmps).run Tryz.prog w = .ok (.tuple #[.agg (filC s), e1, e2]) w := by
  have h0 : w.cell? ⟨r, 0, none⟩ = some (.int .i64 s.node) := hO.cells 0
  have h1 : w.cell? ⟨r, 1, none⟩ = some (.int .i64 s.off) := hO.cells 1
  have h2 : w.cell? ⟨r, 2, none⟩ = some (.int .i64 s.flags) := hO.cells 2
  unfold results filC
  rw [h]
  have ht2 : tmps[p]?.getD undef = .pointer (some ⟨r, 0, none⟩) := by rw [← ht]; simp
  have he12 : tmps[p2]?.getD undef = e1 := by rw [← he1]; simp
  have he22 : tmps[p3]?.getD undef = e2 := by rw [← he2]; simp
  clear hO h ht he1 he2
  go_simp
section
variable {w : World} {L : List HP} {q m f : Nat} {P : List Pn} {last : Int} {T T' : List Tb.Slot}
/-- A node is taken out, its cells told; put back, another. -/
theorem Trb.take {n : Int} {b : Nat} {x : Nod} (h : Has w (Trb q m f P last T :: L)) (hb : (n, b, x) ∈ P) : ∃ A B dv wv nm, P = A ++ (n, b, x) :: B ∧ (x.kind = 2 → ∃ m, nm = some m) ∧ Has w (pt b (.cells (nodC x dv wv nm) 83) :: Dat x.kind dv x.data :: Bools wv x.wr :: Nms nm x.names :: Trg q m f P last T (A ++ B) :: L) := by
  obtain ⟨A, B, hP⟩ := List.append_of_mem hb
  have h1 := Trg.of h
  have h2 : Has w (Trg q m f P last T (A ++ (n, b, x) :: B) :: L) := by rw [← hP]; exact h1
  obtain ⟨dv, wv, nm, hd, h3⟩ := ndc_iff.1 (Trg.pull h2)
  exact ⟨A, B, dv, wv, nm, hP, hd, h3⟩
theorem Trb.shut {n : Int} {b : Nat} {x y : Nod} {A B : List Pn} {dv wv : Value} {nm : Option Nat} (hP : P = A ++ (n, b, x) :: B) (hd : y.kind = 2 → ∃ m, nm = some m) (h : Has w (pt b (.cells (nodC y dv wv nm) 83) :: Dat y.kind dv y.data :: Bools wv y.wr :: Nms nm y.names :: Trg q m f P last T (A ++ B) :: L)) : Has w (Trb q m f (A ++ (n, b, y) :: B) last T :: L) := by
  have h1 : Has w (Ndc b y :: Trg q m f P last T (A ++ B) :: L) := ndc_iff.2 ⟨dv, wv, nm, hd, h⟩
  have h2 := Trg.perm (Trg.push n h1) (List.perm_middle (l₁ := A) (l₂ := B) (a := (n, b, y))).symm
  have e : pnB P = pnB (A ++ (n, b, y) :: B) := by rw [hP]; simp [pnB]
  have h3 := trg_iff.1 h2
  rw [e] at h3
  exact trb_iff.2 h3
theorem Trb.shutB {n : Int} {b : Nat} {x y : Nod} {A B : List Pn} {dv wv : Value} {nm : Option Nat} (hk : y.kind ≠ 3) (hP : P = A ++ (n, b, x) :: B) (hd : y.kind = 2 → ∃ m, nm = some m) (h : Has w (pt b (.cells (nodC y dv wv nm) 83) :: Bytes dv y.data :: Bools wv y.wr :: Nms nm y.names :: Trg q m f P last T (A ++ B) :: L)) : Has w (Trb q m f (A ++ (n, b, y) :: B) last T :: L) := Trb.shut hP hd (by rw [dat_ne hk]; exact h)
/-- The table ahead of the rest. -/
def Trt (q m f : Nat) (P : List Pn) (last : Int) : HP := star (pt q (.cells (treC m f last) 88) :: Mk kInt vPtr m (pnB P) :: pnC P)
theorem Trb.tab : Has w (Trb q m f P last T :: L) ↔ Has w (Tab f T :: Trt q m f P last :: L) := by
  rw [trb_iff]
  constructor
  · intro h
    have h1 : Has w (Trt q m f P last :: Tab f T :: L) := by
      unfold Trt
      rw [Has.star_iff]
      refine h.perm (.cons _ (.cons _ ?_))
      exact List.perm_middle.symm
    exact h1.perm (.swap _ _ _)
  · intro h
    have h1 : Has w (Trt q m f P last :: Tab f T :: L) := h.perm (.swap _ _ _)
    unfold Trt at h1
    rw [Has.star_iff] at h1
    refine h1.perm (.cons _ (.cons _ ?_))
    exact List.perm_middle
end
set_option maxRecDepth 100000 in
set_option maxHeartbeats 8000000 in
theorem tFile (q m f : Nat) (P : List Pn) (S : Tre) (fd : Int) (wr : Bool) (w : World) (L : List HP) (hop : ∀ s, Tb.look S.tab fd = some s → ∃ x, fnd S.nodes s.node = some x) (hPT : pnN P = S.nodes ∧ S.tab.length = 16) (hO : Has w (Trb q m f P S.last S.tab :: L)) :
    Calls Tryz.prog 122 #[.pointer (some ⟨q, 0, none⟩), .int .i64 fd, .bool wr] w fun e w' => ∃ pv, e = .returned (.tuple #[.agg (filC (S.file fd wr).1), pv, .int .i64 (S.file fd wr).2]) ∧ ((S.file fd wr).2 = 0 → ∃ b x, ((S.file fd wr).1.node, b, x) ∈ P ∧ fnd S.nodes (S.file fd wr).1.node = some x ∧ x.kind ≠ 2 ∧ pv = .pointer (some ⟨b, 0, none⟩)) ∧ Has w' (Trb q m f P S.last S.tab :: L) ∧ Keep w w' := by
  have HG := hid (fun (w : World) (L' : List HP) (hO : Has w (Tab f S.tab :: L')) => tabGet f S.tab fd w L' hPT.2 hO)
  have HOP := hid (show (Tb.get S.tab fd).2 = 0 → ∃ x, fnd S.nodes (Tb.get S.tab fd).1.node = some x from by
    intro h
    unfold Tb.get at *
    split at h
    · rename_i s hs; exact hop s hs
    · simp at h)
  generalize hR : S.file fd wr = R
  unfold Tre.file at hR
  generalize Tb.get S.tab fd = g at *
  obtain ⟨s, eg⟩ := g
  dsimp only at *
  have HR := hid hR
  have HPT := hid hPT
  have HO := hid (show Has w (Tab f S.tab :: Trt q m f P S.last :: L) from Trb.tab.1 hO)
  have hcq2 := (Trb.cells hO).2.2
  clear hO hR hop hPT
  go_enter Tryz.func122, Tryz.ntmps122
  go_upto_region 1 with fail
  generalize hg4 : w.heap.size = g6 at *
  go_cut [9, 10] (fun p9 e9 wx => ∃ (w3 : World) (g9 : Nat), w3 = wx ∧ e9 = .int .i64 eg ∧ p9 = .pointer (some ⟨g9, 0, none⟩) ∧ Hid (Has w3 (Trb q m f P S.last S.tab :: pt g9 (.cells (filC s) 98) :: pt g6 (.cells (filC Tb.none4) 98) :: L)) ∧ Hid (Keep w w3))
  case first =>
    subst hg4
    have HA := hid ((HO.out.alloc (.cells (filC Tb.none4) 98)).re 3 [1, 2, 0])
    have hcq : (w.alloc (.cells #[.int .i64 0, .int .i64 0, .int .i64 0] 98)).cell? ⟨q, 2, none⟩ = some (.pointer (some ⟨f, 0, none⟩)) := (Trb.cells (Trb.tab.2 HA.out)).2.2
    clear hcq2
    go_wp2_with fail
    refine (HG.out _ _ HA.out).mono ?_
    rintro e w2 ⟨rfl, hO2, hK2⟩
    have HO2 := hid hO2
    have HK2 := hid (((Keep.refl w).alloc _).trans hK2)
    clear hO2 hK2
    try dsimp only
    clear hcq
    go_wp2_with fail
    go_meet
    exact ⟨_, _, rfl, rfl, rfl, hid (Trb.tab.2 ((HO2.out.alloc (.cells (filC s) 98)).re 4 [1, 2, 0, 3])), hid (HK2.out.alloc _)⟩
  case rest =>
    obtain ⟨w3, g9, rfl, rfl, rfl, HO3, HK3⟩ := hcut
    clear HO hcq2 HG
    have hc80 : w3.cell? ⟨g6, 0, none⟩ = some (.int .i64 0) := HO3.out.p2.cells 0
    have hc81 : w3.cell? ⟨g6, 1, none⟩ = some (.int .i64 0) := HO3.out.p2.cells 1
    have hc82 : w3.cell? ⟨g6, 2, none⟩ = some (.int .i64 0) := HO3.out.p2.cells 2
    have ht80 := HO3.out.p2.thaw 0
    have ht81 := HO3.out.p2.thaw 1
    have ht82 := HO3.out.p2.thaw 2
    have hc90 : w3.cell? ⟨g9, 0, none⟩ = some (.int .i64 s.node) := HO3.out.p1.cells 0
    have hc91 : w3.cell? ⟨g9, 1, none⟩ = some (.int .i64 s.off) := HO3.out.p1.cells 1
    have hc92 : w3.cell? ⟨g9, 2, none⟩ = some (.int .i64 s.flags) := HO3.out.p1.cells 2
    by_cases he : eg = 0
    · subst he
      obtain ⟨x, hx⟩ := HOP.out rfl
      by_cases hwr : wr = true ∧ andI s.flags 32 = 0
      · obtain ⟨rfl, ha⟩ := hwr
        have HRR := hid (show R = (Tb.none4, 10) from by rw [← HR.out, if_neg (fun h => h rfl), if_pos ⟨rfl, ha⟩])
        unfold andI at ha
        have hab : (bits BinOp.and IntKind.i64 s.flags 32 == 0) = true := by rw [ha]; rfl
        go_wp2_with fail
        have h1 := (show Has w3 (pt g6 (.cells (filC Tb.none4) 98) :: Trb q m f P S.last S.tab :: L) from HO3.out.re 3 [2, 0]).fil Tb.none4
        refine bodyPost_ret (fil_result Tb.none4 rfl rfl rfl rfl h1) rfl ?_
        rw [HRR.out]
        exact ⟨_, rfl, fun h => absurd h (by decide), h1.drop, ((HK3.out.set _ _).set _ _).set _ _⟩
      · have HR2 := hid (show (if (S.at_ s.node).kind = 2 then (Tb.none4, 8) else (s, 0)) = R from (if_neg hwr).symm.trans ((if_neg (fun h => h rfl)).symm.trans HR.out))
        clear HR
        have hat : S.at_ s.node = x := by unfold Tre.at_; rw [hx]; rfl
        rw [hat] at HR2
        have hx' := hx
        rw [← HPT.out.1] at hx'
        obtain ⟨b, hb, hl⟩ := Trb.look HO3.out.drew hx'
        obtain ⟨dv, wv, nm, -, hc, -⟩ := Trb.node HO3.out.drew hb
        have hcb0 : w3.drew.cell? ⟨b, 0, none⟩ = some (.int .i64 x.kind) := hc 0
        have hcq := (Trb.cells HO3.out.drew).1
        have HOd := hid HO3.out.drew
        have HKd := hid HK3.out.drew
        have hd90 : w3.drew.cell? ⟨g9, 0, none⟩ = some (.int .i64 s.node) := hc90
        have hwr2 : wr = false ∨ (wr = true ∧ (bits BinOp.and IntKind.i64 s.flags 32 == 0) = false) := by
          cases wr
          · exact .inl rfl
          · refine .inr ⟨rfl, ?_⟩
            have : ¬ andI s.flags 32 = 0 := fun h => hwr ⟨rfl, h⟩
            simpa [andI] using this
        clear hwr hx'
        have hgo : ∀ K : Prop, K → K := fun _ h => h
        rcases hwr2 with hwr2 | ⟨hwr1, hwr2⟩
        · subst hwr2
          go_upto_region 6 with fail
          refine region_text (fun w' => w'.cell? ⟨q, 0, none⟩ = some (.map (some m)) ∧ w'.cell? ⟨g9, 0, none⟩ = some (.int .i64 s.node) ∧ w'.cell? ⟨b, 0, none⟩ = some (.int .i64 x.kind) ∧ (Instr.lookup tNo (.map (some m)) (.int .i64 s.node) false).run Tryz.prog w' = .ok (.pointer (some ⟨b, 0, none⟩)) w') (by kernel_rfl) (by kernel_rfl) ⟨hcq, hd90, hcb0, hl⟩ ?_
          repeat (first
            | (refine wpL_read (by rfl) (by rfl) ?_ ?_ ?_; rotate_left; (rintro w ⟨z0, z1, z2, z3⟩; go_simp; with_reducible rfl); simp only [Act.put, List.setIfInBounds_toArray, List.set_cons_zero, List.set_cons_succ]) | (refine wpL_skip (by rfl) ?_; simp only [Act.put, List.setIfInBounds_toArray, List.set_cons_zero, List.set_cons_succ]))
          refine wpL_nil ?_
          clear hc80 hc81 hc82 ht80 ht81 ht82 hc90 hc91 hc92 HO3 HK3
          generalize w3.drew = w4 at *
          have hc80 : w4.cell? ⟨g6, 0, none⟩ = some (.int .i64 0) := HOd.out.p2.cells 0
          have hc81 : w4.cell? ⟨g6, 1, none⟩ = some (.int .i64 0) := HOd.out.p2.cells 1
          have hc82 : w4.cell? ⟨g6, 2, none⟩ = some (.int .i64 0) := HOd.out.p2.cells 2
          have ht80 := HOd.out.p2.thaw 0
          have ht81 := HOd.out.p2.thaw 1
          have ht82 := HOd.out.p2.thaw 2
          have hc91 : w4.cell? ⟨g9, 1, none⟩ = some (.int .i64 s.off) := HOd.out.p1.cells 1
          have hc92 : w4.cell? ⟨g9, 2, none⟩ = some (.int .i64 s.flags) := HOd.out.p1.cells 2
          by_cases hk : x.kind = 2
          · have HRR := hid (show R = (Tb.none4, 8) from by rw [← HR2.out, if_pos hk])
            go_wp2_with fail
            have h1 := (show Has w4 (pt g6 (.cells (filC Tb.none4) 98) :: Trb q m f P S.last S.tab :: L) from HOd.out.re 3 [2, 0]).fil Tb.none4
            refine bodyPost_ret (fil_result Tb.none4 rfl rfl rfl rfl h1) rfl ?_
            rw [HRR.out]
            exact ⟨_, rfl, fun h => absurd h (by decide), h1.drop, ((HKd.out.set _ _).set _ _).set _ _⟩
          · have HRR := hid (show R = (s, 0) from by rw [← HR2.out, if_neg hk])
            have hl2 := Trg.look (n := s.node) (b := b) (x := x) (Trg.of HOd.out.drew) hb
            have hq2 := (Trb.cells HOd.out.drew).1
            have he0 : w4.drew.cell? ⟨g9, 0, none⟩ = some (.int .i64 s.node) := hd90
            have he1 : w4.drew.cell? ⟨g9, 1, none⟩ = some (.int .i64 s.off) := hc91
            have he2 : w4.drew.cell? ⟨g9, 2, none⟩ = some (.int .i64 s.flags) := hc92
            have hf0 : w4.drew.cell? ⟨g6, 0, none⟩ = some (.int .i64 0) := hc80
            have hf1 : w4.drew.cell? ⟨g6, 1, none⟩ = some (.int .i64 0) := hc81
            have hf2 : w4.drew.cell? ⟨g6, 2, none⟩ = some (.int .i64 0) := hc82
            have hg0 := HOd.out.drew.p2.thaw 0
            have hg1 := HOd.out.drew.p2.thaw 1
            have hg2 := HOd.out.drew.p2.thaw 2
            go_upto_region 8 with fail
            refine region_text (fun w' => w'.cell? ⟨q, 0, none⟩ = some (.map (some m)) ∧ w'.cell? ⟨g9, 0, none⟩ = some (.int .i64 s.node) ∧ w'.cell? ⟨g9, 1, none⟩ = some (.int .i64 s.off) ∧ w'.cell? ⟨g9, 2, none⟩ = some (.int .i64 s.flags) ∧ (Instr.lookup tNo (.map (some m)) (.int .i64 s.node) false).run Tryz.prog w' = .ok (.pointer (some ⟨b, 0, none⟩)) w') (by kernel_rfl) (by kernel_rfl) ⟨hq2, he0, he1, he2, hl2⟩ ?_
            repeat (first
              | (refine wpL_read (by rfl) (by rfl) ?_ ?_ ?_; rotate_left; (rintro w ⟨z0, z1, z2, z3, z4⟩; go_simp; with_reducible rfl); simp only [Act.put, List.setIfInBounds_toArray, List.set_cons_zero, List.set_cons_succ]) | (refine wpL_skip (by rfl) ?_; simp only [Act.put, List.setIfInBounds_toArray, List.set_cons_zero, List.set_cons_succ]))
            refine wpL_act (by rfl) (by rfl) (fun K hK => ?_)
            unfold Oper.wp
            go_simp
            have HO5 := hid (show Has (((w4.setCell ⟨g6, 0, none⟩ (.int .i64 s.node)).setCell ⟨g6, 1, none⟩ (.int .i64 s.off)).setCell ⟨g6, 2, none⟩ (.int .i64 s.flags)).drew (pt g6 (.cells (filC s) 98) :: Trb q m f P S.last S.tab :: pt g9 (.cells (filC s) 98) :: L) from ((HOd.out.re 3 [2, 0, 1]).fil s).drew)
            have HK5 := hid ((((HKd.out.set ⟨g6, 0, none⟩ (.int .i64 s.node)).set ⟨g6, 1, none⟩ (.int .i64 s.off)).set ⟨g6, 2, none⟩ (.int .i64 s.flags)).drew)
            refine hK.out _ _ ⟨(Trb.cells HO5.out.drop).1, HO5.out.p2.cells 0, HO5.out.p2.cells 1, HO5.out.p2.cells 2, Trg.look (n := s.node) (b := b) (x := x) (Trg.of HO5.out.drop) hb⟩ ?_
            clear hK K
            try simp only [Act.put, List.setIfInBounds_toArray, List.set_cons_zero, List.set_cons_succ]
            clear hl2 hq2 he0 he1 he2 hf0 hf1 hf2 hg0 hg1 hg2 HOd HKd hc80 hc81 hc82 ht80 ht81 ht82 hc91 hc92 hcb0 hcq hd90 hl
            generalize (((w4.setCell ⟨g6, 0, none⟩ (.int .i64 s.node)).setCell ⟨g6, 1, none⟩ (.int .i64 s.off)).setCell ⟨g6, 2, none⟩ (.int .i64 s.flags)).drew = w5 at *
            repeat (first
              | (refine wpL_read (by rfl) (by rfl) ?_ ?_ ?_; rotate_left; (rintro w ⟨z0, z1, z2, z3, z4⟩; go_simp; with_reducible rfl); simp only [Act.put, List.setIfInBounds_toArray, List.set_cons_zero, List.set_cons_succ]) | (refine wpL_skip (by rfl) ?_; simp only [Act.put, List.setIfInBounds_toArray, List.set_cons_zero, List.set_cons_succ]))
            refine wpL_nil ?_
            go_wp2_with fail
            refine bodyPost_ret (fil_result s rfl rfl rfl rfl (HO5.out.re 3 [0, 1])) rfl ?_
            rw [HRR.out]
            exact ⟨_, rfl, fun _ => ⟨b, x, hb, hx, hk, rfl⟩, HO5.out.re 3 [1], HK5.out⟩
        · subst hwr1
          go_upto_region 6 with fail
          refine region_text (fun w' => w'.cell? ⟨q, 0, none⟩ = some (.map (some m)) ∧ w'.cell? ⟨g9, 0, none⟩ = some (.int .i64 s.node) ∧ w'.cell? ⟨b, 0, none⟩ = some (.int .i64 x.kind) ∧ (Instr.lookup tNo (.map (some m)) (.int .i64 s.node) false).run Tryz.prog w' = .ok (.pointer (some ⟨b, 0, none⟩)) w') (by kernel_rfl) (by kernel_rfl) ⟨hcq, hd90, hcb0, hl⟩ ?_
          repeat (first
            | (refine wpL_read (by rfl) (by rfl) ?_ ?_ ?_; rotate_left; (rintro w ⟨z0, z1, z2, z3⟩; go_simp; with_reducible rfl); simp only [Act.put, List.setIfInBounds_toArray, List.set_cons_zero, List.set_cons_succ]) | (refine wpL_skip (by rfl) ?_; simp only [Act.put, List.setIfInBounds_toArray, List.set_cons_zero, List.set_cons_succ]))
          refine wpL_nil ?_
          clear hc80 hc81 hc82 ht80 ht81 ht82 hc90 hc91 hc92 HO3 HK3
          generalize w3.drew = w4 at *
          have hc80 : w4.cell? ⟨g6, 0, none⟩ = some (.int .i64 0) := HOd.out.p2.cells 0
          have hc81 : w4.cell? ⟨g6, 1, none⟩ = some (.int .i64 0) := HOd.out.p2.cells 1
          have hc82 : w4.cell? ⟨g6, 2, none⟩ = some (.int .i64 0) := HOd.out.p2.cells 2
          have ht80 := HOd.out.p2.thaw 0
          have ht81 := HOd.out.p2.thaw 1
          have ht82 := HOd.out.p2.thaw 2
          have hc91 : w4.cell? ⟨g9, 1, none⟩ = some (.int .i64 s.off) := HOd.out.p1.cells 1
          have hc92 : w4.cell? ⟨g9, 2, none⟩ = some (.int .i64 s.flags) := HOd.out.p1.cells 2
          by_cases hk : x.kind = 2
          · have HRR := hid (show R = (Tb.none4, 8) from by rw [← HR2.out, if_pos hk])
            go_wp2_with fail
            have h1 := (show Has w4 (pt g6 (.cells (filC Tb.none4) 98) :: Trb q m f P S.last S.tab :: L) from HOd.out.re 3 [2, 0]).fil Tb.none4
            refine bodyPost_ret (fil_result Tb.none4 rfl rfl rfl rfl h1) rfl ?_
            rw [HRR.out]
            exact ⟨_, rfl, fun h => absurd h (by decide), h1.drop, ((HKd.out.set _ _).set _ _).set _ _⟩
          · have HRR := hid (show R = (s, 0) from by rw [← HR2.out, if_neg hk])
            have hl2 := Trg.look (n := s.node) (b := b) (x := x) (Trg.of HOd.out.drew) hb
            have hq2 := (Trb.cells HOd.out.drew).1
            have he0 : w4.drew.cell? ⟨g9, 0, none⟩ = some (.int .i64 s.node) := hd90
            have he1 : w4.drew.cell? ⟨g9, 1, none⟩ = some (.int .i64 s.off) := hc91
            have he2 : w4.drew.cell? ⟨g9, 2, none⟩ = some (.int .i64 s.flags) := hc92
            have hf0 : w4.drew.cell? ⟨g6, 0, none⟩ = some (.int .i64 0) := hc80
            have hf1 : w4.drew.cell? ⟨g6, 1, none⟩ = some (.int .i64 0) := hc81
            have hf2 : w4.drew.cell? ⟨g6, 2, none⟩ = some (.int .i64 0) := hc82
            have hg0 := HOd.out.drew.p2.thaw 0
            have hg1 := HOd.out.drew.p2.thaw 1
            have hg2 := HOd.out.drew.p2.thaw 2
            go_upto_region 8 with fail
            refine region_text (fun w' => w'.cell? ⟨q, 0, none⟩ = some (.map (some m)) ∧ w'.cell? ⟨g9, 0, none⟩ = some (.int .i64 s.node) ∧ w'.cell? ⟨g9, 1, none⟩ = some (.int .i64 s.off) ∧ w'.cell? ⟨g9, 2, none⟩ = some (.int .i64 s.flags) ∧ (Instr.lookup tNo (.map (some m)) (.int .i64 s.node) false).run Tryz.prog w' = .ok (.pointer (some ⟨b, 0, none⟩)) w') (by kernel_rfl) (by kernel_rfl) ⟨hq2, he0, he1, he2, hl2⟩ ?_
            repeat (first
              | (refine wpL_read (by rfl) (by rfl) ?_ ?_ ?_; rotate_left; (rintro w ⟨z0, z1, z2, z3, z4⟩; go_simp; with_reducible rfl); simp only [Act.put, List.setIfInBounds_toArray, List.set_cons_zero, List.set_cons_succ]) | (refine wpL_skip (by rfl) ?_; simp only [Act.put, List.setIfInBounds_toArray, List.set_cons_zero, List.set_cons_succ]))
            refine wpL_act (by rfl) (by rfl) (fun K hK => ?_)
            unfold Oper.wp
            go_simp
            have HO5 := hid (show Has (((w4.setCell ⟨g6, 0, none⟩ (.int .i64 s.node)).setCell ⟨g6, 1, none⟩ (.int .i64 s.off)).setCell ⟨g6, 2, none⟩ (.int .i64 s.flags)).drew (pt g6 (.cells (filC s) 98) :: Trb q m f P S.last S.tab :: pt g9 (.cells (filC s) 98) :: L) from ((HOd.out.re 3 [2, 0, 1]).fil s).drew)
            have HK5 := hid ((((HKd.out.set ⟨g6, 0, none⟩ (.int .i64 s.node)).set ⟨g6, 1, none⟩ (.int .i64 s.off)).set ⟨g6, 2, none⟩ (.int .i64 s.flags)).drew)
            refine hK.out _ _ ⟨(Trb.cells HO5.out.drop).1, HO5.out.p2.cells 0, HO5.out.p2.cells 1, HO5.out.p2.cells 2, Trg.look (n := s.node) (b := b) (x := x) (Trg.of HO5.out.drop) hb⟩ ?_
            clear hK K
            try simp only [Act.put, List.setIfInBounds_toArray, List.set_cons_zero, List.set_cons_succ]
            clear hl2 hq2 he0 he1 he2 hf0 hf1 hf2 hg0 hg1 hg2 HOd HKd hc80 hc81 hc82 ht80 ht81 ht82 hc91 hc92 hcb0 hcq hd90 hl
            generalize (((w4.setCell ⟨g6, 0, none⟩ (.int .i64 s.node)).setCell ⟨g6, 1, none⟩ (.int .i64 s.off)).setCell ⟨g6, 2, none⟩ (.int .i64 s.flags)).drew = w5 at *
            repeat (first
              | (refine wpL_read (by rfl) (by rfl) ?_ ?_ ?_; rotate_left; (rintro w ⟨z0, z1, z2, z3, z4⟩; go_simp; with_reducible rfl); simp only [Act.put, List.setIfInBounds_toArray, List.set_cons_zero, List.set_cons_succ]) | (refine wpL_skip (by rfl) ?_; simp only [Act.put, List.setIfInBounds_toArray, List.set_cons_zero, List.set_cons_succ]))
            refine wpL_nil ?_
            go_wp2_with fail
            refine bodyPost_ret (fil_result s rfl rfl rfl rfl (HO5.out.re 3 [0, 1])) rfl ?_
            rw [HRR.out]
            exact ⟨_, rfl, fun _ => ⟨b, x, hb, hx, hk, rfl⟩, HO5.out.re 3 [1], HK5.out⟩
    · have HRR := hid (show R = (Tb.none4, 10) from by rw [← HR.out, if_pos he])
      go_wp2_with fail
      have h1 := (show Has w3 (pt g6 (.cells (filC Tb.none4) 98) :: Trb q m f P S.last S.tab :: L) from HO3.out.re 3 [2, 0]).fil Tb.none4
      refine bodyPost_ret (fil_result Tb.none4 rfl rfl rfl rfl h1) rfl ?_
      rw [HRR.out]
      exact ⟨_, rfl, fun h => absurd h (by decide), h1.drop, ((HK3.out.set _ _).set _ _).set _ _⟩
end Go.Proofs.YtonhcefgakmpfaaGreatDoor
/- THE WALK of tree.forget. -/
namespace Go.Proofs.YtonhcefgakmpfaaGreatDoor
open Go.RowKit Go.Own
section
variable {κ α : Type} [DecidableEq κ]
theorem delA_none {t : List (κ × α)} {x : κ} (h : x ∉ t.map Prod.fst) : delA t x = t := by
  unfold delA
  rw [List.filter_eq_self]
  intro p hp
  have : p.1 ≠ x := fun e => h (e ▸ List.mem_map_of_mem (f := Prod.fst) hp)
  simpa using this
theorem delA_mid {A B : List (κ × α)} {x : κ} {a : α} (h : ((A ++ (x, a) :: B).map Prod.fst).Nodup) : delA (A ++ (x, a) :: B) x = A ++ B := by
  rw [List.map_append, List.map_cons, List.nodup_append] at h
  have hA : x ∉ A.map Prod.fst := fun hx => h.2.2 x hx x List.mem_cons_self rfl
  have hB : x ∉ B.map Prod.fst := (List.nodup_cons.1 h.2.1).1
  have h1 := delA_none hA
  have h2 := delA_none hB
  unfold delA at *
  rw [List.filter_append, h1, List.filter_cons, if_neg (by simp), h2]
end
set_option maxRecDepth 100000 in
set_option maxHeartbeats 8000000 in
theorem tForgetB (q m f : Nat) (P : List Pn) (S : Tre) (n : Int) (x : Nod) (w : World) (L : List HP) (hn : fnd S.nodes n = some x) (hPT : pnN P = S.nodes ∧ S.tab.length = 16) (hO : Has w (Trb q m f P S.last S.tab :: L)) :
    Calls Tryz.prog 121 #[.pointer (some ⟨q, 0, none⟩), .int .i64 n] w fun e w' => e = .returned (.tuple #[]) ∧ ∃ P', ((pnN P' = (S.forget n).nodes ∧ (S.forget n).tab.length = 16) ∧ ∀ e ∈ P', ∃ y, (e.1, e.2.1, y) ∈ P) ∧ Has w' (Trb q m f P' (S.forget n).last (S.forget n).tab :: L) ∧ Keep w w' := by
  have HR := hid (show S.forget n = if x.links = 0 ∧ n ≠ 1 ∧ Tb.holds S.tab n = false then { S with nodes := delA S.nodes n } else S from by unfold Tre.forget; rw [hn])
  generalize S.forget n = R at *
  obtain ⟨hP, hT⟩ := hPT
  have h := hO
  have hn' := hn
  rw [← hP] at hn'
  obtain ⟨A, b, B, rfl⟩ := pn_split hn'
  have hnd := Trb.nodup h
  have hmem : (n, b, x) ∈ A ++ (n, b, x) :: B := by simp
  have hokn : kInt.ok n := Mk.ok (trb_iff.1 h).p1 (by rw [pnB_keys]; exact List.mem_map_of_mem (f := Prod.fst) hmem)
  have hq0 := (Trb.cells h).1
  have hq2 := (Trb.cells h).2.2
  have hln := Trg.look (n := n) (b := b) (x := x) (Trg.of h) hmem
  have h1 := Trg.pull (Trg.of h)
  obtain ⟨dv, wv, nm, hnm, h2⟩ := ndc_iff.1 h1
  have hy5 : w.cell? ⟨b, 5, none⟩ = some (.int .i64 x.links) := h2.cells 5
  have HO := hid h
  have HN := hid hnd
  have HPT := hid (And.intro hP hT)
  have HOK := hid hokn
  have HS := hid hO
  clear hn hn' h h1 h2 hnd hP hT hokn hO hmem
  by_cases hl : x.links = 0
  · have hl1 : (x.links == 0) = true := by simp [hl]
    by_cases h1 : n = 1
    · subst h1
      have h11 : ((1 : Int) != 1) = false := by simp
      go_enter Tryz.func121, Tryz.ntmps121
      go_wp2_with fail
      go_end0
      rw [HR.out, if_neg (by rintro ⟨-, h, -⟩; exact h rfl)]
      exact ⟨rfl, _, ⟨HPT.out, fun e he => ⟨e.2.2, he⟩⟩, HS.out, Keep.refl w⟩
    · have h11 : (n != 1) = true := by simp [h1]
      go_enter Tryz.func121, Tryz.ntmps121
      go_wp2_with fail
      refine (tabHolds f S.tab n w _ HPT.out.2 (Trb.tab.1 HO.out)).mono ?_
      rintro e w1 ⟨rfl, hO1, hK1⟩
      have HO1 := hid hO1
      have HK1 := hid ((Keep.refl w).trans hK1)
      clear hO1 hK1
      try dsimp only
      clear hln hy5 hq0 hq2
      have HO2 := hid (Trb.tab.2 HO1.out)
      clear HO1 HO HS
      have hq0 := (Trb.cells HO2.out).1
      cases hh : Tb.holds S.tab n
      · have HH := hid hh
        clear hh
        have HM := hid (show Has w1 (Mk kInt vPtr m (pnB (A ++ (n, b, x) :: B)) :: pt q (.cells (treC m f S.last) 88) :: Tab f S.tab :: (pnC (A ++ (n, b, x) :: B) ++ L)) from (trb_iff.1 HO2.out).perm (.swap _ _ _))
        go_wp2_with (at_delete; refine wpList_mkDel HM.out tNo undNo rfl _ _ rfl rfl n HOK.out rfl ?_; intro w3 hO3 hK3; simp only [Act.put])
        go_end0
        rw [HR.out, if_pos ⟨hl, h1, HH.out⟩]
        refine ⟨rfl, A ++ B, ?_, ?_, HK1.out.trans hK3⟩
        rotate_left
        have e : pnB (A ++ (n, b, x) :: B) = pnB A ++ (n, some b) :: pnB B := by simp [pnB]
        have e2 : delA (pnB (A ++ (n, b, x) :: B)) n = pnB (A ++ B) := by
          have h4 := HN.out
          rw [← pnB_keys, e] at h4
          rw [e, delA_mid h4]
          simp [pnB]
        rw [e2] at hO3
        refine trb_iff.2 ?_
        have h5 : Has w3 (pt q (.cells (treC m f S.last) 88) :: Mk kInt vPtr m (pnB (A ++ B)) :: Tab f S.tab :: (pnC (A ++ (n, b, x) :: B) ++ L)) := hO3.perm (.swap _ _ _)
        have e6 : pnC (A ++ (n, b, x) :: B) = pnC A ++ Ndc b x :: pnC B := by simp [pnC]
        have e7 : pnC (A ++ B) = pnC A ++ pnC B := by simp [pnC]
        rw [e6] at h5
        rw [e7]
        have h6 : Has w3 (Ndc b x :: (pt q (.cells (treC m f S.last) 88) :: Mk kInt vPtr m (pnB (A ++ B)) :: Tab f S.tab :: (pnC A ++ pnC B ++ L))) := by
          refine h5.perm ?_
          rw [List.append_assoc, List.append_assoc, List.cons_append]
          refine List.Perm.trans (.cons _ (.cons _ (.cons _ List.perm_middle))) ?_
          exact (List.perm_middle (l₁ := [_, _, _]))
        exact h6.drop
        have e3 : delA S.nodes n = pnN (A ++ B) := by
          have h4 := HN.out
          rw [← HPT.out.1]
          have e5 : pnN (A ++ (n, b, x) :: B) = pnN A ++ (n, x) :: pnN B := by simp [pnN]
          rw [← pnN_keys, e5] at h4
          rw [e5, delA_mid h4]
          simp [pnN]
        refine ⟨⟨e3.symm, HPT.out.2⟩, fun e he => ⟨e.2.2, ?_⟩⟩
        rcases List.mem_append.1 he with h | h
        · exact List.mem_append_left _ h
        · exact List.mem_append_right _ (List.mem_cons_of_mem _ h)
      · have HH := hid hh
        clear hh
        go_wp2_with fail
        go_end0
        rw [HR.out, if_neg (by rintro ⟨-, -, h⟩; rw [HH.out] at h; cases h)]
        exact ⟨rfl, _, ⟨HPT.out, fun e he => ⟨e.2.2, he⟩⟩, HO2.out, HK1.out⟩
  · have hl1 : (x.links == 0) = false := by simp [hl]
    go_enter Tryz.func121, Tryz.ntmps121
    go_wp2_with fail
    go_end0
    rw [HR.out, if_neg (by rintro ⟨h, -⟩; exact hl h)]
    exact ⟨rfl, _, ⟨HPT.out, fun e he => ⟨e.2.2, he⟩⟩, HS.out, Keep.refl w⟩
theorem tForget (q : Nat) (S : Tre) (n : Int) (x : Nod) (w : World) (L : List HP) (hn : fnd S.nodes n = some x) (hO : Has w (Trc q S :: L)) :
    Calls Tryz.prog 121 #[.pointer (some ⟨q, 0, none⟩), .int .i64 n] w fun e w' => e = .returned (.tuple #[]) ∧ Has w' (Trc q (S.forget n) :: L) ∧ Keep w w' := by
  obtain ⟨m, f, P, hPT, h⟩ := trc_iff.1 hO
  refine (tForgetB q m f P S n x w L hn hPT h).mono ?_
  rintro e w' ⟨rfl, P', h1, h2, h3⟩
  exact ⟨rfl, trc_iff.2 ⟨m, f, P', h1.1, h2⟩, h3⟩
end Go.Proofs.YtonhcefgakmpfaaGreatDoor
/- Answers and operations as values; tree.code. -/
namespace Go.Proofs.YtonhcefgakmpfaaGreatDoor
open Go.RowKit Go.Own
structure Opm where
  kind : Int
  fd : Int
  n : Int
  off : Int
  flags : Int
  path : Str
  dest : Str
abbrev nilV : Value := .slice none 0 0
def opC (o : Opm) (dv : Value) : Array Value := #[.int .i64 o.kind, .int .i64 o.fd, .int .i64 o.n, .int .i64 o.off, .int .i64 o.flags, sV o.path, sV o.dest, dv]
def opV (o : Opm) (dv : Value) : Value := .agg (opC o dv)
def ansC (a : Ans) (dv nv : Value) : Array Value := #[.int .i64 a.code, .int .i64 a.n, .int .i64 a.kind, .int .i64 a.links, dv, nv]
def ansV (a : Ans) (dv nv : Value) : Value := .agg (ansC a dv nv)
section
variable {w w0 : World} {L : List HP} {b : Nat}
theorem _root_.Go.Own.Has.ans {a0 : Ans} {d0 n0 : Value} (h : Has w (pt b (.cells (ansC a0 d0 n0) 32) :: L)) (a : Ans) (dv nv : Value) : Has ((((((w.setCell ⟨b, 0, none⟩ (.int .i64 a.code)).setCell ⟨b, 1, none⟩ (.int .i64 a.n)).setCell ⟨b, 2, none⟩ (.int .i64 a.kind)).setCell ⟨b, 3, none⟩ (.int .i64 a.links)).setCell ⟨b, 4, none⟩ dv).setCell ⟨b, 5, none⟩ nv) (pt b (.cells (ansC a dv nv) 32) :: L) :=
  (((((h.set 0 (.int .i64 a.code)).set 1 (.int .i64 a.n)).set 2 (.int .i64 a.kind)).set 3 (.int .i64 a.links)).set 4 dv).set 5 nv
theorem _root_.Go.Own.Keep.ans (h : Keep w0 w) (b : Nat) (c n k l dv nv : Value) : Keep w0 ((((((w.setCell ⟨b, 0, none⟩ c).setCell ⟨b, 1, none⟩ n).setCell ⟨b, 2, none⟩ k).setCell ⟨b, 3, none⟩ l).setCell ⟨b, 4, none⟩ dv).setCell ⟨b, 5, none⟩ nv) :=
  (((((h.set _ _).set _ _).set _ _).set _ _).set _ _).set _ _
theorem ans_result {fn : Func} {p : Tmp} {tmps : Array Value} {a : Ans} {dv nv : Value} (h : fn.results = #[.cell p 32]) (ht : tmps.getD p undef = .pointer (some ⟨b, 0, none⟩)) (hO : Has w (pt b (.cells (ansC a dv nv) 32) :: L)) :
    (results fn tmps).run Tryz.prog w = .ok (ansV a dv nv) w := by
  have h0 : w.cell? ⟨b, 0, none⟩ = some (.int .i64 a.code) := hO.cells 0
  have h1 : w.cell? ⟨b, 1, none⟩ = some (.int .i64 a.n) := hO.cells 1
  have h2 : w.cell? ⟨b, 2, none⟩ = some (.int .i64 a.kind) := hO.cells 2
  have h3 : w.cell? ⟨b, 3, none⟩ = some (.int .i64 a.links) := hO.cells 3
  have h4 : w.cell? ⟨b, 4, none⟩ = some dv := hO.cells 4
  have h5 : w.cell? ⟨b, 5, none⟩ = some nv := hO.cells 5
  unfold results ansV ansC
  rw [h]
  have ht2 : tmps[p]?.getD undef = .pointer (some ⟨b, 0, none⟩) := by rw [← ht]; simp
  clear hO h ht
  go_simp
end
set_option maxRecDepth 100000 in
theorem tCode (e : Int) (w : World) (L : List HP) (hO : Has w L) : Calls Tryz.prog 51 #[.int .i64 e] w fun r w' => r = .returned (ansV (ansE e) nilV nilV) ∧ Has w' L ∧ Keep w w' := by
  have HO := hid hO
  clear hO
  go_enter Tryz.func51, Tryz.ntmps51
  go_wp2_with fail
  have h1 := (HO.out.alloc (.cells (ansC (ansE e) nilV nilV) 32))
  refine bodyPost_ret (ans_result rfl rfl h1) rfl ?_
  exact ⟨rfl, h1.drop, (Keep.refl w).alloc _⟩
end Go.Proofs.YtonhcefgakmpfaaGreatDoor
/- THE WALKS of slices.Clone. -/
namespace Go.Proofs.YtonhcefgakmpfaaGreatDoor
open Go.RowKit Go.Own
theorem cloneBytes (v : Value) (xs : List Int) (w : World) (L : List HP) (hO : Has w L) (hr : Rd w v 1 xs.length (bc xs)) (hsm : xs.length ≤ 1000000000) :
    Calls Tryz.prog 67 #[v] w fun e w' => ∃ v', e = .returned v' ∧ Has w' (Bytes v' xs :: L) ∧ Keep w w' ∧ nilS v' = nilS v := by
  obtain ⟨p, cap, rfl, hca, hla, hra⟩ := hr.form
  have Hra := hid hra
  have Hr := hid hr
  have HO := hid hO
  clear hO hra hr
  rcases p with _ | ad
  · have hz : xs = [] := by
      rcases Nat.eq_zero_or_pos xs.length with h | h
      · exact List.eq_nil_of_length_eq_zero h
      · obtain ⟨g, o, h1, -⟩ := Hra.out (by omega)
        cases h1
    subst hz
    have hnil := Lib.run_eql_slice_nil w 29 5 none 0 cap 0 0 Tryz.underlying29
    simp only [Option.isNone] at hnil
    go_enter Tryz.func67, Tryz.ntmps67
    go_wp2
    go_ret
    exact ⟨_, rfl, HO.out.row_nil _ _, Keep.refl _, rfl⟩
  · have hnil := Lib.run_eql_slice_nil w 29 5 (some ad) xs.length cap 0 0 Tryz.underlying29
    simp only [Option.isNone] at hnil
    go_enter Tryz.func67, Tryz.ntmps67
    go_wp2_with (at_builtin; refine wpList_append_rd rfl _ _ _ rfl Tryz.underlying29 infoU8 rfl ((HO.out.alloc (.cells #[] 5)).row_of (n := 0) (cap := 0) (Nat.le_refl _) (Nat.zero_le _) rfl rfl rfl) rfl ad xs.length cap (bc xs) rfl (Hr.out.alloc _) (bc_one xs) (le_maxLen (by omega)) (by omega) ?_)
    intro v' w' hO' hK' hN
    have HO' := hid hO'
    have HK' := hid hK'
    have HN := hid hN
    clear hO' hK' hN
    go_wp2_with fail
    go_ret
    refine ⟨_, rfl, ?_, ((Keep.refl _).alloc _).trans HK'.out, ?_⟩
    · have := HO'.out
      simpa [Bytes] using this
    · exact HO'.out.row_nilS HN.out
end Go.Proofs.YtonhcefgakmpfaaGreatDoor
