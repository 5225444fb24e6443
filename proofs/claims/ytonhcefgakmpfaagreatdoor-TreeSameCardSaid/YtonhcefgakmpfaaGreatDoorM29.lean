/- TEXTS of mine, merged. -/
import Derived.Test.YtonhcefgakmpfaaGreatDoorM27
import Derived.Test.YtonhcefgakmpfaaGreatDoorM28
import Derived.Test.YtonhcefgakmpfaaGreatDoorM26
import Derived.Test.YtonhcefgakmpfaaGreatDoorM10
import Derived.Test.YtonhcefgakmpfaaGreatDoorM7
import Derived.Test.YtonhcefgakmpfaaGreatDoorM8
import Derived.Shelf.SlMaps.Clone
/- Great, GreatOps; operations of a list, one by one. -/
namespace Go.Proofs.YtonhcefgakmpfaaGreatDoor
open Go.RowKit Go.Own
/-- More than is gone through. -/
def greatM (y : Oq) : Bool := decide (300 < y.op.path.length) || decide (300 < y.op.dest.length) || decide (3000 < y.data.length)
def greatOpsM (R : List Oq) (most : Nat) : Bool := decide (most < R.length) || R.any greatM
theorem greatM_no {y : Oq} (h : greatM y = false) : y.op.path.length ≤ 300 ∧ y.op.dest.length ≤ 300 ∧ y.data.length ≤ 3000 := by
  unfold greatM at h
  simp only [Bool.or_eq_false_iff, decide_eq_false_iff_not] at h
  omega
theorem greatOpsM_no {R : List Oq} {most : Nat} (h : greatOpsM R most = false) : R.length ≤ most ∧ ∀ y ∈ R, greatM y = false := by
  unfold greatOpsM at h
  simp only [Bool.or_eq_false_iff, decide_eq_false_iff_not, List.any_eq_false] at h
  exact ⟨by omega, fun y hy => by simpa using h.2 y hy⟩
set_option maxRecDepth 100000 in
set_option maxHeartbeats 4000000 in
theorem great (o : Opm) (p : Option Addr) (n c : Nat) (w : World) (L : List HP) (hO : Has w L) :
    Calls Tryz.prog 43 #[opV o (.slice p n c)] w fun e w' => e = .returned (.bool (decide (300 < o.path.length) || decide (300 < o.dest.length) || decide (3000 < n))) ∧ Has w' L ∧ Keep w w' := by
  have h1 := (hO.alloc (.cells (opC o (.slice p n c)) 35)).drop
  have HO := hid h1
  have HK := hid ((Keep.refl w).alloc (.cells (opC o (.slice p n c)) 35))
  clear hO h1
  obtain ⟨kind, fd, nn, off, flags, path, dest⟩ := o
  unfold opC at HO HK
  dsimp only at HO HK ⊢
  unfold opV opC
  dsimp only
  have e1 : (sB path).size = path.length := sB_size path
  have e2 : (sB dest).size = dest.length := sB_size dest
  by_cases hp : 300 < path.length
  · have hpi : (300 : Int) < (path.length : Int) := by omega
    have HR := hid (show (decide (300 < path.length) || decide (300 < dest.length) || decide (3000 < n)) = true from by simp [hp])
    clear hp
    go_enter Tryz.func43, Tryz.ntmps43
    go_wp2_with fail
    go_ret
    rw [HR.out]
    exact ⟨rfl, HO.out, HK.out⟩
  · have hpi : ¬ (300 : Int) < (path.length : Int) := by omega
    by_cases hq : 300 < dest.length
    · have hqi : (300 : Int) < (dest.length : Int) := by omega
      have HR := hid (show (decide (300 < path.length) || decide (300 < dest.length) || decide (3000 < n)) = true from by simp [hq])
      clear hp hq
      go_enter Tryz.func43, Tryz.ntmps43
      go_wp2_with fail
      go_ret
      rw [HR.out]
      exact ⟨rfl, HO.out, HK.out⟩
    · have hqi : ¬ (300 : Int) < (dest.length : Int) := by omega
      by_cases hn : 3000 < n
      · have hni : (3000 : Int) < (n : Int) := by omega
        have HR := hid (show (decide (300 < path.length) || decide (300 < dest.length) || decide (3000 < n)) = true from by simp [hn])
        clear hp hq hn
        go_enter Tryz.func43, Tryz.ntmps43
        go_wp2_with fail
        go_ret
        rw [HR.out]
        exact ⟨rfl, HO.out, HK.out⟩
      · have hni : ¬ (3000 : Int) < (n : Int) := by omega
        have HR := hid (show (decide (300 < path.length) || decide (300 < dest.length) || decide (3000 < n)) = false from by simp [hp, hq, hn])
        clear hp hq hn
        go_enter Tryz.func43, Tryz.ntmps43
        go_wp2_with fail
        go_ret
        rw [HR.out]
        exact ⟨rfl, HO.out, HK.out⟩
/-- The cells of one operation of a list. -/
theorem RdOps.eight {w : World} {v : Value} {R : List Oq} (h : RdOps w v R) (k : Nat) (hk : k < R.length) : ∃ g o c p m, v = .slice (some ⟨g, o, none⟩) R.length c ∧ R[k].dv = .slice p R[k].data.length m ∧
    w.cell? ⟨g, o + k * 8, none⟩ = some (.int .i64 R[k].op.kind) ∧ w.cell? ⟨g, o + k * 8 + 1, none⟩ = some (.int .i64 R[k].op.fd) ∧ w.cell? ⟨g, o + k * 8 + 2, none⟩ = some (.int .i64 R[k].op.n) ∧ w.cell? ⟨g, o + k * 8 + 3, none⟩ = some (.int .i64 R[k].op.off) ∧ w.cell? ⟨g, o + k * 8 + 4, none⟩ = some (.int .i64 R[k].op.flags) ∧ w.cell? ⟨g, o + k * 8 + 5, none⟩ = some (sV R[k].op.path) ∧ w.cell? ⟨g, o + k * 8 + 6, none⟩ = some (sV R[k].op.dest) ∧ w.cell? ⟨g, o + k * 8 + 7, none⟩ = some (.slice p R[k].data.length m) := by
  obtain ⟨g, o, c, rfl, hc⟩ := h.at_ k hk
  obtain ⟨p, m, hm, -⟩ := (h.2 R[k] (List.getElem_mem hk)).1.form
  refine ⟨g, o, c, p, m, rfl, hm, hc 0 (by omega), ?_, ?_, ?_, ?_, ?_, ?_, ?_⟩
  · rw [Nat.add_assoc]; exact hc 1 (by omega)
  · rw [Nat.add_assoc]; exact hc 2 (by omega)
  · rw [Nat.add_assoc]; exact hc 3 (by omega)
  · rw [Nat.add_assoc]; exact hc 4 (by omega)
  · rw [Nat.add_assoc]; exact hc 5 (by omega)
  · rw [Nat.add_assoc]; exact hc 6 (by omega)
  · rw [Nat.add_assoc, ← hm]; exact hc 7 (by omega)
set_option maxRecDepth 100000 in
set_option maxHeartbeats 8000000 in
theorem greatOps (v : Value) (R : List Oq) (most : Nat) (hm : most ≤ 1000) (W w : World) (L : List HP) (hr : RdOps W v R) (hO : Has w (old W :: L)) :
    Calls Tryz.prog 13 #[v, .int .i64 (most : Int)] w fun e w' => e = .returned (.bool (greatOpsM R most)) ∧ Has w' (old W :: L) ∧ Keep w w' := by
  obtain ⟨vp, vc, rfl, hvc, hvl⟩ := hr.form
  have HR := hid (show ∀ w', Has w' (old W :: L) → RdOps w' (.slice vp R.length vc) R from fun w' h => hr.start h)
  have HO := hid hO
  clear hr hO
  by_cases hl : R.length ≤ most
  · have hli : (R.length : Int) ≤ (most : Int) := by omega
    have hlj : ¬ (most : Int) < (R.length : Int) := by omega
    have hln : ¬ most < R.length := by omega
    have HL := hid hl
    clear hl
    go_enter Tryz.func13, Tryz.ntmps13
    go_wp2_with fail
    go_loopw [5] (fun i w' => ∃ (k : Nat) (w0 : World), w0 = w' ∧ k ≤ R.length ∧ i = .int .i64 k ∧ Hid ((R.take k).any greatM = false) ∧ Hid (Has w0 (old W :: L)) ∧ Hid (Keep w w0)) (fun i _ => R.length - (intOf i).toNat)
    case atStart => exact ⟨0, w, rfl, by omega, rfl, hid rfl, HO, hid (Keep.refl w)⟩
    case round =>
      clear HO
      obtain ⟨k, w0, rfl, hk, rfl, HN, HO, HK⟩ := hrel
      by_cases hlt : k < R.length
      · have hki : (k : Int) < (R.length : Int) := by omega
        have hk0 : (0 : Int) ≤ (k : Int) := by omega
        obtain ⟨g, o, c, p, m, hv, hdv, c0, c1, c2, c3, c4, c5, c6, c7⟩ := (HR.out _ HO.out).eight k hlt
        simp only [Value.slice.injEq] at hv
        obtain ⟨rfl, -, rfl⟩ := hv
        have hg : (decide (300 < R[k].op.path.length) || decide (300 < R[k].op.dest.length) || decide (3000 < R[k].data.length)) = greatM R[k] := rfl
        have hts : (R.take (k + 1)).any greatM = ((R.take k).any greatM || greatM R[k]) := by
          rw [List.take_succ_eq_append_getElem hlt, List.any_append]
          simp
        have hin : R[k] ∈ R := List.getElem_mem hlt
        have HIN := hid hin
        have HTS := hid hts
        have HG := hid hg
        clear hts hdv hin hg
        generalize R[k] = y at *
        obtain ⟨⟨kind, fd, nn, off, flags, path, dest⟩, dv, data⟩ := y
        dsimp only at c0 c1 c2 c3 c4 c5 c6 c7
        go_wp2_with fail
        refine (great ⟨kind, fd, nn, off, flags, path, dest⟩ p data.length m w0 _ HO.out).mono ?_
        rintro e w4 ⟨rfl, hO4, hK4⟩
        have HO4 := hid hO4
        have HK4 := hid ((HK.out).trans hK4)
        clear hO4 hK4
        try dsimp only
        have HGG := HG.out
        try dsimp only at HGG
        rw [HGG]
        clear HO HK c0 c1 c2 c3 c4 c5 c6 c7 HG HGG
        cases hgr : greatM ⟨⟨kind, fd, nn, off, flags, path, dest⟩, dv, data⟩
        · have HT := hid (show (R.take (k + 1)).any greatM = false from by rw [HTS.out, HN.out, hgr]; rfl)
          go_wp2_with fail
          go_roundw
          case rel => exact ⟨k + 1, _, rfl, by omega, by go_num, HT, HO4, HK4⟩
          case measure => simp [intOf]; omega
        · have HRR := hid (show greatOpsM R most = true from by
            unfold greatOpsM
            have : R.any greatM = true := List.any_eq_true.2 ⟨_, HIN.out, hgr⟩
            rw [this, Bool.or_true])
          go_wp2_with fail
          go_ret
          rw [HRR.out]
          exact ⟨rfl, HO4.out, HK4.out⟩
      · obtain rfl : k = R.length := by omega
        have hki : ¬ (R.length : Int) < (R.length : Int) := by omega
        have HRR := hid (show greatOpsM R most = false from by
          unfold greatOpsM
          have h1 := HN.out
          rw [List.take_length] at h1
          rw [h1, Bool.or_false, decide_eq_false]
          have := HL.out
          omega)
        go_wp2_with fail
        go_ret
        rw [HRR.out]
        exact ⟨rfl, HO.out, HK.out⟩
  · have hli : ¬ (R.length : Int) ≤ (most : Int) := by omega
    have hlj : (most : Int) < (R.length : Int) := by omega
    have hln : most < R.length := by omega
    have h0 : (0 : Int) < (R.length : Int) := by omega
    have HRR := hid (show greatOpsM R most = true from by
      unfold greatOpsM
      rw [decide_eq_true (by omega), Bool.true_or])
    clear hl
    go_enter Tryz.func13, Tryz.ntmps13
    go_wp2_with fail
    go_loopw [5] (fun i w' => w' = w ∧ i = .int .i64 0) (fun i _ => 0)
    case atStart => exact ⟨rfl, rfl⟩
    case round =>
      obtain ⟨rfl, rfl⟩ := hrel
      go_wp2_with fail
      go_ret
      rw [HRR.out]
      exact ⟨rfl, HO.out, Keep.refl _⟩
/-- Operations done one by one. -/
def runM (S : Tre) : List Oq → Tre
  | [] => S
  | y :: R => runM (S.doM y.op y.data).2 R
theorem runM_app (S : Tre) (A B : List Oq) : runM S (A ++ B) = runM (runM S A) B := by
  induction A generalizing S with
  | nil => rfl
  | cons y A ih => exact ih _
theorem runM_take (S : Tre) (R : List Oq) (k : Nat) (hk : k < R.length) : runM S (R.take (k + 1)) = ((runM S (R.take k)).doM R[k].op R[k].data).2 := by
  rw [List.take_succ_eq_append_getElem hk, runM_app]
  rfl
theorem runM_gd {S : Tre} {k : Nat} (h : Gdx S k) : ∀ (R : List Oq), (∀ y ∈ R, greatM y = false) → Gdx (runM S R) (k + R.length)
  | [], _ => h
  | y :: R, hR => by
    have h1 := h.doM y.op y.data (by have := greatM_no (hR y List.mem_cons_self); omega)
    have h2 := runM_gd h1 R fun z hz => hR z (List.mem_cons_of_mem _ hz)
    rw [List.length_cons, show k + (R.length + 1) = k + 1 + R.length by omega]
    exact h2
theorem stepOq {S : Tre} {k : Nat} (q : Nat) (mx : Int) (w : World) (L : List HP) (h : Gdx S k) (hk : k < 100000) (hM : MxL mx L) (o : Opm) (p : Option Addr) (c : Nat) (ds : List Int) (hg : o.path.length ≤ 300 ∧ o.dest.length ≤ 300 ∧ ds.length ≤ 3000) (hwf : OpWf o) (hrd : ∀ w', Has w' L → Rd w' (.slice p ds.length c) 1 ds.length (bc ds)) (hO : Has w (Trc q S :: L)) :
    Calls Tryz.prog 17 #[.pointer (some ⟨q, 0, none⟩), opV o (.slice p ds.length c)] w fun e w' => ∃ a ca b cb, e = .returned (ansY (S.doM o ds).1 a ca b cb) ∧ Gdx (S.doM o ds).2 (k + 1) ∧ Has w' (Bytes (.slice a (S.doM o ds).1.data.length ca) (S.doM o ds).1.data :: Strs (.slice b (S.doM o ds).1.names.length cb) (S.doM o ds).1.names :: Trc q (S.doM o ds).2 :: L) ∧ Keep w w' :=
  stepDo q mx w L h hk hM o rfl rfl hwf.2.1 (by omega) (by omega) p c ds (by omega) hrd (S.doM o ds).1 (S.doM o ds).2 rfl hO
end Go.Proofs.YtonhcefgakmpfaaGreatDoor
/- THE WALK of tree.Copy. -/
namespace Go.Own
open Go.RowKit
theorem wpList_loadC {P : Program} {ops : Array Oper} {rest : List Oper} {o : Oper} {a : Act} {Q : Exit → Act → World → Prop} {w : World} (hgd : o.guard = none) (t : TypeId) (x : Operand) (ho : o.op = .load t x) (v u : Value) (hx : a.eval x = v)
    (hl : (Instr.loadAt t v).run P w = .ok u w) (h : wpList P ops Q rest (a.put o.dst u) w) : wpList P ops Q (o :: rest) a w := by
  refine wpList_plain hgd fun K hK => ?_
  unfold Oper.wp execOp
  simp only [ho, Sem.run_bind, Sem.run_pure, Result.andThen_ok, hx, hl]
  exact hK _ _ h
section
variable {P : Program} {k e : TypeId} {κ α : Type} [DecidableEq κ] {K : Ky P k κ} {V : El P e α} {D : DataW Unit} {t t' : List (κ × α)} {w : World} {L : List HP} {b : Nat}
omit [DecidableEq κ] in
theorem AlK.perm (h : AlK K V D t) (hp : t.Perm t') : AlK K V D t' where
  tidy := h.tidy
  nodup := (hp.map Prod.fst).nodup h.nodup
  size := h.size.trans hp.length_eq
  ok := fun p hm => h.ok p (hp.mem_iff.2 hm)
  yes := fun p hm => h.yes p (hp.mem_iff.2 hm)
  no := fun x hx => h.no x fun hm => hx ((hp.map Prod.fst).mem_iff.1 hm)
omit [DecidableEq κ] in
theorem Mk.perm (h : Has w (Mk K V b t :: L)) (hp : t.Perm t') : Has w (Mk K V b t' :: L) := by
  obtain ⟨D, h1, h2⟩ := Mk.iff.1 h
  exact Mk.iff.2 ⟨D, h1.perm hp, h2⟩
end
end Go.Own
namespace Go.Proofs.YtonhcefgakmpfaaGreatDoor
open Go.RowKit Go.Own
/-- A list that is mapped to another order of a list's image comes of another order. -/
theorem perm_of_map {α β : Type} (f : α → β) : ∀ (m : List β) (l : List α), (l.map f).Perm m → ∃ l' : List α, l'.Perm l ∧ l'.map f = m
  | [], l, h => by
    have : l = [] := by simpa using h.eq_nil
    exact ⟨[], by rw [this], rfl⟩
  | b :: m, l, h => by
    have hb : b ∈ l.map f := h.mem_iff.2 List.mem_cons_self
    obtain ⟨a, ha, rfl⟩ := List.mem_map.1 hb
    obtain ⟨A, B, rfl⟩ := List.append_of_mem ha
    have h1 : ((A ++ B).map f).Perm m := by
      rw [List.map_append, List.map_cons] at h
      rw [List.map_append]
      exact (List.perm_cons (f a)).1 (List.perm_middle.symm.trans h)
    obtain ⟨l', h2, h3⟩ := perm_of_map f m (A ++ B) h1
    exact ⟨a :: l', (h2.cons a).trans List.perm_middle.symm, by rw [List.map_cons, h3]⟩
section
variable {w : World} {L : List HP} {q m f : Nat} {P : List Pn} {S : Tre}
/-- A tree's nodes may be told in any order. -/
theorem trc_perm (hp : (pnN P).Perm S.nodes) (h16 : S.tab.length = 16) (h : Has w (Trb q m f P S.last S.tab :: L)) : Has w (Trc q S :: L) := by
  obtain ⟨P', h1, h2⟩ := perm_of_map (fun p : Pn => (p.1, p.2.2)) S.nodes P hp
  refine trc_iff.2 ⟨m, f, P', ⟨h2, h16⟩, trb_iff.2 ?_⟩
  have h3 := (trb_iff.1 h).re 2 [1, 0]
  have h4 : Has w (Mk kInt vPtr m (pnB P') :: _) := Mk.perm h3 (show (pnB P).Perm (pnB P') from (h1.symm.map _))
  refine (h4.re 2 [1, 0]).perm (.cons _ (.cons _ (.cons _ ?_)))
  exact List.Perm.append_right _ (h1.symm.map _)
end
set_option maxRecDepth 100000 in
theorem mapsCloneY (b : Nat) (t : List (Str × Int)) (w : World) (L : List HP) (hO : Has w (Mk kStr vInt b t :: L)) :
    Calls Tryz.prog 69 #[.map (some b)] w fun e w' => e = .returned (.map (some w.heap.size)) ∧ Has w' (Mk kStr vInt w.heap.size t :: Mk kStr vInt b t :: L) ∧ Keep w w' := by
  obtain ⟨D, h1, h2⟩ := Mk.iff.1 hO
  obtain ⟨es, clock, hF, h3⟩ := Mp.iff.1 h2
  have hb : w.heap[b]? = some (.map es clock) := h3.lookup
  have hq := fun w => run_eql_map_nil_sl (P := Tryz.prog) w 80 _ _ (some b) undNm
  have HF := hid (show Has (w.alloc (.map es clock)) (Mk kStr vInt w.heap.size t :: Mk kStr vInt b t :: L) from by
    have h4 := Mk.iff.2 ⟨D, h1, Mp.iff.2 ⟨es, clock, hF, h3.alloc (.map es clock)⟩⟩
    exact (Mk.iff.2 ⟨D, h1, Mp.iff.2 ⟨es, clock, hF, h4.re 2 [1, 0]⟩⟩ : Has _ (Mk kStr vInt b t :: _)).re 2 [1, 0])
  have HK := hid ((Keep.refl w).alloc (.map es clock))
  clear hO h1 h2 h3 hF
  go_enter Tryz.func69, Tryz.ntmps69
  go_wp2
  rw [run_callFunc_extern Tryz.func134 (by kernel_rfl) (by kernel_rfl) (by kernel_rfl) (e := Extern.MapsClone.clone) (by kernel_rfl), run_maps_clone_sl w 80 hb]
  simp only [Result.andThen]
  rw [Oper.upon_value]
  go_wp2
  rw [run_typeAssert_map_sl _ 80 20 _ _ _ undNm]
  simp only [Result.andThen]
  rw [Oper.upon_value]
  go_wp2
  go_ret
  exact ⟨rfl, HF.out, HK.out⟩
set_option maxRecDepth 100000 in
theorem mapsCloneN (nm : Option Nat) (t : List (Str × Int)) (w : World) (L : List HP) (hO : Has w (Nms nm t :: L)) :
    Calls Tryz.prog 69 #[.map nm] w fun e w' => ∃ nm' : Option Nat, e = .returned (.map nm') ∧ (∀ m, nm = some m → ∃ m', nm' = some m') ∧ Has w' (Nms nm' t :: Nms nm t :: L) ∧ Keep w w' := by
  cases nm with
  | some m =>
    refine (mapsCloneY m t w L hO).mono ?_
    rintro e w' ⟨rfl, h1, h2⟩
    exact ⟨_, rfl, fun m' _ => ⟨_, rfl⟩, h1, h2⟩
  | none =>
    have hq := fun w => run_eql_map_nil_sl (P := Tryz.prog) w 80 _ _ none undNm
    have HF := hid (show Has w (Nms none t :: Nms none t :: L) from by
      have ht : t = [] := (Has.fact_iff.1 hO).1
      exact Has.fact_iff.2 ⟨ht, hO⟩)
    clear hO
    go_enter Tryz.func69, Tryz.ntmps69
    go_wp2
    go_ret
    exact ⟨none, rfl, fun m h => (by cases h), HF.out, Keep.refl _⟩
theorem cloneBytesN (v : Value) (xs : List Int) (w : World) (L : List HP) (hO : Has w L) (hr : Rd w v 1 xs.length (bc xs)) (hsm : xs.length ≤ 1000000000) :
    Calls Tryz.prog 67 #[v] w fun e w' => ∃ v', e = .returned v' ∧ nilS v' = nilS v ∧ Has w' (Bytes v' xs :: L) ∧ Keep w w' :=
  (cloneBytes v xs w L hO hr hsm).mono fun _ _ ⟨v', h1, h2, h3, h4⟩ => ⟨v', h1, h4, h2, h3⟩
theorem dat_clone {w : World} {L : List HP} {k : Int} {v dv : Value} {xs : List Int} (hn : nilS v = nilS dv) (hd : k = 3 → nilS dv = false) (h : Has w (Bytes v xs :: L)) : Has w (Dat k v xs :: L) := by
  by_cases hk : k = 3
  · unfold Dat
    rw [if_pos hk]
    obtain ⟨hl, ⟨rfl, -⟩ | ⟨g, cap, cur, rfl, h1, h2, h3, h4, h5⟩⟩ := h.row_cases
    · have := hd hk
      rw [← hn] at this
      cases this
    · rw [Nat.mul_one] at h4
      exact frz_iff.2 ⟨g, cap, cur, _, ⟨rfl, h1, by omega, h4⟩, h5⟩
  · rw [dat_ne hk]
    exact h
theorem dat_nil {w : World} {L : List HP} {k : Int} {dv : Value} {xs : List Int} (h : Has w (Dat k dv xs :: L)) : k = 3 → nilS dv = false := by
  intro hk
  unfold Dat at h
  rw [if_pos hk] at h
  obtain ⟨g, cap, cur, sp, ⟨rfl, -⟩, -⟩ := frz_iff.1 h
  rfl
/-- The whole table loaded. -/
theorem loadTab (T : List Tb.Slot) (hT : T.length = 16) (g : Nat) (w : World) (h : ∀ i, w.cell? ⟨g, i, none⟩ = (Tb.cells T)[i]?) : (Instr.loadAt 103 (.pointer (some ⟨g, 0, none⟩))).run Tryz.prog w = .ok (.agg (Tb.cells T)) w := by
  have hs : (Tb.cells T).size = 64 := by have := Tb.encs_len T; simp [Tb.cells, this, hT]
  have e := run_loadCells_list (P := Tryz.prog) w ⟨g, 0, none⟩ (Tb.cells T).toList (fun j v hj => by rw [add_plain, Nat.zero_add, h j]; simpa using hj)
  simp only [Array.length_toList, hs, Array.toArray_toList] at e
  simp [Instr.loadAt, Instr.sureAddr, loadVar, e]
theorem slots_one (T : List Tb.Slot) : ∀ v ∈ (Tb.cells T).toList, v.oneCell' = true := by
  intro v hv
  simp only [Tb.cells, List.toList_toArray] at hv
  induction T with
  | nil => cases hv
  | cons s T ih =>
    rw [Tb.encs] at hv
    rcases List.mem_append.1 hv with hv | hv
    · simp only [Tb.Slot.enc, List.mem_cons, List.not_mem_nil, or_false] at hv
      rcases hv with rfl | rfl | rfl | rfl <;> rfl
    · exact ih hv
def zTab : Array Value := Tb.cells (List.replicate 16 Tb.none4)
theorem zTab_zero (w : World) : (zeroValue 103).run Tryz.prog w = .ok (.agg zTab) w := by unfold zTab; kernel_rfl
theorem tab_size (T : List Tb.Slot) (hT : T.length = 16) : (Tb.cells T).size = 64 := by have := Tb.encs_len T; simp [Tb.cells, this, hT]
theorem zTab_size : zTab.size = 64 := tab_size _ (by simp)
theorem whole_tab (T : List Tb.Slot) (hT : T.length = 16) : (zTab.toList.take 0 ++ (Tb.cells T).toList ++ zTab.toList.drop (0 + (Tb.cells T).size)).toArray = Tb.cells T := by
  rw [List.take_zero, List.nil_append, List.drop_of_length_le (by rw [tab_size T hT, Array.length_toList, zTab_size]; exact Nat.le_refl _), List.append_nil, Array.toArray_toList]
/-- The nodes that a range has passed. -/
def passed (P : List Pn) (rem : List Int) : List (Int × Nod) := (pnN P).filter fun e => !decide (e.1 ∈ rem)
theorem passed_none (P : List Pn) (rem : List Int) (h : ∀ p ∈ P, p.1 ∈ rem) : passed P rem = [] := by
  unfold passed
  rw [List.filter_eq_nil_iff]
  intro e he
  obtain ⟨p, hp, rfl⟩ := List.mem_map.1 he
  simp [h p hp]
theorem passed_all (P : List Pn) : passed P [] = pnN P := by
  unfold passed
  rw [List.filter_eq_self]
  intro e _
  simp
theorem passed_step {P1 P2 : List Pn} {rem : List Int} {n : Int} {b : Nat} {x : Nod} (hd : ((P1 ++ (n, b, x) :: P2).map Prod.fst).Nodup) (hr : n ∈ rem) : (passed (P1 ++ (n, b, x) :: P2) (rem.filter fun y => !decide (y = n))).Perm (passed (P1 ++ (n, b, x) :: P2) rem ++ [(n, x)]) := by
  unfold passed
  have hE : ∀ l : List Pn, n ∉ l.map Prod.fst → (pnN l).filter (fun e => !decide (e.1 ∈ rem.filter fun y => !decide (y = n))) = (pnN l).filter fun e => !decide (e.1 ∈ rem) := by
    intro l hl
    refine List.filter_congr fun e he => ?_
    obtain ⟨p, hp, rfl⟩ := List.mem_map.1 he
    have hne : p.1 ≠ n := fun e => hl (e ▸ List.mem_map_of_mem hp)
    simp [hne]
  simp only [List.map_append, List.map_cons] at hd
  have h1 := List.nodup_append.1 hd
  have hn1 : n ∉ P1.map Prod.fst := fun hm => h1.2.2 n hm n (by simp) rfl
  have hn2 : n ∉ P2.map Prod.fst := (List.nodup_cons.1 h1.2.1).1
  have e : ∀ f, (pnN (P1 ++ (n, b, x) :: P2)).filter f = (pnN P1).filter f ++ ([(n, x)] : List (Int × Nod)).filter f ++ (pnN P2).filter f := by
    intro f
    simp [pnN, List.filter_append, List.filter_cons]
    split <;> simp
  rw [e, e, hE P1 hn1, hE P2 hn2]
  rw [List.filter_cons_of_pos (by simp), List.filter_cons_of_neg (by simp [hr])]
  simp only [List.filter_nil, List.append_nil]
  rw [List.append_assoc, List.append_assoc]
  exact (List.perm_append_comm (l₁ := [(n, x)])).append_left _
theorem pull_at {w : World} {M : List HP} {A : List HP} {P1 P2 : List Pn} {p : Pn} : Has w (A ++ (pnC (P1 ++ p :: P2) ++ M)) ↔ Has w (Ndc p.2.1 p.2.2 :: (A ++ (pnC (P1 ++ P2) ++ M))) := by
  have h1 : (pnC (P1 ++ p :: P2) ++ M).Perm (Ndc p.2.1 p.2.2 :: (pnC (P1 ++ P2) ++ M)) := by
    unfold pnC
    rw [List.map_append, List.map_cons, List.map_append]
    simp only [List.append_assoc, List.cons_append]
    exact List.perm_middle
  have e : (A ++ (pnC (P1 ++ p :: P2) ++ M)).Perm (Ndc p.2.1 p.2.2 :: (A ++ (pnC (P1 ++ P2) ++ M))) := (h1.append_left A).trans List.perm_middle
  exact ⟨fun h => h.perm e, fun h => h.perm e.symm⟩
theorem push_end {w : World} {M : List HP} {A : List HP} {P P2 : List Pn} {n : Int} {g : Nat} {x : Nod} (h : Has w (Ndc g x :: (A ++ (pnC P ++ (pnC P2 ++ M))))) : Has w (A ++ (pnC P ++ (pnC (P2 ++ [(n, g, x)]) ++ M))) := by
  refine h.perm ?_
  have e : pnC (P2 ++ [(n, g, x)]) ++ M = pnC P2 ++ (Ndc g x :: M) := by
    rw [pnC_app, List.append_assoc]
    rfl
  rw [e]
  have h1 : (Ndc g x :: (pnC P2 ++ M)).Perm (pnC P2 ++ (Ndc g x :: M)) := List.perm_middle.symm
  have h2 : (Ndc g x :: (pnC P ++ (pnC P2 ++ M))).Perm (pnC P ++ (pnC P2 ++ (Ndc g x :: M))) := List.perm_middle.symm.trans (h1.append_left _)
  exact List.perm_middle.symm.trans (h2.append_left A)
/-- A node copied: both stand. -/
theorem copied {w : World} {M : List HP} {P P1 P3 : List Pn} {n : Int} {b g : Nat} {x : Nod} {dv dv' wv wv' : Value} {nm nm' : Option Nat} {R1 R2 R3 R4 R5 R6 : HP} (hP : P = P1 ++ (n, b, x) :: P3) (h2 : x.kind = 2 → ∃ m, nm = some m) (h2' : x.kind = 2 → ∃ m, nm' = some m) (hn : nilS dv' = nilS dv) (hd : x.kind = 3 → nilS dv = false)
    (h : Has w (pt g (.cells (nodC x dv' wv' nm') 83) :: Nms nm' x.names :: Nms nm x.names :: Bools wv' x.wr :: Bytes dv' x.data :: pt b (.cells (nodC x dv wv nm) 83) :: Dat x.kind dv x.data :: Bools wv x.wr :: R1 :: R2 :: R3 :: R4 :: R5 :: R6 :: (pnC (P1 ++ P3) ++ M))) :
    Has w (Ndc g x :: R1 :: R2 :: R3 :: R4 :: R5 :: R6 :: (pnC P ++ M)) := by
  have h3 := h.re 8 [5, 6, 7, 2, 0, 4, 3, 1]
  have h4 : Has w (Ndc b x :: _) := ndc_iff.2 ⟨dv, wv, nm, h2, h3⟩
  have h5 := h4.re 5 [2, 1, 3, 4, 0]
  have h6 := dat_clone (k := x.kind) hn hd h5
  have h7 := h6.re 5 [1, 0, 2, 3, 4]
  have h8 : Has w (Ndc g x :: _) := ndc_iff.2 ⟨dv', wv', nm', h2', h7⟩
  have h9 := h8.re 2 [1, 0]
  have h10 := (pull_at (p := (n, b, x)) (P1 := P1) (P2 := P3) (M := M) (A := [Ndc g x, R1, R2, R3, R4, R5, R6])).2 h9
  rw [← hP] at h10
  exact h10
set_option maxRecDepth 100000 in
set_option maxHeartbeats 8000000 in
theorem tCopy (q : Nat) (S : Tre) (w : World) (L : List HP) (hb : ∀ n x, fnd S.nodes n = some x → x.data.length ≤ 100000 ∧ x.wr.length ≤ 100000) (hn : S.nodes.length ≤ 100000) (hO : Has w (Trc q S :: L)) :
    Calls Tryz.prog 18 #[.pointer (some ⟨q, 0, none⟩)] w fun e w' => ∃ q', e = .returned (.pointer (some ⟨q', 0, none⟩)) ∧ Has w' (Trc q' S :: Trc q S :: L) ∧ Keep w w' := by
  obtain ⟨m, f, P, hPT, h⟩ := trc_iff.1 hO
  have HPT := hid hPT
  have h' := trb_iff.1 h
  have HND := hid (Trb.nodup h)
  have HO := hid (show Has w (Mk kInt vPtr m (pnB P) :: pt q (.cells (treC m f S.last) 88) :: Tab f S.tab :: (pnC P ++ L)) from h'.perm (.swap _ _ _))
  have hq0 : w.cell? ⟨q, 0, none⟩ = some (.map (some m)) := HO.out.p1.cells 0
  have hq1 : w.cell? ⟨q, 1, none⟩ = some (.int .i64 S.last) := HO.out.p1.cells 1
  have hq2 : w.cell? ⟨q, 2, none⟩ = some (.pointer (some ⟨f, 0, none⟩)) := HO.out.p1.cells 2
  have HBD := hid (show ∀ p ∈ P, p.2.2.data.length ≤ 100000 ∧ p.2.2.wr.length ≤ 100000 from by
    intro p hp
    have hm : (p.1, p.2.2) ∈ pnN P := List.mem_map.2 ⟨p, hp, rfl⟩
    have hnd : ((pnN P).map Prod.fst).Nodup := by rw [pnN_keys]; exact HND.out
    exact hb p.1 p.2.2 (by rw [← hPT.1]; exact fnd_mem hnd hm))
  have hPl : P.length = S.nodes.length := by rw [← hPT.1]; simp [pnN]
  have hP9 : P.length ≤ 100000 := by omega
  have hmm := @run_makeMap Tryz.prog
  clear hO h h' hPT hb
  go_enter Tryz.func18, Tryz.ntmps18
  go_upto_region 3 with fail
  go_upto_region 4 with (first | (with_reducible refine wpList_loadC rfl 103 _ rfl (.pointer (some ⟨f, 0, none⟩)) (.agg (Tb.cells S.tab)) rfl (loadTab S.tab HPT.out.2 f w HO.out.p2.cells) ?_) | (with_reducible refine wpList_allocAs rfl 103 rfl zTab zTab_zero ?_) | (refine wpList_storeAt rfl 103 _ _ rfl w.heap.size 0 zTab (Tb.cells S.tab) 103 (HO.out.alloc (.cells zTab 103)) rfl rfl (fun w => by rw [tab_size S.tab HPT.out.2]; exact Tryz.sizeOf103 w) (slots_one S.tab) (by rw [tab_size S.tab HPT.out.2, zTab_size]; decide) ?_; intro w2 h2 k2))
  rw [whole_tab S.tab HPT.out.2] at h2
  have HO2 := hid h2
  have HK2 := hid (((Keep.refl w).alloc (.cells zTab 103)).trans k2)
  clear h2 k2 hq0 hq1 hq2 HO
  generalize w.heap.size = f2 at *
  have HO3 := hid (show Has (w2.alloc (.map #[] 0)) (Mk kInt vPtr m (pnB P) :: Mk kInt vPtr w2.heap.size [] :: pt q (.cells (treC m f S.last) 88) :: Tab f S.tab :: Tab f2 S.tab :: (pnC P ++ L)) from (Mk.made HO2.out kInt vPtr).re 5 [2, 0, 3, 4, 1])
  have HK3 := hid (HK2.out.alloc (.map #[] 0))
  have hq0 : w2.cell? ⟨q, 0, none⟩ = some (.map (some m)) := HO2.out.p2.cells 0
  have hq1 : (w2.alloc (.map #[] 0)).cell? ⟨q, 1, none⟩ = some (.int .i64 S.last) := HO3.out.p2.cells 1
  have HO4 := hid (show Has ((w2.alloc (.map #[] 0)).alloc (.cells (treC w2.heap.size f2 S.last) 88)) (Mk kInt vPtr m (pnB P) :: Mk kInt vPtr w2.heap.size [] :: pt (w2.heap.size + 1) (.cells (treC w2.heap.size f2 S.last) 88) :: pt q (.cells (treC m f S.last) 88) :: Tab f S.tab :: Tab f2 S.tab :: (pnC P ++ (pnC [] ++ L))) from by
    have e1 : (w2.alloc (.map #[] 0)).heap.size = w2.heap.size + 1 := by show (Array.push _ _).size = _; rw [Array.size_push]
    rw [← e1]
    exact (HO3.out.alloc (.cells (treC w2.heap.size f2 S.last) 88)).re 6 [1, 2, 0, 3, 4, 5])
  have HK4 := hid (HK3.out.alloc (.cells (treC w2.heap.size f2 S.last) 88))
  have hq2 : ((w2.alloc (.map #[] 0)).alloc (.cells (treC w2.heap.size f2 S.last) 88)).cell? ⟨q, 0, none⟩ = some (.map (some m)) := HO4.out.p3.cells 0
  clear HO2 HK2 HO3 HK3
  go_upto_region 5 with fail
  unfold treC at HO4 HK4 hq2
  generalize (w2.alloc (.map #[] 0)).alloc (.cells #[.map (some w2.heap.size), .int .i64 S.last, .pointer (some ⟨f2, 0, none⟩)] 88) = w4 at *
  generalize w2.heap.size + 1 = q2 at *
  generalize w2.heap.size = m2 at *
  clear hq0 hq1
  go_wp2_with (at_range; refine wpList_mkStart HO4.out tNo undNo rfl _ rfl rfl ?_; intro w5 hO5 hK5 hs5)
  try go_frame
  have HO5 := hid hO5
  have HK5 := hid (HK4.out.trans hK5)
  clear hO5 hK5 hs5 hq2 HO4 HK4
  generalize w4.heap.size = r at *
  generalize hr0 : (pnB P).map Prod.fst = rem0 at *
  have HS0 := hid (show passed P rem0 = [] from passed_none P rem0 fun p hp => by rw [← hr0, pnB_keys]; exact List.mem_map_of_mem hp)
  clear hr0
  generalize (pnB P).length = cnt0 at *
  go_loopw [] (fun w' => ∃ (rem : List Int) (cnt : Nat) (P2 : List Pn), (pnN P2).Perm (passed P rem) ∧ Hid (Has w' (Mr kInt vPtr m r (pnB P) rem cnt :: Mk kInt vPtr m2 (pnB P2) :: pt q2 (.cells (treC m2 f2 S.last) 88) :: pt q (.cells (treC m f S.last) 88) :: Tab f S.tab :: Tab f2 S.tab :: (pnC P ++ (pnC P2 ++ L)))) ∧ Hid (Keep w w')) (fun w' => w'.rangeLeft m r)
  case atStart => exact ⟨rem0, cnt0, [], by rw [HS0.out]; exact List.Perm.refl _, HO5, HK5⟩
  case round =>
    clear HO5 HK5 HS0
    obtain ⟨rem, cnt, P2, hP2, HO, HK⟩ := hrel
    have hleft := Mr.left HO.out
    have HLF := hid hleft
    have HP2 := hid hP2
    clear hP2
    go_wp2_with (at_next; refine wpList_mkNext HO.out rfl _ rfl rfl ?_ ?_)
    · intro hrem
      subst hrem
      have HO6 := hid (Mr.end HO.out)
      clear HO hleft
      go_wp2_with fail
      go_ret
      refine ⟨q2, rfl, ?_, HK.out⟩
      have hpm := HP2.out
      rw [passed_all, HPT.out.1] at hpm
      have h1 : Has wr (pt q (.cells (treC m f S.last) 88) :: Mk kInt vPtr m (pnB P) :: Tab f S.tab :: (pnC P ++ ([pt q2 (.cells (treC m2 f2 S.last) 88), Mk kInt vPtr m2 (pnB P2), Tab f2 S.tab] ++ (pnC P2 ++ L)))) := by
        have h2 := HO6.out.re 6 [3, 0, 4, 2, 1, 5]
        exact h2.perm (.cons _ (.cons _ (.cons _ (List.perm_append_comm_assoc [pt q2 (.cells (treC m2 f2 S.last) 88), Mk kInt vPtr m2 (pnB P2), Tab f2 S.tab] (pnC P) (pnC P2 ++ L)))))
      have h2 : Has wr (Trc q S :: ([pt q2 (.cells (treC m2 f2 S.last) 88), Mk kInt vPtr m2 (pnB P2), Tab f2 S.tab] ++ (pnC P2 ++ L))) := trc_iff.2 ⟨m, f, P, HPT.out, trb_iff.2 h1⟩
      have h3 : Has wr (pt q2 (.cells (treC m2 f2 S.last) 88) :: Mk kInt vPtr m2 (pnB P2) :: Tab f2 S.tab :: Trc q S :: (pnC P2 ++ L)) := h2.re 4 [1, 2, 3, 0]
      refine trc_perm hpm HPT.out.2 (trb_iff.2 (h3.perm (.cons _ (.cons _ (.cons _ ?_)))))
      exact List.perm_middle.symm
    · rintro n ob w6 cnt' hp hr hky hO6 hlt6 hK6 hsz hen
      obtain ⟨⟨n', b, x⟩, hpP, he⟩ := List.mem_map.1 hp
      simp only [Prod.mk.injEq] at he
      obtain ⟨rfl, rfl⟩ := he
      simp only [kInt_val, vPtr_val] at hen ⊢
      have hen2 := hen
      obtain ⟨P1, P3, hPe⟩ := List.append_of_mem hpP
      have HPe := hid hPe
      have hbx := HBD.out _ hpP
      have hbx1 : x.data.length ≤ 100000 := hbx.1
      have hbx2 : x.wr.length ≤ 100000 := hbx.2
      clear hbx
      have HO7 := hid (show Has w6 (Ndc b x :: Mr kInt vPtr m r (pnB P) (rem.filter fun y => !decide (y = n')) cnt' :: Mk kInt vPtr m2 (pnB P2) :: pt q2 (.cells (treC m2 f2 S.last) 88) :: pt q (.cells (treC m f S.last) 88) :: Tab f S.tab :: Tab f2 S.tab :: (pnC (P1 ++ P3) ++ (pnC P2 ++ L))) from (pull_at (p := (n', b, x)) (A := [Mr kInt vPtr m r (pnB P) (rem.filter fun y => !decide (y = n')) cnt', Mk kInt vPtr m2 (pnB P2), pt q2 (.cells (treC m2 f2 S.last) 88), pt q (.cells (treC m f S.last) 88), Tab f S.tab, Tab f2 S.tab])).1 (by rw [← hPe]; exact hO6))
      have HST := hid (show (passed P (rem.filter fun y => !decide (y = n'))).Perm (passed P rem ++ [(n', x)]) from by
        rw [hPe]
        exact passed_step (by rw [← hPe]; exact HND.out) hr)
      have HK7 := hid (HK.out.trans hK6)
      have HL6 := hid hlt6
      have HR := hid hr
      have HKY := hid hky
      clear hp hr hky hO6 hlt6 hK6 hsz hPe hpP hleft HO HK
      obtain ⟨dv, wv, nm, hnm, hN⟩ := ndc_iff.1 HO7.out
      have HNM := hid hnm
      have HN := hid hN
      clear hnm hN HO7
      have hc0 : w6.cell? ⟨b, 0, none⟩ = some (.int .i64 x.kind) := HN.out.cells 0
      have hc1 : w6.cell? ⟨b, 1, none⟩ = some dv := HN.out.cells 1
      have hc2 : w6.cell? ⟨b, 2, none⟩ = some wv := HN.out.cells 2
      have hc3 : w6.cell? ⟨b, 3, none⟩ = some (.map nm) := HN.out.cells 3
      have hc4 : w6.cell? ⟨b, 4, none⟩ = some (.int .i64 x.most) := HN.out.cells 4
      have hc5 : w6.cell? ⟨b, 5, none⟩ = some (.int .i64 x.links) := HN.out.cells 5
      have hc6 : w6.cell? ⟨b, 6, none⟩ = some (.int .i64 x.above) := HN.out.cells 6
      have hdr := Dat.rd HN.out.p1
      have HDN := hid (dat_nil HN.out.p1)
      have hwrd : Rd w6 wv 1 x.wr.length (x.wr.map Value.bool) := Bools.rd HN.out.p2
      obtain ⟨pd, cd, rfl, -⟩ := hdr.form
      obtain ⟨pw, cw, rfl, -⟩ := hwrd.form
      clear hdr hwrd
      go_upto_region 9 with fail
      have HA := hid (HN.out.alloc (.cells #[.int .i64 x.kind, .slice pd x.data.length cd, .slice pw x.wr.length cw, .map nm, .int .i64 x.most, .int .i64 x.links, .int .i64 x.above] 83))
      have HB := hid (HK7.out.alloc (.cells #[.int .i64 x.kind, .slice pd x.data.length cd, .slice pw x.wr.length cw, .map nm, .int .i64 x.most, .int .i64 x.links, .int .i64 x.above] 83))
      clear HN HK7 hc0 hc1 hc2 hc3 hc4 hc5 hc6
      generalize w6.alloc (.cells #[.int .i64 x.kind, .slice pd x.data.length cd, .slice pw x.wr.length cw, .map nm, .int .i64 x.most, .int .i64 x.links, .int .i64 x.above] 83) = y6 at *
      generalize w6.heap.size = g7 at *
      have HAd := hid HA.out.drew
      have HBd := hid HB.out.drew
      clear HA HB
      refine region_text (fun w' => w'.cell? ⟨b, 1, none⟩ = some (.slice pd x.data.length cd) ∧ w'.cell? ⟨b, 2, none⟩ = some (.slice pw x.wr.length cw) ∧ w'.cell? ⟨b, 3, none⟩ = some (.map nm)) (by kernel_rfl) (by kernel_rfl) ⟨HAd.out.p1.cells 1, HAd.out.p1.cells 2, HAd.out.p1.cells 3⟩ ?_
      generalize y6.drew = yd at *
      repeat (first
        | (refine wpL_read (by rfl) (by rfl) ?_ ?_ ?_; rotate_left; (rintro w ⟨z0, z1, z2⟩; go_simp; with_reducible rfl); simp only [Act.put, List.setIfInBounds_toArray, List.set_cons_zero, List.set_cons_succ]) | (refine wpL_skip (by rfl) ?_; simp only [Act.put, List.setIfInBounds_toArray, List.set_cons_zero, List.set_cons_succ]))
      refine wpL_act (by rfl) (by rfl) (fun K hK => ?_)
      go_simp
      refine (cloneBytesN _ x.data yd _ HAd.out (Dat.rd HAd.out.p2) (by omega)).mono ?_
      rintro e w8 ⟨v8, rfl, hn8, hO8, hK8⟩
      have HO8 := hid hO8
      have HK8 := hid ((HBd.out).trans hK8)
      clear hO8 hK8
      try dsimp only
      refine hK.out _ _ (⟨HO8.out.p2.cells 1, HO8.out.p2.cells 2, HO8.out.p2.cells 3⟩) ?_
      clear hK K
      try simp only [Act.put, List.setIfInBounds_toArray, List.set_cons_zero, List.set_cons_succ]
      clear HAd HBd
      repeat (first
        | (refine wpL_read (by rfl) (by rfl) ?_ ?_ ?_; rotate_left; (rintro w ⟨z0, z1, z2⟩; go_simp; with_reducible rfl); simp only [Act.put, List.setIfInBounds_toArray, List.set_cons_zero, List.set_cons_succ]) | (refine wpL_skip (by rfl) ?_; simp only [Act.put, List.setIfInBounds_toArray, List.set_cons_zero, List.set_cons_succ]))
      refine wpL_act (by rfl) (by rfl) (fun K hK => ?_)
      go_simp
      refine (cloneBools _ x.wr w8 _ HO8.out (Bools.rd HO8.out.p4) (by omega)).mono ?_
      rintro e w9 ⟨v9, rfl, hO9, hK9⟩
      have HO9 := hid hO9
      have HK9 := hid ((HK8.out).trans hK9)
      clear hO9 hK9
      try dsimp only
      refine hK.out _ _ (⟨HO9.out.p3.cells 1, HO9.out.p3.cells 2, HO9.out.p3.cells 3⟩) ?_
      clear hK K
      try simp only [Act.put, List.setIfInBounds_toArray, List.set_cons_zero, List.set_cons_succ]
      clear HO8 HK8
      repeat (first
        | (refine wpL_read (by rfl) (by rfl) ?_ ?_ ?_; rotate_left; (rintro w ⟨z0, z1, z2⟩; go_simp; with_reducible rfl); simp only [Act.put, List.setIfInBounds_toArray, List.set_cons_zero, List.set_cons_succ]) | (refine wpL_skip (by rfl) ?_; simp only [Act.put, List.setIfInBounds_toArray, List.set_cons_zero, List.set_cons_succ]))
      refine wpL_act (by rfl) (by rfl) (fun K hK => ?_)
      go_simp
      refine (mapsCloneN nm x.names w9 _ HO9.out.p6).mono ?_
      rintro e w10 ⟨nm', rfl, hnm', hO10, hK10⟩
      have HO10 := hid hO10
      have HK10 := hid ((HK9.out).trans hK10)
      clear hO10 hK10
      try dsimp only
      refine hK.out _ _ (⟨(HO10.out.re 6 [5]).cells 1, (HO10.out.re 6 [5]).cells 2, (HO10.out.re 6 [5]).cells 3⟩) ?_
      clear hK K
      try simp only [Act.put, List.setIfInBounds_toArray, List.set_cons_zero, List.set_cons_succ]
      clear HO9 HK9
      repeat (first
        | (refine wpL_read (by rfl) (by rfl) ?_ ?_ ?_; rotate_left; (rintro w ⟨z0, z1, z2⟩; go_simp; with_reducible rfl); simp only [Act.put, List.setIfInBounds_toArray, List.set_cons_zero, List.set_cons_succ]) | (refine wpL_skip (by rfl) ?_; simp only [Act.put, List.setIfInBounds_toArray, List.set_cons_zero, List.set_cons_succ]))
      obtain ⟨p8, c8, hv8, -⟩ := (Bytes.rd HO10.out.p3).form
      subst hv8
      obtain ⟨p9, c9, hv9, -⟩ := (Bools.rd HO10.out.p2).form
      subst hv9
      have HZ := hid (HO10.out.re 6 [4, 0, 1, 2, 3, 5])
      clear HO10
      have hs1 := HZ.out.cells 1
      have ht1 := HZ.out.thaw 1
      refine wpL_act (by rfl) (by rfl) (fun K hK => ?_)
      go_simp
      have HZ1 := hid (HZ.out.set 1 (.slice p8 x.data.length c8))
      refine hK.out _ _ ⟨HZ1.out.p5.cells 1, HZ1.out.p5.cells 2, HZ1.out.p5.cells 3⟩ ?_
      clear hK K hs1 ht1 HZ
      try simp only [Act.put, List.setIfInBounds_toArray, List.set_cons_zero, List.set_cons_succ]
      generalize hu1 : w10.setCell ⟨g7, 1, none⟩ (.slice p8 x.data.length c8) = u1 at *
      have HK11 := hid (show Keep w u1 from by rw [← hu1]; exact HK10.out.set _ _)
      clear hu1 HK10
      repeat (first
        | (refine wpL_read (by rfl) (by rfl) ?_ ?_ ?_; rotate_left; (rintro w ⟨z0, z1, z2⟩; go_simp; with_reducible rfl); simp only [Act.put, List.setIfInBounds_toArray, List.set_cons_zero, List.set_cons_succ]) | (refine wpL_skip (by rfl) ?_; simp only [Act.put, List.setIfInBounds_toArray, List.set_cons_zero, List.set_cons_succ]))
      have hs2 := HZ1.out.cells 2
      have ht2 := HZ1.out.thaw 2
      refine wpL_act (by rfl) (by rfl) (fun K hK => ?_)
      go_simp
      have HZ2 := hid (HZ1.out.set 2 (.slice p9 x.wr.length c9))
      refine hK.out _ _ ⟨HZ2.out.p5.cells 1, HZ2.out.p5.cells 2, HZ2.out.p5.cells 3⟩ ?_
      clear hK K hs2 ht2 HZ1
      try simp only [Act.put, List.setIfInBounds_toArray, List.set_cons_zero, List.set_cons_succ]
      generalize hu2 : u1.setCell ⟨g7, 2, none⟩ (.slice p9 x.wr.length c9) = u2 at *
      have HK12 := hid (show Keep w u2 from by rw [← hu2]; exact HK11.out.set _ _)
      clear hu2 HK11
      repeat (first
        | (refine wpL_read (by rfl) (by rfl) ?_ ?_ ?_; rotate_left; (rintro w ⟨z0, z1, z2⟩; go_simp; with_reducible rfl); simp only [Act.put, List.setIfInBounds_toArray, List.set_cons_zero, List.set_cons_succ]) | (refine wpL_skip (by rfl) ?_; simp only [Act.put, List.setIfInBounds_toArray, List.set_cons_zero, List.set_cons_succ]))
      have hs3 := HZ2.out.cells 3
      have ht3 := HZ2.out.thaw 3
      refine wpL_act (by rfl) (by rfl) (fun K hK => ?_)
      go_simp
      have HZ3 := hid (HZ2.out.set 3 (.map nm'))
      refine hK.out _ _ ⟨HZ3.out.p5.cells 1, HZ3.out.p5.cells 2, HZ3.out.p5.cells 3⟩ ?_
      clear hK K hs3 ht3 HZ2
      try simp only [Act.put, List.setIfInBounds_toArray, List.set_cons_zero, List.set_cons_succ]
      generalize hu3 : u2.setCell ⟨g7, 3, none⟩ (.map nm') = u3 at *
      have HK13 := hid (show Keep w u3 from by rw [← hu3]; exact HK12.out.set _ _)
      clear hu3 HK12
      refine wpL_nil ?_
      have HY := hid (copied (M := pnC P2 ++ L) HPe.out HNM.out (fun h => by obtain ⟨z, hz⟩ := HNM.out h; exact hnm' z hz) hn8 HDN.out HZ3.out)
      clear HZ3 hn8 hnm'
      have hq3 : u3.cell? ⟨q2, 0, none⟩ = some (.map (some m2)) := HY.out.p3.cells 0
      have hlen : P2.length ≤ P.length := by
        have h1 := HP2.out.length_eq
        have h2 : (passed P rem).length ≤ (pnN P).length := List.length_filter_le _ _
        simp only [pnN, List.length_map] at h1 h2
        omega
      have hno : n' ∉ (pnB P2).map Prod.fst := by
        rw [pnB_keys]
        intro hm
        have h1 : n' ∈ (pnN P2).map Prod.fst := by rw [pnN_keys]; exact hm
        obtain ⟨e, he, hee⟩ := List.mem_map.1 ((HP2.out.map Prod.fst).mem_iff.1 h1)
        have h2 := (List.mem_filter.1 he).2
        rw [hee] at h2
        simp [HR.out] at h2
      have HNO := hid hno
      clear hno
      go_wp2_with (refine wpList_mkPut (HY.out.re 3 [2, 0, 1]) (by rw [show (pnB P2).length = P2.length by simp [pnB]]; omega) tNo undNo rfl _ _ _ rfl rfl n' HKY.out rfl (some g7) trivial rfl ?_; intro u4 hO4 hK4; simp only [Act.put])
      have e : putA (pnB P2) n' (some g7) = pnB (P2 ++ [(n', g7, x)]) := by rw [putA_new _ HNO.out]; simp [pnB]
      have h5 := hO4.re 3 [1, 2, 0]
      rw [e] at h5
      have h6 := push_end (n := n') (A := [Mr kInt vPtr m r (pnB P) (rem.filter fun y => !decide (y = n')) cnt', Mk kInt vPtr m2 (pnB (P2 ++ [(n', g7, x)])), pt q2 (.cells (treC m2 f2 S.last) 88), pt q (.cells (treC m f S.last) 88), Tab f S.tab, Tab f2 S.tab]) (P := P) (P2 := P2) (M := L) h5
      have hl2 := Mr.left h6
      refine ⟨⟨_, _, _, ?_, hid h6, hid (HK13.out.trans hK4)⟩, by rw [hl2, HLF.out]; exact HL6.out⟩
      have e2 : pnN (P2 ++ [(n', g7, x)]) = pnN P2 ++ [(n', x)] := by simp [pnN]
      rw [e2]
      exact (HP2.out.append_right _).trans HST.out.symm
end Go.Proofs.YtonhcefgakmpfaaGreatDoor
/- SameTexts, SameAnswer, SameNodes, where they say yes. -/
namespace Go.Proofs.YtonhcefgakmpfaaGreatDoor
open Go.RowKit Go.Own
/-- Lists of files, read. -/
def RdNs (w : World) (v : Value) (os : List Sn) : Prop := Rd w v 5 os.length (snEnc os) ∧ ∀ s ∈ os, Rd w s.dv 1 s.data.length (bc s.data)
theorem rdNs_of {w : World} {L : List HP} {v : Value} {os : List Sn} (h : Has w (Sns v os :: L)) : RdNs w v os := by
  have h1 := sns_iff.1 h
  refine ⟨Has.rd h1, fun s hs => ?_⟩
  obtain ⟨A, B, rfl⟩ := List.append_of_mem hs
  have h2 : Has w (Bytes s.dv s.data :: (row v 55 5 (A ++ s :: B).length (snEnc (A ++ s :: B)) :: ((A.map fun s => Bytes s.dv s.data) ++ (B.map (fun s => Bytes s.dv s.data) ++ L)))) := by
    refine h1.perm ?_
    rw [List.map_append, List.map_cons, List.append_assoc, List.cons_append]
    exact (List.Perm.cons _ List.perm_middle).trans (List.Perm.swap _ _ _)
  exact Bytes.rd h2
theorem snEnc_at (os : List Sn) (k : Nat) (hk : k < os.length) (j : Nat) (hj : j < 5) : (snEnc os)[k * 5 + j]? = (os[k].enc)[j]? := by
  rw [snEnc_flat]
  induction os generalizing k with
  | nil => simp at hk
  | cons x R ih =>
    cases k with
    | zero =>
      simp only [List.flatMap_cons, List.getElem_cons_zero, Nat.zero_mul, Nat.zero_add]
      rw [List.getElem?_append_left (by simp [Sn.enc]; omega)]
    | succ k =>
      simp only [List.flatMap_cons, List.getElem_cons_succ]
      have hl : x.enc.length = 5 := rfl
      rw [List.getElem?_append_right (by omega), hl, show (k + 1) * 5 + j - 5 = k * 5 + j by omega]
      exact ih k (by simpa using hk)
theorem nodesKey {os os' : List Sn} (hk : os.map Sn.key = os'.map Sn.key) (k : Nat) (h : k < os.length) (h' : k < os'.length) : os[k].key = os'[k].key := by
  have h1 := congrArg (fun l => l[k]?) hk
  simp only [List.getElem?_map, List.getElem?_eq_getElem h, List.getElem?_eq_getElem h', Option.map_some] at h1
  exact Option.some.inj h1
end Go.Proofs.YtonhcefgakmpfaaGreatDoor
