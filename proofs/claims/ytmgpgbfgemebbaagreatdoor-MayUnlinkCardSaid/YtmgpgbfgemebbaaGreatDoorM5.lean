/- TEXTS of mine, merged. -/
import Derived.Test.YtmgpgbfgemebbaaGreatDoorM2
import Derived.Test.YtmgpgbfgemebbaaGreatDoorM4
import Derived.Test.YtmgpgbfgemebbaaGreatDoorM1
set_option linter.all false
namespace Go.Proofs.YtmgpgbfgemebbaaGreatDoor
open Go.RowKit Go.Own
def partS (ds : List Int) (k : Nat) : Str := strOf (partM ds k)
def zsS : Str := strOf zs128
structure Fil where
 kind : Int
 target : Str
 sizes : List Int
 blocks : List (Int × List Str)
def addV {α : Type} [DecidableEq α] (l : List α) (x d : α) : List α := if l.getLastD d = x then l else l ++ [x]
def oneB (bs : List (Int × List Str)) (ds : List Int) (k : Nat) : List (Int × List Str) := putA bs (k : Int) (addV ((fnd bs (k : Int)).getD [zsS]) (partS ds k) [])
def writeB (bs : List (Int × List Str)) (ds : List Int) : Nat → List (Int × List Str)
 | 0 => bs
 | k + 1 => oneB (writeB bs ds k) ds k
def Fil.write (F : Fil) (ds : List Int) : Fil := { F with sizes := addV F.sizes (ds.length : Int) 0, blocks := writeB F.blocks ds (needM (max (lastI F.sizes).toNat ds.length)) }
def Blk (v : Value) (ls : List Str) : HP := ex fun hs : List (Value × List Int) => star [fact (hs.map (fun x => strOf x.2) = ls), rowF v 31 ls.length (hs.map Prod.fst), poolc 5 hs]
section
variable {w : World} {L : List HP} {v : Value} {ls : List Str}
theorem blk_iff : Has w (Blk v ls :: L) ↔ ∃ hs : List (Value × List Int), hs.map (fun x => strOf x.2) = ls ∧ Has w (rowF v 31 ls.length (hs.map Prod.fst) :: poolc 5 hs :: L) := by
 unfold Blk
 simp only [Has.ex_iff, Has.star_iff, List.cons_append, List.nil_append, Has.fact_iff]
theorem Blk.last (h : Has w (Blk v ls :: L)) (h0 : ls ≠ []) : ∃ (g o c : Nat) (n : Nat) (hv : Value) (xs : List Int), ls.length = n + 1 ∧ v = .slice (some ⟨g, o, none⟩) ls.length c ∧ ls.length ≤ c ∧ w.cell? ⟨g, o + n, none⟩ = some hv ∧ Rd w hv 1 xs.length (bc xs) ∧ strOf xs = ls.getLastD [] := by
 obtain ⟨hs, rfl, h1⟩ := blk_iff.1 h
 obtain ⟨p, c, hv, hc, -, hcs⟩ := (Has.rdF h1).form
 have hl : 0 < (hs.map (fun x => strOf x.2)).length := List.length_pos_iff.2 h0
 obtain ⟨g, o, rfl, hcs2⟩ := hcs (by omega)
 rw [List.length_map] at hl hcs2
 obtain ⟨n, hn⟩ : ∃ n, hs.length = n + 1 := ⟨hs.length - 1, by omega⟩
 have hx : hs[n]'(by omega) ∈ hs := List.getElem_mem _
 refine ⟨g, o, c, n, (hs[n]'(by omega)).1, (hs[n]'(by omega)).2, by rw [List.length_map, hn], hv, hc, ?_, h1.p1.pool_rd hx, ?_⟩
 ·rw [hcs2 n (by omega), List.getElem?_map, List.getElem?_eq_getElem (by omega)]
  rfl
 ·rw [List.getLastD_eq_getLast?, List.getLast?_eq_getElem?, List.length_map, show hs.length - 1 = n by omega, List.getElem?_map, List.getElem?_eq_getElem (by omega)]
  rfl
theorem Blk.snoc {u : Value} {xs : List Int} {hs : List (Value × List Int)} (h : Has w (rowF v 31 (hs.length + 1) (hs.map Prod.fst ++ [u]) :: poolc 5 hs :: Bytes u xs :: L)) : Has w (Blk v (hs.map (fun x => strOf x.2) ++ [strOf xs]) :: L) := by
 refine blk_iff.2 ⟨hs ++ [(u, xs)], by simp, ?_⟩
 have h1 : Has w (poolc 5 (hs ++ [(u, xs)]) :: rowF v 31 (hs.length + 1) (hs.map Prod.fst ++ [u]) :: L) := Has.pool_snoc (h.re 3 [2, 1, 0])
 rw [List.map_append, List.map_cons, List.map_nil, List.length_append, List.length_map, List.length_singleton]
 exact h1.p1
theorem Blk.one {u : Value} {xs : List Int} {g : Nat} (h : Has w (pt g (.cells #[u] 31) :: Bytes u xs :: L)) : Has w (Blk (.slice (some ⟨g, 0, none⟩) 1 1) [strOf xs] :: L) := by
 have h1 : Has w (rowF (.slice (some ⟨g, 0, none⟩) 1 1) 31 1 [u] :: Bytes u xs :: L) := h.rowF_of (by decide) (by decide) rfl rfl rfl
 exact Blk.snoc (hs := []) (Has.pool_nil (u8 := 5) h1).p1
theorem Blk.form (h : Has w (Blk v ls :: L)) (h0 : ls ≠ []) : ∃ s : Slv, v = slvV s ∧ s.p ≠ none := by
 obtain ⟨g, o, c, n, hv, xs, h1, h2, -⟩ := Blk.last h h0
 exact ⟨⟨some (g, o), ls.length, c⟩, h2, by simp⟩
end
abbrev tBm : TypeId := 214
theorem undBm : Tryz.prog.underlying tBm = some (.map tInt tSB) := by kernel_rfl
def FilC (b : Nat) (F : Fil) : HP := ex fun sv : Value => ex fun mb : Nat => star [pt b (.cells #[.int .i64 F.kind, sV F.target, sv, .map (some mb)] 216), rowF sv 3 F.sizes.length (ic F.sizes), Zm kInt vSB mb (fun s ls => Blk (slvV s) ls) F.blocks]
theorem filC_iff {w : World} {L : List HP} {b : Nat} {F : Fil} : Has w (FilC b F :: L) ↔ ∃ sv mb, Has w (pt b (.cells #[.int .i64 F.kind, sV F.target, sv, .map (some mb)] 216) :: rowF sv 3 F.sizes.length (ic F.sizes) :: Zm kInt vSB mb (fun s ls => Blk (slvV s) ls) F.blocks :: L) := by
 unfold FilC
 simp only [Has.ex_iff, Has.star_iff, List.cons_append, List.nil_append]
set_option maxRecDepth 100000 in
set_option maxHeartbeats 4000000 in
theorem mEqual (a b : Value) (xs ys : List Int) (w : World) (ha : Rd w a 1 xs.length (bc xs)) (hb : Rd w b 1 ys.length (bc ys)) :
  Calls Tryz.prog 221 #[a, b] w fun e w' => e = .returned (.bool (decide (strOf xs = strOf ys))) ∧ w = w' := by
 have h1 := strOf_conv ha
 have h2 := strOf_conv hb
 clear ha hb
 generalize strOf xs = s at *
 generalize strOf ys = t at *
 go_enter Tryz.func221, Tryz.ntmps221
 go_wp2_with fail
 go_ret
 exact ⟨by by_cases h : s = t <;> simp [h], rfl⟩
end Go.Proofs.YtmgpgbfgemebbaaGreatDoor
namespace Go.Proofs.YtmgpgbfgemebbaaGreatDoor
open Go.RowKit Go.Own
def Trg (q m f : Nat) (PB : List Pn) (last : Int) (T : List Tb.Slot) (PC : List Pn) : HP := star (pt q (.cells (treC m f last) 87) :: Mk kInt vPtr m (pnB PB) :: Tab f T :: pnC PC)
section
variable {w : World} {L : List HP} {q m f b : Nat} {P PB PC A B : List Pn} {last n : Int} {T : List Tb.Slot} {S : Tre} {x y : Nod}
theorem trg_iff : Has w (Trg q m f PB last T PC :: L) ↔ Has w (pt q (.cells (treC m f last) 87) :: Mk kInt vPtr m (pnB PB) :: Tab f T :: (pnC PC ++ L)) := by
 unfold Trg
 rw [Has.star_iff]
 rfl
theorem Trg.of (h : Has w (Trb q m f P last T :: L)) : Has w (Trg q m f P last T P :: L) := h
theorem pnC_app : pnC (A ++ B) = pnC A ++ pnC B := List.map_append
theorem Trg.pull (h : Has w (Trg q m f PB last T (A ++ (n, b, x) :: B) :: L)) : Has w (Ndc b x :: Trg q m f PB last T (A ++ B) :: L) := by
 have h1 : Has w (pt q (.cells (treC m f last) 87) :: Mk kInt vPtr m (pnB PB) :: Tab f T :: (pnC (A ++ B) ++ Ndc b x :: L)) := by
  refine (trg_iff.1 h).perm (.cons _ (.cons _ (.cons _ ?_)))
  rw [pnC_app, pnC_app]
  show (pnC A ++ Ndc b x :: pnC B ++ L).Perm (pnC A ++ pnC B ++ Ndc b x :: L)
  rw [List.append_assoc, List.append_assoc]
  refine List.Perm.append_left _ ?_
  exact List.perm_middle.symm
 exact (trg_iff.2 h1).perm (.swap _ _ _)
theorem Trg.push (n : Int) (h : Has w (Ndc b x :: Trg q m f PB last T PC :: L)) : Has w (Trg q m f PB last T ((n, b, x) :: PC) :: L) := by
 have h1 : Has w (Trg q m f PB last T PC :: Ndc b x :: L) := h.perm (.swap _ _ _)
 refine trg_iff.2 ((trg_iff.1 h1).perm (.cons _ (.cons _ (.cons _ ?_))))
 exact List.perm_middle
theorem Trg.close (h : Has w (Trg q m f PB last T PC :: L)) (hp : PC.Perm P) (hb : pnB P = pnB PB) (hn : pnN P = S.nodes) (hl : S.last = last) (ht : S.tab = T) (h16 : T.length = 16) : Has w (Trc q S :: L) := by
 refine trc_iff.2 ⟨m, f, P, ⟨hn, by rw [ht]; exact h16⟩, ?_⟩
 refine trb_iff.2 ?_
 rw [hb, hl, ht]
 refine (trg_iff.1 h).perm (.cons _ (.cons _ (.cons _ ?_)))
 exact List.Perm.append_right _ (hp.map _)
theorem Trg.cells (h : Has w (Trg q m f PB last T PC :: L)) : w.cell? ⟨q, 0, none⟩ = some (.map (some m)) ∧ w.cell? ⟨q, 1, none⟩ = some (.int .i64 last) ∧ w.cell? ⟨q, 2, none⟩ = some (.pointer (some ⟨f, 0, none⟩)) :=
 ⟨(trg_iff.1 h).cells 0, (trg_iff.1 h).cells 1, (trg_iff.1 h).cells 2⟩
theorem Trg.nodup (h : Has w (Trg q m f PB last T PC :: L)) : (PB.map Prod.fst).Nodup := by
 have := Mk.nodup (trg_iff.1 h).p1
 rwa [pnB_keys] at this
theorem Trg.look (h : Has w (Trg q m f PB last T PC :: L)) (hp : (n, b, x) ∈ PB) : (Instr.lookup tNo (.map (some m)) (.int .i64 n) false).run Tryz.prog w = .ok (.pointer (some ⟨b, 0, none⟩)) w := by
 have hk := (trg_iff.1 h).p1
 have hm : (n, some b) ∈ pnB PB := List.mem_map.2 ⟨_, hp, rfl⟩
 have h1 := Mk.look0 hk undNo (Mk.ok hk (List.mem_map_of_mem (f := Prod.fst) hm))
 rw [fnd_mem (Mk.nodup hk) hm] at h1
 exact h1
theorem Trg.perm {PC' : List Pn} (h : Has w (Trg q m f PB last T PC :: L)) (hp : PC.Perm PC') : Has w (Trg q m f PB last T PC' :: L) :=
 trg_iff.2 ((trg_iff.1 h).perm (.cons _ (.cons _ (.cons _ (List.Perm.append_right _ (hp.map _))))))
theorem Trg.pullP {R : List Pn} (h : Has w (Trg q m f PB last T PC :: L)) (hp : PC.Perm ((n, b, x) :: R)) : Has w (Ndc b x :: Trg q m f PB last T R :: L) :=
 Trg.pull (A := []) (Trg.perm h hp)
theorem pn_split2 {dir : Int} {d : Nod} (hd : fnd (pnN P) dir = some d) (hn : fnd (pnN P) n = some x) (hne : dir ≠ n) : ∃ b b2 R, P.Perm ((dir, b, d) :: (n, b2, x) :: R) := by
 obtain ⟨A, b, B, rfl⟩ := pn_split hd
 obtain ⟨A2, b2, B2, e⟩ := pn_split hn
 have hm : (n, b2, x) ∈ A ++ B := by
  have h1 : (n, b2, x) ∈ A ++ (dir, b, d) :: B := by rw [e]; simp
  rcases List.mem_append.1 h1 with h | h
  ·exact List.mem_append_left _ h
  ·rcases List.mem_cons.1 h with h | h
   ·simp only [Prod.mk.injEq] at h; exact absurd h.1.symm hne
   ·exact List.mem_append_right _ h
 obtain ⟨A3, B3, e3⟩ := List.append_of_mem hm
 refine ⟨b, b2, A3 ++ B3, List.perm_middle.trans (.cons _ ?_)⟩
 rw [e3]
 exact List.perm_middle
def rep2 (dir : Int) (d' : Nod) (n : Int) (x' : Nod) (p : Pn) : Pn := (p.1, p.2.1, if p.1 = n then x' else if p.1 = dir then d' else p.2.2)
theorem rep2_perm {dir : Int} {d d' x' : Nod} {b2 : Nat} {R : List Pn} (hp : P.Perm ((dir, b, d) :: (n, b2, x) :: R)) (hnd : (P.map Prod.fst).Nodup) (hne : dir ≠ n) : (P.map (rep2 dir d' n x')).Perm ((dir, b, d') :: (n, b2, x') :: R) := by
 refine (hp.map _).trans ?_
 have h1 := (hp.map Prod.fst).nodup hnd
 simp only [List.map_cons, List.nodup_cons, List.mem_cons, not_or] at h1
 obtain ⟨⟨-, h2⟩, h3, -⟩ := h1
 have e : R.map (rep2 dir d' n x') = R := by
  conv => rhs; rw [← List.map_id R]
  refine List.map_congr_left fun p hp => ?_
  have e1 : p.1 ≠ n := fun e => h3 (e ▸ List.mem_map_of_mem hp)
  have e2 : p.1 ≠ dir := fun e => h2 (e ▸ List.mem_map_of_mem hp)
  simp [rep2, e1, e2]
 rw [List.map_cons, List.map_cons, e]
 simp [rep2, hne]
theorem rep2_pnB {dir : Int} {d' x' : Nod} : pnB (P.map (rep2 dir d' n x')) = pnB P := by
 unfold pnB
 rw [List.map_map]
 rfl
theorem rep2_pnN {dir : Int} {d' x' : Nod} (hd : dir ∈ (pnN P).map Prod.fst) (hn : n ∈ (pnN P).map Prod.fst) : pnN (P.map (rep2 dir d' n x')) = putA (putA (pnN P) dir d') n x' := by
 have e : putA (pnN P) dir d' = (pnN P).map (fun p => if p.1 = dir then (dir, d') else p) := if_pos hd
 have hk : n ∈ ((pnN P).map (fun p => if p.1 = dir then (dir, d') else p)).map Prod.fst := by rw [putA_keys _ _ _ hd]; exact hn
 rw [e]
 unfold putA
 rw [if_pos hk]
 unfold pnN
 rw [List.map_map, List.map_map, List.map_map]
 refine List.map_congr_left fun p _ => ?_
 simp only [Function.comp_apply, rep2]
 by_cases e1 : p.1 = dir
 ·by_cases e2 : p.1 = n
  ·simp [e1, ← e2]
  ·simp [e1, show ¬ dir = n from fun h => e2 (e1.trans h)]
 ·by_cases e2 : p.1 = n
  ·have e3 : ¬ n = dir := fun h => e1 (e2.trans h)
   simp [e2, e3]
  ·simp [e1, e2]
end
end Go.Proofs.YtmgpgbfgemebbaaGreatDoor
namespace Go.Proofs.YtmgpgbfgemebbaaGreatDoor
open Go.RowKit Go.Own
def andI (x y : Int) : Int := bits BinOp.and IntKind.i64 x y
structure Ans where
 code : Int
 n : Int
 kind : Int
 links : Int
 data : List Int
 names : List Str
def ansE (e : Int) : Ans := ⟨e, 0, 0, 0, [], []⟩
def wrSet (ws : List Bool) (a b : Nat) : List Bool := ws.zipIdx.map fun p => p.1 || (decide (a ≤ p.2) && decide (p.2 < b))
def nodWrite (x : Nod) (off : Nat) (ds : List Int) : Nod :=
 let y := nodCut x (max x.data.length (off + ds.length))
 { y with data := y.data.take off ++ ds ++ y.data.drop (off + ds.length), wr := wrSet (y.wr ++ List.replicate (needM (off + ds.length) - y.wr.length) false) (off / 128) (needM (off + ds.length)) }
namespace Tre
variable (S : Tre)
def file (fd : Int) (wr : Bool) : Tb.Slot × Int :=
 if (Tb.get S.tab fd).2 ≠ 0 then (Tb.none4, 10) else if wr = true ∧ andI (Tb.get S.tab fd).1.flags 32 = 0 then (Tb.none4, 10) else if (S.at_ (Tb.get S.tab fd).1.node).kind = 2 then (Tb.none4, 8) else ((Tb.get S.tab fd).1, 0)
def read (kind fd n off : Int) : Ans × Tre :=
 let g := S.file fd false
 if g.2 ≠ 0 then (ansE g.2, S)
 else if n < 0 ∨ (kind = 5 ∧ off < 0) then (ansE 2, S)
 else
  let o := if kind = 5 then off else g.1.off
  let ds := ((S.at_ g.1.node).data.drop o.toNat).take n.toNat
  (⟨0, 0, 0, 0, ds, []⟩, if kind = 3 then { S with tab := (Tb.mov S.tab fd (o + ds.length)).2 } else S)
def write (kind fd off : Int) (ds : List Int) : Ans × Tre :=
 let g := S.file fd true
 if g.2 ≠ 0 then (ansE g.2, S)
 else if kind = 6 ∧ off < 0 then (ansE 2, S)
 else
  let o := if kind = 6 then off else if andI g.1.flags 8 ≠ 0 then ((S.at_ g.1.node).data.length : Int) else g.1.off
  if o > 20736 - (min ds.length 20736 : Nat) ∨ 20736 < ds.length then (ansE 15, S)
  else if ds.length = 0 then (ansE 0, S)
  else
   let S1 := S.setN g.1.node (nodWrite (S.at_ g.1.node) o.toNat ds)
   (⟨0, ds.length, 0, 0, [], []⟩, if kind = 4 then { S1 with tab := (Tb.mov S1.tab fd (o + ds.length)).2 } else S1)
def seek (fd n off : Int) : Ans × Tre :=
 let g := S.file fd false
 if g.2 ≠ 0 then (ansE g.2, S)
 else
  let from_ : Int := if n = 1 then g.1.off else if n = 2 then ((S.at_ g.1.node).data.length : Int) else 0
  if ¬ (n = 0 ∨ n = 1 ∨ n = 2) then (ansE 2, S)
  else if off < - from_ ∨ off > 1099511627776 - from_ then (ansE 2, S)
  else (⟨0, from_ + off, 0, 0, [], []⟩, { S with tab := (Tb.mov S.tab fd (from_ + off)).2 })
def trunc (fd off : Int) : Ans × Tre :=
 let g := S.file fd true
 if g.2 ≠ 0 then (ansE g.2, S)
 else if off < 0 then (ansE 2, S)
 else if off > 20736 then (ansE 15, S)
 else (ansE 0, S.resize g.1.node off.toNat)
def stat (p : Str) (fo : Bool) : Ans :=
 let r := S.find p fo
 if r.2 ≠ 0 then ansE r.2 else
  ⟨0, (S.at_ r.1.node).data.length + (S.at_ r.1.node).names.length, (S.at_ r.1.node).kind, (S.at_ r.1.node).links, [], []⟩
def mkdir (p : Str) : Ans × Tre :=
 let r := S.fresh p
 if r.2 ≠ 0 then (ansE r.2, S) else (ansE 0, S.make r.1 2 [])
def openAt (s : Spt) (flags : Int) : Ans × Tre :=
 if s.node ≠ 0 ∧ (S.at_ s.node).kind = 2 ∧ andI flags 32 ≠ 0 then (ansE 8, S)
 else if 16 ≤ (Tb.lst S.tab 16).length then (ansE 14, S)
 else
  let S1 := if s.node = 0 then S.make s 1 [] else S
  let n := if s.node = 0 then S.last + 1 else s.node
  let S2 := if andI flags 4 ≠ 0 then S1.resize n 0 else S1
  let r := Tb.opn S2.tab n flags
  (⟨r.1.2, r.1.1, 0, 0, [], []⟩, { S2 with tab := r.2 })
def openFd (p : Str) (flags : Int) : Ans × Tre :=
 if flags < 0 ∨ 64 ≤ flags ∨ (andI flags 12 ≠ 0 ∧ andI flags 32 = 0) then (ansE 2, S)
 else if andI flags 1 ≠ 0 then
  if (S.place p).2 ≠ 0 then (ansE (S.place p).2, S)
  else if (S.place p).1.node ≠ 0 ∧ andI flags 2 ≠ 0 then (ansE 6, S)
  else if (S.place p).1.node ≠ 0 ∨ (S.place p).1.dir = 0 then
   if (S.find p true).2 ≠ 0 then (ansE (S.find p true).2, S) else S.openAt (S.find p true).1 flags
  else S.openAt (S.place p).1 flags
 else if (S.find p true).2 ≠ 0 then (ansE (S.find p true).2, S) else S.openAt (S.find p true).1 flags
end Tre
end Go.Proofs.YtmgpgbfgemebbaaGreatDoor
namespace Go.Own
open Go.RowKit
section
variable {P : Program} {ops : Array Oper} {rest : List Oper} {o : Oper} {a : Act} {Q : Exit → Act → World → Prop} {w : World} {l : List HP}
theorem wpList_allocAs (hgd : o.guard = none) (t : TypeId) (ho : o.op = .alloc t) (C : Array Value) (hz : ∀ w, (zeroValue t).run P w = .ok (.agg C) w)
  (h : wpList P ops Q rest (a.put o.dst (.pointer (some ⟨w.heap.size, 0, none⟩))) (w.alloc (.cells C t))) : wpList P ops Q (o :: rest) a w := by
 refine wpList_plain hgd fun K hK => ?_
 unfold Oper.wp execOp
 simp only [ho, Instr.alloc, newVar, newRow, Value.cells, Sem.run_bind, Sem.run_pure, Result.andThen_ok, hz]
 exact hK _ _ h
theorem wpList_storeAt (hgd : o.guard = none) (t : TypeId) (x y : Operand) (ho : o.op = .store t x y) (b off : Nat) (C D : Array Value) (T : TypeId) (hO : Has w (pt b (.cells C T) :: l)) (hx : a.eval x = .pointer (some ⟨b, off, none⟩)) (hy : a.eval y = .agg D)
  (hs : ∀ w, (sizeOf t).run P w = .ok D.size w) (h1 : ∀ v ∈ D.toList, v.oneCell' = true) (hfit : off + D.size ≤ C.size)
  (h : ∀ w', Has w' (pt b (.cells (C.toList.take off ++ D.toList ++ C.toList.drop (off + D.size)).toArray T) :: l) → Keep w w' → wpList P ops Q rest (a.put o.dst undef) w') : wpList P ops Q (o :: rest) a w := by
 refine wpList_plain hgd fun K hK => ?_
 have hst := run_storeCells_at P b off T D.toList 0 C w hO.lookup (by simpa using hfit) h1
 simp only [Nat.add_zero, Array.length_toList] at hst
 unfold Oper.wp execOp
 simp only [ho, Instr.storeAt, Instr.sureAddr, storeVar, Value.cells, hx, hy, Sem.run_bind, Sem.run_pure, Result.andThen_ok, hs, ne_eq, not_true, if_false, hst]
 exact hK _ _ (h _ (hO.turn (fun k _ hk => setRow_other w b k _ hk) (setRow_heap w b C _ T _ hO.lookup)) ⟨rfl, rfl, rfl, by simp⟩)
end
end Go.Own
namespace Go.Proofs.YtmgpgbfgemebbaaGreatDoor
open Go.RowKit Go.Own
def spC (s : Spt) : Array Value := #[.int .i64 s.node, .int .i64 s.dir, sV s.name]
def spV (s : Spt) : Value := .agg (spC s)
def slLen : Value → Nat
 | .slice _ n _ => n
 | _ => 0
theorem _root_.Go.Own.Has.spt {w : World} {l : List HP} {b : Nat} {s0 : Spt} (h : Has w (pt b (.cells (spC s0) 102) :: l)) (s : Spt) : Has (((w.setCell ⟨b, 0, none⟩ (.int .i64 s.node)).setCell ⟨b, 1, none⟩ (.int .i64 s.dir)).setCell ⟨b, 2, none⟩ (sV s.name)) (pt b (.cells (spC s) 102) :: l) :=
 ((h.set 0 (.int .i64 s.node)).set 1 (.int .i64 s.dir)).set 2 (sV s.name)
theorem _root_.Go.Own.Keep.spt {w0 w : World} (h : Keep w0 w) (b : Nat) (x y z : Value) : Keep w0 (((w.setCell ⟨b, 0, none⟩ x).setCell ⟨b, 1, none⟩ y).setCell ⟨b, 2, none⟩ z) := ((h.set _ _).set _ _).set _ _
theorem spt_result {fn : Func} {p p2 : Tmp} {tmps : Array Value} {w : World} {L : List HP} {r : Nat} {e : Value} (s : Spt) (h : fn.results = #[.cell p 102, .tmp p2]) (ht : tmps.getD p undef = .pointer (some ⟨r, 0, none⟩)) (he : tmps.getD p2 undef = e) (hO : Has w (pt r (.cells (spC s) 102) :: L)) :
  (results fn tmps).run Tryz.prog w = .ok (.tuple #[spV s, e]) w := by
 have h0 : w.cell? ⟨r, 0, none⟩ = some (.int .i64 s.node) := hO.cells 0
 have h1 : w.cell? ⟨r, 1, none⟩ = some (.int .i64 s.dir) := hO.cells 1
 have h2 : w.cell? ⟨r, 2, none⟩ = some (sV s.name) := hO.cells 2
 unfold results spV spC
 rw [h]
 have ht2 : tmps[p]?.getD undef = .pointer (some ⟨r, 0, none⟩) := by rw [← ht]; simp
 have he2 : tmps[p2]?.getD undef = e := by rw [← he]; simp
 clear hO h ht he
 go_simp
set_option maxRecDepth 100000 in
set_option maxHeartbeats 4000000 in
theorem tWalk (q : Nat) (S : Tre) (at0 : Int) (v : Value) (parts : List Str) (fo : Bool) (mx : Int) (w : World) (L : List HP) (hW : Wk S) (hM : MxL mx L) (hat : ∃ x, fnd S.nodes at0 = some x) (hp : parts.length ≤ 800) (h24 : ∀ p ∈ parts, p.length ≤ 24) (hO : Has w (VwS v parts :: Trc q S :: L)) :
  Calls Tryz.prog 144 #[.pointer (some ⟨q, 0, none⟩), .int .i64 at0, v, .bool fo] w fun e w' => e = .returned (.tuple #[spV (S.walk ⟨at0, 0, []⟩ 0 parts fo).1, .int .i64 (S.walk ⟨at0, 0, []⟩ 0 parts fo).2]) ∧ Has w' (Trc q S :: L) ∧ Keep w w' := by
 obtain ⟨pv, cv, rfl, -⟩ := (VwS.rd hO).form
 have HW := hid hW
 have HM := hid hM
 have HPn := hid hp
 have H24 := hid h24
 have h2 : Has w (Trc q S :: VwS (.slice pv parts.length cv) parts :: L) := hO.re 2 [1, 0]
 obtain ⟨m, f, P, ⟨hP, hT⟩, h⟩ := trc_iff.1 h2
 have HPT := hid (And.intro hP hT)
 have HO := hid (show Has w (VwS (.slice pv parts.length cv) parts :: Trb q m f P S.last S.tab :: L) from h.re 2 [1, 0])
 generalize hR : S.walk ⟨at0, 0, []⟩ 0 parts fo = R
 have HR := hid hR
 clear hW hM hp h24 hO h2 h hP hT hR
 go_enter Tryz.func144, Tryz.ntmps144
 go_wp2_with fail
 go_step3
 go_wp2_with fail
 go_step3
 go_wp2_with fail
 go_loopw [2, 11] (fun a i w' => ∃ (s : Spt) (hops : Nat) (ps : List Str), i = .int .i64 hops ∧ hops ≤ 8 ∧ ps.length ≤ 800 + 20 * hops ∧ (∃ x, fnd S.nodes s.node = some x) ∧ slLen a = ps.length ∧ Hid (∀ p ∈ ps, p.length ≤ 24) ∧ Hid (S.walk s hops ps fo = R) ∧ Hid (Has w' (VwS a ps :: pt (w.heap.size + 1) (.cells (spC s) 102) :: pt w.heap.size (.cells (spC spt0) 102) :: Trb q m f P S.last S.tab :: L)) ∧ Hid (Keep w w')) (fun a i _ => (9 - (intOf i).toNat) * 21 + slLen a)
 case atStart =>
  refine ⟨⟨at0, 0, []⟩, 0, parts, rfl, by omega, HPn.out, hat, rfl, H24, HR, hid ?_, hid ?_⟩
  ·have h1 := (HO.out.alloc (.cells (spC spt0) 102)).alloc (.cells (spC ⟨at0, 0, []⟩) 102)
   have e : (w.alloc (.cells (spC spt0) 102)).heap.size = w.heap.size + 1 := Array.size_push _
   rw [e] at h1
   exact h1.re 3 [2, 0, 1]
  ·exact ((Keep.refl w).alloc _).alloc _
 case round =>
  obtain ⟨s, hops, ps, rfl, hh, hpl, ⟨x, hx⟩, hsl, H24, HR, HO, HK⟩ := hrel
  have hne : w.heap.size + 1 ≠ w.heap.size := by omega
  generalize w.heap.size = g8 at *
  generalize g8 + 1 = g10 at *
  have hc80 : wr.cell? ⟨g8, 0, none⟩ = some (.int .i64 0) := HO.out.p2.cells 0
  have hc81 : wr.cell? ⟨g8, 1, none⟩ = some (.int .i64 0) := HO.out.p2.cells 1
  have hc82 : wr.cell? ⟨g8, 2, none⟩ = some (sV []) := HO.out.p2.cells 2
  have hcs0 : wr.cell? ⟨g10, 0, none⟩ = some (.int .i64 s.node) := HO.out.p1.cells 0
  have hcs1 : wr.cell? ⟨g10, 1, none⟩ = some (.int .i64 s.dir) := HO.out.p1.cells 1
  have hcs2 : wr.cell? ⟨g10, 2, none⟩ = some (sV s.name) := HO.out.p1.cells 2
  have ht0 := HO.out.p1.thaw 0
  have ht1 := HO.out.p1.thaw 1
  have ht2 := HO.out.p1.thaw 2
  have ht80 := HO.out.p2.thaw 0
  have ht81 := HO.out.p2.thaw 1
  have ht82 := HO.out.p2.thaw 2
  rcases ps with _ | ⟨p, ps⟩
  ·have HRR := hid (show R = (s, 0) from by rw [← HR.out, Tre.walk])
   obtain ⟨pp, pc, rfl, -⟩ := (VwS.rd HO.out).form
   go_wp2_with fail
   try rw [Exit.noGoto_ret]
   have h1 := (show Has wr (pt g8 (.cells (spC spt0) 102) :: Trb q m f P S.last S.tab :: L) from HO.out.re 4 [2, 3]).spt s
   refine bodyPost_ret (spt_result s rfl rfl rfl h1) rfl ?_
   rw [HRR.out]
   exact ⟨rfl, trc_iff.2 ⟨m, f, P, HPT.out, h1.drop⟩, HK.out.spt _ _ _ _⟩
  ·obtain ⟨pp, pc, rfl, -, -, hcs⟩ := (VwS.rd HO.out.drew).form
   obtain ⟨gv, ov, rfl, hcs2⟩ := hcs (by simp)
   have hcv : wr.drew.cell? ⟨gv, ov, none⟩ = some (sV p) := hcs2 0 (by simp)
   have HOt := hid (show Has wr (Trb q m f P S.last S.tab :: VwS (.slice (some ⟨gv, ov, none⟩) (p :: ps).length pc) (p :: ps) :: pt g10 (.cells (spC s) 102) :: pt g8 (.cells (spC spt0) 102) :: L) from HO.out.re 4 [3, 0, 1, 2])
   have hx' := hx
   rw [← HPT.out.1] at hx'
   obtain ⟨b, hb, hl⟩ := Trb.look HOt.out.drew hx'
   obtain ⟨dv, wv, nm, hnm, hc, -, hlk⟩ := Trb.node2 HOt.out.drew hb
   have hcb0 : wr.drew.cell? ⟨b, 0, none⟩ = some (.int .i64 x.kind) := hc 0
   have hcb3 : wr.drew.cell? ⟨b, 3, none⟩ = some (.map nm) := hc 3
   have hcq := (Trb.cells HOt.out.drew).1
   have hln : ((p :: ps).length : Int) = (ps.length : Int) + 1 := by simp
   have hln0 : (0 : Int) ≤ (ps.length : Int) := by omega
   have HOd := hid HO.out.drew
   have HKd := hid HK.out.drew
   clear hcs hcs2 hc
   go_upto_region 4 with fail
   refine region_text (fun w' => w'.cell? ⟨gv, ov, none⟩ = some (sV p) ∧ w'.cell? ⟨q, 0, none⟩ = some (.map (some m)) ∧ w'.cell? ⟨g10, 0, none⟩ = some (.int .i64 s.node) ∧ (Instr.lookup tNo (.map (some m)) (.int .i64 s.node) false).run Tryz.prog w' = .ok (.pointer (some ⟨b, 0, none⟩)) w') (by kernel_rfl) (by kernel_rfl) ⟨hcv, hcq, hcs0, hl⟩ ?_
   repeat (first | refine wr4 ?_ | refine wk ?_)
   refine wpL_nil ?_
   go_upto_region 5 with fail
   go_cut [2] (fun a wx => ∃ (p2 : Option Addr) (c2 : Nat), a = .slice p2 ps.length c2 ∧ wx = wr.drew ∧ Hid (Has wx (VwS (.slice p2 ps.length c2) ps :: Trb q m f P S.last S.tab :: pt g10 (.cells (spC s) 102) :: pt g8 (.cells (spC spt0) 102) :: L)))
   case first =>
    have hvt := hid ((VwS.tail HOd.out).re 4 [0, 3, 1, 2])
    by_cases hpc : pc = 1
    ·subst hpc
     go_wp2_with fail
     all_goals go_meet
     all_goals refine ⟨_, _, rfl, rfl, hid ?_⟩
     all_goals exact hvt.out
    ·go_wp2_with fail
     all_goals go_meet
     all_goals refine ⟨_, _, rfl, rfl, hid ?_⟩
     all_goals have e0 := hvt.out
     all_goals rw [if_neg hpc] at e0
     all_goals exact e0
   case rest =>
    obtain ⟨p2, c2, rfl, rfl, HOv⟩ := hcut
    have hps0 : (0 : Int) ≤ (ps.length : Int) := by omega
    clear hcs0 hcs1 hcs2 ht0 ht1 ht2 hc80 hc81 hc82 ht80 ht81 ht82 hcv
    have hc80 : wr.drew.cell? ⟨g8, 0, none⟩ = some (.int .i64 0) := HOv.out.p3.cells 0
    have hc81 : wr.drew.cell? ⟨g8, 1, none⟩ = some (.int .i64 0) := HOv.out.p3.cells 1
    have hc82 : wr.drew.cell? ⟨g8, 2, none⟩ = some (sV []) := HOv.out.p3.cells 2
    have hcs0 : wr.drew.cell? ⟨g10, 0, none⟩ = some (.int .i64 s.node) := HOv.out.p2.cells 0
    have hcs1 : wr.drew.cell? ⟨g10, 1, none⟩ = some (.int .i64 s.dir) := HOv.out.p2.cells 1
    have hcs2 : wr.drew.cell? ⟨g10, 2, none⟩ = some (sV s.name) := HOv.out.p2.cells 2
    have ht0 := HOv.out.p2.thaw 0
    have ht1 := HOv.out.p2.thaw 1
    have ht2 := HOv.out.p2.thaw 2
    have ht80 := HOv.out.p3.thaw 0
    have ht81 := HOv.out.p3.thaw 1
    have ht82 := HOv.out.p3.thaw 2
    have hat : S.at_ s.node = x := by unfold Tre.at_; rw [hx]; rfl
    generalize wr.drew = w1 at *
    have H24t := hid (fun (p' : Str) (hp' : p' ∈ ps) => H24.out p' (List.mem_cons_of_mem _ hp'))
    have h24p := H24.out p (List.mem_cons_self ..)
    have HUX := hid (show ∃ y, fnd S.nodes (S.up s.node) = some y from by
     unfold Tre.up
     rw [hat]
     by_cases h0 : x.above = 0
     ·rw [if_pos h0]; exact ⟨x, hx⟩
     ·rw [if_neg h0]; exact HW.out.above _ _ hx h0)
    by_cases hk : x.kind = 2
    ·obtain ⟨mm, rfl⟩ := hnm hk
     by_cases hpp : p = [46, 46]
     ·subst hpp
      have HR2 := hid (show S.walk ⟨S.up s.node, 0, []⟩ hops ps fo = R from by rw [← HR.out, Tre.walk, if_neg (by rw [hat, hk]; simp), if_pos rfl])
      have HA := hid (tAbove q S s.node x w1 (VwS (.slice p2 ps.length c2) ps :: pt g10 (.cells (spC s) 102) :: pt g8 (.cells (spC spt0) 102) :: L) hx (trc_iff.2 ⟨m, f, P, HPT.out, HOv.out.re 4 [1, 0, 2, 3]⟩))
      clear hlk hnm
      go_wp2_with fail
      refine (HA.out).mono ?_
      rintro e w' ⟨rfl, rfl⟩
      try dsimp only
      go_wp2_with fail
      have h1 := (show Has w1 (pt g10 (.cells (spC s) 102) :: VwS (.slice p2 ps.length c2) ps :: pt g8 (.cells (spC spt0) 102) :: Trb q m f P S.last S.tab :: L) from HOv.out.re 4 [2, 0, 3, 1]).spt ⟨S.up s.node, 0, []⟩
      refine ⟨⟨⟨S.up s.node, 0, []⟩, hops, ps, rfl, hh, by simp only [List.length_cons] at hpl; omega, HUX.out, rfl, H24t, HR2, hid (h1.re 4 [1, 0, 2, 3]), hid (HKd.out.spt _ _ _ _)⟩, ?_⟩
      simp [intOf, slLen]
     ·have hpe : (p == [46, 46]) = false := by simpa using hpp
      have hlk1 := (hlk mm rfl p (by omega)).1
      clear hlk
      rcases hf : fnd x.names p with _ | c
      ·have HRR := hid (show R = (spt0, 5) from by rw [← HR.out, Tre.walk, if_neg (by rw [hat, hk]; simp), if_neg hpp, hat, hf])
       rw [hf] at hlk1
       go_wp2_with fail
       try rw [Exit.noGoto_ret]
       have h1 := (show Has w1 (pt g8 (.cells (spC spt0) 102) :: Trb q m f P S.last S.tab :: L) from HOv.out.re 4 [3, 1]).spt spt0
       refine bodyPost_ret (spt_result spt0 rfl rfl rfl h1) rfl ?_
       rw [HRR.out]
       exact ⟨rfl, trc_iff.2 ⟨m, f, P, HPT.out, h1.drop⟩, HKd.out.spt _ _ _ _⟩
      ·rw [hf] at hlk1
       have hlk2 : (Instr.lookup tNm (.map (some mm)) (sV p) true).run Tryz.prog w1 = .ok (.tuple #[.int .i64 c, .bool true]) w1 := hlk1
       clear hlk1
       obtain ⟨y, hy⟩ := HW.out.child _ _ hx _ _ hf
       have hy' := hy
       rw [← HPT.out.1] at hy'
       obtain ⟨b2, hb2, hl2⟩ := Trb.look HOv.out.drop hy'
       obtain ⟨dv2, wv2, nm2, -, hcy, hrd, -⟩ := Trb.node2 HOv.out.drop hb2
       have hcy0 : w1.cell? ⟨b2, 0, none⟩ = some (.int .i64 y.kind) := hcy 0
       have hcy1 : w1.cell? ⟨b2, 1, none⟩ = some dv2 := hcy 1
       have hay : S.at_ c = y := by unfold Tre.at_; rw [hy]; rfl
       clear hcy
       go_upto_region 14 with fail
       go_cut [82] (fun a wx => a = .bool (decide (y.kind = 3 ∧ (ps ≠ [] ∨ fo = true))) ∧ wx = w1)
       case first =>
        by_cases hk3 : y.kind = 3
        ·by_cases hpl0 : (0 : Int) < (ps.length : Int)
         ·have HB := hid (show decide (y.kind = 3 ∧ (ps ≠ [] ∨ fo = true)) = true from decide_eq_true ⟨hk3, .inl (by rintro rfl; simp at hpl0)⟩)
          have hpn : ¬ ps = [] := by rintro rfl; simp at hpl0
          have hpl1 : 0 < ps.length := by omega
          go_wp2_with fail
          go_meet
          exact ⟨by rw [HB.out], rfl⟩
         ·have hnil : ps = [] := by
           have : ps.length = 0 := by omega
           simpa using this
          have HB := hid (show decide (y.kind = 3 ∧ (ps ≠ [] ∨ fo = true)) = fo from by subst hnil; cases fo <;> simp [hk3])
          subst hnil
          go_wp2_with fail
          go_meet
          exact ⟨by rw [HB.out], rfl⟩
        ·have HB := hid (show decide (y.kind = 3 ∧ (ps ≠ [] ∨ fo = true)) = false from decide_eq_false fun h => hk3 h.1)
         go_wp2_with fail
         go_meet
         exact ⟨by rw [HB.out], rfl⟩
       case rest =>
        obtain ⟨rfl, hwx⟩ := hcut
        have hwx2 := hwx.symm
        subst hwx2
        by_cases hlink : y.kind = 3 ∧ (ps ≠ [] ∨ fo = true)
        ·rw [decide_eq_true hlink]
         have hsl8 : (strOf y.data).length ≤ 100000 := by unfold strOf; rw [List.length_map]; exact HW.out.data _ _ hy hlink.1
         have hcvt := strOf_conv hrd
         have hml := Tre.more_len (strOf y.data)
         have hms := more_short (strOf y.data)
         have hwk : S.walk s hops (p :: ps) fo = if h : 8 ≤ hops then (spt0, 12) else S.walk ⟨if (targetM (strOf y.data)).2.1 = true then 1 else s.node, 0, []⟩ (hops + 1) ((targetM (strOf y.data)).1 ++ ps) fo := by
          rw [Tre.walk, if_neg (by rw [hat, hk]; simp), if_neg hpp, hat, hf]
          show (if (S.at_ c).kind = 3 ∧ (ps ≠ [] ∨ fo = true) then _ else _) = _
          rw [if_pos (by rw [hay]; exact hlink), hay]
         rw [hwk] at HR
         have HPT3 := hid (fun (w : World) (L' : List HP) (hM : MxL mx L') (hO : Has w L') => pTarget (strOf y.data) mx w L' hM hsl8 hO)
         generalize hTM : targetM (strOf y.data) = TM at *
         obtain ⟨more, whole, e3⟩ := TM
         dsimp only at HR HPT3 hml hms
         generalize strOf y.data = str at *
         clear hwk hTM hsl8 hlink hcy0
         by_cases hh8 : hops = 8
         ·have HRR := hid (show R = (spt0, 12) from by rw [← HR.out, dif_pos (by omega)])
          subst hh8
          rw [show ((8 : Nat) : Int) = 8 from rfl]
          go_wp2_with fail
          try rw [Exit.noGoto_ret]
          have h1 := (show Has w1 (pt g8 (.cells (spC spt0) 102) :: Trb q m f P S.last S.tab :: L) from HOv.out.re 4 [3, 1]).spt spt0
          refine bodyPost_ret (spt_result spt0 rfl rfl rfl h1) rfl ?_
          rw [HRR.out]
          exact ⟨rfl, trc_iff.2 ⟨m, f, P, HPT.out, h1.drop⟩, HKd.out.spt _ _ _ _⟩
         ·have hh7 : (hops : Int) < 8 := by omega
          have hh0 : (0 : Int) ≤ (hops : Int) := by omega
          have HR3 := hid (show S.walk ⟨if whole = true then 1 else s.node, 0, []⟩ (hops + 1) (more ++ ps) fo = R from by rw [← HR.out, dif_neg (by omega)])
          have HNX := hid (show ∃ y, fnd S.nodes (if whole = true then 1 else s.node) = some y from by cases whole <;> first | exact ⟨x, hx⟩ | exact HW.out.root)
          have HLN := hid (show more.length + ps.length ≤ 1000 ∧ (more ++ ps).length ≤ 800 + 20 * (hops + 1) ∧ hops + 1 ≤ 8 ∧ (9 - (hops + 1)) * 21 + (more ++ ps).length < (9 - hops) * 21 + (ps.length + 1) from by simp only [List.length_cons, List.length_append] at *; omega)
          have H24n := hid (show ∀ p' ∈ more ++ ps, p'.length ≤ 24 from fun p' hp' => (List.mem_append.1 hp').elim (hms p') (H24t.out p'))
          obtain ⟨pd, cd, rfl, -⟩ := hrd.form
          clear hrd hml hms hh8 HR
          go_wp2_with fail
          refine (HPT3.out w1 _ ((((HM.out.cons _).cons _).cons _).cons _) HOv.out).mono ?_
          rintro e w2 ⟨v2, rfl, hO2, hK2⟩
          have HO2 := hid hO2
          have HK2 := hid ((HKd.out).trans hK2)
          clear hO2 hK2
          try dsimp only
          obtain ⟨pv2, cv2, rfl, -⟩ := (Strs.rd HO2.out).form
          go_wp2_with fail
          refine (concatS _ _ _ more ps _ _ (HO2.out.alloc _) (fun w' h => Strs.rd h) (fun w' h => VwS.rd h.drop) HLN.out.1).mono ?_
          rintro e w3 ⟨v3, rfl, hO3, hK3⟩
          have HO3 := hid hO3
          have HK3 := hid ((HK2.out.alloc _).trans hK3)
          clear hO3 hK3
          try dsimp only
          generalize w2.heap.size = gc at *
          obtain ⟨pv3, cv3, rfl, -⟩ := (Strs.rd HO3.out).form
          have HOn := hid (show Has w3 (pt g10 (.cells (spC s) 102) :: VwS (.slice pv3 (more ++ ps).length cv3) (more ++ ps) :: pt g8 (.cells (spC spt0) 102) :: Trb q m f P S.last S.tab :: L) from (VwS.of (HO3.out.re 7 [0, 5, 6, 4])).re 4 [1, 0, 2, 3])
          clear hcs0 hcs1 hcs2 ht0 ht1 ht2 hc80 hc81 hc82 ht80 ht81 ht82
          have hcs0 : w3.cell? ⟨g10, 0, none⟩ = some (.int .i64 s.node) := HOn.out.cells 0
          have hcs1 : w3.cell? ⟨g10, 1, none⟩ = some (.int .i64 s.dir) := HOn.out.cells 1
          have hcs2 : w3.cell? ⟨g10, 2, none⟩ = some (sV s.name) := HOn.out.cells 2
          have ht0 := HOn.out.thaw 0
          have ht1 := HOn.out.thaw 1
          have ht2 := HOn.out.thaw 2
          cases whole
          ·go_wp2_with fail
           have h1 := HOn.out.spt ⟨s.node, 0, []⟩
           refine ⟨⟨⟨s.node, 0, []⟩, hops + 1, more ++ ps, by go_num, HLN.out.2.2.1, HLN.out.2.1, HNX.out, rfl, H24n, HR3, hid (h1.re 4 [1, 0, 2, 3]), hid (HK3.out.spt _ _ _ _)⟩, ?_⟩
           have := HLN.out.2.2.2
           rw [List.length_append] at this
           simp [intOf, slLen]
           omega
          ·go_wp2_with fail
           have h1 := (HOn.out.spt ⟨s.node, 0, []⟩).spt ⟨1, 0, []⟩
           refine ⟨⟨⟨1, 0, []⟩, hops + 1, more ++ ps, by go_num, HLN.out.2.2.1, HLN.out.2.1, HNX.out, rfl, H24n, HR3, hid (h1.re 4 [1, 0, 2, 3]), hid ((HK3.out.spt _ _ _ _).spt _ _ _ _)⟩, ?_⟩
           have := HLN.out.2.2.2
           rw [List.length_append] at this
           simp [intOf, slLen]
           omega
        ·rw [decide_eq_false hlink]
         have HR2 := hid (show S.walk ⟨c, s.node, p⟩ hops ps fo = R from by
          rw [← HR.out, Tre.walk, if_neg (by rw [hat, hk]; simp), if_neg hpp, hat, hf]
          show _ = if (S.at_ c).kind = 3 ∧ (ps ≠ [] ∨ fo = true) then _ else _
          rw [if_neg (by rw [hay]; exact hlink)])
         have HYX := hid (show ∃ y, fnd S.nodes c = some y from ⟨y, hy⟩)
         clear hl2 hrd hcy0 hcy1 hlink
         go_wp2_with fail
         have h1 := (show Has w1 (pt g10 (.cells (spC s) 102) :: VwS (.slice p2 ps.length c2) ps :: pt g8 (.cells (spC spt0) 102) :: Trb q m f P S.last S.tab :: L) from HOv.out.re 4 [2, 0, 3, 1]).spt ⟨c, s.node, p⟩
         refine ⟨⟨⟨c, s.node, p⟩, hops, ps, rfl, hh, by simp only [List.length_cons] at hpl; omega, HYX.out, rfl, H24t, HR2, hid (h1.re 4 [1, 0, 2, 3]), hid (HKd.out.spt _ _ _ _)⟩, ?_⟩
         simp [intOf, slLen]
    ·have HRR := hid (show R = (spt0, 7) from by rw [← HR.out, Tre.walk, if_pos (by rw [hat]; exact hk)])
     go_wp2_with fail
     try rw [Exit.noGoto_ret]
     have h1 := (show Has w1 (pt g8 (.cells (spC spt0) 102) :: Trb q m f P S.last S.tab :: L) from HOv.out.re 4 [3, 1]).spt spt0
     refine bodyPost_ret (spt_result spt0 rfl rfl rfl h1) rfl ?_
     rw [HRR.out]
     exact ⟨rfl, trc_iff.2 ⟨m, f, P, HPT.out, h1.drop⟩, HKd.out.spt _ _ _ _⟩
end Go.Proofs.YtmgpgbfgemebbaaGreatDoor
namespace Go.Proofs.YtmgpgbfgemebbaaGreatDoor
open Go.RowKit Go.Own
end Go.Proofs.YtmgpgbfgemebbaaGreatDoor
namespace Go.Proofs.YtmgpgbfgemebbaaGreatDoor
open Go.RowKit Go.Own
set_option maxRecDepth 100000 in
set_option maxHeartbeats 8000000 in
theorem tAdd (q : Nat) (S : Tre) (dir : Int) (name : Str) (n : Int) (d x : Nod) (w : World) (L : List HP) (hd : fnd S.nodes dir = some d) (hn : fnd S.nodes n = some x) (hne : dir ≠ n) (hk : d.kind = 2) (hl : name.length ≤ 1000000) (hm : d.names.length < 1000000) (hx0 : 0 ≤ x.links) (hx1 : x.links < 1000000) (hO : Has w (Trc q S :: L)) :
  Calls Tryz.prog 120 #[.pointer (some ⟨q, 0, none⟩), .int .i64 dir, sV name, .int .i64 n] w fun e w' => e = .returned (.tuple #[]) ∧ Has w' (Trc q (S.add dir name n) :: L) ∧ Keep w w' := by
 obtain ⟨m, f, P, ⟨hP, hT⟩, h⟩ := trc_iff.1 hO
 have hd' := hd
 have hn' := hn
 rw [← hP] at hd' hn'
 obtain ⟨b, b2, R, hperm⟩ := pn_split2 hd' hn' hne
 have hnd := Trb.nodup h
 have hokn : kInt.ok n := Mk.ok (trb_iff.1 h).p1 (by rw [pnB_keys]; exact (hperm.map Prod.fst).mem_iff.2 (by simp))
 have hq := (Trb.cells h.drew).1
 have hld := Trg.look (n := dir) (b := b) (x := d) (Trg.of h.drew) (hperm.mem_iff.2 (by simp))
 have hln := Trg.look (n := n) (b := b2) (x := x) (Trg.of h.drew) (hperm.mem_iff.2 (by simp))
 have h1 := (Trg.pullP (Trg.of h) hperm).re 2 [1, 0]
 have h2 := Trg.pullP h1 (.refl _)
 obtain ⟨dv2, wv2, nm2, hnm2, h3⟩ := ndc_iff.1 h2
 obtain ⟨dv, wv, nm, hnm, h4⟩ := ndc_iff.1 (h3.re 6 [5, 0, 1, 2, 3, 4])
 obtain ⟨mm, rfl⟩ := hnm hk
 have HO := hid (show Has w (Mk kStr vInt mm d.names :: pt b (.cells (nodC d dv wv (some mm)) 82) :: Dat d.kind dv d.data :: Bools wv d.wr :: pt b2 (.cells (nodC x dv2 wv2 nm2) 82) :: Dat x.kind dv2 x.data :: Bools wv2 x.wr :: Nms nm2 x.names :: Trg q m f P S.last S.tab R :: L) from h4.re 4 [3, 0, 1, 2])
 have HPM := hid hperm
 have HND := hid hnd
 have HPT := hid (And.intro hP hT)
 have HNM := hid hnm
 have HNM2 := hid hnm2
 have HDN := hid (And.intro hd hn)
 have HM := hid hm
 have HOK := hid hokn
 have hc3 : w.drew.cell? ⟨b, 3, none⟩ = some (.map (some mm)) := HO.out.p1.cells 3
 clear hd' hn' hd hn h h1 h2 h3 h4 hO hperm hnd hP hT hnm hnm2 hm hokn
 go_enter Tryz.func120, Tryz.ntmps120
 go_upto_region 0 with fail
 refine region_text (fun w' => w'.cell? ⟨q, 0, none⟩ = some (.map (some m)) ∧ (Instr.lookup tNo (.map (some m)) (.int .i64 dir) false).run Tryz.prog w' = .ok (.pointer (some ⟨b, 0, none⟩)) w' ∧ (Instr.lookup tNo (.map (some m)) (.int .i64 n) false).run Tryz.prog w' = .ok (.pointer (some ⟨b2, 0, none⟩)) w') (by kernel_rfl) (by kernel_rfl) ⟨hq, hld, hln⟩ ?_
 repeat (first | refine wr3 ?_ | refine wk ?_)
 refine wpL_nil ?_
 have HOd := hid HO.out.drew
 have HKd := hid (Keep.refl w).drew
 clear HO hq hld hln
 generalize w.drew = w1 at *
 go_wp2_with (at_mapUpdate; refine wpList_mkPut HOd.out HM.out tNm undNm rfl _ _ _ rfl rfl name (Nat.le_trans hl (le_maxLen (by omega))) rfl n HOK.out rfl ?_; intro w2 hO2 hK2; simp only [Act.put])
 have HO2 := hid (show Has w2 (pt b (.cells (nodC d dv wv (some mm)) 82) :: Mk kStr vInt mm (putA d.names name n) :: Dat d.kind dv d.data :: Bools wv d.wr :: pt b2 (.cells (nodC x dv2 wv2 nm2) 82) :: Dat x.kind dv2 x.data :: Bools wv2 x.wr :: Nms nm2 x.names :: Trg q m f P S.last S.tab R :: L) from hO2.re 2 [1, 0])
 have HK2 := hid (HKd.out.trans hK2)
 have hlen := Mk.len HO2.out.p1.drew undNm 3
 have hlen2 := Mk.len HO2.out.p1 undNm 3
 have hcb3 : w2.drew.cell? ⟨b, 3, none⟩ = some (.map (some mm)) := HO2.out.cells 3
 have hcb4 : w2.drew.cell? ⟨b, 4, none⟩ = some (.int .i64 d.most) := HO2.out.cells 4
 have hcb3' : w2.cell? ⟨b, 3, none⟩ = some (.map (some mm)) := HO2.out.cells 3
 have hcb4' : w2.cell? ⟨b, 4, none⟩ = some (.int .i64 d.most) := HO2.out.cells 4
 have ht4 := HO2.out.thaw 4
 have ht4' := HO2.out.drew.thaw 4
 clear hO2 hK2 HOd HKd hc3
 generalize hpl : putA d.names name n = pl at *
 go_upto_region 2 with fail
 go_region
 have HO3 := hid (show Has (w2.setCell ⟨b, 4, none⟩ (.int .i64 (max d.most (pl.length : Int)))).drew (pt b2 (.cells (nodC x dv2 wv2 nm2) 82) :: pt b (.cells (nodC { d with names := pl, most := max d.most (pl.length : Int) } dv wv (some mm)) 82) :: Mk kStr vInt mm pl :: Dat d.kind dv d.data :: Bools wv d.wr :: Dat x.kind dv2 x.data :: Bools wv2 x.wr :: Nms nm2 x.names :: Trg q m f P S.last S.tab R :: L) from ((HO2.out.set 4 (.int .i64 (max d.most (pl.length : Int)))).drew).re 5 [4, 0, 1, 2, 3])
 have HK3 := hid ((HK2.out.set ⟨b, 4, none⟩ (.int .i64 (max d.most (pl.length : Int)))).drew)
 clear HO2 HK2 hlen hlen2 hcb3 hcb4 hcb3' hcb4' ht4 ht4'
 generalize (w2.setCell ⟨b, 4, none⟩ (.int .i64 (max d.most (pl.length : Int)))).drew = w3 at *
 have hy0 : w3.cell? ⟨b2, 0, none⟩ = some (.int .i64 x.kind) := HO3.out.cells 0
 have hy5 : w3.cell? ⟨b2, 5, none⟩ = some (.int .i64 x.links) := HO3.out.cells 5
 have hy6 : w3.cell? ⟨b2, 6, none⟩ = some (.int .i64 x.above) := HO3.out.cells 6
 have hz5 := HO3.out.thaw 5
 have hz6 := HO3.out.thaw 6
 have hfin : ∀ (w' : World) (x' : Nod), x'.kind = x.kind → x'.data = x.data → x'.wr = x.wr → x'.names = x.names → Tre.nodAdd x dir = x' → Has w' (pt b2 (.cells (nodC x' dv2 wv2 nm2) 82) :: pt b (.cells (nodC { d with names := pl, most := max d.most (pl.length : Int) } dv wv (some mm)) 82) :: Mk kStr vInt mm pl :: Dat d.kind dv d.data :: Bools wv d.wr :: Dat x.kind dv2 x.data :: Bools wv2 x.wr :: Nms nm2 x.names :: Trg q m f P S.last S.tab R :: L) → Has w' (Trc q (S.add dir name n) :: L) := by
  intro w' x' e1 e2 e3 e4 hxe h
  have g1 : Has w' (Ndc b2 x' :: pt b (.cells (nodC { d with names := pl, most := max d.most (pl.length : Int) } dv wv (some mm)) 82) :: Mk kStr vInt mm pl :: Dat d.kind dv d.data :: Bools wv d.wr :: Trg q m f P S.last S.tab R :: L) := ndc_iff.2 ⟨dv2, wv2, nm2, by rw [e1]; exact HNM2.out, by rw [e1, e2, e3, e4]; exact h.re 8 [0, 5, 6, 7, 1, 2, 3, 4]⟩
  have g2 : Has w' (Ndc b (Tre.dirAdd d name n) :: Ndc b2 x' :: Trg q m f P S.last S.tab R :: L) := ndc_iff.2 ⟨dv, wv, some mm, fun _ => ⟨mm, rfl⟩, by
   have hda : Tre.dirAdd d name n = { d with names := pl, most := max d.most (pl.length : Int) } := by rw [← hpl]; rfl
   rw [hda]
   exact g1.re 5 [1, 3, 4, 2, 0]⟩
  have g3 : Has w' (Trg q m f P S.last S.tab ((n, b2, x') :: R) :: Ndc b (Tre.dirAdd d name n) :: L) := Trg.push n (g2.re 3 [1, 2, 0])
  have g4 : Has w' (Trg q m f P S.last S.tab ((dir, b, Tre.dirAdd d name n) :: (n, b2, x') :: R) :: L) := Trg.push dir (g3.re 2 [1, 0])
  have a1 : S.at_ dir = d := by unfold Tre.at_; rw [HDN.out.1]; rfl
  have a2 : S.at_ n = x := by unfold Tre.at_; rw [HDN.out.2]; rfl
  refine Trg.close (P := P.map (rep2 dir (Tre.dirAdd d name n) n x')) g4 (rep2_perm HPM.out HND.out hne).symm rep2_pnB ?_ rfl rfl HPT.out.2
  rw [rep2_pnN (by rw [pnN_keys]; exact (HPM.out.map Prod.fst).mem_iff.2 (by simp)) (by rw [pnN_keys]; exact (HPM.out.map Prod.fst).mem_iff.2 (by simp)), HPT.out.1, ← hxe]
  show _ = putA (putA S.nodes dir (Tre.dirAdd (S.at_ dir) name n)) n (Tre.nodAdd (S.at_ n) dir)
  rw [a1, a2]
 have HFIN := hid hfin
 have HNA := hid (show Tre.nodAdd x dir = if x.kind = 2 then { x with above := dir, links := 1 } else { x with links := x.links + 1 } from rfl)
 clear hfin hpl
 by_cases hk2 : x.kind = 2
 ·go_wp2_with fail
  go_end0
  refine ⟨rfl, HFIN.out _ { x with above := dir, links := 1 } rfl rfl rfl rfl (by rw [HNA.out, if_pos hk2]) ?_, ((HK3.out.set _ _).set _ _).set _ _⟩
  exact ((HO3.out.set 5 (.int .i64 (x.links + 1))).set 6 (.int .i64 dir)).set 5 (.int .i64 1)
 ·go_wp2_with fail
  go_end0
  refine ⟨rfl, HFIN.out _ { x with links := x.links + 1 } rfl rfl rfl rfl (by rw [HNA.out, if_neg hk2]) ?_, HK3.out.set _ _⟩
  exact HO3.out.set 5 (.int .i64 (x.links + 1))
end Go.Proofs.YtmgpgbfgemebbaaGreatDoor
namespace Go.Own
open Go.RowKit Go.Maps
section
variable {P : Program} {k e : TypeId} {κ α : Type} [DecidableEq κ] {K : Ky P k κ} {V : El P e α} {w : World} {L : List HP} {b : Nat} {t : List (κ × α)} {o : Oper} {a : Act} {Q : Exit → Act → World → Prop} {R : Act → World → Prop}
theorem wp_mkPut (h : Has w (Mk K V b t :: L)) (hl : t.length < 1000000) (T : TypeId) (ht : P.underlying T = some (.map k e)) (m kx v : Operand) (hop : o.op = Op.mapUpdate T m kx v) (hm : a.eval m = .map (some b)) (x : κ) (hx : K.ok x) (hk : a.eval kx = K.val x) (y : α) (hy : V.ok y) (hv : a.eval v = V.val y)
  (hK : ∀ w', Has w' (Mk K V b (putA t x y) :: L) → Keep w w' → R (a.put o.dst undef) w') : o.wp P a w R Q := by
 obtain ⟨D, h1, h2⟩ := Mk.iff.1 h
 obtain ⟨w', hrun, r1, r2⟩ := h2.owns.store K.law ht (by rw [h1.size]; show t.length < maxLen; unfold maxLen; omega) (K.spell hx) (V.spell hy)
 unfold Oper.wp
 simp [execOp, hop, hm, hk, hv, hrun, Result.andThen]
 have h3 := h2.mapTurn (grown_but r2.grown fun r e => by cases e; rfl) r1
 exact hK w' (Mk.iff.2 ⟨_, h1.put x y hx, h3⟩) (Mk.keep r2)
theorem wpList_mkIns {ops : Array Oper} {rest : List Oper} {Q : Exit → Act → World → Prop} (h : Has w (Mk K V b t :: L)) (hl : t.length < 1000000) (T : TypeId) (ht : P.underlying T = some (.map k e)) (hg : o.guard = none) (m kx v : Operand) (hop : o.op = Op.insert T m kx v) (hm : a.eval m = .map (some b)) (x : κ) (hx : K.ok x) (hk : a.eval kx = K.val x) (y : α) (hy : V.ok y) (hv : a.eval v = V.val y)
  (hK : ∀ w', Has w' (Mk K V b (putA t x y) :: L) → Keep w w' → wpList P ops Q rest (a.put o.dst undef) w') : wpList P ops Q (o :: rest) a w := by
 refine wpList_plain hg fun K' hK' => ?_
 obtain ⟨D, h1, h2⟩ := Mk.iff.1 h
 obtain ⟨w', hrun, r1, r2⟩ := h2.owns.store K.law ht (by rw [h1.size]; show t.length < maxLen; unfold maxLen; omega) (K.spell hx) (V.spell hy)
 unfold Oper.wp
 simp [execOp, hop, hm, hk, hv, hrun, Result.andThen]
 have h3 := h2.mapTurn (grown_but r2.grown fun r e => by cases e; rfl) r1
 exact hK' _ _ (hK w' (Mk.iff.2 ⟨_, h1.put x y hx, h3⟩) (Mk.keep r2))
end
end Go.Own
namespace Go.Proofs.YtmgpgbfgemebbaaGreatDoor
open Go.RowKit Go.Own
theorem Trc.last {w : World} {L : List HP} {q : Nat} {S : Tre} (h : Has w (Trc q S :: L)) : w.cell? ⟨q, 1, none⟩ = some (.int .i64 S.last) := by
 obtain ⟨m, f, P, -, h⟩ := trc_iff.1 h
 exact (Trb.cells h).2.1
theorem wf_small (x : Int) (h0 : 0 ≤ x) (h1 : x ≤ 1000000) : kInt.ok x := by
 show (Lit.int .i64 x).wf = true
 unfold Lit.wf
 rw [Bool.and_eq_true, decide_eq_true_iff, decide_eq_true_iff]
 have h1 : IntKind.min .i64 = -9223372036854775808 := by decide
 have h2 : IntKind.max .i64 = 9223372036854775807 := by decide
 rw [h1, h2]
 omega
def nodNew (kind : Int) : Nod := ⟨kind, [], [], [], 0, 0, 0⟩
set_option maxRecDepth 100000 in
set_option maxHeartbeats 8000000 in
theorem tMake (q : Nat) (S : Tre) (s : Spt) (kind : Int) (d : Nod) (w : World) (L : List HP) (hk3 : kind ≠ 3) (hd : fnd S.nodes s.dir = some d) (hk : d.kind = 2) (hl : s.name.length ≤ 1000000) (hm : d.names.length < 1000000) (h0 : 0 ≤ S.last) (h1 : S.last < 1000000) (hfree : fnd S.nodes (S.last + 1) = none) (hS : S.nodes.length < 1000000) (hO : Has w (Trc q S :: L)) :
  Calls Tryz.prog 54 #[.pointer (some ⟨q, 0, none⟩), spV s, .int .i64 kind, sV []] w fun e w' => e = .returned (.int .i64 (S.last + 1)) ∧ Has w' (Trc q (S.make s kind []) :: L) ∧ Keep w w' := by
 obtain ⟨m, f, P, ⟨hP, hT⟩, h⟩ := trc_iff.1 hO
 have HPT := hid (And.intro hP hT)
 have h := trb_iff.1 h
 have HO := hid (show Has w (pt q (.cells (treC m f S.last) 87) :: Mk kInt vPtr m (pnB P) :: Tab f S.tab :: (pnC P ++ L)) from h)
 have hq0 : w.cell? ⟨q, 0, none⟩ = some (.map (some m)) := HO.out.cells 0
 have hq1 : w.cell? ⟨q, 1, none⟩ = some (.int .i64 S.last) := HO.out.cells 1
 have hqt := HO.out.thaw 1
 have hql := HO.out.lt
 clear h hO hP hT
 unfold spV spC
 go_enter Tryz.func54, Tryz.ntmps54
 have hmm := @run_makeMap Tryz.prog
 go_upto_region 3 with fail
 have h2 := ((HO.out.set 1 (.int .i64 (S.last + 1))).alloc (.cells #[.int .i64 s.node, .int .i64 s.dir, sV s.name] 102)).alloc (.cells #[.int .i64 kind, .slice none 0 0, .slice none 0 0, .map none, .int .i64 0, .int .i64 0, .int .i64 0] 82)
 have e1 : (w.setCell ⟨q, 1, none⟩ (.int .i64 (S.last + 1))).heap.size = w.heap.size := by simp
 have e2 : ((w.setCell ⟨q, 1, none⟩ (.int .i64 (S.last + 1))).alloc (.cells #[.int .i64 s.node, .int .i64 s.dir, sV s.name] 102)).heap.size = w.heap.size + 1 := by show (Array.push _ _).size = _; rw [Array.size_push, e1]
 rw [e2, e1] at h2
 have HK2 := hid ((((Keep.refl w).set ⟨q, 1, none⟩ (.int .i64 (S.last + 1))).alloc (.cells #[.int .i64 s.node, .int .i64 s.dir, sV s.name] 102)).alloc (.cells #[.int .i64 kind, .slice none 0 0, .slice none 0 0, .map none, .int .i64 0, .int .i64 0, .int .i64 0] 82))
 have HO2 := hid h2
 clear h2 e1 e2 hqt hql hq0 hq1
 generalize ((w.setCell ⟨q, 1, none⟩ (.int .i64 (S.last + 1))).alloc (.cells #[.int .i64 s.node, .int .i64 s.dir, sV s.name] 102)).alloc (.cells #[.int .i64 kind, .slice none 0 0, .slice none 0 0, .map none, .int .i64 0, .int .i64 0, .int .i64 0] 82) = w2 at *
 generalize hgs : w.heap.size = gs at *
 generalize hgn : gs + 1 = gn at *
 have hfin : ∀ w5 : World, Has w5 (Mk kInt vPtr m (putA (pnB P) (S.last + 1) (some gn)) :: pt q (.cells (treC m f (S.last + 1)) 87) :: Tab f S.tab :: Ndc gn (nodNew kind) :: pt gs (.cells (spC s) 102) :: (pnC P ++ L)) → Has w5 (Trc q { S with last := S.last + 1, nodes := putA S.nodes (S.last + 1) (nodNew kind) } :: pt gs (.cells (spC s) 102) :: L) := by
  intro w5 h5
  have hnk : (S.last + 1) ∉ P.map Prod.fst := by
   have := fnd_none.1 hfree
   rwa [← HPT.out.1, pnN_keys] at this
  refine trc_iff.2 ⟨m, f, P ++ [(S.last + 1, gn, nodNew kind)], ⟨?_, HPT.out.2⟩, trb_iff.2 ?_⟩
  ·show pnN _ = putA S.nodes (S.last + 1) (nodNew kind)
   rw [putA_new _ (fnd_none.1 hfree), ← HPT.out.1]
   simp [pnN]
  ·rw [putA_new _ (by rw [pnB_keys]; exact hnk)] at h5
   have e : pnB (P ++ [(S.last + 1, gn, nodNew kind)]) = pnB P ++ [(S.last + 1, some gn)] := by simp [pnB]
   have e2 : pnC (P ++ [(S.last + 1, gn, nodNew kind)]) = pnC P ++ [Ndc gn (nodNew kind)] := by simp [pnC]
   rw [e, e2]
   refine h5.perm ?_
   refine (List.Perm.swap _ _ _).trans (.cons _ (.cons _ (.cons _ ?_)))
   rw [List.append_assoc]
   refine List.Perm.trans ?_ List.perm_middle.symm
   refine .cons _ ?_
   exact List.perm_middle.symm
 have HFIN := hid hfin
 have HFR := hid hfree
 have hPl : P.length < 1000000 := by
  have : (pnN P).length = P.length := by simp [pnN]
  rw [HPT.out.1] at this
  omega
 have HIN := hid (show (fnd (putA S.nodes (S.last + 1) (nodNew kind)) s.dir = some d ∧ fnd (putA S.nodes (S.last + 1) (nodNew kind)) (S.last + 1) = some (nodNew kind)) ∧ s.dir ≠ S.last + 1 from by
  have hne : s.dir ≠ S.last + 1 := by intro e; rw [e] at hd; rw [hd] at hfree; cases hfree
  rw [putA_new _ (fnd_none.1 hfree)]
  refine ⟨⟨?_, ?_⟩, hne⟩
  ·unfold fnd at *
   rw [List.find?_append]
   generalize S.nodes.find? (fun p => decide (p.1 = s.dir)) = o at *
   cases o with
   | none => cases hd
   | some v => exact hd
  ·unfold fnd at *
   rw [List.find?_append]
   generalize S.nodes.find? (fun p => decide (p.1 = S.last + 1)) = o at *
   cases o with
   | none => simp
   | some v => cases hfree)
 have HME := hid (show S.make s kind [] = ({ S with last := S.last + 1, nodes := putA S.nodes (S.last + 1) (nodNew kind) } : Tre).add s.dir s.name (S.last + 1) from by
  unfold Tre.make nodNew
  rw [if_neg hk3])
 clear hfin hfree hd
 by_cases hk2 : kind = 2
 ·subst hk2
  have HM := hid (Mk.made HO2.out kStr vInt)
  have hcn3 := HM.out.p1.cells 3
  have htn3 := HM.out.p1.thaw 3
  go_upto_region 8 with fail
  have HO4 := hid (show Has ((w2.alloc (.map #[] 0)).setCell ⟨gn, 3, none⟩ (.map (some w2.heap.size))) (Mk kInt vPtr m (pnB P) :: pt q (.cells (treC m f (S.last + 1)) 87) :: Tab f S.tab :: Ndc gn (nodNew 2) :: pt gs (.cells (spC s) 102) :: (pnC P ++ L)) from by
   have h1 := (HM.out.re 2 [1, 0]).set 3 (.map (some w2.heap.size))
   have h2 := ((h1.row_nil 4 1).row_nil 5 1).re 5 [2, 0, 1, 3, 4]
   have h3 : Has ((w2.alloc (.map #[] 0)).setCell ⟨gn, 3, none⟩ (.map (some w2.heap.size))) (Ndc gn (nodNew 2) :: pt gs (.cells (spC s) 102) :: pt q (.cells (treC m f (S.last + 1)) 87) :: Mk kInt vPtr m (pnB P) :: Tab f S.tab :: (pnC P ++ L)) := ndc_ofB (by show (2 : Int) ≠ 3; decide) ⟨.slice none 0 0, .slice none 0 0, some w2.heap.size, fun _ => ⟨_, rfl⟩, h2⟩
   exact h3.re 5 [3, 2, 4, 0, 1])
  have HK4 := hid ((HK2.out.alloc (.map #[] 0)).set ⟨gn, 3, none⟩ (.map (some w2.heap.size)))
  clear HO2 HK2 HM hcn3 htn3
  generalize (w2.alloc (.map #[] 0)).setCell ⟨gn, 3, none⟩ (.map (some w2.heap.size)) = w4 at *
  have hq0 : w4.drew.cell? ⟨q, 0, none⟩ = some (.map (some m)) := HO4.out.p1.cells 0
  have hq1 : w4.drew.cell? ⟨q, 1, none⟩ = some (.int .i64 (S.last + 1)) := HO4.out.p1.cells 1
  refine region_text (fun w' => w'.cell? ⟨q, 0, none⟩ = some (.map (some m)) ∧ w'.cell? ⟨q, 1, none⟩ = some (.int .i64 (S.last + 1))) (by kernel_rfl) (by kernel_rfl) ⟨hq0, hq1⟩ ?_
  repeat (first | refine wr2 ?_ | refine wk ?_)
  refine wa fun K hK => ?_
  refine wp_mkPut HO4.out.drew (by simp only [pnB, List.length_map]; exact hPl) tNo undNo _ _ _ rfl rfl (S.last + 1) (wf_small _ (by omega) (by omega)) rfl (some gn) trivial rfl ?_
  intro w5 hO5 hK5
  refine hK.out _ _ ⟨hO5.p1.cells 0, hO5.p1.cells 1⟩ ?_
  clear hK K
  try simp only [Act.put, List.setIfInBounds_toArray, List.set_cons_zero, List.set_cons_succ]
  have HO5 := hid (HFIN.out _ hO5)
  have HK5 := hid (HK4.out.drew.trans hK5)
  clear hO5 hK5 HO4 HK4 hq0 hq1
  refine wpL_nil ?_
  go_upto_region 9 with fail
  refine region_text (fun w' => w'.cell? ⟨q, 1, none⟩ = some (.int .i64 (S.last + 1)) ∧ w'.cell? ⟨gs, 1, none⟩ = some (.int .i64 s.dir) ∧ w'.cell? ⟨gs, 2, none⟩ = some (sV s.name)) (by kernel_rfl) (by kernel_rfl) ⟨Trc.last HO5.out.drew, HO5.out.drew.p1.cells 1, HO5.out.drew.p1.cells 2⟩ ?_
  repeat (first | refine wr3 ?_ | refine wk ?_)
  refine wa fun K hK => ?_
  go_simp
  refine (tAdd q _ s.dir s.name (S.last + 1) d _ _ _ HIN.out.1.1 HIN.out.1.2 HIN.out.2 hk hl hm (by show (0 : Int) ≤ 0; decide) (by show (0 : Int) < 1000000; decide) HO5.out.drew).mono ?_
  rintro e w6 ⟨rfl, hO6, hK6⟩
  have HO6 := hid hO6
  have HK6 := hid ((HK5.out.drew).trans hK6)
  clear hO6 hK6
  try dsimp only
  refine hK.out _ _ (⟨Trc.last HO6.out, HO6.out.p1.cells 1, HO6.out.p1.cells 2⟩) ?_
  clear hK K
  try simp only [Act.put, List.setIfInBounds_toArray, List.set_cons_zero, List.set_cons_succ]
  refine wpL_nil ?_
  have hq1 := Trc.last HO6.out
  go_wp2_with fail
  go_ret
  exact ⟨rfl, by rw [HME.out]; exact HO6.out.re 2 [0], HK6.out⟩
 ·go_upto_region 8 with fail
  have HO4 := hid (show Has w2 (Mk kInt vPtr m (pnB P) :: pt q (.cells (treC m f (S.last + 1)) 87) :: Tab f S.tab :: Ndc gn (nodNew kind) :: pt gs (.cells (spC s) 102) :: (pnC P ++ L)) from by
   have h1 := HO2.out
   have h2 : Has w2 (fact (([] : List (Str × Int)) = []) :: _) := Has.fact_iff.2 ⟨rfl, h1⟩
   have h3 := ((h2.row_nil 4 1).row_nil 5 1).re 4 [3, 0, 1, 2]
   have h4 : Has w2 (Ndc gn (nodNew kind) :: pt gs (.cells (spC s) 102) :: pt q (.cells (treC m f (S.last + 1)) 87) :: Mk kInt vPtr m (pnB P) :: Tab f S.tab :: (pnC P ++ L)) := ndc_ofB hk3 ⟨.slice none 0 0, .slice none 0 0, none, fun h => absurd h hk2, h3⟩
   exact h4.re 5 [3, 2, 4, 0, 1])
  have HK4 := HK2
  clear HO2 HK2
  generalize w2 = w4 at *
  have hq0 : w4.drew.cell? ⟨q, 0, none⟩ = some (.map (some m)) := HO4.out.p1.cells 0
  have hq1 : w4.drew.cell? ⟨q, 1, none⟩ = some (.int .i64 (S.last + 1)) := HO4.out.p1.cells 1
  refine region_text (fun w' => w'.cell? ⟨q, 0, none⟩ = some (.map (some m)) ∧ w'.cell? ⟨q, 1, none⟩ = some (.int .i64 (S.last + 1))) (by kernel_rfl) (by kernel_rfl) ⟨hq0, hq1⟩ ?_
  repeat (first | refine wr2 ?_ | refine wk ?_)
  refine wa fun K hK => ?_
  refine wp_mkPut HO4.out.drew (by simp only [pnB, List.length_map]; exact hPl) tNo undNo _ _ _ rfl rfl (S.last + 1) (wf_small _ (by omega) (by omega)) rfl (some gn) trivial rfl ?_
  intro w5 hO5 hK5
  refine hK.out _ _ ⟨hO5.p1.cells 0, hO5.p1.cells 1⟩ ?_
  clear hK K
  try simp only [Act.put, List.setIfInBounds_toArray, List.set_cons_zero, List.set_cons_succ]
  have HO5 := hid (HFIN.out _ hO5)
  have HK5 := hid (HK4.out.drew.trans hK5)
  clear hO5 hK5 HO4 HK4 hq0 hq1
  refine wpL_nil ?_
  go_upto_region 9 with fail
  refine region_text (fun w' => w'.cell? ⟨q, 1, none⟩ = some (.int .i64 (S.last + 1)) ∧ w'.cell? ⟨gs, 1, none⟩ = some (.int .i64 s.dir) ∧ w'.cell? ⟨gs, 2, none⟩ = some (sV s.name)) (by kernel_rfl) (by kernel_rfl) ⟨Trc.last HO5.out.drew, HO5.out.drew.p1.cells 1, HO5.out.drew.p1.cells 2⟩ ?_
  repeat (first | refine wr3 ?_ | refine wk ?_)
  refine wa fun K hK => ?_
  go_simp
  refine (tAdd q _ s.dir s.name (S.last + 1) d _ _ _ HIN.out.1.1 HIN.out.1.2 HIN.out.2 hk hl hm (by show (0 : Int) ≤ 0; decide) (by show (0 : Int) < 1000000; decide) HO5.out.drew).mono ?_
  rintro e w6 ⟨rfl, hO6, hK6⟩
  have HO6 := hid hO6
  have HK6 := hid ((HK5.out.drew).trans hK6)
  clear hO6 hK6
  try dsimp only
  refine hK.out _ _ (⟨Trc.last HO6.out, HO6.out.p1.cells 1, HO6.out.p1.cells 2⟩) ?_
  clear hK K
  try simp only [Act.put, List.setIfInBounds_toArray, List.set_cons_zero, List.set_cons_succ]
  refine wpL_nil ?_
  have hq1 := Trc.last HO6.out
  go_wp2_with fail
  go_ret
  exact ⟨rfl, by rw [HME.out]; exact HO6.out.re 2 [0], HK6.out⟩
end Go.Proofs.YtmgpgbfgemebbaaGreatDoor
namespace Go.Proofs.YtmgpgbfgemebbaaGreatDoor
open Go.RowKit Go.Own
def filC (s : Tb.Slot) : Array Value := #[.int .i64 s.node, .int .i64 s.off, .int .i64 s.flags]
theorem _root_.Go.Own.Has.fil {w : World} {l : List HP} {b : Nat} {s0 : Tb.Slot} (h : Has w (pt b (.cells (filC s0) 122) :: l)) (s : Tb.Slot) : Has (((w.setCell ⟨b, 0, none⟩ (.int .i64 s.node)).setCell ⟨b, 1, none⟩ (.int .i64 s.off)).setCell ⟨b, 2, none⟩ (.int .i64 s.flags)) (pt b (.cells (filC s) 122) :: l) :=
 ((h.set 0 (.int .i64 s.node)).set 1 (.int .i64 s.off)).set 2 (.int .i64 s.flags)
section
variable {w : World} {L : List HP} {q m f : Nat} {P : List Pn} {last : Int} {T T' : List Tb.Slot}
theorem Trb.take {n : Int} {b : Nat} {x : Nod} (h : Has w (Trb q m f P last T :: L)) (hb : (n, b, x) ∈ P) : ∃ A B dv wv nm, P = A ++ (n, b, x) :: B ∧ (x.kind = 2 → ∃ m, nm = some m) ∧ Has w (pt b (.cells (nodC x dv wv nm) 82) :: Dat x.kind dv x.data :: Bools wv x.wr :: Nms nm x.names :: Trg q m f P last T (A ++ B) :: L) := by
 obtain ⟨A, B, hP⟩ := List.append_of_mem hb
 have h1 := Trg.of h
 have h2 : Has w (Trg q m f P last T (A ++ (n, b, x) :: B) :: L) := by rw [← hP]; exact h1
 obtain ⟨dv, wv, nm, hd, h3⟩ := ndc_iff.1 (Trg.pull h2)
 exact ⟨A, B, dv, wv, nm, hP, hd, h3⟩
theorem Trb.shut {n : Int} {b : Nat} {x y : Nod} {A B : List Pn} {dv wv : Value} {nm : Option Nat} (hP : P = A ++ (n, b, x) :: B) (hd : y.kind = 2 → ∃ m, nm = some m) (h : Has w (pt b (.cells (nodC y dv wv nm) 82) :: Dat y.kind dv y.data :: Bools wv y.wr :: Nms nm y.names :: Trg q m f P last T (A ++ B) :: L)) : Has w (Trb q m f (A ++ (n, b, y) :: B) last T :: L) := by
 have h1 : Has w (Ndc b y :: Trg q m f P last T (A ++ B) :: L) := ndc_iff.2 ⟨dv, wv, nm, hd, h⟩
 have h2 := Trg.perm (Trg.push n h1) (List.perm_middle (l₁ := A) (l₂ := B) (a := (n, b, y))).symm
 have e : pnB P = pnB (A ++ (n, b, y) :: B) := by rw [hP]; simp [pnB]
 have h3 := trg_iff.1 h2
 rw [e] at h3
 exact trb_iff.2 h3
def Trt (q m f : Nat) (P : List Pn) (last : Int) : HP := star (pt q (.cells (treC m f last) 87) :: Mk kInt vPtr m (pnB P) :: pnC P)
theorem Trb.tab : Has w (Trb q m f P last T :: L) ↔ Has w (Tab f T :: Trt q m f P last :: L) := by
 rw [trb_iff]
 constructor
 ·intro h
  have h1 : Has w (Trt q m f P last :: Tab f T :: L) := by
   unfold Trt
   rw [Has.star_iff]
   refine h.perm (.cons _ (.cons _ ?_))
   exact List.perm_middle.symm
  exact h1.perm (.swap _ _ _)
 ·intro h
  have h1 : Has w (Trt q m f P last :: Tab f T :: L) := h.perm (.swap _ _ _)
  unfold Trt at h1
  rw [Has.star_iff] at h1
  refine h1.perm (.cons _ (.cons _ ?_))
  exact List.perm_middle
end
end Go.Proofs.YtmgpgbfgemebbaaGreatDoor
namespace Go.Proofs.YtmgpgbfgemebbaaGreatDoor
open Go.RowKit Go.Own
structure Opm where
 kind : Int
 fd : Int
 n : Int
 off : Int
 flags : Int
 path : Str
 dest : Str
abbrev nilV : Value := .slice none 0 0
def opC (o : Opm) (dv : Value) : Array Value := #[.int .i64 o.kind, .int .i64 o.fd, .int .i64 o.n, .int .i64 o.off, .int .i64 o.flags, sV o.path, sV o.dest, dv]
def opV (o : Opm) (dv : Value) : Value := .agg (opC o dv)
def ansC (a : Ans) (dv nv : Value) : Array Value := #[.int .i64 a.code, .int .i64 a.n, .int .i64 a.kind, .int .i64 a.links, dv, nv]
def ansV (a : Ans) (dv nv : Value) : Value := .agg (ansC a dv nv)
section
variable {w w0 : World} {L : List HP} {b : Nat}
theorem _root_.Go.Own.Has.ans {c0 c1 c2 c3 c4 c5 : Value} (h : Has w (pt b (.cells #[c0, c1, c2, c3, c4, c5] 38) :: L)) (a : Ans) (dv nv : Value) : Has ((((((w.setCell ⟨b, 0, none⟩ (.int .i64 a.code)).setCell ⟨b, 1, none⟩ (.int .i64 a.n)).setCell ⟨b, 2, none⟩ (.int .i64 a.kind)).setCell ⟨b, 3, none⟩ (.int .i64 a.links)).setCell ⟨b, 4, none⟩ dv).setCell ⟨b, 5, none⟩ nv) (pt b (.cells (ansC a dv nv) 38) :: L) :=
 (((((h.set 0 (.int .i64 a.code)).set 1 (.int .i64 a.n)).set 2 (.int .i64 a.kind)).set 3 (.int .i64 a.links)).set 4 dv).set 5 nv
theorem _root_.Go.Own.Keep.ans (h : Keep w0 w) (b : Nat) (c n k l dv nv : Value) : Keep w0 ((((((w.setCell ⟨b, 0, none⟩ c).setCell ⟨b, 1, none⟩ n).setCell ⟨b, 2, none⟩ k).setCell ⟨b, 3, none⟩ l).setCell ⟨b, 4, none⟩ dv).setCell ⟨b, 5, none⟩ nv) :=
 (((((h.set _ _).set _ _).set _ _).set _ _).set _ _).set _ _
theorem ans_result {fn : Func} {p : Tmp} {tmps : Array Value} {a : Ans} {dv nv : Value} (h : fn.results = #[.cell p 38]) (ht : tmps.getD p undef = .pointer (some ⟨b, 0, none⟩)) (hO : Has w (pt b (.cells (ansC a dv nv) 38) :: L)) :
  (results fn tmps).run Tryz.prog w = .ok (ansV a dv nv) w := by
 have h0 : w.cell? ⟨b, 0, none⟩ = some (.int .i64 a.code) := hO.cells 0
 have h1 : w.cell? ⟨b, 1, none⟩ = some (.int .i64 a.n) := hO.cells 1
 have h2 : w.cell? ⟨b, 2, none⟩ = some (.int .i64 a.kind) := hO.cells 2
 have h3 : w.cell? ⟨b, 3, none⟩ = some (.int .i64 a.links) := hO.cells 3
 have h4 : w.cell? ⟨b, 4, none⟩ = some dv := hO.cells 4
 have h5 : w.cell? ⟨b, 5, none⟩ = some nv := hO.cells 5
 unfold results ansV ansC
 rw [h]
 have ht2 : tmps[p]?.getD undef = .pointer (some ⟨b, 0, none⟩) := by rw [← ht]; simp
 clear hO h ht
 go_simp
end
set_option maxRecDepth 100000 in
theorem tCode (e : Int) (w : World) (L : List HP) (hO : Has w L) : Calls Tryz.prog 46 #[.int .i64 e] w fun r w' => r = .returned (ansV (ansE e) nilV nilV) ∧ Has w' L ∧ Keep w w' := by
 have HO := hid hO
 clear hO
 go_enter Tryz.func46, Tryz.ntmps46
 go_wp2_with fail
 have h1 := (HO.out.alloc (.cells (ansC (ansE e) nilV nilV) 38))
 refine bodyPost_ret (ans_result rfl rfl h1) rfl ?_
 exact ⟨rfl, h1.drop, (Keep.refl w).alloc _⟩
end Go.Proofs.YtmgpgbfgemebbaaGreatDoor
namespace Go.Proofs.YtmgpgbfgemebbaaGreatDoor
open Go.RowKit Go.Own
theorem cloneBytes (v : Value) (xs : List Int) (w : World) (L : List HP) (hO : Has w L) (hr : Rd w v 1 xs.length (bc xs)) (hsm : xs.length ≤ 1000000000) :
  Calls Tryz.prog 87 #[v] w fun e w' => ∃ v', e = .returned v' ∧ Has w' (Bytes v' xs :: L) ∧ Keep w w' ∧ nilS v' = nilS v := by
 obtain ⟨p, cap, rfl, hca, hla, hra⟩ := hr.form
 have Hra := hid hra
 have Hr := hid hr
 have HO := hid hO
 clear hO hra hr
 rcases p with _ | ad
 ·have hz : xs = [] := by
   rcases Nat.eq_zero_or_pos xs.length with h | h
   ·exact List.eq_nil_of_length_eq_zero h
   ·obtain ⟨g, o, h1, -⟩ := Hra.out (by omega)
    cases h1
  subst hz
  have hnil := Lib.run_eql_slice_nil w 31 5 none 0 cap 0 0 Tryz.underlying31
  simp only [Option.isNone] at hnil
  go_enter Tryz.func87, Tryz.ntmps87
  go_wp2
  go_ret
  exact ⟨_, rfl, HO.out.row_nil _ _, Keep.refl _, rfl⟩
 ·have hnil := Lib.run_eql_slice_nil w 31 5 (some ad) xs.length cap 0 0 Tryz.underlying31
  simp only [Option.isNone] at hnil
  go_enter Tryz.func87, Tryz.ntmps87
  go_wp2_with (at_builtin; refine wpList_append_rd rfl _ _ _ rfl Tryz.underlying31 infoU8 rfl ((HO.out.alloc (.cells #[] 5)).row_of (n := 0) (cap := 0) (Nat.le_refl _) (Nat.zero_le _) rfl rfl rfl) rfl ad xs.length cap (bc xs) rfl (Hr.out.alloc _) (bc_one xs) (le_maxLen (by omega)) (by omega) ?_)
  intro v' w' hO' hK' hN
  have HO' := hid hO'
  have HK' := hid hK'
  have HN := hid hN
  clear hO' hK' hN
  go_wp2_with fail
  go_ret
  refine ⟨_, rfl, ?_, ((Keep.refl _).alloc _).trans HK'.out, ?_⟩
  ·have := HO'.out
   simpa [Bytes] using this
  ·exact HO'.out.row_nilS HN.out
end Go.Proofs.YtmgpgbfgemebbaaGreatDoor
