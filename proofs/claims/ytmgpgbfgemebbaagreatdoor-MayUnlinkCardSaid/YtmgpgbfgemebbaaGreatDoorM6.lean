/- TEXTS of mine, merged. -/
import Derived.Test.YtmgpgbfgemebbaaGreatDoorM5
import Derived.Test.YtmgpgbfgemebbaaGreatDoorM4
import Derived.Test.YtmgpgbfgemebbaaGreatDoorM1
import Derived.Sort.Row
import Derived.Sort.Grow
set_option linter.all false
namespace Go.Proofs.YtmgpgbfgemebbaaGreatDoor
open Go.RowKit Go.Own
structure Opn (S : Tre) : Prop where
 there : ∀ fd s, Tb.look S.tab fd = some s → ∃ x, fnd S.nodes s.node = some x
 off : ∀ fd s, Tb.look S.tab fd = some s → 0 ≤ s.off ∧ s.off ≤ 2000000000000
 data : ∀ n x, fnd S.nodes n = some x → x.data.length ≤ 100000
 wr : ∀ n x, fnd S.nodes n = some x → x.wr.length ≤ 100000
 nolink : ∀ fd s, Tb.look S.tab fd = some s → (S.at_ s.node).kind ≠ 3
theorem Opn.file {S : Tre} (h : Opn S) (fd : Int) (wr : Bool) (h0 : (S.file fd wr).2 = 0) : 0 ≤ (S.file fd wr).1.off ∧ (S.file fd wr).1.off ≤ 2000000000000 := by
 unfold Tre.file at *
 by_cases h1 : (Tb.get S.tab fd).2 ≠ 0
 ·rw [if_pos h1] at h0; simp at h0
 ·rw [if_neg h1] at *
  by_cases h2 : wr = true ∧ andI (Tb.get S.tab fd).1.flags 32 = 0
  ·rw [if_pos h2] at h0; simp at h0
  ·rw [if_neg h2] at *
   by_cases h3 : (S.at_ (Tb.get S.tab fd).1.node).kind = 2
   ·rw [if_pos h3] at h0; simp at h0
   ·rw [if_neg h3]
    unfold Tb.get at *
    cases hl : Tb.look S.tab fd with
    | none => simp [hl] at h1
    | some s => exact h.off fd s hl
theorem wrapk_in (n : Int) (h : -9223372036854775808 ≤ n ∧ n ≤ 9223372036854775807) : IntKind.i64.wrap n = n := by
 simp [IntKind.wrap, IntKind.bits, IntKind.signed]; omega
theorem cloneBy (v : Value) (xs : List Int) (w : World) (L : List HP) (hO : Has w L) (hr : Rd w v 1 xs.length (bc xs)) (hsm : xs.length ≤ 1000000000) :
  Calls Tryz.prog 87 #[v] w fun e w' => ∃ v', e = .returned v' ∧ Has w' (Bytes v' xs :: L) ∧ Keep w w' :=
 (cloneBytes v xs w L hO hr hsm).mono fun _ _ ⟨v', h1, h2, h3, _⟩ => ⟨v', h1, h2, h3⟩
end Go.Proofs.YtmgpgbfgemebbaaGreatDoor
namespace Go.Own
open Go.RowKit
end Go.Own
namespace Go.Proofs.YtmgpgbfgemebbaaGreatDoor
open Go.RowKit Go.Own
theorem bl_one (xs : List Bool) : ∀ u ∈ xs.map Value.bool, u.oneCell' = true := by
 intro u hu
 obtain ⟨x, -, rfl⟩ := List.mem_map.1 hu
 rfl
set_option maxRecDepth 100000 in
theorem cloneBools0 (v : Value) (xs : List Bool) (w : World) (L : List HP) (hO : Has w L) (hr : Rd w v 1 xs.length (xs.map Value.bool)) (hsm : xs.length ≤ 1000000000) :
  Calls Tryz.prog 91 #[v] w fun e w' => ∃ v', e = .returned v' ∧ Has w' (Bools v' xs :: L) ∧ Keep w w' ∧ nilS v' = nilS v := by
 obtain ⟨p, cap, rfl, hca, hla, hra⟩ := hr.form
 have Hra := hid hra
 have Hr := hid hr
 have HO := hid hO
 clear hO hra hr
 rcases p with _ | ad
 ·have hz : xs = [] := by
   rcases Nat.eq_zero_or_pos xs.length with h | h
   ·exact List.eq_nil_of_length_eq_zero h
   ·obtain ⟨g, o, h1, -⟩ := Hra.out (by omega)
    cases h1
  subst hz
  have hnil := Lib.run_eql_slice_nil w 80 4 none 0 cap 0 0 Tryz.underlying80
  simp only [Option.isNone] at hnil
  go_enter Tryz.func91, Tryz.ntmps91
  go_wp2
  go_ret
  exact ⟨_, rfl, HO.out.row_nil _ _, Keep.refl _, rfl⟩
 ·have hnil := Lib.run_eql_slice_nil w 80 4 (some ad) xs.length cap 0 0 Tryz.underlying80
  simp only [Option.isNone] at hnil
  go_enter Tryz.func91, Tryz.ntmps91
  go_wp2_with (at_builtin; refine wpList_append_rd rfl _ _ _ rfl Tryz.underlying80 infoBool rfl ((HO.out.alloc (.cells #[] 4)).row_of (n := 0) (cap := 0) (Nat.le_refl _) (Nat.zero_le _) rfl rfl rfl) rfl ad xs.length cap (xs.map Value.bool) rfl (Hr.out.alloc _) (bl_one xs) (le_maxLen (by omega)) (by omega) ?_)
  intro v' w' hO' hK' hN
  have HO' := hid hO'
  have HK' := hid hK'
  have HN := hid hN
  clear hO' hK' hN
  go_wp2_with fail
  go_ret
  refine ⟨_, rfl, ?_, ((Keep.refl _).alloc _).trans HK'.out, ?_⟩
  ·have := HO'.out
   simpa [Bools] using this
  ·exact HO'.out.row_nilS HN.out
theorem cloneBools (v : Value) (xs : List Bool) (w : World) (L : List HP) (hO : Has w L) (hr : Rd w v 1 xs.length (xs.map Value.bool)) (hsm : xs.length ≤ 1000000000) :
  Calls Tryz.prog 91 #[v] w fun e w' => ∃ v', e = .returned v' ∧ Has w' (Bools v' xs :: L) ∧ Keep w w' :=
 (cloneBools0 v xs w L hO hr hsm).mono fun _ _ ⟨v', h1, h2, h3, _⟩ => ⟨v', h1, h2, h3⟩
theorem nNeed (n : Nat) (w : World) (hn : n ≤ 1000000) : Calls Tryz.prog 104 #[.int .i64 (n : Int)] w fun e w' => e = .returned (.int .i64 (needM n : Int)) ∧ w = w' := by
 have h0 : (0 : Int) ≤ (n : Int) := by omega
 have h9 : (n : Int) ≤ 1000000 := by omega
 by_cases h1 : (n : Int) < 1
 ·have HR := hid (show needM n = 0 from by unfold needM; rw [if_neg (by omega)]; omega)
  go_enter Tryz.func104, Tryz.ntmps104
  go_wp2_with fail
  go_ret
  rw [HR.out]
  exact ⟨rfl, rfl⟩
 ·by_cases h2 : (n : Int) ≥ 20736
  ·have HR := hid (show needM n = 162 from by unfold needM; rw [if_pos (by omega)])
   go_enter Tryz.func104, Tryz.ntmps104
   go_wp2_with fail
   go_ret
   rw [HR.out]
   exact ⟨rfl, rfl⟩
  ·have HR := hid (show (needM n : Int) = ((n : Int) + 128 - 1) / 128 from by unfold needM; rw [if_neg (by omega)]; omega)
   go_enter Tryz.func104, Tryz.ntmps104
   go_wp2_with fail
   go_ret
   rw [HR.out]
   exact ⟨rfl, rfl⟩
end Go.Proofs.YtmgpgbfgemebbaaGreatDoor
namespace Go.Proofs.YtmgpgbfgemebbaaGreatDoor
open Go.RowKit Go.Own
namespace Tre
variable (S : Tre)
def forget (n : Int) : Tre := match fnd S.nodes n with
 | none => S
 | some x => if x.links = 0 ∧ n ≠ 1 ∧ Tb.holds S.tab n = false then { S with nodes := delA S.nodes n } else S
def dirTake (d : Nod) (name : Str) : Nod := { d with names := delA d.names name }
def nodTake (x : Nod) : Nod := { x with links := x.links - 1, above := if x.kind = 2 then 0 else x.above }
def kid (dir : Int) (name : Str) : Int := (fnd (S.at_ dir).names name).getD 0
def take (dir : Int) (name : Str) : Tre := ((S.setN dir (dirTake (S.at_ dir) name)).setN (S.kid dir name) (nodTake (S.at_ (S.kid dir name)))).forget (S.kid dir name)
def remove (kind : Int) (p : Str) : Ans × Tre :=
 if (S.place p).2 ≠ 0 then (ansE (S.place p).2, S)
 else if (S.place p).1.node = 0 then (ansE 5, S)
 else if kind = 10 ∧ (S.at_ (S.place p).1.node).kind ≠ 2 then (ansE 7, S)
 else if kind = 10 ∧ 0 < (S.at_ (S.place p).1.node).names.length then (ansE 9, S)
 else if kind = 11 ∧ (S.at_ (S.place p).1.node).kind = 2 then (ansE 8, S)
 else (ansE 0, S.take (S.place p).1.dir (S.place p).1.name)
def link (p q : Str) : Ans × Tre :=
 if (S.find p false).2 ≠ 0 then (ansE (S.find p false).2, S)
 else if (S.at_ (S.find p false).1.node).kind = 2 then (ansE 16, S)
 else if (S.fresh q).2 ≠ 0 then (ansE (S.fresh q).2, S)
 else (ansE 0, S.add (S.fresh q).1.dir (S.fresh q).1.name (S.find p false).1.node)
def symlink (p q : Str) : Ans × Tre :=
 if (targetM p).2.2 ≠ 0 then (ansE (targetM p).2.2, S)
 else if (S.fresh q).2 ≠ 0 then (ansE (S.fresh q).2, S)
 else (ansE 0, S.make (S.fresh q).1 3 p)
def close (fd : Int) : Ans × Tre :=
 if (Tb.cls S.tab fd).1.2 ≠ 0 then (ansE 10, S)
 else (ansE 0, ({ S with tab := (Tb.cls S.tab fd).2 } : Tre).forget (Tb.cls S.tab fd).1.1)
def withinF : Nat → Int → Int → Bool
 | 0, n, d => n == d
 | k + 1, n, d => if n ≠ d ∧ (S.at_ n).above ≠ 0 then withinF k (S.at_ n).above d else n == d
def within (n d : Int) : Bool := S.withinF 21 n d
def deepF : Nat → Int → List Str → Bool
 | 0, _, parts => longM parts
 | k + 1, n, parts => longM parts || (S.at_ n).names.any fun e => deepF k e.2 (parts ++ [e.1])
def deep (n : Int) (parts : List Str) : Bool := S.deepF 22 n parts
def mv1 (s t : Spt) : Tre := ((S.setN s.dir (dirTake (S.at_ s.dir) s.name)).setN s.node { S.at_ s.node with links := (S.at_ s.node).links - 1 }).add t.dir t.name s.node
def rename (p q : Str) : Ans × Tre :=
 if (lastM p).2.2 ≠ 0 then (ansE (lastM p).2.2, S)
 else if (lastM q).2.2 ≠ 0 then (ansE (lastM q).2.2, S)
 else if (S.place p).2 ≠ 0 then (ansE (S.place p).2, S)
 else if (S.place p).1.node = 0 then (ansE 5, S)
 else if (S.place q).2 ≠ 0 then (ansE (S.place q).2, S)
 else
  let s := (S.place p).1
  let t := (S.place q).1
  let x := S.at_ s.node
  if x.kind = 2 ∧ S.within t.dir s.node = true then (ansE 2, S)
  else if x.kind = 2 ∧ S.deep s.node (S.way t.dir ++ [t.name]) = true then (ansE 11, S)
  else if t.node = s.node then (ansE 0, S)
  else if t.node ≠ 0 ∧ x.kind = 2 ∧ (S.at_ t.node).kind ≠ 2 then (ansE 7, S)
  else if t.node ≠ 0 ∧ x.kind = 2 ∧ 0 < (S.at_ t.node).names.length then (ansE 9, S)
  else if t.node ≠ 0 ∧ x.kind ≠ 2 ∧ (S.at_ t.node).kind = 2 then (ansE 8, S)
  else (ansE 0, (if t.node ≠ 0 then S.take t.dir t.name else S).mv1 s t)
def lasts (fd : Int) : Ans := if (Tb.get S.tab fd).2 ≠ 0 then ansE 10 else ansE 0
end Tre
end Go.Proofs.YtmgpgbfgemebbaaGreatDoor
namespace Go.Proofs.YtmgpgbfgemebbaaGreatDoor
open Go.RowKit Go.Own
section
variable {κ α : Type} [DecidableEq κ]
theorem delA_none {t : List (κ × α)} {x : κ} (h : x ∉ t.map Prod.fst) : delA t x = t := by
 unfold delA
 rw [List.filter_eq_self]
 intro p hp
 have : p.1 ≠ x := fun e => h (e ▸ List.mem_map_of_mem (f := Prod.fst) hp)
 simpa using this
theorem delA_mid {A B : List (κ × α)} {x : κ} {a : α} (h : ((A ++ (x, a) :: B).map Prod.fst).Nodup) : delA (A ++ (x, a) :: B) x = A ++ B := by
 rw [List.map_append, List.map_cons, List.nodup_append] at h
 have hA : x ∉ A.map Prod.fst := fun hx => h.2.2 x hx x List.mem_cons_self rfl
 have hB : x ∉ B.map Prod.fst := (List.nodup_cons.1 h.2.1).1
 have h1 := delA_none hA
 have h2 := delA_none hB
 unfold delA at *
 rw [List.filter_append, h1, List.filter_cons, if_neg (by simp), h2]
end
set_option maxRecDepth 100000 in
set_option maxHeartbeats 8000000 in
theorem tForgetB (q m f : Nat) (P : List Pn) (S : Tre) (n : Int) (x : Nod) (w : World) (L : List HP) (hn : fnd S.nodes n = some x) (hPT : pnN P = S.nodes ∧ S.tab.length = 16) (hO : Has w (Trb q m f P S.last S.tab :: L)) :
  Calls Tryz.prog 117 #[.pointer (some ⟨q, 0, none⟩), .int .i64 n] w fun e w' => e = .returned (.tuple #[]) ∧ ∃ P', ((pnN P' = (S.forget n).nodes ∧ (S.forget n).tab.length = 16) ∧ ∀ e ∈ P', ∃ y, (e.1, e.2.1, y) ∈ P) ∧ Has w' (Trb q m f P' (S.forget n).last (S.forget n).tab :: L) ∧ Keep w w' := by
 have HR := hid (show S.forget n = if x.links = 0 ∧ n ≠ 1 ∧ Tb.holds S.tab n = false then { S with nodes := delA S.nodes n } else S from by unfold Tre.forget; rw [hn])
 generalize S.forget n = R at *
 obtain ⟨hP, hT⟩ := hPT
 have h := hO
 have hn' := hn
 rw [← hP] at hn'
 obtain ⟨A, b, B, rfl⟩ := pn_split hn'
 have hnd := Trb.nodup h
 have hmem : (n, b, x) ∈ A ++ (n, b, x) :: B := by simp
 have hokn : kInt.ok n := Mk.ok (trb_iff.1 h).p1 (by rw [pnB_keys]; exact List.mem_map_of_mem (f := Prod.fst) hmem)
 have hq0 := (Trb.cells h).1
 have hq2 := (Trb.cells h).2.2
 have hln := Trg.look (n := n) (b := b) (x := x) (Trg.of h) hmem
 have h1 := Trg.pull (Trg.of h)
 obtain ⟨dv, wv, nm, hnm, h2⟩ := ndc_iff.1 h1
 have hy5 : w.cell? ⟨b, 5, none⟩ = some (.int .i64 x.links) := h2.cells 5
 have HO := hid h
 have HN := hid hnd
 have HPT := hid (And.intro hP hT)
 have HOK := hid hokn
 have HS := hid hO
 clear hn hn' h h1 h2 hnd hP hT hokn hO hmem
 by_cases hl : x.links = 0
 ·have hl1 : (x.links == 0) = true := by simp [hl]
  by_cases h1 : n = 1
  ·subst h1
   have h11 : ((1 : Int) != 1) = false := by simp
   go_enter Tryz.func117, Tryz.ntmps117
   go_wp2_with fail
   go_end0
   rw [HR.out, if_neg (by rintro ⟨-, h, -⟩; exact h rfl)]
   exact ⟨rfl, _, ⟨HPT.out, fun e he => ⟨e.2.2, he⟩⟩, HS.out, Keep.refl w⟩
  ·have h11 : (n != 1) = true := by simp [h1]
   go_enter Tryz.func117, Tryz.ntmps117
   go_wp2_with fail
   refine (tabHolds f S.tab n w _ HPT.out.2 (Trb.tab.1 HO.out)).mono ?_
   rintro e w1 ⟨rfl, hO1, hK1⟩
   have HO1 := hid hO1
   have HK1 := hid ((Keep.refl w).trans hK1)
   clear hO1 hK1
   try dsimp only
   clear hln hy5 hq0 hq2
   have HO2 := hid (Trb.tab.2 HO1.out)
   clear HO1 HO HS
   have hq0 := (Trb.cells HO2.out).1
   cases hh : Tb.holds S.tab n
   ·have HH := hid hh
    clear hh
    have HM := hid (show Has w1 (Mk kInt vPtr m (pnB (A ++ (n, b, x) :: B)) :: pt q (.cells (treC m f S.last) 87) :: Tab f S.tab :: (pnC (A ++ (n, b, x) :: B) ++ L)) from (trb_iff.1 HO2.out).perm (.swap _ _ _))
    go_wp2_with (at_delete; refine wpList_mkDel HM.out tNo undNo rfl _ _ rfl rfl n HOK.out rfl ?_; intro w3 hO3 hK3; simp only [Act.put])
    go_end0
    rw [HR.out, if_pos ⟨hl, h1, HH.out⟩]
    refine ⟨rfl, A ++ B, ?_, ?_, HK1.out.trans hK3⟩
    rotate_left
    have e : pnB (A ++ (n, b, x) :: B) = pnB A ++ (n, some b) :: pnB B := by simp [pnB]
    have e2 : delA (pnB (A ++ (n, b, x) :: B)) n = pnB (A ++ B) := by
     have h4 := HN.out
     rw [← pnB_keys, e] at h4
     rw [e, delA_mid h4]
     simp [pnB]
    rw [e2] at hO3
    refine trb_iff.2 ?_
    have h5 : Has w3 (pt q (.cells (treC m f S.last) 87) :: Mk kInt vPtr m (pnB (A ++ B)) :: Tab f S.tab :: (pnC (A ++ (n, b, x) :: B) ++ L)) := hO3.perm (.swap _ _ _)
    have e6 : pnC (A ++ (n, b, x) :: B) = pnC A ++ Ndc b x :: pnC B := by simp [pnC]
    have e7 : pnC (A ++ B) = pnC A ++ pnC B := by simp [pnC]
    rw [e6] at h5
    rw [e7]
    have h6 : Has w3 (Ndc b x :: (pt q (.cells (treC m f S.last) 87) :: Mk kInt vPtr m (pnB (A ++ B)) :: Tab f S.tab :: (pnC A ++ pnC B ++ L))) := by
     refine h5.perm ?_
     rw [List.append_assoc, List.append_assoc, List.cons_append]
     refine List.Perm.trans (.cons _ (.cons _ (.cons _ List.perm_middle))) ?_
     exact (List.perm_middle (l₁ := [_, _, _]))
    exact h6.drop
    have e3 : delA S.nodes n = pnN (A ++ B) := by
     have h4 := HN.out
     rw [← HPT.out.1]
     have e5 : pnN (A ++ (n, b, x) :: B) = pnN A ++ (n, x) :: pnN B := by simp [pnN]
     rw [← pnN_keys, e5] at h4
     rw [e5, delA_mid h4]
     simp [pnN]
    refine ⟨⟨e3.symm, HPT.out.2⟩, fun e he => ⟨e.2.2, ?_⟩⟩
    rcases List.mem_append.1 he with h | h
    ·exact List.mem_append_left _ h
    ·exact List.mem_append_right _ (List.mem_cons_of_mem _ h)
   ·have HH := hid hh
    clear hh
    go_wp2_with fail
    go_end0
    rw [HR.out, if_neg (by rintro ⟨-, -, h⟩; rw [HH.out] at h; cases h)]
    exact ⟨rfl, _, ⟨HPT.out, fun e he => ⟨e.2.2, he⟩⟩, HO2.out, HK1.out⟩
 ·have hl1 : (x.links == 0) = false := by simp [hl]
  go_enter Tryz.func117, Tryz.ntmps117
  go_wp2_with fail
  go_end0
  rw [HR.out, if_neg (by rintro ⟨h, -⟩; exact hl h)]
  exact ⟨rfl, _, ⟨HPT.out, fun e he => ⟨e.2.2, he⟩⟩, HS.out, Keep.refl w⟩
end Go.Proofs.YtmgpgbfgemebbaaGreatDoor
namespace Go.Proofs.YtmgpgbfgemebbaaGreatDoor
open Go.RowKit Go.Own
theorem fnd_putA {κ α : Type} [DecidableEq κ] {t : List (κ × α)} {x y : κ} {a : α} : fnd (putA t x a) y = if y = x then some a else fnd t y := by
 unfold putA
 by_cases hx : x ∈ t.map Prod.fst
 ·rw [if_pos hx]
  unfold fnd
  induction t with
  | nil => simp at hx
  | cons p t ih =>
   rw [List.map_cons, List.find?_cons]
   by_cases hp : p.1 = x
   ·rw [if_pos hp]
    by_cases hy : y = x
    ·subst hy; simp
    ·rw [if_neg hy]
     have h1 : decide (x = y) = false := by simp; exact fun e => hy e.symm
     have h2 : decide (p.1 = y) = false := by simp; rw [hp]; exact fun e => hy e.symm
     rw [List.find?_cons, h2]
     simp only [h1]
     by_cases hx' : x ∈ t.map Prod.fst
     ·have := ih hx'
      rw [if_neg hy] at this
      exact this
     ·congr 1
      rw [show List.map (fun p => if p.1 = x then (x, a) else p) t = t from by
       conv => rhs; rw [← List.map_id t]
       apply List.map_congr_left
       intro r hr
       show (if r.1 = x then (x, a) else r) = r
       rw [if_neg (fun e : r.1 = x => hx' (e ▸ List.mem_map_of_mem (f := Prod.fst) hr))]]
   ·rw [if_neg hp, List.find?_cons]
    have hx' : x ∈ t.map Prod.fst := by
     rw [List.map_cons, List.mem_cons] at hx
     exact hx.resolve_left (fun e => hp e.symm)
    have := ih hx'
    by_cases hpy : p.1 = y
    ·have hy : y ≠ x := fun e => hp (hpy.trans e)
     simp [hpy, hy]
    ·simp only [hpy, decide_false]
     exact this
 ·rw [if_neg hx]
  unfold fnd
  rw [List.find?_append]
  by_cases hy : y = x
  ·subst hy
   rw [if_pos rfl]
   have : t.find? (fun p => decide (p.1 = y)) = none := by
    rw [List.find?_eq_none]
    intro p hp
    simp only [decide_eq_true_eq]
    exact fun e => hx (e ▸ List.mem_map_of_mem (f := Prod.fst) hp)
   rw [this]
   simp
  ·rw [if_neg hy]
   have h1 : List.find? (fun p => decide (p.1 = y)) [(x, a)] = none := by simp; exact fun e => hy e.symm
   rw [h1]
   cases List.find? (fun p => decide (p.1 = y)) t <;> rfl
theorem Trg.closeB {w : World} {L : List HP} {q m f : Nat} {PB PC P : List Pn} {last : Int} {T : List Tb.Slot} (h : Has w (Trg q m f PB last T PC :: L)) (hp : PC.Perm P) (hb : pnB P = pnB PB) : Has w (Trb q m f P last T :: L) := by
 refine trb_iff.2 ?_
 rw [hb]
 refine (trg_iff.1 h).perm (.cons _ (.cons _ (.cons _ ?_)))
 exact List.Perm.append_right _ (hp.map _)
set_option maxRecDepth 100000 in
set_option maxHeartbeats 8000000 in
theorem tTakeB (q m f : Nat) (P : List Pn) (S : Tre) (dir : Int) (name : Str) (n : Int) (d x : Nod) (w : World) (L : List HP) (hd : fnd S.nodes dir = some d) (hc : fnd d.names name = some n) (hn : fnd S.nodes n = some x) (hne : dir ≠ n) (hk : d.kind = 2) (hl : name.length ≤ 1000000) (hx0 : -1000000 ≤ x.links) (hx1 : x.links < 1000000) (hPT : pnN P = S.nodes ∧ S.tab.length = 16) (hO : Has w (Trb q m f P S.last S.tab :: L)) :
  Calls Tryz.prog 121 #[.pointer (some ⟨q, 0, none⟩), .int .i64 dir, sV name] w fun e w' => e = .returned (.tuple #[]) ∧ ∃ P', ((pnN P' = (S.take dir name).nodes ∧ (S.take dir name).tab.length = 16) ∧ ∀ e ∈ P', ∃ y, (e.1, e.2.1, y) ∈ P) ∧ Has w' (Trb q m f P' (S.take dir name).last (S.take dir name).tab :: L) ∧ Keep w w' := by
 obtain ⟨hP, hT⟩ := hPT
 have h := hO
 have hd' := hd
 have hn' := hn
 rw [← hP] at hd' hn'
 obtain ⟨b, b2, R, hperm⟩ := pn_split2 hd' hn' hne
 have hnd := Trb.nodup h
 have hq := (Trb.cells h).1
 have hld := Trg.look (n := dir) (b := b) (x := d) (Trg.of h) (hperm.mem_iff.2 (by simp))
 have h1 := (Trg.pullP (Trg.of h) hperm).re 2 [1, 0]
 have h2 := Trg.pullP h1 (.refl _)
 obtain ⟨dv2, wv2, nm2, hnm2, h3⟩ := ndc_iff.1 h2
 obtain ⟨dv, wv, nm, hnm, h4⟩ := ndc_iff.1 (h3.re 6 [5, 0, 1, 2, 3, 4])
 obtain ⟨mm, rfl⟩ := hnm hk
 have HO := hid (show Has w (Mk kStr vInt mm d.names :: pt b (.cells (nodC d dv wv (some mm)) 82) :: Dat d.kind dv d.data :: Bools wv d.wr :: pt b2 (.cells (nodC x dv2 wv2 nm2) 82) :: Dat x.kind dv2 x.data :: Bools wv2 x.wr :: Nms nm2 x.names :: Trg q m f P S.last S.tab R :: L) from h4.re 4 [3, 0, 1, 2])
 have HPM := hid hperm
 have HND := hid hnd
 have HPT := hid (And.intro hP hT)
 have HNM := hid hnm
 have HNM2 := hid hnm2
 have HDN := hid (And.intro hd hn)
 have HC := hid hc
 have hsl : name.length ≤ maxLen := Nat.le_trans hl (le_maxLen (by omega))
 have hlc : (Instr.lookup tNm (.map (some mm)) (sV name) false).run Tryz.prog w = .ok (.int .i64 n) w := by
  have h := Mk.look0 HO.out undNm hsl
  rw [HC.out] at h
  exact h
 have hc3 : w.cell? ⟨b, 3, none⟩ = some (.map (some mm)) := HO.out.p1.cells 3
 have HMS := hid (show ∀ w', Has w' (Trg q m f P S.last S.tab R :: L) → w'.cell? ⟨q, 0, none⟩ = some (.map (some m)) ∧ (Instr.lookup tNo (.map (some m)) (.int .i64 n) false).run Tryz.prog w' = .ok (.pointer (some ⟨b2, 0, none⟩)) w' from fun w' h' => ⟨(Trg.cells h').1, Trg.look (x := x) h' (hperm.mem_iff.2 (by simp))⟩)
 clear hd' hn' hd hn h h1 h2 h3 h4 hO hperm hnd hP hT hnm hnm2 hc
 have hfin : ∀ (w' : World) (x' : Nod), x'.kind = x.kind → x'.data = x.data → x'.wr = x.wr → x'.names = x.names → Tre.nodTake x = x' → Has w' (pt b2 (.cells (nodC x' dv2 wv2 nm2) 82) :: pt b (.cells (nodC (Tre.dirTake d name) dv wv (some mm)) 82) :: Mk kStr vInt mm (delA d.names name) :: Dat d.kind dv d.data :: Bools wv d.wr :: Dat x.kind dv2 x.data :: Bools wv2 x.wr :: Nms nm2 x.names :: Trg q m f P S.last S.tab R :: L) → Has w' (Trb q m f (P.map (rep2 dir (Tre.dirTake d name) n x')) S.last S.tab :: L) ∧ pnN (P.map (rep2 dir (Tre.dirTake d name) n x')) = ((S.setN dir (Tre.dirTake d name)).setN n x').nodes := by
  intro w' x' e1 e2 e3 e4 hxe h
  have g1 : Has w' (Ndc b2 x' :: pt b (.cells (nodC (Tre.dirTake d name) dv wv (some mm)) 82) :: Mk kStr vInt mm (delA d.names name) :: Dat d.kind dv d.data :: Bools wv d.wr :: Trg q m f P S.last S.tab R :: L) := ndc_iff.2 ⟨dv2, wv2, nm2, by rw [e1]; exact HNM2.out, by rw [e1, e2, e3, e4]; exact h.re 8 [0, 5, 6, 7, 1, 2, 3, 4]⟩
  have g2 : Has w' (Ndc b (Tre.dirTake d name) :: Ndc b2 x' :: Trg q m f P S.last S.tab R :: L) := ndc_iff.2 ⟨dv, wv, some mm, fun _ => ⟨mm, rfl⟩, g1.re 5 [1, 3, 4, 2, 0]⟩
  have g3 : Has w' (Trg q m f P S.last S.tab ((n, b2, x') :: R) :: Ndc b (Tre.dirTake d name) :: L) := Trg.push n (g2.re 3 [1, 2, 0])
  have g4 : Has w' (Trg q m f P S.last S.tab ((dir, b, Tre.dirTake d name) :: (n, b2, x') :: R) :: L) := Trg.push dir (g3.re 2 [1, 0])
  refine ⟨Trg.closeB g4 (rep2_perm HPM.out HND.out hne).symm rep2_pnB, ?_⟩
  rw [rep2_pnN (by rw [pnN_keys]; exact (HPM.out.map Prod.fst).mem_iff.2 (by simp)) (by rw [pnN_keys]; exact (HPM.out.map Prod.fst).mem_iff.2 (by simp)), HPT.out.1]
  rfl
 have HFIN := hid hfin
 have HTK := hid (show S.take dir name = ((S.setN dir (Tre.dirTake d name)).setN n (Tre.nodTake x)).forget n ∧ fnd ((S.setN dir (Tre.dirTake d name)).setN n (Tre.nodTake x)).nodes n = some (Tre.nodTake x) from by
  have a1 : S.at_ dir = d := by unfold Tre.at_; rw [HDN.out.1]; rfl
  have a2 : S.at_ n = x := by unfold Tre.at_; rw [HDN.out.2]; rfl
  have a3 : S.kid dir name = n := by unfold Tre.kid; rw [a1, HC.out]; rfl
  refine ⟨by unfold Tre.take; rw [a3, a1, a2], ?_⟩
  show fnd (putA _ n _) n = _
  rw [fnd_putA, if_pos rfl])
 have wx : IntKind.i64.wrap (x.links - 1) = x.links - 1 := wrapk_in _ (by omega)
 clear hfin
 go_enter Tryz.func121, Tryz.ntmps121
 go_upto_region 3 with (at_delete; refine wpList_mkDel HO.out tNm undNm rfl _ _ rfl rfl name hsl rfl ?_; intro w2 hO2 hK2; simp only [Act.put])
 have HO2 := hid (show Has w2 (pt b2 (.cells (nodC x dv2 wv2 nm2) 82) :: pt b (.cells (nodC (Tre.dirTake d name) dv wv (some mm)) 82) :: Mk kStr vInt mm (delA d.names name) :: Dat d.kind dv d.data :: Bools wv d.wr :: Dat x.kind dv2 x.data :: Bools wv2 x.wr :: Nms nm2 x.names :: Trg q m f P S.last S.tab R :: L) from hO2.re 5 [4, 1, 0, 2, 3])
 have HK2 := hid hK2
 clear hO2 hK2 HO hlc hc3 hq hld
 obtain ⟨hq0, hln⟩ := HMS.out w2 (HO2.out.re 9 [8])
 have hy0 : w2.cell? ⟨b2, 0, none⟩ = some (.int .i64 x.kind) := HO2.out.cells 0
 have hy5 : w2.cell? ⟨b2, 5, none⟩ = some (.int .i64 x.links) := HO2.out.cells 5
 have hy6 : w2.cell? ⟨b2, 6, none⟩ = some (.int .i64 x.above) := HO2.out.cells 6
 have hz5 := HO2.out.thaw 5
 have hz6 := HO2.out.thaw 6
 have HNT := hid (show Tre.nodTake x = { x with links := x.links - 1, above := if x.kind = 2 then 0 else x.above } from rfl)
 by_cases hk2 : x.kind = 2
 ·have hkt : (x.kind == 2) = true := by simp [hk2]
  go_upto_region 7 with fail
  have HO3 := hid (HFIN.out _ { x with links := x.links - 1, above := 0 } rfl rfl rfl rfl (by rw [HNT.out, if_pos hk2]) ((HO2.out.set 5 (.int .i64 (x.links - 1))).set 6 (.int .i64 0)))
  have HK3 := hid ((HK2.out.set ⟨b2, 5, none⟩ (.int .i64 (x.links - 1))).set ⟨b2, 6, none⟩ (.int .i64 0))
  clear HO2 HK2 hy0 hy5 hy6 hz5 hz6 hq0 hln HFIN
  generalize (w2.setCell ⟨b2, 5, none⟩ (.int .i64 (x.links - 1))).setCell ⟨b2, 6, none⟩ (.int .i64 0) = w3 at *
  have HNE : Tre.nodTake x = { x with links := x.links - 1, above := 0 } := by rw [HNT.out, if_pos hk2]
  have HTK2 := hid HTK.out
  rw [HNE] at HTK2
  go_wp2_with fail
  refine (tForgetB q m f _ _ n _ w3 L HTK2.out.2 ⟨HO3.out.2, HPT.out.2⟩ HO3.out.1).mono ?_
  rintro e w4 ⟨rfl, P4, hp4, hO4, hK4⟩
  have HP4 := hid hp4
  have HO4 := hid hO4
  have HK4 := hid (HK3.out.trans hK4)
  clear hp4 hO4 hK4
  try dsimp only
  go_wp2_with fail
  go_end0
  rw [HTK2.out.1]
  refine ⟨rfl, P4, ⟨HP4.out.1, fun e he => ?_⟩, HO4.out, HK4.out⟩
  obtain ⟨y, hy⟩ := HP4.out.2 e he
  obtain ⟨p, hp, hpe⟩ := List.mem_map.1 hy
  have h1 := congrArg Prod.fst hpe
  have h2 := congrArg (fun z : Pn => z.2.1) hpe
  exact ⟨p.2.2, by rw [← h1, ← h2]; exact hp⟩
 ·have hkt : (x.kind == 2) = false := by simp [hk2]
  go_upto_region 7 with fail
  have HO3 := hid (HFIN.out _ { x with links := x.links - 1 } rfl rfl rfl rfl (by rw [HNT.out, if_neg hk2]) (HO2.out.set 5 (.int .i64 (x.links - 1))))
  have HK3 := hid (HK2.out.set ⟨b2, 5, none⟩ (.int .i64 (x.links - 1)))
  clear HO2 HK2 hy0 hy5 hy6 hz5 hz6 hq0 hln HFIN
  generalize w2.setCell ⟨b2, 5, none⟩ (.int .i64 (x.links - 1)) = w3 at *
  have HNE : Tre.nodTake x = { x with links := x.links - 1 } := by rw [HNT.out, if_neg hk2]
  have HTK2 := hid HTK.out
  rw [HNE] at HTK2
  go_wp2_with fail
  refine (tForgetB q m f _ _ n _ w3 L HTK2.out.2 ⟨HO3.out.2, HPT.out.2⟩ HO3.out.1).mono ?_
  rintro e w4 ⟨rfl, P4, hp4, hO4, hK4⟩
  have HP4 := hid hp4
  have HO4 := hid hO4
  have HK4 := hid (HK3.out.trans hK4)
  clear hp4 hO4 hK4
  try dsimp only
  go_wp2_with fail
  go_end0
  rw [HTK2.out.1]
  refine ⟨rfl, P4, ⟨HP4.out.1, fun e he => ?_⟩, HO4.out, HK4.out⟩
  obtain ⟨y, hy⟩ := HP4.out.2 e he
  obtain ⟨p, hp, hpe⟩ := List.mem_map.1 hy
  have h1 := congrArg Prod.fst hpe
  have h2 := congrArg (fun z : Pn => z.2.1) hpe
  exact ⟨p.2.2, by rw [← h1, ← h2]; exact hp⟩
theorem tTake (q : Nat) (S : Tre) (dir : Int) (name : Str) (n : Int) (d x : Nod) (w : World) (L : List HP) (hd : fnd S.nodes dir = some d) (hc : fnd d.names name = some n) (hn : fnd S.nodes n = some x) (hne : dir ≠ n) (hk : d.kind = 2) (hl : name.length ≤ 1000000) (hx0 : -1000000 ≤ x.links) (hx1 : x.links < 1000000) (hO : Has w (Trc q S :: L)) :
  Calls Tryz.prog 121 #[.pointer (some ⟨q, 0, none⟩), .int .i64 dir, sV name] w fun e w' => e = .returned (.tuple #[]) ∧ Has w' (Trc q (S.take dir name) :: L) ∧ Keep w w' := by
 obtain ⟨m, f, P, hPT, h⟩ := trc_iff.1 hO
 refine (tTakeB q m f P S dir name n d x w L hd hc hn hne hk hl hx0 hx1 hPT h).mono ?_
 rintro e w' ⟨rfl, P', h1, h2, h3⟩
 exact ⟨rfl, trc_iff.2 ⟨m, f, P', h1.1, h2⟩, h3⟩
end Go.Proofs.YtmgpgbfgemebbaaGreatDoor
namespace Go.Proofs.YtmgpgbfgemebbaaGreatDoor
open Go.RowKit Go.Own
set_option maxRecDepth 100000 in
set_option maxHeartbeats 4000000 in
theorem tFind (q : Nat) (S : Tre) (p : Str) (fo : Bool) (mx : Int) (w : World) (L : List HP) (hW : Wk S) (hM : MxL mx L) (hp : p.length ≤ 100000) (hO : Has w (Trc q S :: L)) :
  Calls Tryz.prog 76 #[.pointer (some ⟨q, 0, none⟩), sV p, .bool fo] w fun e w' => e = .returned (.tuple #[spV (S.find p fo).1, .int .i64 (S.find p fo).2]) ∧ Has w' (Trc q S :: L) ∧ Keep w w' := by
 have HPn := hid (fun (w : World) (L' : List HP) (hM : MxL mx L') (hO : Has w L') => pSplit p mx w L' hM hp hO)
 have hl := split_len p
 have h24 := split_short p
 have HF := hid (show S.find p fo = if (splitM p).2 ≠ 0 then (spt0, (splitM p).2) else S.walk ⟨1, 0, []⟩ 0 (splitM p).1 fo from rfl)
 generalize S.find p fo = R at *
 generalize splitM p = M at *
 obtain ⟨ps, me⟩ := M
 dsimp only at *
 have HM := hid hM
 have HT := hid (fun (v : Value) (w : World) (L' : List HP) (hM : MxL mx L') (hO : Has w (VwS v ps :: Trc q S :: L')) => tWalk q S 1 v ps fo mx w L' hW hM hW.root (by omega) h24 hO)
 generalize S.walk ⟨1, 0, []⟩ 0 ps fo = R2 at *
 obtain ⟨s2, e2⟩ := R2
 dsimp only at *
 have HO := hid hO
 clear hM hO hl h24 hp
 go_enter Tryz.func76, Tryz.ntmps76
 go_wp2_with fail
 refine (HPn.out _ _ ((HM.out.cons _).cons (pt w.heap.size (.cells (spC spt0) 102))) (HO.out.alloc _)).mono ?_
 rintro e w1 ⟨v1, rfl, hO1, hK1⟩
 have HO1 := hid hO1
 have HK1 := hid (((Keep.refl w).alloc _).trans hK1)
 clear hO1 hK1
 try dsimp only
 obtain ⟨p1, c1, rfl, -⟩ := (Strs.rd HO1.out).form
 generalize w.heap.size = g8 at *
 have hc80 : w1.cell? ⟨g8, 0, none⟩ = some (.int .i64 0) := HO1.out.p1.cells 0
 have hc81 : w1.cell? ⟨g8, 1, none⟩ = some (.int .i64 0) := HO1.out.p1.cells 1
 have hc82 : w1.cell? ⟨g8, 2, none⟩ = some (sV []) := HO1.out.p1.cells 2
 have ht80 := HO1.out.p1.thaw 0
 have ht81 := HO1.out.p1.thaw 1
 have ht82 := HO1.out.p1.thaw 2
 by_cases he : me = 0
 ·subst he
  have HR := hid (show R = (s2, e2) from by rw [HF.out, if_neg (by simp)])
  go_wp2_with fail
  refine (HT.out _ w1 _ (HM.out.cons (pt g8 (.cells (spC spt0) 102))) (VwS.of (HO1.out.re 3 [0, 2, 1]))).mono ?_
  rintro e w2 ⟨rfl, hO2, hK2⟩
  have HO2 := hid hO2
  have HK2 := hid ((HK1.out).trans hK2)
  clear hO2 hK2
  try dsimp only
  clear hc80 hc81 hc82 ht80 ht81 ht82
  have hc80 : w2.cell? ⟨g8, 0, none⟩ = some (.int .i64 0) := HO2.out.p1.cells 0
  have hc81 : w2.cell? ⟨g8, 1, none⟩ = some (.int .i64 0) := HO2.out.p1.cells 1
  have hc82 : w2.cell? ⟨g8, 2, none⟩ = some (sV []) := HO2.out.p1.cells 2
  have ht80 := HO2.out.p1.thaw 0
  have ht81 := HO2.out.p1.thaw 1
  have ht82 := HO2.out.p1.thaw 2
  unfold spV spC
  go_wp2_with fail
  have h1 := (show Has w2 (pt g8 (.cells (spC spt0) 102) :: Trc q S :: L) from HO2.out.re 2 [1, 0]).spt s2
  refine bodyPost_ret (spt_result s2 rfl rfl rfl h1) rfl ?_
  rw [HR.out]
  exact ⟨rfl, h1.drop, HK2.out.spt _ _ _ _⟩
 ·have HR := hid (show R = (spt0, me) from by rw [HF.out, if_pos he])
  clear HF
  go_wp2_with fail
  have h1 := (show Has w1 (pt g8 (.cells (spC spt0) 102) :: Trc q S :: L) from HO1.out.re 3 [1, 2]).spt spt0
  refine bodyPost_ret (spt_result spt0 rfl rfl rfl h1) rfl ?_
  rw [HR.out]
  exact ⟨rfl, h1.drop, HK1.out.spt _ _ _ _⟩
set_option maxRecDepth 100000 in
theorem tLong (v : Value) (parts : List Str) (w : World) (L : List HP) (hr : Rd w v 1 parts.length (parts.map sV)) (hl : parts.length ≤ 1000) (hj : (joinS parts).length ≤ 1000000) (hO : Has w L) :
  Calls Tryz.prog 175 #[v] w fun e w' => e = .returned (.bool (Tre.longM parts)) ∧ Has w' L ∧ Keep w w' := by
 have HJ := hid (pJoin v parts w L hr (by omega) hj hO)
 obtain ⟨p1, c1, rfl, -⟩ := hr.form
 have hm : Tre.longM parts = (decide (20 < parts.length) || decide (200 < (joinM parts).length)) := rfl
 have HO := hid hO
 generalize joinM parts = js at *
 clear hO hr hj
 by_cases h20 : (20 : Int) < (parts.length : Int)
 ·have HR := hid (show Tre.longM parts = true from by rw [hm, decide_eq_true (by omega)]; rfl)
  clear hm
  go_enter Tryz.func175, Tryz.ntmps175
  go_wp2_with fail
  go_ret
  rw [HR.out]
  exact ⟨rfl, HO.out, Keep.refl _⟩
 ·have HR := hid (show Tre.longM parts = decide ((200 : Int) < (js.length : Int)) from by rw [hm, decide_eq_false (by omega)]; simp; omega)
  clear hm
  go_enter Tryz.func175, Tryz.ntmps175
  go_wp2_with fail
  refine (HJ.out).mono ?_
  rintro e w1 ⟨rfl, hO1, hK1⟩
  have HO1 := hid hO1
  have HK1 := hid ((Keep.refl w).trans hK1)
  clear hO1 hK1
  try dsimp only
  go_wp2_with fail
  go_ret
  rw [HR.out]
  exact ⟨rfl, HO1.out, HK1.out⟩
end Go.Proofs.YtmgpgbfgemebbaaGreatDoor
namespace Go.Own
open Go.RowKit
section
variable {w w' : World} {l : List HP} {v : Value} {e : TypeId} {size n : Nat} {xs : List Value}
theorem Has.grow (h : Has w l) (os : Array Obj) : Has (Sort.grow w os) l := h.frame fun k hk => by
 show (w.heap ++ os)[k]? = _
 rw [Array.getElem?_append_left hk]
theorem Has.ahead (h : Has w l) (m : Nat) : Has (Sort.ahead w m) l := h
theorem Has.putRow {α : Type} [Inhabited α] (enc : α → Value) {g cap m : Nat} {d : Array α} (h : Has w (row (.slice (some ⟨g, 0, none⟩) m cap) e 1 n xs :: l)) (hd : d.size = n) :
  Has (Sort.putRow enc w g 0 d) (row (.slice (some ⟨g, 0, none⟩) m cap) e 1 n (d.toList.map enc) :: l) := by
 obtain ⟨hl, h | ⟨g', cap', cur, e1, h1, h2, h3, h4, h5⟩⟩ := h.row_cases
 ·exact absurd h.1 (by simp)
 ·simp only [Value.slice.injEq, Option.some.injEq, Addr.mk.injEq] at e1
  obtain ⟨⟨rfl, -, -⟩, rfl, rfl⟩ := e1
  subst hd
  have hp : Has (Sort.putRow enc w g 0 d) (pt g (.cells (Sort.putCells enc 0 d cur) e) :: l) := by
   refine h5.turn (fun k _ hk => ?_) ?_
   ·simp [Sort.putRow, Sort.mapBlock, Array.getElem?_modify, Ne.symm hk]
   ·simp [Sort.putRow, Sort.mapBlock, Array.getElem?_modify, h5.lookup, Sort.onCells]
  refine hp.row_of h1 h2 (by simpa [Sort.putCells] using h3) ?_ (by simp)
  apply List.ext_getElem?
  intro k
  rw [Nat.mul_one] at h3
  by_cases hk : k < d.size
  ·have hkc : k < cur.size := by omega
   rw [Nat.mul_one, List.getElem?_take, if_pos hk, Array.getElem?_toList, Sort.putCells, Array.getElem?_mapIdx, Array.getElem?_eq_getElem hkc, Option.map_some, if_pos ⟨Nat.zero_le _, by omega⟩, List.getElem?_map, Array.getElem?_toList, Nat.sub_zero,
    Array.getElem?_eq_getElem hk, Option.map_some, getElem!_pos d k hk]
  ·rw [List.getElem?_eq_none (by simp; omega), List.getElem?_eq_none (by simp; omega)]
end
end Go.Own
namespace Go.Proofs.YtmgpgbfgemebbaaGreatDoor
open Go.RowKit Go.Own
theorem strs_holds {w : World} {L : List HP} {g cap m : Nat} {l : List Str} (hO : Has w (Strs (.slice (some ⟨g, 0, none⟩) m cap) l :: L)) : Sort.Holds encStr w g 0 l.toArray := by
 obtain ⟨-, hc, hf, -, -⟩ := hO.row_cells
 intro j hj
 have hj' : j < l.length := by simpa using hj
 refine ⟨?_, by rw [Nat.zero_add]; exact hf j⟩
 rw [Nat.zero_add, hc j (by omega), List.getElem?_map, List.getElem?_eq_getElem hj', Option.map_some, getElem!_pos _ j hj, List.getElem_toArray]
theorem reverseS (v : Value) (l : List Str) (w : World) (L : List HP) (hl : l.length ≤ 1000000) (hO : Has w (Strs v l :: L)) :
  Calls Tryz.prog 188 #[v] w fun e w' => e = .returned (.tuple #[]) ∧ Has w' (Strs v l.reverse :: L) ∧ Keep w w' := by
 obtain ⟨h1, ⟨rfl, h2, h3, -⟩ | ⟨g, cap, cur, rfl, h2, h3, -, -, h4⟩⟩ := Has.row_cases hO
 ·have hn : l = [] := List.eq_nil_of_length_eq_zero h2
  subst hn
  refine (Tryz.slices_Reverse_string_empty none 0 w).mono ?_
  rintro e w' ⟨rfl, rfl⟩
  exact ⟨rfl, by simpa using hO, Keep.refl _⟩
 ·refine (Tryz.slices_Reverse_string g 0 cap l w (strs_holds hO) (by omega)).mono ?_
  rintro e w' ⟨rfl, m, rfl⟩
  have h5 := (Has.ahead hO m).putRow (d := l.reverse.toArray) encStr (by simp)
  refine ⟨rfl, ?_, rfl, rfl, rfl, by simp [Sort.putRow, Sort.mapBlock, Sort.ahead]⟩
  unfold Strs
  rw [List.length_reverse]
  exact h5
end Go.Proofs.YtmgpgbfgemebbaaGreatDoor
namespace Go.Proofs.YtmgpgbfgemebbaaGreatDoor
open Go.RowKit Go.Own
theorem kStr_val (p : Str) : kStr.val p = sV p := rfl
theorem vInt_val (x : Int) : vInt.val x = .int .i64 x := rfl
def wTail (nm : Str) (rem : List Str) : List Str := if nm ∈ rem then [] else [nm]
theorem wTail_in {nm : Str} {rem : List Str} (h : nm ∈ rem) : wTail nm rem = [] := if_pos h
theorem wTail_no {nm : Str} {rem : List Str} (h : nm ∉ rem) : wTail nm rem = [nm] := if_neg h
set_option maxRecDepth 100000 in
set_option maxHeartbeats 8000000 in
theorem tWay (q m f : Nat) (P : List Pn) (S : Tre) (rk : Int → Nat) (n0 : Int) (x0 : Nod) (w : World) (L : List HP) (hW : Wy S rk) (hn : fnd S.nodes n0 = some x0) (hPT : pnN P = S.nodes ∧ S.tab.length = 16) (hO : Has w (Trb q m f P S.last S.tab :: L)) :
  Calls Tryz.prog 128 #[.pointer (some ⟨q, 0, none⟩), .int .i64 n0] w fun e w' => ∃ v, e = .returned v ∧ Has w' (Strs v (S.way n0) :: Trb q m f P S.last S.tab :: L) ∧ Keep w w' := by
 have HW := hid hW
 have HPT := hid hPT
 have HO := hid hO
 have hlow := hW.low n0
 generalize hR : S.way n0 = R
 have HR := hid hR
 clear hW hO hPT hR
 go_enter Tryz.func128, Tryz.ntmps128
 go_wp2_with fail
 go_loopw [1, 5] (fun a v w' => ∃ (n : Int) (x : Nod) (out : List Str), a = .int .i64 n ∧ fnd S.nodes n = some x ∧ out.length + rk n ≤ 20 ∧ Hid (S.way n ++ out.reverse = R) ∧ Hid (Has w' (Strs v out :: Trb q m f P S.last S.tab :: L)) ∧ Hid (Keep w w')) (fun a _ _ => rk (intOf a))
 case atStart => exact ⟨n0, x0, [], rfl, hn, by simpa using hlow, hid (by rw [← HR.out]; simp), hid (HO.out.row_nil tStr 1), hid (Keep.refl w)⟩
 case round =>
  clear HO hn hlow
  obtain ⟨n, x, out, rfl, hx, hlen, HRR, HO, HK⟩ := hrel
  obtain ⟨pv, cv, rfl, -⟩ := (Strs.rd HO.out).form
  have HT := hid (HO.out.re 2 [1, 0])
  have hx' := hx
  rw [← HPT.out.1] at hx'
  obtain ⟨b, hb, hl⟩ := Trb.look HT.out hx'
  obtain ⟨dv, wv, nm, -, hc, -⟩ := Trb.node HT.out hb
  have hcb6 : wr.cell? ⟨b, 6, none⟩ = some (.int .i64 x.above) := hc 6
  have hcq := (Trb.cells HT.out).1
  have hat : S.at_ n = x := by unfold Tre.at_; rw [hx]; rfl
  have HLEN := hid hlen
  clear hc hx' hlen
  by_cases hstop : n = 1 ∨ x.above = 0
  ·have HE := hid (show out.reverse = R from by rw [← HRR.out, way_stop (by rw [hat]; exact hstop)]; rfl)
   have HOX := hid (show Has wr (Strs (.slice pv out.length cv) out :: Trb q m f P S.last S.tab :: L) from HO.out)
   have HL := hid (show out.length ≤ 1000000 from by have := HLEN.out; omega)
   by_cases h1 : n = 1
   ·subst h1
    clear hstop
    go_wp2_with fail
    refine (reverseS _ out _ _ HL.out HOX.out).mono ?_
    rintro e w2 ⟨rfl, hO2, hK2⟩
    have HO2 := hid hO2
    have HK2 := hid ((HK.out).trans hK2)
    clear hO2 hK2
    try dsimp only
    go_wp2_with fail
    go_ret
    rw [← HE.out]
    exact ⟨_, rfl, HO2.out, HK2.out⟩
   ·have h2 : x.above = 0 := hstop.resolve_left h1
    clear hstop
    go_wp2_with fail
    refine (reverseS _ out _ _ HL.out HOX.out).mono ?_
    rintro e w2 ⟨rfl, hO2, hK2⟩
    have HO2 := hid hO2
    have HK2 := hid ((HK.out).trans hK2)
    clear hO2 hK2
    try dsimp only
    go_wp2_with fail
    go_ret
    rw [← HE.out]
    exact ⟨_, rfl, HO2.out, HK2.out⟩
  ·simp only [not_or] at hstop
   obtain ⟨h1, h2⟩ := hstop
   have h1b : (n != 1) = true := by simpa using h1
   have h2b : (x.above != 0) = true := by simpa using h2
   obtain ⟨y, nm2, hy, hf, hrk, hnl, hw2⟩ := way_step HW.out hx h1 h2
   have hyn : y.names ≠ [] := by intro e; rw [e] at hf; simp at hf
   have hy' := hy
   rw [← HPT.out.1] at hy'
   obtain ⟨A, b2, B, hPe⟩ := pn_split hy'
   have HPe := hid hPe
   have hl2 := Trg.look (x := y) (b := b2) (n := x.above) (Trg.of HT.out) (by rw [hPe]; simp)
   have HG := HT.out
   rw [hPe] at HG
   obtain ⟨dv2, wv2, nmv, hnm2, HN⟩ := ndc_iff.1 (Trg.pull (Trg.of HG))
   obtain ⟨mm, rfl⟩ : ∃ mm, nmv = some mm := by
    cases nmv with
    | none => exact absurd (Has.fact_iff.1 HN.drop.drop.drop).1 hyn
    | some mm => exact ⟨mm, rfl⟩
   have hcb3 : wr.cell? ⟨b2, 3, none⟩ = some (.map (some mm)) := HN.cells 3
   have HN2 := hid (show Has wr (Mk kStr vInt mm y.names :: pt b2 (.cells (nodC y dv2 wv2 (some mm)) 82) :: Dat y.kind dv2 y.data :: Bools wv2 y.wr :: Trg q m f (A ++ (x.above, b2, y) :: B) S.last S.tab (A ++ B) :: Strs (.slice pv out.length cv) out :: L) from HN.re 6 [3, 0, 1, 2, 4, 5])
   have HX := hid (show ∀ p ∈ y.names, (p.2 = n → p = (nm2, n)) ∧ (p.2 ≠ n → p.1 ≠ nm2) from by
    have hin : (nm2, n) ∈ y.names := (List.mem_filter.1 (show (nm2, n) ∈ y.names.filter (fun p => decide (p.2 = n)) by rw [hf]; simp)).1
    rintro ⟨p1, p2⟩ hp
    refine ⟨?_, ?_⟩
    ·rintro rfl
     have : (p1, p2) ∈ y.names.filter (fun p => decide (p.2 = p2)) := List.mem_filter.2 ⟨hp, by simp⟩
     rw [hf] at this
     exact List.mem_singleton.1 this
    ·rintro h0 rfl
     have e1 := fnd_mem (Mk.nodup HN2.out) hp
     have e2 := fnd_mem (Mk.nodup HN2.out) hin
     rw [e1] at e2
     exact h0 (Option.some.inj e2))
   have HF := hid hf
   have HRK := hid hrk
   have HHN := hid hnm2
   have HW2 := hid hw2
   clear hf hrk hnl hw2 HG HN hnm2 hPe hyn hb HO
   go_wp2_with (at_range; refine wpList_mkStart HN2.out tNm undNm rfl _ rfl rfl ?_; intro w4 hO4 hK4 hs4)
   try go_frame
   have HO4 := hid (show Has w4 (Mr kStr vInt mm wr.heap.size y.names (y.names.map Prod.fst) y.names.length :: Strs (.slice pv out.length cv) (out ++ wTail nm2 (y.names.map Prod.fst)) :: pt b2 (.cells (nodC y dv2 wv2 (some mm)) 82) :: Dat y.kind dv2 y.data :: Bools wv2 y.wr :: Trg q m f (A ++ (x.above, b2, y) :: B) S.last S.tab (A ++ B) :: L) from by
    rw [wTail_in (by
     have : (nm2, n) ∈ y.names.filter (fun p => decide (p.2 = n)) := by rw [HF.out]; simp
     exact List.mem_map_of_mem (f := Prod.fst) (List.mem_filter.1 this).1), List.append_nil]
    exact hO4.re 6 [0, 5, 1, 2, 3, 4])
   have HK4 := hid (HK.out.trans hK4)
   clear hO4 hK4 hs4 hcb6 hcq hl hl2 hcb3 HK HN2
   generalize wr.heap.size = r at *
   generalize y.names.map Prod.fst = rem0 at *
   generalize y.names.length = cnt0 at *
   go_loopw [5] (fun v w4 => ∃ (rem : List Str) (cnt : Nat), Hid (Has w4 (Mr kStr vInt mm r y.names rem cnt :: Strs v (out ++ wTail nm2 rem) :: pt b2 (.cells (nodC y dv2 wv2 (some mm)) 82) :: Dat y.kind dv2 y.data :: Bools wv2 y.wr :: Trg q m f (A ++ (x.above, b2, y) :: B) S.last S.tab (A ++ B) :: L)) ∧ Hid (Keep w w4)) (fun _ w4 => w4.rangeLeft mm r)
   case atStart => exact ⟨_, _, HO4, HK4⟩
   case round =>
    clear HO4 HK4
    obtain ⟨rem, cnt, HO, HK⟩ := hrel
    have hleft := Mr.left HO.out
    have HLF := hid hleft
    obtain ⟨pw, cw, rfl, -⟩ := (Strs.rd HO.out.p1).form
    generalize (out ++ wTail nm2 rem).length = zl at *
    go_wp2_with (at_next; refine wpList_mkNext HO.out rfl _ rfl rfl ?_ ?_)
    ·intro hrem
     subst hrem
     have HO5 := hid (show Has wr (Strs (.slice pw zl cw) (out ++ [nm2]) :: Trb q m f P S.last S.tab :: L) from by
      have h1 := (Mr.end HO.out).re 6 [2, 3, 4, 0, 5, 1]
      have h2 : Has wr (Ndc b2 y :: Trg q m f (A ++ (x.above, b2, y) :: B) S.last S.tab (A ++ B) :: Strs (.slice pw zl cw) (out ++ [nm2]) :: L) := ndc_iff.2 ⟨dv2, wv2, some mm, HHN.out, h1⟩
      have h3 := Trg.perm (Trg.push x.above h2) (List.perm_middle (l₁ := A) (l₂ := B) (a := (x.above, b2, y))).symm
      rw [← HPe.out] at h3
      exact (show Has wr (Trb q m f P S.last S.tab :: _ :: L) from h3).re 2 [1, 0])
     have HWE := hid (show S.way x.above ++ (out ++ [nm2]).reverse = R from by rw [← HRR.out, HW2.out]; simp)
     have HYX := hid hy
     clear HO hleft
     go_wp2_with fail
     exact ⟨⟨x.above, y, out ++ [nm2], rfl, HYX.out, by have h1 := HLEN.out; have h2 := HRK.out; simp; omega, HWE, HO5, HK⟩, by simpa [intOf] using HRK.out⟩
    ·rintro p1 p2 w5 cnt' hp hr hky hO5 hlt5 hK5 hsz hen
     simp only [kStr_val, vInt_val] at hen ⊢
     have hen2 := hen
     have HXP := HX.out _ hp
     have HO5 := hid hO5
     have HK5 := hid (HK.out.trans hK5)
     have HL5 := hid hlt5
     have hsl : out.length ≤ 20 := by have h1 := HLEN.out; omega
     dsimp only at HXP hr
     by_cases hpn : p2 = n
     ·obtain ⟨rfl, -⟩ : p1 = nm2 ∧ p2 = n := by have := HXP.1 hpn; simpa using this
      subst hpn
      rw [wTail_in hr, List.append_nil] at HO5
      have HO6 := hid (show Has (w5.alloc (.cells #[sV p1] tStr)) (Strs (.slice pw zl cw) out :: pt w5.heap.size (.cells #[sV p1] tStr) :: Mr kStr vInt mm r y.names (rem.filter fun y => !decide (y = p1)) cnt' :: pt b2 (.cells (nodC y dv2 wv2 (some mm)) 82) :: Dat y.kind dv2 y.data :: Bools wv2 y.wr :: Trg q m f (A ++ (x.above, b2, y) :: B) S.last S.tab (A ++ B) :: L) from (HO5.out.alloc (.cells #[sV p1] tStr)).re 7 [2, 0, 1, 3, 4, 5, 6])
      have hcx := HO6.out.p1.cells 0
      have HK6 := hid (HK5.out.alloc (.cells #[sV p1] tStr))
      have HNI := hid (show wTail p1 (rem.filter fun y => !decide (y = p1)) = [p1] from wTail_no (by simp))
      clear hp hr hky hlt5 hK5 hsz hleft HO HK HO5 HK5 HXP
      go_wp2_with (at_builtin; refine wpList_append1 rfl _ _ _ rfl Tryz.underlying36 infoStr rfl (sV p1) HO6.out rfl 1 w5.heap.size rfl hcx rfl (le_maxLen (by omega)) (by omega) ?_; intro v7 w7 h7 k7)
      have HO7 := hid (show Has w7 (Mr kStr vInt mm r y.names (rem.filter fun y => !decide (y = p1)) cnt' :: Strs v7 (out ++ wTail p1 (rem.filter fun y => !decide (y = p1))) :: pt b2 (.cells (nodC y dv2 wv2 (some mm)) 82) :: Dat y.kind dv2 y.data :: Bools wv2 y.wr :: Trg q m f (A ++ (x.above, b2, y) :: B) S.last S.tab (A ++ B) :: L) from by
       rw [HNI.out]
       have h6 : Has w7 (Strs v7 (out ++ [p1]) :: pt w5.heap.size (.cells #[sV p1] tStr) :: Mr kStr vInt mm r y.names (rem.filter fun y => !decide (y = p1)) cnt' :: pt b2 (.cells (nodC y dv2 wv2 (some mm)) 82) :: Dat y.kind dv2 y.data :: Bools wv2 y.wr :: Trg q m f (A ++ (x.above, b2, y) :: B) S.last S.tab (A ++ B) :: L) := by
        unfold Strs
        rw [List.map_append, List.length_append]
        exact h7
       exact h6.re 7 [2, 0, 3, 4, 5, 6])
      have HK7 := hid (HK6.out.trans k7)
      have hleft := Mr.left HO7.out
      clear h7 k7 HO6 HK6 hcx hen hen2 hsl
      go_wp2_with fail
      exact ⟨⟨_, _, HO7, HK7⟩, by rw [hleft, HLF.out]; exact HL5.out⟩
     ·have hpb : (p2 == n) = false := by simpa using hpn
      have HNE := hid (show wTail nm2 (rem.filter fun y => !decide (y = p1)) = wTail nm2 rem from by
       have h0 := HXP.2 hpn
       unfold wTail
       have : nm2 ∈ rem.filter (fun y => !decide (y = p1)) ↔ nm2 ∈ rem := by simp [List.mem_filter, Ne.symm h0]
       by_cases h3 : nm2 ∈ rem
       ·rw [if_pos h3, if_pos (this.2 h3)]
       ·rw [if_neg h3, if_neg (fun h => h3 (this.1 h))])
      have HO7 := hid (show Has w5 (Mr kStr vInt mm r y.names (rem.filter fun y => !decide (y = p1)) cnt' :: Strs (.slice pw zl cw) (out ++ wTail nm2 (rem.filter fun y => !decide (y = p1))) :: pt b2 (.cells (nodC y dv2 wv2 (some mm)) 82) :: Dat y.kind dv2 y.data :: Bools wv2 y.wr :: Trg q m f (A ++ (x.above, b2, y) :: B) S.last S.tab (A ++ B) :: L) from by rw [HNE.out]; exact HO5.out)
      have hleft := Mr.left HO7.out
      clear hp hr hky hlt5 hK5 hsz HO HK HO5 HXP hsl hpn
      go_wp2_with fail
      exact ⟨⟨_, _, HO7, HK5⟩, by rw [hleft, HLF.out]; exact HL5.out⟩
end Go.Proofs.YtmgpgbfgemebbaaGreatDoor
namespace Go.Proofs.YtmgpgbfgemebbaaGreatDoor
open Go.RowKit Go.Own
theorem joinS_len : ∀ xs : List Str, (∀ p ∈ xs, p.length ≤ 24) → (joinS xs).length ≤ xs.length * 25
 | [], _ => by simp [joinS, Lib.join_nil]
 | x :: r, h => by
  unfold joinS
  rw [Lib.join_cons]
  have h1 : ∀ r : List Str, (∀ p ∈ r, p.length ≤ 24) → (Lib.joinTail [47] r).length ≤ r.length * 25 := by
   intro r
   induction r with
   | nil => intro _; simp [Lib.joinTail]
   | cons y r ih =>
    intro h
    have h2 := ih fun p hp => h p (List.mem_cons_of_mem _ hp)
    have h3 := h y List.mem_cons_self
    simp only [Lib.joinTail, List.map_cons, List.flatten_cons, List.length_append, List.length_cons, List.length_nil] at *
    omega
  have h4 := h1 r fun p hp => h p (List.mem_cons_of_mem _ hp)
  have h5 := h x List.mem_cons_self
  simp only [List.length_append, List.length_cons]
  omega
theorem last_joins (p : Str) : (joinS (splitM p).1.dropLast).length ≤ 1000 := by
 have h1 := joinS_len (splitM p).1.dropLast fun q hq => split_short p q ((List.dropLast_sublist _).subset hq)
 have h2 := split_len p
 have h3 : (splitM p).1.dropLast.length ≤ 20 := by rw [List.length_dropLast]; omega
 omega
theorem last_ahead (p : Str) : (lastM p).1.length ≤ 1001 := by
 unfold lastM
 split
 ·simp
 ·split
  ·simp
  ·split
   ·simp
   ·have := last_joins p
    simp only [joinM, List.length_cons]
    omega
theorem last_name (p : Str) : (lastM p).2.1.length ≤ 24 := by
 unfold lastM
 split
 ·simp
 ·split
  ·simp
  ·rename_i x hx
   split
   ·simp
   ·exact split_short p x (List.mem_of_getLast? hx)
theorem walk_there {S : Tre} (hW : Wk S) (fo : Bool) (s : Spt) (hops : Nat) (ps : List Str) (hs : ∃ x, fnd S.nodes s.node = some x) (h0 : (S.walk s hops ps fo).2 = 0) : ∃ x, fnd S.nodes (S.walk s hops ps fo).1.node = some x := by
 fun_induction Tre.walk S s hops ps fo
 case case1 => exact hs
 case case2 => simp at h0
 case case3 =>
  rename_i ih
  refine ih ?_ h0
  obtain ⟨x, hx⟩ := hs
  show ∃ y, fnd S.nodes (S.up _) = some y
  unfold Tre.up Tre.at_
  rw [hx]
  by_cases h1 : x.above = 0
  ·exact ⟨x, by simp [h1, hx]⟩
  ·obtain ⟨y, hy⟩ := hW.above _ _ hx h1
   exact ⟨y, by simp [h1, hy]⟩
 case case4 => simp at h0
 case case5 => simp at h0
 case case6 =>
  rename_i ih
  refine ih ?_ h0
  dsimp only
  split
  ·exact hW.root
  ·exact hs
 case case7 =>
  rename_i hf hn ih
  refine ih ?_ h0
  obtain ⟨x, hx⟩ := hs
  unfold Tre.at_ at hf
  rw [hx] at hf
  exact hW.child _ _ hx _ _ hf
theorem find_there {S : Tre} (hW : Wk S) (p : Str) (fo : Bool) (h0 : (S.find p fo).2 = 0) : ∃ x, fnd S.nodes (S.find p fo).1.node = some x := by
 unfold Tre.find at *
 split at h0
 ·rename_i h; exact absurd h0 h
 ·rename_i h
  rw [if_neg h]
  exact walk_there hW fo _ _ _ hW.root h0
theorem wrSet_len (ws : List Bool) (a b : Nat) : (wrSet ws a b).length = ws.length := by simp [wrSet]
end Go.Proofs.YtmgpgbfgemebbaaGreatDoor
namespace Go.Proofs.YtmgpgbfgemebbaaGreatDoor
open Go.RowKit Go.Own
set_option maxRecDepth 100000 in
set_option maxHeartbeats 8000000 in
theorem tPlace (q : Nat) (S : Tre) (rk : Int → Nat) (p : Str) (mx : Int) (w : World) (L : List HP) (hW : Wk S) (hY : Wy S rk) (hM : MxL mx L) (hp : p.length ≤ 100000) (hO : Has w (Trc q S :: L)) :
  Calls Tryz.prog 112 #[.pointer (some ⟨q, 0, none⟩), sV p] w fun e w' => e = .returned (.tuple #[spV (S.place p).1, .int .i64 (S.place p).2]) ∧ Has w' (Trc q S :: L) ∧ Keep w w' := by
 have HLA := hid (fun (w : World) (L' : List HP) (hM : MxL mx L') (hO : Has w L') => pLast p mx w L' hM hp (by have := split_len p; omega) (by have := last_joins p; omega) hO)
 have hla := last_ahead p
 have hln := last_name p
 generalize hR : S.place p = R
 unfold Tre.place at hR
 generalize lastM p = M at *
 obtain ⟨ahead, name, e1⟩ := M
 dsimp only at *
 have HFI := hid (fun (w : World) (L' : List HP) (hM : MxL mx L') (hO : Has w (Trc q S :: L')) => tFind q S ahead true mx w L' hW hM (by omega) hO)
 have HTH := hid (find_there hW ahead true)
 generalize S.find ahead true = F at *
 obtain ⟨s2, e2⟩ := F
 dsimp only at *
 have HR := hid hR
 have HM := hid hM
 have HO := hid hO
 have HY := hid hY
 have HLN := hid hln
 clear hM hO hp hla hW hR hY
 go_enter Tryz.func112, Tryz.ntmps112
 go_wp2_with fail
 refine (HLA.out _ _ ((HM.out.cons _).cons (pt w.heap.size (.cells (spC spt0) 102))) (HO.out.alloc _)).mono ?_
 rintro e w1 ⟨rfl, hO1, hK1⟩
 have HO1 := hid hO1
 have HK1 := hid (((Keep.refl w).alloc _).trans hK1)
 clear hO1 hK1
 try dsimp only
 generalize w.heap.size = g4 at *
 have hc80 : w1.cell? ⟨g4, 0, none⟩ = some (.int .i64 0) := HO1.out.cells 0
 have hc81 : w1.cell? ⟨g4, 1, none⟩ = some (.int .i64 0) := HO1.out.cells 1
 have hc82 : w1.cell? ⟨g4, 2, none⟩ = some (sV []) := HO1.out.cells 2
 have ht80 := HO1.out.thaw 0
 have ht81 := HO1.out.thaw 1
 have ht82 := HO1.out.thaw 2
 by_cases he : e1 = 0
 ·subst he
  have HR1 := hid (show (if e2 ≠ 0 then (spt0, e2) else if (S.at_ s2.node).kind ≠ 2 then (spt0, 7) else if Tre.longM (S.way s2.node ++ [name]) = true then (spt0, 11) else (⟨(fnd (S.at_ s2.node).names name).getD 0, s2.node, name⟩, 0)) = R from (if_neg (fun h => h rfl)).symm.trans HR.out)
  clear HR
  go_upto_region 4 with fail
  go_cut [8, 9] (fun e9 p9 wx => ∃ (w3 : World) (g9 : Nat), w3 = wx ∧ e9 = .int .i64 e2 ∧ p9 = .pointer (some ⟨g9, 0, none⟩) ∧ Hid (Has w3 (pt g9 (.cells (spC s2) 102) :: pt g4 (.cells (spC spt0) 102) :: Trc q S :: L)) ∧ Hid (Keep w w3))
  case first =>
   go_wp2_with fail
   refine (HFI.out w1 _ (HM.out.cons (pt g4 (.cells (spC spt0) 102))) (HO1.out.re 2 [1, 0])).mono ?_
   rintro e w2 ⟨rfl, hO2, hK2⟩
   have HO2 := hid hO2
   have HK2 := hid ((HK1.out).trans hK2)
   clear hO2 hK2
   try dsimp only
   unfold spV spC
   go_wp2_with fail
   go_meet
   exact ⟨_, _, rfl, rfl, rfl, hid ((HO2.out.alloc (.cells (spC s2) 102)).re 3 [0, 2, 1]), hid (HK2.out.alloc _)⟩
  case rest =>
   obtain ⟨w3, g9, rfl, rfl, rfl, HO3, HK3⟩ := hcut
   clear hc80 hc81 hc82 ht80 ht81 ht82
   have hc80 : w3.cell? ⟨g4, 0, none⟩ = some (.int .i64 0) := HO3.out.p1.cells 0
   have hc81 : w3.cell? ⟨g4, 1, none⟩ = some (.int .i64 0) := HO3.out.p1.cells 1
   have hc82 : w3.cell? ⟨g4, 2, none⟩ = some (sV []) := HO3.out.p1.cells 2
   have ht80 := HO3.out.p1.thaw 0
   have ht81 := HO3.out.p1.thaw 1
   have ht82 := HO3.out.p1.thaw 2
   by_cases he2 : e2 = 0
   ·subst he2
    have HR2 := hid (show (if (S.at_ s2.node).kind ≠ 2 then (spt0, 7) else if Tre.longM (S.way s2.node ++ [name]) = true then (spt0, 11) else (⟨(fnd (S.at_ s2.node).names name).getD 0, s2.node, name⟩, 0)) = R from (if_neg (fun h => h rfl)).symm.trans HR1.out)
    clear HR1
    obtain ⟨x, hx⟩ := HTH.out rfl
    have hat : S.at_ s2.node = x := by unfold Tre.at_; rw [hx]; rfl
    rw [hat] at HR2
    obtain ⟨m, f, P, ⟨hP, hT⟩, h⟩ := trc_iff.1 (HO3.out.re 3 [2, 0, 1])
    have HPT := hid (And.intro hP hT)
    have HG := hid (show Has w3 (Trb q m f P S.last S.tab :: pt g9 (.cells (spC s2) 102) :: pt g4 (.cells (spC spt0) 102) :: L) from h)
    have hx' := hx
    rw [← hP] at hx'
    obtain ⟨b, hb, hl⟩ := Trb.look HG.out.drew hx'
    obtain ⟨dv, wv, nm, hnm, hc, -, hlk⟩ := Trb.node2 HG.out.drew hb
    have hcb0 : w3.drew.cell? ⟨b, 0, none⟩ = some (.int .i64 x.kind) := hc 0
    have hcb3 : w3.drew.cell? ⟨b, 3, none⟩ = some (.map nm) := hc 3
    have hcq := (Trb.cells HG.out.drew).1
    have hc90 : w3.drew.cell? ⟨g9, 0, none⟩ = some (.int .i64 s2.node) := HG.out.drew.p1.cells 0
    have HXE := hid hx
    clear hx' hP hT h hc hx
    go_upto_region 7 with fail
    refine region_text (fun w' => w'.cell? ⟨q, 0, none⟩ = some (.map (some m)) ∧ w'.cell? ⟨g9, 0, none⟩ = some (.int .i64 s2.node) ∧ (Instr.lookup tNo (.map (some m)) (.int .i64 s2.node) false).run Tryz.prog w' = .ok (.pointer (some ⟨b, 0, none⟩)) w') (by kernel_rfl) (by kernel_rfl) ⟨hcq, hc90, hl⟩ ?_
    repeat (first | refine wr3 ?_ | refine wk ?_)
    refine wpL_nil ?_
    have HOd := hid HO3.out.drew
    have HGd := hid HG.out.drew
    have HKd := hid HK3.out.drew
    clear hc80 hc81 hc82 ht80 ht81 ht82 HO3 HG HK3
    generalize w3.drew = w4 at *
    have hc80 : w4.cell? ⟨g4, 0, none⟩ = some (.int .i64 0) := HOd.out.p1.cells 0
    have hc81 : w4.cell? ⟨g4, 1, none⟩ = some (.int .i64 0) := HOd.out.p1.cells 1
    have hc82 : w4.cell? ⟨g4, 2, none⟩ = some (sV []) := HOd.out.p1.cells 2
    have ht80 := HOd.out.p1.thaw 0
    have ht81 := HOd.out.p1.thaw 1
    have ht82 := HOd.out.p1.thaw 2
    by_cases hk : x.kind = 2
    ·have HR3 := hid (show (if Tre.longM (S.way s2.node ++ [name]) = true then (spt0, 11) else (⟨(fnd x.names name).getD 0, s2.node, name⟩, 0)) = R from (if_neg (fun h => h hk)).symm.trans HR2.out)
     clear HR2
     obtain ⟨mm, rfl⟩ := hnm hk
     have hwl := way_len HY.out 20 _ _ HXE.out (HY.out.low _)
     have hws := way_short HY.out 20 _ _ HXE.out (HY.out.low _)
     have HWA := hid (fun (w : World) (L' : List HP) (hO : Has w (Trb q m f P S.last S.tab :: L')) => tWay q m f P S rk s2.node x w L' HY.out HXE.out HPT.out hO)
     generalize S.way s2.node = wy at *
     have HJL := hid (show (joinS (wy ++ [name])).length ≤ 1000000 from by
      have h1 := joinS_len (wy ++ [name]) (fun p' hp' => (List.mem_append.1 hp').elim (hws p') (fun h => by rw [List.mem_singleton.1 h]; exact HLN.out))
      simp only [List.length_append, List.length_cons, List.length_nil] at h1
      omega)
     clear hws hlk hnm
     go_upto_region 10 with fail
     go_cut [45] (fun c wx => ∃ (w6 : World), w6 = wx ∧ c = .bool (Tre.longM (wy ++ [name])) ∧ Hid (Has w6 (Trb q m f P S.last S.tab :: pt g9 (.cells (spC s2) 102) :: pt g4 (.cells (spC spt0) 102) :: L)) ∧ Hid (Keep w w6))
     case first =>
      go_wp2_with fail
      refine (HWA.out w4 _ HGd.out).mono ?_
      rintro e w5 ⟨v5, rfl, hO5, hK5⟩
      have HO5 := hid hO5
      have HK5 := hid ((HKd.out).trans hK5)
      clear hO5 hK5
      try dsimp only
      obtain ⟨p5, c5, rfl, -⟩ := (Strs.rd HO5.out).form
      have HO6 := hid (show Has (w5.alloc (.cells #[sV name] tStr)) (Strs (.slice p5 wy.length c5) wy :: pt w5.heap.size (.cells #[sV name] tStr) :: Trb q m f P S.last S.tab :: pt g9 (.cells (spC s2) 102) :: pt g4 (.cells (spC spt0) 102) :: L) from (HO5.out.alloc (.cells #[sV name] tStr)).re 2 [1, 0])
      have hcx := HO6.out.p1.cells 0
      go_wp2_with (at_builtin; refine wpList_append1 rfl _ _ _ rfl Tryz.underlying36 infoStr rfl (sV name) HO6.out rfl 1 w5.heap.size rfl hcx rfl (le_maxLen (by omega)) (by omega) ?_; intro v7 w7 h7 k7)
      have HO7 := hid (show Has w7 (Strs v7 (wy ++ [name]) :: Trb q m f P S.last S.tab :: pt g9 (.cells (spC s2) 102) :: pt g4 (.cells (spC spt0) 102) :: L) from by
       have h6 : Has w7 (Strs v7 (wy ++ [name]) :: pt w5.heap.size (.cells #[sV name] tStr) :: Trb q m f P S.last S.tab :: pt g9 (.cells (spC s2) 102) :: pt g4 (.cells (spC spt0) 102) :: L) := by
        unfold Strs
        rw [List.map_append, List.length_append]
        exact h7
       exact h6.re 5 [0, 2, 3, 4])
      have HK7 := hid ((HK5.out.alloc (.cells #[sV name] tStr)).trans k7)
      clear h7 k7 HO6 hcx
      obtain ⟨p7, c7, rfl, -⟩ := (Strs.rd HO7.out).form
      go_wp2_with fail
      refine (tLong _ (wy ++ [name]) w7 _ (Strs.rd HO7.out) (by simp; omega) HJL.out HO7.out).mono ?_
      rintro e w8 ⟨rfl, hO8, hK8⟩
      have HO8 := hid hO8
      have HK8 := hid ((HK7.out).trans hK8)
      clear hO8 hK8
      try dsimp only
      go_wp2_with fail
      go_meet
      exact ⟨_, rfl, rfl, hid HO8.out.drop, HK8⟩
     case rest =>
      obtain ⟨w6, rfl, rfl, HO6, HK6⟩ := hcut
      clear hc80 hc81 hc82 ht80 ht81 ht82 hcb0 hcb3 hcq hc90
      by_cases hlong : Tre.longM (wy ++ [name]) = true
      ·rw [hlong]
       have HRR := hid (show R = (spt0, 11) from by rw [← HR3.out, if_pos hlong])
       have hc80 : w6.cell? ⟨g4, 0, none⟩ = some (.int .i64 0) := HO6.out.p2.cells 0
       have hc81 : w6.cell? ⟨g4, 1, none⟩ = some (.int .i64 0) := HO6.out.p2.cells 1
       have hc82 : w6.cell? ⟨g4, 2, none⟩ = some (sV []) := HO6.out.p2.cells 2
       have ht80 := HO6.out.p2.thaw 0
       have ht81 := HO6.out.p2.thaw 1
       have ht82 := HO6.out.p2.thaw 2
       go_wp2_with fail
       have h1 := (show Has w6 (pt g4 (.cells (spC spt0) 102) :: Trb q m f P S.last S.tab :: L) from HO6.out.re 3 [2, 0]).spt spt0
       refine bodyPost_ret (spt_result spt0 rfl rfl rfl h1) rfl ?_
       rw [HRR.out]
       exact ⟨rfl, trc_iff.2 ⟨m, f, P, HPT.out, h1.drop⟩, HK6.out.spt _ _ _ _⟩
      ·have hlf : Tre.longM (wy ++ [name]) = false := by simpa using hlong
       rw [hlf]
       have HRR := hid (show R = (⟨(fnd x.names name).getD 0, s2.node, name⟩, 0) from by rw [← HR3.out, if_neg hlong])
       obtain ⟨dv6, wv6, nm6, hnm6, hc6, -, hlk6⟩ := Trb.node2 HO6.out.drew hb
       obtain ⟨mm6, rfl⟩ := hnm6 hk
       have hlk7 := (hlk6 mm6 rfl name (by have := HLN.out; omega)).2
       have hcb3 : w6.drew.cell? ⟨b, 3, none⟩ = some (.map (some mm6)) := hc6 3
       have hc90 : w6.drew.cell? ⟨g9, 0, none⟩ = some (.int .i64 s2.node) := HO6.out.drew.p1.cells 0
       have hc80 : w6.drew.cell? ⟨g4, 0, none⟩ = some (.int .i64 0) := HO6.out.drew.p2.cells 0
       have hc81 : w6.drew.cell? ⟨g4, 1, none⟩ = some (.int .i64 0) := HO6.out.drew.p2.cells 1
       have hc82 : w6.drew.cell? ⟨g4, 2, none⟩ = some (sV []) := HO6.out.drew.p2.cells 2
       have ht80 := HO6.out.drew.p2.thaw 0
       have ht81 := HO6.out.drew.p2.thaw 1
       have ht82 := HO6.out.drew.p2.thaw 2
       clear hlk6 hc6
       have hc80' : w6.cell? ⟨g4, 0, none⟩ = some (.int .i64 0) := hc80
       have hc81' : w6.cell? ⟨g4, 1, none⟩ = some (.int .i64 0) := hc81
       have hc82' : w6.cell? ⟨g4, 2, none⟩ = some (sV []) := hc82
       have ht80' := HO6.out.p2.thaw 0
       have ht81' := HO6.out.p2.thaw 1
       have ht82' := HO6.out.p2.thaw 2
       go_upto_region 12 with fail
       go_region
       go_wp2_with fail
       have h1 := (show Has w6.drew (pt g4 (.cells (spC spt0) 102) :: Trb q m f P S.last S.tab :: L) from HO6.out.drew.re 3 [2, 0]).spt ⟨(fnd x.names name).getD 0, s2.node, name⟩
       refine bodyPost_ret (spt_result ⟨(fnd x.names name).getD 0, s2.node, name⟩ rfl rfl rfl h1) rfl ?_
       rw [HRR.out]
       exact ⟨rfl, trc_iff.2 ⟨m, f, P, HPT.out, h1.drop⟩, HK6.out.drew.spt _ _ _ _⟩
    ·have HRR := hid (show R = (spt0, 7) from by rw [← HR2.out, if_pos hk])
     go_wp2_with fail
     have h1 := (show Has w4 (pt g4 (.cells (spC spt0) 102) :: Trc q S :: L) from HOd.out.re 3 [1, 2]).spt spt0
     refine bodyPost_ret (spt_result spt0 rfl rfl rfl h1) rfl ?_
     rw [HRR.out]
     exact ⟨rfl, h1.drop, HKd.out.spt _ _ _ _⟩
   ·have HRR := hid (show R = (spt0, e2) from by rw [← HR1.out, if_pos he2])
    go_wp2_with fail
    have h1 := (show Has w3 (pt g4 (.cells (spC spt0) 102) :: Trc q S :: L) from HO3.out.re 3 [1, 2]).spt spt0
    refine bodyPost_ret (spt_result spt0 rfl rfl rfl h1) rfl ?_
    rw [HRR.out]
    exact ⟨rfl, h1.drop, HK3.out.spt _ _ _ _⟩
 ·have HRR := hid (show R = (spt0, e1) from by rw [← HR.out, if_pos he])
  go_wp2_with fail
  have h1 := (show Has w1 (pt g4 (.cells (spC spt0) 102) :: Trc q S :: L) from HO1.out).spt spt0
  refine bodyPost_ret (spt_result spt0 rfl rfl rfl h1) rfl ?_
  rw [HRR.out]
  exact ⟨rfl, h1.drop, HK1.out.spt _ _ _ _⟩
end Go.Proofs.YtmgpgbfgemebbaaGreatDoor
namespace Go.Proofs.YtmgpgbfgemebbaaGreatDoor
open Go.RowKit Go.Own
end Go.Proofs.YtmgpgbfgemebbaaGreatDoor
