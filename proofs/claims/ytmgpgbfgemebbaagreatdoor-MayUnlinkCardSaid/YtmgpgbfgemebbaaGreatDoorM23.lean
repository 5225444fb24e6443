/- TEXTS of mine, merged. -/
import Derived.Test.YtmgpgbfgemebbaaGreatDoorM21
import Derived.Test.YtmgpgbfgemebbaaGreatDoorM8
import Derived.Test.YtmgpgbfgemebbaaGreatDoorM18
import Derived.Test.YtmgpgbfgemebbaaGreatDoorM22
import Derived.Test.YtmgpgbfgemebbaaGreatDoorM9
import Derived.Test.YtmgpgbfgemebbaaGreatDoorM11
set_option linter.all false
namespace Go.Proofs.YtmgpgbfgemebbaaGreatDoor
open Go.RowKit Go.Own
def joinP : List Str → Str
 | [] => []
 | p :: ps => (47 :: p) ++ joinP ps
theorem joinP_app (a b : List Str) : joinP (a ++ b) = joinP a ++ joinP b := by
 induction a with
 | nil => rfl
 | cons x a ih => simp only [List.cons_append, joinP, ih, List.append_assoc]
def Pz (p : Str) : Prop := PartOk p ∧ (0 : UInt8) ∉ p
namespace Tre
def goN (S : Tre) : Int → List Str → Option Int
 | n, [] => some n
 | n, p :: ps => match fnd (S.at_ n).names p with
  | none => none
  | some c => goN S c ps
end Tre
theorem goN_app (S : Tre) (n : Int) (a b : List Str) : S.goN n (a ++ b) = (S.goN n a).bind fun c => S.goN c b := by
 induction a generalizing n with
 | nil => rfl
 | cons p a ih =>
  rw [List.cons_append, Tre.goN, Tre.goN]
  cases fnd (S.at_ n).names p with
  | none => rfl
  | some c => exact ih c
theorem goN_snoc {S : Tre} {n c : Int} {ps : List Str} {p : Str} (h : S.goN n (ps ++ [p]) = some c) : ∃ d, S.goN n ps = some d ∧ fnd (S.at_ d).names p = some c := by
 rw [goN_app] at h
 cases hd : S.goN n ps with
 | none => rw [hd] at h; cases h
 | some d =>
  rw [hd] at h
  refine ⟨d, rfl, ?_⟩
  rw [Option.bind_some, Tre.goN] at h
  cases hf : fnd (S.at_ d).names p with
  | none => rw [hf] at h; cases h
  | some e => rw [hf] at h; exact h
variable {S : Tre} {rk : Int → Nat} {k : Nat}
theorem Gd.go_there (h : Gd S rk k) : ∀ (ps : List Str) (n : Int) (x : Nod), fnd S.nodes n = some x → ∀ c, S.goN n ps = some c → ∃ y, fnd S.nodes c = some y ∧ rk n + ps.length ≤ rk c ∧ (∀ p ∈ ps, NameOk p) ∧ (ps ≠ [] → y.kind = 2 → y.above ≠ 0 ∧ rk c = rk n + ps.length)
 | [], n, x, hx, c, hc => by
  cases hc
  exact ⟨x, hx, by simp, by simp, fun h => absurd rfl h⟩
 | p :: ps, n, x, hx, c, hc => by
  rw [Tre.goN, at_of hx] at hc
  cases hf : fnd x.names p with
  | none => rw [hf] at hc; cases hc
  | some d =>
   rw [hf] at hc
   dsimp only at hc
   obtain ⟨e1, e2, y, hy, e3⟩ := (h.nod hx).ents _ (fnd_some hf)
   obtain ⟨z, hz, a1, a2, a3⟩ := h.go_there ps d y hy c hc
   have hr : rk n + 1 ≤ rk d := (h.nm_rk n x hx _ (fnd_some hf)).1
   refine ⟨z, hz, by simp only [List.length_cons]; omega, fun q hq => ?_, fun _ h2 => ?_⟩
   ·rcases List.mem_cons.1 hq with rfl | hq
    ·exact e1
    ·exact a2 q hq
   ·by_cases hps : ps = []
    ·subst hps
     cases hc
     rw [hy] at hz
     cases hz
     have := e3 h2
     exact ⟨by rw [this.1]; exact h.ne0 hx, by have := this.2; simp only [List.length_cons, List.length_nil]; omega⟩
    ·have h4 := a3 hps h2
     have hy2 : y.kind = 2 := Classical.byContradiction fun hk => by
      have h5 := ((h.nod hy).file hk).1
      cases ps with
      | nil => exact hps rfl
      | cons p2 ps =>
       rw [Tre.goN, at_of hy, h5] at hc
       cases hc
     have h5 := (e3 hy2).2
     exact ⟨h4.1, by simp only [List.length_cons]; dsimp only at h5; omega⟩
theorem Gd.way_go (h : Gd S rk k) : ∀ (r : Nat) (ps : List Str) (n : Int) (x : Nod), ps.length = r → fnd S.nodes n = some x → x.kind = 2 → S.goN 1 ps = some n → S.way n = ps
 | 0, ps, n, x, hl, hx, h2, hc => by
  have : ps = [] := List.eq_nil_of_length_eq_zero hl
  subst this
  cases hc
  exact way1 S
 | r + 1, ps, n, x, hl, hx, h2, hc => by
  have hne : ps ≠ [] := by rintro rfl; cases hl
  obtain ⟨qs, p, rfl⟩ : ∃ qs p, ps = qs ++ [p] := ⟨ps.dropLast, ps.getLast hne, (List.dropLast_concat_getLast hne).symm⟩
  obtain ⟨d, hd, hf⟩ := goN_snoc hc
  obtain ⟨x1, hx1⟩ := h.x.has1
  obtain ⟨y, hy, _⟩ := h.go_there qs 1 x1 hx1 d hd
  rw [at_of hy] at hf
  obtain ⟨e1, e2, z, hz, e3⟩ := (h.nod hy).ents _ (fnd_some hf)
  dsimp only at hz e3
  rw [hx] at hz
  cases hz
  have hab := (e3 h2).1
  have hn1 : n ≠ 1 := by
   rintro rfl
   have := ((h.nod hx).root rfl).2.1
   rw [this] at hab
   exact h.ne0 hy hab.symm
  have ha0 : x.above ≠ 0 := by rw [hab]; exact h.ne0 hy
  obtain ⟨y', nm, b1, b2, b3, b4, b5⟩ := way_step h.wy hx hn1 ha0
  rw [hab] at b1 b5
  rw [hy] at b1
  cases b1
  have hnm : nm = p := by
   have hm : (p, n) ∈ y.names.filter fun e => decide (e.2 = n) := List.mem_filter.2 ⟨fnd_some hf, by simp⟩
   rw [b2, List.mem_singleton] at hm
   exact (Prod.mk.inj hm).1.symm
  have hk2 : y.kind = 2 := Classical.byContradiction fun hk => by
   rw [((h.nod hy).file hk).1] at hf
   cases hf
  rw [b5, hnm, h.way_go r qs d y (by rw [List.length_append] at hl; simpa using hl) hy hk2 hd]
end Go.Proofs.YtmgpgbfgemebbaaGreatDoor
namespace Go.Proofs.YtmgpgbfgemebbaaGreatDoor
open Go.RowKit Go.Own
def seenP (t : List (Int × Nod)) : Nat → Int → List Str → List (List Str × Int × Nod)
 | 0, _, _ => []
 | k + 1, n, p => (p, n, (fnd t n).getD nod0) :: ((fnd t n).getD nod0).names.flatMap fun e => seenP t k e.2 (p ++ [e.1])
def outP (e : List Str × Int × Nod) : Str × Int × Nod := (orM (joinP e.1), e.2.1, e.2.2)
theorem joinP_snoc (ps : List Str) (p : Str) : joinP (ps ++ [p]) = joinP ps ++ 47 :: p := by
 rw [joinP_app]
 simp [joinP]
theorem seen_P (t : List (Int × Nod)) : ∀ (f : Nat) (n : Int) (ps : List Str), seen t f n (joinP ps) = (seenP t f n ps).map outP
 | 0, _, _ => rfl
 | f + 1, n, ps => by
  rw [seen, seenP, List.map_cons, List.map_flatMap]
  congr 1
  ·refine congrArg (fun g => List.flatMap g ((fnd t n).getD nod0).names) ?_
   funext e
   rw [← joinP_snoc]
   exact seen_P t f e.2 (ps ++ [e.1])
theorem seen_P0 (t : List (Int × Nod)) (f : Nat) (n : Int) : seen t f n [] = (seenP t f n []).map outP := seen_P t f n []
theorem seenP_pre (t : List (Int × Nod)) : ∀ (f : Nat) (n : Int) (ps : List Str), ∀ e ∈ seenP t f n ps, ∃ qs, e.1 = ps ++ qs
 | 0, _, _, e, he => by cases he
 | f + 1, n, ps, e, he => by
  rw [seenP] at he
  rcases List.mem_cons.1 he with rfl | he
  ·exact ⟨[], by simp⟩
  ·obtain ⟨a, ha, h⟩ := List.mem_flatMap.1 he
   obtain ⟨qs, hq⟩ := seenP_pre t f a.2 (ps ++ [a.1]) e h
   exact ⟨a.1 :: qs, by rw [hq]; simp⟩
variable {S : Tre} {rk : Int → Nat} {k : Nat}
theorem Gd.seenP_mem (h : Gd S rk k) : ∀ (f : Nat) (n : Int) (x : Nod) (pre : List Str), fnd S.nodes n = some x → ∀ e, e ∈ seenP S.nodes f n pre ↔ ∃ qs, e.1 = pre ++ qs ∧ qs.length < f ∧ S.goN n qs = some e.2.1 ∧ fnd S.nodes e.2.1 = some e.2.2
 | 0, n, x, pre, hx, e => by
  constructor
  ·intro he; cases he
  ·rintro ⟨qs, _, h1, _⟩; exact absurd h1 (Nat.not_lt_zero _)
 | f + 1, n, x, pre, hx, e => by
  rw [seenP, hx]
  simp only [Option.getD_some]
  rw [List.mem_cons, List.mem_flatMap]
  constructor
  ·rintro (rfl | ⟨a, ha, he⟩)
   ·exact ⟨[], by simp, by simp, rfl, hx⟩
   ·obtain ⟨e1, e2, y, hy, e3⟩ := (h.nod hx).ents a ha
    obtain ⟨qs, h1, h2, h3, h4⟩ := (h.seenP_mem f a.2 y _ hy e).1 he
    refine ⟨a.1 :: qs, by rw [h1]; simp, by simp only [List.length_cons]; omega, ?_, h4⟩
    rw [Tre.goN, at_of hx, fnd_mem (h.nod hx).uniq ha]
    exact h3
  ·rintro ⟨qs, h1, h2, h3, h4⟩
   cases qs with
   | nil =>
    left
    cases h3
    rw [List.append_nil] at h1
    rw [hx] at h4
    cases h4
    exact Prod.ext h1 rfl
   | cons q qs =>
    right
    rw [Tre.goN, at_of hx] at h3
    cases hf : fnd x.names q with
    | none => rw [hf] at h3; cases h3
    | some d =>
     rw [hf] at h3
     obtain ⟨e1, e2, y, hy, e3⟩ := (h.nod hx).ents _ (fnd_some hf)
     refine ⟨(q, d), fnd_some hf, (h.seenP_mem f d y _ hy e).2 ⟨qs, by rw [h1]; simp, by simp only [List.length_cons] at h2; omega, h3, h4⟩⟩
theorem Gd.seenP_nodup (h : Gd S rk k) : ∀ (f : Nat) (n : Int) (x : Nod) (pre : List Str), fnd S.nodes n = some x → (seenP S.nodes f n pre).Pairwise fun a b => a.1 ≠ b.1
 | 0, _, _, _, _ => List.Pairwise.nil
 | f + 1, n, x, pre, hx => by
  rw [seenP, hx]
  simp only [Option.getD_some]
  rw [List.pairwise_cons]
  constructor
  ·intro e he
   obtain ⟨a, ha, h1⟩ := List.mem_flatMap.1 he
   obtain ⟨qs, hq⟩ := seenP_pre _ _ _ _ e h1
   rw [hq]
   intro h2
   have := congrArg List.length h2
   simp at this
  ·rw [List.pairwise_flatMap]
   constructor
   ·intro a ha
    obtain ⟨e1, e2, y, hy, e3⟩ := (h.nod hx).ents a ha
    exact h.seenP_nodup f a.2 y _ hy
   ·have hu := (h.nod hx).uniq
    unfold List.Nodup at hu
    rw [List.pairwise_map] at hu
    refine hu.imp ?_
    intro a b hab u hu v hv e
    obtain ⟨q1, h1⟩ := seenP_pre _ _ _ _ u hu
    obtain ⟨q2, h2⟩ := seenP_pre _ _ _ _ v hv
    rw [h1, h2, List.append_assoc, List.append_assoc] at e
    have := List.append_cancel_left e
    simp at this
    exact hab this.1
def filesP (S : Tre) : List (List Str × Int × Nod) := seenP S.nodes 22 1 []
theorem files_seen (S : Tre) : seen S.nodes 22 1 [] = (filesP S).map outP := seen_P0 _ _ _
theorem Gd.files_mem (h : Gd S rk k) (e : List Str × Int × Nod) : e ∈ filesP S ↔ S.goN 1 e.1 = some e.2.1 ∧ fnd S.nodes e.2.1 = some e.2.2 := by
 obtain ⟨x1, hx1⟩ := h.x.has1
 unfold filesP
 rw [h.seenP_mem 22 1 x1 [] hx1]
 constructor
 ·rintro ⟨qs, h1, _, h2, h3⟩
  rw [List.nil_append] at h1
  subst h1
  exact ⟨h2, h3⟩
 ·rintro ⟨h1, h2⟩
  refine ⟨e.1, by simp, ?_, h1, h2⟩
  obtain ⟨y, hy, h3, _⟩ := h.go_there e.1 1 x1 hx1 _ h1
  have := h.x.rk20 e.2.1
  rw [h.x.rk1] at h3
  omega
theorem Gd.files_len (h : Gd S rk k) {os : List Sn} (h1 : (os.map Sn.key).Perm ((seen S.nodes 22 1 []).map keyE)) : os.length = (filesP S).length := by
 have := h1.length_eq
 rw [List.length_map, List.length_map, files_seen, List.length_map] at this
 exact this
end Go.Proofs.YtmgpgbfgemebbaaGreatDoor
namespace Go.Proofs.YtmgpgbfgemebbaaGreatDoor
open Go.RowKit Go.Own
variable {S : Tre} {rk : Int → Nat} {k : Nat}
end Go.Proofs.YtmgpgbfgemebbaaGreatDoor
namespace Go.Proofs.YtmgpgbfgemebbaaGreatDoor
open Go.RowKit Go.Own
structure FlatS (S : Tre) (t : List (Str × Int)) : Prop where
 kind : (S.at_ 1).kind = 2
 above : (S.at_ 1).above = 0
 names : (S.at_ 1).names = t
 kids : ∀ nm c, fnd t nm = some c → (S.at_ c).kind = 1
abbrev upS : Str := [46, 46]
section
variable {S : Tre} {t : List (Str × Int)} (h : FlatS S t)
include h
end
structure Rt (p nm : Str) : Prop where
 name : NameOk nm
 split : ∃ j, splitM p = (List.replicate j upS ++ [nm], 0) ∧ lastM p = (joinM (List.replicate j upS), nm, 0) ∧ splitM (joinM (List.replicate j upS)) = (List.replicate j upS, 0)
section
variable {S : Tre} {t : List (Str × Int)} (h : FlatS S t) {p nm : Str}
include h
end
def trX (t : List (Str × Int)) (most links : Int) (d : List Int) (wr : List Bool) (T : List Tb.Slot) : Tre := ⟨[(1, ⟨2, [], [], t, most, 1, 0⟩), (2, ⟨1, d, wr, [], 0, links, 0⟩)], 2, T⟩
abbrev sl0 (n : Int) : Tb.Slot := ⟨2, n, 35, true⟩
section
variable {nm nm' p p' : Str} {d : List Int} {wr : List Bool}
end
end Go.Proofs.YtmgpgbfgemebbaaGreatDoor
namespace Go.Proofs.YtmgpgbfgemebbaaGreatDoor
open Go.RowKit Go.Own
abbrev opY (k fd n off fl : Int) (P Q : ByteArray) (dv : Value) : Value := .agg #[.int .i64 k, .int .i64 fd, .int .i64 n, .int .i64 off, .int .i64 fl, .string P, .string Q, dv]
def Gdx (S : Tre) (k : Nat) : Prop := ∃ rk, Gd S rk k
theorem Gdx.doM {S : Tre} {k : Nat} (h : Gdx S k) (o : Opm) (ds : List Int) (hp : o.path.length ≤ 100000) : Gdx (S.doM o ds).2 (k + 1) := by
 obtain ⟨rk, h⟩ := h
 exact h.doM o ds hp
abbrev ansY (a : Ans) (p : Option Addr) (c : Nat) (p' : Option Addr) (c' : Nat) : Value := .agg #[.int .i64 a.code, .int .i64 a.n, .int .i64 a.kind, .int .i64 a.links, .slice p a.data.length c, .slice p' a.names.length c']
section
variable {S : Tre} {k : Nat} (q : Nat) (mx : Int) (w : World) (L : List HP)
theorem stepNodes (h : Gdx S k) (hk : k < 1000) (hfew : (filesP S).length ≤ 1000000) (hO : Has w (Trc q S :: L)) :
  Calls Tryz.prog 28 #[.pointer (some ⟨q, 0, none⟩)] w fun e w' => ∃ p c os, e = .returned (.slice p (filesP S).length c) ∧ os.length = (filesP S).length ∧ (os.map Sn.key).Perm ((seen S.nodes 22 1 []).map keyE) ∧ Srt os ∧ Has w' (Sns (.slice p os.length c) os :: Trc q S :: L) ∧ Keep w w' := by
 obtain ⟨rk, h⟩ := h
 obtain ⟨x1, hx1⟩ := h.x.has1
 refine (tNodes sortsNd q S x1 rk w L hx1 (fun n x hx => (h.nod hx).size.1) (fun n x hx => by have := h.x.rk20 n; omega) (fun n x hx e he => h.nm_rk n x hx e he) (by rw [files_seen, List.length_map]; exact hfew) hO).mono ?_
 rintro e w' ⟨v, os, rfl, hp, hs, h1, h2⟩
 have hl := h.files_len hp
 obtain ⟨p, c, rfl, -⟩ := (Has.rd (sns_iff.1 h1)).form
 exact ⟨p, c, os, by rw [hl], hl, hp, hs, h1, h2⟩
end
end Go.Proofs.YtmgpgbfgemebbaaGreatDoor
namespace Go.Proofs.YtmgpgbfgemebbaaGreatDoor
open Go.RowKit Go.Own
abbrev bareY (c n k l : Int) (p : Option Addr) (cp : Nat) (p' : Option Addr) (cp' : Nat) : Value := .agg #[.int .i64 c, .int .i64 n, .int .i64 k, .int .i64 l, .slice p 0 cp, .slice p' 0 cp']
section
variable {S : Tre} {k : Nat} (q : Nat) (mx : Int) (w : World) (L : List HP)
end
abbrev noB : ByteArray := ⟨#[]⟩
section
variable (q : Nat) (mx : Int) (w : World) (L : List HP) (hM : MxL mx L) {p p' nm nm' : Str} {P P' : ByteArray} (hP : sB p = P) (hP' : sB p' = P') (hp : p.length ≤ 100) (hp' : p'.length ≤ 100) {d : List Int} {wr : List Bool} {o : Int}
end
end Go.Proofs.YtmgpgbfgemebbaaGreatDoor
namespace Go.Proofs.YtmgpgbfgemebbaaGreatDoor
open Go.RowKit Go.Own
def greatM (y : Oq) : Bool := decide (300 < y.op.path.length) || decide (300 < y.op.dest.length) || decide (3000 < y.data.length)
def greatOpsM (R : List Oq) (most : Nat) : Bool := decide (most < R.length) || R.any greatM
def runM (S : Tre) : List Oq → Tre
 | [] => S
 | y :: R => runM (S.doM y.op y.data).2 R
end Go.Proofs.YtmgpgbfgemebbaaGreatDoor
namespace Go.Proofs.YtmgpgbfgemebbaaGreatDoor
open Go.RowKit Go.Own
def RdNs (w : World) (v : Value) (os : List Sn) : Prop := Rd w v 5 os.length (snEnc os) ∧ ∀ s ∈ os, Rd w s.dv 1 s.data.length (bc s.data)
end Go.Proofs.YtmgpgbfgemebbaaGreatDoor
namespace Go.Proofs.YtmgpgbfgemebbaaGreatDoor
open Go.RowKit Go.Own
theorem nodup_lenS {α : Type} [DecidableEq α] {l : List α} : ∀ {l' : List α}, l.Nodup → (∀ x ∈ l, x ∈ l') → l.length ≤ l'.length := by
 induction l with
 | nil => intro l' _ _; simp
 | cons x l ih =>
  intro l' hn hs
  rw [List.nodup_cons] at hn
  have hx : x ∈ l' := hs x (by simp)
  have h1 := ih (l' := l'.erase x) hn.2 fun y hy => by
   have hne : y ≠ x := by rintro rfl; exact hn.1 hy
   exact (List.mem_erase_of_ne hne).2 (hs y (by simp [hy]))
  rw [List.length_erase_of_mem hx] at h1
  have : 0 < l'.length := List.length_pos_of_mem hx
  simp only [List.length_cons]
  omega
variable {S : Tre} {rk : Int → Nat} {k : Nat}
theorem Gd.files_nodup (h : Gd S rk k) : ((filesP S).map Prod.fst).Nodup := by
 obtain ⟨x1, hx1⟩ := h.x.has1
 unfold List.Nodup
 rw [List.pairwise_map]
 exact h.seenP_nodup 22 1 x1 [] hx1
def allP (S : Tre) : List (List Str) := [] :: S.nodes.flatMap fun p => p.2.names.map fun e => S.way p.1 ++ [e.1]
theorem Gd.files_sub (h : Gd S rk k) {e : List Str × Int × Nod} (he : e ∈ filesP S) : e.1 ∈ allP S := by
 obtain ⟨h1, h2⟩ := (h.files_mem e).1 he
 by_cases h0 : e.1 = []
 ·rw [h0]; exact List.mem_cons_self
 ·obtain ⟨qs, p, hq⟩ : ∃ qs p, e.1 = qs ++ [p] := ⟨e.1.dropLast, e.1.getLast h0, (List.dropLast_concat_getLast h0).symm⟩
  rw [hq] at h1 ⊢
  obtain ⟨d, hd, hf⟩ := goN_snoc h1
  obtain ⟨x1, hx1⟩ := h.x.has1
  obtain ⟨y, hy, _⟩ := h.go_there qs 1 x1 hx1 d hd
  rw [at_of hy] at hf
  have hk : y.kind = 2 := Classical.byContradiction fun h2 => by
   rw [((h.nod hy).file h2).1] at hf
   cases hf
  have hw := h.way_go qs.length qs d y rfl hy hk hd
  refine List.mem_cons_of_mem _ (List.mem_flatMap.2 ⟨(d, y), fnd_some hy, List.mem_map.2 ⟨_, fnd_some hf, ?_⟩⟩)
  show S.way d ++ [p] = _
  rw [hw]
theorem Gd.files_few (h : Gd S rk k) : (filesP S).length ≤ 1 + (k + 1) * k := by
 have h1 := nodup_lenS h.files_nodup (l' := allP S) fun x hx => by
  obtain ⟨e, he, rfl⟩ := List.mem_map.1 hx
  exact h.files_sub he
 rw [List.length_map] at h1
 have h2 : (allP S).length ≤ 1 + S.nodes.length * k := by
  unfold allP
  rw [List.length_cons, List.length_flatMap]
  have : ∀ t : List (Int × Nod), (∀ p ∈ t, p.2.names.length ≤ k) → (t.map fun p => (p.2.names.map fun e => S.way p.1 ++ [e.1]).length).sum ≤ t.length * k := by
   intro t
   induction t with
   | nil => intro _; simp
   | cons p t ih =>
    intro hp
    have h3 := ih fun q hq => hp q (List.mem_cons_of_mem _ hq)
    have h4 := hp p List.mem_cons_self
    rw [List.map_cons, List.sum_cons, List.length_map, List.length_cons, Nat.add_mul]
    omega
  have h5 := this S.nodes fun p hp => (h.nod (fnd_mem h.x.keys (show (p.1, p.2) ∈ S.nodes from hp))).size.2.2.1
  omega
 have h3 : S.nodes.length * k ≤ (k + 1) * k := Nat.mul_le_mul_right _ h.many
 omega
theorem Gd.files_few' (h : Gd S rk k) (hk : k < 900) : (filesP S).length ≤ 1000000 := by
 have h1 := h.files_few
 have h2 : (k + 1) * k ≤ 900 * 900 := Nat.mul_le_mul (by omega) (by omega)
 omega
end Go.Proofs.YtmgpgbfgemebbaaGreatDoor
namespace Go.Proofs.YtmgpgbfgemebbaaGreatDoor
open Go.RowKit Go.Own
theorem stepNodes' {S : Tre} {k : Nat} (q : Nat) (w : World) (L : List HP) (h : Gdx S k) (hk : k < 900) (hO : Has w (Trc q S :: L)) :
  Calls Tryz.prog 28 #[.pointer (some ⟨q, 0, none⟩)] w fun e w' => ∃ p c os, e = .returned (.slice p (os.length) c) ∧ (os.map Sn.key).Perm ((seen S.nodes 22 1 []).map keyE) ∧ Srt os ∧ Has w' (Sns (.slice p os.length c) os :: Trc q S :: L) ∧ Keep w w' := by
 have hf : (filesP S).length ≤ 1000000 := by
  obtain ⟨rk, h⟩ := h
  exact h.files_few' hk
 refine (stepNodes q w L h (by omega) hf hO).mono ?_
 rintro e w' ⟨p, c, os, rfl, hl, h1, h2, h3, h4⟩
 exact ⟨p, c, os, by rw [hl], h1, h2, h3, h4⟩
end Go.Proofs.YtmgpgbfgemebbaaGreatDoor
