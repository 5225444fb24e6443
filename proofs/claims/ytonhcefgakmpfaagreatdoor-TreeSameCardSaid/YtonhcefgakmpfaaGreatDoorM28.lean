/- TEXTS of mine, merged. -/
import Derived.Test.YtonhcefgakmpfaaGreatDoorM27
import Derived.Test.YtonhcefgakmpfaaGreatDoorM25
import Derived.Test.YtonhcefgakmpfaaGreatDoorM26
/- ALL FILES BY THEIR PATHS, plain: each path once; where it leads. No program in sight. -/
namespace Go.Proofs.YtonhcefgakmpfaaGreatDoor
open Go.RowKit Go.Own
def seenP (t : List (Int × Nod)) : Nat → Int → List Str → List (List Str × Int × Nod)
  | 0, _, _ => []
  | k + 1, n, p => (p, n, (fnd t n).getD nod0) :: ((fnd t n).getD nod0).names.flatMap fun e => seenP t k e.2 (p ++ [e.1])
def outP (e : List Str × Int × Nod) : Str × Int × Nod := (orM (joinP e.1), e.2.1, e.2.2)
theorem joinP_snoc (ps : List Str) (p : Str) : joinP (ps ++ [p]) = joinP ps ++ 47 :: p := by
  rw [joinP_app]
  simp [joinP]
theorem seen_P (t : List (Int × Nod)) : ∀ (f : Nat) (n : Int) (ps : List Str), seen t f n (joinP ps) = (seenP t f n ps).map outP
  | 0, _, _ => rfl
  | f + 1, n, ps => by
    rw [seen, seenP, List.map_cons, List.map_flatMap]
    congr 1
    · refine congrArg (fun g => List.flatMap g ((fnd t n).getD nod0).names) ?_
      funext e
      rw [← joinP_snoc]
      exact seen_P t f e.2 (ps ++ [e.1])
theorem seen_P0 (t : List (Int × Nod)) (f : Nat) (n : Int) : seen t f n [] = (seenP t f n []).map outP := seen_P t f n []
theorem seenP_pre (t : List (Int × Nod)) : ∀ (f : Nat) (n : Int) (ps : List Str), ∀ e ∈ seenP t f n ps, ∃ qs, e.1 = ps ++ qs
  | 0, _, _, e, he => by cases he
  | f + 1, n, ps, e, he => by
    rw [seenP] at he
    rcases List.mem_cons.1 he with rfl | he
    · exact ⟨[], by simp⟩
    · obtain ⟨a, ha, h⟩ := List.mem_flatMap.1 he
      obtain ⟨qs, hq⟩ := seenP_pre t f a.2 (ps ++ [a.1]) e h
      exact ⟨a.1 :: qs, by rw [hq]; simp⟩
theorem orM_inj {a b : List Str} (ha : ∀ p ∈ a, p ≠ [] ∧ (47 : UInt8) ∉ p) (hb : ∀ p ∈ b, p ≠ [] ∧ (47 : UInt8) ∉ p) (h : orM (joinP a) = orM (joinP b)) : a = b := by
  have hs : ∀ l : List Str, (∀ p ∈ l, p ≠ [] ∧ (47 : UInt8) ∉ p) → spl (orM (joinP l)) = if l = [] then [[], []] else [] :: l := by
    intro l hl
    by_cases h0 : l = []
    · subst h0; rw [if_pos rfl]; rfl
    · rw [if_neg h0]
      unfold orM
      rw [if_neg (joinP_ne h0)]
      exact spl_joinP l [] (by simp) fun p hp => (hl p hp).2
  have h1 := hs a ha
  have h2 := hs b hb
  rw [h, h2] at h1
  by_cases h0 : a = []
  · by_cases h3 : b = []
    · rw [h0, h3]
    · rw [if_pos h0, if_neg h3] at h1
      have : b = [[]] := by simpa using h1
      exact absurd rfl (hb [] (by rw [this]; simp)).1
  · by_cases h3 : b = []
    · rw [if_neg h0, if_pos h3] at h1
      have : a = [[]] := by simpa using h1.symm
      exact absurd rfl (ha [] (by rw [this]; simp)).1
    · rw [if_neg h0, if_neg h3] at h1
      simpa using h1.symm
variable {S : Tre} {rk : Int → Nat} {k : Nat}
theorem Gd.seenP_mem (h : Gd S rk k) : ∀ (f : Nat) (n : Int) (x : Nod) (pre : List Str), fnd S.nodes n = some x → ∀ e, e ∈ seenP S.nodes f n pre ↔ ∃ qs, e.1 = pre ++ qs ∧ qs.length < f ∧ S.goN n qs = some e.2.1 ∧ fnd S.nodes e.2.1 = some e.2.2
  | 0, n, x, pre, hx, e => by
    constructor
    · intro he; cases he
    · rintro ⟨qs, _, h1, _⟩; exact absurd h1 (Nat.not_lt_zero _)
  | f + 1, n, x, pre, hx, e => by
    rw [seenP, hx]
    simp only [Option.getD_some]
    rw [List.mem_cons, List.mem_flatMap]
    constructor
    · rintro (rfl | ⟨a, ha, he⟩)
      · exact ⟨[], by simp, by simp, rfl, hx⟩
      · obtain ⟨e1, e2, y, hy, e3⟩ := (h.nod hx).ents a ha
        obtain ⟨qs, h1, h2, h3, h4⟩ := (h.seenP_mem f a.2 y _ hy e).1 he
        refine ⟨a.1 :: qs, by rw [h1]; simp, by simp only [List.length_cons]; omega, ?_, h4⟩
        rw [Tre.goN, at_of hx, fnd_mem (h.nod hx).uniq ha]
        exact h3
    · rintro ⟨qs, h1, h2, h3, h4⟩
      cases qs with
      | nil =>
        left
        cases h3
        rw [List.append_nil] at h1
        rw [hx] at h4
        cases h4
        exact Prod.ext h1 rfl
      | cons q qs =>
        right
        rw [Tre.goN, at_of hx] at h3
        cases hf : fnd x.names q with
        | none => rw [hf] at h3; cases h3
        | some d =>
          rw [hf] at h3
          obtain ⟨e1, e2, y, hy, e3⟩ := (h.nod hx).ents _ (fnd_some hf)
          refine ⟨(q, d), fnd_some hf, (h.seenP_mem f d y _ hy e).2 ⟨qs, by rw [h1]; simp, by simp only [List.length_cons] at h2; omega, h3, h4⟩⟩
theorem Gd.seenP_nodup (h : Gd S rk k) : ∀ (f : Nat) (n : Int) (x : Nod) (pre : List Str), fnd S.nodes n = some x → (seenP S.nodes f n pre).Pairwise fun a b => a.1 ≠ b.1
  | 0, _, _, _, _ => List.Pairwise.nil
  | f + 1, n, x, pre, hx => by
    rw [seenP, hx]
    simp only [Option.getD_some]
    rw [List.pairwise_cons]
    constructor
    · intro e he
      obtain ⟨a, ha, h1⟩ := List.mem_flatMap.1 he
      obtain ⟨qs, hq⟩ := seenP_pre _ _ _ _ e h1
      rw [hq]
      intro h2
      have := congrArg List.length h2
      simp at this
    · rw [List.pairwise_flatMap]
      constructor
      · intro a ha
        obtain ⟨e1, e2, y, hy, e3⟩ := (h.nod hx).ents a ha
        exact h.seenP_nodup f a.2 y _ hy
      · have hu := (h.nod hx).uniq
        unfold List.Nodup at hu
        rw [List.pairwise_map] at hu
        refine hu.imp ?_
        intro a b hab u hu v hv e
        obtain ⟨q1, h1⟩ := seenP_pre _ _ _ _ u hu
        obtain ⟨q2, h2⟩ := seenP_pre _ _ _ _ v hv
        rw [h1, h2, List.append_assoc, List.append_assoc] at e
        have := List.append_cancel_left e
        simp at this
        exact hab this.1
/-- The files of a tree, by the parts of their paths. -/
def filesP (S : Tre) : List (List Str × Int × Nod) := seenP S.nodes 22 1 []
theorem files_seen (S : Tre) : seen S.nodes 22 1 [] = (filesP S).map outP := seen_P0 _ _ _
theorem Gd.files_mem (h : Gd S rk k) (e : List Str × Int × Nod) : e ∈ filesP S ↔ S.goN 1 e.1 = some e.2.1 ∧ fnd S.nodes e.2.1 = some e.2.2 := by
  obtain ⟨x1, hx1⟩ := h.x.has1
  unfold filesP
  rw [h.seenP_mem 22 1 x1 [] hx1]
  constructor
  · rintro ⟨qs, h1, _, h2, h3⟩
    rw [List.nil_append] at h1
    subst h1
    exact ⟨h2, h3⟩
  · rintro ⟨h1, h2⟩
    refine ⟨e.1, by simp, ?_, h1, h2⟩
    obtain ⟨y, hy, h3, _⟩ := h.go_there e.1 1 x1 hx1 _ h1
    have := h.x.rk20 e.2.1
    rw [h.x.rk1] at h3
    omega
theorem Gd.files_ok (h : Gd S rk k) {e : List Str × Int × Nod} (he : e ∈ filesP S) : (∀ p ∈ e.1, NameOk p) ∧ e.1.length ≤ 20 := by
  obtain ⟨x1, hx1⟩ := h.x.has1
  obtain ⟨h1, h2⟩ := (h.files_mem e).1 he
  obtain ⟨y, hy, h3, h4, _⟩ := h.go_there e.1 1 x1 hx1 _ h1
  have := h.x.rk20 e.2.1
  rw [h.x.rk1] at h3
  exact ⟨h4, by omega⟩
theorem Gd.files_paths (h : Gd S rk k) : ((filesP S).map outP).Pairwise fun a b => a.1 ≠ b.1 := by
  obtain ⟨x1, hx1⟩ := h.x.has1
  rw [List.pairwise_map]
  have h1 := h.seenP_nodup 22 1 x1 [] hx1
  refine List.Pairwise.imp_of_mem ?_ h1
  intro a b ha hb hab e
  refine hab (orM_inj (fun p hp => ?_) (fun p hp => ?_) e)
  · have := (h.files_ok ha).1 p hp; exact ⟨this.1, this.2.2.1⟩
  · have := (h.files_ok hb).1 p hp; exact ⟨this.1, this.2.2.1⟩
theorem cb_anti {a b : Str} (h1 : ¬ Lib.compareBytes b a < 0) (h2 : ¬ Lib.compareBytes a b < 0) : a = b := by
  rw [cb_lt] at h1 h2
  exact List.le_antisymm (List.not_lt.1 h1) (List.not_lt.1 h2)
/-- Sorted, the files are told in one way. -/
theorem Gd.files_one (h : Gd S rk k) {os os' : List Sn} (h1 : (os.map Sn.key).Perm ((seen S.nodes 22 1 []).map keyE)) (h2 : (os'.map Sn.key).Perm ((seen S.nodes 22 1 []).map keyE)) (s1 : Srt os) (s2 : Srt os') : os.map Sn.key = os'.map Sn.key := by
  have hp := h.files_paths
  rw [files_seen] at h1 h2
  have hk : ((filesP S).map outP |>.map keyE).Pairwise fun a b => a.1 ≠ b.1 := by
    rw [List.pairwise_map]
    exact hp
  have hk1 : (os.map Sn.key).Pairwise fun a b => a.1 ≠ b.1 := h1.symm.pairwise hk fun h => Ne.symm h
  have hm : ∀ a ∈ os.map Sn.key, ∀ b ∈ os.map Sn.key, a.1 = b.1 → a = b := by
    intro a ha b hb hab
    refine Classical.byContradiction fun hne => ?_
    obtain ⟨l1, l2, e⟩ := List.append_of_mem ha
    rw [e] at hb hk1
    rcases List.mem_append.1 hb with hb | hb
    · exact (List.pairwise_append.1 hk1).2.2 b hb a List.mem_cons_self hab.symm
    · rcases List.mem_cons.1 hb with hb | hb
      · exact hne hb.symm
      · exact (List.pairwise_cons.1 (List.pairwise_append.1 hk1).2.1).1 b hb hab
  have t1 : (os.map Sn.key).Pairwise fun a b => ¬ Lib.compareBytes b.1 a.1 < 0 := List.pairwise_map.2 s1
  have t2 : (os'.map Sn.key).Pairwise fun a b => ¬ Lib.compareBytes b.1 a.1 < 0 := List.pairwise_map.2 s2
  have h12 := h1.trans h2.symm
  exact h12.eq_of_pairwise (fun a b ha hb x y => hm a ha b (h12.mem_iff.2 hb) (cb_anti x y)) t1 t2
theorem Gd.files_len (h : Gd S rk k) {os : List Sn} (h1 : (os.map Sn.key).Perm ((seen S.nodes 22 1 []).map keyE)) : os.length = (filesP S).length := by
  have := h1.length_eq
  rw [List.length_map, List.length_map, files_seen, List.length_map] at this
  exact this
end Go.Proofs.YtonhcefgakmpfaaGreatDoor
/- WHAT IS TOLD A CODE CHANGES NOTHING, plain. No program in sight. -/
namespace Go.Proofs.YtonhcefgakmpfaaGreatDoor
open Go.RowKit Go.Own
variable {S : Tre} {rk : Int → Nat} {k : Nat}
end Go.Proofs.YtonhcefgakmpfaaGreatDoor
/- TreeNames, plain: one file of one name, of two, of none. No program in sight. -/
namespace Go.Proofs.YtonhcefgakmpfaaGreatDoor
open Go.RowKit Go.Own
/-- A tree of a root whose names are all files'. -/
structure FlatS (S : Tre) (t : List (Str × Int)) : Prop where
  kind : (S.at_ 1).kind = 2
  above : (S.at_ 1).above = 0
  names : (S.at_ 1).names = t
  kids : ∀ nm c, fnd t nm = some c → (S.at_ c).kind = 1
abbrev upS : Str := [46, 46]
section
variable {S : Tre} {t : List (Str × Int)} (h : FlatS S t)
include h
end
/-- A path that leads to a name in the root. -/
structure Rt (p nm : Str) : Prop where
  name : NameOk nm
  split : ∃ j, splitM p = (List.replicate j upS ++ [nm], 0) ∧ lastM p = (joinM (List.replicate j upS), nm, 0) ∧ splitM (joinM (List.replicate j upS)) = (List.replicate j upS, 0)
section
variable {S : Tre} {t : List (Str × Int)} (h : FlatS S t) {p nm : Str}
include h
end
/-- A root of some names of one file. -/
def trX (t : List (Str × Int)) (most links : Int) (d : List Int) (wr : List Bool) (T : List Tb.Slot) : Tre := ⟨[(1, ⟨2, [], [], t, most, 1, 0⟩), (2, ⟨1, d, wr, [], 0, links, 0⟩)], 2, T⟩
abbrev sl0 (n : Int) : Tb.Slot := ⟨2, n, 35, true⟩
section
variable {nm nm' p p' : Str} {d : List Int} {wr : List Bool}
end
end Go.Proofs.YtonhcefgakmpfaaGreatDoor
/- tree.Do, Nodes, as the laws call them: any operation on a tree that is kept. -/
namespace Go.Proofs.YtonhcefgakmpfaaGreatDoor
open Go.RowKit Go.Own
abbrev opY (k fd n off fl : Int) (P Q : ByteArray) (dv : Value) : Value := .agg #[.int .i64 k, .int .i64 fd, .int .i64 n, .int .i64 off, .int .i64 fl, .string P, .string Q, dv]
/-- What every tree keeps, whatever its ranks. -/
def Gdx (S : Tre) (k : Nat) : Prop := ∃ rk, Gd S rk k
theorem gdx0 : Gdx tre0 0 := ⟨_, gd0⟩
theorem Gdx.doM {S : Tre} {k : Nat} (h : Gdx S k) (o : Opm) (ds : List Int) (hp : o.path.length ≤ 100000) : Gdx (S.doM o ds).2 (k + 1) := by
  obtain ⟨rk, h⟩ := h
  exact h.doM o ds hp
theorem sV_str {p : Str} {P : ByteArray} (h : sB p = P) : sV p = .string P := congrArg Value.string h
/-- An answer with its slices. -/
abbrev ansY (a : Ans) (p : Option Addr) (c : Nat) (p' : Option Addr) (c' : Nat) : Value := .agg #[.int .i64 a.code, .int .i64 a.n, .int .i64 a.kind, .int .i64 a.links, .slice p a.data.length c, .slice p' a.names.length c']
section
variable {S : Tre} {k : Nat} (q : Nat) (mx : Int) (w : World) (L : List HP)
theorem stepDo (h : Gdx S k) (hk : k < 100000) (hM : MxL mx L) (o : Opm) {P Q : ByteArray} (hP : sB o.path = P) (hQ : sB o.dest = Q) (ho : o.off ≤ 9223372036854775807) (hp : o.path.length ≤ 100000) (hq : o.dest.length ≤ 100000)
    (po : Option Addr) (co : Nat) (ds : List Int) (hds : ds.length ≤ 100000) (hrd : ∀ w', Has w' L → Rd w' (.slice po ds.length co) 1 ds.length (bc ds)) (a : Ans) (S' : Tre) (he : S.doM o ds = (a, S')) (hO : Has w (Trc q S :: L)) :
    Calls Tryz.prog 17 #[.pointer (some ⟨q, 0, none⟩), opY o.kind o.fd o.n o.off o.flags P Q (.slice po ds.length co)] w fun e w' => ∃ p c p' c', e = .returned (ansY a p c p' c') ∧ Gdx S' (k + 1) ∧ Has w' (Bytes (.slice p a.data.length c) a.data :: Strs (.slice p' a.names.length c') a.names :: Trc q S' :: L) ∧ Keep w w' := by
  have hg := h.doM o ds hp
  obtain ⟨rk, h⟩ := h
  have h1 := doAny q o po co ds mx w L h hk hM hp hq ho hds hrd hO
  rw [he] at h1 hg
  have e : opV o (.slice po ds.length co) = opY o.kind o.fd o.n o.off o.flags P Q (.slice po ds.length co) := by
    unfold opV opC
    rw [sV_str hP, sV_str hQ]
  rw [e] at h1
  refine h1.mono ?_
  rintro e w' ⟨dv, nv, rfl, h2, h3⟩
  obtain ⟨p, c, rfl, -⟩ := (Bytes.rd h2).form
  obtain ⟨p', c', rfl, -⟩ := (Strs.rd h2.p1).form
  exact ⟨p, c, p', c', rfl, hg, h2, h3⟩
/-- .. an operation without data. -/
theorem stepDo0 (h : Gdx S k) (hk : k < 100000) (hM : MxL mx L) (o : Opm) {P Q : ByteArray} (hP : sB o.path = P) (hQ : sB o.dest = Q) (ho : o.off ≤ 9223372036854775807) (hp : o.path.length ≤ 100000) (hq : o.dest.length ≤ 100000)
    (a : Ans) (S' : Tre) (he : S.doM o [] = (a, S')) (hO : Has w (Trc q S :: L)) :
    Calls Tryz.prog 17 #[.pointer (some ⟨q, 0, none⟩), opY o.kind o.fd o.n o.off o.flags P Q (.slice none 0 0)] w fun e w' => ∃ p c p' c', e = .returned (ansY a p c p' c') ∧ Gdx S' (k + 1) ∧ Has w' (Bytes (.slice p a.data.length c) a.data :: Strs (.slice p' a.names.length c') a.names :: Trc q S' :: L) ∧ Keep w w' :=
  stepDo q mx w L h hk hM o hP hQ ho hp hq none 0 [] (by simp) (fun w' h' => Bytes.rd (h'.row_nil _ _)) a S' he hO
theorem stepNodes (h : Gdx S k) (hk : k < 1000) (hfew : (filesP S).length ≤ 1000000) (hO : Has w (Trc q S :: L)) :
    Calls Tryz.prog 20 #[.pointer (some ⟨q, 0, none⟩)] w fun e w' => ∃ p c os, e = .returned (.slice p (filesP S).length c) ∧ os.length = (filesP S).length ∧ (os.map Sn.key).Perm ((seen S.nodes 22 1 []).map keyE) ∧ Srt os ∧ Has w' (Sns (.slice p os.length c) os :: Trc q S :: L) ∧ Keep w w' := by
  obtain ⟨rk, h⟩ := h
  obtain ⟨x1, hx1⟩ := h.x.has1
  refine (tNodes sortsNd q S x1 rk w L hx1 (fun n x hx => (h.nod hx).size.1) (fun n x hx => by have := h.x.rk20 n; omega) (fun n x hx e he => h.nm_rk n x hx e he) (by rw [files_seen, List.length_map]; exact hfew) hO).mono ?_
  rintro e w' ⟨v, os, rfl, hp, hs, h1, h2⟩
  have hl := h.files_len hp
  obtain ⟨p, c, rfl, -⟩ := (Has.rd (sns_iff.1 h1)).form
  exact ⟨p, c, os, by rw [hl], hl, hp, hs, h1, h2⟩
end
end Go.Proofs.YtonhcefgakmpfaaGreatDoor
/- TreeNames: its operations, as it calls them. -/
namespace Go.Proofs.YtonhcefgakmpfaaGreatDoor
open Go.RowKit Go.Own
/-- An answer of numbers, as a value. -/
abbrev bareY (c n k l : Int) (p : Option Addr) (cp : Nat) (p' : Option Addr) (cp' : Nat) : Value := .agg #[.int .i64 c, .int .i64 n, .int .i64 k, .int .i64 l, .slice p 0 cp, .slice p' 0 cp']
section
variable {S : Tre} {k : Nat} (q : Nat) (mx : Int) (w : World) (L : List HP)
end
abbrev noB : ByteArray := ⟨#[]⟩
section
variable (q : Nat) (mx : Int) (w : World) (L : List HP) (hM : MxL mx L) {p p' nm nm' : Str} {P P' : ByteArray} (hP : sB p = P) (hP' : sB p' = P') (hp : p.length ≤ 100) (hp' : p'.length ≤ 100) {d : List Int} {wr : List Bool} {o : Int}
end
end Go.Proofs.YtonhcefgakmpfaaGreatDoor
