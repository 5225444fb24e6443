/- TEXTS of mine, merged. -/
import Derived.Test.YtfhaedkaedffcaaGreatDoorM27
import Derived.Test.YtfhaedkaedffcaaGreatDoorM25
import Derived.Test.YtfhaedkaedffcaaGreatDoorM26
/- PATHS, plain: parts joined and taken apart again; going down by names. No program in sight. -/
namespace Go.Proofs.YtfhaedkaedffcaaGreatDoor
open Go.RowKit Go.Own
def joinP : List Str → Str
  | [] => []
  | p :: ps => (47 :: p) ++ joinP ps
theorem joinP_app (a b : List Str) : joinP (a ++ b) = joinP a ++ joinP b := by
  induction a with
  | nil => rfl
  | cons x a ih => simp only [List.cons_append, joinP, ih, List.append_assoc]
theorem joinP_ne {ps : List Str} (h : ps ≠ []) : joinP ps ≠ [] := by
  cases ps with
  | nil => exact absurd rfl h
  | cons p ps => simp [joinP]
theorem joinTail_joinP (r : List Str) : Lib.joinTail [47] r = joinP r := by
  induction r with
  | nil => rfl
  | cons x r ih =>
    unfold Lib.joinTail at ih ⊢
    rw [List.map_cons, List.flatten_cons, ih]
    rfl
theorem joinM_joinP {ps : List Str} (h : ps ≠ []) : joinM ps = joinP ps := by
  cases ps with
  | nil => exact absurd rfl h
  | cons p ps =>
    show 47 :: joinS (p :: ps) = _
    unfold joinS
    rw [Lib.join_cons, joinTail_joinP]
    rfl
theorem joinM_nil : joinM [] = [47] := rfl
theorem joinP_len (ps : List Str) : (joinP ps).length = (ps.map fun p => p.length + 1).sum := by
  induction ps with
  | nil => rfl
  | cons p ps ih => simp only [joinP, List.length_append, List.length_cons, List.map_cons, List.sum_cons, ih]
theorem spl_app {a : Str} (h : (47 : UInt8) ∉ a) (l : Str) : spl (a ++ 47 :: l) = a :: spl l := by
  induction a with
  | nil => rw [List.nil_append, spl, if_pos rfl]
  | cons c a ih =>
    have h1 : c ≠ 47 := fun e => h (by rw [e]; exact List.mem_cons_self)
    rw [List.cons_append, spl, if_neg h1, ih fun hm => h (List.mem_cons_of_mem _ hm)]
theorem spl_joinP : ∀ (ps : List Str) (a : Str), (47 : UInt8) ∉ a → (∀ p ∈ ps, (47 : UInt8) ∉ p) → spl (a ++ joinP ps) = a :: ps
  | [], a, ha, _ => by rw [joinP, List.append_nil, spl_no ha]
  | p :: ps, a, ha, h => by
    show spl (a ++ (47 :: (p ++ joinP ps))) = _
    rw [spl_app ha, spl_joinP ps p (h p List.mem_cons_self) fun q hq => h q (List.mem_cons_of_mem _ hq)]
theorem skip_no {p : Str} (h : PartOk p) : skipP p = false := by
  unfold skipP
  simp only [Bool.or_eq_false_iff, beq_eq_false_iff_ne, ne_eq]
  exact ⟨h.1, h.2.1⟩
theorem partsL_all : ∀ (ps acc : List Str), (∀ p ∈ ps, PartOk p) → partsL ps acc = some (acc ++ ps)
  | [], acc, _ => by rw [partsL, List.append_nil]
  | p :: ps, acc, h => by
    have h1 := h p List.mem_cons_self
    have h2 : ¬ 24 < p.length := by have := h1.2.2.1; omega
    rw [partsL, skip_no h1, if_neg (by decide), if_neg h2, partsL_all ps _ fun q hq => h q (List.mem_cons_of_mem _ hq), List.append_assoc]
    rfl
/-- A part without a zero byte. -/
def Pz (p : Str) : Prop := PartOk p ∧ (0 : UInt8) ∉ p
theorem partsM_joinP {ps : List Str} (h : ∀ p ∈ ps, Pz p) : partsM (joinP ps) = (ps, decide (ps.length ≤ 20)) := by
  have h1 : partsL (pieces (joinP ps)) [] = some ps := by
    have e := spl_joinP ps [] (by simp) fun p hp => (h p hp).1.2.2.2
    rw [List.nil_append] at e
    rw [pieces_spl, e, partsL, if_pos (show skipP [] = true from rfl), partsL_all ps [] fun p hp => (h p hp).1]
    rfl
  unfold partsM
  rw [h1]
theorem zero_joinP {ps : List Str} (h : ∀ p ∈ ps, Pz p) : (0 : UInt8) ∉ joinP ps := by
  induction ps with
  | nil => simp [joinP]
  | cons p ps ih =>
    have h1 := (h p List.mem_cons_self).2
    have h2 := ih fun q hq => h q (List.mem_cons_of_mem _ hq)
    simp only [joinP, List.cons_append, List.mem_cons, List.mem_append, not_or]
    exact ⟨by decide, h1, h2⟩
theorem abs_joinP {ps : List Str} (h : ps ≠ []) : isAbs (joinP ps) = true := by
  cases ps with
  | nil => exact absurd rfl h
  | cons p ps => exact isAbs_cons _
theorem splitM_joinP {ps : List Str} (h : ∀ p ∈ ps, Pz p) (hne : ps ≠ []) : splitM (joinP ps) = if 20 < ps.length ∨ 200 < (joinP ps).length then ([], 11) else (ps, 0) := by
  unfold splitM
  rw [abs_joinP hne, hasNul_none (zero_joinP h), partsM_joinP h]
  by_cases h1 : 20 < ps.length ∨ 200 < (joinP ps).length
  · rw [if_pos h1, if_neg (by decide), if_pos ?_]
    simp only [Bool.or_eq_true, Bool.not_eq_true', decide_eq_false_iff_not, decide_eq_true_eq]
    omega
  · rw [if_neg h1, if_neg (by decide), if_neg ?_]
    simp only [Bool.or_eq_true, Bool.not_eq_true', decide_eq_false_iff_not, decide_eq_true_eq]
    omega
theorem splitM_joinM {ps : List Str} (h : ∀ p ∈ ps, Pz p) (h1 : ps.length ≤ 20) (h2 : (joinP ps).length ≤ 200) : splitM (joinM ps) = (ps, 0) := by
  by_cases hne : ps = []
  · subst hne; rw [joinM_nil]; exact splitM_root
  · rw [joinM_joinP hne, splitM_joinP h hne, if_neg (by omega)]
theorem lastM_joinP {qs : List Str} {nm : Str} (h : ∀ p ∈ qs ++ [nm], Pz p) (hu : nm ≠ [46, 46]) : lastM (joinP (qs ++ [nm])) = if 20 < (qs ++ [nm]).length ∨ 200 < (joinP (qs ++ [nm])).length then ([], [], 11) else (joinM qs, nm, 0) := by
  unfold lastM
  rw [splitM_joinP h (by simp)]
  by_cases h1 : 20 < (qs ++ [nm]).length ∨ 200 < (joinP (qs ++ [nm])).length
  · rw [if_pos h1, if_pos (by decide), if_pos h1]
  · rw [if_neg h1, if_neg h1]
    simp only [ne_eq, not_true_eq_false, if_false, List.getLast?_append, List.getLast?_singleton, Option.some_or, if_neg hu, List.dropLast_concat]
theorem targetM_joinP {ps : List Str} (h : ∀ p ∈ ps, Pz p) (hne : ps ≠ []) (h1 : ps.length ≤ 20) (h2 : (joinP ps).length ≤ 100) : targetM (joinP ps) = (ps, true, 0) := by
  unfold targetM
  have h3 : (joinP ps).isEmpty = false := by
    rw [List.isEmpty_eq_false_iff]
    exact joinP_ne hne
  rw [h3, hasNul_none (zero_joinP h), partsM_joinP h, if_neg (by decide), if_neg ?_, abs_joinP hne]
  simp only [Bool.or_eq_true, Bool.not_eq_true', decide_eq_false_iff_not, decide_eq_true_eq]
  omega
namespace Tre
/-- Down by names. -/
def goN (S : Tre) : Int → List Str → Option Int
  | n, [] => some n
  | n, p :: ps => match fnd (S.at_ n).names p with
    | none => none
    | some c => goN S c ps
end Tre
theorem goN_app (S : Tre) (n : Int) (a b : List Str) : S.goN n (a ++ b) = (S.goN n a).bind fun c => S.goN c b := by
  induction a generalizing n with
  | nil => rfl
  | cons p a ih =>
    rw [List.cons_append, Tre.goN, Tre.goN]
    cases fnd (S.at_ n).names p with
    | none => rfl
    | some c => exact ih c
theorem goN_snoc {S : Tre} {n c : Int} {ps : List Str} {p : Str} (h : S.goN n (ps ++ [p]) = some c) : ∃ d, S.goN n ps = some d ∧ fnd (S.at_ d).names p = some c := by
  rw [goN_app] at h
  cases hd : S.goN n ps with
  | none => rw [hd] at h; cases h
  | some d =>
    rw [hd] at h
    refine ⟨d, rfl, ?_⟩
    rw [Option.bind_some, Tre.goN] at h
    cases hf : fnd (S.at_ d).names p with
    | none => rw [hf] at h; cases h
    | some e => rw [hf] at h; exact h
theorem goN_snoc' {S : Tre} {n c d : Int} {ps : List Str} {p : Str} (h : S.goN n ps = some d) (hf : fnd (S.at_ d).names p = some c) : S.goN n (ps ++ [p]) = some c := by
  rw [goN_app, h, Option.bind_some, Tre.goN, hf]
  rfl
variable {S : Tre} {rk : Int → Nat} {k : Nat}
/-- What is found by names is there, deeper. -/
theorem Gd.go_there (h : Gd S rk k) : ∀ (ps : List Str) (n : Int) (x : Nod), fnd S.nodes n = some x → ∀ c, S.goN n ps = some c → ∃ y, fnd S.nodes c = some y ∧ rk n + ps.length ≤ rk c ∧ (∀ p ∈ ps, NameOk p) ∧ (ps ≠ [] → y.kind = 2 → y.above ≠ 0 ∧ rk c = rk n + ps.length)
  | [], n, x, hx, c, hc => by
    cases hc
    exact ⟨x, hx, by simp, by simp, fun h => absurd rfl h⟩
  | p :: ps, n, x, hx, c, hc => by
    rw [Tre.goN, at_of hx] at hc
    cases hf : fnd x.names p with
    | none => rw [hf] at hc; cases hc
    | some d =>
      rw [hf] at hc
      dsimp only at hc
      obtain ⟨e1, e2, y, hy, e3⟩ := (h.nod hx).ents _ (fnd_some hf)
      obtain ⟨z, hz, a1, a2, a3⟩ := h.go_there ps d y hy c hc
      have hr : rk n + 1 ≤ rk d := (h.nm_rk n x hx _ (fnd_some hf)).1
      refine ⟨z, hz, by simp only [List.length_cons]; omega, fun q hq => ?_, fun _ h2 => ?_⟩
      · rcases List.mem_cons.1 hq with rfl | hq
        · exact e1
        · exact a2 q hq
      · by_cases hps : ps = []
        · subst hps
          cases hc
          rw [hy] at hz
          cases hz
          have := e3 h2
          exact ⟨by rw [this.1]; exact h.ne0 hx, by have := this.2; simp only [List.length_cons, List.length_nil]; omega⟩
        · have h4 := a3 hps h2
          have hy2 : y.kind = 2 := Classical.byContradiction fun hk => by
            have h5 := ((h.nod hy).file hk).1
            cases ps with
            | nil => exact hps rfl
            | cons p2 ps =>
              rw [Tre.goN, at_of hy, h5] at hc
              cases hc
          have h5 := (e3 hy2).2
          exact ⟨h4.1, by simp only [List.length_cons]; dsimp only at h5; omega⟩
theorem Gd.walk_go (h : Gd S rk k) : ∀ (ps : List Str) (s : Spt) (x : Nod) (hops : Nat), fnd S.nodes s.node = some x → ∀ c, S.goN s.node ps = some c → (S.walk s hops ps false).2 = 0 ∧ (S.walk s hops ps false).1.node = c
  | [], s, x, hops, hx, c, hc => by
    rw [Tre.walk]
    cases hc
    exact ⟨rfl, rfl⟩
  | p :: ps, s, x, hops, hx, c, hc => by
    have hc0 := hc
    rw [Tre.goN, at_of hx] at hc
    cases hf : fnd x.names p with
    | none => rw [hf] at hc; cases hc
    | some d =>
      rw [hf] at hc
      dsimp only at hc
      obtain ⟨e1, e2, y, hy, e3⟩ := (h.nod hx).ents _ (fnd_some hf)
      have hk2 : x.kind = 2 := Classical.byContradiction fun hk => by
        rw [((h.nod hx).file hk).1] at hf
        cases hf
      have hlk : ¬ ((S.at_ d).kind = 3 ∧ (ps ≠ [] ∨ false = true)) := by
        rintro ⟨h3, h4⟩
        rw [at_of hy] at h3
        have hps : ps ≠ [] := h4.resolve_right (by decide)
        have h5 := ((h.nod hy).file (by rw [h3]; decide)).1
        cases ps with
        | nil => exact hps rfl
        | cons p2 ps =>
          rw [Tre.goN, at_of hy, h5] at hc
          cases hc
      rw [Tre.walk, if_neg (by rw [at_of hx]; exact fun e => e hk2), if_neg e1.2.2.2, at_of hx, hf]
      dsimp only
      rw [if_neg hlk]
      exact h.walk_go ps _ y hops hy c hc
/-- .. and links at the end are followed where asked. -/
theorem Gd.walk_goD (h : Gd S rk k) : ∀ (ps : List Str) (s : Spt) (x : Nod) (hops : Nat), fnd S.nodes s.node = some x → ∀ c, S.goN s.node ps = some c → (S.at_ c).kind ≠ 3 → (S.walk s hops ps true).2 = 0 ∧ (S.walk s hops ps true).1.node = c
  | [], s, x, hops, hx, c, hc, _ => by
    rw [Tre.walk]
    cases hc
    exact ⟨rfl, rfl⟩
  | p :: ps, s, x, hops, hx, c, hc, h3 => by
    have hc0 := hc
    rw [Tre.goN, at_of hx] at hc
    cases hf : fnd x.names p with
    | none => rw [hf] at hc; cases hc
    | some d =>
      rw [hf] at hc
      dsimp only at hc
      obtain ⟨e1, e2, y, hy, e3⟩ := (h.nod hx).ents _ (fnd_some hf)
      have hk2 : x.kind = 2 := Classical.byContradiction fun hk => by
        rw [((h.nod hx).file hk).1] at hf
        cases hf
      have hlk : ¬ ((S.at_ d).kind = 3 ∧ (ps ≠ [] ∨ true = true)) := by
        rintro ⟨h4, -⟩
        cases ps with
        | nil => cases hc; exact h3 h4
        | cons p2 ps =>
          rw [at_of hy] at h4
          have h5 := ((h.nod hy).file (by rw [h4]; decide)).1
          rw [Tre.goN, at_of hy, h5] at hc
          cases hc
      rw [Tre.walk, if_neg (by rw [at_of hx]; exact fun e => e hk2), if_neg e1.2.2.2, at_of hx, hf]
      dsimp only
      rw [if_neg hlk]
      exact h.walk_goD ps _ y hops hy c hc h3
/-- The names that lead to a directory are its way. -/
theorem Gd.way_go (h : Gd S rk k) : ∀ (r : Nat) (ps : List Str) (n : Int) (x : Nod), ps.length = r → fnd S.nodes n = some x → x.kind = 2 → S.goN 1 ps = some n → S.way n = ps
  | 0, ps, n, x, hl, hx, h2, hc => by
    have : ps = [] := List.eq_nil_of_length_eq_zero hl
    subst this
    cases hc
    exact way1 S
  | r + 1, ps, n, x, hl, hx, h2, hc => by
    have hne : ps ≠ [] := by rintro rfl; cases hl
    obtain ⟨qs, p, rfl⟩ : ∃ qs p, ps = qs ++ [p] := ⟨ps.dropLast, ps.getLast hne, (List.dropLast_concat_getLast hne).symm⟩
    obtain ⟨d, hd, hf⟩ := goN_snoc hc
    obtain ⟨x1, hx1⟩ := h.x.has1
    obtain ⟨y, hy, _⟩ := h.go_there qs 1 x1 hx1 d hd
    rw [at_of hy] at hf
    obtain ⟨e1, e2, z, hz, e3⟩ := (h.nod hy).ents _ (fnd_some hf)
    dsimp only at hz e3
    rw [hx] at hz
    cases hz
    have hab := (e3 h2).1
    have hn1 : n ≠ 1 := by
      rintro rfl
      have := ((h.nod hx).root rfl).2.1
      rw [this] at hab
      exact h.ne0 hy hab.symm
    have ha0 : x.above ≠ 0 := by rw [hab]; exact h.ne0 hy
    obtain ⟨y', nm, b1, b2, b3, b4, b5⟩ := way_step h.wy hx hn1 ha0
    rw [hab] at b1 b5
    rw [hy] at b1
    cases b1
    have hnm : nm = p := by
      have hm : (p, n) ∈ y.names.filter fun e => decide (e.2 = n) := List.mem_filter.2 ⟨fnd_some hf, by simp⟩
      rw [b2, List.mem_singleton] at hm
      exact (Prod.mk.inj hm).1.symm
    have hk2 : y.kind = 2 := Classical.byContradiction fun hk => by
      rw [((h.nod hy).file hk).1] at hf
      cases hf
    rw [b5, hnm, h.way_go r qs d y (by rw [List.length_append] at hl; simpa using hl) hy hk2 hd]
end Go.Proofs.YtfhaedkaedffcaaGreatDoor
/- ALL FILES BY THEIR PATHS, plain: each path once; where it leads. No program in sight. -/
namespace Go.Proofs.YtfhaedkaedffcaaGreatDoor
open Go.RowKit Go.Own
def seenP (t : List (Int × Nod)) : Nat → Int → List Str → List (List Str × Int × Nod)
  | 0, _, _ => []
  | k + 1, n, p => (p, n, (fnd t n).getD nod0) :: ((fnd t n).getD nod0).names.flatMap fun e => seenP t k e.2 (p ++ [e.1])
def outP (e : List Str × Int × Nod) : Str × Int × Nod := (orM (joinP e.1), e.2.1, e.2.2)
theorem joinP_snoc (ps : List Str) (p : Str) : joinP (ps ++ [p]) = joinP ps ++ 47 :: p := by
  rw [joinP_app]
  simp [joinP]
theorem seen_P (t : List (Int × Nod)) : ∀ (f : Nat) (n : Int) (ps : List Str), seen t f n (joinP ps) = (seenP t f n ps).map outP
  | 0, _, _ => rfl
  | f + 1, n, ps => by
    rw [seen, seenP, List.map_cons, List.map_flatMap]
    congr 1
    · refine congrArg (fun g => List.flatMap g ((fnd t n).getD nod0).names) ?_
      funext e
      rw [← joinP_snoc]
      exact seen_P t f e.2 (ps ++ [e.1])
theorem seen_P0 (t : List (Int × Nod)) (f : Nat) (n : Int) : seen t f n [] = (seenP t f n []).map outP := seen_P t f n []
theorem seenP_pre (t : List (Int × Nod)) : ∀ (f : Nat) (n : Int) (ps : List Str), ∀ e ∈ seenP t f n ps, ∃ qs, e.1 = ps ++ qs
  | 0, _, _, e, he => by cases he
  | f + 1, n, ps, e, he => by
    rw [seenP] at he
    rcases List.mem_cons.1 he with rfl | he
    · exact ⟨[], by simp⟩
    · obtain ⟨a, ha, h⟩ := List.mem_flatMap.1 he
      obtain ⟨qs, hq⟩ := seenP_pre t f a.2 (ps ++ [a.1]) e h
      exact ⟨a.1 :: qs, by rw [hq]; simp⟩
variable {S : Tre} {rk : Int → Nat} {k : Nat}
theorem Gd.seenP_mem (h : Gd S rk k) : ∀ (f : Nat) (n : Int) (x : Nod) (pre : List Str), fnd S.nodes n = some x → ∀ e, e ∈ seenP S.nodes f n pre ↔ ∃ qs, e.1 = pre ++ qs ∧ qs.length < f ∧ S.goN n qs = some e.2.1 ∧ fnd S.nodes e.2.1 = some e.2.2
  | 0, n, x, pre, hx, e => by
    constructor
    · intro he; cases he
    · rintro ⟨qs, _, h1, _⟩; exact absurd h1 (Nat.not_lt_zero _)
  | f + 1, n, x, pre, hx, e => by
    rw [seenP, hx]
    simp only [Option.getD_some]
    rw [List.mem_cons, List.mem_flatMap]
    constructor
    · rintro (rfl | ⟨a, ha, he⟩)
      · exact ⟨[], by simp, by simp, rfl, hx⟩
      · obtain ⟨e1, e2, y, hy, e3⟩ := (h.nod hx).ents a ha
        obtain ⟨qs, h1, h2, h3, h4⟩ := (h.seenP_mem f a.2 y _ hy e).1 he
        refine ⟨a.1 :: qs, by rw [h1]; simp, by simp only [List.length_cons]; omega, ?_, h4⟩
        rw [Tre.goN, at_of hx, fnd_mem (h.nod hx).uniq ha]
        exact h3
    · rintro ⟨qs, h1, h2, h3, h4⟩
      cases qs with
      | nil =>
        left
        cases h3
        rw [List.append_nil] at h1
        rw [hx] at h4
        cases h4
        exact Prod.ext h1 rfl
      | cons q qs =>
        right
        rw [Tre.goN, at_of hx] at h3
        cases hf : fnd x.names q with
        | none => rw [hf] at h3; cases h3
        | some d =>
          rw [hf] at h3
          obtain ⟨e1, e2, y, hy, e3⟩ := (h.nod hx).ents _ (fnd_some hf)
          refine ⟨(q, d), fnd_some hf, (h.seenP_mem f d y _ hy e).2 ⟨qs, by rw [h1]; simp, by simp only [List.length_cons] at h2; omega, h3, h4⟩⟩
theorem Gd.seenP_nodup (h : Gd S rk k) : ∀ (f : Nat) (n : Int) (x : Nod) (pre : List Str), fnd S.nodes n = some x → (seenP S.nodes f n pre).Pairwise fun a b => a.1 ≠ b.1
  | 0, _, _, _, _ => List.Pairwise.nil
  | f + 1, n, x, pre, hx => by
    rw [seenP, hx]
    simp only [Option.getD_some]
    rw [List.pairwise_cons]
    constructor
    · intro e he
      obtain ⟨a, ha, h1⟩ := List.mem_flatMap.1 he
      obtain ⟨qs, hq⟩ := seenP_pre _ _ _ _ e h1
      rw [hq]
      intro h2
      have := congrArg List.length h2
      simp at this
    · rw [List.pairwise_flatMap]
      constructor
      · intro a ha
        obtain ⟨e1, e2, y, hy, e3⟩ := (h.nod hx).ents a ha
        exact h.seenP_nodup f a.2 y _ hy
      · have hu := (h.nod hx).uniq
        unfold List.Nodup at hu
        rw [List.pairwise_map] at hu
        refine hu.imp ?_
        intro a b hab u hu v hv e
        obtain ⟨q1, h1⟩ := seenP_pre _ _ _ _ u hu
        obtain ⟨q2, h2⟩ := seenP_pre _ _ _ _ v hv
        rw [h1, h2, List.append_assoc, List.append_assoc] at e
        have := List.append_cancel_left e
        simp at this
        exact hab this.1
/-- The files of a tree, by the parts of their paths. -/
def filesP (S : Tre) : List (List Str × Int × Nod) := seenP S.nodes 22 1 []
theorem files_seen (S : Tre) : seen S.nodes 22 1 [] = (filesP S).map outP := seen_P0 _ _ _
theorem Gd.files_mem (h : Gd S rk k) (e : List Str × Int × Nod) : e ∈ filesP S ↔ S.goN 1 e.1 = some e.2.1 ∧ fnd S.nodes e.2.1 = some e.2.2 := by
  obtain ⟨x1, hx1⟩ := h.x.has1
  unfold filesP
  rw [h.seenP_mem 22 1 x1 [] hx1]
  constructor
  · rintro ⟨qs, h1, _, h2, h3⟩
    rw [List.nil_append] at h1
    subst h1
    exact ⟨h2, h3⟩
  · rintro ⟨h1, h2⟩
    refine ⟨e.1, by simp, ?_, h1, h2⟩
    obtain ⟨y, hy, h3, _⟩ := h.go_there e.1 1 x1 hx1 _ h1
    have := h.x.rk20 e.2.1
    rw [h.x.rk1] at h3
    omega
theorem Gd.files_len (h : Gd S rk k) {os : List Sn} (h1 : (os.map Sn.key).Perm ((seen S.nodes 22 1 []).map keyE)) : os.length = (filesP S).length := by
  have := h1.length_eq
  rw [List.length_map, List.length_map, files_seen, List.length_map] at this
  exact this
end Go.Proofs.YtfhaedkaedffcaaGreatDoor
/- WHAT IS TOLD A CODE CHANGES NOTHING, plain. No program in sight. -/
namespace Go.Proofs.YtfhaedkaedffcaaGreatDoor
open Go.RowKit Go.Own
variable {S : Tre} {rk : Int → Nat} {k : Nat}
end Go.Proofs.YtfhaedkaedffcaaGreatDoor
/- TreeNames, plain: one file of one name, of two, of none. No program in sight. -/
namespace Go.Proofs.YtfhaedkaedffcaaGreatDoor
open Go.RowKit Go.Own
/-- A tree of a root whose names are all files'. -/
structure FlatS (S : Tre) (t : List (Str × Int)) : Prop where
  kind : (S.at_ 1).kind = 2
  above : (S.at_ 1).above = 0
  names : (S.at_ 1).names = t
  kids : ∀ nm c, fnd t nm = some c → (S.at_ c).kind = 1
abbrev upS : Str := [46, 46]
section
variable {S : Tre} {t : List (Str × Int)} (h : FlatS S t)
include h
end
/-- A path that leads to a name in the root. -/
structure Rt (p nm : Str) : Prop where
  name : NameOk nm
  split : ∃ j, splitM p = (List.replicate j upS ++ [nm], 0) ∧ lastM p = (joinM (List.replicate j upS), nm, 0) ∧ splitM (joinM (List.replicate j upS)) = (List.replicate j upS, 0)
section
variable {S : Tre} {t : List (Str × Int)} (h : FlatS S t) {p nm : Str}
include h
end
/-- A root of some names of one file. -/
def trX (t : List (Str × Int)) (most links : Int) (d : List Int) (wr : List Bool) (T : List Tb.Slot) : Tre := ⟨[(1, ⟨2, [], [], t, most, 1, 0⟩), (2, ⟨1, d, wr, [], 0, links, 0⟩)], 2, T⟩
abbrev sl0 (n : Int) : Tb.Slot := ⟨2, n, 35, true⟩
section
variable {nm nm' p p' : Str} {d : List Int} {wr : List Bool}
theorem fnd1 {κ α : Type} [DecidableEq κ] (a : κ) (c : α) : fnd [(a, c)] a = some c := by rw [fnd_cons, if_pos rfl]
end
end Go.Proofs.YtfhaedkaedffcaaGreatDoor
/- tree.Do, Nodes, as the laws call them: any operation on a tree that is kept. -/
namespace Go.Proofs.YtfhaedkaedffcaaGreatDoor
open Go.RowKit Go.Own
abbrev opY (k fd n off fl : Int) (P Q : ByteArray) (dv : Value) : Value := .agg #[.int .i64 k, .int .i64 fd, .int .i64 n, .int .i64 off, .int .i64 fl, .string P, .string Q, dv]
/-- What every tree keeps, whatever its ranks. -/
def Gdx (S : Tre) (k : Nat) : Prop := ∃ rk, Gd S rk k
theorem gdx0 : Gdx tre0 0 := ⟨_, gd0⟩
theorem Gdx.doM {S : Tre} {k : Nat} (h : Gdx S k) (o : Opm) (ds : List Int) (hp : o.path.length ≤ 100000) : Gdx (S.doM o ds).2 (k + 1) := by
  obtain ⟨rk, h⟩ := h
  exact h.doM o ds hp
theorem sV_str {p : Str} {P : ByteArray} (h : sB p = P) : sV p = .string P := congrArg Value.string h
/-- An answer with its slices. -/
abbrev ansY (a : Ans) (p : Option Addr) (c : Nat) (p' : Option Addr) (c' : Nat) : Value := .agg #[.int .i64 a.code, .int .i64 a.n, .int .i64 a.kind, .int .i64 a.links, .slice p a.data.length c, .slice p' a.names.length c']
section
variable {S : Tre} {k : Nat} (q : Nat) (mx : Int) (w : World) (L : List HP)
theorem stepDo (h : Gdx S k) (hk : k < 100000) (hM : MxL mx L) (o : Opm) {P Q : ByteArray} (hP : sB o.path = P) (hQ : sB o.dest = Q) (ho : o.off ≤ 9223372036854775807) (hp : o.path.length ≤ 100000) (hq : o.dest.length ≤ 100000)
    (po : Option Addr) (co : Nat) (ds : List Int) (hds : ds.length ≤ 100000) (hrd : ∀ w', Has w' L → Rd w' (.slice po ds.length co) 1 ds.length (bc ds)) (a : Ans) (S' : Tre) (he : S.doM o ds = (a, S')) (hO : Has w (Trc q S :: L)) :
    Calls Tryz.prog 17 #[.pointer (some ⟨q, 0, none⟩), opY o.kind o.fd o.n o.off o.flags P Q (.slice po ds.length co)] w fun e w' => ∃ p c p' c', e = .returned (ansY a p c p' c') ∧ Gdx S' (k + 1) ∧ Has w' (Bytes (.slice p a.data.length c) a.data :: Strs (.slice p' a.names.length c') a.names :: Trc q S' :: L) ∧ Keep w w' := by
  have hg := h.doM o ds hp
  obtain ⟨rk, h⟩ := h
  have h1 := doAny q o po co ds mx w L h hk hM hp hq ho hds hrd hO
  rw [he] at h1 hg
  have e : opV o (.slice po ds.length co) = opY o.kind o.fd o.n o.off o.flags P Q (.slice po ds.length co) := by
    unfold opV opC
    rw [sV_str hP, sV_str hQ]
  rw [e] at h1
  refine h1.mono ?_
  rintro e w' ⟨dv, nv, rfl, h2, h3⟩
  obtain ⟨p, c, rfl, -⟩ := (Bytes.rd h2).form
  obtain ⟨p', c', rfl, -⟩ := (Strs.rd h2.p1).form
  exact ⟨p, c, p', c', rfl, hg, h2, h3⟩
/-- .. an operation without data. -/
theorem stepDo0 (h : Gdx S k) (hk : k < 100000) (hM : MxL mx L) (o : Opm) {P Q : ByteArray} (hP : sB o.path = P) (hQ : sB o.dest = Q) (ho : o.off ≤ 9223372036854775807) (hp : o.path.length ≤ 100000) (hq : o.dest.length ≤ 100000)
    (a : Ans) (S' : Tre) (he : S.doM o [] = (a, S')) (hO : Has w (Trc q S :: L)) :
    Calls Tryz.prog 17 #[.pointer (some ⟨q, 0, none⟩), opY o.kind o.fd o.n o.off o.flags P Q (.slice none 0 0)] w fun e w' => ∃ p c p' c', e = .returned (ansY a p c p' c') ∧ Gdx S' (k + 1) ∧ Has w' (Bytes (.slice p a.data.length c) a.data :: Strs (.slice p' a.names.length c') a.names :: Trc q S' :: L) ∧ Keep w w' :=
  stepDo q mx w L h hk hM o hP hQ ho hp hq none 0 [] (by simp) (fun w' h' => Bytes.rd (h'.row_nil _ _)) a S' he hO
theorem stepNodes (h : Gdx S k) (hk : k < 1000) (hfew : (filesP S).length ≤ 1000000) (hO : Has w (Trc q S :: L)) :
    Calls Tryz.prog 18 #[.pointer (some ⟨q, 0, none⟩)] w fun e w' => ∃ p c os, e = .returned (.slice p (filesP S).length c) ∧ os.length = (filesP S).length ∧ (os.map Sn.key).Perm ((seen S.nodes 22 1 []).map keyE) ∧ Srt os ∧ Has w' (Sns (.slice p os.length c) os :: Trc q S :: L) ∧ Keep w w' := by
  obtain ⟨rk, h⟩ := h
  obtain ⟨x1, hx1⟩ := h.x.has1
  refine (tNodes sortsNd q S x1 rk w L hx1 (fun n x hx => (h.nod hx).size.1) (fun n x hx => by have := h.x.rk20 n; omega) (fun n x hx e he => h.nm_rk n x hx e he) (by rw [files_seen, List.length_map]; exact hfew) hO).mono ?_
  rintro e w' ⟨v, os, rfl, hp, hs, h1, h2⟩
  have hl := h.files_len hp
  obtain ⟨p, c, rfl, -⟩ := (Has.rd (sns_iff.1 h1)).form
  exact ⟨p, c, os, by rw [hl], hl, hp, hs, h1, h2⟩
end
end Go.Proofs.YtfhaedkaedffcaaGreatDoor
