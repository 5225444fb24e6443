/- TEXTS of mine, merged. -/
import Derived.Test.YtfhaedkaedffcaaGreatDoorM30
/- TreeLong, plain: directories one in the other. No program in sight. -/
namespace Go.Proofs.YtfhaedkaedffcaaGreatDoor
open Go.RowKit Go.Own
def xS (n : Nat) : Str := List.replicate n 120
theorem pz_xS {n : Nat} (h1 : 1 ≤ n) (h2 : n ≤ 24) : Pz (xS n) ∧ xS n ≠ [46, 46] ∧ NameOk (xS n) ∧ xS n ≠ [108] := by
  have hm : ∀ c ∈ xS n, c = 120 := fun c hc => (List.mem_replicate.1 hc).2
  have hne : xS n ≠ [] := by
    intro h
    have := congrArg List.length h
    simp [xS] at this
    omega
  have hl : (xS n).length = n := by simp [xS]
  have h47 : (47 : UInt8) ∉ xS n := fun h => absurd (hm _ h) (by decide)
  have h0 : (0 : UInt8) ∉ xS n := fun h => absurd (hm _ h) (by decide)
  have h46 : (46 : UInt8) ∉ xS n := fun h => absurd (hm _ h) (by decide)
  have h108 : (108 : UInt8) ∉ xS n := fun h => absurd (hm _ h) (by decide)
  have hd : xS n ≠ [46] := fun h => h46 (by rw [h]; simp)
  have hu : xS n ≠ [46, 46] := fun h => h46 (by rw [h]; simp)
  exact ⟨⟨⟨hne, hd, by omega, h47⟩, h0⟩, hu, ⟨hne, by omega, h47, hu⟩, fun h => h108 (by rw [h]; simp)⟩
def deepP (i n : Nat) : List Str := List.replicate i (xS n)
theorem deepP_len (i n : Nat) : (joinP (deepP i n)).length = i * (n + 1) := by
  rw [joinP_len, deepP, List.map_replicate, List.sum_replicate_nat]
  simp [xS]
theorem deepP_succ (i n : Nat) : deepP (i + 1) n = deepP i n ++ [xS n] := List.replicate_succ'
structure Dp (S : Tre) (k i n : Nat) : Prop where
  gd : Gdx S k
  last : S.last = i + 1
  names : ∀ j, j < i → (S.at_ (j + 1)).names = [(xS n, (j + 2 : Int))]
  bot : (S.at_ (i + 1)).names = []
  kind : ∀ j, j ≤ i → (S.at_ (j + 1)).kind = 2
theorem at_there {S : Tre} {n : Int} (h : (S.at_ n).kind ≠ 0) : fnd S.nodes n = some (S.at_ n) := by
  unfold Tre.at_ at *
  cases hf : fnd S.nodes n with
  | none => rw [hf] at h; exact absurd rfl h
  | some x => rfl
theorem Dp.go {S : Tre} {k i n : Nat} (h : Dp S k i n) : ∀ j, j ≤ i → S.goN 1 (deepP j n) = some (j + 1 : Int)
  | 0, _ => rfl
  | j + 1, hj => by
    rw [deepP_succ]
    refine goN_snoc' (h.go j (by omega)) ?_
    rw [h.names j (by omega), fnd1]
    congr 1
theorem make_newD (S : Tre) (s : Spt) (ds : Str) (h : s.dir ≠ S.last + 1) : (S.make s 2 ds).at_ (S.last + 1) = ⟨2, [], [], [], 0, 1, s.dir⟩ := by
  have e : fnd (S.make s 2 ds).nodes (S.last + 1) = some ⟨2, [], [], [], 0, 1, s.dir⟩ := by
    unfold Tre.make Tre.add Tre.setN
    refine fnd_putA.trans ((if_pos rfl).trans ?_)
    have : (Tre.at_ ⟨putA S.nodes (S.last + 1) ⟨2, if (2 : Int) = 3 then bytesOf ds else [], [], [], 0, 0, 0⟩, S.last + 1, S.tab⟩ (S.last + 1)) = ⟨2, [], [], [], 0, 0, 0⟩ := by
      unfold Tre.at_
      dsimp only
      rw [fnd_putA, if_pos rfl]
      rfl
    show some (Tre.nodAdd (Tre.at_ _ (S.last + 1)) s.dir) = _
    rw [this]
    rfl
  exact at_of e
/-- Finding the directory i. -/
theorem Dp.findDir {S : Tre} {k i n : Nat} (h : Dp S k i n) (hn1 : 1 ≤ n) (hn2 : n ≤ 24) (hi : i ≤ 20) (hl : i * (n + 1) ≤ 200) : (S.find (joinM (deepP i n)) true).2 = 0 ∧ (S.find (joinM (deepP i n)) true).1.node = i + 1 := by
  have hz : ∀ p ∈ deepP i n, Pz p := fun p hp => by rw [(List.mem_replicate.1 hp).2]; exact (pz_xS hn1 hn2).1
  unfold Tre.find
  rw [splitM_joinM hz (by simp [deepP]; omega) (by rw [deepP_len]; exact hl)]
  simp only [ne_eq, not_true_eq_false, if_false]
  obtain ⟨rk, hg⟩ := h.gd
  obtain ⟨x1, hx1⟩ := hg.x.has1
  exact hg.walk_goD (deepP i n) ⟨1, 0, []⟩ x1 0 hx1 _ (h.go i (Nat.le_refl _)) (by rw [h.kind i (Nat.le_refl _)]; decide)
theorem Dp.way {S : Tre} {k i n : Nat} (h : Dp S k i n) : S.way (i + 1) = deepP i n := by
  obtain ⟨rk, hg⟩ := h.gd
  have hk := h.kind i (Nat.le_refl _)
  exact hg.way_go _ (deepP i n) (i + 1) _ rfl (at_there (by rw [hk]; decide)) hk (h.go i (Nat.le_refl _))
def fitsD (i n : Nat) : Prop := i < 20 ∧ i * (n + 1) + (n + 1) ≤ 200
instance (i n : Nat) : Decidable (fitsD i n) := by unfold fitsD; exact inferInstance
theorem Dp.mkdir {S : Tre} {k i n : Nat} (h : Dp S k i n) (hn1 : 1 ≤ n) (hn2 : n ≤ 24) : ∃ S' c, S.mkdir (joinP (deepP (i + 1) n)) = (ansE c, S') ∧ (fitsD i n → c = 0 ∧ Dp S' (k + 1) (i + 1) n) ∧ (¬ fitsD i n → c = 11 ∧ S' = S) := by
  have P := pz_xS hn1 hn2
  have hz : ∀ p ∈ deepP i n ++ [xS n], Pz p := fun p hp => by
    rw [← deepP_succ] at hp
    rw [(List.mem_replicate.1 hp).2]; exact P.1
  have hlast := lastM_joinP hz P.2.1
  rw [← deepP_succ, deepP_len] at hlast
  have hl1 : (deepP (i + 1) n).length = i + 1 := by simp [deepP]
  rw [hl1] at hlast
  have hmul : (i + 1) * (n + 1) = i * (n + 1) + (n + 1) := Nat.succ_mul _ _
  by_cases hf : fitsD i n
  · have hf' := hf
    unfold fitsD at hf'
    rw [if_neg (by omega)] at hlast
    obtain ⟨f1, f2⟩ := h.findDir hn1 hn2 (by omega) (by omega)
    have hk := h.kind i (Nat.le_refl _)
    have hlong : Tre.longM (S.way (i + 1) ++ [xS n]) = false := by
      rw [h.way, ← deepP_succ]
      unfold Tre.longM
      rw [joinM_joinP (by simp [deepP]), deepP_len, hl1]
      simp only [Bool.or_eq_false_iff, decide_eq_false_iff_not]
      omega
    have hpl : S.place (joinP (deepP (i + 1) n)) = (⟨0, i + 1, xS n⟩, 0) := by
      unfold Tre.place
      rw [hlast]
      simp only [f1, f2, ne_eq, not_true_eq_false, if_false]
      rw [if_neg (fun e => e hk), hlong, h.bot]
      rfl
    have hfr : S.fresh (joinP (deepP (i + 1) n)) = (⟨0, i + 1, xS n⟩, 0) := by
      unfold Tre.fresh
      rw [hpl]
      rfl
    have hmk : S.mkdir (joinP (deepP (i + 1) n)) = (ansE 0, S.make ⟨0, i + 1, xS n⟩ 2 []) := by
      unfold Tre.mkdir
      rw [hfr]
      rfl
    have hg : Gdx (S.mkdir (joinP (deepP (i + 1) n))).2 (k + 1) := h.gd.doM ⟨9, 0, 0, 0, 0, joinP (deepP (i + 1) n), []⟩ [] (by dsimp only; rw [deepP_len]; omega)
    rw [hmk] at hg
    have hlt := h.last
    refine ⟨_, _, hmk, fun _ => ⟨rfl, hg, ?_, ?_, ?_, ?_⟩, fun h => absurd hf h⟩
    · show S.last + 1 = _
      rw [hlt]; push_cast; omega
    · intro j hj
      by_cases hji : j = i
      · subst hji
        rw [at_of (make_dir S ⟨0, j + 1, xS n⟩ 2 [] (by dsimp only; omega))]
        show putA _ _ _ = _
        have hb := h.bot
        dsimp only
        rw [hb, hlt]
        show [(xS n, (j : Int) + 1 + 1)] = _
        congr 2
      · rw [at_other (make_other S ⟨0, i + 1, xS n⟩ 2 [] (j + 1) (by dsimp only; omega) (by omega))]
        exact h.names j (by omega)
    · have e := make_newD S ⟨0, i + 1, xS n⟩ [] (by dsimp only; omega)
      rw [hlt] at e
      push_cast at e ⊢
      rw [e]
    · intro j hj
      by_cases hji : j = i + 1
      · subst hji
        have e := make_newD S ⟨0, i + 1, xS n⟩ [] (by dsimp only; omega)
        rw [hlt] at e
        push_cast at e ⊢
        rw [e]
      · by_cases hj2 : j = i
        · subst hj2
          rw [at_of (make_dir S ⟨0, j + 1, xS n⟩ 2 [] (by dsimp only; omega))]
          exact hk
        · rw [at_other (make_other S ⟨0, i + 1, xS n⟩ 2 [] (j + 1) (by dsimp only; omega) (by omega))]
          exact h.kind j (by omega)
  · have hf' := hf
    unfold fitsD at hf'
    rw [if_pos (by omega)] at hlast
    have hpl : S.place (joinP (deepP (i + 1) n)) = (spt0, 11) := by
      unfold Tre.place
      rw [hlast]
      rfl
    have hfr : S.fresh (joinP (deepP (i + 1) n)) = (spt0, 11) := by
      unfold Tre.fresh
      rw [hpl]
      rfl
    refine ⟨S, 11, ?_, fun h => absurd h hf, fun _ => ⟨rfl, rfl⟩⟩
    unfold Tre.mkdir
    rw [hfr]
    rfl
theorem good_l : GoodN [108] := by unfold GoodN NameOk; decide
/-- A link to the deepest. -/
theorem Dp.link {S : Tre} {k i n : Nat} (h : Dp S k i n) (hn1 : 1 ≤ n) (hn2 : n ≤ 24) (hi1 : 1 ≤ i) (hi : i ≤ 20) (h100 : i * (n + 1) ≤ 100) :
    ∃ S', S.symlink (joinP (deepP i n)) [47, 108] = (ansE 0, S') ∧ Gdx S' (k + 1) ∧ (¬ fitsD i n → S'.mkdir (joinP [[108], xS n]) = (ansE 11, S')) := by
  have P := pz_xS hn1 hn2
  have hz : ∀ p ∈ deepP i n, Pz p := fun p hp => by rw [(List.mem_replicate.1 hp).2]; exact P.1
  have hne : deepP i n ≠ [] := by
    intro h
    have := congrArg List.length h
    simp [deepP] at this
    omega
  have ht := targetM_joinP hz hne (by simp [deepP]; omega) (by rw [deepP_len]; exact h100)
  have hroot : (S.at_ 1).names = [(xS n, 2)] := by
    have := h.names 0 (by omega)
    simpa using this
  have hno : ([108] : Str) ∉ (S.at_ 1).names.map Prod.fst := by
    rw [hroot]
    simp only [List.map_cons, List.map_nil, List.mem_singleton]
    exact fun e => P.2.2.2 e.symm
  have e := h.gd.symlink_one good_l (tg := joinP (deepP i n)) (by rw [ht]) hno
  have hg : Gdx (S.symlink (joinP (deepP i n)) [47, 108]).2 (k + 1) := h.gd.doM ⟨13, 0, 0, 0, 0, joinP (deepP i n), [47, 108]⟩ [] (by dsimp only; rw [deepP_len]; omega)
  obtain ⟨n1, n2, n3⟩ := make_root h.gd 3 (joinP (deepP i n)) hno
  have hlt := h.last
  have n4 := make_newF S ⟨0, 1, [108]⟩ 3 (by decide) (joinP (deepP i n)) (by dsimp only; omega)
  rw [e] at hg
  refine ⟨_, e, hg, fun hf => ?_⟩
  dsimp only at hg
  generalize hS' : S.make ⟨0, 1, [108]⟩ 3 (joinP (deepP i n)) = S' at *
  have hz2 : ∀ p ∈ ([[108]] : List Str) ++ [xS n], Pz p := by
    intro p hp
    rcases List.mem_append.1 hp with hp | hp
    · rw [List.mem_singleton.1 hp]; exact ⟨⟨by decide, by decide, by decide, by decide⟩, by decide⟩
    · rw [List.mem_singleton.1 hp]; exact P.1
  have hlast := lastM_joinP hz2 P.2.1
  have hxl : (xS n).length = n := by simp [xS]
  rw [if_neg (by rw [joinP_len]; simp [hxl]; omega)] at hlast
  have hgo : S'.goN 1 (deepP i n) = some (i + 1 : Int) := by
    have : ∀ j, j ≤ i → S'.goN 1 (deepP j n) = some (j + 1 : Int) := by
      intro j
      induction j with
      | zero => intro _; rfl
      | succ j ih =>
        intro hj
        rw [deepP_succ]
        refine goN_snoc' (ih (by omega)) ?_
        by_cases hj0 : j = 0
        · subst hj0
          show fnd (S'.at_ (0 + 1)).names _ = _
          rw [Int.zero_add, n1, hroot]
          rw [List.cons_append, fnd_cons, if_pos rfl]
          rfl
        · rw [n2 (j + 1) (by omega) (by omega), h.names j (by omega), fnd1]
          congr 1
    exact this i (Nat.le_refl _)
  have hkind : (S'.at_ (i + 1)).kind = 2 := by
    rw [n2 (i + 1) (by omega) (by omega)]
    exact h.kind i (Nat.le_refl _)
  obtain ⟨rk, hg'⟩ := hg
  obtain ⟨x1, hx1⟩ := hg'.x.has1
  have hw := hg'.walk_goD (deepP i n) ⟨1, 0, []⟩ x1 1 hx1 _ hgo (by rw [hkind]; decide)
  have hfl : fnd (S'.at_ 1).names [108] = some (S.last + 1) := by
    rw [n1, hroot]
    show fnd [(xS n, (2 : Int)), ([108], S.last + 1)] [108] = _
    rw [fnd_cons, if_neg P.2.2.2, fnd1]
  have hfind : S'.find (joinM [[108]]) true = S'.walk ⟨1, 0, []⟩ 1 (deepP i n) true := by
    unfold Tre.find
    rw [show splitM (joinM [[108]]) = ([[108]], 0) from by decide +kernel]
    simp only [ne_eq, not_true_eq_false, if_false]
    rw [Tre.walk, if_neg (fun e => e hg'.root2), if_neg (by decide), hfl]
    dsimp only
    rw [n4]
    rw [if_pos ⟨rfl, .inr rfl⟩, dif_neg (by decide)]
    simp only [if_true]
    rw [str_bytes, ht]
    dsimp only
    rw [if_pos rfl, List.append_nil]
  have hway : S'.way (i + 1) = deepP i n := hg'.way_go _ (deepP i n) (i + 1) _ rfl (at_there (by rw [hkind]; decide)) hkind hgo
  have hlong : Tre.longM (S'.way (i + 1) ++ [xS n]) = true := by
    rw [hway, ← deepP_succ]
    unfold Tre.longM
    have hl1 : (deepP (i + 1) n).length = i + 1 := by simp [deepP]
    have hmul : (i + 1) * (n + 1) = i * (n + 1) + (n + 1) := Nat.succ_mul _ _
    unfold fitsD at hf
    rw [joinM_joinP (by simp [deepP]), deepP_len, hl1]
    simp only [Bool.or_eq_true, decide_eq_true_eq]
    omega
  have hpl : S'.place (joinP [[108], xS n]) = (spt0, 11) := by
    unfold Tre.place
    rw [show joinP [[108], xS n] = joinP ([[108]] ++ [xS n]) from rfl, hlast]
    simp only [hfind, hw.1, hw.2, ne_eq, not_true_eq_false, if_false]
    rw [if_neg (fun e => e hkind), hlong]
    rfl
  have hfr : S'.fresh (joinP [[108], xS n]) = (spt0, 11) := by
    unfold Tre.fresh
    rw [hpl]
    rfl
  unfold Tre.mkdir
  rw [hfr]
  rfl
/-- As many files are told as there are directories. -/
theorem Dp.many {S : Tre} {k i n : Nat} (h : Dp S k i n) : i ≤ (filesP S).length := by
  obtain ⟨rk, hg⟩ := h.gd
  have hm : ∀ j, j < i + 1 → (deepP j n, (j + 1 : Int), S.at_ (j + 1)) ∈ filesP S := by
    intro j hj
    rw [hg.files_mem]
    exact ⟨h.go j (by omega), at_there (by rw [h.kind j (by omega)]; decide)⟩
  have hsub : ∀ (m : Nat) (l : List (List Str × Int × Nod)), m ≤ i + 1 → (∀ j, j < m → (deepP j n, (j + 1 : Int), S.at_ (j + 1)) ∈ l) → m ≤ l.length := by
    intro m
    induction m with
    | zero => intro l _ _; exact Nat.zero_le _
    | succ m ih =>
      intro l hmi hl
      obtain ⟨A, B, rfl⟩ := List.append_of_mem (hl m (by omega))
      have := ih (A ++ B) (by omega) fun j hj => by
        have h1 := hl j (by omega)
        rcases List.mem_append.1 h1 with h1 | h1
        · exact List.mem_append_left _ h1
        · rcases List.mem_cons.1 h1 with h1 | h1
          · have := congrArg (fun e : List Str × Int × Nod => e.2.1) h1
            dsimp only at this
            omega
          · exact List.mem_append_right _ h1
      simp only [List.length_append, List.length_cons] at this ⊢
      omega
  have := hsub (i + 1) _ (Nat.le_refl _) hm
  omega
theorem Dp.countFrom {S : Tre} {k i n : Nat} (h : Dp S k i n) : ∀ (d j f : Nat) (pre : List Str), j + d = i → d < f → (seenP S.nodes f (j + 1) pre).length = d + 1
  | 0, j, f, pre, hj, hf => by
    obtain ⟨f, rfl⟩ : ∃ g, f = g + 1 := ⟨f - 1, by omega⟩
    obtain rfl : j = i := by omega
    have hb : ((fnd S.nodes (j + 1)).getD nod0).names = [] := h.bot
    rw [seenP, hb]
    rfl
  | d + 1, j, f, pre, hj, hf => by
    obtain ⟨f, rfl⟩ : ∃ g, f = g + 1 := ⟨f - 1, by omega⟩
    have hb : ((fnd S.nodes (j + 1)).getD nod0).names = [(xS n, (j + 2 : Int))] := h.names j (by omega)
    rw [seenP, hb, List.length_cons, List.flatMap_cons, List.flatMap_nil, List.append_nil]
    have := h.countFrom d (j + 1) f (pre ++ [xS n]) (by omega) (by omega)
    rw [show ((j + 1 : Nat) : Int) + 1 = (j : Int) + 2 by push_cast; omega] at this
    dsimp only
    rw [this]
theorem Dp.count {S : Tre} {k i n : Nat} (h : Dp S k i n) (hi : i ≤ 20) : (filesP S).length = i + 1 := by
  have := h.countFrom i 0 22 [] (by omega) (by omega)
  exact this
end Go.Proofs.YtfhaedkaedffcaaGreatDoor
/- TreeSame, plain: a name more is a file more. No program in sight. -/
namespace Go.Proofs.YtfhaedkaedffcaaGreatDoor
open Go.RowKit Go.Own
def nm3 (a : Nat) : Str := [UInt8.ofNat (97 + a), 122, 113]
theorem lens_of {S : Tre} {k : Nat} (h : Gdx S k) {os : List Sn} (h1 : (os.map Sn.key).Perm ((seen S.nodes 22 1 []).map keyE)) : os.length = (filesP S).length := by
  obtain ⟨rk, hg⟩ := h
  exact hg.files_len h1
def mul7 (s : Sn) : Sn := { s with num := s.num * 7 + 3 }
def upto7 (os : List Sn) (k : Nat) : List Sn := (os.take k).map mul7 ++ os.drop k
end Go.Proofs.YtfhaedkaedffcaaGreatDoor
/- TreeMoves, plain: places, moves. No program in sight. -/
namespace Go.Proofs.YtfhaedkaedffcaaGreatDoor
open Go.RowKit Go.Own
theorem long_one {ps : List Str} (h : ∀ p ∈ ps, p.length = 1) (hl : ps.length ≤ 20) : Tre.longM ps = false := by
  unfold Tre.longM
  have h1 := joinP_one h
  have h2 : (joinM ps).length ≤ 200 := by
    by_cases h0 : ps = []
    · subst h0; decide
    · rw [joinM_joinP h0]; omega
  simp only [Bool.or_eq_false_iff, decide_eq_false_iff_not]
  omega
section
variable {S : Tre} {rk : Int → Nat} {k N top : Nat} (h : Mv S rk k N top) (hN : N ≤ 9)
include h hN
omit hN in
theorem Mv.wayOk {n : Int} {x : Nod} (hx : fnd S.nodes n = some x) : (∀ p ∈ S.way n, Ltr 123 p ∧ p.length = 1 ∧ (47 : UInt8) ∉ p ∧ Pz p ∧ p ≠ [46, 46]) ∧ (S.way n).length + 1 ≤ N := by
  have hg := h.go hx
  obtain ⟨_, _, _, _, h1⟩ := h.there hg
  refine ⟨fun p hp => ?_, h.depth hg⟩
  have h2 := (h1 p hp).mono h.low
  have h3 := h2.ok (Nat.le_refl _)
  exact ⟨h2, h3.2.2.1, h3.2.2.2.2, h3.1, h3.2.1⟩
theorem Mv.findDir {n : Int} {x : Nod} (hx : fnd S.nodes n = some x) : (S.find (joinM (S.way n)) true).2 = 0 ∧ (S.find (joinM (S.way n)) true).1.node = n := by
  obtain ⟨hw, hl⟩ := h.wayOk hx
  have h2 := joinP_one fun p hp => (hw p hp).2.1
  unfold Tre.find
  rw [splitM_joinM (fun p hp => (hw p hp).2.2.2.1) (by omega) (by omega)]
  simp only [ne_eq, not_true_eq_false, if_false]
  obtain ⟨x1, hx1⟩ := h.gd.x.has1
  exact h.gd.walk_goD (S.way n) ⟨1, 0, []⟩ x1 0 hx1 _ (h.go hx) (by rw [at_of hx, (h.dirs n x hx).1]; decide)
theorem Mv.lastOk {n : Int} {x : Nod} (hx : fnd S.nodes n = some x) {c : Str} (hc : Ltr 123 c) : lastM (joinP (S.way n ++ [c])) = (joinM (S.way n), c, 0) := by
  obtain ⟨hw, hl⟩ := h.wayOk hx
  have h3 := hc.ok (Nat.le_refl _)
  have h4 : ∀ p ∈ S.way n ++ [c], p.length = 1 := by
    intro p hp
    rcases List.mem_append.1 hp with hp | hp
    · exact (hw p hp).2.1
    · rw [List.mem_singleton.1 hp]; exact h3.2.2.1
  have h5 := joinP_one h4
  rw [List.length_append, List.length_singleton] at h5
  rw [lastM_joinP (fun p hp => by
    rcases List.mem_append.1 hp with hp | hp
    · exact (hw p hp).2.2.2.1
    · rw [List.mem_singleton.1 hp]; exact h3.1) h3.2.1, if_neg (by rw [List.length_append, List.length_singleton]; omega)]
theorem Mv.place {n : Int} {x : Nod} (hx : fnd S.nodes n = some x) {c : Str} (hc : Ltr 123 c) : S.place (joinP (S.way n ++ [c])) = (⟨(fnd x.names c).getD 0, n, c⟩, 0) := by
  obtain ⟨hw, hl⟩ := h.wayOk hx
  have h3 := hc.ok (Nat.le_refl _)
  obtain ⟨h1, h2⟩ := h.findDir hN hx
  have h4 : Tre.longM (S.way n ++ [c]) = false := long_one (fun p hp => by
    rcases List.mem_append.1 hp with hp | hp
    · exact (hw p hp).2.1
    · rw [List.mem_singleton.1 hp]; exact h3.2.2.1) (by rw [List.length_append, List.length_singleton]; omega)
  unfold Tre.place
  rw [h.lastOk hN hx hc]
  dsimp only
  rw [h2, at_of hx, h4, if_neg (by simp), if_neg (by rw [h1]; simp), if_neg (by rw [(h.dirs n x hx).1]; simp), if_neg (by simp)]
omit hN in
theorem Mv.deepF : ∀ (f : Nat) (n : Int) (x : Nod) (ps : List Str), fnd S.nodes n = some x → (∀ p ∈ ps, p.length = 1) → ps.length + (N - rk n) ≤ 20 → S.deepF f n ps = false := by
  intro f
  induction f with
  | zero => intro n x ps hx h1 h2; exact long_one h1 (by omega)
  | succ f ih =>
    intro n x ps hx h1 h2
    rw [Tre.deepF, long_one h1 (by omega), Bool.false_or, at_of hx, List.any_eq_false]
    intro e he
    obtain ⟨e1, e2, y, hy, e3⟩ := (h.gd.nod hx).ents e he
    have h3 := (e3 (h.dirs _ _ hy).1).2
    have h4 := h.rkWay hy
    have h5 := h.depth (h.go hy)
    have h6 := ((h.one n x hx e he).ok h.low).2.2.1
    rw [ih e.2 y (ps ++ [e.1]) hy (fun p hp => by
      rcases List.mem_append.1 hp with hp | hp
      · exact h1 p hp
      · rw [List.mem_singleton.1 hp]; exact h6) (by rw [List.length_append, List.length_singleton]; omega)]
    decide
omit hN in
/-- What is found by a path that leads nowhere: nothing. -/
theorem Mv.walk_none : ∀ (ps : List Str) (s : Spt) (x : Nod), fnd S.nodes s.node = some x → S.goN s.node ps = none → (∀ p ∈ ps, p ≠ [46, 46]) → S.walk s 0 ps false = (spt0, 5) := by
  intro ps
  induction ps with
  | nil => intro s x hx hg hp; cases hg
  | cons p ps ih =>
    intro s x hx hg hp
    rw [Tre.goN, at_of hx] at hg
    rw [Tre.walk, at_of hx, if_neg (fun e => e (h.dirs _ _ hx).1), if_neg (hp p List.mem_cons_self)]
    cases hf : fnd x.names p with
    | none => rfl
    | some c =>
      rw [hf] at hg
      obtain ⟨e1, e2, y, hy, e3⟩ := (h.gd.nod hx).ents _ (fnd_some hf)
      dsimp only at hy hg ⊢
      rw [if_neg (fun e => by have := e.1; rw [at_of hy, (h.dirs _ _ hy).1] at this; exact absurd this (by decide))]
      exact ih ⟨c, s.node, p⟩ y hy hg fun q hq => hp q (List.mem_cons_of_mem _ hq)
omit hN in
theorem Mv.walk_app : ∀ (ps qs : List Str) (s : Spt) (x : Nod), fnd S.nodes s.node = some x → ∀ d, S.goN s.node ps = some d → (∀ p ∈ ps, p ≠ [46, 46]) → ∃ s', s'.node = d ∧ S.walk s 0 (ps ++ qs) false = S.walk s' 0 qs false := by
  intro ps
  induction ps with
  | nil => intro qs s x hx d hg hp; cases hg; exact ⟨s, rfl, rfl⟩
  | cons p ps ih =>
    intro qs s x hx d hg hp
    rw [Tre.goN, at_of hx] at hg
    rw [List.cons_append, Tre.walk, at_of hx, if_neg (fun e => e (h.dirs _ _ hx).1), if_neg (hp p List.mem_cons_self)]
    cases hf : fnd x.names p with
    | none => rw [hf] at hg; cases hg
    | some c =>
      rw [hf] at hg
      obtain ⟨e1, e2, y, hy, e3⟩ := (h.gd.nod hx).ents _ (fnd_some hf)
      dsimp only at hy hg ⊢
      rw [if_neg (fun e => by have := e.1; rw [at_of hy, (h.dirs _ _ hy).1] at this; exact absurd this (by decide))]
      exact ih qs ⟨c, s.node, p⟩ y hy d hg fun q hq => hp q (List.mem_cons_of_mem _ hq)
end
theorem findOf (S : Tre) {ps : List Str} (hne : ps ≠ []) (hz : ∀ p ∈ ps, Pz p) (hl : ps.length ≤ 20) (h2 : (joinP ps).length ≤ 200) : S.find (joinP ps) false = S.walk ⟨1, 0, []⟩ 0 ps false := by
  have h3 : ¬ (20 < ps.length ∨ 200 < (joinP ps).length) := by omega
  unfold Tre.find
  rw [splitM_joinP hz hne, if_neg h3, if_neg (by simp)]
end Go.Proofs.YtfhaedkaedffcaaGreatDoor
/- TreeMoves, plain: what is made, what is moved. No program in sight. -/
namespace Go.Proofs.YtfhaedkaedffcaaGreatDoor
open Go.RowKit Go.Own
theorem mv0 : ∃ rk, Mv tre0 rk 0 1 97 := by
  obtain ⟨rk, hg⟩ : ∃ rk, Gd tre0 rk 0 := gdx0
  refine ⟨rk, hg, rfl, ?_, ?_, ?_, by decide⟩
  · intro n x hx
    have h1 : n = 1 ∧ x = ⟨2, [], [], [], 0, 1, 0⟩ := by
      have e : tre0.nodes = [(1, ⟨2, [], [], [], 0, 1, 0⟩)] := rfl
      rw [e, fnd_cons] at hx
      by_cases h : (1 : Int) = n
      · rw [if_pos h] at hx; cases hx; exact ⟨h.symm, rfl⟩
      · rw [if_neg h] at hx; cases hx
    obtain ⟨rfl, rfl⟩ := h1
    exact ⟨rfl, .inl rfl⟩
  · intro n h1 h2
    have : n = 1 := by
      have : (((1 : Nat) : Int)) = 1 := rfl
      omega
    subst this
    exact ⟨_, rfl⟩
  · intro n x hx e he
    have h1 : x = ⟨2, [], [], [], 0, 1, 0⟩ := by
      have e : tre0.nodes = [(1, ⟨2, [], [], [], 0, 1, 0⟩)] := rfl
      rw [e, fnd_cons] at hx
      by_cases h : (1 : Int) = n
      · rw [if_pos h] at hx; cases hx; rfl
      · rw [if_neg h] at hx; cases hx
    subst h1
    cases he
theorem Mv.new {S : Tre} {rk : Int → Nat} {k N top : Nat} (h : Mv S rk k N top) {n : Int} {x : Nod} (hx : fnd S.nodes n = some x) {c : UInt8} (hc : top ≤ c.toNat) : fnd x.names [c] = none := by
  cases hf : fnd x.names [c] with
  | none => rfl
  | some d =>
    obtain ⟨c', e, _, h2⟩ := h.one n x hx _ (fnd_some hf)
    dsimp only at e
    cases e
    omega
/-- A directory more, at the root. -/
theorem Mv.mkdir {S : Tre} {rk : Int → Nat} {k N top : Nat} (h : Mv S rk k N top) {c : UInt8} (hc1 : 97 ≤ c.toNat) (hc : top ≤ c.toNat) (hc2 : c.toNat ≤ 122) : ∃ S' rk', S.mkdir (47 :: [c]) = (ansE 0, S') ∧ Mv S' rk' (k + 1) (N + 1) (c.toNat + 1) := by
  have hL : Ltr 123 [c] := ⟨c, rfl, hc1, by omega⟩
  obtain ⟨rk', hg'⟩ := h.gd.mkdir (47 :: [c])
  have h1 := h.gd.fresh_one (hL.ok (Nat.le_refl _)).2.2.2.1
  obtain ⟨x1, hx1⟩ := h.gd.x.has1
  have hnone := h.new hx1 hc
  rw [at_of hx1, hnone] at h1
  rw [if_neg (by simp)] at h1
  have hmk : S.mkdir (47 :: [c]) = (ansE 0, S.make ⟨0, 1, [c]⟩ 2 []) := by
    unfold Tre.mkdir
    rw [h1, if_neg (by simp)]
  rw [hmk] at hg'
  have hl := h.gd.last1
  have hll := h.last
  have hd := make_dir S ⟨0, 1, [c]⟩ 2 [] (by dsimp only; omega)
  dsimp only at hd
  rw [at_of hx1] at hd
  have hnew := make_newD S ⟨0, 1, [c]⟩ [] (by dsimp only; omega)
  have hnew2 := at_there (S := S.make ⟨0, 1, [c]⟩ 2 []) (n := S.last + 1) (by rw [hnew]; show (2 : Int) ≠ 0; decide)
  rw [hnew] at hnew2
  dsimp only at hnew2
  refine ⟨_, rk', hmk, hg', ?_, ?_, ?_, ?_, by omega⟩
  · show S.last + 1 = _
    push_cast
    omega
  · intro n x hx
    by_cases hn1 : n = 1
    · subst hn1
      rw [hd] at hx
      cases hx
      exact ⟨(h.dirs 1 x1 hx1).1, .inl rfl⟩
    by_cases hnl : n = S.last + 1
    · subst hnl
      rw [hnew2] at hx
      cases hx
      exact ⟨rfl, .inr (by decide)⟩
    · rw [make_other S ⟨0, 1, [c]⟩ 2 [] n hn1 hnl] at hx
      exact h.dirs n x hx
  · intro n hn1 hn2
    by_cases h1 : n = 1
    · subst h1; exact ⟨_, hd⟩
    by_cases hnl : n = S.last + 1
    · subst hnl; exact ⟨_, hnew2⟩
    · obtain ⟨x, hx⟩ := h.all n hn1 (by push_cast at hn2; omega)
      exact ⟨x, (make_other S ⟨0, 1, [c]⟩ 2 [] n h1 hnl).trans hx⟩
  · intro n x hx e he
    by_cases hn1 : n = 1
    · subst hn1
      rw [hd] at hx
      cases hx
      have he' : e ∈ putA x1.names [c] (S.last + 1) := he
      rw [putA_new _ (fnd_none.1 hnone)] at he'
      rcases List.mem_append.1 he' with he' | he'
      · exact (h.one 1 x1 hx1 e he').mono (by omega)
      · rw [List.mem_singleton.1 he']
        exact ⟨c, rfl, hc1, by omega⟩
    by_cases hnl : n = S.last + 1
    · subst hnl
      rw [hnew2] at hx
      cases hx
      cases he
    · rw [make_other S ⟨0, 1, [c]⟩ 2 [] n hn1 hnl] at hx
      exact (h.one n x hx e he).mono (by omega)
/-- What a move leaves. -/
theorem mv1_at (S : Tre) {a b par : Int} {nm c : Str} (hab : a ≠ b) (hap : a ≠ par) {xa : Nod} (ha : fnd S.nodes a = some xa) (hk : xa.kind = 2) : ∀ n x, fnd S.nodes n = some x → ∃ x', fnd (S.mv1 ⟨a, par, nm⟩ ⟨0, b, c⟩).nodes n = some x' ∧ x'.kind = x.kind ∧ x'.above = (if n = a then b else x.above) ∧ x'.names = (if n = b then putA (if n = par then delA x.names nm else x.names) c a else if n = par then delA x.names nm else x.names) := by
  intro n x hx
  unfold Tre.mv1 Tre.add Tre.setN Tre.at_
  dsimp only
  by_cases hna : n = a
  · subst hna
    rw [hx] at ha
    cases ha
    refine ⟨_, by rw [fnd_putA, if_pos rfl], ?_⟩
    rw [fnd_putA, if_neg hab, fnd_putA, if_pos rfl, Option.getD_some, hx, Option.getD_some]
    unfold Tre.nodAdd
    rw [if_pos hk]
    refine ⟨rfl, by rw [if_pos rfl], ?_⟩
    first | rw [if_neg hab, if_neg hap] | rw [if_neg hap]
  · rw [fnd_putA, if_neg hna]
    by_cases hnb : n = b
    · subst hnb
      refine ⟨_, by rw [fnd_putA, if_pos rfl], ?_⟩
      rw [fnd_putA, if_neg hna]
      by_cases hnp : n = par
      · subst hnp
        rw [fnd_putA, if_pos rfl, hx]
        simp only [Option.getD_some]
        exact ⟨rfl, by rw [if_neg hna]; rfl, by simp only [if_true]; rfl⟩
      · rw [fnd_putA, if_neg hnp, hx]
        simp only [Option.getD_some]
        exact ⟨rfl, by rw [if_neg hna]; rfl, by simp only [if_true]; rw [if_neg hnp]; rfl⟩
    · rw [fnd_putA, if_neg hnb, fnd_putA, if_neg hna]
      by_cases hnp : n = par
      · subst hnp
        refine ⟨_, by rw [fnd_putA, if_pos rfl], ?_⟩
        rw [hx]
        simp only [Option.getD_some]
        exact ⟨rfl, by rw [if_neg hna]; rfl, by rw [if_neg hnb]; simp only [if_true]; rfl⟩
      · exact ⟨x, by rw [fnd_putA, if_neg hnp]; exact hx, rfl, by rw [if_neg hna], by rw [if_neg hnb, if_neg hnp]⟩
end Go.Proofs.YtfhaedkaedffcaaGreatDoor
/- TreeMoves, plain: a move, told. No program in sight. -/
namespace Go.Proofs.YtfhaedkaedffcaaGreatDoor
open Go.RowKit Go.Own
set_option linter.unusedSectionVars false
section
variable {S : Tre} {rk : Int → Nat} {k N top : Nat} (h : Mv S rk k N top) (hN : N ≤ 9) {a b par : Int} {xa xb y : Nod} {nm : Str} {c : UInt8}
  (ha : fnd S.nodes a = some xa) (hb : fnd S.nodes b = some xb) (hy : fnd S.nodes par = some y) (hfn : fnd y.names nm = some a) (hw : S.way a = S.way par ++ [nm]) (hc1 : 97 ≤ c.toNat) (hc : top ≤ c.toNat) (hc2 : c.toNat ≤ 122) (hpre : ¬ S.way a <+: S.way b)
include h ha hb hy hfn hw hc1 hc hc2 hpre
theorem Mv.ne_ab : a ≠ b := by
  rintro rfl
  exact hpre List.prefix_rfl
theorem Mv.ne_ap : a ≠ par := by
  rintro rfl
  have := congrArg List.length hw
  simp at this
theorem Mv.nm_ne : nm ≠ [c] := by
  intro e
  obtain ⟨c', e', _, h2⟩ := h.one par y hy _ (fnd_some hfn)
  dsimp only at e'
  rw [e] at e'
  cases e'
  omega
/-- What is not moved along is found where it was. -/
theorem Mv.go_still : ∀ (ps : List Str) (n e : Int), S.goN n ps = some e → (∃ qs, S.goN 1 qs = some n) → ¬ S.way a <+: S.way e → (S.mv1 ⟨a, par, nm⟩ ⟨0, b, [c]⟩).goN n ps = some e := by
  intro ps
  induction ps with
  | nil => intro n e hg _ _; exact hg
  | cons p ps ih =>
    intro n e hg ⟨qs, hq⟩ hne
    obtain ⟨x, hx, hwn, _, _⟩ := h.there hq
    rw [Tre.goN, at_of hx] at hg
    cases hf : fnd x.names p with
    | none => rw [hf] at hg; cases hg
    | some d =>
      rw [hf] at hg
      dsimp only at hg
      have hqd : S.goN 1 (qs ++ [p]) = some d := goN_snoc' hq (by rw [at_of hx]; exact hf)
      have hda : d ≠ a := by
        rintro rfl
        apply hne
        have h1 : S.goN 1 ((qs ++ [p]) ++ ps) = some e := by rw [goN_app, hqd]; exact hg
        obtain ⟨_, _, h2, _, _⟩ := h.there h1
        obtain ⟨_, _, h3, _, _⟩ := h.there hqd
        rw [h2, h3]
        exact List.prefix_append _ _
      have hpc : p ≠ [c] := by
        intro e
        obtain ⟨c', e', _, h2⟩ := h.one n x hx _ (fnd_some hf)
        dsimp only at e'
        rw [e] at e'
        cases e'
        omega
      obtain ⟨x', hx', _, _, hn'⟩ := mv1_at S (c := [c]) (h.ne_ab ha hb hy hfn hw hc1 hc hc2 hpre) (h.ne_ap ha hb hy hfn hw hc1 hc hc2 hpre) (nm := nm) (par := par) ha (h.dirs a xa ha).1 n x hx
      rw [Tre.goN, at_of hx']
      have hf' : fnd x'.names p = some d := by
        have h1 : fnd (if n = par then delA x.names nm else x.names) p = some d := by
          by_cases hnp : n = par
          · rw [if_pos hnp]
            subst hnp
            rw [hy] at hx
            cases hx
            have hpn : p ≠ nm := by
              rintro rfl
              rw [hfn] at hf
              exact hda (Option.some.inj hf).symm
            rw [fnd_delA hpn]
            exact hf
          · rw [if_neg hnp]; exact hf
        rw [hn']
        by_cases hnb : n = b
        · rw [if_pos hnb, fnd_putA, if_neg hpc]; exact h1
        · rw [if_neg hnb]; exact h1
      rw [hf']
      exact ih d e hg ⟨_, hqd⟩ hne
theorem Mv.moved {rk' : Int → Nat} (hg' : Gd (S.mv1 ⟨a, par, nm⟩ ⟨0, b, [c]⟩) rk' (k + 1)) : Mv (S.mv1 ⟨a, par, nm⟩ ⟨0, b, [c]⟩) rk' (k + 1) N (c.toNat + 1) := by
  have hab := h.ne_ab ha hb hy hfn hw hc1 hc hc2 hpre
  have hap := h.ne_ap ha hb hy hfn hw hc1 hc hc2 hpre
  have H := mv1_at S (c := [c]) hab hap (nm := nm) (par := par) ha (h.dirs a xa ha).1
  have hl : (S.mv1 ⟨a, par, nm⟩ ⟨0, b, [c]⟩).last = S.last := rfl
  have hback : ∀ n x', fnd (S.mv1 ⟨a, par, nm⟩ ⟨0, b, [c]⟩).nodes n = some x' → ∃ x, fnd S.nodes n = some x ∧ x'.kind = x.kind ∧ x'.above = (if n = a then b else x.above) ∧ x'.names = (if n = b then putA (if n = par then delA x.names nm else x.names) [c] a else if n = par then delA x.names nm else x.names) := by
    intro n x' hx'
    have h1 := hg'.num n x' hx'
    rw [hl, h.last] at h1
    obtain ⟨x, hx⟩ := h.all n h1.1 h1.2
    obtain ⟨x2, hx2, e1, e2, e3⟩ := H n x hx
    rw [hx'] at hx2
    cases hx2
    exact ⟨x, hx, e1, e2, e3⟩
  refine ⟨hg', by rw [hl, h.last], ?_, ?_, ?_, by omega⟩
  · intro n x' hx'
    obtain ⟨x, hx, e1, e2, _⟩ := hback n x' hx'
    refine ⟨by rw [e1]; exact (h.dirs n x hx).1, ?_⟩
    rw [e2]
    by_cases hna : n = a
    · rw [if_pos hna]; exact .inr (h.gd.ne0 hb)
    · rw [if_neg hna]; exact (h.dirs n x hx).2
  · intro n h1 h2
    obtain ⟨x, hx⟩ := h.all n h1 h2
    obtain ⟨x', hx', _⟩ := H n x hx
    exact ⟨x', hx'⟩
  · intro n x' hx' e he
    obtain ⟨x, hx, _, _, e3⟩ := hback n x' hx'
    have hsub : ∀ e ∈ (if n = par then delA x.names nm else x.names), Ltr (c.toNat + 1) e.1 := by
      intro e he
      have : e ∈ x.names := by
        by_cases hnp : n = par
        · rw [if_pos hnp] at he; exact (List.mem_filter.1 he).1
        · rw [if_neg hnp] at he; exact he
      exact (h.one n x hx e this).mono (by omega)
    rw [e3] at he
    by_cases hnb : n = b
    · rw [if_pos hnb] at he
      by_cases hin : [c] ∈ (if n = par then delA x.names nm else x.names).map Prod.fst
      · unfold putA at he
        rw [if_pos hin] at he
        obtain ⟨e0, he0, rfl⟩ := List.mem_map.1 he
        by_cases h0 : e0.1 = [c]
        · rw [if_pos h0]; exact ⟨c, rfl, hc1, by omega⟩
        · rw [if_neg h0]; exact hsub e0 he0
      · rw [putA_new _ hin] at he
        rcases List.mem_append.1 he with he | he
        · exact hsub e he
        · rw [List.mem_singleton.1 he]; exact ⟨c, rfl, hc1, by omega⟩
    · rw [if_neg hnb] at he
      exact hsub e he
/-- The numbers behind a move. -/
theorem Mv.nums {rk' : Int → Nat} (h' : Mv (S.mv1 ⟨a, par, nm⟩ ⟨0, b, [c]⟩) rk' (k + 1) N (c.toNat + 1)) : (S.mv1 ⟨a, par, nm⟩ ⟨0, b, [c]⟩).goN 1 (S.way a) = none ∧ (S.mv1 ⟨a, par, nm⟩ ⟨0, b, [c]⟩).goN 1 (S.way b) = some b ∧ (S.mv1 ⟨a, par, nm⟩ ⟨0, b, [c]⟩).goN 1 (S.way b ++ [[c]]) = some a ∧ (S.mv1 ⟨a, par, nm⟩ ⟨0, b, [c]⟩).up a = b := by
  have hab := h.ne_ab ha hb hy hfn hw hc1 hc hc2 hpre
  have hap := h.ne_ap ha hb hy hfn hw hc1 hc hc2 hpre
  have H := mv1_at S (c := [c]) hab hap (nm := nm) (par := par) ha (h.dirs a xa ha).1
  have hgb := h.go_still ha hb hy hfn hw hc1 hc hc2 hpre (S.way b) 1 b (h.go hb) ⟨[], rfl⟩ hpre
  have hnp : ¬ S.way a <+: S.way par := by
    intro e
    have := e.length_le
    rw [hw, List.length_append] at this
    simp at this
    omega
  have hgp := h.go_still ha hb hy hfn hw hc1 hc hc2 hpre (S.way par) 1 par (h.go hy) ⟨[], rfl⟩ hnp
  refine ⟨?_, hgb, ?_, ?_⟩
  · rw [hw, goN_app, hgp, Option.bind_some, Tre.goN]
    obtain ⟨y', hy', _, _, e3⟩ := H par y hy
    rw [at_of hy', e3]
    have h0 : fnd (delA y.names nm) nm = none := by
      rw [fnd_none]
      intro hm
      obtain ⟨e, he, h2⟩ := List.mem_map.1 hm
      have := (List.mem_filter.1 he).2
      simp [h2] at this
    have : fnd (if par = b then putA (if par = par then delA y.names nm else y.names) [c] a else if par = par then delA y.names nm else y.names) nm = none := by
      rw [if_pos (rfl : par = par)]
      by_cases hpb : par = b
      · rw [if_pos hpb, fnd_putA, if_neg (h.nm_ne ha hb hy hfn hw hc1 hc hc2 hpre)]; exact h0
      · rw [if_neg hpb]; exact h0
    rw [this]
  · refine goN_snoc' hgb ?_
    obtain ⟨b', hb', _, _, e3⟩ := H b xb hb
    rw [at_of hb', e3, if_pos rfl, fnd_putA, if_pos rfl]
  · obtain ⟨a', ha', _, e2, _⟩ := H a xa ha
    unfold Tre.up
    rw [at_of ha', e2, if_pos rfl, if_neg (h.gd.ne0 hb)]
end
/-- Moving, told. -/
theorem Mv.rename {S : Tre} {rk : Int → Nat} {k N top : Nat} (h : Mv S rk k N top) (hN : N ≤ 9) {a b : Int} {xa xb : Nod} (ha : fnd S.nodes a = some xa) (hb : fnd S.nodes b = some xb) (ha1 : a ≠ 1) {c : UInt8} (hc1 : 97 ≤ c.toNat) (hc : top ≤ c.toNat) (hc2 : c.toNat ≤ 122) :
    (S.way a <+: S.way b → S.rename (joinP (S.way a)) (joinP (S.way b ++ [[c]])) = (ansE 2, S)) ∧
    (¬ S.way a <+: S.way b → ∃ S' rk', S.rename (joinP (S.way a)) (joinP (S.way b ++ [[c]])) = (ansE 0, S') ∧ Mv S' rk' (k + 1) N (c.toNat + 1) ∧ (S'.find (joinP (S.way a)) false).1.node = 0 ∧ (S'.find (joinP (S.way b ++ [[c]])) false).1.node = a ∧ (S'.find (joinP (S.way b ++ [[c]] ++ [[46, 46]])) false).1.node = b) := by
  have hLc : Ltr 123 [c] := ⟨c, rfl, hc1, by omega⟩
  obtain ⟨y, nm, hy, hf, hlt, hl, hw⟩ := way_step h.gd.wy ha ha1 (((h.dirs a xa ha).2).resolve_left ha1)
  have hm : (nm, a) ∈ y.names := by
    have hm : (nm, a) ∈ y.names.filter (fun p => decide (p.2 = a)) := by rw [hf]; exact List.mem_cons_self
    exact (List.mem_filter.1 hm).1
  have hfn := fnd_mem (h.gd.nod hy).uniq hm
  have hLn : Ltr 123 nm := (h.one _ y hy _ hm).mono h.low
  have hpa : S.place (joinP (S.way a)) = (⟨a, xa.above, nm⟩, 0) := by rw [hw, h.place hN hy hLn, hfn]; rfl
  have hpb : S.place (joinP (S.way b ++ [[c]])) = (⟨0, b, [c]⟩, 0) := by rw [h.place hN hb hLc, h.new hb hc]; rfl
  have e1 : (lastM (joinP (S.way a))).2.2 = 0 := by rw [hw, h.lastOk hN hy hLn]
  have e2 : (lastM (joinP (S.way b ++ [[c]]))).2.2 = 0 := by rw [h.lastOk hN hb hLc]
  have hk := (h.dirs a xa ha).1
  have ha0 := h.gd.ne0 ha
  obtain ⟨hwb, hlb⟩ := h.wayOk hb
  have hdeep : S.deep a (S.way b ++ [[c]]) = false := h.deepF 22 a xa _ ha (fun p hp => by
    rcases List.mem_append.1 hp with hp | hp
    · exact (hwb p hp).2.1
    · rw [List.mem_singleton.1 hp]; rfl) (by rw [List.length_append, List.length_singleton]; omega)
  have hwb' : S.way b ++ [[c]] ≠ [] := by simp
  obtain ⟨rk', hg'⟩ := h.gd.rename (joinP (S.way a)) (joinP (S.way b ++ [[c]]))
  have hbeg : S.rename (joinP (S.way a)) (joinP (S.way b ++ [[c]])) = if S.within b a = true then (ansE 2, S) else (ansE 0, S.mv1 ⟨a, xa.above, nm⟩ ⟨0, b, [c]⟩) := by
    unfold Tre.rename
    rw [if_neg (by rw [e1]; simp), if_neg (by rw [e2]; simp), hpa, hpb, if_neg (by simp), if_neg (by simpa using ha0), if_neg (by simp)]
    dsimp only
    rw [at_of ha, hk, hdeep]
    by_cases hwi : S.within b a = true
    · rw [if_pos ⟨rfl, hwi⟩, if_pos hwi]
    · rw [if_neg (fun e => hwi e.2), if_neg (by simp), if_neg (fun e => ha0 e.symm), if_neg (by simp), if_neg (by simp), if_neg (by simp), if_neg (by simp), if_neg hwi]
  rw [hbeg] at hg' ⊢
  have hwi := h.within hb ha
  constructor
  · intro hp
    rw [if_pos (hwi.2 hp)]
  · intro hp
    rw [if_neg (fun e => hp (hwi.1 e))] at hg' ⊢
    have h' := h.moved ha hb hy hfn hw hc1 hc hc2 hp hg'
    obtain ⟨n1, n2, n3, n4⟩ := h.nums ha hb hy hfn hw hc1 hc hc2 hp h'
    obtain ⟨hwa, hla⟩ := h.wayOk ha
    obtain ⟨x1, hx1⟩ := hg'.x.has1
    have hLcz := hLc.ok (Nat.le_refl _)
    have hda := joinP_one fun p hp => (hwa p hp).2.1
    have hzb : ∀ p ∈ S.way b ++ [[c]], Pz p := fun p hp => by
      rcases List.mem_append.1 hp with hp | hp
      · exact (hwb p hp).2.2.2.1
      · rw [List.mem_singleton.1 hp]; exact hLcz.1
    have hob : ∀ p ∈ S.way b ++ [[c]], p.length = 1 := fun p hp => by
      rcases List.mem_append.1 hp with hp | hp
      · exact (hwb p hp).2.1
      · rw [List.mem_singleton.1 hp]; rfl
    have hdb := joinP_one hob
    rw [List.length_append, List.length_singleton] at hdb
    refine ⟨_, rk', rfl, h', ?_, ?_, ?_⟩
    · rw [findOf _ (by rw [hw]; simp) (fun p hp => (hwa p hp).2.2.2.1) (by omega) (by omega), h'.walk_none (S.way a) ⟨1, 0, []⟩ x1 hx1 n1 (fun p hp => (hwa p hp).2.2.2.2)]
      rfl
    · rw [findOf _ hwb' hzb (by rw [List.length_append, List.length_singleton]; omega) (by omega)]
      exact (hg'.walk_go (S.way b ++ [[c]]) ⟨1, 0, []⟩ x1 0 hx1 a n3).2
    · have hz2 : ∀ p ∈ S.way b ++ [[c]] ++ [[46, 46]], Pz p := fun p hp => by
        rcases List.mem_append.1 hp with hp | hp
        · exact hzb p hp
        · rw [List.mem_singleton.1 hp]; unfold Pz PartOk; decide
      rw [findOf _ (by simp) hz2 (by simp only [List.length_append, List.length_singleton]; omega) (by rw [joinP_app, List.length_append, hdb]; show 2 * _ + 3 ≤ 200; omega)]
      obtain ⟨s', hs', e'⟩ := h'.walk_app (S.way b ++ [[c]]) [[46, 46]] ⟨1, 0, []⟩ x1 hx1 a n3 (fun p hp => by
        rcases List.mem_append.1 hp with hp | hp
        · exact (hwb p hp).2.2.2.2
        · rw [List.mem_singleton.1 hp]; exact hLcz.2.1)
      obtain ⟨xa', hxa'⟩ := h'.all a (h.gd.num a xa ha).1 (by rw [← h.last]; exact (h.gd.num a xa ha).2)
      rw [e', Tre.walk, hs', at_of hxa', if_neg (fun e => e (h'.dirs a xa' hxa').1), if_pos rfl, Tre.walk]
      exact n4
end Go.Proofs.YtfhaedkaedffcaaGreatDoor
/- TreeMoves, plain: the files that are told. No program in sight. -/
namespace Go.Proofs.YtfhaedkaedffcaaGreatDoor
open Go.RowKit Go.Own
section
variable {S : Tre} {rk : Int → Nat} {k N top : Nat} (h : Mv S rk k N top)
include h
theorem Mv.file {e : List Str × Int × Nod} (he : e ∈ filesP S) : ∃ x, fnd S.nodes e.2.1 = some x ∧ S.way e.2.1 = e.1 := by
  obtain ⟨h1, h2⟩ := (h.gd.files_mem e).1 he
  obtain ⟨x, hx, hw, _⟩ := h.there h1
  exact ⟨x, hx, hw⟩
theorem Mv.files_len : (filesP S).length = N := by
  have hN : ∀ n : Int, 1 ≤ n → n ≤ N → ∃ e ∈ filesP S, e.1 = S.way n := by
    intro n h1 h2
    obtain ⟨x, hx⟩ := h.all n h1 h2
    exact ⟨(S.way n, n, x), (h.gd.files_mem _).2 ⟨h.go hx, hx⟩, rfl⟩
  have h1 : ((List.range N).map fun i : Nat => S.way (((i : Nat) : Int) + 1)).Nodup := by
    unfold List.Nodup
    rw [List.pairwise_map]
    refine List.Pairwise.imp_of_mem ?_ List.nodup_range
    intro i j hi hj hij e
    rw [List.mem_range] at hi hj
    obtain ⟨x, hx⟩ := h.all ((i : Int) + 1) (by omega) (by omega)
    obtain ⟨y, hy⟩ := h.all ((j : Int) + 1) (by omega) (by omega)
    have := h.wayInj hx hy e
    omega
  have h2 := nodup_lenS h1 (l' := (filesP S).map Prod.fst) fun p hp => by
    obtain ⟨i, hi, rfl⟩ := List.mem_map.1 hp
    rw [List.mem_range] at hi
    obtain ⟨e, he, h3⟩ := hN ((i : Int) + 1) (by omega) (by omega)
    exact List.mem_map.2 ⟨e, he, h3⟩
  have h3 : ((filesP S).map fun e => e.2.1).Nodup := by
    have h4 := h.gd.files_nodup
    unfold List.Nodup at h4 ⊢
    rw [List.pairwise_map] at h4 ⊢
    refine List.Pairwise.imp_of_mem ?_ h4
    intro a b ha hb hab e
    obtain ⟨_, _, h5⟩ := h.file ha
    obtain ⟨_, _, h6⟩ := h.file hb
    rw [e] at h5
    exact hab (h5.symm.trans h6)
  have h4 := nodup_lenS h3 (l' := (List.range N).map fun i : Nat => ((i : Nat) : Int) + 1) fun p hp => by
    obtain ⟨e, he, rfl⟩ := List.mem_map.1 hp
    obtain ⟨x, hx, _⟩ := h.file he
    have h5 := h.gd.num _ _ hx
    rw [h.last] at h5
    exact List.mem_map.2 ⟨(e.2.1 - 1).toNat, List.mem_range.2 (by omega), by show ((e.2.1 - 1).toNat : Int) + 1 = e.2.1; omega⟩
  simp only [List.length_map, List.length_range] at h2 h4
  omega
theorem Mv.sn {os : List Sn} (hp : (os.map Sn.key).Perm ((seen S.nodes 22 1 []).map keyE)) {s : Sn} (hs : s ∈ os) : ∃ x, fnd S.nodes s.num = some x ∧ s.path = orM (joinP (S.way s.num)) := by
  have h2 := hp.subset (List.mem_map_of_mem hs)
  obtain ⟨e, he, hk⟩ := List.mem_map.1 h2
  rw [files_seen] at he
  obtain ⟨f, hf, rfl⟩ := List.mem_map.1 he
  obtain ⟨x, hx, hw⟩ := h.file hf
  have h5 : f.2.1 = s.num := congrArg (fun t => t.2.1) hk
  have h6 : orM (joinP f.1) = s.path := congrArg (fun t => t.1) hk
  rw [h5] at hx hw
  exact ⟨x, hx, by rw [hw, h6]⟩
theorem Mv.sns_len {os : List Sn} (hp : (os.map Sn.key).Perm ((seen S.nodes 22 1 []).map keyE)) : os.length = N := by
  rw [lens_of ⟨rk, h.gd⟩ hp]
  exact h.files_len
end
/-- Where one path leads on from another. -/
theorem within_str {S : Tre} {rk : Int → Nat} {k N top : Nat} (h : Mv S rk k N top) {a b : Int} {xa xb : Nod} (ha : fnd S.nodes a = some xa) (hb : fnd S.nodes b = some xb) :
    (S.way a <+: S.way b ↔ ((joinP (S.way a)).length ≤ (joinP (S.way b)).length ∧ (joinP (S.way b)).take (joinP (S.way a)).length = joinP (S.way a))) ∧
    (S.way a <+: S.way b → (joinP (S.way a)).length ≠ (joinP (S.way b)).length → (joinP (S.way b))[(joinP (S.way a)).length]? = some 47) := by
  obtain ⟨h1, _⟩ := h.wayOk ha
  obtain ⟨h2, _⟩ := h.wayOk hb
  refine ⟨pre_iff (fun p hp => ⟨(h1 p hp).2.1, (h1 p hp).2.2.1⟩) (fun p hp => ⟨(h2 p hp).2.1, (h2 p hp).2.2.1⟩), fun hp hl => pre_next hp fun e => hl ?_⟩
  rw [joinP_one fun p hp => (h1 p hp).2.1, joinP_one fun p hp => (h2 p hp).2.1, e]
end Go.Proofs.YtfhaedkaedffcaaGreatDoor
