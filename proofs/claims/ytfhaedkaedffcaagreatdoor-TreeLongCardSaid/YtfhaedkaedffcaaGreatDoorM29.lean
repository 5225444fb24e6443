/- TEXTS of mine, merged. -/
import Derived.Test.YtfhaedkaedffcaaGreatDoorM28
import Derived.Test.YtfhaedkaedffcaaGreatDoorM1
import Derived.ProofKit
import Derived.OpenShut
import Derived.ShutString
import Derived.ChangeOld
import Derived.Deep.Slices
import Derived.Test.YtfhaedkaedffcaaGreatDoorM25
/- TreeLong, plain: directories one in the other. No program in sight. -/
namespace Go.Proofs.YtfhaedkaedffcaaGreatDoor
open Go.RowKit Go.Own
def xS (n : Nat) : Str := List.replicate n 120
theorem pz_xS {n : Nat} (h1 : 1 ≤ n) (h2 : n ≤ 24) : Pz (xS n) ∧ xS n ≠ [46, 46] ∧ NameOk (xS n) ∧ xS n ≠ [108] := by
  have hm : ∀ c ∈ xS n, c = 120 := fun c hc => (List.mem_replicate.1 hc).2
  have hne : xS n ≠ [] := by
    intro h
    have := congrArg List.length h
    simp [xS] at this
    omega
  have hl : (xS n).length = n := by simp [xS]
  have h47 : (47 : UInt8) ∉ xS n := fun h => absurd (hm _ h) (by decide)
  have h0 : (0 : UInt8) ∉ xS n := fun h => absurd (hm _ h) (by decide)
  have h46 : (46 : UInt8) ∉ xS n := fun h => absurd (hm _ h) (by decide)
  have h108 : (108 : UInt8) ∉ xS n := fun h => absurd (hm _ h) (by decide)
  have hd : xS n ≠ [46] := fun h => h46 (by rw [h]; simp)
  have hu : xS n ≠ [46, 46] := fun h => h46 (by rw [h]; simp)
  exact ⟨⟨⟨hne, hd, by omega, h47⟩, h0⟩, hu, ⟨hne, by omega, h47, hu⟩, fun h => h108 (by rw [h]; simp)⟩
def deepP (i n : Nat) : List Str := List.replicate i (xS n)
theorem deepP_len (i n : Nat) : (joinP (deepP i n)).length = i * (n + 1) := by
  rw [joinP_len, deepP, List.map_replicate, List.sum_replicate_nat]
  simp [xS]
theorem deepP_succ (i n : Nat) : deepP (i + 1) n = deepP i n ++ [xS n] := List.replicate_succ'
structure Dp (S : Tre) (k i n : Nat) : Prop where
  gd : Gdx S k
  last : S.last = i + 1
  names : ∀ j, j < i → (S.at_ (j + 1)).names = [(xS n, (j + 2 : Int))]
  bot : (S.at_ (i + 1)).names = []
  kind : ∀ j, j ≤ i → (S.at_ (j + 1)).kind = 2
theorem dp0 (n : Nat) : Dp tre0 0 0 n := ⟨gdx0, rfl, fun j hj => absurd hj (Nat.not_lt_zero _), rfl, fun j hj => by rw [Nat.le_zero.1 hj]; rfl⟩
theorem at_there {S : Tre} {n : Int} (h : (S.at_ n).kind ≠ 0) : fnd S.nodes n = some (S.at_ n) := by
  unfold Tre.at_ at *
  cases hf : fnd S.nodes n with
  | none => rw [hf] at h; exact absurd rfl h
  | some x => rfl
theorem Dp.go {S : Tre} {k i n : Nat} (h : Dp S k i n) : ∀ j, j ≤ i → S.goN 1 (deepP j n) = some (j + 1 : Int)
  | 0, _ => rfl
  | j + 1, hj => by
    rw [deepP_succ]
    refine goN_snoc' (h.go j (by omega)) ?_
    rw [h.names j (by omega), fnd1]
    congr 1
theorem make_newD (S : Tre) (s : Spt) (ds : Str) (h : s.dir ≠ S.last + 1) : (S.make s 2 ds).at_ (S.last + 1) = ⟨2, [], [], [], 0, 1, s.dir⟩ := by
  have e : fnd (S.make s 2 ds).nodes (S.last + 1) = some ⟨2, [], [], [], 0, 1, s.dir⟩ := by
    unfold Tre.make Tre.add Tre.setN
    refine fnd_putA.trans ((if_pos rfl).trans ?_)
    have : (Tre.at_ ⟨putA S.nodes (S.last + 1) ⟨2, if (2 : Int) = 3 then bytesOf ds else [], [], [], 0, 0, 0⟩, S.last + 1, S.tab⟩ (S.last + 1)) = ⟨2, [], [], [], 0, 0, 0⟩ := by
      unfold Tre.at_
      dsimp only
      rw [fnd_putA, if_pos rfl]
      rfl
    show some (Tre.nodAdd (Tre.at_ _ (S.last + 1)) s.dir) = _
    rw [this]
    rfl
  exact at_of e
/-- Finding the directory i. -/
theorem Dp.findDir {S : Tre} {k i n : Nat} (h : Dp S k i n) (hn1 : 1 ≤ n) (hn2 : n ≤ 24) (hi : i ≤ 20) (hl : i * (n + 1) ≤ 200) : (S.find (joinM (deepP i n)) true).2 = 0 ∧ (S.find (joinM (deepP i n)) true).1.node = i + 1 := by
  have hz : ∀ p ∈ deepP i n, Pz p := fun p hp => by rw [(List.mem_replicate.1 hp).2]; exact (pz_xS hn1 hn2).1
  unfold Tre.find
  rw [splitM_joinM hz (by simp [deepP]; omega) (by rw [deepP_len]; exact hl)]
  simp only [ne_eq, not_true_eq_false, if_false]
  obtain ⟨rk, hg⟩ := h.gd
  obtain ⟨x1, hx1⟩ := hg.x.has1
  exact hg.walk_goD (deepP i n) ⟨1, 0, []⟩ x1 0 hx1 _ (h.go i (Nat.le_refl _)) (by rw [h.kind i (Nat.le_refl _)]; decide)
theorem Dp.way {S : Tre} {k i n : Nat} (h : Dp S k i n) : S.way (i + 1) = deepP i n := by
  obtain ⟨rk, hg⟩ := h.gd
  have hk := h.kind i (Nat.le_refl _)
  exact hg.way_go _ (deepP i n) (i + 1) _ rfl (at_there (by rw [hk]; decide)) hk (h.go i (Nat.le_refl _))
def fitsD (i n : Nat) : Prop := i < 20 ∧ i * (n + 1) + (n + 1) ≤ 200
instance (i n : Nat) : Decidable (fitsD i n) := by unfold fitsD; exact inferInstance
theorem Dp.mkdir {S : Tre} {k i n : Nat} (h : Dp S k i n) (hn1 : 1 ≤ n) (hn2 : n ≤ 24) : ∃ S' c, S.mkdir (joinP (deepP (i + 1) n)) = (ansE c, S') ∧ (fitsD i n → c = 0 ∧ Dp S' (k + 1) (i + 1) n) ∧ (¬ fitsD i n → c = 11 ∧ S' = S) := by
  have P := pz_xS hn1 hn2
  have hz : ∀ p ∈ deepP i n ++ [xS n], Pz p := fun p hp => by
    rw [← deepP_succ] at hp
    rw [(List.mem_replicate.1 hp).2]; exact P.1
  have hlast := lastM_joinP hz P.2.1
  rw [← deepP_succ, deepP_len] at hlast
  have hl1 : (deepP (i + 1) n).length = i + 1 := by simp [deepP]
  rw [hl1] at hlast
  have hmul : (i + 1) * (n + 1) = i * (n + 1) + (n + 1) := Nat.succ_mul _ _
  by_cases hf : fitsD i n
  · have hf' := hf
    unfold fitsD at hf'
    rw [if_neg (by omega)] at hlast
    obtain ⟨f1, f2⟩ := h.findDir hn1 hn2 (by omega) (by omega)
    have hk := h.kind i (Nat.le_refl _)
    have hlong : Tre.longM (S.way (i + 1) ++ [xS n]) = false := by
      rw [h.way, ← deepP_succ]
      unfold Tre.longM
      rw [joinM_joinP (by simp [deepP]), deepP_len, hl1]
      simp only [Bool.or_eq_false_iff, decide_eq_false_iff_not]
      omega
    have hpl : S.place (joinP (deepP (i + 1) n)) = (⟨0, i + 1, xS n⟩, 0) := by
      unfold Tre.place
      rw [hlast]
      simp only [f1, f2, ne_eq, not_true_eq_false, if_false]
      rw [if_neg (fun e => e hk), hlong, h.bot]
      rfl
    have hfr : S.fresh (joinP (deepP (i + 1) n)) = (⟨0, i + 1, xS n⟩, 0) := by
      unfold Tre.fresh
      rw [hpl]
      rfl
    have hmk : S.mkdir (joinP (deepP (i + 1) n)) = (ansE 0, S.make ⟨0, i + 1, xS n⟩ 2 []) := by
      unfold Tre.mkdir
      rw [hfr]
      rfl
    have hg : Gdx (S.mkdir (joinP (deepP (i + 1) n))).2 (k + 1) := h.gd.doM ⟨9, 0, 0, 0, 0, joinP (deepP (i + 1) n), []⟩ [] (by dsimp only; rw [deepP_len]; omega)
    rw [hmk] at hg
    have hlt := h.last
    refine ⟨_, _, hmk, fun _ => ⟨rfl, hg, ?_, ?_, ?_, ?_⟩, fun h => absurd hf h⟩
    · show S.last + 1 = _
      rw [hlt]; push_cast; omega
    · intro j hj
      by_cases hji : j = i
      · subst hji
        rw [at_of (make_dir S ⟨0, j + 1, xS n⟩ 2 [] (by dsimp only; omega))]
        show putA _ _ _ = _
        have hb := h.bot
        dsimp only
        rw [hb, hlt]
        show [(xS n, (j : Int) + 1 + 1)] = _
        congr 2
      · rw [at_other (make_other S ⟨0, i + 1, xS n⟩ 2 [] (j + 1) (by dsimp only; omega) (by omega))]
        exact h.names j (by omega)
    · have e := make_newD S ⟨0, i + 1, xS n⟩ [] (by dsimp only; omega)
      rw [hlt] at e
      push_cast at e ⊢
      rw [e]
    · intro j hj
      by_cases hji : j = i + 1
      · subst hji
        have e := make_newD S ⟨0, i + 1, xS n⟩ [] (by dsimp only; omega)
        rw [hlt] at e
        push_cast at e ⊢
        rw [e]
      · by_cases hj2 : j = i
        · subst hj2
          rw [at_of (make_dir S ⟨0, j + 1, xS n⟩ 2 [] (by dsimp only; omega))]
          exact hk
        · rw [at_other (make_other S ⟨0, i + 1, xS n⟩ 2 [] (j + 1) (by dsimp only; omega) (by omega))]
          exact h.kind j (by omega)
  · have hf' := hf
    unfold fitsD at hf'
    rw [if_pos (by omega)] at hlast
    have hpl : S.place (joinP (deepP (i + 1) n)) = (spt0, 11) := by
      unfold Tre.place
      rw [hlast]
      rfl
    have hfr : S.fresh (joinP (deepP (i + 1) n)) = (spt0, 11) := by
      unfold Tre.fresh
      rw [hpl]
      rfl
    refine ⟨S, 11, ?_, fun h => absurd h hf, fun _ => ⟨rfl, rfl⟩⟩
    unfold Tre.mkdir
    rw [hfr]
    rfl
theorem good_l : GoodN [108] := by unfold GoodN NameOk; decide
/-- A link to the deepest. -/
theorem Dp.link {S : Tre} {k i n : Nat} (h : Dp S k i n) (hn1 : 1 ≤ n) (hn2 : n ≤ 24) (hi1 : 1 ≤ i) (hi : i ≤ 20) (h100 : i * (n + 1) ≤ 100) :
    ∃ S', S.symlink (joinP (deepP i n)) [47, 108] = (ansE 0, S') ∧ Gdx S' (k + 1) ∧ (¬ fitsD i n → S'.mkdir (joinP [[108], xS n]) = (ansE 11, S')) := by
  have P := pz_xS hn1 hn2
  have hz : ∀ p ∈ deepP i n, Pz p := fun p hp => by rw [(List.mem_replicate.1 hp).2]; exact P.1
  have hne : deepP i n ≠ [] := by
    intro h
    have := congrArg List.length h
    simp [deepP] at this
    omega
  have ht := targetM_joinP hz hne (by simp [deepP]; omega) (by rw [deepP_len]; exact h100)
  have hroot : (S.at_ 1).names = [(xS n, 2)] := by
    have := h.names 0 (by omega)
    simpa using this
  have hno : ([108] : Str) ∉ (S.at_ 1).names.map Prod.fst := by
    rw [hroot]
    simp only [List.map_cons, List.map_nil, List.mem_singleton]
    exact fun e => P.2.2.2 e.symm
  have e := h.gd.symlink_one good_l (tg := joinP (deepP i n)) (by rw [ht]) hno
  have hg : Gdx (S.symlink (joinP (deepP i n)) [47, 108]).2 (k + 1) := h.gd.doM ⟨13, 0, 0, 0, 0, joinP (deepP i n), [47, 108]⟩ [] (by dsimp only; rw [deepP_len]; omega)
  obtain ⟨n1, n2, n3⟩ := make_root h.gd 3 (joinP (deepP i n)) hno
  have hlt := h.last
  have n4 := make_newF S ⟨0, 1, [108]⟩ 3 (by decide) (joinP (deepP i n)) (by dsimp only; omega)
  rw [e] at hg
  refine ⟨_, e, hg, fun hf => ?_⟩
  dsimp only at hg
  generalize hS' : S.make ⟨0, 1, [108]⟩ 3 (joinP (deepP i n)) = S' at *
  have hz2 : ∀ p ∈ ([[108]] : List Str) ++ [xS n], Pz p := by
    intro p hp
    rcases List.mem_append.1 hp with hp | hp
    · rw [List.mem_singleton.1 hp]; exact ⟨⟨by decide, by decide, by decide, by decide⟩, by decide⟩
    · rw [List.mem_singleton.1 hp]; exact P.1
  have hlast := lastM_joinP hz2 P.2.1
  have hxl : (xS n).length = n := by simp [xS]
  rw [if_neg (by rw [joinP_len]; simp [hxl]; omega)] at hlast
  have hgo : S'.goN 1 (deepP i n) = some (i + 1 : Int) := by
    have : ∀ j, j ≤ i → S'.goN 1 (deepP j n) = some (j + 1 : Int) := by
      intro j
      induction j with
      | zero => intro _; rfl
      | succ j ih =>
        intro hj
        rw [deepP_succ]
        refine goN_snoc' (ih (by omega)) ?_
        by_cases hj0 : j = 0
        · subst hj0
          show fnd (S'.at_ (0 + 1)).names _ = _
          rw [Int.zero_add, n1, hroot]
          rw [List.cons_append, fnd_cons, if_pos rfl]
          rfl
        · rw [n2 (j + 1) (by omega) (by omega), h.names j (by omega), fnd1]
          congr 1
    exact this i (Nat.le_refl _)
  have hkind : (S'.at_ (i + 1)).kind = 2 := by
    rw [n2 (i + 1) (by omega) (by omega)]
    exact h.kind i (Nat.le_refl _)
  obtain ⟨rk, hg'⟩ := hg
  obtain ⟨x1, hx1⟩ := hg'.x.has1
  have hw := hg'.walk_goD (deepP i n) ⟨1, 0, []⟩ x1 1 hx1 _ hgo (by rw [hkind]; decide)
  have hfl : fnd (S'.at_ 1).names [108] = some (S.last + 1) := by
    rw [n1, hroot]
    show fnd [(xS n, (2 : Int)), ([108], S.last + 1)] [108] = _
    rw [fnd_cons, if_neg P.2.2.2, fnd1]
  have hfind : S'.find (joinM [[108]]) true = S'.walk ⟨1, 0, []⟩ 1 (deepP i n) true := by
    unfold Tre.find
    rw [show splitM (joinM [[108]]) = ([[108]], 0) from by decide +kernel]
    simp only [ne_eq, not_true_eq_false, if_false]
    rw [Tre.walk, if_neg (fun e => e hg'.root2), if_neg (by decide), hfl]
    dsimp only
    rw [n4]
    rw [if_pos ⟨rfl, .inr rfl⟩, dif_neg (by decide)]
    simp only [if_true]
    rw [str_bytes, ht]
    dsimp only
    rw [if_pos rfl, List.append_nil]
  have hway : S'.way (i + 1) = deepP i n := hg'.way_go _ (deepP i n) (i + 1) _ rfl (at_there (by rw [hkind]; decide)) hkind hgo
  have hlong : Tre.longM (S'.way (i + 1) ++ [xS n]) = true := by
    rw [hway, ← deepP_succ]
    unfold Tre.longM
    have hl1 : (deepP (i + 1) n).length = i + 1 := by simp [deepP]
    have hmul : (i + 1) * (n + 1) = i * (n + 1) + (n + 1) := Nat.succ_mul _ _
    unfold fitsD at hf
    rw [joinM_joinP (by simp [deepP]), deepP_len, hl1]
    simp only [Bool.or_eq_true, decide_eq_true_eq]
    omega
  have hpl : S'.place (joinP [[108], xS n]) = (spt0, 11) := by
    unfold Tre.place
    rw [show joinP [[108], xS n] = joinP ([[108]] ++ [xS n]) from rfl, hlast]
    simp only [hfind, hw.1, hw.2, ne_eq, not_true_eq_false, if_false]
    rw [if_neg (fun e => e hkind), hlong]
    rfl
  have hfr : S'.fresh (joinP [[108], xS n]) = (spt0, 11) := by
    unfold Tre.fresh
    rw [hpl]
    rfl
  unfold Tre.mkdir
  rw [hfr]
  rfl
/-- As many files are told as there are directories. -/
theorem Dp.many {S : Tre} {k i n : Nat} (h : Dp S k i n) : i ≤ (filesP S).length := by
  obtain ⟨rk, hg⟩ := h.gd
  have hm : ∀ j, j < i + 1 → (deepP j n, (j + 1 : Int), S.at_ (j + 1)) ∈ filesP S := by
    intro j hj
    rw [hg.files_mem]
    exact ⟨h.go j (by omega), at_there (by rw [h.kind j (by omega)]; decide)⟩
  have hsub : ∀ (m : Nat) (l : List (List Str × Int × Nod)), m ≤ i + 1 → (∀ j, j < m → (deepP j n, (j + 1 : Int), S.at_ (j + 1)) ∈ l) → m ≤ l.length := by
    intro m
    induction m with
    | zero => intro l _ _; exact Nat.zero_le _
    | succ m ih =>
      intro l hmi hl
      obtain ⟨A, B, rfl⟩ := List.append_of_mem (hl m (by omega))
      have := ih (A ++ B) (by omega) fun j hj => by
        have h1 := hl j (by omega)
        rcases List.mem_append.1 h1 with h1 | h1
        · exact List.mem_append_left _ h1
        · rcases List.mem_cons.1 h1 with h1 | h1
          · have := congrArg (fun e : List Str × Int × Nod => e.2.1) h1
            dsimp only at this
            omega
          · exact List.mem_append_right _ h1
      simp only [List.length_append, List.length_cons] at this ⊢
      omega
  have := hsub (i + 1) _ (Nat.le_refl _) hm
  omega
theorem Dp.countFrom {S : Tre} {k i n : Nat} (h : Dp S k i n) : ∀ (d j f : Nat) (pre : List Str), j + d = i → d < f → (seenP S.nodes f (j + 1) pre).length = d + 1
  | 0, j, f, pre, hj, hf => by
    obtain ⟨f, rfl⟩ : ∃ g, f = g + 1 := ⟨f - 1, by omega⟩
    obtain rfl : j = i := by omega
    have hb : ((fnd S.nodes (j + 1)).getD nod0).names = [] := h.bot
    rw [seenP, hb]
    rfl
  | d + 1, j, f, pre, hj, hf => by
    obtain ⟨f, rfl⟩ : ∃ g, f = g + 1 := ⟨f - 1, by omega⟩
    have hb : ((fnd S.nodes (j + 1)).getD nod0).names = [(xS n, (j + 2 : Int))] := h.names j (by omega)
    rw [seenP, hb, List.length_cons, List.flatMap_cons, List.flatMap_nil, List.append_nil]
    have := h.countFrom d (j + 1) f (pre ++ [xS n]) (by omega) (by omega)
    rw [show ((j + 1 : Nat) : Int) + 1 = (j : Int) + 2 by push_cast; omega] at this
    dsimp only
    rw [this]
theorem Dp.count {S : Tre} {k i n : Nat} (h : Dp S k i n) (hi : i ≤ 20) : (filesP S).length = i + 1 := by
  have := h.countFrom i 0 22 [] (by omega) (by omega)
  exact this
end Go.Proofs.YtfhaedkaedffcaaGreatDoor
/- TreeNames: its operations, as it calls them. -/
namespace Go.Proofs.YtfhaedkaedffcaaGreatDoor
open Go.RowKit Go.Own
/-- An answer of numbers, as a value. -/
abbrev bareY (c n k l : Int) (p : Option Addr) (cp : Nat) (p' : Option Addr) (cp' : Nat) : Value := .agg #[.int .i64 c, .int .i64 n, .int .i64 k, .int .i64 l, .slice p 0 cp, .slice p' 0 cp']
section
variable {S : Tre} {k : Nat} (q : Nat) (mx : Int) (w : World) (L : List HP)
theorem stepBare (h : Gdx S k) (hk : k < 100000) (hM : MxL mx L) (o : Opm) {P Q : ByteArray} (hP : sB o.path = P) (hQ : sB o.dest = Q) (ho : o.off ≤ 9223372036854775807) (hp : o.path.length ≤ 100000) (hq : o.dest.length ≤ 100000)
    (po : Option Addr) (co : Nat) (ds : List Int) (hds : ds.length ≤ 100000) (hrd : ∀ w', Has w' L → Rd w' (.slice po ds.length co) 1 ds.length (bc ds)) (hb : Bare (S.doM o ds).1) (hO : Has w (Trc q S :: L)) :
    Calls Tryz.prog 17 #[.pointer (some ⟨q, 0, none⟩), opY o.kind o.fd o.n o.off o.flags P Q (.slice po ds.length co)] w fun e w' => ∃ p c p' c', e = .returned (bareY (S.doM o ds).1.code (S.doM o ds).1.n (S.doM o ds).1.kind (S.doM o ds).1.links p c p' c') ∧ Gdx (S.doM o ds).2 (k + 1) ∧ Has w' (Trc q (S.doM o ds).2 :: L) ∧ Keep w w' := by
  refine (stepDo q mx w L h hk hM o hP hQ ho hp hq po co ds hds hrd (S.doM o ds).1 (S.doM o ds).2 rfl hO).mono ?_
  rintro e w' ⟨p, c, p', c', rfl, hg, h1, h2⟩
  refine ⟨p, c, p', c', ?_, hg, h1.drop.drop, h2⟩
  unfold ansY bareY
  rw [hb.1, hb.2]
  rfl
theorem stepBare0 (h : Gdx S k) (hk : k < 100000) (hM : MxL mx L) (o : Opm) {P Q : ByteArray} (hP : sB o.path = P) (hQ : sB o.dest = Q) (ho : o.off ≤ 9223372036854775807) (hp : o.path.length ≤ 100000) (hq : o.dest.length ≤ 100000)
    (hb : Bare (S.doM o []).1) (hO : Has w (Trc q S :: L)) :
    Calls Tryz.prog 17 #[.pointer (some ⟨q, 0, none⟩), opY o.kind o.fd o.n o.off o.flags P Q (.slice none 0 0)] w fun e w' => ∃ p c p' c', e = .returned (bareY (S.doM o []).1.code (S.doM o []).1.n (S.doM o []).1.kind (S.doM o []).1.links p c p' c') ∧ Gdx (S.doM o []).2 (k + 1) ∧ Has w' (Trc q (S.doM o []).2 :: L) ∧ Keep w w' :=
  stepBare q mx w L h hk hM o hP hQ ho hp hq none 0 [] (by simp) (fun w' h' => Bytes.rd (h'.row_nil _ _)) hb hO
end
abbrev noB : ByteArray := ⟨#[]⟩
section
variable (q : Nat) (mx : Int) (w : World) (L : List HP) (hM : MxL mx L) {p p' nm nm' : Str} {P P' : ByteArray} (hP : sB p = P) (hP' : sB p' = P') (hp : p.length ≤ 100) (hp' : p'.length ≤ 100) {d : List Int} {wr : List Bool} {o : Int}
end
theorem nNodes {S : Tre} {k n : Nat} (q : Nat) (w : World) (L : List HP) (h : Gdx S k) (hk : k < 1000) (hn : (filesP S).length = n) (hfew : n ≤ 1000000) (hO : Has w (Trc q S :: L)) : Calls Tryz.prog 18 #[.pointer (some ⟨q, 0, none⟩)] w fun e w' => ∃ p c, e = .returned (.slice p n c) ∧ Has w' (Trc q S :: L) ∧ Keep w w' := by
  refine (stepNodes q w L h hk (by omega) hO).mono ?_
  rintro e w' ⟨p, c, os, rfl, _, _, _, h1, h2⟩
  exact ⟨p, c, by rw [hn], Has.dropL _ (sns_iff.1 h1).drop, h2⟩
end Go.Proofs.YtfhaedkaedffcaaGreatDoor
/- HOW ARGUMENTS ARE OPENED: from the form's reading to cells. No program in sight. -/
namespace Go.Own
open Go.ChangeShapes Go.WideShapes Go.ChangeAt Go.RowKit
section
variable {H : Type} {enc : TypeId × Value → H} {P : Program} {W : World} {base : Nat} {spare : Nat → Bool} {held : Bool}
end
end Go.Own
/- HOW ARGUMENTS ARE OPENED, further: slices within structs and slices. No program in sight. -/
namespace Go.Own
open Go.ChangeShapes Go.WideShapes Go.ChangeAt Go.RowKit
section
variable {H : Type} {enc : TypeId × Value → H} {P : Program} {W : World} {base : Nat} {spare : Nat → Bool} {held : Bool}
end
end Go.Own
/- OPERATIONS AS ARGUMENTS: a slice of operations, one operation. -/
namespace Go.Proofs.YtfhaedkaedffcaaGreatDoor
open Go.RowKit Go.Own
theorem sB_size (s : Str) : (sB s).size = s.length := by
  show (sB s).data.size = _
  simp [sB]
/-- An operation with the slice value of its data, and the data. -/
structure Oq where
  op : Opm
  dv : Value
  data : List Int
def Oq.cells (y : Oq) : List Value := (opC y.op y.dv).toList
def oqCells (R : List Oq) : List Value := R.flatMap Oq.cells
theorem oqCells_at (R : List Oq) (k : Nat) (hk : k < R.length) (j : Nat) (hj : j < 8) : (oqCells R)[k * 8 + j]? = (R[k].cells)[j]? := by
  induction R generalizing k with
  | nil => simp at hk
  | cons x R ih =>
    cases k with
    | zero =>
      simp only [oqCells, List.flatMap_cons, List.getElem_cons_zero, Nat.zero_mul, Nat.zero_add]
      rw [List.getElem?_append_left (by simp [Oq.cells, opC]; omega)]
    | succ k =>
      simp only [oqCells, List.flatMap_cons, List.getElem_cons_succ]
      have hl : x.cells.length = 8 := rfl
      rw [List.getElem?_append_right (by omega), hl, show (k + 1) * 8 + j - 8 = k * 8 + j by omega]
      exact ih k (by simpa using hk)
/-- Numbers that fit. -/
def OpWf (o : Opm) : Prop := -9223372036854775808 ≤ o.off ∧ o.off ≤ 9223372036854775807 ∧ o.path.length ≤ 9223372036854775807 ∧ o.dest.length ≤ 9223372036854775807
def RdOp (w : World) (y : Oq) : Prop := Rd w y.dv 1 y.data.length (bc y.data) ∧ OpWf y.op
def RdOps (w : World) (v : Value) (R : List Oq) : Prop := Rd w v 8 R.length (oqCells R) ∧ ∀ y ∈ R, RdOp w y
theorem RdOps.form {w : World} {v : Value} {R : List Oq} (h : RdOps w v R) : ∃ p c, v = .slice p R.length c ∧ R.length ≤ c ∧ R.length ≤ 9223372036854775807 := by
  obtain ⟨p, c, h, h1, h2, -⟩ := h.1.form
  exact ⟨p, c, h, h1, h2⟩
theorem RdOps.at_ {w : World} {v : Value} {R : List Oq} (h : RdOps w v R) (k : Nat) (hk : k < R.length) : ∃ g o c, v = .slice (some ⟨g, o, none⟩) R.length c ∧ ∀ j, j < 8 → w.cell? ⟨g, o + (k * 8 + j), none⟩ = (R[k].cells)[j]? := by
  obtain ⟨p, c, rfl, -, -, hr⟩ := h.1.form
  obtain ⟨g, o, rfl, hc⟩ := hr (by omega)
  exact ⟨g, o, c, rfl, fun j hj => (hc (k * 8 + j) (by omega)).trans (oqCells_at R k hk j hj)⟩
theorem RdOp.start {W w : World} {L : List HP} {y : Oq} (h : RdOp W y) (hO : Has w (old W :: L)) : RdOp w y := ⟨rdStart h.1 hO, h.2⟩
theorem RdOps.start {W w : World} {L : List HP} {v : Value} {R : List Oq} (h : RdOps W v R) (hO : Has w (old W :: L)) : RdOps w v R := ⟨rdStart h.1 hO, fun y hy => (h.2 y hy).start hO⟩
section
variable {H : Type} {enc : TypeId × Value → H} {W : World} {base : Nat} {spare : Nat → Bool} {held : Bool}
end
end Go.Proofs.YtfhaedkaedffcaaGreatDoor
/- TreeLong: its operations, as it calls them. -/
namespace Go.Proofs.YtfhaedkaedffcaaGreatDoor
open Go.RowKit Go.Own
section
variable (q : Nat) (mx : Int) (w : World) (L : List HP) (hM : MxL mx L) {S : Tre} {k i n : Nat} {P : ByteArray}
include hM
theorem gMkdir (h : Dp S k i n) (hk : k < 1000) (hn1 : 1 ≤ n) (hn2 : n ≤ 24) (hi : i ≤ 20) (hP : sB (joinP (deepP (i + 1) n)) = P) (hO : Has w (Trc q S :: L)) : Calls Tryz.prog 17 #[.pointer (some ⟨q, 0, none⟩), opY 9 0 0 0 0 P noB nilV] w fun e w' => ∃ c a ca b cb S', e = .returned (bareY c 0 0 0 a ca b cb) ∧ (fitsD i n → c = 0 ∧ Dp S' (k + 1) (i + 1) n) ∧ (¬ fitsD i n → c = 11 ∧ Dp S' (k + 1) i n) ∧ Has w' (Trc q S' :: L) ∧ Keep w w' := by
  have hl : (joinP (deepP (i + 1) n)).length ≤ 100000 := by
    rw [deepP_len]
    have := Nat.mul_le_mul (show i + 1 ≤ 21 by omega) (show n + 1 ≤ 25 by omega)
    omega
  refine (stepBare0 q mx w L h.gd (by omega) hM ⟨9, 0, 0, 0, 0, joinP (deepP (i + 1) n), []⟩ hP rfl (show (0 : Int) ≤ 9223372036854775807 by decide) hl (by simp) (bare_mkdir _ _) hO).mono ?_
  rintro e w' ⟨a, ca, b, cb, rfl, hg, h1, h2⟩
  have e1 : S.doM ⟨9, 0, 0, 0, 0, joinP (deepP (i + 1) n), []⟩ [] = S.mkdir (joinP (deepP (i + 1) n)) := by simp [Tre.doM]
  obtain ⟨S', c, e2, h3, h4⟩ := h.mkdir hn1 hn2
  rw [e1, e2] at hg h1 ⊢
  refine ⟨c, a, ca, b, cb, S', rfl, h3, fun hf => ?_, h1, h2⟩
  obtain ⟨hc, rfl⟩ := h4 hf
  exact ⟨hc, hg, h.last, h.names, h.bot, h.kind⟩
theorem gLink (h : Dp S k i n) (hk : k < 1000) (hn1 : 1 ≤ n) (hn2 : n ≤ 24) (hi1 : 1 ≤ i) (hi : i ≤ 20) (h100 : i * (n + 1) ≤ 100) (hP : sB (joinP (deepP i n)) = P) (hO : Has w (Trc q S :: L)) : Calls Tryz.prog 17 #[.pointer (some ⟨q, 0, none⟩), opY 13 0 0 0 0 P ⟨#[47, 108]⟩ nilV] w fun e w' => ∃ a ca b cb S', e = .returned (bareY 0 0 0 0 a ca b cb) ∧ Gdx S' (k + 1) ∧ (¬ fitsD i n → S'.mkdir (joinP [[108], xS n]) = (ansE 11, S')) ∧ Has w' (Trc q S' :: L) ∧ Keep w w' := by
  refine (stepBare0 q mx w L h.gd (by omega) hM ⟨13, 0, 0, 0, 0, joinP (deepP i n), [47, 108]⟩ hP rfl (show (0 : Int) ≤ 9223372036854775807 by decide) (by dsimp only; rw [deepP_len]; omega) (by simp) (bare_symlink _ _ _) hO).mono ?_
  rintro e w' ⟨a, ca, b, cb, rfl, hg, h1, h2⟩
  have e1 : S.doM ⟨13, 0, 0, 0, 0, joinP (deepP i n), [47, 108]⟩ [] = S.symlink (joinP (deepP i n)) [47, 108] := by simp [Tre.doM]
  obtain ⟨S', e2, h3, h4⟩ := h.link hn1 hn2 hi1 hi h100
  rw [e1, e2] at hg h1 ⊢
  exact ⟨a, ca, b, cb, S', rfl, h3, h4, h1, h2⟩
theorem gLast (h : Gdx S k) (hk : k < 1000) (hn2 : n ≤ 24) (hd : S.mkdir (joinP [[108], xS n]) = (ansE 11, S)) (hP : sB (joinP [[108], xS n]) = P) (hO : Has w (Trc q S :: L)) : Calls Tryz.prog 17 #[.pointer (some ⟨q, 0, none⟩), opY 9 0 0 0 0 P noB nilV] w fun e w' => ∃ a ca b cb, e = .returned (bareY 11 0 0 0 a ca b cb) ∧ Has w' (Trc q S :: L) ∧ Keep w w' := by
  refine (stepBare0 q mx w L h (by omega) hM ⟨9, 0, 0, 0, 0, joinP [[108], xS n], []⟩ hP rfl (show (0 : Int) ≤ 9223372036854775807 by decide) (by simp [joinP, xS]; omega) (by simp) (bare_mkdir _ _) hO).mono ?_
  rintro e w' ⟨a, ca, b, cb, rfl, hg, h1, h2⟩
  have e1 : S.doM ⟨9, 0, 0, 0, 0, joinP [[108], xS n], []⟩ [] = S.mkdir (joinP [[108], xS n]) := by simp [Tre.doM]
  rw [e1, hd] at hg h1 ⊢
  exact ⟨a, ca, b, cb, rfl, h1, h2⟩
end
theorem xS_succ (k : Nat) : sB (47 :: xS k) ++ ⟨#[120]⟩ = sB (47 :: xS (k + 1)) := by
  apply ByteArray.ext
  simp [sB, xS, List.replicate_succ']
theorem deep_snoc {i n : Nat} : sB (joinP (deepP i n)) ++ sB (47 :: xS n) = sB (joinP (deepP (i + 1) n)) := by
  rw [deepP_succ, joinP_snoc]
  apply ByteArray.ext
  simp [sB]
theorem l_snoc {n : Nat} : (⟨#[47, 108]⟩ : ByteArray) ++ sB (47 :: xS n) = sB (joinP [[108], xS n]) := by
  apply ByteArray.ext
  simp [sB, joinP]
end Go.Proofs.YtfhaedkaedffcaaGreatDoor
