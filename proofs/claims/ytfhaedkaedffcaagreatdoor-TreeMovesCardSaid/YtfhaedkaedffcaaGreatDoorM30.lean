/- TEXTS of mine, merged. -/
import Derived.Test.YtfhaedkaedffcaaGreatDoorM28
import Derived.Test.YtfhaedkaedffcaaGreatDoorM29
/- SameTexts, SameAnswer, SameNodes, where they say yes. -/
namespace Go.Proofs.YtfhaedkaedffcaaGreatDoor
open Go.RowKit Go.Own
/-- Lists of files, read. -/
def RdNs (w : World) (v : Value) (os : List Sn) : Prop := Rd w v 5 os.length (snEnc os) ∧ ∀ s ∈ os, Rd w s.dv 1 s.data.length (bc s.data)
theorem rdNs_of {w : World} {L : List HP} {v : Value} {os : List Sn} (h : Has w (Sns v os :: L)) : RdNs w v os := by
  have h1 := sns_iff.1 h
  refine ⟨Has.rd h1, fun s hs => ?_⟩
  obtain ⟨A, B, rfl⟩ := List.append_of_mem hs
  have h2 : Has w (Bytes s.dv s.data :: (row v 44 5 (A ++ s :: B).length (snEnc (A ++ s :: B)) :: ((A.map fun s => Bytes s.dv s.data) ++ (B.map (fun s => Bytes s.dv s.data) ++ L)))) := by
    refine h1.perm ?_
    rw [List.map_append, List.map_cons, List.append_assoc, List.cons_append]
    exact (List.Perm.cons _ List.perm_middle).trans (List.Perm.swap _ _ _)
  exact Bytes.rd h2
theorem snEnc_at (os : List Sn) (k : Nat) (hk : k < os.length) (j : Nat) (hj : j < 5) : (snEnc os)[k * 5 + j]? = (os[k].enc)[j]? := by
  rw [snEnc_flat]
  induction os generalizing k with
  | nil => simp at hk
  | cons x R ih =>
    cases k with
    | zero =>
      simp only [List.flatMap_cons, List.getElem_cons_zero, Nat.zero_mul, Nat.zero_add]
      rw [List.getElem?_append_left (by simp [Sn.enc]; omega)]
    | succ k =>
      simp only [List.flatMap_cons, List.getElem_cons_succ]
      have hl : x.enc.length = 5 := rfl
      rw [List.getElem?_append_right (by omega), hl, show (k + 1) * 5 + j - 5 = k * 5 + j by omega]
      exact ih k (by simpa using hk)
end Go.Proofs.YtfhaedkaedffcaaGreatDoor
/- HOW MANY FILES a tree has, plain. No program in sight. -/
namespace Go.Proofs.YtfhaedkaedffcaaGreatDoor
open Go.RowKit Go.Own
theorem nodup_lenS {α : Type} [DecidableEq α] {l : List α} : ∀ {l' : List α}, l.Nodup → (∀ x ∈ l, x ∈ l') → l.length ≤ l'.length := by
  induction l with
  | nil => intro l' _ _; simp
  | cons x l ih =>
    intro l' hn hs
    rw [List.nodup_cons] at hn
    have hx : x ∈ l' := hs x (by simp)
    have h1 := ih (l' := l'.erase x) hn.2 fun y hy => by
      have hne : y ≠ x := by rintro rfl; exact hn.1 hy
      exact (List.mem_erase_of_ne hne).2 (hs y (by simp [hy]))
    rw [List.length_erase_of_mem hx] at h1
    have : 0 < l'.length := List.length_pos_of_mem hx
    simp only [List.length_cons]
    omega
variable {S : Tre} {rk : Int → Nat} {k : Nat}
theorem Gd.files_nodup (h : Gd S rk k) : ((filesP S).map Prod.fst).Nodup := by
  obtain ⟨x1, hx1⟩ := h.x.has1
  unfold List.Nodup
  rw [List.pairwise_map]
  exact h.seenP_nodup 22 1 x1 [] hx1
def allP (S : Tre) : List (List Str) := [] :: S.nodes.flatMap fun p => p.2.names.map fun e => S.way p.1 ++ [e.1]
theorem Gd.files_sub (h : Gd S rk k) {e : List Str × Int × Nod} (he : e ∈ filesP S) : e.1 ∈ allP S := by
  obtain ⟨h1, h2⟩ := (h.files_mem e).1 he
  by_cases h0 : e.1 = []
  · rw [h0]; exact List.mem_cons_self
  · obtain ⟨qs, p, hq⟩ : ∃ qs p, e.1 = qs ++ [p] := ⟨e.1.dropLast, e.1.getLast h0, (List.dropLast_concat_getLast h0).symm⟩
    rw [hq] at h1 ⊢
    obtain ⟨d, hd, hf⟩ := goN_snoc h1
    obtain ⟨x1, hx1⟩ := h.x.has1
    obtain ⟨y, hy, _⟩ := h.go_there qs 1 x1 hx1 d hd
    rw [at_of hy] at hf
    have hk : y.kind = 2 := Classical.byContradiction fun h2 => by
      rw [((h.nod hy).file h2).1] at hf
      cases hf
    have hw := h.way_go qs.length qs d y rfl hy hk hd
    refine List.mem_cons_of_mem _ (List.mem_flatMap.2 ⟨(d, y), fnd_some hy, List.mem_map.2 ⟨_, fnd_some hf, ?_⟩⟩)
    show S.way d ++ [p] = _
    rw [hw]
theorem Gd.files_few (h : Gd S rk k) : (filesP S).length ≤ 1 + (k + 1) * k := by
  have h1 := nodup_lenS h.files_nodup (l' := allP S) fun x hx => by
    obtain ⟨e, he, rfl⟩ := List.mem_map.1 hx
    exact h.files_sub he
  rw [List.length_map] at h1
  have h2 : (allP S).length ≤ 1 + S.nodes.length * k := by
    unfold allP
    rw [List.length_cons, List.length_flatMap]
    have : ∀ t : List (Int × Nod), (∀ p ∈ t, p.2.names.length ≤ k) → (t.map fun p => (p.2.names.map fun e => S.way p.1 ++ [e.1]).length).sum ≤ t.length * k := by
      intro t
      induction t with
      | nil => intro _; simp
      | cons p t ih =>
        intro hp
        have h3 := ih fun q hq => hp q (List.mem_cons_of_mem _ hq)
        have h4 := hp p List.mem_cons_self
        rw [List.map_cons, List.sum_cons, List.length_map, List.length_cons, Nat.add_mul]
        omega
    have h5 := this S.nodes fun p hp => (h.nod (fnd_mem h.x.keys (show (p.1, p.2) ∈ S.nodes from hp))).size.2.2.1
    omega
  have h3 : S.nodes.length * k ≤ (k + 1) * k := Nat.mul_le_mul_right _ h.many
  omega
theorem Gd.files_few' (h : Gd S rk k) (hk : k < 900) : (filesP S).length ≤ 1000000 := by
  have h1 := h.files_few
  have h2 : (k + 1) * k ≤ 900 * 900 := Nat.mul_le_mul (by omega) (by omega)
  omega
end Go.Proofs.YtfhaedkaedffcaaGreatDoor
/- Steps of the laws that do a list of operations. -/
namespace Go.Proofs.YtfhaedkaedffcaaGreatDoor
open Go.RowKit Go.Own
theorem stepNodes' {S : Tre} {k : Nat} (q : Nat) (w : World) (L : List HP) (h : Gdx S k) (hk : k < 900) (hO : Has w (Trc q S :: L)) :
    Calls Tryz.prog 18 #[.pointer (some ⟨q, 0, none⟩)] w fun e w' => ∃ p c os, e = .returned (.slice p (os.length) c) ∧ (os.map Sn.key).Perm ((seen S.nodes 22 1 []).map keyE) ∧ Srt os ∧ Has w' (Sns (.slice p os.length c) os :: Trc q S :: L) ∧ Keep w w' := by
  have hf : (filesP S).length ≤ 1000000 := by
    obtain ⟨rk, h⟩ := h
    exact h.files_few' hk
  refine (stepNodes q w L h (by omega) hf hO).mono ?_
  rintro e w' ⟨p, c, os, rfl, hl, h1, h2, h3, h4⟩
  exact ⟨p, c, os, by rw [hl], h1, h2, h3, h4⟩
end Go.Proofs.YtfhaedkaedffcaaGreatDoor
/- TreeMoves, plain: directories of one letter, all of them there. No program in sight. -/
namespace Go.Proofs.YtfhaedkaedffcaaGreatDoor
open Go.RowKit Go.Own
def Ltr (top : Nat) (p : Str) : Prop := ∃ c : UInt8, p = [c] ∧ 97 ≤ c.toNat ∧ c.toNat < top
theorem Ltr.ok {top : Nat} {p : Str} (h : Ltr top p) (ht : top ≤ 123) : Pz p ∧ p ≠ [46, 46] ∧ p.length = 1 ∧ GoodN p ∧ (47 : UInt8) ∉ p := by
  obtain ⟨c, rfl, h1, h2⟩ := h
  have h0 : c ≠ 0 := by rintro rfl; exact absurd h1 (by decide)
  have h46 : c ≠ 46 := by rintro rfl; exact absurd h1 (by decide)
  have h47 : c ≠ 47 := by rintro rfl; exact absurd h1 (by decide)
  unfold Pz PartOk GoodN NameOk
  simp [h0, h46, h47, Ne.symm h0, Ne.symm h47]
theorem Ltr.mono {a b : Nat} {p : Str} (h : Ltr a p) (hab : a ≤ b) : Ltr b p := by
  obtain ⟨c, h1, h2, h3⟩ := h
  exact ⟨c, h1, h2, by omega⟩
structure Mv (S : Tre) (rk : Int → Nat) (k N top : Nat) : Prop where
  gd : Gd S rk k
  last : S.last = N
  dirs : ∀ n x, fnd S.nodes n = some x → x.kind = 2 ∧ (n = 1 ∨ x.above ≠ 0)
  all : ∀ n : Int, 1 ≤ n → n ≤ N → ∃ x, fnd S.nodes n = some x
  one : ∀ n x, fnd S.nodes n = some x → ∀ e ∈ x.names, Ltr top e.1
  low : top ≤ 123
section
variable {S : Tre} {rk : Int → Nat} {k N top : Nat} (h : Mv S rk k N top)
include h
theorem Mv.goWay : ∀ (r : Nat) (n : Int) (x : Nod), fnd S.nodes n = some x → rk n ≤ r → S.goN 1 (S.way n) = some n := by
  intro r
  induction r with
  | zero =>
    intro n x hx hr
    by_cases h1 : n = 1
    · subst h1; rw [way1]; rfl
    · have ha := ((h.dirs n x hx).2).resolve_left h1
      obtain ⟨y, nm, hy, hf, hlt, hl, hw⟩ := way_step h.gd.wy hx h1 ha
      omega
  | succ r ih =>
    intro n x hx hr
    by_cases h1 : n = 1
    · subst h1; rw [way1]; rfl
    · have ha := ((h.dirs n x hx).2).resolve_left h1
      obtain ⟨y, nm, hy, hf, hlt, hl, hw⟩ := way_step h.gd.wy hx h1 ha
      rw [hw]
      refine goN_snoc' (ih x.above y hy (by omega)) ?_
      rw [at_of hy]
      have hm : (nm, n) ∈ y.names.filter (fun p => decide (p.2 = n)) := by rw [hf]; exact List.mem_cons_self
      exact fnd_mem (h.gd.nod hy).uniq (List.mem_filter.1 hm).1
theorem Mv.go {n : Int} {x : Nod} (hx : fnd S.nodes n = some x) : S.goN 1 (S.way n) = some n := h.goWay _ n x hx (Nat.le_refl _)
theorem Mv.there {ps : List Str} {n : Int} (hg : S.goN 1 ps = some n) : ∃ x, fnd S.nodes n = some x ∧ S.way n = ps ∧ rk n = ps.length ∧ ∀ p ∈ ps, Ltr top p := by
  obtain ⟨x1, hx1⟩ := h.gd.x.has1
  obtain ⟨y, hy, h1, h2, h3⟩ := h.gd.go_there ps 1 x1 hx1 n hg
  have hk := (h.dirs n y hy).1
  refine ⟨y, hy, h.gd.way_go _ ps n y rfl hy hk hg, ?_, ?_⟩
  · by_cases h0 : ps = []
    · subst h0; cases hg; exact h.gd.x.rk1
    · have := (h3 h0 hk).2
      rw [h.gd.x.rk1] at this
      omega
  · clear h1 h2 h3 hk
    have : ∀ (ps : List Str) (n c : Int), S.goN n ps = some c → ∀ p ∈ ps, Ltr top p := by
      intro ps
      induction ps with
      | nil => intro n c _ p hp; cases hp
      | cons q ps ih =>
        intro n c hc p hp
        rw [Tre.goN] at hc
        cases hf : fnd (S.at_ n).names q with
        | none => rw [hf] at hc; cases hc
        | some d =>
          rw [hf] at hc
          rcases List.mem_cons.1 hp with rfl | hp
          · cases hz : fnd S.nodes n with
            | none =>
              have e0 : S.at_ n = nod0 := by unfold Tre.at_; rw [hz]; rfl
              rw [e0] at hf
              cases hf
            | some z =>
              rw [at_of hz] at hf
              exact h.one n z hz _ (fnd_some hf)
          · exact ih d c hc p hp
    exact this ps 1 n hg
theorem Mv.rkWay {n : Int} {x : Nod} (hx : fnd S.nodes n = some x) : rk n = (S.way n).length := by
  obtain ⟨_, _, _, h1, _⟩ := h.there (h.go hx)
  exact h1
theorem Mv.wayInj {m n : Int} {x y : Nod} (hx : fnd S.nodes m = some x) (hy : fnd S.nodes n = some y) (hw : S.way m = S.way n) : m = n := by
  have h1 := h.go hx
  have h2 := h.go hy
  rw [hw] at h1
  exact Option.some.inj (h1.symm.trans h2)
/-- No path is longer than there are directories. -/
theorem Mv.depth {ps : List Str} {n : Int} (hg : S.goN 1 ps = some n) : ps.length + 1 ≤ N := by
  have H : ∀ j, j ≤ ps.length → ∃ m, S.goN 1 (ps.take j) = some m ∧ rk m = j ∧ 1 ≤ m ∧ m ≤ N := by
    intro j hj
    have h1 : S.goN 1 (ps.take j ++ ps.drop j) = some n := by rw [List.take_append_drop]; exact hg
    rw [goN_app] at h1
    cases hm : S.goN 1 (ps.take j) with
    | none => rw [hm] at h1; cases h1
    | some m =>
      obtain ⟨x, hx, _, h2, _⟩ := h.there hm
      rw [List.length_take] at h2
      have h3 := h.gd.num m x hx
      have h4 := h.last
      exact ⟨m, rfl, by omega, h3.1, by omega⟩
  have hn : ((List.range (ps.length + 1)).map fun j => (S.goN 1 (ps.take j)).getD 0).Nodup := by
    unfold List.Nodup
    rw [List.pairwise_map]
    refine List.Pairwise.imp_of_mem ?_ List.nodup_range
    intro a b ha hb hab e
    rw [List.mem_range] at ha hb
    obtain ⟨m, h1, h2, _⟩ := H a (by omega)
    obtain ⟨m', h3, h4, _⟩ := H b (by omega)
    rw [h1, h3] at e
    have : m = m' := e
    subst this
    omega
  have h5 := nodup_lenS hn (l' := (List.range N).map fun i : Nat => ((i : Nat) : Int) + 1) fun x hx => by
    obtain ⟨j, hj, rfl⟩ := List.mem_map.1 hx
    rw [List.mem_range] at hj
    obtain ⟨m, h1, _, h3, h4⟩ := H j (by omega)
    show (S.goN 1 (ps.take j)).getD 0 ∈ _
    rw [h1]
    exact List.mem_map.2 ⟨(m - 1).toNat, List.mem_range.2 (by omega), by show ((m - 1).toNat : Int) + 1 = m; omega⟩
  simpa using h5
/-- To lie within is to have a longer path. -/
theorem Mv.within_iff {d : Int} {z : Nod} (hd : fnd S.nodes d = some z) : ∀ (r : Nat) (n : Int) (x : Nod), fnd S.nodes n = some x → rk n ≤ r → (S.within n d = true ↔ S.way d <+: S.way n) := by
  intro r
  induction r with
  | zero =>
    intro n x hx hr
    have hn : n = 1 := by
      have h1 := h.rkWay hx
      have h2 : S.way n = [] := List.eq_nil_of_length_eq_zero (by omega)
      have h3 := h.go hx
      rw [h2] at h3
      cases h3
      rfl
    subst hn
    by_cases hd1 : (1 : Int) = d
    · subst hd1
      have : S.within 1 1 = true := by unfold Tre.within Tre.withinF; rw [if_neg (fun e => e.1 rfl)]; decide
      exact ⟨fun _ => List.prefix_rfl, fun _ => this⟩
    · have h0 := (((h.gd.nod hx).root rfl)).2.1
      rw [Gd.within_end hx hd1 h0, way1, List.prefix_nil]
      constructor
      · intro e; cases e
      · intro e
        have h3 := h.go hd
        rw [e] at h3
        cases h3
        exact absurd rfl hd1
  | succ r ih =>
    intro n x hx hr
    by_cases hnd : n = d
    · subst hnd
      have : S.within n n = true := by unfold Tre.within Tre.withinF; rw [if_neg (fun e => e.1 rfl)]; simp
      exact ⟨fun _ => List.prefix_rfl, fun _ => this⟩
    by_cases h1 : n = 1
    · subst h1
      have h0 := (((h.gd.nod hx).root rfl)).2.1
      rw [Gd.within_end hx hnd h0, way1, List.prefix_nil]
      constructor
      · intro e; cases e
      · intro e
        have h3 := h.go hd
        rw [e] at h3
        cases h3
        exact absurd rfl hnd
    have ha := ((h.dirs n x hx).2).resolve_left h1
    obtain ⟨y, nm, hy, hf, hlt, hl, hw⟩ := way_step h.gd.wy hx h1 ha
    rw [h.gd.within_up hx hnd ha, ih x.above y hy (by omega), hw, List.prefix_concat_iff]
    constructor
    · exact .inr
    · rintro (e | e)
      · exact absurd (h.wayInj hd hx (by rw [e, hw])).symm hnd
      · exact e
theorem Mv.within {n d : Int} {x z : Nod} (hx : fnd S.nodes n = some x) (hd : fnd S.nodes d = some z) : S.within n d = true ↔ S.way d <+: S.way n := h.within_iff hd _ n x hx (Nat.le_refl _)
end
theorem joinP_one {ps : List Str} (h : ∀ p ∈ ps, p.length = 1) : (joinP ps).length = 2 * ps.length := by
  induction ps with
  | nil => rfl
  | cons p ps ih =>
    have h1 := h p List.mem_cons_self
    have h2 := ih fun q hq => h q (List.mem_cons_of_mem _ hq)
    simp only [joinP, List.length_append, List.length_cons, h2, h1]
    omega
theorem joinP_inj {a b : List Str} (ha : ∀ p ∈ a, (47 : UInt8) ∉ p) (hb : ∀ p ∈ b, (47 : UInt8) ∉ p) (h : joinP a = joinP b) : a = b := by
  have h1 := spl_joinP a [] (by simp) ha
  have h2 := spl_joinP b [] (by simp) hb
  rw [h, h2] at h1
  exact (List.cons.inj h1).2.symm
theorem pre_iff {a b : List Str} (ha : ∀ p ∈ a, p.length = 1 ∧ (47 : UInt8) ∉ p) (hb : ∀ p ∈ b, p.length = 1 ∧ (47 : UInt8) ∉ p) : a <+: b ↔ ((joinP a).length ≤ (joinP b).length ∧ (joinP b).take (joinP a).length = joinP a) := by
  have la := joinP_one fun p hp => (ha p hp).1
  have lb := joinP_one fun p hp => (hb p hp).1
  constructor
  · rintro ⟨c, rfl⟩
    rw [joinP_app]
    exact ⟨by simp, List.take_left⟩
  · rintro ⟨h1, h2⟩
    have h3 : a = b.take a.length := by
      refine joinP_inj (fun p hp => (ha p hp).2) (fun p hp => (hb p (List.mem_of_mem_take hp)).2) ?_
      have e : joinP b = joinP (b.take a.length) ++ joinP (b.drop a.length) := by rw [← joinP_app, List.take_append_drop]
      have l3 := joinP_one (ps := b.take a.length) fun p hp => (hb p (List.mem_of_mem_take hp)).1
      rw [List.length_take] at l3
      rw [← h2, e, List.take_left' (by omega)]
    rw [h3]
    exact List.take_prefix _ _
theorem pre_next {a b : List Str} (h : a <+: b) (hn : a.length ≠ b.length) : (joinP b)[(joinP a).length]? = some 47 := by
  obtain ⟨c, rfl⟩ := h
  cases c with
  | nil => exact absurd (by simp) hn
  | cons p c =>
    rw [joinP_app, List.getElem?_append_right (Nat.le_refl _), Nat.sub_self]
    rfl
end Go.Proofs.YtfhaedkaedffcaaGreatDoor
/- TreeLoops, plain: links in a row, links in a ring. No program in sight. -/
namespace Go.Proofs.YtfhaedkaedffcaaGreatDoor
open Go.RowKit Go.Own
abbrev endS : Str := [101, 110, 100]
def chA (j : Nat) : Str := [UInt8.ofNat (97 + j)]
def chR (j : Nat) : Str := [114, UInt8.ofNat (97 + j)]
/-- The path of the link i of the row (0: of the end). -/
def pthL : Nat → Str
  | 0 => 47 :: endS
  | i + 1 => 47 :: chA i
def nmL : Nat → Str
  | 0 => endS
  | i + 1 => chA i
theorem pthL_nm (i : Nat) : pthL i = 47 :: nmL i := by cases i <;> rfl
theorem good_nmL : ∀ i : Fin 13, GoodN (nmL i.val) := by
  unfold GoodN NameOk
  decide +kernel
theorem good_chA : ∀ i : Fin 16, GoodN (chA i.val) := by
  unfold GoodN NameOk
  decide +kernel
theorem str_bytes (s : Str) : strOf (bytesOf s) = s := by
  unfold strOf bytesOf
  rw [List.map_map]
  conv => rhs; rw [← List.map_id s]
  refine List.map_congr_left fun b _ => ?_
  show UInt8.ofNat ((b.toNat : Int).toNat) = id b
  simp
theorem tgt_row : ∀ i : Fin 13, targetM (pthL i.val) = ([nmL i.val], true, 0) := by decide +kernel
/-- The names of the row, and of the ring. -/
def rowN (many : Nat) : List (Str × Int) := (endS, 2) :: (List.range many).map fun j => (chA j, (3 + j : Int))
def ringN (many i : Nat) : List (Str × Int) := rowN many ++ (List.range i).map fun j => (chR j, (3 + many + j : Int))
theorem rowN_snoc (m : Nat) : rowN (m + 1) = rowN m ++ [(chA m, (3 + m : Int))] := by
  unfold rowN
  rw [List.range_succ, List.map_append]
  rfl
theorem ringN_zero (m : Nat) : ringN m 0 = rowN m := by simp [ringN]
theorem chA_new : ∀ (m : Fin 13), chA m.val ∉ (rowN m.val).map Prod.fst := by decide +kernel
/-- The tree of a row of links, and of some of a ring. -/
structure Lp (S : Tre) (k many i ring : Nat) : Prop where
  gd : Gdx S k
  last : S.last = 2 + many + i
  names : (S.at_ 1).names = ringN many i
  two : (S.at_ 2).kind = 2
  row : ∀ j, j < many → (S.at_ (3 + j)).kind = 3 ∧ (S.at_ (3 + j)).data = bytesOf (pthL j)
  ring : ∀ j, j < i → (S.at_ (3 + many + j)).kind = 3 ∧ (S.at_ (3 + many + j)).data = bytesOf (chR ((j + 1) % ring))
theorem make_newF (S : Tre) (s : Spt) (c : Int) (hc : c ≠ 2) (ds : Str) (h : s.dir ≠ S.last + 1) : (S.make s c ds).at_ (S.last + 1) = ⟨c, if c = 3 then bytesOf ds else [], [], [], 0, 1, 0⟩ := by
  have e : fnd (S.make s c ds).nodes (S.last + 1) = some ⟨c, if c = 3 then bytesOf ds else [], [], [], 0, 1, 0⟩ := by
    unfold Tre.make Tre.add Tre.setN
    refine fnd_putA.trans ((if_pos rfl).trans ?_)
    have : (Tre.at_ ⟨putA S.nodes (S.last + 1) ⟨c, if c = 3 then bytesOf ds else [], [], [], 0, 0, 0⟩, S.last + 1, S.tab⟩ (S.last + 1)) = ⟨c, if c = 3 then bytesOf ds else [], [], [], 0, 0, 0⟩ := by
      unfold Tre.at_
      dsimp only
      rw [fnd_putA, if_pos rfl]
      rfl
    have h2 : (Tre.at_ { ({ S with last := S.last + 1, nodes := putA S.nodes (S.last + 1) ⟨c, if c = 3 then bytesOf ds else [], [], [], 0, 0, 0⟩ } : Tre) with nodes := putA S.nodes (S.last + 1) ⟨c, if c = 3 then bytesOf ds else [], [], [], 0, 0, 0⟩ } (S.last + 1)) = ⟨c, if c = 3 then bytesOf ds else [], [], [], 0, 0, 0⟩ := this
    show some (Tre.nodAdd (Tre.at_ _ (S.last + 1)) s.dir) = _
    rw [this]
    unfold Tre.nodAdd
    rw [if_neg hc]
    rfl
  exact at_of e
theorem at_other {S S' : Tre} {n : Int} (h : fnd S'.nodes n = fnd S.nodes n) : S'.at_ n = S.at_ n := by unfold Tre.at_; rw [h]
theorem Gdx.symlink_one {S : Tre} {k : Nat} (h : Gdx S k) {nm tg : Str} (hn : GoodN nm) (ht : (targetM tg).2.2 = 0) (hno : nm ∉ (S.at_ 1).names.map Prod.fst) : S.symlink tg (47 :: nm) = (ansE 0, S.make ⟨0, 1, nm⟩ 3 tg) := by
  obtain ⟨rk, h⟩ := h
  have hf := h.fresh_one hn
  rw [fnd_none.2 hno] at hf
  simp only [Option.getD_none, ne_eq, not_true_eq_false, if_false] at hf
  unfold Tre.symlink
  rw [hf, if_neg (by rw [ht]; simp), if_neg (by simp)]
theorem make_root {S : Tre} {k : Nat} (h : Gdx S k) {nm : Str} (c : Int) (ds : Str) (hno : nm ∉ (S.at_ 1).names.map Prod.fst) : ((S.make ⟨0, 1, nm⟩ c ds).at_ 1).names = (S.at_ 1).names ++ [(nm, S.last + 1)] ∧ (∀ n, n ≠ 1 → n ≠ S.last + 1 → (S.make ⟨0, 1, nm⟩ c ds).at_ n = S.at_ n) ∧ (S.make ⟨0, 1, nm⟩ c ds).last = S.last + 1 := by
  obtain ⟨rk, h⟩ := h
  have hl := h.last1
  refine ⟨?_, fun n h1 h2 => at_other (make_other S ⟨0, 1, nm⟩ c ds n h1 h2), rfl⟩
  rw [at_of (make_dir S ⟨0, 1, nm⟩ c ds (by dsimp only; omega))]
  show putA _ _ _ = _
  rw [putA_new _ hno]
theorem Lp.link {S : Tre} {k m : Nat} (h : Lp S k m 0 1) (hm : m < 12) : S.symlink (pthL m) (47 :: chA m) = (ansE 0, (S.symlink (pthL m) (47 :: chA m)).2) ∧ Lp (S.symlink (pthL m) (47 :: chA m)).2 (k + 1) (m + 1) 0 1 := by
  have hno : chA m ∉ (S.at_ 1).names.map Prod.fst := by
    rw [h.names, ringN_zero]
    exact chA_new ⟨m, by omega⟩
  have ht := tgt_row ⟨m, by omega⟩
  have e : S.symlink (pthL m) (47 :: chA m) = (ansE 0, S.make ⟨0, 1, chA m⟩ 3 (pthL m)) := h.gd.symlink_one (good_chA ⟨m, by omega⟩) (tg := pthL m) (by dsimp only at ht; rw [ht]) hno
  have hg := h.gd.doM ⟨13, 0, 0, 0, 0, pthL m, 47 :: chA m⟩ [] (by rw [pthL_nm]; have := (good_nmL ⟨m, by omega⟩).1.2.1; dsimp only at this ⊢; simp only [List.length_cons]; omega)
  have e1 : S.doM ⟨13, 0, 0, 0, 0, pthL m, 47 :: chA m⟩ [] = S.symlink (pthL m) (47 :: chA m) := rfl
  rw [e1] at hg
  have hl := h.last
  obtain ⟨n1, n2, n3⟩ := make_root h.gd 3 (pthL m) hno
  have n4 := make_newF S ⟨0, 1, chA m⟩ 3 (by decide) (pthL m) (by dsimp only; omega)
  rw [e] at hg ⊢
  dsimp only at hg ⊢
  refine ⟨rfl, hg, ?_, ?_, ?_, ?_, fun j hj => absurd hj (Nat.not_lt_zero _)⟩
  · rw [n3, hl]; push_cast; omega
  · rw [n1, h.names, ringN_zero, ringN_zero, rowN_snoc, hl]
    congr 3
    push_cast; omega
  · rw [n2 2 (by decide) (by omega)]; exact h.two
  · intro j hj
    by_cases hjm : j = m
    · subst hjm
      have e5 : (3 + (j : Int)) = S.last + 1 := by rw [hl]; push_cast; omega
      rw [e5, n4]
      exact ⟨rfl, rfl⟩
    · rw [n2 (3 + j) (by omega) (by omega)]
      exact h.row j (by omega)
section
variable {S : Tre} {k m i ring : Nat} (h : Lp S k m i ring) (hm : m < 13) (hi : i < 5)
include h hm hi
omit hm hi in
theorem Lp.root : (S.at_ 1).kind = 2 := by
  obtain ⟨rk, hg⟩ := h.gd
  exact hg.root2
end
section
variable {S : Tre} {k m i ring : Nat} (h : Lp S k m i ring) (hm : m < 13) (hi : i < 5)
include h hm hi
end
section
variable {S : Tre} {k m i ring : Nat} (h : Lp S k m i ring) (hm : m < 13) (hi : i < 5)
include h hm hi
end
end Go.Proofs.YtfhaedkaedffcaaGreatDoor
