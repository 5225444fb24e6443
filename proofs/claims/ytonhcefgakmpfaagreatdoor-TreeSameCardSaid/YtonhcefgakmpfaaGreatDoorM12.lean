/- TEXTS of mine, merged. -/
import Derived.Test.YtonhcefgakmpfaaGreatDoorM10
import Derived.Test.YtonhcefgakmpfaaGreatDoorM11
import Derived.Test.YtonhcefgakmpfaaGreatDoorM9
/- WHAT EVERY TREE KEEPS, plain: entries, counts, ranks; how each step keeps it. No program in sight. -/
namespace Go.Proofs.YtonhcefgakmpfaaGreatDoor
open Go.RowKit Go.Own
/-- How many of a node's entries are of n. -/
def cntN (x : Nod) (n : Int) : Nat := (x.names.filter fun e => decide (e.2 = n)).length
/-- How many entries there are of n. -/
def cnt (t : List (Int × Nod)) (n : Int) : Nat := (t.map fun p => cntN p.2 n).sum
def NameOk (s : Str) : Prop := s ≠ [] ∧ s.length ≤ 24 ∧ (47 : UInt8) ∉ s ∧ s ≠ [46, 46]
theorem fnd_cons {κ α : Type} [DecidableEq κ] (p : κ × α) (t : List (κ × α)) (x : κ) : fnd (p :: t) x = if p.1 = x then some p.2 else fnd t x := by
  unfold fnd
  rw [List.find?_cons]
  by_cases h : p.1 = x
  · simp [h]
  · simp [h]
theorem cnt_map_other (t : List (Int × Nod)) (d : Int) (y : Nod) (n : Int) (h : d ∉ t.map Prod.fst) : (t.map fun p => if p.1 = d then (d, y) else p) = t := by
  have : ∀ p ∈ t, (fun p : Int × Nod => if p.1 = d then (d, y) else p) p = id p := by
    intro p hp
    have : ¬ p.1 = d := by rintro rfl; exact h (List.mem_map_of_mem hp)
    simp [this]
  rw [List.map_congr_left this, List.map_id]
theorem cnt_put {t : List (Int × Nod)} (hk : (t.map Prod.fst).Nodup) {d : Int} {x : Nod} (h : fnd t d = some x) (y : Nod) (n : Int) : cnt (putA t d y) n + cntN x n = cnt t n + cntN y n := by
  have hm : d ∈ t.map Prod.fst := List.mem_map.2 ⟨_, fnd_some h, rfl⟩
  unfold putA
  rw [if_pos hm]
  unfold cnt
  clear hm
  induction t with
  | nil => cases h
  | cons p t ih =>
    rw [List.map_cons, List.nodup_cons] at hk
    rw [fnd_cons] at h
    by_cases hp : p.1 = d
    · rw [if_pos hp] at h
      cases h
      rw [List.map_cons, cnt_map_other t d y n (by rw [← hp]; exact hk.1), if_pos hp]
      simp only [List.map_cons, List.sum_cons]
      omega
    · rw [if_neg hp] at h
      have := ih hk.2 h
      simp only [List.map_cons, List.sum_cons, if_neg hp] at this ⊢
      omega
theorem cnt_new {t : List (Int × Nod)} {d : Int} (h : fnd t d = none) (y : Nod) (n : Int) : cnt (putA t d y) n = cnt t n + cntN y n := by
  rw [putA_new _ (fnd_none.1 h)]
  unfold cnt
  simp
theorem cnt_del {t : List (Int × Nod)} (hk : (t.map Prod.fst).Nodup) {d : Int} {x : Nod} (h : fnd t d = some x) (n : Int) : cnt (delA t d) n + cntN x n = cnt t n := by
  unfold cnt delA
  induction t with
  | nil => cases h
  | cons p t ih =>
    rw [List.map_cons, List.nodup_cons] at hk
    rw [fnd_cons] at h
    rw [List.filter_cons]
    by_cases hp : p.1 = d
    · rw [if_pos hp] at h
      cases h
      rw [if_neg (by simp [hp])]
      have : t.filter (fun q => decide (q.1 ≠ d)) = t := by
        rw [List.filter_eq_self]
        intro q hq
        have : q.1 ≠ d := by rintro e; exact hk.1 (by rw [hp, ← e]; exact List.mem_map_of_mem hq)
        simpa using this
      rw [this, List.map_cons, List.sum_cons]
      omega
    · rw [if_neg hp] at h
      have := ih hk.2 h
      rw [if_pos (by simp [hp])]
      simp only [List.map_cons, List.sum_cons]
      omega
theorem cntN_le {t : List (Int × Nod)} {d : Int} {x : Nod} (h : fnd t d = some x) (n : Int) : cntN x n ≤ cnt t n := by
  unfold cnt
  have := fnd_some h
  clear h
  induction t with
  | nil => simp at this
  | cons p t ih =>
    rw [List.map_cons, List.sum_cons]
    rcases List.mem_cons.1 this with rfl | h
    · simp
    · have := ih h; omega
theorem cntN_pos {x : Nod} {nm : Str} {n : Int} (h : (nm, n) ∈ x.names) : 1 ≤ cntN x n := by
  unfold cntN
  have : (nm, n) ∈ x.names.filter fun e => decide (e.2 = n) := List.mem_filter.2 ⟨h, by simp⟩
  exact List.length_pos_of_mem this
theorem cntN_add {x : Nod} {nm : Str} (hf : fnd x.names nm = none) (z n : Int) : cntN (Tre.dirAdd x nm z) n = cntN x n + if z = n then 1 else 0 := by
  show ((putA x.names nm z).filter _).length = _
  rw [putA_new _ (fnd_none.1 hf), List.filter_append, List.length_append]
  unfold cntN
  congr 1
  by_cases h : z = n <;> simp [h]
theorem cntN_take {x : Nod} (hu : (x.names.map Prod.fst).Nodup) {nm : Str} {z : Int} (hf : fnd x.names nm = some z) (n : Int) : cntN (Tre.dirTake x nm) n + (if z = n then 1 else 0) = cntN x n := by
  show ((delA x.names nm).filter _).length + _ = _
  unfold cntN
  generalize x.names = t at *
  unfold delA
  induction t with
  | nil => cases hf
  | cons p t ih =>
    rw [List.map_cons, List.nodup_cons] at hu
    rw [fnd_cons] at hf
    rw [List.filter_cons]
    by_cases hp : p.1 = nm
    · rw [if_pos hp] at hf
      cases hf
      rw [if_neg (by simp [hp])]
      have : t.filter (fun q => decide (q.1 ≠ nm)) = t := by
        rw [List.filter_eq_self]
        intro q hq
        have : q.1 ≠ nm := by rintro e; exact hu.1 (by rw [hp, ← e]; exact List.mem_map_of_mem hq)
        simpa using this
      rw [this, List.filter_cons]
      by_cases h : p.2 = n <;> simp [h]
    · rw [if_neg hp] at hf
      have := ih hu.2 hf
      rw [if_pos (by simp [hp]), List.filter_cons, List.filter_cons]
      by_cases h : p.2 = n <;> simp [h] at this ⊢ <;> omega
theorem cnt_none {t : List (Int × Nod)} {n : Int} (h : ∀ p ∈ t, ∀ e ∈ p.2.names, e.2 ≠ n) : cnt t n = 0 := by
  unfold cnt
  induction t with
  | nil => rfl
  | cons p t ih =>
    rw [List.map_cons, List.sum_cons, ih fun q hq => h q (List.mem_cons_of_mem _ hq)]
    have : p.2.names.filter (fun e => decide (e.2 = n)) = [] := by
      rw [List.filter_eq_nil_iff]
      intro e he
      simpa using h p List.mem_cons_self e he
    unfold cntN
    rw [this]
    rfl
theorem cnt_has {t : List (Int × Nod)} {d : Int} {x : Nod} (h : fnd t d = some x) {nm : Str} {n : Int} (hm : (nm, n) ∈ x.names) : 1 ≤ cnt t n := Nat.le_trans (cntN_pos hm) (cntN_le h n)
/-- What a node keeps; z: one whose names are under way (0: none). -/
structure Ndo (t : List (Int × Nod)) (rk : Int → Nat) (k : Nat) (z n : Int) (x : Nod) : Prop where
  kind : x.kind = 1 ∨ x.kind = 2 ∨ x.kind = 3
  file : x.kind ≠ 2 → x.names = [] ∧ x.above = 0 ∧ rk n = 20
  ents : ∀ e ∈ x.names, NameOk e.1 ∧ rk n < 20 ∧ ∃ y, fnd t e.2 = some y ∧ (y.kind = 2 → y.above = n ∧ rk e.2 = rk n + 1)
  uniq : (x.names.map Prod.fst).Nodup
  size : x.data.length ≤ 100000 ∧ x.wr.length ≤ 100000 ∧ x.names.length ≤ k ∧ 0 ≤ x.most ∧ x.most ≤ k ∧ 0 ≤ x.links ∧ x.links ≤ k + 1
  root : n = 1 → x.kind = 2 ∧ x.above = 0 ∧ x.links = 1 ∧ cnt t n = 0
  links : n ≠ z → n ≠ 1 → x.links = (cnt t n : Int)
  above : n ≠ z → x.above ≠ 0 → x.kind = 2 ∧ n ≠ 1 ∧ x.links = 1 ∧ ∃ y nm, fnd t x.above = some y ∧ (nm, n) ∈ y.names
  loose : n ≠ z → x.kind = 2 → n ≠ 1 → x.above = 0 → x.names = [] ∧ x.links = 0
structure Gx (t : List (Int × Nod)) (rk : Int → Nat) (k : Nat) (z : Int) : Prop where
  keys : (t.map Prod.fst).Nodup
  has1 : ∃ x, fnd t 1 = some x
  rk1 : rk 1 = 0
  rk20 : ∀ n, rk n ≤ 20
  nod : ∀ n x, fnd t n = some x → Ndo t rk k z n x
  zne : z ≠ 1
  zero : fnd t 0 = none
theorem putA_nodup {κ α : Type} [DecidableEq κ] {t : List (κ × α)} (hk : (t.map Prod.fst).Nodup) (x : κ) (a : α) : ((putA t x a).map Prod.fst).Nodup := by
  unfold putA
  by_cases h : x ∈ t.map Prod.fst
  · rw [if_pos h, putA_keys t x a h]; exact hk
  · rw [if_neg h, List.map_append, List.nodup_append]
    exact ⟨hk, by simp, by rintro y hy z hz rfl; simp at hz; subst hz; exact h hy⟩
theorem delA_nodup {κ α : Type} [DecidableEq κ] {t : List (κ × α)} (hk : (t.map Prod.fst).Nodup) (x : κ) : ((delA t x).map Prod.fst).Nodup := by
  unfold delA
  exact hk.sublist (List.Sublist.map _ List.filter_sublist)
variable {t : List (Int × Nod)} {rk : Int → Nat} {k : Nat} {z : Int}
theorem Gx.mono (h : Gx t rk k z) {k' : Nat} (hk : k ≤ k') : Gx t rk k' z where
  keys := h.keys
  has1 := h.has1
  rk1 := h.rk1
  rk20 := h.rk20
  zne := h.zne
  zero := h.zero
  nod n x hx := by
    have H := h.nod n x hx
    have hs := H.size
    exact ⟨H.kind, H.file, H.ents, H.uniq, ⟨hs.1, hs.2.1, by omega, hs.2.2.2.1, by omega, by omega, by omega⟩, H.root, H.links, H.above, H.loose⟩
/-- One is taken out of what must fit. -/
theorem Gx.opened (h : Gx t rk k 0) (hz : z ≠ 1) : Gx t rk k z where
  keys := h.keys
  has1 := h.has1
  rk1 := h.rk1
  rk20 := h.rk20
  zne := hz
  zero := h.zero
  nod n x hx := by
    have H := h.nod n x hx
    have hn : n ≠ 0 := by rintro rfl; rw [h.zero] at hx; cases hx
    exact ⟨H.kind, H.file, H.ents, H.uniq, H.size, H.root, fun _ => H.links hn, fun _ => H.above hn, fun _ => H.loose hn⟩
/-- .. and fits again. -/
theorem Gx.closed (h : Gx t rk k z) {y : Nod} (hy : fnd t z = some y) (h1 : y.links = (cnt t z : Int))
    (h2 : y.above ≠ 0 → y.kind = 2 ∧ y.links = 1 ∧ ∃ d nm, fnd t y.above = some d ∧ (nm, z) ∈ d.names) (h3 : y.kind = 2 → y.above = 0 → y.names = [] ∧ y.links = 0) : Gx t rk k 0 where
  keys := h.keys
  has1 := h.has1
  rk1 := h.rk1
  rk20 := h.rk20
  zne := by decide
  zero := h.zero
  nod n x hx := by
    have H := h.nod n x hx
    by_cases hn : n = z
    · subst hn
      rw [hy] at hx
      cases hx
      exact ⟨H.kind, H.file, H.ents, H.uniq, H.size, H.root, fun _ _ => h1, fun _ ha => ⟨(h2 ha).1, h.zne, (h2 ha).2⟩, fun _ hk _ ha => h3 hk ha⟩
    · exact ⟨H.kind, H.file, H.ents, H.uniq, H.size, H.root, fun _ => H.links hn, fun _ => H.above hn, fun _ => H.loose hn⟩
/-- The one that is out is changed, its entries not. -/
theorem Gx.fix (h : Gx t rk k z) {y : Nod} (hz : fnd t z = some y) (y' : Nod) (hk : y'.kind = y.kind) (hn : y'.names = y.names) (hm : y'.most = y.most)
    (hs : y'.data.length ≤ 100000 ∧ y'.wr.length ≤ 100000 ∧ 0 ≤ y'.links ∧ y'.links ≤ k + 1) (ha : y.kind ≠ 2 → y'.above = 0) (hc : y.kind = 2 → cnt t z = 0) : Gx (putA t z y') rk k z ∧ ∀ n, cnt (putA t z y') n = cnt t n := by
  have hcn : ∀ n, cnt (putA t z y') n = cnt t n := by
    intro n
    have h1 := cnt_put h.keys hz y' n
    have h2 : cntN y' n = cntN y n := by unfold cntN; rw [hn]
    omega
  have hf : ∀ n, fnd (putA t z y') n = if n = z then some y' else fnd t n := fun n => fnd_putA
  refine ⟨⟨putA_nodup h.keys _ _, ?_, h.rk1, h.rk20, ?_, h.zne, ?_⟩, hcn⟩
  · obtain ⟨x, hx⟩ := h.has1
    exact ⟨x, by rw [hf, if_neg (fun e => h.zne e.symm), hx]⟩
  · intro n x hx
    rw [hf] at hx
    have hents : ∀ e : Str × Int, ∀ m, (∃ y, fnd t e.2 = some y ∧ (y.kind = 2 → y.above = m ∧ rk e.2 = rk m + 1)) → (∀ x, fnd t m = some x → e ∈ x.names) → (∃ x, fnd t m = some x) → ∃ y, fnd (putA t z y') e.2 = some y ∧ (y.kind = 2 → y.above = m ∧ rk e.2 = rk m + 1) := by
      rintro e m ⟨u, hu, hu2⟩ hin ⟨xm, hxm⟩
      rw [hf]
      by_cases he : e.2 = z
      · rw [if_pos he]
        refine ⟨y', rfl, fun h2 => ?_⟩
        rw [hk] at h2
        have h3 := hc h2
        have h4 : 1 ≤ cnt t z := cnt_has hxm (nm := e.1) (by rw [← he]; exact hin xm hxm)
        omega
      · rw [if_neg he]
        exact ⟨u, hu, hu2⟩
    by_cases hnz : n = z
    · rw [if_pos hnz] at hx
      cases hx
      subst hnz
      have H := h.nod _ _ hz
      have hs2 := H.size
      refine ⟨by rw [hk]; exact H.kind, ?_, ?_, by rw [hn]; exact H.uniq, ⟨hs.1, hs.2.1, by rw [hn]; exact hs2.2.2.1, by rw [hm]; exact hs2.2.2.2.1, by rw [hm]; exact hs2.2.2.2.2.1, hs.2.2.1, hs.2.2.2⟩, fun e => absurd e h.zne, fun e => absurd rfl e, fun e => absurd rfl e, fun e => absurd rfl e⟩
      · intro h2
        rw [hk] at h2
        have := H.file h2
        exact ⟨by rw [hn]; exact this.1, ha h2, this.2.2⟩
      · intro e he
        rw [hn] at he
        obtain ⟨h1, h2, h3⟩ := H.ents e he
        exact ⟨h1, h2, hents e _ h3 (fun x hx => by rw [hz] at hx; cases hx; exact he) ⟨_, hz⟩⟩
    · rw [if_neg hnz] at hx
      have H := h.nod _ _ hx
      refine ⟨H.kind, H.file, ?_, H.uniq, H.size, ?_, ?_, ?_, H.loose⟩
      · intro e he
        obtain ⟨h1, h2, h3⟩ := H.ents e he
        exact ⟨h1, h2, hents e _ h3 (fun x' hx' => by rw [hx] at hx'; cases hx'; exact he) ⟨_, hx⟩⟩
      · intro e
        have := H.root e
        rw [hcn]
        exact this
      · intro e1 e2
        rw [hcn]
        exact H.links e1 e2
      · intro e1 e2
        obtain ⟨h1, h2, h3, u, nm, hu, hm2⟩ := H.above e1 e2
        refine ⟨h1, h2, h3, ?_⟩
        by_cases he : x.above = z
        · refine ⟨y', nm, by rw [hf, if_pos he], ?_⟩
          rw [he, hz] at hu
          cases hu
          rw [hn]
          exact hm2
        · exact ⟨u, nm, by rw [hf, if_neg he]; exact hu, hm2⟩
  · rw [hf, if_neg ?_, h.zero]
    rintro rfl
    rw [h.zero] at hz
    cases hz
/-- An entry of the one that is out is taken away. -/
theorem Gx.dele (h : Gx t rk k z) {d : Int} {x : Nod} (hd : fnd t d = some x) {nm : Str} (hf0 : fnd x.names nm = some z) (hdz : d ≠ z) :
    Gx (putA t d (Tre.dirTake x nm)) rk k z ∧ ∀ n, cnt (putA t d (Tre.dirTake x nm)) n + (if z = n then 1 else 0) = cnt t n := by
  have HD := h.nod _ _ hd
  have hcn : ∀ n, cnt (putA t d (Tre.dirTake x nm)) n + (if z = n then 1 else 0) = cnt t n := by
    intro n
    have h1 := cnt_put h.keys hd (Tre.dirTake x nm) n
    have h2 := cntN_take HD.uniq hf0 n
    omega
  have hf : ∀ n, fnd (putA t d (Tre.dirTake x nm)) n = if n = d then some (Tre.dirTake x nm) else fnd t n := fun n => fnd_putA
  have hsub : ∀ e ∈ (Tre.dirTake x nm).names, e ∈ x.names := fun e he => (List.mem_filter.1 he).1
  have hents : ∀ (c m : Int), (∃ y, fnd t c = some y ∧ (y.kind = 2 → y.above = m ∧ rk c = rk m + 1)) → ∃ y, fnd (putA t d (Tre.dirTake x nm)) c = some y ∧ (y.kind = 2 → y.above = m ∧ rk c = rk m + 1) := by
    rintro c m ⟨u, hu, hu2⟩
    rw [hf]
    by_cases hc : c = d
    · rw [if_pos hc]
      rw [hc, hd] at hu
      cases hu
      exact ⟨_, rfl, hu2⟩
    · rw [if_neg hc]
      exact ⟨u, hu, hu2⟩
  have habove : ∀ (m : Int) (y : Nod), m ≠ z → (∃ u nm', fnd t y.above = some u ∧ (nm', m) ∈ u.names) → ∃ u nm', fnd (putA t d (Tre.dirTake x nm)) y.above = some u ∧ (nm', m) ∈ u.names := by
    rintro m y hmz ⟨u, nm', hu, hm⟩
    by_cases he : y.above = d
    · refine ⟨_, nm', by rw [hf, if_pos he], ?_⟩
      rw [he, hd] at hu
      cases hu
      refine List.mem_filter.2 ⟨hm, ?_⟩
      have : nm' ≠ nm := by
        rintro rfl
        rw [fnd_mem HD.uniq hm] at hf0
        cases hf0
        exact hmz rfl
      simpa using this
    · exact ⟨u, nm', by rw [hf, if_neg he]; exact hu, hm⟩
  refine ⟨⟨putA_nodup h.keys _ _, ?_, h.rk1, h.rk20, ?_, h.zne, ?_⟩, hcn⟩
  · rw [hf]
    split
    · exact ⟨_, rfl⟩
    · exact h.has1
  · intro n y hy
    rw [hf] at hy
    by_cases hnd : n = d
    · rw [if_pos hnd] at hy
      cases hy
      subst hnd
      have hs := HD.size
      refine ⟨HD.kind, ?_, ?_, ?_, ⟨hs.1, hs.2.1, Nat.le_trans (delA_le _ _) hs.2.2.1, hs.2.2.2⟩, ?_, ?_, ?_, ?_⟩
      · intro h2
        have := HD.file h2
        exact ⟨by show delA x.names nm = []; rw [this.1]; rfl, this.2⟩
      · intro e he
        obtain ⟨h1, h2, h3⟩ := HD.ents e (hsub e he)
        exact ⟨h1, h2, hents _ _ h3⟩
      · exact delA_nodup HD.uniq nm
      · intro e
        have := HD.root e
        have hc := hcn n
        exact ⟨this.1, this.2.1, this.2.2.1, by omega⟩
      · intro e1 e2
        have hc := hcn n
        rw [if_neg (fun e => e1 e.symm)] at hc
        have := HD.links e1 e2
        show x.links = _
        rw [this]
        omega
      · intro e1 e2
        obtain ⟨h1, h2, h3, h4⟩ := HD.above e1 e2
        exact ⟨h1, h2, h3, habove n x e1 h4⟩
      · intro e1 e2 e3 e4
        have := HD.loose e1 e2 e3 e4
        exact ⟨by show delA x.names nm = []; rw [this.1]; rfl, this.2⟩
    · rw [if_neg hnd] at hy
      have H := h.nod _ _ hy
      refine ⟨H.kind, H.file, ?_, H.uniq, H.size, ?_, ?_, ?_, H.loose⟩
      · intro e he
        obtain ⟨h1, h2, h3⟩ := H.ents e he
        exact ⟨h1, h2, hents _ _ h3⟩
      · intro e
        have := H.root e
        have hc := hcn n
        exact ⟨this.1, this.2.1, this.2.2.1, by omega⟩
      · intro e1 e2
        have hc := hcn n
        rw [if_neg (fun e => e1 e.symm)] at hc
        rw [H.links e1 e2]
        omega
      · intro e1 e2
        obtain ⟨h1, h2, h3, h4⟩ := H.above e1 e2
        exact ⟨h1, h2, h3, habove n y e1 h4⟩
  · rw [hf, if_neg ?_, h.zero]
    rintro rfl
    rw [h.zero] at hd
    cases hd
/-- An entry of the one that is out is made. -/
theorem Gx.putE (h : Gx t rk k z) {d : Int} {x : Nod} (hd : fnd t d = some x) (hk2 : x.kind = 2) (hdz : d ≠ z) (hat : d = 1 ∨ x.above ≠ 0) {nm : Str} (hn : NameOk nm) (hf0 : fnd x.names nm = none) (hr : rk d < 20)
    {y : Nod} (hz : fnd t z = some y) (hy : y.kind = 2 → y.above = d ∧ rk z = rk d + 1) :
    Gx (putA t d (Tre.dirAdd x nm z)) rk (k + 1) z ∧ ∀ n, cnt (putA t d (Tre.dirAdd x nm z)) n = cnt t n + (if z = n then 1 else 0) := by
  have HD := h.nod _ _ hd
  have hcn : ∀ n, cnt (putA t d (Tre.dirAdd x nm z)) n = cnt t n + (if z = n then 1 else 0) := by
    intro n
    have h1 := cnt_put h.keys hd (Tre.dirAdd x nm z) n
    have h2 := cntN_add hf0 z n
    omega
  have hf : ∀ n, fnd (putA t d (Tre.dirAdd x nm z)) n = if n = d then some (Tre.dirAdd x nm z) else fnd t n := fun n => fnd_putA
  have hnames : (Tre.dirAdd x nm z).names = x.names ++ [(nm, z)] := putA_new _ (fnd_none.1 hf0)
  have hents : ∀ (c m : Int), (∃ y, fnd t c = some y ∧ (y.kind = 2 → y.above = m ∧ rk c = rk m + 1)) → ∃ y, fnd (putA t d (Tre.dirAdd x nm z)) c = some y ∧ (y.kind = 2 → y.above = m ∧ rk c = rk m + 1) := by
    rintro c m ⟨u, hu, hu2⟩
    rw [hf]
    by_cases hc : c = d
    · rw [if_pos hc]
      rw [hc, hd] at hu
      cases hu
      exact ⟨_, rfl, hu2⟩
    · rw [if_neg hc]
      exact ⟨u, hu, hu2⟩
  have habove : ∀ (m a : Int), (∃ u nm', fnd t a = some u ∧ (nm', m) ∈ u.names) → ∃ u nm', fnd (putA t d (Tre.dirAdd x nm z)) a = some u ∧ (nm', m) ∈ u.names := by
    rintro m a ⟨u, nm', hu, hm⟩
    by_cases he : a = d
    · refine ⟨_, nm', by rw [hf, if_pos he], ?_⟩
      rw [he, hd] at hu
      cases hu
      rw [hnames]
      exact List.mem_append_left _ hm
    · exact ⟨u, nm', by rw [hf, if_neg he]; exact hu, hm⟩
  have hlen : (Tre.dirAdd x nm z).names.length = x.names.length + 1 := by rw [hnames]; simp
  refine ⟨⟨putA_nodup h.keys _ _, ?_, h.rk1, h.rk20, ?_, h.zne, ?_⟩, hcn⟩
  · rw [hf]
    split
    · exact ⟨_, rfl⟩
    · exact h.has1
  · intro n u hu
    rw [hf] at hu
    by_cases hnd : n = d
    · rw [if_pos hnd] at hu
      cases hu
      subst hnd
      have hs := HD.size
      refine ⟨HD.kind, fun h2 => absurd hk2 h2, ?_, ?_, ⟨hs.1, hs.2.1, by rw [hlen]; omega, ?_, ?_, hs.2.2.2.2.2.1, ?_⟩, ?_, ?_, ?_, ?_⟩
      · intro e he
        rw [hnames] at he
        rcases List.mem_append.1 he with he | he
        · obtain ⟨h1, h2, h3⟩ := HD.ents e he
          exact ⟨h1, h2, hents _ _ h3⟩
        · rw [List.mem_singleton.1 he]
          refine ⟨hn, hr, hents _ _ ⟨y, hz, hy⟩⟩
      · exact putA_nodup HD.uniq nm z
      · show 0 ≤ max x.most ((putA x.names nm z).length : Int)
        have := hs.2.2.2.1
        omega
      · show max x.most ((Tre.dirAdd x nm z).names.length : Int) ≤ ((k + 1 : Nat) : Int)
        rw [hlen]
        have h1 := hs.2.2.2.2.1
        have h2 := hs.2.2.1
        omega
      · have := hs.2.2.2.2.2.2
        show x.links ≤ _
        omega
      · intro e
        have := HD.root e
        have hc := hcn n
        rw [if_neg (fun e' => h.zne (e'.trans e))] at hc
        exact ⟨this.1, this.2.1, this.2.2.1, by omega⟩
      · intro e1 e2
        have hc := hcn n
        rw [if_neg (fun e => e1 e.symm)] at hc
        rw [hc]
        exact HD.links e1 e2
      · intro e1 e2
        obtain ⟨h1, h2, h3, h4⟩ := HD.above e1 e2
        exact ⟨h1, h2, h3, habove _ _ h4⟩
      · intro e1 e2 e3 e4
        exact absurd e4 (hat.resolve_left e3)
    · rw [if_neg hnd] at hu
      have H := (h.mono (Nat.le_succ k)).nod _ _ hu
      refine ⟨H.kind, H.file, ?_, H.uniq, H.size, ?_, ?_, ?_, H.loose⟩
      · intro e he
        obtain ⟨h1, h2, h3⟩ := H.ents e he
        exact ⟨h1, h2, hents _ _ h3⟩
      · intro e
        have := H.root e
        have hc := hcn n
        rw [if_neg (fun e' => h.zne (e'.trans e))] at hc
        exact ⟨this.1, this.2.1, this.2.2.1, by omega⟩
      · intro e1 e2
        have hc := hcn n
        rw [if_neg (fun e => e1 e.symm)] at hc
        rw [hc]
        exact H.links e1 e2
      · intro e1 e2
        obtain ⟨h1, h2, h3, h4⟩ := H.above e1 e2
        exact ⟨h1, h2, h3, habove _ _ h4⟩
  · rw [hf, if_neg ?_, h.zero]
    rintro rfl
    rw [h.zero] at hd
    cases hd
/-- Other ranks. -/
theorem Gx.rerank (h : Gx t rk k z) (rk' : Int → Nat) (h1 : rk' 1 = 0) (h20 : ∀ n, rk' n ≤ 20) (hf : ∀ n x, fnd t n = some x → x.kind ≠ 2 → rk' n = 20)
    (he : ∀ n x, fnd t n = some x → ∀ e ∈ x.names, rk' n < 20 ∧ ((Tre.mk t 0 []).at_ e.2).kind = 2 → rk' e.2 = rk' n + 1) (hl : ∀ n x, fnd t n = some x → x.names ≠ [] → rk' n < 20) : Gx t rk' k z where
  keys := h.keys
  has1 := h.has1
  rk1 := h1
  rk20 := h20
  zne := h.zne
  zero := h.zero
  nod n x hx := by
    have H := h.nod n x hx
    refine ⟨H.kind, fun h2 => ⟨(H.file h2).1, (H.file h2).2.1, hf n x hx h2⟩, ?_, H.uniq, H.size, H.root, H.links, H.above, H.loose⟩
    intro e hm
    obtain ⟨a1, a2, y, hy, a3⟩ := H.ents e hm
    have hlt : rk' n < 20 := hl n x hx (fun e0 => by rw [e0] at hm; cases hm)
    refine ⟨a1, hlt, y, hy, fun h2 => ⟨(a3 h2).1, he n x hx e hm ⟨hlt, ?_⟩⟩⟩
    show ((fnd t e.2).getD nod0).kind = 2
    rw [hy]
    exact h2
/-- A new one, of no name. -/
theorem Gx.newN (h : Gx t rk k 0) (hz : fnd t z = none) (hz1 : z ≠ 1) (hz0 : z ≠ 0) (x : Nod) (hn : x.names = []) (hk : x.kind = 1 ∨ x.kind = 2 ∨ x.kind = 3) (ha : x.kind ≠ 2 → x.above = 0)
    (hs : x.data.length ≤ 100000 ∧ x.wr.length ≤ 100000 ∧ 0 ≤ x.most ∧ x.most ≤ k ∧ 0 ≤ x.links ∧ x.links ≤ k + 1) (r : Nat) (hr : r ≤ 20) (hr2 : x.kind ≠ 2 → r = 20) :
    Gx (putA t z x) (fun n => if n = z then r else rk n) k z ∧ (∀ n, cnt (putA t z x) n = cnt t n) ∧ cnt t z = 0 := by
  have hcn : ∀ n, cnt (putA t z x) n = cnt t n := by
    intro n
    rw [cnt_new hz]
    unfold cntN
    rw [hn]
    rfl
  have hf : ∀ n, fnd (putA t z x) n = if n = z then some x else fnd t n := fun n => fnd_putA
  have hne : ∀ n y, fnd t n = some y → n ≠ z := by rintro n y hy rfl; rw [hz] at hy; cases hy
  have hne0 : ∀ n y, fnd t n = some y → n ≠ 0 := by rintro n y hy rfl; rw [h.zero] at hy; cases hy
  refine ⟨⟨putA_nodup h.keys _ _, ?_, ?_, ?_, ?_, hz1, ?_⟩, hcn, ?_⟩
  · obtain ⟨u, hu⟩ := h.has1
    exact ⟨u, by rw [hf, if_neg (fun e => hz1 e.symm), hu]⟩
  · show (if (1:Int) = z then r else rk 1) = 0
    rw [if_neg (fun e => hz1 e.symm)]
    exact h.rk1
  · intro n
    show (if n = z then r else rk n) ≤ 20
    split
    · exact hr
    · exact h.rk20 n
  · intro n u hu
    rw [hf] at hu
    by_cases hnz : n = z
    · rw [if_pos hnz] at hu
      cases hu
      subst hnz
      refine ⟨hk, fun h2 => ⟨hn, ha h2, by rw [if_pos rfl]; exact hr2 h2⟩, by rw [hn]; simp, by rw [hn]; exact List.nodup_nil, ⟨hs.1, hs.2.1, by rw [hn]; simp, hs.2.2.1, hs.2.2.2.1, hs.2.2.2.2⟩, fun e => absurd e hz1, fun e => absurd rfl e, fun e => absurd rfl e, fun e => absurd rfl e⟩
    · rw [if_neg hnz] at hu
      have H := h.nod _ _ hu
      have hn0 := hne0 _ _ hu
      refine ⟨H.kind, fun h2 => ⟨(H.file h2).1, (H.file h2).2.1, by rw [if_neg hnz]; exact (H.file h2).2.2⟩, ?_, H.uniq, H.size, fun e => by rw [hcn]; exact H.root e, fun _ e2 => by rw [hcn]; exact H.links hn0 e2, ?_, fun _ => H.loose hn0⟩
      · intro e he
        obtain ⟨h1, h2, y, hy, h3⟩ := H.ents e he
        rw [if_neg hnz]
        refine ⟨h1, h2, y, by rw [hf, if_neg (hne _ _ hy)]; exact hy, ?_⟩
        rw [if_neg (hne _ _ hy)]
        exact h3
      · intro _ e2
        obtain ⟨h1, h2, h3, y, nm, hy, h4⟩ := H.above hn0 e2
        exact ⟨h1, h2, h3, y, nm, by rw [hf, if_neg (hne _ _ hy)]; exact hy, h4⟩
  · rw [hf, if_neg (fun e => hz0 e.symm), h.zero]
  · refine cnt_none fun p hp e he e0 => ?_
    obtain ⟨_, _, y, hy, _⟩ := (h.nod p.1 p.2 (fnd_mem h.keys hp)).ents e he
    exact hne _ _ hy e0
/-- A node of no name is given up. -/
theorem Gx.delN (h : Gx t rk k 0) {n0 : Int} {x0 : Nod} (hx0 : fnd t n0 = some x0) (h1 : n0 ≠ 1) (hl : x0.links = 0) : Gx (delA t n0) rk k 0 := by
  have hn0 : n0 ≠ 0 := by rintro rfl; rw [h.zero] at hx0; cases hx0
  have H0 := h.nod _ _ hx0
  have hnm : x0.names = [] := by
    by_cases h2 : x0.kind = 2
    · by_cases ha : x0.above = 0
      · exact (H0.loose hn0 h2 h1 ha).1
      · have := (H0.above hn0 ha).2.2.1
        omega
    · exact (H0.file h2).1
  have hc0 : cnt t n0 = 0 := by
    have := H0.links hn0 h1
    omega
  have hcn : ∀ n, cnt (delA t n0) n = cnt t n := by
    intro n
    have h2 := cnt_del h.keys hx0 n
    have : cntN x0 n = 0 := by unfold cntN; rw [hnm]; rfl
    omega
  have hf : ∀ n, n ≠ n0 → fnd (delA t n0) n = fnd t n := fun n hn => fnd_delA hn
  have hf0 : fnd (delA t n0) n0 = none := by
    rw [fnd_none]
    intro hm
    obtain ⟨p, hp, e⟩ := List.mem_map.1 hm
    have := (List.mem_filter.1 hp).2
    simp [e] at this
  have hnoent : ∀ d y, fnd t d = some y → ∀ e ∈ y.names, e.2 ≠ n0 := by
    rintro d y hy e he rfl
    have := cnt_has hy (nm := e.1) (n := e.2) he
    omega
  refine ⟨delA_nodup h.keys _, ?_, h.rk1, h.rk20, ?_, h.zne, ?_⟩
  · obtain ⟨u, hu⟩ := h.has1
    exact ⟨u, by rw [hf _ (fun e => h1 e.symm)]; exact hu⟩
  · intro n u hu
    by_cases hn : n = n0
    · rw [hn, hf0] at hu; cases hu
    rw [hf _ hn] at hu
    have H := h.nod _ _ hu
    refine ⟨H.kind, H.file, ?_, H.uniq, H.size, fun e => by rw [hcn]; exact H.root e, fun e1 e2 => by rw [hcn]; exact H.links e1 e2, ?_, H.loose⟩
    · intro e he
      obtain ⟨a1, a2, y, hy, a3⟩ := H.ents e he
      exact ⟨a1, a2, y, by rw [hf _ (hnoent _ _ hu e he)]; exact hy, a3⟩
    · intro e1 e2
      obtain ⟨a1, a2, a3, y, nm, hy, a4⟩ := H.above e1 e2
      refine ⟨a1, a2, a3, y, nm, ?_, a4⟩
      rw [hf]
      · exact hy
      · intro e
        rw [e, hx0] at hy
        cases hy
        rw [hnm] at a4
        cases a4
  · rw [hf _ (fun e => hn0 e.symm), h.zero]
end Go.Proofs.YtonhcefgakmpfaaGreatDoor
/- PATHS, plain: cut at the slashes, letter by letter. No program in sight. -/
namespace Go.Proofs.YtonhcefgakmpfaaGreatDoor
open Go.RowKit Go.Own
/-- What stands between slashes. -/
def spl : Str → List Str
  | [] => [[]]
  | c :: l => if c = 47 then [] :: spl l else match spl l with
    | h :: t => (c :: h) :: t
    | [] => [[c]]
theorem index1_cons (b : UInt8) (l : List UInt8) : Lib.index (b :: l) [47] = if b = 47 then 0 else if Lib.index l [47] == -1 then -1 else Lib.index l [47] + 1 := by
  rw [Lib.index]
  by_cases h : b = 47
  · subst h; simp [List.isPrefixOf]
  · have : ([47] : List UInt8).isPrefixOf (b :: l) = false := by simp [List.isPrefixOf, Ne.symm h]
    rw [this, if_neg h]
    simp
theorem splitK_spl : ∀ s : List UInt8, Lib.splitK [47] 0 (s.count 47) s = spl s
  | [] => rfl
  | b :: l => by
    have ih := splitK_spl l
    by_cases h : b = 47
    · subst h
      rw [List.count_cons_self]
      unfold Lib.splitK
      rw [index1_cons, if_pos rfl]
      simp only [spl, if_true]
      rw [if_neg (by decide)]
      simp only [Int.toNat_zero, List.take_zero, List.length_cons, List.length_nil, List.drop_succ_cons, List.drop_zero, Nat.zero_add]
      rw [ih]
    · rw [List.count_cons_of_ne (by simpa using fun e => h e)]
      generalize l.count 47 = n at *
      have e2 : spl (b :: l) = match spl l with | h :: t => (b :: h) :: t | [] => [[b]] := by rw [spl, if_neg h]
      rw [e2, ← ih]
      cases n with
      | zero => rfl
      | succ m =>
        unfold Lib.splitK
        rw [index1_cons, if_neg h]
        by_cases hm : Lib.index l [47] = -1
        · rw [hm]; rfl
        · have hge := Lib.index_ge l [47]
          have h1 : (Lib.index l [47] == -1) = false := by simpa using hm
          have h2 : (Lib.index l [47] + 1 == -1) = false := by simp; omega
          have h3 : (Lib.index l [47] + 1).toNat = (Lib.index l [47]).toNat + 1 := by omega
          rw [h1]
          simp only [Bool.false_eq_true, if_false]
          rw [h2, h3]
          simp only [Bool.false_eq_true, if_false, Nat.add_zero, List.length_cons, List.length_nil, Nat.zero_add, List.take_succ_cons, List.drop_succ_cons]
theorem pieces_spl (s : Str) : pieces s = spl s := by
  unfold pieces
  rw [Lib.splitB_data]
  have e : (sB s).data.toList = s := sB_toList s
  show Lib.splitK (sB [47]).data.toList 0 (Lib.count (sB s).data.toList (sB [47]).data.toList) (sB s).data.toList = _
  rw [e, sB_toList, Lib.count_one]
  exact splitK_spl s
theorem spl_no47 : ∀ (s : Str), ∀ p ∈ spl s, (47 : UInt8) ∉ p
  | [], p, hp => by simp [spl] at hp; subst hp; simp
  | c :: l, p, hp => by
    have ih := spl_no47 l
    unfold spl at hp
    by_cases h : c = 47
    · rw [if_pos h] at hp
      rcases List.mem_cons.1 hp with rfl | hp
      · simp
      · exact ih p hp
    · rw [if_neg h] at hp
      generalize spl l = q at *
      cases q with
      | nil => simp at hp; subst hp; simp; exact fun e => h e.symm
      | cons x t =>
        simp only at hp
        rcases List.mem_cons.1 hp with rfl | hp
        · intro hm
          rcases List.mem_cons.1 hm with e | hm
          · exact h e.symm
          · exact ih x List.mem_cons_self hm
        · exact ih p (List.mem_cons_of_mem _ hp)
/-- A part of a path: short, not empty, no dot, no slash. -/
def PartOk (s : Str) : Prop := s ≠ [] ∧ s ≠ [46] ∧ s.length ≤ 24 ∧ (47 : UInt8) ∉ s
theorem partsL_ok : ∀ (ps acc l : List Str), (∀ p ∈ ps, (47 : UInt8) ∉ p) → (∀ p ∈ acc, PartOk p) → partsL ps acc = some l → ∀ p ∈ l, PartOk p
  | [], acc, l, _, ha, h => by cases h; exact ha
  | q :: ps, acc, l, hps, ha, h => by
    unfold partsL at h
    have hps' : ∀ p ∈ ps, (47 : UInt8) ∉ p := fun p hp => hps p (List.mem_cons_of_mem _ hp)
    by_cases h1 : skipP q = true
    · rw [if_pos h1] at h; exact partsL_ok ps acc l hps' ha h
    · rw [if_neg h1] at h
      by_cases h2 : 24 < q.length
      · rw [if_pos h2] at h; cases h
      · rw [if_neg h2] at h
        refine partsL_ok ps _ l hps' ?_ h
        intro p hp
        rcases List.mem_append.1 hp with hp | hp
        · exact ha p hp
        · rw [List.mem_singleton.1 hp]
          unfold skipP at h1
          simp only [Bool.or_eq_true, beq_iff_eq, not_or] at h1
          exact ⟨h1.1, h1.2, by omega, hps q List.mem_cons_self⟩
theorem partsM_ok (s : Str) : ∀ p ∈ (partsM s).1, PartOk p := by
  unfold partsM
  split
  · simp
  · rename_i l hl
    exact partsL_ok _ _ _ (by rw [pieces_spl]; exact spl_no47 s) (by simp) hl
theorem splitM_ok (p : Str) : ∀ q ∈ (splitM p).1, PartOk q := by
  unfold splitM
  split
  · simp
  · split
    · simp
    · exact partsM_ok p
theorem lastM_ok (p : Str) (h : (lastM p).2.2 = 0) : PartOk (lastM p).2.1 ∧ (lastM p).2.1 ≠ [46, 46] := by
  unfold lastM at *
  by_cases h1 : (splitM p).2 ≠ 0
  · rw [if_pos h1] at h; exact absurd h h1
  · rw [if_neg h1] at h ⊢
    cases hg : (splitM p).1.getLast? with
    | none => rw [hg] at h; simp at h
    | some x =>
      rw [hg] at h
      simp only at h ⊢
      by_cases h2 : x = [46, 46]
      · rw [if_pos h2] at h; simp at h
      · rw [if_neg h2]
        exact ⟨splitM_ok p x (List.mem_of_getLast? hg), h2⟩
end Go.Proofs.YtonhcefgakmpfaaGreatDoor
/- THE WALK of tree.remove. -/
namespace Go.Proofs.YtonhcefgakmpfaaGreatDoor
open Go.RowKit Go.Own
/-- A place at which something stands. -/
def KidOk (S : Tre) (s : Spt) : Prop := ∃ d x, fnd S.nodes s.dir = some d ∧ d.kind = 2 ∧ fnd d.names s.name = some s.node ∧ fnd S.nodes s.node = some x ∧ s.dir ≠ s.node ∧ s.name.length ≤ 1000000 ∧ (-1000000 ≤ x.links ∧ x.links < 1000000) ∧ x.names.length ≤ 1000000
/-- What a node's cells read as. -/
theorem Trc.node {w : World} {L : List HP} {q : Nat} {S : Tre} {n : Int} {x : Nod} (h : Has w (Trc q S :: L)) (hn : fnd S.nodes n = some x) :
    ∃ (m b : Nat) (nm : Option Nat) (dv : Value), (w.cell? ⟨q, 0, none⟩ = some (.map (some m)) ∧ (Instr.lookup tNo (.map (some m)) (.int .i64 n) false).run Tryz.prog w = .ok (.pointer (some ⟨b, 0, none⟩)) w) ∧ w.cell? ⟨b, 0, none⟩ = some (.int .i64 x.kind) ∧ (w.cell? ⟨b, 1, none⟩ = some dv ∧ Rd w dv 1 x.data.length (bc x.data)) ∧ w.cell? ⟨b, 3, none⟩ = some (.map nm) ∧ (Builtin.len_ #[tNm] 3 #[.map nm]).run Tryz.prog w = .ok (.int .i64 x.names.length) w ∧ w.cell? ⟨b, 5, none⟩ = some (.int .i64 x.links) ∧ w.cell? ⟨b, 6, none⟩ = some (.int .i64 x.above) := by
  obtain ⟨m, f, P, hPT, h⟩ := trc_iff.1 h
  rw [← hPT.1] at hn
  obtain ⟨b, hb, hl⟩ := Trb.look h hn
  have hq := (Trb.cells h).1
  obtain ⟨A, B, dv, wv, nm, -, -, hP⟩ := Trb.take h hb
  refine ⟨m, b, nm, dv, ⟨hq, hl⟩, hP.cells 0, ⟨hP.cells 1, Dat.rd hP.p1⟩, hP.cells 3, ?_, hP.cells 5, hP.cells 6⟩
  cases nm with
  | none =>
    have h1 := (Has.fact_iff.1 hP.drop.drop.drop).1
    rw [h1]
    simp [Builtin.len_, run_underlying undNm]
    rfl
  | some mm => exact Mk.len hP.drop.drop.drop undNm _
set_option maxRecDepth 100000 in
set_option maxHeartbeats 8000000 in
theorem tRemove (q : Nat) (S : Tre) (rk : Int → Nat) (o : Opm) (ov : Value) (mx : Int) (w : World) (L : List HP) (hk : o.kind = 10 ∨ o.kind = 11) (hW : Wk S) (hY : Wy S rk) (hM : MxL mx L) (hp : o.path.length ≤ 100000) (hKO : (S.place o.path).2 = 0 → (S.place o.path).1.node ≠ 0 → KidOk S (S.place o.path).1) (hO : Has w (Trc q S :: L)) :
    Calls Tryz.prog 60 #[.pointer (some ⟨q, 0, none⟩), opV o ov] w fun e w' => e = .returned (ansV (S.remove o.kind o.path).1 nilV nilV) ∧ Has w' (Trc q (S.remove o.kind o.path).2 :: L) ∧ Keep w w' := by
  have HF := hid (fun (w : World) (L' : List HP) (hM : MxL mx L') (hO : Has w (Trc q S :: L')) => tPlace q S rk o.path mx w L' hW hY hM hp hO)
  have HKO := hid hKO
  clear hKO
  generalize hR : S.remove o.kind o.path = R
  unfold Tre.remove at hR
  generalize S.place o.path = F at *
  obtain ⟨s2, e2⟩ := F
  dsimp only at *
  have HR := hid hR
  have HM := hid hM
  have HO := hid hO
  clear hO hR hW hM hp hY
  unfold opV opC
  go_enter Tryz.func60, Tryz.ntmps60
  go_upto_region 1 with fail
  have h1 := (HO.out.alloc (.cells (opC o ov) 35)).alloc (.cells (ansC (ansE 0) nilV nilV) 32)
  have HK1 := hid (((Keep.refl w).alloc (.cells (opC o ov) 35)).alloc (.cells (ansC (ansE 0) nilV nilV) 32))
  unfold opC ansC ansE at h1 HK1
  have e1 : (w.alloc (.cells #[.int .i64 o.kind, .int .i64 o.fd, .int .i64 o.n, .int .i64 o.off, .int .i64 o.flags, sV o.path, sV o.dest, ov] 35)).heap.size = w.heap.size + 1 := by show (Array.push _ _).size = _; rw [Array.size_push]
  rw [e1] at h1
  have HO1 := hid h1
  clear h1 e1 HO
  generalize (w.alloc (.cells #[.int .i64 o.kind, .int .i64 o.fd, .int .i64 o.n, .int .i64 o.off, .int .i64 o.flags, sV o.path, sV o.dest, ov] 35)).alloc (.cells #[.int .i64 0, .int .i64 0, .int .i64 0, .int .i64 0, nilV, nilV] 32) = w1 at *
  generalize w.heap.size = g3 at *
  generalize g3 + 1 = g4 at *
  have hp0 : w1.cell? ⟨g3, 0, none⟩ = some (.int .i64 o.kind) := HO1.out.p1.cells 0
  have hp5 : w1.cell? ⟨g3, 5, none⟩ = some (sV o.path) := HO1.out.p1.cells 5
  go_cut [5, 6] (fun p5 e6 wx => ∃ (w3 : World) (g5 : Nat), w3 = wx ∧ e6 = .int .i64 e2 ∧ p5 = .pointer (some ⟨g5, 0, none⟩) ∧ Hid (Has w3 (Trc q S :: pt g5 (.cells (spC s2) 93) :: pt g4 (.cells (ansC (ansE 0) nilV nilV) 32) :: pt g3 (.cells (opC o ov) 35) :: L)) ∧ Hid (Keep w w3))
  case first =>
    go_wp2_with fail
    refine (HF.out w1 _ ((HM.out.cons (pt g3 (.cells (opC o ov) 35))).cons (pt g4 (.cells (ansC (ansE 0) nilV nilV) 32))) (HO1.out.re 3 [2, 0, 1])).mono ?_
    rintro e w2 ⟨rfl, hO2, hK2⟩
    have HO2 := hid hO2
    have HK2 := hid ((HK1.out).trans hK2)
    clear hO2 hK2
    try dsimp only
    unfold spV spC
    go_wp2_with fail
    go_meet
    exact ⟨_, _, rfl, rfl, rfl, hid ((HO2.out.alloc (.cells (spC s2) 93)).p1), hid (HK2.out.alloc _)⟩
  case rest =>
    obtain ⟨w3, g5, rfl, rfl, rfl, HO3, HK3⟩ := hcut
    clear HO1 HK1 hp0 hp5 HF
    have HOa := hid (show Has w3 (pt g4 (.cells (ansC (ansE 0) nilV nilV) 32) :: Trc q S :: L) from HO3.out.re 4 [2, 0])
    by_cases he : e2 = 0
    · subst he
      have hs0 : w3.cell? ⟨g5, 0, none⟩ = some (.int .i64 s2.node) := HO3.out.p1.cells 0
      by_cases hz : s2.node = 0
      · have HRR := hid (show R = (ansE 5, S) from by rw [← HR.out, if_neg (fun h => h rfl), if_pos hz])
        have hz0 : w3.cell? ⟨g4, 0, none⟩ = some (.int .i64 0) := (HOa.out).cells 0
        have hz1 : w3.cell? ⟨g4, 1, none⟩ = some (.int .i64 0) := (HOa.out).cells 1
        have hz2 : w3.cell? ⟨g4, 2, none⟩ = some (.int .i64 0) := (HOa.out).cells 2
        have hz3 : w3.cell? ⟨g4, 3, none⟩ = some (.int .i64 0) := (HOa.out).cells 3
        have hz4 : w3.cell? ⟨g4, 4, none⟩ = some (.slice none 0 0) := (HOa.out).cells 4
        have hz5 : w3.cell? ⟨g4, 5, none⟩ = some (.slice none 0 0) := (HOa.out).cells 5
        have hy0 := (HOa.out).thaw 0
        have hy1 := (HOa.out).thaw 1
        have hy2 := (HOa.out).thaw 2
        have hy3 := (HOa.out).thaw 3
        have hy4 := (HOa.out).thaw 4
        have hy5 := (HOa.out).thaw 5
        go_wp2_with fail
        refine (tCode (5 : Int) w3 _ HOa.out).mono ?_
        rintro e w5 ⟨rfl, hO5, hK5⟩
        have HO5 := hid hO5
        have HK5 := hid ((HK3.out).trans hK5)
        clear hO5 hK5
        unfold ansV ansC ansE
        clear hz0 hz1 hz2 hz3 hz4 hz5 hy0 hy1 hy2 hy3 hy4 hy5
        have hz0 : w5.cell? ⟨g4, 0, none⟩ = some (.int .i64 0) := (HO5.out).cells 0
        have hz1 : w5.cell? ⟨g4, 1, none⟩ = some (.int .i64 0) := (HO5.out).cells 1
        have hz2 : w5.cell? ⟨g4, 2, none⟩ = some (.int .i64 0) := (HO5.out).cells 2
        have hz3 : w5.cell? ⟨g4, 3, none⟩ = some (.int .i64 0) := (HO5.out).cells 3
        have hz4 : w5.cell? ⟨g4, 4, none⟩ = some (.slice none 0 0) := (HO5.out).cells 4
        have hz5 : w5.cell? ⟨g4, 5, none⟩ = some (.slice none 0 0) := (HO5.out).cells 5
        have hy0 := (HO5.out).thaw 0
        have hy1 := (HO5.out).thaw 1
        have hy2 := (HO5.out).thaw 2
        have hy3 := (HO5.out).thaw 3
        have hy4 := (HO5.out).thaw 4
        have hy5 := (HO5.out).thaw 5
        go_wp2_with fail
        have h1 := ((show Has w5 (pt g4 (.cells (ansC (ansE 0) nilV nilV) 32) :: Trc q S :: L) from HO5.out)).ans (ansE (5 : Int)) nilV nilV
        refine bodyPost_ret (ans_result rfl rfl h1) rfl ?_
        rw [HRR.out]
        exact ⟨rfl, h1.drop, HK5.out.ans _ _ _ _ _ _ _⟩
      · obtain ⟨d, x, hd, hdk, hdn, hx, hne, hln, hlk, hnl⟩ := HKO.out rfl hz
        have hat : S.at_ s2.node = x := by unfold Tre.at_; rw [hx]; rfl
        have HX := hid hx
        have HDD := hid (And.intro hd hdn)
        have HR1 := hid (show (if o.kind = 10 ∧ x.kind ≠ 2 then (ansE 7, S) else if o.kind = 10 ∧ 0 < x.names.length then (ansE 9, S) else if o.kind = 11 ∧ x.kind = 2 then (ansE 8, S) else (ansE 0, S.take s2.dir s2.name)) = R from by
          have h := HR.out
          rw [if_neg (fun h => h rfl), if_neg hz, hat] at h
          exact h)
        clear HR hat hd hdn
        obtain ⟨m, b, nm, dv, ⟨hq, hl⟩, -⟩ := Trc.node HO3.out.drew hx
        have hs0d : w3.drew.cell? ⟨g5, 0, none⟩ = some (.int .i64 s2.node) := hs0
        go_upto_region 6 with fail
        refine region_text (fun w' => w'.cell? ⟨q, 0, none⟩ = some (.map (some m)) ∧ w'.cell? ⟨g5, 0, none⟩ = some (.int .i64 s2.node) ∧ (Instr.lookup tNo (.map (some m)) (.int .i64 s2.node) false).run Tryz.prog w' = .ok (.pointer (some ⟨b, 0, none⟩)) w') (by kernel_rfl) (by kernel_rfl) ⟨hq, hs0d, hl⟩ ?_
        repeat (first
          | (refine wpL_read (by rfl) (by rfl) ?_ ?_ ?_; rotate_left; (rintro w ⟨z0, z1, z2⟩; go_simp; with_reducible rfl); simp only [Act.put, List.setIfInBounds_toArray, List.set_cons_zero, List.set_cons_succ]) | (refine wpL_skip (by rfl) ?_; simp only [Act.put, List.setIfInBounds_toArray, List.set_cons_zero, List.set_cons_succ]))
        refine wpL_nil ?_
        have HO4 := hid HO3.out.drew
        have HK4 := hid HK3.out.drew
        have hl9 := hl
        have hq9 := hq
        clear hq hs0 hs0d hl HO3 HK3 HOa
        generalize w3.drew = w4 at *
        have hbb := Trc.node HO4.out hx
        obtain ⟨m', b', nm, dv', ⟨hq', hl'⟩, hb0, -, hb3, hlen, -, -⟩ := hbb
        rw [hq9] at hq'
        cases hq'
        rw [hl9] at hl'
        cases hl'
        have hg0 : w4.cell? ⟨g3, 0, none⟩ = some (.int .i64 o.kind) := HO4.out.p3.cells 0
        clear hl9 hq9
        have HOa := hid (show Has w4 (pt g4 (.cells (ansC (ansE 0) nilV nilV) 32) :: Trc q S :: L) from HO4.out.re 4 [2, 0])
        rcases hk with h10 | h10
        · rw [h10] at hg0
          by_cases hx2 : x.kind = 2
          · have hx3 : (x.kind != 2) = false := by simp [hx2]
            by_cases hnn : 0 < x.names.length
            · have hnni : (0 : Int) < (x.names.length : Int) := by omega
              have HRR := hid (show R = (ansE 9, S) from by rw [← HR1.out, if_neg (fun h => h.2 hx2), if_pos ⟨h10, hnn⟩])
              have hz0 : w4.cell? ⟨g4, 0, none⟩ = some (.int .i64 0) := (HOa.out).cells 0
              have hz1 : w4.cell? ⟨g4, 1, none⟩ = some (.int .i64 0) := (HOa.out).cells 1
              have hz2 : w4.cell? ⟨g4, 2, none⟩ = some (.int .i64 0) := (HOa.out).cells 2
              have hz3 : w4.cell? ⟨g4, 3, none⟩ = some (.int .i64 0) := (HOa.out).cells 3
              have hz4 : w4.cell? ⟨g4, 4, none⟩ = some (.slice none 0 0) := (HOa.out).cells 4
              have hz5 : w4.cell? ⟨g4, 5, none⟩ = some (.slice none 0 0) := (HOa.out).cells 5
              have hy0 := (HOa.out).thaw 0
              have hy1 := (HOa.out).thaw 1
              have hy2 := (HOa.out).thaw 2
              have hy3 := (HOa.out).thaw 3
              have hy4 := (HOa.out).thaw 4
              have hy5 := (HOa.out).thaw 5
              go_wp2_with fail
              refine (tCode (9 : Int) w4 _ HOa.out).mono ?_
              rintro e w5 ⟨rfl, hO5, hK5⟩
              have HO5 := hid hO5
              have HK5 := hid ((HK4.out).trans hK5)
              clear hO5 hK5
              unfold ansV ansC ansE
              clear hz0 hz1 hz2 hz3 hz4 hz5 hy0 hy1 hy2 hy3 hy4 hy5
              have hz0 : w5.cell? ⟨g4, 0, none⟩ = some (.int .i64 0) := (HO5.out).cells 0
              have hz1 : w5.cell? ⟨g4, 1, none⟩ = some (.int .i64 0) := (HO5.out).cells 1
              have hz2 : w5.cell? ⟨g4, 2, none⟩ = some (.int .i64 0) := (HO5.out).cells 2
              have hz3 : w5.cell? ⟨g4, 3, none⟩ = some (.int .i64 0) := (HO5.out).cells 3
              have hz4 : w5.cell? ⟨g4, 4, none⟩ = some (.slice none 0 0) := (HO5.out).cells 4
              have hz5 : w5.cell? ⟨g4, 5, none⟩ = some (.slice none 0 0) := (HO5.out).cells 5
              have hy0 := (HO5.out).thaw 0
              have hy1 := (HO5.out).thaw 1
              have hy2 := (HO5.out).thaw 2
              have hy3 := (HO5.out).thaw 3
              have hy4 := (HO5.out).thaw 4
              have hy5 := (HO5.out).thaw 5
              go_wp2_with fail
              have h1 := ((show Has w5 (pt g4 (.cells (ansC (ansE 0) nilV nilV) 32) :: Trc q S :: L) from HO5.out)).ans (ansE (9 : Int)) nilV nilV
              refine bodyPost_ret (ans_result rfl rfl h1) rfl ?_
              rw [HRR.out]
              exact ⟨rfl, h1.drop, HK5.out.ans _ _ _ _ _ _ _⟩
            · have hnni : ¬ (0 : Int) < (x.names.length : Int) := by omega
              have HRR := hid (show R = (ansE 0, S.take s2.dir s2.name) from by rw [← HR1.out, if_neg (fun h => h.2 hx2), if_neg (fun h => hnn h.2), if_neg (fun h => absurd (h10.symm.trans h.1) (by decide))])
              have hs1 : w4.cell? ⟨g5, 1, none⟩ = some (.int .i64 s2.dir) := HO4.out.p1.cells 1
              have hs2 : w4.cell? ⟨g5, 2, none⟩ = some (sV s2.name) := HO4.out.p1.cells 2
              go_wp2_with fail
              refine (tTake q S s2.dir s2.name s2.node d x w4 (pt g4 (.cells (ansC (ansE 0) nilV nilV) 32) :: L) HDD.out.1 HDD.out.2 HX.out hne hdk hln hlk.1 hlk.2 (HO4.out.re 4 [0, 2])).mono ?_
              rintro e w5 ⟨rfl, hO5, hK5⟩
              have HO5 := hid hO5
              have HK5 := hid ((HK4.out).trans hK5)
              clear hO5 hK5
              try dsimp only
              clear hs1 hs2 hb0 hb3 hlen hg0
              have HO6 := hid (show Has w5 (pt g4 (.cells (ansC (ansE 0) nilV nilV) 32) :: Trc q (S.take s2.dir s2.name) :: L) from HO5.out.re 2 [1, 0])
              have hz0 : w5.cell? ⟨g4, 0, none⟩ = some (.int .i64 0) := (HO6.out).cells 0
              have hz1 : w5.cell? ⟨g4, 1, none⟩ = some (.int .i64 0) := (HO6.out).cells 1
              have hz2 : w5.cell? ⟨g4, 2, none⟩ = some (.int .i64 0) := (HO6.out).cells 2
              have hz3 : w5.cell? ⟨g4, 3, none⟩ = some (.int .i64 0) := (HO6.out).cells 3
              have hz4 : w5.cell? ⟨g4, 4, none⟩ = some (.slice none 0 0) := (HO6.out).cells 4
              have hz5 : w5.cell? ⟨g4, 5, none⟩ = some (.slice none 0 0) := (HO6.out).cells 5
              have hy0 := (HO6.out).thaw 0
              have hy1 := (HO6.out).thaw 1
              have hy2 := (HO6.out).thaw 2
              have hy3 := (HO6.out).thaw 3
              have hy4 := (HO6.out).thaw 4
              have hy5 := (HO6.out).thaw 5
              go_wp2_with fail
              have h1 := HO6.out.ans (ansE 0) nilV nilV
              refine bodyPost_ret (ans_result rfl rfl h1) rfl ?_
              rw [HRR.out]
              exact ⟨rfl, h1.drop, HK5.out.ans _ _ _ _ _ _ _⟩
          · have hx3 : (x.kind != 2) = true := by simp [hx2]
            have HRR := hid (show R = (ansE 7, S) from by rw [← HR1.out, if_pos ⟨h10, hx2⟩])
            have hz0 : w4.cell? ⟨g4, 0, none⟩ = some (.int .i64 0) := (HOa.out).cells 0
            have hz1 : w4.cell? ⟨g4, 1, none⟩ = some (.int .i64 0) := (HOa.out).cells 1
            have hz2 : w4.cell? ⟨g4, 2, none⟩ = some (.int .i64 0) := (HOa.out).cells 2
            have hz3 : w4.cell? ⟨g4, 3, none⟩ = some (.int .i64 0) := (HOa.out).cells 3
            have hz4 : w4.cell? ⟨g4, 4, none⟩ = some (.slice none 0 0) := (HOa.out).cells 4
            have hz5 : w4.cell? ⟨g4, 5, none⟩ = some (.slice none 0 0) := (HOa.out).cells 5
            have hy0 := (HOa.out).thaw 0
            have hy1 := (HOa.out).thaw 1
            have hy2 := (HOa.out).thaw 2
            have hy3 := (HOa.out).thaw 3
            have hy4 := (HOa.out).thaw 4
            have hy5 := (HOa.out).thaw 5
            go_wp2_with fail
            refine (tCode (7 : Int) w4 _ HOa.out).mono ?_
            rintro e w5 ⟨rfl, hO5, hK5⟩
            have HO5 := hid hO5
            have HK5 := hid ((HK4.out).trans hK5)
            clear hO5 hK5
            unfold ansV ansC ansE
            clear hz0 hz1 hz2 hz3 hz4 hz5 hy0 hy1 hy2 hy3 hy4 hy5
            have hz0 : w5.cell? ⟨g4, 0, none⟩ = some (.int .i64 0) := (HO5.out).cells 0
            have hz1 : w5.cell? ⟨g4, 1, none⟩ = some (.int .i64 0) := (HO5.out).cells 1
            have hz2 : w5.cell? ⟨g4, 2, none⟩ = some (.int .i64 0) := (HO5.out).cells 2
            have hz3 : w5.cell? ⟨g4, 3, none⟩ = some (.int .i64 0) := (HO5.out).cells 3
            have hz4 : w5.cell? ⟨g4, 4, none⟩ = some (.slice none 0 0) := (HO5.out).cells 4
            have hz5 : w5.cell? ⟨g4, 5, none⟩ = some (.slice none 0 0) := (HO5.out).cells 5
            have hy0 := (HO5.out).thaw 0
            have hy1 := (HO5.out).thaw 1
            have hy2 := (HO5.out).thaw 2
            have hy3 := (HO5.out).thaw 3
            have hy4 := (HO5.out).thaw 4
            have hy5 := (HO5.out).thaw 5
            go_wp2_with fail
            have h1 := ((show Has w5 (pt g4 (.cells (ansC (ansE 0) nilV nilV) 32) :: Trc q S :: L) from HO5.out)).ans (ansE (7 : Int)) nilV nilV
            refine bodyPost_ret (ans_result rfl rfl h1) rfl ?_
            rw [HRR.out]
            exact ⟨rfl, h1.drop, HK5.out.ans _ _ _ _ _ _ _⟩
        · rw [h10] at hg0
          by_cases hx2 : x.kind = 2
          · have hx3 : (x.kind == 2) = true := by simp [hx2]
            have HRR := hid (show R = (ansE 8, S) from by rw [← HR1.out, if_neg (fun h => absurd (h10.symm.trans h.1) (by decide)), if_neg (fun h => absurd (h10.symm.trans h.1) (by decide)), if_pos ⟨h10, hx2⟩])
            have hz0 : w4.cell? ⟨g4, 0, none⟩ = some (.int .i64 0) := (HOa.out).cells 0
            have hz1 : w4.cell? ⟨g4, 1, none⟩ = some (.int .i64 0) := (HOa.out).cells 1
            have hz2 : w4.cell? ⟨g4, 2, none⟩ = some (.int .i64 0) := (HOa.out).cells 2
            have hz3 : w4.cell? ⟨g4, 3, none⟩ = some (.int .i64 0) := (HOa.out).cells 3
            have hz4 : w4.cell? ⟨g4, 4, none⟩ = some (.slice none 0 0) := (HOa.out).cells 4
            have hz5 : w4.cell? ⟨g4, 5, none⟩ = some (.slice none 0 0) := (HOa.out).cells 5
            have hy0 := (HOa.out).thaw 0
            have hy1 := (HOa.out).thaw 1
            have hy2 := (HOa.out).thaw 2
            have hy3 := (HOa.out).thaw 3
            have hy4 := (HOa.out).thaw 4
            have hy5 := (HOa.out).thaw 5
            go_wp2_with fail
            refine (tCode (8 : Int) w4 _ HOa.out).mono ?_
            rintro e w5 ⟨rfl, hO5, hK5⟩
            have HO5 := hid hO5
            have HK5 := hid ((HK4.out).trans hK5)
            clear hO5 hK5
            unfold ansV ansC ansE
            clear hz0 hz1 hz2 hz3 hz4 hz5 hy0 hy1 hy2 hy3 hy4 hy5
            have hz0 : w5.cell? ⟨g4, 0, none⟩ = some (.int .i64 0) := (HO5.out).cells 0
            have hz1 : w5.cell? ⟨g4, 1, none⟩ = some (.int .i64 0) := (HO5.out).cells 1
            have hz2 : w5.cell? ⟨g4, 2, none⟩ = some (.int .i64 0) := (HO5.out).cells 2
            have hz3 : w5.cell? ⟨g4, 3, none⟩ = some (.int .i64 0) := (HO5.out).cells 3
            have hz4 : w5.cell? ⟨g4, 4, none⟩ = some (.slice none 0 0) := (HO5.out).cells 4
            have hz5 : w5.cell? ⟨g4, 5, none⟩ = some (.slice none 0 0) := (HO5.out).cells 5
            have hy0 := (HO5.out).thaw 0
            have hy1 := (HO5.out).thaw 1
            have hy2 := (HO5.out).thaw 2
            have hy3 := (HO5.out).thaw 3
            have hy4 := (HO5.out).thaw 4
            have hy5 := (HO5.out).thaw 5
            go_wp2_with fail
            have h1 := ((show Has w5 (pt g4 (.cells (ansC (ansE 0) nilV nilV) 32) :: Trc q S :: L) from HO5.out)).ans (ansE (8 : Int)) nilV nilV
            refine bodyPost_ret (ans_result rfl rfl h1) rfl ?_
            rw [HRR.out]
            exact ⟨rfl, h1.drop, HK5.out.ans _ _ _ _ _ _ _⟩
          · have hx3 : (x.kind == 2) = false := by simp [hx2]
            have HRR := hid (show R = (ansE 0, S.take s2.dir s2.name) from by rw [← HR1.out, if_neg (fun h => absurd (h10.symm.trans h.1) (by decide)), if_neg (fun h => absurd (h10.symm.trans h.1) (by decide)), if_neg (fun h => hx2 h.2)])
            have hs1 : w4.cell? ⟨g5, 1, none⟩ = some (.int .i64 s2.dir) := HO4.out.p1.cells 1
            have hs2 : w4.cell? ⟨g5, 2, none⟩ = some (sV s2.name) := HO4.out.p1.cells 2
            go_wp2_with fail
            refine (tTake q S s2.dir s2.name s2.node d x w4 (pt g4 (.cells (ansC (ansE 0) nilV nilV) 32) :: L) HDD.out.1 HDD.out.2 HX.out hne hdk hln hlk.1 hlk.2 (HO4.out.re 4 [0, 2])).mono ?_
            rintro e w5 ⟨rfl, hO5, hK5⟩
            have HO5 := hid hO5
            have HK5 := hid ((HK4.out).trans hK5)
            clear hO5 hK5
            try dsimp only
            clear hs1 hs2 hb0 hb3 hlen hg0
            have HO6 := hid (show Has w5 (pt g4 (.cells (ansC (ansE 0) nilV nilV) 32) :: Trc q (S.take s2.dir s2.name) :: L) from HO5.out.re 2 [1, 0])
            have hz0 : w5.cell? ⟨g4, 0, none⟩ = some (.int .i64 0) := (HO6.out).cells 0
            have hz1 : w5.cell? ⟨g4, 1, none⟩ = some (.int .i64 0) := (HO6.out).cells 1
            have hz2 : w5.cell? ⟨g4, 2, none⟩ = some (.int .i64 0) := (HO6.out).cells 2
            have hz3 : w5.cell? ⟨g4, 3, none⟩ = some (.int .i64 0) := (HO6.out).cells 3
            have hz4 : w5.cell? ⟨g4, 4, none⟩ = some (.slice none 0 0) := (HO6.out).cells 4
            have hz5 : w5.cell? ⟨g4, 5, none⟩ = some (.slice none 0 0) := (HO6.out).cells 5
            have hy0 := (HO6.out).thaw 0
            have hy1 := (HO6.out).thaw 1
            have hy2 := (HO6.out).thaw 2
            have hy3 := (HO6.out).thaw 3
            have hy4 := (HO6.out).thaw 4
            have hy5 := (HO6.out).thaw 5
            go_wp2_with fail
            have h1 := HO6.out.ans (ansE 0) nilV nilV
            refine bodyPost_ret (ans_result rfl rfl h1) rfl ?_
            rw [HRR.out]
            exact ⟨rfl, h1.drop, HK5.out.ans _ _ _ _ _ _ _⟩
    · have HRR := hid (show R = (ansE e2, S) from by rw [← HR.out, if_pos he])
      have hz0 : w3.cell? ⟨g4, 0, none⟩ = some (.int .i64 0) := (HOa.out).cells 0
      have hz1 : w3.cell? ⟨g4, 1, none⟩ = some (.int .i64 0) := (HOa.out).cells 1
      have hz2 : w3.cell? ⟨g4, 2, none⟩ = some (.int .i64 0) := (HOa.out).cells 2
      have hz3 : w3.cell? ⟨g4, 3, none⟩ = some (.int .i64 0) := (HOa.out).cells 3
      have hz4 : w3.cell? ⟨g4, 4, none⟩ = some (.slice none 0 0) := (HOa.out).cells 4
      have hz5 : w3.cell? ⟨g4, 5, none⟩ = some (.slice none 0 0) := (HOa.out).cells 5
      have hy0 := (HOa.out).thaw 0
      have hy1 := (HOa.out).thaw 1
      have hy2 := (HOa.out).thaw 2
      have hy3 := (HOa.out).thaw 3
      have hy4 := (HOa.out).thaw 4
      have hy5 := (HOa.out).thaw 5
      go_wp2_with fail
      refine (tCode e2 w3 _ HOa.out).mono ?_
      rintro e w5 ⟨rfl, hO5, hK5⟩
      have HO5 := hid hO5
      have HK5 := hid ((HK3.out).trans hK5)
      clear hO5 hK5
      unfold ansV ansC ansE
      clear hz0 hz1 hz2 hz3 hz4 hz5 hy0 hy1 hy2 hy3 hy4 hy5
      have hz0 : w5.cell? ⟨g4, 0, none⟩ = some (.int .i64 0) := (HO5.out).cells 0
      have hz1 : w5.cell? ⟨g4, 1, none⟩ = some (.int .i64 0) := (HO5.out).cells 1
      have hz2 : w5.cell? ⟨g4, 2, none⟩ = some (.int .i64 0) := (HO5.out).cells 2
      have hz3 : w5.cell? ⟨g4, 3, none⟩ = some (.int .i64 0) := (HO5.out).cells 3
      have hz4 : w5.cell? ⟨g4, 4, none⟩ = some (.slice none 0 0) := (HO5.out).cells 4
      have hz5 : w5.cell? ⟨g4, 5, none⟩ = some (.slice none 0 0) := (HO5.out).cells 5
      have hy0 := (HO5.out).thaw 0
      have hy1 := (HO5.out).thaw 1
      have hy2 := (HO5.out).thaw 2
      have hy3 := (HO5.out).thaw 3
      have hy4 := (HO5.out).thaw 4
      have hy5 := (HO5.out).thaw 5
      go_wp2_with fail
      have h1 := ((show Has w5 (pt g4 (.cells (ansC (ansE 0) nilV nilV) 32) :: Trc q S :: L) from HO5.out)).ans (ansE e2) nilV nilV
      refine bodyPost_ret (ans_result rfl rfl h1) rfl ?_
      rw [HRR.out]
      exact ⟨rfl, h1.drop, HK5.out.ans _ _ _ _ _ _ _⟩
end Go.Proofs.YtonhcefgakmpfaaGreatDoor
