/- TEXTS of mine, merged. -/
import Derived.Test.YtmgpgbfgemebbaaGreatDoorM12
import Derived.Test.YtmgpgbfgemebbaaGreatDoorM7
import Derived.Test.YtmgpgbfgemebbaaGreatDoorM6
import Derived.Test.YtmgpgbfgemebbaaGreatDoorM8
import Derived.Test.YtmgpgbfgemebbaaGreatDoorM5
set_option linter.all false
namespace Go.Proofs.YtmgpgbfgemebbaaGreatDoor
open Go.RowKit Go.Own
def cntN (x : Nod) (n : Int) : Nat := (x.names.filter fun e => decide (e.2 = n)).length
def cnt (t : List (Int × Nod)) (n : Int) : Nat := (t.map fun p => cntN p.2 n).sum
def NameOk (s : Str) : Prop := s ≠ [] ∧ s.length ≤ 24 ∧ (47 : UInt8) ∉ s ∧ s ≠ [46, 46]
theorem fnd_cons {κ α : Type} [DecidableEq κ] (p : κ × α) (t : List (κ × α)) (x : κ) : fnd (p :: t) x = if p.1 = x then some p.2 else fnd t x := by
 unfold fnd
 rw [List.find?_cons]
 by_cases h : p.1 = x
 ·simp [h]
 ·simp [h]
theorem cnt_map_other (t : List (Int × Nod)) (d : Int) (y : Nod) (n : Int) (h : d ∉ t.map Prod.fst) : (t.map fun p => if p.1 = d then (d, y) else p) = t := by
 have : ∀ p ∈ t, (fun p : Int × Nod => if p.1 = d then (d, y) else p) p = id p := by
  intro p hp
  have : ¬ p.1 = d := by rintro rfl; exact h (List.mem_map_of_mem hp)
  simp [this]
 rw [List.map_congr_left this, List.map_id]
theorem cnt_put {t : List (Int × Nod)} (hk : (t.map Prod.fst).Nodup) {d : Int} {x : Nod} (h : fnd t d = some x) (y : Nod) (n : Int) : cnt (putA t d y) n + cntN x n = cnt t n + cntN y n := by
 have hm : d ∈ t.map Prod.fst := List.mem_map.2 ⟨_, fnd_some h, rfl⟩
 unfold putA
 rw [if_pos hm]
 unfold cnt
 clear hm
 induction t with
 | nil => cases h
 | cons p t ih =>
  rw [List.map_cons, List.nodup_cons] at hk
  rw [fnd_cons] at h
  by_cases hp : p.1 = d
  ·rw [if_pos hp] at h
   cases h
   rw [List.map_cons, cnt_map_other t d y n (by rw [← hp]; exact hk.1), if_pos hp]
   simp only [List.map_cons, List.sum_cons]
   omega
  ·rw [if_neg hp] at h
   have := ih hk.2 h
   simp only [List.map_cons, List.sum_cons, if_neg hp] at this ⊢
   omega
theorem cnt_new {t : List (Int × Nod)} {d : Int} (h : fnd t d = none) (y : Nod) (n : Int) : cnt (putA t d y) n = cnt t n + cntN y n := by
 rw [putA_new _ (fnd_none.1 h)]
 unfold cnt
 simp
theorem cnt_del {t : List (Int × Nod)} (hk : (t.map Prod.fst).Nodup) {d : Int} {x : Nod} (h : fnd t d = some x) (n : Int) : cnt (delA t d) n + cntN x n = cnt t n := by
 unfold cnt delA
 induction t with
 | nil => cases h
 | cons p t ih =>
  rw [List.map_cons, List.nodup_cons] at hk
  rw [fnd_cons] at h
  rw [List.filter_cons]
  by_cases hp : p.1 = d
  ·rw [if_pos hp] at h
   cases h
   rw [if_neg (by simp [hp])]
   have : t.filter (fun q => decide (q.1 ≠ d)) = t := by
    rw [List.filter_eq_self]
    intro q hq
    have : q.1 ≠ d := by rintro e; exact hk.1 (by rw [hp, ← e]; exact List.mem_map_of_mem hq)
    simpa using this
   rw [this, List.map_cons, List.sum_cons]
   omega
  ·rw [if_neg hp] at h
   have := ih hk.2 h
   rw [if_pos (by simp [hp])]
   simp only [List.map_cons, List.sum_cons]
   omega
theorem cntN_le {t : List (Int × Nod)} {d : Int} {x : Nod} (h : fnd t d = some x) (n : Int) : cntN x n ≤ cnt t n := by
 unfold cnt
 have := fnd_some h
 clear h
 induction t with
 | nil => simp at this
 | cons p t ih =>
  rw [List.map_cons, List.sum_cons]
  rcases List.mem_cons.1 this with rfl | h
  ·simp
  ·have := ih h; omega
theorem cntN_pos {x : Nod} {nm : Str} {n : Int} (h : (nm, n) ∈ x.names) : 1 ≤ cntN x n := by
 unfold cntN
 have : (nm, n) ∈ x.names.filter fun e => decide (e.2 = n) := List.mem_filter.2 ⟨h, by simp⟩
 exact List.length_pos_of_mem this
theorem cntN_add {x : Nod} {nm : Str} (hf : fnd x.names nm = none) (z n : Int) : cntN (Tre.dirAdd x nm z) n = cntN x n + if z = n then 1 else 0 := by
 show ((putA x.names nm z).filter _).length = _
 rw [putA_new _ (fnd_none.1 hf), List.filter_append, List.length_append]
 unfold cntN
 congr 1
 by_cases h : z = n <;> simp [h]
theorem cntN_take {x : Nod} (hu : (x.names.map Prod.fst).Nodup) {nm : Str} {z : Int} (hf : fnd x.names nm = some z) (n : Int) : cntN (Tre.dirTake x nm) n + (if z = n then 1 else 0) = cntN x n := by
 show ((delA x.names nm).filter _).length + _ = _
 unfold cntN
 generalize x.names = t at *
 unfold delA
 induction t with
 | nil => cases hf
 | cons p t ih =>
  rw [List.map_cons, List.nodup_cons] at hu
  rw [fnd_cons] at hf
  rw [List.filter_cons]
  by_cases hp : p.1 = nm
  ·rw [if_pos hp] at hf
   cases hf
   rw [if_neg (by simp [hp])]
   have : t.filter (fun q => decide (q.1 ≠ nm)) = t := by
    rw [List.filter_eq_self]
    intro q hq
    have : q.1 ≠ nm := by rintro e; exact hu.1 (by rw [hp, ← e]; exact List.mem_map_of_mem hq)
    simpa using this
   rw [this, List.filter_cons]
   by_cases h : p.2 = n <;> simp [h]
  ·rw [if_neg hp] at hf
   have := ih hu.2 hf
   rw [if_pos (by simp [hp]), List.filter_cons, List.filter_cons]
   by_cases h : p.2 = n <;> simp [h] at this ⊢ <;> omega
theorem cnt_none {t : List (Int × Nod)} {n : Int} (h : ∀ p ∈ t, ∀ e ∈ p.2.names, e.2 ≠ n) : cnt t n = 0 := by
 unfold cnt
 induction t with
 | nil => rfl
 | cons p t ih =>
  rw [List.map_cons, List.sum_cons, ih fun q hq => h q (List.mem_cons_of_mem _ hq)]
  have : p.2.names.filter (fun e => decide (e.2 = n)) = [] := by
   rw [List.filter_eq_nil_iff]
   intro e he
   simpa using h p List.mem_cons_self e he
  unfold cntN
  rw [this]
  rfl
theorem cnt_has {t : List (Int × Nod)} {d : Int} {x : Nod} (h : fnd t d = some x) {nm : Str} {n : Int} (hm : (nm, n) ∈ x.names) : 1 ≤ cnt t n := Nat.le_trans (cntN_pos hm) (cntN_le h n)
structure Ndo (t : List (Int × Nod)) (rk : Int → Nat) (k : Nat) (z n : Int) (x : Nod) : Prop where
 kind : x.kind = 1 ∨ x.kind = 2 ∨ x.kind = 3
 file : x.kind ≠ 2 → x.names = [] ∧ x.above = 0 ∧ rk n = 20
 ents : ∀ e ∈ x.names, NameOk e.1 ∧ rk n < 20 ∧ ∃ y, fnd t e.2 = some y ∧ (y.kind = 2 → y.above = n ∧ rk e.2 = rk n + 1)
 uniq : (x.names.map Prod.fst).Nodup
 size : x.data.length ≤ 100000 ∧ x.wr.length ≤ 100000 ∧ x.names.length ≤ k ∧ 0 ≤ x.most ∧ x.most ≤ k ∧ 0 ≤ x.links ∧ x.links ≤ k + 1
 root : n = 1 → x.kind = 2 ∧ x.above = 0 ∧ x.links = 1 ∧ cnt t n = 0
 links : n ≠ z → n ≠ 1 → x.links = (cnt t n : Int)
 above : n ≠ z → x.above ≠ 0 → x.kind = 2 ∧ n ≠ 1 ∧ x.links = 1 ∧ ∃ y nm, fnd t x.above = some y ∧ (nm, n) ∈ y.names
 loose : n ≠ z → x.kind = 2 → n ≠ 1 → x.above = 0 → x.names = [] ∧ x.links = 0
structure Gx (t : List (Int × Nod)) (rk : Int → Nat) (k : Nat) (z : Int) : Prop where
 keys : (t.map Prod.fst).Nodup
 has1 : ∃ x, fnd t 1 = some x
 rk1 : rk 1 = 0
 rk20 : ∀ n, rk n ≤ 20
 nod : ∀ n x, fnd t n = some x → Ndo t rk k z n x
 zne : z ≠ 1
 zero : fnd t 0 = none
theorem putA_nodup {κ α : Type} [DecidableEq κ] {t : List (κ × α)} (hk : (t.map Prod.fst).Nodup) (x : κ) (a : α) : ((putA t x a).map Prod.fst).Nodup := by
 unfold putA
 by_cases h : x ∈ t.map Prod.fst
 ·rw [if_pos h, putA_keys t x a h]; exact hk
 ·rw [if_neg h, List.map_append, List.nodup_append]
  exact ⟨hk, by simp, by rintro y hy z hz rfl; simp at hz; subst hz; exact h hy⟩
theorem delA_nodup {κ α : Type} [DecidableEq κ] {t : List (κ × α)} (hk : (t.map Prod.fst).Nodup) (x : κ) : ((delA t x).map Prod.fst).Nodup := by
 unfold delA
 exact hk.sublist (List.Sublist.map _ List.filter_sublist)
variable {t : List (Int × Nod)} {rk : Int → Nat} {k : Nat} {z : Int}
theorem Gx.mono (h : Gx t rk k z) {k' : Nat} (hk : k ≤ k') : Gx t rk k' z where
 keys := h.keys
 has1 := h.has1
 rk1 := h.rk1
 rk20 := h.rk20
 zne := h.zne
 zero := h.zero
 nod n x hx := by
  have H := h.nod n x hx
  have hs := H.size
  exact ⟨H.kind, H.file, H.ents, H.uniq, ⟨hs.1, hs.2.1, by omega, hs.2.2.2.1, by omega, by omega, by omega⟩, H.root, H.links, H.above, H.loose⟩
theorem Gx.opened (h : Gx t rk k 0) (hz : z ≠ 1) : Gx t rk k z where
 keys := h.keys
 has1 := h.has1
 rk1 := h.rk1
 rk20 := h.rk20
 zne := hz
 zero := h.zero
 nod n x hx := by
  have H := h.nod n x hx
  have hn : n ≠ 0 := by rintro rfl; rw [h.zero] at hx; cases hx
  exact ⟨H.kind, H.file, H.ents, H.uniq, H.size, H.root, fun _ => H.links hn, fun _ => H.above hn, fun _ => H.loose hn⟩
theorem Gx.closed (h : Gx t rk k z) {y : Nod} (hy : fnd t z = some y) (h1 : y.links = (cnt t z : Int))
  (h2 : y.above ≠ 0 → y.kind = 2 ∧ y.links = 1 ∧ ∃ d nm, fnd t y.above = some d ∧ (nm, z) ∈ d.names) (h3 : y.kind = 2 → y.above = 0 → y.names = [] ∧ y.links = 0) : Gx t rk k 0 where
 keys := h.keys
 has1 := h.has1
 rk1 := h.rk1
 rk20 := h.rk20
 zne := by decide
 zero := h.zero
 nod n x hx := by
  have H := h.nod n x hx
  by_cases hn : n = z
  ·subst hn
   rw [hy] at hx
   cases hx
   exact ⟨H.kind, H.file, H.ents, H.uniq, H.size, H.root, fun _ _ => h1, fun _ ha => ⟨(h2 ha).1, h.zne, (h2 ha).2⟩, fun _ hk _ ha => h3 hk ha⟩
  ·exact ⟨H.kind, H.file, H.ents, H.uniq, H.size, H.root, fun _ => H.links hn, fun _ => H.above hn, fun _ => H.loose hn⟩
theorem Gx.fix (h : Gx t rk k z) {y : Nod} (hz : fnd t z = some y) (y' : Nod) (hk : y'.kind = y.kind) (hn : y'.names = y.names) (hm : y'.most = y.most)
  (hs : y'.data.length ≤ 100000 ∧ y'.wr.length ≤ 100000 ∧ 0 ≤ y'.links ∧ y'.links ≤ k + 1) (ha : y.kind ≠ 2 → y'.above = 0) (hc : y.kind = 2 → cnt t z = 0) : Gx (putA t z y') rk k z ∧ ∀ n, cnt (putA t z y') n = cnt t n := by
 have hcn : ∀ n, cnt (putA t z y') n = cnt t n := by
  intro n
  have h1 := cnt_put h.keys hz y' n
  have h2 : cntN y' n = cntN y n := by unfold cntN; rw [hn]
  omega
 have hf : ∀ n, fnd (putA t z y') n = if n = z then some y' else fnd t n := fun n => fnd_putA
 refine ⟨⟨putA_nodup h.keys _ _, ?_, h.rk1, h.rk20, ?_, h.zne, ?_⟩, hcn⟩
 ·obtain ⟨x, hx⟩ := h.has1
  exact ⟨x, by rw [hf, if_neg (fun e => h.zne e.symm), hx]⟩
 ·intro n x hx
  rw [hf] at hx
  have hents : ∀ e : Str × Int, ∀ m, (∃ y, fnd t e.2 = some y ∧ (y.kind = 2 → y.above = m ∧ rk e.2 = rk m + 1)) → (∀ x, fnd t m = some x → e ∈ x.names) → (∃ x, fnd t m = some x) → ∃ y, fnd (putA t z y') e.2 = some y ∧ (y.kind = 2 → y.above = m ∧ rk e.2 = rk m + 1) := by
   rintro e m ⟨u, hu, hu2⟩ hin ⟨xm, hxm⟩
   rw [hf]
   by_cases he : e.2 = z
   ·rw [if_pos he]
    refine ⟨y', rfl, fun h2 => ?_⟩
    rw [hk] at h2
    have h3 := hc h2
    have h4 : 1 ≤ cnt t z := cnt_has hxm (nm := e.1) (by rw [← he]; exact hin xm hxm)
    omega
   ·rw [if_neg he]
    exact ⟨u, hu, hu2⟩
  by_cases hnz : n = z
  ·rw [if_pos hnz] at hx
   cases hx
   subst hnz
   have H := h.nod _ _ hz
   have hs2 := H.size
   refine ⟨by rw [hk]; exact H.kind, ?_, ?_, by rw [hn]; exact H.uniq, ⟨hs.1, hs.2.1, by rw [hn]; exact hs2.2.2.1, by rw [hm]; exact hs2.2.2.2.1, by rw [hm]; exact hs2.2.2.2.2.1, hs.2.2.1, hs.2.2.2⟩, fun e => absurd e h.zne, fun e => absurd rfl e, fun e => absurd rfl e, fun e => absurd rfl e⟩
   ·intro h2
    rw [hk] at h2
    have := H.file h2
    exact ⟨by rw [hn]; exact this.1, ha h2, this.2.2⟩
   ·intro e he
    rw [hn] at he
    obtain ⟨h1, h2, h3⟩ := H.ents e he
    exact ⟨h1, h2, hents e _ h3 (fun x hx => by rw [hz] at hx; cases hx; exact he) ⟨_, hz⟩⟩
  ·rw [if_neg hnz] at hx
   have H := h.nod _ _ hx
   refine ⟨H.kind, H.file, ?_, H.uniq, H.size, ?_, ?_, ?_, H.loose⟩
   ·intro e he
    obtain ⟨h1, h2, h3⟩ := H.ents e he
    exact ⟨h1, h2, hents e _ h3 (fun x' hx' => by rw [hx] at hx'; cases hx'; exact he) ⟨_, hx⟩⟩
   ·intro e
    have := H.root e
    rw [hcn]
    exact this
   ·intro e1 e2
    rw [hcn]
    exact H.links e1 e2
   ·intro e1 e2
    obtain ⟨h1, h2, h3, u, nm, hu, hm2⟩ := H.above e1 e2
    refine ⟨h1, h2, h3, ?_⟩
    by_cases he : x.above = z
    ·refine ⟨y', nm, by rw [hf, if_pos he], ?_⟩
     rw [he, hz] at hu
     cases hu
     rw [hn]
     exact hm2
    ·exact ⟨u, nm, by rw [hf, if_neg he]; exact hu, hm2⟩
 ·rw [hf, if_neg ?_, h.zero]
  rintro rfl
  rw [h.zero] at hz
  cases hz
theorem Gx.dele (h : Gx t rk k z) {d : Int} {x : Nod} (hd : fnd t d = some x) {nm : Str} (hf0 : fnd x.names nm = some z) (hdz : d ≠ z) :
  Gx (putA t d (Tre.dirTake x nm)) rk k z ∧ ∀ n, cnt (putA t d (Tre.dirTake x nm)) n + (if z = n then 1 else 0) = cnt t n := by
 have HD := h.nod _ _ hd
 have hcn : ∀ n, cnt (putA t d (Tre.dirTake x nm)) n + (if z = n then 1 else 0) = cnt t n := by
  intro n
  have h1 := cnt_put h.keys hd (Tre.dirTake x nm) n
  have h2 := cntN_take HD.uniq hf0 n
  omega
 have hf : ∀ n, fnd (putA t d (Tre.dirTake x nm)) n = if n = d then some (Tre.dirTake x nm) else fnd t n := fun n => fnd_putA
 have hsub : ∀ e ∈ (Tre.dirTake x nm).names, e ∈ x.names := fun e he => (List.mem_filter.1 he).1
 have hents : ∀ (c m : Int), (∃ y, fnd t c = some y ∧ (y.kind = 2 → y.above = m ∧ rk c = rk m + 1)) → ∃ y, fnd (putA t d (Tre.dirTake x nm)) c = some y ∧ (y.kind = 2 → y.above = m ∧ rk c = rk m + 1) := by
  rintro c m ⟨u, hu, hu2⟩
  rw [hf]
  by_cases hc : c = d
  ·rw [if_pos hc]
   rw [hc, hd] at hu
   cases hu
   exact ⟨_, rfl, hu2⟩
  ·rw [if_neg hc]
   exact ⟨u, hu, hu2⟩
 have habove : ∀ (m : Int) (y : Nod), m ≠ z → (∃ u nm', fnd t y.above = some u ∧ (nm', m) ∈ u.names) → ∃ u nm', fnd (putA t d (Tre.dirTake x nm)) y.above = some u ∧ (nm', m) ∈ u.names := by
  rintro m y hmz ⟨u, nm', hu, hm⟩
  by_cases he : y.above = d
  ·refine ⟨_, nm', by rw [hf, if_pos he], ?_⟩
   rw [he, hd] at hu
   cases hu
   refine List.mem_filter.2 ⟨hm, ?_⟩
   have : nm' ≠ nm := by
    rintro rfl
    rw [fnd_mem HD.uniq hm] at hf0
    cases hf0
    exact hmz rfl
   simpa using this
  ·exact ⟨u, nm', by rw [hf, if_neg he]; exact hu, hm⟩
 refine ⟨⟨putA_nodup h.keys _ _, ?_, h.rk1, h.rk20, ?_, h.zne, ?_⟩, hcn⟩
 ·rw [hf]
  split
  ·exact ⟨_, rfl⟩
  ·exact h.has1
 ·intro n y hy
  rw [hf] at hy
  by_cases hnd : n = d
  ·rw [if_pos hnd] at hy
   cases hy
   subst hnd
   have hs := HD.size
   refine ⟨HD.kind, ?_, ?_, ?_, ⟨hs.1, hs.2.1, Nat.le_trans (delA_le _ _) hs.2.2.1, hs.2.2.2⟩, ?_, ?_, ?_, ?_⟩
   ·intro h2
    have := HD.file h2
    exact ⟨by show delA x.names nm = []; rw [this.1]; rfl, this.2⟩
   ·intro e he
    obtain ⟨h1, h2, h3⟩ := HD.ents e (hsub e he)
    exact ⟨h1, h2, hents _ _ h3⟩
   ·exact delA_nodup HD.uniq nm
   ·intro e
    have := HD.root e
    have hc := hcn n
    exact ⟨this.1, this.2.1, this.2.2.1, by omega⟩
   ·intro e1 e2
    have hc := hcn n
    rw [if_neg (fun e => e1 e.symm)] at hc
    have := HD.links e1 e2
    show x.links = _
    rw [this]
    omega
   ·intro e1 e2
    obtain ⟨h1, h2, h3, h4⟩ := HD.above e1 e2
    exact ⟨h1, h2, h3, habove n x e1 h4⟩
   ·intro e1 e2 e3 e4
    have := HD.loose e1 e2 e3 e4
    exact ⟨by show delA x.names nm = []; rw [this.1]; rfl, this.2⟩
  ·rw [if_neg hnd] at hy
   have H := h.nod _ _ hy
   refine ⟨H.kind, H.file, ?_, H.uniq, H.size, ?_, ?_, ?_, H.loose⟩
   ·intro e he
    obtain ⟨h1, h2, h3⟩ := H.ents e he
    exact ⟨h1, h2, hents _ _ h3⟩
   ·intro e
    have := H.root e
    have hc := hcn n
    exact ⟨this.1, this.2.1, this.2.2.1, by omega⟩
   ·intro e1 e2
    have hc := hcn n
    rw [if_neg (fun e => e1 e.symm)] at hc
    rw [H.links e1 e2]
    omega
   ·intro e1 e2
    obtain ⟨h1, h2, h3, h4⟩ := H.above e1 e2
    exact ⟨h1, h2, h3, habove n y e1 h4⟩
 ·rw [hf, if_neg ?_, h.zero]
  rintro rfl
  rw [h.zero] at hd
  cases hd
theorem Gx.putE (h : Gx t rk k z) {d : Int} {x : Nod} (hd : fnd t d = some x) (hk2 : x.kind = 2) (hdz : d ≠ z) (hat : d = 1 ∨ x.above ≠ 0) {nm : Str} (hn : NameOk nm) (hf0 : fnd x.names nm = none) (hr : rk d < 20)
  {y : Nod} (hz : fnd t z = some y) (hy : y.kind = 2 → y.above = d ∧ rk z = rk d + 1) :
  Gx (putA t d (Tre.dirAdd x nm z)) rk (k + 1) z ∧ ∀ n, cnt (putA t d (Tre.dirAdd x nm z)) n = cnt t n + (if z = n then 1 else 0) := by
 have HD := h.nod _ _ hd
 have hcn : ∀ n, cnt (putA t d (Tre.dirAdd x nm z)) n = cnt t n + (if z = n then 1 else 0) := by
  intro n
  have h1 := cnt_put h.keys hd (Tre.dirAdd x nm z) n
  have h2 := cntN_add hf0 z n
  omega
 have hf : ∀ n, fnd (putA t d (Tre.dirAdd x nm z)) n = if n = d then some (Tre.dirAdd x nm z) else fnd t n := fun n => fnd_putA
 have hnames : (Tre.dirAdd x nm z).names = x.names ++ [(nm, z)] := putA_new _ (fnd_none.1 hf0)
 have hents : ∀ (c m : Int), (∃ y, fnd t c = some y ∧ (y.kind = 2 → y.above = m ∧ rk c = rk m + 1)) → ∃ y, fnd (putA t d (Tre.dirAdd x nm z)) c = some y ∧ (y.kind = 2 → y.above = m ∧ rk c = rk m + 1) := by
  rintro c m ⟨u, hu, hu2⟩
  rw [hf]
  by_cases hc : c = d
  ·rw [if_pos hc]
   rw [hc, hd] at hu
   cases hu
   exact ⟨_, rfl, hu2⟩
  ·rw [if_neg hc]
   exact ⟨u, hu, hu2⟩
 have habove : ∀ (m a : Int), (∃ u nm', fnd t a = some u ∧ (nm', m) ∈ u.names) → ∃ u nm', fnd (putA t d (Tre.dirAdd x nm z)) a = some u ∧ (nm', m) ∈ u.names := by
  rintro m a ⟨u, nm', hu, hm⟩
  by_cases he : a = d
  ·refine ⟨_, nm', by rw [hf, if_pos he], ?_⟩
   rw [he, hd] at hu
   cases hu
   rw [hnames]
   exact List.mem_append_left _ hm
  ·exact ⟨u, nm', by rw [hf, if_neg he]; exact hu, hm⟩
 have hlen : (Tre.dirAdd x nm z).names.length = x.names.length + 1 := by rw [hnames]; simp
 refine ⟨⟨putA_nodup h.keys _ _, ?_, h.rk1, h.rk20, ?_, h.zne, ?_⟩, hcn⟩
 ·rw [hf]
  split
  ·exact ⟨_, rfl⟩
  ·exact h.has1
 ·intro n u hu
  rw [hf] at hu
  by_cases hnd : n = d
  ·rw [if_pos hnd] at hu
   cases hu
   subst hnd
   have hs := HD.size
   refine ⟨HD.kind, fun h2 => absurd hk2 h2, ?_, ?_, ⟨hs.1, hs.2.1, by rw [hlen]; omega, ?_, ?_, hs.2.2.2.2.2.1, ?_⟩, ?_, ?_, ?_, ?_⟩
   ·intro e he
    rw [hnames] at he
    rcases List.mem_append.1 he with he | he
    ·obtain ⟨h1, h2, h3⟩ := HD.ents e he
     exact ⟨h1, h2, hents _ _ h3⟩
    ·rw [List.mem_singleton.1 he]
     refine ⟨hn, hr, hents _ _ ⟨y, hz, hy⟩⟩
   ·exact putA_nodup HD.uniq nm z
   ·show 0 ≤ max x.most ((putA x.names nm z).length : Int)
    have := hs.2.2.2.1
    omega
   ·show max x.most ((Tre.dirAdd x nm z).names.length : Int) ≤ ((k + 1 : Nat) : Int)
    rw [hlen]
    have h1 := hs.2.2.2.2.1
    have h2 := hs.2.2.1
    omega
   ·have := hs.2.2.2.2.2.2
    show x.links ≤ _
    omega
   ·intro e
    have := HD.root e
    have hc := hcn n
    rw [if_neg (fun e' => h.zne (e'.trans e))] at hc
    exact ⟨this.1, this.2.1, this.2.2.1, by omega⟩
   ·intro e1 e2
    have hc := hcn n
    rw [if_neg (fun e => e1 e.symm)] at hc
    rw [hc]
    exact HD.links e1 e2
   ·intro e1 e2
    obtain ⟨h1, h2, h3, h4⟩ := HD.above e1 e2
    exact ⟨h1, h2, h3, habove _ _ h4⟩
   ·intro e1 e2 e3 e4
    exact absurd e4 (hat.resolve_left e3)
  ·rw [if_neg hnd] at hu
   have H := (h.mono (Nat.le_succ k)).nod _ _ hu
   refine ⟨H.kind, H.file, ?_, H.uniq, H.size, ?_, ?_, ?_, H.loose⟩
   ·intro e he
    obtain ⟨h1, h2, h3⟩ := H.ents e he
    exact ⟨h1, h2, hents _ _ h3⟩
   ·intro e
    have := H.root e
    have hc := hcn n
    rw [if_neg (fun e' => h.zne (e'.trans e))] at hc
    exact ⟨this.1, this.2.1, this.2.2.1, by omega⟩
   ·intro e1 e2
    have hc := hcn n
    rw [if_neg (fun e => e1 e.symm)] at hc
    rw [hc]
    exact H.links e1 e2
   ·intro e1 e2
    obtain ⟨h1, h2, h3, h4⟩ := H.above e1 e2
    exact ⟨h1, h2, h3, habove _ _ h4⟩
 ·rw [hf, if_neg ?_, h.zero]
  rintro rfl
  rw [h.zero] at hd
  cases hd
theorem Gx.rerank (h : Gx t rk k z) (rk' : Int → Nat) (h1 : rk' 1 = 0) (h20 : ∀ n, rk' n ≤ 20) (hf : ∀ n x, fnd t n = some x → x.kind ≠ 2 → rk' n = 20)
  (he : ∀ n x, fnd t n = some x → ∀ e ∈ x.names, rk' n < 20 ∧ ((Tre.mk t 0 []).at_ e.2).kind = 2 → rk' e.2 = rk' n + 1) (hl : ∀ n x, fnd t n = some x → x.names ≠ [] → rk' n < 20) : Gx t rk' k z where
 keys := h.keys
 has1 := h.has1
 rk1 := h1
 rk20 := h20
 zne := h.zne
 zero := h.zero
 nod n x hx := by
  have H := h.nod n x hx
  refine ⟨H.kind, fun h2 => ⟨(H.file h2).1, (H.file h2).2.1, hf n x hx h2⟩, ?_, H.uniq, H.size, H.root, H.links, H.above, H.loose⟩
  intro e hm
  obtain ⟨a1, a2, y, hy, a3⟩ := H.ents e hm
  have hlt : rk' n < 20 := hl n x hx (fun e0 => by rw [e0] at hm; cases hm)
  refine ⟨a1, hlt, y, hy, fun h2 => ⟨(a3 h2).1, he n x hx e hm ⟨hlt, ?_⟩⟩⟩
  show ((fnd t e.2).getD nod0).kind = 2
  rw [hy]
  exact h2
theorem Gx.newN (h : Gx t rk k 0) (hz : fnd t z = none) (hz1 : z ≠ 1) (hz0 : z ≠ 0) (x : Nod) (hn : x.names = []) (hk : x.kind = 1 ∨ x.kind = 2 ∨ x.kind = 3) (ha : x.kind ≠ 2 → x.above = 0)
  (hs : x.data.length ≤ 100000 ∧ x.wr.length ≤ 100000 ∧ 0 ≤ x.most ∧ x.most ≤ k ∧ 0 ≤ x.links ∧ x.links ≤ k + 1) (r : Nat) (hr : r ≤ 20) (hr2 : x.kind ≠ 2 → r = 20) :
  Gx (putA t z x) (fun n => if n = z then r else rk n) k z ∧ (∀ n, cnt (putA t z x) n = cnt t n) ∧ cnt t z = 0 := by
 have hcn : ∀ n, cnt (putA t z x) n = cnt t n := by
  intro n
  rw [cnt_new hz]
  unfold cntN
  rw [hn]
  rfl
 have hf : ∀ n, fnd (putA t z x) n = if n = z then some x else fnd t n := fun n => fnd_putA
 have hne : ∀ n y, fnd t n = some y → n ≠ z := by rintro n y hy rfl; rw [hz] at hy; cases hy
 have hne0 : ∀ n y, fnd t n = some y → n ≠ 0 := by rintro n y hy rfl; rw [h.zero] at hy; cases hy
 refine ⟨⟨putA_nodup h.keys _ _, ?_, ?_, ?_, ?_, hz1, ?_⟩, hcn, ?_⟩
 ·obtain ⟨u, hu⟩ := h.has1
  exact ⟨u, by rw [hf, if_neg (fun e => hz1 e.symm), hu]⟩
 ·show (if (1:Int) = z then r else rk 1) = 0
  rw [if_neg (fun e => hz1 e.symm)]
  exact h.rk1
 ·intro n
  show (if n = z then r else rk n) ≤ 20
  split
  ·exact hr
  ·exact h.rk20 n
 ·intro n u hu
  rw [hf] at hu
  by_cases hnz : n = z
  ·rw [if_pos hnz] at hu
   cases hu
   subst hnz
   refine ⟨hk, fun h2 => ⟨hn, ha h2, by rw [if_pos rfl]; exact hr2 h2⟩, by rw [hn]; simp, by rw [hn]; exact List.nodup_nil, ⟨hs.1, hs.2.1, by rw [hn]; simp, hs.2.2.1, hs.2.2.2.1, hs.2.2.2.2⟩, fun e => absurd e hz1, fun e => absurd rfl e, fun e => absurd rfl e, fun e => absurd rfl e⟩
  ·rw [if_neg hnz] at hu
   have H := h.nod _ _ hu
   have hn0 := hne0 _ _ hu
   refine ⟨H.kind, fun h2 => ⟨(H.file h2).1, (H.file h2).2.1, by rw [if_neg hnz]; exact (H.file h2).2.2⟩, ?_, H.uniq, H.size, fun e => by rw [hcn]; exact H.root e, fun _ e2 => by rw [hcn]; exact H.links hn0 e2, ?_, fun _ => H.loose hn0⟩
   ·intro e he
    obtain ⟨h1, h2, y, hy, h3⟩ := H.ents e he
    rw [if_neg hnz]
    refine ⟨h1, h2, y, by rw [hf, if_neg (hne _ _ hy)]; exact hy, ?_⟩
    rw [if_neg (hne _ _ hy)]
    exact h3
   ·intro _ e2
    obtain ⟨h1, h2, h3, y, nm, hy, h4⟩ := H.above hn0 e2
    exact ⟨h1, h2, h3, y, nm, by rw [hf, if_neg (hne _ _ hy)]; exact hy, h4⟩
 ·rw [hf, if_neg (fun e => hz0 e.symm), h.zero]
 ·refine cnt_none fun p hp e he e0 => ?_
  obtain ⟨_, _, y, hy, _⟩ := (h.nod p.1 p.2 (fnd_mem h.keys hp)).ents e he
  exact hne _ _ hy e0
theorem Gx.delN (h : Gx t rk k 0) {n0 : Int} {x0 : Nod} (hx0 : fnd t n0 = some x0) (h1 : n0 ≠ 1) (hl : x0.links = 0) : Gx (delA t n0) rk k 0 := by
 have hn0 : n0 ≠ 0 := by rintro rfl; rw [h.zero] at hx0; cases hx0
 have H0 := h.nod _ _ hx0
 have hnm : x0.names = [] := by
  by_cases h2 : x0.kind = 2
  ·by_cases ha : x0.above = 0
   ·exact (H0.loose hn0 h2 h1 ha).1
   ·have := (H0.above hn0 ha).2.2.1
    omega
  ·exact (H0.file h2).1
 have hc0 : cnt t n0 = 0 := by
  have := H0.links hn0 h1
  omega
 have hcn : ∀ n, cnt (delA t n0) n = cnt t n := by
  intro n
  have h2 := cnt_del h.keys hx0 n
  have : cntN x0 n = 0 := by unfold cntN; rw [hnm]; rfl
  omega
 have hf : ∀ n, n ≠ n0 → fnd (delA t n0) n = fnd t n := fun n hn => fnd_delA hn
 have hf0 : fnd (delA t n0) n0 = none := by
  rw [fnd_none]
  intro hm
  obtain ⟨p, hp, e⟩ := List.mem_map.1 hm
  have := (List.mem_filter.1 hp).2
  simp [e] at this
 have hnoent : ∀ d y, fnd t d = some y → ∀ e ∈ y.names, e.2 ≠ n0 := by
  rintro d y hy e he rfl
  have := cnt_has hy (nm := e.1) (n := e.2) he
  omega
 refine ⟨delA_nodup h.keys _, ?_, h.rk1, h.rk20, ?_, h.zne, ?_⟩
 ·obtain ⟨u, hu⟩ := h.has1
  exact ⟨u, by rw [hf _ (fun e => h1 e.symm)]; exact hu⟩
 ·intro n u hu
  by_cases hn : n = n0
  ·rw [hn, hf0] at hu; cases hu
  rw [hf _ hn] at hu
  have H := h.nod _ _ hu
  refine ⟨H.kind, H.file, ?_, H.uniq, H.size, fun e => by rw [hcn]; exact H.root e, fun e1 e2 => by rw [hcn]; exact H.links e1 e2, ?_, H.loose⟩
  ·intro e he
   obtain ⟨a1, a2, y, hy, a3⟩ := H.ents e he
   exact ⟨a1, a2, y, by rw [hf _ (hnoent _ _ hu e he)]; exact hy, a3⟩
  ·intro e1 e2
   obtain ⟨a1, a2, a3, y, nm, hy, a4⟩ := H.above e1 e2
   refine ⟨a1, a2, a3, y, nm, ?_, a4⟩
   rw [hf]
   ·exact hy
   ·intro e
    rw [e, hx0] at hy
    cases hy
    rw [hnm] at a4
    cases a4
 ·rw [hf _ (fun e => hn0 e.symm), h.zero]
end Go.Proofs.YtmgpgbfgemebbaaGreatDoor
namespace Go.Proofs.YtmgpgbfgemebbaaGreatDoor
open Go.RowKit Go.Own
def spl : Str → List Str
 | [] => [[]]
 | c :: l => if c = 47 then [] :: spl l else match spl l with
  | h :: t => (c :: h) :: t
  | [] => [[c]]
theorem index1_cons (b : UInt8) (l : List UInt8) : Lib.index (b :: l) [47] = if b = 47 then 0 else if Lib.index l [47] == -1 then -1 else Lib.index l [47] + 1 := by
 rw [Lib.index]
 by_cases h : b = 47
 ·subst h; simp [List.isPrefixOf]
 ·have : ([47] : List UInt8).isPrefixOf (b :: l) = false := by simp [List.isPrefixOf, Ne.symm h]
  rw [this, if_neg h]
  simp
theorem splitK_spl : ∀ s : List UInt8, Lib.splitK [47] 0 (s.count 47) s = spl s
 | [] => rfl
 | b :: l => by
  have ih := splitK_spl l
  by_cases h : b = 47
  ·subst h
   rw [List.count_cons_self]
   unfold Lib.splitK
   rw [index1_cons, if_pos rfl]
   simp only [spl, if_true]
   rw [if_neg (by decide)]
   simp only [Int.toNat_zero, List.take_zero, List.length_cons, List.length_nil, List.drop_succ_cons, List.drop_zero, Nat.zero_add]
   rw [ih]
  ·rw [List.count_cons_of_ne (by simpa using fun e => h e)]
   generalize l.count 47 = n at *
   have e2 : spl (b :: l) = match spl l with | h :: t => (b :: h) :: t | [] => [[b]] := by rw [spl, if_neg h]
   rw [e2, ← ih]
   cases n with
   | zero => rfl
   | succ m =>
    unfold Lib.splitK
    rw [index1_cons, if_neg h]
    by_cases hm : Lib.index l [47] = -1
    ·rw [hm]; rfl
    ·have hge := Lib.index_ge l [47]
     have h1 : (Lib.index l [47] == -1) = false := by simpa using hm
     have h2 : (Lib.index l [47] + 1 == -1) = false := by simp; omega
     have h3 : (Lib.index l [47] + 1).toNat = (Lib.index l [47]).toNat + 1 := by omega
     rw [h1]
     simp only [Bool.false_eq_true, if_false]
     rw [h2, h3]
     simp only [Bool.false_eq_true, if_false, Nat.add_zero, List.length_cons, List.length_nil, Nat.zero_add, List.take_succ_cons, List.drop_succ_cons]
theorem pieces_spl (s : Str) : pieces s = spl s := by
 unfold pieces
 rw [Lib.splitB_data]
 have e : (sB s).data.toList = s := sB_toList s
 show Lib.splitK (sB [47]).data.toList 0 (Lib.count (sB s).data.toList (sB [47]).data.toList) (sB s).data.toList = _
 rw [e, sB_toList, Lib.count_one]
 exact splitK_spl s
theorem spl_no47 : ∀ (s : Str), ∀ p ∈ spl s, (47 : UInt8) ∉ p
 | [], p, hp => by simp [spl] at hp; subst hp; simp
 | c :: l, p, hp => by
  have ih := spl_no47 l
  unfold spl at hp
  by_cases h : c = 47
  ·rw [if_pos h] at hp
   rcases List.mem_cons.1 hp with rfl | hp
   ·simp
   ·exact ih p hp
  ·rw [if_neg h] at hp
   generalize spl l = q at *
   cases q with
   | nil => simp at hp; subst hp; simp; exact fun e => h e.symm
   | cons x t =>
    simp only at hp
    rcases List.mem_cons.1 hp with rfl | hp
    ·intro hm
     rcases List.mem_cons.1 hm with e | hm
     ·exact h e.symm
     ·exact ih x List.mem_cons_self hm
    ·exact ih p (List.mem_cons_of_mem _ hp)
def PartOk (s : Str) : Prop := s ≠ [] ∧ s ≠ [46] ∧ s.length ≤ 24 ∧ (47 : UInt8) ∉ s
theorem partsL_ok : ∀ (ps acc l : List Str), (∀ p ∈ ps, (47 : UInt8) ∉ p) → (∀ p ∈ acc, PartOk p) → partsL ps acc = some l → ∀ p ∈ l, PartOk p
 | [], acc, l, _, ha, h => by cases h; exact ha
 | q :: ps, acc, l, hps, ha, h => by
  unfold partsL at h
  have hps' : ∀ p ∈ ps, (47 : UInt8) ∉ p := fun p hp => hps p (List.mem_cons_of_mem _ hp)
  by_cases h1 : skipP q = true
  ·rw [if_pos h1] at h; exact partsL_ok ps acc l hps' ha h
  ·rw [if_neg h1] at h
   by_cases h2 : 24 < q.length
   ·rw [if_pos h2] at h; cases h
   ·rw [if_neg h2] at h
    refine partsL_ok ps _ l hps' ?_ h
    intro p hp
    rcases List.mem_append.1 hp with hp | hp
    ·exact ha p hp
    ·rw [List.mem_singleton.1 hp]
     unfold skipP at h1
     simp only [Bool.or_eq_true, beq_iff_eq, not_or] at h1
     exact ⟨h1.1, h1.2, by omega, hps q List.mem_cons_self⟩
theorem partsM_ok (s : Str) : ∀ p ∈ (partsM s).1, PartOk p := by
 unfold partsM
 split
 ·simp
 ·rename_i l hl
  exact partsL_ok _ _ _ (by rw [pieces_spl]; exact spl_no47 s) (by simp) hl
theorem splitM_ok (p : Str) : ∀ q ∈ (splitM p).1, PartOk q := by
 unfold splitM
 split
 ·simp
 ·split
  ·simp
  ·exact partsM_ok p
theorem lastM_ok (p : Str) (h : (lastM p).2.2 = 0) : PartOk (lastM p).2.1 ∧ (lastM p).2.1 ≠ [46, 46] := by
 unfold lastM at *
 by_cases h1 : (splitM p).2 ≠ 0
 ·rw [if_pos h1] at h; exact absurd h h1
 ·rw [if_neg h1] at h ⊢
  cases hg : (splitM p).1.getLast? with
  | none => rw [hg] at h; simp at h
  | some x =>
   rw [hg] at h
   simp only at h ⊢
   by_cases h2 : x = [46, 46]
   ·rw [if_pos h2] at h; simp at h
   ·rw [if_neg h2]
    exact ⟨splitM_ok p x (List.mem_of_getLast? hg), h2⟩
end Go.Proofs.YtmgpgbfgemebbaaGreatDoor
namespace Go.Proofs.YtmgpgbfgemebbaaGreatDoor
open Go.RowKit Go.Own
def KidOk (S : Tre) (s : Spt) : Prop := ∃ d x, fnd S.nodes s.dir = some d ∧ d.kind = 2 ∧ fnd d.names s.name = some s.node ∧ fnd S.nodes s.node = some x ∧ s.dir ≠ s.node ∧ s.name.length ≤ 1000000 ∧ (-1000000 ≤ x.links ∧ x.links < 1000000) ∧ x.names.length ≤ 1000000
theorem Trc.node {w : World} {L : List HP} {q : Nat} {S : Tre} {n : Int} {x : Nod} (h : Has w (Trc q S :: L)) (hn : fnd S.nodes n = some x) :
  ∃ (m b : Nat) (nm : Option Nat) (dv : Value), (w.cell? ⟨q, 0, none⟩ = some (.map (some m)) ∧ (Instr.lookup tNo (.map (some m)) (.int .i64 n) false).run Tryz.prog w = .ok (.pointer (some ⟨b, 0, none⟩)) w) ∧ w.cell? ⟨b, 0, none⟩ = some (.int .i64 x.kind) ∧ (w.cell? ⟨b, 1, none⟩ = some dv ∧ Rd w dv 1 x.data.length (bc x.data)) ∧ w.cell? ⟨b, 3, none⟩ = some (.map nm) ∧ (Builtin.len_ #[tNm] 3 #[.map nm]).run Tryz.prog w = .ok (.int .i64 x.names.length) w ∧ w.cell? ⟨b, 5, none⟩ = some (.int .i64 x.links) ∧ w.cell? ⟨b, 6, none⟩ = some (.int .i64 x.above) := by
 obtain ⟨m, f, P, hPT, h⟩ := trc_iff.1 h
 rw [← hPT.1] at hn
 obtain ⟨b, hb, hl⟩ := Trb.look h hn
 have hq := (Trb.cells h).1
 obtain ⟨A, B, dv, wv, nm, -, -, hP⟩ := Trb.take h hb
 refine ⟨m, b, nm, dv, ⟨hq, hl⟩, hP.cells 0, ⟨hP.cells 1, Dat.rd hP.p1⟩, hP.cells 3, ?_, hP.cells 5, hP.cells 6⟩
 cases nm with
 | none =>
  have h1 := (Has.fact_iff.1 hP.drop.drop.drop).1
  rw [h1]
  simp [Builtin.len_, run_underlying undNm]
  rfl
 | some mm => exact Mk.len hP.drop.drop.drop undNm _
set_option maxRecDepth 100000 in
set_option maxHeartbeats 8000000 in
theorem tRemove (q : Nat) (S : Tre) (rk : Int → Nat) (o : Opm) (ov : Value) (mx : Int) (w : World) (L : List HP) (hk : o.kind = 10 ∨ o.kind = 11) (hW : Wk S) (hY : Wy S rk) (hM : MxL mx L) (hp : o.path.length ≤ 100000) (hKO : (S.place o.path).2 = 0 → (S.place o.path).1.node ≠ 0 → KidOk S (S.place o.path).1) (hO : Has w (Trc q S :: L)) :
  Calls Tryz.prog 55 #[.pointer (some ⟨q, 0, none⟩), opV o ov] w fun e w' => e = .returned (ansV (S.remove o.kind o.path).1 nilV nilV) ∧ Has w' (Trc q (S.remove o.kind o.path).2 :: L) ∧ Keep w w' := by
 have HF := hid (fun (w : World) (L' : List HP) (hM : MxL mx L') (hO : Has w (Trc q S :: L')) => tPlace q S rk o.path mx w L' hW hY hM hp hO)
 have HKO := hid hKO
 clear hKO
 generalize hR : S.remove o.kind o.path = R
 unfold Tre.remove at hR
 generalize S.place o.path = F at *
 obtain ⟨s2, e2⟩ := F
 dsimp only at *
 have HR := hid hR
 have HM := hid hM
 have HO := hid hO
 clear hO hR hW hM hp hY
 unfold opV opC
 go_enter Tryz.func55, Tryz.ntmps55
 go_upto_region 1 with fail
 have h1 := (HO.out.alloc (.cells (opC o ov) 33)).alloc (.cells (ansC (ansE 0) nilV nilV) 38)
 have HK1 := hid (((Keep.refl w).alloc (.cells (opC o ov) 33)).alloc (.cells (ansC (ansE 0) nilV nilV) 38))
 unfold opC ansC ansE at h1 HK1
 have e1 : (w.alloc (.cells #[.int .i64 o.kind, .int .i64 o.fd, .int .i64 o.n, .int .i64 o.off, .int .i64 o.flags, sV o.path, sV o.dest, ov] 33)).heap.size = w.heap.size + 1 := by show (Array.push _ _).size = _; rw [Array.size_push]
 rw [e1] at h1
 have HO1 := hid h1
 clear h1 e1 HO
 generalize (w.alloc (.cells #[.int .i64 o.kind, .int .i64 o.fd, .int .i64 o.n, .int .i64 o.off, .int .i64 o.flags, sV o.path, sV o.dest, ov] 33)).alloc (.cells #[.int .i64 0, .int .i64 0, .int .i64 0, .int .i64 0, nilV, nilV] 38) = w1 at *
 generalize w.heap.size = g3 at *
 generalize g3 + 1 = g4 at *
 have hp0 : w1.cell? ⟨g3, 0, none⟩ = some (.int .i64 o.kind) := HO1.out.p1.cells 0
 have hp5 : w1.cell? ⟨g3, 5, none⟩ = some (sV o.path) := HO1.out.p1.cells 5
 go_cut [5, 6] (fun p5 e6 wx => ∃ (w3 : World) (g5 : Nat), w3 = wx ∧ e6 = .int .i64 e2 ∧ p5 = .pointer (some ⟨g5, 0, none⟩) ∧ Hid (Has w3 (Trc q S :: pt g5 (.cells (spC s2) 102) :: pt g4 (.cells (ansC (ansE 0) nilV nilV) 38) :: pt g3 (.cells (opC o ov) 33) :: L)) ∧ Hid (Keep w w3))
 case first =>
  go_wp2_with fail
  refine (HF.out w1 _ ((HM.out.cons (pt g3 (.cells (opC o ov) 33))).cons (pt g4 (.cells (ansC (ansE 0) nilV nilV) 38))) (HO1.out.re 3 [2, 0, 1])).mono ?_
  rintro e w2 ⟨rfl, hO2, hK2⟩
  have HO2 := hid hO2
  have HK2 := hid ((HK1.out).trans hK2)
  clear hO2 hK2
  try dsimp only
  unfold spV spC
  go_wp2_with fail
  go_meet
  exact ⟨_, _, rfl, rfl, rfl, hid ((HO2.out.alloc (.cells (spC s2) 102)).p1), hid (HK2.out.alloc _)⟩
 case rest =>
  obtain ⟨w3, g5, rfl, rfl, rfl, HO3, HK3⟩ := hcut
  clear HO1 HK1 hp0 hp5 HF
  have HOa := hid (show Has w3 (pt g4 (.cells (ansC (ansE 0) nilV nilV) 38) :: Trc q S :: L) from HO3.out.re 4 [2, 0])
  by_cases he : e2 = 0
  ·subst he
   have hs0 : w3.cell? ⟨g5, 0, none⟩ = some (.int .i64 s2.node) := HO3.out.p1.cells 0
   by_cases hz : s2.node = 0
   ·have HRR := hid (show R = (ansE 5, S) from by rw [← HR.out, if_neg (fun h => h rfl), if_pos hz])
    have hz0 : w3.cell? ⟨g4, 0, none⟩ = some (.int .i64 0) := (HOa.out).cells 0
    have hz1 : w3.cell? ⟨g4, 1, none⟩ = some (.int .i64 0) := (HOa.out).cells 1
    have hz2 : w3.cell? ⟨g4, 2, none⟩ = some (.int .i64 0) := (HOa.out).cells 2
    have hz3 : w3.cell? ⟨g4, 3, none⟩ = some (.int .i64 0) := (HOa.out).cells 3
    have hz4 : w3.cell? ⟨g4, 4, none⟩ = some (.slice none 0 0) := (HOa.out).cells 4
    have hz5 : w3.cell? ⟨g4, 5, none⟩ = some (.slice none 0 0) := (HOa.out).cells 5
    have hy0 := (HOa.out).thaw 0
    have hy1 := (HOa.out).thaw 1
    have hy2 := (HOa.out).thaw 2
    have hy3 := (HOa.out).thaw 3
    have hy4 := (HOa.out).thaw 4
    have hy5 := (HOa.out).thaw 5
    go_wp2_with fail
    refine (tCode (5 : Int) w3 _ HOa.out).mono ?_
    rintro e w5 ⟨rfl, hO5, hK5⟩
    have HO5 := hid hO5
    have HK5 := hid ((HK3.out).trans hK5)
    clear hO5 hK5
    unfold ansV ansC ansE
    clear hz0 hz1 hz2 hz3 hz4 hz5 hy0 hy1 hy2 hy3 hy4 hy5
    have hz0 : w5.cell? ⟨g4, 0, none⟩ = some (.int .i64 0) := (HO5.out).cells 0
    have hz1 : w5.cell? ⟨g4, 1, none⟩ = some (.int .i64 0) := (HO5.out).cells 1
    have hz2 : w5.cell? ⟨g4, 2, none⟩ = some (.int .i64 0) := (HO5.out).cells 2
    have hz3 : w5.cell? ⟨g4, 3, none⟩ = some (.int .i64 0) := (HO5.out).cells 3
    have hz4 : w5.cell? ⟨g4, 4, none⟩ = some (.slice none 0 0) := (HO5.out).cells 4
    have hz5 : w5.cell? ⟨g4, 5, none⟩ = some (.slice none 0 0) := (HO5.out).cells 5
    have hy0 := (HO5.out).thaw 0
    have hy1 := (HO5.out).thaw 1
    have hy2 := (HO5.out).thaw 2
    have hy3 := (HO5.out).thaw 3
    have hy4 := (HO5.out).thaw 4
    have hy5 := (HO5.out).thaw 5
    go_wp2_with fail
    have h1 := ((show Has w5 (pt g4 (.cells (ansC (ansE 0) nilV nilV) 38) :: Trc q S :: L) from HO5.out)).ans (ansE (5 : Int)) nilV nilV
    refine bodyPost_ret (ans_result rfl rfl h1) rfl ?_
    rw [HRR.out]
    exact ⟨rfl, h1.drop, HK5.out.ans _ _ _ _ _ _ _⟩
   ·obtain ⟨d, x, hd, hdk, hdn, hx, hne, hln, hlk, hnl⟩ := HKO.out rfl hz
    have hat : S.at_ s2.node = x := by unfold Tre.at_; rw [hx]; rfl
    have HX := hid hx
    have HDD := hid (And.intro hd hdn)
    have HR1 := hid (show (if o.kind = 10 ∧ x.kind ≠ 2 then (ansE 7, S) else if o.kind = 10 ∧ 0 < x.names.length then (ansE 9, S) else if o.kind = 11 ∧ x.kind = 2 then (ansE 8, S) else (ansE 0, S.take s2.dir s2.name)) = R from by
     have h := HR.out
     rw [if_neg (fun h => h rfl), if_neg hz, hat] at h
     exact h)
    clear HR hat hd hdn
    obtain ⟨m, b, nm, dv, ⟨hq, hl⟩, -⟩ := Trc.node HO3.out.drew hx
    have hs0d : w3.drew.cell? ⟨g5, 0, none⟩ = some (.int .i64 s2.node) := hs0
    go_upto_region 6 with fail
    refine region_text (fun w' => w'.cell? ⟨q, 0, none⟩ = some (.map (some m)) ∧ w'.cell? ⟨g5, 0, none⟩ = some (.int .i64 s2.node) ∧ (Instr.lookup tNo (.map (some m)) (.int .i64 s2.node) false).run Tryz.prog w' = .ok (.pointer (some ⟨b, 0, none⟩)) w') (by kernel_rfl) (by kernel_rfl) ⟨hq, hs0d, hl⟩ ?_
    repeat (first | refine wr3 ?_ | refine wk ?_)
    refine wpL_nil ?_
    have HO4 := hid HO3.out.drew
    have HK4 := hid HK3.out.drew
    have hl9 := hl
    have hq9 := hq
    clear hq hs0 hs0d hl HO3 HK3 HOa
    generalize w3.drew = w4 at *
    have hbb := Trc.node HO4.out hx
    obtain ⟨m', b', nm, dv', ⟨hq', hl'⟩, hb0, -, hb3, hlen, -, -⟩ := hbb
    rw [hq9] at hq'
    cases hq'
    rw [hl9] at hl'
    cases hl'
    have hg0 : w4.cell? ⟨g3, 0, none⟩ = some (.int .i64 o.kind) := HO4.out.p3.cells 0
    clear hl9 hq9
    have HOa := hid (show Has w4 (pt g4 (.cells (ansC (ansE 0) nilV nilV) 38) :: Trc q S :: L) from HO4.out.re 4 [2, 0])
    rcases hk with h10 | h10
    ·rw [h10] at hg0
     by_cases hx2 : x.kind = 2
     ·have hx3 : (x.kind != 2) = false := by simp [hx2]
      by_cases hnn : 0 < x.names.length
      ·have hnni : (0 : Int) < (x.names.length : Int) := by omega
       have HRR := hid (show R = (ansE 9, S) from by rw [← HR1.out, if_neg (fun h => h.2 hx2), if_pos ⟨h10, hnn⟩])
       have hz0 : w4.cell? ⟨g4, 0, none⟩ = some (.int .i64 0) := (HOa.out).cells 0
       have hz1 : w4.cell? ⟨g4, 1, none⟩ = some (.int .i64 0) := (HOa.out).cells 1
       have hz2 : w4.cell? ⟨g4, 2, none⟩ = some (.int .i64 0) := (HOa.out).cells 2
       have hz3 : w4.cell? ⟨g4, 3, none⟩ = some (.int .i64 0) := (HOa.out).cells 3
       have hz4 : w4.cell? ⟨g4, 4, none⟩ = some (.slice none 0 0) := (HOa.out).cells 4
       have hz5 : w4.cell? ⟨g4, 5, none⟩ = some (.slice none 0 0) := (HOa.out).cells 5
       have hy0 := (HOa.out).thaw 0
       have hy1 := (HOa.out).thaw 1
       have hy2 := (HOa.out).thaw 2
       have hy3 := (HOa.out).thaw 3
       have hy4 := (HOa.out).thaw 4
       have hy5 := (HOa.out).thaw 5
       go_wp2_with fail
       refine (tCode (9 : Int) w4 _ HOa.out).mono ?_
       rintro e w5 ⟨rfl, hO5, hK5⟩
       have HO5 := hid hO5
       have HK5 := hid ((HK4.out).trans hK5)
       clear hO5 hK5
       unfold ansV ansC ansE
       clear hz0 hz1 hz2 hz3 hz4 hz5 hy0 hy1 hy2 hy3 hy4 hy5
       have hz0 : w5.cell? ⟨g4, 0, none⟩ = some (.int .i64 0) := (HO5.out).cells 0
       have hz1 : w5.cell? ⟨g4, 1, none⟩ = some (.int .i64 0) := (HO5.out).cells 1
       have hz2 : w5.cell? ⟨g4, 2, none⟩ = some (.int .i64 0) := (HO5.out).cells 2
       have hz3 : w5.cell? ⟨g4, 3, none⟩ = some (.int .i64 0) := (HO5.out).cells 3
       have hz4 : w5.cell? ⟨g4, 4, none⟩ = some (.slice none 0 0) := (HO5.out).cells 4
       have hz5 : w5.cell? ⟨g4, 5, none⟩ = some (.slice none 0 0) := (HO5.out).cells 5
       have hy0 := (HO5.out).thaw 0
       have hy1 := (HO5.out).thaw 1
       have hy2 := (HO5.out).thaw 2
       have hy3 := (HO5.out).thaw 3
       have hy4 := (HO5.out).thaw 4
       have hy5 := (HO5.out).thaw 5
       go_wp2_with fail
       have h1 := ((show Has w5 (pt g4 (.cells (ansC (ansE 0) nilV nilV) 38) :: Trc q S :: L) from HO5.out)).ans (ansE (9 : Int)) nilV nilV
       refine bodyPost_ret (ans_result rfl rfl h1) rfl ?_
       rw [HRR.out]
       exact ⟨rfl, h1.drop, HK5.out.ans _ _ _ _ _ _ _⟩
      ·have hnni : ¬ (0 : Int) < (x.names.length : Int) := by omega
       have HRR := hid (show R = (ansE 0, S.take s2.dir s2.name) from by rw [← HR1.out, if_neg (fun h => h.2 hx2), if_neg (fun h => hnn h.2), if_neg (fun h => absurd (h10.symm.trans h.1) (by decide))])
       have hs1 : w4.cell? ⟨g5, 1, none⟩ = some (.int .i64 s2.dir) := HO4.out.p1.cells 1
       have hs2 : w4.cell? ⟨g5, 2, none⟩ = some (sV s2.name) := HO4.out.p1.cells 2
       go_wp2_with fail
       refine (tTake q S s2.dir s2.name s2.node d x w4 (pt g4 (.cells (ansC (ansE 0) nilV nilV) 38) :: L) HDD.out.1 HDD.out.2 HX.out hne hdk hln hlk.1 hlk.2 (HO4.out.re 4 [0, 2])).mono ?_
       rintro e w5 ⟨rfl, hO5, hK5⟩
       have HO5 := hid hO5
       have HK5 := hid ((HK4.out).trans hK5)
       clear hO5 hK5
       try dsimp only
       clear hs1 hs2 hb0 hb3 hlen hg0
       have HO6 := hid (show Has w5 (pt g4 (.cells (ansC (ansE 0) nilV nilV) 38) :: Trc q (S.take s2.dir s2.name) :: L) from HO5.out.re 2 [1, 0])
       have hz0 : w5.cell? ⟨g4, 0, none⟩ = some (.int .i64 0) := (HO6.out).cells 0
       have hz1 : w5.cell? ⟨g4, 1, none⟩ = some (.int .i64 0) := (HO6.out).cells 1
       have hz2 : w5.cell? ⟨g4, 2, none⟩ = some (.int .i64 0) := (HO6.out).cells 2
       have hz3 : w5.cell? ⟨g4, 3, none⟩ = some (.int .i64 0) := (HO6.out).cells 3
       have hz4 : w5.cell? ⟨g4, 4, none⟩ = some (.slice none 0 0) := (HO6.out).cells 4
       have hz5 : w5.cell? ⟨g4, 5, none⟩ = some (.slice none 0 0) := (HO6.out).cells 5
       have hy0 := (HO6.out).thaw 0
       have hy1 := (HO6.out).thaw 1
       have hy2 := (HO6.out).thaw 2
       have hy3 := (HO6.out).thaw 3
       have hy4 := (HO6.out).thaw 4
       have hy5 := (HO6.out).thaw 5
       go_wp2_with fail
       have h1 := HO6.out.ans (ansE 0) nilV nilV
       refine bodyPost_ret (ans_result rfl rfl h1) rfl ?_
       rw [HRR.out]
       exact ⟨rfl, h1.drop, HK5.out.ans _ _ _ _ _ _ _⟩
     ·have hx3 : (x.kind != 2) = true := by simp [hx2]
      have HRR := hid (show R = (ansE 7, S) from by rw [← HR1.out, if_pos ⟨h10, hx2⟩])
      have hz0 : w4.cell? ⟨g4, 0, none⟩ = some (.int .i64 0) := (HOa.out).cells 0
      have hz1 : w4.cell? ⟨g4, 1, none⟩ = some (.int .i64 0) := (HOa.out).cells 1
      have hz2 : w4.cell? ⟨g4, 2, none⟩ = some (.int .i64 0) := (HOa.out).cells 2
      have hz3 : w4.cell? ⟨g4, 3, none⟩ = some (.int .i64 0) := (HOa.out).cells 3
      have hz4 : w4.cell? ⟨g4, 4, none⟩ = some (.slice none 0 0) := (HOa.out).cells 4
      have hz5 : w4.cell? ⟨g4, 5, none⟩ = some (.slice none 0 0) := (HOa.out).cells 5
      have hy0 := (HOa.out).thaw 0
      have hy1 := (HOa.out).thaw 1
      have hy2 := (HOa.out).thaw 2
      have hy3 := (HOa.out).thaw 3
      have hy4 := (HOa.out).thaw 4
      have hy5 := (HOa.out).thaw 5
      go_wp2_with fail
      refine (tCode (7 : Int) w4 _ HOa.out).mono ?_
      rintro e w5 ⟨rfl, hO5, hK5⟩
      have HO5 := hid hO5
      have HK5 := hid ((HK4.out).trans hK5)
      clear hO5 hK5
      unfold ansV ansC ansE
      clear hz0 hz1 hz2 hz3 hz4 hz5 hy0 hy1 hy2 hy3 hy4 hy5
      have hz0 : w5.cell? ⟨g4, 0, none⟩ = some (.int .i64 0) := (HO5.out).cells 0
      have hz1 : w5.cell? ⟨g4, 1, none⟩ = some (.int .i64 0) := (HO5.out).cells 1
      have hz2 : w5.cell? ⟨g4, 2, none⟩ = some (.int .i64 0) := (HO5.out).cells 2
      have hz3 : w5.cell? ⟨g4, 3, none⟩ = some (.int .i64 0) := (HO5.out).cells 3
      have hz4 : w5.cell? ⟨g4, 4, none⟩ = some (.slice none 0 0) := (HO5.out).cells 4
      have hz5 : w5.cell? ⟨g4, 5, none⟩ = some (.slice none 0 0) := (HO5.out).cells 5
      have hy0 := (HO5.out).thaw 0
      have hy1 := (HO5.out).thaw 1
      have hy2 := (HO5.out).thaw 2
      have hy3 := (HO5.out).thaw 3
      have hy4 := (HO5.out).thaw 4
      have hy5 := (HO5.out).thaw 5
      go_wp2_with fail
      have h1 := ((show Has w5 (pt g4 (.cells (ansC (ansE 0) nilV nilV) 38) :: Trc q S :: L) from HO5.out)).ans (ansE (7 : Int)) nilV nilV
      refine bodyPost_ret (ans_result rfl rfl h1) rfl ?_
      rw [HRR.out]
      exact ⟨rfl, h1.drop, HK5.out.ans _ _ _ _ _ _ _⟩
    ·rw [h10] at hg0
     by_cases hx2 : x.kind = 2
     ·have hx3 : (x.kind == 2) = true := by simp [hx2]
      have HRR := hid (show R = (ansE 8, S) from by rw [← HR1.out, if_neg (fun h => absurd (h10.symm.trans h.1) (by decide)), if_neg (fun h => absurd (h10.symm.trans h.1) (by decide)), if_pos ⟨h10, hx2⟩])
      have hz0 : w4.cell? ⟨g4, 0, none⟩ = some (.int .i64 0) := (HOa.out).cells 0
      have hz1 : w4.cell? ⟨g4, 1, none⟩ = some (.int .i64 0) := (HOa.out).cells 1
      have hz2 : w4.cell? ⟨g4, 2, none⟩ = some (.int .i64 0) := (HOa.out).cells 2
      have hz3 : w4.cell? ⟨g4, 3, none⟩ = some (.int .i64 0) := (HOa.out).cells 3
      have hz4 : w4.cell? ⟨g4, 4, none⟩ = some (.slice none 0 0) := (HOa.out).cells 4
      have hz5 : w4.cell? ⟨g4, 5, none⟩ = some (.slice none 0 0) := (HOa.out).cells 5
      have hy0 := (HOa.out).thaw 0
      have hy1 := (HOa.out).thaw 1
      have hy2 := (HOa.out).thaw 2
      have hy3 := (HOa.out).thaw 3
      have hy4 := (HOa.out).thaw 4
      have hy5 := (HOa.out).thaw 5
      go_wp2_with fail
      refine (tCode (8 : Int) w4 _ HOa.out).mono ?_
      rintro e w5 ⟨rfl, hO5, hK5⟩
      have HO5 := hid hO5
      have HK5 := hid ((HK4.out).trans hK5)
      clear hO5 hK5
      unfold ansV ansC ansE
      clear hz0 hz1 hz2 hz3 hz4 hz5 hy0 hy1 hy2 hy3 hy4 hy5
      have hz0 : w5.cell? ⟨g4, 0, none⟩ = some (.int .i64 0) := (HO5.out).cells 0
      have hz1 : w5.cell? ⟨g4, 1, none⟩ = some (.int .i64 0) := (HO5.out).cells 1
      have hz2 : w5.cell? ⟨g4, 2, none⟩ = some (.int .i64 0) := (HO5.out).cells 2
      have hz3 : w5.cell? ⟨g4, 3, none⟩ = some (.int .i64 0) := (HO5.out).cells 3
      have hz4 : w5.cell? ⟨g4, 4, none⟩ = some (.slice none 0 0) := (HO5.out).cells 4
      have hz5 : w5.cell? ⟨g4, 5, none⟩ = some (.slice none 0 0) := (HO5.out).cells 5
      have hy0 := (HO5.out).thaw 0
      have hy1 := (HO5.out).thaw 1
      have hy2 := (HO5.out).thaw 2
      have hy3 := (HO5.out).thaw 3
      have hy4 := (HO5.out).thaw 4
      have hy5 := (HO5.out).thaw 5
      go_wp2_with fail
      have h1 := ((show Has w5 (pt g4 (.cells (ansC (ansE 0) nilV nilV) 38) :: Trc q S :: L) from HO5.out)).ans (ansE (8 : Int)) nilV nilV
      refine bodyPost_ret (ans_result rfl rfl h1) rfl ?_
      rw [HRR.out]
      exact ⟨rfl, h1.drop, HK5.out.ans _ _ _ _ _ _ _⟩
     ·have hx3 : (x.kind == 2) = false := by simp [hx2]
      have HRR := hid (show R = (ansE 0, S.take s2.dir s2.name) from by rw [← HR1.out, if_neg (fun h => absurd (h10.symm.trans h.1) (by decide)), if_neg (fun h => absurd (h10.symm.trans h.1) (by decide)), if_neg (fun h => hx2 h.2)])
      have hs1 : w4.cell? ⟨g5, 1, none⟩ = some (.int .i64 s2.dir) := HO4.out.p1.cells 1
      have hs2 : w4.cell? ⟨g5, 2, none⟩ = some (sV s2.name) := HO4.out.p1.cells 2
      go_wp2_with fail
      refine (tTake q S s2.dir s2.name s2.node d x w4 (pt g4 (.cells (ansC (ansE 0) nilV nilV) 38) :: L) HDD.out.1 HDD.out.2 HX.out hne hdk hln hlk.1 hlk.2 (HO4.out.re 4 [0, 2])).mono ?_
      rintro e w5 ⟨rfl, hO5, hK5⟩
      have HO5 := hid hO5
      have HK5 := hid ((HK4.out).trans hK5)
      clear hO5 hK5
      try dsimp only
      clear hs1 hs2 hb0 hb3 hlen hg0
      have HO6 := hid (show Has w5 (pt g4 (.cells (ansC (ansE 0) nilV nilV) 38) :: Trc q (S.take s2.dir s2.name) :: L) from HO5.out.re 2 [1, 0])
      have hz0 : w5.cell? ⟨g4, 0, none⟩ = some (.int .i64 0) := (HO6.out).cells 0
      have hz1 : w5.cell? ⟨g4, 1, none⟩ = some (.int .i64 0) := (HO6.out).cells 1
      have hz2 : w5.cell? ⟨g4, 2, none⟩ = some (.int .i64 0) := (HO6.out).cells 2
      have hz3 : w5.cell? ⟨g4, 3, none⟩ = some (.int .i64 0) := (HO6.out).cells 3
      have hz4 : w5.cell? ⟨g4, 4, none⟩ = some (.slice none 0 0) := (HO6.out).cells 4
      have hz5 : w5.cell? ⟨g4, 5, none⟩ = some (.slice none 0 0) := (HO6.out).cells 5
      have hy0 := (HO6.out).thaw 0
      have hy1 := (HO6.out).thaw 1
      have hy2 := (HO6.out).thaw 2
      have hy3 := (HO6.out).thaw 3
      have hy4 := (HO6.out).thaw 4
      have hy5 := (HO6.out).thaw 5
      go_wp2_with fail
      have h1 := HO6.out.ans (ansE 0) nilV nilV
      refine bodyPost_ret (ans_result rfl rfl h1) rfl ?_
      rw [HRR.out]
      exact ⟨rfl, h1.drop, HK5.out.ans _ _ _ _ _ _ _⟩
  ·have HRR := hid (show R = (ansE e2, S) from by rw [← HR.out, if_pos he])
   have hz0 : w3.cell? ⟨g4, 0, none⟩ = some (.int .i64 0) := (HOa.out).cells 0
   have hz1 : w3.cell? ⟨g4, 1, none⟩ = some (.int .i64 0) := (HOa.out).cells 1
   have hz2 : w3.cell? ⟨g4, 2, none⟩ = some (.int .i64 0) := (HOa.out).cells 2
   have hz3 : w3.cell? ⟨g4, 3, none⟩ = some (.int .i64 0) := (HOa.out).cells 3
   have hz4 : w3.cell? ⟨g4, 4, none⟩ = some (.slice none 0 0) := (HOa.out).cells 4
   have hz5 : w3.cell? ⟨g4, 5, none⟩ = some (.slice none 0 0) := (HOa.out).cells 5
   have hy0 := (HOa.out).thaw 0
   have hy1 := (HOa.out).thaw 1
   have hy2 := (HOa.out).thaw 2
   have hy3 := (HOa.out).thaw 3
   have hy4 := (HOa.out).thaw 4
   have hy5 := (HOa.out).thaw 5
   go_wp2_with fail
   refine (tCode e2 w3 _ HOa.out).mono ?_
   rintro e w5 ⟨rfl, hO5, hK5⟩
   have HO5 := hid hO5
   have HK5 := hid ((HK3.out).trans hK5)
   clear hO5 hK5
   unfold ansV ansC ansE
   clear hz0 hz1 hz2 hz3 hz4 hz5 hy0 hy1 hy2 hy3 hy4 hy5
   have hz0 : w5.cell? ⟨g4, 0, none⟩ = some (.int .i64 0) := (HO5.out).cells 0
   have hz1 : w5.cell? ⟨g4, 1, none⟩ = some (.int .i64 0) := (HO5.out).cells 1
   have hz2 : w5.cell? ⟨g4, 2, none⟩ = some (.int .i64 0) := (HO5.out).cells 2
   have hz3 : w5.cell? ⟨g4, 3, none⟩ = some (.int .i64 0) := (HO5.out).cells 3
   have hz4 : w5.cell? ⟨g4, 4, none⟩ = some (.slice none 0 0) := (HO5.out).cells 4
   have hz5 : w5.cell? ⟨g4, 5, none⟩ = some (.slice none 0 0) := (HO5.out).cells 5
   have hy0 := (HO5.out).thaw 0
   have hy1 := (HO5.out).thaw 1
   have hy2 := (HO5.out).thaw 2
   have hy3 := (HO5.out).thaw 3
   have hy4 := (HO5.out).thaw 4
   have hy5 := (HO5.out).thaw 5
   go_wp2_with fail
   have h1 := ((show Has w5 (pt g4 (.cells (ansC (ansE 0) nilV nilV) 38) :: Trc q S :: L) from HO5.out)).ans (ansE e2) nilV nilV
   refine bodyPost_ret (ans_result rfl rfl h1) rfl ?_
   rw [HRR.out]
   exact ⟨rfl, h1.drop, HK5.out.ans _ _ _ _ _ _ _⟩
end Go.Proofs.YtmgpgbfgemebbaaGreatDoor
namespace Go.Proofs.YtmgpgbfgemebbaaGreatDoor
open Go.RowKit Go.Own
def DirOk (S : Tre) (s : Spt) : Prop := ∃ d, fnd S.nodes s.dir = some d ∧ d.kind = 2 ∧ s.name.length ≤ 1000000 ∧ d.names.length < 1000000
set_option maxRecDepth 100000 in
set_option maxHeartbeats 8000000 in
theorem tLink (q : Nat) (S : Tre) (rk : Int → Nat) (o : Opm) (ov : Value) (mx : Int) (w : World) (L : List HP) (hW : Wk S) (hY : Wy S rk) (hM : MxL mx L) (hp : o.path.length ≤ 100000) (hd : o.dest.length ≤ 100000) (hlk : ∀ n x, fnd S.nodes n = some x → 0 ≤ x.links ∧ x.links < 1000000) (hDO : (S.fresh o.dest).2 = 0 → DirOk S (S.fresh o.dest).1) (hO : Has w (Trc q S :: L)) :
  Calls Tryz.prog 56 #[.pointer (some ⟨q, 0, none⟩), opV o ov] w fun e w' => e = .returned (ansV (S.link o.path o.dest).1 nilV nilV) ∧ Has w' (Trc q (S.link o.path o.dest).2 :: L) ∧ Keep w w' := by
 have HF := hid (fun (w : World) (L' : List HP) (hM : MxL mx L') (hO : Has w (Trc q S :: L')) => tFind q S o.path false mx w L' hW hM hp hO)
 have HFR := hid (fun (w : World) (L' : List HP) (hM : MxL mx L') (hO : Has w (Trc q S :: L')) => tFresh q S rk o.dest mx w L' hW hY hM hd hO)
 have HTH := hid (find_there hW o.path false)
 have HDO := hid hDO
 clear hDO
 generalize hR : S.link o.path o.dest = R
 unfold Tre.link at hR
 generalize S.find o.path false = F at *
 generalize S.fresh o.dest = F3 at *
 obtain ⟨s2, e2⟩ := F
 obtain ⟨s3, e3⟩ := F3
 dsimp only at *
 have HR := hid hR
 have HM := hid hM
 have HO := hid hO
 have HLK := hid hlk
 clear hO hR hW hM hp hd hY hlk
 unfold opV opC
 go_enter Tryz.func56, Tryz.ntmps56
 go_upto_region 1 with fail
 have h1 := (HO.out.alloc (.cells (opC o ov) 33)).alloc (.cells (ansC (ansE 0) nilV nilV) 38)
 have HK1 := hid (((Keep.refl w).alloc (.cells (opC o ov) 33)).alloc (.cells (ansC (ansE 0) nilV nilV) 38))
 unfold opC ansC ansE at h1 HK1
 have e1 : (w.alloc (.cells #[.int .i64 o.kind, .int .i64 o.fd, .int .i64 o.n, .int .i64 o.off, .int .i64 o.flags, sV o.path, sV o.dest, ov] 33)).heap.size = w.heap.size + 1 := by show (Array.push _ _).size = _; rw [Array.size_push]
 rw [e1] at h1
 have HO1 := hid h1
 clear h1 e1 HO
 generalize (w.alloc (.cells #[.int .i64 o.kind, .int .i64 o.fd, .int .i64 o.n, .int .i64 o.off, .int .i64 o.flags, sV o.path, sV o.dest, ov] 33)).alloc (.cells #[.int .i64 0, .int .i64 0, .int .i64 0, .int .i64 0, nilV, nilV] 38) = w1 at *
 generalize w.heap.size = g3 at *
 generalize g3 + 1 = g4 at *
 have hp5 : w1.cell? ⟨g3, 5, none⟩ = some (sV o.path) := HO1.out.p1.cells 5
 have hp6 : w1.cell? ⟨g3, 6, none⟩ = some (sV o.dest) := HO1.out.p1.cells 6
 have HMG := hid (show MxL mx (pt g4 (.cells (ansC (ansE 0) nilV nilV) 38) :: pt g3 (.cells (opC o ov) 33) :: L) from (HM.out.cons _).cons _)
 go_cut [5, 6] (fun p5 e6 wx => ∃ (w3 : World) (g5 : Nat), w3 = wx ∧ e6 = .int .i64 e2 ∧ p5 = .pointer (some ⟨g5, 0, none⟩) ∧ Hid (Has w3 (Trc q S :: pt g5 (.cells (spC s2) 102) :: pt g4 (.cells (ansC (ansE 0) nilV nilV) 38) :: pt g3 (.cells (opC o ov) 33) :: L)) ∧ Hid (Keep w w3))
 case first =>
  go_wp2_with fail
  refine (HF.out w1 _ HMG.out (HO1.out.re 3 [2, 0, 1])).mono ?_
  rintro e w2 ⟨rfl, hO2, hK2⟩
  have HO2 := hid hO2
  have HK2 := hid ((HK1.out).trans hK2)
  clear hO2 hK2
  try dsimp only
  unfold spV spC
  go_wp2_with fail
  go_meet
  exact ⟨_, _, rfl, rfl, rfl, hid ((HO2.out.alloc (.cells (spC s2) 102)).p1), hid (HK2.out.alloc _)⟩
 case rest =>
  obtain ⟨w3, g5, rfl, rfl, rfl, HO3, HK3⟩ := hcut
  clear HO1 HK1 hp5 hp6 HF
  have HOa := hid (show Has w3 (pt g4 (.cells (ansC (ansE 0) nilV nilV) 38) :: Trc q S :: L) from HO3.out.re 4 [2, 0])
  by_cases he : e2 = 0
  ·subst he
   obtain ⟨x, hx⟩ := HTH.out rfl
   have hat : S.at_ s2.node = x := by unfold Tre.at_; rw [hx]; rfl
   have HR1 := hid (show (if x.kind = 2 then (ansE 16, S) else if e3 ≠ 0 then (ansE e3, S) else (ansE 0, S.add s3.dir s3.name s2.node)) = R from by
    have h := HR.out
    rw [if_neg (fun h => h rfl), hat] at h
    exact h)
   have HLX := hid (HLK.out _ _ hx)
   clear HR HLK
   obtain ⟨m, b, nm, dv, ⟨hq, hl⟩, hb0, -⟩ := Trc.node HO3.out.drew hx
   have hs0d : w3.drew.cell? ⟨g5, 0, none⟩ = some (.int .i64 s2.node) := HO3.out.drew.p1.cells 0
   go_upto_region 4 with fail
   refine region_text (fun w' => w'.cell? ⟨q, 0, none⟩ = some (.map (some m)) ∧ w'.cell? ⟨g5, 0, none⟩ = some (.int .i64 s2.node) ∧ (Instr.lookup tNo (.map (some m)) (.int .i64 s2.node) false).run Tryz.prog w' = .ok (.pointer (some ⟨b, 0, none⟩)) w' ∧ w'.cell? ⟨b, 0, none⟩ = some (.int .i64 x.kind)) (by kernel_rfl) (by kernel_rfl) ⟨hq, hs0d, hl, hb0⟩ ?_
   repeat (first | refine wr4 ?_ | refine wk ?_)
   have HO4 := hid HO3.out.drew
   have HK4 := hid HK3.out.drew
   clear hq hs0d hl hb0 HO3 HK3 HOa
   generalize w3.drew = w4 at *
   refine wpL_nil ?_
   have HOb := hid (show Has w4 (pt g4 (.cells (ansC (ansE 0) nilV nilV) 38) :: Trc q S :: L) from HO4.out.re 4 [2, 0])
   by_cases hk : x.kind = 2
   ·have hk1 : (x.kind == 2) = true := by simp [hk]
    have HRR := hid (show R = (ansE 16, S) from by rw [← HR1.out, if_pos hk])
    have hz0 : w4.cell? ⟨g4, 0, none⟩ = some (.int .i64 0) := (HOb.out).cells 0
    have hz1 : w4.cell? ⟨g4, 1, none⟩ = some (.int .i64 0) := (HOb.out).cells 1
    have hz2 : w4.cell? ⟨g4, 2, none⟩ = some (.int .i64 0) := (HOb.out).cells 2
    have hz3 : w4.cell? ⟨g4, 3, none⟩ = some (.int .i64 0) := (HOb.out).cells 3
    have hz4 : w4.cell? ⟨g4, 4, none⟩ = some (.slice none 0 0) := (HOb.out).cells 4
    have hz5 : w4.cell? ⟨g4, 5, none⟩ = some (.slice none 0 0) := (HOb.out).cells 5
    have hy0 := (HOb.out).thaw 0
    have hy1 := (HOb.out).thaw 1
    have hy2 := (HOb.out).thaw 2
    have hy3 := (HOb.out).thaw 3
    have hy4 := (HOb.out).thaw 4
    have hy5 := (HOb.out).thaw 5
    go_wp2_with fail
    refine (tCode (16 : Int) w4 _ HOb.out).mono ?_
    rintro e w15 ⟨rfl, hO15, hK15⟩
    have HO15 := hid hO15
    have HK15 := hid ((HK4.out).trans hK15)
    clear hO15 hK15
    unfold ansV ansC ansE
    clear hz0 hz1 hz2 hz3 hz4 hz5 hy0 hy1 hy2 hy3 hy4 hy5
    have hz0 : w15.cell? ⟨g4, 0, none⟩ = some (.int .i64 0) := (HO15.out).cells 0
    have hz1 : w15.cell? ⟨g4, 1, none⟩ = some (.int .i64 0) := (HO15.out).cells 1
    have hz2 : w15.cell? ⟨g4, 2, none⟩ = some (.int .i64 0) := (HO15.out).cells 2
    have hz3 : w15.cell? ⟨g4, 3, none⟩ = some (.int .i64 0) := (HO15.out).cells 3
    have hz4 : w15.cell? ⟨g4, 4, none⟩ = some (.slice none 0 0) := (HO15.out).cells 4
    have hz5 : w15.cell? ⟨g4, 5, none⟩ = some (.slice none 0 0) := (HO15.out).cells 5
    have hy0 := (HO15.out).thaw 0
    have hy1 := (HO15.out).thaw 1
    have hy2 := (HO15.out).thaw 2
    have hy3 := (HO15.out).thaw 3
    have hy4 := (HO15.out).thaw 4
    have hy5 := (HO15.out).thaw 5
    go_wp2_with fail
    have h1 := ((show Has w15 (pt g4 (.cells (ansC (ansE 0) nilV nilV) 38) :: Trc q S :: L) from HO15.out)).ans (ansE (16 : Int)) nilV nilV
    refine bodyPost_ret (ans_result rfl rfl h1) rfl ?_
    rw [HRR.out]
    exact ⟨rfl, h1.drop, HK15.out.ans _ _ _ _ _ _ _⟩
   ·have hk1 : (x.kind == 2) = false := by simp [hk]
    have HR2 := hid ((if_neg hk).symm.trans HR1.out)
    clear HR1
    have hp6 : w4.cell? ⟨g3, 6, none⟩ = some (sV o.dest) := HO4.out.p3.cells 6
    rw [hk1]
    go_upto_region 6 with fail
    go_cut [6, 7] (fun e6 p7 wx => ∃ (w5 : World) (g7 : Nat), w5 = wx ∧ e6 = .int .i64 e3 ∧ p7 = .pointer (some ⟨g7, 0, none⟩) ∧ Hid (Has w5 (Trc q S :: pt g7 (.cells (spC s3) 102) :: pt g5 (.cells (spC s2) 102) :: pt g4 (.cells (ansC (ansE 0) nilV nilV) 38) :: L)) ∧ Hid (Keep w w5))
    case first =>
     go_wp2_with fail
     refine (HFR.out w4 _ (HMG.out.cons _) HO4.out).mono ?_
     rintro e w2 ⟨rfl, hO2, hK2⟩
     have HO2 := hid hO2
     have HK2 := hid ((HK4.out).trans hK2)
     clear hO2 hK2
     try dsimp only
     unfold spV spC
     go_wp2_with fail
     go_meet
     exact ⟨_, _, rfl, rfl, rfl, hid ((HO2.out.alloc (.cells (spC s3) 102)).re 5 [1, 0, 2, 3]), hid (HK2.out.alloc _)⟩
    case rest =>
     obtain ⟨w5, g7, rfl, rfl, rfl, HO5, HK5⟩ := hcut
     clear HO4 HK4 hp6 HFR HOb
     have HOc := hid (show Has w5 (pt g4 (.cells (ansC (ansE 0) nilV nilV) 38) :: Trc q S :: L) from HO5.out.re 4 [3, 0])
     by_cases he3 : e3 = 0
     ·subst he3
      obtain ⟨d, hd, hdk, hdn, hdl⟩ := HDO.out rfl
      have hne : s3.dir ≠ s2.node := by intro e; rw [e, hx] at hd; cases hd; exact hk hdk
      have HRR := hid (show R = (ansE 0, S.add s3.dir s3.name s2.node) from by rw [← HR2.out, if_neg (fun h => h rfl)])
      have hc1 : w5.cell? ⟨g7, 1, none⟩ = some (.int .i64 s3.dir) := HO5.out.p1.cells 1
      have hc2 : w5.cell? ⟨g7, 2, none⟩ = some (sV s3.name) := HO5.out.p1.cells 2
      have hc3 : w5.cell? ⟨g5, 0, none⟩ = some (.int .i64 s2.node) := HO5.out.p2.cells 0
      go_wp2_with fail
      refine (tAdd q S s3.dir s3.name s2.node d x w5 (pt g4 (.cells (ansC (ansE 0) nilV nilV) 38) :: L) hd hx hne hdk hdn hdl HLX.out.1 HLX.out.2 (HO5.out.re 4 [0, 3])).mono ?_
      rintro e w8 ⟨rfl, hO8, hK8⟩
      have HO8 := hid hO8
      have HK8 := hid ((HK5.out).trans hK8)
      clear hO8 hK8
      try dsimp only
      have HO9 := hid (show Has w8 (pt g4 (.cells (ansC (ansE 0) nilV nilV) 38) :: Trc q (S.add s3.dir s3.name s2.node) :: L) from HO8.out.re 2 [1, 0])
      have hz0 : w8.cell? ⟨g4, 0, none⟩ = some (.int .i64 0) := (HO9.out).cells 0
      have hz1 : w8.cell? ⟨g4, 1, none⟩ = some (.int .i64 0) := (HO9.out).cells 1
      have hz2 : w8.cell? ⟨g4, 2, none⟩ = some (.int .i64 0) := (HO9.out).cells 2
      have hz3 : w8.cell? ⟨g4, 3, none⟩ = some (.int .i64 0) := (HO9.out).cells 3
      have hz4 : w8.cell? ⟨g4, 4, none⟩ = some (.slice none 0 0) := (HO9.out).cells 4
      have hz5 : w8.cell? ⟨g4, 5, none⟩ = some (.slice none 0 0) := (HO9.out).cells 5
      have hy0 := (HO9.out).thaw 0
      have hy1 := (HO9.out).thaw 1
      have hy2 := (HO9.out).thaw 2
      have hy3 := (HO9.out).thaw 3
      have hy4 := (HO9.out).thaw 4
      have hy5 := (HO9.out).thaw 5
      go_wp2_with fail
      have h1 := HO9.out.ans (ansE 0) nilV nilV
      refine bodyPost_ret (ans_result rfl rfl h1) rfl ?_
      rw [HRR.out]
      exact ⟨rfl, h1.drop, HK8.out.ans _ _ _ _ _ _ _⟩
     ·have HRR := hid (show R = (ansE e3, S) from by rw [← HR2.out, if_pos he3])
      have hz0 : w5.cell? ⟨g4, 0, none⟩ = some (.int .i64 0) := (HOc.out).cells 0
      have hz1 : w5.cell? ⟨g4, 1, none⟩ = some (.int .i64 0) := (HOc.out).cells 1
      have hz2 : w5.cell? ⟨g4, 2, none⟩ = some (.int .i64 0) := (HOc.out).cells 2
      have hz3 : w5.cell? ⟨g4, 3, none⟩ = some (.int .i64 0) := (HOc.out).cells 3
      have hz4 : w5.cell? ⟨g4, 4, none⟩ = some (.slice none 0 0) := (HOc.out).cells 4
      have hz5 : w5.cell? ⟨g4, 5, none⟩ = some (.slice none 0 0) := (HOc.out).cells 5
      have hy0 := (HOc.out).thaw 0
      have hy1 := (HOc.out).thaw 1
      have hy2 := (HOc.out).thaw 2
      have hy3 := (HOc.out).thaw 3
      have hy4 := (HOc.out).thaw 4
      have hy5 := (HOc.out).thaw 5
      go_wp2_with fail
      refine (tCode e3 w5 _ HOc.out).mono ?_
      rintro e w15 ⟨rfl, hO15, hK15⟩
      have HO15 := hid hO15
      have HK15 := hid ((HK5.out).trans hK15)
      clear hO15 hK15
      unfold ansV ansC ansE
      clear hz0 hz1 hz2 hz3 hz4 hz5 hy0 hy1 hy2 hy3 hy4 hy5
      have hz0 : w15.cell? ⟨g4, 0, none⟩ = some (.int .i64 0) := (HO15.out).cells 0
      have hz1 : w15.cell? ⟨g4, 1, none⟩ = some (.int .i64 0) := (HO15.out).cells 1
      have hz2 : w15.cell? ⟨g4, 2, none⟩ = some (.int .i64 0) := (HO15.out).cells 2
      have hz3 : w15.cell? ⟨g4, 3, none⟩ = some (.int .i64 0) := (HO15.out).cells 3
      have hz4 : w15.cell? ⟨g4, 4, none⟩ = some (.slice none 0 0) := (HO15.out).cells 4
      have hz5 : w15.cell? ⟨g4, 5, none⟩ = some (.slice none 0 0) := (HO15.out).cells 5
      have hy0 := (HO15.out).thaw 0
      have hy1 := (HO15.out).thaw 1
      have hy2 := (HO15.out).thaw 2
      have hy3 := (HO15.out).thaw 3
      have hy4 := (HO15.out).thaw 4
      have hy5 := (HO15.out).thaw 5
      go_wp2_with fail
      have h1 := ((show Has w15 (pt g4 (.cells (ansC (ansE 0) nilV nilV) 38) :: Trc q S :: L) from HO15.out)).ans (ansE e3) nilV nilV
      refine bodyPost_ret (ans_result rfl rfl h1) rfl ?_
      rw [HRR.out]
      exact ⟨rfl, h1.drop, HK15.out.ans _ _ _ _ _ _ _⟩
  ·have HRR := hid (show R = (ansE e2, S) from by rw [← HR.out, if_pos he])
   have hz0 : w3.cell? ⟨g4, 0, none⟩ = some (.int .i64 0) := (HOa.out).cells 0
   have hz1 : w3.cell? ⟨g4, 1, none⟩ = some (.int .i64 0) := (HOa.out).cells 1
   have hz2 : w3.cell? ⟨g4, 2, none⟩ = some (.int .i64 0) := (HOa.out).cells 2
   have hz3 : w3.cell? ⟨g4, 3, none⟩ = some (.int .i64 0) := (HOa.out).cells 3
   have hz4 : w3.cell? ⟨g4, 4, none⟩ = some (.slice none 0 0) := (HOa.out).cells 4
   have hz5 : w3.cell? ⟨g4, 5, none⟩ = some (.slice none 0 0) := (HOa.out).cells 5
   have hy0 := (HOa.out).thaw 0
   have hy1 := (HOa.out).thaw 1
   have hy2 := (HOa.out).thaw 2
   have hy3 := (HOa.out).thaw 3
   have hy4 := (HOa.out).thaw 4
   have hy5 := (HOa.out).thaw 5
   go_wp2_with fail
   refine (tCode e2 w3 _ HOa.out).mono ?_
   rintro e w15 ⟨rfl, hO15, hK15⟩
   have HO15 := hid hO15
   have HK15 := hid ((HK3.out).trans hK15)
   clear hO15 hK15
   unfold ansV ansC ansE
   clear hz0 hz1 hz2 hz3 hz4 hz5 hy0 hy1 hy2 hy3 hy4 hy5
   have hz0 : w15.cell? ⟨g4, 0, none⟩ = some (.int .i64 0) := (HO15.out).cells 0
   have hz1 : w15.cell? ⟨g4, 1, none⟩ = some (.int .i64 0) := (HO15.out).cells 1
   have hz2 : w15.cell? ⟨g4, 2, none⟩ = some (.int .i64 0) := (HO15.out).cells 2
   have hz3 : w15.cell? ⟨g4, 3, none⟩ = some (.int .i64 0) := (HO15.out).cells 3
   have hz4 : w15.cell? ⟨g4, 4, none⟩ = some (.slice none 0 0) := (HO15.out).cells 4
   have hz5 : w15.cell? ⟨g4, 5, none⟩ = some (.slice none 0 0) := (HO15.out).cells 5
   have hy0 := (HO15.out).thaw 0
   have hy1 := (HO15.out).thaw 1
   have hy2 := (HO15.out).thaw 2
   have hy3 := (HO15.out).thaw 3
   have hy4 := (HO15.out).thaw 4
   have hy5 := (HO15.out).thaw 5
   go_wp2_with fail
   have h1 := ((show Has w15 (pt g4 (.cells (ansC (ansE 0) nilV nilV) 38) :: Trc q S :: L) from HO15.out)).ans (ansE e2) nilV nilV
   refine bodyPost_ret (ans_result rfl rfl h1) rfl ?_
   rw [HRR.out]
   exact ⟨rfl, h1.drop, HK15.out.ans _ _ _ _ _ _ _⟩
end Go.Proofs.YtmgpgbfgemebbaaGreatDoor
namespace Go.Proofs.YtmgpgbfgemebbaaGreatDoor
open Go.RowKit Go.Own
structure Gd (S : Tre) (rk : Int → Nat) (k : Nat) : Prop where
 x : Gx S.nodes rk k 0
 num : ∀ n x, fnd S.nodes n = some x → 1 ≤ n ∧ n ≤ S.last
 last : S.last ≤ k + 1
 many : S.nodes.length ≤ k + 1
 tab16 : S.tab.length = 16
 opn : ∀ fd s, Tb.look S.tab fd = some s → (∃ x, fnd S.nodes s.node = some x ∧ x.kind ≠ 3) ∧ 0 ≤ s.off ∧ s.off ≤ 1099511627776
theorem at_of {S : Tre} {n : Int} {x : Nod} (h : fnd S.nodes n = some x) : S.at_ n = x := by unfold Tre.at_; rw [h]; rfl
variable {S : Tre} {rk : Int → Nat} {k : Nat}
theorem Gd.nod (h : Gd S rk k) {n : Int} {x : Nod} (hx : fnd S.nodes n = some x) : Ndo S.nodes rk k 0 n x := h.x.nod n x hx
theorem Gd.ne0 (h : Gd S rk k) {n : Int} {x : Nod} (hx : fnd S.nodes n = some x) : n ≠ 0 := by rintro rfl; rw [h.x.zero] at hx; cases hx
theorem Gd.last1 (h : Gd S rk k) : 1 ≤ S.last := by
 obtain ⟨x, hx⟩ := h.x.has1
 exact (h.num _ _ hx).2
theorem Gd.wk (h : Gd S rk k) : Wk S where
 root := h.x.has1
 child n x hx p c hc := by
  obtain ⟨_, _, y, hy, _⟩ := (h.nod hx).ents (p, c) (fnd_some hc)
  exact ⟨y, hy⟩
 above n x hx ha := by
  obtain ⟨_, _, _, y, _, hy, _⟩ := (h.nod hx).above (h.ne0 hx) ha
  exact ⟨y, hy⟩
 data n x hx _ := (h.nod hx).size.1
theorem Gd.one (h : Gd S rk k) {n : Int} {x : Nod} (hx : fnd S.nodes n = some x) (ha : x.above ≠ 0) : ∃ y nm, fnd S.nodes x.above = some y ∧ y.names.filter (fun p => decide (p.2 = n)) = [(nm, n)] ∧ rk n = rk x.above + 1 ∧ (nm, n) ∈ y.names ∧ NameOk nm ∧ y.kind = 2 ∧ (x.above = 1 ∨ y.above ≠ 0) := by
 have H := h.nod hx
 obtain ⟨h1, h2, h3, y, nm, hy, hm⟩ := H.above (h.ne0 hx) ha
 have HY := h.nod hy
 have hl := H.links (h.ne0 hx) h2
 have hc : cntN y n ≤ 1 := by
  have := cntN_le hy n
  omega
 have hm2 : (nm, n) ∈ y.names.filter fun p => decide (p.2 = n) := List.mem_filter.2 ⟨hm, by simp⟩
 unfold cntN at hc
 obtain ⟨e1, e2, u, hu, e3⟩ := HY.ents _ hm
 have hux : u = x := by rw [hx] at hu; cases hu; rfl
 subst hux
 have hyk : y.kind = 2 := Classical.byContradiction fun h2 => by
  have := (HY.file h2).1
  rw [this] at hm
  cases hm
 refine ⟨y, nm, hy, ?_, (e3 h1).2, hm, e1, hyk, ?_⟩
 ·generalize y.names.filter (fun p => decide (p.2 = n)) = q at *
  match q, hm2, hc with
  | [a], hm2, _ => rw [List.mem_singleton.1 hm2]
  | a :: b :: r, _, hc => simp at hc
 ·refine Classical.byContradiction fun hno => ?_
  simp only [not_or, ne_eq, Classical.not_not] at hno
  have := (HY.loose (h.ne0 hy) hyk hno.1 hno.2).1
  rw [this] at hm
  cases hm
theorem Gd.wy (h : Gd S rk k) : Wy S rk where
 rank n x hx _ ha := by
  obtain ⟨y, nm, h1, h2, h3, _, h5, _⟩ := h.one hx ha
  exact ⟨y, nm, h1, h2, by omega, h5.2.1⟩
 low := h.x.rk20
theorem Gd.opb (h : Gd S rk k) (hk : k < 900000) : Opb S where
 last0 := by have := h.last1; omega
 last1 := by have := h.last; omega
 free := by
  cases hf : fnd S.nodes (S.last + 1) with
  | none => rfl
  | some x => have := (h.num _ _ hf).2; omega
 many := by have := h.many; omega
 zero := h.x.zero
 small n x hx := by
  have := (h.nod hx).size
  exact ⟨this.1, this.2.1, by omega⟩
theorem Gd.op (h : Gd S rk k) : Opn S where
 there fd s hs := by
  obtain ⟨⟨x, hx, _⟩, _⟩ := h.opn fd s hs
  exact ⟨x, hx⟩
 off fd s hs := by
  obtain ⟨_, h1, h2⟩ := h.opn fd s hs
  exact ⟨h1, by omega⟩
 data n x hx := (h.nod hx).size.1
 wr n x hx := (h.nod hx).size.2.1
 nolink fd s hs := by
  obtain ⟨⟨x, hx, h3⟩, _⟩ := h.opn fd s hs
  rw [at_of hx]
  exact h3
def Att (S : Tre) (n : Int) : Prop := ∃ x, fnd S.nodes n = some x ∧ (x.kind = 2 → n = 1 ∨ x.above ≠ 0)
structure SpOk (S : Tre) (s : Spt) : Prop where
 node : Att S s.node
 dir : s.dir ≠ 0 → Att S s.dir ∧ ∃ d, fnd S.nodes s.dir = some d ∧ d.kind = 2 ∧ fnd d.names s.name = some s.node
 none : s.dir = 0 → (S.at_ s.node).kind = 2
theorem Gd.att1 (h : Gd S rk k) : Att S 1 := by
 obtain ⟨x, hx⟩ := h.x.has1
 exact ⟨x, hx, fun _ => .inl rfl⟩
theorem Gd.root2 (h : Gd S rk k) : (S.at_ 1).kind = 2 := by
 obtain ⟨x, hx⟩ := h.x.has1
 rw [at_of hx]
 exact ((h.nod hx).root rfl).1
theorem Gd.attUp (h : Gd S rk k) {n : Int} (ha : Att S n) (h2 : (S.at_ n).kind = 2) : Att S (S.up n) ∧ (S.at_ (S.up n)).kind = 2 := by
 obtain ⟨x, hx, hat⟩ := ha
 unfold Tre.up
 rw [at_of hx] at h2 ⊢
 by_cases h0 : x.above = 0
 ·rw [if_pos h0]
  exact ⟨⟨x, hx, hat⟩, by rw [at_of hx]; exact h2⟩
 ·rw [if_neg h0]
  obtain ⟨y, nm, h1, _, _, _, _, h5, h6⟩ := h.one hx h0
  exact ⟨⟨y, h1, fun _ => h6⟩, by rw [at_of h1]; exact h5⟩
theorem Gd.walk_ok (h : Gd S rk k) (fo : Bool) (s : Spt) (hops : Nat) (ps : List Str) (hs : SpOk S s) (hfo : fo = true → (S.at_ s.node).kind ≠ 3) (h0 : (S.walk s hops ps fo).2 = 0) : SpOk S (S.walk s hops ps fo).1 ∧ (fo = true → (S.at_ (S.walk s hops ps fo).1.node).kind ≠ 3) := by
 fun_induction Tre.walk S s hops ps fo
 case case1 => exact ⟨hs, hfo⟩
 case case2 => simp at h0
 case case3 =>
  rename_i hk ih
  have hk2 := Classical.not_not.1 hk
  obtain ⟨u1, u2⟩ := h.attUp hs.node hk2
  exact ih ⟨u1, fun e => absurd rfl e, fun _ => u2⟩ (fun _ => by show (S.at_ (S.up _)).kind ≠ 3; rw [u2]; decide) h0
 case case4 => simp at h0
 case case5 => simp at h0
 case case6 =>
  rename_i s0 _ _ _ hk _ c _ _ _ ih
  have hk2 := Classical.not_not.1 hk
  have hx : ∀ n : Int, n = 1 ∨ n = s0.node → Att S n ∧ (S.at_ n).kind = 2 := by
   rintro n (rfl | rfl)
   ·exact ⟨h.att1, h.root2⟩
   ·exact ⟨hs.node, hk2⟩
  obtain ⟨u1, u2⟩ := hx (if _h : (targetM (strOf (S.at_ c).data)).2.1 = true then (1 : Int) else s0.node) (by split <;> simp)
  exact ih ⟨u1, fun e => absurd rfl e, fun _ => u2⟩ (fun _ e3 => absurd (u2.symm.trans e3) (by decide)) h0
 case case7 =>
  rename_i s0 _ _ _ hk _ c hf hn ih
  have hk2 := Classical.not_not.1 hk
  obtain ⟨x, hx, hat⟩ := hs.node
  rw [at_of hx] at hf hk2
  obtain ⟨e1, e2, y, hy, e3⟩ := (h.nod hx).ents _ (fnd_some hf)
  refine ih ⟨⟨y, hy, fun hy2 => .inr ?_⟩, fun _ => ⟨⟨x, hx, hat⟩, x, hx, hk2, hf⟩, fun e => absurd e (h.ne0 hx)⟩ ?_ h0
  ·rw [(e3 hy2).1]
   exact h.ne0 hx
  ·intro hfo2 h3
   exact hn ⟨h3, .inr hfo2⟩
theorem Gd.find_ok (h : Gd S rk k) (p : Str) (fo : Bool) (h0 : (S.find p fo).2 = 0) : SpOk S (S.find p fo).1 ∧ (fo = true → (S.at_ (S.find p fo).1.node).kind ≠ 3) := by
 unfold Tre.find at *
 by_cases h1 : (splitM p).2 ≠ 0
 ·rw [if_pos h1] at h0; exact absurd h0 h1
 ·rw [if_neg h1] at h0 ⊢
  exact h.walk_ok fo _ _ _ ⟨h.att1, fun e => absurd rfl e, fun _ => h.root2⟩ (fun _ => by show (S.at_ 1).kind ≠ 3; rw [h.root2]; decide) h0
theorem Gd.wayLen (h : Gd S rk k) : ∀ (r : Nat) (n : Int) (x : Nod), fnd S.nodes n = some x → x.kind = 2 → (n = 1 ∨ x.above ≠ 0) → rk n = r → (S.way n).length = r := by
 intro r
 induction r with
 | zero =>
  intro n x hx h2 hat hr
  by_cases h1 : n = 1
  ·rw [way_stop (.inl h1)]; rfl
  ·obtain ⟨y, nm, a1, a2, a3, _⟩ := h.one hx (hat.resolve_left h1)
   omega
 | succ r ih =>
  intro n x hx h2 hat hr
  by_cases h1 : n = 1
  ·rw [h1, h.x.rk1] at hr; omega
  ·have ha := hat.resolve_left h1
   obtain ⟨y, nm, a1, a2, a3, a4, a5, a6, a7⟩ := h.one hx ha
   obtain ⟨y', nm', b1, b2, b3, b4, e⟩ := way_step h.wy hx h1 ha
   rw [e, List.length_append, ih _ _ a1 a6 a7 (by omega)]
   rfl
structure PlOk (S : Tre) (rk : Int → Nat) (s : Spt) : Prop where
 name : NameOk s.name
 low : rk s.dir < 20
 dir : ∃ d, fnd S.nodes s.dir = some d ∧ d.kind = 2 ∧ (s.dir = 1 ∨ d.above ≠ 0) ∧ (s.node ≠ 0 → fnd d.names s.name = some s.node) ∧ (s.node = 0 → fnd d.names s.name = none)
theorem Gd.place_ok (h : Gd S rk k) (p : Str) (h0 : (S.place p).2 = 0) : PlOk S rk (S.place p).1 := by
 unfold Tre.place at *
 by_cases h1 : (lastM p).2.2 ≠ 0
 ·rw [if_pos h1] at h0; exact absurd h0 h1
 rw [if_neg h1] at h0 ⊢
 by_cases h2 : (S.find (lastM p).1 true).2 ≠ 0
 ·rw [if_pos h2] at h0; exact absurd h0 h2
 rw [if_neg h2] at h0 ⊢
 by_cases h3 : (S.at_ (S.find (lastM p).1 true).1.node).kind ≠ 2
 ·rw [if_pos h3] at h0; simp at h0
 rw [if_neg h3] at h0 ⊢
 by_cases h4 : Tre.longM (S.way (S.find (lastM p).1 true).1.node ++ [(lastM p).2.1]) = true
 ·rw [if_pos h4] at h0; simp at h0
 rw [if_neg h4]
 have hl := lastM_ok p (Classical.not_not.1 h1)
 obtain ⟨x, hx, hat⟩ := (h.find_ok _ true (Classical.not_not.1 h2)).1.node
 generalize (S.find (lastM p).1 true).1.node = n at *
 have hk2 : x.kind = 2 := by rw [at_of hx] at h3; exact Classical.not_not.1 h3
 refine ⟨⟨hl.1.1, hl.1.2.2.1, hl.1.2.2.2, hl.2⟩, ?_, ⟨x, hx, hk2, hat hk2, ?_, ?_⟩⟩
 ·have := h.wayLen _ n x hx hk2 (hat hk2) rfl
  unfold Tre.longM at h4
  simp only [Bool.or_eq_true, decide_eq_true_eq, not_or, List.length_append, List.length_cons, List.length_nil] at h4
  show rk n < 20
  omega
 ·show (fnd (S.at_ n).names _).getD 0 ≠ 0 → fnd x.names (lastM p).2.1 = some ((fnd (S.at_ n).names _).getD 0)
  rw [at_of hx]
  cases hf : fnd x.names (lastM p).2.1 with
  | none => intro e; exact absurd rfl e
  | some c => intro _; rfl
 ·show (fnd (S.at_ n).names _).getD 0 = 0 → fnd x.names (lastM p).2.1 = none
  rw [at_of hx]
  cases hf : fnd x.names (lastM p).2.1 with
  | none => intro _; rfl
  | some c =>
   intro e
   have e' : c = 0 := e
   obtain ⟨_, _, y, hy, _⟩ := (h.nod hx).ents _ (fnd_some hf)
   exact absurd e' (h.ne0 hy)
theorem fresh_place {S : Tre} {p : Str} (h0 : (S.fresh p).2 = 0) : (S.place p).2 = 0 ∧ (S.place p).1.node = 0 ∧ S.fresh p = ((S.place p).1, 0) := by
 unfold Tre.fresh at *
 by_cases h1 : (S.place p).2 ≠ 0
 ·rw [if_pos h1] at h0; exact absurd h0 h1
 rw [if_neg h1] at h0 ⊢
 by_cases h2 : (S.place p).1.node ≠ 0
 ·rw [if_pos h2] at h0; simp at h0
 rw [if_neg h2]
 exact ⟨Classical.not_not.1 h1, Classical.not_not.1 h2, rfl⟩
theorem Gd.kidOk (h : Gd S rk k) (hk : k < 900000) (p : Str) (h0 : (S.place p).2 = 0) (hn : (S.place p).1.node ≠ 0) : KidOk S (S.place p).1 ∧ ∀ x, fnd S.nodes (S.place p).1.node = some x → 1 ≤ x.links := by
 have P := h.place_ok p h0
 generalize (S.place p).1 = s at *
 obtain ⟨d, hd, h2, _, hc, _⟩ := P.dir
 have hc := hc hn
 obtain ⟨e1, e2, y, hy, e3⟩ := (h.nod hd).ents _ (fnd_some hc)
 have hs := (h.nod hy).size
 have hcn : 1 ≤ cnt S.nodes s.node := cnt_has hd (fnd_some hc)
 refine ⟨⟨d, y, hd, h2, hc, hy, ?_, by have := P.name.2.1; omega, ⟨by omega, by omega⟩, by omega⟩, ?_⟩
 ·intro e
  rw [← e] at hy
  rw [hd] at hy
  cases hy
  have := (e3 h2).2
  dsimp only at this
  rw [← e] at this
  omega
 ·intro x hx
  have hx' : fnd S.nodes s.node = some x := hx
  have H := h.nod hx'
  by_cases h1 : s.node = 1
  ·have := (H.root h1).2.2.1; omega
  ·have := H.links (h.ne0 hx') h1
   omega
theorem Gd.dirOk (h : Gd S rk k) (hk : k < 900000) (p : Str) (h0 : (S.place p).2 = 0) : DirOk S (S.place p).1 := by
 have P := h.place_ok p h0
 obtain ⟨d, hd, h2, _⟩ := P.dir
 have hs := (h.nod hd).size
 exact ⟨d, hd, h2, by have := P.name.2.1; omega, by omega⟩
theorem Gd.up_rk (h : Gd S rk k) : ∀ n x, fnd S.nodes n = some x → x.above ≠ 0 → (∃ y, fnd S.nodes x.above = some y) ∧ rk x.above < rk n := by
 intro n x hx ha
 obtain ⟨y, nm, h1, _, h3, _⟩ := h.one hx ha
 exact ⟨⟨y, h1⟩, by omega⟩
theorem Gd.nm_rk (h : Gd S rk k) : ∀ n x, fnd S.nodes n = some x → ∀ e ∈ x.names, rk n < rk e.2 ∧ e.1.length ≤ 24 ∧ ∃ z, fnd S.nodes e.2 = some z := by
 intro n x hx e he
 obtain ⟨e1, e2, y, hy, e3⟩ := (h.nod hx).ents e he
 refine ⟨?_, e1.2.1, y, hy⟩
 by_cases h2 : y.kind = 2
 ·have := (e3 h2).2; omega
 ·have := ((h.nod hy).file h2).2.2; omega
end Go.Proofs.YtmgpgbfgemebbaaGreatDoor
namespace Go.Proofs.YtmgpgbfgemebbaaGreatDoor
open Go.RowKit Go.Own
theorem putA_len {κ α : Type} [DecidableEq κ] {t : List (κ × α)} {x : κ} {a b : α} (h : fnd t x = some b) : (putA t x a).length = t.length := by
 unfold putA
 rw [if_pos (List.mem_map.2 ⟨_, fnd_some h, rfl⟩), List.length_map]
theorem putA_len1 {κ α : Type} [DecidableEq κ] (t : List (κ × α)) (x : κ) (a : α) : (putA t x a).length ≤ t.length + 1 := by
 unfold putA
 split <;> simp
theorem putA_mem {κ α : Type} [DecidableEq κ] {t : List (κ × α)} {x : κ} {b : α} (h : fnd t x = some b) : x ∈ t.map Prod.fst := List.mem_map.2 ⟨_, fnd_some h, rfl⟩
theorem putA_comm {κ α : Type} [DecidableEq κ] {t : List (κ × α)} {x y : κ} {a b : α} (hxy : x ≠ y) (hx : x ∈ t.map Prod.fst) (hy : y ∈ t.map Prod.fst) : putA (putA t x a) y b = putA (putA t y b) x a := by
 have e1 : putA t x a = t.map fun p => if p.1 = x then (x, a) else p := if_pos hx
 have e2 : putA t y b = t.map fun p => if p.1 = y then (y, b) else p := if_pos hy
 have k1 : y ∈ (putA t x a).map Prod.fst := by rw [e1, putA_keys t x a hx]; exact hy
 have k2 : x ∈ (putA t y b).map Prod.fst := by rw [e2, putA_keys t y b hy]; exact hx
 rw [show putA (putA t x a) y b = (putA t x a).map fun p => if p.1 = y then (y, b) else p from if_pos k1, show putA (putA t y b) x a = (putA t y b).map fun p => if p.1 = x then (x, a) else p from if_pos k2, e1, e2, List.map_map, List.map_map]
 refine List.map_congr_left fun p _ => ?_
 simp only [Function.comp]
 by_cases h1 : p.1 = x
 ·have h2 : ¬ x = y := hxy
  simp [h1, h2]
 ·by_cases h2 : p.1 = y
  ·have h3 : ¬ y = x := fun e => hxy e.symm
   simp [h2, h3]
  ·simp [h1, h2]
variable {S : Tre} {rk : Int → Nat} {k : Nat}
theorem Gd.of (h : Gd S rk k) {S' : Tre} {rk' : Int → Nat} {k' : Nat} (hx : Gx S'.nodes rk' k' 0) (h1 : S.last ≤ S'.last) (h2 : S'.last ≤ k' + 1) (h3 : S'.nodes.length ≤ k' + 1) (ht : S'.tab = S.tab)
  (hn : ∀ n x, fnd S'.nodes n = some x → (∃ y, fnd S.nodes n = some y) ∨ (1 ≤ n ∧ n ≤ S'.last))
  (hk : ∀ n x, fnd S.nodes n = some x → (∃ fd s, Tb.look S.tab fd = some s ∧ s.node = n) → ∃ y, fnd S'.nodes n = some y ∧ y.kind = x.kind) : Gd S' rk' k' where
 x := hx
 num n x hx := by
  rcases hn n x hx with ⟨y, hy⟩ | h
  ·have := h.num n y hy
   omega
  ·exact h
 last := h2
 many := h3
 tab16 := by rw [ht]; exact h.tab16
 opn fd s hs := by
  rw [ht] at hs
  obtain ⟨⟨x, hx, h3⟩, h4⟩ := h.opn fd s hs
  obtain ⟨y, hy, e⟩ := hk _ _ hx ⟨fd, s, hs, rfl⟩
  exact ⟨⟨y, hy, by rw [e]; exact h3⟩, h4⟩
theorem Gd.mono (h : Gd S rk k) {k' : Nat} (hk : k ≤ k') : Gd S rk k' where
 x := h.x.mono hk
 num := h.num
 last := by have := h.last; omega
 many := by have := h.many; omega
 tab16 := h.tab16
 opn := h.opn
theorem Gd.tab (h : Gd S rk k) {T : List Tb.Slot} (hl : T.length = 16) (ho : ∀ fd s, Tb.look T fd = some s → (∃ x, fnd S.nodes s.node = some x ∧ x.kind ≠ 3) ∧ 0 ≤ s.off ∧ s.off ≤ 1099511627776) : Gd { S with tab := T } rk k where
 x := h.x
 num := h.num
 last := h.last
 many := h.many
 tab16 := hl
 opn := ho
theorem Gd.dat (h : Gd S rk k) {n : Int} {x : Nod} (hx : fnd S.nodes n = some x) (h2 : x.kind ≠ 2) (y : Nod) (hy : y.kind = x.kind ∧ y.names = x.names ∧ y.most = x.most ∧ y.links = x.links ∧ y.above = x.above)
  (hs : y.data.length ≤ 100000 ∧ y.wr.length ≤ 100000) : Gd (S.setN n y) rk k := by
 have H := h.nod hx
 have hf := H.file h2
 have h1 : n ≠ 1 := fun e => h2 (H.root e).1
 obtain ⟨G1, hc⟩ := (h.x.opened h1).fix hx y hy.1 hy.2.1 hy.2.2.1 ⟨hs.1, hs.2, by rw [hy.2.2.2.1]; exact H.size.2.2.2.2.2.1, by rw [hy.2.2.2.1]; exact H.size.2.2.2.2.2.2⟩ (fun _ => by rw [hy.2.2.2.2]; exact hf.2.1) (fun e => absurd e h2)
 have hnx : fnd (putA S.nodes n y) n = some y := by rw [fnd_putA, if_pos rfl]
 have G2 := G1.closed hnx (by rw [hc, hy.2.2.2.1]; exact H.links (h.ne0 hx) h1) (fun e => absurd (by rw [hy.2.2.2.2]; exact hf.2.1) e) (fun e => absurd (by rw [← hy.1]; exact e) h2)
 refine h.of G2 (Int.le_refl _) h.last (by show (putA S.nodes n y).length ≤ _; rw [putA_len hx]; exact h.many) rfl ?_ ?_
 ·intro m u hu
  left
  have hu' : fnd (putA S.nodes n y) m = some u := hu
  rw [fnd_putA] at hu'
  by_cases hm : m = n
  ·exact ⟨x, by rw [hm]; exact hx⟩
  ·rw [if_neg hm] at hu'; exact ⟨u, hu'⟩
 ·intro m u hu _
  show ∃ v, fnd (putA S.nodes n y) m = some v ∧ _
  rw [fnd_putA]
  by_cases hm : m = n
  ·rw [if_pos hm]
   rw [hm, hx] at hu
   cases hu
   exact ⟨y, rfl, hy.1⟩
  ·rw [if_neg hm]; exact ⟨u, hu, rfl⟩
theorem Gd.make (h : Gd S rk k) {s : Spt} (P : PlOk S rk s) (hs0 : s.node = 0) (c : Int) (hc : c = 1 ∨ c = 2 ∨ c = 3) (ds : Str) (hds : ds.length ≤ 100000) : Gd (S.make s c ds) (fun n => if n = S.last + 1 then (if c = 2 then rk s.dir + 1 else 20) else rk n) (k + 1) := by
 obtain ⟨d, hd, hd2, hat, _, hnm⟩ := P.dir
 have hnm := hnm hs0
 have hl1 := h.last1
 have hnew : fnd S.nodes (S.last + 1) = none := by
  cases hf : fnd S.nodes (S.last + 1) with
  | none => rfl
  | some x => have := (h.num _ _ hf).2; omega
 have hdm : s.dir ≠ S.last + 1 := by intro e; rw [e, hnew] at hd; cases hd
 generalize hm : S.last + 1 = m at *
 generalize hx0 : (⟨c, if c = 3 then bytesOf ds else [], [], [], 0, 0, 0⟩ : Nod) = x0
 have hxk : x0.kind = c := by rw [← hx0]
 have hxn : x0.names = [] := by rw [← hx0]
 have hxl : x0.links = 0 := by rw [← hx0]
 have hxa : x0.above = 0 := by rw [← hx0]
 have hxm : x0.most = 0 := by rw [← hx0]
 have hxd : x0.data.length ≤ 100000 := by
  rw [← hx0]
  show (if c = 3 then bytesOf ds else []).length ≤ _
  split
  ·simp [bytesOf]; exact hds
  ·simp
 have hxw : x0.wr.length ≤ 100000 := by rw [← hx0]; simp
 have he : S.make s c ds = { S with last := m, nodes := putA (putA (putA S.nodes m x0) s.dir (Tre.dirAdd d s.name m)) m (Tre.nodAdd x0 s.dir) } := by
  unfold Tre.make Tre.add Tre.setN
  rw [hm, hx0]
  have e1 : (Tre.mk (putA S.nodes m x0) m S.tab).at_ s.dir = d := by
   unfold Tre.at_
   dsimp only
   rw [fnd_putA, if_neg hdm, hd]
   rfl
  have e2 : (Tre.mk (putA S.nodes m x0) m S.tab).at_ m = x0 := by
   unfold Tre.at_
   dsimp only
   rw [fnd_putA, if_pos rfl]
   rfl
  dsimp only
  rw [e1, e2]
 have hr : (if c = 2 then rk s.dir + 1 else 20) ≤ 20 := by
  have := P.low
  split <;> omega
 obtain ⟨G1, c1, c0⟩ := h.x.newN hnew (by omega) (by omega) x0 hxn (by rw [hxk]; exact hc) (fun _ => hxa) ⟨hxd, hxw, by omega, by omega, by omega, by omega⟩ _ hr (fun h2 => by rw [hxk] at h2; rw [if_neg h2])
 have hm0 : fnd (putA S.nodes m x0) m = some x0 := by rw [fnd_putA, if_pos rfl]
 have hd0 : fnd (putA S.nodes m x0) s.dir = some d := by rw [fnd_putA, if_neg hdm]; exact hd
 have hN : (Tre.nodAdd x0 s.dir).kind = c ∧ (Tre.nodAdd x0 s.dir).names = [] ∧ (Tre.nodAdd x0 s.dir).most = 0 ∧ (Tre.nodAdd x0 s.dir).links = 1 ∧ (Tre.nodAdd x0 s.dir).above = (if c = 2 then s.dir else 0) ∧ (Tre.nodAdd x0 s.dir).data = x0.data ∧ (Tre.nodAdd x0 s.dir).wr = x0.wr := by
  unfold Tre.nodAdd
  rw [hxk]
  by_cases h2 : c = 2
  ·rw [if_pos h2, if_pos h2]
   exact ⟨rfl, hxn, hxm, rfl, rfl, rfl, rfl⟩
  ·rw [if_neg h2, if_neg h2]
   exact ⟨rfl, hxn, hxm, by show x0.links + 1 = 1; omega, hxa, rfl, rfl⟩
 obtain ⟨n1, n2, n3, n4, n5, n6, n7⟩ := hN
 generalize Tre.nodAdd x0 s.dir = x1 at *
 obtain ⟨G2, c2⟩ := G1.fix hm0 x1 (by rw [n1, hxk]) (by rw [n2, hxn]) (by rw [n3, hxm]) ⟨by rw [n6]; exact hxd, by rw [n7]; exact hxw, by omega, by omega⟩ (fun h2 => by rw [n5, if_neg (by rw [← hxk]; exact h2)]) (fun _ => by rw [c1]; exact c0)
 have hd1 : fnd (putA (putA S.nodes m x0) m x1) s.dir = some d := by rw [fnd_putA, if_neg hdm]; exact hd0
 have hm1 : fnd (putA (putA S.nodes m x0) m x1) m = some x1 := by rw [fnd_putA, if_pos rfl]
 obtain ⟨G3, c3⟩ := G2.putE hd1 hd2 hdm hat P.name hnm (by rw [if_neg hdm]; exact P.low) hm1 (fun h2 => by
  rw [n1] at h2
  refine ⟨by rw [n5, if_pos h2], ?_⟩
  rw [if_pos rfl, if_neg hdm, if_pos h2])
 rw [← putA_comm hdm (putA_mem hd0) (putA_mem hm0)] at G3 c3
 have hm3 : fnd (putA (putA (putA S.nodes m x0) s.dir (Tre.dirAdd d s.name m)) m x1) m = some x1 := by rw [fnd_putA, if_pos rfl]
 have hd3 : fnd (putA (putA (putA S.nodes m x0) s.dir (Tre.dirAdd d s.name m)) m x1) s.dir = some (Tre.dirAdd d s.name m) := by rw [fnd_putA, if_neg hdm, fnd_putA, if_pos rfl]
 have G4 := G3.closed hm3 (by rw [c3, c2, c1, c0, if_pos rfl, n4]; rfl) (fun h2 => by
  have hc2 : c = 2 := Classical.byContradiction fun hc2 => h2 (by rw [n5, if_neg hc2])
  refine ⟨by rw [n1]; exact hc2, n4, Tre.dirAdd d s.name m, s.name, ?_, ?_⟩
  ·rw [n5, if_pos hc2]; exact hd3
  ·show (s.name, m) ∈ putA d.names s.name m
   rw [putA_new _ (fnd_none.1 hnm)]
   exact List.mem_append_right _ List.mem_cons_self) (fun h2 h3 => by
  rw [n1] at h2
  rw [n5, if_pos h2] at h3
  exact absurd h3 (h.ne0 hd))
 rw [he]
 refine h.of G4 (by show S.last ≤ m; omega) (by show m ≤ _; have := h.last; omega) ?_ rfl ?_ ?_
 ·show (putA (putA (putA S.nodes m x0) s.dir (Tre.dirAdd d s.name m)) m x1).length ≤ _
  have h5 : fnd (putA (putA S.nodes m x0) s.dir (Tre.dirAdd d s.name m)) m = some x0 := by rw [fnd_putA, if_neg (fun e => hdm e.symm)]; exact hm0
  rw [putA_len h5, putA_len hd0]
  have := putA_len1 S.nodes m x0
  have := h.many
  omega
 ·intro n u hu
  have hu' : fnd (putA (putA (putA S.nodes m x0) s.dir (Tre.dirAdd d s.name m)) m x1) n = some u := hu
  rw [fnd_putA] at hu'
  by_cases h5 : n = m
  ·right
   show 1 ≤ n ∧ n ≤ m
   omega
  ·left
   rw [if_neg h5, fnd_putA] at hu'
   by_cases h6 : n = s.dir
   ·exact ⟨d, by rw [h6]; exact hd⟩
   ·rw [if_neg h6, fnd_putA, if_neg h5] at hu'
    exact ⟨u, hu'⟩
 ·intro n u hu _
  show ∃ v, fnd (putA (putA (putA S.nodes m x0) s.dir (Tre.dirAdd d s.name m)) m x1) n = some v ∧ _
  have hnm5 : n ≠ m := by rintro rfl; rw [hnew] at hu; cases hu
  rw [fnd_putA, if_neg hnm5, fnd_putA]
  by_cases h6 : n = s.dir
  ·rw [if_pos h6]
   rw [h6, hd] at hu
   cases hu
   exact ⟨_, rfl, rfl⟩
  ·rw [if_neg h6, fnd_putA, if_neg hnm5]
   exact ⟨u, hu, rfl⟩
theorem Gd.addN (h : Gd S rk k) {s : Spt} (P : PlOk S rk s) (hs0 : s.node = 0) {n : Int} {x : Nod} (hx : fnd S.nodes n = some x) (h2 : x.kind ≠ 2) : Gd (S.add s.dir s.name n) rk (k + 1) := by
 obtain ⟨d, hd, hd2, hat, _, hnm⟩ := P.dir
 have hnm := hnm hs0
 have H := h.nod hx
 have hf := H.file h2
 have h1 : n ≠ 1 := fun e => h2 (H.root e).1
 have hdn : s.dir ≠ n := by intro e; rw [e, hx] at hd; cases hd; exact h2 hd2
 have he : S.add s.dir s.name n = { S with nodes := putA (putA S.nodes s.dir (Tre.dirAdd d s.name n)) n { x with links := x.links + 1 } } := by
  unfold Tre.add Tre.setN
  rw [at_of hd, at_of hx]
  unfold Tre.nodAdd
  rw [if_neg h2]
 have hsz := H.size
 obtain ⟨G2, c2⟩ := (h.x.opened h1).putE hd hd2 hdn hat P.name hnm P.low hx (fun e => absurd e h2)
 have hx1 : fnd (putA S.nodes s.dir (Tre.dirAdd d s.name n)) n = some x := by rw [fnd_putA, if_neg (fun e => hdn e.symm)]; exact hx
 obtain ⟨G3, c3⟩ := G2.fix hx1 { x with links := x.links + 1 } rfl rfl rfl ⟨hsz.1, hsz.2.1, by show 0 ≤ x.links + 1; omega, by show x.links + 1 ≤ _; omega⟩ (fun _ => hf.2.1) (fun e => absurd e h2)
 have hx3 : fnd (putA (putA S.nodes s.dir (Tre.dirAdd d s.name n)) n { x with links := x.links + 1 }) n = some { x with links := x.links + 1 } := by rw [fnd_putA, if_pos rfl]
 have G4 := G3.closed hx3 (by rw [c3, c2, if_pos rfl]; show x.links + 1 = _; rw [H.links (h.ne0 hx) h1]; omega) (fun e => absurd hf.2.1 e) (fun e => absurd e h2)
 rw [he]
 refine h.of G4 (Int.le_refl _) (by show S.last ≤ _; have := h.last; omega) ?_ rfl ?_ ?_
 ·show (putA (putA S.nodes s.dir (Tre.dirAdd d s.name n)) n { x with links := x.links + 1 }).length ≤ _
  rw [putA_len hx1, putA_len hd]
  have := h.many
  omega
 ·intro m u hu
  left
  have hu' : fnd (putA (putA S.nodes s.dir (Tre.dirAdd d s.name n)) n { x with links := x.links + 1 }) m = some u := hu
  rw [fnd_putA] at hu'
  by_cases h5 : m = n
  ·exact ⟨x, by rw [h5]; exact hx⟩
  ·rw [if_neg h5, fnd_putA] at hu'
   by_cases h6 : m = s.dir
   ·exact ⟨d, by rw [h6]; exact hd⟩
   ·rw [if_neg h6] at hu'
    exact ⟨u, hu'⟩
 ·intro m u hu _
  show ∃ v, fnd (putA (putA S.nodes s.dir (Tre.dirAdd d s.name n)) n { x with links := x.links + 1 }) m = some v ∧ _
  rw [fnd_putA]
  by_cases h5 : m = n
  ·rw [if_pos h5]
   rw [h5, hx] at hu
   cases hu
   exact ⟨_, rfl, rfl⟩
  ·rw [if_neg h5, fnd_putA]
   by_cases h6 : m = s.dir
   ·rw [if_pos h6]
    rw [h6, hd] at hu
    cases hu
    exact ⟨_, rfl, rfl⟩
   ·rw [if_neg h6]
    exact ⟨u, hu, rfl⟩
end Go.Proofs.YtmgpgbfgemebbaaGreatDoor
namespace Go.Proofs.YtmgpgbfgemebbaaGreatDoor
open Go.RowKit Go.Own
variable {S : Tre} {rk : Int → Nat} {k : Nat}
theorem holds_look {T : List Tb.Slot} {n : Int} (h : Tb.holds T n = false) {fd : Int} {s : Tb.Slot} (hl : Tb.look T fd = some s) : s.node ≠ n := by
 have hm : s ∈ T ∧ s.on = true := by
  unfold Tb.look at hl
  split at hl
  ·split at hl
   ·rename_i u hu
    split at hl
    ·rename_i hon
     cases hl
     exact ⟨List.mem_of_getElem? hu, hon⟩
    ·cases hl
   ·cases hl
  ·cases hl
 intro e
 have : Tb.holds T n = true := by
  unfold Tb.holds
  rw [List.any_eq_true]
  exact ⟨s, hm.1, by simp [hm.2, e]⟩
 rw [h] at this
 cases this
theorem Gd.forget (h : Gd S rk k) (n : Int) : Gd (S.forget n) rk k := by
 unfold Tre.forget
 cases hx : fnd S.nodes n with
 | none => exact h
 | some x =>
  dsimp only
  split
  ·rename_i hc
   have hne : ∀ m, m ≠ n → fnd (delA S.nodes n) m = fnd S.nodes m := fun m hm => fnd_delA hm
   refine h.of (h.x.delN hx hc.2.1 hc.1) (Int.le_refl _) h.last (Nat.le_trans (delA_le _ _) h.many) rfl ?_ ?_
   ·intro m u hu
    left
    have hu' : fnd (delA S.nodes n) m = some u := hu
    by_cases hm : m = n
    ·exact ⟨x, by rw [hm]; exact hx⟩
    ·rw [hne m hm] at hu'; exact ⟨u, hu'⟩
   ·rintro m u hu ⟨fd, s, hs, e⟩
    have hm : m ≠ n := by rw [← e]; exact holds_look hc.2.2 hs
    exact ⟨u, by show fnd (delA S.nodes n) m = some u; rw [hne m hm]; exact hu, rfl⟩
  ·exact h
theorem Gd.take (h : Gd S rk k) {dir n : Int} {name : Str} {d x : Nod} (hd : fnd S.nodes dir = some d) (hf : fnd d.names name = some n) (hx : fnd S.nodes n = some x) (hemp : x.kind = 2 → x.names = []) : Gd (S.take dir name) rk k := by
 have H := h.nod hx
 have hsz := H.size
 have hcn : 1 ≤ cnt S.nodes n := cnt_has hd (fnd_some hf)
 have h1 : n ≠ 1 := by
  intro e
  have := (H.root e).2.2.2
  omega
 obtain ⟨e1, e2, y, hy, e3⟩ := (h.nod hd).ents _ (fnd_some hf)
 have hyx : y = x := by
  have hy' : fnd S.nodes n = some y := hy
  rw [hx] at hy'
  cases hy'
  rfl
 subst hyx
 have hdn : dir ≠ n := by
  intro e
  rw [e, hx] at hd
  have hdy : d = y := (Option.some.inj hd).symm
  rw [hdy] at hf
  have h2 : y.kind = 2 := Classical.byContradiction fun h2 => by
   have := (H.file h2).1
   rw [this] at hf
   cases hf
  have := hemp h2
  rw [this] at hf
  cases hf
 have hl := H.links (h.ne0 hx) h1
 have hk : S.kid dir name = n := by unfold Tre.kid; rw [at_of hd, hf]; rfl
 have he : S.take dir name = ({ S with nodes := putA (putA S.nodes dir (Tre.dirTake d name)) n (Tre.nodTake y) } : Tre).forget n := by
  unfold Tre.take Tre.setN
  rw [hk, at_of hd, at_of hx]
 obtain ⟨G2, c2⟩ := (h.x.opened h1).dele hd hf hdn
 have c2n := c2 n
 rw [if_pos rfl] at c2n
 have hx1 : fnd (putA S.nodes dir (Tre.dirTake d name)) n = some y := by rw [fnd_putA, if_neg (fun e => hdn e.symm)]; exact hx
 have hdl : y.kind = 2 → y.links = 1 := fun h2 => by
  have ha : y.above ≠ 0 := by rw [(e3 h2).1]; exact h.ne0 hd
  exact (H.above (h.ne0 hx) ha).2.2.1
 obtain ⟨G3, c3⟩ := G2.fix hx1 (Tre.nodTake y) rfl rfl rfl ⟨hsz.1, hsz.2.1, by show 0 ≤ y.links - 1; omega, by show y.links - 1 ≤ _; omega⟩ (fun h2 => by show (if y.kind = 2 then 0 else y.above) = 0; rw [if_neg h2]; exact (H.file h2).2.1) (fun h2 => by have := hdl h2; omega)
 have hx3 : fnd (putA (putA S.nodes dir (Tre.dirTake d name)) n (Tre.nodTake y)) n = some (Tre.nodTake y) := by rw [fnd_putA, if_pos rfl]
 have G4 := G3.closed hx3 (by rw [c3]; show y.links - 1 = _; omega) (fun e => by
   exfalso
   apply e
   show (if y.kind = 2 then 0 else y.above) = 0
   by_cases h2 : y.kind = 2
   ·rw [if_pos h2]
   ·rw [if_neg h2]; exact (H.file h2).2.1) (fun h2 _ => ⟨hemp h2, by show y.links - 1 = 0; have := hdl h2; omega⟩)
 rw [he]
 refine Gd.forget (h.of (S' := ⟨putA (putA S.nodes dir (Tre.dirTake d name)) n (Tre.nodTake y), S.last, S.tab⟩) G4 (Int.le_refl _) h.last ?_ rfl ?_ ?_) n
 ·show (putA (putA S.nodes dir (Tre.dirTake d name)) n (Tre.nodTake y)).length ≤ _
  rw [putA_len hx1, putA_len hd]
  exact h.many
 ·intro m u hu
  left
  have hu' : fnd (putA (putA S.nodes dir (Tre.dirTake d name)) n (Tre.nodTake y)) m = some u := hu
  rw [fnd_putA] at hu'
  by_cases h5 : m = n
  ·exact ⟨y, by rw [h5]; exact hx⟩
  ·rw [if_neg h5, fnd_putA] at hu'
   by_cases h6 : m = dir
   ·exact ⟨d, by rw [h6]; exact hd⟩
   ·rw [if_neg h6] at hu'
    exact ⟨u, hu'⟩
 ·intro m u hu _
  show ∃ v, fnd (putA (putA S.nodes dir (Tre.dirTake d name)) n (Tre.nodTake y)) m = some v ∧ _
  rw [fnd_putA]
  by_cases h5 : m = n
  ·rw [if_pos h5]
   rw [h5, hx] at hu
   cases hu
   exact ⟨_, rfl, rfl⟩
  ·rw [if_neg h5, fnd_putA]
   by_cases h6 : m = dir
   ·rw [if_pos h6]
    rw [h6, hd] at hu
    cases hu
    exact ⟨_, rfl, rfl⟩
   ·rw [if_neg h6]
    exact ⟨u, hu, rfl⟩
theorem within_stable (h : Gd S rk k) (d : Int) : ∀ (a b : Nat) (n : Int) (x : Nod), fnd S.nodes n = some x → rk n < a → rk n < b → S.withinF a n d = S.withinF b n d := by
 intro a
 induction a with
 | zero => intro b n x _ h; omega
 | succ a ih =>
  intro b n x hn ha hb
  rcases b with _ | b
  ·omega
  by_cases h1 : n ≠ d ∧ (S.at_ n).above ≠ 0
  ·simp only [Tre.withinF, if_pos h1]
   rw [at_of hn] at h1 ⊢
   obtain ⟨⟨y, hy⟩, hr⟩ := h.up_rk n x hn h1.2
   exact ih b _ y hy (by omega) (by omega)
  ·simp only [Tre.withinF, if_neg h1]
theorem Gd.within_up (h : Gd S rk k) {n d : Int} {x : Nod} (hn : fnd S.nodes n = some x) (h1 : n ≠ d) (ha : x.above ≠ 0) : S.within n d = S.within x.above d := by
 have hlow := h.x.rk20 n
 obtain ⟨⟨y, hy⟩, hr⟩ := h.up_rk n x hn ha
 show S.withinF (20 + 1) n d = S.withinF 21 x.above d
 rw [Tre.withinF, if_pos (by rw [at_of hn]; exact ⟨h1, ha⟩), at_of hn]
 exact within_stable h d 20 21 _ y hy (by omega) (by omega)
theorem Gd.within_end {n d : Int} {x : Nod} (hn : fnd S.nodes n = some x) (h1 : n ≠ d) (ha : x.above = 0) : S.within n d = false := by
 show S.withinF (20 + 1) n d = false
 rw [Tre.withinF, if_neg (by rw [at_of hn]; rintro ⟨_, h2⟩; exact h2 ha)]
 simpa using h1
theorem Gd.within_rk (h : Gd S rk k) (d : Int) : ∀ (r : Nat) (n : Int) (x : Nod), fnd S.nodes n = some x → rk n = r → S.within n d = true → rk d ≤ r ∧ (n ≠ d → rk d < r ∧ x.above ≠ 0 ∧ S.within x.above d = true) := by
 intro r
 induction r with
 | zero =>
  intro n x hn hr hw
  by_cases h1 : n = d
  ·exact ⟨by rw [← h1]; omega, fun e => absurd h1 e⟩
  ·by_cases ha : x.above = 0
   ·rw [Gd.within_end hn h1 ha] at hw; cases hw
   ·obtain ⟨_, hlt⟩ := h.up_rk n x hn ha
    omega
 | succ r ih =>
  intro n x hn hr hw
  by_cases h1 : n = d
  ·exact ⟨by rw [← h1]; omega, fun e => absurd h1 e⟩
  ·by_cases ha : x.above = 0
   ·rw [Gd.within_end hn h1 ha] at hw; cases hw
   ·obtain ⟨y, nm, hy, _, hr2, _⟩ := h.one hn ha
    rw [h.within_up hn h1 ha] at hw
    have := (ih _ y hy (by omega) hw).1
    exact ⟨by omega, fun _ => ⟨by omega, ha, hw⟩⟩
theorem Gd.deep_at (h : Gd S rk k) {z : Int} {parts0 : List Str} (hd : S.deepF 22 z parts0 = false) : ∀ (r : Nat) (n : Int) (x : Nod), fnd S.nodes n = some x → rk n = r → S.within n z = true → ∃ parts, S.deepF (22 - (rk n - rk z)) n parts = false ∧ parts.length = parts0.length + (rk n - rk z) := by
 intro r
 induction r with
 | zero =>
  intro n x hn hr hw
  have h1 : n = z := Classical.byContradiction fun h1 => by
   have := ((h.within_rk z _ n x hn hr hw).2 h1).1
   omega
  subst h1
  exact ⟨parts0, by rw [Nat.sub_self]; exact hd, by omega⟩
 | succ r ih =>
  intro n x hn hr hw
  by_cases h1 : n = z
  ·subst h1
   exact ⟨parts0, by rw [Nat.sub_self]; exact hd, by omega⟩
  ·obtain ⟨h2, ha, hw2⟩ := (h.within_rk z _ n x hn hr hw).2 h1
   obtain ⟨y, nm, hy, _, hr2, hm, _⟩ := h.one hn ha
   obtain ⟨parts, hp, hl⟩ := ih _ y hy (by omega) hw2
   have h20 := h.x.rk20 n
   have h3 := (h.within_rk z _ _ y hy rfl hw2).1
   refine ⟨parts ++ [nm], ?_, by simp; omega⟩
   obtain ⟨f, hf⟩ : ∃ f, 22 - (rk x.above - rk z) = f + 1 := ⟨21 - (rk x.above - rk z), by omega⟩
   rw [hf] at hp
   have hf2 : 22 - (rk n - rk z) = f := by omega
   rw [hf2]
   simp only [Tre.deepF, Bool.or_eq_false_iff] at hp
   have := hp.2
   rw [List.any_eq_false, at_of hy] at this
   have := this _ hm
   simpa using this
theorem Gd.deep_rk (h : Gd S rk k) {z : Int} {parts0 : List Str} (hd : S.deep z parts0 = false) {n : Int} {x : Nod} (hn : fnd S.nodes n = some x) (hw : S.within n z = true) : parts0.length + (rk n - rk z) ≤ 20 ∧ (x.names ≠ [] → parts0.length + (rk n - rk z) < 20) := by
 obtain ⟨parts, hp, hl⟩ := h.deep_at hd _ n x hn rfl hw
 have h20 := h.x.rk20 n
 obtain ⟨f, hf⟩ : ∃ f, 22 - (rk n - rk z) = f + 1 := ⟨21 - (rk n - rk z), by omega⟩
 rw [hf] at hp
 simp only [Tre.deepF, Bool.or_eq_false_iff] at hp
 have hlong : ∀ ps : List Str, Tre.longM ps = false → ps.length ≤ 20 := by
  intro ps hps
  unfold Tre.longM at hps
  simp only [Bool.or_eq_false_iff, decide_eq_false_iff_not] at hps
  omega
 refine ⟨by have := hlong _ hp.1; omega, fun hne => ?_⟩
 obtain ⟨e, t, he⟩ := List.exists_cons_of_ne_nil hne
 have h5 := hp.2
 rw [List.any_eq_false, at_of hn, he] at h5
 have h6 := h5 e List.mem_cons_self
 have h7 : S.deepF f e.2 (parts ++ [e.1]) = false := by simpa using h6
 have h8 : Tre.longM (parts ++ [e.1]) = false := by
  cases f with
  | zero => exact h7
  | succ f => simp only [Tre.deepF, Bool.or_eq_false_iff] at h7; exact h7.1
 have := hlong _ h8
 simp at this
 omega
end Go.Proofs.YtmgpgbfgemebbaaGreatDoor
