/- TEXTS of mine, merged. -/
import Derived.Test.YtmgpgbfgemebbaaGreatDoorM13
import Derived.Test.YtmgpgbfgemebbaaGreatDoorM12
import Derived.Test.YtmgpgbfgemebbaaGreatDoorM8
import Derived.Test.YtmgpgbfgemebbaaGreatDoorM9
import Derived.Test.YtmgpgbfgemebbaaGreatDoorM6
import Derived.Test.YtmgpgbfgemebbaaGreatDoorM7
import Derived.Test.YtmgpgbfgemebbaaGreatDoorM4
import Derived.Test.YtmgpgbfgemebbaaGreatDoorM5
import Derived.Laws.IdiomStrings
set_option linter.all false
namespace Go.Proofs.YtmgpgbfgemebbaaGreatDoor
open Go.RowKit Go.Own
variable {S : Tre} {rk : Int → Nat} {k : Nat}
def Les (t : List (Int × Nod)) (S : Tre) : Prop := ∀ n x, fnd t n = some x → ∃ x0, fnd S.nodes n = some x0 ∧ x.kind = x0.kind ∧ ∀ e ∈ x.names, e ∈ x0.names
theorem Gx.moved {t : List (Int × Nod)} {z : Int} (h : Gx t rk k z) (h0 : Gd S rk k) (hle : Les t S) (hc : cnt t z = 0) {x : Nod} (hx : fnd S.nodes z = some x) (hx2 : x.kind = 2) {d : Int} {dn : Nod} (hd : fnd S.nodes d = some dn) (hd2 : dn.kind = 2) (hr : rk d < 20) {parts : List Str} (hp : parts.length = rk d + 1)
  (hw : S.within d z = false) (hdeep : S.deep z parts = false) : ∃ rk', Gx t rk' k z ∧ rk' d = rk d ∧ rk' z = rk d + 1 := by
 have hz1 := h.zne
 have hat : ∀ n y, fnd S.nodes n = some y → (S.at_ n).kind = y.kind := fun n y hy => by rw [at_of hy]
 refine ⟨fun n => if (S.at_ n).kind = 2 ∧ S.within n z = true then rk n + (rk d + 1) - rk z else rk n, h.rerank _ ?_ ?_ ?_ ?_ ?_, ?_, ?_⟩
 ·obtain ⟨y, hy⟩ := h0.x.has1
  have hwf : S.within 1 z = false := Gd.within_end hy (fun e => hz1 e.symm) ((h0.nod hy).root rfl).2.1
  show (if _ then _ else _) = 0
  rw [if_neg (by rw [hwf]; simp)]
  exact h.rk1
 ·intro n
  show (if _ then _ else _) ≤ 20
  split
  ·rename_i hcond
   cases hn : fnd S.nodes n with
   | none =>
    have : (S.at_ n).kind = 0 := by unfold Tre.at_; rw [hn]; rfl
    rw [this] at hcond
    exact absurd hcond.1 (by decide)
   | some y =>
    have h1 := (h0.deep_rk hdeep hn hcond.2).1
    have h2 := (h0.within_rk z _ n y hn rfl hcond.2).1
    have h3 : rk n + (rk d + 1) - rk z ≤ 20 := by omega
    exact h3
  ·exact h.rk20 n
 ·intro n y hy hk
  obtain ⟨x0, hx0, hk0, _⟩ := hle n y hy
  show (if _ then _ else _) = 20
  rw [if_neg (by rw [hat n x0 hx0, ← hk0]; exact fun e => hk e.1)]
  exact ((h.nod n y hy).file hk).2.2
 ·intro n y hy e he hcond
  obtain ⟨x0, hx0, hk0, hsub⟩ := hle n y hy
  obtain ⟨e1, e2, u, hu, e3⟩ := (h0.nod hx0).ents e (hsub e he)
  have hn2 : x0.kind = 2 := Classical.byContradiction fun h2 => by
   have := ((h0.nod hx0).file h2).1
   have h9 := hsub e he
   rw [this] at h9
   cases h9
  have hez : e.2 ≠ z := by
   intro ee
   have : 1 ≤ cnt t z := cnt_has hy (nm := e.1) (by rw [← ee]; exact he)
   omega
  have hu2 : u.kind = 2 := by
   obtain ⟨_, _, v, hv, _⟩ := (h.nod n y hy).ents e he
   obtain ⟨v0, hv0, hkv, _⟩ := hle _ _ hv
   rw [hu] at hv0
   cases hv0
   have h9 := hcond.2
   unfold Tre.at_ at h9
   dsimp only at h9
   rw [hv] at h9
   rw [← hkv]
   exact h9
  obtain ⟨e4, e5⟩ := e3 hu2
  have hwe : S.within e.2 z = S.within n z := by rw [h0.within_up hu hez (by rw [e4]; exact h0.ne0 hx0), e4]
  show (if _ then _ else _) = (if _ then _ else _) + 1
  rw [hat _ _ hu, hat _ _ hx0, hwe]
  by_cases hwn : S.within n z = true
  ·rw [if_pos ⟨hu2, hwn⟩, if_pos ⟨hn2, hwn⟩]
   have := (h0.within_rk z _ n x0 hx0 rfl hwn).1
   omega
  ·rw [if_neg (fun e => hwn e.2), if_neg (fun e => hwn e.2)]
   exact e5
 ·intro n y hy hne
  obtain ⟨x0, hx0, hk0, hsub⟩ := hle n y hy
  have hne0 : x0.names ≠ [] := by
   intro e0
   obtain ⟨e, l, he⟩ := List.exists_cons_of_ne_nil hne
   have := hsub e (by rw [he]; exact List.mem_cons_self)
   rw [e0] at this
   cases this
  show (if _ then _ else _) < 20
  split
  ·rename_i hcond
   have h1 := (h0.deep_rk hdeep hx0 hcond.2).2 hne0
   have h2 := (h0.within_rk z _ n x0 hx0 rfl hcond.2).1
   have h3 : rk n + (rk d + 1) - rk z < 20 := by omega
   exact h3
  ·obtain ⟨e, l, he⟩ := List.exists_cons_of_ne_nil hne
   exact ((h.nod n y hy).ents e (by rw [he]; exact List.mem_cons_self)).2.1
 ·show (if _ then _ else _) = rk d
  rw [if_neg (by rw [hw]; simp)]
 ·show (if _ then _ else _) = rk d + 1
  rw [if_pos ⟨by rw [hat _ _ hx]; exact hx2, within_refl S z⟩]
  omega
theorem Gd.mv {S1 : Tre} (h : Gd S1 rk k) (h0 : Gd S rk k) (hle : Les S1.nodes S) {s t : Spt} {d td x : Nod} (hd : fnd S1.nodes s.dir = some d) (hf : fnd d.names s.name = some s.node) (hx : fnd S1.nodes s.node = some x)
  (ht : fnd S1.nodes t.dir = some td) (ht2 : td.kind = 2) (hat : t.dir = 1 ∨ td.above ≠ 0) (hnm : NameOk t.name) (htn : fnd td.names t.name = none) (hr : rk t.dir < 20)
  {parts : List Str} (hp : parts.length = rk t.dir + 1) (hdir : x.kind = 2 → S.within t.dir s.node = false ∧ S.deep s.node parts = false) : ∃ rk', Gd (S1.mv1 s t) rk' (k + 1) := by
 have H := h.nod hx
 have hsz := H.size
 have hcn : 1 ≤ cnt S1.nodes s.node := cnt_has hd (fnd_some hf)
 have h1 : s.node ≠ 1 := by
  intro e
  have := (H.root e).2.2.2
  omega
 obtain ⟨e1, e2, y, hy, e3⟩ := (h.nod hd).ents _ (fnd_some hf)
 have hyx : y = x := by
  have hy' : fnd S1.nodes s.node = some y := hy
  rw [hx] at hy'
  cases hy'
  rfl
 subst hyx
 have hdk : d.kind = 2 := Classical.byContradiction fun h2 => by
  have := ((h.nod hd).file h2).1
  rw [this] at hf
  cases hf
 have hdn : s.dir ≠ s.node := by
  intro e
  have hdy : d = y := by rw [e, hx] at hd; exact (Option.some.inj hd).symm
  have := (e3 (by rw [← hdy]; exact hdk)).2
  dsimp only at this
  rw [← e] at this
  omega
 have htz : t.dir ≠ s.node := by
  intro e
  have hty : td = y := by rw [e, hx] at ht; exact (Option.some.inj ht).symm
  have := (hdir (by rw [← hty]; exact ht2)).1
  rw [e, within_refl] at this
  cases this
 have hl := H.links (h.ne0 hx) h1
 have hdl : y.kind = 2 → y.links = 1 := fun h2 => by
  have ha : y.above ≠ 0 := by rw [(e3 h2).1]; exact h.ne0 hd
  exact (H.above (h.ne0 hx) ha).2.2.1
 generalize hz1 : ({ y with links := y.links - 1 } : Nod) = z1
 have z1k : z1.kind = y.kind := by rw [← hz1]
 have z1n : z1.names = y.names := by rw [← hz1]
 have z1m : z1.most = y.most := by rw [← hz1]
 have z1l : z1.links = y.links - 1 := by rw [← hz1]
 have z1a : z1.above = y.above := by rw [← hz1]
 have z1d : z1.data.length ≤ 100000 ∧ z1.wr.length ≤ 100000 := by rw [← hz1]; exact ⟨hsz.1, hsz.2.1⟩
 obtain ⟨G1, c1⟩ := (h.x.opened h1).dele hd hf hdn
 have c1n := c1 s.node
 rw [if_pos rfl] at c1n
 generalize hA : putA S1.nodes s.dir (Tre.dirTake d s.name) = A at *
 have fA : ∀ n, fnd A n = if n = s.dir then some (Tre.dirTake d s.name) else fnd S1.nodes n := fun n => by rw [← hA]; exact fnd_putA
 have hzA : fnd A s.node = some y := by rw [fA, if_neg (fun e => hdn e.symm)]; exact hx
 have hc0 : y.kind = 2 → cnt A s.node = 0 := fun h2 => by have := hdl h2; omega
 obtain ⟨G2, c2⟩ := G1.fix hzA z1 z1k z1n z1m ⟨z1d.1, z1d.2, by omega, by omega⟩ (fun h2 => by rw [z1a]; exact (H.file h2).2.1) hc0
 generalize hB : putA A s.node z1 = B at *
 have fB : ∀ n, fnd B n = if n = s.node then some z1 else fnd A n := fun n => by rw [← hB]; exact fnd_putA
 have hzB : fnd B s.node = some z1 := by rw [fB, if_pos rfl]
 obtain ⟨td', htB, td2, tda, tdn, tdsub⟩ : ∃ td', fnd B t.dir = some td' ∧ td'.kind = 2 ∧ td'.above = td.above ∧ fnd td'.names t.name = none ∧ ∀ e ∈ td'.names, e ∈ td.names := by
  rw [fB, if_neg htz, fA]
  by_cases hts : t.dir = s.dir
  ·rw [if_pos hts]
   have htd : td = d := by rw [hts, hd] at ht; exact (Option.some.inj ht).symm
   refine ⟨_, rfl, hdk, by rw [htd]; rfl, ?_, fun e he => by rw [htd]; exact (List.mem_filter.1 he).1⟩
   show fnd (delA d.names s.name) t.name = none
   rw [htd] at htn
   rw [fnd_delA, htn]
   intro e
   rw [e, hf] at htn
   cases htn
  ·rw [if_neg hts]
   exact ⟨td, ht, ht2, rfl, htn, fun e he => he⟩
 generalize hz2 : Tre.nodAdd z1 t.dir = z2
 have hN : z2.kind = y.kind ∧ z2.names = y.names ∧ z2.most = y.most ∧ z2.links = (if y.kind = 2 then 1 else y.links) ∧ z2.above = (if y.kind = 2 then t.dir else 0) ∧ z2.data.length ≤ 100000 ∧ z2.wr.length ≤ 100000 := by
  rw [← hz2]
  unfold Tre.nodAdd
  rw [z1k]
  by_cases h2 : y.kind = 2
  ·rw [if_pos h2, if_pos h2, if_pos h2]
   exact ⟨rfl, z1n, z1m, rfl, rfl, z1d⟩
  ·rw [if_neg h2, if_neg h2, if_neg h2]
   exact ⟨rfl, z1n, z1m, by show z1.links + 1 = y.links; omega, by show z1.above = 0; rw [z1a]; exact (H.file h2).2.1, z1d⟩
 obtain ⟨n1, n2, n3, n4, n5, n6, n7⟩ := hN
 obtain ⟨G3, c3⟩ := G2.fix hzB z2 (by rw [n1, z1k]) (by rw [n2, z1n]) (by rw [n3, z1m]) ⟨n6, n7, by rw [n4]; split <;> omega, by rw [n4]; split <;> omega⟩ (fun h2 => by rw [n5, if_neg (by rw [← z1k]; exact h2)]) (fun h2 => by rw [c2]; exact hc0 (by rw [← z1k]; exact h2))
 have fB2 : ∀ n, fnd (putA B s.node z2) n = if n = s.node then some z2 else fnd B n := fun n => fnd_putA
 have hzB2 : fnd (putA B s.node z2) s.node = some z2 := by rw [fB2, if_pos rfl]
 have htB2 : fnd (putA B s.node z2) t.dir = some td' := by rw [fB2, if_neg htz]; exact htB
 have hles : Les (putA B s.node z2) S := by
  intro n u hu
  rw [fB2] at hu
  by_cases hn1 : n = s.node
  ·rw [if_pos hn1] at hu
   cases hu
   obtain ⟨x0, a1, a2, a3⟩ := hle _ _ hx
   exact ⟨x0, by rw [hn1]; exact a1, by rw [n1]; exact a2, fun e he => a3 e (by rw [← n2]; exact he)⟩
  ·rw [if_neg hn1, fB, if_neg hn1, fA] at hu
   by_cases hn2 : n = s.dir
   ·rw [if_pos hn2] at hu
    cases hu
    obtain ⟨x0, a1, a2, a3⟩ := hle _ _ hd
    exact ⟨x0, by rw [hn2]; exact a1, a2, fun e he => a3 e (List.mem_filter.1 he).1⟩
   ·rw [if_neg hn2] at hu
    exact hle _ _ hu
 obtain ⟨rk', G4, r1, r2⟩ : ∃ rk', Gx (putA B s.node z2) rk' k s.node ∧ rk' t.dir < 20 ∧ (y.kind = 2 → rk' s.node = rk' t.dir + 1) := by
  by_cases h2 : y.kind = 2
  ·obtain ⟨x0, a1, a2, _⟩ := hle _ _ hx
   obtain ⟨t0, b1, b2, _⟩ := hle _ _ ht
   obtain ⟨rk', g1, g2, g3⟩ := G3.moved h0 hles (by rw [c3, c2]; exact hc0 h2) a1 (by rw [← a2]; exact h2) b1 (by rw [← b2]; exact ht2) hr hp (hdir h2).1 (hdir h2).2
   exact ⟨rk', g1, by rw [g2]; exact hr, fun _ => by rw [g2, g3]⟩
  ·exact ⟨rk, G3, hr, fun e => absurd e h2⟩
 obtain ⟨G5, c5⟩ := G4.putE htB2 td2 htz (by rw [tda]; exact hat) hnm tdn r1 hzB2 (fun h2 => by
  rw [n1] at h2
  exact ⟨by rw [n5, if_pos h2], r2 h2⟩)
 rw [← putA_comm htz (putA_mem htB) (putA_mem hzB)] at G5 c5
 have hz5 : fnd (putA (putA B t.dir (Tre.dirAdd td' t.name s.node)) s.node z2) s.node = some z2 := by rw [fnd_putA, if_pos rfl]
 have ht5 : fnd (putA (putA B t.dir (Tre.dirAdd td' t.name s.node)) s.node z2) t.dir = some (Tre.dirAdd td' t.name s.node) := by rw [fnd_putA, if_neg htz, fnd_putA, if_pos rfl]
 have G6 := G5.closed hz5 (by
   rw [c5, c3, c2, if_pos rfl, n4]
   by_cases h2 : y.kind = 2
   ·rw [if_pos h2, hc0 h2]; rfl
   ·rw [if_neg h2]; omega) (fun h2 => by
  have hc2 : y.kind = 2 := Classical.byContradiction fun hc2 => h2 (by rw [n5, if_neg hc2])
  refine ⟨by rw [n1]; exact hc2, by rw [n4, if_pos hc2], Tre.dirAdd td' t.name s.node, t.name, ?_, ?_⟩
  ·rw [n5, if_pos hc2]; exact ht5
  ·show (t.name, s.node) ∈ putA td'.names t.name s.node
   rw [putA_new _ (fnd_none.1 tdn)]
   exact List.mem_append_right _ List.mem_cons_self) (fun h2 h3 => by
  rw [n1] at h2
  rw [n5, if_pos h2] at h3
  exact absurd h3 (h.ne0 ht))
 have he : S1.mv1 s t = ⟨putA (putA B t.dir (Tre.dirAdd td' t.name s.node)) s.node z2, S1.last, S1.tab⟩ := by
  unfold Tre.mv1 Tre.add Tre.setN
  rw [at_of hd, at_of hx]
  dsimp only
  rw [hA, hz1, hB]
  have q1 : (Tre.mk B S1.last S1.tab).at_ t.dir = td' := at_of htB
  have q2 : (Tre.mk B S1.last S1.tab).at_ s.node = z1 := at_of hzB
  rw [q1, q2, hz2]
 rw [he]
 refine ⟨rk', h.of G6 (Int.le_refl _) (by show S1.last ≤ _; have := h.last; omega) ?_ rfl ?_ ?_⟩
 ·show (putA (putA B t.dir (Tre.dirAdd td' t.name s.node)) s.node z2).length ≤ _
  have h5 : fnd (putA B t.dir (Tre.dirAdd td' t.name s.node)) s.node = some z1 := by rw [fnd_putA, if_neg (fun e => htz e.symm)]; exact hzB
  rw [putA_len h5, putA_len htB, ← hB, putA_len hzA, ← hA, putA_len hd]
  have := h.many
  omega
 ·intro n u hu
  left
  have hu' : fnd (putA (putA B t.dir (Tre.dirAdd td' t.name s.node)) s.node z2) n = some u := hu
  rw [fnd_putA] at hu'
  by_cases h5 : n = s.node
  ·exact ⟨y, by rw [h5]; exact hx⟩
  ·rw [if_neg h5, fnd_putA] at hu'
   by_cases h6 : n = t.dir
   ·exact ⟨td, by rw [h6]; exact ht⟩
   ·rw [if_neg h6, fB, if_neg h5, fA] at hu'
    by_cases h7 : n = s.dir
    ·exact ⟨d, by rw [h7]; exact hd⟩
    ·rw [if_neg h7] at hu'
     exact ⟨u, hu'⟩
 ·intro n u hu _
  show ∃ v, fnd (putA (putA B t.dir (Tre.dirAdd td' t.name s.node)) s.node z2) n = some v ∧ _
  rw [fnd_putA]
  by_cases h5 : n = s.node
  ·rw [if_pos h5]
   rw [h5, hx] at hu
   cases hu
   exact ⟨_, rfl, n1⟩
  ·rw [if_neg h5, fnd_putA]
   by_cases h6 : n = t.dir
   ·rw [if_pos h6]
    rw [h6, ht] at hu
    cases hu
    exact ⟨_, rfl, td2.trans ht2.symm⟩
   ·rw [if_neg h6, fB, if_neg h5, fA]
    by_cases h7 : n = s.dir
    ·rw [if_pos h7]
     rw [h7, hd] at hu
     cases hu
     exact ⟨_, rfl, rfl⟩
    ·rw [if_neg h7]
     exact ⟨u, hu, rfl⟩
end Go.Proofs.YtmgpgbfgemebbaaGreatDoor
namespace Go.Proofs.YtmgpgbfgemebbaaGreatDoor
open Go.RowKit Go.Own
variable {S : Tre} {rk : Int → Nat} {k : Nat}
theorem look_set' {T : List Tb.Slot} (hT : T.length = 16) {k : Nat} (hk : k < 16) (s : Tb.Slot) (fd : Int) : Tb.look (T.set k s) fd = if fd = k then (if s.on then some s else none) else Tb.look T fd := by
 unfold Tb.look
 by_cases hb : 0 ≤ fd ∧ fd < 16
 ·rw [if_pos hb, if_pos hb, List.getElem?_set]
  by_cases he : fd = k
  ·have e1 : k = fd.toNat := by omega
   rw [if_pos he, if_pos e1, if_pos (by omega)]
  ·have e1 : ¬ k = fd.toNat := by omega
   rw [if_neg he, if_neg e1]
 ·rw [if_neg hb, if_neg hb]
  by_cases he : fd = k
  ·omega
  ·rw [if_neg he]
theorem Gd.slot (h : Gd S rk k) {j : Nat} (hj : j < 16) (s : Tb.Slot) (hs : s.on = true → (∃ x, fnd S.nodes s.node = some x ∧ x.kind ≠ 3) ∧ 0 ≤ s.off ∧ s.off ≤ 1099511627776) : Gd { S with tab := S.tab.set j s } rk k := by
 refine h.tab (by rw [List.length_set]; exact h.tab16) fun fd u hu => ?_
 rw [look_set' h.tab16 hj] at hu
 by_cases he : fd = j
 ·rw [if_pos he] at hu
  by_cases hon : s.on = true
  ·rw [if_pos hon] at hu
   cases hu
   exact hs hon
  ·rw [if_neg hon] at hu; cases hu
 ·rw [if_neg he] at hu
  exact h.opn fd u hu
theorem look_num {T : List Tb.Slot} {fd : Int} {s : Tb.Slot} (h : Tb.look T fd = some s) : 0 ≤ fd ∧ fd < 16 ∧ fd.toNat < 16 := by
 unfold Tb.look at h
 split at h
 ·omega
 ·cases h
theorem Gd.opnT (h : Gd S rk k) {n : Int} (fl : Int) (hn : ∃ x, fnd S.nodes n = some x ∧ x.kind ≠ 3) : Gd { S with tab := (Tb.opn S.tab n fl).2 } rk k := by
 unfold Tb.opn
 cases hf : S.tab.findIdx? (fun s => !s.on) with
 | none => exact h
 | some j =>
  have hj : j < 16 := by
   rw [← h.tab16]
   exact (List.findIdx?_eq_some_iff_getElem.1 hf).1
  exact h.slot hj ⟨n, 0, fl, true⟩ fun _ => ⟨hn, by show (0:Int) ≤ 0; omega, by show (0:Int) ≤ _; omega⟩
theorem Gd.clsT (h : Gd S rk k) (fd : Int) : Gd { S with tab := (Tb.cls S.tab fd).2 } rk k := by
 unfold Tb.cls
 cases hf : Tb.look S.tab fd with
 | none => exact h
 | some s => exact h.slot (look_num hf).2.2 Tb.none4 fun e => by cases e
theorem Gd.movT (h : Gd S rk k) (fd off : Int) (ho : off ≤ 1099511627776) : Gd { S with tab := (Tb.mov S.tab fd off).2 } rk k := by
 unfold Tb.mov
 cases hf : Tb.look S.tab fd with
 | none => exact h
 | some s =>
  dsimp only
  by_cases h0 : off < 0
  ·rw [if_pos h0]; exact h
  ·rw [if_neg h0]
   exact h.slot (look_num hf).2.2 _ fun _ => ⟨(h.opn fd s hf).1, by show 0 ≤ off; omega, ho⟩
theorem Gd.close (h : Gd S rk k) (fd : Int) : Gd (S.close fd).2 rk k := by
 unfold Tre.close
 split
 ·exact h
 ·exact (h.clsT fd).forget _
theorem Gd.fileG (h : Gd S rk k) {fd : Int} {wr : Bool} (h0 : (S.file fd wr).2 = 0) : ∃ s x, Tb.look S.tab fd = some s ∧ (S.file fd wr).1 = s ∧ fnd S.nodes s.node = some x ∧ x.kind = 1 ∧ 0 ≤ s.off ∧ s.off ≤ 1099511627776 := by
 unfold Tre.file at *
 by_cases h1 : (Tb.get S.tab fd).2 ≠ 0
 ·rw [if_pos h1] at h0; simp at h0
 rw [if_neg h1] at h0 ⊢
 by_cases h2 : wr = true ∧ andI (Tb.get S.tab fd).1.flags 32 = 0
 ·rw [if_pos h2] at h0; simp at h0
 rw [if_neg h2] at h0 ⊢
 by_cases h3 : (S.at_ (Tb.get S.tab fd).1.node).kind = 2
 ·rw [if_pos h3] at h0; simp at h0
 rw [if_neg h3]
 unfold Tb.get at *
 cases hl : Tb.look S.tab fd with
 | none => rw [hl] at h1; simp at h1
 | some s =>
  rw [hl] at h3
  obtain ⟨⟨x, hx, h4⟩, h5⟩ := h.opn fd s hl
  refine ⟨s, x, rfl, rfl, hx, ?_, h5⟩
  rw [at_of hx] at h3
  rcases (h.nod hx).kind with e | e | e
  ·exact e
  ·exact absurd e h3
  ·exact absurd e h4
theorem Gd.read (h : Gd S rk k) (kind fd n off : Int) : Gd (S.read kind fd n off).2 rk k := by
 unfold Tre.read
 dsimp only
 split
 ·exact h
 ·rename_i h1
  split
  ·exact h
  ·rename_i h2
   dsimp only
   by_cases hk : kind = 3
   ·rw [if_pos hk]
    obtain ⟨s, x, hl, e, hx, _, h3, h4⟩ := h.fileG (Classical.not_not.1 h1)
    refine h.movT fd _ ?_
    rw [if_neg (by rw [hk]; decide), e, at_of hx]
    have h5 := (h.nod hx).size.1
    simp only [List.length_take, List.length_drop]
    omega
   ·rw [if_neg hk]
    exact h
theorem Gd.seek (h : Gd S rk k) (fd n off : Int) : Gd (S.seek fd n off).2 rk k := by
 unfold Tre.seek
 dsimp only
 split
 ·exact h
 ·generalize (if n = 1 then (S.file fd false).1.off else if n = 2 then ((S.at_ (S.file fd false).1.node).data.length : Int) else 0) = f
  split
  ·exact h
  ·split
   ·exact h
   ·rename_i h3
    exact h.movT fd _ (by omega)
theorem nodCut_keeps (x : Nod) (size : Nat) : (nodCut x size).kind = x.kind ∧ (nodCut x size).names = x.names ∧ (nodCut x size).most = x.most ∧ (nodCut x size).links = x.links ∧ (nodCut x size).above = x.above ∧ (nodCut x size).data.length = size ∧ (nodCut x size).wr.length ≤ x.wr.length := by
 unfold nodCut
 split
 ·exact ⟨rfl, rfl, rfl, rfl, rfl, by simp; omega, by simp; omega⟩
 ·exact ⟨rfl, rfl, rfl, rfl, rfl, by simp; omega, Nat.le_refl _⟩
theorem Gd.resize (h : Gd S rk k) {n : Int} {x : Nod} (hx : fnd S.nodes n = some x) (h2 : x.kind ≠ 2) {size : Nat} (hs : size ≤ 100000) : Gd (S.resize n size) rk k := by
 unfold Tre.resize
 rw [at_of hx]
 obtain ⟨a1, a2, a3, a4, a5, a6, a7⟩ := nodCut_keeps x size
 exact h.dat hx h2 _ ⟨a1, a2, a3, a4, a5⟩ ⟨by omega, by have := (h.nod hx).size.2.1; omega⟩
theorem Gd.trunc (h : Gd S rk k) (fd off : Int) : Gd (S.trunc fd off).2 rk k := by
 unfold Tre.trunc
 dsimp only
 split
 ·exact h
 ·rename_i h1
  split
  ·exact h
  ·split
   ·exact h
   ·obtain ⟨s, x, hl, e, hx, hk, _⟩ := h.fileG (Classical.not_not.1 h1)
    rw [e]
    exact h.resize hx (by rw [hk]; decide) (by omega)
theorem needM_162 (n : Nat) : needM n ≤ 162 := by unfold needM; split <;> omega
theorem nodWrite_keeps (x : Nod) (off : Nat) (ds : List Int) : (nodWrite x off ds).kind = x.kind ∧ (nodWrite x off ds).names = x.names ∧ (nodWrite x off ds).most = x.most ∧ (nodWrite x off ds).links = x.links ∧ (nodWrite x off ds).above = x.above ∧ (nodWrite x off ds).data.length = max x.data.length (off + ds.length) ∧ (nodWrite x off ds).wr.length ≤ max x.wr.length 162 := by
 obtain ⟨a1, a2, a3, a4, a5, a6, a7⟩ := nodCut_keeps x (max x.data.length (off + ds.length))
 refine ⟨a1, a2, a3, a4, a5, ?_, ?_⟩
 ·show ((nodCut x _).data.take off ++ ds ++ (nodCut x _).data.drop (off + ds.length)).length = _
  simp only [List.length_append, List.length_take, List.length_drop, a6]
  omega
 ·show (wrSet ((nodCut x _).wr ++ List.replicate (needM (off + ds.length) - (nodCut x _).wr.length) false) (off / 128) (needM (off + ds.length))).length ≤ _
  rw [wrSet_len, List.length_append, List.length_replicate]
  have := needM_162 (off + ds.length)
  omega
theorem Gd.write (h : Gd S rk k) (kind fd off : Int) (ds : List Int) : Gd (S.write kind fd off ds).2 rk k := by
 unfold Tre.write
 dsimp only
 split
 ·exact h
 ·rename_i h1
  split
  ·exact h
  ·rename_i h2
   obtain ⟨s, x, hl, e, hx, hk, h3, h4⟩ := h.fileG (Classical.not_not.1 h1)
   rw [e, at_of hx]
   generalize ho : (if kind = 6 then off else if andI s.flags 8 ≠ 0 then (x.data.length : Int) else s.off) = o
   have ho0 : 0 ≤ o := by
    rw [← ho]
    by_cases hk6 : kind = 6
    ·rw [if_pos hk6]
     have : ¬ off < 0 := fun h => h2 ⟨hk6, h⟩
     omega
    ·rw [if_neg hk6]
     split <;> omega
   split
   ·exact h
   ·rename_i h5
    split
    ·exact h
    ·have hmin : min ds.length 20736 = ds.length := by omega
     rw [hmin] at h5
     obtain ⟨a1, a2, a3, a4, a5, a6, a7⟩ := nodWrite_keeps x o.toNat ds
     have hsz := (h.nod hx).size
     have G := h.dat hx (by rw [hk]; decide) (nodWrite x o.toNat ds) ⟨a1, a2, a3, a4, a5⟩ ⟨by omega, by omega⟩
     dsimp only
     split
     ·exact G.movT fd _ (by omega)
     ·exact G
theorem Gd.mkdir (h : Gd S rk k) (p : Str) : ∃ rk', Gd (S.mkdir p).2 rk' (k + 1) := by
 unfold Tre.mkdir
 dsimp only
 split
 ·exact ⟨rk, h.mono (Nat.le_succ k)⟩
 ·rename_i h0
  obtain ⟨h1, h2, h3⟩ := fresh_place (Classical.not_not.1 h0)
  rw [h3]
  exact ⟨_, h.make (h.place_ok p h1) h2 2 (.inr (.inl rfl)) [] (by simp)⟩
theorem Gd.symlink (h : Gd S rk k) (p q : Str) (hp : p.length ≤ 100000) : ∃ rk', Gd (S.symlink p q).2 rk' (k + 1) := by
 unfold Tre.symlink
 split
 ·exact ⟨rk, h.mono (Nat.le_succ k)⟩
 ·split
  ·exact ⟨rk, h.mono (Nat.le_succ k)⟩
  ·rename_i h0
   obtain ⟨h1, h2, h3⟩ := fresh_place (Classical.not_not.1 h0)
   rw [h3]
   exact ⟨_, h.make (h.place_ok q h1) h2 3 (.inr (.inr rfl)) p hp⟩
theorem Gd.link (h : Gd S rk k) (p q : Str) : ∃ rk', Gd (S.link p q).2 rk' (k + 1) := by
 unfold Tre.link
 split
 ·exact ⟨rk, h.mono (Nat.le_succ k)⟩
 ·rename_i hf
  split
  ·exact ⟨rk, h.mono (Nat.le_succ k)⟩
  ·rename_i hk2
   split
   ·exact ⟨rk, h.mono (Nat.le_succ k)⟩
   ·rename_i h0
    obtain ⟨h1, h2, h3⟩ := fresh_place (Classical.not_not.1 h0)
    rw [h3]
    obtain ⟨x, hx, _⟩ := (h.find_ok p false (Classical.not_not.1 hf)).1.node
    rw [at_of hx] at hk2
    exact ⟨_, h.addN (h.place_ok q h1) h2 hx hk2⟩
theorem Gd.remove (h : Gd S rk k) {kind : Int} (hk : kind = 10 ∨ kind = 11) (p : Str) : Gd (S.remove kind p).2 rk k := by
 unfold Tre.remove
 split
 ·exact h
 ·rename_i h0
  split
  ·exact h
  ·rename_i hn0
   have P := h.place_ok p (Classical.not_not.1 h0)
   generalize (S.place p).1 = s at *
   obtain ⟨d, hd, hd2, _, hc, _⟩ := P.dir
   have hc := hc hn0
   obtain ⟨_, _, y, hy, _⟩ := (h.nod hd).ents _ (fnd_some hc)
   have hy' : fnd S.nodes s.node = some y := hy
   rw [at_of hy']
   split
   ·exact h
   ·rename_i h3
    split
    ·exact h
    ·rename_i h4
     split
     ·exact h
     ·rename_i h5
      refine h.take hd hc hy' fun h2 => ?_
      rcases hk with e | e
      ·have : ¬ 0 < y.names.length := fun h6 => h4 ⟨e, h6⟩
       exact List.eq_nil_of_length_eq_zero (by omega)
      ·exact absurd ⟨e, h2⟩ h5
theorem Gd.openF (h : Gd S rk k) {s : Spt} {fl : Int} (hg : ¬ (andI fl 12 ≠ 0 ∧ andI fl 32 = 0)) {x : Nod} (hx : fnd S.nodes s.node = some x) (h3 : x.kind ≠ 3) (h4 : andI fl 4 ≠ 0 → andI fl 12 ≠ 0) : Gd (S.openAt s fl).2 rk k := by
 have hn0 : s.node ≠ 0 := h.ne0 hx
 unfold Tre.openAt
 split
 ·exact h
 ·rename_i h5
  split
  ·exact h
  ·dsimp only
   try rw [if_neg hn0]
   try rw [if_neg hn0]
   by_cases ht : andI fl 4 ≠ 0
   ·rw [if_pos ht]
    have h6 : x.kind ≠ 2 := by
     intro e
     rw [at_of hx] at h5
     exact h5 ⟨hn0, e, fun e32 => hg ⟨h4 ht, e32⟩⟩
    have G := h.resize (size := 0) hx h6 (by omega)
    refine G.opnT fl ⟨nodCut x 0, ?_, ?_⟩
    ·show fnd (putA S.nodes s.node _) s.node = _
     rw [fnd_putA, if_pos rfl, at_of hx]
    ·rw [(nodCut_keeps x 0).1]; exact h3
   ·rw [if_neg ht]
    exact h.opnT fl ⟨x, hx, h3⟩
theorem nodAdd_kind (x : Nod) (d : Int) : (Tre.nodAdd x d).kind = x.kind := by
 unfold Tre.nodAdd
 by_cases h : x.kind = 2
 ·rw [if_pos h]
 ·rw [if_neg h]
theorem make_fnd (S : Tre) (s : Spt) (c : Int) (ds : Str) : ∃ x, fnd (S.make s c ds).nodes (S.last + 1) = some x ∧ x.kind = c := by
 refine ⟨Tre.nodAdd ⟨c, if c = 3 then bytesOf ds else [], [], [], 0, 0, 0⟩ s.dir, ?_, ?_⟩
 ·unfold Tre.make Tre.add Tre.setN
  refine (fnd_putA.trans (if_pos rfl)).trans ?_
  unfold Tre.at_
  dsimp only
  rw [fnd_putA, if_pos rfl]
  rfl
 ·exact nodAdd_kind _ _
theorem Gd.openN (h : Gd S rk k) {s : Spt} (P : PlOk S rk s) (hs0 : s.node = 0) (fl : Int) : ∃ rk', Gd (S.openAt s fl).2 rk' (k + 1) := by
 unfold Tre.openAt
 split
 ·exact ⟨rk, h.mono (Nat.le_succ k)⟩
 ·split
  ·exact ⟨rk, h.mono (Nat.le_succ k)⟩
  ·dsimp only
   try rw [if_pos hs0]
   try rw [if_pos hs0]
   have G := h.make P hs0 1 (.inl rfl) [] (by simp)
   obtain ⟨x, hx, hk⟩ := make_fnd S s 1 []
   by_cases ht : andI fl 4 ≠ 0
   ·rw [if_pos ht]
    have G2 := G.resize (size := 0) hx (by rw [hk]; decide) (by omega)
    refine ⟨_, G2.opnT fl ⟨nodCut x 0, ?_, ?_⟩⟩
    ·show fnd (putA (S.make s 1 []).nodes (S.last + 1) _) (S.last + 1) = _
     rw [fnd_putA, if_pos rfl, at_of hx]
    ·rw [(nodCut_keeps x 0).1, hk]; decide
   ·rw [if_neg ht]
    exact ⟨_, G.opnT fl ⟨x, hx, by rw [hk]; decide⟩⟩
theorem Gd.openFd (h : Gd S rk k) (p : Str) (fl : Int) (h4 : andI fl 4 ≠ 0 → andI fl 12 ≠ 0) : ∃ rk', Gd (S.openFd p fl).2 rk' (k + 1) := by
 unfold Tre.openFd
 split
 ·exact ⟨rk, h.mono (Nat.le_succ k)⟩
 ·rename_i hg
  have hg2 : ¬ (andI fl 12 ≠ 0 ∧ andI fl 32 = 0) := fun e => hg (.inr (.inr e))
  have hfind : (S.find p true).2 = 0 → ∃ rk', Gd (S.openAt (S.find p true).1 fl).2 rk' (k + 1) := by
   intro h0
   obtain ⟨h1, h2⟩ := h.find_ok p true h0
   obtain ⟨x, hx, _⟩ := h1.node
   have h3 := h2 rfl
   rw [at_of hx] at h3
   exact ⟨rk, (h.openF hg2 hx h3 h4).mono (Nat.le_succ k)⟩
  split
  ·split
   ·exact ⟨rk, h.mono (Nat.le_succ k)⟩
   ·rename_i hp
    split
    ·exact ⟨rk, h.mono (Nat.le_succ k)⟩
    ·split
     ·split
      ·exact ⟨rk, h.mono (Nat.le_succ k)⟩
      ·rename_i h0
       exact hfind (Classical.not_not.1 h0)
     ·rename_i hno
      exact h.openN (h.place_ok p (Classical.not_not.1 hp)) (Classical.byContradiction fun e => hno (.inl e)) fl
  ·split
   ·exact ⟨rk, h.mono (Nat.le_succ k)⟩
   ·rename_i h0
    exact hfind (Classical.not_not.1 h0)
theorem take_les (h : Gd S rk k) {dir n : Int} {name : Str} {d x : Nod} (hd : fnd S.nodes dir = some d) (hf : fnd d.names name = some n) (hx : fnd S.nodes n = some x) : Les (S.take dir name).nodes S := by
 intro c u hu
 by_cases hc : c = n
 ·subst hc
  have hk : S.kid dir name = c := by unfold Tre.kid; rw [at_of hd, hf]; rfl
  unfold Tre.take at hu
  rw [hk, at_of hx] at hu
  have h1 : fnd ((S.setN dir (Tre.dirTake (S.at_ dir) name)).setN c (Tre.nodTake x)).nodes c = some (Tre.nodTake x) := by rw [setN_fnd, if_pos rfl]
  generalize (S.setN dir (Tre.dirTake (S.at_ dir) name)).setN c (Tre.nodTake x) = S2 at *
  unfold Tre.forget at hu
  rw [h1] at hu
  dsimp only at hu
  split at hu
  ·exfalso
   have : fnd (delA S2.nodes c) c = none := by
    rw [fnd_none]
    intro hm
    obtain ⟨p, hp, e⟩ := List.mem_map.1 hm
    have := (List.mem_filter.1 hp).2
    simp [e] at this
   rw [show fnd ({ S2 with nodes := delA S2.nodes c } : Tre).nodes c = fnd (delA S2.nodes c) c from rfl, this] at hu
   cases hu
  ·rw [h1] at hu
   cases hu
   exact ⟨x, hx, rfl, fun e he => he⟩
 ·rw [take_fnd hd hf c hc] at hu
  by_cases he : c = dir
  ·rw [if_pos he] at hu
   cases hu
   exact ⟨d, by rw [he]; exact hd, rfl, fun e he => (List.mem_filter.1 he).1⟩
  ·rw [if_neg he] at hu
   exact ⟨u, hu, rfl, fun e he => he⟩
theorem Gd.rename (h : Gd S rk k) (p q : Str) : ∃ rk', Gd (S.rename p q).2 rk' (k + 1) := by
 have hme : ∃ rk', Gd S rk' (k + 1) := ⟨rk, h.mono (Nat.le_succ k)⟩
 unfold Tre.rename
 by_cases hl1 : (lastM p).2.2 ≠ 0
 ·rw [if_pos hl1]; exact hme
 rw [if_neg hl1]
 by_cases hl2 : (lastM q).2.2 ≠ 0
 ·rw [if_pos hl2]; exact hme
 rw [if_neg hl2]
 by_cases hp0 : (S.place p).2 ≠ 0
 ·rw [if_pos hp0]; exact hme
 rw [if_neg hp0]
 by_cases hn0 : (S.place p).1.node = 0
 ·rw [if_pos hn0]; exact hme
 rw [if_neg hn0]
 by_cases hq0 : (S.place q).2 ≠ 0
 ·rw [if_pos hq0]; exact hme
 rw [if_neg hq0]
 have P := h.place_ok p (Classical.not_not.1 hp0)
 have Q := h.place_ok q (Classical.not_not.1 hq0)
 generalize (S.place p).1 = s at *
 generalize (S.place q).1 = t at *
 obtain ⟨d, hd, hd2, _, hc, _⟩ := P.dir
 have hc := hc hn0
 obtain ⟨td, htd, htd2, htat, htc, htn⟩ := Q.dir
 obtain ⟨_, _, x, hx0, hxe⟩ := (h.nod hd).ents _ (fnd_some hc)
 have hx : fnd S.nodes s.node = some x := hx0
 clear hx0
 dsimp only
 rw [at_of hx]
 by_cases hw : x.kind = 2 ∧ S.within t.dir s.node = true
 ·rw [if_pos hw]; exact hme
 rw [if_neg hw]
 by_cases hdp : x.kind = 2 ∧ S.deep s.node (S.way t.dir ++ [t.name]) = true
 ·rw [if_pos hdp]; exact hme
 rw [if_neg hdp]
 by_cases hne : t.node = s.node
 ·rw [if_pos hne]; exact hme
 rw [if_neg hne]
 have hdir : x.kind = 2 → S.within t.dir s.node = false ∧ S.deep s.node (S.way t.dir ++ [t.name]) = false := fun h2 => ⟨Bool.eq_false_iff.2 fun e => hw ⟨h2, e⟩, Bool.eq_false_iff.2 fun e => hdp ⟨h2, e⟩⟩
 have hparts : (S.way t.dir ++ [t.name]).length = rk t.dir + 1 := by
  rw [List.length_append, h.wayLen _ _ _ htd htd2 htat rfl]
  rfl
 have hst : s.node ≠ t.dir := by
  intro e
  have hxt : x = td := by rw [e, htd] at hx; exact (Option.some.inj hx).symm
  have := (hdir (by rw [hxt]; exact htd2)).1
  rw [← e, within_refl] at this
  cases this
 by_cases ht0 : t.node ≠ 0
 ·have htc := htc ht0
  obtain ⟨_, _, y, hy0, hye⟩ := (h.nod htd).ents _ (fnd_some htc)
  have hy : fnd S.nodes t.node = some y := hy0
  rw [at_of hy]
  by_cases c1 : t.node ≠ 0 ∧ x.kind = 2 ∧ y.kind ≠ 2
  ·rw [if_pos c1]; exact hme
  rw [if_neg c1]
  by_cases c2 : t.node ≠ 0 ∧ x.kind = 2 ∧ 0 < y.names.length
  ·rw [if_pos c2]; exact hme
  rw [if_neg c2]
  by_cases c3 : t.node ≠ 0 ∧ x.kind ≠ 2 ∧ y.kind = 2
  ·rw [if_pos c3]; exact hme
  rw [if_neg c3]
  dsimp only
  rw [if_pos ht0]
  have hemp : y.kind = 2 → y.names = [] := by
   intro h2
   by_cases hx2 : x.kind = 2
   ·have : ¬ 0 < y.names.length := fun e => c2 ⟨ht0, hx2, e⟩
    exact List.eq_nil_of_length_eq_zero (by omega)
   ·exact absurd ⟨ht0, hx2, h2⟩ c3
  have G := h.take htd htc hy hemp
  have hles := take_les h htd htc hy
  have htt : t.dir ≠ t.node := by
   intro e
   have hyt : td = y := by rw [e, hy] at htd; exact (Option.some.inj htd).symm
   have := hemp (by rw [← hyt]; exact htd2)
   rw [hyt, this] at htc
   cases htc
  have hsd : s.dir ≠ t.node := by
   intro e
   have hyt : d = y := by rw [e, hy] at hd; exact (Option.some.inj hd).symm
   have := hemp (by rw [← hyt]; exact hd2)
   rw [hyt, this] at hc
   cases hc
  have f1 := take_fnd htd htc
  have hx1 : fnd (S.take t.dir t.name).nodes s.node = some x := by rw [f1 _ (fun e => hne e.symm), if_neg hst]; exact hx
  have ht1 : fnd (S.take t.dir t.name).nodes t.dir = some (Tre.dirTake td t.name) := by rw [f1 _ htt, if_pos rfl]
  have htn1 : fnd (Tre.dirTake td t.name).names t.name = none := by
   rw [fnd_none]
   intro hm
   obtain ⟨p, hp, e⟩ := List.mem_map.1 hm
   have := (List.mem_filter.1 hp).2
   simp [e] at this
  obtain ⟨d1, hd1, hf1⟩ : ∃ d1, fnd (S.take t.dir t.name).nodes s.dir = some d1 ∧ fnd d1.names s.name = some s.node := by
   rw [f1 _ hsd]
   by_cases e : s.dir = t.dir
   ·rw [if_pos e]
    refine ⟨_, rfl, ?_⟩
    have hdt : td = d := by rw [← e, hd] at htd; exact (Option.some.inj htd).symm
    show fnd (delA td.names t.name) s.name = _
    rw [fnd_delA, hdt]
    ·exact hc
    ·intro en
     rw [hdt, ← en, hc] at htc
     exact hne (Option.some.inj htc).symm
   ·rw [if_neg e]
    exact ⟨d, hd, hc⟩
  exact G.mv h hles hd1 hf1 hx1 ht1 htd2 htat Q.name htn1 Q.low hparts hdir
 ·rw [if_neg (fun e => ht0 e.1), if_neg (fun e => ht0 e.1), if_neg (fun e => ht0 e.1)]
  dsimp only
  rw [if_neg ht0]
  exact h.mv h (fun n u hu => ⟨u, hu, rfl, fun e he => he⟩) hd hc hx htd htd2 htat Q.name (htn (Classical.not_not.1 ht0)) Q.low hparts hdir
end Go.Proofs.YtmgpgbfgemebbaaGreatDoor
namespace Go.Proofs.YtmgpgbfgemebbaaGreatDoor
open Go.RowKit Go.Own
end Go.Proofs.YtmgpgbfgemebbaaGreatDoor
namespace Go.Proofs.YtmgpgbfgemebbaaGreatDoor
open Go.RowKit Go.Own
end Go.Proofs.YtmgpgbfgemebbaaGreatDoor
namespace Go.Proofs.YtmgpgbfgemebbaaGreatDoor
open Go.RowKit Go.Own
end Go.Proofs.YtmgpgbfgemebbaaGreatDoor
namespace Go.Proofs.YtmgpgbfgemebbaaGreatDoor
open Go.RowKit Go.Own
end Go.Proofs.YtmgpgbfgemebbaaGreatDoor
namespace Go.Proofs.YtmgpgbfgemebbaaGreatDoor
open Go.RowKit Go.Own
end Go.Proofs.YtmgpgbfgemebbaaGreatDoor
namespace Go.Proofs.YtmgpgbfgemebbaaGreatDoor
open Go.RowKit Go.Own
def RTab (b : Nat) (T : List Tb.Slot) : HP := pt b (.cells (Tb.cells T) 96)
end Go.Proofs.YtmgpgbfgemebbaaGreatDoor
namespace Go.Proofs.YtmgpgbfgemebbaaGreatDoor
open Go.RowKit Go.Own
end Go.Proofs.YtmgpgbfgemebbaaGreatDoor
namespace Go.Proofs.YtmgpgbfgemebbaaGreatDoor
open Go.RowKit Go.Own
end Go.Proofs.YtmgpgbfgemebbaaGreatDoor
namespace Go.Proofs.YtmgpgbfgemebbaaGreatDoor
open Go.RowKit Go.Own
set_option maxRecDepth 100000 in
set_option maxHeartbeats 8000000 in
theorem doRmdir (q : Nat) (S : Tre) (fd n off flags : Int) (path dest : Str) (ov : Value) (w : World) (L : List HP) (rk : Int → Nat) (mx : Int) (hW : Wk S) (hY : Wy S rk) (hM : MxL mx L) (hp : path.length ≤ 100000) (hKO : (S.place path).2 = 0 → (S.place path).1.node ≠ 0 → KidOk S (S.place path).1) (hO : Has w (Trc q S :: L)) :
  Calls Tryz.prog 16 #[.pointer (some ⟨q, 0, none⟩), opV ⟨10, fd, n, off, flags, path, dest⟩ (ov)] w fun e w' => e = .returned (ansV (S.remove 10 path).1 nilV nilV) ∧ Has w' (Trc q (S.remove 10 path).2 :: L) ∧ Keep w w' := by
 have HX0 := (fun (w : World) (L' : List HP) (hM : MxL mx L') (hO : Has w (Trc q S :: L')) => tRemove q S rk ⟨10, fd, n, off, flags, path, dest⟩ ov mx w L' (.inl rfl) hW hY hM hp hKO hO)
 try dsimp only at HX0
 have HX := hid HX0
 clear HX0
 have HM := hid hM
 clear hM
 generalize S.remove 10 path = R at *
 have HO := hid hO
 clear hO
 try unfold opV opC at HX
 unfold opV opC
 go_enter Tryz.func16, Tryz.ntmps16
 go_upto_region 1 with fail
 have h1 := (HO.out.alloc (.cells #[.int .i64 10, .int .i64 fd, .int .i64 n, .int .i64 off, .int .i64 flags, sV path, sV dest, ov] 33)).alloc (.cells (ansC (ansE 0) nilV nilV) 38)
 have HK1 := hid (((Keep.refl w).alloc (.cells #[.int .i64 10, .int .i64 fd, .int .i64 n, .int .i64 off, .int .i64 flags, sV path, sV dest, ov] 33)).alloc (.cells (ansC (ansE 0) nilV nilV) 38))
 unfold ansC ansE at h1 HK1
 have e1 : (w.alloc (.cells #[.int .i64 10, .int .i64 fd, .int .i64 n, .int .i64 off, .int .i64 flags, sV path, sV dest, ov] 33)).heap.size = w.heap.size + 1 := by show (Array.push _ _).size = _; rw [Array.size_push]
 rw [e1] at h1
 have HO1 := hid h1
 clear h1 e1 HO
 generalize (w.alloc (.cells #[.int .i64 10, .int .i64 fd, .int .i64 n, .int .i64 off, .int .i64 flags, sV path, sV dest, ov] 33)).alloc (.cells #[.int .i64 0, .int .i64 0, .int .i64 0, .int .i64 0, nilV, nilV] 38) = w1 at *
 generalize w.heap.size = g3 at *
 generalize g3 + 1 = g4 at *
 have hp0 : w1.cell? ⟨g3, 0, none⟩ = some (.int .i64 10) := HO1.out.p1.cells 0
 have hp1 : w1.cell? ⟨g3, 1, none⟩ = some (.int .i64 fd) := HO1.out.p1.cells 1
 have hp2 : w1.cell? ⟨g3, 2, none⟩ = some (.int .i64 n) := HO1.out.p1.cells 2
 have hp3 : w1.cell? ⟨g3, 3, none⟩ = some (.int .i64 off) := HO1.out.p1.cells 3
 have hp4 : w1.cell? ⟨g3, 4, none⟩ = some (.int .i64 flags) := HO1.out.p1.cells 4
 have hp5 : w1.cell? ⟨g3, 5, none⟩ = some (sV path) := HO1.out.p1.cells 5
 have hp6 : w1.cell? ⟨g3, 6, none⟩ = some (sV dest) := HO1.out.p1.cells 6
 have hp7 : w1.cell? ⟨g3, 7, none⟩ = some (ov) := HO1.out.p1.cells 7
 go_wp2_with fail
 refine (HX.out w1 _ ((HM.out.cons (pt g3 (.cells #[.int .i64 10, .int .i64 fd, .int .i64 n, .int .i64 off, .int .i64 flags, sV path, sV dest, ov] 33))).cons (pt g4 (.cells #[.int .i64 0, .int .i64 0, .int .i64 0, .int .i64 0, nilV, nilV] 38))) (HO1.out.re 3 [2, 0, 1])).mono ?_
 rintro e w2 ⟨rfl, hO2, hK2⟩
 have HO2 := hid hO2
 have HK2 := hid ((HK1.out).trans hK2)
 clear hO2 hK2
 try dsimp only
 have HO3 := hid (show Has w2 (pt g4 (.cells (ansC (ansE 0) nilV nilV) 38) :: Trc q R.2 :: L) from HO2.out.re 3 [1, 0])
 have hz0 : w2.cell? ⟨g4, 0, none⟩ = some (.int .i64 0) := (HO3.out).cells 0
 have hz1 : w2.cell? ⟨g4, 1, none⟩ = some (.int .i64 0) := (HO3.out).cells 1
 have hz2 : w2.cell? ⟨g4, 2, none⟩ = some (.int .i64 0) := (HO3.out).cells 2
 have hz3 : w2.cell? ⟨g4, 3, none⟩ = some (.int .i64 0) := (HO3.out).cells 3
 have hz4 : w2.cell? ⟨g4, 4, none⟩ = some (.slice none 0 0) := (HO3.out).cells 4
 have hz5 : w2.cell? ⟨g4, 5, none⟩ = some (.slice none 0 0) := (HO3.out).cells 5
 have hy0 := (HO3.out).thaw 0
 have hy1 := (HO3.out).thaw 1
 have hy2 := (HO3.out).thaw 2
 have hy3 := (HO3.out).thaw 3
 have hy4 := (HO3.out).thaw 4
 have hy5 := (HO3.out).thaw 5
 unfold ansV ansC
 go_wp2_with fail
 have h1 := HO3.out.ans R.1 nilV nilV
 refine bodyPost_ret (ans_result rfl rfl h1) rfl ?_
 exact ⟨rfl, h1.drop, HK2.out.ans _ _ _ _ _ _ _⟩
set_option maxRecDepth 100000 in
set_option maxHeartbeats 8000000 in
theorem doUnlink (q : Nat) (S : Tre) (fd n off flags : Int) (path dest : Str) (ov : Value) (w : World) (L : List HP) (rk : Int → Nat) (mx : Int) (hW : Wk S) (hY : Wy S rk) (hM : MxL mx L) (hp : path.length ≤ 100000) (hKO : (S.place path).2 = 0 → (S.place path).1.node ≠ 0 → KidOk S (S.place path).1) (hO : Has w (Trc q S :: L)) :
  Calls Tryz.prog 16 #[.pointer (some ⟨q, 0, none⟩), opV ⟨11, fd, n, off, flags, path, dest⟩ (ov)] w fun e w' => e = .returned (ansV (S.remove 11 path).1 nilV nilV) ∧ Has w' (Trc q (S.remove 11 path).2 :: L) ∧ Keep w w' := by
 have HX0 := (fun (w : World) (L' : List HP) (hM : MxL mx L') (hO : Has w (Trc q S :: L')) => tRemove q S rk ⟨11, fd, n, off, flags, path, dest⟩ ov mx w L' (.inr rfl) hW hY hM hp hKO hO)
 try dsimp only at HX0
 have HX := hid HX0
 clear HX0
 have HM := hid hM
 clear hM
 generalize S.remove 11 path = R at *
 have HO := hid hO
 clear hO
 try unfold opV opC at HX
 unfold opV opC
 go_enter Tryz.func16, Tryz.ntmps16
 go_upto_region 1 with fail
 have h1 := (HO.out.alloc (.cells #[.int .i64 11, .int .i64 fd, .int .i64 n, .int .i64 off, .int .i64 flags, sV path, sV dest, ov] 33)).alloc (.cells (ansC (ansE 0) nilV nilV) 38)
 have HK1 := hid (((Keep.refl w).alloc (.cells #[.int .i64 11, .int .i64 fd, .int .i64 n, .int .i64 off, .int .i64 flags, sV path, sV dest, ov] 33)).alloc (.cells (ansC (ansE 0) nilV nilV) 38))
 unfold ansC ansE at h1 HK1
 have e1 : (w.alloc (.cells #[.int .i64 11, .int .i64 fd, .int .i64 n, .int .i64 off, .int .i64 flags, sV path, sV dest, ov] 33)).heap.size = w.heap.size + 1 := by show (Array.push _ _).size = _; rw [Array.size_push]
 rw [e1] at h1
 have HO1 := hid h1
 clear h1 e1 HO
 generalize (w.alloc (.cells #[.int .i64 11, .int .i64 fd, .int .i64 n, .int .i64 off, .int .i64 flags, sV path, sV dest, ov] 33)).alloc (.cells #[.int .i64 0, .int .i64 0, .int .i64 0, .int .i64 0, nilV, nilV] 38) = w1 at *
 generalize w.heap.size = g3 at *
 generalize g3 + 1 = g4 at *
 have hp0 : w1.cell? ⟨g3, 0, none⟩ = some (.int .i64 11) := HO1.out.p1.cells 0
 have hp1 : w1.cell? ⟨g3, 1, none⟩ = some (.int .i64 fd) := HO1.out.p1.cells 1
 have hp2 : w1.cell? ⟨g3, 2, none⟩ = some (.int .i64 n) := HO1.out.p1.cells 2
 have hp3 : w1.cell? ⟨g3, 3, none⟩ = some (.int .i64 off) := HO1.out.p1.cells 3
 have hp4 : w1.cell? ⟨g3, 4, none⟩ = some (.int .i64 flags) := HO1.out.p1.cells 4
 have hp5 : w1.cell? ⟨g3, 5, none⟩ = some (sV path) := HO1.out.p1.cells 5
 have hp6 : w1.cell? ⟨g3, 6, none⟩ = some (sV dest) := HO1.out.p1.cells 6
 have hp7 : w1.cell? ⟨g3, 7, none⟩ = some (ov) := HO1.out.p1.cells 7
 go_wp2_with fail
 refine (HX.out w1 _ ((HM.out.cons (pt g3 (.cells #[.int .i64 11, .int .i64 fd, .int .i64 n, .int .i64 off, .int .i64 flags, sV path, sV dest, ov] 33))).cons (pt g4 (.cells #[.int .i64 0, .int .i64 0, .int .i64 0, .int .i64 0, nilV, nilV] 38))) (HO1.out.re 3 [2, 0, 1])).mono ?_
 rintro e w2 ⟨rfl, hO2, hK2⟩
 have HO2 := hid hO2
 have HK2 := hid ((HK1.out).trans hK2)
 clear hO2 hK2
 try dsimp only
 have HO3 := hid (show Has w2 (pt g4 (.cells (ansC (ansE 0) nilV nilV) 38) :: Trc q R.2 :: L) from HO2.out.re 3 [1, 0])
 have hz0 : w2.cell? ⟨g4, 0, none⟩ = some (.int .i64 0) := (HO3.out).cells 0
 have hz1 : w2.cell? ⟨g4, 1, none⟩ = some (.int .i64 0) := (HO3.out).cells 1
 have hz2 : w2.cell? ⟨g4, 2, none⟩ = some (.int .i64 0) := (HO3.out).cells 2
 have hz3 : w2.cell? ⟨g4, 3, none⟩ = some (.int .i64 0) := (HO3.out).cells 3
 have hz4 : w2.cell? ⟨g4, 4, none⟩ = some (.slice none 0 0) := (HO3.out).cells 4
 have hz5 : w2.cell? ⟨g4, 5, none⟩ = some (.slice none 0 0) := (HO3.out).cells 5
 have hy0 := (HO3.out).thaw 0
 have hy1 := (HO3.out).thaw 1
 have hy2 := (HO3.out).thaw 2
 have hy3 := (HO3.out).thaw 3
 have hy4 := (HO3.out).thaw 4
 have hy5 := (HO3.out).thaw 5
 unfold ansV ansC
 go_wp2_with fail
 have h1 := HO3.out.ans R.1 nilV nilV
 refine bodyPost_ret (ans_result rfl rfl h1) rfl ?_
 exact ⟨rfl, h1.drop, HK2.out.ans _ _ _ _ _ _ _⟩
end Go.Proofs.YtmgpgbfgemebbaaGreatDoor
namespace Go.Proofs.YtmgpgbfgemebbaaGreatDoor
open Go.RowKit Go.Own
set_option maxRecDepth 100000 in
set_option maxHeartbeats 8000000 in
theorem doLink (q : Nat) (S : Tre) (fd n off flags : Int) (path dest : Str) (ov : Value) (w : World) (L : List HP) (rk : Int → Nat) (mx : Int) (hW : Wk S) (hY : Wy S rk) (hM : MxL mx L) (hp : path.length ≤ 100000) (hd : dest.length ≤ 100000) (hlk : ∀ n x, fnd S.nodes n = some x → 0 ≤ x.links ∧ x.links < 1000000) (hDO : (S.fresh dest).2 = 0 → DirOk S (S.fresh dest).1) (hO : Has w (Trc q S :: L)) :
  Calls Tryz.prog 16 #[.pointer (some ⟨q, 0, none⟩), opV ⟨12, fd, n, off, flags, path, dest⟩ (ov)] w fun e w' => e = .returned (ansV (S.link path dest).1 nilV nilV) ∧ Has w' (Trc q (S.link path dest).2 :: L) ∧ Keep w w' := by
 have HX0 := (fun (w : World) (L' : List HP) (hM : MxL mx L') (hO : Has w (Trc q S :: L')) => tLink q S rk ⟨12, fd, n, off, flags, path, dest⟩ ov mx w L' hW hY hM hp hd hlk hDO hO)
 try dsimp only at HX0
 have HX := hid HX0
 clear HX0
 have HM := hid hM
 clear hM
 generalize S.link path dest = R at *
 have HO := hid hO
 clear hO
 try unfold opV opC at HX
 unfold opV opC
 go_enter Tryz.func16, Tryz.ntmps16
 go_upto_region 1 with fail
 have h1 := (HO.out.alloc (.cells #[.int .i64 12, .int .i64 fd, .int .i64 n, .int .i64 off, .int .i64 flags, sV path, sV dest, ov] 33)).alloc (.cells (ansC (ansE 0) nilV nilV) 38)
 have HK1 := hid (((Keep.refl w).alloc (.cells #[.int .i64 12, .int .i64 fd, .int .i64 n, .int .i64 off, .int .i64 flags, sV path, sV dest, ov] 33)).alloc (.cells (ansC (ansE 0) nilV nilV) 38))
 unfold ansC ansE at h1 HK1
 have e1 : (w.alloc (.cells #[.int .i64 12, .int .i64 fd, .int .i64 n, .int .i64 off, .int .i64 flags, sV path, sV dest, ov] 33)).heap.size = w.heap.size + 1 := by show (Array.push _ _).size = _; rw [Array.size_push]
 rw [e1] at h1
 have HO1 := hid h1
 clear h1 e1 HO
 generalize (w.alloc (.cells #[.int .i64 12, .int .i64 fd, .int .i64 n, .int .i64 off, .int .i64 flags, sV path, sV dest, ov] 33)).alloc (.cells #[.int .i64 0, .int .i64 0, .int .i64 0, .int .i64 0, nilV, nilV] 38) = w1 at *
 generalize w.heap.size = g3 at *
 generalize g3 + 1 = g4 at *
 have hp0 : w1.cell? ⟨g3, 0, none⟩ = some (.int .i64 12) := HO1.out.p1.cells 0
 have hp1 : w1.cell? ⟨g3, 1, none⟩ = some (.int .i64 fd) := HO1.out.p1.cells 1
 have hp2 : w1.cell? ⟨g3, 2, none⟩ = some (.int .i64 n) := HO1.out.p1.cells 2
 have hp3 : w1.cell? ⟨g3, 3, none⟩ = some (.int .i64 off) := HO1.out.p1.cells 3
 have hp4 : w1.cell? ⟨g3, 4, none⟩ = some (.int .i64 flags) := HO1.out.p1.cells 4
 have hp5 : w1.cell? ⟨g3, 5, none⟩ = some (sV path) := HO1.out.p1.cells 5
 have hp6 : w1.cell? ⟨g3, 6, none⟩ = some (sV dest) := HO1.out.p1.cells 6
 have hp7 : w1.cell? ⟨g3, 7, none⟩ = some (ov) := HO1.out.p1.cells 7
 go_wp2_with fail
 refine (HX.out w1 _ ((HM.out.cons (pt g3 (.cells #[.int .i64 12, .int .i64 fd, .int .i64 n, .int .i64 off, .int .i64 flags, sV path, sV dest, ov] 33))).cons (pt g4 (.cells #[.int .i64 0, .int .i64 0, .int .i64 0, .int .i64 0, nilV, nilV] 38))) (HO1.out.re 3 [2, 0, 1])).mono ?_
 rintro e w2 ⟨rfl, hO2, hK2⟩
 have HO2 := hid hO2
 have HK2 := hid ((HK1.out).trans hK2)
 clear hO2 hK2
 try dsimp only
 have HO3 := hid (show Has w2 (pt g4 (.cells (ansC (ansE 0) nilV nilV) 38) :: Trc q R.2 :: L) from HO2.out.re 3 [1, 0])
 have hz0 : w2.cell? ⟨g4, 0, none⟩ = some (.int .i64 0) := (HO3.out).cells 0
 have hz1 : w2.cell? ⟨g4, 1, none⟩ = some (.int .i64 0) := (HO3.out).cells 1
 have hz2 : w2.cell? ⟨g4, 2, none⟩ = some (.int .i64 0) := (HO3.out).cells 2
 have hz3 : w2.cell? ⟨g4, 3, none⟩ = some (.int .i64 0) := (HO3.out).cells 3
 have hz4 : w2.cell? ⟨g4, 4, none⟩ = some (.slice none 0 0) := (HO3.out).cells 4
 have hz5 : w2.cell? ⟨g4, 5, none⟩ = some (.slice none 0 0) := (HO3.out).cells 5
 have hy0 := (HO3.out).thaw 0
 have hy1 := (HO3.out).thaw 1
 have hy2 := (HO3.out).thaw 2
 have hy3 := (HO3.out).thaw 3
 have hy4 := (HO3.out).thaw 4
 have hy5 := (HO3.out).thaw 5
 unfold ansV ansC
 go_wp2_with fail
 have h1 := HO3.out.ans R.1 nilV nilV
 refine bodyPost_ret (ans_result rfl rfl h1) rfl ?_
 exact ⟨rfl, h1.drop, HK2.out.ans _ _ _ _ _ _ _⟩
end Go.Proofs.YtmgpgbfgemebbaaGreatDoor
namespace Go.Proofs.YtmgpgbfgemebbaaGreatDoor
open Go.RowKit Go.Own
def nodL (p : Str) : Nod := ⟨3, bytesOf p, [], [], 0, 0, 0⟩
end Go.Proofs.YtmgpgbfgemebbaaGreatDoor
