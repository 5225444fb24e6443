/- TEXTS of mine, merged. -/
import Derived.Test.YtonhcefgakmpfaaGreatDoorM13
import Derived.Shelf.SlIter.Nil
import Derived.Shelf.SlIter.Sorted
import Derived.Shelf.SlIter.Keys
import Derived.Shelf.SlGeneric
import Derived.Ground.GgzProg
import Derived.Test.YtonhcefgakmpfaaGreatDoorProg
import Derived.Test.YtonhcefgakmpfaaGreatDoorM1
import Derived.Shelf.SlIterI.Nil
import Derived.Maps.OwnIn
import Derived.Test.YtonhcefgakmpfaaGreatDoorM7
import Derived.Test.YtonhcefgakmpfaaGreatDoorM4
/- WHAT EVERY TREE KEEPS: kept by taking away and by moving. No program in sight. -/
namespace Go.Proofs.YtonhcefgakmpfaaGreatDoor
open Go.RowKit Go.Own
variable {S : Tre} {rk : Int → Nat} {k : Nat}
theorem holds_look {T : List Tb.Slot} {n : Int} (h : Tb.holds T n = false) {fd : Int} {s : Tb.Slot} (hl : Tb.look T fd = some s) : s.node ≠ n := by
  have hm : s ∈ T ∧ s.on = true := by
    unfold Tb.look at hl
    split at hl
    · split at hl
      · rename_i u hu
        split at hl
        · rename_i hon
          cases hl
          exact ⟨List.mem_of_getElem? hu, hon⟩
        · cases hl
      · cases hl
    · cases hl
  intro e
  have : Tb.holds T n = true := by
    unfold Tb.holds
    rw [List.any_eq_true]
    exact ⟨s, hm.1, by simp [hm.2, e]⟩
  rw [h] at this
  cases this
theorem Gd.forget (h : Gd S rk k) (n : Int) : Gd (S.forget n) rk k := by
  unfold Tre.forget
  cases hx : fnd S.nodes n with
  | none => exact h
  | some x =>
    dsimp only
    split
    · rename_i hc
      have hne : ∀ m, m ≠ n → fnd (delA S.nodes n) m = fnd S.nodes m := fun m hm => fnd_delA hm
      refine h.of (h.x.delN hx hc.2.1 hc.1) (Int.le_refl _) h.last (Nat.le_trans (delA_le _ _) h.many) rfl ?_ ?_
      · intro m u hu
        left
        have hu' : fnd (delA S.nodes n) m = some u := hu
        by_cases hm : m = n
        · exact ⟨x, by rw [hm]; exact hx⟩
        · rw [hne m hm] at hu'; exact ⟨u, hu'⟩
      · rintro m u hu ⟨fd, s, hs, e⟩
        have hm : m ≠ n := by rw [← e]; exact holds_look hc.2.2 hs
        exact ⟨u, by show fnd (delA S.nodes n) m = some u; rw [hne m hm]; exact hu, rfl⟩
    · exact h
/-- A name is taken away. -/
theorem Gd.take (h : Gd S rk k) {dir n : Int} {name : Str} {d x : Nod} (hd : fnd S.nodes dir = some d) (hf : fnd d.names name = some n) (hx : fnd S.nodes n = some x) (hemp : x.kind = 2 → x.names = []) : Gd (S.take dir name) rk k := by
  have H := h.nod hx
  have hsz := H.size
  have hcn : 1 ≤ cnt S.nodes n := cnt_has hd (fnd_some hf)
  have h1 : n ≠ 1 := by
    intro e
    have := (H.root e).2.2.2
    omega
  obtain ⟨e1, e2, y, hy, e3⟩ := (h.nod hd).ents _ (fnd_some hf)
  have hyx : y = x := by
    have hy' : fnd S.nodes n = some y := hy
    rw [hx] at hy'
    cases hy'
    rfl
  subst hyx
  have hdn : dir ≠ n := by
    intro e
    rw [e, hx] at hd
    have hdy : d = y := (Option.some.inj hd).symm
    rw [hdy] at hf
    have h2 : y.kind = 2 := Classical.byContradiction fun h2 => by
      have := (H.file h2).1
      rw [this] at hf
      cases hf
    have := hemp h2
    rw [this] at hf
    cases hf
  have hl := H.links (h.ne0 hx) h1
  have hk : S.kid dir name = n := by unfold Tre.kid; rw [at_of hd, hf]; rfl
  have he : S.take dir name = ({ S with nodes := putA (putA S.nodes dir (Tre.dirTake d name)) n (Tre.nodTake y) } : Tre).forget n := by
    unfold Tre.take Tre.setN
    rw [hk, at_of hd, at_of hx]
  obtain ⟨G2, c2⟩ := (h.x.opened h1).dele hd hf hdn
  have c2n := c2 n
  rw [if_pos rfl] at c2n
  have hx1 : fnd (putA S.nodes dir (Tre.dirTake d name)) n = some y := by rw [fnd_putA, if_neg (fun e => hdn e.symm)]; exact hx
  have hdl : y.kind = 2 → y.links = 1 := fun h2 => by
    have ha : y.above ≠ 0 := by rw [(e3 h2).1]; exact h.ne0 hd
    exact (H.above (h.ne0 hx) ha).2.2.1
  obtain ⟨G3, c3⟩ := G2.fix hx1 (Tre.nodTake y) rfl rfl rfl ⟨hsz.1, hsz.2.1, by show 0 ≤ y.links - 1; omega, by show y.links - 1 ≤ _; omega⟩ (fun h2 => by show (if y.kind = 2 then 0 else y.above) = 0; rw [if_neg h2]; exact (H.file h2).2.1) (fun h2 => by have := hdl h2; omega)
  have hx3 : fnd (putA (putA S.nodes dir (Tre.dirTake d name)) n (Tre.nodTake y)) n = some (Tre.nodTake y) := by rw [fnd_putA, if_pos rfl]
  have G4 := G3.closed hx3 (by rw [c3]; show y.links - 1 = _; omega) (fun e => by
      exfalso
      apply e
      show (if y.kind = 2 then 0 else y.above) = 0
      by_cases h2 : y.kind = 2
      · rw [if_pos h2]
      · rw [if_neg h2]; exact (H.file h2).2.1) (fun h2 _ => ⟨hemp h2, by show y.links - 1 = 0; have := hdl h2; omega⟩)
  rw [he]
  refine Gd.forget (h.of (S' := ⟨putA (putA S.nodes dir (Tre.dirTake d name)) n (Tre.nodTake y), S.last, S.tab⟩) G4 (Int.le_refl _) h.last ?_ rfl ?_ ?_) n
  · show (putA (putA S.nodes dir (Tre.dirTake d name)) n (Tre.nodTake y)).length ≤ _
    rw [putA_len hx1, putA_len hd]
    exact h.many
  · intro m u hu
    left
    have hu' : fnd (putA (putA S.nodes dir (Tre.dirTake d name)) n (Tre.nodTake y)) m = some u := hu
    rw [fnd_putA] at hu'
    by_cases h5 : m = n
    · exact ⟨y, by rw [h5]; exact hx⟩
    · rw [if_neg h5, fnd_putA] at hu'
      by_cases h6 : m = dir
      · exact ⟨d, by rw [h6]; exact hd⟩
      · rw [if_neg h6] at hu'
        exact ⟨u, hu'⟩
  · intro m u hu _
    show ∃ v, fnd (putA (putA S.nodes dir (Tre.dirTake d name)) n (Tre.nodTake y)) m = some v ∧ _
    rw [fnd_putA]
    by_cases h5 : m = n
    · rw [if_pos h5]
      rw [h5, hx] at hu
      cases hu
      exact ⟨_, rfl, rfl⟩
    · rw [if_neg h5, fnd_putA]
      by_cases h6 : m = dir
      · rw [if_pos h6]
        rw [h6, hd] at hu
        cases hu
        exact ⟨_, rfl, rfl⟩
      · rw [if_neg h6]
        exact ⟨u, hu, rfl⟩
theorem within_stable (h : Gd S rk k) (d : Int) : ∀ (a b : Nat) (n : Int) (x : Nod), fnd S.nodes n = some x → rk n < a → rk n < b → S.withinF a n d = S.withinF b n d := by
  intro a
  induction a with
  | zero => intro b n x _ h; omega
  | succ a ih =>
    intro b n x hn ha hb
    rcases b with _ | b
    · omega
    by_cases h1 : n ≠ d ∧ (S.at_ n).above ≠ 0
    · simp only [Tre.withinF, if_pos h1]
      rw [at_of hn] at h1 ⊢
      obtain ⟨⟨y, hy⟩, hr⟩ := h.up_rk n x hn h1.2
      exact ih b _ y hy (by omega) (by omega)
    · simp only [Tre.withinF, if_neg h1]
/-- Within: itself, or what stands above it is. -/
theorem Gd.within_up (h : Gd S rk k) {n d : Int} {x : Nod} (hn : fnd S.nodes n = some x) (h1 : n ≠ d) (ha : x.above ≠ 0) : S.within n d = S.within x.above d := by
  have hlow := h.x.rk20 n
  obtain ⟨⟨y, hy⟩, hr⟩ := h.up_rk n x hn ha
  show S.withinF (20 + 1) n d = S.withinF 21 x.above d
  rw [Tre.withinF, if_pos (by rw [at_of hn]; exact ⟨h1, ha⟩), at_of hn]
  exact within_stable h d 20 21 _ y hy (by omega) (by omega)
theorem Gd.within_end {n d : Int} {x : Nod} (hn : fnd S.nodes n = some x) (h1 : n ≠ d) (ha : x.above = 0) : S.within n d = false := by
  show S.withinF (20 + 1) n d = false
  rw [Tre.withinF, if_neg (by rw [at_of hn]; rintro ⟨_, h2⟩; exact h2 ha)]
  simpa using h1
theorem Gd.within_rk (h : Gd S rk k) (d : Int) : ∀ (r : Nat) (n : Int) (x : Nod), fnd S.nodes n = some x → rk n = r → S.within n d = true → rk d ≤ r ∧ (n ≠ d → rk d < r ∧ x.above ≠ 0 ∧ S.within x.above d = true) := by
  intro r
  induction r with
  | zero =>
    intro n x hn hr hw
    by_cases h1 : n = d
    · exact ⟨by rw [← h1]; omega, fun e => absurd h1 e⟩
    · by_cases ha : x.above = 0
      · rw [Gd.within_end hn h1 ha] at hw; cases hw
      · obtain ⟨_, hlt⟩ := h.up_rk n x hn ha
        omega
  | succ r ih =>
    intro n x hn hr hw
    by_cases h1 : n = d
    · exact ⟨by rw [← h1]; omega, fun e => absurd h1 e⟩
    · by_cases ha : x.above = 0
      · rw [Gd.within_end hn h1 ha] at hw; cases hw
      · obtain ⟨y, nm, hy, _, hr2, _⟩ := h.one hn ha
        rw [h.within_up hn h1 ha] at hw
        have := (ih _ y hy (by omega) hw).1
        exact ⟨by omega, fun _ => ⟨by omega, ha, hw⟩⟩
/-- What lies in a directory that is not too deep for a place. -/
theorem Gd.deep_at (h : Gd S rk k) {z : Int} {parts0 : List Str} (hd : S.deepF 22 z parts0 = false) : ∀ (r : Nat) (n : Int) (x : Nod), fnd S.nodes n = some x → rk n = r → S.within n z = true → ∃ parts, S.deepF (22 - (rk n - rk z)) n parts = false ∧ parts.length = parts0.length + (rk n - rk z) := by
  intro r
  induction r with
  | zero =>
    intro n x hn hr hw
    have h1 : n = z := Classical.byContradiction fun h1 => by
      have := ((h.within_rk z _ n x hn hr hw).2 h1).1
      omega
    subst h1
    exact ⟨parts0, by rw [Nat.sub_self]; exact hd, by omega⟩
  | succ r ih =>
    intro n x hn hr hw
    by_cases h1 : n = z
    · subst h1
      exact ⟨parts0, by rw [Nat.sub_self]; exact hd, by omega⟩
    · obtain ⟨h2, ha, hw2⟩ := (h.within_rk z _ n x hn hr hw).2 h1
      obtain ⟨y, nm, hy, _, hr2, hm, _⟩ := h.one hn ha
      obtain ⟨parts, hp, hl⟩ := ih _ y hy (by omega) hw2
      have h20 := h.x.rk20 n
      have h3 := (h.within_rk z _ _ y hy rfl hw2).1
      refine ⟨parts ++ [nm], ?_, by simp; omega⟩
      obtain ⟨f, hf⟩ : ∃ f, 22 - (rk x.above - rk z) = f + 1 := ⟨21 - (rk x.above - rk z), by omega⟩
      rw [hf] at hp
      have hf2 : 22 - (rk n - rk z) = f := by omega
      rw [hf2]
      simp only [Tre.deepF, Bool.or_eq_false_iff] at hp
      have := hp.2
      rw [List.any_eq_false, at_of hy] at this
      have := this _ hm
      simpa using this
theorem Gd.deep_rk (h : Gd S rk k) {z : Int} {parts0 : List Str} (hd : S.deep z parts0 = false) {n : Int} {x : Nod} (hn : fnd S.nodes n = some x) (hw : S.within n z = true) : parts0.length + (rk n - rk z) ≤ 20 ∧ (x.names ≠ [] → parts0.length + (rk n - rk z) < 20) := by
  obtain ⟨parts, hp, hl⟩ := h.deep_at hd _ n x hn rfl hw
  have h20 := h.x.rk20 n
  obtain ⟨f, hf⟩ : ∃ f, 22 - (rk n - rk z) = f + 1 := ⟨21 - (rk n - rk z), by omega⟩
  rw [hf] at hp
  simp only [Tre.deepF, Bool.or_eq_false_iff] at hp
  have hlong : ∀ ps : List Str, Tre.longM ps = false → ps.length ≤ 20 := by
    intro ps hps
    unfold Tre.longM at hps
    simp only [Bool.or_eq_false_iff, decide_eq_false_iff_not] at hps
    omega
  refine ⟨by have := hlong _ hp.1; omega, fun hne => ?_⟩
  obtain ⟨e, t, he⟩ := List.exists_cons_of_ne_nil hne
  have h5 := hp.2
  rw [List.any_eq_false, at_of hn, he] at h5
  have h6 := h5 e List.mem_cons_self
  have h7 : S.deepF f e.2 (parts ++ [e.1]) = false := by simpa using h6
  have h8 : Tre.longM (parts ++ [e.1]) = false := by
    cases f with
    | zero => exact h7
    | succ f => simp only [Tre.deepF, Bool.or_eq_false_iff] at h7; exact h7.1
  have := hlong _ h8
  simp at this
  omega
end Go.Proofs.YtonhcefgakmpfaaGreatDoor
/- WHAT EVERY TREE KEEPS: kept by renaming. No program in sight. -/
namespace Go.Proofs.YtonhcefgakmpfaaGreatDoor
open Go.RowKit Go.Own
variable {S : Tre} {rk : Int → Nat} {k : Nat}
/-- A tree of no more entries. -/
def Les (t : List (Int × Nod)) (S : Tre) : Prop := ∀ n x, fnd t n = some x → ∃ x0, fnd S.nodes n = some x0 ∧ x.kind = x0.kind ∧ ∀ e ∈ x.names, e ∈ x0.names
/-- The ranks of a directory's new place. -/
theorem Gx.moved {t : List (Int × Nod)} {z : Int} (h : Gx t rk k z) (h0 : Gd S rk k) (hle : Les t S) (hc : cnt t z = 0) {x : Nod} (hx : fnd S.nodes z = some x) (hx2 : x.kind = 2) {d : Int} {dn : Nod} (hd : fnd S.nodes d = some dn) (hd2 : dn.kind = 2) (hr : rk d < 20) {parts : List Str} (hp : parts.length = rk d + 1)
    (hw : S.within d z = false) (hdeep : S.deep z parts = false) : ∃ rk', Gx t rk' k z ∧ rk' d = rk d ∧ rk' z = rk d + 1 := by
  have hz1 := h.zne
  have hat : ∀ n y, fnd S.nodes n = some y → (S.at_ n).kind = y.kind := fun n y hy => by rw [at_of hy]
  refine ⟨fun n => if (S.at_ n).kind = 2 ∧ S.within n z = true then rk n + (rk d + 1) - rk z else rk n, h.rerank _ ?_ ?_ ?_ ?_ ?_, ?_, ?_⟩
  · obtain ⟨y, hy⟩ := h0.x.has1
    have hwf : S.within 1 z = false := Gd.within_end hy (fun e => hz1 e.symm) ((h0.nod hy).root rfl).2.1
    show (if _ then _ else _) = 0
    rw [if_neg (by rw [hwf]; simp)]
    exact h.rk1
  · intro n
    show (if _ then _ else _) ≤ 20
    split
    · rename_i hcond
      cases hn : fnd S.nodes n with
      | none =>
        have : (S.at_ n).kind = 0 := by unfold Tre.at_; rw [hn]; rfl
        rw [this] at hcond
        exact absurd hcond.1 (by decide)
      | some y =>
        have h1 := (h0.deep_rk hdeep hn hcond.2).1
        have h2 := (h0.within_rk z _ n y hn rfl hcond.2).1
        have h3 : rk n + (rk d + 1) - rk z ≤ 20 := by omega
        exact h3
    · exact h.rk20 n
  · intro n y hy hk
    obtain ⟨x0, hx0, hk0, _⟩ := hle n y hy
    show (if _ then _ else _) = 20
    rw [if_neg (by rw [hat n x0 hx0, ← hk0]; exact fun e => hk e.1)]
    exact ((h.nod n y hy).file hk).2.2
  · intro n y hy e he hcond
    obtain ⟨x0, hx0, hk0, hsub⟩ := hle n y hy
    obtain ⟨e1, e2, u, hu, e3⟩ := (h0.nod hx0).ents e (hsub e he)
    have hn2 : x0.kind = 2 := Classical.byContradiction fun h2 => by
      have := ((h0.nod hx0).file h2).1
      have h9 := hsub e he
      rw [this] at h9
      cases h9
    have hez : e.2 ≠ z := by
      intro ee
      have : 1 ≤ cnt t z := cnt_has hy (nm := e.1) (by rw [← ee]; exact he)
      omega
    have hu2 : u.kind = 2 := by
      obtain ⟨_, _, v, hv, _⟩ := (h.nod n y hy).ents e he
      obtain ⟨v0, hv0, hkv, _⟩ := hle _ _ hv
      rw [hu] at hv0
      cases hv0
      have h9 := hcond.2
      unfold Tre.at_ at h9
      dsimp only at h9
      rw [hv] at h9
      rw [← hkv]
      exact h9
    obtain ⟨e4, e5⟩ := e3 hu2
    have hwe : S.within e.2 z = S.within n z := by rw [h0.within_up hu hez (by rw [e4]; exact h0.ne0 hx0), e4]
    show (if _ then _ else _) = (if _ then _ else _) + 1
    rw [hat _ _ hu, hat _ _ hx0, hwe]
    by_cases hwn : S.within n z = true
    · rw [if_pos ⟨hu2, hwn⟩, if_pos ⟨hn2, hwn⟩]
      have := (h0.within_rk z _ n x0 hx0 rfl hwn).1
      omega
    · rw [if_neg (fun e => hwn e.2), if_neg (fun e => hwn e.2)]
      exact e5
  · intro n y hy hne
    obtain ⟨x0, hx0, hk0, hsub⟩ := hle n y hy
    have hne0 : x0.names ≠ [] := by
      intro e0
      obtain ⟨e, l, he⟩ := List.exists_cons_of_ne_nil hne
      have := hsub e (by rw [he]; exact List.mem_cons_self)
      rw [e0] at this
      cases this
    show (if _ then _ else _) < 20
    split
    · rename_i hcond
      have h1 := (h0.deep_rk hdeep hx0 hcond.2).2 hne0
      have h2 := (h0.within_rk z _ n x0 hx0 rfl hcond.2).1
      have h3 : rk n + (rk d + 1) - rk z < 20 := by omega
      exact h3
    · obtain ⟨e, l, he⟩ := List.exists_cons_of_ne_nil hne
      exact ((h.nod n y hy).ents e (by rw [he]; exact List.mem_cons_self)).2.1
  · show (if _ then _ else _) = rk d
    rw [if_neg (by rw [hw]; simp)]
  · show (if _ then _ else _) = rk d + 1
    rw [if_pos ⟨by rw [hat _ _ hx]; exact hx2, within_refl S z⟩]
    omega
/-- A name moves. -/
theorem Gd.mv {S1 : Tre} (h : Gd S1 rk k) (h0 : Gd S rk k) (hle : Les S1.nodes S) {s t : Spt} {d td x : Nod} (hd : fnd S1.nodes s.dir = some d) (hf : fnd d.names s.name = some s.node) (hx : fnd S1.nodes s.node = some x)
    (ht : fnd S1.nodes t.dir = some td) (ht2 : td.kind = 2) (hat : t.dir = 1 ∨ td.above ≠ 0) (hnm : NameOk t.name) (htn : fnd td.names t.name = none) (hr : rk t.dir < 20)
    {parts : List Str} (hp : parts.length = rk t.dir + 1) (hdir : x.kind = 2 → S.within t.dir s.node = false ∧ S.deep s.node parts = false) : ∃ rk', Gd (S1.mv1 s t) rk' (k + 1) := by
  have H := h.nod hx
  have hsz := H.size
  have hcn : 1 ≤ cnt S1.nodes s.node := cnt_has hd (fnd_some hf)
  have h1 : s.node ≠ 1 := by
    intro e
    have := (H.root e).2.2.2
    omega
  obtain ⟨e1, e2, y, hy, e3⟩ := (h.nod hd).ents _ (fnd_some hf)
  have hyx : y = x := by
    have hy' : fnd S1.nodes s.node = some y := hy
    rw [hx] at hy'
    cases hy'
    rfl
  subst hyx
  have hdk : d.kind = 2 := Classical.byContradiction fun h2 => by
    have := ((h.nod hd).file h2).1
    rw [this] at hf
    cases hf
  have hdn : s.dir ≠ s.node := by
    intro e
    have hdy : d = y := by rw [e, hx] at hd; exact (Option.some.inj hd).symm
    have := (e3 (by rw [← hdy]; exact hdk)).2
    dsimp only at this
    rw [← e] at this
    omega
  have htz : t.dir ≠ s.node := by
    intro e
    have hty : td = y := by rw [e, hx] at ht; exact (Option.some.inj ht).symm
    have := (hdir (by rw [← hty]; exact ht2)).1
    rw [e, within_refl] at this
    cases this
  have hl := H.links (h.ne0 hx) h1
  have hdl : y.kind = 2 → y.links = 1 := fun h2 => by
    have ha : y.above ≠ 0 := by rw [(e3 h2).1]; exact h.ne0 hd
    exact (H.above (h.ne0 hx) ha).2.2.1
  generalize hz1 : ({ y with links := y.links - 1 } : Nod) = z1
  have z1k : z1.kind = y.kind := by rw [← hz1]
  have z1n : z1.names = y.names := by rw [← hz1]
  have z1m : z1.most = y.most := by rw [← hz1]
  have z1l : z1.links = y.links - 1 := by rw [← hz1]
  have z1a : z1.above = y.above := by rw [← hz1]
  have z1d : z1.data.length ≤ 100000 ∧ z1.wr.length ≤ 100000 := by rw [← hz1]; exact ⟨hsz.1, hsz.2.1⟩
  obtain ⟨G1, c1⟩ := (h.x.opened h1).dele hd hf hdn
  have c1n := c1 s.node
  rw [if_pos rfl] at c1n
  generalize hA : putA S1.nodes s.dir (Tre.dirTake d s.name) = A at *
  have fA : ∀ n, fnd A n = if n = s.dir then some (Tre.dirTake d s.name) else fnd S1.nodes n := fun n => by rw [← hA]; exact fnd_putA
  have hzA : fnd A s.node = some y := by rw [fA, if_neg (fun e => hdn e.symm)]; exact hx
  have hc0 : y.kind = 2 → cnt A s.node = 0 := fun h2 => by have := hdl h2; omega
  obtain ⟨G2, c2⟩ := G1.fix hzA z1 z1k z1n z1m ⟨z1d.1, z1d.2, by omega, by omega⟩ (fun h2 => by rw [z1a]; exact (H.file h2).2.1) hc0
  generalize hB : putA A s.node z1 = B at *
  have fB : ∀ n, fnd B n = if n = s.node then some z1 else fnd A n := fun n => by rw [← hB]; exact fnd_putA
  have hzB : fnd B s.node = some z1 := by rw [fB, if_pos rfl]
  obtain ⟨td', htB, td2, tda, tdn, tdsub⟩ : ∃ td', fnd B t.dir = some td' ∧ td'.kind = 2 ∧ td'.above = td.above ∧ fnd td'.names t.name = none ∧ ∀ e ∈ td'.names, e ∈ td.names := by
    rw [fB, if_neg htz, fA]
    by_cases hts : t.dir = s.dir
    · rw [if_pos hts]
      have htd : td = d := by rw [hts, hd] at ht; exact (Option.some.inj ht).symm
      refine ⟨_, rfl, hdk, by rw [htd]; rfl, ?_, fun e he => by rw [htd]; exact (List.mem_filter.1 he).1⟩
      show fnd (delA d.names s.name) t.name = none
      rw [htd] at htn
      rw [fnd_delA, htn]
      intro e
      rw [e, hf] at htn
      cases htn
    · rw [if_neg hts]
      exact ⟨td, ht, ht2, rfl, htn, fun e he => he⟩
  generalize hz2 : Tre.nodAdd z1 t.dir = z2
  have hN : z2.kind = y.kind ∧ z2.names = y.names ∧ z2.most = y.most ∧ z2.links = (if y.kind = 2 then 1 else y.links) ∧ z2.above = (if y.kind = 2 then t.dir else 0) ∧ z2.data.length ≤ 100000 ∧ z2.wr.length ≤ 100000 := by
    rw [← hz2]
    unfold Tre.nodAdd
    rw [z1k]
    by_cases h2 : y.kind = 2
    · rw [if_pos h2, if_pos h2, if_pos h2]
      exact ⟨rfl, z1n, z1m, rfl, rfl, z1d⟩
    · rw [if_neg h2, if_neg h2, if_neg h2]
      exact ⟨rfl, z1n, z1m, by show z1.links + 1 = y.links; omega, by show z1.above = 0; rw [z1a]; exact (H.file h2).2.1, z1d⟩
  obtain ⟨n1, n2, n3, n4, n5, n6, n7⟩ := hN
  obtain ⟨G3, c3⟩ := G2.fix hzB z2 (by rw [n1, z1k]) (by rw [n2, z1n]) (by rw [n3, z1m]) ⟨n6, n7, by rw [n4]; split <;> omega, by rw [n4]; split <;> omega⟩ (fun h2 => by rw [n5, if_neg (by rw [← z1k]; exact h2)]) (fun h2 => by rw [c2]; exact hc0 (by rw [← z1k]; exact h2))
  have fB2 : ∀ n, fnd (putA B s.node z2) n = if n = s.node then some z2 else fnd B n := fun n => fnd_putA
  have hzB2 : fnd (putA B s.node z2) s.node = some z2 := by rw [fB2, if_pos rfl]
  have htB2 : fnd (putA B s.node z2) t.dir = some td' := by rw [fB2, if_neg htz]; exact htB
  have hles : Les (putA B s.node z2) S := by
    intro n u hu
    rw [fB2] at hu
    by_cases hn1 : n = s.node
    · rw [if_pos hn1] at hu
      cases hu
      obtain ⟨x0, a1, a2, a3⟩ := hle _ _ hx
      exact ⟨x0, by rw [hn1]; exact a1, by rw [n1]; exact a2, fun e he => a3 e (by rw [← n2]; exact he)⟩
    · rw [if_neg hn1, fB, if_neg hn1, fA] at hu
      by_cases hn2 : n = s.dir
      · rw [if_pos hn2] at hu
        cases hu
        obtain ⟨x0, a1, a2, a3⟩ := hle _ _ hd
        exact ⟨x0, by rw [hn2]; exact a1, a2, fun e he => a3 e (List.mem_filter.1 he).1⟩
      · rw [if_neg hn2] at hu
        exact hle _ _ hu
  obtain ⟨rk', G4, r1, r2⟩ : ∃ rk', Gx (putA B s.node z2) rk' k s.node ∧ rk' t.dir < 20 ∧ (y.kind = 2 → rk' s.node = rk' t.dir + 1) := by
    by_cases h2 : y.kind = 2
    · obtain ⟨x0, a1, a2, _⟩ := hle _ _ hx
      obtain ⟨t0, b1, b2, _⟩ := hle _ _ ht
      obtain ⟨rk', g1, g2, g3⟩ := G3.moved h0 hles (by rw [c3, c2]; exact hc0 h2) a1 (by rw [← a2]; exact h2) b1 (by rw [← b2]; exact ht2) hr hp (hdir h2).1 (hdir h2).2
      exact ⟨rk', g1, by rw [g2]; exact hr, fun _ => by rw [g2, g3]⟩
    · exact ⟨rk, G3, hr, fun e => absurd e h2⟩
  obtain ⟨G5, c5⟩ := G4.putE htB2 td2 htz (by rw [tda]; exact hat) hnm tdn r1 hzB2 (fun h2 => by
    rw [n1] at h2
    exact ⟨by rw [n5, if_pos h2], r2 h2⟩)
  rw [← putA_comm htz (putA_mem htB) (putA_mem hzB)] at G5 c5
  have hz5 : fnd (putA (putA B t.dir (Tre.dirAdd td' t.name s.node)) s.node z2) s.node = some z2 := by rw [fnd_putA, if_pos rfl]
  have ht5 : fnd (putA (putA B t.dir (Tre.dirAdd td' t.name s.node)) s.node z2) t.dir = some (Tre.dirAdd td' t.name s.node) := by rw [fnd_putA, if_neg htz, fnd_putA, if_pos rfl]
  have G6 := G5.closed hz5 (by
      rw [c5, c3, c2, if_pos rfl, n4]
      by_cases h2 : y.kind = 2
      · rw [if_pos h2, hc0 h2]; rfl
      · rw [if_neg h2]; omega) (fun h2 => by
    have hc2 : y.kind = 2 := Classical.byContradiction fun hc2 => h2 (by rw [n5, if_neg hc2])
    refine ⟨by rw [n1]; exact hc2, by rw [n4, if_pos hc2], Tre.dirAdd td' t.name s.node, t.name, ?_, ?_⟩
    · rw [n5, if_pos hc2]; exact ht5
    · show (t.name, s.node) ∈ putA td'.names t.name s.node
      rw [putA_new _ (fnd_none.1 tdn)]
      exact List.mem_append_right _ List.mem_cons_self) (fun h2 h3 => by
    rw [n1] at h2
    rw [n5, if_pos h2] at h3
    exact absurd h3 (h.ne0 ht))
  have he : S1.mv1 s t = ⟨putA (putA B t.dir (Tre.dirAdd td' t.name s.node)) s.node z2, S1.last, S1.tab⟩ := by
    unfold Tre.mv1 Tre.add Tre.setN
    rw [at_of hd, at_of hx]
    dsimp only
    rw [hA, hz1, hB]
    have q1 : (Tre.mk B S1.last S1.tab).at_ t.dir = td' := at_of htB
    have q2 : (Tre.mk B S1.last S1.tab).at_ s.node = z1 := at_of hzB
    rw [q1, q2, hz2]
  rw [he]
  refine ⟨rk', h.of G6 (Int.le_refl _) (by show S1.last ≤ _; have := h.last; omega) ?_ rfl ?_ ?_⟩
  · show (putA (putA B t.dir (Tre.dirAdd td' t.name s.node)) s.node z2).length ≤ _
    have h5 : fnd (putA B t.dir (Tre.dirAdd td' t.name s.node)) s.node = some z1 := by rw [fnd_putA, if_neg (fun e => htz e.symm)]; exact hzB
    rw [putA_len h5, putA_len htB, ← hB, putA_len hzA, ← hA, putA_len hd]
    have := h.many
    omega
  · intro n u hu
    left
    have hu' : fnd (putA (putA B t.dir (Tre.dirAdd td' t.name s.node)) s.node z2) n = some u := hu
    rw [fnd_putA] at hu'
    by_cases h5 : n = s.node
    · exact ⟨y, by rw [h5]; exact hx⟩
    · rw [if_neg h5, fnd_putA] at hu'
      by_cases h6 : n = t.dir
      · exact ⟨td, by rw [h6]; exact ht⟩
      · rw [if_neg h6, fB, if_neg h5, fA] at hu'
        by_cases h7 : n = s.dir
        · exact ⟨d, by rw [h7]; exact hd⟩
        · rw [if_neg h7] at hu'
          exact ⟨u, hu'⟩
  · intro n u hu _
    show ∃ v, fnd (putA (putA B t.dir (Tre.dirAdd td' t.name s.node)) s.node z2) n = some v ∧ _
    rw [fnd_putA]
    by_cases h5 : n = s.node
    · rw [if_pos h5]
      rw [h5, hx] at hu
      cases hu
      exact ⟨_, rfl, n1⟩
    · rw [if_neg h5, fnd_putA]
      by_cases h6 : n = t.dir
      · rw [if_pos h6]
        rw [h6, ht] at hu
        cases hu
        exact ⟨_, rfl, td2.trans ht2.symm⟩
      · rw [if_neg h6, fB, if_neg h5, fA]
        by_cases h7 : n = s.dir
        · rw [if_pos h7]
          rw [h7, hd] at hu
          cases hu
          exact ⟨_, rfl, rfl⟩
        · rw [if_neg h7]
          exact ⟨u, hu, rfl⟩
end Go.Proofs.YtonhcefgakmpfaaGreatDoor
/-
  DERIVED: THE SHELF's CONTRACTS AT THIS DUMP, IN PLAIN WORDS (tools/lay-plain.mjs out of 'TryzKey.lean', which tools/lay-shelf.mjs wrote): THE SAME DECLARATIONS UNDER THE SAME NAMES: 'import', 'namespace', 'open', 'def', 'theorem' AND NOTHING ELSE: no command of the shelf's: FOR A HAND-IN. Each laying: the table of numbers ('.._ren') and one theorem, a field a fact of the dump's own or the kernel's comparison; each contract: ONE APPLICATION.
-/
namespace Go.Proofs
open Go.Shelf
def Tryz.keys128_ren : Go.Shelf.Ren := ⟨fun | 7 => 128 | 10 => 189 | n => n, fun | 23 => 80 | 26 => 9 | 3 => 3 | 28 => 184 | 0 => 0 | 27 => 183 | 33 => 242 | 4 => 4 | n => n, fun | n => n⟩
theorem Tryz.keys128 : Go.Proofs.SlLaysZ.n7 Tryz.prog Tryz.keys128_ren := {
  mixed := by kernel_rfl
  f7 := ⟨Tryz.f128.name, by decide, Tryz.func128.trans (congrArg some (by kernel_rfl))⟩
  f10 := ⟨Tryz.f189.name, by decide, Tryz.func189.trans (congrArg some (by kernel_rfl))⟩
  t0 := Tryz.underlying0
  a0 := Tryz.isAgg0
  z0 := Tryz.sizeOf0
  v0 := Tryz.zeroValue0
  t4 := Tryz.underlying4
  a4 := Tryz.isAgg4
  z4 := Tryz.sizeOf4
  v4 := Tryz.zeroValue4
  t23 := Tryz.underlying80
  a23 := Tryz.isAgg80
  z23 := Tryz.sizeOf80
  v23 := Tryz.zeroValue80
  t26 := Tryz.underlying9
  a26 := Tryz.isAgg9
  z26 := Tryz.sizeOf9
  v26 := Tryz.zeroValue9
  t27 := Tryz.underlying183
  a27 := Tryz.isAgg183
  z27 := Tryz.sizeOf183
  v27 := Tryz.zeroValue183
  t28 := Tryz.underlying184
  a28 := Tryz.isAgg184
  z28 := Tryz.sizeOf184
  v28 := Tryz.zeroValue184
  t33 := Tryz.underlying242
  a33 := Tryz.isAgg242
  z33 := Tryz.sizeOf242
  v33 := Tryz.zeroValue242 }
def Tryz.sorted127_ren : Go.Shelf.Ren := ⟨fun | 6 => 127 | 8 => 187 | 9 => 188 | 11 => 237 | 13 => 136 | 12 => 238 | 23 => 201 | 24 => 202 | 14 => 261 | 15 => 262 | 16 => 263 | 17 => 264 | 18 => 265 | 19 => 266 | 20 => 267 | 21 => 268 | 22 => 269 | 25 => 284 | 26 => 241 | 27 => 242 | 28 => 285 | 29 => 286 | 30 => 287 | 31 => 296 | n => n, fun | 26 => 9 | 28 => 184 | 24 => 30 | 0 => 0 | 3 => 3 | 37 => 135 | 48 => 252 | 50 => 254 | 4 => 4 | 40 => 246 | 39 => 245 | 45 => 134 | 5 => 5 | 9 => 9 | 51 => 277 | 55 => 281 | 57 => 307 | 58 => 39 | 33 => 242 | n => n, fun | n => n⟩
theorem Tryz.sorted127 : Go.Proofs.SlLaysZ.n6 Tryz.prog Tryz.sorted127_ren := {
  mixed := by kernel_rfl
  f6 := ⟨Tryz.f127.name, by decide, Tryz.func127.trans (congrArg some (by kernel_rfl))⟩
  f8 := ⟨Tryz.f187.name, by decide, Tryz.func187.trans (congrArg some (by kernel_rfl))⟩
  f11 := ⟨Tryz.f237.name, by decide, Tryz.func237.trans (congrArg some (by kernel_rfl))⟩
  t0 := Tryz.underlying0
  a0 := Tryz.isAgg0
  z0 := Tryz.sizeOf0
  v0 := Tryz.zeroValue0
  t24 := Tryz.underlying30
  a24 := Tryz.isAgg30
  z24 := Tryz.sizeOf30
  v24 := Tryz.zeroValue30
  t26 := Tryz.underlying9
  a26 := Tryz.isAgg9
  z26 := Tryz.sizeOf9
  v26 := Tryz.zeroValue9
  t28 := Tryz.underlying184
  a28 := Tryz.isAgg184
  z28 := Tryz.sizeOf184
  v28 := Tryz.zeroValue184
  i26 := by kernel_rfl }
end Go.Proofs
/- slices.AppendSeq of a slice that is not nil, against whatever iterator of ints. No program in sight. -/
namespace Go.Own
open Go.RowKit Go.Maps Go.Sort Go.Shelf Go.Proofs
/-- Nothing that lay there has turned, but for one block. -/
structure But (w w' : World) (row : Option Nat) : Prop where
  keep : Keep w w'
  same : ∀ k, k < w.heap.size → some k ≠ row → w'.heap[k]? = w.heap[k]?
theorem But.refl (w : World) (row : Option Nat) : But w w row := ⟨Keep.refl w, fun _ _ _ => rfl⟩
theorem But.grown {w w' w'' : World} {row r : Option Nat} (h : But w w' row) (hg : w'.grownBy w'' r) (hr : r = row ∨ r = none ∨ ∃ b, r = some b ∧ w.heap.size ≤ b) : But w w'' row :=
  ⟨h.keep.grown hg, fun k hk hne => by
    have h1 := h.keep.size
    rw [← h.same k hk hne]
    refine hg.block k (by omega) fun e => ?_
    rcases hr with rfl | rfl | ⟨b, rfl, hb⟩
    · exact hne e
    · cases e
    · cases e; omega⟩
theorem But.alloc {w w' : World} {row : Option Nat} (h : But w w' row) (o : Obj) : But w (w'.alloc o) row :=
  h.grown (World.grownBy_alloc w' o none) (.inr (.inl rfl))
/-- What is owned behind all that. -/
theorem Has.regrown {w w' : World} {L : List HP} {v v' : Value} {e : TypeId} {size n n' : Nat} {xs xs' : List Value} (h : Has w (row v e size n xs :: L)) (hb : But w w' v.ownBlock) (ho : w'.ownsRow 0 e size v' n' xs')
    (hv : v'.ownBlock = v.ownBlock ∨ ∃ b, v'.ownBlock = some b ∧ w.heap.size ≤ b) : Has w' (row v' e size n' xs' :: L) := by
  obtain ⟨h1, ⟨rfl, rfl, -, h2⟩ | ⟨g, cap, cur, rfl, -, -, -, -, h2⟩⟩ := h.row_cases
  · have hs : ∀ k, k < w.heap.size → w'.heap[k]? = w.heap[k]? := fun k hk => hb.same k hk (by simp [Value.ownBlock])
    obtain ⟨hl, ⟨rfl, rfl⟩ | ⟨g, cap, cur, rfl, -, hg, r1, r2, r3, r4⟩⟩ := ho
    · have hx : xs' = [] := List.eq_nil_of_length_eq_zero (by simpa using hl)
      subst hx
      exact (h2.frame hs).row_nil e size
    · rcases hv with hv | ⟨b, hv, hle⟩
      · simp [Value.ownBlock] at hv
      · simp only [Value.ownBlock, Option.some.injEq] at hv
        subst hv
        exact (h2.fresh hs hle hg).row_of r1 r2 r3 r4 hl
  · have hne : ∀ k, k < w.heap.size → k ≠ g → w'.heap[k]? = w.heap[k]? := fun k hk hkg => hb.same k hk (by simpa [Value.ownBlock] using hkg)
    obtain ⟨o, hog⟩ : ∃ o, w'.heap[g]? = some o := ⟨_, Array.getElem?_eq_getElem (by have := h2.lt; have := hb.keep.size; omega)⟩
    obtain ⟨hl, ⟨rfl, rfl⟩ | ⟨g', cap', cur', rfl, -, hg', r1, r2, r3, r4⟩⟩ := ho
    · have hx : xs' = [] := List.eq_nil_of_length_eq_zero (by simpa using hl)
      subst hx
      exact (h2.turn hne hog).drop.row_nil e size
    · rcases hv with hv | ⟨b, hv, hle⟩
      · simp only [Value.ownBlock, Option.some.injEq] at hv
        subst hv
        exact (h2.turn hne hg').row_of r1 r2 r3 r4 hl
      · simp only [Value.ownBlock, Option.some.injEq] at hv
        subst hv
        have h3 := (h2.setObj o).drop
        refine (h3.fresh (fun k hk => ?_) (by simpa using hle) hg').row_of r1 r2 r3 r4 hl
        by_cases e1 : k = g
        · subst e1
          rw [hog]
          have := h2.lt
          simp [this]
        · have hk' : k < w.heap.size := by simpa using hk
          rw [hne k hk' e1]
          simp [Ne.symm e1]
section
variable {P : Program} {ρ : Ren}
/-- The loop's record. -/
def sqRec (ρ : Ren) (v0 : Value) (fn : FuncId) (sv : Value) (Bs D : Nat) (st : LoopState) (pend : Option Code) : Loop :=
  { AnyZI.apRec ρ fn sv Bs D st pend with tmps := #[v0, sv, .pointer (some ⟨Bs, 0, none⟩), undef, .slice none 0 0, undef, sv, undef, undef, undef, undef, undef, undef] }
/-- Between two rounds. -/
structure SqAt (ρ : Ren) (w0 : World) (v0 : Value) (xs : List Int) (fn : FuncId) (sv : Value) (Bs l D : Nat) (ss : List Int) (W : World) : Prop where
  box : ∃ v, W.heap[Bs]? = some (.cells #[v] (ρ.t 24) (0, 0)) ∧ W.ownsRow 0 (ρ.t 26) 1 v (xs.length + ss.length) ((xs ++ ss).map encZ) ∧ (v.ownBlock = v0.ownBlock ∨ ∃ b, v.ownBlock = some b ∧ w0.heap.size ≤ b)
  L : W.heap[l]? = some (.loop (sqRec ρ v0 fn sv Bs D .ready none))
  K : W.heap[D]? = some (.deferred (some []))
  but : But w0 W v0.ownBlock
end
end Go.Own
/- slices.Sorted(maps.Keys(m)) of a directory's names. -/
namespace Go.Proofs.YtonhcefgakmpfaaGreatDoor
open Go.RowKit Go.Own Go.Maps Go.ChangeMaps Go.Shelf Go.Proofs
def sortedS (l : List Str) : List Str := l.mergeSort fun x y => decide (x ≤ y)
theorem leS_trans (a b c : Str) (h1 : decide (a ≤ b) = true) (h2 : decide (b ≤ c) = true) : decide (a ≤ c) = true := by
  simp only [decide_eq_true_eq] at *
  exact List.le_trans h1 h2
theorem leS_total (a b : Str) : (decide (a ≤ b) || decide (b ≤ a)) = true := by
  simp only [Bool.or_eq_true, decide_eq_true_eq]
  exact List.le_total a b
theorem sortedS_perm (l : List Str) : (sortedS l).Perm l := List.mergeSort_perm l _
theorem sortedS_sorted (l : List Str) : (sortedS l).Pairwise (fun x y => decide (x ≤ y) = true) := List.pairwise_mergeSort leS_trans leS_total l
theorem sortedS_congr {l l' : List Str} (h : l.Perm l') : sortedS l = sortedS l' :=
  (((sortedS_perm l).trans h).trans (sortedS_perm l').symm).eq_of_pairwise (fun a b _ _ h1 h2 => by simp only [decide_eq_true_eq] at *; exact List.le_antisymm h1 h2) (sortedS_sorted l) (sortedS_sorted l')
theorem sortedS_len (l : List Str) : (sortedS l).length = l.length := (sortedS_perm l).length_eq
abbrev seqK (c : Nat) : Value := .func (.func 189) #[] #[.pointer (some ⟨c, 0, none⟩)]
theorem keysK (b : Nat) (w : World) : Calls Tryz.prog 128 #[.map (some b)] w fun e w' => e = .returned (seqK w.heap.size) ∧ w' = w.alloc (.cells #[.map (some b)] tNm) :=
  callsIn_wide.1 (AnyZ.keys_in Tryz.keys128 Fence.wide 9 trivial rfl (some b) w)
theorem sortsInK (m : Nat) : AnyZ.SortsIn Tryz.prog Tryz.sorted127_ren Fence.wide m :=
  ⟨fun blk off cap ss W hH hblk hsz => callsIn_wide.2 (Tryz.slices_Sort_string blk off cap ss W hH hblk hsz), fun p cap W => callsIn_wide.2 (Tryz.slices_Sort_string_none p cap W)⟩
theorem belowBut {W w' : World} (h : Below W.heap.size W w') : But W w' none := ⟨⟨h.os, h.tape, h.output, h.size⟩, fun k hk _ => h.block k hk⟩
theorem sortedK (b : Nat) (t : List (Str × Int)) (w : World) (L : List HP) (hl : t.length ≤ 1000000) (hO : Has w (Mk kStr vInt b t :: L)) :
    Calls Tryz.prog 127 #[seqK w.heap.size] (w.alloc (.cells #[.map (some b)] tNm)) fun e w' => ∃ v, e = .returned v ∧ Has w' (row v tStr 1 (sortedS (t.map Prod.fst)).length ((sortedS (t.map Prod.fst)).map sV) :: Mk kStr vInt b t :: L) ∧ Keep w w' := by
  obtain ⟨D, h1, h2⟩ := Mk.iff.1 hO
  have hs := AnyZ.keys_gives (ρ := Tryz.keys128_ren) { Tryz.keys128 with } Fence.wide 6 trivial rfl (by omega) w.heap.size b _ D (w.alloc (.cells #[.map (some b)] tNm)) (by simp) (by simp) (h2.alloc' _).owns
  rw [h1.size] at hs
  have hp : (t.map Prod.fst).Perm (strKeys D) := Collected.perm (left := fun _ => false) ⟨h1.nodup, fun x => by rw [show (Lit.string x) = kStr.lk x from rfl, h1.has]; simp⟩ h2.owns kStr.law undS (fun _ => rfl)
  refine (callsIn_wide (n := 9)).1 ((AnyZ.sorted_in Tryz.sorted127 Fence.wide 9 trivial trivial trivial trivial rfl (by omega) (sortsInK _) (enters_of Tryz.func188 (by kernel_rfl) rfl) 189 #[.pointer (some ⟨w.heap.size, 0, none⟩)] trivial (enters_of Tryz.func189 (by kernel_rfl) rfl) _ t.length (le_maxLen (by omega)) (by omega) (w.alloc (.cells #[.map (some b)] tNm)) hs).mono ?_)
  rintro e w' ⟨v, ss, rfl, hS, hrow, hnil, hb⟩
  have e1 : (ss.mergeSort fun x y => decide (x ≤ y)) = sortedS (t.map Prod.fst) := sortedS_congr (hS.trans hp.symm)
  rw [e1] at hrow
  have hlen : ss.length = (sortedS (t.map Prod.fst)).length := by rw [sortedS_len, hS.length_eq, ← hp.length_eq]
  rw [hlen] at hrow
  refine ⟨v, rfl, ((hO.alloc' _).row_nil tStr 1).regrown (belowBut hb) (ownsRow_base_a hrow (Nat.zero_le _)) ?_, ((Keep.refl w).alloc _).trans (belowBut hb).keep⟩
  rcases hrow.2 with ⟨rfl, -⟩ | ⟨g, cap, cur, rfl, hbase, -⟩
  · exact .inl rfl
  · exact .inr ⟨g, rfl, hbase⟩
namespace Tre
variable (S : Tre)
def list (kind : Int) (p : Str) : Ans :=
  if (S.find p (kind == 18)).2 ≠ 0 then ansE (S.find p (kind == 18)).2
  else if kind = 18 ∧ (S.at_ (S.find p (kind == 18)).1.node).kind ≠ 2 then ansE 7
  else if kind = 18 then ⟨0, 0, 0, 0, [], sortedS ((S.at_ (S.find p (kind == 18)).1.node).names.map Prod.fst)⟩
  else if (S.at_ (S.find p (kind == 18)).1.node).kind ≠ 3 then ansE 2
  else ⟨0, 0, 0, 0, (S.at_ (S.find p (kind == 18)).1.node).data, []⟩
end Tre
end Go.Proofs.YtonhcefgakmpfaaGreatDoor
