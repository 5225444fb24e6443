/- TEXTS of mine, merged. -/
import Derived.Test.YtonhcefgakmpfaaGreatDoorM14
import Derived.Test.YtonhcefgakmpfaaGreatDoorM1
import Derived.Laws.CopyOwn
import Derived.Laws.IdiomCopy
/- WHAT EVERY TREE KEEPS: kept by each operation. No program in sight. -/
namespace Go.Proofs.YtonhcefgakmpfaaGreatDoor
open Go.RowKit Go.Own
variable {S : Tre} {rk : Int → Nat} {k : Nat}
theorem look_set' {T : List Tb.Slot} (hT : T.length = 16) {k : Nat} (hk : k < 16) (s : Tb.Slot) (fd : Int) : Tb.look (T.set k s) fd = if fd = k then (if s.on then some s else none) else Tb.look T fd := by
  unfold Tb.look
  by_cases hb : 0 ≤ fd ∧ fd < 16
  · rw [if_pos hb, if_pos hb, List.getElem?_set]
    by_cases he : fd = k
    · have e1 : k = fd.toNat := by omega
      rw [if_pos he, if_pos e1, if_pos (by omega)]
    · have e1 : ¬ k = fd.toNat := by omega
      rw [if_neg he, if_neg e1]
  · rw [if_neg hb, if_neg hb]
    by_cases he : fd = k
    · omega
    · rw [if_neg he]
theorem Gd.slot (h : Gd S rk k) {j : Nat} (hj : j < 16) (s : Tb.Slot) (hs : s.on = true → (∃ x, fnd S.nodes s.node = some x ∧ x.kind ≠ 3) ∧ 0 ≤ s.off ∧ s.off ≤ 1099511627776) : Gd { S with tab := S.tab.set j s } rk k := by
  refine h.tab (by rw [List.length_set]; exact h.tab16) fun fd u hu => ?_
  rw [look_set' h.tab16 hj] at hu
  by_cases he : fd = j
  · rw [if_pos he] at hu
    by_cases hon : s.on = true
    · rw [if_pos hon] at hu
      cases hu
      exact hs hon
    · rw [if_neg hon] at hu; cases hu
  · rw [if_neg he] at hu
    exact h.opn fd u hu
theorem look_num {T : List Tb.Slot} {fd : Int} {s : Tb.Slot} (h : Tb.look T fd = some s) : 0 ≤ fd ∧ fd < 16 ∧ fd.toNat < 16 := by
  unfold Tb.look at h
  split at h
  · omega
  · cases h
theorem Gd.opnT (h : Gd S rk k) {n : Int} (fl : Int) (hn : ∃ x, fnd S.nodes n = some x ∧ x.kind ≠ 3) : Gd { S with tab := (Tb.opn S.tab n fl).2 } rk k := by
  unfold Tb.opn
  cases hf : S.tab.findIdx? (fun s => !s.on) with
  | none => exact h
  | some j =>
    have hj : j < 16 := by
      rw [← h.tab16]
      exact (List.findIdx?_eq_some_iff_getElem.1 hf).1
    exact h.slot hj ⟨n, 0, fl, true⟩ fun _ => ⟨hn, by show (0:Int) ≤ 0; omega, by show (0:Int) ≤ _; omega⟩
theorem Gd.clsT (h : Gd S rk k) (fd : Int) : Gd { S with tab := (Tb.cls S.tab fd).2 } rk k := by
  unfold Tb.cls
  cases hf : Tb.look S.tab fd with
  | none => exact h
  | some s => exact h.slot (look_num hf).2.2 Tb.none4 fun e => by cases e
theorem Gd.movT (h : Gd S rk k) (fd off : Int) (ho : off ≤ 1099511627776) : Gd { S with tab := (Tb.mov S.tab fd off).2 } rk k := by
  unfold Tb.mov
  cases hf : Tb.look S.tab fd with
  | none => exact h
  | some s =>
    dsimp only
    by_cases h0 : off < 0
    · rw [if_pos h0]; exact h
    · rw [if_neg h0]
      exact h.slot (look_num hf).2.2 _ fun _ => ⟨(h.opn fd s hf).1, by show 0 ≤ off; omega, ho⟩
theorem Gd.close (h : Gd S rk k) (fd : Int) : Gd (S.close fd).2 rk k := by
  unfold Tre.close
  split
  · exact h
  · exact (h.clsT fd).forget _
theorem Gd.fileG (h : Gd S rk k) {fd : Int} {wr : Bool} (h0 : (S.file fd wr).2 = 0) : ∃ s x, Tb.look S.tab fd = some s ∧ (S.file fd wr).1 = s ∧ fnd S.nodes s.node = some x ∧ x.kind = 1 ∧ 0 ≤ s.off ∧ s.off ≤ 1099511627776 := by
  unfold Tre.file at *
  by_cases h1 : (Tb.get S.tab fd).2 ≠ 0
  · rw [if_pos h1] at h0; simp at h0
  rw [if_neg h1] at h0 ⊢
  by_cases h2 : wr = true ∧ andI (Tb.get S.tab fd).1.flags 32 = 0
  · rw [if_pos h2] at h0; simp at h0
  rw [if_neg h2] at h0 ⊢
  by_cases h3 : (S.at_ (Tb.get S.tab fd).1.node).kind = 2
  · rw [if_pos h3] at h0; simp at h0
  rw [if_neg h3]
  unfold Tb.get at *
  cases hl : Tb.look S.tab fd with
  | none => rw [hl] at h1; simp at h1
  | some s =>
    rw [hl] at h3
    obtain ⟨⟨x, hx, h4⟩, h5⟩ := h.opn fd s hl
    refine ⟨s, x, rfl, rfl, hx, ?_, h5⟩
    rw [at_of hx] at h3
    rcases (h.nod hx).kind with e | e | e
    · exact e
    · exact absurd e h3
    · exact absurd e h4
theorem Gd.read (h : Gd S rk k) (kind fd n off : Int) : Gd (S.read kind fd n off).2 rk k := by
  unfold Tre.read
  dsimp only
  split
  · exact h
  · rename_i h1
    split
    · exact h
    · rename_i h2
      dsimp only
      by_cases hk : kind = 3
      · rw [if_pos hk]
        obtain ⟨s, x, hl, e, hx, _, h3, h4⟩ := h.fileG (Classical.not_not.1 h1)
        refine h.movT fd _ ?_
        rw [if_neg (by rw [hk]; decide), e, at_of hx]
        have h5 := (h.nod hx).size.1
        simp only [List.length_take, List.length_drop]
        omega
      · rw [if_neg hk]
        exact h
theorem Gd.seek (h : Gd S rk k) (fd n off : Int) : Gd (S.seek fd n off).2 rk k := by
  unfold Tre.seek
  dsimp only
  split
  · exact h
  · generalize (if n = 1 then (S.file fd false).1.off else if n = 2 then ((S.at_ (S.file fd false).1.node).data.length : Int) else 0) = f
    split
    · exact h
    · split
      · exact h
      · rename_i h3
        exact h.movT fd _ (by omega)
theorem nodCut_keeps (x : Nod) (size : Nat) : (nodCut x size).kind = x.kind ∧ (nodCut x size).names = x.names ∧ (nodCut x size).most = x.most ∧ (nodCut x size).links = x.links ∧ (nodCut x size).above = x.above ∧ (nodCut x size).data.length = size ∧ (nodCut x size).wr.length ≤ x.wr.length := by
  unfold nodCut
  split
  · exact ⟨rfl, rfl, rfl, rfl, rfl, by simp; omega, by simp; omega⟩
  · exact ⟨rfl, rfl, rfl, rfl, rfl, by simp; omega, Nat.le_refl _⟩
theorem Gd.resize (h : Gd S rk k) {n : Int} {x : Nod} (hx : fnd S.nodes n = some x) (h2 : x.kind ≠ 2) {size : Nat} (hs : size ≤ 100000) : Gd (S.resize n size) rk k := by
  unfold Tre.resize
  rw [at_of hx]
  obtain ⟨a1, a2, a3, a4, a5, a6, a7⟩ := nodCut_keeps x size
  exact h.dat hx h2 _ ⟨a1, a2, a3, a4, a5⟩ ⟨by omega, by have := (h.nod hx).size.2.1; omega⟩
theorem Gd.trunc (h : Gd S rk k) (fd off : Int) : Gd (S.trunc fd off).2 rk k := by
  unfold Tre.trunc
  dsimp only
  split
  · exact h
  · rename_i h1
    split
    · exact h
    · split
      · exact h
      · obtain ⟨s, x, hl, e, hx, hk, _⟩ := h.fileG (Classical.not_not.1 h1)
        rw [e]
        exact h.resize hx (by rw [hk]; decide) (by omega)
theorem needM_162 (n : Nat) : needM n ≤ 162 := by unfold needM; split <;> omega
theorem nodWrite_keeps (x : Nod) (off : Nat) (ds : List Int) : (nodWrite x off ds).kind = x.kind ∧ (nodWrite x off ds).names = x.names ∧ (nodWrite x off ds).most = x.most ∧ (nodWrite x off ds).links = x.links ∧ (nodWrite x off ds).above = x.above ∧ (nodWrite x off ds).data.length = max x.data.length (off + ds.length) ∧ (nodWrite x off ds).wr.length ≤ max x.wr.length 162 := by
  obtain ⟨a1, a2, a3, a4, a5, a6, a7⟩ := nodCut_keeps x (max x.data.length (off + ds.length))
  refine ⟨a1, a2, a3, a4, a5, ?_, ?_⟩
  · show ((nodCut x _).data.take off ++ ds ++ (nodCut x _).data.drop (off + ds.length)).length = _
    simp only [List.length_append, List.length_take, List.length_drop, a6]
    omega
  · show (wrSet ((nodCut x _).wr ++ List.replicate (needM (off + ds.length) - (nodCut x _).wr.length) false) (off / 128) (needM (off + ds.length))).length ≤ _
    rw [wrSet_len, List.length_append, List.length_replicate]
    have := needM_162 (off + ds.length)
    omega
theorem Gd.write (h : Gd S rk k) (kind fd off : Int) (ds : List Int) : Gd (S.write kind fd off ds).2 rk k := by
  unfold Tre.write
  dsimp only
  split
  · exact h
  · rename_i h1
    split
    · exact h
    · rename_i h2
      obtain ⟨s, x, hl, e, hx, hk, h3, h4⟩ := h.fileG (Classical.not_not.1 h1)
      rw [e, at_of hx]
      generalize ho : (if kind = 6 then off else if andI s.flags 8 ≠ 0 then (x.data.length : Int) else s.off) = o
      have ho0 : 0 ≤ o := by
        rw [← ho]
        by_cases hk6 : kind = 6
        · rw [if_pos hk6]
          have : ¬ off < 0 := fun h => h2 ⟨hk6, h⟩
          omega
        · rw [if_neg hk6]
          split <;> omega
      split
      · exact h
      · rename_i h5
        split
        · exact h
        · have hmin : min ds.length 20736 = ds.length := by omega
          rw [hmin] at h5
          obtain ⟨a1, a2, a3, a4, a5, a6, a7⟩ := nodWrite_keeps x o.toNat ds
          have hsz := (h.nod hx).size
          have G := h.dat hx (by rw [hk]; decide) (nodWrite x o.toNat ds) ⟨a1, a2, a3, a4, a5⟩ ⟨by omega, by omega⟩
          dsimp only
          split
          · exact G.movT fd _ (by omega)
          · exact G
theorem Gd.mkdir (h : Gd S rk k) (p : Str) : ∃ rk', Gd (S.mkdir p).2 rk' (k + 1) := by
  unfold Tre.mkdir
  dsimp only
  split
  · exact ⟨rk, h.mono (Nat.le_succ k)⟩
  · rename_i h0
    obtain ⟨h1, h2, h3⟩ := fresh_place (Classical.not_not.1 h0)
    rw [h3]
    exact ⟨_, h.make (h.place_ok p h1) h2 2 (.inr (.inl rfl)) [] (by simp)⟩
theorem Gd.symlink (h : Gd S rk k) (p q : Str) (hp : p.length ≤ 100000) : ∃ rk', Gd (S.symlink p q).2 rk' (k + 1) := by
  unfold Tre.symlink
  split
  · exact ⟨rk, h.mono (Nat.le_succ k)⟩
  · split
    · exact ⟨rk, h.mono (Nat.le_succ k)⟩
    · rename_i h0
      obtain ⟨h1, h2, h3⟩ := fresh_place (Classical.not_not.1 h0)
      rw [h3]
      exact ⟨_, h.make (h.place_ok q h1) h2 3 (.inr (.inr rfl)) p hp⟩
theorem Gd.link (h : Gd S rk k) (p q : Str) : ∃ rk', Gd (S.link p q).2 rk' (k + 1) := by
  unfold Tre.link
  split
  · exact ⟨rk, h.mono (Nat.le_succ k)⟩
  · rename_i hf
    split
    · exact ⟨rk, h.mono (Nat.le_succ k)⟩
    · rename_i hk2
      split
      · exact ⟨rk, h.mono (Nat.le_succ k)⟩
      · rename_i h0
        obtain ⟨h1, h2, h3⟩ := fresh_place (Classical.not_not.1 h0)
        rw [h3]
        obtain ⟨x, hx, _⟩ := (h.find_ok p false (Classical.not_not.1 hf)).1.node
        rw [at_of hx] at hk2
        exact ⟨_, h.addN (h.place_ok q h1) h2 hx hk2⟩
theorem Gd.remove (h : Gd S rk k) {kind : Int} (hk : kind = 10 ∨ kind = 11) (p : Str) : Gd (S.remove kind p).2 rk k := by
  unfold Tre.remove
  split
  · exact h
  · rename_i h0
    split
    · exact h
    · rename_i hn0
      have P := h.place_ok p (Classical.not_not.1 h0)
      generalize (S.place p).1 = s at *
      obtain ⟨d, hd, hd2, _, hc, _⟩ := P.dir
      have hc := hc hn0
      obtain ⟨_, _, y, hy, _⟩ := (h.nod hd).ents _ (fnd_some hc)
      have hy' : fnd S.nodes s.node = some y := hy
      rw [at_of hy']
      split
      · exact h
      · rename_i h3
        split
        · exact h
        · rename_i h4
          split
          · exact h
          · rename_i h5
            refine h.take hd hc hy' fun h2 => ?_
            rcases hk with e | e
            · have : ¬ 0 < y.names.length := fun h6 => h4 ⟨e, h6⟩
              exact List.eq_nil_of_length_eq_zero (by omega)
            · exact absurd ⟨e, h2⟩ h5
/-- An open, where the file is found. -/
theorem Gd.openF (h : Gd S rk k) {s : Spt} {fl : Int} (hg : ¬ (andI fl 12 ≠ 0 ∧ andI fl 32 = 0)) {x : Nod} (hx : fnd S.nodes s.node = some x) (h3 : x.kind ≠ 3) (h4 : andI fl 4 ≠ 0 → andI fl 12 ≠ 0) : Gd (S.openAt s fl).2 rk k := by
  have hn0 : s.node ≠ 0 := h.ne0 hx
  unfold Tre.openAt
  split
  · exact h
  · rename_i h5
    split
    · exact h
    · dsimp only
      try rw [if_neg hn0]
      try rw [if_neg hn0]
      by_cases ht : andI fl 4 ≠ 0
      · rw [if_pos ht]
        have h6 : x.kind ≠ 2 := by
          intro e
          rw [at_of hx] at h5
          exact h5 ⟨hn0, e, fun e32 => hg ⟨h4 ht, e32⟩⟩
        have G := h.resize (size := 0) hx h6 (by omega)
        refine G.opnT fl ⟨nodCut x 0, ?_, ?_⟩
        · show fnd (putA S.nodes s.node _) s.node = _
          rw [fnd_putA, if_pos rfl, at_of hx]
        · rw [(nodCut_keeps x 0).1]; exact h3
      · rw [if_neg ht]
        exact h.opnT fl ⟨x, hx, h3⟩
theorem nodAdd_kind (x : Nod) (d : Int) : (Tre.nodAdd x d).kind = x.kind := by
  unfold Tre.nodAdd
  by_cases h : x.kind = 2
  · rw [if_pos h]
  · rw [if_neg h]
theorem make_fnd (S : Tre) (s : Spt) (c : Int) (ds : Str) : ∃ x, fnd (S.make s c ds).nodes (S.last + 1) = some x ∧ x.kind = c := by
  refine ⟨Tre.nodAdd ⟨c, if c = 3 then bytesOf ds else [], [], [], 0, 0, 0⟩ s.dir, ?_, ?_⟩
  · unfold Tre.make Tre.add Tre.setN
    refine (fnd_putA.trans (if_pos rfl)).trans ?_
    unfold Tre.at_
    dsimp only
    rw [fnd_putA, if_pos rfl]
    rfl
  · exact nodAdd_kind _ _
theorem Gd.openN (h : Gd S rk k) {s : Spt} (P : PlOk S rk s) (hs0 : s.node = 0) (fl : Int) : ∃ rk', Gd (S.openAt s fl).2 rk' (k + 1) := by
  unfold Tre.openAt
  split
  · exact ⟨rk, h.mono (Nat.le_succ k)⟩
  · split
    · exact ⟨rk, h.mono (Nat.le_succ k)⟩
    · dsimp only
      try rw [if_pos hs0]
      try rw [if_pos hs0]
      have G := h.make P hs0 1 (.inl rfl) [] (by simp)
      obtain ⟨x, hx, hk⟩ := make_fnd S s 1 []
      by_cases ht : andI fl 4 ≠ 0
      · rw [if_pos ht]
        have G2 := G.resize (size := 0) hx (by rw [hk]; decide) (by omega)
        refine ⟨_, G2.opnT fl ⟨nodCut x 0, ?_, ?_⟩⟩
        · show fnd (putA (S.make s 1 []).nodes (S.last + 1) _) (S.last + 1) = _
          rw [fnd_putA, if_pos rfl, at_of hx]
        · rw [(nodCut_keeps x 0).1, hk]; decide
      · rw [if_neg ht]
        exact ⟨_, G.opnT fl ⟨x, hx, by rw [hk]; decide⟩⟩
theorem Gd.openFd (h : Gd S rk k) (p : Str) (fl : Int) (h4 : andI fl 4 ≠ 0 → andI fl 12 ≠ 0) : ∃ rk', Gd (S.openFd p fl).2 rk' (k + 1) := by
  unfold Tre.openFd
  split
  · exact ⟨rk, h.mono (Nat.le_succ k)⟩
  · rename_i hg
    have hg2 : ¬ (andI fl 12 ≠ 0 ∧ andI fl 32 = 0) := fun e => hg (.inr (.inr e))
    have hfind : (S.find p true).2 = 0 → ∃ rk', Gd (S.openAt (S.find p true).1 fl).2 rk' (k + 1) := by
      intro h0
      obtain ⟨h1, h2⟩ := h.find_ok p true h0
      obtain ⟨x, hx, _⟩ := h1.node
      have h3 := h2 rfl
      rw [at_of hx] at h3
      exact ⟨rk, (h.openF hg2 hx h3 h4).mono (Nat.le_succ k)⟩
    split
    · split
      · exact ⟨rk, h.mono (Nat.le_succ k)⟩
      · rename_i hp
        split
        · exact ⟨rk, h.mono (Nat.le_succ k)⟩
        · split
          · split
            · exact ⟨rk, h.mono (Nat.le_succ k)⟩
            · rename_i h0
              exact hfind (Classical.not_not.1 h0)
          · rename_i hno
            exact h.openN (h.place_ok p (Classical.not_not.1 hp)) (Classical.byContradiction fun e => hno (.inl e)) fl
    · split
      · exact ⟨rk, h.mono (Nat.le_succ k)⟩
      · rename_i h0
        exact hfind (Classical.not_not.1 h0)
theorem take_les (h : Gd S rk k) {dir n : Int} {name : Str} {d x : Nod} (hd : fnd S.nodes dir = some d) (hf : fnd d.names name = some n) (hx : fnd S.nodes n = some x) : Les (S.take dir name).nodes S := by
  intro c u hu
  by_cases hc : c = n
  · subst hc
    have hk : S.kid dir name = c := by unfold Tre.kid; rw [at_of hd, hf]; rfl
    unfold Tre.take at hu
    rw [hk, at_of hx] at hu
    have h1 : fnd ((S.setN dir (Tre.dirTake (S.at_ dir) name)).setN c (Tre.nodTake x)).nodes c = some (Tre.nodTake x) := by rw [setN_fnd, if_pos rfl]
    generalize (S.setN dir (Tre.dirTake (S.at_ dir) name)).setN c (Tre.nodTake x) = S2 at *
    unfold Tre.forget at hu
    rw [h1] at hu
    dsimp only at hu
    split at hu
    · exfalso
      have : fnd (delA S2.nodes c) c = none := by
        rw [fnd_none]
        intro hm
        obtain ⟨p, hp, e⟩ := List.mem_map.1 hm
        have := (List.mem_filter.1 hp).2
        simp [e] at this
      rw [show fnd ({ S2 with nodes := delA S2.nodes c } : Tre).nodes c = fnd (delA S2.nodes c) c from rfl, this] at hu
      cases hu
    · rw [h1] at hu
      cases hu
      exact ⟨x, hx, rfl, fun e he => he⟩
  · rw [take_fnd hd hf c hc] at hu
    by_cases he : c = dir
    · rw [if_pos he] at hu
      cases hu
      exact ⟨d, by rw [he]; exact hd, rfl, fun e he => (List.mem_filter.1 he).1⟩
    · rw [if_neg he] at hu
      exact ⟨u, hu, rfl, fun e he => he⟩
theorem Gd.rename (h : Gd S rk k) (p q : Str) : ∃ rk', Gd (S.rename p q).2 rk' (k + 1) := by
  have hme : ∃ rk', Gd S rk' (k + 1) := ⟨rk, h.mono (Nat.le_succ k)⟩
  unfold Tre.rename
  by_cases hl1 : (lastM p).2.2 ≠ 0
  · rw [if_pos hl1]; exact hme
  rw [if_neg hl1]
  by_cases hl2 : (lastM q).2.2 ≠ 0
  · rw [if_pos hl2]; exact hme
  rw [if_neg hl2]
  by_cases hp0 : (S.place p).2 ≠ 0
  · rw [if_pos hp0]; exact hme
  rw [if_neg hp0]
  by_cases hn0 : (S.place p).1.node = 0
  · rw [if_pos hn0]; exact hme
  rw [if_neg hn0]
  by_cases hq0 : (S.place q).2 ≠ 0
  · rw [if_pos hq0]; exact hme
  rw [if_neg hq0]
  have P := h.place_ok p (Classical.not_not.1 hp0)
  have Q := h.place_ok q (Classical.not_not.1 hq0)
  generalize (S.place p).1 = s at *
  generalize (S.place q).1 = t at *
  obtain ⟨d, hd, hd2, _, hc, _⟩ := P.dir
  have hc := hc hn0
  obtain ⟨td, htd, htd2, htat, htc, htn⟩ := Q.dir
  obtain ⟨_, _, x, hx0, hxe⟩ := (h.nod hd).ents _ (fnd_some hc)
  have hx : fnd S.nodes s.node = some x := hx0
  clear hx0
  dsimp only
  rw [at_of hx]
  by_cases hw : x.kind = 2 ∧ S.within t.dir s.node = true
  · rw [if_pos hw]; exact hme
  rw [if_neg hw]
  by_cases hdp : x.kind = 2 ∧ S.deep s.node (S.way t.dir ++ [t.name]) = true
  · rw [if_pos hdp]; exact hme
  rw [if_neg hdp]
  by_cases hne : t.node = s.node
  · rw [if_pos hne]; exact hme
  rw [if_neg hne]
  have hdir : x.kind = 2 → S.within t.dir s.node = false ∧ S.deep s.node (S.way t.dir ++ [t.name]) = false := fun h2 => ⟨Bool.eq_false_iff.2 fun e => hw ⟨h2, e⟩, Bool.eq_false_iff.2 fun e => hdp ⟨h2, e⟩⟩
  have hparts : (S.way t.dir ++ [t.name]).length = rk t.dir + 1 := by
    rw [List.length_append, h.wayLen _ _ _ htd htd2 htat rfl]
    rfl
  have hst : s.node ≠ t.dir := by
    intro e
    have hxt : x = td := by rw [e, htd] at hx; exact (Option.some.inj hx).symm
    have := (hdir (by rw [hxt]; exact htd2)).1
    rw [← e, within_refl] at this
    cases this
  by_cases ht0 : t.node ≠ 0
  · have htc := htc ht0
    obtain ⟨_, _, y, hy0, hye⟩ := (h.nod htd).ents _ (fnd_some htc)
    have hy : fnd S.nodes t.node = some y := hy0
    rw [at_of hy]
    by_cases c1 : t.node ≠ 0 ∧ x.kind = 2 ∧ y.kind ≠ 2
    · rw [if_pos c1]; exact hme
    rw [if_neg c1]
    by_cases c2 : t.node ≠ 0 ∧ x.kind = 2 ∧ 0 < y.names.length
    · rw [if_pos c2]; exact hme
    rw [if_neg c2]
    by_cases c3 : t.node ≠ 0 ∧ x.kind ≠ 2 ∧ y.kind = 2
    · rw [if_pos c3]; exact hme
    rw [if_neg c3]
    dsimp only
    rw [if_pos ht0]
    have hemp : y.kind = 2 → y.names = [] := by
      intro h2
      by_cases hx2 : x.kind = 2
      · have : ¬ 0 < y.names.length := fun e => c2 ⟨ht0, hx2, e⟩
        exact List.eq_nil_of_length_eq_zero (by omega)
      · exact absurd ⟨ht0, hx2, h2⟩ c3
    have G := h.take htd htc hy hemp
    have hles := take_les h htd htc hy
    have htt : t.dir ≠ t.node := by
      intro e
      have hyt : td = y := by rw [e, hy] at htd; exact (Option.some.inj htd).symm
      have := hemp (by rw [← hyt]; exact htd2)
      rw [hyt, this] at htc
      cases htc
    have hsd : s.dir ≠ t.node := by
      intro e
      have hyt : d = y := by rw [e, hy] at hd; exact (Option.some.inj hd).symm
      have := hemp (by rw [← hyt]; exact hd2)
      rw [hyt, this] at hc
      cases hc
    have f1 := take_fnd htd htc
    have hx1 : fnd (S.take t.dir t.name).nodes s.node = some x := by rw [f1 _ (fun e => hne e.symm), if_neg hst]; exact hx
    have ht1 : fnd (S.take t.dir t.name).nodes t.dir = some (Tre.dirTake td t.name) := by rw [f1 _ htt, if_pos rfl]
    have htn1 : fnd (Tre.dirTake td t.name).names t.name = none := by
      rw [fnd_none]
      intro hm
      obtain ⟨p, hp, e⟩ := List.mem_map.1 hm
      have := (List.mem_filter.1 hp).2
      simp [e] at this
    obtain ⟨d1, hd1, hf1⟩ : ∃ d1, fnd (S.take t.dir t.name).nodes s.dir = some d1 ∧ fnd d1.names s.name = some s.node := by
      rw [f1 _ hsd]
      by_cases e : s.dir = t.dir
      · rw [if_pos e]
        refine ⟨_, rfl, ?_⟩
        have hdt : td = d := by rw [← e, hd] at htd; exact (Option.some.inj htd).symm
        show fnd (delA td.names t.name) s.name = _
        rw [fnd_delA, hdt]
        · exact hc
        · intro en
          rw [hdt, ← en, hc] at htc
          exact hne (Option.some.inj htc).symm
      · rw [if_neg e]
        exact ⟨d, hd, hc⟩
    exact G.mv h hles hd1 hf1 hx1 ht1 htd2 htat Q.name htn1 Q.low hparts hdir
  · rw [if_neg (fun e => ht0 e.1), if_neg (fun e => ht0 e.1), if_neg (fun e => ht0 e.1)]
    dsimp only
    rw [if_neg ht0]
    exact h.mv h (fun n u hu => ⟨u, hu, rfl, fun e he => he⟩) hd hc hx htd htd2 htat Q.name (htn (Classical.not_not.1 ht0)) Q.low hparts hdir
end Go.Proofs.YtonhcefgakmpfaaGreatDoor
/- 'copy' into a row that is owned, elements of one cell. No program in sight. -/
namespace Go.Own
open Go.RowKit
section
variable {w : World} {l : List HP} {e : TypeId} {n cap g off m : Nat} {xs ys : List Value}
theorem Has.copyRun {P : Program} (hO : Has w (row (.slice (some ⟨g, 0, none⟩) n cap) e 1 n xs :: l)) (dT sT ty : TypeId) (hu : P.underlying dT = some (.slice e)) (hsz : (P.info? e).map (·.size) = some 1)
    (dn dc c : Nat) (sp : Option Addr) (hr : Rd w (.slice sp m c) 1 m ys) (h1 : ∀ u ∈ ys, u.oneCell' = true) (hfit : off + min m dn ≤ n) :
    ∃ w', (Builtin.copy_ #[dT, sT] ty #[.slice (some ⟨g, off, none⟩) dn dc, .slice sp m c]).run P w = .ok (goInt ((min m dn : Nat) : Int)) w' ∧ Has w' (row (.slice (some ⟨g, 0, none⟩) n cap) e 1 n (xs.take off ++ ys.take (min m dn) ++ xs.drop (off + min m dn)) :: l) ∧ Keep w w' := by
  obtain ⟨hxl, h | ⟨g', cap', cur, e1, h2, h3, h4, h5, hp⟩⟩ := hO.row_cases
  · exact absurd h.1 (by simp)
  simp only [Value.slice.injEq, Option.some.injEq, Addr.mk.injEq] at e1
  obtain ⟨⟨rfl, -, -⟩, -, rfl⟩ := e1
  obtain ⟨hyl, -, p, cap2, e2, -, hcs⟩ := hr
  cases e2
  rw [Nat.mul_one] at hyl h4 h5 hxl
  by_cases hz : min m dn = 0
  · refine ⟨w, ?_, ?_, Keep.refl w⟩
    · have := run_copy_none (P := P) w dT sT ty e (some ⟨g, off, none⟩) sp dn dc m c hu hsz hz
      rw [hz]; exact this
    · rw [hz]; simpa using hO
  · obtain ⟨g2, o2, rfl, hc2⟩ := hcs (by omega)
    have hl : (ys.take (min m dn)).length = Nat.min m dn := by rw [List.length_take, hyl]; show min (min m dn) m = min m dn; omega
    have hr := run_copy_row (P := P) w dT sT ty e g off dn dc ⟨g2, o2, none⟩ m c cur e (ys.take (min m dn)) hu hsz hp.lookup hl (by
      intro j v hj
      have hjl : j < (ys.take (min m dn)).length := (List.getElem?_eq_some_iff.1 hj).1
      rw [hl] at hjl
      have hjm : j < min m dn := hjl
      rw [List.getElem?_take, if_pos hjm] at hj
      rw [add_plain, hc2 j (by omega), hj]) (by rw [hl]; show off + min m dn ≤ _; omega) (fun v hv => h1 v (List.mem_of_mem_take hv))
    refine ⟨w.setRow g (cur.toList.take off ++ ys.take (min m dn) ++ cur.toList.drop (off + min m dn)).toArray, by rw [hr, hl], ?_, ⟨rfl, rfl, rfl, by simp [World.setRow]⟩⟩
    refine (hp.turn (fun k _ hk => setRow_other w g k _ hk) (setRow_heap w g cur _ e _ hp.lookup)).row_of h2 h3 ?_ ?_ ?_
    · simp only [List.size_toArray, List.length_append, List.length_take, List.length_drop, Array.length_toList]; omega
    · rw [Nat.mul_one]
      show (cur.toList.take off ++ ys.take (min m dn) ++ cur.toList.drop (off + min m dn)).take n = _
      have hcl : n ≤ cur.toList.length := by simp; omega
      have hA : (cur.toList.take off ++ ys.take (min m dn)).length = off + min m dn := by
        simp only [List.length_append, List.length_take]
        omega
      rw [List.take_append, List.take_of_length_le (by rw [hA]; exact hfit), hA, ← h5, List.take_take, Nat.min_eq_left (show off ≤ n by omega), List.drop_take]
    · simp only [List.length_append, List.length_take, List.length_drop]; omega
theorem wp_copy {P : Program} {o : Oper} {a : Act} {K : Act → World → Prop} {Q : Exit → Act → World → Prop} (d s : Operand) (dT sT : TypeId)
    (ho : o.op = .call { callee := .builtin .copy, args := #[d, s], argTypes := #[dT, sT] }) (hu : P.underlying dT = some (.slice e)) (hsz : (P.info? e).map (·.size) = some 1)
    (hO : Has w (row (.slice (some ⟨g, 0, none⟩) n cap) e 1 n xs :: l)) (dn dc c : Nat) (sp : Option Addr) (hd : a.eval d = .slice (some ⟨g, off, none⟩) dn dc) (hs : a.eval s = .slice sp m c)
    (hr : Rd w (.slice sp m c) 1 m ys) (h1 : ∀ u ∈ ys, u.oneCell' = true) (hfit : off + min m dn ≤ n)
    (h : ∀ w', Has w' (row (.slice (some ⟨g, 0, none⟩) n cap) e 1 n (xs.take off ++ ys.take (min m dn) ++ xs.drop (off + min m dn)) :: l) → Keep w w' → K (a.put o.dst (goInt ((min m dn : Nat) : Int))) w') : o.wp P a w K Q := by
  obtain ⟨w', hrun, h2, h3⟩ := hO.copyRun (P := P) dT sT o.type hu hsz dn dc c sp hr h1 hfit
  unfold Oper.wp execOp
  simp only [ho, resolve, invoke, builtin, Sem.run_bind, Sem.run_pure, Result.andThen_ok, List.map_toArray, List.map_cons, List.map_nil, hd, hs, hrun]
  exact h w' h2 h3
end
end Go.Own
