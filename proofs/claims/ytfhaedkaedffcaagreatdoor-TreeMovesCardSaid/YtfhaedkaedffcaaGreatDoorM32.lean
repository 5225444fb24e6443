/- TEXTS of mine, merged. -/
import Derived.Test.YtfhaedkaedffcaaGreatDoorM30
import Derived.Test.YtfhaedkaedffcaaGreatDoorM8
import Derived.Test.YtfhaedkaedffcaaGreatDoorM20
import Derived.Test.YtfhaedkaedffcaaGreatDoorM27
import Derived.Test.YtfhaedkaedffcaaGreatDoorM26
import Derived.Test.YtfhaedkaedffcaaGreatDoorM7
/- THE WALK of tree.Same: lists that say the same, numbers told apart. -/
namespace Go.Proofs.YtfhaedkaedffcaaGreatDoor
open Go.RowKit Go.Own
abbrev tIi : TypeId := 125
/-- A map to and a map fro, of what belongs together. -/
structure Two (r : Int → Int → Prop) (T1 T2 : List (Int × Int)) : Prop where
  fwd : ∀ n y, fnd T1 n = some y → r n y
  bak : ∀ m n, fnd T2 m = some n → r n m
  both : ∀ n m, r n m → ((fnd T1 n).isSome = (fnd T2 m).isSome)
structure Bij (r : Int → Int → Prop) : Prop where
  fn : ∀ n m m', r n m → r n m' → m = m'
  inj : ∀ n n' m, r n m → r n' m → n = n'
theorem fnd_put {t : List (Int × Int)} {x a : Int} (y : Int) : fnd (putA t x a) y = if y = x then some a else fnd t y := by
  unfold putA
  by_cases hx : x ∈ t.map Prod.fst
  · rw [if_pos hx]
    induction t with
    | nil => cases hx
    | cons p t ih =>
      rw [List.map_cons, fnd_cons, fnd_cons]
      by_cases hp : p.1 = x
      · rw [if_pos hp]
        by_cases hy : y = x
        · rw [if_pos hy.symm, if_pos hy]
        · have h1 : ¬ x = y := fun e => hy e.symm
          have h2 : ¬ p.1 = y := by rw [hp]; exact h1
          rw [if_neg h1, if_neg hy, if_neg h2]
          by_cases hx2 : x ∈ t.map Prod.fst
          · have := ih hx2
            rw [if_neg hy] at this
            exact this
          · have : t.map (fun p => if p.1 = x then (x, a) else p) = t := by
              rw [List.map_congr_left (g := id)]
              · simp
              · intro q hq
                have : q.1 ≠ x := by rintro rfl; exact hx2 (List.mem_map_of_mem hq)
                simp [this]
            rw [this]
      · rw [if_neg hp]
        have hx2 : x ∈ t.map Prod.fst := by
          rw [List.map_cons, List.mem_cons] at hx
          exact hx.resolve_left fun e => hp e.symm
        by_cases h2 : p.1 = y
        · have hy : ¬ y = x := by rw [← h2]; exact hp
          rw [if_pos h2, if_neg hy, if_pos h2]
        · rw [if_neg h2, ih hx2]
          by_cases hy : y = x
          · rw [if_pos hy, if_pos hy]
          · rw [if_neg hy, if_neg hy, if_neg h2]
  · rw [if_neg hx]
    by_cases hy : y = x
    · subst hy
      rw [if_pos rfl]
      induction t with
      | nil => rw [List.nil_append, fnd_cons, if_pos rfl]
      | cons p t ih =>
        rw [List.map_cons, List.mem_cons, not_or] at hx
        rw [List.cons_append, fnd_cons, if_neg (fun e => hx.1 e.symm)]
        exact ih hx.2
    · rw [if_neg hy]
      clear hx
      induction t with
      | nil => rw [List.nil_append, fnd_cons, if_neg (fun e => hy e.symm)]
      | cons p t ih => rw [List.cons_append, fnd_cons, fnd_cons, ih]
theorem Two.nil (r : Int → Int → Prop) : Two r [] [] where
  fwd n y h := by cases h
  bak n y h := by cases h
  both n m h := rfl
theorem Two.put {r : Int → Int → Prop} (hr : Bij r) {T1 T2 : List (Int × Int)} (h : Two r T1 T2) {x y : Int} (hxy : r x y) : Two r (putA T1 x y) (putA T2 y x) where
  fwd n m e := by
    rw [fnd_put] at e
    by_cases hn : n = x
    · rw [if_pos hn] at e; cases e; rw [hn]; exact hxy
    · rw [if_neg hn] at e; exact h.fwd n m e
  bak m n e := by
    rw [fnd_put] at e
    by_cases hn : m = y
    · rw [if_pos hn] at e; cases e; rw [hn]; exact hxy
    · rw [if_neg hn] at e; exact h.bak m n e
  both n m e := by
    rw [fnd_put, fnd_put]
    by_cases hn : n = x
    · have hm : m = y := by rw [hn] at e; exact hr.fn _ _ _ e hxy
      rw [if_pos hn, if_pos hm]
      rfl
    · have hm : ¬ m = y := by rintro rfl; exact hn (hr.inj _ _ _ e hxy)
      rw [if_neg hn, if_neg hm]
      exact h.both n m e
theorem Two.at_ {r : Int → Int → Prop} (hr : Bij r) {T1 T2 : List (Int × Int)} (h : Two r T1 T2) {x y : Int} (hxy : r x y) : (x ∉ T1.map Prod.fst ∧ y ∉ T2.map Prod.fst) ∨ (fnd T1 x = some y ∧ fnd T2 y = some x ∧ x ∈ T1.map Prod.fst ∧ y ∈ T2.map Prod.fst) := by
  have hb := h.both x y hxy
  cases h1 : fnd T1 x with
  | none =>
    rw [h1] at hb
    cases h2 : fnd T2 y with
    | none => exact .inl ⟨fnd_none.1 h1, fnd_none.1 h2⟩
    | some q => rw [h2] at hb; cases hb
  | some p =>
    rw [h1] at hb
    cases h2 : fnd T2 y with
    | none => rw [h2] at hb; cases hb
    | some q =>
      have e1 := hr.fn _ _ _ (h.fwd _ _ h1) hxy
      have e2 := hr.inj _ _ _ (h.bak _ _ h2) hxy
      subst e1 e2
      exact .inr ⟨rfl, rfl, List.mem_map_of_mem (f := Prod.fst) (fnd_some h1), List.mem_map_of_mem (f := Prod.fst) (fnd_some h2)⟩
theorem RdNs.five {w : World} {v : Value} {os : List Sn} (h : RdNs w v os) (k : Nat) (hk : k < os.length) : ∃ g o c p m, v = .slice (some ⟨g, o, none⟩) os.length c ∧ os[k].dv = .slice p os[k].data.length m ∧
    w.cell? ⟨g, o + k * 5, none⟩ = some (sV os[k].path) ∧ w.cell? ⟨g, o + k * 5 + 1, none⟩ = some (.int .i64 os[k].num) ∧ w.cell? ⟨g, o + k * 5 + 2, none⟩ = some (.int .i64 os[k].kind) ∧ w.cell? ⟨g, o + k * 5 + 3, none⟩ = some (.int .i64 os[k].links) ∧ w.cell? ⟨g, o + k * 5 + 4, none⟩ = some (.slice p os[k].data.length m) := by
  obtain ⟨p, c, rfl, -, -, hr⟩ := h.1.form
  obtain ⟨g, o, rfl, hc⟩ := hr (by omega)
  obtain ⟨pd, md, hd, -⟩ := (h.2 _ (List.getElem_mem hk)).form
  have H : ∀ j, j < 5 → w.cell? ⟨g, o + (k * 5 + j), none⟩ = (os[k].enc)[j]? := fun j hj => (hc (k * 5 + j) (by omega)).trans (snEnc_at os k hk j hj)
  refine ⟨g, o, c, pd, md, rfl, hd, H 0 (by omega), ?_, ?_, ?_, ?_⟩
  · rw [Nat.add_assoc]; exact H 1 (by omega)
  · rw [Nat.add_assoc]; exact H 2 (by omega)
  · rw [Nat.add_assoc]; exact H 3 (by omega)
  · rw [Nat.add_assoc]
    have h4 := H 4 (by omega)
    have e4 : (os[k].enc)[4]? = some (oneV os[k].dv) := rfl
    rw [e4, hd] at h4
    exact h4
end Go.Proofs.YtfhaedkaedffcaaGreatDoor
/- TreeNamesRise, plain: directories made in the root, one by one. -/
namespace Go.Proofs.YtfhaedkaedffcaaGreatDoor
open Go.RowKit Go.Own
def nm2 (a b : Nat) : Str := [UInt8.ofNat (97 + a), UInt8.ofNat (97 + b)]
/-- The root has so many names. -/
structure Nr (S : Tre) (k m : Nat) : Prop where
  gd : ∃ rk, Gd S rk k
  names : (S.at_ 1).names.length = m
  data : (S.at_ 1).data = []
theorem Nr.mkdir {S : Tre} {k m : Nat} (h : Nr S k m) {nm : Str} (hn : GoodN nm) : ∃ c S' m', S.mkdir (47 :: nm) = (ansE c, S') ∧ (c = 0 ∧ m' = m + 1 ∨ c = 6 ∧ m' = m) ∧ Nr S' (k + 1) m' := by
  obtain ⟨rk, hg⟩ := h.gd
  have h1 := hg.fresh_one hn
  have hg2 := hg.mkdir (47 :: nm)
  unfold Tre.mkdir at hg2 ⊢
  rw [h1] at hg2 ⊢
  by_cases h0 : (fnd (S.at_ 1).names nm).getD 0 ≠ 0
  · rw [if_pos h0] at hg2 ⊢
    exact ⟨6, S, m, rfl, .inr ⟨rfl, rfl⟩, ⟨⟨rk, hg.mono (Nat.le_succ k)⟩, h.names, h.data⟩⟩
  · rw [if_neg h0] at hg2 ⊢
    have hl := hg.last1
    have hd := make_dir S ⟨0, 1, nm⟩ 2 [] (by dsimp only; omega)
    dsimp only at hd
    have hnone : fnd (S.at_ 1).names nm = none := by
      obtain ⟨x, hx⟩ := hg.x.has1
      rw [at_of hx] at h0 ⊢
      cases hf : fnd x.names nm with
      | none => rfl
      | some c =>
        rw [hf] at h0
        obtain ⟨_, _, y, hy, _⟩ := (hg.nod hx).ents _ (fnd_some hf)
        exact absurd (Classical.not_not.1 h0) (hg.ne0 hy)
    refine ⟨0, S.make ⟨0, 1, nm⟩ 2 [], m + 1, rfl, .inl ⟨rfl, rfl⟩, ⟨hg2, ?_, ?_⟩⟩
    · rw [at_of hd]
      show (putA _ _ _).length = _
      rw [putA_new _ (fnd_none.1 hnone), List.length_append, h.names]
      rfl
    · rw [at_of hd]
      exact h.data
theorem Nr.list {S : Tre} {k m : Nat} (h : Nr S k m) : ∃ l, S.list 18 [47] = ⟨0, 0, 0, 0, [], l⟩ ∧ l.length = m ∧ l.Pairwise (· < ·) := by
  obtain ⟨rk, hg⟩ := h.gd
  have h2 := hg.root2
  refine ⟨sortedS ((S.at_ 1).names.map Prod.fst), ?_, ?_, ?_⟩
  · unfold Tre.list
    have e : S.find [47] ((18 : Int) == 18) = (⟨1, 0, []⟩, 0) := find_root S _
    rw [e]
    rw [if_neg (fun h => h rfl), if_neg (fun h => h.2 h2), if_pos rfl]
  · rw [sortedS_len, List.length_map]; exact h.names
  · obtain ⟨x, hx⟩ := hg.x.has1
    have hu : ((S.at_ 1).names.map Prod.fst).Nodup := by rw [at_of hx]; exact (hg.nod hx).uniq
    have hnd := (sortedS_perm ((S.at_ 1).names.map Prod.fst)).nodup_iff.2 hu
    have hs := sortedS_sorted ((S.at_ 1).names.map Prod.fst)
    refine (hs.and hnd).imp ?_
    rintro a b ⟨h1, h2⟩
    rw [decide_eq_true_eq] at h1
    exact Classical.byContradiction fun h3 => h2 (List.le_antisymm h1 (List.not_lt.1 h3))
theorem Nr.stat {S : Tre} {k m : Nat} (h : Nr S k m) : S.stat [47] true = ⟨0, m, 2, 1, [], []⟩ := by
  obtain ⟨rk, hg⟩ := h.gd
  obtain ⟨x, hx⟩ := hg.x.has1
  have hr := (hg.nod hx).root rfl
  have hn := h.names
  have hd := h.data
  unfold Tre.stat
  simp only [find_root, ne_eq, not_true_eq_false, if_false]
  rw [hd, hn]
  rw [at_of hx, hr.1, hr.2.2.1]
  simp
section
variable (q : Nat) (S : Tre) (k m : Nat) (mx : Int) (w : World) (L : List HP) (hM : MxL mx L) (hk : k < 100000) (h : Nr S k m)
include hM hk h
end
end Go.Proofs.YtfhaedkaedffcaaGreatDoor
/- THE WALK of Fill. -/
namespace Go.Proofs.YtfhaedkaedffcaaGreatDoor
open Go.RowKit Go.Own
/-- Byte k of number n's text. -/
def fb (n : Int) (k : Nat) : Int := (n / 2 ^ (8 * (k % 4)) + (k : Int) * 7) % 256
def fill (n : Int) (sz : Nat) : List Int := (List.range sz).map (fb n)
end Go.Proofs.YtfhaedkaedffcaaGreatDoor
/- THE WALK of TreeAppends. -/
namespace Go.Proofs.YtfhaedkaedffcaaGreatDoor
open Go.RowKit Go.Own
def lowQ : Qc := ⟨[20], fun _ args => .int .i64 (low (intOf (args.getD 0 undef)) (intOf (args.getD 1 undef))), []⟩
section
variable (q : Nat) (w : World) (L : List HP) {d : List Int} {wr : List Bool} (hd : d.length ≤ 5000) (hw : wr.length ≤ 162) (o : Nat) (ho : o ≤ 5000)
include hd hw ho
end
theorem oldCell {W w : World} {L : List HP} {g o : Nat} {v : Value} (h : W.cell? ⟨g, o, none⟩ = some v) (hO : Has w (old W :: L)) : w.cell? ⟨g, o, none⟩ = some v := (World.cell?_of_block (hO.old_look g (World.block_lt_of_cell? W _ h))).trans h
end Go.Proofs.YtfhaedkaedffcaaGreatDoor
