/- TEXTS of mine, merged. -/
import Derived.Test.YtonhcefgakmpfaaGreatDoorM28
import Derived.Test.YtonhcefgakmpfaaGreatDoorM29
import Derived.Test.YtonhcefgakmpfaaGreatDoorM26
import Derived.Test.YtonhcefgakmpfaaGreatDoorM8
import Derived.Test.YtonhcefgakmpfaaGreatDoorM20
/- HOW MANY FILES a tree has, plain. No program in sight. -/
namespace Go.Proofs.YtonhcefgakmpfaaGreatDoor
open Go.RowKit Go.Own
theorem nodup_lenS {α : Type} [DecidableEq α] {l : List α} : ∀ {l' : List α}, l.Nodup → (∀ x ∈ l, x ∈ l') → l.length ≤ l'.length := by
  induction l with
  | nil => intro l' _ _; simp
  | cons x l ih =>
    intro l' hn hs
    rw [List.nodup_cons] at hn
    have hx : x ∈ l' := hs x (by simp)
    have h1 := ih (l' := l'.erase x) hn.2 fun y hy => by
      have hne : y ≠ x := by rintro rfl; exact hn.1 hy
      exact (List.mem_erase_of_ne hne).2 (hs y (by simp [hy]))
    rw [List.length_erase_of_mem hx] at h1
    have : 0 < l'.length := List.length_pos_of_mem hx
    simp only [List.length_cons]
    omega
variable {S : Tre} {rk : Int → Nat} {k : Nat}
theorem Gd.files_nodup (h : Gd S rk k) : ((filesP S).map Prod.fst).Nodup := by
  obtain ⟨x1, hx1⟩ := h.x.has1
  unfold List.Nodup
  rw [List.pairwise_map]
  exact h.seenP_nodup 22 1 x1 [] hx1
def allP (S : Tre) : List (List Str) := [] :: S.nodes.flatMap fun p => p.2.names.map fun e => S.way p.1 ++ [e.1]
theorem Gd.files_sub (h : Gd S rk k) {e : List Str × Int × Nod} (he : e ∈ filesP S) : e.1 ∈ allP S := by
  obtain ⟨h1, h2⟩ := (h.files_mem e).1 he
  by_cases h0 : e.1 = []
  · rw [h0]; exact List.mem_cons_self
  · obtain ⟨qs, p, hq⟩ : ∃ qs p, e.1 = qs ++ [p] := ⟨e.1.dropLast, e.1.getLast h0, (List.dropLast_concat_getLast h0).symm⟩
    rw [hq] at h1 ⊢
    obtain ⟨d, hd, hf⟩ := goN_snoc h1
    obtain ⟨x1, hx1⟩ := h.x.has1
    obtain ⟨y, hy, _⟩ := h.go_there qs 1 x1 hx1 d hd
    rw [at_of hy] at hf
    have hk : y.kind = 2 := Classical.byContradiction fun h2 => by
      rw [((h.nod hy).file h2).1] at hf
      cases hf
    have hw := h.way_go qs.length qs d y rfl hy hk hd
    refine List.mem_cons_of_mem _ (List.mem_flatMap.2 ⟨(d, y), fnd_some hy, List.mem_map.2 ⟨_, fnd_some hf, ?_⟩⟩)
    show S.way d ++ [p] = _
    rw [hw]
theorem Gd.files_few (h : Gd S rk k) : (filesP S).length ≤ 1 + (k + 1) * k := by
  have h1 := nodup_lenS h.files_nodup (l' := allP S) fun x hx => by
    obtain ⟨e, he, rfl⟩ := List.mem_map.1 hx
    exact h.files_sub he
  rw [List.length_map] at h1
  have h2 : (allP S).length ≤ 1 + S.nodes.length * k := by
    unfold allP
    rw [List.length_cons, List.length_flatMap]
    have : ∀ t : List (Int × Nod), (∀ p ∈ t, p.2.names.length ≤ k) → (t.map fun p => (p.2.names.map fun e => S.way p.1 ++ [e.1]).length).sum ≤ t.length * k := by
      intro t
      induction t with
      | nil => intro _; simp
      | cons p t ih =>
        intro hp
        have h3 := ih fun q hq => hp q (List.mem_cons_of_mem _ hq)
        have h4 := hp p List.mem_cons_self
        rw [List.map_cons, List.sum_cons, List.length_map, List.length_cons, Nat.add_mul]
        omega
    have h5 := this S.nodes fun p hp => (h.nod (fnd_mem h.x.keys (show (p.1, p.2) ∈ S.nodes from hp))).size.2.2.1
    omega
  have h3 : S.nodes.length * k ≤ (k + 1) * k := Nat.mul_le_mul_right _ h.many
  omega
theorem Gd.files_few' (h : Gd S rk k) (hk : k < 900) : (filesP S).length ≤ 1000000 := by
  have h1 := h.files_few
  have h2 : (k + 1) * k ≤ 900 * 900 := Nat.mul_le_mul (by omega) (by omega)
  omega
end Go.Proofs.YtonhcefgakmpfaaGreatDoor
/- Steps of the laws that do a list of operations. -/
namespace Go.Proofs.YtonhcefgakmpfaaGreatDoor
open Go.RowKit Go.Own
theorem gdTake {R : List Oq} (hR : ∀ y ∈ R, greatM y = false) (k : Nat) (hk : k ≤ R.length) : Gdx (runM tre0 (R.take k)) k := by
  have h := runM_gd gdx0 (R.take k) fun y hy => hR y (List.mem_of_mem_take hy)
  rwa [List.length_take, Nat.min_eq_left hk, Nat.zero_add] at h
theorem gdRun {R : List Oq} (hR : ∀ y ∈ R, greatM y = false) : Gdx (runM tre0 R) R.length := by
  have h := gdTake hR R.length (Nat.le_refl _)
  rwa [List.take_length] at h
theorem stepCopy {S : Tre} {k : Nat} (q : Nat) (w : World) (L : List HP) (h : Gdx S k) (hk : k < 90000) (hO : Has w (Trc q S :: L)) :
    Calls Tryz.prog 18 #[.pointer (some ⟨q, 0, none⟩)] w fun e w' => ∃ q', e = .returned (.pointer (some ⟨q', 0, none⟩)) ∧ Has w' (Trc q' S :: Trc q S :: L) ∧ Keep w w' := by
  obtain ⟨rk, h⟩ := h
  exact tCopy q S w L (fun n x hx => ⟨(h.nod hx).size.1, (h.nod hx).size.2.1⟩) (by have := h.many; omega) hO
theorem stepNodes' {S : Tre} {k : Nat} (q : Nat) (w : World) (L : List HP) (h : Gdx S k) (hk : k < 900) (hO : Has w (Trc q S :: L)) :
    Calls Tryz.prog 20 #[.pointer (some ⟨q, 0, none⟩)] w fun e w' => ∃ p c os, e = .returned (.slice p (os.length) c) ∧ (os.map Sn.key).Perm ((seen S.nodes 22 1 []).map keyE) ∧ Srt os ∧ Has w' (Sns (.slice p os.length c) os :: Trc q S :: L) ∧ Keep w w' := by
  have hf : (filesP S).length ≤ 1000000 := by
    obtain ⟨rk, h⟩ := h
    exact h.files_few' hk
  refine (stepNodes q w L h (by omega) hf hO).mono ?_
  rintro e w' ⟨p, c, os, rfl, hl, h1, h2, h3, h4⟩
  exact ⟨p, c, os, by rw [hl], h1, h2, h3, h4⟩
theorem keysOne {S : Tre} {k : Nat} (h : Gdx S k) {os os' : List Sn} (h1 : (os.map Sn.key).Perm ((seen S.nodes 22 1 []).map keyE)) (h2 : (os'.map Sn.key).Perm ((seen S.nodes 22 1 []).map keyE)) (s1 : Srt os) (s2 : Srt os') : os.map Sn.key = os'.map Sn.key := by
  obtain ⟨rk, h⟩ := h
  exact h.files_one h1 h2 s1 s2
end Go.Proofs.YtonhcefgakmpfaaGreatDoor
/- THE WALK of node.blocks of whatever size, inode.Place. -/
namespace Go.Proofs.YtonhcefgakmpfaaGreatDoor
open Go.RowKit Go.Own
def plA (k : Nat) : Int := if k < 6 then 0 else if k < 18 then 1 else if k < 162 then 2 else -1
def plB (k : Nat) : Int := if k < 6 then (k : Int) else if k < 18 then (k : Int) - 6 else if k < 162 then (((k - 18) / 12 : Nat) : Int) else -1
/-- What is counted so far: blocks, whether the single one is, whether the double one is, which of the double one's are. -/
def bstep (s : Nat × Int × Int × List Bool) (k : Nat) (b : Bool) : Nat × Int × Int × List Bool :=
  if b = true then (s.1 + 1, if plA k = 1 then 1 else s.2.1, if plA k = 2 then 1 else s.2.2.1, if plA k = 2 then s.2.2.2.set ((k - 18) / 12) true else s.2.2.2) else s
def bst (ws : List Bool) : Nat → Nat × Int × Int × List Bool
  | 0 => (0, 0, 0, List.replicate 12 false)
  | k + 1 => bstep (bst ws k) k (ws.getD k false)
/-- How many blocks a node takes. -/
def blocksG (x : Nod) : Int := if x.kind = 2 then (x.most + 3) / 4 else if x.kind = 3 then 1 else ((bst x.wr x.wr.length).1 : Int) + (((bst x.wr x.wr.length).2.2.2.filter id).length : Int) + (bst x.wr x.wr.length).2.1 + (bst x.wr x.wr.length).2.2.1
def aB (l : List Bool) : Array Value := (l.map Value.bool).toArray
end Go.Proofs.YtonhcefgakmpfaaGreatDoor
/- THE WALK of Need, files of whatever size. -/
namespace Go.Proofs.YtonhcefgakmpfaaGreatDoor
open Go.RowKit Go.Own
def needSumG (t : List (Int × Nod)) : Int := (t.map fun p => blocksG p.2).sum
def sumG : List Pn → List Int → Int
  | [], _ => 0
  | p :: P, rem => (if p.1 ∈ rem then 0 else blocksG p.2.2) + sumG P rem
end Go.Proofs.YtonhcefgakmpfaaGreatDoor
/- Steps of the laws that do lists of operations, behind other ones. -/
namespace Go.Proofs.YtonhcefgakmpfaaGreatDoor
open Go.RowKit Go.Own
theorem runGd {S0 : Tre} {k0 : Nat} (h : Gdx S0 k0) {R : List Oq} (hR : ∀ y ∈ R, greatM y = false) (k : Nat) (hk : k ≤ R.length) : Gdx (runM S0 (R.take k)) (k0 + k) := by
  have h1 := runM_gd h (R.take k) fun y hy => hR y (List.mem_of_mem_take hy)
  rwa [List.length_take, Nat.min_eq_left hk] at h1
theorem stepOqA {S : Tre} {k : Nat} (q : Nat) (mx : Int) (w : World) (L : List HP) (h : Gdx S k) (hk : k < 1000) (hM : MxL mx L) (y : Oq) (p : Option Addr) (m : Nat) (hg : greatM y = false) (hwf : OpWf y.op) (hrd : ∀ w', Has w' L → Rd w' (.slice p y.data.length m) 1 y.data.length (bc y.data)) (a : Ans) (S' : Tre) (he : S.doM y.op y.data = (a, S')) (hO : Has w (Trc q S :: L)) :
    Calls Tryz.prog 17 #[.pointer (some ⟨q, 0, none⟩), .agg #[.int .i64 y.op.kind, .int .i64 y.op.fd, .int .i64 y.op.n, .int .i64 y.op.off, .int .i64 y.op.flags, sV y.op.path, sV y.op.dest, .slice p y.data.length m]] w fun e w' => ∃ a1 ca b cb, e = .returned (ansY a a1 ca b cb) ∧ Has w' (Bytes (.slice a1 a.data.length ca) a.data :: Strs (.slice b a.names.length cb) a.names :: Trc q S' :: L) ∧ Keep w w' := by
  refine (stepOq q mx w L h (by omega) hM y.op p m y.data (greatM_no hg) hwf hrd hO).mono ?_
  rw [he]
  rintro e w' ⟨a1, ca, b, cb, rfl, -, h1, h2⟩
  exact ⟨a1, ca, b, cb, rfl, h1, h2⟩
/-- One operation of a list, behind others. -/
theorem loopAtG {S0 : Tre} {k0 : Nat} (h : Gdx S0 k0) (hk0 : k0 ≤ 500) {R : List Oq} {k : Nat} (q : Nat) (mx : Int) (w : World) (L : List HP) (hR : ∀ y ∈ R, greatM y = false) (hk : k < R.length) (hn : R.length ≤ 400) (hM : MxL mx L) (y : Oq) (hy : R[k] = y) (p : Option Addr) (m : Nat) (hwf : OpWf y.op) (hrd : ∀ w', Has w' L → Rd w' (.slice p y.data.length m) 1 y.data.length (bc y.data)) (hO : Has w (Trc q (runM S0 (R.take k)) :: L)) :
    Calls Tryz.prog 17 #[.pointer (some ⟨q, 0, none⟩), .agg #[.int .i64 y.op.kind, .int .i64 y.op.fd, .int .i64 y.op.n, .int .i64 y.op.off, .int .i64 y.op.flags, sV y.op.path, sV y.op.dest, .slice p y.data.length m]] w fun e w' => ∃ v, e = .returned v ∧ Has w' (Trc q (runM S0 (R.take (k + 1))) :: L) ∧ Keep w w' := by
  have hm : y ∈ R := hy ▸ List.getElem_mem hk
  refine (stepOqA q mx w L (runGd h hR k (by omega)) (by omega) hM y p m (hR y hm) hwf hrd _ _ rfl hO).mono ?_
  rintro e w' ⟨a, ca, b, cb, rfl, h1, h2⟩
  refine ⟨_, rfl, ?_, h2⟩
  rw [runM_take _ _ _ hk, hy]
  exact h1.drop.drop
end Go.Proofs.YtonhcefgakmpfaaGreatDoor
/- THE WALK of tree.Same: lists that say the same, numbers told apart. -/
namespace Go.Proofs.YtonhcefgakmpfaaGreatDoor
open Go.RowKit Go.Own
abbrev tIi : TypeId := 133
theorem undIi : Tryz.prog.underlying tIi = some (.map tInt tInt) := by kernel_rfl
set_option maxRecDepth 100000 in
set_option maxHeartbeats 4000000 in
theorem eqBytes (a b : Value) (xs : List Int) (w : World) (ha : Rd w a 1 xs.length (bc xs)) (hb : Rd w b 1 xs.length (bc xs)) :
    Calls Tryz.prog 98 #[a, b] w fun e w' => e = .returned (.bool true) ∧ w = w' := by
  have h1 := strOf_conv ha
  have h2 := strOf_conv hb
  clear ha hb
  generalize strOf xs = s at *
  have hs : (s == s) = true := by simp
  go_enter Tryz.func98, Tryz.ntmps98
  go_wp2_with fail
  go_ret
  exact ⟨by simp, rfl⟩
/-- A map to and a map fro, of what belongs together. -/
structure Two (r : Int → Int → Prop) (T1 T2 : List (Int × Int)) : Prop where
  fwd : ∀ n y, fnd T1 n = some y → r n y
  bak : ∀ m n, fnd T2 m = some n → r n m
  both : ∀ n m, r n m → ((fnd T1 n).isSome = (fnd T2 m).isSome)
structure Bij (r : Int → Int → Prop) : Prop where
  fn : ∀ n m m', r n m → r n m' → m = m'
  inj : ∀ n n' m, r n m → r n' m → n = n'
theorem fnd_put {t : List (Int × Int)} {x a : Int} (y : Int) : fnd (putA t x a) y = if y = x then some a else fnd t y := by
  unfold putA
  by_cases hx : x ∈ t.map Prod.fst
  · rw [if_pos hx]
    induction t with
    | nil => cases hx
    | cons p t ih =>
      rw [List.map_cons, fnd_cons, fnd_cons]
      by_cases hp : p.1 = x
      · rw [if_pos hp]
        by_cases hy : y = x
        · rw [if_pos hy.symm, if_pos hy]
        · have h1 : ¬ x = y := fun e => hy e.symm
          have h2 : ¬ p.1 = y := by rw [hp]; exact h1
          rw [if_neg h1, if_neg hy, if_neg h2]
          by_cases hx2 : x ∈ t.map Prod.fst
          · have := ih hx2
            rw [if_neg hy] at this
            exact this
          · have : t.map (fun p => if p.1 = x then (x, a) else p) = t := by
              rw [List.map_congr_left (g := id)]
              · simp
              · intro q hq
                have : q.1 ≠ x := by rintro rfl; exact hx2 (List.mem_map_of_mem hq)
                simp [this]
            rw [this]
      · rw [if_neg hp]
        have hx2 : x ∈ t.map Prod.fst := by
          rw [List.map_cons, List.mem_cons] at hx
          exact hx.resolve_left fun e => hp e.symm
        by_cases h2 : p.1 = y
        · have hy : ¬ y = x := by rw [← h2]; exact hp
          rw [if_pos h2, if_neg hy, if_pos h2]
        · rw [if_neg h2, ih hx2]
          by_cases hy : y = x
          · rw [if_pos hy, if_pos hy]
          · rw [if_neg hy, if_neg hy, if_neg h2]
  · rw [if_neg hx]
    by_cases hy : y = x
    · subst hy
      rw [if_pos rfl]
      induction t with
      | nil => rw [List.nil_append, fnd_cons, if_pos rfl]
      | cons p t ih =>
        rw [List.map_cons, List.mem_cons, not_or] at hx
        rw [List.cons_append, fnd_cons, if_neg (fun e => hx.1 e.symm)]
        exact ih hx.2
    · rw [if_neg hy]
      clear hx
      induction t with
      | nil => rw [List.nil_append, fnd_cons, if_neg (fun e => hy e.symm)]
      | cons p t ih => rw [List.cons_append, fnd_cons, fnd_cons, ih]
theorem Two.nil (r : Int → Int → Prop) : Two r [] [] where
  fwd n y h := by cases h
  bak n y h := by cases h
  both n m h := rfl
theorem Two.put {r : Int → Int → Prop} (hr : Bij r) {T1 T2 : List (Int × Int)} (h : Two r T1 T2) {x y : Int} (hxy : r x y) : Two r (putA T1 x y) (putA T2 y x) where
  fwd n m e := by
    rw [fnd_put] at e
    by_cases hn : n = x
    · rw [if_pos hn] at e; cases e; rw [hn]; exact hxy
    · rw [if_neg hn] at e; exact h.fwd n m e
  bak m n e := by
    rw [fnd_put] at e
    by_cases hn : m = y
    · rw [if_pos hn] at e; cases e; rw [hn]; exact hxy
    · rw [if_neg hn] at e; exact h.bak m n e
  both n m e := by
    rw [fnd_put, fnd_put]
    by_cases hn : n = x
    · have hm : m = y := by rw [hn] at e; exact hr.fn _ _ _ e hxy
      rw [if_pos hn, if_pos hm]
      rfl
    · have hm : ¬ m = y := by rintro rfl; exact hn (hr.inj _ _ _ e hxy)
      rw [if_neg hn, if_neg hm]
      exact h.both n m e
theorem Two.at_ {r : Int → Int → Prop} (hr : Bij r) {T1 T2 : List (Int × Int)} (h : Two r T1 T2) {x y : Int} (hxy : r x y) : (x ∉ T1.map Prod.fst ∧ y ∉ T2.map Prod.fst) ∨ (fnd T1 x = some y ∧ fnd T2 y = some x ∧ x ∈ T1.map Prod.fst ∧ y ∈ T2.map Prod.fst) := by
  have hb := h.both x y hxy
  cases h1 : fnd T1 x with
  | none =>
    rw [h1] at hb
    cases h2 : fnd T2 y with
    | none => exact .inl ⟨fnd_none.1 h1, fnd_none.1 h2⟩
    | some q => rw [h2] at hb; cases hb
  | some p =>
    rw [h1] at hb
    cases h2 : fnd T2 y with
    | none => rw [h2] at hb; cases hb
    | some q =>
      have e1 := hr.fn _ _ _ (h.fwd _ _ h1) hxy
      have e2 := hr.inj _ _ _ (h.bak _ _ h2) hxy
      subst e1 e2
      exact .inr ⟨rfl, rfl, List.mem_map_of_mem (f := Prod.fst) (fnd_some h1), List.mem_map_of_mem (f := Prod.fst) (fnd_some h2)⟩
set_option maxRecDepth 100000 in
set_option maxHeartbeats 4000000 in
/-- Lists of other lengths are not the same. -/
theorem sameNo (v1 v2 : Value) (os os' : List Sn) (w : World) (h1 : RdNs w v1 os) (h2 : RdNs w v2 os') (hne : os.length ≠ os'.length) :
    Calls Tryz.prog 35 #[v1, v2] w fun e w' => e = .returned (.bool false) ∧ w = w' := by
  obtain ⟨pa, ca, rfl, -, -, -⟩ := h1.1.form
  obtain ⟨pb, cb, rfl, -, -, -⟩ := h2.1.form
  clear h1 h2
  have hn : ((os.length : Int) != (os'.length : Int)) = true := by simp; omega
  go_enter Tryz.func35, Tryz.ntmps35
  go_wp2_with fail
  go_ret
  exact ⟨rfl, rfl⟩
theorem RdNs.five {w : World} {v : Value} {os : List Sn} (h : RdNs w v os) (k : Nat) (hk : k < os.length) : ∃ g o c p m, v = .slice (some ⟨g, o, none⟩) os.length c ∧ os[k].dv = .slice p os[k].data.length m ∧
    w.cell? ⟨g, o + k * 5, none⟩ = some (sV os[k].path) ∧ w.cell? ⟨g, o + k * 5 + 1, none⟩ = some (.int .i64 os[k].num) ∧ w.cell? ⟨g, o + k * 5 + 2, none⟩ = some (.int .i64 os[k].kind) ∧ w.cell? ⟨g, o + k * 5 + 3, none⟩ = some (.int .i64 os[k].links) ∧ w.cell? ⟨g, o + k * 5 + 4, none⟩ = some (.slice p os[k].data.length m) := by
  obtain ⟨p, c, rfl, -, -, hr⟩ := h.1.form
  obtain ⟨g, o, rfl, hc⟩ := hr (by omega)
  obtain ⟨pd, md, hd, -⟩ := (h.2 _ (List.getElem_mem hk)).form
  have H : ∀ j, j < 5 → w.cell? ⟨g, o + (k * 5 + j), none⟩ = (os[k].enc)[j]? := fun j hj => (hc (k * 5 + j) (by omega)).trans (snEnc_at os k hk j hj)
  refine ⟨g, o, c, pd, md, rfl, hd, H 0 (by omega), ?_, ?_, ?_, ?_⟩
  · rw [Nat.add_assoc]; exact H 1 (by omega)
  · rw [Nat.add_assoc]; exact H 2 (by omega)
  · rw [Nat.add_assoc]; exact H 3 (by omega)
  · rw [Nat.add_assoc]
    have h4 := H 4 (by omega)
    have e4 : (os[k].enc)[4]? = some (oneV os[k].dv) := rfl
    rw [e4, hd] at h4
    exact h4
set_option maxRecDepth 100000 in
set_option maxHeartbeats 8000000 in
theorem sameYes (r : Int → Int → Prop) (hr : Bij r) (v1 v2 : Value) (os os' : List Sn) (w : World) (L : List HP) (h1 : ∀ w', Has w' L → RdNs w' v1 os) (h2 : ∀ w', Has w' L → RdNs w' v2 os') (hl : os'.length = os.length) (hlen : os.length ≤ 100000)
    (hp : ∀ (k : Nat) (h : k < os.length) (h' : k < os'.length), os'[k].path = os[k].path ∧ os'[k].kind = os[k].kind ∧ os'[k].links = os[k].links ∧ os'[k].data = os[k].data ∧ r os[k].num os'[k].num ∧ 0 ≤ os[k].num ∧ os[k].num ≤ 1000000 ∧ 0 ≤ os'[k].num ∧ os'[k].num ≤ 1000000) (hO : Has w L) :
    Calls Tryz.prog 35 #[v1, v2] w fun e w' => e = .returned (.bool true) ∧ Has w' L ∧ Keep w w' := by
  obtain ⟨pa, ca, rfl, -, -, -⟩ := (h1 w hO).1.form
  obtain ⟨pb, cb, rfl, -, -, -⟩ := (h2 w hO).1.form
  have H1 := hid h1
  have H2 := hid h2
  have HPR := hid hp
  have HR := hid hr
  have HLL := hid hl
  have hnl : ((os.length : Int) != (os'.length : Int)) = false := by simp [hl]
  have hmm := @run_makeMap Tryz.prog
  have HO0 := hid hO
  have e1 : (w.alloc (.map #[] 0)).heap.size = w.heap.size + 1 := by show (Array.push _ _).size = _; rw [Array.size_push]
  have HO1 := hid (show Has ((w.alloc (.map #[] 0)).alloc (.map #[] 0)) (Mk kInt vInt (w.heap.size + 1) [] :: Mk kInt vInt w.heap.size [] :: L) from by rw [← e1]; exact Mk.made (Mk.made hO kInt vInt) kInt vInt)
  clear e1
  have HK1 := hid (((Keep.refl w).alloc (.map #[] 0)).alloc (.map #[] 0))
  clear h1 h2 hp hr hl hO
  go_enter Tryz.func35, Tryz.ntmps35
  go_upto_region 4 with fail
  generalize (w.alloc (.map #[] 0)).alloc (.map #[] 0) = y0 at *
  generalize w.heap.size = m1 at *
  generalize m1 + 1 = m2 at *
  go_wp2_with fail
  go_loopw [23] (fun i w' => ∃ (k : Nat) (w0 : World) (T1 T2 : List (Int × Int)), w0 = w' ∧ k ≤ os.length ∧ i = .int .i64 k ∧ Hid (T1.length ≤ k ∧ T2.length ≤ k ∧ Two r T1 T2) ∧ Hid (Has w0 (Mk kInt vInt m2 T2 :: Mk kInt vInt m1 T1 :: L)) ∧ Hid (Keep w w0)) (fun i _ => os.length - (intOf i).toNat)
  case atStart => exact ⟨0, y0, [], [], rfl, by omega, rfl, hid ⟨by simp, by simp, Two.nil r⟩, HO1, HK1⟩
  case round =>
    clear HO1 HK1 HO0
    obtain ⟨k, w0, T1, T2, rfl, hk, rfl, HT, HOw, HKw⟩ := hrel
    by_cases hlt : k < os.length
    · have hlt' : k < os'.length := by have := HLL.out; omega
      have hki : (k : Int) < (os.length : Int) := by omega
      have hki' : (k : Int) < (os'.length : Int) := by omega
      have hk0 : (0 : Int) ≤ (k : Int) := by omega
      obtain ⟨ga, oa, ca', da, ma, hva, hda, a0, a1, a2, a3, a4⟩ := (H1.out _ HOw.out.drop.drop).five k hlt
      simp only [Value.slice.injEq] at hva
      obtain ⟨rfl, -, rfl⟩ := hva
      have HDA := hid (show ∀ w', Has w' L → Rd w' (.slice da os[k].data.length ma) 1 os[k].data.length (bc os[k].data) from fun w' h => by
        have := (H1.out _ h).2 _ (List.getElem_mem hlt)
        rwa [hda] at this)
      have HB := hid (show ∀ w', Has w' L → _ from fun w' h => (H2.out w' h).five k hlt')
      obtain ⟨hp0, hp1, hp2, hp3, hrr, hn0, hn1, hn2, hn3⟩ := HPR.out k hlt hlt'
      have hdb0 := fun w' h => (H2.out w' h).2 _ (List.getElem_mem hlt')
      clear hda
      generalize os[k] = x at *
      generalize os'[k] = x' at *
      obtain ⟨path, num, kind, links, data, dv⟩ := x
      obtain ⟨path', num', kind', links', data', dv'⟩ := x'
      dsimp only at hp0 hp1 hp2 hp3 hrr hn0 hn1 hn2 hn3 a0 a1 a2 a3 a4 HDA HB hdb0
      replace hp0 := hp0.symm
      replace hp1 := hp1.symm
      replace hp2 := hp2.symm
      replace hp3 := hp3.symm
      subst hp0 hp1 hp2 hp3
      have HDB0 := hid hdb0
      have HRR := hid hrr
      have HNM := hid (And.intro (wf_small num hn0 hn1) (wf_small num' hn2 hn3))
      clear hrr hdb0
      go_upto_region 7 with fail
      have HP6 := hid (HOw.out.alloc (.cells #[sV path, .int .i64 num, .int .i64 kind, .int .i64 links, .slice da data.length ma] 55))
      have HQ6 := hid (HKw.out.alloc (.cells #[sV path, .int .i64 num, .int .i64 kind, .int .i64 links, .slice da data.length ma] 55))
      clear HOw HKw a0 a1 a2 a3 a4
      generalize w0.alloc (.cells #[sV path, .int .i64 num, .int .i64 kind, .int .i64 links, .slice da data.length ma] 55) = y6 at *
      generalize w0.heap.size = g8 at *
      obtain ⟨gb, ob, cb', db, mb, hvb, hdb, b0, b1, b2, b3, b4⟩ := HB.out _ HP6.out.drop.drop.drop
      simp only [Value.slice.injEq] at hvb
      obtain ⟨rfl, -, rfl⟩ := hvb
      subst hdb
      have HDB := hid (show ∀ w', Has w' L → Rd w' (.slice db data.length mb) 1 data.length (bc data) from HDB0.out)
      clear HB HDB0
      go_upto_region 8 with fail
      have HP7 := hid (HP6.out.alloc (.cells #[sV path, .int .i64 num', .int .i64 kind, .int .i64 links, .slice db data.length mb] 55))
      have HQ7 := hid (HQ6.out.alloc (.cells #[sV path, .int .i64 num', .int .i64 kind, .int .i64 links, .slice db data.length mb] 55))
      clear HP6 HQ6 b0 b1 b2 b3 b4
      generalize y6.alloc (.cells #[sV path, .int .i64 num', .int .i64 kind, .int .i64 links, .slice db data.length mb] 55) = y7 at *
      generalize y6.heap.size = g9 at *
      have b0 : y7.cell? ⟨g9, 0, none⟩ = some (sV path) := HP7.out.cells 0
      have b1 : y7.cell? ⟨g9, 1, none⟩ = some (.int .i64 num') := HP7.out.cells 1
      have b2 : y7.cell? ⟨g9, 2, none⟩ = some (.int .i64 kind) := HP7.out.cells 2
      have b3 : y7.cell? ⟨g9, 3, none⟩ = some (.int .i64 links) := HP7.out.cells 3
      have b4 : y7.cell? ⟨g9, 4, none⟩ = some (.slice db data.length mb) := HP7.out.cells 4
      have a0 : y7.cell? ⟨g8, 0, none⟩ = some (sV path) := HP7.out.p1.cells 0
      have a1 : y7.cell? ⟨g8, 1, none⟩ = some (.int .i64 num) := HP7.out.p1.cells 1
      have a2 : y7.cell? ⟨g8, 2, none⟩ = some (.int .i64 kind) := HP7.out.p1.cells 2
      have a3 : y7.cell? ⟨g8, 3, none⟩ = some (.int .i64 links) := HP7.out.p1.cells 3
      have a4 : y7.cell? ⟨g8, 4, none⟩ = some (.slice da data.length ma) := HP7.out.p1.cells 4
      have hx0 : (path != path) = false := by simp
      have hx2 : (kind != kind) = false := by simp
      have hx3 : (links != links) = false := by simp
      have hx4 : (num != num) = false := by simp
      have hx5 : (num' != num') = false := by simp
      go_wp2_with fail
      refine (eqBytes _ _ data y7 (HDA.out _ HP7.out.drop.drop.drop.drop) (HDB.out _ HP7.out.drop.drop.drop.drop)).mono ?_
      rintro e w' ⟨rfl, rfl⟩
      try dsimp only
      clear a0 b0 a2 b2 a3 b3 a4 b4
      have hlk1 := Mk.look (HP7.out.re 4 [3]) undIi HNM.out.1
      have hlk2 := Mk.look (HP7.out.re 3 [2]) undIi HNM.out.2
      rcases Two.at_ HR.out HT.out.2.2 HRR.out with ⟨n1, n2⟩ | ⟨f1, f2, n1, n2⟩
      · have hlk1 : (Instr.lookup tIi (.map (some m1)) (.int .i64 num) true).run Tryz.prog y7 = .ok (.tuple #[.int .i64 0, .bool false]) y7 := by
          rw [fnd_none.2 n1, decide_eq_false n1] at hlk1
          exact hlk1
        have hlk2 : (Instr.lookup tIi (.map (some m2)) (.int .i64 num') true).run Tryz.prog y7 = .ok (.tuple #[.int .i64 0, .bool false]) y7 := by
          rw [fnd_none.2 n2, decide_eq_false n2] at hlk2
          exact hlk2
        clear n1 n2
        go_upto_region 14 with fail
        have HOd := hid HP7.out.drew
        have HKd := hid HQ7.out.drew
        have HTP := hid (Two.put HR.out HT.out.2.2 HRR.out)
        have HTL := hid (show (putA T1 num num').length ≤ k + 1 ∧ (putA T2 num' num).length ≤ k + 1 from ⟨by have := putA_len1 T1 num num'; have := HT.out.1; omega, by have := putA_len1 T2 num' num; have := HT.out.2.1; omega⟩)
        have ht1 : T1.length < 1000000 := by have := HT.out.1; omega
        have ht2 : T2.length < 1000000 := by have := HT.out.2.1; omega
        clear HP7 HQ7 hlk1 hlk2 a1 b1
        refine region_text2 (qc := noQ) (fun w' => w'.cell? ⟨g8, 1, none⟩ = some (.int .i64 num) ∧ w'.cell? ⟨g9, 1, none⟩ = some (.int .i64 num')) 10 11 [_, _, _, _, _, _, _, _, _, _] [] _ _ _ (by kernel_rfl) (by kernel_rfl) (by rfl) rfl rfl rfl ⟨HOd.out.p1.cells 1, HOd.out.cells 1⟩ ?_
        simp only [List.cons_append, List.nil_append]
        repeat (first
          | (refine wpL_read (by rfl) (by rfl) ?_ ?_ ?_; rotate_left; (rintro w ⟨z0, z1⟩; go_simp; with_reducible rfl); simp only [Act.put, List.setIfInBounds_toArray, List.set_cons_zero, List.set_cons_succ]) | (refine wpL_skip (by rfl) ?_; simp only [Act.put, List.setIfInBounds_toArray, List.set_cons_zero, List.set_cons_succ]))
        refine wpL_nil ⟨?_, ?_⟩
        · refine wpL_act (by rfl) (by rfl) (fun K hK => ?_)
          refine wp_mkPut (HOd.out.re 4 [3, 0, 1, 2]) ht1 tIi undIi _ _ _ rfl rfl num HNM.out.1 rfl num' HNM.out.2 rfl ?_
          intro w8 hO8 hK8
          refine hK.out _ _ ⟨hO8.p2.cells 1, hO8.p1.cells 1⟩ ?_
          clear hK K
          try simp only [Act.put, List.setIfInBounds_toArray, List.set_cons_zero, List.set_cons_succ]
          refine wpL_act (by rfl) (by rfl) (fun K hK => ?_)
          refine wp_mkPut (hO8.re 4 [3, 0, 1, 2]) ht2 tIi undIi _ _ _ rfl rfl num' HNM.out.2 rfl num HNM.out.1 rfl ?_
          intro w9 hO9 hK9
          refine hK.out _ _ ⟨hO9.p3.cells 1, hO9.p2.cells 1⟩ ?_
          clear hK K
          try simp only [Act.put, List.setIfInBounds_toArray, List.set_cons_zero, List.set_cons_succ]
          refine wpL_nil ?_
          have HO9 := hid hO9
          have HK9 := hid ((HKd.out.trans hK8).trans hK9)
          clear hO8 hK8 hO9 hK9 HOd HKd
          go_wp2_with fail
          exact ⟨⟨k + 1, _, _, _, rfl, by omega, by go_num, hid ⟨HTL.out.1, HTL.out.2, HTP.out⟩, hid (HO9.out.re 4 [0, 1]), HK9⟩, by simp [intOf]; omega⟩
        · refine wpL_act (by rfl) (by rfl) (fun K hK => ?_)
          refine wp_mkPut (HOd.out.re 3 [2, 0, 1]) ht2 tIi undIi _ _ _ rfl rfl num' HNM.out.2 rfl num HNM.out.1 rfl ?_
          intro w8 hO8 hK8
          refine hK.out _ _ ⟨hO8.p2.cells 1, hO8.p1.cells 1⟩ ?_
          clear hK K
          try simp only [Act.put, List.setIfInBounds_toArray, List.set_cons_zero, List.set_cons_succ]
          refine wpL_act (by rfl) (by rfl) (fun K hK => ?_)
          refine wp_mkPut (hO8.re 4 [3, 0, 1, 2]) ht1 tIi undIi _ _ _ rfl rfl num HNM.out.1 rfl num' HNM.out.2 rfl ?_
          intro w9 hO9 hK9
          refine hK.out _ _ ⟨hO9.p3.cells 1, hO9.p2.cells 1⟩ ?_
          clear hK K
          try simp only [Act.put, List.setIfInBounds_toArray, List.set_cons_zero, List.set_cons_succ]
          refine wpL_nil ?_
          have HO9 := hid hO9
          have HK9 := hid ((HKd.out.trans hK8).trans hK9)
          clear hO8 hK8 hO9 hK9 HOd HKd
          go_wp2_with fail
          exact ⟨⟨k + 1, _, _, _, rfl, by omega, by go_num, hid ⟨HTL.out.1, HTL.out.2, HTP.out⟩, hid (HO9.out.re 4 [1, 0]), HK9⟩, by simp [intOf]; omega⟩
      · have hlk1 : (Instr.lookup tIi (.map (some m1)) (.int .i64 num) true).run Tryz.prog y7 = .ok (.tuple #[.int .i64 num', .bool true]) y7 := by
          rw [f1, decide_eq_true n1] at hlk1
          exact hlk1
        have hlk2 : (Instr.lookup tIi (.map (some m2)) (.int .i64 num') true).run Tryz.prog y7 = .ok (.tuple #[.int .i64 num, .bool true]) y7 := by
          rw [f2, decide_eq_true n2] at hlk2
          exact hlk2
        clear n1 n2 f1 f2
        go_upto_region 14 with fail
        have HOd := hid HP7.out.drew
        have HKd := hid HQ7.out.drew
        have HTP := hid (Two.put HR.out HT.out.2.2 HRR.out)
        have HTL := hid (show (putA T1 num num').length ≤ k + 1 ∧ (putA T2 num' num).length ≤ k + 1 from ⟨by have := putA_len1 T1 num num'; have := HT.out.1; omega, by have := putA_len1 T2 num' num; have := HT.out.2.1; omega⟩)
        have ht1 : T1.length < 1000000 := by have := HT.out.1; omega
        have ht2 : T2.length < 1000000 := by have := HT.out.2.1; omega
        clear HP7 HQ7 hlk1 hlk2 a1 b1
        refine region_text2 (qc := noQ) (fun w' => w'.cell? ⟨g8, 1, none⟩ = some (.int .i64 num) ∧ w'.cell? ⟨g9, 1, none⟩ = some (.int .i64 num')) 10 11 [_, _, _, _, _, _, _, _, _, _] [] _ _ _ (by kernel_rfl) (by kernel_rfl) (by rfl) rfl rfl rfl ⟨HOd.out.p1.cells 1, HOd.out.cells 1⟩ ?_
        simp only [List.cons_append, List.nil_append]
        repeat (first
          | (refine wpL_read (by rfl) (by rfl) ?_ ?_ ?_; rotate_left; (rintro w ⟨z0, z1⟩; go_simp; with_reducible rfl); simp only [Act.put, List.setIfInBounds_toArray, List.set_cons_zero, List.set_cons_succ]) | (refine wpL_skip (by rfl) ?_; simp only [Act.put, List.setIfInBounds_toArray, List.set_cons_zero, List.set_cons_succ]))
        refine wpL_nil ⟨?_, ?_⟩
        · refine wpL_act (by rfl) (by rfl) (fun K hK => ?_)
          refine wp_mkPut (HOd.out.re 4 [3, 0, 1, 2]) ht1 tIi undIi _ _ _ rfl rfl num HNM.out.1 rfl num' HNM.out.2 rfl ?_
          intro w8 hO8 hK8
          refine hK.out _ _ ⟨hO8.p2.cells 1, hO8.p1.cells 1⟩ ?_
          clear hK K
          try simp only [Act.put, List.setIfInBounds_toArray, List.set_cons_zero, List.set_cons_succ]
          refine wpL_act (by rfl) (by rfl) (fun K hK => ?_)
          refine wp_mkPut (hO8.re 4 [3, 0, 1, 2]) ht2 tIi undIi _ _ _ rfl rfl num' HNM.out.2 rfl num HNM.out.1 rfl ?_
          intro w9 hO9 hK9
          refine hK.out _ _ ⟨hO9.p3.cells 1, hO9.p2.cells 1⟩ ?_
          clear hK K
          try simp only [Act.put, List.setIfInBounds_toArray, List.set_cons_zero, List.set_cons_succ]
          refine wpL_nil ?_
          have HO9 := hid hO9
          have HK9 := hid ((HKd.out.trans hK8).trans hK9)
          clear hO8 hK8 hO9 hK9 HOd HKd
          go_wp2_with fail
          exact ⟨⟨k + 1, _, _, _, rfl, by omega, by go_num, hid ⟨HTL.out.1, HTL.out.2, HTP.out⟩, hid (HO9.out.re 4 [0, 1]), HK9⟩, by simp [intOf]; omega⟩
        · refine wpL_act (by rfl) (by rfl) (fun K hK => ?_)
          refine wp_mkPut (HOd.out.re 3 [2, 0, 1]) ht2 tIi undIi _ _ _ rfl rfl num' HNM.out.2 rfl num HNM.out.1 rfl ?_
          intro w8 hO8 hK8
          refine hK.out _ _ ⟨hO8.p2.cells 1, hO8.p1.cells 1⟩ ?_
          clear hK K
          try simp only [Act.put, List.setIfInBounds_toArray, List.set_cons_zero, List.set_cons_succ]
          refine wpL_act (by rfl) (by rfl) (fun K hK => ?_)
          refine wp_mkPut (hO8.re 4 [3, 0, 1, 2]) ht1 tIi undIi _ _ _ rfl rfl num HNM.out.1 rfl num' HNM.out.2 rfl ?_
          intro w9 hO9 hK9
          refine hK.out _ _ ⟨hO9.p3.cells 1, hO9.p2.cells 1⟩ ?_
          clear hK K
          try simp only [Act.put, List.setIfInBounds_toArray, List.set_cons_zero, List.set_cons_succ]
          refine wpL_nil ?_
          have HO9 := hid hO9
          have HK9 := hid ((HKd.out.trans hK8).trans hK9)
          clear hO8 hK8 hO9 hK9 HOd HKd
          go_wp2_with fail
          exact ⟨⟨k + 1, _, _, _, rfl, by omega, by go_num, hid ⟨HTL.out.1, HTL.out.2, HTP.out⟩, hid (HO9.out.re 4 [1, 0]), HK9⟩, by simp [intOf]; omega⟩
    · obtain rfl : k = os.length := by omega
      have hki : ¬ (os.length : Int) < (os.length : Int) := by omega
      go_wp2_with fail
      go_ret
      exact ⟨rfl, HOw.out.drop.drop, HKw.out⟩
end Go.Proofs.YtonhcefgakmpfaaGreatDoor
