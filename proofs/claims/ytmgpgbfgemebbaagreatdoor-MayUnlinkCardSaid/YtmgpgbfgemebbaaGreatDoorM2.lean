/- TEXTS of mine, merged. -/
import Derived.Test.YtmgpgbfgemebbaaGreatDoorM1
import Derived.ChangeKeys
import Derived.DeepKeys4
import Derived.ArgAppend
import Derived.Laws.CopyOwn
import Derived.Laws.IdiomCopy
set_option linter.all false
namespace Go.Own
open Go.RowKit Go.Maps Go.ChangeMaps Go.MapKept
structure Ky (P : Program) (k : TypeId) (κ : Type) where
 lk : κ → Lit
 val : κ → Value
 ok : κ → Prop
 inj : ∀ {x y}, lk x = lk y → x = y
 isK : ∀ x, WideAt.IsKeyLit (lk x)
 law : Keyed P k
 spell : ∀ {x}, ok x → keyOf P k (val x) = some (lk x)
 inv : ∀ {v l}, keyOf P k v = some l → ∃ x, v = val x ∧ l = lk x ∧ ok x
structure El (P : Program) (e : TypeId) (α : Type) where
 R : Rdr
 enc : α → DataW Unit
 val : α → Value
 ok : α → Prop
 z : α
 spell : ∀ {a}, ok a → R (val a) = some (enc a, [])
 inv : ∀ {v y}, R v = some y → ∃ a, v = val a ∧ y.1 = enc a ∧ ok a
 inj : ∀ {a b}, enc a = enc b → a = b
 zero : ∀ w, (zeroValue e).run P w = .ok (val z) w
 okz : ok z
section
variable {P : Program} {k e : TypeId} {κ α : Type} [DecidableEq κ]
structure AlK (K : Ky P k κ) (V : El P e α) (D : DataW Unit) (t : List (κ × α)) : Prop where
 tidy : Tidy D
 nodup : (t.map Prod.fst).Nodup
 size : Maps.size D = t.length
 ok : ∀ p ∈ t, K.ok p.1
 yes : ∀ p ∈ t, ∀ z, D.atKey (K.lk p.1) z = V.enc p.2
 no : ∀ x, x ∉ t.map Prod.fst → ∀ z, D.atKey (K.lk x) z = z
def fnd (t : List (κ × α)) (x : κ) : Option α := (t.find? fun p => decide (p.1 = x)).map Prod.snd
theorem fnd_none {t : List (κ × α)} {x : κ} : fnd t x = none ↔ x ∉ t.map Prod.fst := by
 unfold fnd
 rw [Option.map_eq_none_iff, List.find?_eq_none]
 simp only [decide_eq_true_eq, List.mem_map, not_exists, not_and]
theorem fnd_some {t : List (κ × α)} {x : κ} {a : α} (h : fnd t x = some a) : (x, a) ∈ t := by
 unfold fnd at h
 obtain ⟨p, hp, rfl⟩ := Option.map_eq_some_iff.1 h
 have h1 := List.find?_some hp
 simp only [decide_eq_true_eq] at h1
 subst h1
 exact List.mem_of_find?_eq_some hp
theorem fnd_mem {t : List (κ × α)} (hn : (t.map Prod.fst).Nodup) {x : κ} {a : α} (h : (x, a) ∈ t) : fnd t x = some a := by
 induction t with
 | nil => simp at h
 | cons p t ih =>
  rw [List.map_cons, List.nodup_cons] at hn
  unfold fnd
  rw [List.find?_cons]
  rcases List.mem_cons.1 h with rfl | h
  ·simp
  ·have hne : ¬ p.1 = x := by rintro rfl; exact hn.1 (List.mem_map.2 ⟨_, h, rfl⟩)
   rw [show decide (p.1 = x) = false by simpa using hne]
   exact ih hn.2 h
theorem fnd_has {t : List (κ × α)} {x : κ} (h : x ∈ t.map Prod.fst) : ∃ a, fnd t x = some a := by
 cases hf : fnd t x with
 | none => exact absurd h (fnd_none.1 hf)
 | some a => exact ⟨a, rfl⟩
def putA (t : List (κ × α)) (x : κ) (a : α) : List (κ × α) := if x ∈ t.map Prod.fst then t.map (fun p => if p.1 = x then (x, a) else p) else t ++ [(x, a)]
def delA (t : List (κ × α)) (x : κ) : List (κ × α) := t.filter fun p => decide (p.1 ≠ x)
theorem putA_new {t : List (κ × α)} {x : κ} (a : α) (h : x ∉ t.map Prod.fst) : putA t x a = t ++ [(x, a)] := if_neg h
variable {K : Ky P k κ} {V : El P e α} {D : DataW Unit} {t : List (κ × α)}
omit [DecidableEq κ] in
theorem Ky.ne (K : Ky P k κ) {x y : κ} (h : x ≠ y) : K.lk x ≠ K.lk y := fun e => h (K.inj e)
omit [DecidableEq κ] in
theorem AlK.nil : AlK K V (.map []) [] where
 tidy := tidy_empty
 nodup := List.nodup_nil
 size := rfl
 ok := by simp
 yes := by simp
 no := fun x _ z => rfl
theorem AlK.has (h : AlK K V D t) (x : κ) : Maps.has D (K.lk x) = decide (x ∈ t.map Prod.fst) := by
 by_cases hx : x ∈ t.map Prod.fst
 ·rw [decide_eq_true hx]
  obtain ⟨p, hp, rfl⟩ := List.mem_map.1 hx
  exact has_true_of_atKey (y := V.enc p.2) fun z => h.yes p hp z
 ·rw [decide_eq_false hx]
  exact has_false_of_atKey fun z => h.no x hx z
theorem AlK.at_ (h : AlK K V D t) (x : κ) (z : α) : D.atKey (K.lk x) (V.enc z) = V.enc ((fnd t x).getD z) := by
 cases hf : fnd t x with
 | none => exact h.no x (fnd_none.1 hf) _
 | some a => exact h.yes _ (fnd_some hf) _
theorem putA_keys (t : List (κ × α)) (x : κ) (a : α) (h : x ∈ t.map Prod.fst) : (t.map fun p => if p.1 = x then (x, a) else p).map Prod.fst = t.map Prod.fst := by
 rw [List.map_map]
 refine List.map_congr_left fun p _ => ?_
 simp only [Function.comp]
 split
 ·rename_i e; exact e.symm
 ·rfl
theorem AlK.put (h : AlK K V D t) (x : κ) (a : α) (hx : K.ok x) : AlK K V (D.put (K.lk x) (V.enc a)) (putA t x a) := by
 by_cases hm : x ∈ t.map Prod.fst
 ·unfold putA
  rw [if_pos hm]
  refine ⟨h.tidy.put (K.isK x) _, by rw [putA_keys t x a hm]; exact h.nodup, ?_, ?_, ?_, ?_⟩
  ·rw [size_put h.tidy, h.has, decide_eq_true hm, if_pos rfl, h.size, List.length_map]
  ·intro p hp
   obtain ⟨q, hq, rfl⟩ := List.mem_map.1 hp
   split
   ·exact hx
   ·exact h.ok q hq
  ·intro p hp z
   obtain ⟨q, hq, rfl⟩ := List.mem_map.1 hp
   split
   ·exact atKey_put_same h.tidy.isMap (K.isK x) _ _
   ·rename_i hne
    rw [atKey_put_other (K.ne hne)]
    exact h.yes q hq z
  ·intro y hy z
   rw [putA_keys t x a hm] at hy
   have hne : y ≠ x := by rintro rfl; exact hy hm
   rw [atKey_put_other (K.ne hne)]
   exact h.no y hy z
 ·rw [putA_new a hm]
  refine ⟨h.tidy.put (K.isK x) _, ?_, ?_, ?_, ?_, ?_⟩
  ·rw [List.map_append, List.nodup_append]
   exact ⟨h.nodup, by simp, by rintro y hy z hz rfl; simp at hz; subst hz; exact hm hy⟩
  ·rw [size_put h.tidy, h.has, decide_eq_false hm, if_neg Bool.false_ne_true, h.size]; simp
  ·intro p hp
   rcases List.mem_append.1 hp with hp | hp
   ·exact h.ok p hp
   ·rw [List.mem_singleton.1 hp]; exact hx
  ·intro p hp z
   rcases List.mem_append.1 hp with hp | hp
   ·rw [atKey_put_other (K.ne fun e => hm (by rw [← e]; exact List.mem_map_of_mem hp))]
    exact h.yes p hp z
   ·rw [List.mem_singleton.1 hp]; exact atKey_put_same h.tidy.isMap (K.isK x) _ _
  ·intro y hy z
   simp only [List.map_append, List.map_cons, List.map_nil, List.mem_append, List.mem_singleton, not_or] at hy
   rw [atKey_put_other (K.ne hy.2)]
   exact h.no y hy.1 z
theorem delA_len (hn : (t.map Prod.fst).Nodup) (x : κ) : (delA t x).length + (if x ∈ t.map Prod.fst then 1 else 0) = t.length := by
 unfold delA
 induction t with
 | nil => rfl
 | cons p t ih =>
  rw [List.map_cons, List.nodup_cons] at hn
  have i := ih hn.2
  rw [List.filter_cons]
  by_cases e : p.1 = x
  ·subst e
   rw [if_neg hn.1] at i
   simp only [ne_eq, not_true, decide_false, Bool.false_eq_true, if_false, List.map_cons, List.mem_cons, true_or, if_true, List.length_cons]
   simp only [ne_eq] at i
   omega
  ·have hm : (x ∈ (p :: t).map Prod.fst) ↔ x ∈ t.map Prod.fst := by simp [Ne.symm e]
   simp only [ne_eq, e, not_false_eq_true, decide_true, if_true, List.length_cons, hm]
   simp only [ne_eq] at i
   omega
theorem AlK.del (h : AlK K V D t) (x : κ) : AlK K V (D.del (K.lk x)) (delA t x) where
 tidy := h.tidy.del _
 nodup := h.nodup.sublist ((List.filter_sublist).map _)
 size := by
  have h1 := size_del h.tidy (k := K.lk x)
  rw [h.has] at h1
  have h2 := delA_len h.nodup x
  rw [h.size] at h1
  by_cases hm : x ∈ t.map Prod.fst
  ·rw [decide_eq_true hm] at h1; rw [if_pos hm] at h2; simp only [if_true] at h1; omega
  ·rw [decide_eq_false hm] at h1; rw [if_neg hm] at h2; simp only [Bool.false_eq_true, if_false] at h1; omega
 ok := fun p hp => h.ok p (List.mem_filter.1 hp).1
 yes := by
  intro p hp z
  obtain ⟨hp, hx⟩ := List.mem_filter.1 hp
  rw [atKey_del_other (K.ne (by simpa using hx))]
  exact h.yes p hp z
 no := by
  intro y hy z
  by_cases e : y = x
  ·subst e; exact atKey_del_same z
  ·rw [atKey_del_other (K.ne e)]
   refine h.no y (fun hm => hy ?_) z
   obtain ⟨p, hp, rfl⟩ := List.mem_map.1 hm
   exact List.mem_map_of_mem (List.mem_filter.2 ⟨hp, by simpa using e⟩)
def Mk (K : Ky P k κ) (V : El P e α) (b : Nat) (t : List (κ × α)) : HP := ex fun D : DataW Unit => sep (fact (AlK K V D t)) (Mp P k V.R b D)
variable {w w' : World} {L : List HP} {b : Nat} {x : κ}
omit [DecidableEq κ] in
theorem Mk.iff : Has w (Mk K V b t :: L) ↔ ∃ D, AlK K V D t ∧ Has w (Mp P k V.R b D :: L) := by
 unfold Mk
 rw [Has.ex_iff]
 simp only [Has.sep_iff, Has.fact_iff]
omit [DecidableEq κ] in
theorem Mk.nodup (h : Has w (Mk K V b t :: L)) : (t.map Prod.fst).Nodup := by
 obtain ⟨D, h1, -⟩ := Mk.iff.1 h
 exact h1.nodup
omit [DecidableEq κ] in
theorem Mk.ok (h : Has w (Mk K V b t :: L)) (hx : x ∈ t.map Prod.fst) : K.ok x := by
 obtain ⟨D, h1, -⟩ := Mk.iff.1 h
 obtain ⟨p, hp, rfl⟩ := List.mem_map.1 hx
 exact h1.ok p hp
theorem Mk.look {T : TypeId} (h : Has w (Mk K V b t :: L)) (ht : P.underlying T = some (.map k e)) (hx : K.ok x) :
  (Instr.lookup T (.map (some b)) (K.val x) true).run P w = .ok (.tuple #[V.val ((fnd t x).getD V.z), .bool (decide (x ∈ t.map Prod.fst))]) w := by
 obtain ⟨D, h1, h2⟩ := Mk.iff.1 h
 obtain ⟨v, ps, hr, hv⟩ := h2.owns.look_ok K.law ht (V.zero w) (V.spell V.okz) (K.spell hx)
 rw [h1.at_] at hv
 obtain ⟨a, rfl, ha, -⟩ := V.inv hv
 rw [hr, h1.has, V.inj ha]
theorem Mk.look0 {T : TypeId} (h : Has w (Mk K V b t :: L)) (ht : P.underlying T = some (.map k e)) (hx : K.ok x) :
  (Instr.lookup T (.map (some b)) (K.val x) false).run P w = .ok (V.val ((fnd t x).getD V.z)) w := by
 obtain ⟨D, h1, h2⟩ := Mk.iff.1 h
 obtain ⟨v, ps, hr, hv⟩ := h2.owns.lookup K.law ht (V.zero w) (V.spell V.okz) (K.spell hx)
 rw [h1.at_] at hv
 obtain ⟨a, rfl, ha, -⟩ := V.inv hv
 rw [hr, V.inj ha]
omit [DecidableEq κ] in
theorem Mk.len {T : TypeId} (h : Has w (Mk K V b t :: L)) (ht : P.underlying T = some (.map k e)) (ty : TypeId) : (Builtin.len_ #[T] ty #[.map (some b)]).run P w = .ok (.int .i64 t.length) w := by
 obtain ⟨D, h1, h2⟩ := Mk.iff.1 h
 rw [h2.owns.len ht, h1.size]
omit [DecidableEq κ] in
theorem Mk.made (h : Has w L) (K : Ky P k κ) (V : El P e α) : Has (w.alloc (.map #[] 0)) (Mk K V w.heap.size [] :: L) := Mk.iff.2 ⟨_, AlK.nil, h.mapMade P k V.R⟩
theorem Mk.keep {a c : World} {i : Nat} (h : a.mapTurned c i) : Keep a c := (Keep.refl a).grown h.grown
section
variable {ops : Array Oper} {rest : List Oper} {o : Oper} {a : Act} {Q : Exit → Act → World → Prop}
theorem wpList_mkPut (h : Has w (Mk K V b t :: L)) (hl : t.length < 1000000) (T : TypeId) (ht : P.underlying T = some (.map k e)) (hg : o.guard = none) (m kx v : Operand) (hop : o.op = Op.mapUpdate T m kx v) (hm : a.eval m = .map (some b)) (x : κ) (hx : K.ok x) (hk : a.eval kx = K.val x) (y : α) (hy : V.ok y) (hv : a.eval v = V.val y)
  (hK : ∀ w', Has w' (Mk K V b (putA t x y) :: L) → Keep w w' → wpList P ops Q rest (a.put o.dst undef) w') : wpList P ops Q (o :: rest) a w := by
 obtain ⟨D, h1, h2⟩ := Mk.iff.1 h
 refine wpList_mapUpdate_in w hg m kx v T hop k e K.law ht V.R b _ D hm h2.owns (by rw [h1.size]; show t.length < maxLen; unfold maxLen; omega) _ _ _ hk hv (K.spell hx) (V.enc y) [] (V.spell hy) ?_
 intro w' ho htn
 have h3 := h2.mapTurn (grown_but htn.grown fun r e => by cases e; rfl) ho
 exact hK w' (Mk.iff.2 ⟨_, h1.put x y hx, h3⟩) (Mk.keep htn)
theorem wpList_mkDel (h : Has w (Mk K V b t :: L)) (T : TypeId) (ht : P.underlying T = some (.map k e)) (hg : o.guard = none) (m kx : Operand) (hop : o.op = Op.call { callee := Callee.builtin Builtin.delete, args := #[m, kx], argTypes := #[T, k] }) (hm : a.eval m = .map (some b)) (x : κ) (hx : K.ok x) (hk : a.eval kx = K.val x)
  (hK : ∀ w', Has w' (Mk K V b (delA t x) :: L) → Keep w w' → wpList P ops Q rest (a.put o.dst (.tuple #[])) w') : wpList P ops Q (o :: rest) a w := by
 obtain ⟨D, h1, h2⟩ := Mk.iff.1 h
 refine wpList_delete_own w hg m kx T k hop e K.law ht V.R b _ D hm h2.owns _ _ hk (K.spell hx) ?_
 intro w' ho htn
 have h3 := h2.mapTurn (grown_but htn.grown fun r e => by cases e; rfl) ho
 exact hK w' (Mk.iff.2 ⟨_, h1.del x, h3⟩) (Mk.keep htn)
end
def Mr (K : Ky P k κ) (V : El P e α) (b r : Nat) (t : List (κ × α)) (rem : List κ) (cnt : Nat) : HP :=
 ex fun D : DataW Unit => ex fun left : Lit → Bool => sep (fact (AlK K V D t ∧ ∀ x, left (K.lk x) = true ↔ x ∈ rem)) (Rg P k V.R b r D left cnt)
variable {r cnt : Nat} {rem : List κ}
omit [DecidableEq κ] in
theorem Mr.iff : Has w (Mr K V b r t rem cnt :: L) ↔ ∃ D left, (AlK K V D t ∧ ∀ x, left (K.lk x) = true ↔ x ∈ rem) ∧ Has w (Rg P k V.R b r D left cnt :: L) := by
 unfold Mr
 simp only [Has.ex_iff, Has.sep_iff, Has.fact_iff]
omit [DecidableEq κ] in
theorem Mr.left (h : Has w (Mr K V b r t rem cnt :: L)) : w.rangeLeft b r = cnt := by
 obtain ⟨D, left, -, h⟩ := Mr.iff.1 h
 exact h.rgRanges.left_eq
omit [DecidableEq κ] in
theorem Mr.end (h : Has w (Mr K V b r t rem cnt :: L)) : Has w (Mk K V b t :: L) := by
 obtain ⟨D, left, h1, h⟩ := Mr.iff.1 h
 exact Mk.iff.2 ⟨D, h1.1, h.rgEnd⟩
section
variable {ops : Array Oper} {rest : List Oper} {o : Oper} {a : Act} {Q : Exit → Act → World → Prop}
theorem wpList_mkStart (h : Has w (Mk K V b t :: L)) (T : TypeId) (ht : P.underlying T = some (.map k e)) (hg : o.guard = none) (m : Operand) (hop : o.op = Op.range T m) (hm : a.eval m = .map (some b))
  (hK : ∀ w', Has w' (Mr K V b w.heap.size t (t.map Prod.fst) t.length :: L) → Keep w w' → w'.heap.size = w.heap.size + 1 → wpList P ops Q rest (a.put o.dst (.pointer (some ⟨w.heap.size, 0, none⟩))) w') : wpList P ops Q (o :: rest) a w := by
 obtain ⟨D, h1, h2⟩ := Mk.iff.1 h
 refine wpList_range_own w hg m T hop k e K.law ht V.R b _ D hm h2.owns ?_
 intro w' hr hgr hs
 have h3 := h2.rgStart hr hgr
 rw [h1.size] at h3
 exact hK w' (Mr.iff.2 ⟨D, _, ⟨h1, fun x => by rw [h1.has, decide_eq_true_iff]⟩, h3⟩) ((Keep.refl w).grown hgr) hs
theorem wpList_mkNext (h : Has w (Mr K V b r t rem cnt :: L)) (hg : o.guard = none) (it : Operand) (hop : o.op = Op.next it false) (hit : a.eval it = .pointer (some ⟨r, 0, none⟩))
  (hDone : rem = [] → wpList P ops Q rest (a.put o.dst (.tuple #[.bool false])) w)
  (hMore : ∀ (p : κ × α) (w' : World) (cnt' : Nat), p ∈ t → p.1 ∈ rem → K.ok p.1 → Has w' (Mr K V b r t (rem.filter fun y => decide (y ≠ p.1)) cnt' :: L) → cnt' < cnt → Keep w w' → w'.heap.size = w.heap.size →
   (Instr.entry (.pointer (some ⟨r, 0, none⟩))).run P w' = .ok (.tuple #[K.val p.1, V.val p.2]) w' → wpList P ops Q rest (a.put o.dst (.tuple #[.bool true, K.val p.1, V.val p.2])) w') : wpList P ops Q (o :: rest) a w := by
 obtain ⟨D, left, ⟨h1, hl⟩, h2⟩ := Mr.iff.1 h
 refine wpList_next_ranges w hg it hop k K.law V.R K.val V.val (fun key kl hk => by obtain ⟨x, rfl, -⟩ := K.inv hk; exact ⟨x, rfl⟩) (fun v y hv => by obtain ⟨c, rfl, -⟩ := V.inv hv; exact ⟨c, rfl⟩) b r _ D left cnt hit h2.rgRanges (fun hc hno => hDone ?_) ?_
 ·rw [List.eq_nil_iff_forall_not_mem]
  intro x hx
  have := (hl x).2 hx
  rw [hno] at this
  cases this
 ·intro x c kl y w' cnt' hk hlk hv hat hrg hlt hgr hsz hen
  obtain ⟨x', ex, rfl, hw⟩ := K.inv hk
  rw [ex] at hen hk
  have hx : x' ∈ t.map Prod.fst := by
   refine Classical.byContradiction fun hx => ?_
   have e1 := (hat .nil).symm.trans (h1.no x' hx .nil)
   have e2 := (hat (.map [])).symm.trans (h1.no x' hx (.map []))
   rw [e1] at e2
   cases e2
  obtain ⟨p, hp, rfl⟩ := List.mem_map.1 hx
  obtain ⟨c', ec, hy, -⟩ := V.inv hv
  have hpc : p.2 = c' := V.inj ((h1.yes p hp .nil).symm.trans ((hat .nil).trans hy))
  rw [ec, ← hpc] at hen
  rw [ex, ec, ← hpc]
  refine hMore p w' cnt' hp ((hl _).1 hlk) hw (Mr.iff.2 ⟨D, _, ⟨h1, fun z => ?_⟩, h2.rgTurn hrg hgr⟩) hlt ((Keep.refl w).grown hgr) hsz hen
  have e : (K.lk z).sameKey (K.lk p.1) = decide (z = p.1) := by
   by_cases hz : z = p.1
   ·subst hz; rw [decide_eq_true rfl]; exact WideAt.sameKey_self (K.isK _)
   ·rw [decide_eq_false hz]
    cases hs : (K.lk z).sameKey (K.lk p.1) with
    | false => rfl
    | true => exact absurd (K.inj (WideAt.sameKey_eq hs)) hz
  rw [e, Bool.and_eq_true, hl, List.mem_filter]
  simp
end
end
end Go.Own
namespace Go.Proofs.YtmgpgbfgemebbaaGreatDoor
open Go.RowKit Go.Own Go.Maps Go.ChangeMaps
abbrev Str := List UInt8
abbrev sB (l : Str) : ByteArray := ⟨l.toArray⟩
abbrev sV (l : Str) : Value := .string (sB l)
abbrev tStr : TypeId := 9
abbrev tInt : TypeId := 3
abbrev tPn : TypeId := 78
abbrev tNm : TypeId := 79
abbrev tNo : TypeId := 83
theorem undS : Tryz.prog.underlying tStr = some .string := by kernel_rfl
theorem undI : Tryz.prog.underlying tInt = some (.int .i64) := by kernel_rfl
theorem undNm : Tryz.prog.underlying tNm = some (.map tStr tInt) := by kernel_rfl
theorem undNo : Tryz.prog.underlying tNo = some (.map tInt tPn) := by kernel_rfl
def kInt : Ky Tryz.prog tInt Int where
 lk x := .int .i64 x
 val x := .int .i64 x
 ok x := (Lit.int .i64 x).wf = true
 inj h := by simpa using h
 isK x := by simp [WideAt.IsKeyLit]
 law := int_keyed undI
 spell h := keyOf_int_mk undI h
 inv h := by obtain ⟨x, rfl, e, hw⟩ := Maps.keyOf_int_inv undI h; exact ⟨x, rfl, e, hw⟩
def kStr : Ky Tryz.prog tStr Str where
 lk l := .string l
 val l := sV l
 ok l := l.length ≤ maxLen
 inj h := by simpa using h
 isK x := by simp [WideAt.IsKeyLit]
 law := string_keyed undS
 spell h := by
  unfold keyOf
  simp [undS, mapKey, Lit.wf]
  exact h
 inv h := by
  obtain ⟨s, rfl, rfl, hs⟩ := WideMaps.string_of_keyOf undS h
  refine ⟨s.data.toList, by cases s; simp [sV, sB], rfl, ?_⟩
  have e : s.data.toList.length = s.size := Array.length_toList
  rw [e]
  exact hs
noncomputable def vInt : El Tryz.prog tInt Int where
 R := plainElem Tryz.prog tInt
 enc a := .lit (.int .i64 a)
 val a := .int .i64 a
 ok a := (Lit.int .i64 a).wf = true
 z := 0
 spell h := plainElem_int undI h
 inv h := by obtain ⟨c, rfl, rfl, hc⟩ := plainElem_int_inv undI h; exact ⟨c, rfl, rfl, hc⟩
 inj h := by simpa using h
 zero w := (Tryz.zeroValue3 w).trans rfl
 okz := by decide
abbrev pV : Option Nat → Value
 | some b => .pointer (some ⟨b, 0, none⟩)
 | none => .pointer none
def rPtr : Rdr
 | .pointer (some ⟨b, 0, none⟩) => some (.lit (.int .i64 b), [])
 | .pointer none => some (.lit (.int .i64 (-1)), [])
 | _ => none
def ePtr : Option Nat → DataW Unit
 | some b => .lit (.int .i64 b)
 | none => .lit (.int .i64 (-1))
def vPtr : El Tryz.prog tPn (Option Nat) where
 R := rPtr
 enc := ePtr
 val := pV
 ok _ := True
 z := none
 spell := by intro a _; cases a <;> rfl
 inv := by
  intro v y h
  unfold rPtr at h
  split at h
  ·rename_i b
   simp only [Option.some.injEq] at h
   subst h
   exact ⟨some b, rfl, rfl, trivial⟩
  ·simp only [Option.some.injEq] at h
   subst h
   exact ⟨none, rfl, rfl, trivial⟩
  ·cases h
 inj := by
  intro a b h
  cases a <;> cases b <;> simp only [ePtr, DataW.lit.injEq, Lit.int.injEq, true_and] at h
  ·rfl
  ·omega
  ·omega
  ·rw [show _ = _ from Int.ofNat.inj h]
 zero w := (Tryz.zeroValue78 w).trans rfl
 okz := trivial
end Go.Proofs.YtmgpgbfgemebbaaGreatDoor
namespace Go.Proofs.YtmgpgbfgemebbaaGreatDoor
open Go.RowKit Go.Own Go.Maps Go.ChangeMaps
abbrev tEnt : TypeId := 144
abbrev tMrk : TypeId := 149
abbrev tSI : TypeId := 69
abbrev tSB : TypeId := 259
abbrev tPf : TypeId := 213
abbrev Ent := Int × Str
def codeS : Str → Nat
 | [] => 0
 | a :: r => (a.toNat + 1) + 257 * codeS r
theorem codeS_inj : ∀ {a b : Str}, codeS a = codeS b → a = b
 | [], [], _ => rfl
 | [], b :: r, h => by simp only [codeS] at h; omega
 | a :: r, [], h => by simp only [codeS] at h; omega
 | a :: r, b :: s, h => by
  simp only [codeS] at h
  have ha := a.toNat_lt
  have hb := b.toNat_lt
  have h1 : a.toNat = b.toNat := by omega
  have h2 : codeS r = codeS s := by omega
  rw [UInt8.toNat_inj.1 h1, codeS_inj h2]
def codeI : Int → Nat
 | .ofNat n => 2 * n
 | .negSucc n => 2 * n + 1
theorem codeI_inj : ∀ {a b : Int}, codeI a = codeI b → a = b
 | .ofNat a, .ofNat b, h => by simp only [codeI] at h; rw [show a = b by omega]
 | .negSucc a, .negSucc b, h => by simp only [codeI] at h; rw [show a = b by omega]
 | .ofNat a, .negSucc b, h => by simp only [codeI] at h; omega
 | .negSucc a, .ofNat b, h => by simp only [codeI] at h; omega
def codeP (a b : Nat) : Nat := 2 ^ a * (2 * b + 1)
theorem codeP_inj : ∀ {a b c d : Nat}, codeP a b = codeP c d → a = c ∧ b = d
 | 0, b, 0, d, h => by simp only [codeP, Nat.pow_zero] at h; omega
 | 0, b, c + 1, d, h => by
  simp only [codeP, Nat.pow_zero, Nat.pow_succ] at h
  have : 2 ^ c * 2 * (2 * d + 1) = 2 * (2 ^ c * (2 * d + 1)) := by rw [Nat.mul_comm (2 ^ c) 2, Nat.mul_assoc]
  omega
 | a + 1, b, 0, d, h => by
  simp only [codeP, Nat.pow_zero, Nat.pow_succ] at h
  have : 2 ^ a * 2 * (2 * b + 1) = 2 * (2 ^ a * (2 * b + 1)) := by rw [Nat.mul_comm (2 ^ a) 2, Nat.mul_assoc]
  omega
 | a + 1, b, c + 1, d, h => by
  simp only [codeP, Nat.pow_succ] at h
  have h1 : 2 ^ a * 2 * (2 * b + 1) = 2 * (2 ^ a * (2 * b + 1)) := by rw [Nat.mul_comm (2 ^ a) 2, Nat.mul_assoc]
  have h2 : 2 ^ c * 2 * (2 * d + 1) = 2 * (2 ^ c * (2 * d + 1)) := by rw [Nat.mul_comm (2 ^ c) 2, Nat.mul_assoc]
  have h3 : codeP a b = codeP c d := by simp only [codeP]; omega
  obtain ⟨rfl, rfl⟩ := codeP_inj h3
  exact ⟨rfl, rfl⟩
def okEnt (x : Ent) : Prop := (Lit.int .i64 x.1).wf = true ∧ x.2.length ≤ maxLen
instance (x : Ent) : Decidable (okEnt x) := by unfold okEnt; exact inferInstance
def entV (x : Ent) : Value := .agg #[.int .i64 x.1, sV x.2]
def entL (x : Ent) : Lit := if okEnt x then .string (keyBytes [.int .i64 x.1, .string x.2]) else .int .i64 (codeP (codeI x.1) (codeS x.2))
theorem entL_inj {x y : Ent} (h : entL x = entL y) : x = y := by
 unfold entL at h
 by_cases hx : okEnt x
 ·by_cases hy : okEnt y
  ·rw [if_pos hx, if_pos hy] at h
   simp only [Lit.string.injEq] at h
   have h1 := keyBytes_inj (l := [.int .i64 x.1, .string x.2]) (l' := [.int .i64 y.1, .string y.2]) ⟨rfl, trivial, trivial⟩
    (by intro a ha; simp at ha; rcases ha with rfl | rfl; exact hx.1; exact hx.2)
    (by intro a ha; simp at ha; rcases ha with rfl | rfl; exact hy.1; exact hy.2) h
   simp only [List.cons.injEq, Lit.int.injEq, Lit.string.injEq, true_and, and_true] at h1
   exact Prod.ext h1.1 h1.2
  ·rw [if_pos hx, if_neg hy] at h
   cases h
 ·by_cases hy : okEnt y
  ·rw [if_neg hx, if_pos hy] at h
   cases h
  ·rw [if_neg hx, if_neg hy] at h
   simp only [Lit.int.injEq, true_and, Int.natCast_inj] at h
   obtain ⟨h1, h2⟩ := codeP_inj h
   exact Prod.ext (codeI_inj h1) (codeS_inj h2)
theorem entT : Tryz.prog.underlying tEnt = some (.struct #[⟨"dir", tInt, 0, false, "", "purlin/may", 0⟩, ⟨"name", tStr, 1, false, "", "purlin/may", 8⟩]) := by kernel_rfl
theorem cellsI : Tryz.prog.cellsOf tInt = 1 := by kernel_rfl
theorem cellsS : Tryz.prog.cellsOf tStr = 1 := by kernel_rfl
theorem cellsE : Tryz.prog.cellsOf tEnt = 2 := by kernel_rfl
theorem kl_int (d : Nat) (v : Value) (ls : List Lit) : Tryz.prog.keyLits (d + 1) tInt [v] = some ls ↔ ∃ n : Int, v = .int .i64 n ∧ (Lit.int .i64 n).wf = true ∧ ls = [.int .i64 n] := by
 unfold Program.keyLits
 rw [undI]
 constructor
 ·intro h
  split at h
  all_goals simp_all
  all_goals first | done | (obtain ⟨⟨rfl, h1⟩, rfl⟩ := h; exact ⟨_, ⟨rfl, rfl⟩, h1, rfl⟩)
 ·rintro ⟨n, rfl, h1, rfl⟩
  simp [h1]
theorem kl_str (d : Nat) (v : Value) (ls : List Lit) : Tryz.prog.keyLits (d + 1) tStr [v] = some ls ↔ ∃ s : Str, v = sV s ∧ s.length ≤ maxLen ∧ ls = [.string s] := by
 unfold Program.keyLits
 rw [undS]
 constructor
 ·intro h
  cases v
  case string s =>
   dsimp only at h
   split at h
   ·rename_i h1
    cases h
    exact ⟨s.data.toList, by cases s; simp [sV, sB], by rw [Array.length_toList]; exact h1, rfl⟩
   ·cases h
  all_goals simp at h
 ·rintro ⟨s, rfl, h1, rfl⟩
  have : (sB s).size ≤ maxLen := by simpa [sB, ByteArray.size] using h1
  simp [this]
theorem kl_ent (d : Nat) (cs : List Value) (ls : List Lit) : Tryz.prog.keyLits (d + 2) tEnt cs = some ls ↔ ∃ x : Ent, cs = [.int .i64 x.1, sV x.2] ∧ okEnt x ∧ ls = [.int .i64 x.1, .string x.2] := by
 unfold Program.keyLits
 rw [entT]
 dsimp only
 rw [cellsE]
 have hall : (#[(⟨"dir", tInt, 0, false, "", "purlin/may", 0⟩ : Field), ⟨"name", tStr, 1, false, "", "purlin/may", 8⟩].all (fun x => x.name != "_")) = true := by kernel_rfl
 constructor
 ·intro h
  split at h
  ·rename_i h1
   obtain ⟨a, b, rfl⟩ : ∃ a b, cs = [a, b] := by
    rcases cs with _ | ⟨a, _ | ⟨b, _ | ⟨c, r⟩⟩⟩
    ·simp at h1
    ·simp at h1
    ·exact ⟨_, _, rfl⟩
    ·simp at h1
   simp only [List.mapM_cons, List.mapM_nil, cellsI, cellsS, List.drop_zero, List.drop_succ_cons, List.take_succ_cons, List.take_zero] at h
   cases ha : Tryz.prog.keyLits (d + 1) tInt [a] with
   | none => rw [ha] at h; simp at h
   | some la =>
    cases hb : Tryz.prog.keyLits (d + 1) tStr [b] with
    | none => rw [ha, hb] at h; simp at h
    | some lb =>
     obtain ⟨n, rfl, hn, rfl⟩ := (kl_int _ _ _).1 ha
     obtain ⟨s, rfl, hs, rfl⟩ := (kl_str _ _ _).1 hb
     rw [ha, hb] at h
     simp at h
     exact ⟨(n, s), rfl, ⟨hn, hs⟩, h.symm⟩
  ·cases h
 ·rintro ⟨x, rfl, ⟨h1, h2⟩, rfl⟩
  rw [if_pos ⟨rfl, hall⟩]
  simp only [List.mapM_cons, List.mapM_nil, cellsI, cellsS, List.drop_zero, List.drop_succ_cons, List.take_succ_cons, List.take_zero]
  rw [(kl_int d _ _).2 ⟨x.1, rfl, h1, rfl⟩, (kl_str d _ _).2 ⟨x.2, rfl, h2, rfl⟩]
  rfl
theorem keyTE : Tryz.prog.keyType tEnt = true := by kernel_rfl
theorem typesE : ∃ d, Tryz.prog.types.size + 1 = d + 2 := ⟨Tryz.prog.types.size - 1, by have : (0 : Nat) < Tryz.prog.types.size := of_decide_eq_true (by kernel_rfl); omega⟩
theorem keyEnt {v : Value} {l : Lit} : keyOf Tryz.prog tEnt v = some l ↔ ∃ x : Ent, v = entV x ∧ okEnt x ∧ l = entL x := by
 obtain ⟨d, hd⟩ := typesE
 unfold keyOf
 rw [entT]
 dsimp only
 rw [keyTE, hd, Bool.true_and]
 constructor
 ·intro h
  split at h
  ·rename_i h1
   rw [Option.map_eq_some_iff] at h
   obtain ⟨ls, h2, rfl⟩ := h
   obtain ⟨x, h3, h4, rfl⟩ := (kl_ent d _ _).1 h2
   refine ⟨x, ?_, h4, by unfold entL; rw [if_pos h4]⟩
   unfold Value.formed at h1
   rw [entT] at h1
   cases v
   case agg cs =>
    have h5 : cs.toList = [.int .i64 x.1, sV x.2] := h3
    unfold entV
    rw [← h5]
   all_goals simp at h1
  ·cases h
 ·rintro ⟨x, rfl, h1, rfl⟩
  have hf : (entV x).formed Tryz.prog tEnt = true := by
   unfold Value.formed entV
   rw [entT]
   dsimp only
   rw [cellsE]
   rfl
  rw [if_pos hf]
  show Option.map _ (Tryz.prog.keyLits (d + 2) tEnt [.int .i64 x.1, sV x.2]) = _
  rw [(kl_ent d _ _).2 ⟨x, rfl, h1, rfl⟩]
  unfold entL
  rw [if_pos h1]
  rfl
theorem keyLawE : WideMaps.KeyLaw Tryz.prog tEnt := deep_law_laid (m := 3) (by kernel_rfl) (by decide) (of_decide_eq_true (by kernel_rfl)) (by kernel_rfl) (by rw [entT])
def kEnt : Ky Tryz.prog tEnt Ent where
 lk := entL
 val := entV
 ok := okEnt
 inj := entL_inj
 isK x := by
  unfold entL
  split <;> trivial
 law := Keyed.of_law keyLawE
 spell h := keyEnt.2 ⟨_, rfl, h, rfl⟩
 inv h := by obtain ⟨x, h1, h2, h3⟩ := keyEnt.1 h; exact ⟨x, h1, h3, h2⟩
structure Slv where
 p : Option (Nat × Nat)
 n : Nat
 c : Nat
def slvV : Slv → Value
 | ⟨some (b, o), n, c⟩ => .slice (some ⟨b, o, none⟩) n c
 | ⟨none, n, c⟩ => .slice none n c
def rSl : Rdr
 | .slice (some ⟨b, o, none⟩) n c => some (.agg [.lit (.int .i64 b), .lit (.int .i64 o), .lit (.int .i64 n), .lit (.int .i64 c)], [])
 | .slice none n c => some (.agg [.lit (.int .i64 n), .lit (.int .i64 c)], [])
 | _ => none
def eSl : Slv → DataW Unit
 | ⟨some (b, o), n, c⟩ => .agg [.lit (.int .i64 b), .lit (.int .i64 o), .lit (.int .i64 n), .lit (.int .i64 c)]
 | ⟨none, n, c⟩ => .agg [.lit (.int .i64 n), .lit (.int .i64 c)]
theorem rSl_spell (a : Slv) : rSl (slvV a) = some (eSl a, []) := by
 obtain ⟨_ | ⟨b, o⟩, n, c⟩ := a <;> rfl
theorem rSl_inv {v : Value} {y} (h : rSl v = some y) : ∃ a, v = slvV a ∧ y.1 = eSl a := by
 unfold rSl at h
 split at h
 ·cases h; exact ⟨⟨some (_, _), _, _⟩, rfl, rfl⟩
 ·cases h; exact ⟨⟨none, _, _⟩, rfl, rfl⟩
 ·cases h
theorem eSl_inj {a b : Slv} (h : eSl a = eSl b) : a = b := by
 obtain ⟨_ | ⟨b1, o1⟩, n1, c1⟩ := a <;> obtain ⟨_ | ⟨b2, o2⟩, n2, c2⟩ := b <;> simp [eSl] at h
 ·obtain ⟨h1, h2⟩ := h
  rw [show n1 = n2 by omega, show c1 = c2 by omega]
 ·obtain ⟨h1, h2, h3, h4⟩ := h
  rw [show b1 = b2 by omega, show o1 = o2 by omega, show n1 = n2 by omega, show c1 = c2 by omega]
def vSl (t : TypeId) (hz : ∀ w, (zeroValue t).run Tryz.prog w = .ok (.slice none 0 0) w) : El Tryz.prog t Slv where
 R := rSl
 enc := eSl
 val := slvV
 ok _ := True
 z := ⟨none, 0, 0⟩
 spell _ := rSl_spell _
 inv h := by obtain ⟨a, h1, h2⟩ := rSl_inv h; exact ⟨a, h1, h2, trivial⟩
 inj := eSl_inj
 zero := hz
 okz := trivial
def vSI : El Tryz.prog tSI Slv := vSl tSI fun w => (Tryz.zeroValue69 w).trans rfl
def vSB : El Tryz.prog tSB Slv := vSl tSB fun w => (Tryz.zeroValue259 w).trans rfl
abbrev Mrk := Bool × Bool × Bool
def mrkV (m : Mrk) : Value := .agg #[.bool m.1, .bool m.2.1, .bool m.2.2]
def lMrk : List Value → Option (DataW Unit × List MemPlace)
 | [.bool a, .bool b, .bool c] => some (.agg [.lit (.bool a), .lit (.bool b), .lit (.bool c)], [])
 | _ => none
def rMrk : Rdr
 | .agg cs => lMrk cs.toList
 | _ => none
def vMrk : El Tryz.prog tMrk Mrk where
 R := rMrk
 enc m := .agg [.lit (.bool m.1), .lit (.bool m.2.1), .lit (.bool m.2.2)]
 val := mrkV
 ok _ := True
 z := (false, false, false)
 spell _ := rfl
 inv := by
  intro v y h
  unfold rMrk at h
  split at h
  ·rename_i cs
   unfold lMrk at h
   split at h
   ·rename_i a b c e
    cases h
    refine ⟨(a, b, c), ?_, rfl, trivial⟩
    unfold mrkV
    rw [← e]
   ·cases h
  ·cases h
 inj h := by simpa [Prod.ext_iff] using h
 zero w := (Tryz.zeroValue149 w).trans rfl
 okz := trivial
def lEnt : List Value → Option (DataW Unit × List MemPlace)
 | [.int .i64 d, .string s] => some (.agg [.lit (.int .i64 d), .lit (.string s.data.toList)], [])
 | _ => none
def rEnt : Rdr
 | .agg cs => lEnt cs.toList
 | _ => none
def vEnt : El Tryz.prog tEnt Ent where
 R := rEnt
 enc x := .agg [.lit (.int .i64 x.1), .lit (.string x.2)]
 val := entV
 ok _ := True
 z := (0, [])
 spell := by
  intro x _
  show some _ = some _
  simp [sB]
 inv := by
  intro v y h
  unfold rEnt at h
  split at h
  ·rename_i cs
   unfold lEnt at h
   split at h
   ·rename_i d s e
    cases h
    refine ⟨(d, s.data.toList), ?_, rfl, trivial⟩
    have e2 : cs = #[.int .i64 d, .string s] := by
     have := congrArg List.toArray e
     simpa using this
    rw [e2]
    unfold entV
    cases s
    simp [sV, sB]
   ·cases h
  ·cases h
 inj h := by simpa [Prod.ext_iff] using h
 zero w := (Tryz.zeroValue144 w).trans rfl
 okz := trivial
def vPf : El Tryz.prog tPf (Option Nat) where
 R := rPtr
 enc := ePtr
 val := pV
 ok _ := True
 z := none
 spell := by intro a _; cases a <;> rfl
 inv := vPtr.inv
 inj := vPtr.inj
 zero w := (Tryz.zeroValue213 w).trans rfl
 okz := trivial
end Go.Proofs.YtmgpgbfgemebbaaGreatDoor
namespace Go.Own
open Go.RowKit
def poolc (u8 : TypeId) (B : List (Value × List Int)) : HP := star (B.map fun x => row x.1 u8 1 x.2.length (bc x.2))
section
variable {w : World} {l : List HP} {u8 : TypeId} {B : List (Value × List Int)}
theorem Has.pool_open {x : Value × List Int} (h : Has w (poolc u8 B :: l)) (hx : x ∈ B) : ∃ m, Has w (row x.1 u8 1 x.2.length (bc x.2) :: m) := by
 obtain ⟨s, t, rfl⟩ := List.append_of_mem hx
 have h1 := Has.star_iff.1 h
 rw [List.map_append, List.map_cons, List.append_assoc, List.cons_append] at h1
 exact ⟨_, h1.perm List.perm_middle⟩
theorem Has.pool_rd {x : Value × List Int} (h : Has w (poolc u8 B :: l)) (hx : x ∈ B) : Rd w x.1 1 x.2.length (bc x.2) := by
 obtain ⟨m, hm⟩ := h.pool_open hx
 exact hm.rd
theorem Has.pool_nil (h : Has w l) : Has w (poolc u8 [] :: l) := Has.star_iff.2 h
theorem Has.pool_add {v : Value} {xs : List Int} (h : Has w (row v u8 1 xs.length (bc xs) :: poolc u8 B :: l)) : Has w (poolc u8 ((v, xs) :: B) :: l) := by
 refine Has.star_iff.2 ?_
 rw [List.map_cons, List.cons_append]
 have := h.p1
 have h2 := Has.star_iff.1 this
 exact h2.perm List.perm_middle
theorem Has.pool_snoc {v : Value} {xs : List Int} (h : Has w (row v u8 1 xs.length (bc xs) :: poolc u8 B :: l)) : Has w (poolc u8 (B ++ [(v, xs)]) :: l) := by
 refine Has.star_iff.2 ?_
 have h2 := Has.star_iff.1 h.p1
 rw [List.map_append, List.append_assoc]
 exact h2
theorem set_perm {α : Type _} : ∀ (F : List α) (k : Nat) (hk : k < F.length) (y : α), (F.set k y).Perm (y :: F.eraseIdx k)
 | _ :: _, 0, _, _ => .refl _
 | a :: F, k + 1, hk, y => ((set_perm F k (by simpa using hk) y).cons a).trans (.swap _ _ _)
theorem Has.poolPerm {B' : List (Value × List Int)} (h : Has w (poolc u8 B :: l)) (hp : B.Perm B') : Has w (poolc u8 B' :: l) := by
 refine Has.star_iff.2 ((Has.star_iff.1 h).perm ?_)
 exact (hp.map _).append_right l
end
end Go.Own
namespace Go.Own
def pickE : List Nat → List HP → List HP
 | [], _ => []
 | i :: is, l => l[i]?.getD emp :: pickE is (l.set i emp)
theorem Has.out1 {w : World} {l m : List HP} (i : Nat) (h : Has w (l ++ m)) : Has w (l[i]?.getD emp :: (l.set i emp ++ m)) := by
 by_cases hi : i < l.length
 ·rw [List.getElem?_eq_getElem hi, Option.getD_some]
  have h1 : Has w (l[i] :: (l.eraseIdx i ++ m)) := h.perm ((perm_pull l i hi).append_right m)
  have h2 : Has w (emp :: l[i] :: (l.eraseIdx i ++ m)) := Has.emp_iff.2 h1
  exact h2.p1.perm (((set_perm l i hi emp).symm.append_right m).cons _)
 ·rw [List.getElem?_eq_none (by omega), Option.getD_none, List.set_eq_of_length_le (by omega)]
  exact Has.emp_iff.2 h
theorem Has.dropAll {w : World} {m : List HP} : ∀ (l : List HP), Has w (l ++ m) → Has w m
 | [], h => h
 | _ :: l, h => Has.dropAll l h.drop
theorem Has.reIn {w : World} {m : List HP} : ∀ (is : List Nat) (acc l : List HP), Has w (acc ++ (l ++ m)) → Has w (acc ++ (pickE is l ++ m))
 | [], acc, l, h => by
  unfold pickE
  rw [List.nil_append]
  have : Has w (l ++ (acc ++ m)) := h.perm (List.perm_append_comm_assoc _ _ _)
  exact this.dropAll
 | i :: is, acc, l, h => by
  unfold pickE
  have h1 : Has w (l ++ (acc ++ m)) := h.perm (List.perm_append_comm_assoc _ _ _)
  have h2 := h1.out1 i
  have h3 : Has w ((acc ++ [l[i]?.getD emp]) ++ (l.set i emp ++ m)) := by
   rw [List.append_assoc, List.singleton_append]
   exact h2.perm (((List.perm_append_comm_assoc _ _ _).cons _).trans List.perm_middle.symm)
  have h4 := Has.reIn is _ _ h3
  rw [List.append_assoc, List.singleton_append] at h4
  exact h4
theorem Has.re {w : World} {l : List HP} (n : Nat) (is : List Nat) (h : Has w l) : Has w (pickE is (l.take n) ++ l.drop n) :=
 Has.reIn is [] _ (by rw [List.nil_append, List.take_append_drop]; exact h)
example {w : World} {a b c d : HP} {L : List HP} (h : Has w (a :: b :: c :: d :: L)) : Has w (c :: a :: d :: L) := h.re 3 [2, 0]
end Go.Own
namespace Go.Own
open Go.RowKit
def rowF (v : Value) (e : TypeId) (n : Nat) (xs : List Value) : HP := fun h => xs.length = n ∧
 ((v = .slice none 0 0 ∧ n = 0 ∧ emp h) ∨ ∃ (g off cap : Nat) (cur : Array Value), v = .slice (some ⟨g, off, none⟩) n cap ∧ n ≤ cap ∧ cap ≤ maxLen ∧ cur.size = off + cap ∧ (cur.toList.drop off).take n = xs ∧ pt g (.cells cur e) h)
section
variable {w w' : World} {l : List HP} {v : Value} {e : TypeId} {n : Nat} {xs : List Value}
theorem Has.rowF_nil (h : Has w l) (e : TypeId) : Has w (rowF (.slice none 0 0) e 0 [] :: l) :=
 (Has.emp_iff.2 h).imp fun _ ha => ⟨by simp, .inl ⟨rfl, rfl, ha⟩⟩
theorem Has.rowF_of {g off cap : Nat} {cur : Array Value} (h : Has w (pt g (.cells cur e) :: l)) (h1 : n ≤ cap) (h2 : cap ≤ maxLen) (h3 : cur.size = off + cap) (h4 : (cur.toList.drop off).take n = xs) (h5 : xs.length = n) :
  Has w (rowF (.slice (some ⟨g, off, none⟩) n cap) e n xs :: l) :=
 h.imp fun _ ha => ⟨h5, .inr ⟨g, off, cap, cur, rfl, h1, h2, h3, h4, ha⟩⟩
theorem Has.rowF_cases (h : Has w (rowF v e n xs :: l)) : xs.length = n ∧ ((v = .slice none 0 0 ∧ n = 0 ∧ xs = [] ∧ Has w l) ∨
  ∃ (g off cap : Nat) (cur : Array Value), v = .slice (some ⟨g, off, none⟩) n cap ∧ n ≤ cap ∧ cap ≤ maxLen ∧ cur.size = off + cap ∧ (cur.toList.drop off).take n = xs ∧ Has w (pt g (.cells cur e) :: l)) := by
 obtain ⟨_, hw, a, b, d, rfl, ⟨hl, ha⟩, hb⟩ := h
 refine ⟨hl, ?_⟩
 rcases ha with ⟨rfl, rfl, ha⟩ | ⟨g, off, cap, cur, rfl, h1, h2, h3, h4, ha⟩
 ·left
  refine ⟨rfl, rfl, List.eq_nil_of_length_eq_zero hl, ?_⟩
  refine ⟨b, fun k o eq => hw k o ?_, hb⟩
  rw [show a = fun _ => none from ha, Frag.none_join]; exact eq
 ·exact .inr ⟨g, off, cap, cur, rfl, h1, h2, h3, h4, _, hw, a, b, d, rfl, ha, hb⟩
theorem Has.rowF_row (h : Has w (row v e 1 n xs :: l)) : Has w (rowF v e n xs :: l) := by
 obtain ⟨hl, ⟨rfl, rfl, rfl, h1⟩ | ⟨g, cap, cur, rfl, h1, h2, h3, h4, h5⟩⟩ := h.row_cases
 ·exact h1.rowF_nil e
 ·exact h5.rowF_of h1 h2 (by rw [h3]; omega) (by rw [List.drop_zero, ← h4, Nat.mul_one]) (by omega)
theorem Has.rdF (h : Has w (rowF v e n xs :: l)) : Rd w v 1 n xs := by
 obtain ⟨hl, ⟨rfl, rfl, rfl, -⟩ | ⟨g, off, cap, cur, rfl, h1, h2, h3, h4, h5⟩⟩ := h.rowF_cases
 ·exact ⟨by simp, Nat.zero_le _, none, 0, rfl, by omega, fun hp => absurd hp (by simp)⟩
 ·refine ⟨by omega, by omega, _, cap, rfl, h1, fun _ => ⟨g, off, rfl, fun j hj => ?_⟩⟩
  rw [h5.cells, ← h4, take_getElem? (by omega), List.getElem?_drop, Array.getElem?_toList]
theorem Has.rowF_drop {g off cap : Nat} (h : Has w (rowF (.slice (some ⟨g, off, none⟩) n cap) e n xs :: l)) (k : Nat) (hk : k ≤ n) : Has w (rowF (.slice (some ⟨g, off + k, none⟩) (n - k) (cap - k)) e (n - k) (xs.drop k) :: l) := by
 obtain ⟨hl, h1 | ⟨g', off', cap', cur, e1, h1, h2, h3, h4, h5⟩⟩ := h.rowF_cases
 ·exact absurd h1.1 (by simp)
 ·simp only [Value.slice.injEq, Option.some.injEq, Addr.mk.injEq] at e1
  obtain ⟨⟨rfl, rfl, -⟩, -, rfl⟩ := e1
  refine h5.rowF_of (by omega) (by omega) (by rw [h3]; omega) ?_ (by rw [List.length_drop, hl])
  rw [← h4, List.drop_take, List.drop_drop]
theorem Has.appendF {P : Program} (hO : Has w (rowF v e n xs :: l)) (t ty : TypeId) {z : Value} {bytes : Nat} (ht : P.underlying t = some (.slice e)) (hi : (P.info? e).map (fun i => (i.zero, i.size, i.bytes)) = some (some z, 1, bytes)) (hzs : z.cells.size = 1)
  (u : Value) (b c : Nat) (hu : w.cell? ⟨b, 0, none⟩ = some u) (h1 : u.oneCell' = true) (h63 : n + 1 ≤ maxLen) (hbytes : (n + 1) * bytes ≤ 140737488355328) :
  ∃ v' w', (Builtin.append_ #[t, t] ty #[v, .slice (some ⟨b, 0, none⟩) 1 c]).run P w = .ok v' w' ∧ Has w' (rowF v' e (n + 1) (xs ++ [u]) :: l) ∧ Keep w w' := by
 obtain ⟨i, hi', hz, hsz, hby⟩ := info_parts hi
 obtain ⟨hl, ⟨rfl, rfl, rfl, hO'⟩ | ⟨g, off, cap, cur, rfl, hnc, hcm, hcs, htake, hp⟩⟩ := hO.rowF_cases
 ·obtain ⟨v', w', hr, h2, h3, -⟩ := (hO'.row_nil e 1).append (P := P) t ty i z bytes ht hi' hz hsz hby hzs ⟨b, 0, none⟩ 1 c [u] rfl (by
   intro j x hx
   rcases j with _ | j
   ·simp at hx; subst hx; exact hu
   ·simp at hx) (by simpa using h1) h63 hbytes
  exact ⟨v', w', hr, h2.rowF_row, h3⟩
 ·have hnews : ∀ j x, ([u] : List Value)[j]? = some x → w.cell? ((⟨b, 0, none⟩ : Addr).add j) = some x := by
   intro j x hx
   rcases j with _ | j
   ·simp at hx; subst hx; exact hu
   ·simp at hx
  by_cases hroom : n + 1 ≤ cap
  ·have hr := run_append_room_cells (P := P) w t ty e i ht hi' g off n cap ⟨b, 0, none⟩ 1 c [u] (by rw [hsz]; rfl) hnews (by simpa using h1) hroom
    (by
     intro j hj
     have : j = 0 := by simpa using hj
     subst this
     rw [hsz, hp.cells, Nat.mul_one, Nat.add_zero, Array.getElem?_eq_getElem (by omega)]
     rfl) (by
     intro j hj
     exact hp.thaw _)
   rw [hsz, Nat.mul_one] at hr
   refine ⟨_, _, hr, ?_, (Keep.refl w).set _ _⟩
   show Has (w.setCell ⟨g, off + n, none⟩ u) _
   refine (hp.set (off + n) u).rowF_of hroom hcm (by simpa using hcs) ?_ (by simp [hl])
   rw [Array.toList_setIfInBounds]
   have hnl : n < (cur.toList.drop off).length := by rw [List.length_drop, Array.length_toList]; omega
   have e1 : (cur.toList.set (off + n) u).drop off = (cur.toList.drop off).set n u := by
    rw [List.drop_set, if_neg (by omega), Nat.add_sub_cancel_left]
   rw [e1, ← htake]
   apply List.ext_getElem?
   intro j
   rcases Nat.lt_trichotomy j n with h2 | h2 | h2
   ·rw [take_getElem? (by omega), List.getElem?_set_ne (by omega), List.getElem?_append_left (by rw [List.length_take]; omega), take_getElem? h2]
   ·subst h2
    rw [take_getElem? (by omega), List.getElem?_set_self hnl, List.getElem?_append_right (by rw [List.length_take]; omega), List.length_take, Nat.min_eq_left (by omega), Nat.sub_self]
    rfl
   ·rw [List.getElem?_eq_none (by rw [List.length_take]; omega), List.getElem?_eq_none (by simp; omega)]
  ·have holds : ∀ j x, xs[j]? = some x → w.cell? ((⟨g, off, none⟩ : Addr).add j) = some x := by
    intro j x hx
    have hj : j < n := by
     have := (List.getElem?_eq_some_iff.1 hx).1
     omega
    rw [Addr.add_lit, hp.cells, ← Array.getElem?_toList, ← List.getElem?_drop, ← take_getElem? hj, htake, hx]
   have hr := run_append_grow (P := P) w t ty e i z ht hi' hz ⟨g, off, none⟩ n cap xs (by rw [hsz]; omega) holds ⟨b, 0, none⟩ 1 c [u] (by rw [hsz]; rfl) hnews (by omega) (by simp only [maxLen] at h63; omega) (growslice_fits (by omega) (by rw [hby]; exact hbytes))
   refine ⟨_, _, hr, Has.rowF_row (((hO.drop).drew.alloc _).row_of (grownCap_ge w (n + 1) cap e) (grownCap_le_maxLen w (n + 1) cap e h63) ?_ ?_ (by simp [hl])), (Keep.refl w).drew.alloc _⟩
   ·have hge := grownCap_ge w (n + 1) cap e
    simp only [Array.size_append, List.size_toArray, size_zeroCells, hzs, hl, List.length_singleton]
    omega
   ·have h9 : (xs ++ [u]).length = (n + 1) * 1 := by simp [hl]
    simp only [Array.toList_append, List.append_assoc]
    rw [← List.append_assoc, ← h9]
    exact List.take_left
theorem wp_appendF {P : Program} {o : Oper} {a : Act} {K : Act → World → Prop} {Q : Exit → Act → World → Prop} (s x : Operand) (t : TypeId)
  (ho : o.op = .call { callee := .builtin .append, args := #[s, x], argTypes := #[t, t] })
  {z : Value} {bytes : Nat} (ht : P.underlying t = some (.slice e)) (hi : (P.info? e).map (fun i => (i.zero, i.size, i.bytes)) = some (some z, 1, bytes)) (hzs : z.cells.size = 1)
  (u : Value) (hO : Has w (rowF v e n xs :: l)) (hs : a.eval s = v) (c b : Nat) (hx : a.eval x = .slice (some ⟨b, 0, none⟩) 1 c) (hu : w.cell? ⟨b, 0, none⟩ = some u) (h1 : u.oneCell' = true)
  (h63 : n + 1 ≤ maxLen) (hbytes : (n + 1) * bytes ≤ 140737488355328)
  (h : ∀ v' w', Has w' (rowF v' e (n + 1) (xs ++ [u]) :: l) → Keep w w' → K (a.put o.dst v') w') : o.wp P a w K Q := by
 obtain ⟨v', w', hrun, h2, h3⟩ := hO.appendF (P := P) t o.type ht hi hzs u b c hu h1 h63 hbytes
 unfold Oper.wp execOp
 simp only [ho, resolve, invoke, builtin, Sem.run_bind, Sem.run_pure, Result.andThen_ok, List.map_toArray, List.map_cons, List.map_nil, hs, hx, hrun]
 exact h v' w' h2 h3
theorem wpList_appendF {P : Program} {ops : Array Oper} {rest : List Oper} {o : Oper} {a : Act} {Q : Exit → Act → World → Prop} (hgd : o.guard = none) (s x : Operand) (t : TypeId)
  (ho : o.op = .call { callee := .builtin .append, args := #[s, x], argTypes := #[t, t] })
  {z : Value} {bytes : Nat} (ht : P.underlying t = some (.slice e)) (hi : (P.info? e).map (fun i => (i.zero, i.size, i.bytes)) = some (some z, 1, bytes)) (hzs : z.cells.size = 1)
  (u : Value) (hO : Has w (rowF v e n xs :: l)) (hs : a.eval s = v) (c b : Nat) (hx : a.eval x = .slice (some ⟨b, 0, none⟩) 1 c) (hu : w.cell? ⟨b, 0, none⟩ = some u) (h1 : u.oneCell' = true)
  (h63 : n + 1 ≤ maxLen) (hbytes : (n + 1) * bytes ≤ 140737488355328)
  (h : ∀ v' w', Has w' (rowF v' e (n + 1) (xs ++ [u]) :: l) → Keep w w' → wpList P ops Q rest (a.put o.dst v') w') : wpList P ops Q (o :: rest) a w :=
 wpList_plain hgd fun _ hK => wp_appendF s x t ho ht hi hzs u hO hs c b hx hu h1 h63 hbytes fun v' w' h2 h3 => hK _ _ (h v' w' h2 h3)
end
end Go.Own
namespace Go.Own
open Go.RowKit
section
variable {w : World} {l : List HP} {e : TypeId} {n cap g off m : Nat} {xs ys : List Value}
theorem Has.copyRun {P : Program} (hO : Has w (row (.slice (some ⟨g, 0, none⟩) n cap) e 1 n xs :: l)) (dT sT ty : TypeId) (hu : P.underlying dT = some (.slice e)) (hsz : (P.info? e).map (·.size) = some 1)
  (dn dc c : Nat) (sp : Option Addr) (hr : Rd w (.slice sp m c) 1 m ys) (h1 : ∀ u ∈ ys, u.oneCell' = true) (hfit : off + min m dn ≤ n) :
  ∃ w', (Builtin.copy_ #[dT, sT] ty #[.slice (some ⟨g, off, none⟩) dn dc, .slice sp m c]).run P w = .ok (goInt ((min m dn : Nat) : Int)) w' ∧ Has w' (row (.slice (some ⟨g, 0, none⟩) n cap) e 1 n (xs.take off ++ ys.take (min m dn) ++ xs.drop (off + min m dn)) :: l) ∧ Keep w w' := by
 obtain ⟨hxl, h | ⟨g', cap', cur, e1, h2, h3, h4, h5, hp⟩⟩ := hO.row_cases
 ·exact absurd h.1 (by simp)
 simp only [Value.slice.injEq, Option.some.injEq, Addr.mk.injEq] at e1
 obtain ⟨⟨rfl, -, -⟩, -, rfl⟩ := e1
 obtain ⟨hyl, -, p, cap2, e2, -, hcs⟩ := hr
 cases e2
 rw [Nat.mul_one] at hyl h4 h5 hxl
 by_cases hz : min m dn = 0
 ·refine ⟨w, ?_, ?_, Keep.refl w⟩
  ·have := run_copy_none (P := P) w dT sT ty e (some ⟨g, off, none⟩) sp dn dc m c hu hsz hz
   rw [hz]; exact this
  ·rw [hz]; simpa using hO
 ·obtain ⟨g2, o2, rfl, hc2⟩ := hcs (by omega)
  have hl : (ys.take (min m dn)).length = Nat.min m dn := by rw [List.length_take, hyl]; show min (min m dn) m = min m dn; omega
  have hr := run_copy_row (P := P) w dT sT ty e g off dn dc ⟨g2, o2, none⟩ m c cur e (ys.take (min m dn)) hu hsz hp.lookup hl (by
   intro j v hj
   have hjl : j < (ys.take (min m dn)).length := (List.getElem?_eq_some_iff.1 hj).1
   rw [hl] at hjl
   have hjm : j < min m dn := hjl
   rw [List.getElem?_take, if_pos hjm] at hj
   rw [add_plain, hc2 j (by omega), hj]) (by rw [hl]; show off + min m dn ≤ _; omega) (fun v hv => h1 v (List.mem_of_mem_take hv))
  refine ⟨w.setRow g (cur.toList.take off ++ ys.take (min m dn) ++ cur.toList.drop (off + min m dn)).toArray, by rw [hr, hl], ?_, ⟨rfl, rfl, rfl, by simp [World.setRow]⟩⟩
  refine (hp.turn (fun k _ hk => setRow_other w g k _ hk) (setRow_heap w g cur _ e _ hp.lookup)).row_of h2 h3 ?_ ?_ ?_
  ·simp only [List.size_toArray, List.length_append, List.length_take, List.length_drop, Array.length_toList]; omega
  ·rw [Nat.mul_one]
   show (cur.toList.take off ++ ys.take (min m dn) ++ cur.toList.drop (off + min m dn)).take n = _
   have hcl : n ≤ cur.toList.length := by simp; omega
   have hA : (cur.toList.take off ++ ys.take (min m dn)).length = off + min m dn := by
    simp only [List.length_append, List.length_take]
    omega
   rw [List.take_append, List.take_of_length_le (by rw [hA]; exact hfit), hA, ← h5, List.take_take, Nat.min_eq_left (show off ≤ n by omega), List.drop_take]
  ·simp only [List.length_append, List.length_take, List.length_drop]; omega
theorem wp_copy {P : Program} {o : Oper} {a : Act} {K : Act → World → Prop} {Q : Exit → Act → World → Prop} (d s : Operand) (dT sT : TypeId)
  (ho : o.op = .call { callee := .builtin .copy, args := #[d, s], argTypes := #[dT, sT] }) (hu : P.underlying dT = some (.slice e)) (hsz : (P.info? e).map (·.size) = some 1)
  (hO : Has w (row (.slice (some ⟨g, 0, none⟩) n cap) e 1 n xs :: l)) (dn dc c : Nat) (sp : Option Addr) (hd : a.eval d = .slice (some ⟨g, off, none⟩) dn dc) (hs : a.eval s = .slice sp m c)
  (hr : Rd w (.slice sp m c) 1 m ys) (h1 : ∀ u ∈ ys, u.oneCell' = true) (hfit : off + min m dn ≤ n)
  (h : ∀ w', Has w' (row (.slice (some ⟨g, 0, none⟩) n cap) e 1 n (xs.take off ++ ys.take (min m dn) ++ xs.drop (off + min m dn)) :: l) → Keep w w' → K (a.put o.dst (goInt ((min m dn : Nat) : Int))) w') : o.wp P a w K Q := by
 obtain ⟨w', hrun, h2, h3⟩ := hO.copyRun (P := P) dT sT o.type hu hsz dn dc c sp hr h1 hfit
 unfold Oper.wp execOp
 simp only [ho, resolve, invoke, builtin, Sem.run_bind, Sem.run_pure, Result.andThen_ok, List.map_toArray, List.map_cons, List.map_nil, hd, hs, hrun]
 exact h w' h2 h3
theorem wpList_copy {P : Program} {ops : Array Oper} {rest : List Oper} {o : Oper} {a : Act} {Q : Exit → Act → World → Prop} (hgd : o.guard = none) (d s : Operand) (dT sT : TypeId)
  (ho : o.op = .call { callee := .builtin .copy, args := #[d, s], argTypes := #[dT, sT] }) (hu : P.underlying dT = some (.slice e)) (hsz : (P.info? e).map (·.size) = some 1)
  (hO : Has w (row (.slice (some ⟨g, 0, none⟩) n cap) e 1 n xs :: l)) (dn dc c : Nat) (sp : Option Addr) (hd : a.eval d = .slice (some ⟨g, off, none⟩) dn dc) (hs : a.eval s = .slice sp m c)
  (hr : Rd w (.slice sp m c) 1 m ys) (h1 : ∀ u ∈ ys, u.oneCell' = true) (hfit : off + min m dn ≤ n)
  (h : ∀ w', Has w' (row (.slice (some ⟨g, 0, none⟩) n cap) e 1 n (xs.take off ++ ys.take (min m dn) ++ xs.drop (off + min m dn)) :: l) → Keep w w' → wpList P ops Q rest (a.put o.dst (goInt ((min m dn : Nat) : Int))) w') : wpList P ops Q (o :: rest) a w :=
 wpList_plain hgd fun _ hK => wp_copy d s dT sT ho hu hsz hO dn dc c sp hd hs hr h1 hfit fun w' h2 h3 => hK _ _ (h w' h2 h3)
end
end Go.Own
namespace Go.Own
open Go.RowKit
theorem Rd.dropS {w : World} {p : Option Addr} {n c size : Nat} {xs : List Value} (h : Rd w (.slice p n c) size n xs) (m : Nat) (hm : m ≤ n) : Rd w (.slice (if c = m then p else p.map fun a => a.add (m * size)) (n - m) (c - m)) size (n - m) (xs.drop (m * size)) := by
 obtain ⟨h1, h2, p', c', e, h3, h4⟩ := h
 injection e with e1 e2 e3
 subst e1 e3
 refine ⟨by rw [List.length_drop, h1, Nat.sub_mul], by omega, _, _, rfl, by omega, fun hp => ?_⟩
 have hlt : 0 < n - m := Nat.pos_of_mul_pos_right hp
 have hs : 0 < size := Nat.pos_of_mul_pos_left hp
 obtain ⟨g, o, rfl, hc⟩ := h4 (Nat.mul_pos (by omega) hs)
 refine ⟨g, o + m * size, ?_, fun j hj => ?_⟩
 ·rw [if_neg (by omega), Option.map_some, add_plain]
 ·rw [List.getElem?_drop, ← hc (m * size + j) (by rw [Nat.sub_mul] at hj; omega), Nat.add_assoc]
theorem Rd.takeS {w : World} {p : Option Addr} {n c size : Nat} {xs : List Value} (h : Rd w (.slice p n c) size n xs) (m : Nat) (hm : m ≤ n) : Rd w (.slice p m c) size m (xs.take (m * size)) := by
 obtain ⟨h1, h2, p', c', e, h3, h4⟩ := h
 injection e with e1 e2 e3
 subst e1 e3
 have hle := Nat.mul_le_mul_right size hm
 refine ⟨by rw [List.length_take]; omega, by omega, _, _, rfl, by omega, fun hp => ?_⟩
 obtain ⟨g, o, rfl, hc⟩ := h4 (by omega)
 refine ⟨g, o, rfl, fun j hj => ?_⟩
 rw [hc j (by omega), List.getElem?_take, if_pos hj]
end Go.Own
namespace Go.Proofs.YtmgpgbfgemebbaaGreatDoor
open Go.RowKit Go.Own
theorem wrapk_in' (n : Int) (h : -9223372036854775808 ≤ n ∧ n ≤ 9223372036854775807) : IntKind.i64.wrap n = n := by
 simp [IntKind.wrap, IntKind.bits, IntKind.signed]
 omega
def lastI (xs : List Int) : Int := xs.getLastD 0
set_option maxRecDepth 100000 in
set_option maxHeartbeats 4000000 in
theorem mValue (v : Value) (xs : List Int) (w : World) (hr : Rd w v 1 xs.length (ic xs)) : Calls Tryz.prog 220 #[v] w fun e w' => e = .returned (.int .i64 (lastI xs)) ∧ w = w' := by
 obtain ⟨p, c, rfl, hc, hl, hcs⟩ := hr.form
 by_cases h0 : xs.length = 0
 ·have hx : xs = [] := List.eq_nil_of_length_eq_zero h0
  subst hx
  go_enter Tryz.func220, Tryz.ntmps220
  go_wp2
  go_ret
  exact ⟨rfl, rfl⟩
 ·obtain ⟨n, hn⟩ : ∃ n, xs.length = n + 1 := ⟨xs.length - 1, by omega⟩
  obtain ⟨g, o, rfl, hcs2⟩ := hcs (by omega)
  have hlast : lastI xs = xs[n]'(by omega) := by
   unfold lastI
   rw [List.getLastD_eq_getLast?, List.getLast?_eq_getElem?, show xs.length - 1 = n by omega, List.getElem?_eq_getElem (by omega)]
   rfl
  have hcl : w.cell? ⟨g, o + n, none⟩ = some (.int .i64 (lastI xs)) := by
   rw [hcs2 n (by omega), hlast]
   simp [ic, hn]
  have hln : (xs.length : Int) - 1 = (n : Int) := by omega
  have hl0 : ((xs.length : Int) == 0) = false := beq_eq_false_iff_ne.2 (by omega)
  have hl1 : (xs.length : Int) ≤ 9223372036854775807 := by omega
  have hn0 : (0 : Int) ≤ (n : Int) := by omega
  have hn1 : (n : Int) < (xs.length : Int) := by omega
  have wn : IntKind.i64.wrap (n : Int) = (n : Int) := wrapk_in' _ (by omega)
  generalize lastI xs = z at *
  generalize hN : (xs.length : Int) = N at *
  clear hcs hcs2 hlast hn hr h0 hc hl
  go_enter Tryz.func220, Tryz.ntmps220
  go_wp2_with fail
  go_ret
  exact ⟨rfl, rfl⟩
def zs128 : List Int := List.replicate 128 0
theorem zs128_len : zs128.length = 128 := List.length_replicate
def partM (ds : List Int) (k : Nat) : List Int := (ds.drop (k * 128) ++ zs128).take 128
theorem partM_len (ds : List Int) (k : Nat) : (partM ds k).length = 128 := by
 unfold partM
 rw [List.length_take, List.length_append, zs128_len]
 omega
def roomP : Array Value := (List.replicate 128 (Value.int .u8 0)).toArray
set_option maxRecDepth 100000 in
theorem mkPart (w : World) : (Instr.makeSlice 31 (.int .i64 128) (.int .i64 128)).run Tryz.prog w = .ok (.slice (some ⟨w.heap.size, 0, none⟩) 128 128) (w.alloc (.cells roomP 5)) := by
 obtain ⟨i, hi, hz, hsz, hby⟩ := info_parts infoU8
 have hr := run_make (P := Tryz.prog) w 31 5 i (.int .u8 0) Tryz.underlying31 hi hz .i64 .i64 128 128 (by omega) (by omega) (by rw [hby]; omega) (by omega)
 rw [hr]
 congr 3
 apply Array.toList_inj.1
 rw [hsz, Nat.mul_one]
 exact toList_madeCells_one _ _
theorem room_row {w : World} {L : List HP} {g : Nat} (h : Has w (pt g (.cells roomP 5) :: L)) : Has w (row (.slice (some ⟨g, 0, none⟩) 128 128) 5 1 128 (bc zs128) :: L) := by
 have := h.row_of (n := 128) (cap := 128) (size := 1) (xs := bc zs128) (by decide) (by decide) (by simp [roomP]) (by simp [roomP, bc, zs128]) (by simp [bc, zs128_len])
 exact this
set_option maxRecDepth 100000 in
set_option maxHeartbeats 4000000 in
theorem mPart (v : Value) (ds : List Int) (k : Nat) (w : World) (L : List HP) (hk : k ≤ 1000000) (hl : ds.length ≤ 1000000000) (hrd : ∀ w', Has w' L → Rd w' v 1 ds.length (bc ds)) (hO : Has w L) :
  Calls Tryz.prog 213 #[v, .int .i64 (k : Int)] w fun e w' => ∃ g c, e = .returned (.slice (some ⟨g, 0, none⟩) 128 c) ∧ Has w' (Bytes (.slice (some ⟨g, 0, none⟩) 128 c) (partM ds k) :: L) ∧ Keep w w' := by
 obtain ⟨p, c, rfl, hc, -⟩ := (hrd w hO).form
 have hmk := mkPart w
 have HO := hid (room_row (hO.alloc (.cells roomP 5)))
 have HK := hid ((Keep.refl w).alloc (.cells roomP 5))
 have HRD := hid hrd
 have hk0 : (0 : Int) ≤ (k : Int) := by omega
 have hk1 : (k : Int) * 128 ≤ 128000000 := by omega
 have hk2 : (0 : Int) ≤ (k : Int) * 128 := by omega
 have hci : (ds.length : Int) ≤ (c : Int) := by omega
 clear hO hrd
 by_cases hlt : k * 128 < ds.length
 ·have hki : (k : Int) * 128 < (ds.length : Int) := by omega
  have HLT := hid hlt
  have hcne : ¬ c = k * 128 := by omega
  clear hlt
  go_enter Tryz.func213, Tryz.ntmps213
  go_upto_region 2 with fail
  clear hmk
  generalize w.heap.size = g at *
  generalize w.alloc (.cells roomP 5) = w1 at *
  have hdrop := (HRD.out w1 HO.out.drop).dropS (k * 128) (by have := HLT.out; omega)
  rw [if_neg hcne, Nat.mul_one] at hdrop
  have HDR := hid hdrop
  clear hdrop
  go_wp2_with (with_reducible refine wpList_copy rfl _ _ _ _ rfl Tryz.underlying31 (by kernel_rfl) HO.out 128 128 _ _ rfl rfl HDR.out (by intro u hu; exact bc_one _ u (List.mem_of_mem_drop hu)) (by rw [Nat.zero_add]; exact Nat.min_le_right _ _) ?_)
  intro w2 h2 k2
  have HO2 := hid h2
  have HK2 := hid (HK.out.trans k2)
  clear h2 k2
  go_wp2_with fail
  go_ret
  refine ⟨g, 128, rfl, ?_, HK2.out⟩
  have h3 := HO2.out
  have e : ((bc ds).drop (k * 128)).take (min (ds.length - k * 128) 128) ++ (bc zs128).drop (min (ds.length - k * 128) 128) = bc (partM ds k) := by
   unfold partM bc
   rw [← List.map_drop, ← List.map_take, ← List.map_drop, ← List.map_append]
   congr 1
   rw [List.take_append, List.length_drop]
   unfold zs128
   rw [List.drop_replicate, List.take_replicate]
   by_cases h5 : ds.length - k * 128 ≤ 128
   ·rw [Nat.min_eq_left h5, List.take_of_length_le (by rw [List.length_drop]; omega), List.take_of_length_le (by rw [List.length_drop]; omega)]
    congr 2
    omega
   ·rw [Nat.min_eq_right (by omega), Nat.sub_self, show 128 - (ds.length - k * 128) = 0 by omega]
    simp
  rw [e] at h3
  unfold Bytes
  rw [partM_len]
  exact h3
 ·have hki : ¬ (k : Int) * 128 < (ds.length : Int) := by omega
  have hp : partM ds k = zs128 := by
   unfold partM
   rw [List.drop_eq_nil_of_le (by omega), List.nil_append, List.take_of_length_le (by rw [zs128_len]; omega)]
  rw [hp]
  clear hlt hp
  go_enter Tryz.func213, Tryz.ntmps213
  go_wp2
  go_ret
  refine ⟨_, 128, rfl, ?_, HK.out⟩
  unfold Bytes
  rw [zs128_len]
  exact HO.out
end Go.Proofs.YtmgpgbfgemebbaaGreatDoor
namespace Go.Own
open Go.RowKit Go.Maps
section
variable {κ η α : Type} [DecidableEq κ]
def zH (X : List (κ × η × α)) : List (κ × η) := X.map fun x => (x.1, x.2.1)
def zB (X : List (κ × η × α)) : List (κ × α) := X.map fun x => (x.1, x.2.2)
def zC (C : η → α → HP) (X : List (κ × η × α)) : List HP := X.map fun x => C x.2.1 x.2.2
omit [DecidableEq κ] in
theorem zH_keys (X : List (κ × η × α)) : (zH X).map Prod.fst = X.map Prod.fst := by simp [zH]
omit [DecidableEq κ] in
theorem zB_keys (X : List (κ × η × α)) : (zB X).map Prod.fst = X.map Prod.fst := by simp [zB]
theorem putA_mid {t1 t2 : List (κ × α)} {k : κ} {a b : α} (h1 : k ∉ t1.map Prod.fst) (h2 : k ∉ t2.map Prod.fst) : putA (t1 ++ (k, a) :: t2) k b = t1 ++ (k, b) :: t2 := by
 unfold putA
 rw [if_pos (by simp), List.map_append, List.map_cons, if_pos rfl]
 have e : ∀ (t : List (κ × α)), k ∉ t.map Prod.fst → t.map (fun p => if p.1 = k then (k, b) else p) = t := by
  intro t ht
  refine (List.map_congr_left fun p hp => ?_).trans (List.map_id _)
  rw [if_neg]
  ·rfl
  ·rintro rfl
   exact ht (List.mem_map_of_mem hp)
 rw [e t1 h1, e t2 h2]
theorem fnd_mid {t1 t2 : List (κ × α)} {k : κ} {a : α} (h1 : k ∉ t1.map Prod.fst) : fnd (t1 ++ (k, a) :: t2) k = some a := by
 unfold fnd
 rw [List.find?_append, List.find?_eq_none.2 (by intro p hp; simp only [decide_eq_true_eq]; rintro rfl; exact h1 (List.mem_map_of_mem hp))]
 simp
theorem z_zip (C : η → α → HP) (X : List (κ × η × α)) (k : κ) (hn : (X.map Prod.fst).Nodup) : ∃ X0 : List (κ × η × α),
  ((fnd (zB X) k = none ∧ fnd (zH X) k = none ∧ X0 = X) ∨ ∃ s a, fnd (zB X) k = some a ∧ fnd (zH X) k = some s ∧ (zC C X).Perm (C s a :: zC C X0)) ∧
  ∀ s' a', ∃ X', zB X' = putA (zB X) k a' ∧ zH X' = putA (zH X) k s' ∧ (zC C X').Perm (C s' a' :: zC C X0) := by
 by_cases hk : k ∈ X.map Prod.fst
 ·obtain ⟨⟨k', s, a⟩, hm, rfl⟩ := List.mem_map.1 hk
  obtain ⟨X1, X2, rfl⟩ := List.append_of_mem hm
  dsimp only at *
  rw [List.map_append, List.map_cons, List.nodup_append] at hn
  have h1 : k' ∉ X1.map Prod.fst := fun h => hn.2.2 k' h k' (by simp) rfl
  have h2 : k' ∉ X2.map Prod.fst := (List.nodup_cons.1 hn.2.1).1
  refine ⟨X1 ++ X2, .inr ⟨s, a, ?_, ?_, ?_⟩, fun s' a' => ⟨X1 ++ (k', s', a') :: X2, ?_, ?_, ?_⟩⟩
  ·unfold zB
   rw [List.map_append, List.map_cons]
   exact fnd_mid (by rw [show (X1.map fun x => (x.1, x.2.2)) = zB X1 from rfl, zB_keys]; exact h1)
  ·unfold zH
   rw [List.map_append, List.map_cons]
   exact fnd_mid (by rw [show (X1.map fun x => (x.1, x.2.1)) = zH X1 from rfl, zH_keys]; exact h1)
  ·unfold zC
   rw [List.map_append, List.map_cons, List.map_append]
   exact List.perm_middle
  ·unfold zB
   rw [List.map_append, List.map_cons, List.map_append, List.map_cons]
   exact (putA_mid (by rw [show (X1.map fun x => (x.1, x.2.2)) = zB X1 from rfl, zB_keys]; exact h1) (by rw [show (X2.map fun x => (x.1, x.2.2)) = zB X2 from rfl, zB_keys]; exact h2)).symm
  ·unfold zH
   rw [List.map_append, List.map_cons, List.map_append, List.map_cons]
   exact (putA_mid (by rw [show (X1.map fun x => (x.1, x.2.1)) = zH X1 from rfl, zH_keys]; exact h1) (by rw [show (X2.map fun x => (x.1, x.2.1)) = zH X2 from rfl, zH_keys]; exact h2)).symm
  ·unfold zC
   rw [List.map_append, List.map_cons, List.map_append]
   exact List.perm_middle
 ·refine ⟨X, .inl ⟨?_, ?_, rfl⟩, fun s' a' => ⟨X ++ [(k, s', a')], ?_, ?_, ?_⟩⟩
  ·rw [fnd_none, zB_keys]; exact hk
  ·rw [fnd_none, zH_keys]; exact hk
  ·rw [putA_new _ (by rw [zB_keys]; exact hk)]
   simp [zB]
  ·rw [putA_new _ (by rw [zH_keys]; exact hk)]
   simp [zH]
  ·unfold zC
   rw [List.map_append]
   exact List.perm_append_singleton _ _
def Zm {P : Program} {k e : TypeId} (K : Ky P k κ) (V : El P e η) (b : Nat) (C : η → α → HP) (t : List (κ × α)) : HP :=
 ex fun X : List (κ × η × α) => sep (fact (zB X = t)) (star (Mk K V b (zH X) :: zC C X))
omit [DecidableEq κ] in
theorem zm_iff {P : Program} {k e : TypeId} {K : Ky P k κ} {V : El P e η} {b : Nat} {C : η → α → HP} {t : List (κ × α)} {w : World} {L : List HP} :
  Has w (Zm K V b C t :: L) ↔ ∃ X, zB X = t ∧ Has w (Mk K V b (zH X) :: (zC C X ++ L)) := by
 unfold Zm
 simp only [Has.ex_iff, Has.sep_iff, Has.fact_iff, Has.star_iff, List.cons_append]
end
end Go.Own
