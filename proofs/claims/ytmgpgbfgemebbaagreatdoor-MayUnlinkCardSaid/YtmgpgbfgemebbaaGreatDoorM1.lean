/- TEXTS of mine, merged. -/
import Derived.WalkKit
import Derived.WalkSpells
import Derived.Deep.Quiet
import Derived.Deep.QuietTactic
import Derived.Orders
import Derived.Test.YtmgpgbfgemebbaaGreatDoorRows
import Derived.WalkLawsBesides
import Derived.BigQuiet
import Derived.StillTailTactics
import Derived.Deep.DeepCutAuto
import Derived.Deep.CutBlock
import Derived.Maps.RangeWalk
set_option linter.all false
namespace Go.Own
open Go.RowKit
theorem hid {p : Prop} (h : p) : Hid p := h
abbrev Frag := Nat → Option Obj
def HP := Frag → Prop
def Frag.disj (a b : Frag) : Prop := ∀ k, a k = none ∨ b k = none
def Frag.join (a b : Frag) : Frag := fun k => (a k).or (b k)
def sep (p q : HP) : HP := fun h => ∃ a b : Frag, Frag.disj a b ∧ h = Frag.join a b ∧ p a ∧ q b
def emp : HP := fun h => h = fun _ => none
def pt (b : Nat) (o : Obj) : HP := fun h => h = fun k => if k = b then some o else none
def fact (φ : Prop) : HP := fun h => φ ∧ emp h
def ex {α : Type} (p : α → HP) : HP := fun h => ∃ x, p x h
def any : HP := fun _ => True
def old (W : World) : HP := fun h => h = fun k => W.heap[k]?
def star : List HP → HP
 | [] => emp
 | p :: l => sep p (star l)
def Has (w : World) (l : List HP) : Prop := ∃ h : Frag, (∀ k o, h k = some o → w.heap[k]? = some o) ∧ star l h
theorem Frag.disj_comm {a b : Frag} (h : Frag.disj a b) : Frag.disj b a := fun k => (h k).symm
theorem Frag.join_comm {a b : Frag} (h : Frag.disj a b) : Frag.join a b = Frag.join b a := by
 funext k; unfold Frag.join; rcases h k with e | e <;> simp [e]
theorem Frag.join_assoc (a b c : Frag) : Frag.join (Frag.join a b) c = Frag.join a (Frag.join b c) := by
 funext k; simp [Frag.join, Option.or_assoc]
theorem Frag.disj_join {a b c : Frag} : Frag.disj (Frag.join a b) c ↔ Frag.disj a c ∧ Frag.disj b c := by
 constructor
 ·intro h
  refine ⟨fun k => ?_, fun k => ?_⟩ <;> rcases h k with e | e
  ·simp [Frag.join] at e; exact .inl e.1
  ·exact .inr e
  ·simp [Frag.join] at e; exact .inl e.2
  ·exact .inr e
 ·rintro ⟨h1, h2⟩ k
  rcases h1 k with e | e
  ·rcases h2 k with e' | e'
   ·left; simp [Frag.join, e, e']
   ·exact .inr e'
  ·exact .inr e
theorem Frag.join_none (a : Frag) : Frag.join a (fun _ => none) = a := by funext k; simp [Frag.join]
theorem Frag.none_join (a : Frag) : Frag.join (fun _ => none) a = a := by funext k; simp [Frag.join]
theorem sep_comm (p q : HP) : sep p q = sep q p := by
 funext h; apply propext; constructor <;> (rintro ⟨a, b, d, rfl, x, y⟩; exact ⟨b, a, Frag.disj_comm d, Frag.join_comm d, y, x⟩)
theorem sep_assoc (p q r : HP) : sep (sep p q) r = sep p (sep q r) := by
 funext h; apply propext; constructor
 ·rintro ⟨_, c, d, rfl, ⟨a, b, d', rfl, x, y⟩, z⟩
  obtain ⟨d1, d2⟩ := Frag.disj_join.1 d
  exact ⟨a, Frag.join b c, Frag.disj_comm (Frag.disj_join.2 ⟨Frag.disj_comm d', Frag.disj_comm d1⟩), Frag.join_assoc _ _ _, x, b, c, d2, rfl, y, z⟩
 ·rintro ⟨a, _, d, rfl, x, ⟨b, c, d', rfl, y, z⟩⟩
  obtain ⟨d1, d2⟩ := Frag.disj_join.1 (Frag.disj_comm d)
  exact ⟨Frag.join a b, c, Frag.disj_join.2 ⟨Frag.disj_comm d2, d'⟩, (Frag.join_assoc _ _ _).symm, ⟨a, b, Frag.disj_comm d1, rfl, x, y⟩, z⟩
theorem sep_emp (p : HP) : sep p emp = p := by
 funext h; apply propext; constructor
 ·rintro ⟨a, b, _, rfl, x, rfl⟩; rw [Frag.join_none]; exact x
 ·intro x; exact ⟨h, _, fun _ => .inr rfl, (Frag.join_none h).symm, x, rfl⟩
theorem emp_sep (p : HP) : sep emp p = p := by rw [sep_comm, sep_emp]
theorem sep_left_comm (p q r : HP) : sep p (sep q r) = sep q (sep p r) := by rw [← sep_assoc, sep_comm p q, sep_assoc]
theorem star_append (l m : List HP) : star (l ++ m) = sep (star l) (star m) := by
 induction l with
 | nil => simp [star, emp_sep]
 | cons p l ih => simp only [List.cons_append, star, ih, sep_assoc]
theorem star_perm {l m : List HP} (h : l.Perm m) : star l = star m := by
 induction h with
 | nil => rfl
 | cons x _ ih => simp only [star, ih]
 | swap x y l => simp only [star]; exact sep_left_comm _ _ _
 | trans _ _ i1 i2 => exact i1.trans i2
theorem star_one (p : HP) : star [p] = p := by simp [star, sep_emp]
theorem perm_pull {α : Type _} : ∀ (l : List α) (i : Nat) (hi : i < l.length), l.Perm (l[i] :: l.eraseIdx i)
 | a :: l, 0, _ => .refl _
 | a :: l, i + 1, hi => ((perm_pull l i (by simpa using hi)).cons a).trans (.swap _ _ _)
section
variable {w w' : World} {p q : HP} {l m : List HP}
theorem Has.perm (h : Has w l) (hp : l.Perm m) : Has w m := by unfold Has at *; rwa [← star_perm hp]
theorem Has.congr (e : star l = star m) : Has w l ↔ Has w m := by unfold Has; rw [e]
theorem Has.drop (h : Has w (p :: l)) : Has w l := by
 obtain ⟨_, hw, a, b, d, rfl, _, hb⟩ := h
 refine ⟨b, fun k o e => ?_, hb⟩
 refine hw k o ?_
 rcases d k with e' | e'
 ·simp [Frag.join, e', e]
 ·rw [e'] at e; cases e
theorem Has.swap (h : Has w (p :: q :: l)) : Has w (q :: p :: l) := h.perm (List.Perm.swap _ _ _)
theorem Has.pull (i : Nat) (h : Has w l) (hi : i < l.length := by decide) : Has w (l[i] :: l.eraseIdx i) :=
 h.perm (perm_pull l i hi)
theorem Has.p1 {p q : HP} (h : Has w (p :: q :: l)) : Has w (q :: p :: l) := h.perm (.swap _ _ _)
theorem Has.p2 {p q r : HP} (h : Has w (p :: q :: r :: l)) : Has w (r :: p :: q :: l) := h.perm (perm_pull [p, q, r] 2 (by simp) |>.append_right l)
theorem Has.p3 {p q r s : HP} (h : Has w (p :: q :: r :: s :: l)) : Has w (s :: p :: q :: r :: l) := h.perm (perm_pull [p, q, r, s] 3 (by simp) |>.append_right l)
theorem Has.p4 {p q r s t : HP} (h : Has w (p :: q :: r :: s :: t :: l)) : Has w (t :: p :: q :: r :: s :: l) := h.perm (perm_pull [p, q, r, s, t] 4 (by simp) |>.append_right l)
theorem Has.p5 {p q r s t u : HP} (h : Has w (p :: q :: r :: s :: t :: u :: l)) : Has w (u :: p :: q :: r :: s :: t :: l) := h.perm (perm_pull [p, q, r, s, t, u] 5 (by simp) |>.append_right l)
theorem Has.p6 {p q r s t u v : HP} (h : Has w (p :: q :: r :: s :: t :: u :: v :: l)) : Has w (v :: p :: q :: r :: s :: t :: u :: l) := h.perm (perm_pull [p, q, r, s, t, u, v] 6 (by simp) |>.append_right l)
theorem Has.b2 {p q r : HP} (h : Has w (r :: p :: q :: l)) : Has w (p :: q :: r :: l) := h.perm (perm_pull [p, q, r] 2 (by simp) |>.append_right l).symm
theorem Has.b3 {p q r s : HP} (h : Has w (s :: p :: q :: r :: l)) : Has w (p :: q :: r :: s :: l) := h.perm (perm_pull [p, q, r, s] 3 (by simp) |>.append_right l).symm
theorem Has.b4 {p q r s t : HP} (h : Has w (t :: p :: q :: r :: s :: l)) : Has w (p :: q :: r :: s :: t :: l) := h.perm (perm_pull [p, q, r, s, t] 4 (by simp) |>.append_right l).symm
theorem Has.b5 {p q r s t u : HP} (h : Has w (u :: p :: q :: r :: s :: t :: l)) : Has w (p :: q :: r :: s :: t :: u :: l) := h.perm (perm_pull [p, q, r, s, t, u] 5 (by simp) |>.append_right l).symm
theorem Has.imp (hpq : ∀ a, p a → q a) (h : Has w (p :: l)) : Has w (q :: l) := by
 obtain ⟨h0, hw, a, b, d, e, ha, hb⟩ := h
 exact ⟨h0, hw, a, b, d, e, hpq a ha, hb⟩
theorem Has.fact_iff {φ : Prop} : Has w (fact φ :: l) ↔ φ ∧ Has w l := by
 constructor
 ·rintro ⟨h0, hw, a, b, d, e, ⟨hφ, ha⟩, hb⟩
  refine ⟨hφ, h0, hw, ?_⟩
  rw [e, show a = fun _ => none from ha, Frag.none_join]; exact hb
 ·rintro ⟨hφ, h0, hw, hs⟩
  exact ⟨h0, hw, _, h0, fun _ => .inl rfl, (Frag.none_join h0).symm, ⟨hφ, rfl⟩, hs⟩
theorem Has.ex_iff {α : Type} {f : α → HP} : Has w (ex f :: l) ↔ ∃ x, Has w (f x :: l) := by
 constructor
 ·rintro ⟨h0, hw, a, b, d, e, ⟨x, ha⟩, hb⟩; exact ⟨x, h0, hw, a, b, d, e, ha, hb⟩
 ·rintro ⟨x, h0, hw, a, b, d, e, ha, hb⟩; exact ⟨h0, hw, a, b, d, e, ⟨x, ha⟩, hb⟩
theorem Has.sep_iff : Has w (sep p q :: l) ↔ Has w (p :: q :: l) := Has.congr (by simp only [star]; exact sep_assoc _ _ _)
theorem Has.emp_iff : Has w (emp :: l) ↔ Has w l := Has.congr (by simp only [star]; exact emp_sep _)
theorem Has.star_iff : Has w (star m :: l) ↔ Has w (m ++ l) := Has.congr (by rw [star_append]; rfl)
theorem Has.any (h : Has w (p :: l)) : Has w (Go.Own.any :: l) := h.imp fun _ _ => trivial
theorem Has.lookup {b : Nat} {o : Obj} (h : Has w (pt b o :: l)) : w.heap[b]? = some o := by
 obtain ⟨_, hw, a, c, d, rfl, rfl, hb⟩ := h
 exact hw b o (by simp [Frag.join])
theorem Has.lt {b : Nat} {o : Obj} (h : Has w (pt b o :: l)) : b < w.heap.size := (Array.getElem?_eq_some_iff.1 h.lookup).1
theorem Has.ne {b b' : Nat} {o o' : Obj} (h : Has w (pt b o :: pt b' o' :: l)) : b ≠ b' := by
 rintro rfl
 obtain ⟨_, hw, a, c, d, rfl, rfl, a', c', d', rfl, rfl, hb⟩ := h
 have := d b
 simp [Frag.join] at this
theorem Has.old_look {W : World} (h : Has w (old W :: l)) : ∀ k, k < W.heap.size → w.heap[k]? = W.heap[k]? := by
 obtain ⟨_, hw, a, c, d, rfl, rfl, hb⟩ := h
 intro k hk
 rw [Array.getElem?_eq_getElem hk]
 exact hw k _ (by simp [Frag.join, hk])
theorem Has.old_size {W : World} (h : Has w (old W :: l)) : W.heap.size ≤ w.heap.size := by
 by_cases hz : W.heap.size = 0
 ·omega
 ·have := h.old_look (W.heap.size - 1) (by omega)
  rw [Array.getElem?_eq_getElem (xs := W.heap) (by omega)] at this
  obtain ⟨this, _⟩ := Array.getElem?_eq_some_iff.1 this
  omega
theorem Has.start (w : World) : Has w [old w] := by
 refine ⟨fun k => w.heap[k]?, fun k o e => e, ?_⟩
 rw [star_one]; rfl
theorem Has.frame (h : Has w l) (hk : ∀ k, k < w.heap.size → w'.heap[k]? = w.heap[k]?) : Has w' l := by
 obtain ⟨h0, hw, hs⟩ := h
 refine ⟨h0, fun k o e => ?_, hs⟩
 have := hw k o e
 rw [hk k (Array.getElem?_eq_some_iff.1 this).1]; exact this
theorem Has.turn {b : Nat} {o o' : Obj} (h : Has w (pt b o :: l)) (hk : ∀ k, k < w.heap.size → k ≠ b → w'.heap[k]? = w.heap[k]?) (hb : w'.heap[b]? = some o') : Has w' (pt b o' :: l) := by
 obtain ⟨_, hw, a, c, d, rfl, rfl, hs⟩ := h
 refine ⟨_, fun k x e => ?_, (fun k => if k = b then some o' else none), c, fun k => ?_, rfl, rfl, hs⟩
 ·by_cases e' : k = b
  ·subst e'; simp [Frag.join] at e; subst e; exact hb
  ·simp [Frag.join, e'] at e
   have := hw k x (by simp [Frag.join, e', e])
   rw [hk k (Array.getElem?_eq_some_iff.1 this).1 e']; exact this
 ·rcases d k with e' | e'
  ·by_cases e2 : k = b
   ·simp [e2] at e'
   ·simp [e2]
  ·exact .inr e'
theorem Has.fresh {b : Nat} {o : Obj} (h : Has w l) (hk : ∀ k, k < w.heap.size → w'.heap[k]? = w.heap[k]?) (hb : w.heap.size ≤ b) (hn : w'.heap[b]? = some o) : Has w' (pt b o :: l) := by
 obtain ⟨h0, hw, hs⟩ := h
 have hz : h0 b = none := by
  cases e : h0 b with
  | none => rfl
  | some x => have := (Array.getElem?_eq_some_iff.1 (hw b x e)).1; omega
 refine ⟨_, fun k x e => ?_, (fun k => if k = b then some o else none), h0, fun k => ?_, rfl, rfl, hs⟩
 ·by_cases e' : k = b
  ·subst e'; simp [Frag.join] at e; subst e; exact hn
  ·simp [Frag.join, e'] at e
   have := hw k x e
   rw [hk k (Array.getElem?_eq_some_iff.1 this).1]; exact this
 ·by_cases e2 : k = b
  ·subst e2; exact .inr hz
  ·simp [e2]
theorem Has.alloc (h : Has w l) (o : Obj) : Has (w.alloc o) (pt w.heap.size o :: l) :=
 h.fresh (fun k hk => Below.heap_alloc _ _ _ hk) (Nat.le_refl _) (by show (w.heap.push o)[_]? = _; simp)
theorem Has.alloc' (h : Has w l) (o : Obj) : Has (w.alloc o) l := (h.alloc o).drop
theorem Has.drew (h : Has w l) : Has w.drew l := h
theorem Has.drewN (h : Has w l) (n : Nat) : Has (w.drewN n) l := h.frame fun k _ => by simp [World.drewN]
theorem Has.set {b : Nat} {C : Array Value} {T : TypeId} {z : Nat × Nat} (h : Has w (pt b (.cells C T z) :: l)) (off : Nat) (v : Value) : Has (w.setCell ⟨b, off, none⟩ v) (pt b (.cells (C.setIfInBounds off v) T z) :: l) := by
 refine h.turn (fun k _ hne => Below.heap_setCell _ _ _ _ hne) ?_
 have := h.lookup
 simp [World.setCell, Array.getElem?_modify, this]
theorem Has.setObj {b : Nat} {o : Obj} (h : Has w (pt b o :: l)) (o' : Obj) : Has { w with heap := w.heap.setIfInBounds b o' } (pt b o' :: l) := by
 refine h.turn (fun k _ hne => ?_) ?_
 ·simp [Ne.symm hne]
 ·have := h.lt
  simp [this]
theorem Has.cells {b : Nat} {C : Array Value} {T : TypeId} {z : Nat × Nat} (h : Has w (pt b (.cells C T z) :: l)) (i : Nat) : w.cell? ⟨b, i, none⟩ = C[i]? := by
 simp [World.cell?, h.lookup]
theorem Has.thaw {b : Nat} {C : Array Value} {T : TypeId} (h : Has w (pt b (.cells C T) :: l)) (i : Nat) : w.frozen? ⟨b, i, none⟩ = false := by
 simp [World.frozen?, h.lookup]
theorem Has.below {W : World} (h : Has w (old W :: l)) (h1 : w.os = W.os) (h2 : w.tape = W.tape) (h3 : w.output = W.output) : Below W.heap.size W w :=
 ⟨h1, h2, h3, h.old_size, h.old_look⟩
end
structure Keep (w w' : World) : Prop where
 os : w'.os = w.os
 tape : w'.tape = w.tape
 output : w'.output = w.output
 size : w.heap.size ≤ w'.heap.size
theorem Keep.refl (w : World) : Keep w w := ⟨rfl, rfl, rfl, Nat.le_refl _⟩
section
variable {a b c : World}
theorem Keep.trans (h : Keep a b) (k : Keep b c) : Keep a c := ⟨k.os.trans h.os, k.tape.trans h.tape, k.output.trans h.output, Nat.le_trans h.size k.size⟩
theorem Keep.alloc (h : Keep a b) (o : Obj) : Keep a (b.alloc o) := h.trans ⟨rfl, rfl, rfl, by simp⟩
theorem Keep.drew (h : Keep a b) : Keep a b.drew := h.trans ⟨rfl, rfl, rfl, Nat.le_refl _⟩
theorem Keep.drewN (h : Keep a b) (n : Nat) : Keep a (b.drewN n) := h.trans ⟨rfl, rfl, rfl, Nat.le_refl _⟩
theorem Keep.set (h : Keep a b) (p : Addr) (v : Value) : Keep a (b.setCell p v) := h.trans ⟨rfl, rfl, rfl, by simp⟩
theorem Keep.grown {row : Option Nat} (h : Keep a b) (k : b.grownBy c row) : Keep a c := h.trans ⟨k.os, k.tape, k.output, k.size⟩
theorem Keep.below {B : Nat} (h : Keep a b) (k : Below B b c) : Keep a c := h.trans ⟨k.os, k.tape, k.output, k.size⟩
end
def pick : List Bool → List HP → List HP
 | true :: m, p :: l => p :: pick m l
 | false :: m, _ :: l => pick m l
 | _, l => l
theorem Has.keepIn {w : World} : ∀ (m : List Bool) (acc l : List HP), Has w (acc ++ l) → Has w (acc ++ pick m l)
 | [], acc, l, h => by unfold pick; exact h
 | true :: m, acc, [], h => by unfold pick; exact h
 | false :: m, acc, [], h => by unfold pick; exact h
 | true :: m, acc, p :: l, h => by
  unfold pick
  have := Has.keepIn m (acc ++ [p]) l (by simpa using h)
  simpa using this
 | false :: m, acc, p :: l, h => by
  unfold pick
  exact Has.keepIn m acc l (h.perm (List.perm_middle) |>.drop)
theorem Has.keep {w : World} {l : List HP} (m : List Bool) (h : Has w l) : Has w (pick m l) := Has.keepIn m [] l h
end Go.Own
namespace Go.Own
open Go.RowKit
def row (v : Value) (e : TypeId) (size n : Nat) (xs : List Value) : HP := fun h => xs.length = n * size ∧
 ((v = .slice none 0 0 ∧ n = 0 ∧ emp h) ∨ ∃ (g cap : Nat) (cur : Array Value), v = .slice (some ⟨g, 0, none⟩) n cap ∧ n ≤ cap ∧ cap ≤ maxLen ∧ cur.size = cap * size ∧ cur.toList.take (n * size) = xs ∧ pt g (.cells cur e) h)
section
variable {w w' : World} {l : List HP} {v : Value} {e : TypeId} {size n : Nat} {xs : List Value}
theorem Has.row_nil (h : Has w l) (e : TypeId) (size : Nat) : Has w (row (.slice none 0 0) e size 0 [] :: l) :=
 (Has.emp_iff.2 h).imp fun _ ha => ⟨by simp, .inl ⟨rfl, rfl, ha⟩⟩
theorem Has.row_of {g cap : Nat} {cur : Array Value} (h : Has w (pt g (.cells cur e) :: l)) (h1 : n ≤ cap) (h2 : cap ≤ maxLen) (h3 : cur.size = cap * size) (h4 : cur.toList.take (n * size) = xs) (h5 : xs.length = n * size) :
  Has w (row (.slice (some ⟨g, 0, none⟩) n cap) e size n xs :: l) :=
 h.imp fun _ ha => ⟨h5, .inr ⟨g, cap, cur, rfl, h1, h2, h3, h4, ha⟩⟩
theorem Has.row_cases (h : Has w (row v e size n xs :: l)) : xs.length = n * size ∧ ((v = .slice none 0 0 ∧ n = 0 ∧ xs = [] ∧ Has w l) ∨
  ∃ (g cap : Nat) (cur : Array Value), v = .slice (some ⟨g, 0, none⟩) n cap ∧ n ≤ cap ∧ cap ≤ maxLen ∧ cur.size = cap * size ∧ cur.toList.take (n * size) = xs ∧ Has w (pt g (.cells cur e) :: l)) := by
 obtain ⟨_, hw, a, b, d, rfl, ⟨hl, ha⟩, hb⟩ := h
 refine ⟨hl, ?_⟩
 rcases ha with ⟨rfl, rfl, ha⟩ | ⟨g, cap, cur, rfl, h1, h2, h3, h4, ha⟩
 ·left
  refine ⟨rfl, rfl, List.eq_nil_of_length_eq_zero (by simpa using hl), ?_⟩
  refine ⟨b, fun k o eq => hw k o ?_, hb⟩
  rw [show a = fun _ => none from ha, Frag.none_join]; exact eq
 ·exact .inr ⟨g, cap, cur, rfl, h1, h2, h3, h4, _, hw, a, b, d, rfl, ha, hb⟩
theorem Has.row_own (h : Has w (row v e size n xs :: l)) : w.ownsRow 0 e size v n xs := by
 obtain ⟨hl, h | ⟨g, cap, cur, rfl, h1, h2, h3, h4, h5⟩⟩ := h.row_cases
 ·exact ⟨hl, .inl ⟨h.1, h.2.1⟩⟩
 ·exact ⟨hl, .inr ⟨g, cap, cur, rfl, Nat.zero_le _, h5.lookup, h1, h2, h3, h4⟩⟩
theorem take_getElem? {α : Type} {l : List α} {m i : Nat} (h : i < m) : (l.take m)[i]? = l[i]? := by
 rw [List.getElem?_take, if_pos h]
theorem Has.row_cells {g cap m : Nat} (h : Has w (row (.slice (some ⟨g, 0, none⟩) m cap) e size n xs :: l)) : m = n ∧ (∀ j, j < n * size → w.cell? ⟨g, j, none⟩ = xs[j]?) ∧ (∀ j, w.frozen? ⟨g, j, none⟩ = false) ∧ n ≤ cap ∧ cap ≤ maxLen := by
 obtain ⟨hl, h | ⟨g', cap', cur, e1, h1, h2, h3, h4, h5⟩⟩ := h.row_cases
 ·exact absurd h.1 (by simp)
 ·simp only [Value.slice.injEq, Option.some.injEq, Addr.mk.injEq] at e1
  obtain ⟨⟨rfl, -, -⟩, rfl, rfl⟩ := e1
  refine ⟨rfl, fun j hj => ?_, h5.thaw, h1, h2⟩
  rw [h5.cells, ← h4, take_getElem? hj, Array.getElem?_toList]
theorem Has.row_set {g cap m : Nat} (h : Has w (row (.slice (some ⟨g, 0, none⟩) m cap) e size n xs :: l)) (j : Nat) (hj : j < n * size) (u : Value) :
  Has (w.setCell ⟨g, j, none⟩ u) (row (.slice (some ⟨g, 0, none⟩) m cap) e size n (xs.set j u) :: l) := by
 obtain ⟨hl, h | ⟨g', cap', cur, e1, h1, h2, h3, h4, h5⟩⟩ := h.row_cases
 ·exact absurd h.1 (by simp)
 ·simp only [Value.slice.injEq, Option.some.injEq, Addr.mk.injEq] at e1
  obtain ⟨⟨rfl, -, -⟩, rfl, rfl⟩ := e1
  refine (h5.set _ u).row_of h1 h2 (by simpa using h3) ?_ (by simpa using hl)
  rw [Array.toList_setIfInBounds, List.take_set, h4]
theorem Has.append {P : Program} (hO : Has w (row v e size n xs :: l)) (t ty : TypeId) (i : TypeInfo) (z : Value) (bytes : Nat) (ht : P.underlying t = some (.slice e)) (hi : P.info? e = some i) (hz : i.zero = some z)
  (hsize : i.size = size) (hby : i.bytes = bytes) (hzs : z.cells.size = size)
  (a : Addr) (m c : Nat) (news : List Value) (hl : news.length = m * size) (hnews : ∀ j u, news[j]? = some u → w.cell? (a.add j) = some u) (h1 : ∀ u ∈ news, u.oneCell' = true)
  (h63 : n + m ≤ maxLen) (hbytes : (n + m) * bytes ≤ 140737488355328) :
  ∃ v' w', (Builtin.append_ #[t, t] ty #[v, .slice (some a) m c]).run P w = .ok v' w' ∧ Has w' (row v' e size (n + m) (xs ++ news) :: l) ∧ Keep w w' ∧
   (v' = .slice none 0 0 ↔ v = .slice none 0 0 ∧ m = 0) := by
 subst hsize
 subst hby
 have hsmall : n + m ≤ 9223372036854775807 := by simp only [maxLen] at h63; omega
 obtain ⟨hxl, hc⟩ := hO.row_cases
 have hlen : (xs ++ news).length = (n + m) * i.size := by rw [List.length_append, hxl, hl, Nat.add_mul]
 have hO0 : Has w l := hO.drop
 have grown : ∀ (old : Nat), old < n + m →
   Has (w.drew.alloc (.cells (xs.toArray ++ news.toArray ++ Builtin.zeroCells z.cells (grownCap w (n + m) old e - (n + m))) e))
    (row (.slice (some ⟨w.heap.size, 0, none⟩) (n + m) (grownCap w (n + m) old e)) e i.size (n + m) (xs ++ news) :: l) ∧
   Keep w (w.drew.alloc (.cells (xs.toArray ++ news.toArray ++ Builtin.zeroCells z.cells (grownCap w (n + m) old e - (n + m))) e)) := by
  intro old ho
  have hge := grownCap_ge w (n + m) old e
  have hcm : grownCap w (n + m) old e ≤ maxLen := grownCap_le_maxLen w (n + m) old e h63
  refine ⟨(hO0.drew.alloc _).row_of hge hcm ?_ ?_ hlen, (Keep.refl w).drew.alloc _⟩
  ·simp only [Array.size_append, List.size_toArray, size_zeroCells, hzs, hxl, hl, ← Nat.add_mul]
   congr 1
   omega
  ·simp only [Array.toList_append, List.append_assoc]
   rw [← List.append_assoc, ← hlen]
   exact List.take_left
 rcases hc with ⟨rfl, rfl, rfl, hO'⟩ | ⟨g, cap, cur, rfl, hnc, hcm, hcs, htake, hp⟩
 ·by_cases hm : m = 0
  ·subst hm
   have hn : news = [] := List.eq_nil_of_length_eq_zero (by simpa using hl)
   subst hn
   refine ⟨.slice none 0 0, w, ?_, hO'.row_nil e i.size, Keep.refl w, by simp⟩
   simp [Builtin.append_, run_underlying ht, sizeOf, typeInfo, hi, Builtin.lenOf, Builtin.firstCells, loadCells, loadCellsFrom]
  ·have hr := run_append_nil (P := P) w t ty e i z ht hi hz a m c news hl hnews (by omega) (by omega) (by have hb := hbytes; simp only [Nat.zero_add] at hb; omega)
   have hgr := grown 0 (by omega)
   simp only [Nat.zero_add, List.nil_append, Array.empty_append] at hgr ⊢
   exact ⟨_, _, hr, hgr.1, hgr.2, by simp [hm]⟩
 ·by_cases hroom : n + m ≤ cap
  ·have hfit : n * i.size + news.length ≤ cur.size := by rw [hl, hcs, ← Nat.add_mul]; exact Nat.mul_le_mul_right _ hroom
   have hr := run_append_room (P := P) w t ty e i ht hi g n cap cur hp.lookup a m c news hl hnews h1 hroom hfit
   refine ⟨_, _, hr, (hp.turn (fun k _ hk => setRow_other w g k _ hk) (setRow_heap w g cur _ e _ hp.lookup)).row_of hroom hcm ?_ ?_ hlen, ⟨rfl, rfl, rfl, by simp⟩, by simp⟩
   ·simp only [List.size_toArray, List.length_append, List.length_take, List.length_drop, Array.length_toList]
    omega
   ·rw [htake, ← hlen]
    exact List.take_left
  ·have holds : ∀ j u, xs[j]? = some u → w.cell? ((⟨g, 0, none⟩ : Addr).add j) = some u := hO.row_own.cells (g := g) rfl
   have hr := run_append_grow (P := P) w t ty e i z ht hi hz ⟨g, 0, none⟩ n cap xs hxl holds a m c news hl hnews (by omega) (by omega) (growslice_fits (by omega) hbytes)
   have hgr := grown cap (by omega)
   exact ⟨_, _, hr, hgr.1, hgr.2, by simp⟩
theorem wp_append {P : Program} {o : Oper} {a : Act} {K : Act → World → Prop} {Q : Exit → Act → World → Prop} (s x : Operand) (t : TypeId)
  (ho : o.op = .call { callee := .builtin .append, args := #[s, x], argTypes := #[t, t] })
  (i : TypeInfo) (z : Value) (bytes : Nat) (ht : P.underlying t = some (.slice e)) (hi : P.info? e = some i) (hz : i.zero = some z)
  (hsize : i.size = size) (hby : i.bytes = bytes) (hzs : z.cells.size = size)
  (hO : Has w (row v e size n xs :: l)) (hs : a.eval s = v)
  (ad : Addr) (m c : Nat) (news : List Value) (hx : a.eval x = .slice (some ad) m c) (hl : news.length = m * size) (hnews : ∀ j u, news[j]? = some u → w.cell? (ad.add j) = some u) (h1 : ∀ u ∈ news, u.oneCell' = true)
  (h63 : n + m ≤ maxLen) (hbytes : (n + m) * bytes ≤ 140737488355328)
  (h : ∀ v' w', Has w' (row v' e size (n + m) (xs ++ news) :: l) → Keep w w' → (v' = .slice none 0 0 ↔ v = .slice none 0 0 ∧ m = 0) → K (a.put o.dst v') w') : o.wp P a w K Q := by
 obtain ⟨v', w', hr, h2, h3, h4⟩ := hO.append (P := P) t o.type i z bytes ht hi hz hsize hby hzs ad m c news hl hnews h1 h63 hbytes
 unfold Oper.wp execOp
 simp only [ho, resolve, invoke, builtin, Sem.run_bind, Sem.run_pure, Result.andThen_ok, List.map_toArray, List.map_cons, List.map_nil, hs, hx, hr]
 exact h v' w' h2 h3 h4
theorem wpList_append {P : Program} {ops : Array Oper} {rest : List Oper} {o : Oper} {a : Act} {Q : Exit → Act → World → Prop} (hgd : o.guard = none) (s x : Operand) (t : TypeId)
  (ho : o.op = .call { callee := .builtin .append, args := #[s, x], argTypes := #[t, t] })
  (i : TypeInfo) (z : Value) (bytes : Nat) (ht : P.underlying t = some (.slice e)) (hi : P.info? e = some i) (hz : i.zero = some z)
  (hsize : i.size = size) (hby : i.bytes = bytes) (hzs : z.cells.size = size)
  (hO : Has w (row v e size n xs :: l)) (hs : a.eval s = v)
  (ad : Addr) (m c : Nat) (news : List Value) (hx : a.eval x = .slice (some ad) m c) (hl : news.length = m * size) (hnews : ∀ j u, news[j]? = some u → w.cell? (ad.add j) = some u) (h1 : ∀ u ∈ news, u.oneCell' = true)
  (h63 : n + m ≤ maxLen) (hbytes : (n + m) * bytes ≤ 140737488355328)
  (h : ∀ v' w', Has w' (row v' e size (n + m) (xs ++ news) :: l) → Keep w w' → (v' = .slice none 0 0 ↔ v = .slice none 0 0 ∧ m = 0) → wpList P ops Q rest (a.put o.dst v') w') : wpList P ops Q (o :: rest) a w :=
 wpList_plain hgd fun _ hK => wp_append s x t ho i z bytes ht hi hz hsize hby hzs hO hs ad m c news hx hl hnews h1 h63 hbytes fun v' w' h2 h3 h4 => hK _ _ (h v' w' h2 h3 h4)
theorem wpList_append1 {P : Program} {ops : Array Oper} {rest : List Oper} {o : Oper} {a : Act} {Q : Exit → Act → World → Prop} (hgd : o.guard = none) (s x : Operand) (t : TypeId)
  (ho : o.op = .call { callee := .builtin .append, args := #[s, x], argTypes := #[t, t] })
  {z : Value} {bytes : Nat} (ht : P.underlying t = some (.slice e)) (hi : (P.info? e).map (fun i => (i.zero, i.size, i.bytes)) = some (some z, 1, bytes)) (hzs : z.cells.size = 1)
  (u : Value) (hO : Has w (row v e 1 n xs :: l)) (hs : a.eval s = v) (c : Nat) (b : Nat)
  (hx : a.eval x = .slice (some ⟨b, 0, none⟩) 1 c) (hu : w.cell? ⟨b, 0, none⟩ = some u) (h1 : u.oneCell' = true)
  (h63 : n + 1 ≤ maxLen) (hbytes : (n + 1) * bytes ≤ 140737488355328)
  (h : ∀ v' w', Has w' (row v' e 1 (n + 1) (xs ++ [u]) :: l) → Keep w w' → wpList P ops Q rest (a.put o.dst v') w') : wpList P ops Q (o :: rest) a w := by
 obtain ⟨i, hi, hz, hsz, hby⟩ := info_parts hi
 refine wpList_append hgd s x t ho i z bytes ht hi hz hsz hby hzs hO hs ⟨b, 0, none⟩ 1 c [u] hx rfl ?_ ?_ h63 hbytes fun v' w' h2 h3 _ => h v' w' h2 h3
 ·intro j y hj
  cases j with
  | zero => simp at hj; subst hj; simpa [Addr.add] using hu
  | succ j => simp at hj
 ·intro y hy; simp at hy; subst hy; exact h1
def Rd (w : World) (v : Value) (size n : Nat) (xs : List Value) : Prop := xs.length = n * size ∧ n ≤ maxLen ∧ ∃ (p : Option Addr) (cap : Nat), v = .slice p n cap ∧ n ≤ cap ∧
 (0 < n * size → ∃ (g o : Nat), p = some ⟨g, o, none⟩ ∧ ∀ j, j < n * size → w.cell? ⟨g, o + j, none⟩ = xs[j]?)
theorem Has.rd (h : Has w (row v e size n xs :: l)) : Rd w v size n xs := by
 obtain ⟨hl, h1 | ⟨g, cap, cur, rfl, h1, h2, h3, h4, h5⟩⟩ := h.row_cases
 ·exact ⟨hl, by rw [h1.2.1]; exact Nat.zero_le _, none, 0, by rw [h1.1, h1.2.1], by omega, fun hp => absurd hp (by rw [h1.2.1]; simp)⟩
 ·exact ⟨hl, by omega, _, cap, rfl, h1, fun _ => ⟨g, 0, rfl, fun j hj => by rw [Nat.zero_add]; exact h.row_cells.2.1 j hj⟩⟩
theorem Rd.drewN (h : Rd w v size n xs) (m : Nat) : Rd (w.drewN m) v size n xs := h
theorem Rd.cellsOld {w' : World} (h : Rd w v size n xs) (hk : ∀ k, k < w.heap.size → w'.heap[k]? = w.heap[k]?) : Rd w' v size n xs := by
 obtain ⟨h1, h2, p, cap, h3, h4, h5⟩ := h
 refine ⟨h1, h2, p, cap, h3, h4, fun hp => ?_⟩
 obtain ⟨g, o, h6, h7⟩ := h5 hp
 refine ⟨g, o, h6, fun j hj => ?_⟩
 rw [← h7 j hj]
 have hc := h7 j hj
 rw [List.getElem?_eq_getElem (by omega)] at hc
 exact World.cell?_of_block (hk g (World.block_lt_of_cell? w _ hc))
theorem Rd.alloc (h : Rd w v size n xs) (o : Obj) : Rd (w.alloc o) v size n xs := h.cellsOld fun _ hk => Below.heap_alloc _ _ _ hk
theorem le_maxLen {k : Nat} (h : k ≤ 1000000000000000000) : k ≤ maxLen := by unfold maxLen; omega
theorem Rd.form (h : Rd w v size n xs) : ∃ (p : Option Addr) (cap : Nat), v = .slice p n cap ∧ n ≤ cap ∧ n ≤ 9223372036854775807 ∧ (0 < n * size → ∃ (g o : Nat), p = some ⟨g, o, none⟩ ∧ ∀ j, j < n * size → w.cell? ⟨g, o + j, none⟩ = xs[j]?) := by
 obtain ⟨_, h2, p, cap, h3, h4, h5⟩ := h
 exact ⟨p, cap, h3, h4, by unfold maxLen at h2; omega, h5⟩
theorem add_plain (g o j : Nat) : (⟨g, o, none⟩ : Addr).add j = ⟨g, o + j, none⟩ := by unfold Addr.add; split <;> simp_all
def ic (xs : List Int) : List Value := xs.map (Value.int .i64)
theorem ic_snoc (xs : List Int) (x : Int) : ic (xs ++ [x]) = ic xs ++ [.int .i64 x] := by simp [ic]
def bc (xs : List Int) : List Value := xs.map (Value.int .u8)
def nilS : Value → Bool
 | .slice none _ _ => true
 | _ => false
theorem Has.row_nilS (h : Has w (row v e size n xs :: l)) (hv : v ≠ .slice none 0 0) : nilS v = false := by
 obtain ⟨-, h1 | ⟨g, cap, cur, rfl, -⟩⟩ := h.row_cases
 ·exact absurd h1.1 hv
 ·rfl
theorem wpList_append_rd {P : Program} {ops : Array Oper} {rest : List Oper} {o : Oper} {a : Act} {Q : Exit → Act → World → Prop} (hgd : o.guard = none) (s x : Operand) (t : TypeId)
  (ho : o.op = .call { callee := .builtin .append, args := #[s, x], argTypes := #[t, t] })
  {z : Value} {bytes : Nat} (ht : P.underlying t = some (.slice e)) (hi : (P.info? e).map (fun i => (i.zero, i.size, i.bytes)) = some (some z, size, bytes)) (hzs : z.cells.size = size)
  (hO : Has w (row v e size n xs :: l)) (hs : a.eval s = v) (ad : Addr) (m c : Nat) (ys : List Value) (hx : a.eval x = .slice (some ad) m c) (hr : Rd w (.slice (some ad) m c) size m ys) (h1 : ∀ u ∈ ys, u.oneCell' = true)
  (h63 : n + m ≤ maxLen) (hbytes : (n + m) * bytes ≤ 140737488355328)
  (h : ∀ v' w', Has w' (row v' e size (n + m) (xs ++ ys) :: l) → Keep w w' → (v' = .slice none 0 0 ↔ v = .slice none 0 0 ∧ m = 0) → wpList P ops Q rest (a.put o.dst v') w') : wpList P ops Q (o :: rest) a w := by
 obtain ⟨i, hi, hz, hsz, hby⟩ := info_parts hi
 refine wpList_append hgd s x t ho i z bytes ht hi hz hsz hby hzs hO hs ad m c ys hx hr.1 ?_ h1 h63 hbytes h
 intro j y hj
 obtain ⟨hl, -, p, cap, e1, -, hc⟩ := hr
 cases e1
 have hjl : j < m * size := by rw [← hl]; exact (List.getElem?_eq_some_iff.1 hj).1
 obtain ⟨g, o, e2, hc2⟩ := hc (by omega)
 cases e2
 rw [add_plain, hc2 j hjl, hj]
theorem bc_one (xs : List Int) : ∀ u ∈ bc xs, u.oneCell' = true := by
 intro u hu
 simp only [bc, List.mem_map] at hu
 obtain ⟨x, -, rfl⟩ := hu
 rfl
theorem wp_append1 {P : Program} {o : Oper} {a : Act} {K : Act → World → Prop} {Q : Exit → Act → World → Prop} (s x : Operand) (t : TypeId)
  (ho : o.op = .call { callee := .builtin .append, args := #[s, x], argTypes := #[t, t] })
  {z : Value} {bytes : Nat} (ht : P.underlying t = some (.slice e)) (hi : (P.info? e).map (fun i => (i.zero, i.size, i.bytes)) = some (some z, size, bytes)) (hzs : z.cells.size = size)
  (us : List Value) (hus : us.length = size) (hO : Has w (row v e size n xs :: l)) (hs : a.eval s = v) (c : Nat) (b : Nat)
  (hx : a.eval x = .slice (some ⟨b, 0, none⟩) 1 c) (hu : ∀ j, w.cell? ⟨b, j, none⟩ = us[j]?) (h1 : ∀ u ∈ us, u.oneCell' = true)
  (h63 : n + 1 ≤ maxLen) (hbytes : (n + 1) * bytes ≤ 140737488355328)
  (h : ∀ v' w', Has w' (row v' e size (n + 1) (xs ++ us) :: l) → Keep w w' → K (a.put o.dst v') w') : o.wp P a w K Q := by
 obtain ⟨i, hi, hz, hsz, hby⟩ := info_parts hi
 refine wp_append s x t ho i z bytes ht hi hz hsz hby hzs hO hs ⟨b, 0, none⟩ 1 c us hx (by rw [hus, Nat.one_mul]) ?_ h1 h63 hbytes fun v' w' h2 h3 _ => h v' w' h2 h3
 intro j y hj
 rw [add_plain, Nat.zero_add, hu, hj]
end
end Go.Own
namespace Go.Own
open Go.RowKit
structure Qc where
 fs : List FuncId
 val : FuncId → Array Value → Value
 made : List TypeId
def noQ : Qc := ⟨[], fun _ _ => undef, []⟩
section
variable {P : Program} {ops : Array Oper} {S : World → Prop} {rd : Nat → Bool} {qc : Qc}
def readsAt (P : Program) (qc : Qc) (S : World → Prop) (o : Oper) (a : Act) (v : Value) : Prop :=
 (∀ w, S w → (execOp a.eval o).run P w = .ok (.value v) w) ∨
 ∃ f args, v = qc.val f args ∧ ∀ w, S w → (execOp a.eval o).run P w = .ok (.enter f args) w ∧ Calls P f args w fun e w' => e = .returned v ∧ w = w'
theorem readsAt_one {qc : Qc} {o : Oper} {a : Act} {v u : Value} {w : World} (hS : S w) (h1 : readsAt P qc S o a v) (h2 : readsAt P qc S o a u) : u = v := by
 rcases h1 with h1 | ⟨f, args, rfl, h1⟩
 ·have e1 := h1 w hS
  rcases h2 with h2 | ⟨f, args, rfl, h2⟩
  ·rw [h2 w hS] at e1; injection e1 with e1 _; injection e1
  ·rw [(h2 w hS).1] at e1; injection e1 with e1 _; cases e1
 ·have e1 := (h1 w hS).1
  rcases h2 with h2 | ⟨f', args', rfl, h2⟩
  ·rw [h2 w hS] at e1; injection e1 with e1 _; cases e1
  ·rw [(h2 w hS).1] at e1; injection e1 with e1 _; injection e1 with e1 e2; rw [e1, e2]
theorem readsAt_wp {qc : Qc} {o : Oper} {a : Act} {v : Value} {w : World} {K : Act → World → Prop} {Q : Exit → Act → World → Prop} (hS : S w) (h : readsAt P qc S o a v) (hK : K (a.put o.dst v) w) : o.wp P a w K Q := by
 unfold Oper.wp
 rcases h with h | ⟨f, args, -, h⟩
 ·rw [h w hS]; exact hK
 ·rw [(h w hS).1]
  refine Calls.mono (h w hS).2 fun e w' he => ?_
  obtain ⟨rfl, rfl⟩ := he
  exact hK
def wpT (P : Program) (qc : Qc) (ops : Array Oper) (S : World → Prop) (rd : Nat → Bool) (Q : Act → World → Prop) : List Nat → Act → World → Prop
 | [], a, w => Q a w
 | i :: rest, a, w => match ops[i]? with
  | none => wpT P qc ops S rd Q rest a w
  | some o => if Region.wanted o (yielded ops a.tmps) = true then
    (if rd i = true then ∃ v, readsAt P qc S o a v ∧ wpT P qc ops S rd Q rest (a.put o.dst v) w
    else o.wp P a w (fun a' w' => S w' ∧ wpT P qc ops S rd Q rest a' w') (fun _ _ _ => False))
   else wpT P qc ops S rd Q rest (a.put o.dst undef) w
def stT (P : Program) (qc : Qc) (ops : Array Oper) (S : World → Prop) (rd : Nat → Bool) (i : Nat) (K : Act → World → Prop) (a : Act) (w : World) : Prop :=
 match ops[i]? with
 | none => K a w
 | some o => if Region.wanted o (yielded ops a.tmps) = true then
   (if rd i = true then ∃ v, readsAt P qc S o a v ∧ K (a.put o.dst v) w
   else o.wp P a w (fun a' w' => S w' ∧ K a' w') (fun _ _ _ => False))
  else K (a.put o.dst undef) w
theorem wpT_cons {Q : Act → World → Prop} (i : Nat) (rest : List Nat) (a : Act) (w : World) : wpT P qc ops S rd Q (i :: rest) a w = stT P qc ops S rd i (wpT P qc ops S rd Q rest) a w := by
 cases h : ops[i]? <;> simp [wpT, stT, h]
theorem stT_mono {i : Nat} {K K' : Act → World → Prop} {a : Act} {w : World} (hS : S w) (h : ∀ a w, S w → K a w → K' a w) (hh : stT P qc ops S rd i K a w) : stT P qc ops S rd i K' a w := by
 unfold stT at *
 split
 ·exact h _ _ hS (by simpa [*] using hh)
 ·rename_i o ho
  simp only [ho] at hh
  split
  ·rename_i hw
   simp only [hw, if_true] at hh
   split
   ·rename_i hr
    simp only [hr, if_true] at hh
    obtain ⟨v, h1, h2⟩ := hh
    exact ⟨v, h1, h _ _ hS h2⟩
   ·rename_i hr
    simp only [hr, if_false, Bool.false_eq_true] at hh
    exact Oper.wp_mono (fun a w ⟨h1, h2⟩ => ⟨h1, h _ _ h1 h2⟩) hh
  ·rename_i hw
   simp only [hw, if_false, Bool.false_eq_true] at hh
   exact h _ _ hS hh
theorem wp_some {o : Oper} {a : Act} {w : World} {K : Act → World → Prop} (h : o.wp P a w K fun _ _ _ => False) :
  ∃ v d w', K ({ a with defers := d }.put o.dst v) w' := by
 unfold Oper.wp at h
 generalize (execOp a.eval o).run P w = r at h
 cases r with
 | ok n w' =>
  cases n <;> simp only [Oper.upon] at h
  case value u => exact ⟨u, a.defers, w', h⟩
  case skip => exact ⟨undef, a.defers, w', h⟩
  case defer d => exact ⟨undef, d :: a.defers, w', h⟩
  case enter f args =>
   obtain ⟨e, w'', fr, hR, -⟩ := h []
   cases e with
   | returned u => exact ⟨u, a.defers, w'', hR⟩
   | panicked c => exact hR.elim
   | outgrown => obtain ⟨_, _, hf⟩ := hR; exact hf.elim
  case row row args =>
   obtain ⟨v, w'', hR, -⟩ := h default []
   exact ⟨v, a.defers, w'', hR⟩
 | halt x w' => cases x <;> simp only [Oper.upon] at h
theorem readsAt_put {o : Oper} {a : Act} {dst : Option Tmp} {u v : Value} (hs : ∀ cs b, o.op ≠ .select cs b) (h : ∀ d, dst = some d → d ∉ o.looksAt ops) : readsAt P qc S o (a.put dst u) v ↔ readsAt P qc S o a v := by
 unfold readsAt
 rw [execOp_put o hs a dst u h]
theorem wp_put {o : Oper} {a : Act} {w : World} {dst : Option Tmp} {v : Value} {K : Act → World → Prop} (hs : ∀ cs b, o.op ≠ .select cs b) (h : ∀ d, dst = some d → d ∉ o.looksAt ops) (h2 : ∀ d, dst = some d → o.dst ≠ some d) :
  o.wp P (a.put dst v) w K (fun _ _ _ => False) → o.wp P a w (fun a' w' => K (a'.put dst v) w') (fun _ _ _ => False) := by
 intro hh
 unfold Oper.wp at *
 rw [execOp_put o hs a dst v h] at hh
 generalize (execOp a.eval o).run P w = r at *
 cases r with
 | ok n w' =>
  cases n <;> simp only [Oper.upon] at hh ⊢
  case value u => rw [← Act.put_comm a v u h2]; exact hh
  case skip => rw [← Act.put_comm a v undef h2]; exact hh
  case defer d => rw [← Act.put_comm _ v undef h2, ← Act.put_defers]; exact hh
  case enter f args =>
   refine Calls.mono hh fun e w'' he => ?_
   cases e with
   | returned u => show K _ _; rw [← Act.put_comm a v u h2]; exact he
   | panicked c => exact he
   | outgrown => exact he
  case row row args => exact Rows.mono hh fun u w'' he => by rw [← Act.put_comm a v u h2]; exact he
 | halt x w' => cases x <;> simp only [Oper.upon] at hh ⊢
theorem put_wp {o : Oper} {a : Act} {w : World} {dst : Option Tmp} {v : Value} {K : Act → World → Prop} (hs : ∀ cs b, o.op ≠ .select cs b) (h : ∀ d, dst = some d → d ∉ o.looksAt ops) (h2 : ∀ d, dst = some d → o.dst ≠ some d) :
  o.wp P a w (fun a' w' => K (a'.put dst v) w') (fun _ _ _ => False) → o.wp P (a.put dst v) w K (fun _ _ _ => False) := by
 intro hh
 unfold Oper.wp at *
 rw [execOp_put o hs a dst v h]
 generalize (execOp a.eval o).run P w = r at *
 cases r with
 | ok n w' =>
  cases n <;> simp only [Oper.upon] at hh ⊢
  case value u => rw [Act.put_comm a v u h2]; exact hh
  case skip => rw [Act.put_comm a v undef h2]; exact hh
  case defer d => rw [Act.put_defers, Act.put_comm _ v undef h2]; exact hh
  case enter f args =>
   refine Calls.mono hh fun e w'' he => ?_
   cases e with
   | returned u => show K _ _; rw [Act.put_comm a v u h2]; exact he
   | panicked c => exact he
   | outgrown => exact he
  case row row args => exact Rows.mono hh fun u w'' he => by rw [Act.put_comm a v u h2]; exact he
 | halt x w' => cases x <;> simp only [Oper.upon] at hh ⊢
theorem stT_swap {k i : Nat} {ok oi : Oper} (hk : ops[k]? = some ok) (hi : ops[i]? = some oi) (hap : ok.apart ops oi = true) (hrd : rd k = true ∨ rd i = true)
  (hsk : ∀ cs b, ok.op ≠ .select cs b) (hsi : ∀ cs b, oi.op ≠ .select cs b) {K : Act → World → Prop} {a : Act} {w : World} (hS : S w)
  (h : stT P qc ops S rd k (stT P qc ops S rd i K) a w) : stT P qc ops S rd i (stT P qc ops S rd k K) a w := by
 obtain ⟨h1, h2, h3⟩ := Oper.apart_spec hap
 have h4 : ∀ d, oi.dst = some d → ok.dst ≠ some d := fun d e1 e2 => h2 d e2 e1
 have wk : ∀ (a : Act) u, Region.wanted ok (yielded ops (a.put oi.dst u).tmps) = Region.wanted ok (yielded ops a.tmps) := fun a u => wanted_put ok a oi.dst u h3
 have wi : ∀ (a : Act) u, Region.wanted oi (yielded ops (a.put ok.dst u).tmps) = Region.wanted oi (yielded ops a.tmps) := fun a u => wanted_put oi a ok.dst u h1
 have cm : ∀ (a : Act) u v, (a.put ok.dst u).put oi.dst v = (a.put oi.dst v).put ok.dst u := fun a u v => Act.put_comm a u v h2
 unfold stT at *
 simp only [hk, hi] at *
 by_cases hwk : Region.wanted ok (yielded ops a.tmps) = true
 ·simp only [hwk, if_true] at h
  by_cases hrk : rd k = true
  ·simp only [hrk, if_true] at h
   obtain ⟨v, hv, h⟩ := h
   rw [wi] at h
   by_cases hwi : Region.wanted oi (yielded ops a.tmps) = true
   ·simp only [hwi, if_true] at h ⊢
    by_cases hri : rd i = true
    ·simp only [hri, if_true] at h ⊢
     obtain ⟨u, hu, h⟩ := h
     refine ⟨u, (readsAt_put hsi h1).1 hu, ?_⟩
     rw [wk]
     simp only [hwk, hrk, if_true]
     exact ⟨v, (readsAt_put hsk h3).2 hv, by rw [← cm]; exact h⟩
    ·simp only [hri, if_false, Bool.false_eq_true] at h ⊢
     have := wp_put hsi h1 h2 h
     unfold Oper.wp at this ⊢
     generalize (execOp a.eval oi).run P w = r at *
     have key : ∀ (a' : Act) (w' : World), (∃ u d, a' = ({ a with defers := d } : Act).put oi.dst u) → S w' ∧ K (a'.put ok.dst v) w' →
       S w' ∧ (if Region.wanted ok (yielded ops a'.tmps) = true then (if rd k = true then ∃ v, readsAt P qc S ok a' v ∧ K (a'.put ok.dst v) w' else ok.wp P a' w' (fun a'' w'' => S w'' ∧ K a'' w'') fun _ _ _ => False) else K (a'.put ok.dst undef) w') := by
      rintro a' w' ⟨u, d, rfl⟩ ⟨s1, s2⟩
      refine ⟨s1, ?_⟩
      rw [wk]
      rw [if_pos (show Region.wanted ok (yielded ops ({ a with defers := d } : Act).tmps) = true from hwk), if_pos hrk]
      exact ⟨v, (readsAt_put hsk h3).2 hv, s2⟩
     cases r with
     | ok n w' =>
      cases n <;> simp only [Oper.upon] at this ⊢
      case value u => exact key _ _ ⟨u, a.defers, rfl⟩ this
      case skip => exact key _ _ ⟨undef, a.defers, rfl⟩ this
      case defer d => exact key _ _ ⟨undef, d :: a.defers, rfl⟩ this
      case enter f args =>
       refine Calls.mono this fun e w'' he => ?_
       cases e with
       | returned u => exact key _ _ ⟨u, a.defers, rfl⟩ he
       | panicked c => exact he
       | outgrown => exact he
      case row row args => exact Rows.mono this fun u w'' he => key _ _ ⟨u, a.defers, rfl⟩ he
     | halt x w' => cases x <;> simp only [Oper.upon] at this ⊢
   ·simp only [hwi, if_false, Bool.false_eq_true] at h ⊢
    rw [wk]
    simp only [hwk, hrk, if_true]
    exact ⟨v, (readsAt_put hsk h3).2 hv, by rw [← cm]; exact h⟩
  ·have hri : rd i = true := hrd.resolve_left hrk
   simp only [hrk, if_false, Bool.false_eq_true] at h
   by_cases hwi : Region.wanted oi (yielded ops a.tmps) = true
   ·simp only [hwi, hri, if_true]
    obtain ⟨u, d, w', s1, s2⟩ := wp_some h
    rw [wi, if_pos (show Region.wanted oi (yielded ops ({ a with defers := d } : Act).tmps) = true from hwi), if_pos hri] at s2
    obtain ⟨v, hv, -⟩ := s2
    have hv0 : readsAt P qc S oi a v := by
     have := (readsAt_put (P := P) (qc := qc) (S := S) (a := { a with defers := d }) (u := u) (v := v) hsi h1).1 hv
     exact this
    refine ⟨v, hv0, ?_⟩
    rw [wk]
    simp only [hwk, hrk, if_true, if_false, Bool.false_eq_true]
    refine put_wp (K := fun a' w' => S w' ∧ K a' w') hsk h3 h4 ?_
    unfold Oper.wp at h ⊢
    generalize (execOp a.eval ok).run P w = r at *
    have key : ∀ (a' : Act) (w' : World), (∃ u d, a' = ({ a with defers := d } : Act).put ok.dst u) → (S w' ∧ (if Region.wanted oi (yielded ops a'.tmps) = true then (if rd i = true then ∃ v, readsAt P qc S oi a' v ∧ K (a'.put oi.dst v) w' else oi.wp P a' w' (fun a'' w'' => S w'' ∧ K a'' w'') fun _ _ _ => False) else K (a'.put oi.dst undef) w')) →
      S w' ∧ K (a'.put oi.dst v) w' := by
     rintro a' w' ⟨u, d, rfl⟩ ⟨s1, s2⟩
     refine ⟨s1, ?_⟩
     rw [wi, if_pos (show Region.wanted oi (yielded ops ({ a with defers := d } : Act).tmps) = true from hwi), if_pos hri] at s2
     obtain ⟨v', hv', s3⟩ := s2
     have hv1 : readsAt P qc S oi a v' := (readsAt_put (P := P) (qc := qc) (S := S) (a := { a with defers := d }) (u := u) (v := v') hsi h1).1 hv'
     have e : v' = v := by
      exact readsAt_one s1 hv0 hv1
     rw [← e]; exact s3
    cases r with
    | ok n w' =>
     cases n <;> simp only [Oper.upon] at h ⊢
     case value u => exact key _ _ ⟨u, a.defers, rfl⟩ h
     case skip => exact key _ _ ⟨undef, a.defers, rfl⟩ h
     case defer d => exact key _ _ ⟨undef, d :: a.defers, rfl⟩ h
     case enter f args =>
      refine Calls.mono h fun e w'' he => ?_
      cases e with
      | returned u => exact key _ _ ⟨u, a.defers, rfl⟩ he
      | panicked c => exact he
      | outgrown => exact he
     case row row args => exact Rows.mono h fun u w'' he => key _ _ ⟨u, a.defers, rfl⟩ he
    | halt x w' => cases x <;> simp only [Oper.upon] at h ⊢
   ·simp only [hwi, if_false, Bool.false_eq_true]
    rw [wk]
    simp only [hwk, hrk, if_true, if_false, Bool.false_eq_true]
    refine put_wp (K := fun a' w' => S w' ∧ K a' w') hsk h3 h4 ?_
    unfold Oper.wp at h ⊢
    generalize (execOp a.eval ok).run P w = r at *
    have key : ∀ (a' : Act) (w' : World), (∃ u d, a' = ({ a with defers := d } : Act).put ok.dst u) → (S w' ∧ (if Region.wanted oi (yielded ops a'.tmps) = true then (if rd i = true then ∃ v, readsAt P qc S oi a' v ∧ K (a'.put oi.dst v) w' else oi.wp P a' w' (fun a'' w'' => S w'' ∧ K a'' w'') fun _ _ _ => False) else K (a'.put oi.dst undef) w')) →
      S w' ∧ K (a'.put oi.dst undef) w' := by
     rintro a' w' ⟨u, d, rfl⟩ ⟨s1, s2⟩
     refine ⟨s1, ?_⟩
     rw [wi, if_neg (show ¬ Region.wanted oi (yielded ops ({ a with defers := d } : Act).tmps) = true from hwi)] at s2
     exact s2
    cases r with
    | ok n w' =>
     cases n <;> simp only [Oper.upon] at h ⊢
     case value u => exact key _ _ ⟨u, a.defers, rfl⟩ h
     case skip => exact key _ _ ⟨undef, a.defers, rfl⟩ h
     case defer d => exact key _ _ ⟨undef, d :: a.defers, rfl⟩ h
     case enter f args =>
      refine Calls.mono h fun e w'' he => ?_
      cases e with
      | returned u => exact key _ _ ⟨u, a.defers, rfl⟩ he
      | panicked c => exact he
      | outgrown => exact he
     case row row args => exact Rows.mono h fun u w'' he => key _ _ ⟨u, a.defers, rfl⟩ he
    | halt x w' => cases x <;> simp only [Oper.upon] at h ⊢
 ·simp only [hwk, if_false, Bool.false_eq_true] at h
  rw [wi] at h
  by_cases hwi : Region.wanted oi (yielded ops a.tmps) = true
  ·simp only [hwi, if_true] at h ⊢
   by_cases hri : rd i = true
   ·simp only [hri, if_true] at h ⊢
    obtain ⟨u, hu, h⟩ := h
    refine ⟨u, (readsAt_put hsi h1).1 hu, ?_⟩
    rw [wk]
    simp only [hwk, if_false, Bool.false_eq_true]
    rw [← cm]; exact h
   ·simp only [hri, if_false, Bool.false_eq_true] at h ⊢
    have := wp_put hsi h1 h2 h
    unfold Oper.wp at this ⊢
    generalize (execOp a.eval oi).run P w = r at *
    have key : ∀ (a' : Act) (w' : World), (∃ u d, a' = ({ a with defers := d } : Act).put oi.dst u) → S w' ∧ K (a'.put ok.dst undef) w' →
      S w' ∧ (if Region.wanted ok (yielded ops a'.tmps) = true then (if rd k = true then ∃ v, readsAt P qc S ok a' v ∧ K (a'.put ok.dst v) w' else ok.wp P a' w' (fun a'' w'' => S w'' ∧ K a'' w'') fun _ _ _ => False) else K (a'.put ok.dst undef) w') := by
     rintro a' w' ⟨u, d, rfl⟩ ⟨s1, s2⟩
     refine ⟨s1, ?_⟩
     rw [wk, if_neg (show ¬ Region.wanted ok (yielded ops ({ a with defers := d } : Act).tmps) = true from hwk)]
     exact s2
    cases r with
    | ok n w' =>
     cases n <;> simp only [Oper.upon] at this ⊢
     case value u => exact key _ _ ⟨u, a.defers, rfl⟩ this
     case skip => exact key _ _ ⟨undef, a.defers, rfl⟩ this
     case defer d => exact key _ _ ⟨undef, d :: a.defers, rfl⟩ this
     case enter f args =>
      refine Calls.mono this fun e w'' he => ?_
      cases e with
      | returned u => exact key _ _ ⟨u, a.defers, rfl⟩ he
      | panicked c => exact he
      | outgrown => exact he
     case row row args => exact Rows.mono this fun u w'' he => key _ _ ⟨u, a.defers, rfl⟩ he
    | halt x w' => cases x <;> simp only [Oper.upon] at this ⊢
  ·simp only [hwi, if_false, Bool.false_eq_true] at h ⊢
   rw [wk]
   simp only [hwk, if_false, Bool.false_eq_true]
   rw [← cm]; exact h
def ahead (ops : Array Oper) : List (List Nat) :=
 ops.toList.foldl (fun acc o => acc ++ [((o.after.toList.filter fun e => Region.binds .any e).flatMap fun e => e.on :: acc.getD e.on []).eraseDups]) []
def textOK (ops : Array Oper) (rd : Nat → Bool) : Bool :=
 let A := ahead ops
 Region.noSelect ops &&
 (List.range ops.size).all fun i => match ops[i]? with
  | none => true
  | some oi => (oi.after.all fun e => !Region.binds .any e || decide (e.on < i)) &&
   (List.range i).all fun k => (A.getD i []).contains k || match ops[k]? with
    | none => true
    | some ok => ok.apart ops oi && (rd k || rd i)
inductive Anc (ops : Array Oper) : Nat → Nat → Prop
 | edge {i : Nat} {o : Oper} {e : Edge} (h : ops[i]? = some o) (he : e ∈ o.after) (hb : Region.binds .any e = true) : Anc ops i e.on
 | step {i k : Nat} {o : Oper} {e : Edge} (h : ops[i]? = some o) (he : e ∈ o.after) (hb : Region.binds .any e = true) (hk : Anc ops e.on k) : Anc ops i k
theorem ahead_spec (ops : Array Oper) : ∀ i k, k ∈ (ahead ops).getD i [] → Anc ops i k := by
 have key : ∀ (l : List Oper) (acc : List (List Nat)), (∀ i k, k ∈ acc.getD i [] → Anc ops i k) → (∀ j o, l[j]? = some o → ops[acc.length + j]? = some o) →
   ∀ i k, k ∈ (l.foldl (fun acc o => acc ++ [((o.after.toList.filter fun e => Region.binds .any e).flatMap fun e => e.on :: acc.getD e.on []).eraseDups]) acc).getD i [] → Anc ops i k := by
  intro l
  induction l with
  | nil => intro acc h _; exact h
  | cons o l ih =>
   intro acc h hl
   rw [List.foldl_cons]
   refine ih _ ?_ ?_
   ·intro i k hk
    by_cases hi : i < acc.length
    ·rw [List.getD_eq_getElem?_getD, List.getElem?_append_left hi, ← List.getD_eq_getElem?_getD] at hk
     exact h i k hk
    ·by_cases hi2 : i = acc.length
     ·subst hi2
      rw [List.getD_eq_getElem?_getD, List.getElem?_append_right (Nat.le_refl _)] at hk
      simp only [Nat.sub_self, List.getElem?_cons_zero, Option.getD_some, List.mem_eraseDups, List.mem_flatMap, List.mem_filter] at hk
      obtain ⟨e, ⟨he, hb⟩, hk⟩ := hk
      have ho : ops[acc.length]? = some o := by simpa using hl 0 o (by simp)
      rcases List.mem_cons.1 hk with rfl | hk
      ·exact .edge ho (by simpa using he) hb
      ·exact .step ho (by simpa using he) hb (h _ _ hk)
     ·rw [List.getD_eq_getElem?_getD, List.getElem?_eq_none (by simp; omega)] at hk
      simp at hk
   ·intro j o' hj
    have := hl (j + 1) o' (by simpa using hj)
    simpa [Nat.add_assoc, Nat.add_comm 1 j] using this
 intro i k hk
 refine key ops.toList [] (fun i k h => by simp at h) (fun j o h => by simpa using h) i k hk
theorem textOK_spec {i k : Nat} {oi ok : Oper} (h : textOK ops rd = true) (hi : ops[i]? = some oi) (hk : ops[k]? = some ok) (hki : k < i) (hn : ¬ Anc ops i k) : ok.apart ops oi = true ∧ (rd k = true ∨ rd i = true) := by
 unfold textOK at h
 simp only [Bool.and_eq_true, List.all_eq_true, List.mem_range] at h
 have hlt : i < ops.size := (Array.getElem?_eq_some_iff.1 hi).1
 have h1 := h.2 i hlt
 simp only [hi, Bool.and_eq_true, List.all_eq_true, List.mem_range] at h1
 have h2 := h1.2 k hki
 simp only [hk, Bool.or_eq_true, Bool.and_eq_true] at h2
 rcases h2 with h2 | h2
 ·exact absurd (ahead_spec ops i k (by simpa using h2)) hn
 ·exact h2
theorem textOK_edges {i : Nat} {oi : Oper} (h : textOK ops rd = true) (hi : ops[i]? = some oi) : ∀ e ∈ oi.after, Region.binds .any e = true → e.on < i := by
 unfold textOK at h
 simp only [Bool.and_eq_true, List.all_eq_true, List.mem_range] at h
 have hlt : i < ops.size := (Array.getElem?_eq_some_iff.1 hi).1
 have h1 := h.2 i hlt
 simp only [hi, Bool.and_eq_true] at h1
 intro e he hb
 have := Array.all_eq_true_iff_forall_mem.1 h1.1 e he
 simpa [hb] using this
theorem textOK_sel (h : textOK ops rd = true) : Region.noSelect ops = true := by
 unfold textOK at h
 simp only [Bool.and_eq_true] at h
 exact h.1
theorem bubble {Q : Act → World → Prop} {j : Nat} {oj : Oper} (hj : ops[j]? = some oj) (r2 : List Nat) (hsel : Region.noSelect ops = true) : ∀ (r1 : List Nat) (a : Act) (w : World), S w →
  (∀ k ∈ r1, ∃ ok, ops[k]? = some ok ∧ ok.apart ops oj = true ∧ (rd k = true ∨ rd j = true)) →
  wpT P qc ops S rd Q (r1 ++ j :: r2) a w → stT P qc ops S rd j (wpT P qc ops S rd Q (r1 ++ r2)) a w := by
 intro r1
 induction r1 with
 | nil => intro a w _ _ h; rw [List.nil_append, wpT_cons] at h; exact h
 | cons k r1 ih =>
  intro a w hS hr h
  rw [List.cons_append, wpT_cons] at h
  obtain ⟨ok, hk, hap, hrd⟩ := hr k (by simp)
  have h1 : stT P qc ops S rd k (stT P qc ops S rd j (wpT P qc ops S rd Q (r1 ++ r2))) a w :=
   stT_mono hS (fun a w hS' h' => ih a w hS' (fun k' hk' => hr k' (by simp [hk'])) h') h
  have h2 := stT_swap hk hj hap hrd (fun cs b => Region.noSelect_spec hsel k ok cs b hk) (fun cs b => Region.noSelect_spec hsel j oj cs b hj) hS h1
  refine stT_mono hS (fun a w _ h' => ?_) h2
  rw [List.cons_append, wpT_cons]; exact h'
theorem wp_weaken {o : Oper} {a : Act} {w : World} {K : Act → World → Prop} {Q : Exit → Act → World → Prop} (h : o.wp P a w K fun _ _ _ => False) : o.wp P a w K Q := by
 unfold Oper.wp at *
 generalize (execOp a.eval o).run P w = r at *
 cases r with
 | ok n w' =>
  cases n <;> simp only [Oper.upon] at h ⊢
  case value u => exact h
  case skip => exact h
  case defer d => exact h
  case enter f args =>
   refine Calls.mono h fun e w'' he => ?_
   cases e with
   | returned u => exact he
   | panicked c => exact he.elim
   | outgrown => obtain ⟨_, _, hf⟩ := he; exact hf.elim
  case row row args => exact h
 | halt x w' => cases x <;> simp only [Oper.upon] at h
theorem wpOp_of_stT {i : Nat} {K K' : Act → World → Prop} {a : Act} {w : World} {Q : Exit → Act → World → Prop} (hS : S w) (hK : ∀ a w, S w → K a w → K' a w) (h : stT P qc ops S rd i K a w) : wpOp P ops Q i K' a w := by
 unfold stT at h
 unfold wpOp
 split
 ·exact hK _ _ hS (by simpa [*] using h)
 ·rename_i o ho
  simp only [ho] at h
  split
  ·rename_i hw
   simp only [hw, if_true] at h
   left
   split at h
   ·obtain ⟨v, h1, h2⟩ := h
    exact readsAt_wp hS h1 (hK _ _ hS h2)
   ·exact Oper.wp_mono (fun a w ⟨s1, s2⟩ => hK _ _ s1 s2) (wp_weaken h)
  ·rename_i hw
   simp only [hw, if_false, Bool.false_eq_true] at h
   exact hK _ _ hS h
def downed (ops : Array Oper) (listed : Array Bool) : Prop := ∀ i o, ops[i]? = some o → listed.getD i true = true → ∀ e ∈ o.after, Region.binds .any e = true → listed.getD e.on false = true
theorem getD_up {l : Array Bool} {i : Nat} (h : l.getD i false = true) : l.getD i true = true := by
 rw [Array.getD_eq_getD_getElem?] at h ⊢
 cases e : l[i]? with
 | none => rfl
 | some b => rw [e] at h; exact h
theorem downed_anc {listed : Array Bool} (hd : downed ops listed) {i k : Nat} (h : Anc ops i k) (hi : ∀ o, ops[i]? = some o → ∀ e ∈ o.after, Region.binds .any e = true → listed.getD e.on false = true) : listed.getD k false = true := by
 induction h with
 | edge ho he hb => exact hi _ ho _ he hb
 | step ho he hb _ ih =>
  refine ih fun o' ho' => hd _ _ ho' ?_
  exact getD_up (hi _ ho _ he hb)
theorem text_any {Q : Exit → Act → World → Prop} (hok : textOK ops rd = true) : ∀ (fuel : Nat) (listed : Array Bool) (rem : List Nat) (a : Act) (w : World),
  listed.size = ops.size → downed ops listed → (∀ i, i ∈ rem ↔ (i < ops.size ∧ listed.getD i true = false)) → rem.Pairwise (· < ·) → rem.length ≤ fuel → S w →
  wpT P qc ops S rd (fun a w => Q .normal a w) rem a w → wpAny P .any ops Q fuel listed a w := by
 intro fuel
 induction fuel with
 | zero =>
  intro listed rem a w hsz hd hrem hpw hf hS h
  obtain rfl : rem = [] := List.eq_nil_of_length_eq_zero (by omega)
  refine ⟨?_, h⟩
  rw [List.eq_nil_iff_forall_not_mem]
  intro j hj
  obtain ⟨hu, o, ho, -⟩ := mem_ready.1 hj
  have := (hrem j).2 ⟨(Array.getElem?_eq_some_iff.1 ho).1, hu⟩
  simp at this
 | succ fuel ih =>
  intro listed rem a w hsz hd hrem hpw hf hS h
  refine ⟨fun hr => ?_, fun j hj => ?_⟩
  ·cases rem with
   | nil => exact h
   | cons i rest =>
    exfalso
    obtain ⟨hlt, hu⟩ := (hrem i).1 (by simp)
    obtain ⟨o, ho⟩ : ∃ o, ops[i]? = some o := ⟨ops[i], by simp [hlt]⟩
    have : i ∈ Region.ready .any ops listed := by
     refine mem_ready.2 ⟨hu, o, ho, fun e he hbe => ?_⟩
     have hlt2 := textOK_edges hok ho e he hbe
     by_cases hl : listed.getD e.on true = true
     ·rw [Array.getD_eq_getD_getElem?] at hl ⊢
      have : e.on < listed.size := by omega
      simp [this] at hl ⊢; exact hl
     ·have hm := (hrem e.on).2 ⟨by omega, by simpa using hl⟩
      rcases List.mem_cons.1 hm with e1 | e1
      ·omega
      ·have := (List.pairwise_cons.1 hpw).1 _ e1; omega
    rw [hr] at this
    cases this
  ·obtain ⟨hu, oj, hoj, hall⟩ := mem_ready.1 hj
   have hjlt := (Array.getElem?_eq_some_iff.1 hoj).1
   have hjm := (hrem j).2 ⟨hjlt, hu⟩
   obtain ⟨r1, r2, rfl⟩ := List.append_of_mem hjm
   have hpw' := List.pairwise_append.1 hpw
   have hb := bubble hoj r2 (textOK_sel hok) r1 a w hS (fun k hk => by
    obtain ⟨hklt, hku⟩ := (hrem k).1 (by simp [hk])
    obtain ⟨ok, hok'⟩ : ∃ o, ops[k]? = some o := ⟨ops[k], by simp [hklt]⟩
    have hkj : k < j := hpw'.2.2 k hk j (by simp)
    have hn : ¬ Anc ops j k := fun hA => by
     have := downed_anc hd hA (fun o ho e he hbe => by
      rw [hoj] at ho; cases ho
      exact hall e he hbe)
     rw [Array.getD_eq_getD_getElem?] at this hku
     have hk2 : k < listed.size := by omega
     simp [hk2] at this hku
     rw [this] at hku; cases hku
    obtain ⟨h1, h2⟩ := textOK_spec hok hoj hok' hkj hn
    exact ⟨ok, hok', h1, h2⟩) h
   refine wpOp_of_stT hS (fun a' w' hS' h' => ih (listed.setIfInBounds j true) (r1 ++ r2) a' w' (by simpa using hsz) ?_ ?_ ?_ ?_ hS' h') hb
   ·intro i o ho hl e he hbe
    by_cases hij : i = j
    ·subst hij
     rw [hoj] at ho; cases ho
     exact getD_set_true (hall e he hbe)
    ·rw [getD_set_ne true (Ne.symm hij)] at hl
     exact getD_set_true (hd i o ho hl e he hbe)
   ·intro i
    have hnd : (r1 ++ j :: r2).Nodup := hpw.imp (fun h => Nat.ne_of_lt h)
    by_cases hij : i = j
    ·subst hij
     have hni : i ∉ r1 ++ r2 := by
      have := List.nodup_append.1 hnd
      intro hm
      rcases List.mem_append.1 hm with hm | hm
      ·exact this.2.2 i hm i (by simp) rfl
      ·exact (List.nodup_cons.1 this.2.1).1 hm
     have hl : (listed.setIfInBounds i true).getD i true = true := by
      simp [show i < listed.size by omega]
     simp [hni, hl]
    ·rw [getD_set_ne true (Ne.symm hij), ← hrem i]
     simp [hij]
   ·exact hpw.sublist (List.Sublist.append_left (List.sublist_cons_self _ _) _)
   ·simp at hf ⊢; omega
theorem wp_region_text {id : Nat} {a : Act} {w : World} {Q : Exit → Act → World → Prop} (S : World → Prop) (rd : Nat → Bool) (hm : P.follows .mixedOrders = true) (hok : textOK ops rd = true) (hS : S w.drew)
  (h : wpT P qc ops S rd (fun a w => Q .normal a w) (List.range ops.size) a w.drew) : (Code.region id ops true).wp P Q a w := by
 refine wp_region_any hm ?_
 refine text_any hok ops.size _ (List.range ops.size) a _ (by simp) ?_ ?_ ?_ (by simp) hS h
 ·intro i o ho hl
  have hlt := (Array.getElem?_eq_some_iff.1 ho).1
  simp [hlt] at hl
 ·intro i
  by_cases hlt : i < ops.size <;> simp [hlt]
 ·exact List.pairwise_lt_range
theorem text_any_tail {Q : Exit → Act → World → Prop} (hok : textOK ops rd = true) (m : Nat) (hm : ops.size = m + 1) (hanc : ∀ k, k < m → Anc ops m k) : ∀ (fuel : Nat) (listed : Array Bool) (rem : List Nat) (a : Act) (w : World),
  listed.size = ops.size → downed ops listed → listed.getD m true = false → (∀ i, i ∈ rem ↔ (i < m ∧ listed.getD i true = false)) → rem.Pairwise (· < ·) → rem.length + 1 ≤ fuel → S w →
  wpT P qc ops S rd (fun a w => wpOp P ops Q m (fun a w => Q .normal a w) a w) rem a w → wpAny P .any ops Q fuel listed a w := by
 intro fuel
 induction fuel with
 | zero => intro listed rem a w _ _ _ _ _ hf; omega
 | succ fuel ih =>
  intro listed rem a w hsz hd hml hrem hpw hf hS h
  have lstd : ∀ i, i < ops.size → listed.getD i true = true → listed.getD i false = true := fun i hi hl => by
   rw [Array.getD_eq_getD_getElem?] at hl ⊢
   have : i < listed.size := by omega
   simp [this] at hl ⊢; exact hl
  refine ⟨fun hr => ?_, fun j hj => ?_⟩
  ·exfalso
   obtain ⟨i, hilt, hiu, hleast⟩ : ∃ i, i < ops.size ∧ listed.getD i true = false ∧ ∀ k, k < i → listed.getD k true = true := by
    cases rem with
    | nil =>
     refine ⟨m, by omega, hml, fun k hk => ?_⟩
     by_cases hl : listed.getD k true = true
     ·exact hl
     ·have := (hrem k).2 ⟨hk, by simpa using hl⟩
      simp at this
    | cons i rest =>
     obtain ⟨hlt, hu⟩ := (hrem i).1 (by simp)
     refine ⟨i, by omega, hu, fun k hk => ?_⟩
     by_cases hl : listed.getD k true = true
     ·exact hl
     ·have hkm := (hrem k).2 ⟨by omega, by simpa using hl⟩
      rcases List.mem_cons.1 hkm with e1 | e1
      ·omega
      ·have := (List.pairwise_cons.1 hpw).1 _ e1; omega
   obtain ⟨o, ho⟩ : ∃ o, ops[i]? = some o := ⟨ops[i], by simp [hilt]⟩
   have : i ∈ Region.ready .any ops listed := by
    refine mem_ready.2 ⟨hiu, o, ho, fun e he hbe => ?_⟩
    have hlt2 := textOK_edges hok ho e he hbe
    exact lstd _ (by omega) (hleast _ hlt2)
   rw [hr] at this
   cases this
  ·obtain ⟨hu, oj, hoj, hall⟩ := mem_ready.1 hj
   have hjlt := (Array.getElem?_eq_some_iff.1 hoj).1
   have hlj : ∀ k, Anc ops j k → listed.getD k true = true := fun k hA => getD_up (downed_anc hd hA (fun o ho e he hbe => by
    rw [hoj] at ho; cases ho
    exact hall e he hbe))
   by_cases hjm : j = m
   ·subst hjm
    obtain rfl : rem = [] := by
     rw [List.eq_nil_iff_forall_not_mem]
     intro k hk
     obtain ⟨hkm, hku⟩ := (hrem k).1 hk
     rw [hlj k (hanc k hkm)] at hku
     cases hku
    refine wpOp_mono (fun a' w' hq => ?_) h
    refine wpAny_done ?_ hq fuel
    rw [List.eq_nil_iff_forall_not_mem]
    intro k hk
    obtain ⟨hku, o, ho, -⟩ := mem_ready.1 hk
    have hklt := (Array.getElem?_eq_some_iff.1 ho).1
    by_cases hkj : j = k
    ·subst hkj
     simp [show j < listed.size by omega] at hku
    ·rw [getD_set_ne true hkj, hlj k (hanc k (by omega))] at hku
     cases hku
   ·have hjm2 := (hrem j).2 ⟨by omega, hu⟩
    obtain ⟨r1, r2, rfl⟩ := List.append_of_mem hjm2
    have hpw' := List.pairwise_append.1 hpw
    have hb := bubble hoj r2 (textOK_sel hok) r1 a w hS (fun k hk => by
     obtain ⟨hklt, hku⟩ := (hrem k).1 (by simp [hk])
     obtain ⟨ok, hok'⟩ : ∃ o, ops[k]? = some o := ⟨ops[k]'(by omega), by simp [show k < ops.size by omega]⟩
     have hkj : k < j := hpw'.2.2 k hk j (by simp)
     have hn : ¬ Anc ops j k := fun hA => by
      rw [hlj k hA] at hku; cases hku
     obtain ⟨h1, h2⟩ := textOK_spec hok hoj hok' hkj hn
     exact ⟨ok, hok', h1, h2⟩) h
    refine wpOp_of_stT hS (fun a' w' hS' h' => ih (listed.setIfInBounds j true) (r1 ++ r2) a' w' (by simpa using hsz) ?_ ?_ ?_ ?_ ?_ hS' h') hb
    ·intro i o ho hl e he hbe
     by_cases hij : i = j
     ·subst hij
      rw [hoj] at ho; cases ho
      exact getD_set_true (hall e he hbe)
     ·rw [getD_set_ne true (Ne.symm hij)] at hl
      exact getD_set_true (hd i o ho hl e he hbe)
    ·rw [getD_set_ne true hjm]; exact hml
    ·intro i
     have hnd : (r1 ++ j :: r2).Nodup := hpw.imp (fun h => Nat.ne_of_lt h)
     by_cases hij : i = j
     ·subst hij
      have hni : i ∉ r1 ++ r2 := by
       have := List.nodup_append.1 hnd
       intro hm
       rcases List.mem_append.1 hm with hm | hm
       ·exact this.2.2 i hm i (by simp) rfl
       ·exact (List.nodup_cons.1 this.2.1).1 hm
      have hl : (listed.setIfInBounds i true).getD i true = true := by
       simp [show i < listed.size by omega]
      simp [hni, hl]
     ·rw [getD_set_ne true (Ne.symm hij), ← hrem i]
      simp [hij]
    ·exact hpw.sublist (List.Sublist.append_left (List.sublist_cons_self _ _) _)
    ·simp at hf ⊢; omega
def tailOK (ops : Array Oper) : Bool := (List.range (ops.size - 1)).all fun k => ((ahead ops).getD (ops.size - 1) []).contains k
def isReader (qc : Qc) (o : Oper) : Bool :=
 match o.op with
 | .move _ | .assign _ | .pick .. | .build .. | .load .. | .nilCheck _ | .binOp .. | .unOp .. | .fieldAddr .. | .field .. | .indexAddr .. | .index .. | .extract .. | .slice .. | .makeInterface .. | .makeFunc .. | .lookup .. => true
 | .convert s _ _ => !qc.made.contains s
 | .call { callee := .builtin .len, .. } | .call { callee := .builtin .cap, .. } | .call { callee := .builtin .min, .. } | .call { callee := .builtin .max, .. } => true
 | .call { callee := .value (.func f), .. } => qc.fs.contains f
 | _ => false
def wpl0 (P : Program) (qc : Qc) (ops : Array Oper) (S : World → Prop) (Q : Act → World → Prop) : List Oper → Act → World → Prop
 | [], a, w => Q a w
 | o :: rest, a, w => if Region.wanted o (yielded ops a.tmps) = true then
   (if isReader qc o = true then ∃ v, readsAt P qc S o a v ∧ wpl0 P qc ops S Q rest (a.put o.dst v) w
   else o.wp P a w (fun a' w' => S w' ∧ wpl0 P qc ops S Q rest a' w') (fun _ _ _ => False))
  else wpl0 P qc ops S Q rest (a.put o.dst undef) w
def rdAt (qc : Qc) (ops : Array Oper) (i : Nat) : Bool := ((ops[i]?).map (isReader qc)).getD false
theorem wpT_of_wpl0 {Q : Act → World → Prop} : ∀ (l : List Oper) (n : Nat) (a : Act) (w : World), (∀ j o, l[j]? = some o → ops[n + j]? = some o) → wpl0 P qc ops S Q l a w → wpT P qc ops S (rdAt qc ops) Q (List.range' n l.length) a w := by
 intro l
 induction l with
 | nil => intro n a w _ h; exact h
 | cons o l ih =>
  intro n a w hl h
  have ho : ops[n]? = some o := by simpa using hl 0 o (by simp)
  have hl' : ∀ j o', l[j]? = some o' → ops[n + 1 + j]? = some o' := fun j o' hj => by
   have := hl (j + 1) o' (by simpa using hj)
   rw [show n + 1 + j = n + (j + 1) by omega]; exact this
  rw [List.length_cons, List.range'_succ, wpT_cons]
  unfold stT
  simp only [ho]
  unfold wpl0 at h
  have hrd : rdAt qc ops n = isReader qc o := by simp [rdAt, ho]
  split
  ·rename_i hw
   simp only [hw, if_true] at h
   rw [hrd]
   split
   ·rename_i hr
    simp only [hr, if_true] at h
    obtain ⟨v, h1, h2⟩ := h
    exact ⟨v, h1, ih _ _ _ hl' h2⟩
   ·rename_i hr
    simp only [hr, if_false, Bool.false_eq_true] at h
    exact Oper.wp_mono (fun a w ⟨s1, s2⟩ => ⟨s1, ih _ _ _ hl' s2⟩) h
  ·rename_i hw
   simp only [hw, if_false, Bool.false_eq_true] at h
   exact ih _ _ _ hl' h
theorem region_text0 {id : Nat} {a : Act} {w : World} {Q : Exit → Act → World → Prop} (S : World → Prop) (hm : P.follows .mixedOrders = true) (hok : textOK ops (rdAt qc ops) = true) (hS : S w.drew)
  (h : wpl0 P qc ops S (fun a w => Q .normal a w) ops.toList a w.drew) : (Code.region id ops true).wp P Q a w := by
 refine wp_region_text (qc := qc) S (rdAt qc ops) hm hok hS ?_
 have := wpT_of_wpl0 (Q := fun a w => Q .normal a w) ops.toList 0 a w.drew (fun j o hj => by simpa using hj) h
 rw [List.range_eq_range']
 simpa using this
theorem region_tail0 {id : Nat} {a : Act} {w : World} {Q : Exit → Act → World → Prop} (S : World → Prop) (hm : P.follows .mixedOrders = true) (hok : textOK ops (rdAt qc ops) = true) (htl : tailOK ops = true) (o : Oper) (init : List Oper) (hops : ops.toList = init ++ [o]) (hS : S w.drew)
  (h : wpl0 P qc ops S (fun a w => wpOp P ops Q init.length (fun a w => Q .normal a w) a w) init a w.drew) : (Code.region id ops true).wp P Q a w := by
 refine wp_region_any hm ?_
 have hsz : ops.size = init.length + 1 := by
  have := congrArg List.length hops
  simpa using this
 refine text_any_tail (qc := qc) hok init.length hsz ?_ ops.size _ (List.range init.length) a _ (by simp) ?_ ?_ ?_ ?_ (by simp; omega) hS ?_
 ·intro k hk
  unfold tailOK at htl
  simp only [List.all_eq_true, List.mem_range, hsz, Nat.add_sub_cancel] at htl
  exact ahead_spec ops _ _ (by simpa using htl k hk)
 ·intro i o ho hl
  have hlt := (Array.getElem?_eq_some_iff.1 ho).1
  simp [hlt] at hl
 ·simp [hsz]
 ·intro i
  constructor
  ·intro hi
   have hi' : i < init.length := by simpa using hi
   exact ⟨hi', by simp [show i < ops.size by omega]⟩
  ·rintro ⟨hi, -⟩; simpa using hi
 ·exact List.pairwise_lt_range
 ·have := wpT_of_wpl0 (Q := fun a w => wpOp P ops Q init.length (fun a w => Q .normal a w) a w) init 0 a w.drew (fun j o hj => by
   have hj' : ops.toList[j]? = some o := by rw [hops, List.getElem?_append_left (List.getElem?_eq_some_iff.1 hj).1]; exact hj
   simpa using hj') h
  rw [List.range_eq_range']
  exact this
theorem region_tail10 {id : Nat} {a : Act} {w : World} {Q : Exit → Act → World → Prop} (S : World → Prop) (hm : P.follows .mixedOrders = true) (hok : textOK ops (rdAt qc ops) = true) (htl : tailOK ops = true) (hn : 0 < ops.size) (hS : S w.drew)
  (h : wpl0 P qc ops S (fun a w => wpOp P ops Q (ops.size - 1) (fun a w => Q .normal a w) a w) ops.toList.dropLast a w.drew) : (Code.region id ops true).wp P Q a w := by
 have hne : ops.toList ≠ [] := by
  intro e
  have := congrArg List.length e
  simp at this
  rw [this] at hn; simp at hn
 refine region_tail0 S hm hok htl (ops.toList.getLast hne) ops.toList.dropLast (List.dropLast_concat_getLast hne).symm hS ?_
 have e : ops.toList.dropLast.length = ops.size - 1 := by simp
 rw [e]; exact h
theorem wpOp_last {Q : Exit → Act → World → Prop} {i : Nat} {o : Oper} {a : Act} {w : World} {K : Act → World → Prop} (ho : ops[i]? = some o) (hw : Region.wanted o (yielded ops a.tmps) = true)
  (h : o.wp P a w K Q) : wpOp P ops Q i K a w := by
 unfold wpOp; simp only [ho, hw, if_true]; exact .inl h
theorem wpl0_nil {Q : Act → World → Prop} {a : Act} {w : World} (h : Q a w) : wpl0 P qc ops S Q [] a w := h
theorem wpl0_skip {Q : Act → World → Prop} {o : Oper} {rest : List Oper} {a : Act} {w : World} (hw : Region.wanted o (yielded ops a.tmps) = false) (h : wpl0 P qc ops S Q rest (a.put o.dst undef) w) : wpl0 P qc ops S Q (o :: rest) a w := by
 unfold wpl0; rw [if_neg (by simp [hw])]; exact h
theorem wpl0_read {Q : Act → World → Prop} {o : Oper} {rest : List Oper} {a : Act} {w : World} (hw : Region.wanted o (yielded ops a.tmps) = true) (hr : isReader qc o = true) (v : Value)
  (hv : ∀ w, S w → (execOp a.eval o).run P w = .ok (.value v) w) (h : wpl0 P qc ops S Q rest (a.put o.dst v) w) : wpl0 P qc ops S Q (o :: rest) a w := by
 unfold wpl0; rw [if_pos hw, if_pos hr]; exact ⟨v, .inl hv, h⟩
theorem wpl0_act {Q : Act → World → Prop} {o : Oper} {rest : List Oper} {a : Act} {w : World} (hw : Region.wanted o (yielded ops a.tmps) = true) (hr : isReader qc o = false)
  (h : ∀ K : Act → World → Prop, Hid (∀ a w, S w → wpl0 P qc ops S Q rest a w → K a w) → o.wp P a w K (fun _ _ _ => False)) : wpl0 P qc ops S Q (o :: rest) a w := by
 unfold wpl0; rw [if_pos hw, if_neg (by simp [hr])]; exact h _ fun a w h1 h2 => ⟨h1, h2⟩
structure wpL (P : Program) (qc : Qc) (ops : Array Oper) (S : World → Prop) (Q : Act → World → Prop) (l : List Oper) (a : Act) (w : World) : Prop where
 out : wpl0 P qc ops S Q l a w
theorem region_text {id : Nat} {a : Act} {w : World} {Q : Exit → Act → World → Prop} (S : World → Prop) (hm : P.follows .mixedOrders = true) (hok : textOK ops (rdAt noQ ops) = true) (hS : S w.drew)
  (h : wpL P noQ ops S (fun a w => Q .normal a w) ops.toList a w.drew) : (Code.region id ops true).wp P Q a w := region_text0 S hm hok hS h.out
theorem region_tail1 {id : Nat} {a : Act} {w : World} {Q : Exit → Act → World → Prop} (S : World → Prop) (hm : P.follows .mixedOrders = true) (hok : textOK ops (rdAt noQ ops) = true) (htl : tailOK ops = true) (hn : 0 < ops.size) (hS : S w.drew)
  (h : wpL P noQ ops S (fun a w => wpOp P ops Q (ops.size - 1) (fun a w => Q .normal a w) a w) ops.toList.dropLast a w.drew) : (Code.region id ops true).wp P Q a w := region_tail10 S hm hok htl hn hS h.out
theorem wpL_nil {Q : Act → World → Prop} {a : Act} {w : World} (h : Q a w) : wpL P qc ops S Q [] a w := ⟨wpl0_nil h⟩
theorem wpL_skip {Q : Act → World → Prop} {o : Oper} {rest : List Oper} {a : Act} {w : World} (hw : Region.wanted o (yielded ops a.tmps) = false) (h : wpL P qc ops S Q rest (a.put o.dst undef) w) : wpL P qc ops S Q (o :: rest) a w := ⟨wpl0_skip hw h.out⟩
theorem wpL_read {Q : Act → World → Prop} {o : Oper} {rest : List Oper} {a : Act} {w : World} (hw : Region.wanted o (yielded ops a.tmps) = true) (hr : isReader qc o = true) (v : Value)
  (hv : ∀ w, S w → (execOp a.eval o).run P w = .ok (.value v) w) (h : wpL P qc ops S Q rest (a.put o.dst v) w) : wpL P qc ops S Q (o :: rest) a w := ⟨wpl0_read hw hr v hv h.out⟩
theorem wpL_act {Q : Act → World → Prop} {o : Oper} {rest : List Oper} {a : Act} {w : World} (hw : Region.wanted o (yielded ops a.tmps) = true) (hr : isReader qc o = false)
  (h : ∀ K : Act → World → Prop, Hid (∀ a w, S w → wpL P qc ops S Q rest a w → K a w) → o.wp P a w K (fun _ _ _ => False)) : wpL P qc ops S Q (o :: rest) a w :=
 ⟨wpl0_act hw hr fun K hK => h K (hid fun a w h1 h2 => hK.out a w h1 h2.out)⟩
end
end Go.Own
namespace Go.Own
open Go.RowKit
section
variable {P : Program} {qc : Qc} {ops : Array Oper} {S : World → Prop}
theorem wr1 {Q : Act → World → Prop} {o : Oper} {rest : List Oper} {a a' : Act} {w : World} {v : Value} (h : wpL P qc ops S Q rest a' w) (hw : Region.wanted o (yielded ops a.tmps) = true := by rfl) (hr : isReader qc o = true := by rfl) (hv : ∀ w, S w → (execOp a.eval o).run P w = .ok (.value v) w := by (intro w z0; go_simp; with_reducible rfl)) (ha : a.put o.dst v = a' := by (simp only [Act.put, List.setIfInBounds_toArray, List.set_cons_zero, List.set_cons_succ]; with_reducible rfl)) : wpL P qc ops S Q (o :: rest) a w := by
 subst ha
 exact wpL_read hw hr v hv h
theorem wr2 {Q : Act → World → Prop} {o : Oper} {rest : List Oper} {a a' : Act} {w : World} {v : Value} (h : wpL P qc ops S Q rest a' w) (hw : Region.wanted o (yielded ops a.tmps) = true := by rfl) (hr : isReader qc o = true := by rfl) (hv : ∀ w, S w → (execOp a.eval o).run P w = .ok (.value v) w := by (rintro w ⟨z0, z1⟩; go_simp; with_reducible rfl)) (ha : a.put o.dst v = a' := by (simp only [Act.put, List.setIfInBounds_toArray, List.set_cons_zero, List.set_cons_succ]; with_reducible rfl)) : wpL P qc ops S Q (o :: rest) a w := by
 subst ha
 exact wpL_read hw hr v hv h
theorem wr3 {Q : Act → World → Prop} {o : Oper} {rest : List Oper} {a a' : Act} {w : World} {v : Value} (h : wpL P qc ops S Q rest a' w) (hw : Region.wanted o (yielded ops a.tmps) = true := by rfl) (hr : isReader qc o = true := by rfl) (hv : ∀ w, S w → (execOp a.eval o).run P w = .ok (.value v) w := by (rintro w ⟨z0, z1, z2⟩; go_simp; with_reducible rfl)) (ha : a.put o.dst v = a' := by (simp only [Act.put, List.setIfInBounds_toArray, List.set_cons_zero, List.set_cons_succ]; with_reducible rfl)) : wpL P qc ops S Q (o :: rest) a w := by
 subst ha
 exact wpL_read hw hr v hv h
theorem wr4 {Q : Act → World → Prop} {o : Oper} {rest : List Oper} {a a' : Act} {w : World} {v : Value} (h : wpL P qc ops S Q rest a' w) (hw : Region.wanted o (yielded ops a.tmps) = true := by rfl) (hr : isReader qc o = true := by rfl) (hv : ∀ w, S w → (execOp a.eval o).run P w = .ok (.value v) w := by (rintro w ⟨z0, z1, z2, z3⟩; go_simp; with_reducible rfl)) (ha : a.put o.dst v = a' := by (simp only [Act.put, List.setIfInBounds_toArray, List.set_cons_zero, List.set_cons_succ]; with_reducible rfl)) : wpL P qc ops S Q (o :: rest) a w := by
 subst ha
 exact wpL_read hw hr v hv h
theorem wr5 {Q : Act → World → Prop} {o : Oper} {rest : List Oper} {a a' : Act} {w : World} {v : Value} (h : wpL P qc ops S Q rest a' w) (hw : Region.wanted o (yielded ops a.tmps) = true := by rfl) (hr : isReader qc o = true := by rfl) (hv : ∀ w, S w → (execOp a.eval o).run P w = .ok (.value v) w := by (rintro w ⟨z0, z1, z2, z3, z4⟩; go_simp; with_reducible rfl)) (ha : a.put o.dst v = a' := by (simp only [Act.put, List.setIfInBounds_toArray, List.set_cons_zero, List.set_cons_succ]; with_reducible rfl)) : wpL P qc ops S Q (o :: rest) a w := by
 subst ha
 exact wpL_read hw hr v hv h
theorem wr6 {Q : Act → World → Prop} {o : Oper} {rest : List Oper} {a a' : Act} {w : World} {v : Value} (h : wpL P qc ops S Q rest a' w) (hw : Region.wanted o (yielded ops a.tmps) = true := by rfl) (hr : isReader qc o = true := by rfl) (hv : ∀ w, S w → (execOp a.eval o).run P w = .ok (.value v) w := by (rintro w ⟨z0, z1, z2, z3, z4, z5⟩; go_simp; with_reducible rfl)) (ha : a.put o.dst v = a' := by (simp only [Act.put, List.setIfInBounds_toArray, List.set_cons_zero, List.set_cons_succ]; with_reducible rfl)) : wpL P qc ops S Q (o :: rest) a w := by
 subst ha
 exact wpL_read hw hr v hv h
theorem wr7 {Q : Act → World → Prop} {o : Oper} {rest : List Oper} {a a' : Act} {w : World} {v : Value} (h : wpL P qc ops S Q rest a' w) (hw : Region.wanted o (yielded ops a.tmps) = true := by rfl) (hr : isReader qc o = true := by rfl) (hv : ∀ w, S w → (execOp a.eval o).run P w = .ok (.value v) w := by (rintro w ⟨z0, z1, z2, z3, z4, z5, z6⟩; go_simp; with_reducible rfl)) (ha : a.put o.dst v = a' := by (simp only [Act.put, List.setIfInBounds_toArray, List.set_cons_zero, List.set_cons_succ]; with_reducible rfl)) : wpL P qc ops S Q (o :: rest) a w := by
 subst ha
 exact wpL_read hw hr v hv h
theorem wr8 {Q : Act → World → Prop} {o : Oper} {rest : List Oper} {a a' : Act} {w : World} {v : Value} (h : wpL P qc ops S Q rest a' w) (hw : Region.wanted o (yielded ops a.tmps) = true := by rfl) (hr : isReader qc o = true := by rfl) (hv : ∀ w, S w → (execOp a.eval o).run P w = .ok (.value v) w := by (rintro w ⟨z0, z1, z2, z3, z4, z5, z6, z7⟩; go_simp; with_reducible rfl)) (ha : a.put o.dst v = a' := by (simp only [Act.put, List.setIfInBounds_toArray, List.set_cons_zero, List.set_cons_succ]; with_reducible rfl)) : wpL P qc ops S Q (o :: rest) a w := by
 subst ha
 exact wpL_read hw hr v hv h
theorem wr9 {Q : Act → World → Prop} {o : Oper} {rest : List Oper} {a a' : Act} {w : World} {v : Value} (h : wpL P qc ops S Q rest a' w) (hw : Region.wanted o (yielded ops a.tmps) = true := by rfl) (hr : isReader qc o = true := by rfl) (hv : ∀ w, S w → (execOp a.eval o).run P w = .ok (.value v) w := by (rintro w ⟨z0, z1, z2, z3, z4, z5, z6, z7, z8⟩; go_simp; with_reducible rfl)) (ha : a.put o.dst v = a' := by (simp only [Act.put, List.setIfInBounds_toArray, List.set_cons_zero, List.set_cons_succ]; with_reducible rfl)) : wpL P qc ops S Q (o :: rest) a w := by
 subst ha
 exact wpL_read hw hr v hv h
theorem wr10 {Q : Act → World → Prop} {o : Oper} {rest : List Oper} {a a' : Act} {w : World} {v : Value} (h : wpL P qc ops S Q rest a' w) (hw : Region.wanted o (yielded ops a.tmps) = true := by rfl) (hr : isReader qc o = true := by rfl) (hv : ∀ w, S w → (execOp a.eval o).run P w = .ok (.value v) w := by (rintro w ⟨z0, z1, z2, z3, z4, z5, z6, z7, z8, z9⟩; go_simp; with_reducible rfl)) (ha : a.put o.dst v = a' := by (simp only [Act.put, List.setIfInBounds_toArray, List.set_cons_zero, List.set_cons_succ]; with_reducible rfl)) : wpL P qc ops S Q (o :: rest) a w := by
 subst ha
 exact wpL_read hw hr v hv h
theorem wr11 {Q : Act → World → Prop} {o : Oper} {rest : List Oper} {a a' : Act} {w : World} {v : Value} (h : wpL P qc ops S Q rest a' w) (hw : Region.wanted o (yielded ops a.tmps) = true := by rfl) (hr : isReader qc o = true := by rfl) (hv : ∀ w, S w → (execOp a.eval o).run P w = .ok (.value v) w := by (rintro w ⟨z0, z1, z2, z3, z4, z5, z6, z7, z8, z9, z10⟩; go_simp; with_reducible rfl)) (ha : a.put o.dst v = a' := by (simp only [Act.put, List.setIfInBounds_toArray, List.set_cons_zero, List.set_cons_succ]; with_reducible rfl)) : wpL P qc ops S Q (o :: rest) a w := by
 subst ha
 exact wpL_read hw hr v hv h
theorem wr12 {Q : Act → World → Prop} {o : Oper} {rest : List Oper} {a a' : Act} {w : World} {v : Value} (h : wpL P qc ops S Q rest a' w) (hw : Region.wanted o (yielded ops a.tmps) = true := by rfl) (hr : isReader qc o = true := by rfl) (hv : ∀ w, S w → (execOp a.eval o).run P w = .ok (.value v) w := by (rintro w ⟨z0, z1, z2, z3, z4, z5, z6, z7, z8, z9, z10, z11⟩; go_simp; with_reducible rfl)) (ha : a.put o.dst v = a' := by (simp only [Act.put, List.setIfInBounds_toArray, List.set_cons_zero, List.set_cons_succ]; with_reducible rfl)) : wpL P qc ops S Q (o :: rest) a w := by
 subst ha
 exact wpL_read hw hr v hv h
theorem wr13 {Q : Act → World → Prop} {o : Oper} {rest : List Oper} {a a' : Act} {w : World} {v : Value} (h : wpL P qc ops S Q rest a' w) (hw : Region.wanted o (yielded ops a.tmps) = true := by rfl) (hr : isReader qc o = true := by rfl) (hv : ∀ w, S w → (execOp a.eval o).run P w = .ok (.value v) w := by (rintro w ⟨z0, z1, z2, z3, z4, z5, z6, z7, z8, z9, z10, z11, z12⟩; go_simp; with_reducible rfl)) (ha : a.put o.dst v = a' := by (simp only [Act.put, List.setIfInBounds_toArray, List.set_cons_zero, List.set_cons_succ]; with_reducible rfl)) : wpL P qc ops S Q (o :: rest) a w := by
 subst ha
 exact wpL_read hw hr v hv h
theorem wr14 {Q : Act → World → Prop} {o : Oper} {rest : List Oper} {a a' : Act} {w : World} {v : Value} (h : wpL P qc ops S Q rest a' w) (hw : Region.wanted o (yielded ops a.tmps) = true := by rfl) (hr : isReader qc o = true := by rfl) (hv : ∀ w, S w → (execOp a.eval o).run P w = .ok (.value v) w := by (rintro w ⟨z0, z1, z2, z3, z4, z5, z6, z7, z8, z9, z10, z11, z12, z13⟩; go_simp; with_reducible rfl)) (ha : a.put o.dst v = a' := by (simp only [Act.put, List.setIfInBounds_toArray, List.set_cons_zero, List.set_cons_succ]; with_reducible rfl)) : wpL P qc ops S Q (o :: rest) a w := by
 subst ha
 exact wpL_read hw hr v hv h
theorem wr15 {Q : Act → World → Prop} {o : Oper} {rest : List Oper} {a a' : Act} {w : World} {v : Value} (h : wpL P qc ops S Q rest a' w) (hw : Region.wanted o (yielded ops a.tmps) = true := by rfl) (hr : isReader qc o = true := by rfl) (hv : ∀ w, S w → (execOp a.eval o).run P w = .ok (.value v) w := by (rintro w ⟨z0, z1, z2, z3, z4, z5, z6, z7, z8, z9, z10, z11, z12, z13, z14⟩; go_simp; with_reducible rfl)) (ha : a.put o.dst v = a' := by (simp only [Act.put, List.setIfInBounds_toArray, List.set_cons_zero, List.set_cons_succ]; with_reducible rfl)) : wpL P qc ops S Q (o :: rest) a w := by
 subst ha
 exact wpL_read hw hr v hv h
theorem wr16 {Q : Act → World → Prop} {o : Oper} {rest : List Oper} {a a' : Act} {w : World} {v : Value} (h : wpL P qc ops S Q rest a' w) (hw : Region.wanted o (yielded ops a.tmps) = true := by rfl) (hr : isReader qc o = true := by rfl) (hv : ∀ w, S w → (execOp a.eval o).run P w = .ok (.value v) w := by (rintro w ⟨z0, z1, z2, z3, z4, z5, z6, z7, z8, z9, z10, z11, z12, z13, z14, z15⟩; go_simp; with_reducible rfl)) (ha : a.put o.dst v = a' := by (simp only [Act.put, List.setIfInBounds_toArray, List.set_cons_zero, List.set_cons_succ]; with_reducible rfl)) : wpL P qc ops S Q (o :: rest) a w := by
 subst ha
 exact wpL_read hw hr v hv h
theorem wa {Q : Act → World → Prop} {o : Oper} {rest : List Oper} {a : Act} {w : World} (h : ∀ K : Act → World → Prop, Hid (∀ a w, S w → wpL P qc ops S Q rest a w → K a w) → o.wp P a w K (fun _ _ _ => False)) (hw : Region.wanted o (yielded ops a.tmps) = true := by rfl) (hr : isReader qc o = false := by rfl) : wpL P qc ops S Q (o :: rest) a w := wpL_act hw hr h
theorem wk {Q : Act → World → Prop} {o : Oper} {rest : List Oper} {a a' : Act} {w : World} (h : wpL P qc ops S Q rest a' w) (hw : Region.wanted o (yielded ops a.tmps) = false := by rfl) (ha : a.put o.dst undef = a' := by (simp only [Act.put, List.setIfInBounds_toArray, List.set_cons_zero, List.set_cons_succ]; with_reducible rfl)) : wpL P qc ops S Q (o :: rest) a w := by
 subst ha
 exact wpL_skip hw h
end
theorem Has.az {w : World} {L : List HP} {b : Nat} {t : TypeId} (h : Has w (pt b (.cells #[.int .i64 0, .int .i64 0, .int .i64 0, .int .i64 0, .slice none 0 0, .slice none 0 0] t) :: L)) : w.cell? ⟨b, 0, none⟩ = some (.int .i64 0) ∧ w.cell? ⟨b, 1, none⟩ = some (.int .i64 0) ∧ w.cell? ⟨b, 2, none⟩ = some (.int .i64 0) ∧ w.cell? ⟨b, 3, none⟩ = some (.int .i64 0) ∧ w.cell? ⟨b, 4, none⟩ = some (.slice none 0 0) ∧ w.cell? ⟨b, 5, none⟩ = some (.slice none 0 0) ∧ w.frozen? ⟨b, 0, none⟩ = false ∧ w.frozen? ⟨b, 1, none⟩ = false ∧ w.frozen? ⟨b, 2, none⟩ = false ∧ w.frozen? ⟨b, 3, none⟩ = false ∧ w.frozen? ⟨b, 4, none⟩ = false ∧ w.frozen? ⟨b, 5, none⟩ = false :=
 ⟨h.cells 0, h.cells 1, h.cells 2, h.cells 3, h.cells 4, h.cells 5, h.thaw 0, h.thaw 1, h.thaw 2, h.thaw 3, h.thaw 4, h.thaw 5⟩
end Go.Own
namespace Go.Proofs.YtmgpgbfgemebbaaGreatDoor
open Go.RowKit Go.Own
theorem infoInt : (Tryz.prog.info? 3).map (fun i => (i.zero, i.size, i.bytes)) = some (some (.int .i64 0), 1, 8) := by kernel_rfl
def Ints (v : Value) (xs : List Int) : HP := row v 3 1 xs.length (ic xs)
theorem Ints.rd {v : Value} {xs : List Int} {w : World} {L : List HP} (h : Has w (Ints v xs :: L)) : Rd w v 1 xs.length (ic xs) := Has.rd h
theorem infoU8 : (Tryz.prog.info? 5).map (fun i => (i.zero, i.size, i.bytes)) = some (some (.int .u8 0), 1, 1) := by kernel_rfl
def Bytes (v : Value) (xs : List Int) : HP := row v 5 1 xs.length (bc xs)
theorem Bytes.rd {v : Value} {xs : List Int} {w : World} {L : List HP} (h : Has w (Bytes v xs :: L)) : Rd w v 1 xs.length (bc xs) := Has.rd h
def low (x n : Int) : Int := IntKind.u64.wrap x % n
end Go.Proofs.YtmgpgbfgemebbaaGreatDoor
namespace Go.Own
open Go.RowKit Go.Maps Go.ChangeMaps Go.MapKept
open Go.WideElems (Fit rd rg pl rd_val)
abbrev Rdr := Value → Option (DataW Unit × List MemPlace)
abbrev lk (x : Int) : Lit := .int .i64 x
section
variable {P : Program} {k : TypeId} {R : Rdr} {w w' : World} {L : List HP} {b n : Nat} {D D' : DataW Unit}
def Mp (P : Program) (k : TypeId) (R : Rdr) (b : Nat) (D : DataW Unit) : HP :=
 ex fun es : Array MapEntry => ex fun clock : Nat => sep (fact (Fit P k R es clock ∧ D = .map ((es.toList.map (rg P k R)).foldr DataW.insert []))) (pt b (.map es clock))
theorem Mp.iff : Has w (Mp P k R b D :: L) ↔ ∃ es clock, (Fit P k R es clock ∧ D = .map ((es.toList.map (rg P k R)).foldr DataW.insert [])) ∧ Has w (pt b (.map es clock) :: L) := by
 unfold Mp
 rw [Has.ex_iff]
 constructor
 ·rintro ⟨es, h⟩
  obtain ⟨clock, h⟩ := Has.ex_iff.1 h
  rw [Has.sep_iff, Has.fact_iff] at h
  exact ⟨es, clock, h⟩
 ·rintro ⟨es, clock, h⟩
  refine ⟨es, Has.ex_iff.2 ⟨clock, ?_⟩⟩
  rw [Has.sep_iff, Has.fact_iff]
  exact h
theorem Has.owns (h : Has w (Mp P k R b D :: L)) : w.ownsMap P k R b (Maps.size D) D := by
 obtain ⟨es, clock, ⟨F, rfl⟩, h1⟩ := Mp.iff.1 h
 exact ⟨es, clock, h1.lookup, F, by rw [Maps.size_eq, length_read]; exact Nat.le_refl _, rfl⟩
theorem Has.mapTurn (h : Has w (Mp P k R b D :: L)) (hg : ∀ i, i < w.heap.size → i ≠ b → w'.heap[i]? = w.heap[i]?) (ho : w'.ownsMap P k R b n D') : Has w' (Mp P k R b D' :: L) := by
 obtain ⟨es, clock, -, h1⟩ := Mp.iff.1 h
 obtain ⟨es', clock', hb, F, -, hD⟩ := ho
 exact Mp.iff.2 ⟨es', clock', ⟨F, hD⟩, h1.turn hg hb⟩
theorem Has.mapMade (h : Has w L) (P : Program) (k : TypeId) (R : Rdr) : Has (w.alloc (.map #[] 0)) (Mp P k R w.heap.size (.map []) :: L) :=
 Mp.iff.2 ⟨#[], 0, ⟨⟨by simp, stamped_empty 0, by simp⟩, rfl⟩, h.alloc _⟩
theorem grown_but {row : Option Nat} (h : w.grownBy w' row) {b : Nat} (hr : ∀ r, row = some r → r = b) : ∀ i, i < w.heap.size → i ≠ b → w'.heap[i]? = w.heap[i]? :=
 fun i hi hne => h.block i hi fun e => hne (hr i e.symm)
end
section
variable {α : Type} {enc : α → DataW Unit} {D : DataW Unit} {t : List (Int × α)}
structure Al (enc : α → DataW Unit) (D : DataW Unit) (t : List (Int × α)) : Prop where
 tidy : Tidy D
 nodup : (t.map Prod.fst).Nodup
 size : Maps.size D = t.length
 wf : ∀ p ∈ t, (Lit.int .i64 p.1).wf = true
 yes : ∀ p ∈ t, ∀ z, D.atKey (lk p.1) z = enc p.2
 no : ∀ x, x ∉ t.map Prod.fst → ∀ z, D.atKey (lk x) z = z
theorem isKey (x : Int) : WideAt.IsKeyLit (lk x) := by simp [WideAt.IsKeyLit]
theorem lk_ne {x y : Int} (h : x ≠ y) : lk x ≠ lk y := fun e => h (by simpa using e)
theorem Al.nil : Al enc (.map []) [] where
 tidy := tidy_empty
 nodup := List.nodup_nil
 size := rfl
 wf := by simp
 yes := by simp
 no := fun x _ z => rfl
theorem Al.has (h : Al enc D t) (x : Int) : Maps.has D (lk x) = decide (x ∈ t.map Prod.fst) := by
 by_cases hx : x ∈ t.map Prod.fst
 ·rw [decide_eq_true hx]
  obtain ⟨p, hp, rfl⟩ := List.mem_map.1 hx
  exact has_true_of_atKey (y := enc p.2) fun z => h.yes p hp z
 ·rw [decide_eq_false hx]
  exact has_false_of_atKey fun z => h.no x hx z
theorem Al.put (h : Al enc D t) (x : Int) (a : α) (hx : x ∉ t.map Prod.fst) (hw : (Lit.int .i64 x).wf = true) : Al enc (D.put (lk x) (enc a)) (t ++ [(x, a)]) where
 tidy := h.tidy.put (isKey x) _
 nodup := by
  rw [List.map_append, List.nodup_append]
  exact ⟨h.nodup, by simp, by rintro y hy z hz rfl; simp at hz; subst hz; exact hx hy⟩
 size := by rw [size_put h.tidy, h.has, decide_eq_false hx, if_neg Bool.false_ne_true, h.size]; simp
 wf := by
  intro p hp
  rcases List.mem_append.1 hp with hp | hp
  ·exact h.wf p hp
  ·rw [List.mem_singleton.1 hp]; exact hw
 yes := by
  intro p hp z
  rcases List.mem_append.1 hp with hp | hp
  ·rw [atKey_put_other (lk_ne fun e => hx (by rw [← e]; exact List.mem_map_of_mem hp))]
   exact h.yes p hp z
  ·rw [List.mem_singleton.1 hp]; exact atKey_put_same h.tidy.isMap (isKey x) _ _
 no := by
  intro y hy z
  simp only [List.map_append, List.map_cons, List.map_nil, List.mem_append, List.mem_singleton, not_or] at hy
  rw [atKey_put_other (lk_ne hy.2)]
  exact h.no y hy.1 z
theorem Al.again (h : Al enc D t) (x : Int) (a : α) (hx : (x, a) ∈ t) : Al enc (D.put (lk x) (enc a)) t where
 tidy := h.tidy.put (isKey x) _
 nodup := h.nodup
 size := by rw [size_put h.tidy, h.has, decide_eq_true (List.mem_map_of_mem (f := Prod.fst) hx), if_pos rfl, h.size]
 wf := h.wf
 yes := by
  intro p hp z
  by_cases e : p.1 = x
  ·have : enc p.2 = enc a := by
    have h1 := h.yes p hp (.map [])
    have h2 := h.yes _ hx (.map [])
    rw [e] at h1
    exact h1.symm.trans h2
   rw [e, atKey_put_same h.tidy.isMap (isKey x), this]
  ·rw [atKey_put_other (lk_ne e)]; exact h.yes p hp z
 no := by
  intro y hy z
  rw [atKey_put_other (lk_ne fun e => hy (by subst e; exact List.mem_map_of_mem (f := Prod.fst) hx))]
  exact h.no y hy z
theorem Al.del (h : Al enc D t) (x : Int) : Al enc (D.del (lk x)) (t.filter fun p => p.1 != x) where
 tidy := h.tidy.del _
 nodup := h.nodup.sublist ((List.filter_sublist).map _)
 size := by
  have h1 := size_del h.tidy (k := lk x)
  rw [h.has] at h1
  have h2 : (t.filter fun p => p.1 != x).length + (if decide (x ∈ t.map Prod.fst) then 1 else 0) = t.length := by
   have hnd := h.nodup
   clear h h1
   induction t with
   | nil => rfl
   | cons p t ih =>
    rw [List.map_cons, List.nodup_cons] at hnd
    have i := ih hnd.2
    by_cases e : p.1 = x
    ·subst e
     have hm : decide (p.1 ∈ t.map Prod.fst) = false := decide_eq_false hnd.1
     rw [hm] at i
     simp only [Bool.false_eq_true, if_false, Nat.add_zero] at i
     have hb : (p.1 != p.1) = false := by simp
     rw [List.filter_cons, hb]
     simp only [Bool.false_eq_true, if_false, i, List.map_cons, List.mem_cons, true_or, decide_true, if_true, List.length_cons]
    ·have hb : (p.1 != x) = true := by simpa using e
     rw [List.filter_cons, hb]
     have hm : decide (x ∈ (p :: t).map Prod.fst) = decide (x ∈ t.map Prod.fst) := by
      simp [List.map_cons, List.mem_cons, Ne.symm e]
     rw [hm]
     simp only [if_true, List.length_cons]
     omega
  rw [h.size] at h1
  omega
 wf := fun p hp => h.wf p (List.mem_filter.1 hp).1
 yes := by
  intro p hp z
  obtain ⟨hp, hx⟩ := List.mem_filter.1 hp
  rw [atKey_del_other (lk_ne (by simpa using hx))]
  exact h.yes p hp z
 no := by
  intro y hy z
  by_cases e : y = x
  ·subst e; exact atKey_del_same z
  ·rw [atKey_del_other (lk_ne e)]
   refine h.no y (fun hm => hy ?_) z
   obtain ⟨p, hp, rfl⟩ := List.mem_map.1 hm
   exact List.mem_map_of_mem (List.mem_filter.2 ⟨hp, by simpa using e⟩)
end
end Go.Own
namespace Go.Own
open Go.RowKit Go.Maps Go.ChangeMaps Go.MapKept
open Go.WideElems (Fit rd rg pl rd_val)
section
variable {P : Program} {k : TypeId} {R : Rdr} {w w' : World} {L : List HP} {b r n cnt cnt' : Nat} {D : DataW Unit} {left left' : Lit → Bool}
def RgF (P : Program) (k : TypeId) (R : Rdr) (D : DataW Unit) (left : Lit → Bool) (cnt : Nat) (es : Array MapEntry) (clock since : Nat) (seen : Array Nat) (c0 : Nat) : Prop :=
 Fit P k R es clock ∧ D = .map ((es.toList.map (rg P k R)).foldr DataW.insert []) ∧ (∀ x ∈ es.toList, x.born < since) ∧ (leftOf es seen).size = cnt ∧
  (∀ x ∈ es.toList, left (rg P k R x).1 = !seen.contains x.born) ∧ (∀ kl, left kl = true → ∃ x ∈ es.toList, (rg P k R x).1 = kl) ∧ since ≤ c0 ∧ since ≤ clock
abbrev RgI := Array MapEntry × Nat × Nat × Array Nat × Nat
def Rg (P : Program) (k : TypeId) (R : Rdr) (b r : Nat) (D : DataW Unit) (left : Lit → Bool) (cnt : Nat) : HP :=
 ex fun i : RgI => star [fact (RgF P k R D left cnt i.1 i.2.1 i.2.2.1 i.2.2.2.1 i.2.2.2.2), pt b (.map i.1 i.2.1), pt r (.mapIter (some b) i.2.2.1 i.2.2.2.1 i.2.2.2.2)]
theorem Rg.iff : Has w (Rg P k R b r D left cnt :: L) ↔ ∃ es clock since seen c0, RgF P k R D left cnt es clock since seen c0 ∧ Has w (pt b (.map es clock) :: pt r (.mapIter (some b) since seen c0) :: L) := by
 unfold Rg
 rw [Has.ex_iff]
 constructor
 ·rintro ⟨⟨es, clock, since, seen, c0⟩, h⟩
  have h1 := Has.star_iff.1 h
  exact ⟨es, clock, since, seen, c0, Has.fact_iff.1 h1⟩
 ·rintro ⟨es, clock, since, seen, c0, h⟩
  exact ⟨⟨es, clock, since, seen, c0⟩, Has.star_iff.2 (Has.fact_iff.2 h)⟩
theorem Has.rgRanges (h : Has w (Rg P k R b r D left cnt :: L)) : w.ranges P k R b r (Maps.size D) D left cnt := by
 obtain ⟨es, clock, since, seen, c0, ⟨F, rfl, h1, h2, h3, h4, h5, h6⟩, hh⟩ := Rg.iff.1 h
 exact ⟨es, clock, since, seen, c0, hh.lookup, F, by rw [Maps.size_eq, length_read]; exact Nat.le_refl _, rfl, hh.p1.lookup, h1, h2, h3, h4, h5, h6⟩
theorem Has.rgEnd (h : Has w (Rg P k R b r D left cnt :: L)) : Has w (Mp P k R b D :: L) := by
 obtain ⟨es, clock, since, seen, c0, F, hh⟩ := Rg.iff.1 h
 exact Mp.iff.2 ⟨es, clock, ⟨F.1, F.2.1⟩, hh.p1.drop⟩
theorem Has.rgStart (h : Has w (Mp P k R b D :: L)) (hr : w'.ranges P k R b w.heap.size n D left cnt) (hg : w.grownBy w' none) : Has w' (Rg P k R b w.heap.size D left cnt :: L) := by
 obtain ⟨es, clock, since, seen, c0, hb, F, hs, hD, hi, h1, h2, h3, h4, h5, h6⟩ := hr
 obtain ⟨es', clock', -, hh⟩ := Mp.iff.1 h
 have e := (hg.block b hh.lt (by simp)).symm.trans hb
 rw [hh.lookup] at e
 simp only [Option.some.injEq, Obj.map.injEq] at e
 obtain ⟨rfl, rfl⟩ := e
 have hk : ∀ i, i < w.heap.size → w'.heap[i]? = w.heap[i]? := fun i hi => hg.block i hi (by simp)
 refine Rg.iff.2 ⟨es', clock', since, seen, c0, ⟨F, hD, h1, h2, h3, h4, h5, h6⟩, ?_⟩
 exact (hh.fresh hk (Nat.le_refl _) hi).p1
theorem Has.rgTurn (h : Has w (Rg P k R b r D left cnt :: L)) (hr : w'.ranges P k R b r n D left' cnt') (hg : w.grownBy w' (some r)) : Has w' (Rg P k R b r D left' cnt' :: L) := by
 obtain ⟨es, clock, since, seen, c0, hb, F, hs, hD, hi, h1, h2, h3, h4, h5, h6⟩ := hr
 obtain ⟨es', clock', since', seen', c0', -, hh⟩ := Rg.iff.1 h
 have hne : b ≠ r := hh.ne
 have e := (hg.block b hh.lt (fun e => hne (by simpa using e))).symm.trans hb
 rw [hh.lookup] at e
 simp only [Option.some.injEq, Obj.map.injEq] at e
 obtain ⟨rfl, rfl⟩ := e
 refine Rg.iff.2 ⟨es', clock', since, seen, c0, ⟨F, hD, h1, h2, h3, h4, h5, h6⟩, ?_⟩
 exact (hh.p1.turn (grown_but hg fun r' e => by cases e; rfl) hi).p1
end
end Go.Own
