/- TEXTS of mine, merged. -/
import Derived.WalkKit
import Derived.WalkSpells
import Derived.Deep.Quiet
import Derived.Deep.QuietTactic
/-
  OWNERSHIP: a small separation logic over the model's memory, block by block, for contracts of functions that make and write memory. No program in sight.
-/
namespace Go.Own
open Go.RowKit

/-- A fact that the walk does not take for a rule. -/
theorem hid {p : Prop} (h : p) : Hid p := h
abbrev Frag := Nat → Option Obj
def HP := Frag → Prop
def Frag.disj (a b : Frag) : Prop := ∀ k, a k = none ∨ b k = none
def Frag.join (a b : Frag) : Frag := fun k => (a k).or (b k)
def sep (p q : HP) : HP := fun h => ∃ a b : Frag, Frag.disj a b ∧ h = Frag.join a b ∧ p a ∧ q b
def emp : HP := fun h => h = fun _ => none
def pt (b : Nat) (o : Obj) : HP := fun h => h = fun k => if k = b then some o else none
def fact (φ : Prop) : HP := fun h => φ ∧ emp h
def ex {α : Type} (p : α → HP) : HP := fun h => ∃ x, p x h
def any : HP := fun _ => True
def old (W : World) : HP := fun h => h = fun k => W.heap[k]?
def star : List HP → HP
  | [] => emp
  | p :: l => sep p (star l)
def Has (w : World) (l : List HP) : Prop := ∃ h : Frag, (∀ k o, h k = some o → w.heap[k]? = some o) ∧ star l h

theorem Frag.disj_comm {a b : Frag} (h : Frag.disj a b) : Frag.disj b a := fun k => (h k).symm
theorem Frag.join_comm {a b : Frag} (h : Frag.disj a b) : Frag.join a b = Frag.join b a := by
  funext k; unfold Frag.join; rcases h k with e | e <;> simp [e]
theorem Frag.join_assoc (a b c : Frag) : Frag.join (Frag.join a b) c = Frag.join a (Frag.join b c) := by
  funext k; simp [Frag.join, Option.or_assoc]
theorem Frag.disj_join {a b c : Frag} : Frag.disj (Frag.join a b) c ↔ Frag.disj a c ∧ Frag.disj b c := by
  constructor
  · intro h
    refine ⟨fun k => ?_, fun k => ?_⟩ <;> rcases h k with e | e
    · simp [Frag.join] at e; exact .inl e.1
    · exact .inr e
    · simp [Frag.join] at e; exact .inl e.2
    · exact .inr e
  · rintro ⟨h1, h2⟩ k
    rcases h1 k with e | e
    · rcases h2 k with e' | e'
      · left; simp [Frag.join, e, e']
      · exact .inr e'
    · exact .inr e
theorem Frag.join_none (a : Frag) : Frag.join a (fun _ => none) = a := by funext k; simp [Frag.join]
theorem Frag.none_join (a : Frag) : Frag.join (fun _ => none) a = a := by funext k; simp [Frag.join]

theorem sep_comm (p q : HP) : sep p q = sep q p := by
  funext h; apply propext; constructor <;> (rintro ⟨a, b, d, rfl, x, y⟩; exact ⟨b, a, Frag.disj_comm d, Frag.join_comm d, y, x⟩)
theorem sep_assoc (p q r : HP) : sep (sep p q) r = sep p (sep q r) := by
  funext h; apply propext; constructor
  · rintro ⟨_, c, d, rfl, ⟨a, b, d', rfl, x, y⟩, z⟩
    obtain ⟨d1, d2⟩ := Frag.disj_join.1 d
    exact ⟨a, Frag.join b c, Frag.disj_comm (Frag.disj_join.2 ⟨Frag.disj_comm d', Frag.disj_comm d1⟩), Frag.join_assoc _ _ _, x, b, c, d2, rfl, y, z⟩
  · rintro ⟨a, _, d, rfl, x, ⟨b, c, d', rfl, y, z⟩⟩
    obtain ⟨d1, d2⟩ := Frag.disj_join.1 (Frag.disj_comm d)
    exact ⟨Frag.join a b, c, Frag.disj_join.2 ⟨Frag.disj_comm d2, d'⟩, (Frag.join_assoc _ _ _).symm, ⟨a, b, Frag.disj_comm d1, rfl, x, y⟩, z⟩
theorem sep_emp (p : HP) : sep p emp = p := by
  funext h; apply propext; constructor
  · rintro ⟨a, b, _, rfl, x, rfl⟩; rw [Frag.join_none]; exact x
  · intro x; exact ⟨h, _, fun _ => .inr rfl, (Frag.join_none h).symm, x, rfl⟩
theorem emp_sep (p : HP) : sep emp p = p := by rw [sep_comm, sep_emp]
theorem sep_left_comm (p q r : HP) : sep p (sep q r) = sep q (sep p r) := by rw [← sep_assoc, sep_comm p q, sep_assoc]
theorem star_append (l m : List HP) : star (l ++ m) = sep (star l) (star m) := by
  induction l with
  | nil => simp [star, emp_sep]
  | cons p l ih => simp only [List.cons_append, star, ih, sep_assoc]
theorem star_perm {l m : List HP} (h : l.Perm m) : star l = star m := by
  induction h with
  | nil => rfl
  | cons x _ ih => simp only [star, ih]
  | swap x y l => simp only [star]; exact sep_left_comm _ _ _
  | trans _ _ i1 i2 => exact i1.trans i2
theorem star_one (p : HP) : star [p] = p := by simp [star, sep_emp]

theorem perm_pull {α : Type _} : ∀ (l : List α) (i : Nat) (hi : i < l.length), l.Perm (l[i] :: l.eraseIdx i)
  | a :: l, 0, _ => .refl _
  | a :: l, i + 1, hi => ((perm_pull l i (by simpa using hi)).cons a).trans (.swap _ _ _)
section
variable {w w' : World} {p q : HP} {l m : List HP}
theorem Has.perm (h : Has w l) (hp : l.Perm m) : Has w m := by unfold Has at *; rwa [← star_perm hp]
theorem Has.congr (e : star l = star m) : Has w l ↔ Has w m := by unfold Has; rw [e]
theorem Has.drop (h : Has w (p :: l)) : Has w l := by
  obtain ⟨_, hw, a, b, d, rfl, _, hb⟩ := h
  refine ⟨b, fun k o e => ?_, hb⟩
  refine hw k o ?_
  rcases d k with e' | e'
  · simp [Frag.join, e', e]
  · rw [e'] at e; cases e
theorem Has.swap (h : Has w (p :: q :: l)) : Has w (q :: p :: l) := h.perm (List.Perm.swap _ _ _)
/-- The i-th is brought to the head. -/
theorem Has.pull (i : Nat) (h : Has w l) (hi : i < l.length := by decide) : Has w (l[i] :: l.eraseIdx i) :=
  h.perm (perm_pull l i hi)
/-! The second (third ..) is brought to the head; and back. -/
theorem Has.p1 {p q : HP} (h : Has w (p :: q :: l)) : Has w (q :: p :: l) := h.perm (.swap _ _ _)
theorem Has.p2 {p q r : HP} (h : Has w (p :: q :: r :: l)) : Has w (r :: p :: q :: l) := h.perm (perm_pull [p, q, r] 2 (by simp) |>.append_right l)
theorem Has.p3 {p q r s : HP} (h : Has w (p :: q :: r :: s :: l)) : Has w (s :: p :: q :: r :: l) := h.perm (perm_pull [p, q, r, s] 3 (by simp) |>.append_right l)
theorem Has.p4 {p q r s t : HP} (h : Has w (p :: q :: r :: s :: t :: l)) : Has w (t :: p :: q :: r :: s :: l) := h.perm (perm_pull [p, q, r, s, t] 4 (by simp) |>.append_right l)
theorem Has.p5 {p q r s t u : HP} (h : Has w (p :: q :: r :: s :: t :: u :: l)) : Has w (u :: p :: q :: r :: s :: t :: l) := h.perm (perm_pull [p, q, r, s, t, u] 5 (by simp) |>.append_right l)
theorem Has.p6 {p q r s t u v : HP} (h : Has w (p :: q :: r :: s :: t :: u :: v :: l)) : Has w (v :: p :: q :: r :: s :: t :: u :: l) := h.perm (perm_pull [p, q, r, s, t, u, v] 6 (by simp) |>.append_right l)
theorem Has.b2 {p q r : HP} (h : Has w (r :: p :: q :: l)) : Has w (p :: q :: r :: l) := h.perm (perm_pull [p, q, r] 2 (by simp) |>.append_right l).symm
theorem Has.b3 {p q r s : HP} (h : Has w (s :: p :: q :: r :: l)) : Has w (p :: q :: r :: s :: l) := h.perm (perm_pull [p, q, r, s] 3 (by simp) |>.append_right l).symm
theorem Has.b4 {p q r s t : HP} (h : Has w (t :: p :: q :: r :: s :: l)) : Has w (p :: q :: r :: s :: t :: l) := h.perm (perm_pull [p, q, r, s, t] 4 (by simp) |>.append_right l).symm
theorem Has.b5 {p q r s t u : HP} (h : Has w (u :: p :: q :: r :: s :: t :: l)) : Has w (p :: q :: r :: s :: t :: u :: l) := h.perm (perm_pull [p, q, r, s, t, u] 5 (by simp) |>.append_right l).symm
theorem Has.imp (hpq : ∀ a, p a → q a) (h : Has w (p :: l)) : Has w (q :: l) := by
  obtain ⟨h0, hw, a, b, d, e, ha, hb⟩ := h
  exact ⟨h0, hw, a, b, d, e, hpq a ha, hb⟩
theorem Has.fact_iff {φ : Prop} : Has w (fact φ :: l) ↔ φ ∧ Has w l := by
  constructor
  · rintro ⟨h0, hw, a, b, d, e, ⟨hφ, ha⟩, hb⟩
    refine ⟨hφ, h0, hw, ?_⟩
    rw [e, show a = fun _ => none from ha, Frag.none_join]; exact hb
  · rintro ⟨hφ, h0, hw, hs⟩
    exact ⟨h0, hw, _, h0, fun _ => .inl rfl, (Frag.none_join h0).symm, ⟨hφ, rfl⟩, hs⟩
theorem Has.ex_iff {α : Type} {f : α → HP} : Has w (ex f :: l) ↔ ∃ x, Has w (f x :: l) := by
  constructor
  · rintro ⟨h0, hw, a, b, d, e, ⟨x, ha⟩, hb⟩; exact ⟨x, h0, hw, a, b, d, e, ha, hb⟩
  · rintro ⟨x, h0, hw, a, b, d, e, ha, hb⟩; exact ⟨h0, hw, a, b, d, e, ⟨x, ha⟩, hb⟩
theorem Has.sep_iff : Has w (sep p q :: l) ↔ Has w (p :: q :: l) := Has.congr (by simp only [star]; exact sep_assoc _ _ _)
theorem Has.emp_iff : Has w (emp :: l) ↔ Has w l := Has.congr (by simp only [star]; exact emp_sep _)
theorem Has.star_iff : Has w (star m :: l) ↔ Has w (m ++ l) := Has.congr (by rw [star_append]; rfl)
theorem Has.any (h : Has w (p :: l)) : Has w (Go.Own.any :: l) := h.imp fun _ _ => trivial

theorem Has.lookup {b : Nat} {o : Obj} (h : Has w (pt b o :: l)) : w.heap[b]? = some o := by
  obtain ⟨_, hw, a, c, d, rfl, rfl, hb⟩ := h
  exact hw b o (by simp [Frag.join])
theorem Has.lt {b : Nat} {o : Obj} (h : Has w (pt b o :: l)) : b < w.heap.size := (Array.getElem?_eq_some_iff.1 h.lookup).1
theorem Has.ne {b b' : Nat} {o o' : Obj} (h : Has w (pt b o :: pt b' o' :: l)) : b ≠ b' := by
  rintro rfl
  obtain ⟨_, hw, a, c, d, rfl, rfl, a', c', d', rfl, rfl, hb⟩ := h
  have := d b
  simp [Frag.join] at this
theorem Has.old_look {W : World} (h : Has w (old W :: l)) : ∀ k, k < W.heap.size → w.heap[k]? = W.heap[k]? := by
  obtain ⟨_, hw, a, c, d, rfl, rfl, hb⟩ := h
  intro k hk
  rw [Array.getElem?_eq_getElem hk]
  exact hw k _ (by simp [Frag.join, hk])
theorem Has.old_size {W : World} (h : Has w (old W :: l)) : W.heap.size ≤ w.heap.size := by
  by_cases hz : W.heap.size = 0
  · omega
  · have := h.old_look (W.heap.size - 1) (by omega)
    rw [Array.getElem?_eq_getElem (xs := W.heap) (by omega)] at this
    obtain ⟨this, _⟩ := Array.getElem?_eq_some_iff.1 this
    omega
theorem Has.start (w : World) : Has w [old w] := by
  refine ⟨fun k => w.heap[k]?, fun k o e => e, ?_⟩
  rw [star_one]; rfl
/-- Nothing that is owned turns. -/
theorem Has.frame (h : Has w l) (hk : ∀ k, k < w.heap.size → w'.heap[k]? = w.heap[k]?) : Has w' l := by
  obtain ⟨h0, hw, hs⟩ := h
  refine ⟨h0, fun k o e => ?_, hs⟩
  have := hw k o e
  rw [hk k (Array.getElem?_eq_some_iff.1 this).1]; exact this
/-- ONE BLOCK MAY TURN; others come. -/
theorem Has.turn {b : Nat} {o o' : Obj} (h : Has w (pt b o :: l)) (hk : ∀ k, k < w.heap.size → k ≠ b → w'.heap[k]? = w.heap[k]?) (hb : w'.heap[b]? = some o') : Has w' (pt b o' :: l) := by
  obtain ⟨_, hw, a, c, d, rfl, rfl, hs⟩ := h
  refine ⟨_, fun k x e => ?_, (fun k => if k = b then some o' else none), c, fun k => ?_, rfl, rfl, hs⟩
  · by_cases e' : k = b
    · subst e'; simp [Frag.join] at e; subst e; exact hb
    · simp [Frag.join, e'] at e
      have := hw k x (by simp [Frag.join, e', e])
      rw [hk k (Array.getElem?_eq_some_iff.1 this).1 e']; exact this
  · rcases d k with e' | e'
    · by_cases e2 : k = b
      · simp [e2] at e'
      · simp [e2]
    · exact .inr e'
/-- A block comes. -/
theorem Has.fresh {b : Nat} {o : Obj} (h : Has w l) (hk : ∀ k, k < w.heap.size → w'.heap[k]? = w.heap[k]?) (hb : w.heap.size ≤ b) (hn : w'.heap[b]? = some o) : Has w' (pt b o :: l) := by
  obtain ⟨h0, hw, hs⟩ := h
  have hz : h0 b = none := by
    cases e : h0 b with
    | none => rfl
    | some x => have := (Array.getElem?_eq_some_iff.1 (hw b x e)).1; omega
  refine ⟨_, fun k x e => ?_, (fun k => if k = b then some o else none), h0, fun k => ?_, rfl, rfl, hs⟩
  · by_cases e' : k = b
    · subst e'; simp [Frag.join] at e; subst e; exact hn
    · simp [Frag.join, e'] at e
      have := hw k x e
      rw [hk k (Array.getElem?_eq_some_iff.1 this).1]; exact this
  · by_cases e2 : k = b
    · subst e2; exact .inr hz
    · simp [e2]
theorem Has.alloc (h : Has w l) (o : Obj) : Has (w.alloc o) (pt w.heap.size o :: l) :=
  h.fresh (fun k hk => Below.heap_alloc _ _ _ hk) (Nat.le_refl _) (by show (w.heap.push o)[_]? = _; simp)
theorem Has.alloc' (h : Has w l) (o : Obj) : Has (w.alloc o) l := (h.alloc o).drop
theorem Has.drew (h : Has w l) : Has w.drew l := h
theorem Has.drewN (h : Has w l) (n : Nat) : Has (w.drewN n) l := h.frame fun k _ => by simp [World.drewN]
theorem Has.set {b : Nat} {C : Array Value} {T : TypeId} {z : Nat × Nat} (h : Has w (pt b (.cells C T z) :: l)) (off : Nat) (v : Value) : Has (w.setCell ⟨b, off, none⟩ v) (pt b (.cells (C.setIfInBounds off v) T z) :: l) := by
  refine h.turn (fun k _ hne => Below.heap_setCell _ _ _ _ hne) ?_
  have := h.lookup
  simp [World.setCell, Array.getElem?_modify, this]
theorem Has.setObj {b : Nat} {o : Obj} (h : Has w (pt b o :: l)) (o' : Obj) : Has { w with heap := w.heap.setIfInBounds b o' } (pt b o' :: l) := by
  refine h.turn (fun k _ hne => ?_) ?_
  · simp [Ne.symm hne]
  · have := h.lt
    simp [this]
theorem Has.cells {b : Nat} {C : Array Value} {T : TypeId} {z : Nat × Nat} (h : Has w (pt b (.cells C T z) :: l)) (i : Nat) : w.cell? ⟨b, i, none⟩ = C[i]? := by
  simp [World.cell?, h.lookup]
theorem Has.thaw {b : Nat} {C : Array Value} {T : TypeId} (h : Has w (pt b (.cells C T) :: l)) (i : Nat) : w.frozen? ⟨b, i, none⟩ = false := by
  simp [World.frozen?, h.lookup]
theorem Has.below {W : World} (h : Has w (old W :: l)) (h1 : w.os = W.os) (h2 : w.tape = W.tape) (h3 : w.output = W.output) : Below W.heap.size W w :=
  ⟨h1, h2, h3, h.old_size, h.old_look⟩
end

/-- The streams are as they were, no block has gone. -/
structure Keep (w w' : World) : Prop where
  os : w'.os = w.os
  tape : w'.tape = w.tape
  output : w'.output = w.output
  size : w.heap.size ≤ w'.heap.size
theorem Keep.refl (w : World) : Keep w w := ⟨rfl, rfl, rfl, Nat.le_refl _⟩
section
variable {a b c : World}
theorem Keep.trans (h : Keep a b) (k : Keep b c) : Keep a c := ⟨k.os.trans h.os, k.tape.trans h.tape, k.output.trans h.output, Nat.le_trans h.size k.size⟩
theorem Keep.alloc (h : Keep a b) (o : Obj) : Keep a (b.alloc o) := h.trans ⟨rfl, rfl, rfl, by simp⟩
theorem Keep.drew (h : Keep a b) : Keep a b.drew := h.trans ⟨rfl, rfl, rfl, Nat.le_refl _⟩
theorem Keep.drewN (h : Keep a b) (n : Nat) : Keep a (b.drewN n) := h.trans ⟨rfl, rfl, rfl, Nat.le_refl _⟩
theorem Keep.set (h : Keep a b) (p : Addr) (v : Value) : Keep a (b.setCell p v) := h.trans ⟨rfl, rfl, rfl, by simp⟩
theorem Keep.grown {row : Option Nat} (h : Keep a b) (k : b.grownBy c row) : Keep a c := h.trans ⟨k.os, k.tape, k.output, k.size⟩
theorem Keep.below {B : Nat} (h : Keep a b) (k : Below B b c) : Keep a c := h.trans ⟨k.os, k.tape, k.output, k.size⟩
end
/-- Some are kept, by a mask; what lies behind the mask is kept. -/
def pick : List Bool → List HP → List HP
  | true :: m, p :: l => p :: pick m l
  | false :: m, _ :: l => pick m l
  | _, l => l
theorem Has.keepIn {w : World} : ∀ (m : List Bool) (acc l : List HP), Has w (acc ++ l) → Has w (acc ++ pick m l)
  | [], acc, l, h => by unfold pick; exact h
  | true :: m, acc, [], h => by unfold pick; exact h
  | false :: m, acc, [], h => by unfold pick; exact h
  | true :: m, acc, p :: l, h => by
    unfold pick
    have := Has.keepIn m (acc ++ [p]) l (by simpa using h)
    simpa using this
  | false :: m, acc, p :: l, h => by
    unfold pick
    exact Has.keepIn m acc l (h.perm (List.perm_middle) |>.drop)
theorem Has.keep {w : World} {l : List HP} (m : List Bool) (h : Has w l) : Has w (pick m l) := Has.keepIn m [] l h
/-! ### A quiet call, whose contract says 'w = w'' -/
end Go.Own
/- OWNED SLICES: a slice value with the block behind it; append, make, in the walk's form. No program in sight. -/
namespace Go.Own
open Go.RowKit
/-- v is a slice of n elements of type e (size cells each); its cells are xs; the block behind it is owned. -/
def row (v : Value) (e : TypeId) (size n : Nat) (xs : List Value) : HP := fun h => xs.length = n * size ∧
  ((v = .slice none 0 0 ∧ n = 0 ∧ emp h) ∨ ∃ (g cap : Nat) (cur : Array Value), v = .slice (some ⟨g, 0, none⟩) n cap ∧ n ≤ cap ∧ cap ≤ maxLen ∧ cur.size = cap * size ∧ cur.toList.take (n * size) = xs ∧ pt g (.cells cur e) h)
section
variable {w w' : World} {l : List HP} {v : Value} {e : TypeId} {size n : Nat} {xs : List Value}
theorem Has.row_nil (h : Has w l) (e : TypeId) (size : Nat) : Has w (row (.slice none 0 0) e size 0 [] :: l) :=
  (Has.emp_iff.2 h).imp fun _ ha => ⟨by simp, .inl ⟨rfl, rfl, ha⟩⟩
theorem Has.row_of {g cap : Nat} {cur : Array Value} (h : Has w (pt g (.cells cur e) :: l)) (h1 : n ≤ cap) (h2 : cap ≤ maxLen) (h3 : cur.size = cap * size) (h4 : cur.toList.take (n * size) = xs) (h5 : xs.length = n * size) :
    Has w (row (.slice (some ⟨g, 0, none⟩) n cap) e size n xs :: l) :=
  h.imp fun _ ha => ⟨h5, .inr ⟨g, cap, cur, rfl, h1, h2, h3, h4, ha⟩⟩
/-- Nil, or a block. -/
theorem Has.row_cases (h : Has w (row v e size n xs :: l)) : xs.length = n * size ∧ ((v = .slice none 0 0 ∧ n = 0 ∧ xs = [] ∧ Has w l) ∨
    ∃ (g cap : Nat) (cur : Array Value), v = .slice (some ⟨g, 0, none⟩) n cap ∧ n ≤ cap ∧ cap ≤ maxLen ∧ cur.size = cap * size ∧ cur.toList.take (n * size) = xs ∧ Has w (pt g (.cells cur e) :: l)) := by
  obtain ⟨_, hw, a, b, d, rfl, ⟨hl, ha⟩, hb⟩ := h
  refine ⟨hl, ?_⟩
  rcases ha with ⟨rfl, rfl, ha⟩ | ⟨g, cap, cur, rfl, h1, h2, h3, h4, ha⟩
  · left
    refine ⟨rfl, rfl, List.eq_nil_of_length_eq_zero (by simpa using hl), ?_⟩
    refine ⟨b, fun k o eq => hw k o ?_, hb⟩
    rw [show a = fun _ => none from ha, Frag.none_join]; exact eq
  · exact .inr ⟨g, cap, cur, rfl, h1, h2, h3, h4, _, hw, a, b, d, rfl, ha, hb⟩
theorem Has.row_own (h : Has w (row v e size n xs :: l)) : w.ownsRow 0 e size v n xs := by
  obtain ⟨hl, h | ⟨g, cap, cur, rfl, h1, h2, h3, h4, h5⟩⟩ := h.row_cases
  · exact ⟨hl, .inl ⟨h.1, h.2.1⟩⟩
  · exact ⟨hl, .inr ⟨g, cap, cur, rfl, Nat.zero_le _, h5.lookup, h1, h2, h3, h4⟩⟩
theorem take_getElem? {α : Type} {l : List α} {m i : Nat} (h : i < m) : (l.take m)[i]? = l[i]? := by
  rw [List.getElem?_take, if_pos h]
/-- The cells of what is owned. -/
theorem Has.row_cells {g cap m : Nat} (h : Has w (row (.slice (some ⟨g, 0, none⟩) m cap) e size n xs :: l)) : m = n ∧ (∀ j, j < n * size → w.cell? ⟨g, j, none⟩ = xs[j]?) ∧ (∀ j, w.frozen? ⟨g, j, none⟩ = false) ∧ n ≤ cap ∧ cap ≤ maxLen := by
  obtain ⟨hl, h | ⟨g', cap', cur, e1, h1, h2, h3, h4, h5⟩⟩ := h.row_cases
  · exact absurd h.1 (by simp)
  · simp only [Value.slice.injEq, Option.some.injEq, Addr.mk.injEq] at e1
    obtain ⟨⟨rfl, -, -⟩, rfl, rfl⟩ := e1
    refine ⟨rfl, fun j hj => ?_, h5.thaw, h1, h2⟩
    rw [h5.cells, ← h4, take_getElem? hj, Array.getElem?_toList]
/-- A store into what is owned. -/
theorem Has.row_set {g cap m : Nat} (h : Has w (row (.slice (some ⟨g, 0, none⟩) m cap) e size n xs :: l)) (j : Nat) (hj : j < n * size) (u : Value) :
    Has (w.setCell ⟨g, j, none⟩ u) (row (.slice (some ⟨g, 0, none⟩) m cap) e size n (xs.set j u) :: l) := by
  obtain ⟨hl, h | ⟨g', cap', cur, e1, h1, h2, h3, h4, h5⟩⟩ := h.row_cases
  · exact absurd h.1 (by simp)
  · simp only [Value.slice.injEq, Option.some.injEq, Addr.mk.injEq] at e1
    obtain ⟨⟨rfl, -, -⟩, rfl, rfl⟩ := e1
    refine (h5.set _ u).row_of h1 h2 (by simpa using h3) ?_ (by simpa using hl)
    rw [Array.toList_setIfInBounds, List.take_set, h4]

theorem Has.append {P : Program} (hO : Has w (row v e size n xs :: l)) (t ty : TypeId) (i : TypeInfo) (z : Value) (bytes : Nat) (ht : P.underlying t = some (.slice e)) (hi : P.info? e = some i) (hz : i.zero = some z)
    (hsize : i.size = size) (hby : i.bytes = bytes) (hzs : z.cells.size = size)
    (a : Addr) (m c : Nat) (news : List Value) (hl : news.length = m * size) (hnews : ∀ j u, news[j]? = some u → w.cell? (a.add j) = some u) (h1 : ∀ u ∈ news, u.oneCell' = true)
    (h63 : n + m ≤ maxLen) (hbytes : (n + m) * bytes ≤ 140737488355328) :
    ∃ v' w', (Builtin.append_ #[t, t] ty #[v, .slice (some a) m c]).run P w = .ok v' w' ∧ Has w' (row v' e size (n + m) (xs ++ news) :: l) ∧ Keep w w' ∧
      (v' = .slice none 0 0 ↔ v = .slice none 0 0 ∧ m = 0) := by
  subst hsize
  subst hby
  have hsmall : n + m ≤ 9223372036854775807 := by simp only [maxLen] at h63; omega
  obtain ⟨hxl, hc⟩ := hO.row_cases
  have hlen : (xs ++ news).length = (n + m) * i.size := by rw [List.length_append, hxl, hl, Nat.add_mul]
  have hO0 : Has w l := hO.drop
  have grown : ∀ (old : Nat), old < n + m →
      Has (w.drew.alloc (.cells (xs.toArray ++ news.toArray ++ Builtin.zeroCells z.cells (grownCap w (n + m) old e - (n + m))) e))
        (row (.slice (some ⟨w.heap.size, 0, none⟩) (n + m) (grownCap w (n + m) old e)) e i.size (n + m) (xs ++ news) :: l) ∧
      Keep w (w.drew.alloc (.cells (xs.toArray ++ news.toArray ++ Builtin.zeroCells z.cells (grownCap w (n + m) old e - (n + m))) e)) := by
    intro old ho
    have hge := grownCap_ge w (n + m) old e
    have hcm : grownCap w (n + m) old e ≤ maxLen := grownCap_le_maxLen w (n + m) old e h63
    refine ⟨(hO0.drew.alloc _).row_of hge hcm ?_ ?_ hlen, (Keep.refl w).drew.alloc _⟩
    · simp only [Array.size_append, List.size_toArray, size_zeroCells, hzs, hxl, hl, ← Nat.add_mul]
      congr 1
      omega
    · simp only [Array.toList_append, List.append_assoc]
      rw [← List.append_assoc, ← hlen]
      exact List.take_left
  rcases hc with ⟨rfl, rfl, rfl, hO'⟩ | ⟨g, cap, cur, rfl, hnc, hcm, hcs, htake, hp⟩
  · by_cases hm : m = 0
    · subst hm
      have hn : news = [] := List.eq_nil_of_length_eq_zero (by simpa using hl)
      subst hn
      refine ⟨.slice none 0 0, w, ?_, hO'.row_nil e i.size, Keep.refl w, by simp⟩
      simp [Builtin.append_, run_underlying ht, sizeOf, typeInfo, hi, Builtin.lenOf, Builtin.firstCells, loadCells, loadCellsFrom]
    · have hr := run_append_nil (P := P) w t ty e i z ht hi hz a m c news hl hnews (by omega) (by omega) (by have hb := hbytes; simp only [Nat.zero_add] at hb; omega)
      have hgr := grown 0 (by omega)
      simp only [Nat.zero_add, List.nil_append, Array.empty_append] at hgr ⊢
      exact ⟨_, _, hr, hgr.1, hgr.2, by simp [hm]⟩
  · by_cases hroom : n + m ≤ cap
    · have hfit : n * i.size + news.length ≤ cur.size := by rw [hl, hcs, ← Nat.add_mul]; exact Nat.mul_le_mul_right _ hroom
      have hr := run_append_room (P := P) w t ty e i ht hi g n cap cur hp.lookup a m c news hl hnews h1 hroom hfit
      refine ⟨_, _, hr, (hp.turn (fun k _ hk => setRow_other w g k _ hk) (setRow_heap w g cur _ e _ hp.lookup)).row_of hroom hcm ?_ ?_ hlen, ⟨rfl, rfl, rfl, by simp⟩, by simp⟩
      · simp only [List.size_toArray, List.length_append, List.length_take, List.length_drop, Array.length_toList]
        omega
      · rw [htake, ← hlen]
        exact List.take_left
    · have holds : ∀ j u, xs[j]? = some u → w.cell? ((⟨g, 0, none⟩ : Addr).add j) = some u := hO.row_own.cells (g := g) rfl
      have hr := run_append_grow (P := P) w t ty e i z ht hi hz ⟨g, 0, none⟩ n cap xs hxl holds a m c news hl hnews (by omega) (by omega) (growslice_fits (by omega) hbytes)
      have hgr := grown cap (by omega)
      exact ⟨_, _, hr, hgr.1, hgr.2, by simp⟩

theorem wp_append {P : Program} {o : Oper} {a : Act} {K : Act → World → Prop} {Q : Exit → Act → World → Prop} (s x : Operand) (t : TypeId)
    (ho : o.op = .call { callee := .builtin .append, args := #[s, x], argTypes := #[t, t] })
    (i : TypeInfo) (z : Value) (bytes : Nat) (ht : P.underlying t = some (.slice e)) (hi : P.info? e = some i) (hz : i.zero = some z)
    (hsize : i.size = size) (hby : i.bytes = bytes) (hzs : z.cells.size = size)
    (hO : Has w (row v e size n xs :: l)) (hs : a.eval s = v)
    (ad : Addr) (m c : Nat) (news : List Value) (hx : a.eval x = .slice (some ad) m c) (hl : news.length = m * size) (hnews : ∀ j u, news[j]? = some u → w.cell? (ad.add j) = some u) (h1 : ∀ u ∈ news, u.oneCell' = true)
    (h63 : n + m ≤ maxLen) (hbytes : (n + m) * bytes ≤ 140737488355328)
    (h : ∀ v' w', Has w' (row v' e size (n + m) (xs ++ news) :: l) → Keep w w' → (v' = .slice none 0 0 ↔ v = .slice none 0 0 ∧ m = 0) → K (a.put o.dst v') w') : o.wp P a w K Q := by
  obtain ⟨v', w', hr, h2, h3, h4⟩ := hO.append (P := P) t o.type i z bytes ht hi hz hsize hby hzs ad m c news hl hnews h1 h63 hbytes
  unfold Oper.wp execOp
  simp only [ho, resolve, invoke, builtin, Sem.run_bind, Sem.run_pure, Result.andThen_ok, List.map_toArray, List.map_cons, List.map_nil, hs, hx, hr]
  exact h v' w' h2 h3 h4

theorem wpList_append {P : Program} {ops : Array Oper} {rest : List Oper} {o : Oper} {a : Act} {Q : Exit → Act → World → Prop} (hgd : o.guard = none) (s x : Operand) (t : TypeId)
    (ho : o.op = .call { callee := .builtin .append, args := #[s, x], argTypes := #[t, t] })
    (i : TypeInfo) (z : Value) (bytes : Nat) (ht : P.underlying t = some (.slice e)) (hi : P.info? e = some i) (hz : i.zero = some z)
    (hsize : i.size = size) (hby : i.bytes = bytes) (hzs : z.cells.size = size)
    (hO : Has w (row v e size n xs :: l)) (hs : a.eval s = v)
    (ad : Addr) (m c : Nat) (news : List Value) (hx : a.eval x = .slice (some ad) m c) (hl : news.length = m * size) (hnews : ∀ j u, news[j]? = some u → w.cell? (ad.add j) = some u) (h1 : ∀ u ∈ news, u.oneCell' = true)
    (h63 : n + m ≤ maxLen) (hbytes : (n + m) * bytes ≤ 140737488355328)
    (h : ∀ v' w', Has w' (row v' e size (n + m) (xs ++ news) :: l) → Keep w w' → (v' = .slice none 0 0 ↔ v = .slice none 0 0 ∧ m = 0) → wpList P ops Q rest (a.put o.dst v') w') : wpList P ops Q (o :: rest) a w :=
  wpList_plain hgd fun _ hK => wp_append s x t ho i z bytes ht hi hz hsize hby hzs hO hs ad m c news hx hl hnews h1 h63 hbytes fun v' w' h2 h3 h4 => hK _ _ (h v' w' h2 h3 h4)
/-- 'append(s, u)' of one element of one cell, which lies in a new block at the end. -/
theorem wpList_append1 {P : Program} {ops : Array Oper} {rest : List Oper} {o : Oper} {a : Act} {Q : Exit → Act → World → Prop} (hgd : o.guard = none) (s x : Operand) (t : TypeId)
    (ho : o.op = .call { callee := .builtin .append, args := #[s, x], argTypes := #[t, t] })
    {z : Value} {bytes : Nat} (ht : P.underlying t = some (.slice e)) (hi : (P.info? e).map (fun i => (i.zero, i.size, i.bytes)) = some (some z, 1, bytes)) (hzs : z.cells.size = 1)
    (u : Value) (hO : Has w (row v e 1 n xs :: l)) (hs : a.eval s = v) (c : Nat) (b : Nat)
    (hx : a.eval x = .slice (some ⟨b, 0, none⟩) 1 c) (hu : w.cell? ⟨b, 0, none⟩ = some u) (h1 : u.oneCell' = true)
    (h63 : n + 1 ≤ maxLen) (hbytes : (n + 1) * bytes ≤ 140737488355328)
    (h : ∀ v' w', Has w' (row v' e 1 (n + 1) (xs ++ [u]) :: l) → Keep w w' → wpList P ops Q rest (a.put o.dst v') w') : wpList P ops Q (o :: rest) a w := by
  obtain ⟨i, hi, hz, hsz, hby⟩ := info_parts hi
  refine wpList_append hgd s x t ho i z bytes ht hi hz hsz hby hzs hO hs ⟨b, 0, none⟩ 1 c [u] hx rfl ?_ ?_ h63 hbytes fun v' w' h2 h3 _ => h v' w' h2 h3
  · intro j y hj
    cases j with
    | zero => simp at hj; subst hj; simpa [Addr.add] using hu
    | succ j => simp at hj
  · intro y hy; simp at hy; subst hy; exact h1
/-- v reads as a slice of n elements (size cells each) whose cells are xs. -/
def Rd (w : World) (v : Value) (size n : Nat) (xs : List Value) : Prop := xs.length = n * size ∧ n ≤ maxLen ∧ ∃ (p : Option Addr) (cap : Nat), v = .slice p n cap ∧ n ≤ cap ∧
  (0 < n * size → ∃ (g o : Nat), p = some ⟨g, o, none⟩ ∧ ∀ j, j < n * size → w.cell? ⟨g, o + j, none⟩ = xs[j]?)
theorem Has.rd (h : Has w (row v e size n xs :: l)) : Rd w v size n xs := by
  obtain ⟨hl, h1 | ⟨g, cap, cur, rfl, h1, h2, h3, h4, h5⟩⟩ := h.row_cases
  · exact ⟨hl, by rw [h1.2.1]; exact Nat.zero_le _, none, 0, by rw [h1.1, h1.2.1], by omega, fun hp => absurd hp (by rw [h1.2.1]; simp)⟩
  · exact ⟨hl, by omega, _, cap, rfl, h1, fun _ => ⟨g, 0, rfl, fun j hj => by rw [Nat.zero_add]; exact h.row_cells.2.1 j hj⟩⟩
theorem Rd.drewN (h : Rd w v size n xs) (m : Nat) : Rd (w.drewN m) v size n xs := h
theorem Rd.cellsOld {w' : World} (h : Rd w v size n xs) (hk : ∀ k, k < w.heap.size → w'.heap[k]? = w.heap[k]?) : Rd w' v size n xs := by
  obtain ⟨h1, h2, p, cap, h3, h4, h5⟩ := h
  refine ⟨h1, h2, p, cap, h3, h4, fun hp => ?_⟩
  obtain ⟨g, o, h6, h7⟩ := h5 hp
  refine ⟨g, o, h6, fun j hj => ?_⟩
  rw [← h7 j hj]
  have hc := h7 j hj
  rw [List.getElem?_eq_getElem (by omega)] at hc
  exact World.cell?_of_block (hk g (World.block_lt_of_cell? w _ hc))
theorem Rd.alloc (h : Rd w v size n xs) (o : Obj) : Rd (w.alloc o) v size n xs := h.cellsOld fun _ hk => Below.heap_alloc _ _ _ hk
theorem le_maxLen {k : Nat} (h : k ≤ 1000000000000000000) : k ≤ maxLen := by unfold maxLen; omega
/-- The value's form, nil or not. -/
theorem Rd.form (h : Rd w v size n xs) : ∃ (p : Option Addr) (cap : Nat), v = .slice p n cap ∧ n ≤ cap ∧ n ≤ 9223372036854775807 ∧ (0 < n * size → ∃ (g o : Nat), p = some ⟨g, o, none⟩ ∧ ∀ j, j < n * size → w.cell? ⟨g, o + j, none⟩ = xs[j]?) := by
  obtain ⟨_, h2, p, cap, h3, h4, h5⟩ := h
  exact ⟨p, cap, h3, h4, by unfold maxLen at h2; omega, h5⟩
theorem cell_plain {x : Addr} {u : Value} (h : w.cell? x = some u) : x = ⟨x.block, x.off, none⟩ := by
  obtain ⟨b, o, s⟩ := x
  cases s with
  | none => rfl
  | some s =>
    unfold World.cell? at h
    split at h <;> simp at h
theorem add_plain (g o j : Nat) : (⟨g, o, none⟩ : Addr).add j = ⟨g, o + j, none⟩ := by unfold Addr.add; split <;> simp_all
/-- A list of ints as cells. -/
def ic (xs : List Int) : List Value := xs.map (Value.int .i64)
theorem ic_snoc (xs : List Int) (x : Int) : ic (xs ++ [x]) = ic xs ++ [.int .i64 x] := by simp [ic]
/-- A list of bytes as cells. -/
def bc (xs : List Int) : List Value := xs.map (Value.int .u8)
/-- Is a slice nil? -/
def nilS : Value → Bool
  | .slice none _ _ => true
  | _ => false
theorem Has.row_nilS (h : Has w (row v e size n xs :: l)) (hv : v ≠ .slice none 0 0) : nilS v = false := by
  obtain ⟨-, h1 | ⟨g, cap, cur, rfl, -⟩⟩ := h.row_cases
  · exact absurd h1.1 hv
  · rfl
/-- 'append(s, x...)' of what reads as a row. -/
theorem wpList_append_rd {P : Program} {ops : Array Oper} {rest : List Oper} {o : Oper} {a : Act} {Q : Exit → Act → World → Prop} (hgd : o.guard = none) (s x : Operand) (t : TypeId)
    (ho : o.op = .call { callee := .builtin .append, args := #[s, x], argTypes := #[t, t] })
    {z : Value} {bytes : Nat} (ht : P.underlying t = some (.slice e)) (hi : (P.info? e).map (fun i => (i.zero, i.size, i.bytes)) = some (some z, size, bytes)) (hzs : z.cells.size = size)
    (hO : Has w (row v e size n xs :: l)) (hs : a.eval s = v) (ad : Addr) (m c : Nat) (ys : List Value) (hx : a.eval x = .slice (some ad) m c) (hr : Rd w (.slice (some ad) m c) size m ys) (h1 : ∀ u ∈ ys, u.oneCell' = true)
    (h63 : n + m ≤ maxLen) (hbytes : (n + m) * bytes ≤ 140737488355328)
    (h : ∀ v' w', Has w' (row v' e size (n + m) (xs ++ ys) :: l) → Keep w w' → (v' = .slice none 0 0 ↔ v = .slice none 0 0 ∧ m = 0) → wpList P ops Q rest (a.put o.dst v') w') : wpList P ops Q (o :: rest) a w := by
  obtain ⟨i, hi, hz, hsz, hby⟩ := info_parts hi
  refine wpList_append hgd s x t ho i z bytes ht hi hz hsz hby hzs hO hs ad m c ys hx hr.1 ?_ h1 h63 hbytes h
  intro j y hj
  obtain ⟨hl, -, p, cap, e1, -, hc⟩ := hr
  cases e1
  have hjl : j < m * size := by rw [← hl]; exact (List.getElem?_eq_some_iff.1 hj).1
  obtain ⟨g, o, e2, hc2⟩ := hc (by omega)
  cases e2
  rw [add_plain, hc2 j hjl, hj]
theorem bc_one (xs : List Int) : ∀ u ∈ bc xs, u.oneCell' = true := by
  intro u hu
  simp only [bc, List.mem_map] at hu
  obtain ⟨x, -, rfl⟩ := hu
  rfl
/-- 'append(s, u)' inside a region. -/
theorem wp_append1 {P : Program} {o : Oper} {a : Act} {K : Act → World → Prop} {Q : Exit → Act → World → Prop} (s x : Operand) (t : TypeId)
    (ho : o.op = .call { callee := .builtin .append, args := #[s, x], argTypes := #[t, t] })
    {z : Value} {bytes : Nat} (ht : P.underlying t = some (.slice e)) (hi : (P.info? e).map (fun i => (i.zero, i.size, i.bytes)) = some (some z, size, bytes)) (hzs : z.cells.size = size)
    (us : List Value) (hus : us.length = size) (hO : Has w (row v e size n xs :: l)) (hs : a.eval s = v) (c : Nat) (b : Nat)
    (hx : a.eval x = .slice (some ⟨b, 0, none⟩) 1 c) (hu : ∀ j, w.cell? ⟨b, j, none⟩ = us[j]?) (h1 : ∀ u ∈ us, u.oneCell' = true)
    (h63 : n + 1 ≤ maxLen) (hbytes : (n + 1) * bytes ≤ 140737488355328)
    (h : ∀ v' w', Has w' (row v' e size (n + 1) (xs ++ us) :: l) → Keep w w' → K (a.put o.dst v') w') : o.wp P a w K Q := by
  obtain ⟨i, hi, hz, hsz, hby⟩ := info_parts hi
  refine wp_append s x t ho i z bytes ht hi hz hsz hby hzs hO hs ⟨b, 0, none⟩ 1 c us hx (by rw [hus, Nat.one_mul]) ?_ h1 h63 hbytes fun v' w' h2 h3 _ => h v' w' h2 h3
  intro j y hj
  rw [add_plain, Nat.zero_add, hu, hj]
end
end Go.Own
