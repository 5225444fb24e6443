/-
  OWNERSHIP: a small separation logic over the model's memory, block by block, for contracts of functions that make and write memory. No program in sight.
-/
import Derived.WalkKit
import Derived.WalkSpells
import Derived.Deep.Quiet
import Derived.Deep.QuietTactic
namespace Go.Own
open Go.RowKit

/-- A fact that the walk does not take for a rule. -/
theorem hid {p : Prop} (h : p) : Hid p := h
abbrev Frag := Nat → Option Obj
def HP := Frag → Prop
def Frag.disj (a b : Frag) : Prop := ∀ k, a k = none ∨ b k = none
def Frag.join (a b : Frag) : Frag := fun k => (a k).or (b k)
def sep (p q : HP) : HP := fun h => ∃ a b : Frag, Frag.disj a b ∧ h = Frag.join a b ∧ p a ∧ q b
def emp : HP := fun h => h = fun _ => none
def pt (b : Nat) (o : Obj) : HP := fun h => h = fun k => if k = b then some o else none
def fact (φ : Prop) : HP := fun h => φ ∧ emp h
def ex {α : Type} (p : α → HP) : HP := fun h => ∃ x, p x h
def any : HP := fun _ => True
def old (W : World) : HP := fun h => h = fun k => W.heap[k]?
def star : List HP → HP
  | [] => emp
  | p :: l => sep p (star l)
def Has (w : World) (l : List HP) : Prop := ∃ h : Frag, (∀ k o, h k = some o → w.heap[k]? = some o) ∧ star l h

theorem Frag.disj_comm {a b : Frag} (h : Frag.disj a b) : Frag.disj b a := fun k => (h k).symm
theorem Frag.join_comm {a b : Frag} (h : Frag.disj a b) : Frag.join a b = Frag.join b a := by
  funext k; unfold Frag.join; rcases h k with e | e <;> simp [e]
theorem Frag.join_assoc (a b c : Frag) : Frag.join (Frag.join a b) c = Frag.join a (Frag.join b c) := by
  funext k; simp [Frag.join, Option.or_assoc]
theorem Frag.disj_join {a b c : Frag} : Frag.disj (Frag.join a b) c ↔ Frag.disj a c ∧ Frag.disj b c := by
  constructor
  · intro h
    refine ⟨fun k => ?_, fun k => ?_⟩ <;> rcases h k with e | e
    · simp [Frag.join] at e; exact .inl e.1
    · exact .inr e
    · simp [Frag.join] at e; exact .inl e.2
    · exact .inr e
  · rintro ⟨h1, h2⟩ k
    rcases h1 k with e | e
    · rcases h2 k with e' | e'
      · left; simp [Frag.join, e, e']
      · exact .inr e'
    · exact .inr e
theorem Frag.join_none (a : Frag) : Frag.join a (fun _ => none) = a := by funext k; simp [Frag.join]
theorem Frag.none_join (a : Frag) : Frag.join (fun _ => none) a = a := by funext k; simp [Frag.join]

theorem sep_comm (p q : HP) : sep p q = sep q p := by
  funext h; apply propext; constructor <;> (rintro ⟨a, b, d, rfl, x, y⟩; exact ⟨b, a, Frag.disj_comm d, Frag.join_comm d, y, x⟩)
theorem sep_assoc (p q r : HP) : sep (sep p q) r = sep p (sep q r) := by
  funext h; apply propext; constructor
  · rintro ⟨_, c, d, rfl, ⟨a, b, d', rfl, x, y⟩, z⟩
    obtain ⟨d1, d2⟩ := Frag.disj_join.1 d
    exact ⟨a, Frag.join b c, Frag.disj_comm (Frag.disj_join.2 ⟨Frag.disj_comm d', Frag.disj_comm d1⟩), Frag.join_assoc _ _ _, x, b, c, d2, rfl, y, z⟩
  · rintro ⟨a, _, d, rfl, x, ⟨b, c, d', rfl, y, z⟩⟩
    obtain ⟨d1, d2⟩ := Frag.disj_join.1 (Frag.disj_comm d)
    exact ⟨Frag.join a b, c, Frag.disj_join.2 ⟨Frag.disj_comm d2, d'⟩, (Frag.join_assoc _ _ _).symm, ⟨a, b, Frag.disj_comm d1, rfl, x, y⟩, z⟩
theorem sep_emp (p : HP) : sep p emp = p := by
  funext h; apply propext; constructor
  · rintro ⟨a, b, _, rfl, x, rfl⟩; rw [Frag.join_none]; exact x
  · intro x; exact ⟨h, _, fun _ => .inr rfl, (Frag.join_none h).symm, x, rfl⟩
theorem emp_sep (p : HP) : sep emp p = p := by rw [sep_comm, sep_emp]
theorem sep_left_comm (p q r : HP) : sep p (sep q r) = sep q (sep p r) := by rw [← sep_assoc, sep_comm p q, sep_assoc]
theorem star_append (l m : List HP) : star (l ++ m) = sep (star l) (star m) := by
  induction l with
  | nil => simp [star, emp_sep]
  | cons p l ih => simp only [List.cons_append, star, ih, sep_assoc]
theorem star_perm {l m : List HP} (h : l.Perm m) : star l = star m := by
  induction h with
  | nil => rfl
  | cons x _ ih => simp only [star, ih]
  | swap x y l => simp only [star]; exact sep_left_comm _ _ _
  | trans _ _ i1 i2 => exact i1.trans i2
theorem star_one (p : HP) : star [p] = p := by simp [star, sep_emp]

theorem perm_pull {α : Type _} : ∀ (l : List α) (i : Nat) (hi : i < l.length), l.Perm (l[i] :: l.eraseIdx i)
  | a :: l, 0, _ => .refl _
  | a :: l, i + 1, hi => ((perm_pull l i (by simpa using hi)).cons a).trans (.swap _ _ _)
section
variable {w w' : World} {p q : HP} {l m : List HP}
theorem Has.perm (h : Has w l) (hp : l.Perm m) : Has w m := by unfold Has at *; rwa [← star_perm hp]
theorem Has.congr (e : star l = star m) : Has w l ↔ Has w m := by unfold Has; rw [e]
theorem Has.drop (h : Has w (p :: l)) : Has w l := by
  obtain ⟨_, hw, a, b, d, rfl, _, hb⟩ := h
  refine ⟨b, fun k o e => ?_, hb⟩
  refine hw k o ?_
  rcases d k with e' | e'
  · simp [Frag.join, e', e]
  · rw [e'] at e; cases e
theorem Has.swap (h : Has w (p :: q :: l)) : Has w (q :: p :: l) := h.perm (List.Perm.swap _ _ _)
/-- The i-th is brought to the head. -/
theorem Has.pull (i : Nat) (h : Has w l) (hi : i < l.length := by decide) : Has w (l[i] :: l.eraseIdx i) :=
  h.perm (perm_pull l i hi)
/-! The second (third ..) is brought to the head; and back. -/
theorem Has.p1 {p q : HP} (h : Has w (p :: q :: l)) : Has w (q :: p :: l) := h.perm (.swap _ _ _)
theorem Has.p2 {p q r : HP} (h : Has w (p :: q :: r :: l)) : Has w (r :: p :: q :: l) := h.perm (perm_pull [p, q, r] 2 (by simp) |>.append_right l)
theorem Has.p3 {p q r s : HP} (h : Has w (p :: q :: r :: s :: l)) : Has w (s :: p :: q :: r :: l) := h.perm (perm_pull [p, q, r, s] 3 (by simp) |>.append_right l)
theorem Has.p4 {p q r s t : HP} (h : Has w (p :: q :: r :: s :: t :: l)) : Has w (t :: p :: q :: r :: s :: l) := h.perm (perm_pull [p, q, r, s, t] 4 (by simp) |>.append_right l)
theorem Has.p5 {p q r s t u : HP} (h : Has w (p :: q :: r :: s :: t :: u :: l)) : Has w (u :: p :: q :: r :: s :: t :: l) := h.perm (perm_pull [p, q, r, s, t, u] 5 (by simp) |>.append_right l)
theorem Has.p6 {p q r s t u v : HP} (h : Has w (p :: q :: r :: s :: t :: u :: v :: l)) : Has w (v :: p :: q :: r :: s :: t :: u :: l) := h.perm (perm_pull [p, q, r, s, t, u, v] 6 (by simp) |>.append_right l)
theorem Has.b2 {p q r : HP} (h : Has w (r :: p :: q :: l)) : Has w (p :: q :: r :: l) := h.perm (perm_pull [p, q, r] 2 (by simp) |>.append_right l).symm
theorem Has.b3 {p q r s : HP} (h : Has w (s :: p :: q :: r :: l)) : Has w (p :: q :: r :: s :: l) := h.perm (perm_pull [p, q, r, s] 3 (by simp) |>.append_right l).symm
theorem Has.b4 {p q r s t : HP} (h : Has w (t :: p :: q :: r :: s :: l)) : Has w (p :: q :: r :: s :: t :: l) := h.perm (perm_pull [p, q, r, s, t] 4 (by simp) |>.append_right l).symm
theorem Has.b5 {p q r s t u : HP} (h : Has w (u :: p :: q :: r :: s :: t :: l)) : Has w (p :: q :: r :: s :: t :: u :: l) := h.perm (perm_pull [p, q, r, s, t, u] 5 (by simp) |>.append_right l).symm
theorem Has.b6 {p q r s t u v : HP} (h : Has w (v :: p :: q :: r :: s :: t :: u :: l)) : Has w (p :: q :: r :: s :: t :: u :: v :: l) := h.perm (perm_pull [p, q, r, s, t, u, v] 6 (by simp) |>.append_right l).symm
theorem Has.imp (hpq : ∀ a, p a → q a) (h : Has w (p :: l)) : Has w (q :: l) := by
  obtain ⟨h0, hw, a, b, d, e, ha, hb⟩ := h
  exact ⟨h0, hw, a, b, d, e, hpq a ha, hb⟩
theorem Has.fact_iff {φ : Prop} : Has w (fact φ :: l) ↔ φ ∧ Has w l := by
  constructor
  · rintro ⟨h0, hw, a, b, d, e, ⟨hφ, ha⟩, hb⟩
    refine ⟨hφ, h0, hw, ?_⟩
    rw [e, show a = fun _ => none from ha, Frag.none_join]; exact hb
  · rintro ⟨hφ, h0, hw, hs⟩
    exact ⟨h0, hw, _, h0, fun _ => .inl rfl, (Frag.none_join h0).symm, ⟨hφ, rfl⟩, hs⟩
theorem Has.ex_iff {α : Type} {f : α → HP} : Has w (ex f :: l) ↔ ∃ x, Has w (f x :: l) := by
  constructor
  · rintro ⟨h0, hw, a, b, d, e, ⟨x, ha⟩, hb⟩; exact ⟨x, h0, hw, a, b, d, e, ha, hb⟩
  · rintro ⟨x, h0, hw, a, b, d, e, ha, hb⟩; exact ⟨h0, hw, a, b, d, e, ⟨x, ha⟩, hb⟩
theorem Has.sep_iff : Has w (sep p q :: l) ↔ Has w (p :: q :: l) := Has.congr (by simp only [star]; exact sep_assoc _ _ _)
theorem Has.emp_iff : Has w (emp :: l) ↔ Has w l := Has.congr (by simp only [star]; exact emp_sep _)
theorem Has.star_iff : Has w (star m :: l) ↔ Has w (m ++ l) := Has.congr (by rw [star_append]; rfl)
theorem Has.any (h : Has w (p :: l)) : Has w (Go.Own.any :: l) := h.imp fun _ _ => trivial

theorem Has.lookup {b : Nat} {o : Obj} (h : Has w (pt b o :: l)) : w.heap[b]? = some o := by
  obtain ⟨_, hw, a, c, d, rfl, rfl, hb⟩ := h
  exact hw b o (by simp [Frag.join])
theorem Has.lt {b : Nat} {o : Obj} (h : Has w (pt b o :: l)) : b < w.heap.size := (Array.getElem?_eq_some_iff.1 h.lookup).1
theorem Has.ne {b b' : Nat} {o o' : Obj} (h : Has w (pt b o :: pt b' o' :: l)) : b ≠ b' := by
  rintro rfl
  obtain ⟨_, hw, a, c, d, rfl, rfl, a', c', d', rfl, rfl, hb⟩ := h
  have := d b
  simp [Frag.join] at this
theorem Has.old_ne {b : Nat} {o : Obj} {W : World} (h : Has w (pt b o :: old W :: l)) : W.heap.size ≤ b := by
  obtain ⟨_, hw, a, c, d, rfl, rfl, a', c', d', rfl, rfl, hb⟩ := h
  have := d b
  simp [Frag.join] at this
  exact this.1
theorem Has.old_look {W : World} (h : Has w (old W :: l)) : ∀ k, k < W.heap.size → w.heap[k]? = W.heap[k]? := by
  obtain ⟨_, hw, a, c, d, rfl, rfl, hb⟩ := h
  intro k hk
  rw [Array.getElem?_eq_getElem hk]
  exact hw k _ (by simp [Frag.join, hk])
theorem Has.old_size {W : World} (h : Has w (old W :: l)) : W.heap.size ≤ w.heap.size := by
  by_cases hz : W.heap.size = 0
  · omega
  · have := h.old_look (W.heap.size - 1) (by omega)
    rw [Array.getElem?_eq_getElem (xs := W.heap) (by omega)] at this
    obtain ⟨this, _⟩ := Array.getElem?_eq_some_iff.1 this
    omega
theorem Has.start (w : World) : Has w [old w] := by
  refine ⟨fun k => w.heap[k]?, fun k o e => e, ?_⟩
  rw [star_one]; rfl
/-- Nothing that is owned turns. -/
theorem Has.frame (h : Has w l) (hk : ∀ k, k < w.heap.size → w'.heap[k]? = w.heap[k]?) : Has w' l := by
  obtain ⟨h0, hw, hs⟩ := h
  refine ⟨h0, fun k o e => ?_, hs⟩
  have := hw k o e
  rw [hk k (Array.getElem?_eq_some_iff.1 this).1]; exact this
/-- ONE BLOCK MAY TURN; others come. -/
theorem Has.turn {b : Nat} {o o' : Obj} (h : Has w (pt b o :: l)) (hk : ∀ k, k < w.heap.size → k ≠ b → w'.heap[k]? = w.heap[k]?) (hb : w'.heap[b]? = some o') : Has w' (pt b o' :: l) := by
  obtain ⟨_, hw, a, c, d, rfl, rfl, hs⟩ := h
  refine ⟨_, fun k x e => ?_, (fun k => if k = b then some o' else none), c, fun k => ?_, rfl, rfl, hs⟩
  · by_cases e' : k = b
    · subst e'; simp [Frag.join] at e; subst e; exact hb
    · simp [Frag.join, e'] at e
      have := hw k x (by simp [Frag.join, e', e])
      rw [hk k (Array.getElem?_eq_some_iff.1 this).1 e']; exact this
  · rcases d k with e' | e'
    · by_cases e2 : k = b
      · simp [e2] at e'
      · simp [e2]
    · exact .inr e'
/-- A block comes. -/
theorem Has.fresh {b : Nat} {o : Obj} (h : Has w l) (hk : ∀ k, k < w.heap.size → w'.heap[k]? = w.heap[k]?) (hb : w.heap.size ≤ b) (hn : w'.heap[b]? = some o) : Has w' (pt b o :: l) := by
  obtain ⟨h0, hw, hs⟩ := h
  have hz : h0 b = none := by
    cases e : h0 b with
    | none => rfl
    | some x => have := (Array.getElem?_eq_some_iff.1 (hw b x e)).1; omega
  refine ⟨_, fun k x e => ?_, (fun k => if k = b then some o else none), h0, fun k => ?_, rfl, rfl, hs⟩
  · by_cases e' : k = b
    · subst e'; simp [Frag.join] at e; subst e; exact hn
    · simp [Frag.join, e'] at e
      have := hw k x e
      rw [hk k (Array.getElem?_eq_some_iff.1 this).1]; exact this
  · by_cases e2 : k = b
    · subst e2; exact .inr hz
    · simp [e2]
theorem Has.alloc (h : Has w l) (o : Obj) : Has (w.alloc o) (pt w.heap.size o :: l) :=
  h.fresh (fun k hk => Below.heap_alloc _ _ _ hk) (Nat.le_refl _) (by show (w.heap.push o)[_]? = _; simp)
theorem Has.alloc' (h : Has w l) (o : Obj) : Has (w.alloc o) l := (h.alloc o).drop
theorem Has.drew (h : Has w l) : Has w.drew l := h
theorem Has.drewN (h : Has w l) (n : Nat) : Has (w.drewN n) l := h.frame fun k _ => by simp [World.drewN]
theorem Has.set {b : Nat} {C : Array Value} {T : TypeId} {z : Nat × Nat} (h : Has w (pt b (.cells C T z) :: l)) (off : Nat) (v : Value) : Has (w.setCell ⟨b, off, none⟩ v) (pt b (.cells (C.setIfInBounds off v) T z) :: l) := by
  refine h.turn (fun k _ hne => Below.heap_setCell _ _ _ _ hne) ?_
  have := h.lookup
  simp [World.setCell, Array.getElem?_modify, this]
theorem Has.setObj {b : Nat} {o : Obj} (h : Has w (pt b o :: l)) (o' : Obj) : Has { w with heap := w.heap.setIfInBounds b o' } (pt b o' :: l) := by
  refine h.turn (fun k _ hne => ?_) ?_
  · simp [Ne.symm hne]
  · have := h.lt
    simp [this]
theorem Has.cells {b : Nat} {C : Array Value} {T : TypeId} {z : Nat × Nat} (h : Has w (pt b (.cells C T z) :: l)) (i : Nat) : w.cell? ⟨b, i, none⟩ = C[i]? := by
  simp [World.cell?, h.lookup]
theorem Has.thaw {b : Nat} {C : Array Value} {T : TypeId} (h : Has w (pt b (.cells C T) :: l)) (i : Nat) : w.frozen? ⟨b, i, none⟩ = false := by
  simp [World.frozen?, h.lookup]
theorem Has.below {W : World} (h : Has w (old W :: l)) (h1 : w.os = W.os) (h2 : w.tape = W.tape) (h3 : w.output = W.output) : Below W.heap.size W w :=
  ⟨h1, h2, h3, h.old_size, h.old_look⟩
end

/-- The streams are as they were, no block has gone. -/
structure Keep (w w' : World) : Prop where
  os : w'.os = w.os
  tape : w'.tape = w.tape
  output : w'.output = w.output
  size : w.heap.size ≤ w'.heap.size
theorem Keep.refl (w : World) : Keep w w := ⟨rfl, rfl, rfl, Nat.le_refl _⟩
section
variable {a b c : World}
theorem Keep.trans (h : Keep a b) (k : Keep b c) : Keep a c := ⟨k.os.trans h.os, k.tape.trans h.tape, k.output.trans h.output, Nat.le_trans h.size k.size⟩
theorem Keep.alloc (h : Keep a b) (o : Obj) : Keep a (b.alloc o) := h.trans ⟨rfl, rfl, rfl, by simp⟩
theorem Keep.drew (h : Keep a b) : Keep a b.drew := h.trans ⟨rfl, rfl, rfl, Nat.le_refl _⟩
theorem Keep.drewN (h : Keep a b) (n : Nat) : Keep a (b.drewN n) := h.trans ⟨rfl, rfl, rfl, Nat.le_refl _⟩
theorem Keep.set (h : Keep a b) (p : Addr) (v : Value) : Keep a (b.setCell p v) := h.trans ⟨rfl, rfl, rfl, by simp⟩
theorem Keep.grown {row : Option Nat} (h : Keep a b) (k : b.grownBy c row) : Keep a c := h.trans ⟨k.os, k.tape, k.output, k.size⟩
theorem Keep.below {B : Nat} (h : Keep a b) (k : Below B b c) : Keep a c := h.trans ⟨k.os, k.tape, k.output, k.size⟩
end
/-- Some are kept, by a mask; what lies behind the mask is kept. -/
def pick : List Bool → List HP → List HP
  | true :: m, p :: l => p :: pick m l
  | false :: m, _ :: l => pick m l
  | _, l => l
theorem Has.keepIn {w : World} : ∀ (m : List Bool) (acc l : List HP), Has w (acc ++ l) → Has w (acc ++ pick m l)
  | [], acc, l, h => by unfold pick; exact h
  | true :: m, acc, [], h => by unfold pick; exact h
  | false :: m, acc, [], h => by unfold pick; exact h
  | true :: m, acc, p :: l, h => by
    unfold pick
    have := Has.keepIn m (acc ++ [p]) l (by simpa using h)
    simpa using this
  | false :: m, acc, p :: l, h => by
    unfold pick
    exact Has.keepIn m acc l (h.perm (List.perm_middle) |>.drop)
theorem Has.keep {w : World} {l : List HP} (m : List Bool) (h : Has w l) : Has w (pick m l) := Has.keepIn m [] l h
/-! ### A quiet call, whose contract says 'w = w'' -/
theorem qleft {P : Program} {f : FuncId} {args : Array Value} {w : World} {n : Nat} {v : Value}
    (h : Calls P f args (w.drewN n) fun e w' => e = .returned v ∧ w.drewN n = w') : Calls P f args (w.drewN n) fun e w'' => e = .returned v ∧ ∃ m, w'' = w.drewN m :=
  h.mono fun _ _ ⟨he, hm⟩ => ⟨he, n, hm.symm⟩
theorem qadd {P : Program} {f : FuncId} {args : Array Value} {w : World} {a n : Nat} {v : Value}
    (h : Calls P f args (w.drewN (a + n)) fun e w' => e = .returned v ∧ w.drewN (a + n) = w') :
    Calls P f args (w.drewN (a + n)) fun e w'' => e = .returned v ∧ ∃ m, w'' = w.drewN (a + m) :=
  h.mono fun _ _ ⟨he, hm⟩ => ⟨he, n, hm.symm⟩
end Go.Own
