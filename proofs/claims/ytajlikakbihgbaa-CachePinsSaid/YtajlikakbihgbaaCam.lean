/- THE PLAIN MODEL OF A CACHE: sectors in memory, the oldest first. -/
import Derived.Test.YtajlikakbihgbaaDiskk
namespace Go.Ch
open Go.Own Go.RowKit
/-- A sector in memory: its number, its slice and bytes, whether it is dirty, pinned. -/
structure Hd where
  at_ : Int
  t : Value × List Int
  dirty : Bool
  pin : Bool
/-- The same, its bytes alone. -/
structure Hb where
  at_ : Int
  b : List Int
  dirty : Bool
  pin : Bool
deriving DecidableEq
def Hd.hb (h : Hd) : Hb := ⟨h.at_, h.t.2, h.dirty, h.pin⟩
def hc (h : Hd) : List Value := [.int .i64 h.at_, h.t.1, .bool h.dirty, .bool h.pin]
def hcells (T : List Hd) : List Value := T.flatMap hc
theorem hcells_len (T : List Hd) : (hcells T).length = T.length * 4 := by
  induction T with
  | nil => rfl
  | cons h T ih => rw [hcells, List.flatMap_cons, List.length_append, ← hcells, ih]; simp [hc]; omega
theorem hcells_cons (h : Hd) (T : List Hd) : hcells (h :: T) = hc h ++ hcells T := rfl
theorem hcells_append (S T : List Hd) : hcells (S ++ T) = hcells S ++ hcells T := by simp [hcells]
theorem hcells_drop (T : List Hd) (k : Nat) : (hcells T).drop (k * 4) = hcells (T.drop k) := by
  induction T generalizing k with
  | nil => simp [hcells]
  | cons h T ih =>
    cases k with
    | zero => simp
    | succ k =>
      rw [hcells_cons, List.drop_succ_cons, ← ih k, show (k + 1) * 4 = 4 + k * 4 by omega, ← List.drop_drop]
      rfl
theorem hcells_take (T : List Hd) (k : Nat) : (hcells T).take (k * 4) = hcells (T.take k) := by
  induction T generalizing k with
  | nil => simp [hcells]
  | cons h T ih =>
    cases k with
    | zero => simp [hcells]
    | succ k =>
      rw [hcells_cons, List.take_succ_cons, hcells_cons, ← ih k, show (k + 1) * 4 = (hc h).length + k * 4 by simp [hc]; omega, List.take_length_add_append]
theorem hcells_at (T : List Hd) (k : Nat) (hk : k < T.length) (j : Nat) (hj : j < 4) : (hcells T)[k * 4 + j]? = (hc T[k])[j]? := by
  have h1 : ((hcells T).drop (k * 4))[j]? = (hcells T)[k * 4 + j]? := by rw [List.getElem?_drop]
  rw [← h1, hcells_drop, List.drop_eq_getElem_cons hk, hcells_cons, List.getElem?_append_left (by simpa [hc] using hj)]
theorem hcells_set (T : List Hd) (k : Nat) (hk : k < T.length) (h : Hd) : hcells (T.set k h) = (hcells T).take (k * 4) ++ hc h ++ (hcells T).drop ((k + 1) * 4) := by
  rw [hcells_take, hcells_drop, List.set_eq_take_append_cons_drop, if_pos hk, hcells_append, hcells_cons, List.append_assoc]
theorem hcells_one {T : List Hd} {k : Nat} (h : ∀ x ∈ T, x.t.1.oneCell' = true) : ∀ u ∈ hcells T, u.oneCell' = true := by
  intro u hu
  obtain ⟨x, hx, hxu⟩ := List.mem_flatMap.1 hu
  simp only [hc, List.mem_cons, List.not_mem_nil, or_false] at hxu
  rcases hxu with rfl | rfl | rfl | rfl
  · rfl
  · exact h x hx
  · rfl
  · rfl
/-! ### The plain ways -/
/-- Where a sector is held. -/
def find (K : List Hb) (a : Int) : Option Nat := K.findIdx? fun h => h.at_ == a
/-- So many of the first that may go are given up: how many are left to be given up, and what stays. -/
def dropG {α : Type} (st : α → Bool) : Int → List α → Int × List α
  | m, [] => (m, [])
  | m, h :: K => if m ≤ 0 ∨ st h = true then ((dropG st m K).1, h :: (dropG st m K).2) else dropG st (m - 1) K
def Hb.stay (h : Hb) : Bool := h.dirty || h.pin
def Hd.stay (h : Hd) : Bool := h.dirty || h.pin
def dropL (m : Int) (K : List Hb) : Int × List Hb := dropG Hb.stay m K
theorem dropG_map {α β : Type} (st : β → Bool) (f : α → β) (m : Int) (l : List α) : dropG st m (l.map f) = ((dropG (fun x => st (f x)) m l).1, (dropG (fun x => st (f x)) m l).2.map f) := by
  induction l generalizing m with
  | nil => rfl
  | cons h l ih =>
    rw [List.map_cons]
    unfold dropG
    split
    · rw [ih]; rfl
    · rw [ih]
theorem dropG_append {α : Type} (st : α → Bool) (m : Int) (A B : List α) : dropG st m (A ++ B) = ((dropG st (dropG st m A).1 B).1, (dropG st m A).2 ++ (dropG st (dropG st m A).1 B).2) := by
  induction A generalizing m with
  | nil => rfl
  | cons h A ih =>
    rw [List.cons_append, dropG, dropG]
    split
    · rw [ih]; rfl
    · rw [ih]
theorem dropG_none {α : Type} (st : α → Bool) {m : Int} {l : List α} (h : m ≤ 0 ∨ ∀ x ∈ l, st x = true) : dropG st m l = (m, l) := by
  induction l with
  | nil => rfl
  | cons x l ih =>
    have ih := ih (h.imp id fun h y hy => h y (List.mem_cons_of_mem _ hy))
    rw [dropG, if_pos (h.imp id fun h => h x (List.mem_cons_self ..)), ih]
theorem dropG_one {α : Type} (st : α → Bool) (m : Int) (x : α) : dropG st m [x] = if m ≤ 0 ∨ st x = true then (m, [x]) else (m - 1, []) := by
  rw [dropG]
  split <;> rfl
theorem dropG_le {α : Type} (st : α → Bool) (m : Int) (K : List α) : (dropG st m K).2.length ≤ K.length := by
  induction K generalizing m with
  | nil => simp [dropG]
  | cons h K ih =>
    unfold dropG
    split
    · have := ih m; simp; omega
    · have := ih (m - 1); simp; omega
theorem dropG_mem {α : Type} (st : α → Bool) (m : Int) (K : List α) : ∀ x ∈ (dropG st m K).2, x ∈ K := by
  induction K generalizing m with
  | nil => simp [dropG]
  | cons h K ih =>
    unfold dropG
    split
    · intro x hx
      rcases List.mem_cons.1 hx with rfl | hx
      · exact List.mem_cons_self
      · exact List.mem_cons_of_mem _ (ih m x hx)
    · intro x hx
      exact List.mem_cons_of_mem _ (ih (m - 1) x hx)
theorem dropG_num {α : Type} (st : α → Bool) (m : Int) (K : List α) : (dropG st m K).1 ≤ m ∧ m ≤ (dropG st m K).1 + K.length := by
  induction K generalizing m with
  | nil => simp [dropG]
  | cons h K ih =>
    unfold dropG
    split
    · have := ih m; simp; omega
    · have := ih (m - 1); simp; omega
/-- A sector is put in, as the newest. -/
def addT (T : List Hd) (h : Hd) : List Hd :=
  match find (T.map Hd.hb) h.at_ with
  | some i => T.eraseIdx i ++ [⟨h.at_, h.t, h.dirty, ((T[i]?).map Hd.pin).getD false⟩]
  | none => T ++ [h]
def settleT (most : Int) (T : List Hd) : List Hd := (dropG Hd.stay ((T.length : Int) - most) T).2
theorem find_lt {K : List Hb} {a : Int} {i : Nat} (h : find K a = some i) : ∃ hi : i < K.length, K[i].at_ = a := by
  unfold find at h
  rw [List.findIdx?_eq_some_iff_getElem] at h
  obtain ⟨hi, h1, -⟩ := h
  exact ⟨hi, by simpa using h1⟩
/-- The same, of bytes alone. -/
def addK (K : List Hb) (h : Hb) : List Hb :=
  match find K h.at_ with
  | some i => K.eraseIdx i ++ [⟨h.at_, h.b, h.dirty, ((K[i]?).map Hb.pin).getD false⟩]
  | none => K ++ [h]
def settleK (most : Int) (K : List Hb) : List Hb := (dropG Hb.stay ((K.length : Int) - most) K).2
def newK (most : Int) (K : List Hb) (h : Hb) : List Hb := settleK most (addK K h)
theorem map_eraseIdx {α β : Type} (f : α → β) : ∀ (l : List α) (i : Nat), (l.eraseIdx i).map f = (l.map f).eraseIdx i
  | [], _ => rfl
  | _ :: _, 0 => rfl
  | a :: l, i + 1 => by rw [List.eraseIdx_cons_succ, List.map_cons, List.map_cons, List.eraseIdx_cons_succ, map_eraseIdx f l i]
theorem addT_map (T : List Hd) (h : Hd) : (addT T h).map Hd.hb = addK (T.map Hd.hb) h.hb := by
  unfold addT addK
  show List.map Hd.hb (match find (T.map Hd.hb) h.at_ with | some i => _ | none => _) = (match find (T.map Hd.hb) h.at_ with | some i => _ | none => _)
  cases find (T.map Hd.hb) h.at_ with
  | none => simp
  | some i =>
    dsimp only
    rw [List.map_append, map_eraseIdx, List.getElem?_map, Option.map_map]
    rfl
theorem drop_map (m : Int) (T : List Hd) : dropG Hb.stay m (T.map Hd.hb) = ((dropG Hd.stay m T).1, (dropG Hd.stay m T).2.map Hd.hb) := dropG_map Hb.stay Hd.hb m T
theorem settleT_map (most : Int) (T : List Hd) : (settleT most T).map Hd.hb = settleK most (T.map Hd.hb) := by
  unfold settleT settleK
  rw [drop_map, List.length_map]
theorem newT_map (most : Int) (T : List Hd) (h : Hd) : (settleT most (addT T h)).map Hd.hb = newK most (T.map Hd.hb) h.hb := by
  rw [settleT_map, addT_map]; rfl
theorem addT_mem {T : List Hd} {h x : Hd} (hx : x ∈ addT T h) : x ∈ T ∨ x.t = h.t := by
  unfold addT at hx
  split at hx
  · rcases List.mem_append.1 hx with hx | hx
    · exact .inl (List.mem_of_mem_eraseIdx hx)
    · rw [List.mem_singleton.1 hx]; exact .inr rfl
  · rcases List.mem_append.1 hx with hx | hx
    · exact .inl hx
    · rw [List.mem_singleton.1 hx]; exact .inr rfl
theorem addT_len (T : List Hd) (h : Hd) : (addT T h).length ≤ T.length + 1 := by
  unfold addT
  split
  · have := List.length_eraseIdx_le T ‹Nat›
    simp only [List.length_append, List.length_singleton]
    omega
  · simp
theorem newT_mem {most : Int} {T : List Hd} {h x : Hd} (hx : x ∈ settleT most (addT T h)) : x ∈ T ∨ x.t = h.t := addT_mem (dropG_mem _ _ _ x hx)
end Go.Ch
