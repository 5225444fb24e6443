/- THE PLAIN LAW OF A TABLE: sixteen descriptors as a list; what it reads as in cells. -/
import Derived.Test.YtepdmlmnlpjhbaaOwn
namespace Go.Tb
structure Slot where
  node : Int
  off : Int
  flags : Int
  on : Bool
  deriving DecidableEq
def none4 : Slot := ⟨0, 0, 0, false⟩
def Slot.enc (s : Slot) : List Value := [.int .i64 s.node, .int .i64 s.off, .int .i64 s.flags, .bool s.on]
def encs : List Slot → List Value
  | [] => []
  | s :: T => s.enc ++ encs T
def cells (T : List Slot) : Array Value := (encs T).toArray
theorem encs_len (T : List Slot) : (encs T).length = T.length * 4 := by
  induction T with
  | nil => rfl
  | cons s T ih => simp [encs, Slot.enc, ih]; omega
theorem encs_at (T : List Slot) (i : Nat) (h : i < T.length) :
    (encs T)[i * 4]? = some (.int .i64 T[i].node) ∧ (encs T)[i * 4 + 1]? = some (.int .i64 T[i].off) ∧ (encs T)[i * 4 + 2]? = some (.int .i64 T[i].flags) ∧ (encs T)[i * 4 + 3]? = some (.bool T[i].on) := by
  induction T generalizing i with
  | nil => simp at h
  | cons s T ih =>
    cases i with
    | zero => simp [encs, Slot.enc]
    | succ i =>
      have := ih i (by simpa using h)
      simp only [encs, Slot.enc, List.getElem_cons_succ, show (i + 1) * 4 = i * 4 + 4 by omega, show i * 4 + 4 + 1 = i * 4 + 1 + 4 by omega, show i * 4 + 4 + 2 = i * 4 + 2 + 4 by omega, show i * 4 + 4 + 3 = i * 4 + 3 + 4 by omega, List.cons_append, List.nil_append, List.getElem?_cons_succ]
      exact this
theorem cells_at (T : List Slot) (i : Nat) (h : i < T.length) :
    (cells T)[i * 4]? = some (.int .i64 T[i].node) ∧ (cells T)[i * 4 + 1]? = some (.int .i64 T[i].off) ∧ (cells T)[i * 4 + 2]? = some (.int .i64 T[i].flags) ∧ (cells T)[i * 4 + 3]? = some (.bool T[i].on) := by
  simpa [cells] using encs_at T i h
theorem encs_set (T : List Slot) (i : Nat) (h : i < T.length) (s : Slot) :
    ((((encs T).set (i * 4) (.int .i64 s.node)).set (i * 4 + 1) (.int .i64 s.off)).set (i * 4 + 2) (.int .i64 s.flags)).set (i * 4 + 3) (.bool s.on) = encs (T.set i s) := by
  induction T generalizing i with
  | nil => simp at h
  | cons t T ih =>
    cases i with
    | zero => simp [encs, Slot.enc]
    | succ i =>
      have := ih i (by simpa using h)
      simp only [encs, Slot.enc, List.set_cons_succ, show (i + 1) * 4 = i * 4 + 4 by omega, show i * 4 + 4 + 1 = i * 4 + 1 + 4 by omega, show i * 4 + 4 + 2 = i * 4 + 2 + 4 by omega, show i * 4 + 4 + 3 = i * 4 + 3 + 4 by omega, List.cons_append, List.nil_append]
      rw [this]
theorem cells_set (T : List Slot) (i : Nat) (h : i < T.length) (s : Slot) :
    ((((cells T).setIfInBounds (i * 4) (.int .i64 s.node)).setIfInBounds (i * 4 + 1) (.int .i64 s.off)).setIfInBounds (i * 4 + 2) (.int .i64 s.flags)).setIfInBounds (i * 4 + 3) (.bool s.on) = cells (T.set i s) := by
  simp [cells, encs_set T i h s]
theorem encs_set1 (T : List Slot) (i : Nat) (h : i < T.length) (x : Int) :
    (encs T).set (i * 4 + 1) (.int .i64 x) = encs (T.set i { T[i] with off := x }) := by
  induction T generalizing i with
  | nil => simp at h
  | cons t T ih =>
    cases i with
    | zero => simp [encs, Slot.enc]
    | succ i =>
      have := ih i (by simpa using h)
      simp only [encs, Slot.enc, List.set_cons_succ, List.getElem_cons_succ, show (i + 1) * 4 + 1 = i * 4 + 1 + 4 by omega, List.cons_append, List.nil_append]
      rw [this]
theorem cells_set1 (T : List Slot) (i : Nat) (h : i < T.length) (x : Int) :
    (cells T).setIfInBounds (i * 4 + 1) (.int .i64 x) = cells (T.set i { T[i] with off := x }) := by
  simp [cells, encs_set1 T i h x]
/-- The number of what was found, or -1. -/
def idx : Option Nat → Int
  | some i => i
  | none => -1
theorem idx_some {T : List Slot} {p : Slot → Bool} {k : Nat} (hk : k < T.length) (h : p T[k] = true) (hn : ∀ j (hj : j < T.length), j < k → p T[j] = false) : idx (T.findIdx? p) = k := by
  have : T.findIdx? p = some k := by
    rw [List.findIdx?_eq_some_iff_getElem]
    exact ⟨hk, h, fun j hj => by simp [hn j (by omega) hj]⟩
  rw [this]; rfl
theorem idx_none {T : List Slot} {p : Slot → Bool} (hn : ∀ j (hj : j < T.length), p T[j] = false) : idx (T.findIdx? p) = -1 := by
  have : T.findIdx? p = none := by
    rw [List.findIdx?_eq_none_iff]
    intro x hx
    obtain ⟨j, hj, rfl⟩ := List.getElem_of_mem hx
    exact hn j hj
  rw [this]; rfl

theorem drop_app {α : Type} (a b : List α) (n m : Nat) (h : a.length = n) : (a ++ b).drop (n + m) = b.drop m := by
  subst h; simp
theorem encs_extract (T : List Slot) (i : Nat) (h : i < T.length) : ((encs T).drop (i * 4)).take 4 = T[i].enc := by
  induction T generalizing i with
  | nil => simp at h
  | cons s T ih =>
    cases i with
    | zero => simp [encs, Slot.enc]
    | succ i =>
      have := ih i (by simpa using h)
      simp only [encs, List.getElem_cons_succ, show (i + 1) * 4 = 4 + i * 4 by omega]
      rw [drop_app s.enc (encs T) 4 (i * 4) rfl]
      exact this
theorem cells_extract (T : List Slot) (i : Nat) (h : i < T.length) : (cells T).extract (i * 4) (i * 4 + 4) = T[i].enc.toArray := by
  simp [cells, List.extract_toArray, List.extract_eq_take_drop, encs_extract T i h]
/-! ## What the calls answer -/
def look (T : List Slot) (fd : Int) : Option Slot :=
  if 0 ≤ fd ∧ fd < 16 then (match T[fd.toNat]? with | some s => if s.on then some s else none | none => none) else none
def opn (T : List Slot) (n fl : Int) : (Int × Int) × List Slot :=
  match T.findIdx? (fun s => !s.on) with
  | some k => ((k, 0), T.set k ⟨n, 0, fl, true⟩)
  | none => ((0, 14), T)
def cls (T : List Slot) (fd : Int) : (Int × Int) × List Slot :=
  match look T fd with
  | some s => ((s.node, 0), T.set fd.toNat none4)
  | none => ((0, 10), T)
def mov (T : List Slot) (fd off : Int) : Int × List Slot :=
  match look T fd with
  | some s => if off < 0 then (2, T) else (0, T.set fd.toNat { s with off := off })
  | none => (10, T)
def get (T : List Slot) (fd : Int) : Slot × Int :=
  match look T fd with
  | some s => (s, 0)
  | none => (none4, 10)
def there (T : List Slot) (fd : Int) : Bool := (look T fd).isSome
def holds (T : List Slot) (n : Int) : Bool := T.any fun s => s.on && s.node == n
def lst (T : List Slot) (k : Nat) : List Int := ((T.zipIdx.take k).filter fun x => x.1.on).map fun x => (x.2 : Int)
theorem look_in {T : List Slot} {fd : Int} {s : Slot} (hT : T.length = 16) (h : look T fd = some s) : ∃ k : Nat, ∃ hk : k < T.length, fd = k ∧ T[k] = s ∧ s.on = true := by
  unfold look at h
  split at h
  · rename_i hb
    have hk : fd.toNat < T.length := by omega
    rw [List.getElem?_eq_getElem hk] at h
    simp only at h
    split at h
    · rename_i ho
      cases h
      exact ⟨fd.toNat, hk, by omega, rfl, ho⟩
    · cases h
  · cases h
theorem look_out {T : List Slot} {fd : Int} (hT : T.length = 16) (h : look T fd = none) : (fd < 0 ∨ 16 ≤ fd) ∨ ∃ k : Nat, ∃ hk : k < T.length, fd = k ∧ T[k].on = false := by
  unfold look at h
  split at h
  · rename_i hb
    have hk : fd.toNat < T.length := by omega
    rw [List.getElem?_eq_getElem hk] at h
    simp only at h
    split at h
    · cases h
    · rename_i ho
      exact .inr ⟨fd.toNat, hk, by omega, by simpa using ho⟩
  · rename_i hb; left; omega
theorem set_same {T : List Slot} {k : Nat} (hk : k < T.length) (s : Slot) (h : T[k] = s) : T.set k s = T := by
  subst h; exact List.set_getElem_self hk
theorem lst_zero (T : List Slot) : lst T 0 = [] := rfl
theorem lst_succ (T : List Slot) (k : Nat) (hk : k < T.length) : lst T (k + 1) = lst T k ++ if T[k].on then [(k : Int)] else [] := by
  unfold lst
  rw [List.take_succ_eq_append_getElem (by simpa using hk), List.filter_append, List.map_append]
  congr 1
  simp [List.filter_cons]
  split <;> simp
theorem lst_len (T : List Slot) (k : Nat) (hk : k ≤ T.length) : (lst T k).length ≤ k := by
  unfold lst
  rw [List.length_map]
  refine Nat.le_trans (List.length_filter_le _ _) ?_
  simp; omega
theorem idx_ge (T : List Slot) (p : Slot → Bool) : (0 ≤ idx (T.findIdx? p)) ↔ T.any p = true := by
  cases h : T.findIdx? p with
  | none =>
    rw [List.findIdx?_eq_none_iff] at h
    simp [idx]
    intro x hx; simpa using h x hx
  | some k =>
    rw [List.findIdx?_eq_some_iff_getElem] at h
    obtain ⟨hk, hp, _⟩ := h
    simp [idx]
    exact ⟨_, List.getElem_mem hk, hp⟩
theorem opn_len (T : List Slot) (n fl : Int) (h : T.length = 16) : (opn T n fl).2.length = 16 := by
  unfold opn; split <;> simp [h]
theorem cls_len (T : List Slot) (fd : Int) (h : T.length = 16) : (cls T fd).2.length = 16 := by
  unfold cls; split <;> simp [h]
theorem mov_len (T : List Slot) (fd off : Int) (h : T.length = 16) : (mov T fd off).2.length = 16 := by
  unfold mov
  split
  · split <;> simp [h]
  · exact h
/-! ## The first i are open, each of the node i + 1 -/
def fslot (j : Nat) : Slot := ⟨(j : Int) + 1, 0, (j : Int), true⟩
def full (i : Nat) : List Slot := (List.range i).map fslot ++ List.replicate (16 - i) none4
theorem full_len (i : Nat) (h : i ≤ 16) : (full i).length = 16 := by simp [full]; omega
theorem full_open' : ∀ i : Fin 16, opn (full i.val) ((i.val : Int) + 1) (i.val : Int) = (((i.val : Int), 0), full (i.val + 1)) := by decide +kernel
theorem full_open (i : Nat) (h : i < 16) : opn (full i) ((i : Int) + 1) (i : Int) = (((i : Int), 0), full (i + 1)) := full_open' ⟨i, h⟩
theorem full_full : opn (full 16) 1 1 = ((0, 14), full 16) := by decide +kernel
theorem full_close' : ∀ k : Fin 16, cls (full 16) (k.val : Int) = (((k.val : Int) + 1, 0), (full 16).set k.val none4) := by decide +kernel
theorem full_close (k : Nat) (h : k < 16) : cls (full 16) (k : Int) = (((k : Int) + 1, 0), (full 16).set k none4) := full_close' ⟨k, h⟩
theorem full_again' : ∀ k : Fin 16, opn ((full 16).set k.val none4) 99 0 = (((k.val : Int), 0), (full 16).set k.val ⟨99, 0, 0, true⟩) := by decide +kernel
theorem full_again (k : Nat) (h : k < 16) : opn ((full 16).set k none4) 99 0 = (((k : Int), 0), (full 16).set k ⟨99, 0, 0, true⟩) := full_again' ⟨k, h⟩
theorem full_no' : ∀ k : Fin 16, holds ((full 16).set k.val ⟨99, 0, 0, true⟩) ((k.val : Int) + 1) = false := by decide +kernel
theorem full_no (k : Nat) (h : k < 16) : holds ((full 16).set k ⟨99, 0, 0, true⟩) ((k : Int) + 1) = false := full_no' ⟨k, h⟩
theorem full_yes' : ∀ k : Fin 16, holds ((full 16).set k.val ⟨99, 0, 0, true⟩) 99 = true := by decide +kernel
theorem full_yes (k : Nat) (h : k < 16) : holds ((full 16).set k ⟨99, 0, 0, true⟩) 99 = true := full_yes' ⟨k, h⟩
end Go.Tb
