/- THE PLAIN LAW OF A DISK: sectors, what waits, the power, what is armed. Each text is a slice's value with its bytes. -/
import Derived.Test.YtajlikakbihgbaaPool
namespace Go.Dk
open Go.Own
abbrev Txt := Value × List Int
structure Disk where
  firm : List Txt
  waits : List (Int × Txt)
  on : Bool
  armed : Option (Int × List Bool)
  writes : List Int
  flushes : Int
/-- A write is laid into the sectors. -/
def lay (F : List Txt) (x : Int × Txt) : List Txt := F.set x.1.toNat x.2
def layAll (F : List Txt) (W : List (Int × Txt)) : List Txt := W.foldl lay F
/-- The writes that are kept, from the i-th on. -/
def kept (keep : List Bool) (i : Nat) : Bool := 0 < keep.length && keep.getD (i % keep.length) false
def layKept (keep : List Bool) (F : List Txt) (W : List (Int × Txt)) : List Txt := W.zipIdx.foldl (fun F x => if kept keep x.2 then lay F x.1 else F) F
def Disk.crash (D : Disk) (keep : List Bool) : Disk := { D with firm := layKept keep D.firm D.waits, waits := [], armed := none, on := false }
/-- Does the power go now? -/
def Disk.falls (D : Disk) : Bool × Disk :=
  match D.armed with
  | none => (false, D)
  | some (n, k) => if 0 < n then (false, { D with armed := some (n - 1, k) }) else (true, D.crash k)
def Disk.there (D : Disk) (at_ : Int) : Bool := decide (0 ≤ at_) && decide (at_ < D.firm.length)
def Disk.asked (D : Disk) (good : Bool) : Int := if D.on then (if good then 0 else 2) else 4
def Disk.write (D : Disk) (at_ : Int) (x : Txt) : Int × Disk :=
  if D.asked (D.there at_ && x.2.length == 128) ≠ 0 then (D.asked (D.there at_ && x.2.length == 128), D)
  else if D.falls.1 then (4, D.falls.2)
  else (0, { D.falls.2 with waits := D.falls.2.waits ++ [(at_, x)], writes := D.falls.2.writes ++ [at_] })
def Disk.flush (D : Disk) : Int × Disk :=
  if D.asked true ≠ 0 then (D.asked true, D)
  else if D.falls.1 then (4, D.falls.2)
  else (0, { D.falls.2 with firm := layAll D.falls.2.firm D.falls.2.waits, waits := [], flushes := D.falls.2.flushes + 1 })
def Disk.arm (D : Disk) (after : Int) (keep : List Bool) : Int × Disk :=
  if D.asked (decide (0 ≤ after)) ≠ 0 then (D.asked (decide (0 ≤ after)), D) else (0, { D with armed := some (after, keep) })
def Disk.boot (D : Disk) : Int × Disk := if D.on then (19, D) else (0, { D with on := true })
/-- What was written last to a sector. -/
def Disk.last (D : Disk) (at_ : Int) : Txt :=
  match D.waits.reverse.find? (fun x => x.1 == at_) with
  | some x => x.2
  | none => D.firm.getD at_.toNat (.slice none 0 0, [])
/-- All texts lie in the pool; each write's sector is there; a sector has 128 bytes. -/
structure Ok (B : List Txt) (D : Disk) : Prop where
  firm : ∀ x ∈ D.firm, x ∈ B
  waits : ∀ x ∈ D.waits, x.2 ∈ B
  at_ : ∀ x ∈ D.waits, 0 ≤ x.1 ∧ x.1 < D.firm.length
  len : ∀ x ∈ D.firm, x.2.length = 128
  wlen : ∀ x ∈ D.waits, x.2.2.length = 128
  left : ∀ n k, D.armed = some (n, k) → n ≤ 9223372036854775807
theorem lay_len (F : List Txt) (x : Int × Txt) : (lay F x).length = F.length := by simp [lay]
theorem layAll_len (F : List Txt) (W : List (Int × Txt)) : (layAll F W).length = F.length := by
  unfold layAll
  induction W generalizing F with
  | nil => rfl
  | cons x W ih => rw [List.foldl_cons, ih, lay_len]
theorem layAll_snoc (F : List Txt) (W : List (Int × Txt)) (x : Int × Txt) : layAll F (W ++ [x]) = lay (layAll F W) x := by simp [layAll]
theorem lay_mem {F : List Txt} {x : Int × Txt} {y : Txt} (h : y ∈ lay F x) : y ∈ F ∨ y = x.2 := List.mem_or_eq_of_mem_set h
theorem layKept_snoc (keep : List Bool) (F : List Txt) (W : List (Int × Txt)) (x : Int × Txt) : layKept keep F (W ++ [x]) = if kept keep W.length then lay (layKept keep F W) x else layKept keep F W := by
  simp [layKept, List.zipIdx_append]
theorem layKept_len (keep : List Bool) (F : List Txt) (W : List (Int × Txt)) : (layKept keep F W).length = F.length := by
  unfold layKept
  generalize W.zipIdx = Z
  induction Z generalizing F with
  | nil => rfl
  | cons x Z ih =>
    rw [List.foldl_cons, ih]
    split
    · rw [lay_len]
    · rfl
theorem layAll_mem {F : List Txt} {W : List (Int × Txt)} {y : Txt} (h : y ∈ layAll F W) : y ∈ F ∨ ∃ x ∈ W, y = x.2 := by
  unfold layAll at h
  induction W generalizing F with
  | nil => exact .inl h
  | cons x W ih =>
    rcases ih h with h | ⟨z, hz, rfl⟩
    · rcases lay_mem h with h | rfl
      · exact .inl h
      · exact .inr ⟨x, by simp, rfl⟩
    · exact .inr ⟨z, by simp [hz], rfl⟩
theorem layKept_mem {keep : List Bool} {F : List Txt} {W : List (Int × Txt)} {y : Txt} (h : y ∈ layKept keep F W) : y ∈ F ∨ ∃ x ∈ W, y = x.2 := by
  unfold layKept at h
  have key : ∀ (Z : List ((Int × Txt) × Nat)) (F : List Txt), y ∈ Z.foldl (fun F x => if kept keep x.2 then lay F x.1 else F) F → y ∈ F ∨ ∃ x ∈ Z, y = x.1.2 := by
    intro Z
    induction Z with
    | nil => intro F h; exact .inl h
    | cons x Z ih =>
      intro F h
      rcases ih _ h with h | ⟨z, hz, rfl⟩
      · dsimp only at h
        split at h
        · rcases lay_mem h with h | rfl
          · exact .inl h
          · exact .inr ⟨x, by simp, rfl⟩
        · exact .inl h
      · exact .inr ⟨z, by simp [hz], rfl⟩
  rcases key _ _ h with h | ⟨z, hz, rfl⟩
  · exact .inl h
  · exact .inr ⟨z.1, by have := List.fst_mem_of_mem_zipIdx hz; exact this, rfl⟩
end Go.Dk
