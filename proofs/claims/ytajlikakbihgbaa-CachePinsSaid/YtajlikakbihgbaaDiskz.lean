/- THE PLAIN LAW OF A DISK, its bytes alone. -/
import Derived.Test.YtajlikakbihgbaaDiskm
namespace Go.Dk
open Go.Own
structure Bk where
  firm : List (List Int)
  waits : List (Int × List Int)
  on : Bool
  armed : Option (Int × List Bool)
  writes : List Int
  flushes : Int
def Disk.bk (D : Disk) : Bk := ⟨D.firm.map (·.2), D.waits.map fun x => (x.1, x.2.2), D.on, D.armed, D.writes, D.flushes⟩
def blay (F : List (List Int)) (x : Int × List Int) : List (List Int) := F.set x.1.toNat x.2
def blayAll (F : List (List Int)) (W : List (Int × List Int)) : List (List Int) := W.foldl blay F
def blayKept (keep : List Bool) (F : List (List Int)) (W : List (Int × List Int)) : List (List Int) := W.zipIdx.foldl (fun F x => if kept keep x.2 then blay F x.1 else F) F
def Bk.crash (D : Bk) (keep : List Bool) : Bk := { D with firm := blayKept keep D.firm D.waits, waits := [], armed := none, on := false }
def Bk.falls (D : Bk) : Bool × Bk :=
  match D.armed with
  | none => (false, D)
  | some (n, k) => if 0 < n then (false, { D with armed := some (n - 1, k) }) else (true, D.crash k)
def Bk.there (D : Bk) (at_ : Int) : Bool := decide (0 ≤ at_) && decide (at_ < D.firm.length)
def Bk.asked (D : Bk) (good : Bool) : Int := if D.on then (if good then 0 else 2) else 4
def Bk.write (D : Bk) (at_ : Int) (x : List Int) : Int × Bk :=
  if D.asked (D.there at_ && x.length == 128) ≠ 0 then (D.asked (D.there at_ && x.length == 128), D)
  else if D.falls.1 then (4, D.falls.2)
  else (0, { D.falls.2 with waits := D.falls.2.waits ++ [(at_, x)], writes := D.falls.2.writes ++ [at_] })
def Bk.flush (D : Bk) : Int × Bk :=
  if D.asked true ≠ 0 then (D.asked true, D)
  else if D.falls.1 then (4, D.falls.2)
  else (0, { D.falls.2 with firm := blayAll D.falls.2.firm D.falls.2.waits, waits := [], flushes := D.falls.2.flushes + 1 })
def Bk.arm (D : Bk) (after : Int) (keep : List Bool) : Int × Bk :=
  if D.asked (decide (0 ≤ after)) ≠ 0 then (D.asked (decide (0 ≤ after)), D) else (0, { D with armed := some (after, keep) })
def Bk.boot (D : Bk) : Int × Bk := if D.on then (19, D) else (0, { D with on := true })
def Bk.last (D : Bk) (at_ : Int) : List Int :=
  match D.waits.reverse.find? (fun x => x.1 == at_) with
  | some x => x.2
  | none => D.firm.getD at_.toNat []
def Bk.read (D : Bk) (at_ : Int) : Int × List Int := if D.asked (D.there at_) ≠ 0 then (D.asked (D.there at_), []) else (0, D.last at_)
def zer : List Int := List.replicate 128 0
def Bk.zero (n : Nat) : Bk := ⟨List.replicate n zer, [], true, none, [], 0⟩
theorem bk_lay (F : List Txt) (x : Int × Txt) : (lay F x).map (·.2) = blay (F.map (·.2)) (x.1, x.2.2) := by simp [lay, blay, List.map_set]
theorem bk_layAll (F : List Txt) (W : List (Int × Txt)) : (layAll F W).map (·.2) = blayAll (F.map (·.2)) (W.map fun x => (x.1, x.2.2)) := by
  unfold layAll blayAll
  induction W generalizing F with
  | nil => rfl
  | cons x W ih => rw [List.foldl_cons, ih, bk_lay]; rfl
theorem bk_layKept (keep : List Bool) (F : List Txt) (W : List (Int × Txt)) : (layKept keep F W).map (·.2) = blayKept keep (F.map (·.2)) (W.map fun x => (x.1, x.2.2)) := by
  unfold layKept blayKept
  rw [List.zipIdx_map]
  generalize W.zipIdx = Z
  induction Z generalizing F with
  | nil => rfl
  | cons x Z ih =>
    rw [List.map_cons, List.foldl_cons, List.foldl_cons, ih]
    congr 1
    show _ = if kept keep x.2 then _ else _
    by_cases h : kept keep x.2 <;> simp [h, bk_lay]
theorem bk_crash (D : Disk) (keep : List Bool) : (D.crash keep).bk = D.bk.crash keep := by simp [Disk.crash, Bk.crash, Disk.bk, bk_layKept]
theorem bk_falls (D : Disk) : D.bk.falls = (D.falls.1, D.falls.2.bk) := by
  unfold Bk.falls Disk.falls
  show (match D.armed with | none => _ | some (n, k) => _) = _
  rcases h : D.armed with _ | ⟨n, k⟩
  · rfl
  · by_cases hn : 0 < n
    · simp only [hn, if_true]; rfl
    · simp only [hn, if_false, bk_crash]
theorem bk_there (D : Disk) (x : Int) : D.bk.there x = D.there x := by simp [Bk.there, Disk.there, Disk.bk]
theorem bk_asked (D : Disk) (b : Bool) : D.bk.asked b = D.asked b := rfl
theorem bk_write (D : Disk) (at_ : Int) (x : Txt) : D.bk.write at_ x.2 = ((D.write at_ x).1, (D.write at_ x).2.bk) := by
  unfold Bk.write Disk.write
  rw [bk_there, bk_asked, bk_falls]
  split
  · rfl
  · dsimp only
    split
    · rfl
    · simp [Disk.bk]
theorem bk_flush (D : Disk) : D.bk.flush = (D.flush.1, D.flush.2.bk) := by
  unfold Bk.flush Disk.flush
  rw [bk_asked, bk_falls]
  split
  · rfl
  · dsimp only
    split
    · rfl
    · simp [Disk.bk, bk_layAll]
theorem bk_arm (D : Disk) (n : Int) (k : List Bool) : D.bk.arm n k = ((D.arm n k).1, (D.arm n k).2.bk) := by
  unfold Bk.arm Disk.arm
  rw [bk_asked]
  split <;> rfl
theorem bk_boot (D : Disk) : D.bk.boot = (D.boot.1, D.boot.2.bk) := by
  unfold Bk.boot Disk.boot
  show (if D.on then _ else _) = _
  split <;> rfl
theorem bk_last (D : Disk) (x : Int) : D.bk.last x = (D.last x).2 := by
  unfold Bk.last Disk.last
  show (match (D.waits.map fun x => (x.1, x.2.2)).reverse.find? _ with | some x => _ | none => _) = _
  rw [← List.map_reverse, List.find?_map]
  have e : ((fun y : Int × List Int => y.1 == x) ∘ fun y : Int × Txt => (y.1, y.2.2)) = fun y => y.1 == x := rfl
  rw [e]
  generalize D.waits.reverse.find? (fun y => y.1 == x) = o
  cases o with
  | none =>
    simp only [Option.map_none, Disk.bk, List.getD_eq_getElem?_getD, List.getElem?_map]
    cases D.firm[x.toNat]? <;> rfl
  | some y => rfl
/-! ### What a disk in order does -/
theorem blay_len (F : List (List Int)) (x : Int × List Int) : (blay F x).length = F.length := by simp [blay]
theorem blayAll_len (F : List (List Int)) (W : List (Int × List Int)) : (blayAll F W).length = F.length := by
  unfold blayAll
  induction W generalizing F with
  | nil => rfl
  | cons x W ih => rw [List.foldl_cons, ih, blay_len]
theorem blayKept_len (keep : List Bool) (F : List (List Int)) (W : List (Int × List Int)) : (blayKept keep F W).length = F.length := by
  unfold blayKept
  generalize W.zipIdx = Z
  induction Z generalizing F with
  | nil => rfl
  | cons x Z ih =>
    rw [List.foldl_cons, ih]
    split
    · rw [blay_len]
    · rfl
theorem blayKept_snoc (keep : List Bool) (F : List (List Int)) (W : List (Int × List Int)) (x : Int × List Int) : blayKept keep F (W ++ [x]) = if kept keep W.length then blay (blayKept keep F W) x else blayKept keep F W := by
  simp [blayKept, List.zipIdx_append]
theorem blayAll_snoc (F : List (List Int)) (W : List (Int × List Int)) (x : Int × List Int) : blayAll F (W ++ [x]) = blay (blayAll F W) x := by simp [blayAll]
theorem blayKept_nil (F : List (List Int)) (W : List (Int × List Int)) : blayKept [] F W = F := by
  unfold blayKept
  generalize W.zipIdx = Z
  induction Z generalizing F with
  | nil => rfl
  | cons x Z ih => rw [List.foldl_cons]; simpa [kept] using ih F
theorem Bk.write_ok {D : Bk} (h1 : D.on = true) (h2 : D.armed = none) {a : Int} (h3 : 0 ≤ a) (h4 : a < D.firm.length) {x : List Int} (h5 : x.length = 128) :
    D.write a x = (0, { D with waits := D.waits ++ [(a, x)], writes := D.writes ++ [a] }) := by
  simp [Bk.write, Bk.asked, Bk.there, Bk.falls, h1, h2, h3, h4, h5]
theorem Bk.flush_ok {D : Bk} (h1 : D.on = true) (h2 : D.armed = none) : D.flush = (0, { D with firm := blayAll D.firm D.waits, waits := [], flushes := D.flushes + 1 }) := by
  simp [Bk.flush, Bk.asked, Bk.falls, h1, h2]
theorem Bk.read_ok {D : Bk} (h1 : D.on = true) {a : Int} (h3 : 0 ≤ a) (h4 : a < D.firm.length) : D.read a = (0, D.last a) := by
  simp [Bk.read, Bk.asked, Bk.there, h1, h3, h4]
theorem Bk.read_off {D : Bk} (h1 : D.on = false) (a : Int) : D.read a = (4, []) := by simp [Bk.read, Bk.asked, h1]
theorem Bk.last_firm {D : Bk} (h : D.waits = []) (a : Int) : D.last a = D.firm.getD a.toNat [] := by simp [Bk.last, h]
theorem Bk.last_snoc (F : List (List Int)) (W : List (Int × List Int)) (on : Bool) (ar : Option (Int × List Bool)) (ws : List Int) (fl : Int) (x : Int × List Int) (a : Int) : (Bk.mk F (W ++ [x]) on ar ws fl).last a = if x.1 = a then x.2 else (Bk.mk F W on ar ws fl).last a := by
  unfold Bk.last
  simp only [List.reverse_append, List.reverse_cons, List.reverse_nil, List.nil_append, List.cons_append, List.find?_cons]
  by_cases h : x.1 = a
  · simp [h]
  · have : (x.1 == a) = false := by simpa using h
    simp [this, h]
end Go.Dk
