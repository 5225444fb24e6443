/- THE PLAIN LAWS of sorted lists without doubles. No program in sight. -/
import Derived.Test.YtihfhigkpkamiaaRollp
import Derived.Lib.SlicesCompact
namespace Go.Rl
theorem get!_eq {l : List Int} {i : Nat} (h : i < l.length) : l.toArray[i]! = l[i] := by simp [getElem!_pos, h]
theorem sorted_le {l : List Int} (h : l.Pairwise (· ≤ ·)) {i j : Nat} (hij : i ≤ j) (hj : j < l.length) : l[i] ≤ l[j] := by
  rcases Nat.eq_or_lt_of_le hij with e | e
  · subst e; exact Int.le_refl _
  · exact List.pairwise_iff_getElem.1 h i j (by omega) hj e
theorem compact_strict {l : List Int} (h : l.Pairwise (· ≤ ·)) : (Lib.compact l).Pairwise (· < ·) := by
  unfold Lib.compact Lib.compactUpTo
  rw [List.pairwise_map, List.pairwise_filter]
  refine List.pairwise_lt_range.imp_of_mem ?_
  intro i j hi hj hij _ hk
  have hj' : j < l.length := List.mem_range.1 hj
  rw [get!_eq hj', get!_eq (by omega)]
  simp only [Lib.keeps, decide_eq_true_eq] at hk
  rcases hk with hk | hk
  · omega
  · rw [get!_eq hj', get!_eq (by omega)] at hk
    have h1 := sorted_le h (i := i) (j := j - 1) (by omega) (by omega)
    have h2 := sorted_le h (i := j - 1) (j := j) (by omega) hj'
    omega
theorem mem_compact {l : List Int} {x : Int} : x ∈ Lib.compact l ↔ x ∈ l := by
  constructor
  · intro h
    unfold Lib.compact Lib.compactUpTo at h
    obtain ⟨i, hi, rfl⟩ := List.mem_map.1 h
    have hi' : i < l.length := List.mem_range.1 (List.mem_filter.1 hi).1
    rw [get!_eq hi']
    exact List.getElem_mem hi'
  · intro h
    obtain ⟨i, hi, rfl⟩ := List.getElem_of_mem h
    clear h
    induction i with
    | zero => 
      unfold Lib.compact Lib.compactUpTo
      exact List.mem_map.2 ⟨0, List.mem_filter.2 ⟨List.mem_range.2 hi, by simp [Lib.keeps]⟩, get!_eq hi⟩
    | succ i ih =>
      by_cases hk : Lib.keeps l.toArray (i + 1) = true
      · unfold Lib.compact Lib.compactUpTo
        exact List.mem_map.2 ⟨i + 1, List.mem_filter.2 ⟨List.mem_range.2 hi, hk⟩, get!_eq hi⟩
      · simp only [Lib.keeps, decide_eq_true_eq, not_or, Decidable.not_not, Nat.add_sub_cancel] at hk
        have h2 := hk.2
        rw [get!_eq hi, get!_eq (by omega)] at h2
        rw [h2]
        exact ih (by omega)
theorem strict_ext : ∀ {l m : List Int}, l.Pairwise (· < ·) → m.Pairwise (· < ·) → (∀ x, x ∈ l ↔ x ∈ m) → l = m
  | [], [], _, _, _ => rfl
  | [], y :: m, _, _, h => absurd ((h y).2 (List.mem_cons_self ..)) (by simp)
  | x :: l, [], _, _, h => absurd ((h x).1 (List.mem_cons_self ..)) (by simp)
  | x :: l, y :: m, hl, hm, h => by
    rw [List.pairwise_cons] at hl hm
    have hxy : x = y := by
      rcases List.mem_cons.1 ((h x).1 (List.mem_cons_self ..)) with e | e
      · exact e
      · rcases List.mem_cons.1 ((h y).2 (List.mem_cons_self ..)) with e2 | e2
        · exact e2.symm
        · have := hm.1 x e; have := hl.1 y e2; omega
    subst hxy
    rw [strict_ext hl.2 hm.2 fun z => ?_]
    constructor
    · intro hz
      rcases List.mem_cons.1 ((h z).1 (List.mem_cons_of_mem _ hz)) with e | e
      · have := hl.1 z hz; omega
      · exact e
    · intro hz
      rcases List.mem_cons.1 ((h z).2 (List.mem_cons_of_mem _ hz)) with e | e
      · have := hm.1 z hz; omega
      · exact e
/-- The sectors: the list without doubles, rising. -/
def sectors0 (os : List Piece) : List Int := Lib.compact ((secs os).mergeSort fun x y => decide (x ≤ y))
theorem sort_le (l : List Int) : (l.mergeSort fun x y => decide (x ≤ y)).Pairwise (· ≤ ·) := by
  have h := List.pairwise_mergeSort (le := fun x y : Int => decide (x ≤ y)) (fun a b c => by simp only [decide_eq_true_eq]; omega) (fun a b => by simp only [Bool.or_eq_true, decide_eq_true_eq]; omega) l
  exact h.imp fun h => by simpa using h
theorem sectors0_strict (os : List Piece) : (sectors0 os).Pairwise (· < ·) := compact_strict (sort_le _)
theorem mem_sectors0 {os : List Piece} {x : Int} : x ∈ sectors0 os ↔ x ∈ secs os := by
  unfold sectors0
  rw [mem_compact, List.mem_mergeSort]
theorem sectors0_eq {os : List Piece} {m : List Int} (h : m.Pairwise (· < ·)) (hm : ∀ x, x ∈ m ↔ x ∈ secs os) : sectors0 os = m :=
  strict_ext (sectors0_strict os) h fun x => by rw [mem_sectors0, hm]
theorem secs_append (a b : List Piece) : secs (a ++ b) = secs a ++ secs b := by simp [secs]
theorem sectors0_swap (a b : List Piece) : sectors0 (a ++ b) = sectors0 (b ++ a) :=
  sectors0_eq (sectors0_strict _) fun x => by rw [mem_sectors0, secs_append, secs_append, List.mem_append, List.mem_append, or_comm]
theorem over_without {s : Int} (os : List Piece) (X : List Int) (h : s ∉ secs os) : os.foldl (over1 s) X = X := by
  induction os generalizing X with
  | nil => rfl
  | cons o os ih =>
    have h1 : over1 s X o = X := by
      unfold over1
      rw [if_neg]
      intro hc
      simp only [Bool.and_eq_true, beq_iff_eq] at hc
      exact h (List.mem_map.2 ⟨o, List.mem_filter.2 ⟨List.mem_cons_self .., hc.1⟩, hc.2⟩)
    rw [List.foldl_cons, h1]
    refine ih X fun hs => h ?_
    obtain ⟨p, hp, e⟩ := List.mem_map.1 hs
    obtain ⟨h2, h3⟩ := List.mem_filter.1 hp
    exact List.mem_map.2 ⟨p, List.mem_filter.2 ⟨List.mem_cons_of_mem _ h2, h3⟩, e⟩
theorem over_out {s : Int} {old : List Int} {os : List Piece} (h : s ∉ sectors0 os) : over old s os = over old s [] :=
  over_without os _ fun hs => h (mem_sectors0.2 hs)
theorem over_parts (old : List Int) (s : Int) (a b : List Piece) : over (over old s a) s b = over old s (a ++ b) := by
  unfold over
  rw [List.foldl_append, whole_self (foldl_len s a _ (whole_len old))]
/-- The places 0 .. n-1. -/
def upto (n : Nat) : List Int := (List.range n).map Int.ofNat
theorem upto_snoc (n : Nat) : upto (n + 1) = upto n ++ [(n : Int)] := by simp [upto, List.range_succ]
theorem upto_len (n : Nat) : (upto n).length = n := by simp [upto]
theorem mem_upto {n : Nat} {k : Nat} : (upto n).contains (k : Int) = decide (k < n) := by
  rw [Bool.eq_iff_iff, List.contains_iff_mem, decide_eq_true_eq]
  unfold upto
  rw [List.mem_map]
  constructor
  · rintro ⟨a, ha, e⟩
    have := List.mem_range.1 ha
    have : (a : Int) = (k : Int) := e
    omega
  · intro h
    exact ⟨k, List.mem_range.2 h, rfl⟩
theorem pick_yes (os : List Piece) (n : Nat) : ∀ k, k ≤ os.length → pick (upto n) true os k = os.take (min k n)
  | 0, _ => by simp [pick]
  | k + 1, h => by
    rw [pick_snoc _ _ _ k (by omega), pick_yes os n k (by omega), mem_upto]
    by_cases hk : k < n
    · rw [decide_eq_true hk, if_pos (by rfl), Nat.min_eq_left (by omega), Nat.min_eq_left (by omega), List.take_succ_eq_append_getElem (by omega)]
    · rw [decide_eq_false hk, if_neg (by simp), Nat.min_eq_right (by omega), Nat.min_eq_right (by omega)]
theorem pick_no (os : List Piece) (n : Nat) : ∀ k, k ≤ os.length → pick (upto n) false os k = (os.take k).drop n
  | 0, _ => by simp [pick]
  | k + 1, h => by
    rw [pick_snoc _ _ _ k (by omega), pick_no os n k (by omega), mem_upto]
    by_cases hk : k < n
    · rw [decide_eq_true hk, if_neg (by simp), List.drop_eq_nil_of_le (by simp; omega), List.drop_eq_nil_of_le (by simp; omega)]
    · rw [decide_eq_false hk, if_pos (by rfl), List.take_succ_eq_append_getElem (by omega), List.drop_append_of_le_length (by simp; omega)]
end Go.Rl
