/- THE PLAIN MODEL of objects over sectors. No program in sight. -/
namespace Go.Rl
structure Piece where
  sec : Int
  pos : Int
  bytes : List Int
deriving DecidableEq
def may (o : Piece) : Bool := decide (0 ≤ o.sec) && (decide (0 ≤ o.pos) && (decide (0 < o.bytes.length) && (decide (o.bytes.length ≤ 128) && decide (o.pos ≤ 128 - (o.bytes.length : Int)))))
theorem may_iff {o : Piece} : may o = true ↔ 0 ≤ o.sec ∧ 0 ≤ o.pos ∧ 0 < o.bytes.length ∧ o.bytes.length ≤ 128 ∧ o.pos ≤ 128 - (o.bytes.length : Int) := by
  simp [may, and_assoc]
def zeros (n : Nat) : List Int := List.replicate n 0
def whole (l : List Int) : List Int := l.take 128 ++ zeros (128 - l.length)
theorem whole_len (l : List Int) : (whole l).length = 128 := by simp [whole, zeros]; omega
theorem whole_self {l : List Int} (h : l.length = 128) : whole l = l := by simp [whole, zeros, h, List.take_of_length_le (Nat.le_of_eq h)]
def lay (out : List Int) (o : Piece) : List Int := out.take o.pos.toNat ++ o.bytes ++ out.drop (o.pos.toNat + o.bytes.length)
theorem lay_len {out : List Int} {o : Piece} (h : may o = true) (hl : out.length = 128) : (lay out o).length = 128 := by
  have := may_iff.1 h
  simp [lay]; omega
def over1 (s : Int) (out : List Int) (o : Piece) : List Int := if may o && (o.sec == s) then lay out o else out
theorem over1_len (s : Int) {out : List Int} (o : Piece) (hl : out.length = 128) : (over1 s out o).length = 128 := by
  unfold over1; split
  · rename_i h; simp at h; exact lay_len h.1 hl
  · exact hl
def over (old : List Int) (s : Int) (os : List Piece) : List Int := os.foldl (over1 s) (whole old)
theorem foldl_len (s : Int) : ∀ (os : List Piece) (out : List Int), out.length = 128 → (os.foldl (over1 s) out).length = 128
  | [], _, h => h
  | o :: os, _, h => foldl_len s os _ (over1_len s o h)
theorem over_len (old : List Int) (s : Int) (os : List Piece) : (over old s os).length = 128 := foldl_len s os _ (whole_len old)
theorem over_snoc (old : List Int) (s : Int) (os : List Piece) (k : Nat) (h : k < os.length) : over old s (os.take (k + 1)) = over1 s (over old s (os.take k)) os[k] := by
  unfold over
  rw [List.take_succ_eq_append_getElem h, List.foldl_append]; rfl
def secs (os : List Piece) : List Int := (os.filter may).map (·.sec)
theorem secs_snoc (os : List Piece) (k : Nat) (h : k < os.length) : secs (os.take (k + 1)) = if may os[k] then secs (os.take k) ++ [os[k].sec] else secs (os.take k) := by
  unfold secs
  rw [List.take_succ_eq_append_getElem h, List.filter_append, List.map_append]
  cases hm : may os[k] <;> simp [hm]
/-- From i on, how many differ. -/
def run (a b : List Int) (i : Nat) : Nat := ((a.drop i).zip (b.drop i)).takeWhile (fun p => p.1 != p.2) |>.length
theorem run_go {a b : List Int} {i : Nat} (ha : i < a.length) (hb : i < b.length) : run a b i = if a[i] ≠ b[i] then run a b (i + 1) + 1 else 0 := by
  unfold run
  rw [List.drop_eq_getElem_cons ha, List.drop_eq_getElem_cons hb, List.zip_cons_cons, List.takeWhile_cons]
  by_cases h : a[i] = b[i] <;> simp [h]
theorem run_end {a b : List Int} {i : Nat} (ha : a.length ≤ i) : run a b i = 0 := by
  unfold run
  rw [List.drop_eq_nil_of_le ha]; simp
def diffs (s : Int) (a b : List Int) (i : Nat) : List Piece :=
  if h : i < a.length then
    (if 0 < run a b i then [⟨s, i, (b.drop i).take (run a b i)⟩] else []) ++ diffs s a b (i + run a b i + 1)
  else []
termination_by a.length - i
def diff (s : Int) (old now : List Int) : List Piece := if s < 0 then [] else diffs s (whole old) (whole now) 0
def touch (a b : Piece) : Bool := may a && (may b && ((a.sec == b.sec) && (decide (a.pos < b.pos + (b.bytes.length : Int)) && decide (b.pos < a.pos + (a.bytes.length : Int)))))
/-- Of the first k, those with the answer b. -/
def pick (is : List Int) (b : Bool) (os : List Piece) (k : Nat) : List Piece := ((os.take k).zipIdx.filter fun p => is.contains (p.2 : Int) == b).map (·.1)
theorem pick_snoc (is : List Int) (b : Bool) (os : List Piece) (k : Nat) (h : k < os.length) : pick is b os (k + 1) = if is.contains (k : Int) == b then pick is b os k ++ [os[k]] else pick is b os k := by
  unfold pick
  rw [List.take_succ_eq_append_getElem h, List.zipIdx_append, List.filter_append, List.map_append]
  have hl : (os.take k).length = k := by simp; omega
  simp only [hl, Nat.zero_add, List.zipIdx_cons, List.zipIdx_nil, List.filter_cons, List.filter_nil]
  cases is.contains (k : Int) <;> cases b <;> simp
end Go.Rl
