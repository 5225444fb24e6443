/- HOW ARGUMENTS ARE OPENED: from the form's reading to cells. No program in sight. -/
import Derived.Test.YtajlikakbihgbaaRow
import Derived.ProofKit
import Derived.OpenShut
import Derived.ShutString
import Derived.ChangeOld
import Derived.Deep.Slices
namespace Go.Own
open Go.ChangeShapes Go.WideShapes Go.ChangeAt Go.RowKit
theorem flat_len (n size : Nat) (C : Nat → List Value) (h : ∀ i, i < n → (C i).length = size) : ((List.range n).flatMap C).length = n * size := by
  induction n with
  | zero => simp
  | succ n ih =>
    rw [List.range_succ, List.flatMap_append, List.length_append, ih fun i hi => h i (by omega)]
    simp [h n (by omega), Nat.succ_mul]
theorem flat_drop (n size : Nat) (C : Nat → List Value) (h : ∀ i, i < n → (C i).length = size) (i : Nat) (hi : i < n) :
    ∃ R, ((List.range n).flatMap C).drop (i * size) = C i ++ R := by
  induction n with
  | zero => omega
  | succ n ih =>
    rw [List.range_succ, List.flatMap_append]
    have hl := flat_len n size C fun i hi => h i (by omega)
    by_cases hin : i = n
    · subst hin
      refine ⟨[], ?_⟩
      rw [List.drop_append_of_le_length (by rw [hl]; exact Nat.le_refl _), List.drop_of_length_le (by rw [hl]; exact Nat.le_refl _)]
      simp
    · obtain ⟨R, hR⟩ := ih (fun i hi => h i (by omega)) (by omega)
      refine ⟨R ++ [n].flatMap C, ?_⟩
      rw [List.drop_append_of_le_length (by rw [hl]; exact Nat.mul_le_mul_right _ (by omega)), hR, List.append_assoc]
theorem flat_slice (n size : Nat) (C : Nat → List Value) (h : ∀ i, i < n → (C i).length = size) (i : Nat) (hi : i < n) :
    (((List.range n).flatMap C).drop (i * size)).take size = C i := by
  obtain ⟨R, hR⟩ := flat_drop n size C h i hi
  rw [hR, ← h i hi, List.take_left]
theorem flat_at (n size : Nat) (C : Nat → List Value) (h : ∀ i, i < n → (C i).length = size) (i : Nat) (hi : i < n) (j : Nat) (hj : j < size) :
    (C i)[j]? = ((List.range n).flatMap C)[i * size + j]? := by
  rw [← flat_slice n size C h i hi, List.getElem?_take, if_pos hj, List.getElem?_drop]
theorem cells?_parts {w : World} {b : Nat} {a : Addr} {n : Nat} {cs : List Value} (h : w.cells? b a n = some cs) : cs.length = n ∧ ∀ j, j < n → w.cell? (a.add j) = cs[j]? := by
  unfold World.cells? at h
  split at h
  · have : ∀ (l : List Nat) (cs : List Value), (l.mapM fun i => w.cell? (a.add i)) = some cs → cs.length = l.length ∧ ∀ (j i : Nat), l[j]? = some i → w.cell? (a.add i) = cs[j]? := by
      intro l
      induction l with
      | nil => intro cs h; simp at h; subst h; simp
      | cons x l ih =>
        intro cs h
        simp only [List.mapM_cons, Option.pure_def, Option.bind_eq_bind] at h
        obtain ⟨y, hy, h⟩ := Option.bind_eq_some_iff.1 h
        obtain ⟨ys, hys, h⟩ := Option.bind_eq_some_iff.1 h
        cases h
        obtain ⟨h1, h2⟩ := ih ys hys
        refine ⟨by simp [h1], fun j i hj => ?_⟩
        cases j with
        | zero => simp at hj; subst hj; simpa using hy
        | succ j => simpa using h2 j i (by simpa using hj)
    obtain ⟨h1, h2⟩ := this _ _ h
    refine ⟨by simpa using h1, fun j hj => h2 j j (by simp [hj])⟩
  · cases h
section
variable {H : Type} {enc : TypeId × Value → H} {P : Program} {W : World} {base : Nat} {spare : Nat → Bool} {held : Bool}
/-- A slice of elements of whatever type: its cells in a list, each element's own cells read on. -/
theorem open_rd {t e size : Nat} {v : Value} {d : DataW H} {ps : List MemPlace} {r : Reach} {b0 : Nat} (ht : P.underlying t = some (.slice e)) (hc : P.cellsOf e = size) (hv : Value.okWide P W r b0 t v)
    (h : DataW.Trod enc P W base spare held t v d ps) :
    ∃ (n fuel : Nat) (xs : List Value), Rd W v size n xs ∧ ∀ i, i < n → ∃ x, DataW.trod enc P W base spare held fuel e ((xs.drop (i * size)).take size) = some x := by
  obtain ⟨p, len, cap, rfl⟩ := okWide_slice ht hv
  obtain ⟨fuel, hf⟩ := h
  rcases Deep.open_slice ht hf with ⟨hcs, _⟩ | ⟨a, len', cap', m, n, D, Pl, hcs, hb, hl, hm, hmm, hx, hel⟩
  · simp [Value.cells] at hcs
    obtain ⟨rfl, rfl, rfl⟩ := hcs
    exact ⟨0, 0, [], ⟨by simp, Nat.zero_le _, none, 0, rfl, Nat.le_refl _, fun h => absurd h (by simp)⟩, fun i hi => absurd hi (by simp)⟩
  · simp [Value.cells] at hcs
    obtain ⟨rfl, rfl, rfl⟩ := hcs
    rw [hc] at hel
    have hlm : len ≤ m := by rw [hmm]; split <;> omega
    obtain ⟨C, hC⟩ := Deep.choose_lt (α := List Value) (p := fun i cs' => W.cells? base (a.add (i * size)) size = some cs' ∧ DataW.trod enc P W base spare held n e cs' = some (D i, Pl i)) (fun i hi => hel i (by omega : i < m))
    have hlen : ∀ i, i < len → (C i).length = size ∧ ∀ j, j < size → W.cell? ((a.add (i * size)).add j) = (C i)[j]? := fun i hi => cells?_parts (hC i (by omega)).1
    refine ⟨len, n, (List.range len).flatMap C, ⟨flat_len len size C fun i hi => (hlen i hi).1, by omega, some a, cap, rfl, hl, fun hp => ?_⟩, fun i hi => ⟨(D i, Pl i), ?_⟩⟩
    · have hs : 0 < size := Nat.pos_of_mul_pos_left hp
      have hl0 : 0 < len := Nat.pos_of_mul_pos_right hp
      have h0 := (hlen 0 hl0).2 0 hs
      have ha : a = ⟨a.block, a.off, none⟩ := by
        refine cell_plain (w := W) (u := (C 0)[0]'(by rw [(hlen 0 hl0).1]; exact hs)) ?_
        rw [List.getElem?_eq_getElem (by rw [(hlen 0 hl0).1]; exact hs)] at h0
        simpa [Addr.add] using h0
      refine ⟨a.block, a.off, by rw [← ha], fun j hj => ?_⟩
      have hq : j / size < len := (Nat.div_lt_iff_lt_mul hs).2 hj
      have hr : j % size < size := Nat.mod_lt _ hs
      have h1 := (hlen (j / size) hq).2 (j % size) hr
      rw [Deep.add_add, ha, add_plain] at h1
      have hj' : j / size * size + j % size = j := Nat.div_add_mod' j size
      rw [hj'] at h1
      rw [h1, flat_at len size C (fun i hi => (hlen i hi).1) (j / size) hq (j % size) hr, hj']
    · rw [flat_slice len size C (fun i hi => (hlen i hi).1) i hi]
      exact (hC i (by omega)).2
/-- A slice of ints. -/
theorem open_rd_ints {t e : Nat} {v : Value} {d : DataW H} {ps : List MemPlace} {r : Reach} {b0 : Nat} (ht : P.underlying t = some (.slice e)) (he : P.underlying e = some (.int .i64)) (hc : P.cellsOf e = 1) (hv : Value.okWide P W r b0 t v)
    (h : DataW.Trod enc P W base spare held t v d ps) : ∃ xs : List Int, Rd W v 1 xs.length (ic xs) := by
  obtain ⟨n, fuel, xs, hr, hx⟩ := open_rd ht hc hv h
  have hl : xs.length = n := by simpa using hr.1
  have hall : ∀ (l : List Value), (∀ i (hi : i < l.length), ∃ k, l[i]? = some (.int .i64 k)) → ∃ zs : List Int, l = ic zs := by
    intro l
    induction l with
    | nil => intro _; exact ⟨[], rfl⟩
    | cons y l ih =>
      intro hl
      obtain ⟨k, hk⟩ := hl 0 (by simp)
      obtain ⟨zs, hz⟩ := ih fun i hi => by obtain ⟨k, h⟩ := hl (i + 1) (by simp; omega); exact ⟨k, by simpa using h⟩
      exact ⟨k :: zs, by simp at hk; simp [ic, hk]; exact hz⟩
  obtain ⟨zs, hz⟩ := hall xs fun i hi => by
    obtain ⟨x, hx⟩ := hx i (by omega)
    rw [Nat.mul_one] at hx
    obtain ⟨k, hk, -⟩ := DataW.trod_int he hx
    refine ⟨k, ?_⟩
    have := congrArg (fun l : List Value => l[0]?) hk
    simpa using this
  subst hz
  refine ⟨zs, ?_⟩
  rw [ic_len] at hl
  rw [hl]; exact hr
/-- A struct's field, read on. -/
theorem open_field {t fuel : Nat} {cs : List Value} {x : DataW H × List MemPlace} {fs : Array Field} (ht : P.underlying t = some (.struct fs)) (h : DataW.trod enc P W base spare held fuel t cs = some x)
    (i : Nat) (f : Field) (hf : fs[i]? = some f) : ∃ m y, DataW.trod enc P W base spare held m f.type ((cs.drop f.offset).take (P.cellsOf f.type)) = some y := by
  obtain ⟨xs, n, -, -, -, hl, hx⟩ := DataW.trod_struct ht h
  have hi : i < xs.length := by rw [hl]; exact (Array.getElem?_eq_some_iff.1 hf).1
  exact ⟨n, xs[i], by rw [hx i f hf, List.getElem?_eq_getElem hi]⟩
/-- A field that is an int. -/
theorem open_int_field {t fuel : Nat} {cs : List Value} {x : DataW H × List MemPlace} {fs : Array Field} {k : IntKind} (ht : P.underlying t = some (.struct fs)) (h : DataW.trod enc P W base spare held fuel t cs = some x)
    (i : Nat) (f : Field) (hf : fs[i]? = some f) (hk : P.underlying f.type = some (.int k)) (hc : P.cellsOf f.type = 1) : ∃ n, cs[f.offset]? = some (.int k n) ∧ (Lit.int k n).wf = true := by
  obtain ⟨m, y, hy⟩ := open_field ht h i f hf
  rw [hc] at hy
  obtain ⟨n, hn, -, hw⟩ := DataW.trod_int hk hy
  refine ⟨n, ?_, hw⟩
  have := congrArg (fun l : List Value => l[0]?) hn
  simpa using this
end
end Go.Own
