/- TEXTS of mine, merged. -/
import Derived.Test.YtfhaedkaedffcaaGreatDoorM17
/- HOW ARGUMENTS ARE OPENED, further: slices within structs and slices. No program in sight. -/
namespace Go.Own
open Go.ChangeShapes Go.WideShapes Go.ChangeAt Go.RowKit
section
variable {H : Type} {enc : TypeId × Value → H} {P : Program} {W : World} {base : Nat} {spare : Nat → Bool} {held : Bool}
theorem trod_rd {t e size fuel : Nat} {cs : List Value} {x : DataW H × List MemPlace} (ht : P.underlying t = some (.slice e)) (hc : P.cellsOf e = size) (h : DataW.trod enc P W base spare held fuel t cs = some x) :
    ∃ (v : Value) (n fuel : Nat) (xs : List Value), cs = [v] ∧ Rd W v size n xs ∧ ∀ i, i < n → ∃ x, DataW.trod enc P W base spare held fuel e ((xs.drop (i * size)).take size) = some x := by
  rcases Deep.open_slice ht h with ⟨hcs, _⟩ | ⟨a, len, cap, m, n, D, Pl, hcs, hb, hl, hm, hmm, hx, hel⟩
  · exact ⟨.slice none 0 0, 0, 0, [], hcs, ⟨by simp, Nat.zero_le _, none, 0, rfl, Nat.le_refl _, fun h => absurd h (by simp)⟩, fun i hi => absurd hi (by simp)⟩
  · rw [hc] at hel
    have hlm : len ≤ m := by rw [hmm]; split <;> omega
    obtain ⟨C, hC⟩ := Deep.choose_lt (α := List Value) (p := fun i cs' => W.cells? base (a.add (i * size)) size = some cs' ∧ DataW.trod enc P W base spare held n e cs' = some (D i, Pl i)) (fun i hi => hel i (by omega : i < m))
    have hlen : ∀ i, i < len → (C i).length = size ∧ ∀ j, j < size → W.cell? ((a.add (i * size)).add j) = (C i)[j]? := fun i hi => cells?_parts (hC i (by omega)).1
    refine ⟨.slice (some a) len cap, len, n, (List.range len).flatMap C, hcs, ⟨flat_len len size C fun i hi => (hlen i hi).1, by omega, some a, cap, rfl, hl, fun hp => ?_⟩, fun i hi => ⟨(D i, Pl i), ?_⟩⟩
    · have hs : 0 < size := Nat.pos_of_mul_pos_left hp
      have hl0 : 0 < len := Nat.pos_of_mul_pos_right hp
      have h0 := (hlen 0 hl0).2 0 hs
      have ha : a = ⟨a.block, a.off, none⟩ := by
        refine cell_plain (w := W) (u := (C 0)[0]'(by rw [(hlen 0 hl0).1]; exact hs)) ?_
        rw [List.getElem?_eq_getElem (by rw [(hlen 0 hl0).1]; exact hs)] at h0
        simpa [Addr.add] using h0
      refine ⟨a.block, a.off, by rw [← ha], fun j hj => ?_⟩
      have hq : j / size < len := (Nat.div_lt_iff_lt_mul hs).2 hj
      have hr : j % size < size := Nat.mod_lt _ hs
      have h1 := (hlen (j / size) hq).2 (j % size) hr
      rw [Deep.add_add, ha, add_plain] at h1
      have hj' : j / size * size + j % size = j := Nat.div_add_mod' j size
      rw [hj'] at h1
      rw [h1, flatO_at len size C (fun i hi => (hlen i hi).1) (j / size) hq (j % size) hr, hj']
    · rw [flat_slice len size C (fun i hi => (hlen i hi).1) i hi]
      exact (hC i (by omega)).2
theorem all_cells {α : Type} (f : α → Value) (l : List Value) (h : ∀ i (hi : i < l.length), ∃ k, l[i] = f k) : ∃ zs : List α, l = zs.map f := by
  induction l with
  | nil => exact ⟨[], rfl⟩
  | cons y l ih =>
    obtain ⟨k, hk⟩ := h 0 (by simp)
    obtain ⟨zs, hz⟩ := ih fun i hi => h (i + 1) (by simp; omega)
    exact ⟨k :: zs, by simp at hk; simp [hk]; exact hz⟩
theorem drop_one (l : List Value) (i : Nat) (h : i < l.length) : (l.drop i).take 1 = [l[i]] := by
  rw [List.drop_eq_getElem_cons h]; rfl
/-- A slice of integers of one kind. -/
theorem trod_scal {t e fuel : Nat} {k : IntKind} {cs : List Value} {x : DataW H × List MemPlace} (ht : P.underlying t = some (.slice e)) (he : P.underlying e = some (.int k)) (hc : P.cellsOf e = 1) (h : DataW.trod enc P W base spare held fuel t cs = some x) :
    ∃ (v : Value) (xs : List Int), cs = [v] ∧ Rd W v 1 xs.length (xs.map (Value.int k)) := by
  obtain ⟨v, n, fuel, xs, hcs, hr, hx⟩ := trod_rd ht hc h
  have hl : xs.length = n := by simpa using hr.1
  obtain ⟨zs, rfl⟩ := all_cells (Value.int k) xs fun i hi => by
    obtain ⟨x, hx⟩ := hx i (by omega)
    rw [Nat.mul_one, drop_one _ _ hi] at hx
    obtain ⟨k, hk, -⟩ := DataW.trod_int he hx
    exact ⟨k, by simpa using hk⟩
  rw [List.length_map] at hl
  exact ⟨v, zs, hcs, by rw [hl]; exact hr⟩
theorem trod_bools {t e fuel : Nat} {cs : List Value} {x : DataW H × List MemPlace} (ht : P.underlying t = some (.slice e)) (he : P.underlying e = some .bool) (hc : P.cellsOf e = 1) (h : DataW.trod enc P W base spare held fuel t cs = some x) :
    ∃ (v : Value) (xs : List Bool), cs = [v] ∧ Rd W v 1 xs.length (xs.map Value.bool) := by
  obtain ⟨v, n, fuel, xs, hcs, hr, hx⟩ := trod_rd ht hc h
  have hl : xs.length = n := by simpa using hr.1
  obtain ⟨zs, rfl⟩ := all_cells Value.bool xs fun i hi => by
    obtain ⟨x, hx⟩ := hx i (by omega)
    rw [Nat.mul_one, drop_one _ _ hi] at hx
    obtain ⟨k, hk, -⟩ := DataW.trod_bool he hx
    exact ⟨k, by simpa using hk⟩
  rw [List.length_map] at hl
  exact ⟨v, zs, hcs, by rw [hl]; exact hr⟩
/-- A slice of slices of bytes: its texts. -/
theorem texts_of {n fuel tb e : Nat} {xs : List Value} {v : Value} (ht : P.underlying tb = some (.slice e)) (he : P.underlying e = some (.int .u8)) (hc : P.cellsOf e = 1) (hr : Rd W v 1 n xs)
    (hel : ∀ i, i < n → ∃ x, DataW.trod enc P W base spare held fuel tb ((xs.drop (i * 1)).take 1) = some x) :
    ∃ R : List (Value × List Int), Rd W v 1 R.length (R.map (·.1)) ∧ ∀ x ∈ R, Rd W x.1 1 x.2.length (bc x.2) := by
  have hl : xs.length = n := by simpa using hr.1
  have key : ∀ (l : List Value), (∀ u ∈ l, ∃ ys : List Int, Rd W u 1 ys.length (bc ys)) → ∃ R : List (Value × List Int), R.map (·.1) = l ∧ ∀ x ∈ R, Rd W x.1 1 x.2.length (bc x.2) := by
    intro l
    induction l with
    | nil => intro _; exact ⟨[], rfl, by simp⟩
    | cons u l ih =>
      intro h
      obtain ⟨ys, hy⟩ := h u (by simp)
      obtain ⟨R, h1, h2⟩ := ih fun u hu => h u (by simp [hu])
      exact ⟨(u, ys) :: R, by simp [h1], fun x hx => (List.mem_cons.1 hx).elim (fun e => by rw [e]; exact hy) (h2 x)⟩
  obtain ⟨R, h1, h2⟩ := key xs fun u hu => by
    obtain ⟨i, hi, rfl⟩ := List.getElem_of_mem hu
    obtain ⟨x, hx⟩ := hel i (by omega)
    rw [Nat.mul_one, drop_one _ _ hi] at hx
    obtain ⟨v, ys, hcs, hr⟩ := trod_scal ht he hc hx
    simp only [List.cons.injEq, and_true] at hcs
    exact ⟨ys, by rw [hcs]; exact hr⟩
  subst h1
  rw [List.length_map] at hl
  exact ⟨R, by rw [hl]; exact hr, h2⟩
theorem open_rd_bools {t e : Nat} {v : Value} {d : DataW H} {ps : List MemPlace} {r : Reach} {b0 : Nat} (ht : P.underlying t = some (.slice e)) (he : P.underlying e = some .bool) (hc : P.cellsOf e = 1) (hv : Value.okWide P W r b0 t v)
    (h : DataW.Trod enc P W base spare held t v d ps) : ∃ xs : List Bool, Rd W v 1 xs.length (xs.map Value.bool) := by
  obtain ⟨n, fuel, xs, hr, hx⟩ := open_rd ht hc hv h
  have hl : xs.length = n := by simpa using hr.1
  obtain ⟨zs, rfl⟩ := all_cells Value.bool xs fun i hi => by
    obtain ⟨x, hx⟩ := hx i (by omega)
    rw [Nat.mul_one, drop_one _ _ hi] at hx
    obtain ⟨k, hk, -⟩ := DataW.trod_bool he hx
    exact ⟨k, by simpa using hk⟩
  rw [List.length_map] at hl
  exact ⟨zs, by rw [hl]; exact hr⟩
theorem open_rd_scal {t e : Nat} {k : IntKind} {v : Value} {d : DataW H} {ps : List MemPlace} {r : Reach} {b0 : Nat} (ht : P.underlying t = some (.slice e)) (he : P.underlying e = some (.int k)) (hc : P.cellsOf e = 1) (hv : Value.okWide P W r b0 t v)
    (h : DataW.Trod enc P W base spare held t v d ps) : ∃ xs : List Int, Rd W v 1 xs.length (xs.map (Value.int k)) := by
  obtain ⟨n, fuel, xs, hr, hx⟩ := open_rd ht hc hv h
  have hl : xs.length = n := by simpa using hr.1
  obtain ⟨zs, rfl⟩ := all_cells (Value.int k) xs fun i hi => by
    obtain ⟨x, hx⟩ := hx i (by omega)
    rw [Nat.mul_one, drop_one _ _ hi] at hx
    obtain ⟨k, hk, -⟩ := DataW.trod_int he hx
    exact ⟨k, by simpa using hk⟩
  rw [List.length_map] at hl
  exact ⟨zs, by rw [hl]; exact hr⟩
theorem open_rd_texts {t tb e : Nat} {v : Value} {d : DataW H} {ps : List MemPlace} {r : Reach} {b0 : Nat} (ht : P.underlying t = some (.slice tb)) (htc : P.cellsOf tb = 1) (htb : P.underlying tb = some (.slice e)) (he : P.underlying e = some (.int .u8)) (hc : P.cellsOf e = 1) (hv : Value.okWide P W r b0 t v)
    (h : DataW.Trod enc P W base spare held t v d ps) : ∃ R : List (Value × List Int), Rd W v 1 R.length (R.map (·.1)) ∧ ∀ x ∈ R, Rd W x.1 1 x.2.length (bc x.2) := by
  obtain ⟨n, fuel, xs, hr, hx⟩ := open_rd ht htc hv h
  exact texts_of htb he hc hr hx
end
end Go.Own
