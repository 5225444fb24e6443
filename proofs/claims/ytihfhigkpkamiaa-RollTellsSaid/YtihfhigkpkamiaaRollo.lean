/- LISTS OF OBJECTS: how they are read, how they are owned. -/
import Derived.Test.YtihfhigkpkamiaaRolla
namespace Go.Proofs.Ytihfhigkpkamiaa
open Go.RowKit Go.Own Go.Rl
theorem Rd.start {W w : World} {L : List HP} {v : Value} {size n : Nat} {xs : List Value} (hr : Rd W v size n xs) (h : Has w (old W :: L)) : Rd w v size n xs := hr.cellsOld h.old_look
/-- An object, and its bytes' slice. -/
abbrev Ob := Piece × Value
def ocell (x : Ob) : List Value := [.int .i64 x.1.sec, .int .i64 x.1.pos, x.2]
def ocells (R : List Ob) : List Value := R.flatMap ocell
theorem ocells_len (R : List Ob) : (ocells R).length = R.length * 3 := by
  induction R with
  | nil => rfl
  | cons x R ih => simp only [ocells, List.flatMap_cons, List.length_append] at *; rw [ih]; simp [ocell]; omega
theorem ocells_at (R : List Ob) (k : Nat) (hk : k < R.length) (j : Nat) (hj : j < 3) : (ocells R)[k * 3 + j]? = (ocell R[k])[j]? := by
  induction R generalizing k with
  | nil => simp at hk
  | cons x R ih =>
    cases k with
    | zero =>
      simp only [ocells, List.flatMap_cons, List.getElem_cons_zero, Nat.zero_mul, Nat.zero_add]
      rw [List.getElem?_append_left (by simp [ocell]; omega)]
    | succ k =>
      have hk' : k < R.length := by simpa using hk
      simp only [ocells, List.flatMap_cons, List.getElem_cons_succ]
      rw [List.getElem?_append_right (by simp [ocell]; omega)]
      have := ih k hk'
      simp only [ocells] at this
      rw [← this]
      congr 1
      simp [ocell]; omega
theorem ocells_snoc (R : List Ob) (x : Ob) : ocells (R ++ [x]) = ocells R ++ ocell x := by simp [ocells]
theorem ocells_append (R T : List Ob) : ocells (R ++ T) = ocells R ++ ocells T := by simp [ocells]
/-- v reads as the list R. -/
def RdO (w : World) (v : Value) (R : List Ob) : Prop := Rd w v 3 R.length (ocells R) ∧ ∀ x ∈ R, Rd w x.2 1 x.1.bytes.length (bc x.1.bytes)
theorem RdO.form {w : World} {v : Value} {R : List Ob} (h : RdO w v R) : ∃ p c, v = .slice p R.length c ∧ R.length ≤ c ∧ R.length ≤ 9223372036854775807 := by
  obtain ⟨p, c, h, h1, h2, -⟩ := h.1.form
  exact ⟨p, c, h, h1, h2⟩
theorem RdO.at_ {w : World} {v : Value} {R : List Ob} (h : RdO w v R) (k : Nat) (hk : k < R.length) : ∃ g o c p m, v = .slice (some ⟨g, o, none⟩) R.length c ∧ w.cell? ⟨g, o + k * 3, none⟩ = some (.int .i64 R[k].1.sec) ∧ w.cell? ⟨g, o + k * 3 + 1, none⟩ = some (.int .i64 R[k].1.pos) ∧ w.cell? ⟨g, o + k * 3 + 2, none⟩ = some (.slice p R[k].1.bytes.length m) ∧ R[k].2 = .slice p R[k].1.bytes.length m ∧ R[k].1.bytes.length ≤ 9223372036854775807 := by
  obtain ⟨p, c, rfl, -, -, hr⟩ := h.1.form
  obtain ⟨g, o, rfl, hc⟩ := hr (by omega)
  obtain ⟨p, m, hx, -, hl, -⟩ := (h.2 _ (List.getElem_mem hk)).form
  have h0 := (hc (k * 3 + 0) (by omega)).trans (ocells_at R k hk 0 (by omega))
  have h1 := (hc (k * 3 + 1) (by omega)).trans (ocells_at R k hk 1 (by omega))
  have h2 := (hc (k * 3 + 2) (by omega)).trans (ocells_at R k hk 2 (by omega))
  refine ⟨g, o, c, p, m, rfl, ?_, ?_, ?_, hx, hl⟩
  · simpa [ocell] using h0
  · simpa [ocell, Nat.add_assoc] using h1
  · rw [← hx]; simpa [ocell, Nat.add_assoc] using h2
theorem RdO.drewN {w : World} {v : Value} {R : List Ob} (h : RdO w v R) (n : Nat) : RdO (w.drewN n) v R := ⟨h.1.drewN n, fun x hx => (h.2 x hx).drewN n⟩
theorem RdO.old {W w : World} {L : List HP} {v : Value} {R : List Ob} (h : RdO W v R) (hO : Has w (old W :: L)) : RdO w v R := ⟨Rd.start h.1 hO, fun x hx => Rd.start (h.2 x hx) hO⟩
/-- The pool of the bytes. -/
def opool (R : List Ob) : List (Value × List Int) := R.map fun x => (x.2, x.1.bytes)
/-- v is a list of objects whose bytes are its own. -/
def Objs (v : Value) (T : List Piece) : HP := ex fun R : List Ob => star [fact (R.map (·.1) = T), row v 31 3 R.length (ocells R), poolc 5 (opool R)]
theorem objs_iff {w : World} {L : List HP} {v : Value} {T : List Piece} : Has w (Objs v T :: L) ↔ ∃ R : List Ob, R.map (·.1) = T ∧ Has w (row v 31 3 R.length (ocells R) :: poolc 5 (opool R) :: L) := by
  unfold Objs
  simp only [Has.ex_iff, Has.star_iff, List.cons_append, List.nil_append, Has.fact_iff]
theorem Objs.rd {w : World} {L : List HP} {v : Value} {T : List Piece} (h : Has w (Objs v T :: L)) : ∃ R : List Ob, R.map (·.1) = T ∧ RdO w v R := by
  obtain ⟨R, h1, h2⟩ := objs_iff.1 h
  exact ⟨R, h1, h2.rd, fun x hx => h2.p1.pool_rd (x := (x.2, x.1.bytes)) (List.mem_map.2 ⟨x, hx, rfl⟩)⟩
theorem _root_.Go.Own.Has.nil' {w : World} {L : List HP} (h : Has w L) : Has w (Objs (.slice none 0 0) [] :: L) :=
  objs_iff.2 ⟨[], rfl, h.pool_nil.row_nil _ _⟩
theorem ocell_one (x : Ob) (p : Option Addr) (n m : Nat) (hx : x.2 = .slice p n m) : ∀ u ∈ ocell x, u.oneCell' = true := by
  intro u hu
  simp only [ocell, List.mem_cons, List.not_mem_nil, or_false] at hu
  rcases hu with rfl | rfl | rfl
  · rfl
  · rfl
  · rw [hx]; rfl
theorem infoObj : (Try.prog.info? 31).map (fun i => (i.zero, i.size, i.bytes)) = some (some (.agg #[.int .i64 0, .int .i64 0, .slice none 0 0]), 3, 40) := by kernel_rfl
end Go.Proofs.Ytihfhigkpkamiaa
