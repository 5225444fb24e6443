/- THE PLAIN LAW of DiskFalls; an array of texts; more on lists of texts. -/
import Derived.Test.YtbcilhcmjkgkgaaFirmm
import Derived.Test.YtbcilhcmjkgkgaaLst
namespace Go.Proofs.Ytbcilhcmjkgkgaa
open Go.RowKit Go.Own Go.Dk
/-- A disk that is armed. -/
def fallD (F : List (List Int)) (W : List (Int × List Int)) (a n : Nat) (keep : List Bool) (ws : List Int) (fs : Int) : Bk := ⟨F, W, true, some ((a : Int) - (n : Int), keep), ws, fs⟩
section
variable {F : List (List Int)} {W : List (Int × List Int)} {a n : Nat} {keep : List Bool} {ws : List Int} {fs : Int} {q : Nat} {t : List Int}
theorem fall_yes (hn : n < a) : (fallD F W a n keep ws fs).falls = (false, fallD F W a (n + 1) keep ws fs) := by
  have h0 : (0 : Int) < (a : Int) - (n : Int) := by omega
  have e : (a : Int) - ((n + 1 : Nat) : Int) = (a : Int) - (n : Int) - 1 := by omega
  unfold Bk.falls fallD
  dsimp only
  rw [if_pos h0, e]
theorem fall_no (hn : ¬ n < a) : (fallD F W a n keep ws fs).falls = (true, (fallD F W a n keep ws fs).crash keep) := by
  have h0 : ¬ (0 : Int) < (a : Int) - (n : Int) := by omega
  unfold Bk.falls fallD
  dsimp only
  rw [if_neg h0]
theorem fall_ask (hq : q < F.length) (ht : t.length = 128) : (fallD F W a n keep ws fs).asked ((fallD F W a n keep ws fs).there (q : Int) && t.length == 128) = 0 := by
  simp [fallD, Bk.asked, Bk.there, hq, ht]
theorem fw_yes (hn : n < a) (hq : q < F.length) (ht : t.length = 128) :
    (fallD F W a n keep ws fs).write (q : Int) t = (0, fallD F (W ++ [((q : Int), t)]) a (n + 1) keep (ws ++ [(q : Int)]) fs) := by
  unfold Bk.write
  rw [if_neg (by rw [fall_ask hq ht]; simp), fall_yes hn]
  rfl
theorem fw_no (hn : ¬ n < a) (hq : q < F.length) (ht : t.length = 128) :
    (fallD F W a n keep ws fs).write (q : Int) t = (4, (fallD F W a n keep ws fs).crash keep) := by
  unfold Bk.write
  rw [if_neg (by rw [fall_ask hq ht]; simp), fall_no hn]
  rfl
theorem ff_yes (hn : n < a) : (fallD F W a n keep ws fs).flush = (0, fallD (blayAll F W) [] a (n + 1) keep ws (fs + 1)) := by
  unfold Bk.flush
  rw [if_neg (show ¬ (fallD F W a n keep ws fs).asked true ≠ 0 by simp [fallD, Bk.asked]), fall_yes hn]
  rfl
theorem ff_no (hn : ¬ n < a) : (fallD F W a n keep ws fs).flush = (4, (fallD F W a n keep ws fs).crash keep) := by
  unfold Bk.flush
  rw [if_neg (show ¬ (fallD F W a n keep ws fs).asked true ≠ 0 by simp [fallD, Bk.asked]), fall_no hn]
  rfl
end
theorem blayAll_take (F : List (List Int)) (W : List (Int × List Int)) (k : Nat) (h : k < W.length) : blayAll F (W.take (k + 1)) = blay (blayAll F (W.take k)) W[k] := by
  rw [← List.take_append_getElem h, blayAll_snoc]
theorem blayKept_take (keep : List Bool) (F : List (List Int)) (W : List (Int × List Int)) (k : Nat) (h : k < W.length) : blayKept keep F (W.take (k + 1)) = if kept keep k then blay (blayKept keep F (W.take k)) W[k] else blayKept keep F (W.take k) := by
  rw [← List.take_append_getElem h, blayKept_snoc, List.length_take, Nat.min_eq_left (by omega)]
/-- An array of texts, in the block g. -/
def Arr (B : Txs) (g : Nat) (F : List (List Int)) : HP := ex fun R : Txs => star [fact (R.map (·.2) = F ∧ ∀ x ∈ R, x ∈ B), pt g (.cells (R.map (·.1)).toArray 43)]
section
variable {w : World} {L : List HP} {B B' : Txs} {v : Value} {F T : List (List Int)} {g : Nat}
theorem arr_iff : Has w (Arr B g F :: L) ↔ ∃ R : Txs, (R.map (·.2) = F ∧ ∀ x ∈ R, x ∈ B) ∧ Has w (pt g (.cells (R.map (·.1)).toArray 43) :: L) := by
  unfold Arr
  simp only [Has.ex_iff, Has.star_iff, List.cons_append, List.nil_append, Has.fact_iff]
theorem Arr.sub (h : Has w (Arr B g F :: L)) (hB : ∀ x ∈ B, x ∈ B') : Has w (Arr B' g F :: L) := by
  obtain ⟨R, ⟨h1, h2⟩, h3⟩ := arr_iff.1 h
  exact arr_iff.2 ⟨R, ⟨h1, fun x hx => hB x (h2 x hx)⟩, h3⟩
theorem Arr.cons (h : Has w (Arr B g F :: L)) (y : Value × List Int) : Has w (Arr (y :: B) g F :: L) := Arr.sub h fun _ h => List.mem_cons_of_mem _ h
theorem Arr.set (h : Has w (Arr B g F :: L)) (k : Nat) {u : Value} {xs : List Int} (hu : (u, xs) ∈ B) : Has (w.setCell ⟨g, k, none⟩ u) (Arr B g (F.set k xs) :: L) := by
  obtain ⟨R, ⟨rfl, h1⟩, h2⟩ := arr_iff.1 h
  refine arr_iff.2 ⟨R.set k (u, xs), ⟨by rw [List.map_set], fun x hx => ?_⟩, ?_⟩
  · rcases List.mem_or_eq_of_mem_set hx with h | rfl
    · exact h1 _ h
    · exact hu
  · have := h2.set k u
    simpa [List.map_set] using this
theorem Arr.at_ (h : Has w (Arr B g F :: Pool B :: L)) (k : Nat) (hk : k < F.length) : (∀ j, w.frozen? ⟨g, j, none⟩ = false) ∧ ∃ p m, w.cell? ⟨g, k, none⟩ = some (.slice p F[k].length m) := by
  obtain ⟨R, ⟨rfl, h1⟩, h2⟩ := arr_iff.1 h
  have hkR : k < R.length := by simpa using hk
  obtain ⟨p, m, e, -⟩ := (h2.p1.pool_rd (h1 _ (List.getElem_mem hkR))).form
  refine ⟨h2.thaw, p, m, ?_⟩
  rw [h2.cells k]
  simp [hkR, e]
theorem Arr.rd (h : Has w (Arr B g F :: Pool B :: L)) (hl : F.length = 6) : RdT w (.slice (some ⟨g, 0, none⟩) 6 6) F := by
  obtain ⟨R, ⟨rfl, h1⟩, h2⟩ := arr_iff.1 h
  have hR : R.length = 6 := by simpa using hl
  refine ⟨R, rfl, ⟨by simp, le_maxLen (by omega), some ⟨g, 0, none⟩, 6, by rw [hR], by omega, fun _ => ⟨g, 0, rfl, fun j hj => ?_⟩⟩, fun x hx => h2.p1.pool_rd (h1 x hx)⟩
  rw [Nat.zero_add, h2.cells j]
  simp
theorem Lst.form (h : Has w (Lst B v T :: L)) : ∃ p c, v = .slice p T.length c ∧ (0 < T.length → ∃ g, p = some ⟨g, 0, none⟩) := by
  obtain ⟨R, ⟨rfl, h1⟩, h2⟩ := lst_iff.1 h
  obtain ⟨-, h | ⟨g, c, cur, rfl, -⟩⟩ := h2.row_cases
  · exact ⟨none, 0, by rw [h.1, List.length_map, h.2.1], fun hp => by rw [List.length_map, h.2.1] at hp; omega⟩
  · exact ⟨some ⟨g, 0, none⟩, c, by simp, fun _ => ⟨g, rfl⟩⟩
theorem Ints.form {xs : List Int} (h : Has w (Ints v xs :: L)) : ∃ p c, v = .slice p xs.length c ∧ (0 < xs.length → ∃ g, p = some ⟨g, 0, none⟩) := by
  obtain ⟨-, h | ⟨g, c, cur, rfl, -⟩⟩ := Has.row_cases h
  · exact ⟨none, 0, by rw [h.1, h.2.1], fun hp => by rw [h.2.1] at hp; omega⟩
  · exact ⟨some ⟨g, 0, none⟩, c, rfl, fun _ => ⟨g, rfl⟩⟩
theorem Ints.at_ {xs : List Int} {n c : Nat} (h : Has w (Ints (.slice (some ⟨g, 0, none⟩) n c) xs :: L)) (k : Nat) (hk : k < xs.length) : w.cell? ⟨g, k, none⟩ = some (.int .i64 xs[k]) := by
  have := (Has.row_cells h).2.1 k (by omega)
  rw [this, ic_at xs k hk]
theorem Lst.snoc {u : Value} {xs : List Int} {R : Txs} (hR : R.map (·.2) = T ∧ ∀ x ∈ R, x ∈ B) (hu : (u, xs) ∈ B) (h : Has w (row v 28 1 (R.length + 1) (R.map (·.1) ++ [u]) :: L)) : Has w (Lst B v (T ++ [xs]) :: L) := by
  obtain ⟨rfl, h1⟩ := hR
  refine lst_iff.2 ⟨R ++ [(u, xs)], ⟨by simp, fun x hx => ?_⟩, by simpa using h⟩
  rcases List.mem_append.1 hx with h | h
  · exact h1 _ h
  · rw [List.mem_singleton.1 h]; exact hu
theorem ints_snoc {xs : List Int} {x : Int} (h : Has w (row v 3 1 (xs.length + 1) (ic xs ++ [.int .i64 x]) :: L)) : Has w (Ints v (xs ++ [x]) :: L) := by
  simpa [Ints, ic_snoc] using h
end
end Go.Proofs.Ytbcilhcmjkgkgaa
