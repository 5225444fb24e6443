/- THE PLAIN LAW of DiskPrefix. -/
import Derived.Test.YtajlikakbihgbaaDiskk
import Derived.Test.YtajlikakbihgbaaFill
namespace Go.Proofs.Ytajlikakbihgbaa
open Go.RowKit Go.Own Go.Dk
theorem fill128 (n : Int) : (fill n 128).length = 128 := fill_len n 128
def nth (xs : List Int) (k : Nat) : Int := xs.getD k 0
theorem fillAny128 (n : Int) (W : World) (L : List HP) (hO : Has W L) :
    Calls Try.prog 12 #[.int .i64 n, .int .i64 128] W fun e w' => ∃ p c, e = .returned (.slice p 128 c) ∧ Has w' (Bytes (.slice p 128 c) (fill n 128) :: L) ∧ Keep W w' := by
  refine (fillAny n 128 W L hO (by omega)).mono ?_
  rintro e w' ⟨v, rfl, h, hK⟩
  obtain ⟨p, c, rfl, -⟩ := (Bytes.rd h).form
  rw [fill128] at h ⊢
  exact ⟨p, c, rfl, h, hK⟩
theorem bools_snoc {w : World} {L : List HP} {v : Value} {ks : List Bool} {b : Bool} (h : Has w (row v 4 1 (ks.length + 1) (ks.map Value.bool ++ [Value.bool b]) :: L)) : Has w (Bools v (ks ++ [b]) :: L) := by
  simpa [Bools] using h
/-- What waits behind k writes. -/
def putW (q : Int) (xs : List Int) (k : Nat) : List (Int × List Int) := (List.range k).map fun j => (low (nth xs j) q, fill (j : Int) 128)
def putL (q : Int) (xs : List Int) (k : Nat) : List Int := (List.range k).map fun j => low (nth xs j) q
theorem putW_succ (q : Int) (xs : List Int) (k : Nat) : putW q xs (k + 1) = putW q xs k ++ [(low (nth xs k) q, fill (k : Int) 128)] := by simp [putW, List.range_succ]
theorem putL_succ (q : Int) (xs : List Int) (k : Nat) : putL q xs (k + 1) = putL q xs k ++ [low (nth xs k) q] := by simp [putL, List.range_succ]
theorem putW_len (q : Int) (xs : List Int) (k : Nat) : (putW q xs k).length = k := by simp [putW]
theorem putL_len (q : Int) (xs : List Int) (k : Nat) : (putL q xs k).length = k := by simp [putL]
def keepL (m k : Nat) : List Bool := (List.range k).map fun j => decide (j < m)
theorem keepL_succ (m k : Nat) : keepL m (k + 1) = keepL m k ++ [decide (k < m)] := by simp [keepL, List.range_succ]
theorem keepL_len (m k : Nat) : (keepL m k).length = k := by simp [keepL]
def wantL (q : Int) (Z : List (List Int)) (xs : List Int) (m k : Nat) : List (List Int) := (List.range k).foldl (fun T (j : Nat) => if j < m then blay T (low (nth xs j) q, fill (j : Int) 128) else T) Z
theorem wantL_succ (q : Int) (Z : List (List Int)) (xs : List Int) (m k : Nat) : wantL q Z xs m (k + 1) = if k < m then blay (wantL q Z xs m k) (low (nth xs k) q, fill (k : Int) 128) else wantL q Z xs m k := by simp [wantL, List.range_succ]
theorem wantL_len (q : Int) (Z : List (List Int)) (xs : List Int) (m k : Nat) : (wantL q Z xs m k).length = Z.length := by
  induction k with
  | zero => rfl
  | succ k ih =>
    rw [wantL_succ]
    split
    · rw [blay_len, ih]
    · exact ih
theorem kept_all (q : Int) (Z : List (List Int)) (xs : List Int) (m n : Nat) : blayKept (keepL m n) Z (putW q xs n) = wantL q Z xs m n := by
  have key : ∀ k, k ≤ n → blayKept (keepL m n) Z (putW q xs k) = wantL q Z xs m k := by
    intro k
    induction k with
    | zero => intro _; rfl
    | succ k ih =>
      intro hk
      rw [putW_succ, blayKept_snoc, ih (by omega), wantL_succ, putW_len]
      have : kept (keepL m n) k = decide (k < m) := by
        unfold kept
        rw [keepL_len, Nat.mod_eq_of_lt (by omega)]
        simp [keepL, show k < n by omega, show 0 < n by omega]
      rw [this]
      by_cases h : k < m <;> simp [h]
  exact key n (Nat.le_refl _)
def prefD (xs : List Int) (k : Nat) : Bk := ⟨List.replicate 5 zer, putW 5 xs k, true, none, putL 5 xs k, 0⟩
theorem prefD_write (xs : List Int) (k : Nat) : (prefD xs k).write (low (nth xs k) 5) (fill (k : Int) 128) = (0, prefD xs (k + 1)) := by
  rw [Bk.write_ok rfl rfl (low_in _ 5 (by omega)).1 (low_in _ 5 (by omega)).2 (fill128 _)]
  simp only [prefD, putW_succ, putL_succ]
end Go.Proofs.Ytajlikakbihgbaa
