/- THE PLAIN LAW of DiskFirm: the disk behind k writes, some of them flushed. -/
import Derived.Test.YtbcilhcmjkgkgaaPrefm
namespace Go.Proofs.Ytbcilhcmjkgkgaa
open Go.RowKit Go.Own Go.Dk
/-- The bit that says of a flush. -/
def bitOf (fl : Int) (j : Nat) : Bool := bits BinOp.and IntKind.i64 (fl / 2 ^ j) 1 == 1
/-- The disk behind k writes; bs says behind which there is a flush. -/
def firmD (q : Nat) (xs : List Int) (bs : Nat → Bool) : Nat → Bk
  | 0 => Bk.zero q
  | k + 1 => if bs k then (((firmD q xs bs k).write (low (nth xs k) q) (fill (k : Int) 128)).2.flush).2 else ((firmD q xs bs k).write (low (nth xs k) q) (fill (k : Int) 128)).2
def firmN (bs : Nat → Bool) : Nat → Nat
  | 0 => 0
  | k + 1 => if bs k then firmN bs k + 1 else firmN bs k
theorem firmN_succ (bs : Nat → Bool) (k : Nat) : firmN bs (k + 1) = if bs k then firmN bs k + 1 else firmN bs k := rfl
theorem firmN_le (bs : Nat → Bool) (k : Nat) : firmN bs k ≤ k := by
  induction k with
  | zero => exact Nat.le_refl _
  | succ k ih => unfold firmN; split <;> omega
structure FirmOk (q : Nat) (D : Bk) (k f : Nat) : Prop where
  on : D.on = true
  armed : D.armed = none
  len : D.firm.length = q
  waits : D.waits.length ≤ k
  at_ : ∀ x ∈ D.waits, 0 ≤ x.1 ∧ x.1 < q
  writes : D.writes.length = k
  flushes : D.flushes = f
theorem FirmOk.write {q : Nat} {D : Bk} {k f : Nat} (h : FirmOk q D k f) (a : Int) (h0 : 0 ≤ a) (h1 : a < q) (t : List Int) (ht : t.length = 128) :
    D.write a t = (0, { D with waits := D.waits ++ [(a, t)], writes := D.writes ++ [a] }) ∧ FirmOk q (D.write a t).2 (k + 1) f := by
  have e := Bk.write_ok h.on h.armed h0 (by rw [h.len]; exact h1) ht
  refine ⟨e, ?_⟩
  rw [e]
  refine ⟨h.on, h.armed, h.len, ?_, ?_, ?_, h.flushes⟩
  · have := h.waits; simp; omega
  · intro x hx
    rcases List.mem_append.1 hx with hx | hx
    · exact h.at_ x hx
    · rw [List.mem_singleton.1 hx]; exact ⟨h0, h1⟩
  · have := h.writes; simp; omega
theorem FirmOk.flush {q : Nat} {D : Bk} {k f : Nat} (h : FirmOk q D k f) : D.flush = (0, { D with firm := blayAll D.firm D.waits, waits := [], flushes := D.flushes + 1 }) ∧ FirmOk q D.flush.2 k (f + 1) := by
  have e := Bk.flush_ok h.on h.armed
  refine ⟨e, ?_⟩
  rw [e]
  exact ⟨h.on, h.armed, by rw [blayAll_len]; exact h.len, by simp, by simp, h.writes, by rw [h.flushes]; simp⟩
theorem firmD_ok (q : Nat) (hq : 1 ≤ q) (xs : List Int) (bs : Nat → Bool) (k : Nat) : FirmOk q (firmD q xs bs k) k (firmN bs k) := by
  induction k with
  | zero => exact ⟨rfl, rfl, by simp [firmD, Bk.zero], by simp [firmD, Bk.zero], by simp [firmD, Bk.zero], rfl, rfl⟩
  | succ k ih =>
    have h := (ih.write _ (low_in (nth xs k) q (by omega)).1 (low_in (nth xs k) q (by omega)).2 (fill (k : Int) 128) (fill128 _)).2
    unfold firmD firmN
    split
    · exact h.flush.2
    · exact h
/-- What is read is what all the writes left. -/
theorem last_lay (F : List (List Int)) (W : List (Int × List Int)) (on : Bool) (ar : Option (Int × List Bool)) (ws : List Int) (fl : Int) (hW : ∀ x ∈ W, 0 ≤ x.1 ∧ x.1 < F.length) (a : Nat) (ha : a < F.length) :
    (Bk.mk F W on ar ws fl).last (a : Int) = (blayAll F W).getD a [] := by
  have key : ∀ n (W : List (Int × List Int)), W.length = n → (∀ x ∈ W, 0 ≤ x.1 ∧ x.1 < F.length) → (Bk.mk F W on ar ws fl).last (a : Int) = (blayAll F W).getD a [] := by
    intro n
    induction n with
    | zero =>
      intro W h _
      rw [List.eq_nil_of_length_eq_zero h, Bk.last_firm rfl]
      rfl
    | succ n ih =>
      intro W h hW
      obtain ⟨W', x, rfl⟩ : ∃ W' x, W = W' ++ [x] := ⟨W.dropLast, W.getLast (by intro e; simp [e] at h), (List.dropLast_concat_getLast _).symm⟩
      have h1 := ih W' (by simpa using h) (fun y hy => hW y (by simp [hy]))
      have hx := hW x (by simp)
      rw [Bk.last_snoc, blayAll_snoc, h1]
      unfold blay
      by_cases e : x.1 = (a : Int)
      · rw [if_pos e, e]
        have : a < (blayAll F W').length := by rw [blayAll_len]; exact ha
        simp [this]
      · rw [if_neg e]
        have : x.1.toNat ≠ a := by omega
        simp [List.getElem?_set_ne this]
  exact key _ W rfl hW
theorem FirmOk.last {q : Nat} {D : Bk} {k f : Nat} (h : FirmOk q D k f) (a : Nat) (ha : a < q) : D.read (a : Int) = (0, (blayAll D.firm D.waits).getD a []) := by
  rw [Bk.read_ok h.on (by omega) (by rw [h.len]; omega)]
  obtain ⟨F, W, on, ar, ws, fl⟩ := D
  rw [last_lay F W on ar ws fl (fun x hx => by rw [h.len]; exact h.at_ x hx) a (by rw [h.len]; exact ha)]
end Go.Proofs.Ytbcilhcmjkgkgaa
