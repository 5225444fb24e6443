/- v[m:] and v[:m] of a slice that is read. -/
import Derived.Test.YtajlikakbihgbaaRow
namespace Go.Own
open Go.RowKit
theorem Rd.dropS {w : World} {p : Option Addr} {n c size : Nat} {xs : List Value} (h : Rd w (.slice p n c) size n xs) (m : Nat) (hm : m ≤ n) : Rd w (.slice (if c = m then p else p.map fun a => a.add (m * size)) (n - m) (c - m)) size (n - m) (xs.drop (m * size)) := by
  obtain ⟨h1, h2, p', c', e, h3, h4⟩ := h
  injection e with e1 e2 e3
  subst e1 e3
  refine ⟨by rw [List.length_drop, h1, Nat.sub_mul], by omega, _, _, rfl, by omega, fun hp => ?_⟩
  have hlt : 0 < n - m := Nat.pos_of_mul_pos_right hp
  have hs : 0 < size := Nat.pos_of_mul_pos_left hp
  obtain ⟨g, o, rfl, hc⟩ := h4 (Nat.mul_pos (by omega) hs)
  refine ⟨g, o + m * size, ?_, fun j hj => ?_⟩
  · rw [if_neg (by omega), Option.map_some, add_plain]
  · rw [List.getElem?_drop, ← hc (m * size + j) (by rw [Nat.sub_mul] at hj; omega), Nat.add_assoc]
theorem Rd.takeS {w : World} {p : Option Addr} {n c size : Nat} {xs : List Value} (h : Rd w (.slice p n c) size n xs) (m : Nat) (hm : m ≤ n) : Rd w (.slice p m c) size m (xs.take (m * size)) := by
  obtain ⟨h1, h2, p', c', e, h3, h4⟩ := h
  injection e with e1 e2 e3
  subst e1 e3
  have hle := Nat.mul_le_mul_right size hm
  refine ⟨by rw [List.length_take]; omega, by omega, _, _, rfl, by omega, fun hp => ?_⟩
  obtain ⟨g, o, rfl, hc⟩ := h4 (by omega)
  refine ⟨g, o, rfl, fun j hj => ?_⟩
  rw [hc j (by omega), List.getElem?_take, if_pos hj]
end Go.Own
