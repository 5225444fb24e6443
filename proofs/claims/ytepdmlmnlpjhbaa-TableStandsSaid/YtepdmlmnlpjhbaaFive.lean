/- THE PLAIN LAW of five descriptors that are moved. -/
import Derived.Test.YtepdmlmnlpjhbaaTabm
namespace Go.Tb
def fv (o : Nat → Int) (j : Nat) : Slot := ⟨100 + (j : Int), o j, (j : Int), true⟩
def five (o : Nat → Int) : List Slot := [fv o 0, fv o 1, fv o 2, fv o 3, fv o 4] ++ List.replicate 11 none4
def fivec (o : Nat → Int) : Array Value := #[.int .i64 (o 0), .int .i64 (o 1), .int .i64 (o 2), .int .i64 (o 3), .int .i64 (o 4)]
def upd (o : Nat → Int) (k : Nat) (x : Int) : Nat → Int := fun j => if j = k then x else o j
theorem below5 {k : Nat} (h : k < 5) : k = 0 ∨ k = 1 ∨ k = 2 ∨ k = 3 ∨ k = 4 := by omega
theorem five_len (o : Nat → Int) : (five o).length = 16 := rfl
theorem fivec_at (o : Nat → Int) (k : Nat) (h : k < 5) : (fivec o)[k]? = some (.int .i64 (o k)) := by
  rcases below5 h with rfl | rfl | rfl | rfl | rfl <;> rfl
theorem fivec_set (o : Nat → Int) (k : Nat) (h : k < 5) (x : Int) : (fivec o).setIfInBounds k (.int .i64 x) = fivec (upd o k x) := by
  rcases below5 h with rfl | rfl | rfl | rfl | rfl <;> rfl
theorem five_look (o : Nat → Int) (k : Nat) (h : k < 5) : look (five o) (k : Int) = some (fv o k) := by
  rcases below5 h with rfl | rfl | rfl | rfl | rfl <;> rfl
theorem five_set (o : Nat → Int) (k : Nat) (h : k < 5) (x : Int) : (five o).set k { fv o k with off := x } = five (upd o k x) := by
  rcases below5 h with rfl | rfl | rfl | rfl | rfl <;> rfl
theorem five_mov (o : Nat → Int) (k : Nat) (h : k < 5) (x : Int) (hx : 0 ≤ x) : mov (five o) (k : Int) x = (0, five (upd o k x)) := by
  simp only [mov, five_look o k h, if_neg (show ¬ x < 0 by omega), Int.toNat_natCast, five_set o k h x]
theorem five_not (o : Nat → Int) (k : Nat) (h : k < 5) (x : Int) (hx : x < 0) : mov (five o) (k : Int) x = (2, five o) := by
  simp only [mov, five_look o k h, if_pos hx]
theorem five_cls (o : Nat → Int) (k : Nat) (h : k < 5) : cls (five o) (k : Int) = ((100 + (k : Int), 0), (five o).set k none4) := by
  simp only [cls, five_look o k h, Int.toNat_natCast]; rfl
theorem five_opn (o : Nat → Int) (k : Nat) (h : k < 5) : opn ((five o).set k none4) 200 63 = (((k : Int), 0), (five o).set k ⟨200, 0, 63, true⟩) := by
  rcases below5 h with rfl | rfl | rfl | rfl | rfl <;> rfl
theorem five_get (o : Nat → Int) (k : Nat) (h : k < 5) : get ((five o).set k ⟨200, 0, 63, true⟩) (k : Int) = (⟨200, 0, 63, true⟩, 0) := by
  rcases below5 h with rfl | rfl | rfl | rfl | rfl <;> rfl
theorem five_other (o : Nat → Int) (k : Nat) (h : k < 5) (i : Nat) (hi : i < 5) (hik : i ≠ k) : get ((five o).set k ⟨200, 0, 63, true⟩) (i : Int) = (fv o i, 0) := by
  rcases below5 h with rfl | rfl | rfl | rfl | rfl <;> rcases below5 hi with rfl | rfl | rfl | rfl | rfl <;> first | rfl | exact absurd rfl hik
/-- i are open. -/
def some5 (i : Nat) : List Slot := (List.range i).map (fun j => fv (fun _ => 0) j) ++ List.replicate (16 - i) none4
theorem some5_len (i : Nat) (h : i ≤ 5) : (some5 i).length = 16 := by simp [some5]; omega
theorem some5_opn (i : Nat) (h : i < 5) : opn (some5 i) (100 + (i : Int)) (i : Int) = (((i : Int), 0), some5 (i + 1)) := by
  rcases below5 h with rfl | rfl | rfl | rfl | rfl <;> rfl
end Go.Tb
