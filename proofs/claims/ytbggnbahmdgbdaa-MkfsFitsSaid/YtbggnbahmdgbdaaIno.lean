/- THE WALKS of inode's parts: between, fix, May of a free inode and of the root. -/
import Derived.Test.YtbggnbahmdgbdaaSeal
import Derived.Test.YtbggnbahmdgbdaaGrow
namespace Go.Sl
open Go
/-- so many bytes of a number, the highest first. -/
def fixL (n : Int) : Nat → List Int
  | 0 => []
  | k + 1 => n / 2 ^ (8 * k) % 256 :: fixL n k
theorem fixL_len (n : Int) : ∀ k, (fixL n k).length = k
  | 0 => rfl
  | k + 1 => by simp [fixL, fixL_len n k]
end Go.Sl
namespace Go.Proofs.Ytbggnbahmdgbdaa
open Go.RowKit Go.Own Go.Sl
theorem iBetween (x lo hi : Int) (w : World) : Calls Try.prog 73 #[.int .i64 x, .int .i64 lo, .int .i64 hi] w fun e w' => e = .returned (.bool (decide (lo ≤ x) && decide (x ≤ hi))) ∧ w = w' := by
  go_enter Try.func73, Try.ntmps73
  by_cases h : lo ≤ x
  · by_cases h2 : x ≤ hi
    · go_wp2
      go_ret
      exact ⟨by simp [h, h2], rfl⟩
    · go_wp2
      go_ret
      exact ⟨by simp [h, h2], rfl⟩
  · have e : decide (lo ≤ x) = false := decide_eq_false h
    rw [e]
    go_wp2
    go_ret
    exact ⟨rfl, rfl⟩
theorem _root_.Go.Own.Has.rdAt {w : World} {L : List HP} {b o n c : Nat} {C : Array Value} {T : TypeId} {z : Nat × Nat} {xs : List Value} (h : Has w (pt b (.cells C T z) :: L)) (hn : n ≤ c) (hm : n ≤ 1000000) (hl : xs.length = n) (hx : ∀ j, j < n → C[o + j]? = xs[j]?) : Rd w (.slice (some ⟨b, o, none⟩) n c) 1 n xs :=
  ⟨by omega, le_maxLen (by omega), _, c, rfl, hn, fun _ => ⟨b, o, rfl, fun j hj => by rw [h.cells]; exact hx j (by omega)⟩⟩
def z6 : Value := .agg #[.int .i64 0, .int .i64 0, .int .i64 0, .int .i64 0, .int .i64 0, .int .i64 0]
theorem eq6 (w : World) : (Op.equalIn 9999 63 z6 z6).run Try.prog w = .ok true w := by kernel_rfl
def ino (k l : Int) : Value := .agg #[.int .i64 k, .int .i64 l, .int .i64 0, .int .i64 0, .int .i64 0, .int .i64 0, .int .i64 0, .int .i64 0, .int .i64 0, .int .i64 0, .int .i64 0]
def icell (k l : Int) : Array Value := #[.int .i64 k, .int .i64 l, .int .i64 0, .int .i64 0, .int .i64 0, .int .i64 0, .int .i64 0, .int .i64 0, .int .i64 0, .int .i64 0, .int .i64 0]
set_option maxRecDepth 100000 in
set_option maxHeartbeats 4000000 in
theorem iMay0 (w : World) (L : List HP) (hO : Has w L) : Calls Try.prog 61 #[ino 0 0] w fun e w' => e = .returned (.bool true) ∧ Has w' L ∧ Keep w w' := by
  have HO := hid (hO.alloc (.cells (icell 0 0) 65))
  have HK := hid ((Keep.refl w).alloc (.cells (icell 0 0) 65))
  have hc := (hO.alloc (.cells (icell 0 0) 65)).cells
  clear hO
  unfold ino icell at *
  have hq : ∀ w, (Op.equalIn 9999 63 (.agg #[.int .i64 0, .int .i64 0, .int .i64 0, .int .i64 0, .int .i64 0, .int .i64 0]) (.agg #[.int .i64 0, .int .i64 0, .int .i64 0, .int .i64 0, .int .i64 0, .int .i64 0])).run Try.prog w = .ok true w := eq6
  go_enter Try.func61, Try.ntmps61
  go_wp2_with fail
  go_ret
  exact ⟨rfl, HO.out.drop, HK.out⟩
set_option maxRecDepth 100000 in
set_option maxHeartbeats 4000000 in
theorem iMay1 (w : World) (L : List HP) (hO : Has w L) : Calls Try.prog 61 #[ino 2 1] w fun e w' => e = .returned (.bool true) ∧ Has w' L ∧ Keep w w' := by
  have H0 := hid hO
  have HO := hid (hO.alloc (.cells (icell 2 1) 65))
  have HK := hid ((Keep.refl w).alloc (.cells (icell 2 1) 65))
  have hc := (hO.alloc (.cells (icell 2 1) 65)).cells
  clear hO
  unfold ino icell at *
  go_enter Try.func61, Try.ntmps61
  go_wp2_with fail
  have HO0 := hid HO.out.drew
  have HK0 := hid HK.out.drew
  have hc := HO0.out.cells
  refine region_text (fun w' => w'.cell? ⟨w.heap.size, 9, none⟩ = some (.int .i64 0) ∧ w'.cell? ⟨w.heap.size, 10, none⟩ = some (.int .i64 0)) (by kernel_rfl) (by kernel_rfl) ⟨HO0.out.cells 9, HO0.out.cells 10⟩ ?_
  clear HO HK hc
  generalize (w.alloc (.cells #[.int .i64 2, .int .i64 1, .int .i64 0, .int .i64 0, .int .i64 0, .int .i64 0, .int .i64 0, .int .i64 0, .int .i64 0, .int .i64 0, .int .i64 0] 65)).drew = w0 at *
  generalize w.heap.size = g at *
  repeat (first
    | (refine wpL_read (by rfl) (by rfl) ?_ ?_ ?_; rotate_left; (rintro w ⟨z0, z1⟩; go_simp; with_reducible rfl); simp only [Act.put, List.setIfInBounds_toArray, List.set_cons_zero, List.set_cons_succ]) | (refine wpL_skip (by rfl) ?_; simp only [Act.put, List.setIfInBounds_toArray, List.set_cons_zero, List.set_cons_succ]))
  have HO1 := hid (HO0.out.alloc (.cells #[.int .i64 0, .int .i64 0] 3))
  have HK1 := hid (HK0.out.alloc (.cells #[.int .i64 0, .int .i64 0] 3))
  refine wpL_act (by rfl) (by rfl) (fun K hK => ?_)
  go_simp
  refine hK.out _ _ ⟨HO1.out.p1.cells 9, HO1.out.p1.cells 10⟩ ?_
  clear hK K HO0 HK0
  try simp only [Act.put, List.setIfInBounds_toArray, List.set_cons_zero, List.set_cons_succ]
  generalize w0.alloc (.cells #[.int .i64 0, .int .i64 0] 3) = w1 at *
  generalize w0.heap.size = g1 at *
  have HO2 := hid (HO1.out.alloc (.cells #[.slice (some ⟨g, 3, none⟩) 6 6, .slice (some ⟨g1, 0, none⟩) 2 2] 30))
  have HK2 := hid (HK1.out.alloc (.cells #[.slice (some ⟨g, 3, none⟩) 6 6, .slice (some ⟨g1, 0, none⟩) 2 2] 30))
  refine wpL_act (by rfl) (by rfl) (fun K hK => ?_)
  go_simp
  refine hK.out _ _ ⟨HO2.out.p2.cells 9, HO2.out.p2.cells 10⟩ ?_
  clear hK K
  try simp only [Act.put, List.setIfInBounds_toArray, List.set_cons_zero, List.set_cons_succ]
  generalize w1.alloc (.cells #[.slice (some ⟨g, 3, none⟩) 6 6, .slice (some ⟨g1, 0, none⟩) 2 2] 30) = w2 at *
  generalize w1.heap.size = q2 at *
  clear HO1 HK1
  have g6 : ∀ j, j < (zs 6).length → (#[.int .i64 2, .int .i64 1, .int .i64 0, .int .i64 0, .int .i64 0, .int .i64 0, .int .i64 0, .int .i64 0, .int .i64 0, .int .i64 0, .int .i64 0] : Array Value)[3 + j]? = (ic (zs 6))[j]? := fun j hj => by
    have : j = 0 ∨ j = 1 ∨ j = 2 ∨ j = 3 ∨ j = 4 ∨ j = 5 := by simp [zs] at hj; omega
    rcases this with rfl | rfl | rfl | rfl | rfl | rfl <;> rfl
  have g2 : ∀ j, j < (zs 2).length → (#[.int .i64 0, .int .i64 0] : Array Value)[0 + j]? = (ic (zs 2))[j]? := fun j hj => by
    have : j = 0 ∨ j = 1 := by simp [zs] at hj; omega
    rcases this with rfl | rfl <;> rfl
  have HC := hid (concat2 q2 _ _ (zs 6) (zs 2) w2 _ HO2.out (fun w' h => Has.rdAt (c := 6) h.p1 (by decide) (by decide) (by rfl) g6) (fun w' h => Has.rdAt (c := 2) h (by decide) (by decide) (by rfl) g2) (by decide) (by decide))
  clear g6 g2
  refine wpL_act (by rfl) (by rfl) (fun K hK => ?_)
  go_simp
  refine (HC.out).mono ?_
  rintro e w3 ⟨v3, rfl, hO3, hK3⟩
  have HO3 := hid hO3
  have HK3 := hid ((HK2.out).trans hK3)
  clear hO3 hK3
  try dsimp only
  refine hK.out _ _ (⟨HO3.out.p3.cells 9, HO3.out.p3.cells 10⟩) ?_
  clear hK K
  try simp only [Act.put, List.setIfInBounds_toArray, List.set_cons_zero, List.set_cons_succ]
  clear HC HO2 HK2
  have HO4 := hid (show Has w3 (row v3 3 1 8 (ic (zs 8)) :: pt g (.cells #[.int .i64 2, .int .i64 1, .int .i64 0, .int .i64 0, .int .i64 0, .int .i64 0, .int .i64 0, .int .i64 0, .int .i64 0, .int .i64 0, .int .i64 0] 65) :: L) from (HO3.out.re 4 [0, 3]))
  have HK4 := HK3
  obtain ⟨p4, c4, rfl, -, -, hcs⟩ := HO4.out.rd.form
  obtain ⟨g4, o4, rfl, hc4⟩ := hcs (by decide)
  have HC4 := hid hc4
  clear hcs hc4
  repeat (first
    | (refine wpL_read (by rfl) (by rfl) ?_ ?_ ?_; rotate_left; (rintro w ⟨z0, z1⟩; go_simp; with_reducible rfl); simp only [Act.put, List.setIfInBounds_toArray, List.set_cons_zero, List.set_cons_succ]) | (refine wpL_skip (by rfl) ?_; simp only [Act.put, List.setIfInBounds_toArray, List.set_cons_zero, List.set_cons_succ]))
  refine wpL_nil ?_
  go_wp2_with fail
  go_loopw [18] (fun i w' => ∃ k : Nat, k ≤ 8 ∧ i = .int .i64 k ∧ w3 = w') (fun i _ => 8 - (intOf i).toNat)
  case atStart => exact ⟨0, by omega, rfl, rfl⟩
  case round =>
    obtain ⟨k, hk, rfl, rfl⟩ := hrel
    by_cases hlt : k < 8
    · have hki : (k : Int) < 8 := by omega
      have hx : w3.cell? ⟨g4, o4 + k, none⟩ = some (.int .i64 0) := by
        rw [HC4.out k (by omega), ic, zs, List.map_replicate, List.getElem?_replicate, if_pos hlt]
      go_wp2_with fail
      refine (iBetween 0 0 65535 w3).mono ?_
      rintro e w' ⟨rfl, rfl⟩
      try dsimp only
      go_wp2_with fail
      exact ⟨⟨k + 1, by omega, by go_num, by trivial⟩, by simp [intOf]; omega⟩
    · obtain rfl : k = 8 := by omega
      clear hlt hk
      rw [show ((8 : Nat) : Int) = 8 from rfl]
      have hc := HO4.out.p1.cells
      go_wp2_with fail
      refine (iBetween 2 1 3 w3).mono ?_
      rintro e w' ⟨rfl, rfl⟩
      try dsimp only
      go_wp2_with fail
      refine (iBetween 1 0 65535 w3).mono ?_
      rintro e w' ⟨rfl, rfl⟩
      try dsimp only
      go_wp2_with fail
      refine (iBetween 0 0 20736 w3).mono ?_
      rintro e w' ⟨rfl, rfl⟩
      try dsimp only
      go_wp2_with fail
      go_ret
      exact ⟨rfl, HO4.out.p1.drop.drop, HK4.out⟩
end Go.Proofs.Ytbggnbahmdgbdaa
