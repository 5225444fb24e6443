/- TEXTS of mine, merged. -/
import Derived.Test.YtbggnbahmdgbdaaM3
/- THE WALKS of inode's parts: between, fix, May of a free inode and of the root. -/
namespace Go.Sl
open Go
/-- so many bytes of a number, the highest first. -/
def fixL (n : Int) : Nat → List Int
  | 0 => []
  | k + 1 => n / 2 ^ (8 * k) % 256 :: fixL n k
theorem fixL_len (n : Int) : ∀ k, (fixL n k).length = k
  | 0 => rfl
  | k + 1 => by simp [fixL, fixL_len n k]
end Go.Sl
namespace Go.Proofs.Ytbggnbahmdgbdaa
open Go.RowKit Go.Own Go.Sl
theorem iBetween (x lo hi : Int) (w : World) : Calls Try.prog 73 #[.int .i64 x, .int .i64 lo, .int .i64 hi] w fun e w' => e = .returned (.bool (decide (lo ≤ x) && decide (x ≤ hi))) ∧ w = w' := by
  go_enter Try.func73, Try.ntmps73
  by_cases h : lo ≤ x
  · by_cases h2 : x ≤ hi
    · go_wp2
      go_ret
      exact ⟨by simp [h, h2], rfl⟩
    · go_wp2
      go_ret
      exact ⟨by simp [h, h2], rfl⟩
  · have e : decide (lo ≤ x) = false := decide_eq_false h
    rw [e]
    go_wp2
    go_ret
    exact ⟨rfl, rfl⟩
theorem _root_.Go.Own.Has.rdAt {w : World} {L : List HP} {b o n c : Nat} {C : Array Value} {T : TypeId} {z : Nat × Nat} {xs : List Value} (h : Has w (pt b (.cells C T z) :: L)) (hn : n ≤ c) (hm : n ≤ 1000000) (hl : xs.length = n) (hx : ∀ j, j < n → C[o + j]? = xs[j]?) : Rd w (.slice (some ⟨b, o, none⟩) n c) 1 n xs :=
  ⟨by omega, le_maxLen (by omega), _, c, rfl, hn, fun _ => ⟨b, o, rfl, fun j hj => by rw [h.cells]; exact hx j (by omega)⟩⟩
def z6 : Value := .agg #[.int .i64 0, .int .i64 0, .int .i64 0, .int .i64 0, .int .i64 0, .int .i64 0]
theorem eq6 (w : World) : (Op.equalIn 9999 63 z6 z6).run Try.prog w = .ok true w := by kernel_rfl
def ino (k l : Int) : Value := .agg #[.int .i64 k, .int .i64 l, .int .i64 0, .int .i64 0, .int .i64 0, .int .i64 0, .int .i64 0, .int .i64 0, .int .i64 0, .int .i64 0, .int .i64 0]
def icell (k l : Int) : Array Value := #[.int .i64 k, .int .i64 l, .int .i64 0, .int .i64 0, .int .i64 0, .int .i64 0, .int .i64 0, .int .i64 0, .int .i64 0, .int .i64 0, .int .i64 0]
set_option maxRecDepth 100000 in
set_option maxHeartbeats 4000000 in
theorem iMay0 (w : World) (L : List HP) (hO : Has w L) : Calls Try.prog 61 #[ino 0 0] w fun e w' => e = .returned (.bool true) ∧ Has w' L ∧ Keep w w' := by
  have HO := hid (hO.alloc (.cells (icell 0 0) 65))
  have HK := hid ((Keep.refl w).alloc (.cells (icell 0 0) 65))
  have hc := (hO.alloc (.cells (icell 0 0) 65)).cells
  clear hO
  unfold ino icell at *
  have hq : ∀ w, (Op.equalIn 9999 63 (.agg #[.int .i64 0, .int .i64 0, .int .i64 0, .int .i64 0, .int .i64 0, .int .i64 0]) (.agg #[.int .i64 0, .int .i64 0, .int .i64 0, .int .i64 0, .int .i64 0, .int .i64 0])).run Try.prog w = .ok true w := eq6
  go_enter Try.func61, Try.ntmps61
  go_wp2_with fail
  go_ret
  exact ⟨rfl, HO.out.drop, HK.out⟩
set_option maxRecDepth 100000 in
set_option maxHeartbeats 4000000 in
theorem iMay1 (w : World) (L : List HP) (hO : Has w L) : Calls Try.prog 61 #[ino 2 1] w fun e w' => e = .returned (.bool true) ∧ Has w' L ∧ Keep w w' := by
  have H0 := hid hO
  have HO := hid (hO.alloc (.cells (icell 2 1) 65))
  have HK := hid ((Keep.refl w).alloc (.cells (icell 2 1) 65))
  have hc := (hO.alloc (.cells (icell 2 1) 65)).cells
  clear hO
  unfold ino icell at *
  go_enter Try.func61, Try.ntmps61
  go_wp2_with fail
  have HO0 := hid HO.out.drew
  have HK0 := hid HK.out.drew
  have hc := HO0.out.cells
  refine region_text (fun w' => w'.cell? ⟨w.heap.size, 9, none⟩ = some (.int .i64 0) ∧ w'.cell? ⟨w.heap.size, 10, none⟩ = some (.int .i64 0)) (by kernel_rfl) (by kernel_rfl) ⟨HO0.out.cells 9, HO0.out.cells 10⟩ ?_
  clear HO HK hc
  generalize (w.alloc (.cells #[.int .i64 2, .int .i64 1, .int .i64 0, .int .i64 0, .int .i64 0, .int .i64 0, .int .i64 0, .int .i64 0, .int .i64 0, .int .i64 0, .int .i64 0] 65)).drew = w0 at *
  generalize w.heap.size = g at *
  repeat (first
    | (refine wpL_read (by rfl) (by rfl) ?_ ?_ ?_; rotate_left; (rintro w ⟨z0, z1⟩; go_simp; with_reducible rfl); simp only [Act.put, List.setIfInBounds_toArray, List.set_cons_zero, List.set_cons_succ]) | (refine wpL_skip (by rfl) ?_; simp only [Act.put, List.setIfInBounds_toArray, List.set_cons_zero, List.set_cons_succ]))
  have HO1 := hid (HO0.out.alloc (.cells #[.int .i64 0, .int .i64 0] 3))
  have HK1 := hid (HK0.out.alloc (.cells #[.int .i64 0, .int .i64 0] 3))
  refine wpL_act (by rfl) (by rfl) (fun K hK => ?_)
  go_simp
  refine hK.out _ _ ⟨HO1.out.p1.cells 9, HO1.out.p1.cells 10⟩ ?_
  clear hK K HO0 HK0
  try simp only [Act.put, List.setIfInBounds_toArray, List.set_cons_zero, List.set_cons_succ]
  generalize w0.alloc (.cells #[.int .i64 0, .int .i64 0] 3) = w1 at *
  generalize w0.heap.size = g1 at *
  have HO2 := hid (HO1.out.alloc (.cells #[.slice (some ⟨g, 3, none⟩) 6 6, .slice (some ⟨g1, 0, none⟩) 2 2] 30))
  have HK2 := hid (HK1.out.alloc (.cells #[.slice (some ⟨g, 3, none⟩) 6 6, .slice (some ⟨g1, 0, none⟩) 2 2] 30))
  refine wpL_act (by rfl) (by rfl) (fun K hK => ?_)
  go_simp
  refine hK.out _ _ ⟨HO2.out.p2.cells 9, HO2.out.p2.cells 10⟩ ?_
  clear hK K
  try simp only [Act.put, List.setIfInBounds_toArray, List.set_cons_zero, List.set_cons_succ]
  generalize w1.alloc (.cells #[.slice (some ⟨g, 3, none⟩) 6 6, .slice (some ⟨g1, 0, none⟩) 2 2] 30) = w2 at *
  generalize w1.heap.size = q2 at *
  clear HO1 HK1
  have g6 : ∀ j, j < (zs 6).length → (#[.int .i64 2, .int .i64 1, .int .i64 0, .int .i64 0, .int .i64 0, .int .i64 0, .int .i64 0, .int .i64 0, .int .i64 0, .int .i64 0, .int .i64 0] : Array Value)[3 + j]? = (ic (zs 6))[j]? := fun j hj => by
    have : j = 0 ∨ j = 1 ∨ j = 2 ∨ j = 3 ∨ j = 4 ∨ j = 5 := by simp [zs] at hj; omega
    rcases this with rfl | rfl | rfl | rfl | rfl | rfl <;> rfl
  have g2 : ∀ j, j < (zs 2).length → (#[.int .i64 0, .int .i64 0] : Array Value)[0 + j]? = (ic (zs 2))[j]? := fun j hj => by
    have : j = 0 ∨ j = 1 := by simp [zs] at hj; omega
    rcases this with rfl | rfl <;> rfl
  have HC := hid (concat2 q2 _ _ (zs 6) (zs 2) w2 _ HO2.out (fun w' h => Has.rdAt (c := 6) h.p1 (by decide) (by decide) (by rfl) g6) (fun w' h => Has.rdAt (c := 2) h (by decide) (by decide) (by rfl) g2) (by decide) (by decide))
  clear g6 g2
  refine wpL_act (by rfl) (by rfl) (fun K hK => ?_)
  go_simp
  refine (HC.out).mono ?_
  rintro e w3 ⟨v3, rfl, hO3, hK3⟩
  have HO3 := hid hO3
  have HK3 := hid ((HK2.out).trans hK3)
  clear hO3 hK3
  try dsimp only
  refine hK.out _ _ (⟨HO3.out.p3.cells 9, HO3.out.p3.cells 10⟩) ?_
  clear hK K
  try simp only [Act.put, List.setIfInBounds_toArray, List.set_cons_zero, List.set_cons_succ]
  clear HC HO2 HK2
  have HO4 := hid (show Has w3 (row v3 3 1 8 (ic (zs 8)) :: pt g (.cells #[.int .i64 2, .int .i64 1, .int .i64 0, .int .i64 0, .int .i64 0, .int .i64 0, .int .i64 0, .int .i64 0, .int .i64 0, .int .i64 0, .int .i64 0] 65) :: L) from (HO3.out.re 4 [0, 3]))
  have HK4 := HK3
  obtain ⟨p4, c4, rfl, -, -, hcs⟩ := HO4.out.rd.form
  obtain ⟨g4, o4, rfl, hc4⟩ := hcs (by decide)
  have HC4 := hid hc4
  clear hcs hc4
  repeat (first
    | (refine wpL_read (by rfl) (by rfl) ?_ ?_ ?_; rotate_left; (rintro w ⟨z0, z1⟩; go_simp; with_reducible rfl); simp only [Act.put, List.setIfInBounds_toArray, List.set_cons_zero, List.set_cons_succ]) | (refine wpL_skip (by rfl) ?_; simp only [Act.put, List.setIfInBounds_toArray, List.set_cons_zero, List.set_cons_succ]))
  refine wpL_nil ?_
  go_wp2_with fail
  go_loopw [18] (fun i w' => ∃ k : Nat, k ≤ 8 ∧ i = .int .i64 k ∧ w3 = w') (fun i _ => 8 - (intOf i).toNat)
  case atStart => exact ⟨0, by omega, rfl, rfl⟩
  case round =>
    obtain ⟨k, hk, rfl, rfl⟩ := hrel
    by_cases hlt : k < 8
    · have hki : (k : Int) < 8 := by omega
      have hx : w3.cell? ⟨g4, o4 + k, none⟩ = some (.int .i64 0) := by
        rw [HC4.out k (by omega), ic, zs, List.map_replicate, List.getElem?_replicate, if_pos hlt]
      go_wp2_with fail
      refine (iBetween 0 0 65535 w3).mono ?_
      rintro e w' ⟨rfl, rfl⟩
      try dsimp only
      go_wp2_with fail
      exact ⟨⟨k + 1, by omega, by go_num, by trivial⟩, by simp [intOf]; omega⟩
    · obtain rfl : k = 8 := by omega
      clear hlt hk
      rw [show ((8 : Nat) : Int) = 8 from rfl]
      have hc := HO4.out.p1.cells
      go_wp2_with fail
      refine (iBetween 2 1 3 w3).mono ?_
      rintro e w' ⟨rfl, rfl⟩
      try dsimp only
      go_wp2_with fail
      refine (iBetween 1 0 65535 w3).mono ?_
      rintro e w' ⟨rfl, rfl⟩
      try dsimp only
      go_wp2_with fail
      refine (iBetween 0 0 20736 w3).mono ?_
      rintro e w' ⟨rfl, rfl⟩
      try dsimp only
      go_wp2_with fail
      go_ret
      exact ⟨rfl, HO4.out.p1.drop.drop, HK4.out⟩
end Go.Proofs.Ytbggnbahmdgbdaa
/- THE WALKS of inode's fix and laid. -/
namespace Go.Proofs.Ytbggnbahmdgbdaa
open Go.RowKit Go.Own Go.Sl
theorem infoU8z : (Try.prog.info? 5).map (fun i => (i.zero, i.size, i.bytes)) = some (some (.int .u8 0), 1, 1) := by kernel_rfl
set_option maxRecDepth 100000 in
set_option maxHeartbeats 8000000 in
/-- fix behind a row of bytes. -/
theorem iFix (v : Value) (b : List Int) (n : Int) (m : Nat) (w : World) (L : List HP) (hO : Has w (Bytes v b :: L)) (hb : b.length ≤ 1000) (hm : m ≤ 4) :
    Calls Try.prog 74 #[v, .int .i64 n, .int .i64 m] w fun e w' => ∃ v', e = .returned v' ∧ Has w' (Bytes v' (b ++ fixL n m) :: L) ∧ Keep w w' := by
  have HO := hid hO
  have HB := hid hb
  have HM := hid hm
  clear hO hb
  go_enter Try.func74, Try.ntmps74
  go_wp2_with fail
  go_loopw [0, 7] (fun s i w' => ∃ k : Nat, ∃ b' : List Int, k ≤ m ∧ i = .int .i64 ((k : Int) - 1) ∧ Hid (Has w' (Bytes s b' :: L)) ∧ Hid (Keep w w') ∧ Hid (b' ++ fixL n k = b ++ fixL n m) ∧ Hid (b'.length ≤ 1010)) (fun _ i _ => (intOf i + 1).toNat)
  case atStart => exact ⟨m, b, Nat.le_refl _, rfl, HO, hid (Keep.refl w), hid rfl, hid (by have := HB.out; omega)⟩
  case round =>
    clear HO
    obtain ⟨k, b', hk, rfl, HO, HK, HE, HL⟩ := hrel
    obtain ⟨p0, c0, rfl, -⟩ := (Bytes.rd HO.out).form
    rcases k with _ | k
    · clear hk hm
      rw [show (((0 : Nat) : Int) - 1) = -1 from rfl]
      go_wp2_with fail
      go_ret
      refine ⟨_, rfl, ?_, HK.out⟩
      rw [← HE.out]
      simpa [fixL] using HO.out
    · rcases k with _ | _ | _ | _ | k
      · have HKM := hid hk
        clear hk hm
        rw [show (((1 : Nat) : Int) - 1) = 0 from rfl]
        have HA := hid (HO.out.alloc (.cells #[.int .u8 (n % 256)] 5))
        go_wp2_with (at_builtin; refine wpList_append1 rfl _ _ _ rfl Try.underlying35 infoU8z rfl (.int .u8 (n % 256)) HA.out.drop rfl 1 _ rfl (by simp [HA.out.cells 0]) rfl (le_maxLen (by have := HL.out; omega)) (by have := HL.out; omega) ?_)
        intro v5 w5 h5 hk5
        have HO5 := hid (show Has w5 (Bytes v5 (b' ++ [n % 256]) :: L) from by
          unfold Bytes
          rw [List.length_append, show bc (b' ++ [n % 256]) = bc b' ++ [.int .u8 (n % 256)] by simp [bc]]
          exact h5)
        have HK5 := hid ((HK.out.alloc (.cells #[.int .u8 (n % 256)] 5)).trans hk5)
        have HE5 := hid (show (b' ++ [n % 256]) ++ fixL n 0 = b ++ fixL n m from by rw [← HE.out, List.append_assoc]; congr 1 <;> simp [fixL])
        have HL5 := hid (show (b' ++ [n % 256]).length ≤ 1010 from by
          have h1 := HB.out
          have h2 := congrArg List.length HE5.out
          simp only [List.length_append, fixL_len, List.length_cons, List.length_nil] at h2 ⊢
          have := HM.out
          omega)
        clear h5 hk5 HA HO HK HE HL
        go_wp2_with fail
        exact ⟨⟨0, _, by have := HKM.out; omega, rfl, HO5, HK5, HE5, HL5⟩, by simp [intOf]⟩
      · have HKM := hid hk
        clear hk hm
        rw [show (((2 : Nat) : Int) - 1) = 1 from rfl]
        have HA := hid (HO.out.alloc (.cells #[.int .u8 (n / 256 % 256)] 5))
        go_wp2_with (at_builtin; refine wpList_append1 rfl _ _ _ rfl Try.underlying35 infoU8z rfl (.int .u8 (n / 256 % 256)) HA.out.drop rfl 1 _ rfl (by simp [HA.out.cells 0]) rfl (le_maxLen (by have := HL.out; omega)) (by have := HL.out; omega) ?_)
        intro v5 w5 h5 hk5
        have HO5 := hid (show Has w5 (Bytes v5 (b' ++ [n / 256 % 256]) :: L) from by
          unfold Bytes
          rw [List.length_append, show bc (b' ++ [n / 256 % 256]) = bc b' ++ [.int .u8 (n / 256 % 256)] by simp [bc]]
          exact h5)
        have HK5 := hid ((HK.out.alloc (.cells #[.int .u8 (n / 256 % 256)] 5)).trans hk5)
        have HE5 := hid (show (b' ++ [n / 256 % 256]) ++ fixL n 1 = b ++ fixL n m from by rw [← HE.out, List.append_assoc]; congr 1 <;> simp [fixL])
        have HL5 := hid (show (b' ++ [n / 256 % 256]).length ≤ 1010 from by
          have h1 := HB.out
          have h2 := congrArg List.length HE5.out
          simp only [List.length_append, fixL_len, List.length_cons, List.length_nil] at h2 ⊢
          have := HM.out
          omega)
        clear h5 hk5 HA HO HK HE HL
        go_wp2_with fail
        exact ⟨⟨1, _, by have := HKM.out; omega, rfl, HO5, HK5, HE5, HL5⟩, by simp [intOf]⟩
      · have HKM := hid hk
        clear hk hm
        rw [show (((3 : Nat) : Int) - 1) = 2 from rfl]
        have HA := hid (HO.out.alloc (.cells #[.int .u8 (n / 65536 % 256)] 5))
        go_wp2_with (at_builtin; refine wpList_append1 rfl _ _ _ rfl Try.underlying35 infoU8z rfl (.int .u8 (n / 65536 % 256)) HA.out.drop rfl 1 _ rfl (by simp [HA.out.cells 0]) rfl (le_maxLen (by have := HL.out; omega)) (by have := HL.out; omega) ?_)
        intro v5 w5 h5 hk5
        have HO5 := hid (show Has w5 (Bytes v5 (b' ++ [n / 65536 % 256]) :: L) from by
          unfold Bytes
          rw [List.length_append, show bc (b' ++ [n / 65536 % 256]) = bc b' ++ [.int .u8 (n / 65536 % 256)] by simp [bc]]
          exact h5)
        have HK5 := hid ((HK.out.alloc (.cells #[.int .u8 (n / 65536 % 256)] 5)).trans hk5)
        have HE5 := hid (show (b' ++ [n / 65536 % 256]) ++ fixL n 2 = b ++ fixL n m from by rw [← HE.out, List.append_assoc]; congr 1 <;> simp [fixL])
        have HL5 := hid (show (b' ++ [n / 65536 % 256]).length ≤ 1010 from by
          have h1 := HB.out
          have h2 := congrArg List.length HE5.out
          simp only [List.length_append, fixL_len, List.length_cons, List.length_nil] at h2 ⊢
          have := HM.out
          omega)
        clear h5 hk5 HA HO HK HE HL
        go_wp2_with fail
        exact ⟨⟨2, _, by have := HKM.out; omega, rfl, HO5, HK5, HE5, HL5⟩, by simp [intOf]⟩
      · have HKM := hid hk
        clear hk hm
        rw [show (((4 : Nat) : Int) - 1) = 3 from rfl]
        have HA := hid (HO.out.alloc (.cells #[.int .u8 (n / 16777216 % 256)] 5))
        go_wp2_with (at_builtin; refine wpList_append1 rfl _ _ _ rfl Try.underlying35 infoU8z rfl (.int .u8 (n / 16777216 % 256)) HA.out.drop rfl 1 _ rfl (by simp [HA.out.cells 0]) rfl (le_maxLen (by have := HL.out; omega)) (by have := HL.out; omega) ?_)
        intro v5 w5 h5 hk5
        have HO5 := hid (show Has w5 (Bytes v5 (b' ++ [n / 16777216 % 256]) :: L) from by
          unfold Bytes
          rw [List.length_append, show bc (b' ++ [n / 16777216 % 256]) = bc b' ++ [.int .u8 (n / 16777216 % 256)] by simp [bc]]
          exact h5)
        have HK5 := hid ((HK.out.alloc (.cells #[.int .u8 (n / 16777216 % 256)] 5)).trans hk5)
        have HE5 := hid (show (b' ++ [n / 16777216 % 256]) ++ fixL n 3 = b ++ fixL n m from by rw [← HE.out, List.append_assoc]; congr 1 <;> simp [fixL])
        have HL5 := hid (show (b' ++ [n / 16777216 % 256]).length ≤ 1010 from by
          have h1 := HB.out
          have h2 := congrArg List.length HE5.out
          simp only [List.length_append, fixL_len, List.length_cons, List.length_nil] at h2 ⊢
          have := HM.out
          omega)
        clear h5 hk5 HA HO HK HE HL
        go_wp2_with fail
        exact ⟨⟨3, _, by have := HKM.out; omega, rfl, HO5, HK5, HE5, HL5⟩, by simp [intOf]⟩
      · omega
set_option maxRecDepth 100000 in
theorem idx6 (j : Nat) (h : j < 6) (w : World) : (Instr.index 63 (.agg #[.int .i64 0, .int .i64 0, .int .i64 0, .int .i64 0, .int .i64 0, .int .i64 0]) (.int .i64 (j : Int))).run Try.prog w = .ok (.int .i64 0) w := by
  have : j = 0 ∨ j = 1 ∨ j = 2 ∨ j = 3 ∨ j = 4 ∨ j = 5 := by omega
  rcases this with rfl | rfl | rfl | rfl | rfl | rfl <;> rfl
theorem fix0_2 : fixL 0 2 = zs 2 := by decide
theorem zs_app (a b : Nat) : zs a ++ zs b = zs (a + b) := List.replicate_append_replicate
def inoB (k l : Int) : List Int := fixL k 1 ++ fixL l 2 ++ zs 20
set_option maxRecDepth 100000 in
set_option maxHeartbeats 8000000 in
theorem iLaid (k l : Int) (w : World) (L : List HP) (hO : Has w L) :
    Calls Try.prog 62 #[ino k l] w fun e w' => ∃ v', e = .returned v' ∧ Has w' (Bytes v' (inoB k l) :: L) ∧ Keep w w' := by
  have HO := hid (hO.alloc (.cells (icell k l) 65))
  have HK := hid ((Keep.refl w).alloc (.cells (icell k l) 65))
  have hc := (hO.alloc (.cells (icell k l) 65)).cells
  clear hO
  unfold ino icell at *
  go_enter Try.func62, Try.ntmps62
  go_wp2_with fail
  generalize w.heap.size = g at *
  refine region_text (fun w' => w'.cell? ⟨g, 0, none⟩ = some (.int .i64 k) ∧ w'.cell? ⟨g, 1, none⟩ = some (.int .i64 l) ∧ w'.cell? ⟨g, 2, none⟩ = some (.int .i64 0)) (by kernel_rfl) (by kernel_rfl) ⟨HO.out.drew.cells 0, HO.out.drew.cells 1, HO.out.drew.cells 2⟩ ?_
  clear hc
  repeat (first
    | (refine wpL_read (by rfl) (by rfl) ?_ ?_ ?_; rotate_left; (rintro w ⟨z0, z1, z2⟩; go_simp; with_reducible rfl); simp only [Act.put, List.setIfInBounds_toArray, List.set_cons_zero, List.set_cons_succ]) | (refine wpL_skip (by rfl) ?_; simp only [Act.put, List.setIfInBounds_toArray, List.set_cons_zero, List.set_cons_succ]))
  refine wpL_act (by rfl) (by rfl) (fun K hK => ?_)
  go_simp
  refine (iFix (.slice none 0 0) [] k 1 _ _ (HO.out.drew.row_nil 5 1) (by decide) (by decide)).mono ?_
  rintro e w2 ⟨v2, rfl, hO2, hK2⟩
  have HO2 := hid hO2
  have HK2 := hid ((HK.out.drew).trans hK2)
  clear hO2 hK2
  try dsimp only
  refine hK.out _ _ (⟨HO2.out.p1.cells 0, HO2.out.p1.cells 1, HO2.out.p1.cells 2⟩) ?_
  clear hK K
  try simp only [Act.put, List.setIfInBounds_toArray, List.set_cons_zero, List.set_cons_succ]
  repeat (first
    | (refine wpL_read (by rfl) (by rfl) ?_ ?_ ?_; rotate_left; (rintro w ⟨z0, z1, z2⟩; go_simp; with_reducible rfl); simp only [Act.put, List.setIfInBounds_toArray, List.set_cons_zero, List.set_cons_succ]) | (refine wpL_skip (by rfl) ?_; simp only [Act.put, List.setIfInBounds_toArray, List.set_cons_zero, List.set_cons_succ]))
  refine wpL_act (by rfl) (by rfl) (fun K hK => ?_)
  go_simp
  refine (iFix v2 _ l 2 _ _ HO2.out (by simp [fixL_len]) (by decide)).mono ?_
  rintro e w3 ⟨v3, rfl, hO3, hK3⟩
  have HO3 := hid hO3
  have HK3 := hid ((HK2.out).trans hK3)
  clear hO3 hK3
  try dsimp only
  refine hK.out _ _ (⟨HO3.out.p1.cells 0, HO3.out.p1.cells 1, HO3.out.p1.cells 2⟩) ?_
  clear hK K
  try simp only [Act.put, List.setIfInBounds_toArray, List.set_cons_zero, List.set_cons_succ]
  repeat (first
    | (refine wpL_read (by rfl) (by rfl) ?_ ?_ ?_; rotate_left; (rintro w ⟨z0, z1, z2⟩; go_simp; with_reducible rfl); simp only [Act.put, List.setIfInBounds_toArray, List.set_cons_zero, List.set_cons_succ]) | (refine wpL_skip (by rfl) ?_; simp only [Act.put, List.setIfInBounds_toArray, List.set_cons_zero, List.set_cons_succ]))
  refine wpL_act (by rfl) (by rfl) (fun K hK => ?_)
  go_simp
  refine (iFix v3 _ 0 4 _ _ HO3.out (by simp [fixL_len]) (by decide)).mono ?_
  rintro e w4 ⟨v4, rfl, hO4, hK4⟩
  have HO4 := hid hO4
  have HK4 := hid ((HK3.out).trans hK4)
  clear hO4 hK4
  try dsimp only
  refine hK.out _ _ (⟨HO4.out.p1.cells 0, HO4.out.p1.cells 1, HO4.out.p1.cells 2⟩) ?_
  clear hK K
  try simp only [Act.put, List.setIfInBounds_toArray, List.set_cons_zero, List.set_cons_succ]
  repeat (first
    | (refine wpL_read (by rfl) (by rfl) ?_ ?_ ?_; rotate_left; (rintro w ⟨z0, z1, z2⟩; go_simp; with_reducible rfl); simp only [Act.put, List.setIfInBounds_toArray, List.set_cons_zero, List.set_cons_succ]) | (refine wpL_skip (by rfl) ?_; simp only [Act.put, List.setIfInBounds_toArray, List.set_cons_zero, List.set_cons_succ]))
  refine wpL_nil ?_
  have hc := HO4.out.p1.cells
  clear HO HK HO2 HK2 HO3 HK3
  go_wp2_with fail
  clear hc
  go_loopw [3, 17] (fun s i w' => ∃ j : Nat, j ≤ 6 ∧ i = .int .i64 j ∧ Hid (Has w' (Bytes s (fixL k 1 ++ fixL l 2 ++ zs (4 + 2 * j)) :: pt g (.cells #[.int .i64 k, .int .i64 l, .int .i64 0, .int .i64 0, .int .i64 0, .int .i64 0, .int .i64 0, .int .i64 0, .int .i64 0, .int .i64 0, .int .i64 0] 65) :: L)) ∧ Hid (Keep w w')) (fun _ i _ => 6 - (intOf i).toNat)
  case atStart => exact ⟨0, by omega, rfl, HO4, HK4⟩
  case round =>
    clear HO4 HK4
    obtain ⟨j, hj, rfl, HO, HK⟩ := hrel
    by_cases hlt : j < 6
    · have hji : (j : Int) < 6 := by omega
      have hq := idx6 j hlt
      have HC := hid (iFix u3 _ 0 2 wr _ HO.out (by simp [fixL_len, zs]; omega) (by decide))
      go_wp2_with fail
      refine (HC.out).mono ?_
      rintro e w5 ⟨v5, rfl, hO5, hK5⟩
      have HO5 := hid hO5
      have HK5 := hid ((HK.out).trans hK5)
      clear hO5 hK5
      try dsimp only
      have HO6 := hid (show Has w5 (Bytes v5 (fixL k 1 ++ fixL l 2 ++ zs (4 + 2 * (j + 1))) :: pt g (.cells #[.int .i64 k, .int .i64 l, .int .i64 0, .int .i64 0, .int .i64 0, .int .i64 0, .int .i64 0, .int .i64 0, .int .i64 0, .int .i64 0, .int .i64 0] 65) :: L) from by
        have h := HO5.out
        rwa [fix0_2, List.append_assoc _ _ (zs 2), zs_app] at h)
      clear HC HO5
      go_wp2_with fail
      exact ⟨⟨j + 1, by omega, by go_num, HO6, HK5⟩, by simp [intOf]; omega⟩
    · obtain rfl : j = 6 := by omega
      clear hlt hj
      rw [show ((6 : Nat) : Int) = 6 from rfl]
      have HO0 := hid HO.out.p1
      have HK0 := hid HK.out
      clear HO HK
      have hc := HO0.out.cells
      go_wp2_with fail
      clear hc
      refine region_text (fun w' => w'.cell? ⟨g, 9, none⟩ = some (.int .i64 0) ∧ w'.cell? ⟨g, 10, none⟩ = some (.int .i64 0)) (by kernel_rfl) (by kernel_rfl) ⟨HO0.out.drew.cells 9, HO0.out.drew.cells 10⟩ ?_
      repeat (first
        | (refine wpL_read (by rfl) (by rfl) ?_ ?_ ?_; rotate_left; (rintro w ⟨z0, z1⟩; go_simp; with_reducible rfl); simp only [Act.put, List.setIfInBounds_toArray, List.set_cons_zero, List.set_cons_succ]) | (refine wpL_skip (by rfl) ?_; simp only [Act.put, List.setIfInBounds_toArray, List.set_cons_zero, List.set_cons_succ]))
      refine wpL_act (by rfl) (by rfl) (fun K hK => ?_)
      go_simp
      refine (iFix u3 _ 0 2 _ _ HO0.out.drew.p1 (by simp [fixL_len, zs]) (by decide)).mono ?_
      rintro e w6 ⟨v6, rfl, hO6, hK6⟩
      have HO6 := hid hO6
      have HK6 := hid ((HK0.out.drew).trans hK6)
      clear hO6 hK6
      try dsimp only
      refine hK.out _ _ (⟨HO6.out.p1.cells 9, HO6.out.p1.cells 10⟩) ?_
      clear hK K
      try simp only [Act.put, List.setIfInBounds_toArray, List.set_cons_zero, List.set_cons_succ]
      repeat (first
        | (refine wpL_read (by rfl) (by rfl) ?_ ?_ ?_; rotate_left; (rintro w ⟨z0, z1⟩; go_simp; with_reducible rfl); simp only [Act.put, List.setIfInBounds_toArray, List.set_cons_zero, List.set_cons_succ]) | (refine wpL_skip (by rfl) ?_; simp only [Act.put, List.setIfInBounds_toArray, List.set_cons_zero, List.set_cons_succ]))
      refine wpL_act (by rfl) (by rfl) (fun K hK => ?_)
      go_simp
      refine (iFix v6 _ 0 2 _ _ HO6.out (by simp [fixL_len, zs]) (by decide)).mono ?_
      rintro e w7 ⟨v7, rfl, hO7, hK7⟩
      have HO7 := hid hO7
      have HK7 := hid ((HK6.out).trans hK7)
      clear hO7 hK7
      try dsimp only
      refine hK.out _ _ (⟨HO7.out.p1.cells 9, HO7.out.p1.cells 10⟩) ?_
      clear hK K
      try simp only [Act.put, List.setIfInBounds_toArray, List.set_cons_zero, List.set_cons_succ]
      repeat (first
        | (refine wpL_read (by rfl) (by rfl) ?_ ?_ ?_; rotate_left; (rintro w ⟨z0, z1⟩; go_simp; with_reducible rfl); simp only [Act.put, List.setIfInBounds_toArray, List.set_cons_zero, List.set_cons_succ]) | (refine wpL_skip (by rfl) ?_; simp only [Act.put, List.setIfInBounds_toArray, List.set_cons_zero, List.set_cons_succ]))
      refine wpL_nil ?_
      go_wp2_with fail
      go_ret
      refine ⟨v7, rfl, ?_, HK7.out⟩
      have h := HO7.out.p1.drop
      rwa [fix0_2, List.append_assoc _ (zs 2) (zs 2), zs_app, List.append_assoc _ (zs _) (zs 4), zs_app] at h
end Go.Proofs.Ytbggnbahmdgbdaa
/- THE WALK of inode.Lay, of four inodes of which the first may be the root. -/
namespace Go.Own
open Go.RowKit
theorem wpList_loadAll {P : Program} {ops : Array Oper} {rest : List Oper} {o : Oper} {a : Act} {Q : Exit → Act → World → Prop} {w : World} (hgd : o.guard = none) (t : TypeId) (x : Operand) (ho : o.op = .load t x) (v u : Value) (hx : a.eval x = v)
    (hl : (Instr.loadAt t v).run P w = .ok u w) (h : wpList P ops Q rest (a.put o.dst u) w) : wpList P ops Q (o :: rest) a w := by
  refine wpList_plain hgd fun K hK => ?_
  unfold Oper.wp execOp
  simp only [ho, Sem.run_bind, Sem.run_pure, Result.andThen_ok, hx, hl]
  exact hK _ _ h
end Go.Own
namespace Go.Proofs.Ytbggnbahmdgbdaa
open Go.RowKit Go.Own Go.Sl
/-- The flat fields of a sector's inodes: the root first, or none. -/
def ics (k l : Int) : Array Value := (Value.int .i64 k :: Value.int .i64 l :: List.replicate 42 (Value.int .i64 0)).toArray
theorem load44 (C : Array Value) (hs : C.size = 44) (g : Nat) (w : World) (h : ∀ i, w.cell? ⟨g, i, none⟩ = C[i]?) : (Instr.loadAt 66 (.pointer (some ⟨g, 0, none⟩))).run Try.prog w = .ok (.agg C) w := by
  have e := run_loadCells_list (P := Try.prog) w ⟨g, 0, none⟩ C.toList (fun j v hj => by rw [add_plain, Nat.zero_add, h j]; simpa using hj)
  simp only [Array.length_toList, hs, Array.toArray_toList] at e
  simp [Instr.loadAt, Instr.sureAddr, loadVar, e]
set_option maxRecDepth 100000 in
theorem index44 (k l : Int) (j : Nat) (hj : j < 4) (w : World) : (Instr.index 66 (.agg (ics k l)) (.int .i64 (j : Int))).run Try.prog w = .ok (if j = 0 then ino k l else ino 0 0) w := by
  have : j = 0 ∨ j = 1 ∨ j = 2 ∨ j = 3 := by omega
  have e : ∀ (n : Nat) (xs : List Value), ((ics k l).toList.drop n).take 11 = xs → (ics k l).extract n (n + 11) = xs.toArray := fun n xs h => by
    apply Array.toList_inj.1
    rw [Array.toList_extract, List.extract_eq_take_drop, Nat.add_sub_cancel_left, h]
  rcases this with rfl | rfl | rfl | rfl
  · have h := e 0 [.int .i64 k, .int .i64 l, .int .i64 0, .int .i64 0, .int .i64 0, .int .i64 0, .int .i64 0, .int .i64 0, .int .i64 0, .int .i64 0, .int .i64 0] rfl
    generalize ics k l = C at *
    simp [Instr.index, asIntOf, part] at h ⊢
    rw [h]
    rfl
  · have h := e 11 [.int .i64 0, .int .i64 0, .int .i64 0, .int .i64 0, .int .i64 0, .int .i64 0, .int .i64 0, .int .i64 0, .int .i64 0, .int .i64 0, .int .i64 0] rfl
    generalize ics k l = C at *
    simp [Instr.index, asIntOf, part] at h ⊢
    rw [h]
    rfl
  · have h := e 22 [.int .i64 0, .int .i64 0, .int .i64 0, .int .i64 0, .int .i64 0, .int .i64 0, .int .i64 0, .int .i64 0, .int .i64 0, .int .i64 0, .int .i64 0] rfl
    generalize ics k l = C at *
    simp [Instr.index, asIntOf, part] at h ⊢
    rw [h]
    rfl
  · have h := e 33 [.int .i64 0, .int .i64 0, .int .i64 0, .int .i64 0, .int .i64 0, .int .i64 0, .int .i64 0, .int .i64 0, .int .i64 0, .int .i64 0, .int .i64 0] rfl
    generalize ics k l = C at *
    simp [Instr.index, asIntOf, part] at h ⊢
    rw [h]
    rfl
def iwhich (k l : Int) (j : Nat) : Value := if j = 0 then ino k l else ino 0 0
/-- The inodes that are laid here: a free one, the root. -/
def InoOK (k l : Int) : Prop := (k = 0 ∧ l = 0) ∨ (k = 2 ∧ l = 1)
theorem iMayX (k l : Int) (h : InoOK k l) (w : World) (L : List HP) (hO : Has w L) : Calls Try.prog 61 #[ino k l] w fun e w' => e = .returned (.bool true) ∧ Has w' L ∧ Keep w w' := by
  rcases h with ⟨rfl, rfl⟩ | ⟨rfl, rfl⟩
  · exact iMay0 w L hO
  · exact iMay1 w L hO
def bodyB (k l : Int) (j : Nat) : List Int := if j = 0 then [] else inoB k l ++ zs (23 * (j - 1))
theorem inoB0 : inoB 0 0 = zs 23 := by decide
theorem bodyB_next (k l : Int) (hk : InoOK k l) (j : Nat) : ∃ k' l', iwhich k l j = ino k' l' ∧ InoOK k' l' ∧ bodyB k l j ++ inoB k' l' = bodyB k l (j + 1) := by
  rcases j with _ | j
  · exact ⟨k, l, rfl, hk, by simp [bodyB, zs]⟩
  · refine ⟨0, 0, rfl, .inl ⟨rfl, rfl⟩, ?_⟩
    rw [inoB0]
    simp only [bodyB, Nat.add_one_ne_zero, if_false, List.append_assoc, zs_app, Nat.add_sub_cancel]
    congr 2
theorem inoB_len (k l : Int) : (inoB k l).length = 23 := by simp [inoB, fixL_len, zs]
theorem bodyB_len (k l : Int) (j : Nat) : (bodyB k l j).length = 23 * j := by
  rcases j with _ | j
  · rfl
  · simp [bodyB, inoB_len, zs]; omega
theorem ics_size (k l : Int) : (ics k l).size = 44 := by simp [ics]
set_option maxRecDepth 100000 in
set_option maxHeartbeats 800000 in
theorem iLay (k l : Int) (hkl : InoOK k l) (w : World) (L : List HP) (hO : Has w L) :
    Calls Try.prog 38 #[.agg (ics k l)] w fun e w' => ∃ v', e = .returned (.tuple #[v', .int .i64 0]) ∧ Has w' (Bytes v' (sealL 73 (inoB k l ++ zs 69)) :: L) ∧ Keep w w' := by
  have HKL := hid hkl
  clear hkl
  have HIX : Hid (∀ (j : Nat) (w : World), j < 4 → (Instr.index 66 (.agg (ics k l)) (.int .i64 (j : Int))).run Try.prog w = .ok (iwhich k l j) w) := hid fun j w h => index44 k l j h w
  have HSZ := hid (ics_size k l)
  generalize ics k l = C at *
  have HO := hid (hO.alloc (.cells C 66))
  have HK := hid ((Keep.refl w).alloc (.cells C 66))
  clear hO
  go_enter Try.func38, Try.ntmps38
  go_wp2_with (with_reducible refine wpList_loadAll rfl 66 _ rfl (.pointer (some ⟨w.heap.size, 0, none⟩)) (.agg C) rfl (load44 C HSZ.out w.heap.size (w.alloc (.cells C 66)) HO.out.cells) ?_)
  have HO0 := hid (HO.out.drop.row_nil 5 1)
  clear HO
  go_loopw [4, 8] (fun s i w' => ∃ j : Nat, j ≤ 4 ∧ i = .int .i64 j ∧ Hid (Has w' (Bytes s (bodyB k l j) :: L)) ∧ Hid (Keep w w')) (fun _ i _ => 4 - (intOf i).toNat)
  case atStart => exact ⟨0, by omega, rfl, HO0, HK⟩
  case round =>
    clear HO0 HK
    obtain ⟨j, hj, rfl, HO, HK⟩ := hrel
    by_cases hlt : j < 4
    · have hji : (j : Int) < 4 := by omega
      obtain ⟨k', l', e1, e2, e3⟩ := bodyB_next k l HKL.out j
      have hq := fun w => HIX.out j w hlt
      rw [e1] at hq
      have HB := hid e3
      have HI := hid e2
      clear e1 e2 e3
      unfold ino at hq
      have HA := hid (HO.out.alloc (.cells (icell k' l') 65))
      have HKA := hid (HK.out.alloc (.cells (icell k' l') 65))
      clear HO HK
      go_wp2_with fail
      refine (iMayX k' l' HI.out _ _ HA.out).mono ?_
      rintro e w6 ⟨rfl, hO6, hK6⟩
      have HO6 := hid hO6
      have HK6 := hid ((HKA.out).trans hK6)
      clear hO6 hK6
      try dsimp only
      clear hq HA HKA
      have hc := HO6.out.cells
      generalize wr.heap.size = g at *
      unfold icell at hc
      go_wp2_with fail
      refine (iLaid k' l' _ _ HO6.out).mono ?_
      rintro e w7 ⟨v7, rfl, hO7, hK7⟩
      have HO7 := hid hO7
      have HK7 := hid ((HK6.out).trans hK7)
      clear hO7 hK7
      try dsimp only
      obtain ⟨p4, c4, rfl, -⟩ := (Bytes.rd HO7.out.p2).form
      obtain ⟨p7, c7, rfl, -⟩ := (Bytes.rd HO7.out).form
      go_wp2_with (at_builtin; refine wpList_appendA rfl _ _ _ rfl Try.underlying35 infoU8 rfl (by decide) HO7.out.p2 rfl _ (inoB k' l').length (bc (inoB k' l')) rfl (Bytes.rd HO7.out) (bc_one _) (le_maxLen (by rw [bodyB_len, inoB_len]; omega)) (by rw [bodyB_len, inoB_len]; omega) ?_)
      intro v8 w8 h8 hk8
      have HO8 := hid (show Has w8 (Bytes v8 (bodyB k l (j + 1)) :: L) from by
        have h := h8.re 3 [0]
        rw [← HB.out]
        unfold Bytes
        rw [List.length_append, show bc (bodyB k l j ++ inoB k' l') = bc (bodyB k l j) ++ bc (inoB k' l') by simp [bc]]
        exact h)
      have HK8 := hid (HK7.out.trans hk8)
      clear h8 hk8 HO7 HK7 HO6 HK6
      go_wp2_with fail
      exact ⟨⟨j + 1, by omega, by go_num, HO8, HK8⟩, by simp [intOf]; omega⟩
    · obtain rfl : j = 4 := by omega
      clear hlt hj
      rw [show ((4 : Nat) : Int) = 4 from rfl]
      go_wp2_with fail
      refine (sSeal 73 u4 (bodyB k l 4) wr _ (by decide) (by rw [bodyB_len]; decide) (fun w' h => Bytes.rd h) HO.out).mono ?_
      rintro e w5 ⟨v5, rfl, hO5, hK5⟩
      have HO5 := hid hO5
      have HK5 := hid ((HK.out).trans hK5)
      clear hO5 hK5
      try dsimp only
      go_wp2_with fail
      go_ret2
      exact ⟨v5, rfl, HO5.out.p1.drop, HK5.out⟩
end Go.Proofs.Ytbggnbahmdgbdaa
