/- THE WALKS of inode's fix and laid. -/
import Derived.Test.YtbggnbahmdgbdaaIno
namespace Go.Proofs.Ytbggnbahmdgbdaa
open Go.RowKit Go.Own Go.Sl
theorem infoU8z : (Try.prog.info? 5).map (fun i => (i.zero, i.size, i.bytes)) = some (some (.int .u8 0), 1, 1) := by kernel_rfl
set_option maxRecDepth 100000 in
set_option maxHeartbeats 8000000 in
/-- fix behind a row of bytes. -/
theorem iFix (v : Value) (b : List Int) (n : Int) (m : Nat) (w : World) (L : List HP) (hO : Has w (Bytes v b :: L)) (hb : b.length ≤ 1000) (hm : m ≤ 4) :
    Calls Try.prog 74 #[v, .int .i64 n, .int .i64 m] w fun e w' => ∃ v', e = .returned v' ∧ Has w' (Bytes v' (b ++ fixL n m) :: L) ∧ Keep w w' := by
  have HO := hid hO
  have HB := hid hb
  have HM := hid hm
  clear hO hb
  go_enter Try.func74, Try.ntmps74
  go_wp2_with fail
  go_loopw [0, 7] (fun s i w' => ∃ k : Nat, ∃ b' : List Int, k ≤ m ∧ i = .int .i64 ((k : Int) - 1) ∧ Hid (Has w' (Bytes s b' :: L)) ∧ Hid (Keep w w') ∧ Hid (b' ++ fixL n k = b ++ fixL n m) ∧ Hid (b'.length ≤ 1010)) (fun _ i _ => (intOf i + 1).toNat)
  case atStart => exact ⟨m, b, Nat.le_refl _, rfl, HO, hid (Keep.refl w), hid rfl, hid (by have := HB.out; omega)⟩
  case round =>
    clear HO
    obtain ⟨k, b', hk, rfl, HO, HK, HE, HL⟩ := hrel
    obtain ⟨p0, c0, rfl, -⟩ := (Bytes.rd HO.out).form
    rcases k with _ | k
    · clear hk hm
      rw [show (((0 : Nat) : Int) - 1) = -1 from rfl]
      go_wp2_with fail
      go_ret
      refine ⟨_, rfl, ?_, HK.out⟩
      rw [← HE.out]
      simpa [fixL] using HO.out
    · rcases k with _ | _ | _ | _ | k
      · have HKM := hid hk
        clear hk hm
        rw [show (((1 : Nat) : Int) - 1) = 0 from rfl]
        have HA := hid (HO.out.alloc (.cells #[.int .u8 (n % 256)] 5))
        go_wp2_with (at_builtin; refine wpList_append1 rfl _ _ _ rfl Try.underlying35 infoU8z rfl (.int .u8 (n % 256)) HA.out.drop rfl 1 _ rfl (by simp [HA.out.cells 0]) rfl (le_maxLen (by have := HL.out; omega)) (by have := HL.out; omega) ?_)
        intro v5 w5 h5 hk5
        have HO5 := hid (show Has w5 (Bytes v5 (b' ++ [n % 256]) :: L) from by
          unfold Bytes
          rw [List.length_append, show bc (b' ++ [n % 256]) = bc b' ++ [.int .u8 (n % 256)] by simp [bc]]
          exact h5)
        have HK5 := hid ((HK.out.alloc (.cells #[.int .u8 (n % 256)] 5)).trans hk5)
        have HE5 := hid (show (b' ++ [n % 256]) ++ fixL n 0 = b ++ fixL n m from by rw [← HE.out, List.append_assoc]; congr 1 <;> simp [fixL])
        have HL5 := hid (show (b' ++ [n % 256]).length ≤ 1010 from by
          have h1 := HB.out
          have h2 := congrArg List.length HE5.out
          simp only [List.length_append, fixL_len, List.length_cons, List.length_nil] at h2 ⊢
          have := HM.out
          omega)
        clear h5 hk5 HA HO HK HE HL
        go_wp2_with fail
        exact ⟨⟨0, _, by have := HKM.out; omega, rfl, HO5, HK5, HE5, HL5⟩, by simp [intOf]⟩
      · have HKM := hid hk
        clear hk hm
        rw [show (((2 : Nat) : Int) - 1) = 1 from rfl]
        have HA := hid (HO.out.alloc (.cells #[.int .u8 (n / 256 % 256)] 5))
        go_wp2_with (at_builtin; refine wpList_append1 rfl _ _ _ rfl Try.underlying35 infoU8z rfl (.int .u8 (n / 256 % 256)) HA.out.drop rfl 1 _ rfl (by simp [HA.out.cells 0]) rfl (le_maxLen (by have := HL.out; omega)) (by have := HL.out; omega) ?_)
        intro v5 w5 h5 hk5
        have HO5 := hid (show Has w5 (Bytes v5 (b' ++ [n / 256 % 256]) :: L) from by
          unfold Bytes
          rw [List.length_append, show bc (b' ++ [n / 256 % 256]) = bc b' ++ [.int .u8 (n / 256 % 256)] by simp [bc]]
          exact h5)
        have HK5 := hid ((HK.out.alloc (.cells #[.int .u8 (n / 256 % 256)] 5)).trans hk5)
        have HE5 := hid (show (b' ++ [n / 256 % 256]) ++ fixL n 1 = b ++ fixL n m from by rw [← HE.out, List.append_assoc]; congr 1 <;> simp [fixL])
        have HL5 := hid (show (b' ++ [n / 256 % 256]).length ≤ 1010 from by
          have h1 := HB.out
          have h2 := congrArg List.length HE5.out
          simp only [List.length_append, fixL_len, List.length_cons, List.length_nil] at h2 ⊢
          have := HM.out
          omega)
        clear h5 hk5 HA HO HK HE HL
        go_wp2_with fail
        exact ⟨⟨1, _, by have := HKM.out; omega, rfl, HO5, HK5, HE5, HL5⟩, by simp [intOf]⟩
      · have HKM := hid hk
        clear hk hm
        rw [show (((3 : Nat) : Int) - 1) = 2 from rfl]
        have HA := hid (HO.out.alloc (.cells #[.int .u8 (n / 65536 % 256)] 5))
        go_wp2_with (at_builtin; refine wpList_append1 rfl _ _ _ rfl Try.underlying35 infoU8z rfl (.int .u8 (n / 65536 % 256)) HA.out.drop rfl 1 _ rfl (by simp [HA.out.cells 0]) rfl (le_maxLen (by have := HL.out; omega)) (by have := HL.out; omega) ?_)
        intro v5 w5 h5 hk5
        have HO5 := hid (show Has w5 (Bytes v5 (b' ++ [n / 65536 % 256]) :: L) from by
          unfold Bytes
          rw [List.length_append, show bc (b' ++ [n / 65536 % 256]) = bc b' ++ [.int .u8 (n / 65536 % 256)] by simp [bc]]
          exact h5)
        have HK5 := hid ((HK.out.alloc (.cells #[.int .u8 (n / 65536 % 256)] 5)).trans hk5)
        have HE5 := hid (show (b' ++ [n / 65536 % 256]) ++ fixL n 2 = b ++ fixL n m from by rw [← HE.out, List.append_assoc]; congr 1 <;> simp [fixL])
        have HL5 := hid (show (b' ++ [n / 65536 % 256]).length ≤ 1010 from by
          have h1 := HB.out
          have h2 := congrArg List.length HE5.out
          simp only [List.length_append, fixL_len, List.length_cons, List.length_nil] at h2 ⊢
          have := HM.out
          omega)
        clear h5 hk5 HA HO HK HE HL
        go_wp2_with fail
        exact ⟨⟨2, _, by have := HKM.out; omega, rfl, HO5, HK5, HE5, HL5⟩, by simp [intOf]⟩
      · have HKM := hid hk
        clear hk hm
        rw [show (((4 : Nat) : Int) - 1) = 3 from rfl]
        have HA := hid (HO.out.alloc (.cells #[.int .u8 (n / 16777216 % 256)] 5))
        go_wp2_with (at_builtin; refine wpList_append1 rfl _ _ _ rfl Try.underlying35 infoU8z rfl (.int .u8 (n / 16777216 % 256)) HA.out.drop rfl 1 _ rfl (by simp [HA.out.cells 0]) rfl (le_maxLen (by have := HL.out; omega)) (by have := HL.out; omega) ?_)
        intro v5 w5 h5 hk5
        have HO5 := hid (show Has w5 (Bytes v5 (b' ++ [n / 16777216 % 256]) :: L) from by
          unfold Bytes
          rw [List.length_append, show bc (b' ++ [n / 16777216 % 256]) = bc b' ++ [.int .u8 (n / 16777216 % 256)] by simp [bc]]
          exact h5)
        have HK5 := hid ((HK.out.alloc (.cells #[.int .u8 (n / 16777216 % 256)] 5)).trans hk5)
        have HE5 := hid (show (b' ++ [n / 16777216 % 256]) ++ fixL n 3 = b ++ fixL n m from by rw [← HE.out, List.append_assoc]; congr 1 <;> simp [fixL])
        have HL5 := hid (show (b' ++ [n / 16777216 % 256]).length ≤ 1010 from by
          have h1 := HB.out
          have h2 := congrArg List.length HE5.out
          simp only [List.length_append, fixL_len, List.length_cons, List.length_nil] at h2 ⊢
          have := HM.out
          omega)
        clear h5 hk5 HA HO HK HE HL
        go_wp2_with fail
        exact ⟨⟨3, _, by have := HKM.out; omega, rfl, HO5, HK5, HE5, HL5⟩, by simp [intOf]⟩
      · omega
set_option maxRecDepth 100000 in
theorem idx6 (j : Nat) (h : j < 6) (w : World) : (Instr.index 63 (.agg #[.int .i64 0, .int .i64 0, .int .i64 0, .int .i64 0, .int .i64 0, .int .i64 0]) (.int .i64 (j : Int))).run Try.prog w = .ok (.int .i64 0) w := by
  have : j = 0 ∨ j = 1 ∨ j = 2 ∨ j = 3 ∨ j = 4 ∨ j = 5 := by omega
  rcases this with rfl | rfl | rfl | rfl | rfl | rfl <;> rfl
theorem fix0_2 : fixL 0 2 = zs 2 := by decide
theorem zs_app (a b : Nat) : zs a ++ zs b = zs (a + b) := List.replicate_append_replicate
def inoB (k l : Int) : List Int := fixL k 1 ++ fixL l 2 ++ zs 20
set_option maxRecDepth 100000 in
set_option maxHeartbeats 8000000 in
theorem iLaid (k l : Int) (w : World) (L : List HP) (hO : Has w L) :
    Calls Try.prog 62 #[ino k l] w fun e w' => ∃ v', e = .returned v' ∧ Has w' (Bytes v' (inoB k l) :: L) ∧ Keep w w' := by
  have HO := hid (hO.alloc (.cells (icell k l) 65))
  have HK := hid ((Keep.refl w).alloc (.cells (icell k l) 65))
  have hc := (hO.alloc (.cells (icell k l) 65)).cells
  clear hO
  unfold ino icell at *
  go_enter Try.func62, Try.ntmps62
  go_wp2_with fail
  generalize w.heap.size = g at *
  refine region_text (fun w' => w'.cell? ⟨g, 0, none⟩ = some (.int .i64 k) ∧ w'.cell? ⟨g, 1, none⟩ = some (.int .i64 l) ∧ w'.cell? ⟨g, 2, none⟩ = some (.int .i64 0)) (by kernel_rfl) (by kernel_rfl) ⟨HO.out.drew.cells 0, HO.out.drew.cells 1, HO.out.drew.cells 2⟩ ?_
  clear hc
  repeat (first
    | (refine wpL_read (by rfl) (by rfl) ?_ ?_ ?_; rotate_left; (rintro w ⟨z0, z1, z2⟩; go_simp; with_reducible rfl); simp only [Act.put, List.setIfInBounds_toArray, List.set_cons_zero, List.set_cons_succ]) | (refine wpL_skip (by rfl) ?_; simp only [Act.put, List.setIfInBounds_toArray, List.set_cons_zero, List.set_cons_succ]))
  refine wpL_act (by rfl) (by rfl) (fun K hK => ?_)
  go_simp
  refine (iFix (.slice none 0 0) [] k 1 _ _ (HO.out.drew.row_nil 5 1) (by decide) (by decide)).mono ?_
  rintro e w2 ⟨v2, rfl, hO2, hK2⟩
  have HO2 := hid hO2
  have HK2 := hid ((HK.out.drew).trans hK2)
  clear hO2 hK2
  try dsimp only
  refine hK.out _ _ (⟨HO2.out.p1.cells 0, HO2.out.p1.cells 1, HO2.out.p1.cells 2⟩) ?_
  clear hK K
  try simp only [Act.put, List.setIfInBounds_toArray, List.set_cons_zero, List.set_cons_succ]
  repeat (first
    | (refine wpL_read (by rfl) (by rfl) ?_ ?_ ?_; rotate_left; (rintro w ⟨z0, z1, z2⟩; go_simp; with_reducible rfl); simp only [Act.put, List.setIfInBounds_toArray, List.set_cons_zero, List.set_cons_succ]) | (refine wpL_skip (by rfl) ?_; simp only [Act.put, List.setIfInBounds_toArray, List.set_cons_zero, List.set_cons_succ]))
  refine wpL_act (by rfl) (by rfl) (fun K hK => ?_)
  go_simp
  refine (iFix v2 _ l 2 _ _ HO2.out (by simp [fixL_len]) (by decide)).mono ?_
  rintro e w3 ⟨v3, rfl, hO3, hK3⟩
  have HO3 := hid hO3
  have HK3 := hid ((HK2.out).trans hK3)
  clear hO3 hK3
  try dsimp only
  refine hK.out _ _ (⟨HO3.out.p1.cells 0, HO3.out.p1.cells 1, HO3.out.p1.cells 2⟩) ?_
  clear hK K
  try simp only [Act.put, List.setIfInBounds_toArray, List.set_cons_zero, List.set_cons_succ]
  repeat (first
    | (refine wpL_read (by rfl) (by rfl) ?_ ?_ ?_; rotate_left; (rintro w ⟨z0, z1, z2⟩; go_simp; with_reducible rfl); simp only [Act.put, List.setIfInBounds_toArray, List.set_cons_zero, List.set_cons_succ]) | (refine wpL_skip (by rfl) ?_; simp only [Act.put, List.setIfInBounds_toArray, List.set_cons_zero, List.set_cons_succ]))
  refine wpL_act (by rfl) (by rfl) (fun K hK => ?_)
  go_simp
  refine (iFix v3 _ 0 4 _ _ HO3.out (by simp [fixL_len]) (by decide)).mono ?_
  rintro e w4 ⟨v4, rfl, hO4, hK4⟩
  have HO4 := hid hO4
  have HK4 := hid ((HK3.out).trans hK4)
  clear hO4 hK4
  try dsimp only
  refine hK.out _ _ (⟨HO4.out.p1.cells 0, HO4.out.p1.cells 1, HO4.out.p1.cells 2⟩) ?_
  clear hK K
  try simp only [Act.put, List.setIfInBounds_toArray, List.set_cons_zero, List.set_cons_succ]
  repeat (first
    | (refine wpL_read (by rfl) (by rfl) ?_ ?_ ?_; rotate_left; (rintro w ⟨z0, z1, z2⟩; go_simp; with_reducible rfl); simp only [Act.put, List.setIfInBounds_toArray, List.set_cons_zero, List.set_cons_succ]) | (refine wpL_skip (by rfl) ?_; simp only [Act.put, List.setIfInBounds_toArray, List.set_cons_zero, List.set_cons_succ]))
  refine wpL_nil ?_
  have hc := HO4.out.p1.cells
  clear HO HK HO2 HK2 HO3 HK3
  go_wp2_with fail
  clear hc
  go_loopw [3, 17] (fun s i w' => ∃ j : Nat, j ≤ 6 ∧ i = .int .i64 j ∧ Hid (Has w' (Bytes s (fixL k 1 ++ fixL l 2 ++ zs (4 + 2 * j)) :: pt g (.cells #[.int .i64 k, .int .i64 l, .int .i64 0, .int .i64 0, .int .i64 0, .int .i64 0, .int .i64 0, .int .i64 0, .int .i64 0, .int .i64 0, .int .i64 0] 65) :: L)) ∧ Hid (Keep w w')) (fun _ i _ => 6 - (intOf i).toNat)
  case atStart => exact ⟨0, by omega, rfl, HO4, HK4⟩
  case round =>
    clear HO4 HK4
    obtain ⟨j, hj, rfl, HO, HK⟩ := hrel
    by_cases hlt : j < 6
    · have hji : (j : Int) < 6 := by omega
      have hq := idx6 j hlt
      have HC := hid (iFix u3 _ 0 2 wr _ HO.out (by simp [fixL_len, zs]; omega) (by decide))
      go_wp2_with fail
      refine (HC.out).mono ?_
      rintro e w5 ⟨v5, rfl, hO5, hK5⟩
      have HO5 := hid hO5
      have HK5 := hid ((HK.out).trans hK5)
      clear hO5 hK5
      try dsimp only
      have HO6 := hid (show Has w5 (Bytes v5 (fixL k 1 ++ fixL l 2 ++ zs (4 + 2 * (j + 1))) :: pt g (.cells #[.int .i64 k, .int .i64 l, .int .i64 0, .int .i64 0, .int .i64 0, .int .i64 0, .int .i64 0, .int .i64 0, .int .i64 0, .int .i64 0, .int .i64 0] 65) :: L) from by
        have h := HO5.out
        rwa [fix0_2, List.append_assoc _ _ (zs 2), zs_app] at h)
      clear HC HO5
      go_wp2_with fail
      exact ⟨⟨j + 1, by omega, by go_num, HO6, HK5⟩, by simp [intOf]; omega⟩
    · obtain rfl : j = 6 := by omega
      clear hlt hj
      rw [show ((6 : Nat) : Int) = 6 from rfl]
      have HO0 := hid HO.out.p1
      have HK0 := hid HK.out
      clear HO HK
      have hc := HO0.out.cells
      go_wp2_with fail
      clear hc
      refine region_text (fun w' => w'.cell? ⟨g, 9, none⟩ = some (.int .i64 0) ∧ w'.cell? ⟨g, 10, none⟩ = some (.int .i64 0)) (by kernel_rfl) (by kernel_rfl) ⟨HO0.out.drew.cells 9, HO0.out.drew.cells 10⟩ ?_
      repeat (first
        | (refine wpL_read (by rfl) (by rfl) ?_ ?_ ?_; rotate_left; (rintro w ⟨z0, z1⟩; go_simp; with_reducible rfl); simp only [Act.put, List.setIfInBounds_toArray, List.set_cons_zero, List.set_cons_succ]) | (refine wpL_skip (by rfl) ?_; simp only [Act.put, List.setIfInBounds_toArray, List.set_cons_zero, List.set_cons_succ]))
      refine wpL_act (by rfl) (by rfl) (fun K hK => ?_)
      go_simp
      refine (iFix u3 _ 0 2 _ _ HO0.out.drew.p1 (by simp [fixL_len, zs]) (by decide)).mono ?_
      rintro e w6 ⟨v6, rfl, hO6, hK6⟩
      have HO6 := hid hO6
      have HK6 := hid ((HK0.out.drew).trans hK6)
      clear hO6 hK6
      try dsimp only
      refine hK.out _ _ (⟨HO6.out.p1.cells 9, HO6.out.p1.cells 10⟩) ?_
      clear hK K
      try simp only [Act.put, List.setIfInBounds_toArray, List.set_cons_zero, List.set_cons_succ]
      repeat (first
        | (refine wpL_read (by rfl) (by rfl) ?_ ?_ ?_; rotate_left; (rintro w ⟨z0, z1⟩; go_simp; with_reducible rfl); simp only [Act.put, List.setIfInBounds_toArray, List.set_cons_zero, List.set_cons_succ]) | (refine wpL_skip (by rfl) ?_; simp only [Act.put, List.setIfInBounds_toArray, List.set_cons_zero, List.set_cons_succ]))
      refine wpL_act (by rfl) (by rfl) (fun K hK => ?_)
      go_simp
      refine (iFix v6 _ 0 2 _ _ HO6.out (by simp [fixL_len, zs]) (by decide)).mono ?_
      rintro e w7 ⟨v7, rfl, hO7, hK7⟩
      have HO7 := hid hO7
      have HK7 := hid ((HK6.out).trans hK7)
      clear hO7 hK7
      try dsimp only
      refine hK.out _ _ (⟨HO7.out.p1.cells 9, HO7.out.p1.cells 10⟩) ?_
      clear hK K
      try simp only [Act.put, List.setIfInBounds_toArray, List.set_cons_zero, List.set_cons_succ]
      repeat (first
        | (refine wpL_read (by rfl) (by rfl) ?_ ?_ ?_; rotate_left; (rintro w ⟨z0, z1⟩; go_simp; with_reducible rfl); simp only [Act.put, List.setIfInBounds_toArray, List.set_cons_zero, List.set_cons_succ]) | (refine wpL_skip (by rfl) ?_; simp only [Act.put, List.setIfInBounds_toArray, List.set_cons_zero, List.set_cons_succ]))
      refine wpL_nil ?_
      go_wp2_with fail
      go_ret
      refine ⟨v7, rfl, ?_, HK7.out⟩
      have h := HO7.out.p1.drop
      rwa [fix0_2, List.append_assoc _ (zs 2) (zs 2), zs_app, List.append_assoc _ (zs _) (zs 4), zs_app] at h
end Go.Proofs.Ytbggnbahmdgbdaa
