/- THE WALKS of whole: a sector's bytes. -/
import Derived.Test.YtihfhigkpkamiaaRolla
namespace Go.Proofs.Ytihfhigkpkamiaa
open Go.RowKit Go.Own Go.Rl
def zeros128 : Array Value := (List.replicate 128 (Value.int .u8 0)).toArray
theorem make128 (w : World) : (Instr.makeSlice 22 (.int .i64 128) (.int .i64 128)).run Try.prog w = .ok (.slice (some ⟨w.heap.size, 0, none⟩) 128 128) (w.alloc (.cells zeros128 5)) :=
  run_make_row w _ Try.underlying22 infoU8 rfl .i64 .i64 128 (by omega) (le_maxLen (by omega))
theorem made128 {w : World} {L : List HP} (h : Has w L) : Has (w.alloc (.cells zeros128 5)) (row (.slice (some ⟨w.heap.size, 0, none⟩) 128 128) 5 1 128 (bc (zeros 128)) :: L) := by
  have := h.row_made (e := 5) (k := 128) (z := .int .u8 0) (le_maxLen (by omega))
  exact this
theorem whole_bc (xs : List Int) : (bc xs).take (min xs.length 128) ++ (bc (zeros 128)).drop (min xs.length 128) = bc (whole xs) := by
  simp only [bc, whole, List.map_append, List.map_take, zeros, List.map_replicate, List.drop_replicate]
  by_cases h : xs.length ≤ 128
  · rw [Nat.min_eq_left h, List.take_of_length_le (Nat.le_of_eq (by simp)), List.take_of_length_le (by simpa using h)]
  · rw [Nat.min_eq_right (by omega)]
    have : 128 - xs.length = 0 := by omega
    simp [this]
set_option maxHeartbeats 1000000 in
theorem rollWhole (v : Value) (xs : List Int) (w : World) (L : List HP) (hr : Rd w v 1 xs.length (bc xs)) (hO : Has w L) :
    Calls Try.prog 27 #[v] w fun e w' => ∃ g, e = .returned (.slice (some ⟨g, 0, none⟩) 128 128) ∧ Has w' (Bytes (.slice (some ⟨g, 0, none⟩) 128 128) (whole xs) :: L) ∧ Keep w w' := by
  obtain ⟨p, c, rfl, -, hl, -⟩ := hr.form
  have hmk := make128 w
  have HP := hid (made128 hO)
  have HR := hid (hr.alloc (.cells zeros128 5))
  have HK := hid ((Keep.refl w).alloc (.cells zeros128 5))
  clear hr hO
  go_enter Try.func27, Try.ntmps27
  go_wp2_with (with_reducible refine wpList_copy rfl _ _ _ _ rfl Try.underlying22 (by kernel_rfl) HP.out 128 128 c p rfl rfl HR.out (bc_one _) (by omega) ?_)
  intro w2 h2 hk2
  have HO2 := hid h2
  have HK2 := hid (HK.out.trans hk2)
  clear h2 hk2
  go_wp2_with fail
  go_ret
  refine ⟨_, rfl, ?_, HK2.out⟩
  have h := HO2.out
  rw [whole_bc] at h
  unfold Bytes
  rw [whole_len]
  exact h
set_option maxHeartbeats 1000000 in
theorem refSector (v : Value) (xs : List Int) (w : World) (L : List HP) (hr : Rd w v 1 xs.length (bc xs)) (hO : Has w L) :
    Calls Try.prog 32 #[v] w fun e w' => ∃ g, e = .returned (.slice (some ⟨g, 0, none⟩) 128 128) ∧ Has w' (Bytes (.slice (some ⟨g, 0, none⟩) 128 128) (whole xs) :: L) ∧ Keep w w' := by
  obtain ⟨p, c, rfl, -, hl, -⟩ := hr.form
  have hmk := make128 w
  have HP := hid (made128 hO)
  have HR := hid (hr.alloc (.cells zeros128 5))
  have HK := hid ((Keep.refl w).alloc (.cells zeros128 5))
  clear hr hO
  go_enter Try.func32, Try.ntmps32
  go_wp2_with (with_reducible refine wpList_copy rfl _ _ _ _ rfl Try.underlying22 (by kernel_rfl) HP.out 128 128 c p rfl rfl HR.out (bc_one _) (by omega) ?_)
  intro w2 h2 hk2
  have HO2 := hid h2
  have HK2 := hid (HK.out.trans hk2)
  clear h2 hk2
  go_wp2_with fail
  go_ret
  refine ⟨_, rfl, ?_, HK2.out⟩
  have h := HO2.out
  rw [whole_bc] at h
  unfold Bytes
  rw [whole_len]
  exact h
end Go.Proofs.Ytihfhigkpkamiaa
