/- THE WALK of disk.New. -/
import Derived.Test.YtajlikakbihgbaaTexts
import Derived.Test.YtajlikakbihgbaaDiska
import Derived.Test.YtajlikakbihgbaaDiskz
namespace Go.Proofs.Ytajlikakbihgbaa
open Go.RowKit Go.Own Go.Dk
def zeros128 : Array Value := (List.replicate 128 (Value.int .u8 0)).toArray
theorem make128 (w : World) : (Instr.makeSlice 33 (.int .i64 128) (.int .i64 128)).run Try.prog w = .ok (.slice (some ⟨w.heap.size, 0, none⟩) 128 128) (w.alloc (.cells zeros128 5)) :=
  run_make_row w _ Try.underlying33 infoU8 rfl .i64 .i64 128 (by omega) (le_maxLen (by omega))
theorem made128 {w : World} {L : List HP} (h : Has w L) : Has (w.alloc (.cells zeros128 5)) (row (.slice (some ⟨w.heap.size, 0, none⟩) 128 128) 5 1 zer.length (bc zer) :: L) := by
  have := h.row_made (e := 5) (k := 128) (z := .int .u8 0) (le_maxLen (by omega))
  exact this
theorem diskNewNil (n : Int) (w : World) (h : n < 1 ∨ 2048 < n) : Calls Try.prog 8 #[.int .i64 n] w fun e w' => e = .returned (.pointer none) ∧ w = w' := by
  rcases h with h | h
  · go_enter Try.func8, Try.ntmps8
    go_wp2
    go_ret
    exact ⟨rfl, rfl⟩
  · have h' : ¬ n < 1 := by omega
    go_enter Try.func8, Try.ntmps8
    go_wp2
    go_ret
    exact ⟨rfl, rfl⟩
set_option maxHeartbeats 1000000 in
theorem diskNew1 (n : Nat) (W : World) (L : List HP) (h1 : 1 ≤ n) (h2 : n ≤ 2048) (hO : Has W L) :
    Calls Try.prog 8 #[.int .i64 (n : Int)] W fun e w' => ∃ (d : Nat) (fv : Value) (F : List Txt), e = .returned (.pointer (some ⟨d, 0, none⟩)) ∧ F.length = n ∧ (∀ x ∈ F, x.2 = zer) ∧ Has w' (pt d (.cells #[fv, .slice none 0 0, .bool true, .pointer none, .slice none 0 0, .int .i64 0] 67) :: row fv 33 1 n (F.map (·.1)) :: poolc 5 F :: L) ∧ Keep W w' := by
  have HO := hid hO
  clear hO
  go_enter Try.func8, Try.ntmps8
  go_wp2_with fail
  have HN := hid (HO.out.alloc (.cells #[.slice none 0 0, .slice none 0 0, .bool true, .pointer none, .slice none 0 0, .int .i64 0] 67))
  have HK0 := hid ((Keep.refl W).alloc (.cells #[.slice none 0 0, .slice none 0 0, .bool true, .pointer none, .slice none 0 0, .int .i64 0] 67))
  generalize W.heap.size = d at *
  go_loopw [13] (fun i w => ∃ k : Nat, k ≤ n ∧ i = .int .i64 k ∧ Hid (∃ (fv : Value) (F : List Txt), F.length = k ∧ (∀ x ∈ F, x.2 = zer) ∧ Has w (pt d (.cells #[fv, .slice none 0 0, .bool true, .pointer none, .slice none 0 0, .int .i64 0] 67) :: row fv 33 1 k (F.map (·.1)) :: poolc 5 F :: L)) ∧ Hid (Keep W w)) (fun i _ => n - (intOf i).toNat)
  case atStart => exact ⟨0, by omega, rfl, hid ⟨.slice none 0 0, [], rfl, by simp, (HN.out.pool_nil.row_nil _ _).p2⟩, HK0⟩
  case round =>
    obtain ⟨k, hk, rfl, HY, HK⟩ := hrel
    obtain ⟨fv, F, hF, hz, hO⟩ := HY.out
    by_cases hlt : k < n
    · have hc := hO.cells
      have ht := hO.thaw
      have HO1 := hid hO
      have HF := hid hF
      have HZ := hid hz
      clear hO hF hz
      go_wp2_with fail
      refine region_tail1 (fun w => w.cell? ⟨d, 0, none⟩ = some fv) (by kernel_rfl) (by kernel_rfl) (by kernel_rfl) (by decide) (HO1.out.drew.cells 0) ?_
      repeat (first
        | (refine wpL_read (by rfl) (by rfl) ?_ ?_ ?_; rotate_left; (intro w hS; go_simp; with_reducible rfl); simp only [Act.put, List.setIfInBounds_toArray, List.set_cons_zero, List.set_cons_succ]) | (refine wpL_skip (by rfl) ?_; simp only [Act.put, List.setIfInBounds_toArray, List.set_cons_zero, List.set_cons_succ]))
      refine wpL_act (by rfl) (by rfl) (fun K hK => ?_)
      go_simp
      rw [make128]
      go_simp
      have HO2 := hid (made128 HO1.out).drew
      generalize wr.heap.size = b at *
      refine hK.out _ _ (HO2.out.p1.cells 0) ?_
      clear hK K
      try simp only [Act.put, List.setIfInBounds_toArray, List.set_cons_zero, List.set_cons_succ]
      have HK2 := hid ((HK.out.alloc (.cells zeros128 5)).drew)
      clear HO1 HK hc ht HN HO
      generalize (wr.alloc (.cells zeros128 5)).drew = w2 at *
      refine wpL_act (by rfl) (by rfl) (fun K hK => ?_)
      go_simp
      have HO3 := hid (HO2.out.alloc (.cells #[.slice (some ⟨b, 0, none⟩) 128 128] 33))
      have HK3 := hid (HK2.out.alloc (.cells #[.slice (some ⟨b, 0, none⟩) 128 128] 33))
      generalize w2.heap.size = b2 at *
      refine hK.out _ _ (HO3.out.p2.cells 0) ?_
      clear hK K
      try simp only [Act.put, List.setIfInBounds_toArray, List.set_cons_zero, List.set_cons_succ]
      generalize w2.alloc (.cells #[.slice (some ⟨b, 0, none⟩) 128 128] 33) = w3 at *
      refine wpL_act (by rfl) (by rfl) (fun K hK => ?_)
      refine wp_append1 (.tmp 19) (.tmp 21) 55 rfl Try.underlying55 infoBs rfl [.slice (some ⟨b, 0, none⟩) 128 128] rfl HO3.out.p3 (by rfl) 1 b2 (by rfl) (fun j => by simpa using HO3.out.cells j) (by simp [Value.oneCell']) (le_maxLen (by omega)) (by omega) fun v' w' h2 h3 => ?_
      obtain ⟨vp, vc, rfl, -⟩ := h2.rd.form
      have HO4 := hid h2
      have HK4 := hid (HK3.out.trans h3)
      clear h2 h3 HO3 HK3 HO2 HK2
      refine hK.out _ _ (HO4.out.p3.cells 0) ?_
      clear hK K
      try simp only [Act.put, List.setIfInBounds_toArray, List.set_cons_zero, List.set_cons_succ]
      repeat (first
        | (refine wpL_read (by rfl) (by rfl) ?_ ?_ ?_; rotate_left; (intro w hS; go_simp; with_reducible rfl); simp only [Act.put, List.setIfInBounds_toArray, List.set_cons_zero, List.set_cons_succ]) | (refine wpL_skip (by rfl) ?_; simp only [Act.put, List.setIfInBounds_toArray, List.set_cons_zero, List.set_cons_succ]))
      refine wpL_nil ?_
      refine wpOp_last rfl (by rfl) ?_
      have ht := HO4.out.p3.thaw
      have hc := HO4.out.p3.cells
      go_simp
      have HO5 := hid (HO4.out.p3.set 0 (.slice vp (k + 1) vc))
      have HK5 := hid (HK4.out.set ⟨d, 0, none⟩ (.slice vp (k + 1) vc))
      clear HO4 HK4 ht hc
      go_wp2_with fail
      refine ⟨⟨k + 1, by omega, rfl, hid ⟨.slice vp (k + 1) vc, F ++ [(.slice (some ⟨b, 0, none⟩) 128 128, zer)], ?_, ?_, ?_⟩, HK5⟩, ?_⟩
      · rw [List.length_append, HF.out]; rfl
      · intro x hx
        rcases List.mem_append.1 hx with h | h
        · exact HZ.out x h
        · rw [List.mem_singleton.1 h]
      · rw [List.map_append]
        exact HO5.out.p2.drop.p2.p3.p1.pool_snoc.b2
      · simp only [intOf]; omega
    · have hc := hO.cells
      have ht := hO.thaw
      have e : k = n := by omega
      subst e
      have HO1 := hid hO
      have HF := hid hF
      have HZ := hid hz
      clear hO hF hz
      go_wp2_with fail
      go_ret
      exact ⟨d, fv, F, rfl, HF.out, HZ.out, HO1.out, HK.out⟩
theorem diskNew (n : Nat) (W : World) (L : List HP) (h1 : 1 ≤ n) (h2 : n ≤ 2048) (hO : Has W L) :
    Calls Try.prog 8 #[.int .i64 (n : Int)] W fun e w' => ∃ d F, e = .returned (.pointer (some ⟨d, 0, none⟩)) ∧ F.length = n ∧ (∀ x ∈ F, x.2 = zer) ∧ Has w' (Dsk d ⟨F, [], true, none, [], 0⟩ :: L) ∧ Keep W w' := by
  refine (diskNew1 n W L h1 h2 hO).mono ?_
  rintro e w' ⟨d, fv, F, he, hF, hz, h, hK⟩
  refine ⟨d, F, he, hF, hz, dsk_iff.2 ⟨fv, .slice none 0 0, .pointer none, .slice none 0 0, F, ⟨fun _ h => h, by simp, by simp, fun x hx => by rw [hz x hx]; rfl, by simp, by simp⟩, ?_⟩, hK⟩
  have h1 := ((armc_none.2 ⟨rfl, (h.row_nil 3 1).b2⟩).b2.row_nil 85 2).b2
  rw [← hF] at h1
  exact h1
end Go.Proofs.Ytajlikakbihgbaa
