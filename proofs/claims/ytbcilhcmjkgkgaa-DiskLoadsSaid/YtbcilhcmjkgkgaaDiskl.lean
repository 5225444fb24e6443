/- THE WALK of Load. -/
import Derived.Test.YtbcilhcmjkgkgaaDiskk
import Derived.Test.YtbcilhcmjkgkgaaCopy
namespace Go.Proofs.Ytbcilhcmjkgkgaa
open Go.RowKit Go.Own Go.Dk
theorem loadNil (v : Value) (R : Txs) (w : World) (h : R.length = 0 ∨ 2048 < R.length) (hr : RdP w v R) :
    Calls Try.prog 25 #[v] w fun e w' => e = .returned (.pointer none) ∧ w = w' := by
  obtain ⟨p, c, rfl⟩ := hr.form
  have hl := hr.len
  have HN := hid (diskNewNil R.length w (by omega))
  clear hr h
  go_enter Try.func25, Try.ntmps25
  go_wp2_with fail
  refine (HN.out).mono ?_
  rintro e w' ⟨rfl, rfl⟩
  try dsimp only
  go_wp2_with fail
  go_ret
  exact ⟨rfl, rfl⟩
/-- A disk of the sectors' texts; or none. -/
def LoadPost (R : Txs) (L : List HP) (w : World) (e : Ending) (w' : World) : Prop :=
  ((∃ d : Nat, e = .returned (.pointer (some ⟨d, 0, none⟩)) ∧ (∀ x ∈ R, x.2.length = 128) ∧ Has w' (Dk d ⟨R.map (·.2), [], true, none, [], 0⟩ :: L)) ∨ (e = .returned (.pointer none) ∧ (∃ x ∈ R, x.2.length ≠ 128) ∧ Has w' L)) ∧ Keep w w'
/-- The sectors behind k rounds. -/
def LoadS (R F : Txs) (Vs : List Value) (k : Nat) : Prop := F.length = R.length ∧ F.map (·.1) = Vs ∧ F.map (·.2) = (R.take k).map (·.2) ++ List.replicate (R.length - k) zer ∧ ∀ x ∈ R.take k, x.2.length = 128
theorem LoadS.next {R F : Txs} {Vs : List Value} {k : Nat} (h : LoadS R F Vs k) (hk : k < R.length) (hl : R[k].2.length = 128) (hF : k < F.length) : LoadS R (F.set k (F[k].1, R[k].2)) Vs (k + 1) := by
  obtain ⟨h1, h2, h3, h4⟩ := h
  refine ⟨by simpa using h1, ?_, ?_, ?_⟩
  · rw [List.map_set, ← h2]
    exact List.ext_getElem (by simp) fun i h1 h2 => by
      rw [List.getElem_set]
      split
      · subst_vars; simp
      · rfl
  · rw [List.map_set, h3, ← List.take_append_getElem hk, List.map_append]
    obtain ⟨m, hm⟩ : ∃ m, R.length - k = m + 1 := ⟨R.length - k - 1, by omega⟩
    rw [hm, show R.length - (k + 1) = m by omega, List.set_append_right _ _ (by simp; omega), List.replicate_succ]
    have : k - (List.map (fun x : Value × List Int => x.2) (R.take k)).length = 0 := by simp; omega
    rw [this]
    simp
  · intro x hx
    rw [← List.take_append_getElem hk] at hx
    rcases List.mem_append.1 hx with hx | hx
    · exact h4 x hx
    · rw [List.mem_singleton.1 hx]; exact hl
theorem LoadS.zer {R F : Txs} {Vs : List Value} {k : Nat} (h : LoadS R F Vs k) (hk : k < R.length) (hF : k < F.length) : F[k].2 = zer := by
  have h3 := congrArg (fun l => l[k]?) h.2.2.1
  simp only [List.getElem?_map, List.getElem?_eq_getElem hF, Option.map_some] at h3
  rw [List.getElem?_append_right (by simp; omega), List.getElem?_replicate] at h3
  have : k - (List.map (fun x : Value × List Int => x.2) (R.take k)).length < R.length - k := by simp; omega
  rw [if_pos this] at h3
  exact Option.some.inj h3
set_option maxHeartbeats 2000000 in
theorem loadGo (v : Value) (R : Txs) (w : World) (L : List HP) (h1 : 1 ≤ R.length) (h2 : R.length ≤ 2048) (hL : ∀ w', Has w' L → RdP w' v R) (hO : Has w L) :
    Calls Try.prog 25 #[v] w (LoadPost R L w) := by
  have HO := hid hO
  have HL := hid hL
  obtain ⟨p, c, rfl⟩ := (hL w hO).form
  clear hO hL
  go_enter Try.func25, Try.ntmps25
  go_wp2_with fail
  refine (diskNew1 R.length w L h1 h2 HO.out).mono ?_
  rintro e w1 ⟨d, fv, F0, rfl, hF, hz, hO1, hK1⟩
  obtain ⟨fp, fc, rfl, -⟩ := hO1.p1.rd.form
  have HS0 := hid (show LoadS R F0 (F0.map (·.1)) 0 from ⟨hF, rfl, by
    rw [List.take_zero, Nat.sub_zero, List.map_nil, List.nil_append, List.eq_replicate_iff]
    refine ⟨by simpa using hF, fun y hy => ?_⟩
    obtain ⟨x, hx, rfl⟩ := List.mem_map.1 hy
    exact hz x hx, by simp⟩)
  generalize F0.map (·.1) = Vs at *
  have HO1 := hid hO1
  have HK1 := hid hK1
  clear hO1 hK1 hF hz HO
  try dsimp only
  go_wp2_with fail
  go_loopw [13] (fun i w' => ∃ k : Nat, k ≤ R.length ∧ i = .int .i64 k ∧ Hid (∃ F : Txs, LoadS R F Vs k ∧ Has w' (pt d (.cells #[.slice fp R.length fc, .slice none 0 0, .bool true, .pointer none, .slice none 0 0, .int .i64 0] 65) :: row (.slice fp R.length fc) 28 1 R.length Vs :: poolc 5 F :: L)) ∧ Hid (Keep w w')) (fun i _ => R.length - (intOf i).toNat)
  case atStart => exact ⟨0, by omega, rfl, hid ⟨F0, HS0.out, HO1.out⟩, HK1⟩
  case round =>
    clear HO1 HK1 HS0
    obtain ⟨k, hk, rfl, HY, HK⟩ := hrel
    obtain ⟨F, hS, hO⟩ := HY.out
    have HS := hid hS
    have HO := hid hO
    clear hS hO HY
    by_cases hlt : k < R.length
    · have hrd := HL.out _ HO.out.drop.drop.drop
      obtain ⟨rg, ro, c', xp, xm, e, hc1, x1⟩ := hrd.at_ k hlt
      simp only [Value.slice.injEq, true_and] at e
      obtain ⟨rfl, rfl⟩ := e
      by_cases hl : R[k].2.length = 128
      · have ht : ((R[k].2.length : Int) != 128) = false := by simp [hl]
        have Hl := hid hl
        have hkF : k < F.length := by rw [HS.out.1]; exact hlt
        have hP := HO.out.p2.pool_out k hkF
        have hz := HS.out.zer hlt hkF
        have hcd := HO.out.cells 0
        obtain ⟨-, hf | ⟨fg, fc', cur, ef, -, -, -, -, -⟩⟩ := HO.out.p1.row_cases
        · exact absurd hf.2.1 (by omega)
        simp only [Value.slice.injEq, true_and] at ef
        obtain ⟨rfl, rfl⟩ := ef
        have hVk : Vs[k]? = some F[k].1 := by rw [← HS.out.2.1]; simp [hkF]
        have hcv := (HO.out.p1.row_cells).2.1 k (by omega)
        rw [hVk] at hcv
        rw [hz] at hP
        obtain ⟨-, hf | ⟨xg, xc, cur2, ef, -, -, -, -, -⟩⟩ := hP.row_cases
        · exact absurd hf.2.1 (by rw [show zer.length = 128 from rfl]; omega)
        rw [show zer.length = 128 from rfl] at ef
        have HX := hid ef
        rw [ef] at hcv hP
        have hsrc := HL.out _ (hP.drop.drop.drop.drop)
        have Hsrc := hid (x1 ▸ hsrc.2 _ (List.getElem_mem hlt))
        have HP := hid hP
        clear hP hz ef hVk hsrc hrd hl
        go_wp2_with (with_reducible refine wpList_copy rfl _ _ _ _ rfl Try.underlying28 (by kernel_rfl) HP.out 128 xc xm _ rfl rfl Hsrc.out (bc_one _) (by have := Hl.out; omega) ?_)
        intro w2 h2 hk2
        have e1 : min R[k].2.length 128 = 128 := by have := Hl.out; omega
        try rw [e1] at h2
        try rw [e1]
        try simp only [List.take_zero, List.nil_append, Nat.zero_add] at h2
        rw [List.take_of_length_le (by rw [bc_len, Hl.out]; exact Nat.le_refl _), List.drop_of_length_le (by rw [bc_len]; exact Nat.le_refl _), List.append_nil] at h2
        have HO2 := hid h2
        have HK2 := hid (HK.out.trans hk2)
        clear h2 hk2 HP e1
        go_wp2_with fail
        refine ⟨⟨k + 1, by omega, by go_num, hid ⟨F.set k (F[k].1, R[k].2), HS.out.next hlt Hl.out hkF, ?_⟩, HK2⟩, by simp [intOf]; omega⟩
        have h : Has w2 (row (.slice (some ⟨xg, 0, none⟩) 128 xc) 5 1 R[k].2.length (bc R[k].2) :: poolc 5 (F.eraseIdx k) :: pt d (.cells #[.slice (some ⟨fg, 0, none⟩) R.length fc, .slice none 0 0, .bool true, .pointer none, .slice none 0 0, .int .i64 0] 65) :: row (.slice (some ⟨fg, 0, none⟩) R.length fc) 28 1 R.length Vs :: L) := by rw [Hl.out]; exact HO2.out
        rw [HX.out]
        exact (Has.pool_in hkF h).b2
      · have ht : ((R[k].2.length : Int) != 128) = true := by simp; omega
        have Hl := hid hl
        clear hl hrd x1
        go_wp2_with fail
        go_ret
        exact ⟨.inr ⟨rfl, ⟨_, List.getElem_mem hlt, Hl.out⟩, HO.out.drop.drop.drop⟩, HK.out⟩
    · obtain rfl : k = R.length := by omega
      go_wp2_with fail
      go_ret
      obtain ⟨h3, h4, h5, h6⟩ := HS.out
      rw [List.take_length] at h5 h6
      have e : F.map (·.2) = R.map (·.2) := by simpa using h5
      refine ⟨.inl ⟨d, rfl, h6, dk_iff.2 ⟨⟨F, [], true, none, [], 0⟩, by simp only [Disk.bk, e]; rfl, dsk_iff.2 ⟨.slice fp R.length fc, .slice none 0 0, .pointer none, .slice none 0 0, F, ⟨fun _ h => h, by simp, by simp, fun x hx => ?_, by simp, by simp⟩, ?_⟩⟩⟩, HK.out⟩
      · have : x.2 ∈ F.map (·.2) := List.mem_map.2 ⟨x, hx, rfl⟩
        rw [e] at this
        obtain ⟨y, hy, e2⟩ := List.mem_map.1 this
        rw [← e2]; exact h6 y hy
      · have h1 := ((armc_none.2 ⟨rfl, (HO.out.row_nil 3 1).b2⟩).b2.row_nil 70 2).b2
        generalize Value.slice fp R.length fc = fv at h1 ⊢
        rw [← h4, ← h3] at h1
        exact h1
end Go.Proofs.Ytbcilhcmjkgkgaa
