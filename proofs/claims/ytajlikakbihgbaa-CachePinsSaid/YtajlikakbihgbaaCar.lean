/- A CACHE's CALLS: Dirty, and what they answer of none, and of what is not held. -/
import Derived.Test.YtajlikakbihgbaaCaq
import Derived.Test.YtajlikakbihgbaaSort
namespace Go.Proofs.Ytajlikakbihgbaa
open Go.RowKit Go.Own Go.Dk Go.Ch
def dirts (K : List Hb) : List Int := (K.filter Hb.dirty).map Hb.at_
theorem filter_take {α : Type} (p : α → Bool) (T : List α) (k : Nat) (hk : k < T.length) : (T.take (k + 1)).filter p = (T.take k).filter p ++ (if p T[k] then [T[k]] else []) := by
  rw [List.take_succ_eq_append_getElem hk, List.filter_append]
  congr 1
  simp only [List.filter_cons, List.filter_nil]
def dirtT (T : List Hd) : List Int := (T.filter Hd.dirty).map Hd.at_
theorem dirtT_map (T : List Hd) : dirts (T.map Hd.hb) = dirtT T := by
  unfold dirts dirtT
  rw [List.filter_map, List.map_map]
  rfl
theorem dirtT_take (T : List Hd) (k : Nat) (hk : k < T.length) : dirtT (T.take (k + 1)) = dirtT (T.take k) ++ (if T[k].dirty then [T[k].at_] else []) := by
  unfold dirtT
  rw [filter_take _ _ _ hk, List.map_append]
  congr 1
  split <;> rfl
theorem dirtT_len (T : List Hd) (k : Nat) : (dirtT (T.take k)).length ≤ T.length := by
  unfold dirtT
  rw [List.length_map]
  refine Nat.le_trans (List.length_filter_le _ _) ?_
  simp only [List.length_take]
  omega
set_option maxRecDepth 100000 in
set_option maxHeartbeats 4000000 in
theorem kcDirty (q : Nat) (dv : Value) (most : Int) (K : List Hb) (w : World) (L : List HP) (hl : K.length ≤ 10000) (hO : Has w (Cch q dv most K :: L)) :
    Calls Try.prog 18 #[.pointer (some ⟨q, 0, none⟩)] w fun e w' => ∃ v', e = .returned v' ∧ Has w' (Ints v' (sorted (dirts K)) :: Cch q dv most K :: L) ∧ Keep w w' := by
  obtain ⟨v, T, B, ⟨rfl, hB⟩, h2⟩ := cch_iff.1 hO
  rw [dirtT_map]
  obtain ⟨p, c, rfl, -, -, hcs⟩ := h2.p1.rd.form
  have HO := hid (h2.row_nil 3 1)
  have HB := hid hB
  have HL := hid (show T.length ≤ 10000 by simpa using hl)
  have HCS := hid hcs
  have hq := h2.cells
  unfold caC at hq
  have HK := hid (Keep.refl w)
  clear hO h2 hB hl hcs
  go_enter Try.func18, Try.ntmps18
  go_wp2_with fail
  clear hq
  go_loopw [3, 13] (fun s i w' => ∃ k : Nat, k ≤ T.length ∧ i = .int .i64 k ∧ Hid (Has w' (row s 3 1 (dirtT (T.take k)).length (ic (dirtT (T.take k))) :: pt q (.cells (caC dv most (.slice p T.length c)) 70) :: row (.slice p T.length c) 76 4 T.length (hcells T) :: poolc 5 B :: L)) ∧ Hid (Keep w w')) (fun _ i _ => T.length - (intOf i).toNat)
  case atStart => exact ⟨0, by omega, rfl, HO, HK⟩
  case round =>
    clear HO HK
    obtain ⟨k, hk, rfl, HO, HK⟩ := hrel
    by_cases hlt : k < T.length
    · have hki : (k : Int) < (T.length : Int) := by omega
      have hk0 : (0 : Int) ≤ (k : Int) := by omega
      have hnb : (T.length : Int) ≤ 10000 := by have := HL.out; omega
      obtain ⟨g, o, rfl, -⟩ := HCS.out (by omega)
      obtain ⟨c0, c1, c2, c3⟩ := hd_cells HO.out.p2.rd k hlt
      obtain ⟨px, cx, hxt, -⟩ := (HO.out.p3.pool_rd (HB.out T[k] (List.getElem_mem hlt))).form
      have HTK := hid (dirtT_take T k hlt)
      have HLT := hid hlt
      have HDL := hid (dirtT_len T k)
      generalize T[k] = x at *
      obtain ⟨xa, ⟨xv, xb⟩, xd, xp⟩ := x
      dsimp only at hxt c0 c1 c2 c3 HTK
      subst hxt
      have HO2 := hid (HO.out.alloc (.cells #[.int .i64 xa, .slice px xb.length cx, .bool xd, .bool xp] 76))
      have HK2 := hid (HK.out.alloc (.cells #[.int .i64 xa, .slice px xb.length cx, .bool xd, .bool xp] 76))
      cases xd
      · rw [if_neg (by decide), List.append_nil] at HTK
        clear hlt hk HO HK
        go_wp2_with fail
        refine ⟨⟨k + 1, by have := HLT.out; omega, rfl, ?_, HK2⟩, by have := HLT.out; simp [intOf]; omega⟩
        rw [HTK.out]
        exact hid (HO2.out.re 5 [1, 2, 3, 4])
      · rw [if_pos rfl] at HTK
        have HO3 := hid ((HO2.out.alloc (.cells #[.int .i64 xa] 3)))
        have HK3 := hid (HK2.out.alloc (.cells #[.int .i64 xa] 3))
        have e1 : (wr.alloc (.cells #[.int .i64 xa, .slice px xb.length cx, .bool true, .bool xp] 76)).heap.size = wr.heap.size + 1 := Array.size_push _
        rw [e1] at HO3
        clear hlt hk HO HK e1 HO2 HK2
        have hcx := HO3.out.cells 0
        go_wp2_with (at_builtin; refine wpList_append1 rfl _ _ _ rfl Try.underlying22 infoInt rfl (.int .i64 xa) HO3.out.p2 rfl 1 (wr.heap.size + 1) rfl hcx rfl (le_maxLen (by have := HDL.out; have := HL.out; omega)) (by have := HDL.out; have := HL.out; omega) ?_)
        intro v4 w4 h4 k4
        have HO4 := hid (show Has w4 (row v4 3 1 (dirtT (T.take (k + 1))).length (ic (dirtT (T.take (k + 1)))) :: pt q (.cells (caC dv most (.slice (some ⟨g, o, none⟩) T.length c)) 70) :: row (.slice (some ⟨g, o, none⟩) T.length c) 76 4 T.length (hcells T) :: poolc 5 B :: L) from by
          rw [HTK.out, ic_snoc, List.length_append]
          exact h4.re 6 [0, 3, 4, 5])
        have HK4 := hid (HK3.out.trans k4)
        clear h4 k4 HO3 HK3 hcx c0 c1 c2 c3
        go_wp2_with fail
        exact ⟨⟨k + 1, by have := HLT.out; omega, rfl, HO4, HK4⟩, by have := HLT.out; simp [intOf]; omega⟩
    · obtain rfl : k = T.length := by omega
      have hki : ¬ (T.length : Int) < (T.length : Int) := by omega
      have HDL := hid (dirtT_len T T.length)
      have HT := hid (show T.take T.length = T from List.take_of_length_le (Nat.le_refl _))
      rw [HT.out] at HO HDL
      clear hlt hk
      go_wp2_with fail
      refine (sortInts u3 (dirtT T) wr _ (by have := HL.out; have := HDL.out; omega) HO.out).mono ?_
      rintro e w4 ⟨rfl, hO4, hK4⟩
      have HO4 := hid hO4
      have HK4 := hid ((HK.out).trans hK4)
      clear hO4 hK4
      try dsimp only
      go_wp2_with fail
      go_ret
      refine ⟨_, rfl, ?_, HK4.out⟩
      exact ((cch_iff.2 ⟨_, T, B, ⟨rfl, HB.out⟩, HO4.out.re 4 [1, 2, 3, 0]⟩) : Has _ (Cch q dv most _ :: Ints u3 (sorted (dirtT T)) :: L)).p1
end Go.Proofs.Ytajlikakbihgbaa
