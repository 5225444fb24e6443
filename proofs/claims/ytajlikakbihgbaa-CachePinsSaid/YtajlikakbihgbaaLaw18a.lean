/- THE PLAIN LAW of a cache of clean sectors. No program in sight. -/
import Derived.Test.YtajlikakbihgbaaCam
namespace Go.Ch
open Go.Own Go.RowKit Go.Dk
theorem dropG_free {α : Type} (st : α → Bool) (l : List α) (h : ∀ x ∈ l, st x = false) (m : Int) : (dropG st m l).2 = l.drop m.toNat := by
  induction l generalizing m with
  | nil => simp [dropG]
  | cons x l ih =>
    by_cases hm : m ≤ 0
    · rw [dropG_none st (.inl hm)]
      rw [show m.toNat = 0 by omega]
      rfl
    · rw [dropG, if_neg (by rw [h x List.mem_cons_self]; simp; omega), ih (fun y hy => h y (List.mem_cons_of_mem _ hy))]
      rw [show m.toNat = (m - 1).toNat + 1 by omega]
      rfl
theorem erase_nodup : ∀ (W : List Int) (i : Nat) (hi : i < W.length), W.Nodup → W.eraseIdx i = W.filter (fun x => x != W[i])
  | x :: W, 0, _, h => by
    have h1 := List.nodup_cons.1 h
    simp only [List.eraseIdx_cons_zero, List.getElem_cons_zero]
    rw [List.filter_cons_of_neg (by simp)]
    refine (List.filter_eq_self.2 fun y hy => ?_).symm
    simp only [bne_iff_ne, ne_eq]
    rintro rfl
    exact h1.1 hy
  | x :: W, i + 1, hi, h => by
    have h1 := List.nodup_cons.1 h
    simp only [List.eraseIdx_cons_succ, List.getElem_cons_succ]
    rw [List.filter_cons_of_pos (by simp only [bne_iff_ne, ne_eq]; intro e; exact h1.1 (e ▸ List.getElem_mem _)), erase_nodup W i (by simpa using hi) h1.2]
/-- A clean sector of zeros. -/
def cl (b : List Int) (a : Int) : Hb := ⟨a, b, false, false⟩
def gotA (s : Int) (W : List Int) : List Int := W.filter (fun x => x != s) ++ [s]
def stepA (most s : Int) (W : List Int) : List Int := if most < (gotA s W).length then (gotA s W).drop 1 else gotA s W
theorem find_cl {b : List Int} {W : List Int} {s : Int} {i : Nat} (h : find (W.map (cl b)) s = some i) : ∃ hi : i < W.length, W[i] = s := by
  obtain ⟨hi, h1⟩ := find_lt h
  have hi' : i < W.length := by simpa using hi
  refine ⟨hi', ?_⟩
  rw [List.getElem_map] at h1
  exact h1
theorem find_cl_none {b : List Int} {W : List Int} {s : Int} (h : find (W.map (cl b)) s = none) : s ∉ W := by
  unfold find at h
  rw [List.findIdx?_eq_none_iff] at h
  intro hs
  have := h (cl b s) (List.mem_map_of_mem hs)
  simp [cl] at this
theorem addK_cl (b : List Int) (W : List Int) (s : Int) (h : W.Nodup) : addK (W.map (cl b)) (cl b s) = (gotA s W).map (cl b) := by
  unfold addK gotA
  show (match find (W.map (cl b)) s with | some i => _ | none => _) = _
  rcases hf : find (W.map (cl b)) s with _ | i
  · have := find_cl_none hf
    dsimp only
    rw [List.filter_eq_self.2 fun y hy => by simp only [bne_iff_ne, ne_eq]; rintro rfl; exact this hy, List.map_append]
    rfl
  · obtain ⟨hi, rfl⟩ := find_cl hf
    dsimp only
    rw [← map_eraseIdx, erase_nodup W i hi h, List.map_append, List.getElem?_map, List.getElem?_eq_getElem hi]
    rfl
theorem got_len (s : Int) (W : List Int) : (gotA s W).length ≤ W.length + 1 := by
  unfold gotA
  rw [List.length_append, List.length_singleton]
  have := List.length_filter_le (fun x => x != s) W
  omega
theorem cl_stay (b : List Int) (W : List Int) : ∀ x ∈ W.map (cl b), x.stay = false := by
  intro x hx
  obtain ⟨a, -, rfl⟩ := List.mem_map.1 hx
  rfl
theorem settle_cl (most : Int) (b : List Int) (W : List Int) : settleK most (W.map (cl b)) = (W.drop ((W.length : Int) - most).toNat).map (cl b) := by
  unfold settleK
  rw [dropG_free _ _ (cl_stay b W), List.length_map, List.map_drop]
theorem newK_cl (most : Int) (b : List Int) (W : List Int) (s : Int) (h : W.Nodup) (hl : (W.length : Int) ≤ most) : newK most (W.map (cl b)) (cl b s) = (stepA most s W).map (cl b) := by
  unfold newK stepA
  rw [addK_cl b W s h, settle_cl]
  have := got_len s W
  split
  · rw [show (((gotA s W).length : Int) - most).toNat = 1 by omega]
  · rw [show (((gotA s W).length : Int) - most).toNat = 0 by omega]
    rfl
theorem got_nodup {s : Int} {W : List Int} (h : W.Nodup) : (gotA s W).Nodup := by
  unfold gotA
  rw [List.nodup_append]
  refine ⟨h.sublist List.filter_sublist, by simp, ?_⟩
  intro a ha b hb
  rw [List.mem_singleton] at hb
  subst hb
  have := (List.mem_filter.1 ha).2
  simpa using this
theorem step_nodup {most s : Int} {W : List Int} (h : W.Nodup) : (stepA most s W).Nodup := by
  unfold stepA
  split
  · exact (got_nodup h).sublist (List.drop_sublist _ _)
  · exact got_nodup h
theorem step_len {most s : Int} {W : List Int} (hl : (W.length : Int) ≤ most) : ((stepA most s W).length : Int) ≤ most := by
  unfold stepA
  have := got_len s W
  split
  · rw [List.length_drop]; omega
  · omega
theorem dirts_cl (b : List Int) (W : List Int) : (W.map (cl b)).filter Hb.dirty = [] := by
  rw [List.filter_eq_nil_iff]
  intro x hx
  obtain ⟨a, -, rfl⟩ := List.mem_map.1 hx
  simp [cl]
theorem ats_cl (b : List Int) (W : List Int) : (W.map (cl b)).map Hb.at_ = W := by
  rw [List.map_map]
  exact List.map_id' W
theorem dropped_cl (b : List Int) (W : List Int) (m : Int) : dropG Hb.stay m (W.map (cl b)) = ((dropG Hb.stay m (W.map (cl b))).1, (W.drop m.toNat).map (cl b)) := by
  have h := dropG_free Hb.stay (W.map (cl b)) (cl_stay b W) m
  rw [← List.map_drop] at h
  rw [← h]
end Go.Ch
