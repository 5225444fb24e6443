/- THE PLAIN LAW of a cache of clean sectors of which one is pinned. No program in sight. -/
import Derived.Test.YtajlikakbihgbaaLaw18a
namespace Go.Ch
open Go.Own Go.RowKit Go.Dk
theorem dropG_stays {α : Type} (st : α → Bool) (m : Int) (l : List α) (x : α) (hx : x ∈ l) (hs : st x = true) : x ∈ (dropG st m l).2 := by
  induction l generalizing m with
  | nil => simp at hx
  | cons y l ih =>
    rw [dropG]
    rcases List.mem_cons.1 hx with rfl | hx
    · rw [if_pos (.inr hs)]; exact List.mem_cons_self
    · split
      · exact List.mem_cons_of_mem _ (ih m hx)
      · exact ih (m - 1) hx
theorem dropG_sub {α : Type} (st : α → Bool) (m : Int) (l : List α) : (dropG st m l).2.Sublist l := by
  induction l generalizing m with
  | nil => exact List.Sublist.slnil
  | cons y l ih =>
    rw [dropG]
    split
    · exact (ih m).cons_cons y
    · exact (ih (m - 1)).cons y
theorem dropG_cnt {α : Type} (st : α → Bool) (m : Int) (l : List α) : (dropG st m l).2.length + min m.toNat (l.filter fun x => !st x).length = l.length := by
  induction l generalizing m with
  | nil => simp [dropG]
  | cons y l ih =>
    by_cases hm : m ≤ 0
    · rw [dropG_none st (.inl hm), show m.toNat = 0 by omega]; simp
    · rw [dropG]
      by_cases hy : st y = true
      · rw [if_pos (.inr hy), List.filter_cons_of_neg (by simp [hy])]
        have := ih m
        simp only [List.length_cons]
        omega
      · rw [if_neg (by simp [hy]; omega), List.filter_cons_of_pos (by simp [hy])]
        have := ih (m - 1)
        simp only [List.length_cons]
        omega
theorem find_f {f : Int → Hb} (hf : ∀ a, (f a).at_ = a) {W : List Int} {s : Int} {i : Nat} (h : find (W.map f) s = some i) : ∃ hi : i < W.length, W[i] = s := by
  obtain ⟨hi, h1⟩ := find_lt h
  have hi' : i < W.length := by simpa using hi
  refine ⟨hi', ?_⟩
  rw [List.getElem_map, hf] at h1
  exact h1
theorem find_f_none {f : Int → Hb} (hf : ∀ a, (f a).at_ = a) {W : List Int} {s : Int} (h : find (W.map f) s = none) : s ∉ W := by
  unfold find at h
  rw [List.findIdx?_eq_none_iff] at h
  intro hs
  have := h (f s) (List.mem_map_of_mem hs)
  simp [hf] at this
theorem find_f_some {f : Int → Hb} (hf : ∀ a, (f a).at_ = a) {W : List Int} {s : Int} (h : s ∈ W) : ∃ i, find (W.map f) s = some i := by
  rcases h1 : find (W.map f) s with _ | i
  · exact absurd h (find_f_none hf h1)
  · exact ⟨i, rfl⟩
/-- A clean sector, pinned if it is p. -/
def cp (b : List Int) (p a : Int) : Hb := ⟨a, b, false, a == p⟩
theorem addK_cp (b : List Int) (p : Int) (W : List Int) (s : Int) (pn : Bool) (h : W.Nodup) (hs : s ∈ W ∨ pn = (s == p)) : addK (W.map (cp b p)) ⟨s, b, false, pn⟩ = (gotA s W).map (cp b p) := by
  unfold addK gotA
  show (match find (W.map (cp b p)) s with | some i => _ | none => _) = _
  rcases hf : find (W.map (cp b p)) s with _ | i
  · have := find_f_none (fun _ => rfl) hf
    dsimp only
    rw [List.filter_eq_self.2 fun y hy => by simp only [bne_iff_ne, ne_eq]; rintro rfl; exact this hy, List.map_append, hs.resolve_left this]
    rfl
  · obtain ⟨hi, rfl⟩ := find_f (fun _ => rfl) hf
    dsimp only
    rw [← map_eraseIdx, erase_nodup W i hi h, List.map_append, List.getElem?_map, List.getElem?_eq_getElem hi]
    rfl
theorem settle_cp (most : Int) (b : List Int) (p : Int) (X : List Int) (hp : p ∈ X) (hn : X.Nodup) (hm : 1 ≤ most) :
    ∃ Y : List Int, settleK most (X.map (cp b p)) = Y.map (cp b p) ∧ Y.Nodup ∧ p ∈ Y ∧ (Y.length : Int) ≤ most := by
  refine ⟨(dropG (fun a => (cp b p a).stay) ((X.length : Int) - most) X).2, ?_, ?_, ?_, ?_⟩
  · unfold settleK
    rw [dropG_map, List.length_map]
  · exact hn.sublist (dropG_sub _ _ _)
  · exact dropG_stays _ _ _ _ hp (by simp [cp, Hb.stay])
  · have h := dropG_cnt (fun a => (cp b p a).stay) ((X.length : Int) - most) X
    have hc : (X.filter fun x => !(cp b p x).stay).length + 1 = X.length := by
      have h1 := List.length_eq_countP_add_countP (fun x => !(cp b p x).stay) (l := X)
      have h2 : X.countP (fun a => decide ¬(!(cp b p a).stay) = true) = X.count p := by
        refine List.countP_congr fun x _ => ?_
        simp [cp, Hb.stay]
      rw [h2, hn.count, if_pos hp, List.countP_eq_length_filter] at h1
      omega
    generalize (dropG (fun a => (cp b p a).stay) ((X.length : Int) - most) X).2 = Y at *
    omega
theorem newK_cp (most : Int) (b : List Int) (p : Int) (W : List Int) (s : Int) (pn : Bool) (h : W.Nodup) (hp : p ∈ W) (hs : s ∈ W ∨ pn = (s == p)) (hm : 1 ≤ most) :
    ∃ Y : List Int, newK most (W.map (cp b p)) ⟨s, b, false, pn⟩ = Y.map (cp b p) ∧ Y.Nodup ∧ p ∈ Y ∧ (Y.length : Int) ≤ most := by
  unfold newK
  rw [addK_cp b p W s pn h hs]
  refine settle_cp most b p _ ?_ (got_nodup h) hm
  unfold gotA
  rw [List.mem_append, List.mem_filter]
  by_cases hps : p = s
  · exact .inr (by simp [hps])
  · exact .inl ⟨hp, by simpa using hps⟩
theorem ats_cp (b : List Int) (p : Int) (W : List Int) : (W.map (cp b p)).map Hb.at_ = W := by
  rw [List.map_map]
  exact List.map_id' W
/-- The pin is let go. -/
theorem unpin_cp (b : List Int) (p : Int) : ∀ (W : List Int) (i : Nat) (hi : i < W.length), W.Nodup → W[i] = p → (W.map (cp b p)).set i ⟨p, b, false, false⟩ = W.map (cl b)
  | x :: W, 0, _, hn, h => by
    have h1 := List.nodup_cons.1 hn
    simp only [List.getElem_cons_zero] at h
    subst h
    simp only [List.map_cons, List.set_cons_zero]
    congr 1
    refine List.map_congr_left fun a ha => ?_
    unfold cp cl
    rw [show (a == x) = false by simp only [beq_eq_false_iff_ne, ne_eq]; rintro rfl; exact h1.1 ha]
  | x :: W, i + 1, hi, hn, h => by
    have h1 := List.nodup_cons.1 hn
    simp only [List.getElem_cons_succ] at h
    simp only [List.map_cons, List.set_cons_succ]
    rw [unpin_cp b p W i (by simpa using hi) h1.2 h]
    congr 1
    unfold cp cl
    rw [show (x == p) = false by simp only [beq_eq_false_iff_ne, ne_eq]; intro e; exact h1.1 (e ▸ h ▸ List.getElem_mem _)]
end Go.Ch
