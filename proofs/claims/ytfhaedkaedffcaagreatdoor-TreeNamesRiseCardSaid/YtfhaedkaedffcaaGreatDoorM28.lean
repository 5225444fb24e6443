/- TEXTS of mine, merged. -/
import Derived.Test.YtfhaedkaedffcaaGreatDoorM20
/- A REGION THAT DRAWS ITS ORDER, WITH ONE ALLOCATION THAT MAY COME AT ANY TIME: walked in the text's order, the allocation ahead of each acting operation, and ahead of what waits for it. No program in sight. -/
namespace Go.Own
open Go.RowKit
section
variable {P : Program} {ops : Array Oper} {S : World → Prop} {rd : Nat → Bool} {qc : Qc}
def textOKF (ops : Array Oper) (rd : Nat → Bool) (j s : Nat) : Bool :=
  let A := ahead ops
  Region.noSelect ops && !rd j && (match ops[j]? with | some oj => oj.after.isEmpty | none => false) &&
  ((List.range ops.size).all fun i => match ops[i]?, ops[j]? with
    | some oi, some oj => (oi.after.all fun e => !Region.binds .any e || decide (e.on < i)) &&
      (decide (i = j) || (decide (s ≤ i) && (A.getD i []).contains j) || (oi.apart ops oj && oj.apart ops oi && (decide (i < s) || rd i))) &&
      (List.range i).all fun k => decide (i = j) || decide (k = j) || (A.getD i []).contains k || match ops[k]? with
        | none => true
        | some ok => ok.apart ops oi && (rd k || rd i)
    | _, _ => false)
structure OKF (ops : Array Oper) (rd : Nat → Bool) (j s : Nat) : Prop where
  sel : Region.noSelect ops = true
  rdj : rd j = false
  oj : ∃ oj, ops[j]? = some oj ∧ oj.after = #[]
  edges : ∀ {i : Nat} {oi : Oper}, ops[i]? = some oi → ∀ e ∈ oi.after, Region.binds .any e = true → e.on < i
  float : ∀ {i : Nat} {oi oj : Oper}, ops[i]? = some oi → ops[j]? = some oj → i ≠ j → ¬ Anc ops i j → oi.apart ops oj = true ∧ oj.apart ops oi = true ∧ (i < s ∨ rd i = true)
  low : ∀ {i : Nat} {oi oj : Oper}, ops[i]? = some oi → ops[j]? = some oj → i ≠ j → i < s → oi.apart ops oj = true ∧ oj.apart ops oi = true
  pair : ∀ {i k : Nat} {oi ok : Oper}, ops[i]? = some oi → ops[k]? = some ok → k < i → ¬ Anc ops i k → i ≠ j → k ≠ j → ok.apart ops oi = true ∧ (rd k = true ∨ rd i = true)
theorem okF {j s : Nat} (h : textOKF ops rd j s = true) : OKF ops rd j s := by
  unfold textOKF at h
  simp only [Bool.and_eq_true, List.all_eq_true, List.mem_range] at h
  obtain ⟨⟨⟨h1, h2⟩, h3⟩, h4⟩ := h
  obtain ⟨oj0, hoj0, haf⟩ : ∃ oj, ops[j]? = some oj ∧ oj.after = #[] := by
    cases hj : ops[j]? with
    | none => rw [hj] at h3; simp at h3
    | some oj => rw [hj] at h3; exact ⟨oj, rfl, by simpa using h3⟩
  have row : ∀ {i : Nat} {oi : Oper}, ops[i]? = some oi → (∀ e ∈ oi.after, Region.binds .any e = true → e.on < i) ∧ ((i = j ∨ (s ≤ i ∧ Anc ops i j)) ∨ ((oi.apart ops oj0 = true ∧ oj0.apart ops oi = true) ∧ (i < s ∨ rd i = true))) ∧ (∀ k, k < i → ((i = j ∨ k = j) ∨ Anc ops i k) ∨ (∀ ok, ops[k]? = some ok → ok.apart ops oi = true ∧ (rd k = true ∨ rd i = true))) := by
    intro i oi hi
    have hlt : i < ops.size := (Array.getElem?_eq_some_iff.1 hi).1
    have h5 := h4 i hlt
    simp only [hi, hoj0, Bool.and_eq_true, List.all_eq_true, List.mem_range] at h5
    obtain ⟨⟨h6, h7⟩, h8⟩ := h5
    refine ⟨fun e he hb => ?_, ?_, fun k hk => ?_⟩
    · have := Array.all_eq_true_iff_forall_mem.1 h6 e he
      simpa [hb] using this
    · simp only [Bool.or_eq_true, Bool.and_eq_true, decide_eq_true_eq] at h7
      rcases h7 with (h7 | h7) | h7
      · exact .inl (.inl h7)
      · exact .inl (.inr ⟨h7.1, ahead_spec ops i j (by simpa using h7.2)⟩)
      · exact .inr h7
    · have h9 := h8 k hk
      simp only [Bool.or_eq_true, decide_eq_true_eq] at h9
      rcases h9 with ((h9 | h9) | h9) | h9
      · exact .inl (.inl (.inl h9))
      · exact .inl (.inl (.inr h9))
      · exact .inl (.inr (ahead_spec ops i k (by simpa using h9)))
      · refine .inr fun ok hok => ?_
        rw [hok] at h9
        simpa only [Bool.and_eq_true, Bool.or_eq_true] using h9
  refine ⟨h1, by simpa using h2, ⟨oj0, hoj0, haf⟩, fun hi => (row hi).1, ?_, ?_, ?_⟩
  · intro i oi oj hi hj hij hn
    rw [hoj0] at hj; cases hj
    rcases (row hi).2.1 with (h | h) | h
    · exact absurd h hij
    · exact absurd h.2 hn
    · exact ⟨h.1.1, h.1.2, h.2⟩
  · intro i oi oj hi hj hij hs
    rw [hoj0] at hj; cases hj
    rcases (row hi).2.1 with (h | h) | h
    · exact absurd h hij
    · have := h.1; omega
    · exact h.1
  · intro i k oi ok hi hk hki hn hij hkj
    rcases (row hi).2.2 k hki with ((h | h) | h) | h
    · exact absurd h hij
    · exact absurd h hkj
    · exact absurd h hn
    · exact h ok hk
/-- The text's order, j ahead of each acting operation, or behind them all. -/
def wpF (P : Program) (qc : Qc) (ops : Array Oper) (S : World → Prop) (rd : Nat → Bool) (Q : Act → World → Prop) (j : Nat) (C : List Nat) : List Nat → Act → World → Prop
  | [], a, w => wpT P qc ops S rd Q (j :: C) a w
  | i :: rest, a, w => (rd i = false → wpT P qc ops S rd Q (j :: i :: (rest ++ C)) a w) ∧ stT P qc ops S rd i (wpF P qc ops S rd Q j C rest) a w
variable {Q : Act → World → Prop} {j s : Nat} {oj : Oper}
theorem wpF_first (hsel : Region.noSelect ops = true) (hj : ops[j]? = some oj) (C : List Nat) : ∀ (l : List Nat) (a : Act) (w : World), S w → (∀ i ∈ l, ∃ oi, ops[i]? = some oi ∧ oi.apart ops oj = true) → wpF P qc ops S rd Q j C l a w → wpT P qc ops S rd Q (j :: (l ++ C)) a w
  | [], a, w, _, _, h => h
  | i :: rest, a, w, hS, hl, h => by
    by_cases hr : rd i = true
    · obtain ⟨oi, hi, hap⟩ := hl i List.mem_cons_self
      have h1 : stT P qc ops S rd i (stT P qc ops S rd j (wpT P qc ops S rd Q (rest ++ C))) a w := stT_mono hS (fun a w hS' h' => by
        have := wpF_first hsel hj C rest a w hS' (fun i hi => hl i (List.mem_cons_of_mem _ hi)) h'
        rwa [wpT_cons] at this) h.2
      have h2 := stT_swap hi hj hap (.inl hr) (fun cs b => Region.noSelect_spec hsel i oi cs b hi) (fun cs b => Region.noSelect_spec hsel j oj cs b hj) hS h1
      rw [wpT_cons]
      refine stT_mono hS (fun a w _ h' => ?_) h2
      rw [List.cons_append, wpT_cons]
      exact h'
    · exact h.1 (by simpa using hr)
theorem wpF_take (hsel : Region.noSelect ops = true) (hj : ops[j]? = some oj) (C : List Nat) {x : Nat} {ox : Oper} (hx : ops[x]? = some ox) (hjx : oj.apart ops ox = true) (r2 : List Nat) : ∀ (r1 : List Nat) (a : Act) (w : World), S w → (∀ k ∈ r1, ∃ ok, ops[k]? = some ok ∧ ok.apart ops ox = true ∧ (rd k = true ∨ rd x = true)) → wpF P qc ops S rd Q j C (r1 ++ x :: r2) a w → stT P qc ops S rd x (wpF P qc ops S rd Q j C (r1 ++ r2)) a w
  | [], a, w, _, _, h => h.2
  | k :: r1, a, w, hS, hl, h => by
    obtain ⟨ok, hk, hap, hrd⟩ := hl k List.mem_cons_self
    have hl' : ∀ k ∈ r1, ∃ ok, ops[k]? = some ok ∧ ok.apart ops ox = true ∧ (rd k = true ∨ rd x = true) := fun k hk => hl k (List.mem_cons_of_mem _ hk)
    have h1 : stT P qc ops S rd k (stT P qc ops S rd x (wpF P qc ops S rd Q j C (r1 ++ r2))) a w := stT_mono hS (fun a w hS' h' => wpF_take hsel hj C hx hjx r2 r1 a w hS' hl' h') h.2
    have h2 := stT_swap hk hx hap hrd (fun cs b => Region.noSelect_spec hsel k ok cs b hk) (fun cs b => Region.noSelect_spec hsel x ox cs b hx) hS h1
    by_cases hr : rd k = true
    · exact stT_mono hS (fun a w _ h' => ⟨fun e => absurd (hr.symm.trans e) (by decide), h'⟩) h2
    · have hrx : rd x = true := by simpa [hr] using hrd
      have h3 := h.1 (by simpa using hr)
      have h4 := bubble (rd := rd) hx (r2 ++ C) hsel (j :: k :: r1) a w hS (fun i hi => by
        rcases List.mem_cons.1 hi with rfl | hi
        · exact ⟨oj, hj, hjx, .inr hrx⟩
        · rcases List.mem_cons.1 hi with rfl | hi
          · exact ⟨ok, hk, hap, .inr hrx⟩
          · obtain ⟨oi, e1, e2, e3⟩ := hl' i hi
            exact ⟨oi, e1, e2, e3⟩) (by simpa using h3)
      exact stT_mono hS (fun a w _ h' => ⟨fun _ => by simpa using h'.1, h'.2⟩) (stT_and hx hrx hS h4 h2)
theorem wpF_later (hsel : Region.noSelect ops = true) (hj : ops[j]? = some oj) (C1 C2 : List Nat) {x : Nat} {ox : Oper} (hx : ops[x]? = some ox) (hrx : rd x = true) (hjx : oj.apart ops ox = true) (hC : ∀ k ∈ C1, ∃ ok, ops[k]? = some ok ∧ ok.apart ops ox = true) : ∀ (l : List Nat) (a : Act) (w : World), S w → (∀ k ∈ l, ∃ ok, ops[k]? = some ok ∧ ok.apart ops ox = true) → wpF P qc ops S rd Q j (C1 ++ x :: C2) l a w → stT P qc ops S rd x (wpF P qc ops S rd Q j (C1 ++ C2) l) a w
  | [], a, w, hS, _, h => by
    refine bubble hx C2 hsel (j :: C1) a w hS (fun i hi => ?_) h
    rcases List.mem_cons.1 hi with rfl | hi
    · exact ⟨oj, hj, hjx, .inr hrx⟩
    · obtain ⟨oi, e1, e2⟩ := hC i hi
      exact ⟨oi, e1, e2, .inr hrx⟩
  | k :: l, a, w, hS, hl, h => by
    obtain ⟨ok, hk, hap⟩ := hl k List.mem_cons_self
    have hl' : ∀ k ∈ l, ∃ ok, ops[k]? = some ok ∧ ok.apart ops ox = true := fun k hk => hl k (List.mem_cons_of_mem _ hk)
    have h1 : stT P qc ops S rd k (stT P qc ops S rd x (wpF P qc ops S rd Q j (C1 ++ C2) l)) a w := stT_mono hS (fun a w hS' h' => wpF_later hsel hj C1 C2 hx hrx hjx hC l a w hS' hl' h') h.2
    have h2 := stT_swap hk hx hap (.inr hrx) (fun cs b => Region.noSelect_spec hsel k ok cs b hk) (fun cs b => Region.noSelect_spec hsel x ox cs b hx) hS h1
    by_cases hr : rd k = true
    · exact stT_mono hS (fun a w _ h' => ⟨fun e => absurd (hr.symm.trans e) (by decide), h'⟩) h2
    · have h3 := h.1 (by simpa using hr)
      have h4 := bubble (rd := rd) hx C2 hsel (j :: k :: (l ++ C1)) a w hS (fun i hi => by
        rcases List.mem_cons.1 hi with rfl | hi
        · exact ⟨oj, hj, hjx, .inr hrx⟩
        · rcases List.mem_cons.1 hi with rfl | hi
          · exact ⟨ok, hk, hap, .inr hrx⟩
          · rcases List.mem_append.1 hi with hi | hi
            · obtain ⟨oi, e1, e2⟩ := hl' i hi
              exact ⟨oi, e1, e2, .inr hrx⟩
            · obtain ⟨oi, e1, e2⟩ := hC i hi
              exact ⟨oi, e1, e2, .inr hrx⟩) (by simpa using h3)
      exact stT_mono hS (fun a w _ h' => ⟨fun _ => by simpa using h'.1, h'.2⟩) (stT_and hx hrx hS h4 h2)
theorem text_anyN {Q : Exit → Act → World → Prop} (H : OKF ops rd j s) : ∀ (fuel : Nat) (listed : Array Bool) (rem : List Nat) (a : Act) (w : World),
    listed.size = ops.size → downed ops listed → (∀ i, i ∈ rem ↔ (i < ops.size ∧ listed.getD i true = false)) → rem.Pairwise (· < ·) → rem.length ≤ fuel → j ∉ rem → S w →
    wpT P qc ops S rd (fun a w => Q .normal a w) rem a w → wpAny P .any ops Q fuel listed a w := by
  intro fuel
  induction fuel with
  | zero =>
    intro listed rem a w hsz hd hrem hpw hf hx hS h
    obtain rfl : rem = [] := List.eq_nil_of_length_eq_zero (by omega)
    refine ⟨?_, h⟩
    rw [List.eq_nil_iff_forall_not_mem]
    intro j hj
    obtain ⟨hu, o, ho, -⟩ := mem_ready.1 hj
    have := (hrem j).2 ⟨(Array.getElem?_eq_some_iff.1 ho).1, hu⟩
    simp at this
  | succ fuel ih =>
    intro listed rem a w hsz hd hrem hpw hf hx hS h
    refine ⟨fun hr => ?_, fun x hxr => ?_⟩
    · cases rem with
      | nil => exact h
      | cons i rest =>
        exfalso
        obtain ⟨hlt, hu⟩ := (hrem i).1 (by simp)
        obtain ⟨o, ho⟩ : ∃ o, ops[i]? = some o := ⟨ops[i], by simp [hlt]⟩
        have : i ∈ Region.ready .any ops listed := by
          refine mem_ready.2 ⟨hu, o, ho, fun e he hbe => ?_⟩
          have hlt2 := H.edges ho e he hbe
          by_cases hl : listed.getD e.on true = true
          · rw [Array.getD_eq_getD_getElem?] at hl ⊢
            have : e.on < listed.size := by omega
            simp [this] at hl ⊢; exact hl
          · have hm := (hrem e.on).2 ⟨by omega, by simpa using hl⟩
            rcases List.mem_cons.1 hm with e1 | e1
            · omega
            · have := (List.pairwise_cons.1 hpw).1 _ e1; omega
        rw [hr] at this
        cases this
    · obtain ⟨hu, ox, hox, hall⟩ := mem_ready.1 hxr
      have hxlt := (Array.getElem?_eq_some_iff.1 hox).1
      have hxm := (hrem x).2 ⟨hxlt, hu⟩
      obtain ⟨r1, r2, rfl⟩ := List.append_of_mem hxm
      have hpw' := List.pairwise_append.1 hpw
      have hb := bubble hox r2 H.sel r1 a w hS (fun k hk => by
        obtain ⟨hklt, hku⟩ := (hrem k).1 (by simp [hk])
        obtain ⟨ok, hok'⟩ : ∃ o, ops[k]? = some o := ⟨ops[k], by simp [hklt]⟩
        have hkx : k < x := hpw'.2.2 k hk x (by simp)
        have hn : ¬ Anc ops x k := fun hA => by
          have := downed_anc hd hA (fun o ho e he hbe => by
            rw [hox] at ho; cases ho
            exact hall e he hbe)
          rw [Array.getD_eq_getD_getElem?] at this hku
          have hk2 : k < listed.size := by omega
          simp [hk2] at this hku
          rw [this] at hku; cases hku
        obtain ⟨h1, h2⟩ := H.pair hox hok' hkx hn (fun e => hx (by rw [← e]; simp)) (fun e => hx (by rw [← e]; simp [hk]))
        exact ⟨ok, hok', h1, h2⟩) h
      refine wpOp_of_stT hS (fun a' w' hS' h' => ih (listed.setIfInBounds x true) (r1 ++ r2) a' w' (by simpa using hsz) ?_ ?_ ?_ ?_ (fun hm => hx (by rcases List.mem_append.1 hm with hm | hm <;> simp [hm])) hS' h') hb
      · intro i o ho hl e he hbe
        by_cases hij : i = x
        · subst hij
          rw [hox] at ho; cases ho
          exact getD_set_true (hall e he hbe)
        · rw [getD_set_ne true (Ne.symm hij)] at hl
          exact getD_set_true (hd i o ho hl e he hbe)
      · intro i
        have hnd : (r1 ++ x :: r2).Nodup := hpw.imp (fun h => Nat.ne_of_lt h)
        by_cases hij : i = x
        · subst hij
          have hni : i ∉ r1 ++ r2 := by
            have := List.nodup_append.1 hnd
            intro hm
            rcases List.mem_append.1 hm with hm | hm
            · exact this.2.2 i hm i (by simp) rfl
            · exact (List.nodup_cons.1 this.2.1).1 hm
          have hl : (listed.setIfInBounds i true).getD i true = true := by
            simp [show i < listed.size by omega]
          simp [hni, hl]
        · rw [getD_set_ne true (Ne.symm hij), ← hrem i]
          simp [hij]
      · exact hpw.sublist (List.Sublist.append_left (List.sublist_cons_self _ _) _)
      · simp at hf ⊢; omega
theorem text_anyF {Q : Exit → Act → World → Prop} (H : OKF ops rd j s) : ∀ (fuel : Nat) (listed : Array Bool) (l C : List Nat) (a : Act) (w : World),
    listed.size = ops.size → downed ops listed → (∀ i, i ∈ j :: (l ++ C) ↔ (i < ops.size ∧ listed.getD i true = false)) → (l ++ C).Pairwise (· < ·) → j ∉ l ++ C → (j :: (l ++ C)).length ≤ fuel → (∀ i ∈ l, i < s) → (∀ i ∈ C, s ≤ i) → S w →
    wpF P qc ops S rd (fun a w => Q .normal a w) j C l a w → wpAny P .any ops Q fuel listed a w := by
  intro fuel
  induction fuel with
  | zero => intro listed l C a w hsz hd hrem hpw hjn hf; simp at hf
  | succ fuel ih =>
    intro listed l C a w hsz hd hrem hpw hjn hf hls hCs hS h
    obtain ⟨oj, hoj, haf⟩ := H.oj
    have hju := (hrem j).1 List.mem_cons_self
    have hpw' := List.pairwise_append.1 hpw
    refine ⟨fun hr => ?_, fun x hxr => ?_⟩
    · exfalso
      have : j ∈ Region.ready .any ops listed := mem_ready.2 ⟨hju.2, oj, hoj, fun e he => by rw [haf] at he; simp at he⟩
      rw [hr] at this
      cases this
    · obtain ⟨hu, ox, hox, hall⟩ := mem_ready.1 hxr
      have hxlt := (Array.getElem?_eq_some_iff.1 hox).1
      have hxm := (hrem x).2 ⟨hxlt, hu⟩
      have hnanc : ∀ k, k ∈ j :: (l ++ C) → ¬ Anc ops x k := by
        intro k hk hA
        obtain ⟨hklt, hku⟩ := (hrem k).1 hk
        have := downed_anc hd hA (fun o ho e he hbe => by
          rw [hox] at ho; cases ho
          exact hall e he hbe)
        rw [Array.getD_eq_getD_getElem?] at this hku
        have hk2 : k < listed.size := by omega
        simp [hk2] at this hku
        rw [this] at hku; cases hku
      have hpair : ∀ k, k ∈ l ++ C → k < x → x ≠ j → ∃ ok, ops[k]? = some ok ∧ ok.apart ops ox = true ∧ (rd k = true ∨ rd x = true) := by
        intro k hk hkx hxj
        obtain ⟨hklt, hku⟩ := (hrem k).1 (List.mem_cons_of_mem _ hk)
        obtain ⟨ok, hok'⟩ : ∃ o, ops[k]? = some o := ⟨ops[k], by simp [hklt]⟩
        obtain ⟨h1, h2⟩ := H.pair hox hok' hkx (hnanc k (List.mem_cons_of_mem _ hk)) hxj (fun e => hjn (by rw [← e]; exact hk))
        exact ⟨ok, hok', h1, h2⟩
      have hsz' : (listed.setIfInBounds x true).size = ops.size := by simpa using hsz
      have hd' : downed ops (listed.setIfInBounds x true) := by
        intro i o ho hl e he hbe
        by_cases hij : i = x
        · subst hij
          rw [hox] at ho; cases ho
          exact getD_set_true (hall e he hbe)
        · rw [getD_set_ne true (Ne.symm hij)] at hl
          exact getD_set_true (hd i o ho hl e he hbe)
      have hnd : (j :: (l ++ C)).Nodup := List.nodup_cons.2 ⟨hjn, hpw.imp (fun h => Nat.ne_of_lt h)⟩
      have hrem' : ∀ X : List Nat, (j :: (l ++ C)).Perm (x :: X) → ∀ i, i ∈ X ↔ (i < ops.size ∧ (listed.setIfInBounds x true).getD i true = false) := by
        intro X hX i
        have hnd2 := List.nodup_cons.1 (hX.nodup_iff.1 hnd)
        by_cases hij : i = x
        · subst hij
          have hl : (listed.setIfInBounds i true).getD i true = true := by
            simp [show i < listed.size by omega]
          simp [hnd2.1, hl]
        · rw [getD_set_ne true (Ne.symm hij), ← hrem i, hX.mem_iff]
          simp [hij]
      rcases List.mem_cons.1 hxm with rfl | hc
      · -- the allocation
        rw [hoj] at hox; cases hox
        have h1 := wpF_first H.sel hoj C l a w hS (fun i hi => by
          have hil := ((hrem i).1 (List.mem_cons_of_mem _ (List.mem_append_left _ hi))).1
          obtain ⟨oi, hoi⟩ : ∃ o, ops[i]? = some o := ⟨ops[i], by simp [hil]⟩
          exact ⟨oi, hoi, (H.low hoi hoj (fun e => hjn (by rw [← e]; exact List.mem_append_left _ hi)) (hls i hi)).1⟩) h
        rw [wpT_cons] at h1
        exact wpOp_of_stT hS (fun a' w' hS' h' => text_anyN H fuel (listed.setIfInBounds x true) (l ++ C) a' w' hsz' hd' (hrem' _ (List.Perm.refl _)) hpw (by simp at hf ⊢; omega) hjn hS' h') h1
      · have hxj : x ≠ j := fun e => hjn (by rw [← e]; exact hc)
        obtain ⟨f1, f2, f3⟩ := H.float hox hoj hxj (hnanc j List.mem_cons_self)
        rcases List.mem_append.1 hc with hc | hc
        · obtain ⟨r1, r2, rfl⟩ := List.append_of_mem hc
          have hb := wpF_take H.sel hoj C hox f2 r2 r1 a w hS (fun k hk => hpair k (by simp [hk]) ((List.pairwise_append.1 hpw'.1).2.2 k hk x (by simp)) hxj) h
          refine wpOp_of_stT hS (fun a' w' hS' h' => ih (listed.setIfInBounds x true) (r1 ++ r2) C a' w' hsz' hd' (hrem' _ ?_) ?_ ?_ ?_ ?_ hCs hS' h') hb
          · have := (List.perm_middle (a := x) (l₁ := j :: r1) (l₂ := r2 ++ C))
            simpa using this
          · have : (r1 ++ r2 ++ C).Sublist (r1 ++ x :: r2 ++ C) := by simp
            exact hpw.sublist this
          · intro hm; exact hjn (by simp at hm ⊢; rcases hm with hm | hm | hm <;> simp [hm])
          · simp at hf ⊢; omega
          · intro i hi; exact hls i (by simp at hi ⊢; rcases hi with hi | hi <;> simp [hi])
        · obtain ⟨C1, C2, rfl⟩ := List.append_of_mem hc
          have hxs := hCs x (by simp)
          have hrx : rd x = true := f3.resolve_left (by omega)
          have hb := wpF_later H.sel hoj C1 C2 hox hrx f2 (fun k hk => by
            obtain ⟨ok, e1, e2, -⟩ := hpair k (by simp [hk]) ((List.pairwise_append.1 hpw'.2.1).2.2 k hk x (by simp)) hxj
            exact ⟨ok, e1, e2⟩) l a w hS (fun k hk => by
            obtain ⟨ok, e1, e2, -⟩ := hpair k (by simp [hk]) (hpw'.2.2 k hk x (by simp)) hxj
            exact ⟨ok, e1, e2⟩) h
          refine wpOp_of_stT hS (fun a' w' hS' h' => ih (listed.setIfInBounds x true) l (C1 ++ C2) a' w' hsz' hd' (hrem' _ ?_) ?_ ?_ ?_ hls ?_ hS' h') hb
          · have := (List.perm_middle (a := x) (l₁ := j :: (l ++ C1)) (l₂ := C2))
            simpa using this
          · have : (l ++ (C1 ++ C2)).Sublist (l ++ (C1 ++ x :: C2)) := by simp
            exact hpw.sublist this
          · intro hm; exact hjn (by simp at hm ⊢; rcases hm with hm | hm | hm <;> simp [hm])
          · simp at hf ⊢; omega
          · intro i hi; exact hCs i (by simp at hi ⊢; rcases hi with hi | hi <;> simp [hi])
/-! ### Operation by operation -/
def stL (P : Program) (qc : Qc) (ops : Array Oper) (S : World → Prop) (o : Oper) (K : Act → World → Prop) (a : Act) (w : World) : Prop :=
  if Region.wanted o (yielded ops a.tmps) = true then
    (if isReader qc o = true then ∃ v, readsAt P qc S o a v ∧ K (a.put o.dst v) w
    else o.wp P a w (fun a' w' => S w' ∧ K a' w') (fun _ _ _ => False))
  else K (a.put o.dst undef) w
def wpl0F (P : Program) (qc : Qc) (ops : Array Oper) (S : World → Prop) (Q : Act → World → Prop) (oj : Oper) (C : List Oper) : List Oper → Act → World → Prop
  | [], a, w => wpl0 P qc ops S Q (oj :: C) a w
  | o :: rest, a, w => (isReader qc o = false → wpl0 P qc ops S Q (oj :: o :: (rest ++ C)) a w) ∧ stL P qc ops S o (wpl0F P qc ops S Q oj C rest) a w
theorem stT_of_stL {i : Nat} {o : Oper} (hi : ops[i]? = some o) {K K' : Act → World → Prop} (h : ∀ a w, K a w → K' a w) {a : Act} {w : World} (hh : stL P qc ops S o K a w) : stT P qc ops S (rdAt qc ops) i K' a w := by
  have hrd : rdAt qc ops i = isReader qc o := by simp [rdAt, hi]
  unfold stT
  unfold stL at hh
  simp only [hi, hrd]
  split
  · rename_i hw
    simp only [hw, if_true] at hh
    split
    · rename_i hr
      simp only [hr, if_true] at hh
      obtain ⟨v, h1, h2⟩ := hh
      exact ⟨v, h1, h _ _ h2⟩
    · rename_i hr
      simp only [hr, if_false, Bool.false_eq_true] at hh
      exact Oper.wp_mono (fun a w ⟨s1, s2⟩ => ⟨s1, h _ _ s2⟩) hh
  · rename_i hw
    simp only [hw, if_false, Bool.false_eq_true] at hh
    exact h _ _ hh
theorem wpF_of_list {Q : Act → World → Prop} (hj : ops[j]? = some oj) (C : List Oper) (cx : List Nat) (hC : cx.map (fun i => ops[i]?) = C.map some) : ∀ (l : List Oper) (ix : List Nat) (a : Act) (w : World), ix.map (fun i => ops[i]?) = l.map some → wpl0F P qc ops S Q oj C l a w → wpF P qc ops S (rdAt qc ops) Q j cx ix a w
  | [], ix, a, w, hl, h => by
    have : ix = [] := by simpa using hl
    subst this
    exact wpT_of_list (oj :: C) (j :: cx) a w (by rw [List.map_cons, List.map_cons, hj, hC]) h
  | o :: l, ix, a, w, hl, h => by
    cases ix with
    | nil => simp at hl
    | cons n ix =>
      rw [List.map_cons, List.map_cons, List.cons.injEq] at hl
      obtain ⟨ho, hl'⟩ := hl
      have hrd : rdAt qc ops n = isReader qc o := by simp [rdAt, ho]
      refine ⟨fun hr => ?_, stT_of_stL ho (fun a w h => wpF_of_list hj C cx hC l ix a w hl' h) h.2⟩
      exact wpT_of_list (oj :: o :: (l ++ C)) (j :: n :: (ix ++ cx)) a w (by rw [List.map_cons, List.map_cons, List.map_cons, List.map_cons, hj, ho, List.map_append, List.map_append, hl', hC]) (h.1 (by rw [← hrd]; exact hr))
/-- The walk of such a region. -/
structure wpLF (P : Program) (qc : Qc) (ops : Array Oper) (S : World → Prop) (Q : Act → World → Prop) (oj : Oper) (C l : List Oper) (a : Act) (w : World) : Prop where
  out : wpl0F P qc ops S Q oj C l a w
theorem wpLF_nil {Q : Act → World → Prop} {C : List Oper} {a : Act} {w : World} (h : wpL P qc ops S Q (oj :: C) a w) : wpLF P qc ops S Q oj C [] a w := ⟨h.out⟩
theorem wpLF_skip {Q : Act → World → Prop} {C : List Oper} {o : Oper} {rest : List Oper} {a : Act} {w : World} (hw : Region.wanted o (yielded ops a.tmps) = false) (hr : isReader qc o = true) (h : wpLF P qc ops S Q oj C rest (a.put o.dst undef) w) : wpLF P qc ops S Q oj C (o :: rest) a w :=
  ⟨⟨fun e => by rw [hr] at e; (cases e), by unfold stL; rw [hw, if_neg (by decide)]; exact h.out⟩⟩
theorem wpLF_read {Q : Act → World → Prop} {C : List Oper} {o : Oper} {rest : List Oper} {a : Act} {w : World} (hw : Region.wanted o (yielded ops a.tmps) = true) (hr : isReader qc o = true) (v : Value)
    (hv : ∀ w, S w → (execOp a.eval o).run P w = .ok (.value v) w) (h : wpLF P qc ops S Q oj C rest (a.put o.dst v) w) : wpLF P qc ops S Q oj C (o :: rest) a w :=
  ⟨⟨fun e => by rw [hr] at e; (cases e), by unfold stL; rw [hw, hr, if_pos rfl, if_pos rfl]; exact ⟨v, .inl hv, h.out⟩⟩⟩
theorem wpLF_call {Q : Act → World → Prop} {C : List Oper} {o : Oper} {rest : List Oper} {a : Act} {w : World} (hw : Region.wanted o (yielded ops a.tmps) = true) (hr : isReader qc o = true) (f : FuncId) (args : Array Value) (v : Value) (hval : qc.val f args = v)
    (he : ∀ w, S w → (execOp a.eval o).run P w = .ok (.enter f args) w) (hc : ∀ w, S w → Calls P f args w fun e w' => e = .returned v ∧ w = w') (h : wpLF P qc ops S Q oj C rest (a.put o.dst v) w) : wpLF P qc ops S Q oj C (o :: rest) a w := by
  subst hval
  exact ⟨⟨fun e => by rw [hr] at e; (cases e), by unfold stL; rw [hw, hr, if_pos rfl, if_pos rfl]; exact ⟨_, .inr ⟨f, args, rfl, fun w hS => ⟨he w hS, hc w hS⟩⟩, h.out⟩⟩⟩
/-- An acting operation: the allocation ahead of it, or later. -/
theorem wpLF_act {Q : Act → World → Prop} {C : List Oper} {o : Oper} {rest : List Oper} {a : Act} {w : World} (hw : Region.wanted o (yielded ops a.tmps) = true) (hr : isReader qc o = false)
    (hb : wpL P qc ops S Q (oj :: o :: (rest ++ C)) a w)
    (h : ∀ K : Act → World → Prop, Hid (∀ a w, S w → wpLF P qc ops S Q oj C rest a w → K a w) → o.wp P a w K (fun _ _ _ => False)) : wpLF P qc ops S Q oj C (o :: rest) a w :=
  ⟨⟨fun _ => hb.out, by
    unfold stL
    rw [hw, hr, if_pos rfl, if_neg (by decide)]
    exact h _ (hid fun a w h1 h2 => ⟨h1, h2.out⟩)⟩⟩
/-- A REGION THAT DRAWS ITS ORDER, ONE ALLOCATION (number j; what waits for it begins at number s) AT ANY TIME. -/
theorem region_textF {id : Nat} {a : Act} {w : World} {Q : Exit → Act → World → Prop} (qc : Qc) (S : World → Prop) (j s : Nat) (A B C : List Oper) (oj : Oper) (hm : P.follows .mixedOrders = true) (hok : textOKF ops (rdAt qc ops) j s = true) (hops : ops.toList = A ++ oj :: (B ++ C)) (hA : A.length = j) (hB : j + 1 + B.length = s) (hS : S w.drew)
    (h : wpLF P qc ops S (fun a w => Q .normal a w) oj C (A ++ B) a w.drew) : (Code.region id ops true).wp P Q a w := by
  have H := okF hok
  have hsz : ops.size = j + 1 + B.length + C.length := by
    have := congrArg List.length hops
    simp at this; omega
  have at_ : ∀ i, ops[i]? = (A ++ oj :: (B ++ C))[i]? := fun i => by rw [← hops, Array.getElem?_toList]
  have hjo : ops[j]? = some oj := by rw [at_, List.getElem?_append_right (by omega)]; simp [hA]
  have ea : (List.range j).map (fun i => ops[i]?) = A.map some := by
    apply List.ext_getElem?
    intro i
    by_cases hi : i < j
    · rw [List.getElem?_map, List.getElem?_range hi, Option.map_some, at_, List.getElem?_append_left (by omega), List.getElem?_map, List.getElem?_eq_getElem (by omega)]; simp
    · rw [List.getElem?_eq_none (by simp; omega), List.getElem?_eq_none (by simp; omega)]
  have eb : (List.range' (j + 1) B.length).map (fun i => ops[i]?) = B.map some := by
    apply List.ext_getElem?
    intro i
    by_cases hi : i < B.length
    · rw [List.getElem?_map, List.getElem?_range' hi, Option.map_some, at_, List.getElem?_append_right (by omega), show j + 1 + 1 * i - A.length = i + 1 by omega, List.getElem?_cons_succ, List.getElem?_append_left hi, List.getElem?_map, List.getElem?_eq_getElem hi]; simp
    · rw [List.getElem?_eq_none (by simp; omega), List.getElem?_eq_none (by simp; omega)]
  have ec : (List.range' s C.length).map (fun i => ops[i]?) = C.map some := by
    apply List.ext_getElem?
    intro i
    by_cases hi : i < C.length
    · rw [List.getElem?_map, List.getElem?_range' hi, Option.map_some, at_, List.getElem?_append_right (by omega), show s + 1 * i - A.length = (B.length + i) + 1 by omega, List.getElem?_cons_succ, List.getElem?_append_right (by omega), show B.length + i - B.length = i by omega, List.getElem?_map, List.getElem?_eq_getElem hi]; simp
    · rw [List.getElem?_eq_none (by simp; omega), List.getElem?_eq_none (by simp; omega)]
  have hmem : ∀ i, i ∈ j :: (List.range j ++ List.range' (j + 1) B.length ++ List.range' s C.length) ↔ i < ops.size := by
    intro i
    simp only [List.mem_cons, List.mem_append, List.mem_range, List.mem_range'_1]
    omega
  refine wp_region_any hm ?_
  refine text_anyF (qc := qc) (rd := rdAt qc ops) (S := S) H ops.size _ (List.range j ++ List.range' (j + 1) B.length) (List.range' s C.length) a _ (by simp) ?_ ?_ ?_ ?_ ?_ ?_ ?_ hS ?_
  · intro i o ho hl
    have hlt := (Array.getElem?_eq_some_iff.1 ho).1
    simp [hlt] at hl
  · intro i
    rw [hmem]
    by_cases hlt : i < ops.size <;> simp [hlt]
  · rw [List.pairwise_append, List.pairwise_append]
    refine ⟨⟨List.pairwise_lt_range, List.pairwise_lt_range', fun a ha b hb => ?_⟩, List.pairwise_lt_range', fun a ha b hb => ?_⟩
    · simp only [List.mem_range, List.mem_range'_1] at ha hb; omega
    · simp only [List.mem_append, List.mem_range, List.mem_range'_1] at ha hb; omega
  · simp only [List.mem_append, List.mem_range, List.mem_range'_1]; omega
  · simp; omega
  · intro i hi; simp only [List.mem_append, List.mem_range, List.mem_range'_1] at hi; omega
  · intro i hi; simp only [List.mem_range'_1] at hi; omega
  · exact wpF_of_list hjo C (List.range' s C.length) ec (A ++ B) _ a w.drew (by rw [List.map_append, List.map_append, ea, eb]) h.out
end
end Go.Own
