/- A REGION THAT DRAWS ITS ORDER, TWO OF WHOSE ACTING OPERATIONS MAY COME IN EITHER ORDER: walked twice. No program in sight. -/
import Derived.Test.YtihfhigkpkamiaaText
namespace Go.Own
open Go.RowKit
section
variable {P : Program} {ops : Array Oper} {S : World → Prop} {rd : Nat → Bool}
/-- Every pair but one may change places, where one is a reader. -/
def PairOK (ops : Array Oper) (rd : Nat → Bool) (p q : Nat) : Prop := ∀ {i k : Nat} {oi ok : Oper}, ops[i]? = some oi → ops[k]? = some ok → k < i → ¬ Anc ops i k → ¬ (k = p ∧ i = q) → ok.apart ops oi = true ∧ (rd k = true ∨ rd i = true)
def textOK2 (ops : Array Oper) (rd : Nat → Bool) (p q : Nat) : Bool :=
  let A := ahead ops
  Region.noSelect ops &&
  ((List.range ops.size).all fun i => match ops[i]? with
    | none => true
    | some oi => (oi.after.all fun e => Region.binds .any e && decide (e.on < i)) &&
      (List.range i).all fun k => (A.getD i []).contains k || (decide (k = p) && decide (i = q)) || match ops[k]? with
        | none => true
        | some ok => ok.apart ops oi && (rd k || rd i)) &&
  ((List.range ops.size).all fun j => !(decide (p < j) && decide (j < q)) || match ops[p]?, ops[j]? with
    | some op, some oj => oj.apart ops op && rd j && !rd p
    | _, _ => false)
theorem textOK2_pair {p q : Nat} (h : textOK2 ops rd p q = true) : PairOK ops rd p q := by
  intro i k oi ok hi hk hki hn hne
  unfold textOK2 at h
  simp only [Bool.and_eq_true, List.all_eq_true, List.mem_range] at h
  have hlt : i < ops.size := (Array.getElem?_eq_some_iff.1 hi).1
  have h1 := h.1.2 i hlt
  simp only [hi, Bool.and_eq_true, List.all_eq_true, List.mem_range] at h1
  have h2 := h1.2 k hki
  simp only [hk, Bool.or_eq_true, Bool.and_eq_true, decide_eq_true_eq] at h2
  rcases h2 with (h2 | h2) | h2
  · exact absurd (ahead_spec ops i k (by simpa using h2)) hn
  · exact absurd h2 hne
  · exact h2
theorem textOK2_edges {p q : Nat} (h : textOK2 ops rd p q = true) {i : Nat} {oi : Oper} (hi : ops[i]? = some oi) : ∀ e ∈ oi.after, Region.binds .any e = true ∧ e.on < i := by
  unfold textOK2 at h
  simp only [Bool.and_eq_true, List.all_eq_true, List.mem_range] at h
  have hlt : i < ops.size := (Array.getElem?_eq_some_iff.1 hi).1
  have h1 := h.1.2 i hlt
  simp only [hi, Bool.and_eq_true] at h1
  intro e he
  have := Array.all_eq_true_iff_forall_mem.1 h1.1 e he
  simpa using this
theorem textOK2_sel {p q : Nat} (h : textOK2 ops rd p q = true) : Region.noSelect ops = true := by
  unfold textOK2 at h
  simp only [Bool.and_eq_true] at h
  exact h.1.1
theorem textOK2_mid {p q : Nat} (h : textOK2 ops rd p q = true) {op : Oper} (hp : ops[p]? = some op) {j : Nat} (h1 : p < j) (h2 : j < q) (h3 : j < ops.size) : ∃ oj, ops[j]? = some oj ∧ oj.apart ops op = true ∧ rd j = true := by
  unfold textOK2 at h
  simp only [Bool.and_eq_true, List.all_eq_true, List.mem_range] at h
  have h4 := h.2 j h3
  have hj : ops[j]? = some ops[j] := by simp [h3]
  rw [hp, hj] at h4
  simp [h1, h2] at h4
  exact ⟨_, hj, h4.1.1, h4.1.2⟩
theorem text_anyX {Q : Exit → Act → World → Prop} {p q : Nat} (hsel : Region.noSelect ops = true) (hE : ∀ {i : Nat} {oi : Oper}, ops[i]? = some oi → ∀ e ∈ oi.after, Region.binds .any e = true ∧ e.on < i) (hpq : PairOK ops rd p q) : ∀ (fuel : Nat) (listed : Array Bool) (rem : List Nat) (a : Act) (w : World),
    listed.size = ops.size → downed ops listed → (∀ i, i ∈ rem ↔ (i < ops.size ∧ listed.getD i true = false)) → rem.Pairwise (· < ·) → rem.length ≤ fuel → (p ∉ rem ∨ q ∉ rem) → S w →
    wpT P ops S rd (fun a w => Q .normal a w) rem a w → wpAny P .any ops Q fuel listed a w := by
  intro fuel
  induction fuel with
  | zero =>
    intro listed rem a w hsz hd hrem hpw hf hx hS h
    obtain rfl : rem = [] := List.eq_nil_of_length_eq_zero (by omega)
    refine ⟨?_, h⟩
    rw [List.eq_nil_iff_forall_not_mem]
    intro j hj
    obtain ⟨hu, o, ho, -⟩ := mem_ready.1 hj
    have := (hrem j).2 ⟨(Array.getElem?_eq_some_iff.1 ho).1, hu⟩
    simp at this
  | succ fuel ih =>
    intro listed rem a w hsz hd hrem hpw hf hx hS h
    refine ⟨fun hr => ?_, fun j hj => ?_⟩
    · cases rem with
      | nil => exact h
      | cons i rest =>
        exfalso
        obtain ⟨hlt, hu⟩ := (hrem i).1 (by simp)
        obtain ⟨o, ho⟩ : ∃ o, ops[i]? = some o := ⟨ops[i], by simp [hlt]⟩
        have : i ∈ Region.ready .any ops listed := by
          refine mem_ready.2 ⟨hu, o, ho, fun e he _ => ?_⟩
          have hlt2 := (hE ho e he).2
          by_cases hl : listed.getD e.on true = true
          · rw [Array.getD_eq_getD_getElem?] at hl ⊢
            have : e.on < listed.size := by omega
            simp [this] at hl ⊢; exact hl
          · have hm := (hrem e.on).2 ⟨by omega, by simpa using hl⟩
            rcases List.mem_cons.1 hm with e1 | e1
            · omega
            · have := (List.pairwise_cons.1 hpw).1 _ e1; omega
        rw [hr] at this
        cases this
    · obtain ⟨hu, oj, hoj, hall⟩ := mem_ready.1 hj
      have hjlt := (Array.getElem?_eq_some_iff.1 hoj).1
      have hjm := (hrem j).2 ⟨hjlt, hu⟩
      obtain ⟨r1, r2, rfl⟩ := List.append_of_mem hjm
      have hpw' := List.pairwise_append.1 hpw
      have hb := bubble hoj r2 hsel r1 a w hS (fun k hk => by
        obtain ⟨hklt, hku⟩ := (hrem k).1 (by simp [hk])
        obtain ⟨ok, hok'⟩ : ∃ o, ops[k]? = some o := ⟨ops[k], by simp [hklt]⟩
        have hkj : k < j := hpw'.2.2 k hk j (by simp)
        have hn : ¬ Anc ops j k := fun hA => by
          have := downed_anc hd hA (fun o ho e he => by
            rw [hoj] at ho; cases ho
            exact hall e he (hE hoj e he).1)
          rw [Array.getD_eq_getD_getElem?] at this hku
          have hk2 : k < listed.size := by omega
          simp [hk2] at this hku
          rw [this] at hku; cases hku
        obtain ⟨h1, h2⟩ := hpq hoj hok' hkj hn (fun hc => by rcases hx with hx | hx; (exact hx (hc.1 ▸ by simp [hk])); (exact hx (hc.2 ▸ by simp)))
        exact ⟨ok, hok', h1, h2⟩) h
      refine wpOp_of_stT hS (fun a' w' hS' h' => ih (listed.setIfInBounds j true) (r1 ++ r2) a' w' (by simpa using hsz) ?_ ?_ ?_ ?_ (hx.imp (fun h hm => h (by rcases List.mem_append.1 hm with hm | hm <;> simp [hm])) (fun h hm => h (by rcases List.mem_append.1 hm with hm | hm <;> simp [hm]))) hS' h') hb
      · intro i o ho hl e he
        by_cases hij : i = j
        · subst hij
          rw [hoj] at ho; cases ho
          exact getD_set_true (hall e he (hE hoj e he).1)
        · rw [getD_set_ne true (Ne.symm hij)] at hl
          exact getD_set_true (hd i o ho hl e he)
      · intro i
        have hnd : (r1 ++ j :: r2).Nodup := hpw.imp (fun h => Nat.ne_of_lt h)
        by_cases hij : i = j
        · subst hij
          have hni : i ∉ r1 ++ r2 := by
            have := List.nodup_append.1 hnd
            intro hm
            rcases List.mem_append.1 hm with hm | hm
            · exact this.2.2 i hm i (by simp) rfl
            · exact (List.nodup_cons.1 this.2.1).1 hm
          have hl : (listed.setIfInBounds i true).getD i true = true := by
            simp [show i < listed.size by omega]
          simp [hni, hl]
        · rw [getD_set_ne true (Ne.symm hij), ← hrem i]
          simp [hij]
      · exact hpw.sublist (List.Sublist.append_left (List.sublist_cons_self _ _) _)
      · simp at hf ⊢; omega
theorem wpT_prefix {Q : Act → World → Prop} {X Y : List Nat} (h : ∀ a w, S w → wpT P ops S rd Q X a w → wpT P ops S rd Q Y a w) : ∀ (r : List Nat) (a : Act) (w : World), S w → wpT P ops S rd Q (r ++ X) a w → wpT P ops S rd Q (r ++ Y) a w
  | [], a, w, hS, hh => h a w hS hh
  | i :: r, a, w, hS, hh => by
    rw [List.cons_append, wpT_cons] at hh ⊢
    exact stT_mono hS (fun a w hS' h' => wpT_prefix h r a w hS' h') hh
theorem wpT_mono {Q K : Act → World → Prop} (h : ∀ a w, S w → Q a w → K a w) : ∀ (r : List Nat) (a : Act) (w : World), S w → wpT P ops S rd Q r a w → wpT P ops S rd K r a w
  | [], a, w, hS, hh => h a w hS hh
  | i :: r, a, w, hS, hh => by
    rw [wpT_cons] at hh ⊢
    exact stT_mono hS (fun a w hS' h' => wpT_mono h r a w hS' h') hh
theorem wpT_append {Q : Act → World → Prop} (m : List Nat) : ∀ (l : List Nat) (a : Act) (w : World), S w → (wpT P ops S rd (wpT P ops S rd Q m) l a w ↔ wpT P ops S rd Q (l ++ m) a w)
  | [], a, w, _ => Iff.rfl
  | i :: l, a, w, hS => by
    rw [List.cons_append, wpT_cons, wpT_cons]
    exact ⟨stT_mono hS fun a w hS' h => (wpT_append m l a w hS').1 h, stT_mono hS fun a w hS' h => (wpT_append m l a w hS').2 h⟩
theorem stT_and {j : Nat} {oj : Oper} (hj : ops[j]? = some oj) (hr : rd j = true) {K K' : Act → World → Prop} {a : Act} {w : World} (hS : S w) (h1 : stT P ops S rd j K a w) (h2 : stT P ops S rd j K' a w) : stT P ops S rd j (fun a w => K a w ∧ K' a w) a w := by
  unfold stT at *
  simp only [hj, hr, if_true] at *
  by_cases hw : Region.wanted oj (yielded ops a.tmps) = true
  · simp only [hw, if_true] at *
    obtain ⟨v, a1, a2⟩ := h1
    obtain ⟨v', b1, b2⟩ := h2
    have e := (a1 w hS).symm.trans (b1 w hS)
    injection e with e
    injection e with e
    subst e
    exact ⟨v, a1, a2, b2⟩
  · simp only [hw, if_false, Bool.false_eq_true] at *
    exact ⟨h1, h2⟩
theorem text_any2 {Q : Exit → Act → World → Prop} {p q : Nat} {op : Oper} (hp : ops[p]? = some op) (hrp : rd p = false) (hlt : p < q) (hsel : Region.noSelect ops = true) (hE : ∀ {i : Nat} {oi : Oper}, ops[i]? = some oi → ∀ e ∈ oi.after, Region.binds .any e = true ∧ e.on < i) (hpq : PairOK ops rd p q)
    (hmid : ∀ {j : Nat}, p < j → j < q → j < ops.size → ∃ oj, ops[j]? = some oj ∧ oj.apart ops op = true ∧ rd j = true) : ∀ (fuel : Nat) (listed : Array Bool) (r m s : List Nat) (a : Act) (w : World),
    listed.size = ops.size → downed ops listed → (∀ i, i ∈ r ++ p :: (m ++ q :: s) ↔ (i < ops.size ∧ listed.getD i true = false)) → (r ++ p :: (m ++ q :: s)).Pairwise (· < ·) → (r ++ p :: (m ++ q :: s)).length ≤ fuel → S w →
    wpT P ops S rd (fun a w => wpT P ops S rd (fun a w => Q .normal a w) (p :: q :: s) a w ∧ wpT P ops S rd (fun a w => Q .normal a w) (q :: p :: s) a w) (r ++ m) a w → wpAny P .any ops Q fuel listed a w := by
  intro fuel
  induction fuel with
  | zero => intro listed r m s a w hsz hd hrem hpw hf; simp at hf
  | succ fuel ih =>
    intro listed r m s a w hsz hd hrem hpw hf hS h
    have hpw1 := List.pairwise_append.1 hpw
    have hpw2 := List.pairwise_cons.1 hpw1.2.1
    have hpw3 := List.pairwise_append.1 hpw2.2
    have hpw4 := List.pairwise_cons.1 hpw3.2.1
    refine ⟨fun hr => ?_, fun j hj => ?_⟩
    · exfalso
      obtain ⟨i, rest, hi⟩ : ∃ i rest, r ++ p :: (m ++ q :: s) = i :: rest := by cases r <;> exact ⟨_, _, rfl⟩
      obtain ⟨hlt', hu⟩ := (hrem i).1 (by rw [hi]; simp)
      obtain ⟨o, ho⟩ : ∃ o, ops[i]? = some o := ⟨ops[i], by simp [hlt']⟩
      have : i ∈ Region.ready .any ops listed := by
        refine mem_ready.2 ⟨hu, o, ho, fun e he _ => ?_⟩
        have hlt2 := (hE ho e he).2
        by_cases hl : listed.getD e.on true = true
        · rw [Array.getD_eq_getD_getElem?] at hl ⊢
          have : e.on < listed.size := by omega
          simp [this] at hl ⊢; exact hl
        · have hm := (hrem e.on).2 ⟨by omega, by simpa using hl⟩
          rw [hi] at hm hpw
          rcases List.mem_cons.1 hm with e1 | e1
          · omega
          · have := (List.pairwise_cons.1 hpw).1 _ e1; omega
      rw [hr] at this
      cases this
    · obtain ⟨hu, oj, hoj, hall⟩ := mem_ready.1 hj
      have hjlt := (Array.getElem?_eq_some_iff.1 hoj).1
      have hjm := (hrem j).2 ⟨hjlt, hu⟩
      have hpair : ∀ k, k ∈ r ++ p :: (m ++ q :: s) → k < j → ¬ (k = p ∧ j = q) → ∃ ok, ops[k]? = some ok ∧ ok.apart ops oj = true ∧ (rd k = true ∨ rd j = true) := by
        intro k hk hkj hne
        obtain ⟨hklt, hku⟩ := (hrem k).1 hk
        obtain ⟨ok, hok'⟩ : ∃ o, ops[k]? = some o := ⟨ops[k], by simp [hklt]⟩
        have hn : ¬ Anc ops j k := fun hA => by
          have := downed_anc hd hA (fun o ho e he => by
            rw [hoj] at ho; cases ho
            exact hall e he (hE hoj e he).1)
          rw [Array.getD_eq_getD_getElem?] at this hku
          have hk2 : k < listed.size := by omega
          simp [hk2] at this hku
          rw [this] at hku; cases hku
        obtain ⟨h1, h2⟩ := hpq hoj hok' hkj hn hne
        exact ⟨ok, hok', h1, h2⟩
      have hsz' : (listed.setIfInBounds j true).size = ops.size := by simpa using hsz
      have hd' : downed ops (listed.setIfInBounds j true) := by
        intro i o ho hl e he
        by_cases hij : i = j
        · subst hij
          rw [hoj] at ho; cases ho
          exact getD_set_true (hall e he (hE hoj e he).1)
        · rw [getD_set_ne true (Ne.symm hij)] at hl
          exact getD_set_true (hd i o ho hl e he)
      have hnd : (r ++ p :: (m ++ q :: s)).Nodup := hpw.imp (fun h => Nat.ne_of_lt h)
      have hrem' : ∀ X : List Nat, (r ++ p :: (m ++ q :: s)).Perm (j :: X) → ∀ i, i ∈ X ↔ (i < ops.size ∧ (listed.setIfInBounds j true).getD i true = false) := by
        intro X hX i
        have hnd2 := List.nodup_cons.1 (hX.nodup_iff.1 hnd)
        by_cases hij : i = j
        · subst hij
          have hl : (listed.setIfInBounds i true).getD i true = true := by
            simp [show i < listed.size by omega]
          simp [hnd2.1, hl]
        · rw [getD_set_ne true (Ne.symm hij), ← hrem i, hX.mem_iff]
          simp [hij]
      rcases List.mem_append.1 hjm with hc | hc
      · -- in r
        obtain ⟨r1, r2, rfl⟩ := List.append_of_mem hc
        have hlast := (List.pairwise_append.1 hpw1.1).2.2
        have hb := bubble hoj (r2 ++ m) hsel r1 a w hS (fun k hk => hpair k (by simp [hk]) (hlast k hk j (by simp)) (fun hne => by have := hpw1.2.2 j (by simp) p (by simp); omega)) (by simpa using h)
        refine wpOp_of_stT hS (fun a' w' hS' h' => ih (listed.setIfInBounds j true) (r1 ++ r2) m s a' w' hsz' hd' (hrem' _ (by simp)) ?_ ?_ hS' (by simpa using h')) hb
        · have : (r1 ++ r2 ++ p :: (m ++ q :: s)).Sublist (r1 ++ j :: r2 ++ p :: (m ++ q :: s)) := by simp
          exact hpw.sublist this
        · simp at hf ⊢; omega
      · rcases List.mem_cons.1 hc with rfl | hc
        · -- p itself
          rw [hp] at hoj; cases hoj
          have h1 := wpT_mono (K := wpT P ops S rd (fun a w => Q .normal a w) (j :: q :: s)) (fun a w _ h => h.1) _ a w hS h
          rw [wpT_append _ _ _ _ hS] at h1
          have hb := bubble hp (q :: s) hsel (r ++ m) a w hS (fun k hk => by
            rcases List.mem_append.1 hk with hk | hk
            · exact hpair k (by simp [hk]) (hpw1.2.2 k hk j (by simp)) (fun hne => by omega)
            · have hjk := hpw2.1 k (by simp [hk])
              obtain ⟨ok, e1, e2, e3⟩ := hmid hjk (hpw3.2.2 k hk q (by simp)) ((hrem k).1 (by simp [hk])).1
              exact ⟨ok, e1, e2, .inl e3⟩) h1
          refine wpOp_of_stT hS (fun a' w' hS' h' => text_anyX hsel hE hpq fuel (listed.setIfInBounds j true) (r ++ m ++ q :: s) a' w' hsz' hd' (hrem' _ (by simp)) ?_ ?_ (.inl ?_) hS' h') hb
          · have : (r ++ m ++ q :: s).Sublist (r ++ j :: (m ++ q :: s)) := by rw [List.append_assoc]; exact List.Sublist.append_left (List.sublist_cons_self _ _) _
            exact hpw.sublist this
          · simp at hf ⊢; omega
          · have := List.nodup_cons.1 ((List.perm_middle.nodup_iff).1 hnd)
            simpa using this.1
        · rcases List.mem_append.1 hc with hc | hc
          · -- in m
            obtain ⟨m1, m2, rfl⟩ := List.append_of_mem hc
            have hlast := (List.pairwise_append.1 hpw3.1).2.2
            have hpj := hpw2.1 j (by simp)
            have hjq := hpw3.2.2 j (by simp) q (by simp)
            have hb := bubble hoj m2 hsel (r ++ m1) a w hS (fun k hk => by
              rcases List.mem_append.1 hk with hk | hk
              · exact hpair k (by simp [hk]) (hpw1.2.2 k hk j (by simp)) (fun hne => by omega)
              · exact hpair k (by simp [hk]) (hlast k hk j (by simp)) (fun hne => by omega)) (by simpa using h)
            refine wpOp_of_stT hS (fun a' w' hS' h' => ih (listed.setIfInBounds j true) r (m1 ++ m2) s a' w' hsz' hd' (hrem' _ ?_) ?_ ?_ hS' (by simpa using h')) hb
            · have := (List.perm_middle (a := j) (l₁ := r ++ p :: m1) (l₂ := m2 ++ q :: s))
              simpa using this
            · have : (r ++ p :: (m1 ++ m2 ++ q :: s)).Sublist (r ++ p :: (m1 ++ j :: m2 ++ q :: s)) := by simp
              exact hpw.sublist this
            · simp at hf ⊢; omega
          · rcases List.mem_cons.1 hc with rfl | hc
            · -- q itself
              have h1 := wpT_mono (K := wpT P ops S rd (fun a w => Q .normal a w) (j :: p :: s)) (fun a w _ h => h.2) _ a w hS h
              rw [wpT_append _ _ _ _ hS] at h1
              have hb := bubble hoj (p :: s) hsel (r ++ m) a w hS (fun k hk => by
                rcases List.mem_append.1 hk with hk | hk
                · exact hpair k (by simp [hk]) (hpw1.2.2 k hk j (by simp)) (fun hne => by have := hpw1.2.2 k hk p (by simp); omega)
                · exact hpair k (by simp [hk]) (hpw3.2.2 k hk j (by simp)) (fun hne => by have := hpw2.1 k (by simp [hk]); omega)) h1
              refine wpOp_of_stT hS (fun a' w' hS' h' => ?_) hb
              have h2 : wpT P ops S rd (fun a w => Q .normal a w) (r ++ (p :: (m ++ s))) a' w' := by
                refine wpT_prefix (X := m ++ p :: s) (fun a w hS h => ?_) r a' w' hS' (by simpa using h')
                rw [wpT_cons]
                refine bubble hp s hsel m a w hS (fun k hk => ?_) h
                obtain ⟨ok, e1, e2, e3⟩ := hmid (hpw2.1 k (by simp [hk])) (hpw3.2.2 k hk j (by simp)) ((hrem k).1 (by simp [hk])).1
                exact ⟨ok, e1, e2, .inl e3⟩
              refine text_anyX hsel hE hpq fuel (listed.setIfInBounds j true) (r ++ p :: (m ++ s)) a' w' hsz' hd' (hrem' _ ?_) ?_ ?_ (.inr ?_) hS' h2
              · have := (List.perm_middle (a := j) (l₁ := r ++ p :: m) (l₂ := s))
                simpa using this
              · have : (r ++ p :: (m ++ s)).Sublist (r ++ p :: (m ++ j :: s)) := by simp
                exact hpw.sublist this
              · simp at hf ⊢; omega
              · have := (List.perm_middle (a := j) (l₁ := r ++ p :: m) (l₂ := s))
                have h3 := List.nodup_cons.1 ((this.nodup_iff).1 (by simpa using hnd))
                simpa using h3.1
            · -- in s
              obtain ⟨s1, s2, rfl⟩ := List.append_of_mem hc
              have hqj := hpw4.1 j (by simp)
              have hlast := (List.pairwise_append.1 hpw4.2).2.2
              have hrj : rd j = true := by
                obtain ⟨ok, e1, e2, e3⟩ := hpair p (by simp) (by omega) (fun hne => by omega)
                rw [hrp] at e3
                simpa using e3
              have hb1 : wpT P ops S rd (stT P ops S rd j (fun a w => wpT P ops S rd (fun a w => Q .normal a w) (p :: q :: (s1 ++ s2)) a w ∧ wpT P ops S rd (fun a w => Q .normal a w) (q :: p :: (s1 ++ s2)) a w)) (r ++ m) a w := by
                refine wpT_mono (fun a w hS h => stT_and hoj hrj hS ?_ ?_) _ a w hS h
                · exact bubble hoj s2 hsel (p :: q :: s1) a w hS (fun k hk => by
                    simp only [List.mem_cons] at hk
                    rcases hk with rfl | rfl | hk
                    · exact hpair k (by simp) (by omega) (fun hne => by omega)
                    · exact hpair k (by simp) (by omega) (fun hne => by omega)
                    · exact hpair k (by simp [hk]) (hlast k hk j (by simp)) (fun hne => by omega)) h.1
                · exact bubble hoj s2 hsel (q :: p :: s1) a w hS (fun k hk => by
                    simp only [List.mem_cons] at hk
                    rcases hk with rfl | rfl | hk
                    · exact hpair k (by simp) (by omega) (fun hne => by omega)
                    · exact hpair k (by simp) (by omega) (fun hne => by omega)
                    · exact hpair k (by simp [hk]) (hlast k hk j (by simp)) (fun hne => by omega)) h.2
              have hb2 : wpT P ops S rd (fun a w => wpT P ops S rd (fun a w => Q .normal a w) (p :: q :: (s1 ++ s2)) a w ∧ wpT P ops S rd (fun a w => Q .normal a w) (q :: p :: (s1 ++ s2)) a w) (r ++ m ++ j :: []) a w := by
                rw [← wpT_append _ _ _ _ hS]
                refine wpT_mono (fun a w hS h => ?_) _ a w hS hb1
                rw [wpT_cons]
                exact stT_mono hS (fun _ _ _ h => h) h
              have hb := bubble hoj [] hsel (r ++ m) a w hS (fun k hk => by
                rcases List.mem_append.1 hk with hk | hk
                · exact hpair k (by simp [hk]) (by have := hpw1.2.2 k hk j (by simp); omega) (fun hne => by omega)
                · exact hpair k (by simp [hk]) (by have := hpw3.2.2 k hk j (by simp); omega) (fun hne => by omega)) hb2
              refine wpOp_of_stT hS (fun a' w' hS' h' => ih (listed.setIfInBounds j true) r m (s1 ++ s2) a' w' hsz' hd' (hrem' _ ?_) ?_ ?_ hS' (by simpa using h')) hb
              · have := (List.perm_middle (a := j) (l₁ := r ++ p :: (m ++ q :: s1)) (l₂ := s2))
                simpa using this
              · have : (r ++ p :: (m ++ q :: (s1 ++ s2))).Sublist (r ++ p :: (m ++ q :: (s1 ++ j :: s2))) := by simp
                exact hpw.sublist this
              · simp at hf ⊢; omega
theorem wpT_of_list {Q : Act → World → Prop} : ∀ (l : List Oper) (ix : List Nat) (a : Act) (w : World), ix.map (fun i => ops[i]?) = l.map some → wpl0 P ops S Q l a w → wpT P ops S (rdAt ops) Q ix a w
  | [], ix, a, w, hl, h => by
    have : ix = [] := by simpa using hl
    subst this
    exact h
  | o :: l, ix, a, w, hl, h => by
    cases ix with
    | nil => simp at hl
    | cons n ix =>
      rw [List.map_cons, List.map_cons, List.cons.injEq] at hl
      obtain ⟨ho, hl'⟩ := hl
      have ih : ∀ a w, wpl0 P ops S Q l a w → wpT P ops S (rdAt ops) Q ix a w := fun a w h => wpT_of_list l ix a w hl' h
      rw [wpT_cons]
      unfold stT
      simp only [ho]
      unfold wpl0 at h
      have hrd : rdAt ops n = isReader o := by simp [rdAt, ho]
      split
      · rename_i hw
        simp only [hw, if_true] at h
        rw [hrd]
        split
        · rename_i hr
          simp only [hr, if_true] at h
          obtain ⟨v, h1, h2⟩ := h
          exact ⟨v, h1, ih _ _ h2⟩
        · rename_i hr
          simp only [hr, if_false, Bool.false_eq_true] at h
          exact Oper.wp_mono (fun a w ⟨s1, s2⟩ => ⟨s1, ih _ _ s2⟩) h
      · rename_i hw
        simp only [hw, if_false, Bool.false_eq_true] at h
        exact ih _ _ h
/-- A REGION THAT DRAWS ITS ORDER, THE OPERATIONS p AND q IN EITHER ORDER. -/
theorem region_text2 {id : Nat} {a : Act} {w : World} {Q : Exit → Act → World → Prop} (S : World → Prop) (p q : Nat) (A B C : List Oper) (op oq : Oper) (hm : P.follows .mixedOrders = true) (hok : textOK2 ops (rdAt ops) p q = true) (hrp : rdAt ops p = false) (hops : ops.toList = A ++ op :: (B ++ oq :: C)) (hA : A.length = p) (hB : p + 1 + B.length = q) (hS : S w.drew)
    (h : wpL P ops S (fun a w => wpL P ops S (fun a w => Q .normal a w) (op :: oq :: C) a w ∧ wpL P ops S (fun a w => Q .normal a w) (oq :: op :: C) a w) (A ++ B) a w.drew) : (Code.region id ops true).wp P Q a w := by
  have hsz : ops.size = p + 1 + B.length + 1 + C.length := by
    have := congrArg List.length hops
    simp at this; omega
  have at_ : ∀ i, ops[i]? = (A ++ op :: (B ++ oq :: C))[i]? := fun i => by rw [← hops, Array.getElem?_toList]
  have hpo : ops[p]? = some op := by rw [at_, List.getElem?_append_right (by omega)]; simp [hA]
  have hqo : ops[q]? = some oq := by
    rw [at_, List.getElem?_append_right (by omega), show q - A.length = B.length + 1 by omega, List.getElem?_cons_succ, List.getElem?_append_right (Nat.le_refl _)]; simp
  have ea : (List.range p).map (fun i => ops[i]?) = A.map some := by
    apply List.ext_getElem?
    intro i
    by_cases hi : i < p
    · rw [List.getElem?_map, List.getElem?_range hi, Option.map_some, at_, List.getElem?_append_left (by omega), List.getElem?_map, List.getElem?_eq_getElem (by omega)]; simp
    · rw [List.getElem?_eq_none (by simp; omega), List.getElem?_eq_none (by simp; omega)]
  have eb : (List.range' (p + 1) B.length).map (fun i => ops[i]?) = B.map some := by
    apply List.ext_getElem?
    intro i
    by_cases hi : i < B.length
    · rw [List.getElem?_map, List.getElem?_range' hi, Option.map_some, at_, List.getElem?_append_right (by omega), show p + 1 + 1 * i - A.length = i + 1 by omega, List.getElem?_cons_succ, List.getElem?_append_left hi, List.getElem?_map, List.getElem?_eq_getElem hi]; simp
    · rw [List.getElem?_eq_none (by simp; omega), List.getElem?_eq_none (by simp; omega)]
  have ec : (List.range' (q + 1) C.length).map (fun i => ops[i]?) = C.map some := by
    apply List.ext_getElem?
    intro i
    by_cases hi : i < C.length
    · rw [List.getElem?_map, List.getElem?_range' hi, Option.map_some, at_, List.getElem?_append_right (by omega), show q + 1 + 1 * i - A.length = (B.length + 1 + i) + 1 by omega, List.getElem?_cons_succ, List.getElem?_append_right (by omega), show B.length + 1 + i - B.length = i + 1 by omega, List.getElem?_cons_succ, List.getElem?_map, List.getElem?_eq_getElem hi]; simp
    · rw [List.getElem?_eq_none (by simp; omega), List.getElem?_eq_none (by simp; omega)]
  have er : List.range p ++ p :: (List.range' (p + 1) B.length ++ q :: List.range' (q + 1) C.length) = List.range ops.size := by
    rw [hsz, List.range_eq_range', List.range_eq_range', ← hB]
    have h1 := List.range'_append (s := 0) (m := p) (n := 1 + (B.length + (1 + C.length))) (step := 1)
    have h2 := List.range'_append (s := p + 1) (m := B.length) (n := 1 + C.length) (step := 1)
    have h3 : List.range' p (1 + (B.length + (1 + C.length))) = p :: List.range' (p + 1) (B.length + (1 + C.length)) := by rw [Nat.add_comm 1, List.range'_succ]
    have h4 : List.range' (p + 1 + B.length) (1 + C.length) = (p + 1 + B.length) :: List.range' (p + 1 + B.length + 1) C.length := by rw [Nat.add_comm 1, List.range'_succ]
    simp only [Nat.one_mul, Nat.zero_add] at h1 h2
    rw [h3, ← h2, h4] at h1
    rw [h1]
    congr 1; omega
  refine wp_region_any hm ?_
  refine text_any2 (rd := rdAt ops) (S := S) hpo hrp (show p < q by omega) (textOK2_sel hok) (fun hi => textOK2_edges hok hi) (textOK2_pair hok) (fun h1 h2 h3 => textOK2_mid hok hpo h1 h2 h3) ops.size _ (List.range p) (List.range' (p + 1) B.length) (List.range' (q + 1) C.length) a _ (by simp) ?_ ?_ ?_ ?_ hS ?_
  · intro i o ho hl
    have hlt := (Array.getElem?_eq_some_iff.1 ho).1
    simp [hlt] at hl
  · intro i
    rw [er]
    by_cases hlt : i < ops.size <;> simp [hlt]
  · rw [er]; exact List.pairwise_lt_range
  · rw [er]; simp
  · have h1 := wpT_of_list (A ++ B) (List.range p ++ List.range' (p + 1) B.length) a w.drew (by rw [List.map_append, List.map_append, ea, eb]) h.out
    refine wpT_mono (fun a w _ h => ⟨?_, ?_⟩) _ _ _ hS h1
    · exact wpT_of_list (op :: oq :: C) _ a w (by rw [List.map_cons, List.map_cons, List.map_cons, List.map_cons, hpo, hqo, ec]) h.1.out
    · exact wpT_of_list (oq :: op :: C) _ a w (by rw [List.map_cons, List.map_cons, List.map_cons, List.map_cons, hpo, hqo, ec]) h.2.out
end
end Go.Own
