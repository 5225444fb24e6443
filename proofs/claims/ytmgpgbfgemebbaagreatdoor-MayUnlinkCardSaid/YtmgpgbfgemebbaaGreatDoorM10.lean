/- TEXTS of mine, merged. -/
import Derived.Test.YtmgpgbfgemebbaaGreatDoorM1
import Derived.Test.YtmgpgbfgemebbaaGreatDoorM9
import Derived.Test.YtmgpgbfgemebbaaGreatDoorM2
import Derived.Test.YtmgpgbfgemebbaaGreatDoorM5
set_option linter.all false
namespace Go.Own
open Go.RowKit
section
variable {P : Program} {ops : Array Oper} {S : World → Prop} {rd : Nat → Bool} {qc : Qc}
def PairOK (ops : Array Oper) (rd : Nat → Bool) (p q : Nat) : Prop := ∀ {i k : Nat} {oi ok : Oper}, ops[i]? = some oi → ops[k]? = some ok → k < i → ¬ Anc ops i k → ¬ (k = p ∧ i = q) → ok.apart ops oi = true ∧ (rd k = true ∨ rd i = true)
def textOK2 (ops : Array Oper) (rd : Nat → Bool) (p q : Nat) : Bool :=
 let A := ahead ops
 Region.noSelect ops &&
 ((List.range ops.size).all fun i => match ops[i]? with
  | none => true
  | some oi => (oi.after.all fun e => !Region.binds .any e || decide (e.on < i)) &&
   (List.range i).all fun k => (A.getD i []).contains k || (decide (k = p) && decide (i = q)) || match ops[k]? with
    | none => true
    | some ok => ok.apart ops oi && (rd k || rd i)) &&
 ((List.range ops.size).all fun j => !(decide (p < j) && decide (j < q)) || match ops[p]?, ops[j]? with
  | some op, some oj => oj.apart ops op && rd j && !rd p
  | _, _ => false)
theorem textOK2_pair {p q : Nat} (h : textOK2 ops rd p q = true) : PairOK ops rd p q := by
 intro i k oi ok hi hk hki hn hne
 unfold textOK2 at h
 simp only [Bool.and_eq_true, List.all_eq_true, List.mem_range] at h
 have hlt : i < ops.size := (Array.getElem?_eq_some_iff.1 hi).1
 have h1 := h.1.2 i hlt
 simp only [hi, Bool.and_eq_true, List.all_eq_true, List.mem_range] at h1
 have h2 := h1.2 k hki
 simp only [hk, Bool.or_eq_true, Bool.and_eq_true, decide_eq_true_eq] at h2
 rcases h2 with (h2 | h2) | h2
 ·exact absurd (ahead_spec ops i k (by simpa using h2)) hn
 ·exact absurd h2 hne
 ·exact h2
theorem textOK2_edges {p q : Nat} (h : textOK2 ops rd p q = true) {i : Nat} {oi : Oper} (hi : ops[i]? = some oi) : ∀ e ∈ oi.after, Region.binds .any e = true → e.on < i := by
 unfold textOK2 at h
 simp only [Bool.and_eq_true, List.all_eq_true, List.mem_range] at h
 have hlt : i < ops.size := (Array.getElem?_eq_some_iff.1 hi).1
 have h1 := h.1.2 i hlt
 simp only [hi, Bool.and_eq_true] at h1
 intro e he hb
 have := Array.all_eq_true_iff_forall_mem.1 h1.1 e he
 simpa [hb] using this
theorem textOK2_sel {p q : Nat} (h : textOK2 ops rd p q = true) : Region.noSelect ops = true := by
 unfold textOK2 at h
 simp only [Bool.and_eq_true] at h
 exact h.1.1
theorem textOK2_mid {p q : Nat} (h : textOK2 ops rd p q = true) {op : Oper} (hp : ops[p]? = some op) {j : Nat} (h1 : p < j) (h2 : j < q) (h3 : j < ops.size) : ∃ oj, ops[j]? = some oj ∧ oj.apart ops op = true ∧ rd j = true := by
 unfold textOK2 at h
 simp only [Bool.and_eq_true, List.all_eq_true, List.mem_range] at h
 have h4 := h.2 j h3
 have hj : ops[j]? = some ops[j] := by simp [h3]
 rw [hp, hj] at h4
 simp [h1, h2] at h4
 exact ⟨_, hj, h4.1.1, h4.1.2⟩
theorem text_anyX {Q : Exit → Act → World → Prop} {p q : Nat} (hsel : Region.noSelect ops = true) (hE : ∀ {i : Nat} {oi : Oper}, ops[i]? = some oi → ∀ e ∈ oi.after, Region.binds .any e = true → e.on < i) (hpq : PairOK ops rd p q) : ∀ (fuel : Nat) (listed : Array Bool) (rem : List Nat) (a : Act) (w : World),
  listed.size = ops.size → downed ops listed → (∀ i, i ∈ rem ↔ (i < ops.size ∧ listed.getD i true = false)) → rem.Pairwise (· < ·) → rem.length ≤ fuel → (p ∉ rem ∨ q ∉ rem) → S w →
  wpT P qc ops S rd (fun a w => Q .normal a w) rem a w → wpAny P .any ops Q fuel listed a w := by
 intro fuel
 induction fuel with
 | zero =>
  intro listed rem a w hsz hd hrem hpw hf hx hS h
  obtain rfl : rem = [] := List.eq_nil_of_length_eq_zero (by omega)
  refine ⟨?_, h⟩
  rw [List.eq_nil_iff_forall_not_mem]
  intro j hj
  obtain ⟨hu, o, ho, -⟩ := mem_ready.1 hj
  have := (hrem j).2 ⟨(Array.getElem?_eq_some_iff.1 ho).1, hu⟩
  simp at this
 | succ fuel ih =>
  intro listed rem a w hsz hd hrem hpw hf hx hS h
  refine ⟨fun hr => ?_, fun j hj => ?_⟩
  ·cases rem with
   | nil => exact h
   | cons i rest =>
    exfalso
    obtain ⟨hlt, hu⟩ := (hrem i).1 (by simp)
    obtain ⟨o, ho⟩ : ∃ o, ops[i]? = some o := ⟨ops[i], by simp [hlt]⟩
    have : i ∈ Region.ready .any ops listed := by
     refine mem_ready.2 ⟨hu, o, ho, fun e he hbe => ?_⟩
     have hlt2 := hE ho e he hbe
     by_cases hl : listed.getD e.on true = true
     ·rw [Array.getD_eq_getD_getElem?] at hl ⊢
      have : e.on < listed.size := by omega
      simp [this] at hl ⊢; exact hl
     ·have hm := (hrem e.on).2 ⟨by omega, by simpa using hl⟩
      rcases List.mem_cons.1 hm with e1 | e1
      ·omega
      ·have := (List.pairwise_cons.1 hpw).1 _ e1; omega
    rw [hr] at this
    cases this
  ·obtain ⟨hu, oj, hoj, hall⟩ := mem_ready.1 hj
   have hjlt := (Array.getElem?_eq_some_iff.1 hoj).1
   have hjm := (hrem j).2 ⟨hjlt, hu⟩
   obtain ⟨r1, r2, rfl⟩ := List.append_of_mem hjm
   have hpw' := List.pairwise_append.1 hpw
   have hb := bubble hoj r2 hsel r1 a w hS (fun k hk => by
    obtain ⟨hklt, hku⟩ := (hrem k).1 (by simp [hk])
    obtain ⟨ok, hok'⟩ : ∃ o, ops[k]? = some o := ⟨ops[k], by simp [hklt]⟩
    have hkj : k < j := hpw'.2.2 k hk j (by simp)
    have hn : ¬ Anc ops j k := fun hA => by
     have := downed_anc hd hA (fun o ho e he hbe => by
      rw [hoj] at ho; cases ho
      exact hall e he hbe)
     rw [Array.getD_eq_getD_getElem?] at this hku
     have hk2 : k < listed.size := by omega
     simp [hk2] at this hku
     rw [this] at hku; cases hku
    obtain ⟨h1, h2⟩ := hpq hoj hok' hkj hn (fun hc => by rcases hx with hx | hx; (exact hx (hc.1 ▸ by simp [hk])); (exact hx (hc.2 ▸ by simp)))
    exact ⟨ok, hok', h1, h2⟩) h
   refine wpOp_of_stT hS (fun a' w' hS' h' => ih (listed.setIfInBounds j true) (r1 ++ r2) a' w' (by simpa using hsz) ?_ ?_ ?_ ?_ (hx.imp (fun h hm => h (by rcases List.mem_append.1 hm with hm | hm <;> simp [hm])) (fun h hm => h (by rcases List.mem_append.1 hm with hm | hm <;> simp [hm]))) hS' h') hb
   ·intro i o ho hl e he hbe
    by_cases hij : i = j
    ·subst hij
     rw [hoj] at ho; cases ho
     exact getD_set_true (hall e he hbe)
    ·rw [getD_set_ne true (Ne.symm hij)] at hl
     exact getD_set_true (hd i o ho hl e he hbe)
   ·intro i
    have hnd : (r1 ++ j :: r2).Nodup := hpw.imp (fun h => Nat.ne_of_lt h)
    by_cases hij : i = j
    ·subst hij
     have hni : i ∉ r1 ++ r2 := by
      have := List.nodup_append.1 hnd
      intro hm
      rcases List.mem_append.1 hm with hm | hm
      ·exact this.2.2 i hm i (by simp) rfl
      ·exact (List.nodup_cons.1 this.2.1).1 hm
     have hl : (listed.setIfInBounds i true).getD i true = true := by
      simp [show i < listed.size by omega]
     simp [hni, hl]
    ·rw [getD_set_ne true (Ne.symm hij), ← hrem i]
     simp [hij]
   ·exact hpw.sublist (List.Sublist.append_left (List.sublist_cons_self _ _) _)
   ·simp at hf ⊢; omega
theorem wpT_prefix {Q : Act → World → Prop} {X Y : List Nat} (h : ∀ a w, S w → wpT P qc ops S rd Q X a w → wpT P qc ops S rd Q Y a w) : ∀ (r : List Nat) (a : Act) (w : World), S w → wpT P qc ops S rd Q (r ++ X) a w → wpT P qc ops S rd Q (r ++ Y) a w
 | [], a, w, hS, hh => h a w hS hh
 | i :: r, a, w, hS, hh => by
  rw [List.cons_append, wpT_cons] at hh ⊢
  exact stT_mono hS (fun a w hS' h' => wpT_prefix h r a w hS' h') hh
theorem wpT_mono {Q K : Act → World → Prop} (h : ∀ a w, S w → Q a w → K a w) : ∀ (r : List Nat) (a : Act) (w : World), S w → wpT P qc ops S rd Q r a w → wpT P qc ops S rd K r a w
 | [], a, w, hS, hh => h a w hS hh
 | i :: r, a, w, hS, hh => by
  rw [wpT_cons] at hh ⊢
  exact stT_mono hS (fun a w hS' h' => wpT_mono h r a w hS' h') hh
theorem wpT_append {Q : Act → World → Prop} (m : List Nat) : ∀ (l : List Nat) (a : Act) (w : World), S w → (wpT P qc ops S rd (wpT P qc ops S rd Q m) l a w ↔ wpT P qc ops S rd Q (l ++ m) a w)
 | [], a, w, _ => Iff.rfl
 | i :: l, a, w, hS => by
  rw [List.cons_append, wpT_cons, wpT_cons]
  exact ⟨stT_mono hS fun a w hS' h => (wpT_append m l a w hS').1 h, stT_mono hS fun a w hS' h => (wpT_append m l a w hS').2 h⟩
theorem stT_and {j : Nat} {oj : Oper} (hj : ops[j]? = some oj) (hr : rd j = true) {K K' : Act → World → Prop} {a : Act} {w : World} (hS : S w) (h1 : stT P qc ops S rd j K a w) (h2 : stT P qc ops S rd j K' a w) : stT P qc ops S rd j (fun a w => K a w ∧ K' a w) a w := by
 unfold stT at *
 simp only [hj, hr, if_true] at *
 by_cases hw : Region.wanted oj (yielded ops a.tmps) = true
 ·simp only [hw, if_true] at *
  obtain ⟨v, a1, a2⟩ := h1
  obtain ⟨v', b1, b2⟩ := h2
  obtain rfl := readsAt_one hS a1 b1
  exact ⟨_, a1, a2, b2⟩
 ·simp only [hw, if_false, Bool.false_eq_true] at *
  exact ⟨h1, h2⟩
theorem text_any2 {Q : Exit → Act → World → Prop} {p q : Nat} {op : Oper} (hp : ops[p]? = some op) (hrp : rd p = false) (hlt : p < q) (hsel : Region.noSelect ops = true) (hE : ∀ {i : Nat} {oi : Oper}, ops[i]? = some oi → ∀ e ∈ oi.after, Region.binds .any e = true → e.on < i) (hpq : PairOK ops rd p q)
  (hmid : ∀ {j : Nat}, p < j → j < q → j < ops.size → ∃ oj, ops[j]? = some oj ∧ oj.apart ops op = true ∧ rd j = true) : ∀ (fuel : Nat) (listed : Array Bool) (r m s : List Nat) (a : Act) (w : World),
  listed.size = ops.size → downed ops listed → (∀ i, i ∈ r ++ p :: (m ++ q :: s) ↔ (i < ops.size ∧ listed.getD i true = false)) → (r ++ p :: (m ++ q :: s)).Pairwise (· < ·) → (r ++ p :: (m ++ q :: s)).length ≤ fuel → S w →
  wpT P qc ops S rd (fun a w => wpT P qc ops S rd (fun a w => Q .normal a w) (p :: q :: s) a w ∧ wpT P qc ops S rd (fun a w => Q .normal a w) (q :: p :: s) a w) (r ++ m) a w → wpAny P .any ops Q fuel listed a w := by
 intro fuel
 induction fuel with
 | zero => intro listed r m s a w hsz hd hrem hpw hf; simp at hf
 | succ fuel ih =>
  intro listed r m s a w hsz hd hrem hpw hf hS h
  have hpw1 := List.pairwise_append.1 hpw
  have hpw2 := List.pairwise_cons.1 hpw1.2.1
  have hpw3 := List.pairwise_append.1 hpw2.2
  have hpw4 := List.pairwise_cons.1 hpw3.2.1
  refine ⟨fun hr => ?_, fun j hj => ?_⟩
  ·exfalso
   obtain ⟨i, rest, hi⟩ : ∃ i rest, r ++ p :: (m ++ q :: s) = i :: rest := by cases r <;> exact ⟨_, _, rfl⟩
   obtain ⟨hlt', hu⟩ := (hrem i).1 (by rw [hi]; simp)
   obtain ⟨o, ho⟩ : ∃ o, ops[i]? = some o := ⟨ops[i], by simp [hlt']⟩
   have : i ∈ Region.ready .any ops listed := by
    refine mem_ready.2 ⟨hu, o, ho, fun e he hbe => ?_⟩
    have hlt2 := hE ho e he hbe
    by_cases hl : listed.getD e.on true = true
    ·rw [Array.getD_eq_getD_getElem?] at hl ⊢
     have : e.on < listed.size := by omega
     simp [this] at hl ⊢; exact hl
    ·have hm := (hrem e.on).2 ⟨by omega, by simpa using hl⟩
     rw [hi] at hm hpw
     rcases List.mem_cons.1 hm with e1 | e1
     ·omega
     ·have := (List.pairwise_cons.1 hpw).1 _ e1; omega
   rw [hr] at this
   cases this
  ·obtain ⟨hu, oj, hoj, hall⟩ := mem_ready.1 hj
   have hjlt := (Array.getElem?_eq_some_iff.1 hoj).1
   have hjm := (hrem j).2 ⟨hjlt, hu⟩
   have hpair : ∀ k, k ∈ r ++ p :: (m ++ q :: s) → k < j → ¬ (k = p ∧ j = q) → ∃ ok, ops[k]? = some ok ∧ ok.apart ops oj = true ∧ (rd k = true ∨ rd j = true) := by
    intro k hk hkj hne
    obtain ⟨hklt, hku⟩ := (hrem k).1 hk
    obtain ⟨ok, hok'⟩ : ∃ o, ops[k]? = some o := ⟨ops[k], by simp [hklt]⟩
    have hn : ¬ Anc ops j k := fun hA => by
     have := downed_anc hd hA (fun o ho e he hbe => by
      rw [hoj] at ho; cases ho
      exact hall e he hbe)
     rw [Array.getD_eq_getD_getElem?] at this hku
     have hk2 : k < listed.size := by omega
     simp [hk2] at this hku
     rw [this] at hku; cases hku
    obtain ⟨h1, h2⟩ := hpq hoj hok' hkj hn hne
    exact ⟨ok, hok', h1, h2⟩
   have hsz' : (listed.setIfInBounds j true).size = ops.size := by simpa using hsz
   have hd' : downed ops (listed.setIfInBounds j true) := by
    intro i o ho hl e he hbe
    by_cases hij : i = j
    ·subst hij
     rw [hoj] at ho; cases ho
     exact getD_set_true (hall e he hbe)
    ·rw [getD_set_ne true (Ne.symm hij)] at hl
     exact getD_set_true (hd i o ho hl e he hbe)
   have hnd : (r ++ p :: (m ++ q :: s)).Nodup := hpw.imp (fun h => Nat.ne_of_lt h)
   have hrem' : ∀ X : List Nat, (r ++ p :: (m ++ q :: s)).Perm (j :: X) → ∀ i, i ∈ X ↔ (i < ops.size ∧ (listed.setIfInBounds j true).getD i true = false) := by
    intro X hX i
    have hnd2 := List.nodup_cons.1 (hX.nodup_iff.1 hnd)
    by_cases hij : i = j
    ·subst hij
     have hl : (listed.setIfInBounds i true).getD i true = true := by
      simp [show i < listed.size by omega]
     simp [hnd2.1, hl]
    ·rw [getD_set_ne true (Ne.symm hij), ← hrem i, hX.mem_iff]
     simp [hij]
   rcases List.mem_append.1 hjm with hc | hc
   ·
    obtain ⟨r1, r2, rfl⟩ := List.append_of_mem hc
    have hlast := (List.pairwise_append.1 hpw1.1).2.2
    have hb := bubble hoj (r2 ++ m) hsel r1 a w hS (fun k hk => hpair k (by simp [hk]) (hlast k hk j (by simp)) (fun hne => by have := hpw1.2.2 j (by simp) p (by simp); omega)) (by simpa using h)
    refine wpOp_of_stT hS (fun a' w' hS' h' => ih (listed.setIfInBounds j true) (r1 ++ r2) m s a' w' hsz' hd' (hrem' _ (by simp)) ?_ ?_ hS' (by simpa using h')) hb
    ·have : (r1 ++ r2 ++ p :: (m ++ q :: s)).Sublist (r1 ++ j :: r2 ++ p :: (m ++ q :: s)) := by simp
     exact hpw.sublist this
    ·simp at hf ⊢; omega
   ·rcases List.mem_cons.1 hc with rfl | hc
    ·
     rw [hp] at hoj; cases hoj
     have h1 := wpT_mono (K := wpT P qc ops S rd (fun a w => Q .normal a w) (j :: q :: s)) (fun a w _ h => h.1) _ a w hS h
     rw [wpT_append _ _ _ _ hS] at h1
     have hb := bubble hp (q :: s) hsel (r ++ m) a w hS (fun k hk => by
      rcases List.mem_append.1 hk with hk | hk
      ·exact hpair k (by simp [hk]) (hpw1.2.2 k hk j (by simp)) (fun hne => by omega)
      ·have hjk := hpw2.1 k (by simp [hk])
       obtain ⟨ok, e1, e2, e3⟩ := hmid hjk (hpw3.2.2 k hk q (by simp)) ((hrem k).1 (by simp [hk])).1
       exact ⟨ok, e1, e2, .inl e3⟩) h1
     refine wpOp_of_stT hS (fun a' w' hS' h' => text_anyX hsel hE hpq fuel (listed.setIfInBounds j true) (r ++ m ++ q :: s) a' w' hsz' hd' (hrem' _ (by simp)) ?_ ?_ (.inl ?_) hS' h') hb
     ·have : (r ++ m ++ q :: s).Sublist (r ++ j :: (m ++ q :: s)) := by rw [List.append_assoc]; exact List.Sublist.append_left (List.sublist_cons_self _ _) _
      exact hpw.sublist this
     ·simp at hf ⊢; omega
     ·have := List.nodup_cons.1 ((List.perm_middle.nodup_iff).1 hnd)
      simpa using this.1
    ·rcases List.mem_append.1 hc with hc | hc
     ·
      obtain ⟨m1, m2, rfl⟩ := List.append_of_mem hc
      have hlast := (List.pairwise_append.1 hpw3.1).2.2
      have hpj := hpw2.1 j (by simp)
      have hjq := hpw3.2.2 j (by simp) q (by simp)
      have hb := bubble hoj m2 hsel (r ++ m1) a w hS (fun k hk => by
       rcases List.mem_append.1 hk with hk | hk
       ·exact hpair k (by simp [hk]) (hpw1.2.2 k hk j (by simp)) (fun hne => by omega)
       ·exact hpair k (by simp [hk]) (hlast k hk j (by simp)) (fun hne => by omega)) (by simpa using h)
      refine wpOp_of_stT hS (fun a' w' hS' h' => ih (listed.setIfInBounds j true) r (m1 ++ m2) s a' w' hsz' hd' (hrem' _ ?_) ?_ ?_ hS' (by simpa using h')) hb
      ·have := (List.perm_middle (a := j) (l₁ := r ++ p :: m1) (l₂ := m2 ++ q :: s))
       simpa using this
      ·have : (r ++ p :: (m1 ++ m2 ++ q :: s)).Sublist (r ++ p :: (m1 ++ j :: m2 ++ q :: s)) := by simp
       exact hpw.sublist this
      ·simp at hf ⊢; omega
     ·rcases List.mem_cons.1 hc with rfl | hc
      ·
       have h1 := wpT_mono (K := wpT P qc ops S rd (fun a w => Q .normal a w) (j :: p :: s)) (fun a w _ h => h.2) _ a w hS h
       rw [wpT_append _ _ _ _ hS] at h1
       have hb := bubble hoj (p :: s) hsel (r ++ m) a w hS (fun k hk => by
        rcases List.mem_append.1 hk with hk | hk
        ·exact hpair k (by simp [hk]) (hpw1.2.2 k hk j (by simp)) (fun hne => by have := hpw1.2.2 k hk p (by simp); omega)
        ·exact hpair k (by simp [hk]) (hpw3.2.2 k hk j (by simp)) (fun hne => by have := hpw2.1 k (by simp [hk]); omega)) h1
       refine wpOp_of_stT hS (fun a' w' hS' h' => ?_) hb
       have h2 : wpT P qc ops S rd (fun a w => Q .normal a w) (r ++ (p :: (m ++ s))) a' w' := by
        refine wpT_prefix (X := m ++ p :: s) (fun a w hS h => ?_) r a' w' hS' (by simpa using h')
        rw [wpT_cons]
        refine bubble hp s hsel m a w hS (fun k hk => ?_) h
        obtain ⟨ok, e1, e2, e3⟩ := hmid (hpw2.1 k (by simp [hk])) (hpw3.2.2 k hk j (by simp)) ((hrem k).1 (by simp [hk])).1
        exact ⟨ok, e1, e2, .inl e3⟩
       refine text_anyX hsel hE hpq fuel (listed.setIfInBounds j true) (r ++ p :: (m ++ s)) a' w' hsz' hd' (hrem' _ ?_) ?_ ?_ (.inr ?_) hS' h2
       ·have := (List.perm_middle (a := j) (l₁ := r ++ p :: m) (l₂ := s))
        simpa using this
       ·have : (r ++ p :: (m ++ s)).Sublist (r ++ p :: (m ++ j :: s)) := by simp
        exact hpw.sublist this
       ·simp at hf ⊢; omega
       ·have := (List.perm_middle (a := j) (l₁ := r ++ p :: m) (l₂ := s))
        have h3 := List.nodup_cons.1 ((this.nodup_iff).1 (by simpa using hnd))
        simpa using h3.1
      ·
       obtain ⟨s1, s2, rfl⟩ := List.append_of_mem hc
       have hqj := hpw4.1 j (by simp)
       have hlast := (List.pairwise_append.1 hpw4.2).2.2
       have hrj : rd j = true := by
        obtain ⟨ok, e1, e2, e3⟩ := hpair p (by simp) (by omega) (fun hne => by omega)
        rw [hrp] at e3
        simpa using e3
       have hb1 : wpT P qc ops S rd (stT P qc ops S rd j (fun a w => wpT P qc ops S rd (fun a w => Q .normal a w) (p :: q :: (s1 ++ s2)) a w ∧ wpT P qc ops S rd (fun a w => Q .normal a w) (q :: p :: (s1 ++ s2)) a w)) (r ++ m) a w := by
        refine wpT_mono (fun a w hS h => stT_and hoj hrj hS ?_ ?_) _ a w hS h
        ·exact bubble hoj s2 hsel (p :: q :: s1) a w hS (fun k hk => by
          simp only [List.mem_cons] at hk
          rcases hk with rfl | rfl | hk
          ·exact hpair k (by simp) (by omega) (fun hne => by omega)
          ·exact hpair k (by simp) (by omega) (fun hne => by omega)
          ·exact hpair k (by simp [hk]) (hlast k hk j (by simp)) (fun hne => by omega)) h.1
        ·exact bubble hoj s2 hsel (q :: p :: s1) a w hS (fun k hk => by
          simp only [List.mem_cons] at hk
          rcases hk with rfl | rfl | hk
          ·exact hpair k (by simp) (by omega) (fun hne => by omega)
          ·exact hpair k (by simp) (by omega) (fun hne => by omega)
          ·exact hpair k (by simp [hk]) (hlast k hk j (by simp)) (fun hne => by omega)) h.2
       have hb2 : wpT P qc ops S rd (fun a w => wpT P qc ops S rd (fun a w => Q .normal a w) (p :: q :: (s1 ++ s2)) a w ∧ wpT P qc ops S rd (fun a w => Q .normal a w) (q :: p :: (s1 ++ s2)) a w) (r ++ m ++ j :: []) a w := by
        rw [← wpT_append _ _ _ _ hS]
        refine wpT_mono (fun a w hS h => ?_) _ a w hS hb1
        rw [wpT_cons]
        exact stT_mono hS (fun _ _ _ h => h) h
       have hb := bubble hoj [] hsel (r ++ m) a w hS (fun k hk => by
        rcases List.mem_append.1 hk with hk | hk
        ·exact hpair k (by simp [hk]) (by have := hpw1.2.2 k hk j (by simp); omega) (fun hne => by omega)
        ·exact hpair k (by simp [hk]) (by have := hpw3.2.2 k hk j (by simp); omega) (fun hne => by omega)) hb2
       refine wpOp_of_stT hS (fun a' w' hS' h' => ih (listed.setIfInBounds j true) r m (s1 ++ s2) a' w' hsz' hd' (hrem' _ ?_) ?_ ?_ hS' (by simpa using h')) hb
       ·have := (List.perm_middle (a := j) (l₁ := r ++ p :: (m ++ q :: s1)) (l₂ := s2))
        simpa using this
       ·have : (r ++ p :: (m ++ q :: (s1 ++ s2))).Sublist (r ++ p :: (m ++ q :: (s1 ++ j :: s2))) := by simp
        exact hpw.sublist this
       ·simp at hf ⊢; omega
theorem wpT_of_list {Q : Act → World → Prop} : ∀ (l : List Oper) (ix : List Nat) (a : Act) (w : World), ix.map (fun i => ops[i]?) = l.map some → wpl0 P qc ops S Q l a w → wpT P qc ops S (rdAt qc ops) Q ix a w
 | [], ix, a, w, hl, h => by
  have : ix = [] := by simpa using hl
  subst this
  exact h
 | o :: l, ix, a, w, hl, h => by
  cases ix with
  | nil => simp at hl
  | cons n ix =>
   rw [List.map_cons, List.map_cons, List.cons.injEq] at hl
   obtain ⟨ho, hl'⟩ := hl
   have ih : ∀ a w, wpl0 P qc ops S Q l a w → wpT P qc ops S (rdAt qc ops) Q ix a w := fun a w h => wpT_of_list l ix a w hl' h
   rw [wpT_cons]
   unfold stT
   simp only [ho]
   unfold wpl0 at h
   have hrd : rdAt qc ops n = isReader qc o := by simp [rdAt, ho]
   split
   ·rename_i hw
    simp only [hw, if_true] at h
    rw [hrd]
    split
    ·rename_i hr
     simp only [hr, if_true] at h
     obtain ⟨v, h1, h2⟩ := h
     exact ⟨v, h1, ih _ _ h2⟩
    ·rename_i hr
     simp only [hr, if_false, Bool.false_eq_true] at h
     exact Oper.wp_mono (fun a w ⟨s1, s2⟩ => ⟨s1, ih _ _ s2⟩) h
   ·rename_i hw
    simp only [hw, if_false, Bool.false_eq_true] at h
    exact ih _ _ h
theorem region_text2 {id : Nat} {a : Act} {w : World} {Q : Exit → Act → World → Prop} (S : World → Prop) (p q : Nat) (A B C : List Oper) (op oq : Oper) (hm : P.follows .mixedOrders = true) (hok : textOK2 ops (rdAt qc ops) p q = true) (hrp : rdAt qc ops p = false) (hops : ops.toList = A ++ op :: (B ++ oq :: C)) (hA : A.length = p) (hB : p + 1 + B.length = q) (hS : S w.drew)
  (h : wpL P qc ops S (fun a w => wpL P qc ops S (fun a w => Q .normal a w) (op :: oq :: C) a w ∧ wpL P qc ops S (fun a w => Q .normal a w) (oq :: op :: C) a w) (A ++ B) a w.drew) : (Code.region id ops true).wp P Q a w := by
 have hsz : ops.size = p + 1 + B.length + 1 + C.length := by
  have := congrArg List.length hops
  simp at this; omega
 have at_ : ∀ i, ops[i]? = (A ++ op :: (B ++ oq :: C))[i]? := fun i => by rw [← hops, Array.getElem?_toList]
 have hpo : ops[p]? = some op := by rw [at_, List.getElem?_append_right (by omega)]; simp [hA]
 have hqo : ops[q]? = some oq := by
  rw [at_, List.getElem?_append_right (by omega), show q - A.length = B.length + 1 by omega, List.getElem?_cons_succ, List.getElem?_append_right (Nat.le_refl _)]; simp
 have ea : (List.range p).map (fun i => ops[i]?) = A.map some := by
  apply List.ext_getElem?
  intro i
  by_cases hi : i < p
  ·rw [List.getElem?_map, List.getElem?_range hi, Option.map_some, at_, List.getElem?_append_left (by omega), List.getElem?_map, List.getElem?_eq_getElem (by omega)]; simp
  ·rw [List.getElem?_eq_none (by simp; omega), List.getElem?_eq_none (by simp; omega)]
 have eb : (List.range' (p + 1) B.length).map (fun i => ops[i]?) = B.map some := by
  apply List.ext_getElem?
  intro i
  by_cases hi : i < B.length
  ·rw [List.getElem?_map, List.getElem?_range' hi, Option.map_some, at_, List.getElem?_append_right (by omega), show p + 1 + 1 * i - A.length = i + 1 by omega, List.getElem?_cons_succ, List.getElem?_append_left hi, List.getElem?_map, List.getElem?_eq_getElem hi]; simp
  ·rw [List.getElem?_eq_none (by simp; omega), List.getElem?_eq_none (by simp; omega)]
 have ec : (List.range' (q + 1) C.length).map (fun i => ops[i]?) = C.map some := by
  apply List.ext_getElem?
  intro i
  by_cases hi : i < C.length
  ·rw [List.getElem?_map, List.getElem?_range' hi, Option.map_some, at_, List.getElem?_append_right (by omega), show q + 1 + 1 * i - A.length = (B.length + 1 + i) + 1 by omega, List.getElem?_cons_succ, List.getElem?_append_right (by omega), show B.length + 1 + i - B.length = i + 1 by omega, List.getElem?_cons_succ, List.getElem?_map, List.getElem?_eq_getElem hi]; simp
  ·rw [List.getElem?_eq_none (by simp; omega), List.getElem?_eq_none (by simp; omega)]
 have er : List.range p ++ p :: (List.range' (p + 1) B.length ++ q :: List.range' (q + 1) C.length) = List.range ops.size := by
  rw [hsz, List.range_eq_range', List.range_eq_range', ← hB]
  have h1 := List.range'_append (s := 0) (m := p) (n := 1 + (B.length + (1 + C.length))) (step := 1)
  have h2 := List.range'_append (s := p + 1) (m := B.length) (n := 1 + C.length) (step := 1)
  have h3 : List.range' p (1 + (B.length + (1 + C.length))) = p :: List.range' (p + 1) (B.length + (1 + C.length)) := by rw [Nat.add_comm 1, List.range'_succ]
  have h4 : List.range' (p + 1 + B.length) (1 + C.length) = (p + 1 + B.length) :: List.range' (p + 1 + B.length + 1) C.length := by rw [Nat.add_comm 1, List.range'_succ]
  simp only [Nat.one_mul, Nat.zero_add] at h1 h2
  rw [h3, ← h2, h4] at h1
  rw [h1]
  congr 1; omega
 refine wp_region_any hm ?_
 refine text_any2 (qc := qc) (rd := rdAt qc ops) (S := S) hpo hrp (show p < q by omega) (textOK2_sel hok) (fun hi => textOK2_edges hok hi) (textOK2_pair hok) (fun h1 h2 h3 => textOK2_mid hok hpo h1 h2 h3) ops.size _ (List.range p) (List.range' (p + 1) B.length) (List.range' (q + 1) C.length) a _ (by simp) ?_ ?_ ?_ ?_ hS ?_
 ·intro i o ho hl
  have hlt := (Array.getElem?_eq_some_iff.1 ho).1
  simp [hlt] at hl
 ·intro i
  rw [er]
  by_cases hlt : i < ops.size <;> simp [hlt]
 ·rw [er]; exact List.pairwise_lt_range
 ·rw [er]; simp
 ·have h1 := wpT_of_list (A ++ B) (List.range p ++ List.range' (p + 1) B.length) a w.drew (by rw [List.map_append, List.map_append, ea, eb]) h.out
  refine wpT_mono (fun a w _ h => ⟨?_, ?_⟩) _ _ _ hS h1
  ·exact wpT_of_list (op :: oq :: C) _ a w (by rw [List.map_cons, List.map_cons, List.map_cons, List.map_cons, hpo, hqo, ec]) h.1.out
  ·exact wpT_of_list (oq :: op :: C) _ a w (by rw [List.map_cons, List.map_cons, List.map_cons, List.map_cons, hpo, hqo, ec]) h.2.out
end
end Go.Own
namespace Go.Proofs.YtmgpgbfgemebbaaGreatDoor
open Go.RowKit Go.Own
abbrev tEm : TypeId := 139
theorem undEm : Tryz.prog.underlying tEm = some (.map tEnt tSI) := by kernel_rfl
def EntC (s : Slv) (xs : List Int) : HP := row (slvV s) 3 1 xs.length (ic xs)
def Ety (b : Nat) (t : List (Ent × List Int)) : HP := Zm kEnt vSI b EntC t
theorem ety_iff {w : World} {L : List HP} {b : Nat} {t : List (Ent × List Int)} : Has w (Ety b t :: L) ↔ ∃ X, zB X = t ∧ Has w (Mk kEnt vSI b (zH X) :: (zC EntC X ++ L)) := zm_iff
def nowE (t : List (Ent × List Int)) (e : Ent) : Int := lastI ((fnd t e).getD [])
theorem Ety.look {w : World} {L : List HP} {b : Nat} {t : List (Ent × List Int)} (h : Has w (Ety b t :: L)) (e : Ent) (he : okEnt e) : ∃ s : Slv, (∀ w', Has w' (Ety b t :: L) → True) ∧ (Instr.lookup tEm (.map (some b)) (.agg #[.int .i64 e.1, sV e.2]) false).run Tryz.prog w = .ok (slvV s) w ∧ (Instr.lookup tEm (.map (some b)) (.agg #[.int .i64 e.1, sV e.2]) true).run Tryz.prog w = .ok (.tuple #[slvV s, .bool (fnd t e).isSome]) w ∧ Rd w (slvV s) 1 ((fnd t e).getD []).length (ic ((fnd t e).getD [])) := by
 obtain ⟨X, rfl, h1⟩ := ety_iff.1 h
 have hnd : (X.map Prod.fst).Nodup := by have h2 := Mk.nodup h1; rw [zH_keys] at h2; exact h2
 have hl0 := Mk.look0 h1 undEm he
 have hl1 := Mk.look h1 undEm he
 obtain ⟨X0, hcase, -⟩ := z_zip EntC X e hnd
 rcases hcase with ⟨h2, h3, -⟩ | ⟨s, a, h2, h3, h4⟩
 ·refine ⟨⟨none, 0, 0⟩, fun _ _ => trivial, ?_, ?_, ?_⟩
  ·rw [h3] at hl0; exact hl0
  ·rw [h3] at hl1
   rw [h2]
   have e1 : ∀ inst : Decidable (e ∈ (zH X).map Prod.fst), @decide _ inst = false := fun _ => decide_eq_false (fnd_none.1 h3)
   rw [e1] at hl1
   exact hl1
  ·rw [h2]
   exact Has.rd (h1.row_nil 3 1)
 ·refine ⟨s, fun _ _ => trivial, ?_, ?_, ?_⟩
  ·rw [h3] at hl0; exact hl0
  ·rw [h3] at hl1
   rw [h2]
   have e1 : ∀ inst : Decidable (e ∈ (zH X).map Prod.fst), @decide _ inst = true := fun _ => decide_eq_true (List.mem_map.2 ⟨_, fnd_some h3, rfl⟩)
   rw [e1] at hl1
   exact hl1
  ·rw [h2]
   have h5 : Has w (EntC s a :: (zC EntC X0 ++ L)) := h1.drop.perm (h4.append_right L)
   exact Has.rd h5
set_option maxRecDepth 100000 in
set_option maxHeartbeats 4000000 in
theorem mNow (q b : Nat) (C : Array Value) (t : List (Ent × List Int)) (e : Ent) (w : World) (L : List HP) (hC : C[4]? = some (.map (some b))) (he : okEnt e) (hO : Has w (pt q (.cells C 142) :: Ety b t :: L)) :
  Calls Tryz.prog 169 #[.pointer (some ⟨q, 0, none⟩), .agg #[.int .i64 e.1, sV e.2]] w fun e' w' => e' = .returned (.int .i64 (nowE t e)) ∧ Has w' (pt q (.cells C 142) :: Ety b t :: L) ∧ Keep w w' := by
 obtain ⟨d, p⟩ := e
 dsimp only
 have HC := hid (fun (w : World) (L' : List HP) (h : Has w (pt q (.cells C 142) :: L')) => (show w.cell? ⟨q, 4, none⟩ = some (.map (some b)) from (h.cells 4).trans hC))
 have HO1 := hid (hO.alloc (.cells #[.int .i64 d, sV p] 144))
 have HK1 := hid ((Keep.refl w).alloc (.cells #[.int .i64 d, sV p] 144))
 have HE := hid he
 clear hO hC he
 go_enter Tryz.func169, Tryz.ntmps169
 go_upto_region 1 with fail
 generalize w.heap.size = g at *
 generalize w.alloc (.cells #[.int .i64 d, sV p] 144) = w1 at *
 have HO2 := hid HO1.out.drew
 have HK2 := hid HK1.out.drew
 clear HO1 HK1
 obtain ⟨s, -, hlk, -, hrd⟩ := Ety.look HO2.out.p2 (d, p) HE.out
 have HV := hid (mValue _ _ _ hrd)
 dsimp only at hlk
 refine region_text (fun w' => w'.cell? ⟨q, 4, none⟩ = some (.map (some b)) ∧ w'.cell? ⟨g, 0, none⟩ = some (.int .i64 d) ∧ w'.cell? ⟨g, 1, none⟩ = some (sV p) ∧ (Instr.lookup tEm (.map (some b)) (.agg #[.int .i64 d, sV p]) false).run Tryz.prog w' = .ok (slvV s) w') (by kernel_rfl) (by kernel_rfl) ⟨HC.out _ _ HO2.out.p1, HO2.out.cells 0, HO2.out.cells 1, hlk⟩ ?_
 generalize w1.drew = w2 at *
 repeat (first | refine wr4 ?_ | refine wk ?_)
 refine wa fun K hK => ?_
 go_simp
 refine HV.out.mono ?_
 rintro e w' ⟨rfl, rfl⟩
 try dsimp only
 refine hK.out _ _ ⟨HC.out _ _ HO2.out.p1, HO2.out.cells 0, HO2.out.cells 1, hlk⟩ ?_
 clear hK K
 try simp only [Act.put, List.setIfInBounds_toArray, List.set_cons_zero, List.set_cons_succ]
 repeat (first | refine wr4 ?_ | refine wk ?_)
 refine wpL_nil ?_
 go_wp2_with fail
 go_ret
 exact ⟨rfl, HO2.out.drop, HK2.out⟩
def valuesE (t : List (Ent × List Int)) (e : Ent) : List Int := (fnd t e).getD [0]
set_option maxRecDepth 100000 in
set_option maxHeartbeats 4000000 in
theorem mValues (q b : Nat) (C : Array Value) (t : List (Ent × List Int)) (e : Ent) (w : World) (L : List HP) (hC : C[4]? = some (.map (some b))) (he : okEnt e) (hO : Has w (pt q (.cells C 142) :: Ety b t :: L)) :
  Calls Tryz.prog 158 #[.pointer (some ⟨q, 0, none⟩), .agg #[.int .i64 e.1, sV e.2]] w fun e' w' => ∃ v, e' = .returned v ∧ Rd w' v 1 (valuesE t e).length (ic (valuesE t e)) ∧ Has w' (pt q (.cells C 142) :: Ety b t :: L) ∧ Keep w w' := by
 obtain ⟨d, p⟩ := e
 dsimp only
 have HC := hid (fun (w : World) (L' : List HP) (h : Has w (pt q (.cells C 142) :: L')) => (show w.cell? ⟨q, 4, none⟩ = some (.map (some b)) from (h.cells 4).trans hC))
 have HO1 := hid (hO.alloc (.cells #[.int .i64 d, sV p] 144))
 have HK1 := hid ((Keep.refl w).alloc (.cells #[.int .i64 d, sV p] 144))
 have HE := hid he
 clear hO hC he
 go_enter Tryz.func158, Tryz.ntmps158
 go_upto_region 1 with fail
 generalize w.heap.size = g at *
 generalize w.alloc (.cells #[.int .i64 d, sV p] 144) = w1 at *
 have HO2 := hid HO1.out.drew
 have HK2 := hid HK1.out.drew
 clear HO1 HK1
 obtain ⟨s, -, -, hlk, hrd⟩ := Ety.look HO2.out.p2 (d, p) HE.out
 dsimp only at hlk
 have HRD := hid hrd
 clear hrd
 refine region_text (fun w' => w'.cell? ⟨q, 4, none⟩ = some (.map (some b)) ∧ w'.cell? ⟨g, 0, none⟩ = some (.int .i64 d) ∧ w'.cell? ⟨g, 1, none⟩ = some (sV p) ∧ (Instr.lookup tEm (.map (some b)) (.agg #[.int .i64 d, sV p]) true).run Tryz.prog w' = .ok (.tuple #[slvV s, .bool (fnd t (d, p)).isSome]) w') (by kernel_rfl) (by kernel_rfl) ⟨HC.out _ _ HO2.out.p1, HO2.out.cells 0, HO2.out.cells 1, hlk⟩ ?_
 generalize w1.drew = w2 at *
 repeat (first | refine wr4 ?_ | refine wk ?_)
 refine wpL_nil ?_
 cases hf : fnd t (d, p) with
 | none =>
  have HO3 := hid (HO2.out.alloc (.cells #[.int .i64 0] 3))
  have HK3 := hid (HK2.out.alloc (.cells #[.int .i64 0] 3))
  have hv : valuesE t (d, p) = [0] := by unfold valuesE; rw [hf]; rfl
  rw [hf] at hlk
  clear hlk
  go_wp2_with fail
  go_ret
  rw [hv]
  refine ⟨_, rfl, ?_, HO3.out.drop.drop, HK3.out⟩
  exact Has.rd (HO3.out.row_of (n := 1) (cap := 1) (size := 1) (xs := ic [0]) (by decide) (by decide) rfl rfl rfl)
 | some a =>
  have hv : valuesE t (d, p) = (fnd t (d, p)).getD [] := by unfold valuesE; rw [hf]; rfl
  rw [hf] at hlk
  clear hlk
  go_wp2_with fail
  go_ret
  rw [hv]
  exact ⟨_, rfl, HRD.out, HO2.out.drop, HK2.out⟩
end Go.Proofs.YtmgpgbfgemebbaaGreatDoor
namespace Go.Proofs.YtmgpgbfgemebbaaGreatDoor
open Go.RowKit Go.Own
def setE (t : List (Ent × List Int)) (e : Ent) (n : Int) : List (Ent × List Int) := putA t e (addV ((fnd t e).getD [0]) n 0)
theorem zm_in {P : Program} {k e : TypeId} {κ η α : Type} {K : Ky P k κ} {V : El P e η} {b : Nat} {C : η → α → HP} {t : List (κ × α)} {w : World} {L : List HP} {A B : HP} : Has w (A :: B :: Zm K V b C t :: L) ↔ ∃ X, zB X = t ∧ Has w (A :: B :: Mk K V b (zH X) :: (zC C X ++ L)) := by
 constructor
 ·intro h
  obtain ⟨X, h1, h2⟩ := zm_iff.1 (h.re 3 [2, 0, 1])
  refine ⟨X, h1, ?_⟩
  have h3 : ∀ (M : HP) (Z : List HP), (M :: (Z ++ A :: B :: L)).Perm (A :: B :: M :: (Z ++ L)) := fun M Z => by
   have e1 : (Z ++ A :: B :: L).Perm (A :: B :: (Z ++ L)) := List.perm_middle.trans (.cons _ List.perm_middle)
   exact (List.Perm.cons M e1).trans ((List.Perm.swap _ _ _).trans (.cons _ (List.Perm.swap _ _ _)))
  exact h2.perm (h3 _ _)
 ·rintro ⟨X, h1, h2⟩
  have h3 : ∀ (M : HP) (Z : List HP), (A :: B :: M :: (Z ++ L)).Perm (M :: (Z ++ A :: B :: L)) := fun M Z => by
   have e1 : (Z ++ A :: B :: L).Perm (A :: B :: (Z ++ L)) := List.perm_middle.trans (.cons _ List.perm_middle)
   exact ((List.Perm.cons M e1).trans ((List.Perm.swap _ _ _).trans (.cons _ (List.Perm.swap _ _ _)))).symm
  have h4 := zm_iff.2 ⟨X, h1, h2.perm (h3 _ _)⟩
  exact h4.re 3 [1, 2, 0]
theorem row_some {w : World} {L : List HP} {v : Value} {e : TypeId} {n : Nat} {xs : List Value} (h : Has w (row v e 1 (n + 1) xs :: L)) : ∃ g c, v = slvV ⟨some (g, 0), n + 1, c⟩ := by
 obtain ⟨-, ⟨-, h1, -⟩ | ⟨g, c, cur, h1, -⟩⟩ := h.row_cases
 ·omega
 ·exact ⟨g, c, h1⟩
set_option maxRecDepth 100000 in
set_option maxHeartbeats 8000000 in
theorem mSet (q b : Nat) (C : Array Value) (t : List (Ent × List Int)) (e : Ent) (n : Int) (w : World) (L : List HP) (hC : C[4]? = some (.map (some b))) (he : okEnt e) (htl : t.length < 1000000) (hll : ((fnd t e).getD [0]).length ≤ 1000000) (hO : Has w (pt q (.cells C 142) :: Ety b t :: L)) :
  Calls Tryz.prog 166 #[.pointer (some ⟨q, 0, none⟩), .agg #[.int .i64 e.1, sV e.2], .int .i64 n] w fun e' w' => e' = .returned (.tuple #[]) ∧ Has w' (pt q (.cells C 142) :: Ety b (setE t e n) :: L) ∧ Keep w w' := by
 obtain ⟨d, p⟩ := e
 dsimp only
 have HC := hid (fun (w : World) (L' : List HP) (h : Has w (pt q (.cells C 142) :: L')) => (show w.cell? ⟨q, 4, none⟩ = some (.map (some b)) from (h.cells 4).trans hC))
 have HO1 := hid (hO.alloc (.cells #[.int .i64 d, sV p] 144))
 have HK1 := hid ((Keep.refl w).alloc (.cells #[.int .i64 d, sV p] 144))
 have HE := hid he
 have HTL := hid htl
 have HLL := hid hll
 clear hO hC he htl hll
 go_enter Tryz.func166, Tryz.ntmps166
 go_upto_region 1 with fail
 generalize w.heap.size = g at *
 generalize w.alloc (.cells #[.int .i64 d, sV p] 144) = w1 at *
 obtain ⟨X, hX, hO2⟩ := zm_in.1 HO1.out
 have HO2 := hid hO2.drew
 have HK2 := hid HK1.out.drew
 have HX := hid hX
 clear HO1 HK1 hO2
 have hnd : (X.map Prod.fst).Nodup := by have h2 := Mk.nodup HO2.out.p2; rw [zH_keys] at h2; exact h2
 have HXL := hid (show (zH X).length < 1000000 from by have h1 := HTL.out; rw [← hX] at h1; unfold zB at h1; unfold zH; rw [List.length_map] at *; exact h1)
 have hlk := Mk.look HO2.out.p2 undEm HE.out
 obtain ⟨X0, hcase, hput⟩ := z_zip EntC X (d, p) hnd
 have HPUT := hid hput
 clear hput hnd
 rcases hcase with ⟨h1, h2, h30⟩ | ⟨s, a, h1, h2, h3⟩
 ·rw [h2] at hlk
  have hl0 : (Instr.lookup tEm (.map (some b)) (.agg #[.int .i64 d, sV p]) true).run Tryz.prog w1.drew = .ok (.tuple #[.slice none 0 0, .bool false]) w1.drew := by
   rw [show ∀ inst : Decidable ((d, p) ∈ (zH X).map Prod.fst), @decide _ inst = false from fun _ => decide_eq_false (fnd_none.1 h2)] at hlk
   exact hlk
  rw [show zC EntC X = zC EntC X0 from by rw [h30]] at HO2
  have HLS := hid (show setE t (d, p) n = putA t (d, p) (addV [0] n 0) from by unfold setE; rw [← HX.out, h1]; rfl)
  clear hlk h1 h2 h30
  refine region_text (fun w' => w'.cell? ⟨q, 4, none⟩ = some (.map (some b)) ∧ w'.cell? ⟨g, 0, none⟩ = some (.int .i64 d) ∧ w'.cell? ⟨g, 1, none⟩ = some (sV p) ∧ (Instr.lookup tEm (.map (some b)) (.agg #[.int .i64 d, sV p]) true).run Tryz.prog w' = .ok (.tuple #[.slice none 0 0, .bool false]) w') (by kernel_rfl) (by kernel_rfl) ⟨HC.out _ _ HO2.out.p1, HO2.out.cells 0, HO2.out.cells 1, hl0⟩ ?_
  generalize w1.drew = w2 at *
  repeat (first | refine wr4 ?_ | refine wk ?_)
  refine wpL_nil ?_
  clear hl0
  have HO3 := hid (show Has (w2.alloc (.cells #[.int .i64 0] 3)) (row (.slice (some ⟨w2.heap.size, 0, none⟩) 1 1) 3 1 1 (ic [0]) :: _) from (HO2.out.alloc (.cells #[.int .i64 0] 3)).row_of (n := 1) (cap := 1) (size := 1) (xs := ic [0]) (by decide) (by decide) rfl rfl rfl)
  have HK3 := hid (HK2.out.alloc (.cells #[.int .i64 0] 3))
  go_upto_region 4 with fail
  generalize w2.alloc (.cells #[.int .i64 0] 3) = w3 at *
  generalize w2.heap.size = g6 at *
  have HV := hid (mValue (.slice (some ⟨g6, 0, none⟩) 1 1) [0] w3 (Has.rd HO3.out))
  clear HO2 HK2
  go_wp2_with fail
  refine HV.out.mono ?_
  rintro e w' ⟨rfl, rfl⟩
  clear HV
  try dsimp only
  by_cases hq : lastI [0] = n
  ·have hqb : (lastI [0] != n) = false := by simp [hq]
   have HAD := hid (show addV [0] n 0 = [0] from by unfold addV; exact if_pos hq)
   clear hq
   generalize lastI [0] = z at *
   go_upto_region 6 with fail
   rw [HAD.out] at HLS
   have HO5 := hid HO3.out.drew
   have HK5 := hid HK3.out.drew
   refine region_text (fun w' => w'.cell? ⟨q, 4, none⟩ = some (.map (some b)) ∧ w'.cell? ⟨g, 0, none⟩ = some (.int .i64 d) ∧ w'.cell? ⟨g, 1, none⟩ = some (sV p)) (by kernel_rfl) (by kernel_rfl) ⟨HC.out _ _ HO5.out.p2, HO5.out.p1.cells 0, HO5.out.p1.cells 1⟩ ?_
   generalize w3.drew = w5 at *
   repeat (first | refine wr3 ?_ | refine wk ?_)
   refine wa fun K hK => ?_
   refine wp_mkPut (show Has w5 (Mk kEnt vSI b (zH X) :: _) from HO5.out.p3) HXL.out tEm undEm _ _ _ rfl rfl ((d, p) : Ent) HE.out rfl (⟨some (g6, 0), 1, 1⟩ : Slv) trivial rfl ?_
   intro w6 h6 k6
   have HO6 := hid h6
   have HK6 := hid (HK5.out.trans k6)
   clear h6 k6
   refine hK.out _ _ ⟨HC.out _ _ HO6.out.p3, HO6.out.p2.cells 0, HO6.out.p2.cells 1⟩ ?_
   clear hK K
   try simp only [Act.put, List.setIfInBounds_toArray, List.set_cons_zero, List.set_cons_succ]
   refine wpL_nil ?_
   go_wp2_with fail
   go_end0
   obtain ⟨X', hB, hH, hC⟩ := HPUT.out (⟨some (g6, 0), 1, 1⟩ : Slv) ([0])
   refine ⟨rfl, ?_, HK6.out⟩
   have h9 : Has w6 (Mk kEnt vSI b (zH X') :: EntC (⟨some (g6, 0), 1, 1⟩ : Slv) ([0]) :: pt g (.cells #[.int .i64 d, sV p] 144) :: pt q (.cells C 142) :: (zC EntC X0 ++ L)) := by rw [hH]; exact HO6.out
   have h10 : Has w6 (pt q (.cells C 142) :: pt g (.cells #[.int .i64 d, sV p] 144) :: Mk kEnt vSI b (zH X') :: (zC EntC X' ++ L)) := (show Has w6 (pt q (.cells C 142) :: pt g (.cells #[.int .i64 d, sV p] 144) :: Mk kEnt vSI b (zH X') :: EntC (⟨some (g6, 0), 1, 1⟩ : Slv) ([0]) :: (zC EntC X0 ++ L)) from h9.re 4 [3, 2, 0, 1]).perm (.cons _ (.cons _ (.cons _ (hC.symm.append_right L))))
   have h11 := zm_in.2 ⟨X', rfl, h10⟩
   rw [hB, HX.out, ← HLS.out] at h11
   exact h11.re 3 [0, 2]
  ·have hqb : (lastI [0] != n) = true := by simp [hq]
   have HAD := hid (show addV [0] n 0 = [0] ++ [n] from by unfold addV; exact if_neg hq)
   clear hq
   generalize lastI [0] = z at *
   have HOa := hid (HO3.out.alloc (.cells #[.int .i64 n] 3))
   have HKa := hid (HK3.out.alloc (.cells #[.int .i64 n] 3))
   have hlit : (w3.alloc (.cells #[.int .i64 n] 3)).cell? ⟨w3.heap.size, 0, none⟩ = some (.int .i64 n) := HOa.out.cells 0
   go_wp2_with (at_builtin; refine wpList_append1 rfl _ _ _ rfl Tryz.underlying69 infoI1 rfl (.int .i64 n) (HOa.out.p1) rfl 1 _ rfl hlit rfl (le_maxLen (by omega)) (by omega) ?_)
   intro v4 w4 h4 k4
   obtain ⟨ga, ca, rfl⟩ := row_some h4
   have HO4 := hid (show Has w4 (row (slvV ⟨some (ga, 0), 1 + 1, ca⟩) 3 1 ([0] ++ [n]).length (ic ([0] ++ [n])) :: pt g (.cells #[.int .i64 d, sV p] 144) :: pt q (.cells C 142) :: Mk kEnt vSI b (zH X) :: (zC EntC X0 ++ L)) from by
    rw [show ic ([0] ++ [n]) = ic [0] ++ [.int .i64 n] from by simp [ic], List.length_append]
    exact h4.re 5 [0, 2, 3, 4])
   have HK4 := hid (HKa.out.trans k4)
   clear h4 k4 HOa HKa hlit HO3 HK3
   go_upto_region 6 with fail
   rw [HAD.out] at HLS
   have HO5 := hid HO4.out.drew
   have HK5 := hid HK4.out.drew
   refine region_text (fun w' => w'.cell? ⟨q, 4, none⟩ = some (.map (some b)) ∧ w'.cell? ⟨g, 0, none⟩ = some (.int .i64 d) ∧ w'.cell? ⟨g, 1, none⟩ = some (sV p)) (by kernel_rfl) (by kernel_rfl) ⟨HC.out _ _ HO5.out.p2, HO5.out.p1.cells 0, HO5.out.p1.cells 1⟩ ?_
   generalize w4.drew = w5 at *
   repeat (first | refine wr3 ?_ | refine wk ?_)
   refine wa fun K hK => ?_
   refine wp_mkPut (show Has w5 (Mk kEnt vSI b (zH X) :: _) from HO5.out.p3) HXL.out tEm undEm _ _ _ rfl rfl ((d, p) : Ent) HE.out rfl (⟨some (ga, 0), 1 + 1, ca⟩ : Slv) trivial rfl ?_
   intro w6 h6 k6
   have HO6 := hid h6
   have HK6 := hid (HK5.out.trans k6)
   clear h6 k6
   refine hK.out _ _ ⟨HC.out _ _ HO6.out.p3, HO6.out.p2.cells 0, HO6.out.p2.cells 1⟩ ?_
   clear hK K
   try simp only [Act.put, List.setIfInBounds_toArray, List.set_cons_zero, List.set_cons_succ]
   refine wpL_nil ?_
   go_wp2_with fail
   go_end0
   obtain ⟨X', hB, hH, hC⟩ := HPUT.out (⟨some (ga, 0), 1 + 1, ca⟩ : Slv) ([0] ++ [n])
   refine ⟨rfl, ?_, HK6.out⟩
   have h9 : Has w6 (Mk kEnt vSI b (zH X') :: EntC (⟨some (ga, 0), 1 + 1, ca⟩ : Slv) ([0] ++ [n]) :: pt g (.cells #[.int .i64 d, sV p] 144) :: pt q (.cells C 142) :: (zC EntC X0 ++ L)) := by rw [hH]; exact HO6.out
   have h10 : Has w6 (pt q (.cells C 142) :: pt g (.cells #[.int .i64 d, sV p] 144) :: Mk kEnt vSI b (zH X') :: (zC EntC X' ++ L)) := (show Has w6 (pt q (.cells C 142) :: pt g (.cells #[.int .i64 d, sV p] 144) :: Mk kEnt vSI b (zH X') :: EntC (⟨some (ga, 0), 1 + 1, ca⟩ : Slv) ([0] ++ [n]) :: (zC EntC X0 ++ L)) from h9.re 4 [3, 2, 0, 1]).perm (.cons _ (.cons _ (.cons _ (hC.symm.append_right L))))
   have h11 := zm_in.2 ⟨X', rfl, h10⟩
   rw [hB, HX.out, ← HLS.out] at h11
   exact h11.re 3 [0, 2]
 ·rw [h2] at hlk
  have hl0 : (Instr.lookup tEm (.map (some b)) (.agg #[.int .i64 d, sV p]) true).run Tryz.prog w1.drew = .ok (.tuple #[slvV s, .bool true]) w1.drew := by
   rw [show ∀ inst : Decidable ((d, p) ∈ (zH X).map Prod.fst), @decide _ inst = true from fun _ => decide_eq_true (List.mem_map.2 ⟨_, fnd_some h2, rfl⟩)] at hlk
   exact hlk
  have HLS := hid (show setE t (d, p) n = putA t (d, p) (addV a n 0) from by unfold setE; rw [← HX.out, h1]; rfl)
  have HAL := hid (show a.length ≤ 1000000 from by have h9 := HLL.out; rw [← HX.out, h1] at h9; exact h9)
  clear hlk h1 h2
  refine region_text (fun w' => w'.cell? ⟨q, 4, none⟩ = some (.map (some b)) ∧ w'.cell? ⟨g, 0, none⟩ = some (.int .i64 d) ∧ w'.cell? ⟨g, 1, none⟩ = some (sV p) ∧ (Instr.lookup tEm (.map (some b)) (.agg #[.int .i64 d, sV p]) true).run Tryz.prog w' = .ok (.tuple #[slvV s, .bool true]) w') (by kernel_rfl) (by kernel_rfl) ⟨HC.out _ _ HO2.out.p1, HO2.out.cells 0, HO2.out.cells 1, hl0⟩ ?_
  generalize w1.drew = w2 at *
  repeat (first | refine wr4 ?_ | refine wk ?_)
  refine wpL_nil ?_
  clear hl0
  have HO3 := hid (show Has w2 (row (slvV s) 3 1 a.length (ic a) :: pt g (.cells #[.int .i64 d, sV p] 144) :: pt q (.cells C 142) :: Mk kEnt vSI b (zH X) :: (zC EntC X0 ++ L)) from by
   have h5 := HO2.out.perm (show (pt g (.cells #[.int .i64 d, sV p] 144) :: pt q (.cells C 142) :: Mk kEnt vSI b (zH X) :: (zC EntC X ++ L)).Perm (pt g (.cells #[.int .i64 d, sV p] 144) :: pt q (.cells C 142) :: Mk kEnt vSI b (zH X) :: (EntC s a :: zC EntC X0 ++ L)) from .cons _ (.cons _ (.cons _ (h3.append_right L))))
   exact h5.p3)
  have HK3 := hid HK2.out
  clear h3
  go_upto_region 4 with fail
  generalize w2 = w3 at *
  have HV := hid (mValue (slvV s) a w3 (Has.rd HO3.out))
  clear HO2 HK2
  go_wp2_with fail
  refine HV.out.mono ?_
  rintro e w' ⟨rfl, rfl⟩
  clear HV
  try dsimp only
  by_cases hq : lastI a = n
  ·have hqb : (lastI a != n) = false := by simp [hq]
   have HAD := hid (show addV a n 0 = a from by unfold addV; exact if_pos hq)
   clear hq
   generalize lastI a = z at *
   go_upto_region 6 with fail
   rw [HAD.out] at HLS
   have HO5 := hid HO3.out.drew
   have HK5 := hid HK3.out.drew
   refine region_text (fun w' => w'.cell? ⟨q, 4, none⟩ = some (.map (some b)) ∧ w'.cell? ⟨g, 0, none⟩ = some (.int .i64 d) ∧ w'.cell? ⟨g, 1, none⟩ = some (sV p)) (by kernel_rfl) (by kernel_rfl) ⟨HC.out _ _ HO5.out.p2, HO5.out.p1.cells 0, HO5.out.p1.cells 1⟩ ?_
   generalize w3.drew = w5 at *
   repeat (first | refine wr3 ?_ | refine wk ?_)
   refine wa fun K hK => ?_
   refine wp_mkPut (show Has w5 (Mk kEnt vSI b (zH X) :: _) from HO5.out.p3) HXL.out tEm undEm _ _ _ rfl rfl ((d, p) : Ent) HE.out rfl s trivial rfl ?_
   intro w6 h6 k6
   have HO6 := hid h6
   have HK6 := hid (HK5.out.trans k6)
   clear h6 k6
   refine hK.out _ _ ⟨HC.out _ _ HO6.out.p3, HO6.out.p2.cells 0, HO6.out.p2.cells 1⟩ ?_
   clear hK K
   try simp only [Act.put, List.setIfInBounds_toArray, List.set_cons_zero, List.set_cons_succ]
   refine wpL_nil ?_
   go_wp2_with fail
   go_end0
   obtain ⟨X', hB, hH, hC⟩ := HPUT.out s (a)
   refine ⟨rfl, ?_, HK6.out⟩
   have h9 : Has w6 (Mk kEnt vSI b (zH X') :: EntC s (a) :: pt g (.cells #[.int .i64 d, sV p] 144) :: pt q (.cells C 142) :: (zC EntC X0 ++ L)) := by rw [hH]; exact HO6.out
   have h10 : Has w6 (pt q (.cells C 142) :: pt g (.cells #[.int .i64 d, sV p] 144) :: Mk kEnt vSI b (zH X') :: (zC EntC X' ++ L)) := (show Has w6 (pt q (.cells C 142) :: pt g (.cells #[.int .i64 d, sV p] 144) :: Mk kEnt vSI b (zH X') :: EntC s (a) :: (zC EntC X0 ++ L)) from h9.re 4 [3, 2, 0, 1]).perm (.cons _ (.cons _ (.cons _ (hC.symm.append_right L))))
   have h11 := zm_in.2 ⟨X', rfl, h10⟩
   rw [hB, HX.out, ← HLS.out] at h11
   exact h11.re 3 [0, 2]
  ·have hqb : (lastI a != n) = true := by simp [hq]
   have HAD := hid (show addV a n 0 = a ++ [n] from by unfold addV; exact if_neg hq)
   clear hq
   generalize lastI a = z at *
   have HOa := hid (HO3.out.alloc (.cells #[.int .i64 n] 3))
   have HKa := hid (HK3.out.alloc (.cells #[.int .i64 n] 3))
   have hlit : (w3.alloc (.cells #[.int .i64 n] 3)).cell? ⟨w3.heap.size, 0, none⟩ = some (.int .i64 n) := HOa.out.cells 0
   go_wp2_with (at_builtin; refine wpList_append1 rfl _ _ _ rfl Tryz.underlying69 infoI1 rfl (.int .i64 n) (HOa.out.p1) rfl 1 _ rfl hlit rfl (le_maxLen (by have := HAL.out; omega)) (by have := HAL.out; omega) ?_)
   intro v4 w4 h4 k4
   obtain ⟨ga, ca, rfl⟩ := row_some h4
   have HO4 := hid (show Has w4 (row (slvV ⟨some (ga, 0), a.length + 1, ca⟩) 3 1 (a ++ [n]).length (ic (a ++ [n])) :: pt g (.cells #[.int .i64 d, sV p] 144) :: pt q (.cells C 142) :: Mk kEnt vSI b (zH X) :: (zC EntC X0 ++ L)) from by
    rw [show ic (a ++ [n]) = ic a ++ [.int .i64 n] from by simp [ic], List.length_append]
    exact h4.re 5 [0, 2, 3, 4])
   have HK4 := hid (HKa.out.trans k4)
   clear h4 k4 HOa HKa hlit HO3 HK3
   go_upto_region 6 with fail
   rw [HAD.out] at HLS
   have HO5 := hid HO4.out.drew
   have HK5 := hid HK4.out.drew
   refine region_text (fun w' => w'.cell? ⟨q, 4, none⟩ = some (.map (some b)) ∧ w'.cell? ⟨g, 0, none⟩ = some (.int .i64 d) ∧ w'.cell? ⟨g, 1, none⟩ = some (sV p)) (by kernel_rfl) (by kernel_rfl) ⟨HC.out _ _ HO5.out.p2, HO5.out.p1.cells 0, HO5.out.p1.cells 1⟩ ?_
   generalize w4.drew = w5 at *
   repeat (first | refine wr3 ?_ | refine wk ?_)
   refine wa fun K hK => ?_
   refine wp_mkPut (show Has w5 (Mk kEnt vSI b (zH X) :: _) from HO5.out.p3) HXL.out tEm undEm _ _ _ rfl rfl ((d, p) : Ent) HE.out rfl (⟨some (ga, 0), a.length + 1, ca⟩ : Slv) trivial rfl ?_
   intro w6 h6 k6
   have HO6 := hid h6
   have HK6 := hid (HK5.out.trans k6)
   clear h6 k6
   refine hK.out _ _ ⟨HC.out _ _ HO6.out.p3, HO6.out.p2.cells 0, HO6.out.p2.cells 1⟩ ?_
   clear hK K
   try simp only [Act.put, List.setIfInBounds_toArray, List.set_cons_zero, List.set_cons_succ]
   refine wpL_nil ?_
   go_wp2_with fail
   go_end0
   obtain ⟨X', hB, hH, hC⟩ := HPUT.out (⟨some (ga, 0), a.length + 1, ca⟩ : Slv) (a ++ [n])
   refine ⟨rfl, ?_, HK6.out⟩
   have h9 : Has w6 (Mk kEnt vSI b (zH X') :: EntC (⟨some (ga, 0), a.length + 1, ca⟩ : Slv) (a ++ [n]) :: pt g (.cells #[.int .i64 d, sV p] 144) :: pt q (.cells C 142) :: (zC EntC X0 ++ L)) := by rw [hH]; exact HO6.out
   have h10 : Has w6 (pt q (.cells C 142) :: pt g (.cells #[.int .i64 d, sV p] 144) :: Mk kEnt vSI b (zH X') :: (zC EntC X' ++ L)) := (show Has w6 (pt q (.cells C 142) :: pt g (.cells #[.int .i64 d, sV p] 144) :: Mk kEnt vSI b (zH X') :: EntC (⟨some (ga, 0), a.length + 1, ca⟩ : Slv) (a ++ [n]) :: (zC EntC X0 ++ L)) from h9.re 4 [3, 2, 0, 1]).perm (.cons _ (.cons _ (.cons _ (hC.symm.append_right L))))
   have h11 := zm_in.2 ⟨X', rfl, h10⟩
   rw [hB, HX.out, ← HLS.out] at h11
   exact h11.re 3 [0, 2]
end Go.Proofs.YtmgpgbfgemebbaaGreatDoor
namespace Go.Own
open Go.RowKit Go.Maps Go.ChangeMaps Go.MapKept
open Go.WideElems (Fit rd rg pl rd_val rd_key rg_of rd_mk other_key)
section
variable {P : Program} {k e : TypeId} {R : Rdr} {w : World} {L : List HP} {b r cnt : Nat} {D : DataW Unit} {left : Lit → Bool}
theorem born_len (es : List MapEntry) (j : Nat) (e0 e1 : MapEntry) (h : es[j]? = some e0) (hb : e1.born = e0.born) (f : Nat → Bool) : ((es.set j e1).filter fun x => f x.born).length = (es.filter fun x => f x.born).length := by
 have e2 : (es.set j e1).map (·.born) = es.map (·.born) := by
  rw [List.map_set, hb]
  apply List.ext_getElem?
  intro i
  by_cases hi : i = j
  ·subst hi
   rw [List.getElem?_set_self (by rw [List.length_map]; exact (List.getElem?_eq_some_iff.1 h).1), List.getElem?_map, h]
   rfl
  ·rw [List.getElem?_set_ne (Ne.symm hi)]
 have e3 : ∀ l : List MapEntry, (l.filter fun x => f x.born).length = ((l.map (·.born)).filter f).length := by
  intro l
  rw [List.filter_map, List.length_map]
  rfl
 rw [e3, e3, e2]
theorem Has.rgStore (h : Has w (Rg P k R b r D left cnt :: L)) (K : Keyed P k) {t : TypeId} (ht : P.underlying t = some (.map k e)) (hroom : Maps.size D < maxLen) {z : Value} (hz : (zeroValue e).run P w = .ok z w) {key val : Value} {kl : Lit} {yv : DataW Unit × List MemPlace} (hkey : keyOf P k key = some kl) (hin : ∃ y, ∀ zd, D.atKey kl zd = y) (hv : R val = some yv) :
  ∃ w', (Instr.mapUpdate t (.map (some b)) key val).run P w = .ok () w' ∧ Has w' (Rg P k R b r (D.put kl yv.1) left cnt :: L) ∧ Keep w w' := by
 obtain ⟨es, clock, since, seen, c0, ⟨F, rfl, h1, h2, h3, h4, h5, h6⟩, hh⟩ := Rg.iff.1 h
 have hb := hh.lookup
 have hsz : es.size < maxLen := by rw [Maps.size_eq, length_read] at hroom; exact hroom
 obtain ⟨es', clock', hrun, F', hput, -, -, -⟩ := Maps.fit_store (R' := R) K ht hb F hsz (fun _ _ _ _ hz => hz) hkey hv
 have hex : ∃ x ∈ es.toList, x.key = key := by
  rcases Maps.fit_look false K ht hz hb F hkey with ⟨-, -, hat⟩ | ⟨e0, y, h7, h8, -⟩
  ·exfalso
   obtain ⟨y, hy⟩ := hin
   have e1 := (hy .nil).symm.trans (hat .nil)
   have e2 := (hy (.map [])).symm.trans (hat (.map []))
   rw [e1] at e2
   cases e2
  ·exact ⟨e0, h7, h8⟩
 rcases K.find w hkey es.toList F.keys with ⟨-, h8⟩ | ⟨j, e0, h7, h8, h9⟩
 ·obtain ⟨x, hx, hxk⟩ := hex
  exact absurd hxk (h8 x hx)
 ·have hj : es[j]? = some e0 := by simpa using h8
  have hrun2 : (Instr.mapUpdate t (.map (some b)) key val).run P w = .ok () (setBlock w b (.map (es.modify j (fun e' => { e' with key := key, val := val })) clock)) := by
   simp [Instr.mapUpdate, run_underlying ht, MapKept.run_getObj_map hb, K.check w false hkey, h7, hj, h9, K.stays w hkey, MapKept.run_setObj_map _ hb, Result.andThen, setBlock]
  have hee : es' = es.modify j (fun e' => { e' with key := key, val := val }) ∧ clock' = clock := by
   have e1 := hrun.symm.trans hrun2
   simp only [Result.ok.injEq, true_and] at e1
   have e2 := congrArg (fun w : World => w.heap[b]?) e1
   have hlt := hh.lt
   simp only [setBlock, Array.getElem?_setIfInBounds_self, hlt, if_true, Option.some.injEq, Obj.map.injEq] at e2
   exact e2
  obtain ⟨rfl, rfl⟩ := hee
  have hlist : (es.modify j (fun e' => { e' with key := key, val := val })).toList = es.toList.set j { e0 with key := key, val := val } := by rw [Array.toList_modify, modify_eq_set _ _ _ _ h8]
  have hrd0 : (rg P k R e0).1 = kl := by
   obtain ⟨y, hy⟩ := F.reads e0 (List.mem_of_getElem? h8)
   rw [rg_of hy]
   have := rd_key hy
   rw [h9, hkey] at this
   exact (Option.some.inj this).symm
  have hrd1 : (rg P k R { e0 with key := key, val := val }).1 = kl := by rw [rg_of (rd_mk hkey hv)]
  have hmem : ∀ x ∈ es.toList.set j { e0 with key := key, val := val }, x = { e0 with key := key, val := val } ∨ x ∈ es.toList := fun x hx => (List.mem_or_eq_of_mem_set hx).symm
  have hjl : j < es.toList.length := (List.getElem?_eq_some_iff.1 h8).1
  refine ⟨_, hrun2, Rg.iff.2 ⟨_, _, since, seen, c0, ⟨F', by rw [DataW.put_eq, hput], ?_, ?_, ?_, ?_, h5, h6⟩, hh.setObj _⟩, ⟨rfl, rfl, rfl, by simp [setBlock]⟩⟩
  ·intro x hx
   rw [hlist] at hx
   rcases hmem x hx with rfl | hx
   ·exact h1 e0 (List.mem_of_getElem? h8)
   ·exact h1 x hx
  ·rw [← h2]
   have e1 : ∀ a : Array MapEntry, (leftOf a seen).size = (a.toList.filter fun e => !seen.contains e.born).length := fun a => by
    unfold leftOf
    rw [← Array.toList_filter, Array.length_toList]
   rw [e1, e1, hlist]
   exact born_len es.toList j e0 { e0 with key := key, val := val } h8 rfl (fun n => !seen.contains n)
  ·intro x hx
   rw [hlist] at hx
   rcases hmem x hx with rfl | hx
   ·rw [hrd1, ← hrd0]
    exact h3 e0 (List.mem_of_getElem? h8)
   ·exact h3 x hx
  ·intro kl' hl
   obtain ⟨x, hx, rfl⟩ := h4 kl' hl
   rw [hlist]
   obtain ⟨i, hi⟩ := List.getElem?_of_mem hx
   by_cases hij : i = j
   ·subst hij
    rw [h8] at hi
    cases hi
    exact ⟨_, List.mem_of_getElem? (List.getElem?_set_self hjl), by rw [hrd1, hrd0]⟩
   ·exact ⟨x, List.mem_of_getElem? (by rw [List.getElem?_set_ne (Ne.symm hij)]; exact hi), rfl⟩
end
section
variable {P : Program} {k e : TypeId} {κ α : Type} [DecidableEq κ] {K : Ky P k κ} {V : El P e α} {w : World} {L : List HP} {b r cnt : Nat} {t : List (κ × α)} {rem : List κ} {o : Oper} {a : Act} {Q : Exit → Act → World → Prop}
theorem Mr.store (h : Has w (Mr K V b r t rem cnt :: L)) (hl : t.length < 1000000) {T : TypeId} (ht : P.underlying T = some (.map k e)) {x : κ} (hx : x ∈ t.map Prod.fst) {y : α} (hy : V.ok y) :
  ∃ w', (Instr.mapUpdate T (.map (some b)) (K.val x) (V.val y)).run P w = .ok () w' ∧ Has w' (Mr K V b r (putA t x y) rem cnt :: L) ∧ Keep w w' := by
 obtain ⟨D, left, ⟨h1, h2⟩, h3⟩ := Mr.iff.1 h
 obtain ⟨p, hp, rfl⟩ := List.mem_map.1 hx
 have hok := h1.ok p hp
 obtain ⟨w', hr, h4, h5⟩ := h3.rgStore K.law ht (by rw [h1.size]; show t.length < maxLen; unfold maxLen; omega) (V.zero w) (K.spell hok) ⟨_, h1.yes p hp⟩ (V.spell hy)
 exact ⟨w', hr, Mr.iff.2 ⟨_, left, ⟨h1.put p.1 y hok, h2⟩, h4⟩, h5⟩
theorem wp_mrPut {R : Act → World → Prop} (h : Has w (Mr K V b r t rem cnt :: L)) (hl : t.length < 1000000) (T : TypeId) (ht : P.underlying T = some (.map k e)) (m kx v : Operand) (hop : o.op = Op.mapUpdate T m kx v) (hm : a.eval m = .map (some b)) (x : κ) (hx : x ∈ t.map Prod.fst) (hk : a.eval kx = K.val x) (y : α) (hy : V.ok y) (hv : a.eval v = V.val y)
  (hK : ∀ w', Has w' (Mr K V b r (putA t x y) rem cnt :: L) → Keep w w' → R (a.put o.dst undef) w') : o.wp P a w R Q := by
 obtain ⟨w', hrun, h2, h3⟩ := Mr.store h hl ht hx hy
 unfold Oper.wp
 simp [execOp, hop, hm, hk, hv, hrun, Result.andThen]
 exact hK w' h2 h3
end
end Go.Own
namespace Go.Own
open Go.RowKit Go.Maps Go.ChangeMaps Go.MapKept
open Go.WideElems (Fit rd rg pl rd_val)
section
variable {P : Program} {k e : TypeId} {κ α : Type} [DecidableEq κ] {K : Ky P k κ} {V : El P e α} {w : World} {L : List HP} {b r cnt clock : Nat} {es : Array MapEntry} {t : List (κ × α)} {rem : List κ}
def dOf (P : Program) (k : TypeId) (R : Rdr) (es : Array MapEntry) : DataW Unit := .map ((es.toList.map (rg P k R)).foldr DataW.insert [])
def Mx (K : Ky P k κ) (V : El P e α) (b : Nat) (es : Array MapEntry) (clock : Nat) (t : List (κ × α)) : HP := sep (fact (AlK K V (dOf P k V.R es) t ∧ Fit P k V.R es clock)) (pt b (.map es clock))
abbrev ItI := Nat × Array Nat × Nat × (Lit → Bool)
def It (K : Ky P k κ) (V : El P e α) (b r : Nat) (es : Array MapEntry) (clock : Nat) (rem : List κ) (cnt : Nat) : HP :=
 ex fun i : ItI => sep (fact (RgF P k V.R (dOf P k V.R es) i.2.2.2 cnt es clock i.1 i.2.1 i.2.2.1 ∧ ∀ x, i.2.2.2 (K.lk x) = true ↔ x ∈ rem)) (pt r (.mapIter (some b) i.1 i.2.1 i.2.2.1))
omit [DecidableEq κ] in
theorem mx_iff : Has w (Mx K V b es clock t :: L) ↔ (AlK K V (dOf P k V.R es) t ∧ Fit P k V.R es clock) ∧ Has w (pt b (.map es clock) :: L) := by
 unfold Mx
 rw [Has.sep_iff, Has.fact_iff]
omit [DecidableEq κ] in
theorem it_iff : Has w (It K V b r es clock rem cnt :: L) ↔ ∃ since seen c0 left, (RgF P k V.R (dOf P k V.R es) left cnt es clock since seen c0 ∧ ∀ x, left (K.lk x) = true ↔ x ∈ rem) ∧ Has w (pt r (.mapIter (some b) since seen c0) :: L) := by
 unfold It
 simp only [Has.ex_iff, Has.sep_iff, Has.fact_iff]
 constructor
 ·rintro ⟨⟨a, c, d, f⟩, h⟩; exact ⟨a, c, d, f, h⟩
 ·rintro ⟨a, c, d, f, h⟩; exact ⟨⟨a, c, d, f⟩, h⟩
omit [DecidableEq κ] in
theorem Mx.of_mk (h : Has w (Mk K V b t :: L)) : ∃ es clock, Has w (Mx K V b es clock t :: L) := by
 obtain ⟨D, h1, h2⟩ := Mk.iff.1 h
 obtain ⟨es, clock, ⟨F, rfl⟩, h3⟩ := Mp.iff.1 h2
 exact ⟨es, clock, mx_iff.2 ⟨⟨h1, F⟩, h3⟩⟩
omit [DecidableEq κ] in
theorem Mx.mk (h : Has w (Mx K V b es clock t :: L)) : Has w (Mk K V b t :: L) := by
 obtain ⟨⟨h1, F⟩, h2⟩ := mx_iff.1 h
 exact Mk.iff.2 ⟨_, h1, Mp.iff.2 ⟨es, clock, ⟨F, rfl⟩, h2⟩⟩
omit [DecidableEq κ] in
theorem Mx.of_mr (h : Has w (Mr K V b r t rem cnt :: L)) : ∃ es clock, Has w (Mx K V b es clock t :: It K V b r es clock rem cnt :: L) := by
 obtain ⟨D, left, ⟨h1, h2⟩, h3⟩ := Mr.iff.1 h
 obtain ⟨es, clock, since, seen, c0, F, h4⟩ := Rg.iff.1 h3
 obtain rfl : D = dOf P k V.R es := F.2.1
 refine ⟨es, clock, mx_iff.2 ⟨⟨h1, F.1⟩, ?_⟩⟩
 exact (it_iff.2 ⟨since, seen, c0, left, ⟨F, h2⟩, h4.p1⟩).p1
omit [DecidableEq κ] in
theorem Mx.mr (h : Has w (Mx K V b es clock t :: It K V b r es clock rem cnt :: L)) : Has w (Mr K V b r t rem cnt :: L) := by
 obtain ⟨⟨h1, F⟩, h2⟩ := mx_iff.1 h
 obtain ⟨since, seen, c0, left, ⟨h3, h4⟩, h5⟩ := it_iff.1 h2.p1
 exact Mr.iff.2 ⟨_, left, ⟨h1, h4⟩, Rg.iff.2 ⟨es, clock, since, seen, c0, h3, h5.p1⟩⟩
omit [DecidableEq κ] in
theorem Mx.left (h : Has w (Mx K V b es clock t :: It K V b r es clock rem cnt :: L)) : w.rangeLeft b r = cnt := Mr.left (Mx.mr h)
section
variable {ops : Array Oper} {rest : List Oper} {o : Oper} {a : Act} {Q : Exit → Act → World → Prop}
theorem wpList_mxStart (h : Has w (Mx K V b es clock t :: L)) (T : TypeId) (ht : P.underlying T = some (.map k e)) (hg : o.guard = none) (m : Operand) (hop : o.op = Op.range T m) (hm : a.eval m = .map (some b))
  (hK : ∀ w', Has w' (Mx K V b es clock t :: It K V b w.heap.size es clock (t.map Prod.fst) t.length :: L) → Keep w w' → w'.heap.size = w.heap.size + 1 → wpList P ops Q rest (a.put o.dst (.pointer (some ⟨w.heap.size, 0, none⟩))) w') : wpList P ops Q (o :: rest) a w := by
 obtain ⟨⟨h1, F⟩, hb⟩ := mx_iff.1 h
 have h2 : Has w (Mp P k V.R b (dOf P k V.R es) :: L) := Mp.iff.2 ⟨es, clock, ⟨F, rfl⟩, hb⟩
 refine wpList_range_own w hg m T hop k e K.law ht V.R b _ _ hm h2.owns ?_
 intro w' hr hgr hs
 obtain ⟨es', clock', since, seen, c0, hb', F', hsz, hD, hi, g1, g2, g3, g4, g5, g6⟩ := hr
 have e1 := (hgr.block b hb.lt (by simp)).symm.trans hb'
 rw [hb.lookup] at e1
 simp only [Option.some.injEq, Obj.map.injEq] at e1
 obtain ⟨rfl, rfl⟩ := e1
 have hk : ∀ i, i < w.heap.size → w'.heap[i]? = w.heap[i]? := fun i hi => hgr.block i hi (by simp)
 have h3 : Has w' (pt w.heap.size (.mapIter (some b) since seen c0) :: pt b (.map es clock) :: L) := hb.fresh hk (Nat.le_refl _) hi
 refine hK w' (mx_iff.2 ⟨⟨h1, F⟩, ?_⟩) ((Keep.refl w).grown hgr) hs
 have h4 : Has w' (It K V b w.heap.size es clock (t.map Prod.fst) t.length :: pt b (.map es clock) :: L) := it_iff.2 ⟨since, seen, c0, _, ⟨⟨F, rfl, g1, by rw [g2, ← h1.size], g3, g4, g5, g6⟩, fun x => by rw [h1.has, decide_eq_true_iff]⟩, h3⟩
 exact h4.p1
theorem wpList_mxNext (h : Has w (Mx K V b es clock t :: It K V b r es clock rem cnt :: L)) (hg : o.guard = none) (it : Operand) (hop : o.op = Op.next it false) (hit : a.eval it = .pointer (some ⟨r, 0, none⟩))
  (hDone : rem = [] → wpList P ops Q rest (a.put o.dst (.tuple #[.bool false])) w)
  (hMore : ∀ (p : κ × α) (w' : World) (cnt' : Nat), p ∈ t → p.1 ∈ rem → K.ok p.1 → Has w' (Mx K V b es clock t :: It K V b r es clock (rem.filter fun y => decide (y ≠ p.1)) cnt' :: L) → cnt' < cnt → Keep w w' → w'.heap.size = w.heap.size →
   (Instr.entry (.pointer (some ⟨r, 0, none⟩))).run P w' = .ok (.tuple #[K.val p.1, V.val p.2]) w' → wpList P ops Q rest (a.put o.dst (.tuple #[.bool true, K.val p.1, V.val p.2])) w') : wpList P ops Q (o :: rest) a w := by
 obtain ⟨⟨h1, F⟩, hb⟩ := mx_iff.1 h
 obtain ⟨since, seen, c0, left, ⟨G, hl⟩, hi⟩ := it_iff.1 hb.p1
 have h2 : Has w (Rg P k V.R b r (dOf P k V.R es) left cnt :: L) := Rg.iff.2 ⟨es, clock, since, seen, c0, G, hi.p1⟩
 have hne : b ≠ r := (hi.p1).ne
 refine wpList_next_ranges w hg it hop k K.law V.R K.val V.val (fun key kl hk => by obtain ⟨x, rfl, -⟩ := K.inv hk; exact ⟨x, rfl⟩) (fun v y hv => by obtain ⟨c, rfl, -⟩ := V.inv hv; exact ⟨c, rfl⟩) b r _ _ left cnt hit h2.rgRanges (fun hc hno => hDone ?_) ?_
 ·rw [List.eq_nil_iff_forall_not_mem]
  intro x hx
  have := (hl x).2 hx
  rw [hno] at this
  cases this
 ·intro x c kl y w' cnt' hk hlk hv hat hrg hlt hgr hsz hen
  obtain ⟨x', ex, rfl, hw⟩ := K.inv hk
  rw [ex] at hen hk
  have hx : x' ∈ t.map Prod.fst := by
   refine Classical.byContradiction fun hx => ?_
   have e1 := (hat .nil).symm.trans (h1.no x' hx .nil)
   have e2 := (hat (.map [])).symm.trans (h1.no x' hx (.map []))
   rw [e1] at e2
   cases e2
  obtain ⟨p, hp, rfl⟩ := List.mem_map.1 hx
  obtain ⟨c', ec, hy, -⟩ := V.inv hv
  have hpc : p.2 = c' := V.inj ((h1.yes p hp .nil).symm.trans ((hat .nil).trans hy))
  rw [ec, ← hpc] at hen
  rw [ex, ec, ← hpc]
  have e : ∀ z, (K.lk z).sameKey (K.lk p.1) = decide (z = p.1) := by
   intro z
   by_cases hz : z = p.1
   ·subst hz; rw [decide_eq_true rfl]; exact WideAt.sameKey_self (K.isK _)
   ·rw [decide_eq_false hz]
    cases hs : (K.lk z).sameKey (K.lk p.1) with
    | false => rfl
    | true => exact absurd (K.inj (WideAt.sameKey_eq hs)) hz
  obtain ⟨es', clock', since', seen', c0', hb', F', -, hD, hi', g1, g2, g3, g4, g5, g6⟩ := hrg
  have e1 := (hgr.block b hb.lt (fun e => hne (by simpa using e))).symm.trans hb'
  rw [hb.lookup] at e1
  simp only [Option.some.injEq, Obj.map.injEq] at e1
  obtain ⟨rfl, rfl⟩ := e1
  have h3 : Has w' (pt r (.mapIter (some b) since' seen' c0') :: pt b (.map es clock) :: L) := hi.turn (grown_but hgr fun r' e => by cases e; rfl) hi'
  refine hMore p w' cnt' hp ((hl _).1 hlk) hw (mx_iff.2 ⟨⟨h1, F⟩, ?_⟩) hlt ((Keep.refl w).grown hgr) hsz hen
  have h4 : Has w' (It K V b r es clock (rem.filter fun y => decide (y ≠ p.1)) cnt' :: pt b (.map es clock) :: L) := it_iff.2 ⟨since', seen', c0', _, ⟨⟨F, rfl, g1, g2, g3, g4, g5, g6⟩, fun z => by
   rw [e, Bool.and_eq_true, hl, List.mem_filter]
   simp⟩, h3⟩
  exact h4.p1
end
end
end Go.Own
namespace Go.Proofs.YtmgpgbfgemebbaaGreatDoor
open Go.RowKit Go.Own
theorem kEnt_val (x : Ent) : kEnt.val x = .agg #[.int .i64 x.1, sV x.2] := rfl
theorem vSI_val (s : Slv) : vSI.val s = slvV s := rfl
abbrev EtX (b : Nat) (es : Array MapEntry) (clock : Nat) (X : List (Ent × Slv × List Int)) : HP := Mx kEnt vSI b es clock (zH X)
theorem EtX.look {w : World} {L : List HP} {b clock : Nat} {es : Array MapEntry} {X : List (Ent × Slv × List Int)} (h : Has w (EtX b es clock X :: (zC EntC X ++ L))) (e : Ent) (he : okEnt e) : (Instr.lookup tEm (.map (some b)) (.agg #[.int .i64 e.1, sV e.2]) false).run Tryz.prog w = .ok (slvV ((fnd (zH X) e).getD ⟨none, 0, 0⟩)) w ∧ Rd w (slvV ((fnd (zH X) e).getD ⟨none, 0, 0⟩)) 1 ((fnd (zB X) e).getD []).length (ic ((fnd (zB X) e).getD [])) := by
 have h1 := Mx.mk h
 have hnd : (X.map Prod.fst).Nodup := by have h2 := Mk.nodup h1; rw [zH_keys] at h2; exact h2
 have hl := Mk.look0 h1 undEm he
 rw [kEnt_val, vSI_val, show vSI.z = (⟨none, 0, 0⟩ : Slv) from rfl] at hl
 refine ⟨hl, ?_⟩
 obtain ⟨X0, hcase, -⟩ := z_zip EntC X e hnd
 rcases hcase with ⟨h2, h3, -⟩ | ⟨s, a, h2, h3, h4⟩
 ·rw [h2, h3]
  exact Has.rd (h1.row_nil 3 1)
 ·rw [h2, h3]
  have h5 : Has w (EntC s a :: (zC EntC X0 ++ L)) := h1.drop.perm (h4.append_right L)
  exact Has.rd h5
set_option maxRecDepth 100000 in
set_option maxHeartbeats 4000000 in
theorem mNowX (q b clock : Nat) (es : Array MapEntry) (C : Array Value) (X : List (Ent × Slv × List Int)) (e : Ent) (w : World) (L : List HP) (hC : C[4]? = some (.map (some b))) (he : okEnt e) (hO : Has w (pt q (.cells C 142) :: EtX b es clock X :: (zC EntC X ++ L))) :
  Calls Tryz.prog 169 #[.pointer (some ⟨q, 0, none⟩), .agg #[.int .i64 e.1, sV e.2]] w fun e' w' => e' = .returned (.int .i64 (nowE (zB X) e)) ∧ Has w' (pt q (.cells C 142) :: EtX b es clock X :: (zC EntC X ++ L)) ∧ Keep w w' := by
 obtain ⟨d, p⟩ := e
 dsimp only
 have HC := hid (fun (w : World) (L' : List HP) (h : Has w (pt q (.cells C 142) :: L')) => (show w.cell? ⟨q, 4, none⟩ = some (.map (some b)) from (h.cells 4).trans hC))
 have HO1 := hid (hO.alloc (.cells #[.int .i64 d, sV p] 144))
 have HK1 := hid ((Keep.refl w).alloc (.cells #[.int .i64 d, sV p] 144))
 have HE := hid he
 clear hO hC he
 go_enter Tryz.func169, Tryz.ntmps169
 go_upto_region 1 with fail
 generalize w.heap.size = g at *
 generalize w.alloc (.cells #[.int .i64 d, sV p] 144) = w1 at *
 have HO2 := hid HO1.out.drew
 have HK2 := hid HK1.out.drew
 clear HO1 HK1
 obtain ⟨hlk, hrd⟩ := EtX.look HO2.out.drop.drop (d, p) HE.out
 have HV := hid (mValue _ _ _ hrd)
 obtain ⟨s, hs⟩ : ∃ s, (fnd (zH X) (d, p)).getD ⟨none, 0, 0⟩ = s := ⟨_, rfl⟩
 rw [hs] at hlk HV
 clear hs hrd
 dsimp only at hlk
 refine region_text (fun w' => w'.cell? ⟨q, 4, none⟩ = some (.map (some b)) ∧ w'.cell? ⟨g, 0, none⟩ = some (.int .i64 d) ∧ w'.cell? ⟨g, 1, none⟩ = some (sV p) ∧ (Instr.lookup tEm (.map (some b)) (.agg #[.int .i64 d, sV p]) false).run Tryz.prog w' = .ok (slvV s) w') (by kernel_rfl) (by kernel_rfl) ⟨HC.out _ _ HO2.out.p1, HO2.out.cells 0, HO2.out.cells 1, hlk⟩ ?_
 generalize w1.drew = w2 at *
 repeat (first | refine wr4 ?_ | refine wk ?_)
 refine wa fun K hK => ?_
 go_simp
 refine HV.out.mono ?_
 rintro e w' ⟨rfl, rfl⟩
 try dsimp only
 refine hK.out _ _ ⟨HC.out _ _ HO2.out.p1, HO2.out.cells 0, HO2.out.cells 1, hlk⟩ ?_
 clear hK K
 try simp only [Act.put, List.setIfInBounds_toArray, List.set_cons_zero, List.set_cons_succ]
 repeat (first | refine wr4 ?_ | refine wk ?_)
 refine wpL_nil ?_
 go_wp2_with fail
 go_ret
 exact ⟨rfl, HO2.out.drop, HK2.out⟩
def cntE (t : List (Ent × List Int)) (n : Int) (ks : List Ent) : Int := ((t.filter fun x => decide (x.1 ∉ ks) && decide (lastI x.2 = n)).length : Nat)
def linksE (t : List (Ent × List Int)) (n : Int) : Int := ((t.filter fun x => decide (lastI x.2 = n)).length : Nat)
theorem cnt_all (t : List (Ent × List Int)) (n : Int) : cntE t n (t.map Prod.fst) = 0 := by
 unfold cntE
 rw [List.filter_eq_nil_iff.2]
 ·rfl
 ·intro x hx
  have : x.1 ∈ t.map Prod.fst := List.mem_map_of_mem hx
  simp [this]
theorem cnt_nil (t : List (Ent × List Int)) (n : Int) : cntE t n [] = linksE t n := by
 unfold cntE linksE
 simp
theorem cnt_step (t : List (Ent × List Int)) (n : Int) (ks : List Ent) (e : Ent) (l : List Int) (hn : (t.map Prod.fst).Nodup) (hm : (e, l) ∈ t) (hk : e ∈ ks) : cntE t n (ks.filter fun y => !decide (y = e)) = cntE t n ks + (if lastI l = n then 1 else 0) := by
 obtain ⟨A, B, rfl⟩ := List.append_of_mem hm
 rw [List.map_append, List.map_cons, List.nodup_append] at hn
 have hA : e ∉ A.map Prod.fst := fun h => hn.2.2 e h e (by simp) rfl
 have hB : e ∉ B.map Prod.fst := (List.nodup_cons.1 hn.2.1).1
 have hout : ∀ (T : List (Ent × List Int)), e ∉ T.map Prod.fst → (T.filter fun x => decide (x.1 ∉ ks.filter fun y => !decide (y = e)) && decide (lastI x.2 = n)) = T.filter fun x => decide (x.1 ∉ ks) && decide (lastI x.2 = n) := by
  intro T hT
  refine List.filter_congr fun x hx => ?_
  have hne : x.1 ≠ e := by rintro rfl; exact hT (List.mem_map_of_mem hx)
  congr 1
  rw [decide_eq_decide, List.mem_filter]
  simp [hne]
 unfold cntE
 rw [List.filter_append, List.filter_cons, List.filter_append, List.filter_cons, hout A hA, hout B hB]
 have h1 : decide (e ∉ ks.filter fun y => !decide (y = e)) = true := by rw [decide_eq_true_iff, List.mem_filter]; simp
 have h2 : decide (e ∉ ks) = false := by rw [decide_eq_false_iff_not]; simpa using hk
 dsimp only
 rw [h1, h2, Bool.true_and, Bool.false_and]
 by_cases hl : lastI l = n
 ·rw [if_pos hl, decide_eq_true hl]
  simp only [if_true, Bool.false_eq_true, if_false, List.length_append, List.length_cons]
  omega
 ·rw [if_neg hl, decide_eq_false hl]
  simp
theorem cnt_low (t : List (Ent × List Int)) (n : Int) (ks : List Ent) : 0 ≤ cntE t n ks ∧ cntE t n ks ≤ (t.length : Int) := by
 unfold cntE
 have := List.length_filter_le (fun x => decide (x.1 ∉ ks) && decide (lastI x.2 = n)) t
 omega
set_option maxRecDepth 100000 in
set_option maxHeartbeats 8000000 in
theorem mLinks (q b clock : Nat) (es : Array MapEntry) (C : Array Value) (X : List (Ent × Slv × List Int)) (n : Int) (w : World) (L : List HP) (hC : C[4]? = some (.map (some b))) (hl : X.length ≤ 1000000) (hO : Has w (pt q (.cells C 142) :: EtX b es clock X :: (zC EntC X ++ L))) :
  Calls Tryz.prog 210 #[.pointer (some ⟨q, 0, none⟩), .int .i64 n] w fun e' w' => e' = .returned (.int .i64 (linksE (zB X) n)) ∧ Has w' (pt q (.cells C 142) :: EtX b es clock X :: (zC EntC X ++ L)) ∧ Keep w w' := by
 have HC := hid (fun (w : World) (L' : List HP) (h : Has w (pt q (.cells C 142) :: L')) => (show w.cell? ⟨q, 4, none⟩ = some (.map (some b)) from (h.cells 4).trans hC))
 have HCC := hid hC
 have hq4 := HC.out _ _ hO
 have HO := hid hO
 have HND := hid (show (X.map Prod.fst).Nodup from by have h2 := Mk.nodup (Mx.mk hO.drop); rw [zH_keys] at h2; exact h2)
 have hbl : ((zB X).length : Int) ≤ 1000000 := by unfold zB; rw [List.length_map]; omega
 clear hO hC hl
 go_enter Tryz.func210, Tryz.ntmps210
 go_wp2_with (at_range; refine wpList_mxStart HO.out.p1 tEm undEm rfl _ rfl rfl ?_; intro w4 hO4 hK4 hs4)
 try go_frame
 have HO4 := hid hO4
 have HK4 := hid hK4
 clear hO4 hK4 hs4 hq4 HO
 generalize w.heap.size = r at *
 generalize hr0 : (zH X).map Prod.fst = rem0 at *
 have HS0 := hid (show cntE (zB X) n rem0 = 0 from by rw [← hr0, zH_keys, ← zB_keys]; exact cnt_all _ _)
 clear hr0
 generalize (zH X).length = cnt0 at *
 go_loopw [5] (fun cv w' => ∃ (rem : List Ent) (cnt : Nat), cv = .int .i64 (cntE (zB X) n rem) ∧ Hid (Has w' (EtX b es clock X :: It kEnt vSI b r es clock rem cnt :: pt q (.cells C 142) :: (zC EntC X ++ L))) ∧ Hid (Keep w w')) (fun _ w' => w'.rangeLeft b r)
 case atStart => exact ⟨rem0, cnt0, by rw [HS0.out], HO4, HK4⟩
 case round =>
  clear HO4 HK4 HS0
  obtain ⟨rem, cnt, rfl, HO, HK⟩ := hrel
  have hleft := Mx.left HO.out
  have HLF := hid hleft
  obtain ⟨hc0, hc1⟩ := cnt_low (zB X) n rem
  go_wp2_with (at_next; refine wpList_mxNext HO.out rfl _ rfl rfl ?_ ?_)
  ·intro hrem
   subst hrem
   have HSN := hid (cnt_nil (zB X) n)
   have HO5 := hid HO.out
   clear HO hleft hc0 hc1
   generalize cntE (zB X) n [] = sm at *
   go_wp2_with fail
   go_ret
   rw [HSN.out]
   exact ⟨rfl, HO5.out.re 3 [2, 0], HK.out⟩
  ·rintro d p s w5 cnt' hp hr hky hO5 hlt5 hK5 hsz hen
   obtain ⟨⟨e', s', l⟩, hpX, he⟩ := List.mem_map.1 hp
   simp only [Prod.mk.injEq] at he
   obtain ⟨rfl, rfl⟩ := he
   simp only [kEnt_val, vSI_val] at hen ⊢
   have hmB : ((d, p), l) ∈ zB X := List.mem_map.2 ⟨_, hpX, rfl⟩
   have hnb : ((zB X).map Prod.fst).Nodup := by rw [zB_keys]; exact HND.out
   have HST := hid (cnt_step (zB X) n rem (d, p) l hnb hmB hr)
   have hnow : nowE (zB X) (d, p) = lastI l := by unfold nowE; rw [fnd_mem hnb hmB]; rfl
   have HNOW := hid hnow
   have HO6 := hid (hO5.alloc (.cells #[.int .i64 d, sV p] 144))
   have HK6 := hid ((HK.out.trans hK5).alloc (.cells #[.int .i64 d, sV p] 144))
   have HKY := hid hky
   have HL5 := hid hlt5
   clear hp hr hky hO5 hlt5 hK5 hsz hpX hleft HO HK hmB hnb hnow
   generalize cntE (zB X) n rem = sm at *
   go_upto_region 5 with fail
   generalize w5.alloc (.cells #[.int .i64 d, sV p] 144) = w6 at *
   generalize w5.heap.size = g at *
   have hx0 : w6.cell? ⟨g, 0, none⟩ = some (.int .i64 d) := HO6.out.cells 0
   have hx1 : w6.cell? ⟨g, 1, none⟩ = some (sV p) := HO6.out.cells 1
   have HN := hid (mNowX q b clock es C X (d, p) w6 (It kEnt vSI b r es clock (rem.filter fun y => !decide (y = (d, p))) cnt' :: L) HCC.out HKY.out ((show Has w6 (pt q (.cells C 142) :: EtX b es clock X :: It kEnt vSI b r es clock (rem.filter fun y => !decide (y = (d, p))) cnt' :: (zC EntC X ++ L)) from HO6.out.re 4 [3, 1, 2]).perm (.cons _ (.cons _ List.perm_middle.symm))))
   go_wp2_with fail
   refine HN.out.mono ?_
   rintro e w7 ⟨rfl, h7, k7⟩
   have HO7 := hid (show Has w7 (EtX b es clock X :: It kEnt vSI b r es clock (rem.filter fun y => !decide (y = (d, p))) cnt' :: pt q (.cells C 142) :: (zC EntC X ++ L)) from (show Has w7 (pt q (.cells C 142) :: EtX b es clock X :: It kEnt vSI b r es clock (rem.filter fun y => !decide (y = (d, p))) cnt' :: (zC EntC X ++ L)) from h7.perm (.cons _ (.cons _ List.perm_middle))).re 3 [1, 2, 0])
   have HK7 := hid (HK6.out.trans k7)
   have hleft := Mx.left HO7.out
   clear h7 k7 HN HO6 HK6 hx0 hx1
   try dsimp only
   rw [HNOW.out]
   by_cases hq : lastI l = n
   ·have hqb : (lastI l == n) = true := by simp [hq]
    have HS2 := hid (show cntE (zB X) n (rem.filter fun y => !decide (y = (d, p))) = sm + 1 from by rw [HST.out, if_pos hq])
    have hsm : sm + 1 ≤ 9223372036854775807 := by omega
    clear hq
    generalize lastI l = z at *
    go_wp2_with fail
    refine ⟨⟨_, cnt', ?_, HO7, HK7⟩, by rw [hleft, HLF.out]; exact HL5.out⟩
    rw [HS2.out]
    try go_num
   ·have hqb : (lastI l == n) = false := by simp [hq]
    have HS2 := hid (show cntE (zB X) n (rem.filter fun y => !decide (y = (d, p))) = sm from by rw [HST.out, if_neg hq]; omega)
    clear hq
    generalize lastI l = z at *
    go_wp2_with fail
    refine ⟨⟨_, cnt', ?_, HO7, HK7⟩, by rw [hleft, HLF.out]; exact HL5.out⟩
    rw [HS2.out]
end Go.Proofs.YtmgpgbfgemebbaaGreatDoor
namespace Go.Proofs.YtmgpgbfgemebbaaGreatDoor
open Go.RowKit Go.Own
abbrev Hold := Option (Nat × List Ent × Nat)
def Hld (b : Nat) (es : Array MapEntry) (clock : Nat) : Hold → List HP
 | none => []
 | some (r, rem, cnt) => [It kEnt vSI b r es clock rem cnt]
theorem pmA (A : HP) (H Z L : List HP) : (A :: (H ++ (Z ++ L))).Perm (Z ++ (A :: (H ++ L))) := List.perm_append_comm_assoc (A :: H) Z L
theorem pmB (A B : HP) (H Z L : List HP) : (A :: B :: (H ++ (Z ++ L))).Perm (Z ++ (A :: B :: (H ++ L))) := List.perm_append_comm_assoc (A :: B :: H) Z L
theorem pmH (A B D E : HP) (H L : List HP) : (A :: B :: D :: E :: (H ++ L)).Perm (H ++ (A :: B :: D :: E :: L)) := List.perm_append_comm_assoc [A, B, D, E] H L
open Classical in
theorem pmL (A R Q G M S : HP) (H Z Z' Z0 L : List HP) (h3 : Z.Perm (S :: Z0)) (hC : Z'.Perm (R :: Z0)) : (A :: (H ++ (R :: Q :: G :: M :: (Z ++ L)))).Perm (S :: Q :: A :: M :: (H ++ (Z' ++ (G :: L)))) := by
 refine List.perm_iff_count.2 fun x => ?_
 have e1 := h3.count_eq x
 have e2 := hC.count_eq x
 simp only [List.count_append, List.count_cons] at *
 omega
open Classical in
theorem pmG (A R Q G : HP) (H Z : List HP) : (A :: (H ++ (R :: Q :: G :: Z))).Perm (G :: A :: (H ++ (R :: Q :: Z))) := by
 refine List.perm_iff_count.2 fun x => ?_
 simp only [List.count_append, List.count_cons] at *
 omega
open Classical in
theorem pmT (A B D G : HP) (H Z L : List HP) : (A :: B :: D :: (H ++ (Z ++ (G :: L)))).Perm (G :: A :: B :: D :: (H ++ (Z ++ L))) := by
 refine List.perm_iff_count.2 fun x => ?_
 simp only [List.count_append, List.count_cons] at *
 omega
section
variable {w : World} {L : List HP} {b clock : Nat} {es : Array MapEntry} {t : List (Ent × Slv)} {o : Oper} {a : Act} {Q : Exit → Act → World → Prop}
theorem wp_mxPut {R : Act → World → Prop} (ho : Hold) (h : Has w (Mx kEnt vSI b es clock t :: (Hld b es clock ho ++ L))) (hl : t.length < 1000000) (T : TypeId) (ht : Tryz.prog.underlying T = some (.map tEnt tSI)) (m kx v : Operand) (hop : o.op = Op.mapUpdate T m kx v) (hm : a.eval m = .map (some b)) (x : Ent) (hx : x ∈ t.map Prod.fst) (hok : okEnt x) (hk : a.eval kx = entV x) (y : Slv) (hv : a.eval v = slvV y)
  (hK : ∀ w' es' clock', Has w' (Mx kEnt vSI b es' clock' (putA t x y) :: (Hld b es' clock' ho ++ L)) → Keep w w' → R (a.put o.dst undef) w') : o.wp Tryz.prog a w R Q := by
 rcases ho with _ | ⟨r, rem, cnt⟩
 ·refine wp_mkPut (Mx.mk h) hl T ht m kx v hop hm x hok hk y trivial hv fun w' h1 k1 => ?_
  obtain ⟨es', clock', h2⟩ := Mx.of_mk h1
  exact hK w' es' clock' h2 k1
 ·refine wp_mrPut (Mx.mr h) hl T ht m kx v hop hm x hx hk y trivial hv fun w' h1 k1 => ?_
  obtain ⟨es', clock', h2⟩ := Mx.of_mr h1
  exact hK w' es' clock' h2 k1
end
def lastE (t : List (Ent × List Int)) (e : Ent) : List (Ent × List Int) := putA t e [nowE t e]
def markE (t : List (Ent × List Int)) (M : List (Int × Mrk)) (e : Ent) : List (Int × Mrk) := if nowE t e = 0 then M else putA M (nowE t e) (true, true, linksE (lastE t e) (nowE t e) == 1)
abbrev tMm : TypeId := 138
theorem undMm : Tryz.prog.underlying tMm = some (.map tInt tMrk) := by kernel_rfl
theorem putA_lenK {κ α : Type} [DecidableEq κ] (t : List (κ × α)) (k : κ) (a : α) (h : k ∈ t.map Prod.fst) : (putA t k a).length = t.length := by
 unfold putA
 rw [if_pos h, List.length_map]
theorem zB_len {κ η α : Type} (X : List (κ × η × α)) : (zB X).length = X.length := List.length_map ..
set_option maxRecDepth 100000 in
set_option maxHeartbeats 8000000 in
theorem mLast (q b bm clock : Nat) (es : Array MapEntry) (C : Array Value) (X : List (Ent × Slv × List Int)) (M : List (Int × Mrk)) (e : Ent) (ho : Hold) (w : World) (L : List HP) (hC3 : C[3]? = some (.map (some bm))) (hC : C[4]? = some (.map (some b))) (he : okEnt e) (hin : e ∈ X.map Prod.fst) (hl : X.length < 1000000) (hml : M.length < 1000000) (hnw : (Lit.int .i64 (nowE (zB X) e)).wf = true) (hO : Has w (pt q (.cells C 142) :: EtX b es clock X :: Mk kInt vMrk bm M :: (Hld b es clock ho ++ (zC EntC X ++ L)))) :
  Calls Tryz.prog 155 #[.pointer (some ⟨q, 0, none⟩), .agg #[.int .i64 e.1, sV e.2]] w fun e' w' => e' = .returned (.tuple #[]) ∧ (∃ es' clock' X', zB X' = lastE (zB X) e ∧ Has w' (pt q (.cells C 142) :: EtX b es' clock' X' :: Mk kInt vMrk bm (markE (zB X) M e) :: (Hld b es' clock' ho ++ (zC EntC X' ++ L)))) ∧ Keep w w' := by
 obtain ⟨d, p⟩ := e
 dsimp only
 have HC := hid (fun (w : World) (L' : List HP) (h : Has w (pt q (.cells C 142) :: L')) => (show w.cell? ⟨q, 4, none⟩ = some (.map (some b)) from (h.cells 4).trans hC))
 have HC3 := hid (fun (w : World) (L' : List HP) (h : Has w (pt q (.cells C 142) :: L')) => (show w.cell? ⟨q, 3, none⟩ = some (.map (some bm)) from (h.cells 3).trans hC3))
 have HCC := hid hC
 have HND := hid (show (X.map Prod.fst).Nodup from by have h2 := Mk.nodup (Mx.mk hO.drop); rw [zH_keys] at h2; exact h2)
 have HO1 := hid (hO.alloc (.cells #[.int .i64 d, sV p] 144))
 have HK1 := hid ((Keep.refl w).alloc (.cells #[.int .i64 d, sV p] 144))
 have HE := hid he
 have HIN := hid hin
 have HL := hid hl
 have HML := hid hml
 have HNW := hid hnw
 clear hO hC hC3 he hin hl hml hnw
 go_enter Tryz.func155, Tryz.ntmps155
 go_upto_region 1 with fail
 generalize w.heap.size = g at *
 generalize w.alloc (.cells #[.int .i64 d, sV p] 144) = w1 at *
 have hx0 : w1.cell? ⟨g, 0, none⟩ = some (.int .i64 d) := HO1.out.cells 0
 have hx1 : w1.cell? ⟨g, 1, none⟩ = some (sV p) := HO1.out.cells 1
 have HN := hid (mNowX q b clock es C X (d, p) w1 _ HCC.out HE.out ((show Has w1 (pt q (.cells C 142) :: EtX b es clock X :: pt g (.cells #[.int .i64 d, sV p] 144) :: Mk kInt vMrk bm M :: (Hld b es clock ho ++ (zC EntC X ++ L))) from HO1.out.re 3 [1, 2, 0]).perm (.cons _ (.cons _ (pmB _ _ _ _ _)))))
 go_wp2_with fail
 refine HN.out.mono ?_
 rintro e w2 ⟨rfl, h2, k2⟩
 try dsimp only
 have HO2 := hid (show Has w2 (pt q (.cells C 142) :: EtX b es clock X :: pt g (.cells #[.int .i64 d, sV p] 144) :: Mk kInt vMrk bm M :: (Hld b es clock ho ++ (zC EntC X ++ L))) from h2.perm (.cons _ (.cons _ (pmB _ _ _ _ _).symm)))
 have HK2 := hid (HK1.out.trans k2)
 clear h2 k2 HN hx0 hx1 HO1 HK1
 obtain ⟨n, hn⟩ : ∃ n, nowE (zB X) (d, p) = n := ⟨_, rfl⟩
 have HNN := hid hn
 rw [hn] at HNW ⊢
 clear hn
 go_upto_region 2 with fail
 have HO3 := hid HO2.out.drew
 have HK3 := hid HK2.out.drew
 clear HO2 HK2
 refine region_text (fun w' => w'.cell? ⟨q, 4, none⟩ = some (.map (some b)) ∧ w'.cell? ⟨g, 0, none⟩ = some (.int .i64 d) ∧ w'.cell? ⟨g, 1, none⟩ = some (sV p)) (by kernel_rfl) (by kernel_rfl) ⟨HC.out _ _ HO3.out, HO3.out.p2.cells 0, HO3.out.p2.cells 1⟩ ?_
 generalize w2.drew = w3 at *
 repeat (first | refine wr3 ?_ | refine wk ?_)
 refine wa fun K hK => ?_
 go_simp
 have HO4 := hid (show Has (w3.alloc (.cells #[.int .i64 n] 3)) (row (.slice (some ⟨w3.heap.size, 0, none⟩) 1 1) 3 1 1 (ic [n]) :: _) from (HO3.out.alloc (.cells #[.int .i64 n] 3)).row_of (n := 1) (cap := 1) (size := 1) (xs := ic [n]) (by decide) (by decide) rfl rfl rfl)
 have HK4 := hid (HK3.out.alloc (.cells #[.int .i64 n] 3))
 refine hK.out _ _ ⟨HC.out _ _ HO4.out.p1, HO4.out.p3.cells 0, HO4.out.p3.cells 1⟩ ?_
 clear hK K HO3 HK3
 try simp only [Act.put, List.setIfInBounds_toArray, List.set_cons_zero, List.set_cons_succ]
 generalize w3.alloc (.cells #[.int .i64 n] 3) = w4 at *
 generalize w3.heap.size = g6 at *
 repeat (first | refine wr3 ?_ | refine wk ?_)
 refine wa fun K hK => ?_
 refine wp_mxPut ho (show Has w4 (Mx kEnt vSI b es clock (zH X) :: (Hld b es clock ho ++ _)) from ((show Has w4 (EtX b es clock X :: row (.slice (some ⟨g6, 0, none⟩) 1 1) 3 1 1 (ic [n]) :: pt q (.cells C 142) :: pt g (.cells #[.int .i64 d, sV p] 144) :: Mk kInt vMrk bm M :: (Hld b es clock ho ++ (zC EntC X ++ L))) from HO4.out.re 3 [2, 0, 1]).perm (.cons _ (pmH _ _ _ _ _ _)))) (by have := HL.out; unfold zH; rw [List.length_map]; exact this) tEm undEm _ _ _ rfl rfl ((d, p) : Ent) (by rw [zH_keys]; exact HIN.out) HE.out rfl (⟨some (g6, 0), 1, 1⟩ : Slv) rfl ?_
 intro w5 es' clock' h5 k5
 obtain ⟨X0, hcase, hput⟩ := z_zip EntC X (d, p) HND.out
 rcases hcase with ⟨h1, -, -⟩ | ⟨s, a, h1, h2, h3⟩
 ·exact absurd (fnd_none.1 h1) (by rw [zB_keys]; exact fun hh => hh HIN.out)
 obtain ⟨X', hB, hH, hCp⟩ := hput (⟨some (g6, 0), 1, 1⟩ : Slv) [n]
 rw [← hH] at h5
 have HO5 := hid (show Has w5 (pt q (.cells C 142) :: EtX b es' clock' X' :: Mk kInt vMrk bm M :: (Hld b es' clock' ho ++ (zC EntC X' ++ pt g (.cells #[.int .i64 d, sV p] 144) :: L))) from by
  have h6 := h5.perm (pmL _ (EntC (⟨some (g6, 0), 1, 1⟩ : Slv) [n]) _ _ _ _ _ _ _ _ _ h3 hCp)
  exact h6.drop)
 have HK5 := hid (HK4.out.trans k5)
 have HB := hid (show zB X' = lastE (zB X) (d, p) from by rw [hB]; unfold lastE; rw [HNN.out])
 have hg5 : Has w5 (pt g (.cells #[.int .i64 d, sV p] 144) :: _) := h5.perm (pmG _ _ _ _ _ _)
 have hg50 : w5.cell? ⟨g, 0, none⟩ = some (.int .i64 d) := hg5.cells 0
 have hg51 : w5.cell? ⟨g, 1, none⟩ = some (sV p) := hg5.cells 1
 have HXL := hid (show X'.length ≤ 1000000 from by
  have e1 := congrArg List.length hB
  rw [putA_lenK _ _ _ (by rw [zB_keys]; exact HIN.out), zB_len, zB_len] at e1
  have := HL.out
  omega)
 clear h5 k5 hg5 h1 h2 h3 hH hB hCp hput HO4 HK4
 refine hK.out _ _ ⟨HC.out _ _ HO5.out, hg50, hg51⟩ ?_
 clear hK K hg50 hg51
 try simp only [Act.put, List.setIfInBounds_toArray, List.set_cons_zero, List.set_cons_succ]
 refine wpL_nil ?_
 by_cases hz : n = 0
 ·have HM := hid (show markE (zB X) M (d, p) = M from by unfold markE; rw [HNN.out, if_pos hz])
  subst hz
  go_wp2_with fail
  go_end0
  refine ⟨rfl, ⟨es', clock', X', HB.out, ?_⟩, HK5.out⟩
  rw [HM.out]
  exact (HO5.out.perm (pmT _ _ _ _ _ _ _)).drop
 ·have hzb : (n != 0) = true := by simp [hz]
  have hzc : (n == 0) = false := by simp [hz]
  have HM := hid (show markE (zB X) M (d, p) = putA M n (true, true, linksE (zB X') n == 1) from by unfold markE; rw [HNN.out, if_neg hz, HB.out])
  clear hz
  go_upto_region 4 with fail
  have HO6 := hid HO5.out.drew
  have HK6 := hid HK5.out.drew
  clear HO5 HK5
  refine region_text (fun w' => w'.cell? ⟨q, 3, none⟩ = some (.map (some bm)) ∧ True) (by kernel_rfl) (by kernel_rfl) ⟨HC3.out _ _ HO6.out, trivial⟩ ?_
  generalize w5.drew = w6 at *
  repeat (first | refine wr2 ?_ | refine wk ?_)
  have HN := hid (mLinks q b clock' es' C X' n w6 _ HCC.out HXL.out (HO6.out.perm (.cons _ (.cons _ (pmA _ _ _ _)))))
  refine wa fun K hK => ?_
  go_simp
  refine HN.out.mono ?_
  rintro e w7 ⟨rfl, h7, k7⟩
  try dsimp only
  have HO7 := hid (show Has w7 (pt q (.cells C 142) :: EtX b es' clock' X' :: Mk kInt vMrk bm M :: (Hld b es' clock' ho ++ (zC EntC X' ++ pt g (.cells #[.int .i64 d, sV p] 144) :: L))) from h7.perm (.cons _ (.cons _ (pmA _ _ _ _).symm)))
  have HK7 := hid (HK6.out.trans k7)
  clear h7 k7 HN HO6 HK6
  refine hK.out _ _ ⟨HC3.out _ _ HO7.out, trivial⟩ ?_
  clear hK K
  try simp only [Act.put, List.setIfInBounds_toArray, List.set_cons_zero, List.set_cons_succ]
  generalize linksE (zB X') n = z at *
  repeat (first | refine wr2 ?_ | refine wk ?_)
  refine wa fun K hK => ?_
  refine wp_mkPut (show Has w7 (Mk kInt vMrk bm M :: _) from HO7.out.p2) HML.out tMm undMm _ _ _ rfl rfl n HNW.out rfl (true, true, z == 1) trivial rfl ?_
  intro w8 h8 k8
  have HO8 := hid (show Has w8 (pt q (.cells C 142) :: EtX b es' clock' X' :: Mk kInt vMrk bm (putA M n (true, true, z == 1)) :: (Hld b es' clock' ho ++ (zC EntC X' ++ pt g (.cells #[.int .i64 d, sV p] 144) :: L))) from h8.re 3 [1, 2, 0])
  have HK8 := hid (HK7.out.trans k8)
  clear h8 k8 HO7 HK7
  refine hK.out _ _ ⟨HC3.out _ _ HO8.out, trivial⟩ ?_
  clear hK K
  try simp only [Act.put, List.setIfInBounds_toArray, List.set_cons_zero, List.set_cons_succ]
  refine wpL_nil ?_
  go_wp2_with fail
  go_end0
  refine ⟨rfl, ⟨es', clock', X', HB.out, ?_⟩, HK8.out⟩
  rw [HM.out]
  exact (HO8.out.perm (pmT _ _ _ _ _ _ _)).drop
end Go.Proofs.YtmgpgbfgemebbaaGreatDoor
