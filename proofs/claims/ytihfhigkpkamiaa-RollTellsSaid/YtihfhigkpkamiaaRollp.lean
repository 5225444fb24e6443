/- THE PLAIN LAWS: what differs, laid over; what does not touch commutes. No program in sight. -/
import Derived.Test.YtihfhigkpkamiaaRollm
namespace Go.Rl
theorem run_same {a b : List Int} {i : Nat} (h : a.drop i = b.drop i) : run a b i = 0 := by
  unfold run
  rw [h]
  cases b.drop i <;> simp
theorem diffs_same (s : Int) {a b : List Int} : ∀ (n i : Nat), a.length - i = n → a.drop i = b.drop i → diffs s a b i = []
  | n, i, hn, h => by
    rw [diffs]
    split
    · rename_i hi
      rw [run_same h, if_neg (by omega), List.nil_append]
      exact diffs_same s (a.length - (i + 0 + 1)) _ rfl (by
        have := congrArg (List.drop 1) h
        simpa [List.drop_drop] using this)
    · rfl
termination_by n => n
decreasing_by omega
/-- A run ends at the end, or where both are the same. -/
theorem run_spec {a b : List Int} (hl : a.length = b.length) : ∀ (n i : Nat), a.length - i = n → i ≤ a.length → i + run a b i ≤ a.length ∧ (i + run a b i < a.length → a[i + run a b i]? = b[i + run a b i]?)
  | n, i, hn, hi => by
    by_cases h : i < a.length
    · have hb : i < b.length := by omega
      have hg := run_go h hb
      by_cases he : a[i] = b[i]
      · rw [if_neg (by simpa using he)] at hg
        rw [hg]
        exact ⟨by omega, fun _ => by rw [Nat.add_zero, List.getElem?_eq_getElem h, List.getElem?_eq_getElem hb, he]⟩
      · rw [if_pos he] at hg
        have ih := run_spec hl (a.length - (i + 1)) (i + 1) rfl (by omega)
        have e : i + run a b i = i + 1 + run a b (i + 1) := by omega
        constructor
        · omega
        · intro h2
          have := ih.2 (by omega)
          simpa only [e] using this
    · have : run a b i = 0 := run_end (by omega)
      rw [this]
      exact ⟨by omega, fun h2 => by omega⟩
termination_by n => n
decreasing_by omega
theorem lay_at {X : List Int} {o : Piece} (h : may o = true) (hl : X.length = 128) (j : Nat) : (lay X o)[j]? = if o.pos.toNat ≤ j ∧ j < o.pos.toNat + o.bytes.length then o.bytes[j - o.pos.toNat]? else X[j]? := by
  obtain ⟨h0, h1, h2, h3, h4⟩ := may_iff.1 h
  unfold lay
  rw [List.append_assoc]
  by_cases a : j < o.pos.toNat
  · rw [if_neg (by omega), List.getElem?_append_left (by simp; omega), List.getElem?_take, if_pos a]
  · rw [List.getElem?_append_right (by simp; omega)]
    have e : (X.take o.pos.toNat).length = o.pos.toNat := by simp; omega
    rw [e]
    by_cases b : j < o.pos.toNat + o.bytes.length
    · rw [if_pos ⟨by omega, b⟩, List.getElem?_append_left (by omega)]
    · rw [if_neg (by omega), List.getElem?_append_right (by omega), List.getElem?_drop]
      congr 1; omega
theorem mix_at (A B : List Int) (hl : A.length = B.length) (i j : Nat) (hi : i ≤ A.length) : (B.take i ++ A.drop i)[j]? = if j < i then B[j]? else A[j]? := by
  by_cases h : j < i
  · rw [if_pos h, List.getElem?_append_left (by simp; omega), List.getElem?_take, if_pos h]
  · rw [if_neg h, List.getElem?_append_right (by simp; omega), List.getElem?_drop]
    congr 1; simp; omega
theorem over_diffs (s : Int) (hs : 0 ≤ s) {A B : List Int} (hA : A.length = 128) (hB : B.length = 128) : ∀ (n i : Nat), 128 - i = n → i ≤ 129 → (diffs s A B i).foldl (over1 s) (B.take i ++ A.drop i) = B
  | n, i, hn, hi => by
    rw [diffs]
    split
    · rename_i h
      obtain ⟨r1, r2⟩ := run_spec (a := A) (b := B) (by omega) _ i rfl (by omega)
      have ih := over_diffs s hs hA hB (128 - (i + run A B i + 1)) (i + run A B i + 1) rfl (by omega)
      generalize run A B i = r at *
      have key : B.take (i + r) ++ A.drop (i + r) = B.take (i + r + 1) ++ A.drop (i + r + 1) := by
        by_cases hr : i + r < A.length
        · have h2 : A[i + r] = B[i + r]'(by omega) := by
            have h3 := r2 hr
            rw [List.getElem?_eq_getElem hr, List.getElem?_eq_getElem (by omega : i + r < B.length)] at h3
            exact Option.some.inj h3
          rw [List.drop_eq_getElem_cons hr, List.take_succ_eq_append_getElem (by omega : i + r < B.length), h2, List.append_assoc]; rfl
        · rw [List.take_of_length_le (by omega), List.drop_eq_nil_of_le (by omega), List.take_of_length_le (by omega), List.drop_eq_nil_of_le (by omega)]
      rw [List.foldl_append]
      have first : ((if 0 < r then [⟨s, (i : Int), (B.drop i).take r⟩] else []) : List Piece).foldl (over1 s) (B.take i ++ A.drop i) = B.take (i + r) ++ A.drop (i + r) := by
        by_cases hr : 0 < r
        · rw [if_pos hr]
          have hbl : ((B.drop i).take r).length = r := by simp; omega
          have hm : may ⟨s, (i : Int), (B.drop i).take r⟩ = true := may_iff.2 ⟨hs, Int.natCast_nonneg _, by rw [hbl]; exact hr, by rw [hbl]; omega, by rw [hbl]; simp only; omega⟩
          have hX : (B.take i ++ A.drop i).length = 128 := by simp; omega
          simp only [List.foldl_cons, List.foldl_nil, over1, hm, beq_self_eq_true, Bool.and_self, if_true]
          apply List.ext_getElem?
          intro j
          rw [lay_at hm hX, mix_at A B (by omega) _ _ (by omega), mix_at A B (by omega) _ _ (by omega), hbl]
          simp only [Int.toNat_natCast]
          by_cases c1 : j < i
          · rw [if_neg (by omega), if_pos c1, if_pos (by omega)]
          · by_cases c2 : j < i + r
            · rw [if_pos ⟨by omega, c2⟩, if_pos c2, List.getElem?_take, if_pos (by omega), List.getElem?_drop]
              congr 1; omega
            · rw [if_neg (by omega), if_neg c1, if_neg c2]
        · obtain rfl : r = 0 := by omega
          simp
      rw [first, key]
      exact ih
    · rw [List.take_of_length_le (by omega), List.drop_eq_nil_of_le (by omega)]; simp
termination_by n => n
decreasing_by omega
theorem over_diff (s : Int) (hs : 0 ≤ s) (old now : List Int) : over old s (diff s old now) = whole now := by
  unfold over diff
  rw [if_neg (by omega)]
  exact over_diffs s hs (whole_len old) (whole_len now) _ 0 rfl (by omega)
theorem whole_whole (l : List Int) : whole (whole l) = whole l := whole_self (whole_len l)
theorem diff_whole (s : Int) (old : List Int) : diff s (whole old) old = [] := by
  unfold diff
  split
  · rfl
  · rw [whole_whole]; exact diffs_same s _ 0 rfl rfl
theorem over_none (old : List Int) (s : Int) : over old s [] = whole old := rfl
/-! ### What does not touch commutes -/
theorem touch_comm (a b : Piece) : touch a b = touch b a := by
  unfold touch
  cases may a <;> cases may b <;> simp
  rw [show (a.sec == b.sec) = (b.sec == a.sec) from Bool.beq_comm, Bool.and_comm (decide (a.pos < _))]
theorem over1_swap (s : Int) {X : List Int} (hX : X.length = 128) {a b : Piece} (h : touch a b = false) : over1 s (over1 s X a) b = over1 s (over1 s X b) a := by
  by_cases ha : (may a && (a.sec == s)) = true
  · by_cases hb : (may b && (b.sec == s)) = true
    · have ha' := ha
      have hb' := hb
      simp only [Bool.and_eq_true, beq_iff_eq] at ha hb
      unfold over1
      rw [if_pos ha', if_pos hb', if_pos hb', if_pos ha']
      unfold touch at h
      rw [ha.1, hb.1, ha.2, hb.2] at h
      simp only [Bool.true_and, beq_self_eq_true, Bool.and_eq_false_iff, decide_eq_false_iff_not] at h
      obtain ⟨p0, p1, p2, p3, p4⟩ := may_iff.1 ha.1
      obtain ⟨q0, q1, q2, q3, q4⟩ := may_iff.1 hb.1
      apply List.ext_getElem?
      intro j
      rw [lay_at hb.1 (lay_len ha.1 hX), lay_at ha.1 hX, lay_at ha.1 (lay_len hb.1 hX), lay_at hb.1 hX]
      by_cases c1 : a.pos.toNat ≤ j ∧ j < a.pos.toNat + a.bytes.length
      · have c2 : ¬ (b.pos.toNat ≤ j ∧ j < b.pos.toNat + b.bytes.length) := by omega
        rw [if_pos c1, if_neg c2, if_pos c1]
      · rw [if_neg c1, if_neg c1]
    · have e : ∀ Y, over1 s Y b = Y := fun Y => by unfold over1; rw [if_neg hb]
      rw [e, e]
  · have e : ∀ Y, over1 s Y a = Y := fun Y => by unfold over1; rw [if_neg ha]
    rw [e, e]
theorem fold_past (s : Int) (x : Piece) : ∀ (bs : List Piece) (X : List Int), X.length = 128 → (∀ b ∈ bs, touch x b = false) → bs.foldl (over1 s) (over1 s X x) = over1 s (bs.foldl (over1 s) X) x
  | [], _, _, _ => rfl
  | b :: bs, X, hX, h => by
    rw [List.foldl_cons, List.foldl_cons, over1_swap s hX (h b (List.mem_cons_self ..)), fold_past s x bs _ (over1_len s b hX) fun c hc => h c (List.mem_cons_of_mem _ hc)]
theorem fold_swap (s : Int) : ∀ (as bs : List Piece) (X : List Int), X.length = 128 → (∀ a ∈ as, ∀ b ∈ bs, touch a b = false) → (as ++ bs).foldl (over1 s) X = (bs ++ as).foldl (over1 s) X
  | [], bs, X, _, _ => by simp
  | a :: as, bs, X, hX, h => by
    rw [List.cons_append, List.foldl_cons, fold_swap s as bs _ (over1_len s a hX) (fun c hc => h c (List.mem_cons_of_mem _ hc)), List.foldl_append, List.foldl_append, List.foldl_cons,
      fold_past s a bs X hX (h a (List.mem_cons_self ..))]
theorem over_turned (old : List Int) (s : Int) (os : List Piece) (t : Nat) (h : ∀ i k (hi : i < os.length) (hk : k < i), touch os[i] (os[k]'(by omega)) = false) : over old s (os.drop t ++ os.take t) = over old s os := by
  unfold over
  rw [fold_swap s (os.drop t) (os.take t) _ (whole_len old), List.take_append_drop]
  intro a ha b hb
  obtain ⟨i, hi, rfl⟩ := List.getElem_of_mem ha
  obtain ⟨k, hk, rfl⟩ := List.getElem_of_mem hb
  simp only [List.length_drop, List.length_take] at hi hk
  rw [List.getElem_drop, List.getElem_take]
  exact h _ _ (by omega) (by omega)
end Go.Rl
