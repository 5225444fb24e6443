/- THE PLAIN MODEL of geometries, and of what fits. No program in sight. -/
namespace Go.Gm
structure Geo where
  n : Int
  i : Int
  b : Int
deriving DecidableEq
def may (g : Geo) : Bool := (decide (1 ≤ g.n) && decide (g.n ≤ 8)) && ((decide (4 ≤ g.i) && decide (g.i ≤ 32)) && (decide (g.i.tmod 4 = 0) && (decide (16 ≤ g.b) && decide (g.b ≤ 96))))
theorem may_iff {g : Geo} : may g = true ↔ 1 ≤ g.n ∧ g.n ≤ 8 ∧ 4 ≤ g.i ∧ g.i ≤ 32 ∧ g.i % 4 = 0 ∧ 16 ≤ g.b ∧ g.b ≤ 96 := by
  simp only [may, Bool.and_eq_true, decide_eq_true_eq]
  have : g.i.tmod 4 = 0 ↔ g.i % 4 = 0 := by
    rw [← Int.dvd_iff_tmod_eq_zero, Int.dvd_iff_emod_eq_zero]
  rw [this]
  omega
def long (g : Geo) : Int := 1 + g.i.tdiv 4 + g.b
def sectors (g : Geo) : Int := if may g then 2 + g.n * long g else 0
def inodes (g : Geo) : Int := if may g then g.n * g.i else 0
def blocks (g : Geo) : Int := if may g then g.n * g.b else 0
def zero : Geo := ⟨0, 0, 0⟩
def better (x y : Geo) : Bool := if blocks x = blocks y then (if inodes x = inodes y then decide (x.n < y.n) else decide (inodes x > inodes y)) else decide (blocks x > blocks y)
theorem better_iff {x y : Geo} : better x y = true ↔ blocks x > blocks y ∨ (blocks x = blocks y ∧ (inodes x > inodes y ∨ (inodes x = inodes y ∧ x.n < y.n))) := by
  unfold better
  split
  · split
    · simp; omega
    · simp; omega
  · simp; omega
/-- g is the best of those in A, or none is there. -/
def Best (A : Geo → Prop) (g : Geo) : Prop := (g = zero ∧ ∀ x, ¬ A x) ∨ (A g ∧ ∀ x, A x → better x g = false)
/-- The geometries that have room. -/
def Room (s : Int) (g : Geo) : Prop := may g = true ∧ sectors g ≤ s
theorem zero_vals : blocks zero = 0 ∧ inodes zero = 0 ∧ sectors zero = 0 := ⟨rfl, rfl, rfl⟩
theorem mul_inj {n a b : Int} (hn : 1 ≤ n) (h : n * a = n * b) : a = b := Int.eq_of_mul_eq_mul_left (by omega) h
theorem mul_le {n a b : Int} (hn : 1 ≤ n) (h : a ≤ b) : n * a ≤ n * b := Int.mul_le_mul_of_nonneg_left h (by omega)
theorem blocks_of {g : Geo} (h : may g = true) : blocks g = g.n * g.b := by rw [blocks, if_pos h]
theorem inodes_of {g : Geo} (h : may g = true) : inodes g = g.n * g.i := by rw [inodes, if_pos h]
theorem sectors_of {g : Geo} (h : may g = true) : sectors g = 2 + g.n * long g := by rw [sectors, if_pos h]
theorem blocks_pos {g : Geo} (h : may g = true) : 0 < blocks g := by
  rw [blocks_of h]
  obtain ⟨h1, -, -, -, -, h2, -⟩ := may_iff.1 h
  exact Int.mul_pos (by omega) (by omega)
theorem Best.one {s : Int} {g h : Geo} (hg : Best (Room s) g) (hh : Best (Room s) h) : g = h := by
  rcases hg with ⟨rfl, h1⟩ | ⟨h1, h2⟩
  · rcases hh with ⟨rfl, -⟩ | ⟨h3, -⟩
    · rfl
    · exact absurd h3 (h1 _)
  · rcases hh with ⟨rfl, h3⟩ | ⟨h3, h4⟩
    · exact absurd h1 (h3 _)
    · have a := h2 h h3
      have b := h4 g h1
      rw [Bool.eq_false_iff, ne_eq, better_iff] at a b
      have eb : blocks g = blocks h := by omega
      have ei : inodes g = inodes h := by omega
      have en : g.n = h.n := by omega
      rw [blocks_of h1.1, blocks_of h3.1, en] at eb
      rw [inodes_of h1.1, inodes_of h3.1, en] at ei
      have hn := (may_iff.1 h3.1).1
      have e1 := mul_inj hn eb
      have e2 := mul_inj hn ei
      cases g; cases h
      simp_all
theorem Best.may_or {s : Int} {g : Geo} (hg : Best (Room s) g) : g = zero ∨ may g = true := by
  rcases hg with ⟨rfl, -⟩ | ⟨h, -⟩
  · exact .inl rfl
  · exact .inr h.1
theorem Best.sectors_le {s : Int} {g : Geo} (hs : 0 ≤ s) (hg : Best (Room s) g) : sectors g ≤ s := by
  rcases hg with ⟨rfl, -⟩ | ⟨h, -⟩
  · rw [zero_vals.2.2]; exact hs
  · exact h.2
theorem Best.blocks_le {s t : Int} {g h : Geo} (hst : s ≤ t) (hg : Best (Room s) g) (hh : Best (Room t) h) : blocks g ≤ blocks h := by
  rcases hg with ⟨rfl, -⟩ | ⟨h1, -⟩
  · rw [zero_vals.1]
    rcases hh with ⟨rfl, -⟩ | ⟨h3, -⟩
    · exact Int.le_refl _
    · have := blocks_pos h3.1; omega
  · have h2 : Room t g := ⟨h1.1, Int.le_trans h1.2 hst⟩
    rcases hh with ⟨rfl, h3⟩ | ⟨h3, h4⟩
    · exact absurd h2 (h3 _)
    · have a := h4 g h2
      rw [Bool.eq_false_iff, ne_eq, better_iff] at a
      omega
/-! ### The program's way -/
/-- The most of one number of groups. -/
def Top (s n : Int) (g : Geo) : Prop := (g = zero ∧ ∀ x, Room s x → x.n ≠ n) ∨ (Room s g ∧ g.n = n ∧ ∀ x, Room s x → x.n = n → x.b < g.b ∨ (x.b = g.b ∧ x.i ≤ g.i))
def Upto (s k : Int) (g : Geo) : Prop := Best (fun x => Room s x ∧ x.n < k) g
theorem Upto.start (s : Int) : Upto s 1 zero := .inl ⟨rfl, fun x h => by have := (may_iff.1 h.1.1).1; omega⟩
theorem Upto.all {s : Int} {g : Geo} (h : Upto s 9 g) : Best (Room s) g := by
  have e : ∀ x, Room s x → x.n < 9 := fun x h => by have := (may_iff.1 h.1).2.1; omega
  rcases h with ⟨rfl, h⟩ | ⟨h, h2⟩
  · exact .inl ⟨rfl, fun x hx => h x ⟨hx, e x hx⟩⟩
  · exact .inr ⟨h.1, fun x hx => h2 x ⟨hx, e x hx⟩⟩
theorem top_vals {s n : Int} {g : Geo} (h : Top s n g) : 0 ≤ blocks g ∧ 0 ≤ inodes g := by
  rcases h with ⟨rfl, -⟩ | ⟨h, -⟩
  · exact ⟨Int.le_refl _, Int.le_refl _⟩
  · have := may_iff.1 h.1
    exact ⟨Int.le_of_lt (blocks_pos h.1), by rw [inodes_of h.1]; exact Int.mul_nonneg (by omega) (by omega)⟩
theorem top_bound {s n : Int} {g x : Geo} (h : Top s n g) (hx : Room s x) (hn : x.n = n) : g ≠ zero ∧ Room s g ∧ g.n = n ∧ (blocks x < blocks g ∨ (blocks x = blocks g ∧ inodes x ≤ inodes g)) := by
  rcases h with ⟨rfl, h⟩ | ⟨h, h2, h3⟩
  · exact absurd hn (h x hx)
  · have hp := blocks_pos h.1
    refine ⟨fun e => by rw [e, zero_vals.1] at hp; omega, h, h2, ?_⟩
    have hn1 := (may_iff.1 hx.1).1
    rw [blocks_of h.1, blocks_of hx.1, inodes_of h.1, inodes_of hx.1, h2, hn]
    rw [hn] at hn1
    rcases h3 x hx hn with a | ⟨a, b⟩
    · left
      exact Int.mul_lt_mul_of_pos_left a (by omega)
    · right
      rw [a]
      exact ⟨rfl, mul_le hn1 b⟩
theorem Upto.keep {s k : Int} {best g : Geo} (hb : Upto s k best) (hg : Top s k g) (h : blocks g < blocks best ∨ (blocks g = blocks best ∧ inodes g ≤ inodes best)) : Upto s (k + 1) best := by
  rcases hb with ⟨rfl, h1⟩ | ⟨h1, h2⟩
  · left
    refine ⟨rfl, fun x hx => ?_⟩
    by_cases hn : x.n = k
    · obtain ⟨-, h3, -, -⟩ := top_bound hg hx.1 hn
      have := blocks_pos h3.1
      rw [zero_vals.1] at h
      omega
    · exact h1 x ⟨hx.1, by omega⟩
  · right
    refine ⟨⟨h1.1, by omega⟩, fun x hx => ?_⟩
    by_cases hn : x.n = k
    · obtain ⟨-, -, -, h4⟩ := top_bound hg hx.1 hn
      rw [Bool.eq_false_iff, ne_eq, better_iff]
      omega
    · exact h2 x ⟨hx.1, by omega⟩
theorem Upto.take {s k : Int} {best g : Geo} (hb : Upto s k best) (hg : Top s k g) (h : ¬ (blocks g < blocks best ∨ (blocks g = blocks best ∧ inodes g ≤ inodes best))) : Upto s (k + 1) g := by
  have hz : g ≠ zero := by
    intro e
    subst e
    rcases hb with ⟨rfl, -⟩ | ⟨h1, -⟩
    · exact h (.inr ⟨rfl, Int.le_refl _⟩)
    · have := blocks_pos h1.1.1
      rw [zero_vals.1, zero_vals.2.1] at h
      omega
  rcases hg with ⟨e, -⟩ | ⟨h1, h2, h3⟩
  · exact absurd e hz
  · right
    refine ⟨⟨h1, by omega⟩, fun x hx => ?_⟩
    by_cases hn : x.n = k
    · obtain ⟨-, -, -, h4⟩ := top_bound (.inr ⟨h1, h2, h3⟩) hx.1 hn
      rw [Bool.eq_false_iff, ne_eq, better_iff]
      omega
    · rcases hb with ⟨rfl, h5⟩ | ⟨h5, h6⟩
      · exact absurd ⟨hx.1, by omega⟩ (h5 x)
      · have a := h6 x ⟨hx.1, by omega⟩
        rw [Bool.eq_false_iff, ne_eq, better_iff] at a ⊢
        omega
/-! ### The document's way: one after the other -/
/-- Those that come ahead of (n, i, b). -/
def Seen (s n i b : Int) (x : Geo) : Prop := Room s x ∧ (x.n < n ∨ (x.n = n ∧ (x.i < i ∨ (x.i = i ∧ x.b < b))))
theorem Best.next {s n i b : Int} {best : Geo} (hb : Best (Seen s n i b) best) (hr : Room s ⟨n, i, b⟩) (h : best = zero ∨ better ⟨n, i, b⟩ best = true) : Best (Seen s n i (b + 1)) ⟨n, i, b⟩ := by
  right
  refine ⟨⟨hr, by simp; omega⟩, fun x hx => ?_⟩
  by_cases he : x = ⟨n, i, b⟩
  · subst he
    rw [Bool.eq_false_iff, ne_eq, better_iff]
    omega
  · have hs : Seen s n i b x := ⟨hx.1, by
      have := hx.2
      by_cases h1 : x.n = n ∧ x.i = i ∧ x.b = b
      · exact absurd (by cases x; simp_all) he
      · omega⟩
    rcases hb with ⟨rfl, h5⟩ | ⟨h5, h6⟩
    · exact absurd hs (h5 x)
    · have a := h6 x hs
      rcases h with h | h
      · subst h
        have := blocks_pos h5.1.1
        rw [zero_vals.1] at this; omega
      · rw [better_iff] at h
        rw [Bool.eq_false_iff, ne_eq, better_iff] at a ⊢
        omega
theorem Best.stay {s n i b : Int} {best : Geo} (hb : Best (Seen s n i b) best) (h : ¬ Room s ⟨n, i, b⟩ ∨ (best ≠ zero ∧ better ⟨n, i, b⟩ best = false)) : Best (Seen s n i (b + 1)) best := by
  have up : ∀ x, Seen s n i b x → Seen s n i (b + 1) x := fun x hx => ⟨hx.1, by have := hx.2; omega⟩
  have dn : ∀ x, Seen s n i (b + 1) x → Seen s n i b x ∨ x = ⟨n, i, b⟩ := fun x hx => by
    by_cases h1 : x.n = n ∧ x.i = i ∧ x.b = b
    · right; cases x; simp_all
    · left; exact ⟨hx.1, by have := hx.2; omega⟩
  rcases hb with ⟨rfl, h5⟩ | ⟨h5, h6⟩
  · left
    refine ⟨rfl, fun x hx => ?_⟩
    rcases dn x hx with h1 | rfl
    · exact h5 x h1
    · rcases h with h | h
      · exact h hx.1
      · exact h.1 rfl
  · right
    refine ⟨up _ h5, fun x hx => ?_⟩
    rcases dn x hx with h1 | rfl
    · exact h6 x h1
    · rcases h with h | h
      · exact absurd hx.1 h
      · exact h.2
/-- Those of no more blocks than there may be; the next number of inodes. -/
theorem Best.row {s n i : Int} {best : Geo} (hi : i % 4 = 0) (hb : Best (Seen s n i 97) best) : Best (Seen s n (i + 4) 16) best := by
  have e : ∀ x, Seen s n i 97 x ↔ Seen s n (i + 4) 16 x := fun x => by
    constructor
    · rintro ⟨h, h2⟩
      exact ⟨h, by omega⟩
    · rintro ⟨h, h2⟩
      have := may_iff.1 h.1
      exact ⟨h, by omega⟩
  rw [show Seen s n i 97 = Seen s n (i + 4) 16 from funext fun x => propext (e x)] at hb
  exact hb
theorem Best.group {s n : Int} {best : Geo} (hb : Best (Seen s n 36 16) best) : Best (Seen s (n + 1) 4 16) best := by
  have e : ∀ x, Seen s n 36 16 x ↔ Seen s (n + 1) 4 16 x := fun x => by
    constructor
    · rintro ⟨h, h2⟩
      exact ⟨h, by omega⟩
    · rintro ⟨h, h2⟩
      have := may_iff.1 h.1
      exact ⟨h, by omega⟩
  rw [show Seen s n 36 16 = Seen s (n + 1) 4 16 from funext fun x => propext (e x)] at hb
  exact hb
theorem Seen.start (s : Int) : Best (Seen s 1 4 16) zero := .inl ⟨rfl, fun x h => by have := may_iff.1 h.1.1; have := h.2; omega⟩
theorem Seen.all {s : Int} {best : Geo} (hb : Best (Seen s 9 4 16) best) : Best (Room s) best := by
  have e : ∀ x, Seen s 9 4 16 x ↔ Room s x := fun x => by
    constructor
    · exact fun h => h.1
    · intro h
      have := may_iff.1 h.1
      exact ⟨h, by omega⟩
  rw [show Seen s 9 4 16 = Room s from funext fun x => propext (e x)] at hb
  exact hb
end Go.Gm
