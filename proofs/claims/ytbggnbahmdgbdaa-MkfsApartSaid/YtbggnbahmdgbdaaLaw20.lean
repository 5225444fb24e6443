/- THE PLAIN LAW of an image: what stands in each sector. -/
import Derived.Test.YtbggnbahmdgbdaaImage
namespace Go.Proofs.Ytbggnbahmdgbdaa
open Go.RowKit Go.Own Go.Sl Go.Gm
/-- A list with some places laid over. -/
def setsT (T : List (List Int)) (f : Nat → Nat) (v : Nat → List Int) : Nat → List (List Int)
  | 0 => T
  | k + 1 => (setsT T f v k).set (f k) (v k)
theorem setsT_len (T : List (List Int)) (f : Nat → Nat) (v : Nat → List Int) : ∀ k, (setsT T f v k).length = T.length
  | 0 => rfl
  | k + 1 => by rw [setsT, List.length_set, setsT_len T f v k]
theorem setsT_none (T : List (List Int)) (f : Nat → Nat) (v : Nat → List Int) (j : Nat) : ∀ K, (∀ k, k < K → f k ≠ j) → (setsT T f v K)[j]? = T[j]?
  | 0, _ => rfl
  | K + 1, h => by
    rw [setsT, List.getElem?_set_ne (h K (by omega))]
    exact setsT_none T f v j K fun k hk => h k (by omega)
theorem setsT_some (T : List (List Int)) (f : Nat → Nat) (v : Nat → List Int) (j : Nat) (hj : j < T.length) : ∀ K k, k < K → f k = j → (∀ a, a < K → f a = j → v a = v k) → (setsT T f v K)[j]? = some (v k)
  | 0, k, h, _, _ => by omega
  | K + 1, k, h, e, hu => by
    rw [setsT]
    by_cases hK : f K = j
    · rw [hK, List.getElem?_set_self (by rw [setsT_len]; exact hj), hu K (by omega) hK]
    · rw [List.getElem?_set_ne hK]
      have : k ≠ K := fun h => hK (by rw [← h]; exact e)
      exact setsT_some T f v j hj K k (by omega) e fun a ha => hu a (by omega)
theorem grpT_sets (g : Geo) (T : List (List Int)) : ∀ k, grpT g T k = setsT T (fun k => (2 + (k : Int) * long g).toNat) (grpL g) k
  | 0 => rfl
  | k + 1 => by rw [grpT, setsT, grpT_sets g T k]
theorem inoT_sets (g : Geo) (T : List (List Int)) : ∀ k, inoT g T k = setsT T (inoI g) inoS k
  | 0 => rfl
  | k + 1 => by rw [inoT, setsT, inoT_sets g T k]
/-- One place, one way to write it. -/
theorem two_ways {l k r k' r' : Nat} (h : k * l + r = k' * l + r') (hr : r < l) (hr' : r' < l) : k = k' ∧ r = r' := by
  have h1 : (k * l + r) / l = k := by rw [Nat.mul_comm, Nat.mul_add_div (by omega), Nat.div_eq_of_lt hr, Nat.add_zero]
  have h2 : (k' * l + r') / l = k' := by rw [Nat.mul_comm, Nat.mul_add_div (by omega), Nat.div_eq_of_lt hr', Nat.add_zero]
  have : k = k' := by rw [← h1, h, h2]
  subst this
  exact ⟨rfl, by omega⟩
/-- The numbers of a geometry that may be. -/
structure Gn (g : Geo) (n m b : Nat) : Prop where
  hg : g = ⟨(n : Int), 4 * (m : Int), (b : Int)⟩
  hn : 1 ≤ n ∧ n ≤ 8
  hm : 1 ≤ m ∧ m ≤ 8
  hb : 16 ≤ b ∧ b ≤ 96
theorem gn_of {g : Geo} (h : may g = true) : ∃ n m b, Gn g n m b := by
  have := may_iff.1 h
  refine ⟨g.n.toNat, (g.i / 4).toNat, g.b.toNat, ?_, by omega, by omega, by omega⟩
  cases g
  simp only [Geo.mk.injEq] at this ⊢
  omega
theorem Gn.long {g : Geo} {n m b : Nat} (h : Gn g n m b) : long g = ((1 + m + b : Nat) : Int) := by
  rw [h.hg]
  unfold Gm.long
  have : (4 * (m : Int)).tdiv 4 = m := by rw [Int.tdiv_eq_ediv_of_nonneg (by omega)]; omega
  dsimp only
  rw [this]; omega
theorem Gn.may {g : Geo} {n m b : Nat} (h : Gn g n m b) : may g = true := by
  rw [may_iff, h.hg]
  have := h.hn; have := h.hm; have := h.hb
  dsimp only
  omega
theorem Gn.sectors {g : Geo} {n m b : Nat} (h : Gn g n m b) : (sectors g).toNat = 2 + n * (1 + m + b) := by
  rw [sectors_of h.may, h.long]
  have e : g.n = (n : Int) := by rw [h.hg]
  rw [e, ← Int.natCast_mul]
  omega
theorem Gn.four {g : Geo} {n m b : Nat} (h : Gn g n m b) : (inodes g / 4).toNat = n * m := by
  rw [inodes_of h.may]
  have e : g.n = (n : Int) := by rw [h.hg]
  have e2 : g.i = 4 * (m : Int) := by rw [h.hg]
  rw [e, e2, show (n : Int) * (4 * (m : Int)) = 4 * ((n * m : Nat) : Int) from by rw [Int.natCast_mul, ← Int.mul_assoc, Int.mul_comm (n : Int) 4, Int.mul_assoc]]
  omega
theorem Gn.grpAt {g : Geo} {n m b : Nat} (h : Gn g n m b) (k : Nat) : (2 + (k : Int) * Gm.long g).toNat = 2 + k * (1 + m + b) := by
  rw [h.long, ← Int.natCast_mul]; omega
theorem Gn.inoAt {g : Geo} {n m b : Nat} (h : Gn g n m b) (k r : Nat) (hr : r < m) : inoI g (k * m + r) = 2 + (k * (1 + m + b) + (1 + r)) := by
  unfold inoI
  have e2 : g.i = ((4 * m : Nat) : Int) := by rw [h.hg]; simp
  rw [h.long, e2, show 4 * ((k * m + r : Nat) : Int) = ((4 * (k * m + r) : Nat) : Int) from by omega, ← Int.natCast_ediv, ← Int.natCast_emod,
    Nat.mul_div_mul_left _ _ (by omega), Nat.mul_mod_mul_left]
  have h1 : (k * m + r) / m = k := by rw [Nat.mul_comm, Nat.mul_add_div (by omega), Nat.div_eq_of_lt hr, Nat.add_zero]
  have h2 : (k * m + r) % m = r := by rw [Nat.mul_comm, Nat.mul_add_mod, Nat.mod_eq_of_lt hr]
  rw [h1, h2, ← Int.natCast_mul]
  omega
/-- What stands behind the first two. -/
def secR (g : Geo) (m : Nat) (k r : Nat) : List Int := if r = 0 then grpL g k else if r ≤ m then inoS (k * m + (r - 1)) else zs 128
theorem img_0 {g : Geo} (h : may g = true) : (imgL g)[0]? = some (superL g) := by
  obtain ⟨n, m, b, H⟩ := gn_of h
  have hb := H.hb
  rw [imgL, H.sectors, inoT_sets, setsT_none, grpT_sets, setsT_none, startT]
  · rw [List.getElem?_set_ne (by omega), List.getElem?_set_self (by simp; omega)]
  · intro k _
    rw [H.grpAt]; omega
  · intro q hq
    rw [H.four] at hq
    have := H.inoAt (q / m) (q % m) (Nat.mod_lt _ (by have := H.hm; omega))
    rw [Nat.div_add_mod'] at this
    rw [this]; omega
theorem img_1 {g : Geo} (h : may g = true) : (imgL g)[1]? = some (sealL 82 (zs 59)) := by
  obtain ⟨n, m, b, H⟩ := gn_of h
  have hb := H.hb
  have hn : 1 * (1 + m + b) ≤ n * (1 + m + b) := Nat.mul_le_mul_right _ H.hn.1
  rw [imgL, H.sectors, inoT_sets, setsT_none, grpT_sets, setsT_none, startT]
  · rw [List.getElem?_set_self (by simp; omega)]
  · intro k _
    rw [H.grpAt]; omega
  · intro q hq
    rw [H.four] at hq
    have := H.inoAt (q / m) (q % m) (Nat.mod_lt _ (by have := H.hm; omega))
    rw [Nat.div_add_mod'] at this
    rw [this]; omega
theorem img_r {g : Geo} {n m b : Nat} (H : Gn g n m b) {k r : Nat} (hk : k < n) (hr : r < 1 + m + b) : (imgL g)[2 + (k * (1 + m + b) + r)]? = some (secR g m k r) := by
  have hb := H.hb
  have hm := H.hm
  have hkl : k * (1 + m + b) + (1 + m + b) ≤ n * (1 + m + b) := by
    have := Nat.mul_le_mul_right (1 + m + b) (show k + 1 ≤ n by omega)
    rwa [Nat.add_mul, Nat.one_mul] at this
  have four : ∀ q, inoI g q = 2 + (q / m * (1 + m + b) + (1 + q % m)) := fun q => by
    have := H.inoAt (q / m) (q % m) (Nat.mod_lt _ (by omega))
    rwa [Nat.div_add_mod'] at this
  rw [imgL, H.sectors, H.four, inoT_sets, show g.n.toNat = n by rw [H.hg]; simp, grpT_sets]
  unfold secR
  by_cases h0 : r = 0
  · subst h0
    rw [if_pos rfl, setsT_none, setsT_some _ _ _ _ (by rw [startT_len]; omega) n k hk (H.grpAt k)]
    · intro a _ e
      rw [H.grpAt] at e
      obtain ⟨rfl, -⟩ := two_ways (l := 1 + m + b) (r := 0) (r' := 0) (show a * (1 + m + b) + 0 = k * (1 + m + b) + 0 by omega) (by omega) (by omega)
      rfl
    · intro q _ e
      rw [four] at e
      have := Nat.mod_lt q (show 0 < m by omega)
      have := (two_ways (l := 1 + m + b) (r := 1 + q % m) (r' := 0) (show q / m * (1 + m + b) + (1 + q % m) = k * (1 + m + b) + 0 by omega) (by omega) (by omega)).2
      omega
  · rw [if_neg h0]
    by_cases h1 : r ≤ m
    · rw [if_pos h1, setsT_some _ _ _ _ (by rw [setsT_len, startT_len]; omega) (n * m) (k * m + (r - 1))]
      · have := Nat.mul_le_mul_right m (show k + 1 ≤ n by omega)
        rw [Nat.add_mul, Nat.one_mul] at this
        omega
      · rw [H.inoAt k (r - 1) (by omega)]; omega
      · intro a _ e
        rw [four] at e
        have := Nat.mod_lt a (show 0 < m by omega)
        obtain ⟨e1, e2⟩ := two_ways (l := 1 + m + b) (r := 1 + a % m) (r' := r) (show a / m * (1 + m + b) + (1 + a % m) = k * (1 + m + b) + r by omega) (by omega) (by omega)
        have := Nat.div_add_mod' a m
        rw [e1] at this
        rw [show k * m + (r - 1) = a by omega]
    · rw [if_neg h1, setsT_none, setsT_none, startT, List.getElem?_set_ne (by omega), List.getElem?_set_ne (by omega), List.getElem?_replicate, if_pos (by omega)]
      · intro a _ e
        rw [H.grpAt] at e
        have := (two_ways (l := 1 + m + b) (r := 0) (r' := r) (show a * (1 + m + b) + 0 = k * (1 + m + b) + r by omega) (by omega) (by omega)).2
        omega
      · intro q _ e
        rw [four] at e
        have := Nat.mod_lt q (show 0 < m by omega)
        have := (two_ways (l := 1 + m + b) (r := 1 + q % m) (r' := r) (show q / m * (1 + m + b) + (1 + q % m) = k * (1 + m + b) + r by omega) (by omega) (by omega)).2
        omega
theorem sealL_ne {k : Int} (hk : k ≠ 0) (b : List Int) : sealL k b ≠ zs 128 := by
  intro h
  have := congrArg List.head? h
  rw [sealL, sealB] at this
  simp [zs] at this
  exact hk this
theorem superL_inj {g h : Geo} (e : superL g = superL h) : g = h := by
  have e5 := congrArg (fun l => l[5]?) e
  have e6 := congrArg (fun l => l[6]?) e
  have e7 := congrArg (fun l => l[7]?) e
  simp [superL, sealL, sealB, superB] at e5 e6 e7
  cases g; cases h
  simp_all
theorem imgL_inj {g h : Geo} (hg : may g = true) (hh : may h = true) (e : imgL g = imgL h) : g = h := by
  have a := img_0 hg
  rw [e, img_0 hh] at a
  exact (superL_inj (Option.some.inj a)).symm
/-- How many of the first ones are zeros alone. -/
def zeroN (T : List (List Int)) (j : Nat) : Nat := (T.take j).countP fun x => decide (x = zs 128)
theorem zeroN_succ {T : List (List Int)} {j : Nat} {x : List Int} (h : T[j]? = some x) : zeroN T (j + 1) = zeroN T j + if x = zs 128 then 1 else 0 := by
  obtain ⟨hj, rfl⟩ := List.getElem?_eq_some_iff.1 h
  rw [zeroN, List.take_succ_eq_append_getElem hj, List.countP_append, ← zeroN]
  simp [List.countP_cons]
theorem zeroN_r {g : Geo} {n m b : Nat} (H : Gn g n m b) {k : Nat} (hk : k < n) (h0 : zeroN (imgL g) (2 + (k * (1 + m + b))) = k * b) : ∀ r, r ≤ 1 + m + b → zeroN (imgL g) (2 + (k * (1 + m + b) + r)) = k * b + (r - (1 + m))
  | 0, _ => by simpa using h0
  | r + 1, h => by
    have := zeroN_succ (img_r H hk (r := r) (by omega))
    rw [show 2 + (k * (1 + m + b) + (r + 1)) = 2 + (k * (1 + m + b) + r) + 1 from rfl, this, zeroN_r H hk h0 r (by omega), secR]
    by_cases e0 : r = 0
    · rw [if_pos e0, if_neg (show grpL g k ≠ zs 128 from sealL_ne (by decide) _)]; omega
    · rw [if_neg e0]
      by_cases e1 : r ≤ m
      · rw [if_pos e1, if_neg (show inoS (k * m + (r - 1)) ≠ zs 128 from sealL_ne (by decide) _)]; omega
      · rw [if_neg e1, if_pos rfl]; omega
theorem zeroN_k {g : Geo} {n m b : Nat} (H : Gn g n m b) : ∀ k, k ≤ n → zeroN (imgL g) (2 + k * (1 + m + b)) = k * b
  | 0, _ => by
    have h2 := zeroN_succ (img_0 H.may)
    have h3 := zeroN_succ (img_1 H.may)
    rw [if_neg (show superL g ≠ zs 128 from sealL_ne (by decide) _)] at h2
    rw [if_neg (show sealL 82 (zs 59) ≠ zs 128 from sealL_ne (by decide) _)] at h3
    rw [show 2 + 0 * (1 + m + b) = 0 + 1 + 1 by omega, h3, h2]
    rw [Nat.zero_mul]; rfl
  | k + 1, h => by
    have := zeroN_r H (k := k) (by omega) (zeroN_k H k (by omega)) (1 + m + b) (by omega)
    rw [show 2 + (k + 1) * (1 + m + b) = 2 + (k * (1 + m + b) + (1 + m + b)) by rw [Nat.add_mul]; omega, this, Nat.add_mul]
    omega
theorem zeroN_all {g : Geo} (h : may g = true) : (zeroN (imgL g) (imgL g).length : Int) = blocks g := by
  obtain ⟨n, m, b, H⟩ := gn_of h
  rw [imgL_len, H.sectors, zeroN_k H n (by omega), blocks_of h, H.hg, Int.natCast_mul]
theorem zeroN_le (T : List (List Int)) (j : Nat) : zeroN T j ≤ j := by
  unfold zeroN
  exact Nat.le_trans List.countP_le_length (by simp; omega)
end Go.Proofs.Ytbggnbahmdgbdaa
