/- OWNED SLICES: a slice value with the block behind it; append, make, in the walk's form. No program in sight. -/
import Derived.Test.YtajlikakbihgbaaOwn
namespace Go.Own
open Go.RowKit
/-- v is a slice of n elements of type e (size cells each); its cells are xs; the block behind it is owned. -/
def row (v : Value) (e : TypeId) (size n : Nat) (xs : List Value) : HP := fun h => xs.length = n * size ∧
  ((v = .slice none 0 0 ∧ n = 0 ∧ emp h) ∨ ∃ (g cap : Nat) (cur : Array Value), v = .slice (some ⟨g, 0, none⟩) n cap ∧ n ≤ cap ∧ cap ≤ maxLen ∧ cur.size = cap * size ∧ cur.toList.take (n * size) = xs ∧ pt g (.cells cur e) h)
section
variable {w w' : World} {l : List HP} {v : Value} {e : TypeId} {size n : Nat} {xs : List Value}
theorem Has.row_nil (h : Has w l) (e : TypeId) (size : Nat) : Has w (row (.slice none 0 0) e size 0 [] :: l) :=
  (Has.emp_iff.2 h).imp fun _ ha => ⟨by simp, .inl ⟨rfl, rfl, ha⟩⟩
theorem Has.row_of {g cap : Nat} {cur : Array Value} (h : Has w (pt g (.cells cur e) :: l)) (h1 : n ≤ cap) (h2 : cap ≤ maxLen) (h3 : cur.size = cap * size) (h4 : cur.toList.take (n * size) = xs) (h5 : xs.length = n * size) :
    Has w (row (.slice (some ⟨g, 0, none⟩) n cap) e size n xs :: l) :=
  h.imp fun _ ha => ⟨h5, .inr ⟨g, cap, cur, rfl, h1, h2, h3, h4, ha⟩⟩
/-- Nil, or a block. -/
theorem Has.row_cases (h : Has w (row v e size n xs :: l)) : xs.length = n * size ∧ ((v = .slice none 0 0 ∧ n = 0 ∧ xs = [] ∧ Has w l) ∨
    ∃ (g cap : Nat) (cur : Array Value), v = .slice (some ⟨g, 0, none⟩) n cap ∧ n ≤ cap ∧ cap ≤ maxLen ∧ cur.size = cap * size ∧ cur.toList.take (n * size) = xs ∧ Has w (pt g (.cells cur e) :: l)) := by
  obtain ⟨_, hw, a, b, d, rfl, ⟨hl, ha⟩, hb⟩ := h
  refine ⟨hl, ?_⟩
  rcases ha with ⟨rfl, rfl, ha⟩ | ⟨g, cap, cur, rfl, h1, h2, h3, h4, ha⟩
  · left
    refine ⟨rfl, rfl, List.eq_nil_of_length_eq_zero (by simpa using hl), ?_⟩
    refine ⟨b, fun k o eq => hw k o ?_, hb⟩
    rw [show a = fun _ => none from ha, Frag.none_join]; exact eq
  · exact .inr ⟨g, cap, cur, rfl, h1, h2, h3, h4, _, hw, a, b, d, rfl, ha, hb⟩
theorem Has.row_own (h : Has w (row v e size n xs :: l)) : w.ownsRow 0 e size v n xs := by
  obtain ⟨hl, h | ⟨g, cap, cur, rfl, h1, h2, h3, h4, h5⟩⟩ := h.row_cases
  · exact ⟨hl, .inl ⟨h.1, h.2.1⟩⟩
  · exact ⟨hl, .inr ⟨g, cap, cur, rfl, Nat.zero_le _, h5.lookup, h1, h2, h3, h4⟩⟩
theorem take_getElem? {α : Type} {l : List α} {m i : Nat} (h : i < m) : (l.take m)[i]? = l[i]? := by
  rw [List.getElem?_take, if_pos h]
/-- The cells of what is owned. -/
theorem Has.row_cells {g cap m : Nat} (h : Has w (row (.slice (some ⟨g, 0, none⟩) m cap) e size n xs :: l)) : m = n ∧ (∀ j, j < n * size → w.cell? ⟨g, j, none⟩ = xs[j]?) ∧ (∀ j, w.frozen? ⟨g, j, none⟩ = false) ∧ n ≤ cap ∧ cap ≤ maxLen := by
  obtain ⟨hl, h | ⟨g', cap', cur, e1, h1, h2, h3, h4, h5⟩⟩ := h.row_cases
  · exact absurd h.1 (by simp)
  · simp only [Value.slice.injEq, Option.some.injEq, Addr.mk.injEq] at e1
    obtain ⟨⟨rfl, -, -⟩, rfl, rfl⟩ := e1
    refine ⟨rfl, fun j hj => ?_, h5.thaw, h1, h2⟩
    rw [h5.cells, ← h4, take_getElem? hj, Array.getElem?_toList]
/-- A store into what is owned. -/
theorem Has.row_set {g cap m : Nat} (h : Has w (row (.slice (some ⟨g, 0, none⟩) m cap) e size n xs :: l)) (j : Nat) (hj : j < n * size) (u : Value) :
    Has (w.setCell ⟨g, j, none⟩ u) (row (.slice (some ⟨g, 0, none⟩) m cap) e size n (xs.set j u) :: l) := by
  obtain ⟨hl, h | ⟨g', cap', cur, e1, h1, h2, h3, h4, h5⟩⟩ := h.row_cases
  · exact absurd h.1 (by simp)
  · simp only [Value.slice.injEq, Option.some.injEq, Addr.mk.injEq] at e1
    obtain ⟨⟨rfl, -, -⟩, rfl, rfl⟩ := e1
    refine (h5.set _ u).row_of h1 h2 (by simpa using h3) ?_ (by simpa using hl)
    rw [Array.toList_setIfInBounds, List.take_set, h4]

theorem Has.append {P : Program} (hO : Has w (row v e size n xs :: l)) (t ty : TypeId) (i : TypeInfo) (z : Value) (bytes : Nat) (ht : P.underlying t = some (.slice e)) (hi : P.info? e = some i) (hz : i.zero = some z)
    (hsize : i.size = size) (hby : i.bytes = bytes) (hzs : z.cells.size = size)
    (a : Addr) (m c : Nat) (news : List Value) (hl : news.length = m * size) (hnews : ∀ j u, news[j]? = some u → w.cell? (a.add j) = some u) (h1 : ∀ u ∈ news, u.oneCell' = true)
    (h63 : n + m ≤ maxLen) (hbytes : (n + m) * bytes ≤ 140737488355328) :
    ∃ v' w', (Builtin.append_ #[t, t] ty #[v, .slice (some a) m c]).run P w = .ok v' w' ∧ Has w' (row v' e size (n + m) (xs ++ news) :: l) ∧ Keep w w' ∧
      (v' = .slice none 0 0 ↔ v = .slice none 0 0 ∧ m = 0) := by
  subst hsize
  subst hby
  have hsmall : n + m ≤ 9223372036854775807 := by simp only [maxLen] at h63; omega
  obtain ⟨hxl, hc⟩ := hO.row_cases
  have hlen : (xs ++ news).length = (n + m) * i.size := by rw [List.length_append, hxl, hl, Nat.add_mul]
  have hO0 : Has w l := hO.drop
  have grown : ∀ (old : Nat), old < n + m →
      Has (w.drew.alloc (.cells (xs.toArray ++ news.toArray ++ Builtin.zeroCells z.cells (grownCap w (n + m) old e - (n + m))) e))
        (row (.slice (some ⟨w.heap.size, 0, none⟩) (n + m) (grownCap w (n + m) old e)) e i.size (n + m) (xs ++ news) :: l) ∧
      Keep w (w.drew.alloc (.cells (xs.toArray ++ news.toArray ++ Builtin.zeroCells z.cells (grownCap w (n + m) old e - (n + m))) e)) := by
    intro old ho
    have hge := grownCap_ge w (n + m) old e
    have hcm : grownCap w (n + m) old e ≤ maxLen := grownCap_le_maxLen w (n + m) old e h63
    refine ⟨(hO0.drew.alloc _).row_of hge hcm ?_ ?_ hlen, (Keep.refl w).drew.alloc _⟩
    · simp only [Array.size_append, List.size_toArray, size_zeroCells, hzs, hxl, hl, ← Nat.add_mul]
      congr 1
      omega
    · simp only [Array.toList_append, List.append_assoc]
      rw [← List.append_assoc, ← hlen]
      exact List.take_left
  rcases hc with ⟨rfl, rfl, rfl, hO'⟩ | ⟨g, cap, cur, rfl, hnc, hcm, hcs, htake, hp⟩
  · by_cases hm : m = 0
    · subst hm
      have hn : news = [] := List.eq_nil_of_length_eq_zero (by simpa using hl)
      subst hn
      refine ⟨.slice none 0 0, w, ?_, hO'.row_nil e i.size, Keep.refl w, by simp⟩
      simp [Builtin.append_, run_underlying ht, sizeOf, typeInfo, hi, Builtin.lenOf, Builtin.firstCells, loadCells, loadCellsFrom]
    · have hr := run_append_nil (P := P) w t ty e i z ht hi hz a m c news hl hnews (by omega) (by omega) (by have hb := hbytes; simp only [Nat.zero_add] at hb; omega)
      have hgr := grown 0 (by omega)
      simp only [Nat.zero_add, List.nil_append, Array.empty_append] at hgr ⊢
      exact ⟨_, _, hr, hgr.1, hgr.2, by simp [hm]⟩
  · by_cases hroom : n + m ≤ cap
    · have hfit : n * i.size + news.length ≤ cur.size := by rw [hl, hcs, ← Nat.add_mul]; exact Nat.mul_le_mul_right _ hroom
      have hr := run_append_room (P := P) w t ty e i ht hi g n cap cur hp.lookup a m c news hl hnews h1 hroom hfit
      refine ⟨_, _, hr, (hp.turn (fun k _ hk => setRow_other w g k _ hk) (setRow_heap w g cur _ e _ hp.lookup)).row_of hroom hcm ?_ ?_ hlen, ⟨rfl, rfl, rfl, by simp⟩, by simp⟩
      · simp only [List.size_toArray, List.length_append, List.length_take, List.length_drop, Array.length_toList]
        omega
      · rw [htake, ← hlen]
        exact List.take_left
    · have holds : ∀ j u, xs[j]? = some u → w.cell? ((⟨g, 0, none⟩ : Addr).add j) = some u := hO.row_own.cells (g := g) rfl
      have hr := run_append_grow (P := P) w t ty e i z ht hi hz ⟨g, 0, none⟩ n cap xs hxl holds a m c news hl hnews (by omega) (by omega) (growslice_fits (by omega) hbytes)
      have hgr := grown cap (by omega)
      exact ⟨_, _, hr, hgr.1, hgr.2, by simp⟩

theorem wp_append {P : Program} {o : Oper} {a : Act} {K : Act → World → Prop} {Q : Exit → Act → World → Prop} (s x : Operand) (t : TypeId)
    (ho : o.op = .call { callee := .builtin .append, args := #[s, x], argTypes := #[t, t] })
    (i : TypeInfo) (z : Value) (bytes : Nat) (ht : P.underlying t = some (.slice e)) (hi : P.info? e = some i) (hz : i.zero = some z)
    (hsize : i.size = size) (hby : i.bytes = bytes) (hzs : z.cells.size = size)
    (hO : Has w (row v e size n xs :: l)) (hs : a.eval s = v)
    (ad : Addr) (m c : Nat) (news : List Value) (hx : a.eval x = .slice (some ad) m c) (hl : news.length = m * size) (hnews : ∀ j u, news[j]? = some u → w.cell? (ad.add j) = some u) (h1 : ∀ u ∈ news, u.oneCell' = true)
    (h63 : n + m ≤ maxLen) (hbytes : (n + m) * bytes ≤ 140737488355328)
    (h : ∀ v' w', Has w' (row v' e size (n + m) (xs ++ news) :: l) → Keep w w' → (v' = .slice none 0 0 ↔ v = .slice none 0 0 ∧ m = 0) → K (a.put o.dst v') w') : o.wp P a w K Q := by
  obtain ⟨v', w', hr, h2, h3, h4⟩ := hO.append (P := P) t o.type i z bytes ht hi hz hsize hby hzs ad m c news hl hnews h1 h63 hbytes
  unfold Oper.wp execOp
  simp only [ho, resolve, invoke, builtin, Sem.run_bind, Sem.run_pure, Result.andThen_ok, List.map_toArray, List.map_cons, List.map_nil, hs, hx, hr]
  exact h v' w' h2 h3 h4

theorem wpList_append {P : Program} {ops : Array Oper} {rest : List Oper} {o : Oper} {a : Act} {Q : Exit → Act → World → Prop} (hgd : o.guard = none) (s x : Operand) (t : TypeId)
    (ho : o.op = .call { callee := .builtin .append, args := #[s, x], argTypes := #[t, t] })
    (i : TypeInfo) (z : Value) (bytes : Nat) (ht : P.underlying t = some (.slice e)) (hi : P.info? e = some i) (hz : i.zero = some z)
    (hsize : i.size = size) (hby : i.bytes = bytes) (hzs : z.cells.size = size)
    (hO : Has w (row v e size n xs :: l)) (hs : a.eval s = v)
    (ad : Addr) (m c : Nat) (news : List Value) (hx : a.eval x = .slice (some ad) m c) (hl : news.length = m * size) (hnews : ∀ j u, news[j]? = some u → w.cell? (ad.add j) = some u) (h1 : ∀ u ∈ news, u.oneCell' = true)
    (h63 : n + m ≤ maxLen) (hbytes : (n + m) * bytes ≤ 140737488355328)
    (h : ∀ v' w', Has w' (row v' e size (n + m) (xs ++ news) :: l) → Keep w w' → (v' = .slice none 0 0 ↔ v = .slice none 0 0 ∧ m = 0) → wpList P ops Q rest (a.put o.dst v') w') : wpList P ops Q (o :: rest) a w :=
  wpList_plain hgd fun _ hK => wp_append s x t ho i z bytes ht hi hz hsize hby hzs hO hs ad m c news hx hl hnews h1 h63 hbytes fun v' w' h2 h3 h4 => hK _ _ (h v' w' h2 h3 h4)
/-- 'append(s, u)' of one element of one cell, which lies in a new block at the end. -/
theorem wpList_append1 {P : Program} {ops : Array Oper} {rest : List Oper} {o : Oper} {a : Act} {Q : Exit → Act → World → Prop} (hgd : o.guard = none) (s x : Operand) (t : TypeId)
    (ho : o.op = .call { callee := .builtin .append, args := #[s, x], argTypes := #[t, t] })
    {z : Value} {bytes : Nat} (ht : P.underlying t = some (.slice e)) (hi : (P.info? e).map (fun i => (i.zero, i.size, i.bytes)) = some (some z, 1, bytes)) (hzs : z.cells.size = 1)
    (u : Value) (hO : Has w (row v e 1 n xs :: l)) (hs : a.eval s = v) (c : Nat) (b : Nat)
    (hx : a.eval x = .slice (some ⟨b, 0, none⟩) 1 c) (hu : w.cell? ⟨b, 0, none⟩ = some u) (h1 : u.oneCell' = true)
    (h63 : n + 1 ≤ maxLen) (hbytes : (n + 1) * bytes ≤ 140737488355328)
    (h : ∀ v' w', Has w' (row v' e 1 (n + 1) (xs ++ [u]) :: l) → Keep w w' → wpList P ops Q rest (a.put o.dst v') w') : wpList P ops Q (o :: rest) a w := by
  obtain ⟨i, hi, hz, hsz, hby⟩ := info_parts hi
  refine wpList_append hgd s x t ho i z bytes ht hi hz hsz hby hzs hO hs ⟨b, 0, none⟩ 1 c [u] hx rfl ?_ ?_ h63 hbytes fun v' w' h2 h3 _ => h v' w' h2 h3
  · intro j y hj
    cases j with
    | zero => simp at hj; subst hj; simpa [Addr.add] using hu
    | succ j => simp at hj
  · intro y hy; simp at hy; subst hy; exact h1
/-- v reads as a slice of n elements (size cells each) whose cells are xs. -/
def Rd (w : World) (v : Value) (size n : Nat) (xs : List Value) : Prop := xs.length = n * size ∧ n ≤ maxLen ∧ ∃ (p : Option Addr) (cap : Nat), v = .slice p n cap ∧ n ≤ cap ∧
  (0 < n * size → ∃ (g o : Nat), p = some ⟨g, o, none⟩ ∧ ∀ j, j < n * size → w.cell? ⟨g, o + j, none⟩ = xs[j]?)
theorem Has.rd (h : Has w (row v e size n xs :: l)) : Rd w v size n xs := by
  obtain ⟨hl, h1 | ⟨g, cap, cur, rfl, h1, h2, h3, h4, h5⟩⟩ := h.row_cases
  · exact ⟨hl, by rw [h1.2.1]; exact Nat.zero_le _, none, 0, by rw [h1.1, h1.2.1], by omega, fun hp => absurd hp (by rw [h1.2.1]; simp)⟩
  · exact ⟨hl, by omega, _, cap, rfl, h1, fun _ => ⟨g, 0, rfl, fun j hj => by rw [Nat.zero_add]; exact h.row_cells.2.1 j hj⟩⟩
theorem Rd.drewN (h : Rd w v size n xs) (m : Nat) : Rd (w.drewN m) v size n xs := h
theorem Rd.cellsOld {w' : World} (h : Rd w v size n xs) (hk : ∀ k, k < w.heap.size → w'.heap[k]? = w.heap[k]?) : Rd w' v size n xs := by
  obtain ⟨h1, h2, p, cap, h3, h4, h5⟩ := h
  refine ⟨h1, h2, p, cap, h3, h4, fun hp => ?_⟩
  obtain ⟨g, o, h6, h7⟩ := h5 hp
  refine ⟨g, o, h6, fun j hj => ?_⟩
  rw [← h7 j hj]
  have hc := h7 j hj
  rw [List.getElem?_eq_getElem (by omega)] at hc
  exact World.cell?_of_block (hk g (World.block_lt_of_cell? w _ hc))
theorem Rd.alloc (h : Rd w v size n xs) (o : Obj) : Rd (w.alloc o) v size n xs := h.cellsOld fun _ hk => Below.heap_alloc _ _ _ hk
theorem le_maxLen {k : Nat} (h : k ≤ 1000000000000000000) : k ≤ maxLen := by unfold maxLen; omega
/-- The value's form, nil or not. -/
theorem Rd.form (h : Rd w v size n xs) : ∃ (p : Option Addr) (cap : Nat), v = .slice p n cap ∧ n ≤ cap ∧ n ≤ 9223372036854775807 ∧ (0 < n * size → ∃ (g o : Nat), p = some ⟨g, o, none⟩ ∧ ∀ j, j < n * size → w.cell? ⟨g, o + j, none⟩ = xs[j]?) := by
  obtain ⟨_, h2, p, cap, h3, h4, h5⟩ := h
  exact ⟨p, cap, h3, h4, by unfold maxLen at h2; omega, h5⟩
theorem cell_plain {x : Addr} {u : Value} (h : w.cell? x = some u) : x = ⟨x.block, x.off, none⟩ := by
  obtain ⟨b, o, s⟩ := x
  cases s with
  | none => rfl
  | some s =>
    unfold World.cell? at h
    split at h <;> simp at h
theorem add_plain (g o j : Nat) : (⟨g, o, none⟩ : Addr).add j = ⟨g, o + j, none⟩ := by unfold Addr.add; split <;> simp_all
/-- A list of ints as cells. -/
def ic (xs : List Int) : List Value := xs.map (Value.int .i64)
theorem ic_len (xs : List Int) : (ic xs).length = xs.length := by simp [ic]
theorem ic_at (xs : List Int) (j : Nat) (h : j < xs.length) : (ic xs)[j]? = some (.int .i64 xs[j]) := by simp [ic, h]
theorem ic_snoc (xs : List Int) (x : Int) : ic (xs ++ [x]) = ic xs ++ [.int .i64 x] := by simp [ic]
/-- A list of bytes as cells. -/
def bc (xs : List Int) : List Value := xs.map (Value.int .u8)
theorem bc_len (xs : List Int) : (bc xs).length = xs.length := by simp [bc]
theorem bc_at (xs : List Int) (j : Nat) (h : j < xs.length) : (bc xs)[j]? = some (.int .u8 xs[j]) := by simp [bc, h]
theorem bc_snoc (xs : List Int) (x : Int) : bc (xs ++ [x]) = bc xs ++ [.int .u8 x] := by simp [bc]
/-- Is a slice nil? -/
def nilS : Value → Bool
  | .slice none _ _ => true
  | _ => false
theorem Has.row_nilS (h : Has w (row v e size n xs :: l)) (hv : v ≠ .slice none 0 0) : nilS v = false := by
  obtain ⟨-, h1 | ⟨g, cap, cur, rfl, -⟩⟩ := h.row_cases
  · exact absurd h1.1 hv
  · rfl
/-- 'append(s, x...)' of what reads as a row. -/
theorem wpList_append_rd {P : Program} {ops : Array Oper} {rest : List Oper} {o : Oper} {a : Act} {Q : Exit → Act → World → Prop} (hgd : o.guard = none) (s x : Operand) (t : TypeId)
    (ho : o.op = .call { callee := .builtin .append, args := #[s, x], argTypes := #[t, t] })
    {z : Value} {bytes : Nat} (ht : P.underlying t = some (.slice e)) (hi : (P.info? e).map (fun i => (i.zero, i.size, i.bytes)) = some (some z, size, bytes)) (hzs : z.cells.size = size)
    (hO : Has w (row v e size n xs :: l)) (hs : a.eval s = v) (ad : Addr) (m c : Nat) (ys : List Value) (hx : a.eval x = .slice (some ad) m c) (hr : Rd w (.slice (some ad) m c) size m ys) (h1 : ∀ u ∈ ys, u.oneCell' = true)
    (h63 : n + m ≤ maxLen) (hbytes : (n + m) * bytes ≤ 140737488355328)
    (h : ∀ v' w', Has w' (row v' e size (n + m) (xs ++ ys) :: l) → Keep w w' → (v' = .slice none 0 0 ↔ v = .slice none 0 0 ∧ m = 0) → wpList P ops Q rest (a.put o.dst v') w') : wpList P ops Q (o :: rest) a w := by
  obtain ⟨i, hi, hz, hsz, hby⟩ := info_parts hi
  refine wpList_append hgd s x t ho i z bytes ht hi hz hsz hby hzs hO hs ad m c ys hx hr.1 ?_ h1 h63 hbytes h
  intro j y hj
  obtain ⟨hl, -, p, cap, e1, -, hc⟩ := hr
  cases e1
  have hjl : j < m * size := by rw [← hl]; exact (List.getElem?_eq_some_iff.1 hj).1
  obtain ⟨g, o, e2, hc2⟩ := hc (by omega)
  cases e2
  rw [add_plain, hc2 j hjl, hj]
theorem bc_one (xs : List Int) : ∀ u ∈ bc xs, u.oneCell' = true := by
  intro u hu
  simp only [bc, List.mem_map] at hu
  obtain ⟨x, -, rfl⟩ := hu
  rfl
theorem ic_one (xs : List Int) : ∀ u ∈ ic xs, u.oneCell' = true := by
  intro u hu
  simp only [ic, List.mem_map] at hu
  obtain ⟨x, -, rfl⟩ := hu
  rfl
/-- 'append(s, u)' inside a region. -/
theorem wp_append1 {P : Program} {o : Oper} {a : Act} {K : Act → World → Prop} {Q : Exit → Act → World → Prop} (s x : Operand) (t : TypeId)
    (ho : o.op = .call { callee := .builtin .append, args := #[s, x], argTypes := #[t, t] })
    {z : Value} {bytes : Nat} (ht : P.underlying t = some (.slice e)) (hi : (P.info? e).map (fun i => (i.zero, i.size, i.bytes)) = some (some z, size, bytes)) (hzs : z.cells.size = size)
    (us : List Value) (hus : us.length = size) (hO : Has w (row v e size n xs :: l)) (hs : a.eval s = v) (c : Nat) (b : Nat)
    (hx : a.eval x = .slice (some ⟨b, 0, none⟩) 1 c) (hu : ∀ j, w.cell? ⟨b, j, none⟩ = us[j]?) (h1 : ∀ u ∈ us, u.oneCell' = true)
    (h63 : n + 1 ≤ maxLen) (hbytes : (n + 1) * bytes ≤ 140737488355328)
    (h : ∀ v' w', Has w' (row v' e size (n + 1) (xs ++ us) :: l) → Keep w w' → K (a.put o.dst v') w') : o.wp P a w K Q := by
  obtain ⟨i, hi, hz, hsz, hby⟩ := info_parts hi
  refine wp_append s x t ho i z bytes ht hi hz hsz hby hzs hO hs ⟨b, 0, none⟩ 1 c us hx (by rw [hus, Nat.one_mul]) ?_ h1 h63 hbytes fun v' w' h2 h3 _ => h v' w' h2 h3
  intro j y hj
  rw [add_plain, Nat.zero_add, hu, hj]
/-- A row of zeros that was just made. -/
theorem Has.row_made {k : Nat} {z : Value} (h : Has w l) (hm : k ≤ maxLen) : Has (w.alloc (.cells (List.replicate k z).toArray e)) (row (.slice (some ⟨w.heap.size, 0, none⟩) k k) e 1 k (List.replicate k z) :: l) :=
  (h.alloc _).row_of (Nat.le_refl _) hm (by simp) (by simp) (by simp)
theorem run_make_row {P : Program} (w : World) (t : TypeId) {z : Value} {bytes : Nat} (ht : P.underlying t = some (.slice e)) (hi : (P.info? e).map (fun i => (i.zero, i.size, i.bytes)) = some (some z, 1, bytes)) (hz1 : z.cells = #[z])
    (kl kc : IntKind) (k : Nat) (h48 : bytes * k ≤ 281474976710656) (h63 : k ≤ maxLen) :
    (Instr.makeSlice t (.int kl (k : Int)) (.int kc (k : Int))).run P w = .ok (.slice (some ⟨w.heap.size, 0, none⟩) k k) (w.alloc (.cells (List.replicate k z).toArray e)) := by
  obtain ⟨i, hi, hz, hsz, hby⟩ := info_parts hi
  have h63' : (k : Int) ≤ 9223372036854775807 := by
    have h := h63
    unfold maxLen at h
    omega
  have hb' : (i.bytes : Int) * (k : Int) ≤ 281474976710656 := by
    have h : ((i.bytes * k : Nat) : Int) ≤ 281474976710656 := by rw [hby]; omega
    rwa [Int.natCast_mul] at h
  have hr := run_make (P := P) w t e i z ht hi hz kl kc k k (by omega) (Int.le_refl _) hb' h63'
  simp only [Int.toNat_natCast] at hr
  rw [hr]
  congr 3
  apply Array.toList_inj.1
  rw [hz1, hsz, Nat.mul_one, toList_madeCells_one]
end
end Go.Own
