/- TEXTS of mine, merged. -/
import Derived.Test.YtonhcefgakmpfaaGreatDoorM6
import Derived.Test.YtonhcefgakmpfaaGreatDoorM5
import Derived.Test.YtonhcefgakmpfaaGreatDoorM2
/- THE TREE, plain: what its operations do. No program in sight. -/
namespace Go.Proofs.YtonhcefgakmpfaaGreatDoor
open Go.RowKit Go.Own
namespace Tre
variable (S : Tre)
def setN (n : Int) (x : Nod) : Tre := { S with nodes := putA S.nodes n x }
/-- The name of a node among a directory's. -/
def nameOf (t : List (Str × Int)) (n : Int) : Str := ((t.filter fun p => decide (p.2 = n)).map Prod.fst).flatten
def wayF : Nat → Int → List Str
  | 0, _ => []
  | k + 1, n => if n = 1 ∨ (S.at_ n).above = 0 then [] else wayF k (S.at_ n).above ++ [nameOf (S.at_ (S.at_ n).above).names n]
/-- The names of a directory, from the root on. -/
def way (n : Int) : List Str := S.wayF 21 n
def longM (parts : List Str) : Bool := decide (20 < parts.length) || decide (200 < (joinM parts).length)
/-- The place of a path. -/
def place (p : Str) : Spt × Int :=
  if (lastM p).2.2 ≠ 0 then (spt0, (lastM p).2.2)
  else if (S.find (lastM p).1 true).2 ≠ 0 then (spt0, (S.find (lastM p).1 true).2)
  else if (S.at_ (S.find (lastM p).1 true).1.node).kind ≠ 2 then (spt0, 7)
  else if longM (S.way (S.find (lastM p).1 true).1.node ++ [(lastM p).2.1]) = true then (spt0, 11)
  else (⟨(fnd (S.at_ (S.find (lastM p).1 true).1.node).names (lastM p).2.1).getD 0, (S.find (lastM p).1 true).1.node, (lastM p).2.1⟩, 0)
def dirAdd (d : Nod) (name : Str) (n : Int) : Nod := { d with names := putA d.names name n, most := max d.most ((putA d.names name n).length : Int) }
def nodAdd (x : Nod) (dir : Int) : Nod := if x.kind = 2 then { x with above := dir, links := 1 } else { x with links := x.links + 1 }
/-- An entry is made. -/
def add (dir : Int) (name : Str) (n : Int) : Tre := (S.setN dir (dirAdd (S.at_ dir) name n)).setN n (nodAdd (S.at_ n) dir)
/-- A node, and its entry. -/
def make (s : Spt) (kind : Int) (data : Str) : Tre := ({ S with last := S.last + 1, nodes := putA S.nodes (S.last + 1) ⟨kind, if kind = 3 then bytesOf data else [], [], [], 0, 0, 0⟩ } : Tre).add s.dir s.name (S.last + 1)
def fresh (p : Str) : Spt × Int :=
  if (S.place p).2 ≠ 0 then (spt0, (S.place p).2) else if (S.place p).1.node ≠ 0 then (spt0, 6) else (S.place p).1 |> fun s => (s, 0)
end Tre
/-- How many blocks so many bytes take. -/
def needM (n : Nat) : Nat := if 20736 ≤ n then 162 else (n + 127) / 128
def nodCut (x : Nod) (size : Nat) : Nod :=
  if size ≤ x.data.length then { x with data := x.data.take size, wr := x.wr.take (needM size) } else { x with data := x.data ++ List.replicate (size - x.data.length) 0 }
namespace Tre
variable (S : Tre)
def resize (n : Int) (size : Nat) : Tre := S.setN n (nodCut (S.at_ n) size)
end Tre
/-- Ways are short, and end at the root. -/
structure Wy (S : Tre) (rk : Int → Nat) : Prop where
  rank : ∀ n x, fnd S.nodes n = some x → n ≠ 1 → x.above ≠ 0 → ∃ y nm, fnd S.nodes x.above = some y ∧ y.names.filter (fun p => decide (p.2 = n)) = [(nm, n)] ∧ rk x.above < rk n ∧ nm.length ≤ 24
  low : ∀ n, rk n ≤ 20
theorem way_stable {S : Tre} {rk : Int → Nat} (hW : Wy S rk) : ∀ (k j : Nat) (n : Int) (x : Nod), fnd S.nodes n = some x → rk n < k → rk n < j → S.wayF k n = S.wayF j n := by
  intro k
  induction k with
  | zero => intro j n x _ h; omega
  | succ k ih =>
    intro j n x hn hk hj
    rcases j with _ | j
    · omega
    by_cases h1 : n = 1 ∨ (S.at_ n).above = 0
    · simp only [Tre.wayF, if_pos h1]
    · simp only [Tre.wayF, if_neg h1]
      have hx : S.at_ n = x := by unfold Tre.at_; rw [hn]; rfl
      simp only [not_or] at h1
      obtain ⟨y, nm, hy, -, hr, -⟩ := hW.rank n x hn h1.1 (by rw [← hx]; exact h1.2)
      rw [hx, ih j _ y hy (by omega) (by omega)]
/-- One step up. -/
theorem way_step {S : Tre} {rk : Int → Nat} (hW : Wy S rk) {n : Int} {x : Nod} (hn : fnd S.nodes n = some x) (h1 : n ≠ 1) (h2 : x.above ≠ 0) : ∃ y nm, fnd S.nodes x.above = some y ∧ y.names.filter (fun p => decide (p.2 = n)) = [(nm, n)] ∧ rk x.above < rk n ∧ nm.length ≤ 24 ∧ S.way n = S.way x.above ++ [nm] := by
  obtain ⟨y, nm, hy, hf, hr, hl⟩ := hW.rank n x hn h1 h2
  refine ⟨y, nm, hy, hf, hr, hl, ?_⟩
  have hx : S.at_ n = x := by unfold Tre.at_; rw [hn]; rfl
  have hya : S.at_ x.above = y := by unfold Tre.at_; rw [hy]; rfl
  have hlow := hW.low n
  show S.wayF (20 + 1) n = S.wayF 21 x.above ++ [nm]
  rw [Tre.wayF, if_neg (by rw [hx]; simp [h1, h2]), hx, hya, Tre.nameOf, hf, way_stable hW 20 21 _ y hy (by omega) (by omega)]
  simp
theorem way_stop {S : Tre} {n : Int} (h : n = 1 ∨ (S.at_ n).above = 0) : S.way n = [] := by
  show S.wayF (20 + 1) n = []
  rw [Tre.wayF, if_pos h]
theorem way_len {S : Tre} {rk : Int → Nat} (hW : Wy S rk) : ∀ (k : Nat) (n : Int) (x : Nod), fnd S.nodes n = some x → rk n ≤ k → (S.way n).length ≤ k := by
  intro k
  induction k with
  | zero =>
    intro n x hn hk
    by_cases h1 : n = 1 ∨ (S.at_ n).above = 0
    · rw [way_stop h1]; simp
    · have hx : S.at_ n = x := by unfold Tre.at_; rw [hn]; rfl
      simp only [not_or] at h1
      obtain ⟨y, nm, hy, -, hr, -⟩ := way_step hW hn h1.1 (by rw [← hx]; exact h1.2)
      omega
  | succ k ih =>
    intro n x hn hk
    by_cases h1 : n = 1 ∨ (S.at_ n).above = 0
    · rw [way_stop h1]; simp
    · have hx : S.at_ n = x := by unfold Tre.at_; rw [hn]; rfl
      simp only [not_or] at h1
      obtain ⟨y, nm, hy, -, hr, -, e⟩ := way_step hW hn h1.1 (by rw [← hx]; exact h1.2)
      have := ih _ y hy (by omega)
      rw [e]; simp; omega
theorem way_short {S : Tre} {rk : Int → Nat} (hW : Wy S rk) : ∀ (k : Nat) (n : Int) (x : Nod), fnd S.nodes n = some x → rk n ≤ k → ∀ p ∈ S.way n, p.length ≤ 24 := by
  intro k
  induction k with
  | zero =>
    intro n x hn hk
    by_cases h1 : n = 1 ∨ (S.at_ n).above = 0
    · rw [way_stop h1]; simp
    · have hx : S.at_ n = x := by unfold Tre.at_; rw [hn]; rfl
      simp only [not_or] at h1
      obtain ⟨y, nm, hy, -, hr, -⟩ := way_step hW hn h1.1 (by rw [← hx]; exact h1.2)
      omega
  | succ k ih =>
    intro n x hn hk
    by_cases h1 : n = 1 ∨ (S.at_ n).above = 0
    · rw [way_stop h1]; simp
    · have hx : S.at_ n = x := by unfold Tre.at_; rw [hn]; rfl
      simp only [not_or] at h1
      obtain ⟨y, nm, hy, -, hr, hl, e⟩ := way_step hW hn h1.1 (by rw [← hx]; exact h1.2)
      rw [e]
      intro p hp
      rcases List.mem_append.1 hp with h | h
      · exact ih _ y hy (by omega) p h
      · rw [List.mem_singleton.1 h]; exact hl
end Go.Proofs.YtonhcefgakmpfaaGreatDoor
/- The tree with some of its nodes taken out. -/
namespace Go.Proofs.YtonhcefgakmpfaaGreatDoor
open Go.RowKit Go.Own
/-- The tree's own cells, its map, its table, and some nodes. -/
def Trg (q m f : Nat) (PB : List Pn) (last : Int) (T : List Tb.Slot) (PC : List Pn) : HP := star (pt q (.cells (treC m f last) 88) :: Mk kInt vPtr m (pnB PB) :: Tab f T :: pnC PC)
section
variable {w : World} {L : List HP} {q m f b : Nat} {P PB PC A B : List Pn} {last n : Int} {T : List Tb.Slot} {S : Tre} {x y : Nod}
theorem trg_iff : Has w (Trg q m f PB last T PC :: L) ↔ Has w (pt q (.cells (treC m f last) 88) :: Mk kInt vPtr m (pnB PB) :: Tab f T :: (pnC PC ++ L)) := by
  unfold Trg
  rw [Has.star_iff]
  rfl
theorem Trg.of (h : Has w (Trb q m f P last T :: L)) : Has w (Trg q m f P last T P :: L) := h
theorem pnC_app : pnC (A ++ B) = pnC A ++ pnC B := List.map_append
theorem Trg.pull (h : Has w (Trg q m f PB last T (A ++ (n, b, x) :: B) :: L)) : Has w (Ndc b x :: Trg q m f PB last T (A ++ B) :: L) := by
  have h1 : Has w (pt q (.cells (treC m f last) 88) :: Mk kInt vPtr m (pnB PB) :: Tab f T :: (pnC (A ++ B) ++ Ndc b x :: L)) := by
    refine (trg_iff.1 h).perm (.cons _ (.cons _ (.cons _ ?_)))
    rw [pnC_app, pnC_app]
    show (pnC A ++ Ndc b x :: pnC B ++ L).Perm (pnC A ++ pnC B ++ Ndc b x :: L)
    rw [List.append_assoc, List.append_assoc]
    refine List.Perm.append_left _ ?_
    exact List.perm_middle.symm
  exact (trg_iff.2 h1).perm (.swap _ _ _)
theorem Trg.push (n : Int) (h : Has w (Ndc b x :: Trg q m f PB last T PC :: L)) : Has w (Trg q m f PB last T ((n, b, x) :: PC) :: L) := by
  have h1 : Has w (Trg q m f PB last T PC :: Ndc b x :: L) := h.perm (.swap _ _ _)
  refine trg_iff.2 ((trg_iff.1 h1).perm (.cons _ (.cons _ (.cons _ ?_))))
  exact List.perm_middle
theorem Trg.close (h : Has w (Trg q m f PB last T PC :: L)) (hp : PC.Perm P) (hb : pnB P = pnB PB) (hn : pnN P = S.nodes) (hl : S.last = last) (ht : S.tab = T) (h16 : T.length = 16) : Has w (Trc q S :: L) := by
  refine trc_iff.2 ⟨m, f, P, ⟨hn, by rw [ht]; exact h16⟩, ?_⟩
  refine trb_iff.2 ?_
  rw [hb, hl, ht]
  refine (trg_iff.1 h).perm (.cons _ (.cons _ (.cons _ ?_)))
  exact List.Perm.append_right _ (hp.map _)
theorem Trg.cells (h : Has w (Trg q m f PB last T PC :: L)) : w.cell? ⟨q, 0, none⟩ = some (.map (some m)) ∧ w.cell? ⟨q, 1, none⟩ = some (.int .i64 last) ∧ w.cell? ⟨q, 2, none⟩ = some (.pointer (some ⟨f, 0, none⟩)) :=
  ⟨(trg_iff.1 h).cells 0, (trg_iff.1 h).cells 1, (trg_iff.1 h).cells 2⟩
theorem Trg.nodup (h : Has w (Trg q m f PB last T PC :: L)) : (PB.map Prod.fst).Nodup := by
  have := Mk.nodup (trg_iff.1 h).p1
  rwa [pnB_keys] at this
theorem Trg.look (h : Has w (Trg q m f PB last T PC :: L)) (hp : (n, b, x) ∈ PB) : (Instr.lookup tNo (.map (some m)) (.int .i64 n) false).run Tryz.prog w = .ok (.pointer (some ⟨b, 0, none⟩)) w := by
  have hk := (trg_iff.1 h).p1
  have hm : (n, some b) ∈ pnB PB := List.mem_map.2 ⟨_, hp, rfl⟩
  have h1 := Mk.look0 hk undNo (Mk.ok hk (List.mem_map_of_mem (f := Prod.fst) hm))
  rw [fnd_mem (Mk.nodup hk) hm] at h1
  exact h1
theorem pnN_put (hd : ((A ++ (n, b, x) :: B).map Prod.fst).Nodup) : pnN (A ++ (n, b, y) :: B) = putA (pnN (A ++ (n, b, x) :: B)) n y := by
  have hm : n ∈ (pnN (A ++ (n, b, x) :: B)).map Prod.fst := by rw [pnN_keys]; simp
  unfold putA
  rw [if_pos hm]
  simp only [List.map_append, List.map_cons] at hd
  rw [List.nodup_append] at hd
  obtain ⟨-, h2, h3⟩ := hd
  have hnA : ∀ p ∈ A, p.1 ≠ n := fun p hp e => h3 p.1 (List.mem_map_of_mem hp) n (by simp) e
  have hnB : ∀ p ∈ B, p.1 ≠ n := fun p hp e => (List.nodup_cons.1 h2).1 (e ▸ List.mem_map_of_mem hp)
  unfold pnN
  simp only [List.map_append, List.map_cons, if_true]
  congr 1
  · rw [List.map_map]
    exact List.map_congr_left fun p hp => by simp [hnA p hp]
  · congr 1
    rw [List.map_map]
    exact List.map_congr_left fun p hp => by simp [hnB p hp]
theorem Trg.perm {PC' : List Pn} (h : Has w (Trg q m f PB last T PC :: L)) (hp : PC.Perm PC') : Has w (Trg q m f PB last T PC' :: L) :=
  trg_iff.2 ((trg_iff.1 h).perm (.cons _ (.cons _ (.cons _ (List.Perm.append_right _ (hp.map _))))))
theorem Trg.pullP {R : List Pn} (h : Has w (Trg q m f PB last T PC :: L)) (hp : PC.Perm ((n, b, x) :: R)) : Has w (Ndc b x :: Trg q m f PB last T R :: L) :=
  Trg.pull (A := []) (Trg.perm h hp)
/-- Two nodes of different numbers. -/
theorem pn_split2 {dir : Int} {d : Nod} (hd : fnd (pnN P) dir = some d) (hn : fnd (pnN P) n = some x) (hne : dir ≠ n) : ∃ b b2 R, P.Perm ((dir, b, d) :: (n, b2, x) :: R) := by
  obtain ⟨A, b, B, rfl⟩ := pn_split hd
  obtain ⟨A2, b2, B2, e⟩ := pn_split hn
  have hm : (n, b2, x) ∈ A ++ B := by
    have h1 : (n, b2, x) ∈ A ++ (dir, b, d) :: B := by rw [e]; simp
    rcases List.mem_append.1 h1 with h | h
    · exact List.mem_append_left _ h
    · rcases List.mem_cons.1 h with h | h
      · simp only [Prod.mk.injEq] at h; exact absurd h.1.symm hne
      · exact List.mem_append_right _ h
  obtain ⟨A3, B3, e3⟩ := List.append_of_mem hm
  refine ⟨b, b2, A3 ++ B3, List.perm_middle.trans (.cons _ ?_)⟩
  rw [e3]
  exact List.perm_middle
def rep2 (dir : Int) (d' : Nod) (n : Int) (x' : Nod) (p : Pn) : Pn := (p.1, p.2.1, if p.1 = n then x' else if p.1 = dir then d' else p.2.2)
theorem rep2_perm {dir : Int} {d d' x' : Nod} {b2 : Nat} {R : List Pn} (hp : P.Perm ((dir, b, d) :: (n, b2, x) :: R)) (hnd : (P.map Prod.fst).Nodup) (hne : dir ≠ n) : (P.map (rep2 dir d' n x')).Perm ((dir, b, d') :: (n, b2, x') :: R) := by
  refine (hp.map _).trans ?_
  have h1 := (hp.map Prod.fst).nodup hnd
  simp only [List.map_cons, List.nodup_cons, List.mem_cons, not_or] at h1
  obtain ⟨⟨-, h2⟩, h3, -⟩ := h1
  have e : R.map (rep2 dir d' n x') = R := by
    conv => rhs; rw [← List.map_id R]
    refine List.map_congr_left fun p hp => ?_
    have e1 : p.1 ≠ n := fun e => h3 (e ▸ List.mem_map_of_mem hp)
    have e2 : p.1 ≠ dir := fun e => h2 (e ▸ List.mem_map_of_mem hp)
    simp [rep2, e1, e2]
  rw [List.map_cons, List.map_cons, e]
  simp [rep2, hne]
theorem rep2_pnB {dir : Int} {d' x' : Nod} : pnB (P.map (rep2 dir d' n x')) = pnB P := by
  unfold pnB
  rw [List.map_map]
  rfl
theorem rep2_pnN {dir : Int} {d' x' : Nod} (hd : dir ∈ (pnN P).map Prod.fst) (hn : n ∈ (pnN P).map Prod.fst) : pnN (P.map (rep2 dir d' n x')) = putA (putA (pnN P) dir d') n x' := by
  have e : putA (pnN P) dir d' = (pnN P).map (fun p => if p.1 = dir then (dir, d') else p) := if_pos hd
  have hk : n ∈ ((pnN P).map (fun p => if p.1 = dir then (dir, d') else p)).map Prod.fst := by rw [putA_keys _ _ _ hd]; exact hn
  rw [e]
  unfold putA
  rw [if_pos hk]
  unfold pnN
  rw [List.map_map, List.map_map, List.map_map]
  refine List.map_congr_left fun p _ => ?_
  simp only [Function.comp_apply, rep2]
  by_cases e1 : p.1 = dir
  · by_cases e2 : p.1 = n
    · simp [e1, ← e2]
    · simp [e1, show ¬ dir = n from fun h => e2 (e1.trans h)]
  · by_cases e2 : p.1 = n
    · have e3 : ¬ n = dir := fun h => e1 (e2.trans h)
      simp [e2, e3]
    · simp [e1, e2]
end
end Go.Proofs.YtonhcefgakmpfaaGreatDoor
/- THE TREE, plain: the operations on open files. No program in sight. -/
namespace Go.Proofs.YtonhcefgakmpfaaGreatDoor
open Go.RowKit Go.Own
def andI (x y : Int) : Int := bits BinOp.and IntKind.i64 x y
/-- An answer, its data and its names as lists. -/
structure Ans where
  code : Int
  n : Int
  kind : Int
  links : Int
  data : List Int
  names : List Str
def ansE (e : Int) : Ans := ⟨e, 0, 0, 0, [], []⟩
/-- Which blocks were written: those from a to b too. -/
def wrSet (ws : List Bool) (a b : Nat) : List Bool := ws.zipIdx.map fun p => p.1 || (decide (a ≤ p.2) && decide (p.2 < b))
def nodWrite (x : Nod) (off : Nat) (ds : List Int) : Nod :=
  let y := nodCut x (max x.data.length (off + ds.length))
  { y with data := y.data.take off ++ ds ++ y.data.drop (off + ds.length), wr := wrSet (y.wr ++ List.replicate (needM (off + ds.length) - y.wr.length) false) (off / 128) (needM (off + ds.length)) }
namespace Tre
variable (S : Tre)
/-- An open file, and what is wrong with it. -/
def file (fd : Int) (wr : Bool) : Tb.Slot × Int :=
  if (Tb.get S.tab fd).2 ≠ 0 then (Tb.none4, 10) else if wr = true ∧ andI (Tb.get S.tab fd).1.flags 32 = 0 then (Tb.none4, 10) else if (S.at_ (Tb.get S.tab fd).1.node).kind = 2 then (Tb.none4, 8) else ((Tb.get S.tab fd).1, 0)
def read (kind fd n off : Int) : Ans × Tre :=
  let g := S.file fd false
  if g.2 ≠ 0 then (ansE g.2, S)
  else if n < 0 ∨ (kind = 5 ∧ off < 0) then (ansE 2, S)
  else
    let o := if kind = 5 then off else g.1.off
    let ds := ((S.at_ g.1.node).data.drop o.toNat).take n.toNat
    (⟨0, 0, 0, 0, ds, []⟩, if kind = 3 then { S with tab := (Tb.mov S.tab fd (o + ds.length)).2 } else S)
def write (kind fd off : Int) (ds : List Int) : Ans × Tre :=
  let g := S.file fd true
  if g.2 ≠ 0 then (ansE g.2, S)
  else if kind = 6 ∧ off < 0 then (ansE 2, S)
  else
    let o := if kind = 6 then off else if andI g.1.flags 8 ≠ 0 then ((S.at_ g.1.node).data.length : Int) else g.1.off
    if o > 20736 - (min ds.length 20736 : Nat) ∨ 20736 < ds.length then (ansE 15, S)
    else if ds.length = 0 then (ansE 0, S)
    else
      let S1 := S.setN g.1.node (nodWrite (S.at_ g.1.node) o.toNat ds)
      (⟨0, ds.length, 0, 0, [], []⟩, if kind = 4 then { S1 with tab := (Tb.mov S1.tab fd (o + ds.length)).2 } else S1)
def seek (fd n off : Int) : Ans × Tre :=
  let g := S.file fd false
  if g.2 ≠ 0 then (ansE g.2, S)
  else
    let from_ : Int := if n = 1 then g.1.off else if n = 2 then ((S.at_ g.1.node).data.length : Int) else 0
    if ¬ (n = 0 ∨ n = 1 ∨ n = 2) then (ansE 2, S)
    else if off < - from_ ∨ off > 1099511627776 - from_ then (ansE 2, S)
    else (⟨0, from_ + off, 0, 0, [], []⟩, { S with tab := (Tb.mov S.tab fd (from_ + off)).2 })
def trunc (fd off : Int) : Ans × Tre :=
  let g := S.file fd true
  if g.2 ≠ 0 then (ansE g.2, S)
  else if off < 0 then (ansE 2, S)
  else if off > 20736 then (ansE 15, S)
  else (ansE 0, S.resize g.1.node off.toNat)
def stat (p : Str) (fo : Bool) : Ans :=
  let r := S.find p fo
  if r.2 ≠ 0 then ansE r.2 else
    ⟨0, (S.at_ r.1.node).data.length + (S.at_ r.1.node).names.length, (S.at_ r.1.node).kind, (S.at_ r.1.node).links, [], []⟩
def mkdir (p : Str) : Ans × Tre :=
  let r := S.fresh p
  if r.2 ≠ 0 then (ansE r.2, S) else (ansE 0, S.make r.1 2 [])
/-- .. behind the finding of a place. -/
def openAt (s : Spt) (flags : Int) : Ans × Tre :=
  if s.node ≠ 0 ∧ (S.at_ s.node).kind = 2 ∧ andI flags 32 ≠ 0 then (ansE 8, S)
  else if 16 ≤ (Tb.lst S.tab 16).length then (ansE 14, S)
  else
    let S1 := if s.node = 0 then S.make s 1 [] else S
    let n := if s.node = 0 then S.last + 1 else s.node
    let S2 := if andI flags 4 ≠ 0 then S1.resize n 0 else S1
    let r := Tb.opn S2.tab n flags
    (⟨r.1.2, r.1.1, 0, 0, [], []⟩, { S2 with tab := r.2 })
def openFd (p : Str) (flags : Int) : Ans × Tre :=
  if flags < 0 ∨ 64 ≤ flags ∨ (andI flags 12 ≠ 0 ∧ andI flags 32 = 0) then (ansE 2, S)
  else if andI flags 1 ≠ 0 then
    if (S.place p).2 ≠ 0 then (ansE (S.place p).2, S)
    else if (S.place p).1.node ≠ 0 ∧ andI flags 2 ≠ 0 then (ansE 6, S)
    else if (S.place p).1.node ≠ 0 ∨ (S.place p).1.dir = 0 then
      if (S.find p true).2 ≠ 0 then (ansE (S.find p true).2, S) else S.openAt (S.find p true).1 flags
    else S.openAt (S.place p).1 flags
  else if (S.find p true).2 ≠ 0 then (ansE (S.find p true).2, S) else S.openAt (S.find p true).1 flags
end Tre
end Go.Proofs.YtonhcefgakmpfaaGreatDoor
/- THE TREE, plain: names taken away, links, renaming, lists. No program in sight. -/
namespace Go.Proofs.YtonhcefgakmpfaaGreatDoor
open Go.RowKit Go.Own
namespace Tre
variable (S : Tre)
/-- A node is given up that has no name, and is not open. -/
def forget (n : Int) : Tre := match fnd S.nodes n with
  | none => S
  | some x => if x.links = 0 ∧ n ≠ 1 ∧ Tb.holds S.tab n = false then { S with nodes := delA S.nodes n } else S
def dirTake (d : Nod) (name : Str) : Nod := { d with names := delA d.names name }
def nodTake (x : Nod) : Nod := { x with links := x.links - 1, above := if x.kind = 2 then 0 else x.above }
/-- The node that a name of a directory is of. -/
def kid (dir : Int) (name : Str) : Int := (fnd (S.at_ dir).names name).getD 0
def take (dir : Int) (name : Str) : Tre := ((S.setN dir (dirTake (S.at_ dir) name)).setN (S.kid dir name) (nodTake (S.at_ (S.kid dir name)))).forget (S.kid dir name)
def remove (kind : Int) (p : Str) : Ans × Tre :=
  if (S.place p).2 ≠ 0 then (ansE (S.place p).2, S)
  else if (S.place p).1.node = 0 then (ansE 5, S)
  else if kind = 10 ∧ (S.at_ (S.place p).1.node).kind ≠ 2 then (ansE 7, S)
  else if kind = 10 ∧ 0 < (S.at_ (S.place p).1.node).names.length then (ansE 9, S)
  else if kind = 11 ∧ (S.at_ (S.place p).1.node).kind = 2 then (ansE 8, S)
  else (ansE 0, S.take (S.place p).1.dir (S.place p).1.name)
def link (p q : Str) : Ans × Tre :=
  if (S.find p false).2 ≠ 0 then (ansE (S.find p false).2, S)
  else if (S.at_ (S.find p false).1.node).kind = 2 then (ansE 16, S)
  else if (S.fresh q).2 ≠ 0 then (ansE (S.fresh q).2, S)
  else (ansE 0, S.add (S.fresh q).1.dir (S.fresh q).1.name (S.find p false).1.node)
def symlink (p q : Str) : Ans × Tre :=
  if (targetM p).2.2 ≠ 0 then (ansE (targetM p).2.2, S)
  else if (S.fresh q).2 ≠ 0 then (ansE (S.fresh q).2, S)
  else (ansE 0, S.make (S.fresh q).1 3 p)
def close (fd : Int) : Ans × Tre :=
  if (Tb.cls S.tab fd).1.2 ≠ 0 then (ansE 10, S)
  else (ansE 0, ({ S with tab := (Tb.cls S.tab fd).2 } : Tre).forget (Tb.cls S.tab fd).1.1)
/-- Does a directory lie within another one, or is it that? -/
def withinF : Nat → Int → Int → Bool
  | 0, n, d => n == d
  | k + 1, n, d => if n ≠ d ∧ (S.at_ n).above ≠ 0 then withinF k (S.at_ n).above d else n == d
def within (n d : Int) : Bool := S.withinF 21 n d
/-- Would a path of a directory, or of what lies in it, be too long at a place? -/
def deepF : Nat → Int → List Str → Bool
  | 0, _, parts => longM parts
  | k + 1, n, parts => longM parts || (S.at_ n).names.any fun e => deepF k e.2 (parts ++ [e.1])
def deep (n : Int) (parts : List Str) : Bool := S.deepF 22 n parts
def mv1 (s t : Spt) : Tre := ((S.setN s.dir (dirTake (S.at_ s.dir) s.name)).setN s.node { S.at_ s.node with links := (S.at_ s.node).links - 1 }).add t.dir t.name s.node
def rename (p q : Str) : Ans × Tre :=
  if (lastM p).2.2 ≠ 0 then (ansE (lastM p).2.2, S)
  else if (lastM q).2.2 ≠ 0 then (ansE (lastM q).2.2, S)
  else if (S.place p).2 ≠ 0 then (ansE (S.place p).2, S)
  else if (S.place p).1.node = 0 then (ansE 5, S)
  else if (S.place q).2 ≠ 0 then (ansE (S.place q).2, S)
  else
    let s := (S.place p).1
    let t := (S.place q).1
    let x := S.at_ s.node
    if x.kind = 2 ∧ S.within t.dir s.node = true then (ansE 2, S)
    else if x.kind = 2 ∧ S.deep s.node (S.way t.dir ++ [t.name]) = true then (ansE 11, S)
    else if t.node = s.node then (ansE 0, S)
    else if t.node ≠ 0 ∧ x.kind = 2 ∧ (S.at_ t.node).kind ≠ 2 then (ansE 7, S)
    else if t.node ≠ 0 ∧ x.kind = 2 ∧ 0 < (S.at_ t.node).names.length then (ansE 9, S)
    else if t.node ≠ 0 ∧ x.kind ≠ 2 ∧ (S.at_ t.node).kind = 2 then (ansE 8, S)
    else (ansE 0, (if t.node ≠ 0 then S.take t.dir t.name else S).mv1 s t)
def lasts (fd : Int) : Ans := if (Tb.get S.tab fd).2 ≠ 0 then ansE 10 else ansE 0
end Tre
end Go.Proofs.YtonhcefgakmpfaaGreatDoor
/- A BLOCK that is made, loaded, and stored into as a whole. No program in sight. -/
namespace Go.Own
open Go.RowKit
section
variable {P : Program} {ops : Array Oper} {rest : List Oper} {o : Oper} {a : Act} {Q : Exit → Act → World → Prop} {w : World} {l : List HP}
theorem wpList_allocAs (hgd : o.guard = none) (t : TypeId) (ho : o.op = .alloc t) (C : Array Value) (hz : ∀ w, (zeroValue t).run P w = .ok (.agg C) w)
    (h : wpList P ops Q rest (a.put o.dst (.pointer (some ⟨w.heap.size, 0, none⟩))) (w.alloc (.cells C t))) : wpList P ops Q (o :: rest) a w := by
  refine wpList_plain hgd fun K hK => ?_
  unfold Oper.wp execOp
  simp only [ho, Instr.alloc, newVar, newRow, Value.cells, Sem.run_bind, Sem.run_pure, Result.andThen_ok, hz]
  exact hK _ _ h
theorem wpList_storeAt (hgd : o.guard = none) (t : TypeId) (x y : Operand) (ho : o.op = .store t x y) (b off : Nat) (C D : Array Value) (T : TypeId) (hO : Has w (pt b (.cells C T) :: l)) (hx : a.eval x = .pointer (some ⟨b, off, none⟩)) (hy : a.eval y = .agg D)
    (hs : ∀ w, (sizeOf t).run P w = .ok D.size w) (h1 : ∀ v ∈ D.toList, v.oneCell' = true) (hfit : off + D.size ≤ C.size)
    (h : ∀ w', Has w' (pt b (.cells (C.toList.take off ++ D.toList ++ C.toList.drop (off + D.size)).toArray T) :: l) → Keep w w' → wpList P ops Q rest (a.put o.dst undef) w') : wpList P ops Q (o :: rest) a w := by
  refine wpList_plain hgd fun K hK => ?_
  have hst := run_storeCells_at P b off T D.toList 0 C w hO.lookup (by simpa using hfit) h1
  simp only [Nat.add_zero, Array.length_toList] at hst
  unfold Oper.wp execOp
  simp only [ho, Instr.storeAt, Instr.sureAddr, storeVar, Value.cells, hx, hy, Sem.run_bind, Sem.run_pure, Result.andThen_ok, hs, ne_eq, not_true, if_false, hst]
  exact hK _ _ (h _ (hO.turn (fun k _ hk => setRow_other w b k _ hk) (setRow_heap w b C _ T _ hO.lookup)) ⟨rfl, rfl, rfl, by simp⟩)
end
end Go.Own
/- THE WALK of tree.walk. -/
namespace Go.Proofs.YtonhcefgakmpfaaGreatDoor
open Go.RowKit Go.Own
def spC (s : Spt) : Array Value := #[.int .i64 s.node, .int .i64 s.dir, sV s.name]
def spV (s : Spt) : Value := .agg (spC s)
def slLen : Value → Nat
  | .slice _ n _ => n
  | _ => 0
/-- A whole spot is stored, cell by cell. -/
theorem _root_.Go.Own.Has.spt {w : World} {l : List HP} {b : Nat} {s0 : Spt} (h : Has w (pt b (.cells (spC s0) 93) :: l)) (s : Spt) : Has (((w.setCell ⟨b, 0, none⟩ (.int .i64 s.node)).setCell ⟨b, 1, none⟩ (.int .i64 s.dir)).setCell ⟨b, 2, none⟩ (sV s.name)) (pt b (.cells (spC s) 93) :: l) :=
  ((h.set 0 (.int .i64 s.node)).set 1 (.int .i64 s.dir)).set 2 (sV s.name)
theorem _root_.Go.Own.Keep.spt {w0 w : World} (h : Keep w0 w) (b : Nat) (x y z : Value) : Keep w0 (((w.setCell ⟨b, 0, none⟩ x).setCell ⟨b, 1, none⟩ y).setCell ⟨b, 2, none⟩ z) := ((h.set _ _).set _ _).set _ _
/-- A spot and a code are told. -/
theorem spt_result {fn : Func} {p p2 : Tmp} {tmps : Array Value} {w : World} {L : List HP} {r : Nat} {e : Value} (s : Spt) (h : fn.results = #[.cell p 93, .tmp p2]) (ht : tmps.getD p undef = .pointer (some ⟨r, 0, none⟩)) (he : tmps.getD p2 undef = e) (hO : Has w (pt r (.cells (spC s) 93) :: L)) :
    (results fn tmps).run Tryz.prog w = .ok (.tuple #[spV s, e]) w := by
  have h0 : w.cell? ⟨r, 0, none⟩ = some (.int .i64 s.node) := hO.cells 0
  have h1 : w.cell? ⟨r, 1, none⟩ = some (.int .i64 s.dir) := hO.cells 1
  have h2 : w.cell? ⟨r, 2, none⟩ = some (sV s.name) := hO.cells 2
  unfold results spV spC
  rw [h]
  have ht2 : tmps[p]?.getD undef = .pointer (some ⟨r, 0, none⟩) := by rw [← ht]; simp
  have he2 : tmps[p2]?.getD undef = e := by rw [← he]; simp
  clear hO h ht he
  go_simp
set_option maxRecDepth 100000 in
set_option maxHeartbeats 4000000 in
theorem tWalk (q : Nat) (S : Tre) (at0 : Int) (v : Value) (parts : List Str) (fo : Bool) (mx : Int) (w : World) (L : List HP) (hW : Wk S) (hM : MxL mx L) (hat : ∃ x, fnd S.nodes at0 = some x) (hp : parts.length ≤ 800) (h24 : ∀ p ∈ parts, p.length ≤ 24) (hO : Has w (VwS v parts :: Trc q S :: L)) :
    Calls Tryz.prog 153 #[.pointer (some ⟨q, 0, none⟩), .int .i64 at0, v, .bool fo] w fun e w' => e = .returned (.tuple #[spV (S.walk ⟨at0, 0, []⟩ 0 parts fo).1, .int .i64 (S.walk ⟨at0, 0, []⟩ 0 parts fo).2]) ∧ Has w' (Trc q S :: L) ∧ Keep w w' := by
  obtain ⟨pv, cv, rfl, -⟩ := (VwS.rd hO).form
  have HW := hid hW
  have HM := hid hM
  have HPn := hid hp
  have H24 := hid h24
  have h2 : Has w (Trc q S :: VwS (.slice pv parts.length cv) parts :: L) := hO.re 2 [1, 0]
  obtain ⟨m, f, P, ⟨hP, hT⟩, h⟩ := trc_iff.1 h2
  have HPT := hid (And.intro hP hT)
  have HO := hid (show Has w (VwS (.slice pv parts.length cv) parts :: Trb q m f P S.last S.tab :: L) from h.re 2 [1, 0])
  generalize hR : S.walk ⟨at0, 0, []⟩ 0 parts fo = R
  have HR := hid hR
  clear hW hM hp h24 hO h2 h hP hT hR
  go_enter Tryz.func153, Tryz.ntmps153
  go_wp2_with fail
  go_step3
  go_wp2_with fail
  go_step3
  go_wp2_with fail
  go_loopw [2, 11] (fun a i w' => ∃ (s : Spt) (hops : Nat) (ps : List Str), i = .int .i64 hops ∧ hops ≤ 8 ∧ ps.length ≤ 800 + 20 * hops ∧ (∃ x, fnd S.nodes s.node = some x) ∧ slLen a = ps.length ∧ Hid (∀ p ∈ ps, p.length ≤ 24) ∧ Hid (S.walk s hops ps fo = R) ∧ Hid (Has w' (VwS a ps :: pt (w.heap.size + 1) (.cells (spC s) 93) :: pt w.heap.size (.cells (spC spt0) 93) :: Trb q m f P S.last S.tab :: L)) ∧ Hid (Keep w w')) (fun a i _ => (9 - (intOf i).toNat) * 21 + slLen a)
  case atStart =>
    refine ⟨⟨at0, 0, []⟩, 0, parts, rfl, by omega, HPn.out, hat, rfl, H24, HR, hid ?_, hid ?_⟩
    · have h1 := (HO.out.alloc (.cells (spC spt0) 93)).alloc (.cells (spC ⟨at0, 0, []⟩) 93)
      have e : (w.alloc (.cells (spC spt0) 93)).heap.size = w.heap.size + 1 := Array.size_push _
      rw [e] at h1
      exact h1.re 3 [2, 0, 1]
    · exact ((Keep.refl w).alloc _).alloc _
  case round =>
    obtain ⟨s, hops, ps, rfl, hh, hpl, ⟨x, hx⟩, hsl, H24, HR, HO, HK⟩ := hrel
    have hne : w.heap.size + 1 ≠ w.heap.size := by omega
    generalize w.heap.size = g8 at *
    generalize g8 + 1 = g10 at *
    have hc80 : wr.cell? ⟨g8, 0, none⟩ = some (.int .i64 0) := HO.out.p2.cells 0
    have hc81 : wr.cell? ⟨g8, 1, none⟩ = some (.int .i64 0) := HO.out.p2.cells 1
    have hc82 : wr.cell? ⟨g8, 2, none⟩ = some (sV []) := HO.out.p2.cells 2
    have hcs0 : wr.cell? ⟨g10, 0, none⟩ = some (.int .i64 s.node) := HO.out.p1.cells 0
    have hcs1 : wr.cell? ⟨g10, 1, none⟩ = some (.int .i64 s.dir) := HO.out.p1.cells 1
    have hcs2 : wr.cell? ⟨g10, 2, none⟩ = some (sV s.name) := HO.out.p1.cells 2
    have ht0 := HO.out.p1.thaw 0
    have ht1 := HO.out.p1.thaw 1
    have ht2 := HO.out.p1.thaw 2
    have ht80 := HO.out.p2.thaw 0
    have ht81 := HO.out.p2.thaw 1
    have ht82 := HO.out.p2.thaw 2
    rcases ps with _ | ⟨p, ps⟩
    · have HRR := hid (show R = (s, 0) from by rw [← HR.out, Tre.walk])
      obtain ⟨pp, pc, rfl, -⟩ := (VwS.rd HO.out).form
      go_wp2_with fail
      try rw [Exit.noGoto_ret]
      have h1 := (show Has wr (pt g8 (.cells (spC spt0) 93) :: Trb q m f P S.last S.tab :: L) from HO.out.re 4 [2, 3]).spt s
      refine bodyPost_ret (spt_result s rfl rfl rfl h1) rfl ?_
      rw [HRR.out]
      exact ⟨rfl, trc_iff.2 ⟨m, f, P, HPT.out, h1.drop⟩, HK.out.spt _ _ _ _⟩
    · obtain ⟨pp, pc, rfl, -, -, hcs⟩ := (VwS.rd HO.out.drew).form
      obtain ⟨gv, ov, rfl, hcs2⟩ := hcs (by simp)
      have hcv : wr.drew.cell? ⟨gv, ov, none⟩ = some (sV p) := hcs2 0 (by simp)
      have HOt := hid (show Has wr (Trb q m f P S.last S.tab :: VwS (.slice (some ⟨gv, ov, none⟩) (p :: ps).length pc) (p :: ps) :: pt g10 (.cells (spC s) 93) :: pt g8 (.cells (spC spt0) 93) :: L) from HO.out.re 4 [3, 0, 1, 2])
      have hx' := hx
      rw [← HPT.out.1] at hx'
      obtain ⟨b, hb, hl⟩ := Trb.look HOt.out.drew hx'
      obtain ⟨dv, wv, nm, hnm, hc, -, hlk⟩ := Trb.node2 HOt.out.drew hb
      have hcb0 : wr.drew.cell? ⟨b, 0, none⟩ = some (.int .i64 x.kind) := hc 0
      have hcb3 : wr.drew.cell? ⟨b, 3, none⟩ = some (.map nm) := hc 3
      have hcq := (Trb.cells HOt.out.drew).1
      have hln : ((p :: ps).length : Int) = (ps.length : Int) + 1 := by simp
      have hln0 : (0 : Int) ≤ (ps.length : Int) := by omega
      have HOd := hid HO.out.drew
      have HKd := hid HK.out.drew
      clear hcs hcs2 hc
      go_upto_region 4 with fail
      refine region_text (fun w' => w'.cell? ⟨gv, ov, none⟩ = some (sV p) ∧ w'.cell? ⟨q, 0, none⟩ = some (.map (some m)) ∧ w'.cell? ⟨g10, 0, none⟩ = some (.int .i64 s.node) ∧ (Instr.lookup tNo (.map (some m)) (.int .i64 s.node) false).run Tryz.prog w' = .ok (.pointer (some ⟨b, 0, none⟩)) w') (by kernel_rfl) (by kernel_rfl) ⟨hcv, hcq, hcs0, hl⟩ ?_
      repeat (first
        | (refine wpL_read (by rfl) (by rfl) ?_ ?_ ?_; rotate_left; (rintro w ⟨z0, z1, z2, z3⟩; go_simp; with_reducible rfl); simp only [Act.put, List.setIfInBounds_toArray, List.set_cons_zero, List.set_cons_succ]) | (refine wpL_skip (by rfl) ?_; simp only [Act.put, List.setIfInBounds_toArray, List.set_cons_zero, List.set_cons_succ]))
      refine wpL_nil ?_
      go_upto_region 5 with fail
      go_cut [2] (fun a wx => ∃ (p2 : Option Addr) (c2 : Nat), a = .slice p2 ps.length c2 ∧ wx = wr.drew ∧ Hid (Has wx (VwS (.slice p2 ps.length c2) ps :: Trb q m f P S.last S.tab :: pt g10 (.cells (spC s) 93) :: pt g8 (.cells (spC spt0) 93) :: L)))
      case first =>
        have hvt := hid ((VwS.tail HOd.out).re 4 [0, 3, 1, 2])
        by_cases hpc : pc = 1
        · subst hpc
          go_wp2_with fail
          all_goals go_meet
          all_goals refine ⟨_, _, rfl, rfl, hid ?_⟩
          all_goals exact hvt.out
        · go_wp2_with fail
          all_goals go_meet
          all_goals refine ⟨_, _, rfl, rfl, hid ?_⟩
          all_goals have e0 := hvt.out
          all_goals rw [if_neg hpc] at e0
          all_goals exact e0
      case rest =>
        obtain ⟨p2, c2, rfl, rfl, HOv⟩ := hcut
        have hps0 : (0 : Int) ≤ (ps.length : Int) := by omega
        clear hcs0 hcs1 hcs2 ht0 ht1 ht2 hc80 hc81 hc82 ht80 ht81 ht82 hcv
        have hc80 : wr.drew.cell? ⟨g8, 0, none⟩ = some (.int .i64 0) := HOv.out.p3.cells 0
        have hc81 : wr.drew.cell? ⟨g8, 1, none⟩ = some (.int .i64 0) := HOv.out.p3.cells 1
        have hc82 : wr.drew.cell? ⟨g8, 2, none⟩ = some (sV []) := HOv.out.p3.cells 2
        have hcs0 : wr.drew.cell? ⟨g10, 0, none⟩ = some (.int .i64 s.node) := HOv.out.p2.cells 0
        have hcs1 : wr.drew.cell? ⟨g10, 1, none⟩ = some (.int .i64 s.dir) := HOv.out.p2.cells 1
        have hcs2 : wr.drew.cell? ⟨g10, 2, none⟩ = some (sV s.name) := HOv.out.p2.cells 2
        have ht0 := HOv.out.p2.thaw 0
        have ht1 := HOv.out.p2.thaw 1
        have ht2 := HOv.out.p2.thaw 2
        have ht80 := HOv.out.p3.thaw 0
        have ht81 := HOv.out.p3.thaw 1
        have ht82 := HOv.out.p3.thaw 2
        have hat : S.at_ s.node = x := by unfold Tre.at_; rw [hx]; rfl
        generalize wr.drew = w1 at *
        have H24t := hid (fun (p' : Str) (hp' : p' ∈ ps) => H24.out p' (List.mem_cons_of_mem _ hp'))
        have h24p := H24.out p (List.mem_cons_self ..)
        have HUX := hid (show ∃ y, fnd S.nodes (S.up s.node) = some y from by
          unfold Tre.up
          rw [hat]
          by_cases h0 : x.above = 0
          · rw [if_pos h0]; exact ⟨x, hx⟩
          · rw [if_neg h0]; exact HW.out.above _ _ hx h0)
        by_cases hk : x.kind = 2
        · obtain ⟨mm, rfl⟩ := hnm hk
          by_cases hpp : p = [46, 46]
          · subst hpp
            have HR2 := hid (show S.walk ⟨S.up s.node, 0, []⟩ hops ps fo = R from by rw [← HR.out, Tre.walk, if_neg (by rw [hat, hk]; simp), if_pos rfl])
            have HA := hid (tAbove q S s.node x w1 (VwS (.slice p2 ps.length c2) ps :: pt g10 (.cells (spC s) 93) :: pt g8 (.cells (spC spt0) 93) :: L) hx (trc_iff.2 ⟨m, f, P, HPT.out, HOv.out.re 4 [1, 0, 2, 3]⟩))
            clear hlk hnm
            go_wp2_with fail
            refine (HA.out).mono ?_
            rintro e w' ⟨rfl, rfl⟩
            try dsimp only
            go_wp2_with fail
            have h1 := (show Has w1 (pt g10 (.cells (spC s) 93) :: VwS (.slice p2 ps.length c2) ps :: pt g8 (.cells (spC spt0) 93) :: Trb q m f P S.last S.tab :: L) from HOv.out.re 4 [2, 0, 3, 1]).spt ⟨S.up s.node, 0, []⟩
            refine ⟨⟨⟨S.up s.node, 0, []⟩, hops, ps, rfl, hh, by simp only [List.length_cons] at hpl; omega, HUX.out, rfl, H24t, HR2, hid (h1.re 4 [1, 0, 2, 3]), hid (HKd.out.spt _ _ _ _)⟩, ?_⟩
            simp [intOf, slLen]
          · have hpe : (p == [46, 46]) = false := by simpa using hpp
            have hlk1 := (hlk mm rfl p (by omega)).1
            clear hlk
            rcases hf : fnd x.names p with _ | c
            · have HRR := hid (show R = (spt0, 5) from by rw [← HR.out, Tre.walk, if_neg (by rw [hat, hk]; simp), if_neg hpp, hat, hf])
              rw [hf] at hlk1
              go_wp2_with fail
              try rw [Exit.noGoto_ret]
              have h1 := (show Has w1 (pt g8 (.cells (spC spt0) 93) :: Trb q m f P S.last S.tab :: L) from HOv.out.re 4 [3, 1]).spt spt0
              refine bodyPost_ret (spt_result spt0 rfl rfl rfl h1) rfl ?_
              rw [HRR.out]
              exact ⟨rfl, trc_iff.2 ⟨m, f, P, HPT.out, h1.drop⟩, HKd.out.spt _ _ _ _⟩
            · rw [hf] at hlk1
              have hlk2 : (Instr.lookup tNm (.map (some mm)) (sV p) true).run Tryz.prog w1 = .ok (.tuple #[.int .i64 c, .bool true]) w1 := hlk1
              clear hlk1
              obtain ⟨y, hy⟩ := HW.out.child _ _ hx _ _ hf
              have hy' := hy
              rw [← HPT.out.1] at hy'
              obtain ⟨b2, hb2, hl2⟩ := Trb.look HOv.out.drop hy'
              obtain ⟨dv2, wv2, nm2, -, hcy, hrd, -⟩ := Trb.node2 HOv.out.drop hb2
              have hcy0 : w1.cell? ⟨b2, 0, none⟩ = some (.int .i64 y.kind) := hcy 0
              have hcy1 : w1.cell? ⟨b2, 1, none⟩ = some dv2 := hcy 1
              have hay : S.at_ c = y := by unfold Tre.at_; rw [hy]; rfl
              clear hcy
              go_upto_region 14 with fail
              go_cut [82] (fun a wx => a = .bool (decide (y.kind = 3 ∧ (ps ≠ [] ∨ fo = true))) ∧ wx = w1)
              case first =>
                by_cases hk3 : y.kind = 3
                · by_cases hpl0 : (0 : Int) < (ps.length : Int)
                  · have HB := hid (show decide (y.kind = 3 ∧ (ps ≠ [] ∨ fo = true)) = true from decide_eq_true ⟨hk3, .inl (by rintro rfl; simp at hpl0)⟩)
                    have hpn : ¬ ps = [] := by rintro rfl; simp at hpl0
                    have hpl1 : 0 < ps.length := by omega
                    go_wp2_with fail
                    go_meet
                    exact ⟨by rw [HB.out], rfl⟩
                  · have hnil : ps = [] := by
                      have : ps.length = 0 := by omega
                      simpa using this
                    have HB := hid (show decide (y.kind = 3 ∧ (ps ≠ [] ∨ fo = true)) = fo from by subst hnil; cases fo <;> simp [hk3])
                    subst hnil
                    go_wp2_with fail
                    go_meet
                    exact ⟨by rw [HB.out], rfl⟩
                · have HB := hid (show decide (y.kind = 3 ∧ (ps ≠ [] ∨ fo = true)) = false from decide_eq_false fun h => hk3 h.1)
                  go_wp2_with fail
                  go_meet
                  exact ⟨by rw [HB.out], rfl⟩
              case rest =>
                obtain ⟨rfl, hwx⟩ := hcut
                have hwx2 := hwx.symm
                subst hwx2
                by_cases hlink : y.kind = 3 ∧ (ps ≠ [] ∨ fo = true)
                · rw [decide_eq_true hlink]
                  have hsl8 : (strOf y.data).length ≤ 100000 := by unfold strOf; rw [List.length_map]; exact HW.out.data _ _ hy hlink.1
                  have hcvt := strOf_conv hrd
                  have hml := Tre.more_len (strOf y.data)
                  have hms := more_short (strOf y.data)
                  have hwk : S.walk s hops (p :: ps) fo = if h : 8 ≤ hops then (spt0, 12) else S.walk ⟨if (targetM (strOf y.data)).2.1 = true then 1 else s.node, 0, []⟩ (hops + 1) ((targetM (strOf y.data)).1 ++ ps) fo := by
                    rw [Tre.walk, if_neg (by rw [hat, hk]; simp), if_neg hpp, hat, hf]
                    show (if (S.at_ c).kind = 3 ∧ (ps ≠ [] ∨ fo = true) then _ else _) = _
                    rw [if_pos (by rw [hay]; exact hlink), hay]
                  rw [hwk] at HR
                  have HPT3 := hid (fun (w : World) (L' : List HP) (hM : MxL mx L') (hO : Has w L') => pTarget (strOf y.data) mx w L' hM hsl8 hO)
                  generalize hTM : targetM (strOf y.data) = TM at *
                  obtain ⟨more, whole, e3⟩ := TM
                  dsimp only at HR HPT3 hml hms
                  generalize strOf y.data = str at *
                  clear hwk hTM hsl8 hlink hcy0
                  by_cases hh8 : hops = 8
                  · have HRR := hid (show R = (spt0, 12) from by rw [← HR.out, dif_pos (by omega)])
                    subst hh8
                    rw [show ((8 : Nat) : Int) = 8 from rfl]
                    go_wp2_with fail
                    try rw [Exit.noGoto_ret]
                    have h1 := (show Has w1 (pt g8 (.cells (spC spt0) 93) :: Trb q m f P S.last S.tab :: L) from HOv.out.re 4 [3, 1]).spt spt0
                    refine bodyPost_ret (spt_result spt0 rfl rfl rfl h1) rfl ?_
                    rw [HRR.out]
                    exact ⟨rfl, trc_iff.2 ⟨m, f, P, HPT.out, h1.drop⟩, HKd.out.spt _ _ _ _⟩
                  · have hh7 : (hops : Int) < 8 := by omega
                    have hh0 : (0 : Int) ≤ (hops : Int) := by omega
                    have HR3 := hid (show S.walk ⟨if whole = true then 1 else s.node, 0, []⟩ (hops + 1) (more ++ ps) fo = R from by rw [← HR.out, dif_neg (by omega)])
                    have HNX := hid (show ∃ y, fnd S.nodes (if whole = true then 1 else s.node) = some y from by cases whole <;> first | exact ⟨x, hx⟩ | exact HW.out.root)
                    have HLN := hid (show more.length + ps.length ≤ 1000 ∧ (more ++ ps).length ≤ 800 + 20 * (hops + 1) ∧ hops + 1 ≤ 8 ∧ (9 - (hops + 1)) * 21 + (more ++ ps).length < (9 - hops) * 21 + (ps.length + 1) from by simp only [List.length_cons, List.length_append] at *; omega)
                    have H24n := hid (show ∀ p' ∈ more ++ ps, p'.length ≤ 24 from fun p' hp' => (List.mem_append.1 hp').elim (hms p') (H24t.out p'))
                    obtain ⟨pd, cd, rfl, -⟩ := hrd.form
                    clear hrd hml hms hh8 HR
                    go_wp2_with fail
                    refine (HPT3.out w1 _ ((((HM.out.cons _).cons _).cons _).cons _) HOv.out).mono ?_
                    rintro e w2 ⟨v2, rfl, hO2, hK2⟩
                    have HO2 := hid hO2
                    have HK2 := hid ((HKd.out).trans hK2)
                    clear hO2 hK2
                    try dsimp only
                    obtain ⟨pv2, cv2, rfl, -⟩ := (Strs.rd HO2.out).form
                    go_wp2_with fail
                    refine (concatS _ _ _ more ps _ _ (HO2.out.alloc _) (fun w' h => Strs.rd h) (fun w' h => VwS.rd h.drop) HLN.out.1).mono ?_
                    rintro e w3 ⟨v3, rfl, hO3, hK3⟩
                    have HO3 := hid hO3
                    have HK3 := hid ((HK2.out.alloc _).trans hK3)
                    clear hO3 hK3
                    try dsimp only
                    generalize w2.heap.size = gc at *
                    obtain ⟨pv3, cv3, rfl, -⟩ := (Strs.rd HO3.out).form
                    have HOn := hid (show Has w3 (pt g10 (.cells (spC s) 93) :: VwS (.slice pv3 (more ++ ps).length cv3) (more ++ ps) :: pt g8 (.cells (spC spt0) 93) :: Trb q m f P S.last S.tab :: L) from (VwS.of (HO3.out.re 7 [0, 5, 6, 4])).re 4 [1, 0, 2, 3])
                    clear hcs0 hcs1 hcs2 ht0 ht1 ht2 hc80 hc81 hc82 ht80 ht81 ht82
                    have hcs0 : w3.cell? ⟨g10, 0, none⟩ = some (.int .i64 s.node) := HOn.out.cells 0
                    have hcs1 : w3.cell? ⟨g10, 1, none⟩ = some (.int .i64 s.dir) := HOn.out.cells 1
                    have hcs2 : w3.cell? ⟨g10, 2, none⟩ = some (sV s.name) := HOn.out.cells 2
                    have ht0 := HOn.out.thaw 0
                    have ht1 := HOn.out.thaw 1
                    have ht2 := HOn.out.thaw 2
                    cases whole
                    · go_wp2_with fail
                      have h1 := HOn.out.spt ⟨s.node, 0, []⟩
                      refine ⟨⟨⟨s.node, 0, []⟩, hops + 1, more ++ ps, by go_num, HLN.out.2.2.1, HLN.out.2.1, HNX.out, rfl, H24n, HR3, hid (h1.re 4 [1, 0, 2, 3]), hid (HK3.out.spt _ _ _ _)⟩, ?_⟩
                      have := HLN.out.2.2.2
                      rw [List.length_append] at this
                      simp [intOf, slLen]
                      omega
                    · go_wp2_with fail
                      have h1 := (HOn.out.spt ⟨s.node, 0, []⟩).spt ⟨1, 0, []⟩
                      refine ⟨⟨⟨1, 0, []⟩, hops + 1, more ++ ps, by go_num, HLN.out.2.2.1, HLN.out.2.1, HNX.out, rfl, H24n, HR3, hid (h1.re 4 [1, 0, 2, 3]), hid ((HK3.out.spt _ _ _ _).spt _ _ _ _)⟩, ?_⟩
                      have := HLN.out.2.2.2
                      rw [List.length_append] at this
                      simp [intOf, slLen]
                      omega
                · rw [decide_eq_false hlink]
                  have HR2 := hid (show S.walk ⟨c, s.node, p⟩ hops ps fo = R from by
                    rw [← HR.out, Tre.walk, if_neg (by rw [hat, hk]; simp), if_neg hpp, hat, hf]
                    show _ = if (S.at_ c).kind = 3 ∧ (ps ≠ [] ∨ fo = true) then _ else _
                    rw [if_neg (by rw [hay]; exact hlink)])
                  have HYX := hid (show ∃ y, fnd S.nodes c = some y from ⟨y, hy⟩)
                  clear hl2 hrd hcy0 hcy1 hlink
                  go_wp2_with fail
                  have h1 := (show Has w1 (pt g10 (.cells (spC s) 93) :: VwS (.slice p2 ps.length c2) ps :: pt g8 (.cells (spC spt0) 93) :: Trb q m f P S.last S.tab :: L) from HOv.out.re 4 [2, 0, 3, 1]).spt ⟨c, s.node, p⟩
                  refine ⟨⟨⟨c, s.node, p⟩, hops, ps, rfl, hh, by simp only [List.length_cons] at hpl; omega, HYX.out, rfl, H24t, HR2, hid (h1.re 4 [1, 0, 2, 3]), hid (HKd.out.spt _ _ _ _)⟩, ?_⟩
                  simp [intOf, slLen]
        · have HRR := hid (show R = (spt0, 7) from by rw [← HR.out, Tre.walk, if_pos (by rw [hat]; exact hk)])
          go_wp2_with fail
          try rw [Exit.noGoto_ret]
          have h1 := (show Has w1 (pt g8 (.cells (spC spt0) 93) :: Trb q m f P S.last S.tab :: L) from HOv.out.re 4 [3, 1]).spt spt0
          refine bodyPost_ret (spt_result spt0 rfl rfl rfl h1) rfl ?_
          rw [HRR.out]
          exact ⟨rfl, trc_iff.2 ⟨m, f, P, HPT.out, h1.drop⟩, HKd.out.spt _ _ _ _⟩
end Go.Proofs.YtonhcefgakmpfaaGreatDoor
/- THE WALKS of what the statements share on bytes. -/
namespace Go.Proofs.YtonhcefgakmpfaaGreatDoor
open Go.RowKit Go.Own
end Go.Proofs.YtonhcefgakmpfaaGreatDoor
