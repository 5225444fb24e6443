/- TEXTS of mine, merged. -/
import Derived.Test.YtajnhggcaiakeaaM5
import Derived.Test.YtajnhggcaiakeaaM1
/- THE WALKS of a graph's Needs, All. -/
namespace Go.Own.Dp
/-- One needs another one, too. -/
def addN (E : Gph) (x y : Int) : Gph := E.map fun e => if e.1 = x then (e.1, if y ∈ e.2 then e.2 else e.2 ++ [y]) else e
theorem addN_ids (E : Gph) (x y : Int) : ids (addN E x y) = ids E := by
  unfold ids addN
  rw [List.map_map]
  exact List.map_congr_left fun e _ => by simp only [Function.comp]; split <;> rfl
end Go.Own.Dp
namespace Go.Proofs.Ytajnhggcaiakeaa
open Go.RowKit Go.Own Go.Maps Go.ChangeMaps Go.Own.Dp
theorem er_addN {T1 T2 : List Ge} {x y : Int} {b : Nat} {s : List Int} (h1 : x ∉ gids T1) (h2 : x ∉ gids T2) :
    er (T1 ++ (x, b, if y ∈ s then s else s ++ [y]) :: T2) = addN (er (T1 ++ (x, b, s) :: T2)) x y := by
  have key : ∀ T : List Ge, x ∉ gids T → addN (er T) x y = er T := by
    intro T h
    unfold addN er
    rw [List.map_map]
    refine List.map_congr_left fun e he => ?_
    have hne : ¬ e.1 = x := fun e1 => h (by rw [← e1]; exact List.mem_map_of_mem (f := fun e : Ge => e.1) he)
    simp only [Function.comp, if_neg hne]
  have e1 : addN (er (T1 ++ (x, b, s) :: T2)) x y = addN (er T1) x y ++ (x, if y ∈ s then s else s ++ [y]) :: addN (er T2) x y := by
    simp [addN, er]
  rw [e1, key T1 h1, key T2 h2]
  simp [er]
set_option maxRecDepth 100000 in
theorem gNeedsNil (x y : Int) (w : World) : Calls Try.prog 11 #[.pointer none, .int .i64 x, .int .i64 y] w fun e w' => e = .returned (.int .i64 1) ∧ w = w' := by
  go_enter Try.func11, Try.ntmps11
  go_wp2_with fail
  go_ret
  exact ⟨rfl, rfl⟩
set_option maxRecDepth 100000 in
set_option maxHeartbeats 8000000 in
theorem xNeeds (g : Nat) (E : Gph) (x y : Int) (w : World) (L : List HP) (hx : x ∈ ids E) (hy : y ∈ ids E) (hE : E.length ≤ 100) (hnd : ∀ x, (nd E x).length ≤ 100) (hO : Has w (Gx g E :: L)) :
    Calls Try.prog 11 #[gP g, .int .i64 x, .int .i64 y] w fun e w' => ∃ r, e = .returned (.int .i64 r) ∧ (Rch E [y] x → r = 12) ∧ (¬ Rch E [y] x → r = 0) ∧ (∃ E', (Rch E [y] x → E' = E) ∧ (¬ Rch E [y] x → E' = addN E x y) ∧ Has w' (Gx g E' :: L)) ∧ Keep w w' := by
  have hxk := Gx.ok hO hx
  have hyk := Gx.ok hO hy
  have hth := xThere g E x w L hxk hO
  have hth2 := xThere g E y w L hyk hO
  rw [decide_eq_true hx] at hth
  rw [decide_eq_true hy] at hth2
  have HO := hid hO
  have HX := hid hx
  have HXK := hid hxk
  have HYK := hid hyk
  have HE := hid hE
  have HND := hid hnd
  clear hO hx hy hxk hyk hE hnd
  go_enter Try.func11, Try.ntmps11
  go_wp2_with fail
  refine (hth).mono ?_
  rintro e w' ⟨rfl, rfl⟩
  try dsimp only
  go_wp2_with fail
  refine (hth2).mono ?_
  rintro e w' ⟨rfl, rfl⟩
  try dsimp only
  go_wp2_with fail
  refine (xClosure g E (.slice (some ⟨w.heap.size, 0, none⟩) 1 1) [y] (w.alloc (.cells #[.int .i64 y] 3)) L (by intro z hz; rw [List.mem_singleton] at hz; rw [hz]; exact HYK.out) (by simp) HE.out HND.out ?_ (HO.out.alloc' _)).mono ?_
  · exact (Has.row_of (HO.out.alloc (.cells #[.int .i64 y] 3)) (Nat.le_refl 1) (le_maxLen (by omega)) rfl rfl rfl).rd
  rintro e w3 ⟨v3, rfl, hO3, hK3⟩
  have HO3 := hid hO3
  have HK3 := hid (((Keep.refl w).alloc _).trans hK3)
  clear hO3 hK3 HO
  obtain ⟨vp3, vc3, e3, -⟩ := (Ints.rd HO3.out).form
  subst e3
  try dsimp only
  go_wp2_with fail
  refine (containsInt (.slice vp3 (clo E [y]).length vc3) (clo E [y]) x w3 (Ints.rd HO3.out)).mono ?_
  rintro e w4 ⟨rfl, rfl⟩
  have HB := hid (show (clo E [y]).contains x = true ↔ Rch E [y] x by rw [List.contains_iff_mem, clo_mem])
  revert HB
  generalize (clo E [y]).contains x = bb
  intro HB
  cases bb
  · have hnr : ¬ Rch E [y] x := fun h => absurd (HB.out.2 h) (by decide)
    have HNR := hid hnr
    clear HB hnr
    obtain ⟨m, T, hE, hT⟩ := Gx.iff.1 HO3.out.p1
    subst hE
    obtain ⟨T1, b, s, T2, rfl, hfb, hndx, h1, h2⟩ := Gr.split hT (by rw [gids_er]; exact HX.out)
    have HFB := hid hfb
    have HNX := hid hndx
    have H1 := hid h1
    have H2 := hid h2
    have HSP := hid (Gr.pull.1 hT)
    have hc3 := Gro.at0 HSP.out.p1
    have hl3 := Gro.look0 HSP.out.p1 HXK.out
    rw [hfb] at hl3
    clear hT hfb hndx h1 h2 HO3
    go_wp2_with (at_mapUpdate; refine wpList_nsPut (b := b) (s := s) _ HSP.out (by have h := HND.out x; rw [HNX.out] at h; omega) rfl _ _ _ rfl rfl y HYK.out rfl rfl ?_; intro w5 hO5 hK5)
    go_ret
    refine ⟨0, rfl, fun h => absurd h HNR.out, fun _ => rfl, ⟨_, fun h => absurd h HNR.out, fun _ => rfl, Gx.iff.2 ⟨m, T1 ++ (x, b, if y ∈ s then s else s ++ [y]) :: T2, er_addN H1.out H2.out, ?_⟩⟩, HK3.out.trans hK5⟩
    have e1 : Gro g m T1 (x, b, if y ∈ s then s else s ++ [y]) T2 = Gro g m T1 (x, b, s) T2 := by
      unfold Gro outer
      simp
    have h9 := hO5.keep [true, true, false]
    refine Gr.pull.2 ?_
    rw [e1]
    exact h9
  · have hr : Rch E [y] x := HB.out.1 rfl
    have HNR := hid hr
    clear HB hr
    go_wp2_with fail
    go_ret
    exact ⟨12, rfl, fun _ => rfl, fun h => absurd HNR.out h, ⟨E, fun _ => rfl, fun h => absurd HNR.out h, HO3.out.drop⟩, HK3.out⟩
set_option maxRecDepth 100000 in
theorem gAllNil (w : World) : Calls Try.prog 15 #[.pointer none] w fun e w' => e = .returned (.slice none 0 0) ∧ w = w' := by
  go_enter Try.func15, Try.ntmps15
  go_wp2_with fail
  go_ret
  exact ⟨rfl, rfl⟩
set_option maxRecDepth 100000 in
set_option maxHeartbeats 4000000 in
theorem xAll (g : Nat) (E : Gph) (w : World) (L : List HP) (hE : E.length ≤ 1000) (hO : Has w (Gx g E :: L)) :
    Calls Try.prog 15 #[gP g] w fun e w' => ∃ v, e = .returned v ∧ Has w' (Ints v (sorted (ids E)) :: Gx g E :: L) ∧ Keep w w' := by
  obtain ⟨m, T, rfl, hh⟩ := Gx.iff.1 hO
  have h := Gr.iff.1 hh
  have hc : w.cell? ⟨g, 0, none⟩ = some (.map (some m)) := by rw [h.cells 0]; rfl
  have HO := hid h
  have HT := hid hE
  clear hO h hh hE
  go_enter Try.func15, Try.ntmps15
  go_wp2_with fail
  refine (keysO m w).mono ?_
  rintro e w6 ⟨rfl, rfl⟩
  try dsimp only
  go_wp2_with fail
  refine (sortedO m (outer T) w _ (by have := HT.out; simp [outer, er] at *; omega) HO.out.p1).mono ?_
  rintro e w3 ⟨v3, rfl, hO3, hK3⟩
  rw [outer_fst, gids_er] at hO3
  have HO3 := hid hO3
  have HK3 := hid hK3
  clear hO3 hK3
  obtain ⟨vp3, vc3, e3, -⟩ := (Ints.rd HO3.out).form
  subst e3
  try dsimp only
  go_wp2_with fail
  go_ret
  exact ⟨_, rfl, (show Has w3 (Gx g (er T) :: Ints _ (sorted (ids (er T))) :: L) from Gx.iff.2 ⟨m, T, rfl, Gr.iff.2 ((HO3.out.re 3 [2, 1, 0]).perm (by
    refine List.Perm.trans ?_ (List.Perm.cons _ (List.Perm.cons _ (List.perm_middle.symm)))
    exact List.Perm.refl _))⟩).p1, HK3.out⟩
end Go.Proofs.Ytajnhggcaiakeaa
/- Levels: lists of lists, the plain model, the invariants. -/
namespace Go.Own.Dp
/-- All that x needs is done. -/
def rdy (E : Gph) (dn : List Int) (x : Int) : Bool := decide (∀ y ∈ nd E x, y ∈ dn)
def levF (E : Gph) : Nat → List Int → List Int → List (List Int)
  | 0, _, _ => []
  | f + 1, lf, dn => if lf = [] then [] else lf.filter (rdy E dn) :: levF E f (lf.filter fun x => !rdy E dn x) (dn ++ lf.filter (rdy E dn))
theorem levF_nil (E : Gph) (f : Nat) (dn : List Int) : levF E f [] dn = [] := by cases f <;> simp [levF]
theorem filter_snoc (p : Int → Bool) (l : List Int) (x : Int) : (l ++ [x]).filter p = l.filter p ++ (if p x = true then [x] else []) := by
  rw [List.filter_append]
  congr 1
  rw [List.filter_cons]
  rfl
theorem filter_snot (p : Int → Bool) (l : List Int) (x : Int) : ((l ++ [x]).filter fun y => !p y) = (l.filter fun y => !p y) ++ (if p x = true then [] else [x]) := by
  rw [filter_snoc]
  congr 1
  cases p x <;> rfl
theorem flt_len (p : Int → Bool) (l : List Int) : (l.filter p).length + (l.filter fun x => !p x).length = l.length := by
  induction l with
  | nil => rfl
  | cons a l ih =>
    rw [List.filter_cons, List.filter_cons]
    cases p a <;> simp <;> omega
/-- The needs go down. -/
def Acy (E : Gph) (rk : Int → Nat) : Prop := ∀ x ∈ ids E, ∀ y ∈ nd E x, y ∈ ids E ∧ rk y < rk x
/-- What the levels' loop keeps. -/
structure LI (E : Gph) (lf dn : List Int) : Prop where
  there : ∀ x ∈ lf, x ∈ ids E
  shut : ∀ x ∈ lf, ∀ y ∈ nd E x, y ∈ lf ∨ y ∈ dn
  nodup : lf.Nodup
  apart : ∀ x ∈ lf, x ∉ dn
theorem LI.step {E : Gph} {lf dn : List Int} (h : LI E lf dn) : LI E (lf.filter fun x => !rdy E dn x) (dn ++ lf.filter (rdy E dn)) where
  there := fun x hx => h.there x (List.mem_filter.1 hx).1
  shut := fun x hx y hy => by
    rcases h.shut x (List.mem_filter.1 hx).1 y hy with h1 | h1
    · by_cases hr : rdy E dn y = true
      · exact .inr (List.mem_append_right _ (List.mem_filter.2 ⟨h1, hr⟩))
      · exact .inl (List.mem_filter.2 ⟨h1, by simpa using hr⟩)
    · exact .inr (List.mem_append_left _ h1)
  nodup := h.nodup.sublist List.filter_sublist
  apart := fun x hx hd => by
    obtain ⟨h1, h2⟩ := List.mem_filter.1 hx
    rcases List.mem_append.1 hd with hd | hd
    · exact h.apart x h1 hd
    · rw [(List.mem_filter.1 hd).2] at h2
      cases h2
theorem least {lf : List Int} (rk : Int → Nat) (h : lf ≠ []) : ∃ x ∈ lf, ∀ y ∈ lf, rk x ≤ rk y := by
  induction lf with
  | nil => exact absurd rfl h
  | cons a l ih =>
    by_cases hl : l = []
    · subst hl; exact ⟨a, by simp, by simp⟩
    · obtain ⟨x, hx, hm⟩ := ih hl
      by_cases hle : rk a ≤ rk x
      · exact ⟨a, by simp, fun y hy => by
          rcases List.mem_cons.1 hy with rfl | hy
          · exact Nat.le_refl _
          · exact Nat.le_trans hle (hm y hy)⟩
      · exact ⟨x, by simp [hx], fun y hy => by
          rcases List.mem_cons.1 hy with rfl | hy
          · omega
          · exact hm y hy⟩
theorem LI.less {E : Gph} {lf dn : List Int} {rk : Int → Nat} (h : LI E lf dn) (hA : Acy E rk) (hn : lf ≠ []) : (lf.filter fun x => !rdy E dn x).length < lf.length := by
  obtain ⟨x, hx, hm⟩ := least rk hn
  have hr : rdy E dn x = true := by
    unfold rdy
    rw [decide_eq_true_iff]
    intro y hy
    rcases h.shut x hx y hy with h1 | h1
    · have := hm y h1
      have := (hA x (h.there x hx) y hy).2
      omega
    · exact h1
  obtain ⟨l1, l2, rfl⟩ := List.append_of_mem hx
  have h1 := List.length_filter_le (fun x => !rdy E dn x) l1
  have h2 := List.length_filter_le (fun x => !rdy E dn x) l2
  rw [List.filter_append, List.filter_cons, hr]
  simp
  omega
end Go.Own.Dp
namespace Go.Proofs.Ytajnhggcaiakeaa
open Go.RowKit Go.Own Go.Maps Go.ChangeMaps Go.Own.Dp
/-- A list of lists of ints. -/
abbrev Il := List (Value × List Int)
def Ll (v : Value) (B : Il) : HP := star (row v 22 1 B.length (B.map Prod.fst) :: B.map fun p => Ints p.1 p.2)
section
variable {w : World} {L : List HP} {v : Value} {B : Il}
theorem Ll.iff : Has w (Ll v B :: L) ↔ Has w (row v 22 1 B.length (B.map Prod.fst) :: ((B.map fun p => Ints p.1 p.2) ++ L)) := by
  unfold Ll
  rw [Has.star_iff]
  rfl
theorem infoSl : (Try.prog.info? 22).map (fun i => (i.zero, i.size, i.bytes)) = some (some (.slice none 0 0), 1, 24) := by kernel_rfl
theorem Ll.nil (h : Has w L) : Has w (Ll (.slice none 0 0) [] :: L) := Ll.iff.2 (h.row_nil _ 1)
theorem Ll.val (h : Has w (Ll v B :: L)) : ∃ p c, v = .slice p B.length c := by
  obtain ⟨p, c, e, -⟩ := (Ll.iff.1 h).rd.form
  exact ⟨p, c, e⟩
/-- One more at the end. -/
theorem Ll.snoc {u : Value} {l : List Int} (h : Has w (row v 22 1 (B.length + 1) (B.map Prod.fst ++ [u]) :: ((B.map fun p => Ints p.1 p.2) ++ (Ints u l :: L)))) : Has w (Ll v (B ++ [(u, l)]) :: L) := by
  refine Ll.iff.2 ?_
  rw [List.map_append, List.map_append, List.length_append]
  simp only [List.map_cons, List.map_nil, List.length_singleton, List.append_assoc, List.singleton_append]
  exact h
/-- It reads as a list of lists of ints. -/
def RdL (w : World) (v : Value) (ls : List (List Int)) : Prop := ∃ vs : List Value, vs.length = ls.length ∧ Rd w v 1 ls.length vs ∧ ∀ (i : Nat) u l, vs[i]? = some u → ls[i]? = some l → Rd w u 1 l.length (ic l)
theorem Ll.rd (h : Has w (Ll v B :: L)) : RdL w v (B.map Prod.snd) := by
  have h1 := Ll.iff.1 h
  refine ⟨B.map Prod.fst, by simp, by rw [List.length_map]; exact h1.rd, fun i u l hu hl => ?_⟩
  rw [List.getElem?_map] at hu hl
  obtain ⟨p, hp, rfl⟩ := Option.map_eq_some_iff.1 hu
  rw [hp] at hl
  simp only [Option.map_some, Option.some.injEq] at hl
  subst hl
  obtain ⟨B1, B2, rfl⟩ := List.append_of_mem (List.mem_of_getElem? hp)
  have h2 : Has w (Ints p.1 p.2 :: ((B1.map fun p => Ints p.1 p.2) ++ (B2.map fun p => Ints p.1 p.2) ++ L)) := h1.drop.perm (by
    rw [List.map_append, List.map_cons, List.append_assoc]
    refine (List.perm_middle).trans (List.Perm.cons _ ?_)
    rw [List.append_assoc]
    exact List.Perm.refl _)
  exact Ints.rd h2
end
end Go.Proofs.Ytajnhggcaiakeaa
/- THE PLAIN LAW of chapter 17: graphs of 1, 2, .. n; levels. -/
namespace Go.Own.Dp
/-- The graph of 1, .. n, where f says what each one needs. -/
def chain (f : Nat → List Int) (n : Nat) : Gph := (List.range n).map fun j => (((j + 1 : Nat) : Int), f (j + 1))
theorem chain_len (f : Nat → List Int) (n : Nat) : (chain f n).length = n := by simp [chain]
theorem chain_ids {f : Nat → List Int} {n : Nat} {x : Int} : x ∈ ids (chain f n) ↔ 1 ≤ x ∧ x ≤ n := by
  unfold ids chain
  rw [List.map_map, List.mem_map]
  constructor
  · rintro ⟨j, hj, rfl⟩
    rw [List.mem_range] at hj
    simp only [Function.comp]
    omega
  · rintro ⟨h1, h2⟩
    exact ⟨x.toNat - 1, by rw [List.mem_range]; omega, by simp only [Function.comp]; omega⟩
theorem chain_snoc (f : Nat → List Int) (n : Nat) : chain f (n + 1) = chain f n ++ [(((n + 1 : Nat) : Int), f (n + 1))] := by
  unfold chain
  rw [List.range_succ, List.map_append]
  rfl
theorem chain_congr {f f' : Nat → List Int} {n : Nat} (h : ∀ j, 1 ≤ j → j ≤ n → f j = f' j) : chain f n = chain f' n := by
  unfold chain
  refine List.map_congr_left fun j hj => ?_
  rw [List.mem_range] at hj
  rw [h (j + 1) (by omega) (by omega)]
theorem chain_nd {f : Nat → List Int} {n : Nat} {j : Nat} (h1 : 1 ≤ j) (h2 : j ≤ n) : nd (chain f n) j = f j := by
  induction n with
  | zero => omega
  | succ n ih =>
    unfold nd
    rw [chain_snoc, List.find?_append]
    by_cases hj : j = n + 1
    · subst hj
      have hno : (chain f n).find? (fun e => e.1 == ((n + 1 : Nat) : Int)) = none := by
        rw [List.find?_eq_none]
        intro e he hq
        have h3 : e.1 ∈ ids (chain f n) := List.mem_map_of_mem (f := Prod.fst) he
        rw [chain_ids] at h3
        simp only [beq_iff_eq] at hq
        omega
      rw [hno]
      simp
    · have hn : ([(((n + 1 : Nat) : Int), f (n + 1))] : Gph).find? (fun e => e.1 == (j : Int)) = none := by
        rw [List.find?_eq_none]
        intro e he hq
        rw [List.mem_singleton] at he
        subst he
        simp only [beq_iff_eq] at hq
        omega
      rw [hn, Option.or_none]
      exact ih (by omega)
theorem nd_none {E : Gph} {x : Int} (h : x ∉ ids E) : nd E x = [] := by
  unfold nd
  have : E.find? (fun e => e.1 == x) = none := by
    rw [List.find?_eq_none]
    intro e he hq
    simp only [beq_iff_eq] at hq
    subst hq
    exact h (List.mem_map_of_mem (f := Prod.fst) he)
  rw [this]
  rfl
theorem chain_nd' {f : Nat → List Int} {n : Nat} (x : Int) : nd (chain f n) x = if 1 ≤ x ∧ x ≤ n then f x.toNat else [] := by
  split
  · rename_i h
    have e : x = ((x.toNat : Nat) : Int) := by omega
    rw [e, chain_nd (by omega) (by omega)]
    rw [← e]
  · rename_i h
    exact nd_none fun hx => h (chain_ids.1 hx)
theorem chain_nodup (f : Nat → List Int) (n : Nat) : (ids (chain f n)).Nodup := by
  unfold ids chain
  rw [List.map_map]
  refine List.Pairwise.map _ ?_ List.nodup_range
  intro a b h
  simp only [Function.comp]
  omega
/-- Each one needs lesser ones alone. -/
structure Dn (f : Nat → List Int) : Prop where
  lo : ∀ j, ∀ y ∈ f j, 1 ≤ y ∧ y < j
  len : ∀ j, (f j).length ≤ 100
theorem Dn.nd {f : Nat → List Int} (h : Dn f) (n : Nat) (x : Int) : (nd (chain f n) x).length ≤ 100 := by
  rw [chain_nd']
  split
  · exact h.len _
  · simp
theorem Dn.below {f : Nat → List Int} (h : Dn f) {n : Nat} {is : List Int} {m x : Int} (hm : ∀ y ∈ is, y ≤ m) (hr : Rch (chain f n) is x) : x ≤ m := by
  induction hr with
  | base x h1 _ => exact hm x h1
  | step x y hy h1 _ ih =>
    rw [chain_nd'] at h1
    split at h1
    · have := h.lo _ x h1
      omega
    · simp at h1
theorem Dn.acy {f : Nat → List Int} (h : Dn f) (n : Nat) : Acy (chain f n) Int.toNat := by
  intro x hx y hy
  rw [chain_ids] at hx ⊢
  rw [chain_nd', if_pos hx] at hy
  have := h.lo _ y hy
  omega
theorem addN_chain {f : Nat → List Int} {n i : Nat} {y : Int} (h1 : 1 ≤ i) (hy : y ∉ f i) : addN (chain f n) i y = chain (fun j => if j = i then f j ++ [y] else f j) n := by
  unfold addN chain
  rw [List.map_map]
  refine List.map_congr_left fun j _ => ?_
  simp only [Function.comp]
  by_cases e : j + 1 = i
  · subst e
    simp [hy]
  · rw [if_neg (by omega), if_neg e]
/-- What is needed, as bits say: among 1, .. k - 1. -/
def part (bt : Nat → Bool) (k : Nat) : List Int := ((List.range k).filter fun j => decide (1 ≤ j) && bt j).map fun j : Nat => (j : Int)
theorem part_mem {bt : Nat → Bool} {k : Nat} {y : Int} : y ∈ part bt k ↔ 1 ≤ y ∧ y < k ∧ bt y.toNat = true := by
  unfold part
  simp only [List.mem_map, List.mem_filter, List.mem_range, Bool.and_eq_true, decide_eq_true_eq]
  constructor
  · rintro ⟨j, ⟨h1, h2, h3⟩, rfl⟩
    exact ⟨by omega, by simpa using h1, by simpa using h3⟩
  · rintro ⟨h1, h2, h3⟩
    exact ⟨y.toNat, ⟨by omega, by omega, h3⟩, by omega⟩
theorem part_len (bt : Nat → Bool) (k : Nat) : (part bt k).length ≤ k := by
  unfold part
  rw [List.length_map]
  refine Nat.le_trans (List.length_filter_le _ _) ?_
  simp
theorem part_one (bt : Nat → Bool) : part bt 1 = [] := by
  rw [List.eq_nil_iff_forall_not_mem]
  intro y hy
  have := part_mem.1 hy
  omega
theorem part_succ (bt : Nat → Bool) {k : Nat} (h : 1 ≤ k) : part bt (k + 1) = part bt k ++ (if bt k = true then [(k : Int)] else []) := by
  unfold part
  rw [List.range_succ, List.filter_append, List.map_append]
  congr 1
  rw [List.filter_cons]
  cases bt k <;> simp [h]
/-! ### Levels -/
structure Lv (E : Gph) (rows : List (List Int)) (lf dn : List Int) : Prop where
  sub : ∀ (q : Nat) row, rows[q]? = some row → ∀ x ∈ row, x ∈ lf
  cov : ∀ x ∈ lf, ∃ (q : Nat) (row : List Int), rows[q]? = some row ∧ x ∈ row
  nodup : ∀ (q : Nat) row, rows[q]? = some row → row.Nodup
  uniq : ∀ (q q' : Nat) row row' x, rows[q]? = some row → rows[q']? = some row' → x ∈ row → x ∈ row' → q = q'
  lower : ∀ (q : Nat) row, rows[q]? = some row → ∀ x ∈ row, ∀ y ∈ nd E x, y ∈ dn ∨ ∃ (q' : Nat) (row' : List Int), q' < q ∧ rows[q']? = some row' ∧ y ∈ row'
  near : ∀ (q : Nat) row row0, rows[q + 1]? = some row → rows[q]? = some row0 → ∀ x ∈ row, ∃ y ∈ nd E x, y ∈ row0
  full : ∀ (q : Nat) row, rows[q]? = some row → row ≠ []
  sum : (rows.map List.length).sum = lf.length
theorem levF_ok {E : Gph} {rk : Int → Nat} (hA : Acy E rk) : ∀ (f : Nat) (lf dn : List Int), LI E lf dn → lf.length ≤ f → Lv E (levF E f lf dn) lf dn := by
  intro f
  induction f with
  | zero =>
    intro lf dn h hl
    have : lf = [] := List.eq_nil_of_length_eq_zero (by omega)
    subst this
    exact ⟨by simp [levF], by simp, by simp [levF], by simp [levF], by simp [levF], by simp [levF], by simp [levF], by simp [levF]⟩
  | succ f ih =>
    intro lf dn h hl
    by_cases he : lf = []
    · subst he
      exact ⟨by simp [levF], by simp, by simp [levF], by simp [levF], by simp [levF], by simp [levF], by simp [levF], by simp [levF]⟩
    · have hless := h.less hA he
      have i := ih _ _ h.step (by omega)
      have hsum := flt_len (rdy E dn) lf
      rw [levF, if_neg he]
      generalize hR : levF E f (lf.filter fun x => !rdy E dn x) (dn ++ lf.filter (rdy E dn)) = R at i
      have hrdy : ∀ x ∈ lf.filter (rdy E dn), ∀ y ∈ nd E x, y ∈ dn := fun x hx y hy => by
        have := (List.mem_filter.1 hx).2
        unfold rdy at this
        rw [decide_eq_true_iff] at this
        exact this y hy
      have hne : lf.filter (rdy E dn) ≠ [] := fun e => by
        rw [e] at hsum
        simp only [List.length_nil] at hsum
        omega
      refine ⟨?_, ?_, ?_, ?_, ?_, ?_, ?_, ?_⟩
      · intro q row hq x hx
        cases q with
        | zero => simp only [List.getElem?_cons_zero, Option.some.injEq] at hq; subst hq; exact (List.mem_filter.1 hx).1
        | succ q => rw [List.getElem?_cons_succ] at hq; exact (List.mem_filter.1 (i.sub q row hq x hx)).1
      · intro x hx
        by_cases hr : rdy E dn x = true
        · exact ⟨0, _, rfl, List.mem_filter.2 ⟨hx, hr⟩⟩
        · obtain ⟨q, row, hq, hm⟩ := i.cov x (List.mem_filter.2 ⟨hx, by simpa using hr⟩)
          exact ⟨q + 1, row, by rw [List.getElem?_cons_succ]; exact hq, hm⟩
      · intro q row hq
        cases q with
        | zero => simp only [List.getElem?_cons_zero, Option.some.injEq] at hq; subst hq; exact h.nodup.sublist List.filter_sublist
        | succ q => rw [List.getElem?_cons_succ] at hq; exact i.nodup q row hq
      · have key : ∀ (q : Nat) row x, R[q]? = some row → x ∈ row → x ∈ lf.filter (rdy E dn) → False := fun q row x hq hx hx2 => by
          have h1 := (List.mem_filter.1 (i.sub q row hq x hx)).2
          rw [(List.mem_filter.1 hx2).2] at h1
          cases h1
        intro q q' row row' x hq hq' hx hx'
        cases q with
        | zero =>
          cases q' with
          | zero => rfl
          | succ q' =>
            simp only [List.getElem?_cons_zero, Option.some.injEq] at hq
            rw [List.getElem?_cons_succ] at hq'
            subst hq
            exact (key q' row' x hq' hx' hx).elim
        | succ q =>
          rw [List.getElem?_cons_succ] at hq
          cases q' with
          | zero =>
            simp only [List.getElem?_cons_zero, Option.some.injEq] at hq'
            subst hq'
            exact (key q row x hq hx hx').elim
          | succ q' =>
            rw [List.getElem?_cons_succ] at hq'
            rw [i.uniq q q' row row' x hq hq' hx hx']
      · intro q row hq x hx y hy
        cases q with
        | zero =>
          simp only [List.getElem?_cons_zero, Option.some.injEq] at hq
          subst hq
          exact .inl (hrdy x hx y hy)
        | succ q =>
          rw [List.getElem?_cons_succ] at hq
          rcases i.lower q row hq x hx y hy with h1 | ⟨q', row', h1, h2, h3⟩
          · rcases List.mem_append.1 h1 with h1 | h1
            · exact .inl h1
            · exact .inr ⟨0, _, by omega, rfl, h1⟩
          · exact .inr ⟨q' + 1, row', by omega, by rw [List.getElem?_cons_succ]; exact h2, h3⟩
      · intro q row row0 hq hq0 x hx
        rw [List.getElem?_cons_succ] at hq
        cases q with
        | zero =>
          simp only [List.getElem?_cons_zero, Option.some.injEq] at hq0
          subst hq0
          have h1 := (List.mem_filter.1 (i.sub 0 row hq x hx)).2
          have h2 : ¬ ∀ y ∈ nd E x, y ∈ dn := fun hall => by
            have : rdy E dn x = true := by unfold rdy; rw [decide_eq_true_iff]; exact hall
            rw [this] at h1
            cases h1
          rw [Classical.not_forall] at h2
          obtain ⟨y, h2⟩ := h2
          rw [Classical.not_imp] at h2
          refine ⟨y, h2.1, ?_⟩
          rcases i.lower 0 row hq x hx y h2.1 with h3 | ⟨q', _, h3, -⟩
          · rcases List.mem_append.1 h3 with h3 | h3
            · exact absurd h3 h2.2
            · exact h3
          · omega
        | succ q =>
          rw [List.getElem?_cons_succ] at hq0
          exact i.near q row row0 hq hq0 x hx
      · intro q row hq
        cases q with
        | zero => simp only [List.getElem?_cons_zero, Option.some.injEq] at hq; subst hq; exact hne
        | succ q => rw [List.getElem?_cons_succ] at hq; exact i.full q row hq
      · rw [List.map_cons, List.sum_cons, i.sum]
        omega
end Go.Own.Dp
/- 'append(s, x...)' of whatever reads as a row, nil let in. No program in sight. -/
namespace Go.Own
open Go.RowKit
section
variable {w : World} {l : List HP} {v : Value} {e : TypeId} {size n : Nat} {xs : List Value}
theorem Has.appendNone {P : Program} (hO : Has w (row v e size n xs :: l)) (t ty : TypeId) (ht : P.underlying t = some (.slice e)) (i : TypeInfo) (hi : P.info? e = some i) (c : Nat) :
    (Builtin.append_ #[t, t] ty #[v, .slice none 0 c]).run P w = .ok v w := by
  obtain ⟨-, ⟨rfl, -⟩ | ⟨g, cap, cur, rfl, hnc, -⟩⟩ := hO.row_cases
  · simp [Builtin.append_, run_underlying ht, sizeOf, typeInfo, hi, Builtin.lenOf, Builtin.firstCells]
  · simp [Builtin.append_, run_underlying ht, sizeOf, typeInfo, hi, Builtin.lenOf, Builtin.firstCells, hnc, storeCells]
theorem Has.appendAny {P : Program} (hO : Has w (row v e size n xs :: l)) (t ty : TypeId) {z : Value} {bytes : Nat} (ht : P.underlying t = some (.slice e)) (hi : (P.info? e).map (fun i => (i.zero, i.size, i.bytes)) = some (some z, size, bytes)) (hzs : z.cells.size = size) (hsz : 0 < size)
    (x : Value) (m : Nat) (ys : List Value) (hr : Rd w x size m ys) (h1 : ∀ u ∈ ys, u.oneCell' = true) (h63 : n + m ≤ maxLen) (hbytes : (n + m) * bytes ≤ 140737488355328) :
    ∃ v' w', (Builtin.append_ #[t, t] ty #[v, x]).run P w = .ok v' w' ∧ Has w' (row v' e size (n + m) (xs ++ ys) :: l) ∧ Keep w w' ∧ (v = .slice none 0 0 → m = 0 → v' = .slice none 0 0) := by
  obtain ⟨i, hi, hz, hs, hby⟩ := info_parts hi
  obtain ⟨hyl, hm, p, cap, rfl, -, hc⟩ := hr
  rcases p with _ | ad
  · have hm0 : m = 0 := by
      rcases Nat.eq_zero_or_pos m with h | h
      · exact h
      · obtain ⟨g, o, e, -⟩ := hc (Nat.mul_pos h hsz)
        cases e
    subst hm0
    have hy : ys = [] := List.eq_nil_of_length_eq_zero (by simpa using hyl)
    subst hy
    exact ⟨v, w, hO.appendNone t ty ht i hi cap, by simpa using hO, Keep.refl w, fun h _ => h⟩
  · obtain ⟨v', w', h2, h3, h4, h5⟩ := hO.append (P := P) t ty i z bytes ht hi hz hs hby hzs ad m cap ys hyl (by
      intro j y hj
      have hjl : j < m * size := by rw [← hyl]; exact (List.getElem?_eq_some_iff.1 hj).1
      obtain ⟨g, o, e2, hc2⟩ := hc (by omega)
      cases e2
      rw [add_plain, hc2 j hjl, hj]) h1 h63 hbytes
    exact ⟨v', w', h2, h3, h4, fun a b => h5.2 ⟨a, b⟩⟩
theorem wp_appendA {P : Program} {o : Oper} {a : Act} {K : Act → World → Prop} {Q : Exit → Act → World → Prop} (s x : Operand) (t : TypeId)
    (ho : o.op = .call { callee := .builtin .append, args := #[s, x], argTypes := #[t, t] })
    {z : Value} {bytes : Nat} (ht : P.underlying t = some (.slice e)) (hi : (P.info? e).map (fun i => (i.zero, i.size, i.bytes)) = some (some z, size, bytes)) (hzs : z.cells.size = size) (hsz : 0 < size)
    (hO : Has w (row v e size n xs :: l)) (hs : a.eval s = v) (xv : Value) (m : Nat) (ys : List Value) (hx : a.eval x = xv) (hr : Rd w xv size m ys) (h1 : ∀ u ∈ ys, u.oneCell' = true) (h63 : n + m ≤ maxLen) (hbytes : (n + m) * bytes ≤ 140737488355328)
    (h : ∀ v' w', Has w' (row v' e size (n + m) (xs ++ ys) :: l) → Keep w w' → K (a.put o.dst v') w') : o.wp P a w K Q := by
  obtain ⟨v', w', hrun, h2, h3, -⟩ := hO.appendAny (P := P) t o.type ht hi hzs hsz xv m ys hr h1 h63 hbytes
  unfold Oper.wp execOp
  simp only [ho, resolve, invoke, builtin, Sem.run_bind, Sem.run_pure, Result.andThen_ok, List.map_toArray, List.map_cons, List.map_nil, hs, hx, hrun]
  exact h v' w' h2 h3
theorem wpList_appendA {P : Program} {ops : Array Oper} {rest : List Oper} {o : Oper} {a : Act} {Q : Exit → Act → World → Prop} (hgd : o.guard = none) (s x : Operand) (t : TypeId)
    (ho : o.op = .call { callee := .builtin .append, args := #[s, x], argTypes := #[t, t] })
    {z : Value} {bytes : Nat} (ht : P.underlying t = some (.slice e)) (hi : (P.info? e).map (fun i => (i.zero, i.size, i.bytes)) = some (some z, size, bytes)) (hzs : z.cells.size = size) (hsz : 0 < size)
    (hO : Has w (row v e size n xs :: l)) (hs : a.eval s = v) (xv : Value) (m : Nat) (ys : List Value) (hx : a.eval x = xv) (hr : Rd w xv size m ys) (h1 : ∀ u ∈ ys, u.oneCell' = true) (h63 : n + m ≤ maxLen) (hbytes : (n + m) * bytes ≤ 140737488355328)
    (h : ∀ v' w', Has w' (row v' e size (n + m) (xs ++ ys) :: l) → Keep w w' → wpList P ops Q rest (a.put o.dst v') w') : wpList P ops Q (o :: rest) a w :=
  wpList_plain hgd fun _ hK => wp_appendA s x t ho ht hi hzs hsz hO hs xv m ys hx hr h1 h63 hbytes fun v' w' h2 h3 => hK _ _ (h v' w' h2 h3)
/-- .. where a guard says yes. -/
theorem wpList_appendG {P : Program} {ops : Array Oper} {rest : List Oper} {o : Oper} {a : Act} {Q : Exit → Act → World → Prop} (hw : Region.wanted o (yielded ops a.tmps) = true) (s x : Operand) (t : TypeId)
    (ho : o.op = .call { callee := .builtin .append, args := #[s, x], argTypes := #[t, t] })
    {z : Value} {bytes : Nat} (ht : P.underlying t = some (.slice e)) (hi : (P.info? e).map (fun i => (i.zero, i.size, i.bytes)) = some (some z, size, bytes)) (hzs : z.cells.size = size) (hsz : 0 < size)
    (hO : Has w (row v e size n xs :: l)) (hs : a.eval s = v) (xv : Value) (m : Nat) (ys : List Value) (hx : a.eval x = xv) (hr : Rd w xv size m ys) (h1 : ∀ u ∈ ys, u.oneCell' = true) (h63 : n + m ≤ maxLen) (hbytes : (n + m) * bytes ≤ 140737488355328)
    (h : ∀ v' w', Has w' (row v' e size (n + m) (xs ++ ys) :: l) → Keep w w' → wpList P ops Q rest (a.put o.dst v') w') : wpList P ops Q (o :: rest) a w :=
  wpList_step fun K hK => by
    rw [if_pos hw]
    exact wp_appendA s x t ho ht hi hzs hsz hO hs xv m ys hx hr h1 h63 hbytes fun v' w' h2 h3 => hK _ _ (h v' w' h2 h3)
end
end Go.Own
/- clear of a slice's end: what is ahead of it stays. No program in sight. -/
namespace Go.Own
open Go.RowKit
section
variable {w : World} {l : List HP} {e : TypeId} {size n cap g : Nat} {xs : List Value}
theorem Has.row_less (h : Has w (row (.slice (some ⟨g, 0, none⟩) n cap) e size n xs :: l)) (k : Nat) (hk : k ≤ n) : Has w (row (.slice (some ⟨g, 0, none⟩) k cap) e size k (xs.take (k * size)) :: l) := by
  obtain ⟨hl, h1 | ⟨g', cap', cur, e1, h1, h2, h3, h4, h5⟩⟩ := h.row_cases
  · exact absurd h1.1 (by simp)
  · simp only [Value.slice.injEq, Option.some.injEq, Addr.mk.injEq, true_and] at e1
    obtain ⟨⟨rfl, -⟩, rfl⟩ := e1
    have hm : k * size ≤ n * size := Nat.mul_le_mul_right _ hk
    refine h5.row_of (by omega) h2 h3 ?_ (by rw [List.length_take]; omega)
    rw [← h4, List.take_take, Nat.min_eq_left hm]
theorem Has.clearTail {P : Program} (hO : Has w (row (.slice (some ⟨g, 0, none⟩) n cap) e size n xs :: l)) (t ty : TypeId) (ht : P.underlying t = some (.slice e)) {z : Value} (hz : ∀ w, (zeroValue e).run P w = .ok z w) (hzs : z.cells.size = size) (h1 : ∀ u ∈ z.cells.toList, u.oneCell' = true)
    (k : Nat) (hk : k ≤ n) (ad : Option Addr) (c' : Nat) (had : k < n → ad = some ⟨g, k * size, none⟩) :
    ∃ w', (Builtin.clear_ #[t] ty #[.slice ad (n - k) c']).run P w = .ok (.tuple #[]) w' ∧ Has w' (row (.slice (some ⟨g, 0, none⟩) k cap) e size k (xs.take (k * size)) :: l) ∧ Keep w w' := by
  by_cases hkn : k = n
  · subst hkn
    refine ⟨w, ?_, hO.row_less k (Nat.le_refl _), Keep.refl w⟩
    rw [Nat.sub_self]
    cases ad <;> simp [Builtin.clear_, run_underlying ht]
  · obtain rfl := had (by omega)
    obtain ⟨hl, h2 | ⟨g', cap', cur, e1, h3, h4, h5, h6, h7⟩⟩ := hO.row_cases
    · exact absurd h2.1 (by simp)
    · simp only [Value.slice.injEq, Option.some.injEq, Addr.mk.injEq, true_and] at e1
      obtain ⟨⟨rfl, -⟩, rfl⟩ := e1
      have hzl : (Builtin.zeroCells z.cells (n - k)).toList.length = (n - k) * size := by rw [Array.length_toList, size_zeroCells, hzs]
      have hone : ∀ v ∈ (Builtin.zeroCells z.cells (n - k)).toList, v.oneCell' = true := by
        intro v hv
        obtain ⟨i, hi, rfl⟩ := List.getElem_of_mem hv
        have hi2 : i < (n - k) * z.cells.size := by rw [hzs, ← hzl]; exact hi
        have hp : 0 < z.cells.size := Nat.pos_of_mul_pos_left (Nat.lt_of_le_of_lt (Nat.zero_le _) hi2)
        have : (Builtin.zeroCells z.cells (n - k)).toList[i] ∈ z.cells.toList := by
          unfold Builtin.zeroCells
          simp
          have hm := Nat.mod_lt i hp
          rw [getElem!_pos z.cells _ hm]
          exact Array.getElem_mem hm
        exact h1 _ this
      have hms : (n - k) * size + k * size = n * size := by rw [← Nat.add_mul]; congr 1; omega
      have hmc : n * size ≤ cap * size := Nat.mul_le_mul_right _ h3
      have hst := run_storeCells_at P g (k * size) e (Builtin.zeroCells z.cells (n - k)).toList 0 cur w h7.lookup (by rw [hzl, h5]; omega) hone
      simp only [Nat.add_zero] at hst
      refine ⟨w.setRow g (cur.toList.take (k * size) ++ (Builtin.zeroCells z.cells (n - k)).toList ++ cur.toList.drop (k * size + (Builtin.zeroCells z.cells (n - k)).toList.length)).toArray, ?_, ?_, ⟨rfl, rfl, rfl, by simp⟩⟩
      · obtain ⟨m, hm⟩ : ∃ m, n - k = m + 1 := ⟨n - k - 1, by omega⟩
        rw [hm] at hst ⊢
        simp [Builtin.clear_, run_underlying ht, hz, hst]
      · refine (h7.turn (fun k _ hk => setRow_other w g k _ hk) (setRow_heap w g cur _ e _ h7.lookup)).row_of (by omega) h4 ?_ ?_ (by rw [List.length_take]; omega)
        · simp only [List.size_toArray, List.length_append, List.length_take, List.length_drop, Array.length_toList, hzl]
          omega
        · simp only [List.append_assoc]
          rw [List.take_append_of_le_length (by rw [List.length_take, Array.length_toList, h5]; omega), List.take_take, Nat.min_self, ← h6, List.take_take, Nat.min_eq_left (by omega)]
theorem wpList_clearTail {P : Program} {ops : Array Oper} {rest : List Oper} {o : Oper} {a : Act} {Q : Exit → Act → World → Prop} (hgd : o.guard = none) (x : Operand) (t : TypeId) (ho : o.op = .call { callee := .builtin .clear, args := #[x], argTypes := #[t] })
    (hO : Has w (row (.slice (some ⟨g, 0, none⟩) n cap) e size n xs :: l)) (ht : P.underlying t = some (.slice e)) {z : Value} (hz : ∀ w, (zeroValue e).run P w = .ok z w) (hzs : z.cells.size = size) (h1 : ∀ u ∈ z.cells.toList, u.oneCell' = true)
    (k : Nat) (hk : k ≤ n) (ad : Option Addr) (c' : Nat) (hx : a.eval x = .slice ad (n - k) c') (had : k < n → ad = some ⟨g, k * size, none⟩)
    (h : ∀ w', Has w' (row (.slice (some ⟨g, 0, none⟩) k cap) e size k (xs.take (k * size)) :: l) → Keep w w' → wpList P ops Q rest (a.put o.dst (.tuple #[])) w') : wpList P ops Q (o :: rest) a w :=
  wpList_plain hgd fun K hK => by
    obtain ⟨w', hrun, h2, h3⟩ := hO.clearTail (P := P) t o.type ht hz hzs h1 k hk ad c' had
    unfold Oper.wp execOp
    simp only [ho, resolve, invoke, builtin, Sem.run_bind, Sem.run_pure, Result.andThen_ok, List.map_toArray, List.map_cons, List.map_nil, hx, hrun]
    exact hK _ _ (h w' h2 h3)
end
end Go.Own
