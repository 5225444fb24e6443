/- TEXTS of mine, merged. -/
import Derived.Test.YtajnhggcaiakeaaM8
import Derived.Test.YtajnhggcaiakeaaM5
import Derived.Test.YtajnhggcaiakeaaM1
import Derived.ProofKit
import Derived.OpenShut
import Derived.ShutString
import Derived.ChangeOld
import Derived.Deep.Slices
/- A chain, from which one is dropped: plain. -/
namespace Go.Proofs.Ytajnhggcaiakeaa
open Go.RowKit Go.Own Go.Maps Go.ChangeMaps Go.Own.Dp
theorem strict_ext : ∀ {l m : List Int}, l.Pairwise (· < ·) → m.Pairwise (· < ·) → (∀ x, x ∈ l ↔ x ∈ m) → l = m
  | [], [], _, _, _ => rfl
  | [], y :: m, _, _, h => absurd ((h y).2 (List.mem_cons_self ..)) (by simp)
  | x :: l, [], _, _, h => absurd ((h x).1 (List.mem_cons_self ..)) (by simp)
  | x :: l, y :: m, hl, hm, h => by
    rw [List.pairwise_cons] at hl hm
    have hxy : x = y := by
      rcases List.mem_cons.1 ((h x).1 (List.mem_cons_self ..)) with e | e
      · exact e
      · rcases List.mem_cons.1 ((h y).2 (List.mem_cons_self ..)) with e2 | e2
        · exact e2.symm
        · have := hm.1 x e; have := hl.1 y e2; omega
    subst hxy
    rw [strict_ext hl.2 hm.2 fun z => ?_]
    constructor
    · intro hz
      rcases List.mem_cons.1 ((h z).1 (List.mem_cons_of_mem _ hz)) with e | e
      · have := hl.1 z hz; omega
      · exact e
    · intro hz
      rcases List.mem_cons.1 ((h z).2 (List.mem_cons_of_mem _ hz)) with e | e
      · have := hm.1 z hz; omega
      · exact e
/-- Each needs the one ahead of it. -/
def fC (j : Nat) : List Int := if 2 ≤ j then [((j - 1 : Nat) : Int)] else []
/-- While the last is without needs. -/
def fC0 (i j : Nat) : List Int := if j = i then [] else fC j
theorem fC_add (i : Nat) : chain fC i ++ [(((i + 1 : Nat) : Int), [])] = chain (fC0 (i + 1)) (i + 1) := by
  rw [chain_snoc]
  congr 1
  · refine chain_congr fun j _ h => ?_
    unfold fC0
    rw [if_neg (by omega)]
  · simp [fC0]
theorem fC_one : chain (fC0 1) 1 = chain fC 1 := chain_congr fun j h1 h2 => by
  obtain rfl : j = 1 := by omega
  simp [fC0, fC]
theorem fC_dn : Dn fC where
  lo j y hy := by
    unfold fC at hy
    split at hy
    · simp at hy; omega
    · simp at hy
  len j := by unfold fC; split <;> simp
theorem fC0_dn (i : Nat) : Dn (fC0 i) where
  lo j y hy := by
    unfold fC0 at hy
    split at hy
    · simp at hy
    · exact fC_dn.lo j y hy
  len j := by
    unfold fC0
    split
    · simp
    · exact fC_dn.len j
theorem fC_next (i : Nat) (h : 1 ≤ i) : addN (chain (fC0 (i + 1)) (i + 1)) ((i + 1 : Nat) : Int) (i : Int) = chain fC (i + 1) := by
  rw [addN_chain (by omega) (by simp [fC0])]
  refine chain_congr fun j _ _ => ?_
  by_cases e : j = i + 1
  · subst e
    rw [if_pos rfl]
    simp [fC0, fC, h]
  · rw [if_neg e]
    simp [fC0, e]
/-- The numbers behind a, up to b. -/
def upL (a b : Nat) : List Int := (List.range (b - a)).map fun j => ((a + 1 + j : Nat) : Int)
theorem upL_len (a b : Nat) : (upL a b).length = b - a := by simp [upL]
theorem upL_mem {a b : Nat} {x : Int} : x ∈ upL a b ↔ a < x ∧ x ≤ b := by
  unfold upL
  rw [List.mem_map]
  constructor
  · rintro ⟨j, hj, rfl⟩
    rw [List.mem_range] at hj
    omega
  · rintro ⟨h1, h2⟩
    exact ⟨x.toNat - a - 1, by rw [List.mem_range]; omega, by omega⟩
theorem upL_up (a b : Nat) : (upL a b).Pairwise (· < ·) := by
  unfold upL
  refine List.Pairwise.map _ (R := (· < ·)) (fun a b h => by omega) List.pairwise_lt_range
theorem fC_nd {n : Nat} {x : Int} (h : 1 ≤ x ∧ x ≤ n) : nd (chain fC n) x = if 2 ≤ x then [x - 1] else [] := by
  rw [chain_nd', if_pos h]
  unfold fC
  by_cases h2 : 2 ≤ x
  · rw [if_pos h2, if_pos (by omega)]
    congr 1
    omega
  · rw [if_neg h2, if_neg (by omega)]
theorem cloC {n : Nat} (h : 1 ≤ n) : clo (chain fC n) [(n : Int)] = upL 0 n := by
  refine clo_up (chain_nodup _ _) (upL_up _ _) fun x => ?_
  rw [upL_mem]
  constructor
  · rintro ⟨h1, h2⟩
    obtain ⟨d, hd⟩ : ∃ d : Nat, x = n - d := ⟨(n - x).toNat, by omega⟩
    subst hd
    induction d with
    | zero => exact .base _ (by simp) (chain_ids.2 (by omega))
    | succ d ih =>
      refine .step _ ((n : Int) - (d : Nat)) (ih (by omega) (by omega)) ?_ (chain_ids.2 (by omega))
      rw [fC_nd (by omega), if_pos (by omega), List.mem_singleton]
      omega
  · intro hr
    have := chain_ids.1 hr.there
    omega
theorem dr1_ids (E : Gph) (q x : Int) : x ∈ ids (dr1 E q) ↔ x ∈ ids E ∧ x ≠ q := by
  unfold dr1 ids
  simp only [List.map_map, List.mem_map, List.mem_filter, Function.comp, bne_iff_ne]
  constructor
  · rintro ⟨e, ⟨h1, h2⟩, rfl⟩
    exact ⟨⟨e, h1, rfl⟩, h2⟩
  · rintro ⟨⟨e, h1, rfl⟩, h2⟩
    exact ⟨e, ⟨h1, h2⟩, rfl⟩
theorem dr1_nodup {E : Gph} {q : Int} (h : (ids E).Nodup) : (ids (dr1 E q)).Nodup := by
  unfold dr1 ids
  rw [List.map_map]
  exact h.sublist (List.Sublist.map _ List.filter_sublist)
theorem dr1_nd (E : Gph) (q x : Int) (h : x ≠ q) : nd (dr1 E q) x = (nd E x).filter fun y => y != q := by
  unfold dr1 nd
  rw [List.find?_map, List.find?_filter]
  have : (fun a : Int × List Int => decide ((a.1 != q) = true ∧ ((fun e : Int × List Int => e.1 == x) ∘ fun e => (e.1, e.2.filter fun y => y != q)) a = true)) = fun a => a.1 == x := by
    funext a
    by_cases e : a.1 = x
    · simp [e, h]
    · simp [e]
  rw [this]
  cases E.find? fun e => e.1 == x <;> simp
theorem dr1_len (E : Gph) (q : Int) : (dr1 E q).length ≤ E.length := by
  unfold dr1
  rw [List.length_map]
  exact List.length_filter_le _ _
section
variable {n q : Nat}
theorem dC_nd {x : Int} (h : 1 ≤ x ∧ x ≤ n) (hq : x ≠ q) : nd (dr1 (chain fC n) q) x = if 2 ≤ x ∧ x - 1 ≠ q then [x - 1] else [] := by
  rw [dr1_nd _ _ _ hq, fC_nd h]
  by_cases h2 : 2 ≤ x
  · rw [if_pos h2]
    by_cases h3 : x - 1 = q
    · simp [h3]
    · simp [h2, h3]
  · simp [h2]
theorem dC_len (x : Int) : (nd (dr1 (chain fC n) q) x).length ≤ 100 := by
  by_cases h : x ∈ ids (dr1 (chain fC n) q)
  · have h1 := (dr1_ids _ _ _).1 h
    rw [dr1_nd _ _ _ h1.2]
    exact Nat.le_trans (List.length_filter_le _ _) (fC_dn.nd n x)
  · rw [nd_none h]; simp
theorem cloD (h1 : 1 ≤ q) (h2 : q < n) : clo (dr1 (chain fC n) q) [(n : Int)] = upL q n := by
  refine clo_up (dr1_nodup (chain_nodup _ _)) (upL_up _ _) fun x => ?_
  rw [upL_mem]
  constructor
  · rintro ⟨h3, h4⟩
    obtain ⟨d, hd⟩ : ∃ d : Nat, x = n - d := ⟨(n - x).toNat, by omega⟩
    subst hd
    induction d with
    | zero => exact .base _ (by simp) ((dr1_ids _ _ _).2 ⟨chain_ids.2 (by omega), by omega⟩)
    | succ d ih =>
      refine .step _ ((n : Int) - (d : Nat)) (ih (by omega) (by omega)) ?_ ((dr1_ids _ _ _).2 ⟨chain_ids.2 (by omega), by omega⟩)
      rw [dC_nd (by omega) (by omega), if_pos (by omega), List.mem_singleton]
      omega
  · intro hr
    induction hr with
    | base x h3 _ => rw [List.mem_singleton] at h3; omega
    | step x y hr h3 h4 ih =>
      have h5 := (dr1_ids _ _ _).1 h4
      have h6 := chain_ids.1 h5.1
      have h7 := (dr1_ids _ _ _).1 hr.there
      have h8 := chain_ids.1 h7.1
      rw [dC_nd h8 h7.2] at h3
      split at h3
      · rw [List.mem_singleton] at h3
        omega
      · simp at h3
/-- Those that need nothing. -/
def rdC (q : Nat) : List Int := if 1 < q then [1, ((q + 1 : Nat) : Int)] else [((q + 1 : Nat) : Int)]
theorem readyC (h1 : 1 ≤ q) (h2 : q < n) : ((sorted (ids (dr1 (chain fC n) q))).filter fun x => !someN (dr1 (chain fC n) q) x) = rdC q := by
  refine strict_ext ?_ ?_ fun x => ?_
  · refine List.Pairwise.sublist List.filter_sublist ?_
    have h3 := sorted_sorted (ids (dr1 (chain fC n) q))
    have h4 := (sorted_perm (ids (dr1 (chain fC n) q))).nodup_iff.2 (dr1_nodup (chain_nodup _ _))
    exact List.Pairwise.imp₂ (fun a b h5 (h6 : a ≠ b) => by simp at h5; omega) h3 h4
  · unfold rdC
    split <;> simp
    omega
  · rw [List.mem_filter, (sorted_perm _).mem_iff, dr1_ids, chain_ids]
    unfold someN
    constructor
    · rintro ⟨⟨h3, h4⟩, h5⟩
      rw [dC_nd h3 h4] at h5
      unfold rdC
      split at h5
      · simp at h5
      · split
        · simp only [List.mem_cons, List.not_mem_nil, or_false]; omega
        · simp only [List.mem_cons, List.not_mem_nil, or_false]; omega
    · intro h3
      have h4 : x = q + 1 ∨ (x = 1 ∧ 1 < q) := by
        unfold rdC at h3
        split at h3 <;> simp only [List.mem_cons, List.not_mem_nil, or_false] at h3 <;> omega
      refine ⟨⟨by omega, by omega⟩, ?_⟩
      rw [dC_nd (by omega) (by omega), if_neg (by omega)]
      rfl
theorem dropC (h1 : 1 ≤ q) (h2 : q < n) (h3 : n ≤ 90) : dropF (chain fC n) [(q : Int), 99] = (dr1 (chain fC n) q, 1) := by
  unfold dropF
  simp only [List.foldl_cons, List.foldl_nil]
  rw [show stepD (chain fC n, 0) q = (dr1 (chain fC n) q, 1) from by
    unfold stepD
    rw [if_pos (chain_ids.2 (by omega))]]
  unfold stepD
  rw [if_neg]
  intro h
  have := chain_ids.1 ((dr1_ids _ _ _).1 h).1
  omega
end
end Go.Proofs.Ytajnhggcaiakeaa
/- Closure and Levels of no graph. -/
namespace Go.Proofs.Ytajnhggcaiakeaa
open Go.RowKit Go.Own Go.Maps Go.ChangeMaps Go.Own.Dp
theorem sorted_nil : sorted [] = [] := by simp [sorted]
set_option maxRecDepth 100000 in
set_option maxHeartbeats 8000000 in
theorem gClosureNil (v : Value) (is : List Int) (w : World) (L : List HP) (hok : ∀ x ∈ is, okK x) (hil : is.length ≤ 1000) (hr : Rd w v 1 is.length (ic is)) (hO : Has w L) :
    Calls Try.prog 13 #[.pointer none, v] w fun e w' => ∃ v', e = .returned v' ∧ Has w' (Ints v' [] :: L) ∧ Keep w w' := by
  obtain ⟨vp, vc, rfl, -⟩ := hr.form
  have HO := hid hO
  have HR := hid hr
  have HK := hid hok
  have HI := hid hil
  clear hO hr hok hil
  have hmm := @run_makeMap Try.prog
  go_enter Try.func13, Try.ntmps13
  go_wp2_with fail
  go_step3
  go_wp2_with fail
  have HO1 := hid (show Has (w.alloc (.map #[] 0)) (Ns w.heap.size [] :: L) from Ns.iff.2 ⟨_, Al.nil, HO.out.mapMade Try.prog tI rI⟩)
  have HK1 := hid ((Keep.refl w).alloc (.map #[] 0))
  have HR1 := hid (HR.out.alloc (.map #[] 0))
  clear HO HR
  generalize w.alloc (.map #[] 0) = w1 at *
  generalize w.heap.size = sb at *
  refine (cloneInts (.slice vp is.length vc) is w1 _ HO1.out HR1.out (by have := HI.out; omega)).mono ?_
  rintro e w2 ⟨v2, rfl, hO2, hK2, -⟩
  have HO2 := hid hO2
  have HK2 := hid (HK1.out.trans hK2)
  obtain ⟨vp2, vc2, hv2, -⟩ := (Ints.rd hO2).form
  subst hv2
  clear hO2 hK2 HO1 HK1 HR1
  try dsimp only
  go_wp2_with fail
  go_step3
  go_wp2_with fail
  go_loopw [6] (fun v wr => ∃ (lf : List Int), Hid (lf.length ≤ 1000 ∧ ∀ x ∈ lf, okK x) ∧ (∃ p c, v = .slice p lf.length c) ∧ Hid (Has wr (Ints v lf :: Ns sb [] :: L)) ∧ Hid (Keep w wr)) (fun v _ => lenV v)
  case atStart => exact ⟨is, hid ⟨HI.out, HK.out⟩, ⟨_, _, rfl⟩, hid HO2.out, HK2⟩
  case round =>
    clear HO2 HK2
    obtain ⟨lf, HC, ⟨vp, vc, rfl⟩, HO, HKW⟩ := hrel
    rcases List.eq_nil_or_concat lf with rfl | ⟨lf, x, rfl⟩
    · have hz : ¬ (0 : Int) < (([] : List Int).length : Int) := by simp
      go_wp2_with fail
      refine (keysN sb wr).mono ?_
      rintro e w' ⟨rfl, rfl⟩
      go_wp2_with fail
      refine (sortedN sb [] wr _ (by simp) HO.out.p1).mono ?_
      rintro e w3 ⟨v3, rfl, hO3, hK3⟩
      rw [sorted_nil] at hO3
      have HO3 := hid hO3
      have HK3 := hid (HKW.out.trans hK3)
      clear hO3 hK3
      obtain ⟨vp3, vc3, e3, -⟩ := (Ints.rd HO3.out).form
      subst e3
      try dsimp only
      go_wp2_with fail
      rw [Exit.noGoto_ret]
      go_ret
      exact ⟨_, rfl, HO3.out.keep [true, false, false], HK3.out⟩
    · rw [List.concat_eq_append] at *
      have hlen : (lf ++ [x]).length = lf.length + 1 := by simp
      rw [hlen] at HO ⊢
      obtain ⟨-, ⟨e, -⟩ | ⟨g', cap, cur, e, -⟩⟩ := Has.row_cases (show Has wr (row (.slice vp (lf.length + 1) vc) tI 1 (lf ++ [x]).length (ic (lf ++ [x])) :: _) from HO.out)
      · simp at e
      simp only [Value.slice.injEq, true_and] at e
      obtain ⟨rfl, -, rfl⟩ := e
      have hcell : wr.cell? ⟨g', lf.length, none⟩ = some (.int .i64 x) := by
        rw [(Has.row_cells HO.out).2.1 lf.length (by rw [hlen]; omega), ic_snoc, List.getElem?_append_right (by rw [ic_len]; exact Nat.le_refl _), ic_len]
        simp
      have HX := hid (HC.out.2 x (by simp))
      have hkc : lf.length ≤ vc := by have := (Has.row_cells HO.out).2.2.2.1; rw [hlen] at this; omega
      have hlook := Ns.look HO.out.p1 HX.out
      have hxs : ¬ x ∈ ([] : List Int) := by simp
      rw [if_neg hxs, decide_eq_false hxs] at hlook
      have HL := hid hlen
      have HLE := hid (show Has wr (Ints (.slice (some ⟨g', 0, none⟩) lf.length vc) lf :: Ns sb [] :: L) from by
        have h := Has.row_take HO.out lf.length (by rw [hlen]; omega)
        rw [ic_snoc, List.take_append_of_le_length (by rw [ic_len]; omega), List.take_of_length_le (by rw [ic_len]; omega)] at h
        exact h)
      have hk0 : (0 : Int) ≤ (lf.length : Int) := by omega
      have hk3 : (lf.length : Int) ≤ 100000 := by have h1 := HC.out.1; omega
      have hk1 : (0 : Int) < (lf.length : Int) + 1 := by omega
      have hk2 : (lf.length : Int) < (lf.length : Int) + 1 := by omega
      have HC' := hid (show lf.length ≤ 1000 ∧ ∀ x ∈ lf, okK x from ⟨by have := HC.out.1; omega, fun y hy => HC.out.2 y (by simp [hy])⟩)
      clear hlen HC HO hxs
      have hth := gThereNil x wr
      go_wp2_with fail
      refine (hth).mono ?_
      rintro e w' ⟨rfl, rfl⟩
      try dsimp only
      go_wp2_with fail
      exact ⟨⟨lf, HC', ⟨_, _, rfl⟩, HLE, HKW⟩, by simp [lenV]⟩
set_option maxRecDepth 100000 in
set_option maxHeartbeats 4000000 in
theorem gLevelsNil (v : Value) (is : List Int) (w : World) (L : List HP) (hok : ∀ x ∈ is, okK x) (hil : is.length ≤ 1000) (hr : Rd w v 1 is.length (ic is)) (hO : Has w L) :
    Calls Try.prog 12 #[.pointer none, v] w fun e w' => e = .returned (.slice none 0 0) ∧ Has w' L ∧ Keep w w' := by
  obtain ⟨vp, vc, rfl, -⟩ := hr.form
  have HC := hid (gClosureNil (.slice vp is.length vc) is w L hok hil hr hO)
  clear hO hr hok hil
  have hmm := @run_makeMap Try.prog
  go_enter Try.func12, Try.ntmps12
  go_wp2_with fail
  refine HC.out.mono ?_
  rintro e w1 ⟨v1, rfl, hO1, hK1⟩
  have HO1 := hid hO1
  have HK1 := hid hK1
  clear hO1 hK1 HC
  obtain ⟨vp1, vc1, e1, -⟩ := (Ints.rd HO1.out).form
  subst e1
  try dsimp only
  have hz : ¬ (0 : Int) < (([] : List Int).length : Int) := by simp
  go_wp2_with fail
  go_loopw [5, 7] (fun v5 v7 wr => (∃ p c, v5 = .slice p ([] : List Int).length c) ∧ v7 = .slice none 0 0 ∧ Hid (Has wr L) ∧ Hid (Keep w wr)) (fun _ _ _ => 0)
  case atStart => exact ⟨⟨_, _, rfl⟩, rfl, hid (HO1.out.drop.alloc' _), hid (HK1.out.alloc _)⟩
  case round =>
    obtain ⟨⟨p5, c5, rfl⟩, rfl, HO, HK⟩ := hrel
    go_wp2_with fail
    go_ret
    exact ⟨rfl, HO.out, HK.out⟩
end Go.Proofs.Ytajnhggcaiakeaa
/- Drop of no graph. -/
namespace Go.Proofs.Ytajnhggcaiakeaa
open Go.RowKit Go.Own Go.Maps Go.ChangeMaps Go.Own.Dp
set_option maxRecDepth 100000 in
set_option maxHeartbeats 4000000 in
theorem gDropNil (g : Nat) (o : Nat) (c : Nat) (x : Int) (w : World) (hc : w.cell? ⟨g, o, none⟩ = some (.int .i64 x)) : Calls Try.prog 16 #[.pointer none, .slice (some ⟨g, o, none⟩) 1 c] w fun e w' => e = .returned (.int .i64 0) ∧ w = w' := by
  go_enter Try.func16, Try.ntmps16
  go_wp2_with fail
  go_loopw [12, 5] (fun i n w' => ∃ k : Nat, k ≤ 1 ∧ i = .int .i64 k ∧ n = .int .i64 0 ∧ w = w') (fun i _ _ => 1 - (intOf i).toNat)
  case atStart => exact ⟨0, by omega, rfl, rfl, rfl⟩
  case round =>
    obtain ⟨k, hk, rfl, rfl, rfl⟩ := hrel
    by_cases hlt : k < 1
    · obtain rfl : k = 0 := by omega
      have hz : ((0 : Nat) : Int) = 0 := rfl
      rw [hz]
      go_wp2_with fail
      refine (gThereNil x w).mono ?_
      rintro e w' ⟨rfl, rfl⟩
      try dsimp only
      go_wp2_with fail
      exact ⟨⟨1, by omega, by go_num, rfl, trivial⟩, by simp [intOf]⟩
    · obtain rfl : k = 1 := by omega
      go_wp2_with fail
      go_ret
      exact ⟨rfl, rfl⟩
end Go.Proofs.Ytajnhggcaiakeaa
/- DepsDrops: what is dropped is needed no more; of none each call says so. For every input. -/
namespace Go.Proofs.Ytajnhggcaiakeaa
open Go.RowKit Go.Own Go.Maps Go.ChangeMaps Go.Own.Dp
theorem okS3 (n : Nat) (h : n ≤ 1000) : okK (n : Int) := by
  show (Lit.int .i64 (n : Int)).wf = true
  unfold Lit.wf
  rw [Bool.and_eq_true, decide_eq_true_iff, decide_eq_true_iff]
  have h1 : IntKind.min .i64 = -9223372036854775808 := by decide
  have h2 : IntKind.max .i64 = 9223372036854775807 := by decide
  rw [h1, h2]
  omega
set_option maxRecDepth 100000 in
set_option maxHeartbeats 16000000 in
theorem dropsWalk (many which : Int) (W : World) :
    Calls Try.prog 5 #[.int .i64 many, .int .i64 which] W fun e w' => e = .returned (.bool true) ∧ Below W.heap.size W w' := by
  have HO0 := hid (Has.start W)
  obtain ⟨m, hm⟩ : ∃ m : Nat, (m : Int) = 2 + low many 11 := ⟨(2 + low many 11).toNat, by have := low_in many 11 (by omega); omega⟩
  have hml : m ≤ 12 := by have := low_in many 11 (by omega); omega
  have hm2 : 2 ≤ m := by have := low_in many 11 (by omega); omega
  have hmb : 2 + low many 11 ≤ 12 ∧ 0 ≤ 2 + low many 11 := by have := low_in many 11 (by omega); omega
  have HM := hid hm
  clear hm
  go_enter Try.func5, Try.ntmps5
  go_wp2_with fail
  refine (lowAny many 11 W (by omega) (by omega)).mono ?_
  rintro e w' ⟨rfl, rfl⟩
  try dsimp only
  go_wp2_with fail
  rw [← HM.out]
  refine (xNew W _ HO0.out).mono ?_
  rintro e w1 ⟨g, rfl, hO1, hK1⟩
  have HO1 := hid (show Has w1 (Gx g (chain fC 0) :: [old W]) from hO1)
  have HK1 := hid hK1
  clear hO1 hK1 HO0 hmb
  try dsimp only
  go_wp2_with fail
  go_loopw [6] (fun i w => ∃ n : Nat, n ≤ m ∧ i = .int .i64 ((n + 1 : Nat) : Int) ∧ Hid (Has w (Gx g (chain fC n) :: [old W])) ∧ Hid (Keep W w)) (fun i _ => m + 1 - (intOf i).toNat)
  case atStart => exact ⟨0, by omega, rfl, HO1, HK1⟩
  case round =>
    clear HO1 HK1
    obtain ⟨n, hn, rfl, HO, HK⟩ := hrel
    by_cases hlt : n < m
    · have hi : ((n + 1 : Nat) : Int) ≤ (m : Int) := by omega
      have hlen := chain_len fC n
      have hnot : ((n + 1 : Nat) : Int) ∉ ids (chain fC n) := fun h => by have := chain_ids.1 h; omega
      have HA := hid (xAdd g (chain fC n) ((n + 1 : Nat) : Int) wr _ (okS3 _ (by omega)) (by omega) hnot (by rw [hlen]; omega) HO.out)
      rw [fC_add] at HA
      have HN := hid (And.intro hn hlt)
      clear hlen hnot hn
      by_cases h0 : n = 0
      · subst h0
        rw [fC_one] at HA
        have hz : ((0 + 1 : Nat) : Int) = 1 := rfl
        rw [hz] at *
        clear hlt
        go_wp2_with fail
        refine HA.out.mono ?_
        rintro e w2 ⟨rfl, hO2, hK2⟩
        have HO2 := hid hO2
        have HK2 := hid (HK.out.trans hK2)
        clear hO2 hK2 HA HO HK
        try dsimp only
        go_wp2_with fail
        exact ⟨⟨1, by omega, by go_num, HO2, HK2⟩, by simp [intOf]; omega⟩
      · have hng : (1 : Int) < ((n + 1 : Nat) : Int) := by omega
        obtain ⟨i, hq⟩ : ∃ i : Nat, i = n + 1 := ⟨_, rfl⟩
        have hsub : ((n + 1 : Nat) : Int) - 1 = (n : Int) := by omega
        rw [← hq] at HA hi hng hsub
        rw [← hq]
        have hN := fun (w : World) (hO : Has w (Gx g (chain (fC0 i) i) :: [old W])) => xNeeds g (chain (fC0 i) i) i n w [old W] (chain_ids.2 (by omega)) (chain_ids.2 (by omega)) (by rw [chain_len]; omega) ((fC0_dn i).nd i) hO
        have HNR := hid (show ¬ Rch (chain (fC0 i) i) [(n : Int)] i from fun hr => by
          have := (fC0_dn i).below (m := n) (by intro y hy; rw [List.mem_singleton] at hy; omega) hr
          omega)
        have HNX := hid hN
        have HFN := hid (show addN (chain (fC0 i) i) (i : Int) (n : Int) = chain fC i from by rw [hq]; exact fC_next n (by omega))
        have HQ := hid hq
        have hi12 : (i : Int) ≤ 12 := by omega
        clear hq hlt h0 hN
        go_wp2_with fail
        refine HA.out.mono ?_
        rintro e w2 ⟨rfl, hO2, hK2⟩
        have HO2 := hid hO2
        have HK2 := hid (HK.out.trans hK2)
        clear hO2 hK2 HA HO HK
        try dsimp only
        go_wp2_with fail
        refine (HNX.out w2 HO2.out).mono ?_
        rintro e w6 ⟨r, rfl, -, h4, ⟨E', -, h5, hO6⟩, hK6⟩
        obtain rfl := h4 HNR.out
        obtain rfl := h5 HNR.out
        rw [HFN.out] at hO6
        have HO6 := hid hO6
        have HK6 := hid (HK2.out.trans hK6)
        clear hO6 hK6 HO2 HK2 HNX h4 h5
        try dsimp only
        go_wp2_with fail
        have h9 := HQ.out
        subst h9
        exact ⟨⟨n + 1, by have := HN.out; omega, by go_num, HO6, HK6⟩, by have := HN.out; simp [intOf]; omega⟩
    · obtain rfl : n = m := by omega
      have hi : ¬ ((n + 1 : Nat) : Int) ≤ (n : Int) := by omega
      clear hlt hn
      obtain ⟨q, hq⟩ : ∃ q : Nat, (q : Int) = 1 + low which ((n : Int) - 1) := ⟨(1 + low which ((n : Int) - 1)).toNat, by have := low_in which ((n : Int) - 1) (by omega); omega⟩
      have hq1 : 1 ≤ q := by have := low_in which ((n : Int) - 1) (by omega); omega
      have hqn : q < n := by have := low_in which ((n : Int) - 1) (by omega); omega
      have hqb : 1 + low which ((n : Int) - 1) ≤ 12 ∧ 0 ≤ 1 + low which ((n : Int) - 1) := by have := low_in which ((n : Int) - 1) (by omega); omega
      have HCC := hid (cloC (n := n) (by omega))
      have HCD := hid (cloD hq1 hqn)
      have HRD := hid (readyC hq1 hqn)
      have HDC := hid (dropC hq1 hqn (by omega))
      have HQ := hid hq
      have hn0 : (2 : Int) ≤ (n : Int) := by omega
      have HXC := hid (fun (w : World) (E : Gph) (v : Value) (L : List HP) (hE : E.length ≤ 100) (hnd : ∀ x, (nd E x).length ≤ 100) (hr : Rd w v 1 [(n : Int)].length (ic [(n : Int)])) (hO : Has w (Gx g E :: L)) => xClosure g E v [(n : Int)] w L (fun x hx => by rw [List.mem_singleton] at hx; subst hx; exact okS3 n (by omega)) (by simp) hE hnd hr hO)
      have HXA := hid (HXC.out (wr.alloc (.cells #[.int .i64 n] 3)) (chain fC n) (.slice (some ⟨wr.heap.size, 0, none⟩) 1 1) [old W] (by rw [chain_len]; omega) (fC_dn.nd n) (Ints.rd (HO.out.alloc (.cells #[.int .i64 n] 3)).lit) (HO.out.alloc' (.cells #[.int .i64 n] 3)))
      have HK1 := hid (HK.out.alloc (.cells #[.int .i64 n] 3))
      rw [HCC.out] at HXA
      have HQ1 := hid hq1
      have HQN := hid hqn
      have HDL := hid (show (dr1 (chain fC n) q).length ≤ 100 from Nat.le_trans (dr1_len _ _) (by rw [chain_len]; omega))
      have HQK := hid (okS3 q (by omega))
      clear hq hq1 hqn HO HK HCC
      go_wp2_with fail
      refine (lowAny which ((n : Int) - 1) wr (by omega) (by omega)).mono ?_
      rintro e w' ⟨rfl, rfl⟩
      try dsimp only
      go_wp2_with fail
      rw [← HQ.out]
      refine HXA.out.mono ?_
      rintro e w2 ⟨v2, rfl, hO2, hK2⟩
      have HO2 := hid hO2.p1
      have HK2 := hid (HK1.out.trans hK2)
      obtain ⟨p2, c2, rfl⟩ : ∃ p c, v2 = .slice p n c := by
        obtain ⟨p8, c8, e8, -⟩ := (Ints.rd hO2).form
        rw [upL_len, Nat.sub_zero] at e8
        exact ⟨p8, c8, e8⟩
      clear hO2 hK2 HXA HK1 hqb
      try dsimp only
      go_wp2_with fail
      have hR := fun (w' : World) (h : Has w' (Ints (.slice (some ⟨w2.heap.size, 0, none⟩) 2 2) [(q : Int), 99] :: Ints (.slice p2 n c2) (upL 0 n) :: [old W])) => Ints.rd h
      refine (xDrop g (chain fC n) (.slice (some ⟨w2.heap.size, 0, none⟩) 2 2) [(q : Int), 99] (w2.alloc (.cells #[.int .i64 q, .int .i64 99] 3)) (Ints (.slice (some ⟨w2.heap.size, 0, none⟩) 2 2) [(q : Int), 99] :: Ints (.slice p2 n c2) (upL 0 n) :: [old W]) (by intro x hx; simp only [List.mem_cons, List.not_mem_nil, or_false] at hx; rcases hx with rfl | rfl; exact HQK.out; exact okS3 99 (by omega)) (by simp) hR ((HO2.out.alloc (.cells #[.int .i64 q, .int .i64 99] 3)).lit2.p1)).mono ?_
      rintro e w3 ⟨rfl, hO3, hK3⟩
      rw [HDC.out] at hO3 ⊢
      have HO3 := hid hO3
      have HK3 := hid ((HK2.out.alloc (.cells #[.int .i64 q, .int .i64 99] 3)).trans hK3)
      clear hO3 hK3 HO2 HK2 hR HDC
      try dsimp only
      go_wp2_with fail
      refine (HXC.out (w3.alloc (.cells #[.int .i64 n] 3)) (dr1 (chain fC n) q) (.slice (some ⟨w3.heap.size, 0, none⟩) 1 1) _ HDL.out dC_len (Ints.rd (HO3.out.alloc (.cells #[.int .i64 n] 3)).lit) (HO3.out.alloc' (.cells #[.int .i64 n] 3))).mono ?_
      rintro e w4 ⟨v4, rfl, hO4, hK4⟩
      rw [HCD.out] at hO4
      have HO4 := hid hO4.p1
      have HK4 := hid ((HK3.out.alloc (.cells #[.int .i64 n] 3)).trans hK4)
      obtain ⟨p4, c4, rfl⟩ : ∃ p c, v4 = .slice p (n - q) c := by
        obtain ⟨p8, c8, e8, -⟩ := (Ints.rd hO4).form
        rw [upL_len] at e8
        exact ⟨p8, c8, e8⟩
      have hnq : ((n - q : Nat) : Int) = (n : Int) - q := by have := HQN.out; omega
      have hq12 : (q : Int) ≤ 12 := by have := HQN.out; omega
      have hq11 : (1 : Int) ≤ (q : Int) := by have := HQ1.out; omega
      clear hO4 hK4 HO3 HK3
      try dsimp only
      by_cases hqb : 1 < q
      · have hqi : (1 : Int) < (q : Int) := by omega
        have HQB := hid hqb
        clear hqb
        have hsz1 : (w4.alloc (.cells #[.int .i64 ((q : Int) + 1)] 3)).heap.size = w4.heap.size + 1 := Array.size_push _
        have HOA := hid ((HO4.out.alloc' (.cells #[.int .i64 ((q : Int) + 1)] 3)).alloc (.cells #[.int .i64 1, .int .i64 ((q : Int) + 1)] 3)).lit2
        have HKA := hid ((HK4.out.alloc (.cells #[.int .i64 ((q : Int) + 1)] 3)).alloc (.cells #[.int .i64 1, .int .i64 ((q : Int) + 1)] 3))
        rw [hsz1] at HOA
        clear hsz1
        go_wp2_with fail
        generalize hwB : (w4.alloc (.cells #[.int .i64 ((q : Int) + 1)] 3)).alloc (.cells #[.int .i64 1, .int .i64 ((q : Int) + 1)] 3) = wB at *
        generalize w4.heap.size + 1 = gB at *
        have HOB := HOA
        have HKB := HKA
        clear HOA HKA hwB
        have HRR := hid (xReady g (dr1 (chain fC n) q) wB _ (Nat.le_trans HDL.out (by omega)) HOB.out.p1)
        rw [HRD.out] at HRR
        refine HRR.out.mono ?_
        rintro e w5 ⟨v5, rfl, hO5, hK5⟩
        unfold rdC at hO5
        rw [if_pos HQB.out] at hO5
        have HO5 := hid (show Has w5 (Ints v5 [1, ((q : Int) + 1)] :: _) from hO5)
        have HK5 := hid (HKB.out.trans hK5)
        obtain ⟨p5, c5, e5, -⟩ := (Ints.rd hO5).form
        subst e5
        clear hO5 hK5 HRR HO4 HK4 HOB HKB
        try dsimp only
        go_wp2_with fail
        go_wp2_with fail
        refine (sameIntsYes _ _ [1, ((q : Int) + 1)] w5 (Ints.rd HO5.out) (Ints.rd HO5.out.p2)).mono ?_
        rintro e w' ⟨rfl, nq6, rfl⟩
        have HO6 := hid ((HO5.out).drewN nq6)
        have HK6 := hid ((HK5.out).drewN nq6)
        try dsimp only
        generalize w5.drewN nq6 = w6 at *
        clear HO5 HK5
        go_wp2_with fail
        go_wp2_with fail
        refine (gAddNil 1 w6).mono ?_
        rintro e w' ⟨rfl, rfl⟩
        try dsimp only
        go_wp2_with fail
        go_wp2_with fail
        refine (gNeedsNil 1 2 w6).mono ?_
        rintro e w' ⟨rfl, rfl⟩
        try dsimp only
        go_wp2_with fail
        have HO7 := hid (HO6.out.alloc (.cells #[.int .i64 1] 3))
        have HK7 := hid (HK6.out.alloc (.cells #[.int .i64 1] 3))
        have hc7 := HO7.out.cells 0
        refine (gDropNil w6.heap.size 0 1 1 (w6.alloc (.cells #[.int .i64 1] 3)) hc7).mono ?_
        rintro e w' ⟨rfl, rfl⟩
        generalize w6.alloc (.cells #[.int .i64 1] 3) = w7 at *
        clear hc7 HO6 HK6
        try dsimp only
        go_wp2_with fail
        refine (gClosureNil (.slice (some ⟨w7.heap.size, 0, none⟩) 1 1) [1] (w7.alloc (.cells #[.int .i64 1] 3)) _ (by intro x hx; rw [List.mem_singleton] at hx; subst hx; exact ok1) (by simp) (Ints.rd (HO7.out.alloc (.cells #[.int .i64 1] 3)).lit) (HO7.out.alloc' (.cells #[.int .i64 1] 3))).mono ?_
        rintro e w8 ⟨v8, rfl, hO8, hK8⟩
        have HO8 := hid hO8
        have HK8 := hid ((HK7.out.alloc (.cells #[.int .i64 1] 3)).trans hK8)
        obtain ⟨p8, c8, e8, -⟩ := (Ints.rd hO8).form
        subst e8
        clear hO8 hK8 HO7 HK7
        try dsimp only
        go_wp2_with fail
        refine (gLevelsNil (.slice (some ⟨w8.heap.size, 0, none⟩) 1 1) [1] (w8.alloc (.cells #[.int .i64 1] 3)) _ (by intro x hx; rw [List.mem_singleton] at hx; subst hx; exact ok1) (by simp) (Ints.rd (HO8.out.alloc (.cells #[.int .i64 1] 3)).lit) (HO8.out.alloc' (.cells #[.int .i64 1] 3))).mono ?_
        rintro e w9 ⟨rfl, hO9, hK9⟩
        have HO9 := hid hO9
        have HK9 := hid ((HK8.out.alloc (.cells #[.int .i64 1] 3)).trans hK9)
        clear hO9 hK9 HO8 HK8
        try dsimp only
        go_wp2_with fail
        go_wp2_with fail
        refine (gAllNil w9).mono ?_
        rintro e w' ⟨rfl, rfl⟩
        try dsimp only
        go_wp2_with fail
        have HZ := hid (awake17 w9 _ HO9.out)
        refine HZ.out.mono ?_
        rintro e w10 ⟨rfl, hO10, hK10⟩
        have HO10 := hid hO10
        have HK10 := hid (HK9.out.trans hK10)
        clear hO10 hK10 HZ HO9 HK9
        try dsimp only
        go_wp2_with fail
        go_ret
        exact ⟨rfl, (HO10.out.re 9 [8]).below HK10.out.os HK10.out.tape HK10.out.output⟩
      · have hqi : ¬ (1 : Int) < (q : Int) := by omega
        have HQB := hid hqb
        clear hqb
        have HOA := hid (HO4.out.alloc (.cells #[.int .i64 ((q : Int) + 1)] 3)).lit
        have HKA := hid (HK4.out.alloc (.cells #[.int .i64 ((q : Int) + 1)] 3))
        go_wp2_with fail
        generalize hwB : w4.alloc (.cells #[.int .i64 ((q : Int) + 1)] 3) = wB at *
        generalize w4.heap.size = gB at *
        have HOB := HOA
        have HKB := HKA
        clear HOA HKA hwB
        have HRR := hid (xReady g (dr1 (chain fC n) q) wB _ (Nat.le_trans HDL.out (by omega)) HOB.out.p1)
        rw [HRD.out] at HRR
        refine HRR.out.mono ?_
        rintro e w5 ⟨v5, rfl, hO5, hK5⟩
        unfold rdC at hO5
        rw [if_neg HQB.out] at hO5
        have HO5 := hid (show Has w5 (Ints v5 [((q : Int) + 1)] :: _) from hO5)
        have HK5 := hid (HKB.out.trans hK5)
        obtain ⟨p5, c5, e5, -⟩ := (Ints.rd hO5).form
        subst e5
        clear hO5 hK5 HRR HO4 HK4 HOB HKB
        try dsimp only
        go_wp2_with fail
        go_wp2_with fail
        refine (sameIntsYes _ _ [((q : Int) + 1)] w5 (Ints.rd HO5.out) (Ints.rd HO5.out.p2)).mono ?_
        rintro e w' ⟨rfl, nq6, rfl⟩
        have HO6 := hid ((HO5.out).drewN nq6)
        have HK6 := hid ((HK5.out).drewN nq6)
        try dsimp only
        generalize w5.drewN nq6 = w6 at *
        clear HO5 HK5
        go_wp2_with fail
        go_wp2_with fail
        refine (gAddNil 1 w6).mono ?_
        rintro e w' ⟨rfl, rfl⟩
        try dsimp only
        go_wp2_with fail
        go_wp2_with fail
        refine (gNeedsNil 1 2 w6).mono ?_
        rintro e w' ⟨rfl, rfl⟩
        try dsimp only
        go_wp2_with fail
        have HO7 := hid (HO6.out.alloc (.cells #[.int .i64 1] 3))
        have HK7 := hid (HK6.out.alloc (.cells #[.int .i64 1] 3))
        have hc7 := HO7.out.cells 0
        refine (gDropNil w6.heap.size 0 1 1 (w6.alloc (.cells #[.int .i64 1] 3)) hc7).mono ?_
        rintro e w' ⟨rfl, rfl⟩
        generalize w6.alloc (.cells #[.int .i64 1] 3) = w7 at *
        clear hc7 HO6 HK6
        try dsimp only
        go_wp2_with fail
        refine (gClosureNil (.slice (some ⟨w7.heap.size, 0, none⟩) 1 1) [1] (w7.alloc (.cells #[.int .i64 1] 3)) _ (by intro x hx; rw [List.mem_singleton] at hx; subst hx; exact ok1) (by simp) (Ints.rd (HO7.out.alloc (.cells #[.int .i64 1] 3)).lit) (HO7.out.alloc' (.cells #[.int .i64 1] 3))).mono ?_
        rintro e w8 ⟨v8, rfl, hO8, hK8⟩
        have HO8 := hid hO8
        have HK8 := hid ((HK7.out.alloc (.cells #[.int .i64 1] 3)).trans hK8)
        obtain ⟨p8, c8, e8, -⟩ := (Ints.rd hO8).form
        subst e8
        clear hO8 hK8 HO7 HK7
        try dsimp only
        go_wp2_with fail
        refine (gLevelsNil (.slice (some ⟨w8.heap.size, 0, none⟩) 1 1) [1] (w8.alloc (.cells #[.int .i64 1] 3)) _ (by intro x hx; rw [List.mem_singleton] at hx; subst hx; exact ok1) (by simp) (Ints.rd (HO8.out.alloc (.cells #[.int .i64 1] 3)).lit) (HO8.out.alloc' (.cells #[.int .i64 1] 3))).mono ?_
        rintro e w9 ⟨rfl, hO9, hK9⟩
        have HO9 := hid hO9
        have HK9 := hid ((HK8.out.alloc (.cells #[.int .i64 1] 3)).trans hK9)
        clear hO9 hK9 HO8 HK8
        try dsimp only
        go_wp2_with fail
        go_wp2_with fail
        refine (gAllNil w9).mono ?_
        rintro e w' ⟨rfl, rfl⟩
        try dsimp only
        go_wp2_with fail
        have HZ := hid (awake17 w9 _ HO9.out)
        refine HZ.out.mono ?_
        rintro e w10 ⟨rfl, hO10, hK10⟩
        have HO10 := hid hO10
        have HK10 := hid (HK9.out.trans hK10)
        clear hO10 hK10 HZ HO9 HK9
        try dsimp only
        go_wp2_with fail
        go_ret
        exact ⟨rfl, (HO10.out.re 9 [8]).below HK10.out.os HK10.out.tape HK10.out.output⟩
end Go.Proofs.Ytajnhggcaiakeaa
/- HOW ARGUMENTS ARE OPENED: from the form's reading to cells. No program in sight. -/
namespace Go.Own
open Go.ChangeShapes Go.WideShapes Go.ChangeAt Go.RowKit
theorem flat_len (n size : Nat) (C : Nat → List Value) (h : ∀ i, i < n → (C i).length = size) : ((List.range n).flatMap C).length = n * size := by
  induction n with
  | zero => simp
  | succ n ih =>
    rw [List.range_succ, List.flatMap_append, List.length_append, ih fun i hi => h i (by omega)]
    simp [h n (by omega), Nat.succ_mul]
theorem flat_drop (n size : Nat) (C : Nat → List Value) (h : ∀ i, i < n → (C i).length = size) (i : Nat) (hi : i < n) :
    ∃ R, ((List.range n).flatMap C).drop (i * size) = C i ++ R := by
  induction n with
  | zero => omega
  | succ n ih =>
    rw [List.range_succ, List.flatMap_append]
    have hl := flat_len n size C fun i hi => h i (by omega)
    by_cases hin : i = n
    · subst hin
      refine ⟨[], ?_⟩
      rw [List.drop_append_of_le_length (by rw [hl]; exact Nat.le_refl _), List.drop_of_length_le (by rw [hl]; exact Nat.le_refl _)]
      simp
    · obtain ⟨R, hR⟩ := ih (fun i hi => h i (by omega)) (by omega)
      refine ⟨R ++ [n].flatMap C, ?_⟩
      rw [List.drop_append_of_le_length (by rw [hl]; exact Nat.mul_le_mul_right _ (by omega)), hR, List.append_assoc]
theorem flat_slice (n size : Nat) (C : Nat → List Value) (h : ∀ i, i < n → (C i).length = size) (i : Nat) (hi : i < n) :
    (((List.range n).flatMap C).drop (i * size)).take size = C i := by
  obtain ⟨R, hR⟩ := flat_drop n size C h i hi
  rw [hR, ← h i hi, List.take_left]
theorem flat_at (n size : Nat) (C : Nat → List Value) (h : ∀ i, i < n → (C i).length = size) (i : Nat) (hi : i < n) (j : Nat) (hj : j < size) :
    (C i)[j]? = ((List.range n).flatMap C)[i * size + j]? := by
  rw [← flat_slice n size C h i hi, List.getElem?_take, if_pos hj, List.getElem?_drop]
theorem cells?_parts {w : World} {b : Nat} {a : Addr} {n : Nat} {cs : List Value} (h : w.cells? b a n = some cs) : cs.length = n ∧ ∀ j, j < n → w.cell? (a.add j) = cs[j]? := by
  unfold World.cells? at h
  split at h
  · have : ∀ (l : List Nat) (cs : List Value), (l.mapM fun i => w.cell? (a.add i)) = some cs → cs.length = l.length ∧ ∀ (j i : Nat), l[j]? = some i → w.cell? (a.add i) = cs[j]? := by
      intro l
      induction l with
      | nil => intro cs h; simp at h; subst h; simp
      | cons x l ih =>
        intro cs h
        simp only [List.mapM_cons, Option.pure_def, Option.bind_eq_bind] at h
        obtain ⟨y, hy, h⟩ := Option.bind_eq_some_iff.1 h
        obtain ⟨ys, hys, h⟩ := Option.bind_eq_some_iff.1 h
        cases h
        obtain ⟨h1, h2⟩ := ih ys hys
        refine ⟨by simp [h1], fun j i hj => ?_⟩
        cases j with
        | zero => simp at hj; subst hj; simpa using hy
        | succ j => simpa using h2 j i (by simpa using hj)
    obtain ⟨h1, h2⟩ := this _ _ h
    refine ⟨by simpa using h1, fun j hj => h2 j j (by simp [hj])⟩
  · cases h
section
variable {H : Type} {enc : TypeId × Value → H} {P : Program} {W : World} {base : Nat} {spare : Nat → Bool} {held : Bool}
/-- A slice of elements of whatever type: its cells in a list, each element's own cells read on. -/
theorem open_rd {t e size : Nat} {v : Value} {d : DataW H} {ps : List MemPlace} {r : Reach} {b0 : Nat} (ht : P.underlying t = some (.slice e)) (hc : P.cellsOf e = size) (hv : Value.okWide P W r b0 t v)
    (h : DataW.Trod enc P W base spare held t v d ps) :
    ∃ (n fuel : Nat) (xs : List Value), Rd W v size n xs ∧ ∀ i, i < n → ∃ x, DataW.trod enc P W base spare held fuel e ((xs.drop (i * size)).take size) = some x := by
  obtain ⟨p, len, cap, rfl⟩ := okWide_slice ht hv
  obtain ⟨fuel, hf⟩ := h
  rcases Deep.open_slice ht hf with ⟨hcs, _⟩ | ⟨a, len', cap', m, n, D, Pl, hcs, hb, hl, hm, hmm, hx, hel⟩
  · simp [Value.cells] at hcs
    obtain ⟨rfl, rfl, rfl⟩ := hcs
    exact ⟨0, 0, [], ⟨by simp, Nat.zero_le _, none, 0, rfl, Nat.le_refl _, fun h => absurd h (by simp)⟩, fun i hi => absurd hi (by simp)⟩
  · simp [Value.cells] at hcs
    obtain ⟨rfl, rfl, rfl⟩ := hcs
    rw [hc] at hel
    have hlm : len ≤ m := by rw [hmm]; split <;> omega
    obtain ⟨C, hC⟩ := Deep.choose_lt (α := List Value) (p := fun i cs' => W.cells? base (a.add (i * size)) size = some cs' ∧ DataW.trod enc P W base spare held n e cs' = some (D i, Pl i)) (fun i hi => hel i (by omega : i < m))
    have hlen : ∀ i, i < len → (C i).length = size ∧ ∀ j, j < size → W.cell? ((a.add (i * size)).add j) = (C i)[j]? := fun i hi => cells?_parts (hC i (by omega)).1
    refine ⟨len, n, (List.range len).flatMap C, ⟨flat_len len size C fun i hi => (hlen i hi).1, by omega, some a, cap, rfl, hl, fun hp => ?_⟩, fun i hi => ⟨(D i, Pl i), ?_⟩⟩
    · have hs : 0 < size := Nat.pos_of_mul_pos_left hp
      have hl0 : 0 < len := Nat.pos_of_mul_pos_right hp
      have h0 := (hlen 0 hl0).2 0 hs
      have ha : a = ⟨a.block, a.off, none⟩ := by
        refine cell_plain (w := W) (u := (C 0)[0]'(by rw [(hlen 0 hl0).1]; exact hs)) ?_
        rw [List.getElem?_eq_getElem (by rw [(hlen 0 hl0).1]; exact hs)] at h0
        simpa [Addr.add] using h0
      refine ⟨a.block, a.off, by rw [← ha], fun j hj => ?_⟩
      have hq : j / size < len := (Nat.div_lt_iff_lt_mul hs).2 hj
      have hr : j % size < size := Nat.mod_lt _ hs
      have h1 := (hlen (j / size) hq).2 (j % size) hr
      rw [Deep.add_add, ha, add_plain] at h1
      have hj' : j / size * size + j % size = j := Nat.div_add_mod' j size
      rw [hj'] at h1
      rw [h1, flat_at len size C (fun i hi => (hlen i hi).1) (j / size) hq (j % size) hr, hj']
    · rw [flat_slice len size C (fun i hi => (hlen i hi).1) i hi]
      exact (hC i (by omega)).2
/-- A slice of ints. -/
theorem open_rd_ints {t e : Nat} {v : Value} {d : DataW H} {ps : List MemPlace} {r : Reach} {b0 : Nat} (ht : P.underlying t = some (.slice e)) (he : P.underlying e = some (.int .i64)) (hc : P.cellsOf e = 1) (hv : Value.okWide P W r b0 t v)
    (h : DataW.Trod enc P W base spare held t v d ps) : ∃ xs : List Int, Rd W v 1 xs.length (ic xs) := by
  obtain ⟨n, fuel, xs, hr, hx⟩ := open_rd ht hc hv h
  have hl : xs.length = n := by simpa using hr.1
  have hall : ∀ (l : List Value), (∀ i (hi : i < l.length), ∃ k, l[i]? = some (.int .i64 k)) → ∃ zs : List Int, l = ic zs := by
    intro l
    induction l with
    | nil => intro _; exact ⟨[], rfl⟩
    | cons y l ih =>
      intro hl
      obtain ⟨k, hk⟩ := hl 0 (by simp)
      obtain ⟨zs, hz⟩ := ih fun i hi => by obtain ⟨k, h⟩ := hl (i + 1) (by simp; omega); exact ⟨k, by simpa using h⟩
      exact ⟨k :: zs, by simp at hk; simp [ic, hk]; exact hz⟩
  obtain ⟨zs, hz⟩ := hall xs fun i hi => by
    obtain ⟨x, hx⟩ := hx i (by omega)
    rw [Nat.mul_one] at hx
    obtain ⟨k, hk, -⟩ := DataW.trod_int he hx
    refine ⟨k, ?_⟩
    have := congrArg (fun l : List Value => l[0]?) hk
    simpa using this
  subst hz
  refine ⟨zs, ?_⟩
  rw [ic_len] at hl
  rw [hl]; exact hr
/-- A struct's field, read on. -/
theorem open_field {t fuel : Nat} {cs : List Value} {x : DataW H × List MemPlace} {fs : Array Field} (ht : P.underlying t = some (.struct fs)) (h : DataW.trod enc P W base spare held fuel t cs = some x)
    (i : Nat) (f : Field) (hf : fs[i]? = some f) : ∃ m y, DataW.trod enc P W base spare held m f.type ((cs.drop f.offset).take (P.cellsOf f.type)) = some y := by
  obtain ⟨xs, n, -, -, -, hl, hx⟩ := DataW.trod_struct ht h
  have hi : i < xs.length := by rw [hl]; exact (Array.getElem?_eq_some_iff.1 hf).1
  exact ⟨n, xs[i], by rw [hx i f hf, List.getElem?_eq_getElem hi]⟩
/-- A field that is an int. -/
theorem open_int_field {t fuel : Nat} {cs : List Value} {x : DataW H × List MemPlace} {fs : Array Field} {k : IntKind} (ht : P.underlying t = some (.struct fs)) (h : DataW.trod enc P W base spare held fuel t cs = some x)
    (i : Nat) (f : Field) (hf : fs[i]? = some f) (hk : P.underlying f.type = some (.int k)) (hc : P.cellsOf f.type = 1) : ∃ n, cs[f.offset]? = some (.int k n) ∧ (Lit.int k n).wf = true := by
  obtain ⟨m, y, hy⟩ := open_field ht h i f hf
  rw [hc] at hy
  obtain ⟨n, hn, -, hw⟩ := DataW.trod_int hk hy
  refine ⟨n, ?_, hw⟩
  have := congrArg (fun l : List Value => l[0]?) hn
  simpa using this
end
end Go.Own
