/- TEXTS of mine, merged. -/
import Derived.Test.YtfhaedkaedffcaaGreatDoorM15
import Derived.Test.YtfhaedkaedffcaaGreatDoorM17
import Derived.Test.YtfhaedkaedffcaaGreatDoorM18
import Derived.Test.YtfhaedkaedffcaaGreatDoorM19
import Derived.Test.YtfhaedkaedffcaaGreatDoorM22
import Derived.Test.YtfhaedkaedffcaaGreatDoorM23
import Derived.Test.YtfhaedkaedffcaaGreatDoorM24
import Derived.Test.YtfhaedkaedffcaaGreatDoorM8
import Derived.Test.YtfhaedkaedffcaaGreatDoorM9
import Derived.Test.YtfhaedkaedffcaaGreatDoorM11
import Derived.Shelf.GgSortFunc.InsertionK
import Derived.Test.YtfhaedkaedffcaaGreatDoorM10
/- tree.Do, ANY OPERATION: what it answers, what it leaves. -/
namespace Go.Proofs.YtfhaedkaedffcaaGreatDoor
open Go.RowKit Go.Own
namespace Tre
def doM (S : Tre) (o : Opm) (ds : List Int) : Ans × Tre :=
  if o.kind = 1 then S.openFd o.path o.flags
  else if o.kind = 2 then S.close o.fd
  else if o.kind = 3 then S.read 3 o.fd o.n o.off
  else if o.kind = 4 then S.write 4 o.fd o.off ds
  else if o.kind = 5 then S.read 5 o.fd o.n o.off
  else if o.kind = 6 then S.write 6 o.fd o.off ds
  else if o.kind = 7 then S.seek o.fd o.n o.off
  else if o.kind = 8 then S.trunc o.fd o.off
  else if o.kind = 9 then S.mkdir o.path
  else if o.kind = 10 then S.remove 10 o.path
  else if o.kind = 11 then S.remove 11 o.path
  else if o.kind = 12 then S.link o.path o.dest
  else if o.kind = 13 then S.symlink o.path o.dest
  else if o.kind = 14 then (S.list 14 o.path, S)
  else if o.kind = 15 then S.rename o.path o.dest
  else if o.kind = 16 then (S.stat o.path true, S)
  else if o.kind = 17 then (S.stat o.path false, S)
  else if o.kind = 18 then (S.list 18 o.path, S)
  else if o.kind = 19 then (S.lasts o.fd, S)
  else if o.kind = 20 then (S.lasts o.fd, S)
  else if o.kind = 21 then (ansE 0, S)
  else if o.kind = 22 then (if 0 ≤ o.n then ansE 0 else ansE 2, S)
  else if o.kind = 23 then (if 0 ≤ o.n then ansE 0 else ansE 2, S)
  else (ansE 2, S)
end Tre
/-- An answer of numbers. -/
def Bare (a : Ans) : Prop := a.data = [] ∧ a.names = []
variable (S : Tre)
theorem and12_all : ∀ i : Fin 64, andI (i.val : Int) 4 ≠ 0 → andI (i.val : Int) 12 ≠ 0 := by decide +kernel
theorem and12 {fl : Int} (h0 : 0 ≤ fl) (h1 : fl < 64) : andI fl 4 ≠ 0 → andI fl 12 ≠ 0 := by
  have := and12_all ⟨fl.toNat, by omega⟩
  rwa [show ((fl.toNat : Nat) : Int) = fl by omega] at this
variable {S} {rk : Int → Nat} {k : Nat}
theorem Gd.openFd' (h : Gd S rk k) (p : Str) (fl : Int) : ∃ rk', Gd (S.openFd p fl).2 rk' (k + 1) := by
  by_cases hb : 0 ≤ fl ∧ fl < 64
  · exact h.openFd p fl (and12 hb.1 hb.2)
  · unfold Tre.openFd
    rw [if_pos (by omega)]
    exact ⟨rk, h.mono (Nat.le_succ k)⟩
theorem Gd.doM (h : Gd S rk k) (o : Opm) (ds : List Int) (hp : o.path.length ≤ 100000) : ∃ rk', Gd (S.doM o ds).2 rk' (k + 1) := by
  have hm := h.mono (Nat.le_succ k)
  unfold Tre.doM
  by_cases h1 : o.kind = 1
  · rw [if_pos h1]; exact h.openFd' _ _
  rw [if_neg h1]; clear h1
  by_cases h1 : o.kind = 2
  · rw [if_pos h1]; exact ⟨rk, hm.close _⟩
  rw [if_neg h1]; clear h1
  by_cases h1 : o.kind = 3
  · rw [if_pos h1]; exact ⟨rk, hm.read _ _ _ _⟩
  rw [if_neg h1]; clear h1
  by_cases h1 : o.kind = 4
  · rw [if_pos h1]; exact ⟨rk, hm.write _ _ _ _⟩
  rw [if_neg h1]; clear h1
  by_cases h1 : o.kind = 5
  · rw [if_pos h1]; exact ⟨rk, hm.read _ _ _ _⟩
  rw [if_neg h1]; clear h1
  by_cases h1 : o.kind = 6
  · rw [if_pos h1]; exact ⟨rk, hm.write _ _ _ _⟩
  rw [if_neg h1]; clear h1
  by_cases h1 : o.kind = 7
  · rw [if_pos h1]; exact ⟨rk, hm.seek _ _ _⟩
  rw [if_neg h1]; clear h1
  by_cases h1 : o.kind = 8
  · rw [if_pos h1]; exact ⟨rk, hm.trunc _ _⟩
  rw [if_neg h1]; clear h1
  by_cases h1 : o.kind = 9
  · rw [if_pos h1]; exact h.mkdir _
  rw [if_neg h1]; clear h1
  by_cases h1 : o.kind = 10
  · rw [if_pos h1]; exact ⟨rk, hm.remove (.inl rfl) _⟩
  rw [if_neg h1]; clear h1
  by_cases h1 : o.kind = 11
  · rw [if_pos h1]; exact ⟨rk, hm.remove (.inr rfl) _⟩
  rw [if_neg h1]; clear h1
  by_cases h1 : o.kind = 12
  · rw [if_pos h1]; exact h.link _ _
  rw [if_neg h1]; clear h1
  by_cases h1 : o.kind = 13
  · rw [if_pos h1]; exact h.symlink _ _ hp
  rw [if_neg h1]; clear h1
  by_cases h1 : o.kind = 14
  · rw [if_pos h1]; exact ⟨rk, hm⟩
  rw [if_neg h1]; clear h1
  by_cases h1 : o.kind = 15
  · rw [if_pos h1]; exact h.rename _ _
  rw [if_neg h1]; clear h1
  refine ⟨rk, ?_⟩
  split
  · exact hm
  split
  · exact hm
  split
  · exact hm
  split
  · exact hm
  split
  · exact hm
  split
  · exact hm
  split
  · exact hm
  split
  · exact hm
  exact hm
end Go.Proofs.YtfhaedkaedffcaaGreatDoor
/- THE WALK of tree.New, Number. -/
namespace Go.Proofs.YtfhaedkaedffcaaGreatDoor
open Go.RowKit Go.Own
def tre0 : Tre := ⟨[(1, ⟨2, [], [], [], 0, 1, 0⟩)], 1, List.replicate 16 Tb.none4⟩
set_option maxRecDepth 100000 in
set_option maxHeartbeats 4000000 in
theorem tNew (w : World) (L : List HP) (hO : Has w L) : Calls Tryz.prog 16 #[] w fun e w' => ∃ q, e = .returned (.pointer (some ⟨q, 0, none⟩)) ∧ Has w' (Trc q tre0 :: L) ∧ Keep w w' := by
  have h1 := (Mk.made (Mk.made hO kInt vPtr) kStr vInt).alloc (.cells #[.int .i64 2, .slice none 0 0, .slice none 0 0, .map (some (w.alloc (.map #[] 0)).heap.size), .int .i64 0, .int .i64 1, .int .i64 0] 72)
  have e1 : (w.alloc (.map #[] 0)).heap.size = w.heap.size + 1 := by show (Array.push _ _).size = _; rw [Array.size_push]
  have e2 : ((w.alloc (.map #[] 0)).alloc (.map #[] 0)).heap.size = w.heap.size + 1 + 1 := by show (Array.push _ _).size = _; rw [Array.size_push, e1]
  rw [e2, e1] at h1
  have HO1 := hid (h1.re 3 [2, 0, 1])
  have HK1 := hid ((((Keep.refl w).alloc (.map #[] 0)).alloc (.map #[] 0)).alloc (.cells #[.int .i64 2, .slice none 0 0, .slice none 0 0, .map (some (w.heap.size + 1)), .int .i64 0, .int .i64 1, .int .i64 0] 72))
  have hmm := @run_makeMap Tryz.prog
  clear h1 hO e1 e2
  go_enter Tryz.func16, Tryz.ntmps16
  go_wp2_with (refine wpList_mkIns HO1.out (by decide) tNo undNo rfl _ _ _ rfl rfl 1 (wf_small 1 (by decide) (by decide)) rfl (some (w.heap.size + 1 + 1)) trivial rfl ?_; intro w2 h2 k2; simp only [Act.put])
  refine (tabNew w2 _ h2).mono ?_
  rintro e w3 ⟨f, rfl, h3, k3⟩
  have HO3 := hid h3
  have HK3 := hid ((HK1.out.trans k2).trans k3)
  clear h2 k2 h3 k3 HO1 HK1
  try dsimp only
  go_wp2_with fail
  go_ret
  refine ⟨w3.heap.size, rfl, ?_, HK3.out.alloc _⟩
  have h4 := (HO3.out.alloc (.cells (treC w.heap.size f 1) 77))
  refine trc_iff.2 ⟨w.heap.size, f, [(1, w.heap.size + 1 + 1, ⟨2, [], [], [], 0, 1, 0⟩)], ⟨rfl, by simp [tre0]⟩, trb_iff.2 ?_⟩
  have h5 := (h4.re 5 [3, 4, 0, 1, 2])
  have h6 := ((h5.row_nil 4 1).row_nil 5 1).re 7 [2, 0, 1, 3, 4, 5, 6]
  have h7 : Has _ (Ndc (w.heap.size + 1 + 1) ⟨2, [], [], [], 0, 1, 0⟩ :: _) := ndc_ofB (by show (2 : Int) ≠ 3; decide) ⟨.slice none 0 0, .slice none 0 0, some (w.heap.size + 1), fun _ => ⟨_, rfl⟩, h6⟩
  exact h7.re 4 [1, 3, 2, 0]
set_option maxRecDepth 100000 in
theorem tNumber (q : Nat) (S : Tre) (p : Str) (mx : Int) (w : World) (L : List HP) (hW : Wk S) (hM : MxL mx L) (hp : p.length ≤ 100000) (hO : Has w (Trc q S :: L)) :
    Calls Tryz.prog 22 #[.pointer (some ⟨q, 0, none⟩), sV p] w fun e w' => e = .returned (.int .i64 (S.find p false).1.node) ∧ Has w' (Trc q S :: L) ∧ Keep w w' := by
  have HF := hid (tFind q S p false mx w L hW hM hp hO)
  generalize S.find p false = R at *
  obtain ⟨s, e⟩ := R
  dsimp only at *
  clear hO hM hW
  go_enter Tryz.func22, Tryz.ntmps22
  go_wp2_with fail
  refine (HF.out).mono ?_
  rintro e w1 ⟨rfl, hO1, hK1⟩
  have HO1 := hid hO1
  have HK1 := hid ((Keep.refl w).trans hK1)
  clear hO1 hK1
  try dsimp only
  unfold spV spC
  have hc := (HO1.out.alloc (.cells (spC s) 81)).cells 0
  go_wp2_with fail
  go_ret
  exact ⟨rfl, (HO1.out.alloc (.cells (spC s) 81)).drop, HK1.out.alloc _⟩
end Go.Proofs.YtfhaedkaedffcaaGreatDoor
/- Plain facts of the small trees of the laws: the root alone; one file f. No program in sight. -/
namespace Go.Proofs.YtfhaedkaedffcaaGreatDoor
open Go.RowKit Go.Own
abbrev nF : Str := [102]
abbrev pF : Str := [47, 102]
def root0 : Nod := ⟨2, [], [], [], 0, 1, 0⟩
def rootF : Nod := ⟨2, [], [], [(nF, 2)], 1, 1, 0⟩
def fileF (d : List Int) (wr : List Bool) : Nod := ⟨1, d, wr, [], 0, 1, 0⟩
/-- The root, and a file f. -/
def trF (d : List Int) (wr : List Bool) (T : List Tb.Slot) : Tre := ⟨[(1, rootF), (2, fileF d wr)], 2, T⟩
theorem splitM_root : splitM [47] = ([], 0) := by decide +kernel
theorem find_root (S : Tre) (fo : Bool) : S.find [47] fo = (⟨1, 0, []⟩, 0) := by
  unfold Tre.find
  rw [splitM_root, if_neg (by simp), Tre.walk]
section
variable {d : List Int} {wr : List Bool} {T : List Tb.Slot}
/-- What stands in the table: the file alone, somewhere. -/
def TabF (T : List Tb.Slot) : Prop := ∀ s ∈ T, s.on = true → s.node = 2 ∧ 0 ≤ s.off ∧ s.off ≤ 2000000000000
end
end Go.Proofs.YtfhaedkaedffcaaGreatDoor
/- PATHS OF ONE NAME, plain. No program in sight. -/
namespace Go.Proofs.YtfhaedkaedffcaaGreatDoor
open Go.RowKit Go.Own
/-- A name that may be asked for. -/
def GoodN (s : Str) : Prop := NameOk s ∧ s ≠ [46] ∧ (0 : UInt8) ∉ s
theorem spl_no {s : Str} (h : (47 : UInt8) ∉ s) : spl s = [s] := by
  induction s with
  | nil => rfl
  | cons c l ih =>
    have h1 : c ≠ 47 := fun e => h (by rw [e]; exact List.mem_cons_self)
    rw [spl, if_neg h1, ih fun hm => h (List.mem_cons_of_mem _ hm)]
theorem indexByte_none {s : Str} {c : UInt8} (h : c ∉ s) : Lib.indexByte s c = -1 := by
  induction s with
  | nil => rfl
  | cons b l ih =>
    have h1 : (b == c) = false := by
      simp only [beq_eq_false_iff_ne, ne_eq]
      rintro rfl
      exact h List.mem_cons_self
    rw [Lib.indexByte, h1, ih fun hm => h (List.mem_cons_of_mem _ hm)]
    rfl
theorem hasNul_none {s : Str} (h : (0 : UInt8) ∉ s) : hasNul s = false := by
  unfold hasNul
  rw [indexByte_none h]
  rfl
theorem isAbs_cons (s : Str) : isAbs (47 :: s) = true := by
  unfold isAbs Lib.hasPrefix
  simp
theorem partsM_one {nm : Str} (h : GoodN nm) : partsM (47 :: nm) = ([nm], true) := by
  have h1 : skipP nm = false := by
    unfold skipP
    simp only [Bool.or_eq_false_iff, beq_eq_false_iff_ne, ne_eq]
    exact ⟨h.1.1, h.2.1⟩
  have h2 : partsL (pieces (47 :: nm)) [] = some [nm] := by
    rw [pieces_spl, spl, if_pos rfl, spl_no h.1.2.2.1]
    have h3 : ¬ 24 < nm.length := by have := h.1.2.1; omega
    simp only [partsL, h1, Bool.false_eq_true, if_false, if_neg h3, List.nil_append]
    rfl
  unfold partsM
  rw [h2]
  rfl
theorem splitM_one {nm : Str} (h : GoodN nm) : splitM (47 :: nm) = ([nm], 0) := by
  unfold splitM
  have h0 : (0 : UInt8) ∉ (47 :: nm : Str) := by
    intro hm
    rcases List.mem_cons.1 hm with e | hm
    · exact absurd e (by decide)
    · exact h.2.2 hm
  rw [isAbs_cons, hasNul_none h0, partsM_one h]
  have h3 : ¬ (200 : Int) < ((47 :: nm : Str).length : Int) := by have := h.1.2.1; simp only [List.length_cons]; omega
  rw [if_neg (by decide), if_neg ?_]
  simp only [Bool.or_eq_true, Bool.not_eq_true', decide_eq_true_eq, not_or]
  exact ⟨by decide, h3⟩
theorem lastM_one {nm : Str} (h : GoodN nm) : lastM (47 :: nm) = ([47], nm, 0) := by
  unfold lastM
  rw [splitM_one h]
  simp only [ne_eq, not_true_eq_false, if_false, List.getLast?_singleton, if_neg h.1.2.2.2]
  rfl
theorem way1 (S : Tre) : S.way 1 = [] := way_stop (.inl rfl)
variable {S : Tre} {rk : Int → Nat} {k : Nat}
theorem Gd.place_one (hg : Gd S rk k) {nm : Str} (h : GoodN nm) : S.place (47 :: nm) = (⟨(fnd (S.at_ 1).names nm).getD 0, 1, nm⟩, 0) := by
  unfold Tre.place
  rw [lastM_one h]
  simp only [find_root, ne_eq, not_true_eq_false, if_false]
  rw [if_neg (fun e => e hg.root2), way1]
  have h1 : Tre.longM ([] ++ [nm]) = false := by
    unfold Tre.longM
    have h2 := joinS_len [nm] (fun p hp => by rw [List.mem_singleton.1 hp]; exact h.1.2.1)
    simp only [List.length_cons, List.length_nil] at h2
    simp only [Bool.or_eq_false_iff, decide_eq_false_iff_not]
    refine ⟨by simp, ?_⟩
    show ¬ 200 < (joinM [nm]).length
    simp only [joinM, List.length_cons]
    omega
  rw [h1]
  rfl
theorem Gd.fresh_one (hg : Gd S rk k) {nm : Str} (h : GoodN nm) : S.fresh (47 :: nm) = if (fnd (S.at_ 1).names nm).getD 0 ≠ 0 then (spt0, 6) else (⟨0, 1, nm⟩, 0) := by
  unfold Tre.fresh
  rw [hg.place_one h]
  simp only [ne_eq, not_true_eq_false, if_false]
  by_cases h0 : (fnd (S.at_ 1).names nm).getD 0 = 0
  · rw [if_neg (by simp [h0]), if_neg (by simp [h0]), h0]
  · rw [if_pos (by simp [h0]), if_pos (by simp [h0])]
/-- What a new node leaves of its directory. -/
theorem make_dir (S : Tre) (s : Spt) (c : Int) (ds : Str) (h : s.dir ≠ S.last + 1) : fnd (S.make s c ds).nodes s.dir = some (Tre.dirAdd (S.at_ s.dir) s.name (S.last + 1)) := by
  unfold Tre.make Tre.add Tre.setN
  refine (fnd_putA.trans (if_neg h)).trans (fnd_putA.trans ((if_pos rfl).trans ?_))
  unfold Tre.at_
  dsimp only
  rw [fnd_putA, if_neg h]
theorem gd0 : Gd tre0 (fun _ => 0) 0 where
  x := {
    keys := by decide
    has1 := ⟨_, rfl⟩
    rk1 := rfl
    rk20 := fun _ => by show 0 ≤ 20; omega
    zne := by decide
    zero := rfl
    nod := fun n x hx => by
      have h1 : n = 1 ∧ x = ⟨2, [], [], [], 0, 1, 0⟩ := by
        have e : tre0.nodes = [(1, ⟨2, [], [], [], 0, 1, 0⟩)] := rfl
        rw [e, fnd_cons] at hx
        by_cases h : (1 : Int) = n
        · rw [if_pos h] at hx; cases hx; exact ⟨h.symm, rfl⟩
        · rw [if_neg h] at hx; cases hx
      obtain ⟨rfl, rfl⟩ := h1
      exact ⟨.inr (.inl rfl), fun h => absurd rfl h, by simp, List.nodup_nil, ⟨by simp, by simp, by simp, by simp, by simp, by simp, by simp⟩, fun _ => ⟨rfl, rfl, rfl, by decide⟩, fun _ h => absurd rfl h, fun _ h => absurd rfl h, fun _ _ h => absurd rfl h⟩ }
  num := fun n x hx => by
    have e : tre0.nodes = [(1, ⟨2, [], [], [], 0, 1, 0⟩)] := rfl
    rw [e, fnd_cons] at hx
    by_cases h : (1 : Int) = n
    · subst h; exact ⟨by omega, by show (1:Int) ≤ 1; omega⟩
    · rw [if_neg h] at hx; cases hx
  last := by show (1 : Int) ≤ _; omega
  many := by show 1 ≤ 1; omega
  tab16 := rfl
  opn := fun fd s hs => by
    exfalso
    obtain ⟨j, hj, -, e, hon⟩ := Tb.look_in rfl hs
    have : ∀ s ∈ tre0.tab, s.on = false := by decide
    rw [this s (by rw [← e]; exact List.getElem_mem _)] at hon
    cases hon
end Go.Proofs.YtfhaedkaedffcaaGreatDoor
/- A tree that may be walked, as a check that is decided. No program in sight. -/
namespace Go.Proofs.YtfhaedkaedffcaaGreatDoor
open Go.RowKit Go.Own
def wkB (S : Tre) : Bool := (fnd S.nodes 1).isSome && S.nodes.all fun p => (p.2.names.all fun e => (fnd S.nodes e.2).isSome) && (decide (p.2.above = 0) || (fnd S.nodes p.2.above).isSome) && decide (p.2.data.length ≤ 100000) && decide (p.2.wr.length ≤ 100000) && decide (p.2.names.length < 1000000)
def wyB (S : Tre) (rk : Int → Nat) : Bool := S.nodes.all fun p => decide (p.1 = 1) || decide (p.2.above = 0) || match fnd S.nodes p.2.above with
  | none => false
  | some y => match y.names.filter fun e => decide (e.2 = p.1) with
    | [e] => decide (rk p.2.above < rk p.1) && decide (e.1.length ≤ 24) && decide (e.2 = p.1)
    | _ => false
def opbB (S : Tre) : Bool := decide (0 ≤ S.last) && decide (S.last < 1000000) && (fnd S.nodes (S.last + 1)).isNone && decide (S.nodes.length < 1000000) && (fnd S.nodes 0).isNone
theorem wk_of {S : Tre} (h : wkB S = true) : Wk S ∧ ∀ n x, fnd S.nodes n = some x → x.data.length ≤ 100000 ∧ x.wr.length ≤ 100000 ∧ x.names.length < 1000000 := by
  unfold wkB at h
  rw [Bool.and_eq_true, List.all_eq_true] at h
  obtain ⟨h1, h2⟩ := h
  have h3 : ∀ n x, fnd S.nodes n = some x → (∀ e ∈ x.names, (fnd S.nodes e.2).isSome = true) ∧ (x.above = 0 ∨ (fnd S.nodes x.above).isSome = true) ∧ x.data.length ≤ 100000 ∧ x.wr.length ≤ 100000 ∧ x.names.length < 1000000 := by
    intro n x hx
    have h4 := h2 _ (fnd_some hx)
    simpa [and_assoc] using h4
  refine ⟨⟨Option.isSome_iff_exists.1 h1, fun n x hx p c hc => ?_, fun n x hx h0 => ?_, fun n x hx _ => (h3 n x hx).2.2.1⟩, fun n x hx => (h3 n x hx).2.2⟩
  · exact Option.isSome_iff_exists.1 ((h3 n x hx).1 _ (fnd_some hc))
  · rcases (h3 n x hx).2.1 with h | h
    · exact absurd h h0
    · exact Option.isSome_iff_exists.1 h
theorem wy_of {S : Tre} {rk : Int → Nat} (h : wyB S rk = true) (hl : ∀ n, rk n ≤ 20) : Wy S rk := by
  refine ⟨fun n x hx h1 h0 => ?_, hl⟩
  unfold wyB at h
  have h4 := (List.all_eq_true.1 h) _ (fnd_some hx)
  dsimp only at h4
  rw [decide_eq_false h1, decide_eq_false h0, Bool.false_or, Bool.false_or] at h4
  split at h4
  · cases h4
  · rename_i y hy
    split at h4
    · rename_i e he
      simp only [Bool.and_eq_true, decide_eq_true_eq] at h4
      exact ⟨y, e.1, hy, by rw [he, ← h4.2], h4.1.1, h4.1.2⟩
    · cases h4
theorem opb_of {S : Tre} (h : opbB S = true) (h2 : wkB S = true) : Opb S := by
  unfold opbB at h
  simp only [Bool.and_eq_true, decide_eq_true_eq, Option.isNone_iff_eq_none] at h
  exact ⟨h.1.1.1.1, h.1.1.1.2, h.1.1.2, h.1.2, h.2, (wk_of h2).2⟩
/-- What stands in the table is there. -/
def opnB (S : Tre) : Bool := S.tab.all fun s => !s.on || ((fnd S.nodes s.node).isSome && decide (0 ≤ s.off) && decide (s.off ≤ 2000000000000) && decide ((S.at_ s.node).kind ≠ 3))
theorem look_in2 {T : List Tb.Slot} {fd : Int} {s : Tb.Slot} (h : Tb.look T fd = some s) : s ∈ T ∧ s.on = true := by
  unfold Tb.look at h
  by_cases hr : 0 ≤ fd ∧ fd < 16
  · rw [if_pos hr] at h
    cases ht : T[fd.toNat]? with
    | none => rw [ht] at h; cases h
    | some t =>
      rw [ht] at h
      dsimp only at h
      by_cases hon : t.on = true
      · rw [if_pos hon] at h
        cases h
        exact ⟨List.mem_of_getElem? ht, hon⟩
      · rw [if_neg hon] at h; cases h
  · rw [if_neg hr] at h; cases h
theorem opn_of {S : Tre} (h : opnB S = true) (h2 : wkB S = true) : Opn S := by
  have h3 : ∀ fd s, Tb.look S.tab fd = some s → (∃ x, fnd S.nodes s.node = some x) ∧ (0 ≤ s.off ∧ s.off ≤ 2000000000000) ∧ (S.at_ s.node).kind ≠ 3 := by
    intro fd s hs
    obtain ⟨h4, h5⟩ := look_in2 hs
    have h6 := (List.all_eq_true.1 h) s h4
    rw [h5] at h6
    simp only [Bool.not_true, Bool.false_or, Bool.and_eq_true, decide_eq_true_eq] at h6
    exact ⟨Option.isSome_iff_exists.1 h6.1.1.1, ⟨h6.1.1.2, h6.1.2⟩, h6.2⟩
  exact ⟨fun fd s hs => (h3 fd s hs).1, fun fd s hs => (h3 fd s hs).2.1, fun n x hx => ((wk_of h2).2 n x hx).1, fun n x hx => ((wk_of h2).2 n x hx).2.1, fun fd s hs => (h3 fd s hs).2.2⟩
end Go.Proofs.YtfhaedkaedffcaaGreatDoor
/- WHAT IS OWNED BEHIND slices.SortFunc at structs: a row of elements of several cells. No program in sight. -/
namespace Go.Own
open Go.RowKit
theorem flat_at {α : Type} (enc : α → List Value) (k : Nat) (hk : 0 < k) (he : ∀ x, (enc x).length = k) : ∀ (l : List α) (t : Nat) (h : t < l.length * k), (l.flatMap enc)[t]? = (enc (l[t / k]'(Nat.div_lt_of_lt_mul (by rw [Nat.mul_comm]; exact h))))[t % k]?
  | [], t, h => by simp at h
  | x :: l, t, h => by
    rw [List.flatMap_cons]
    by_cases ht : t < k
    · rw [List.getElem?_append_left (by rw [he]; exact ht)]
      have e1 : t / k = 0 := Nat.div_eq_of_lt ht
      have e2 : t % k = t := Nat.mod_eq_of_lt ht
      simp [e1, e2]
    · have hle : k ≤ t := by omega
      rw [List.getElem?_append_right (by rw [he]; exact hle), he]
      have h' : t - k < l.length * k := by
        rw [List.length_cons, Nat.succ_mul] at h
        omega
      rw [flat_at enc k hk he l (t - k) h']
      have e1 : t / k = (t - k) / k + 1 := by
        conv => lhs; rw [show t = t - k + k from by omega]
        rw [Nat.add_div_right _ hk]
      have e2 : t % k = (t - k) % k := by
        conv => lhs; rw [show t = t - k + k from by omega]
        rw [Nat.add_mod_right]
      simp [e1, e2]
theorem flatK_list {α : Type} [Inhabited α] (enc : α → List Value) (k : Nat) (hk : 0 < k) (he : ∀ x, (enc x).length = k) (d : Array α) : (Go.Sort.flatK enc k d).toList = d.toList.flatMap enc := by
  apply List.ext_getElem?
  intro t
  have hl : (d.toList.flatMap enc).length = d.size * k := by
    rw [List.length_flatMap]
    have : (d.toList.map fun x => (enc x).length) = List.replicate d.size k := by
      apply List.ext_getElem
      · simp
      · intro i h1 h2
        simp [he]
    rw [this]
    simp
  by_cases ht : t < d.size * k
  · rw [flat_at enc k hk he d.toList t (by simpa using ht), Array.getElem?_toList, Array.getElem?_eq_getElem (by simpa using ht)]
    have h1 := Go.Sort.get_flatK enc k d t ht
    rw [getElem!_pos _ t (by simpa using ht)] at h1
    have h2 : t / k < d.size := Nat.div_lt_of_lt_mul (by rw [Nat.mul_comm]; exact ht)
    rw [h1, getElem!_pos d (t / k) h2]
    have h3 : t % k < (enc d[t / k]).length := by rw [he]; exact Nat.mod_lt _ hk
    rw [getElem!_pos _ (t % k) h3]
    simp
  · rw [List.getElem?_eq_none (by rw [Array.length_toList]; simp; omega), List.getElem?_eq_none (by rw [hl]; omega)]
section
variable {w : World} {l : List HP} {e : TypeId} {size n : Nat} {xs : List Value}
/-- The row's cells anew. -/
theorem Has.putRowK {α : Type} [Inhabited α] (enc : α → List Value) (hs : 0 < size) (he : ∀ x, (enc x).length = size) {g cap m : Nat} {d : Array α} (h : Has w (row (.slice (some ⟨g, 0, none⟩) m cap) e size n xs :: l)) (hd : d.size = n) :
    Has (Go.Sort.putRowK enc size w g 0 d) (row (.slice (some ⟨g, 0, none⟩) m cap) e size n (d.toList.flatMap enc) :: l) := by
  rw [← flatK_list enc size hs he d]
  have hF : (Go.Sort.flatK enc size d).size = n * size := by simp [hd]
  unfold Go.Sort.putRowK
  generalize Go.Sort.flatK enc size d = F at *
  obtain ⟨hl, h | ⟨g', cap', cur, e1, h1, h2, h3, h4, h5⟩⟩ := h.row_cases
  · exact absurd h.1 (by simp)
  · simp only [Value.slice.injEq, Option.some.injEq, Addr.mk.injEq] at e1
    obtain ⟨⟨rfl, -, -⟩, rfl, rfl⟩ := e1
    have hle : F.size ≤ cap * size := by rw [hF]; exact Nat.mul_le_mul_right size (by omega)
    have hp : Has (Sort.putRow id w g 0 F) (pt g (.cells (Sort.putCells id 0 F cur) e) :: l) := by
      refine h5.turn (fun k _ hk => ?_) ?_
      · simp [Sort.putRow, Sort.mapBlock, Array.getElem?_modify, Ne.symm hk]
      · simp [Sort.putRow, Sort.mapBlock, Array.getElem?_modify, h5.lookup, Sort.onCells]
    refine hp.row_of (by omega) h2 (by simpa [Sort.putCells] using h3) ?_ (by simp [hF])
    apply List.ext_getElem?
    intro k
    by_cases hk : k < F.size
    · have hkc : k < cur.size := by omega
      rw [List.getElem?_take, if_pos (by omega), Array.getElem?_toList, Sort.putCells, Array.getElem?_mapIdx, Array.getElem?_eq_getElem hkc, Option.map_some, if_pos ⟨Nat.zero_le _, by omega⟩, Array.getElem?_toList, Nat.sub_zero,
        Array.getElem?_eq_getElem hk, getElem!_pos F k hk]
      rfl
    · rw [List.getElem?_eq_none (by simp [Sort.putCells]; omega), List.getElem?_eq_none (by simp; omega)]
end
end Go.Own
/- THE WALK of the comparison of tree.Nodes. -/
namespace Go.Proofs.YtfhaedkaedffcaaGreatDoor
open Go.RowKit Go.Own Go.Sort
set_option maxRecDepth 100000 in
theorem tCmp (x y : Sn) (W : World) : Calls Tryz.prog 63 #[.agg x.enc.toArray, .agg y.enc.toArray] W fun e w' => e = .returned (.int .i64 (Lib.compareBytes x.path y.path)) ∧ ∃ q os', w' = grow (W.drewN q) os' := by
  have hcon := fun W' => Tryz.strings_Compare (sB x.path) (sB y.path) W'
  unfold Sn.enc
  go_enter Tryz.func63, Tryz.ntmps63
  go_wp2_with fail
  refine (hcon _).mono ?_
  rintro e w' ⟨rfl, rfl⟩
  try dsimp only
  go_wp2_with fail
  go_ret
  exact ⟨rfl, 0, _, by rw [alloc_eq_grow, alloc_eq_grow, grow_grow]; rfl⟩
end Go.Proofs.YtfhaedkaedffcaaGreatDoor
/- THE WALK of tree.Nodes, out of what slices.SortFunc does. -/
namespace Go.Proofs.YtfhaedkaedffcaaGreatDoor
open Go.RowKit Go.Own
/-- Sorted by their paths. -/
def Srt (os : List Sn) : Prop := os.Pairwise fun a b => ¬ Lib.compareBytes b.path a.path < 0
/-- What is asked of slices.SortFunc. -/
def SortsNd : Prop := ∀ (v : Value) (os : List Sn) (w : World) (L : List HP), os ≠ [] → os.length ≤ 1000000 → Has w (Sns v os :: L) → Calls Tryz.prog 62 #[v, .func (.func 63) #[] #[]] w fun e w' => e = .returned (.tuple #[]) ∧ ∃ os', os'.Perm os ∧ Srt os' ∧ Has w' (Sns v os' :: L) ∧ Keep w w'
set_option maxRecDepth 100000 in
set_option maxHeartbeats 4000000 in
theorem tNodes (hSort : SortsNd) (q : Nat) (S : Tre) (x : Nod) (rk : Int → Nat) (w : World) (L : List HP) (h1 : fnd S.nodes 1 = some x) (hdl : ∀ n x, fnd S.nodes n = some x → x.data.length ≤ 100000) (hlow : ∀ n x, fnd S.nodes n = some x → rk n ≤ 21) (hrk : ∀ n x, fnd S.nodes n = some x → ∀ e ∈ x.names, rk n < rk e.2 ∧ e.1.length ≤ 24 ∧ ∃ y, fnd S.nodes e.2 = some y) (hmany : (seen S.nodes 22 1 []).length ≤ 1000000) (hO : Has w (Trc q S :: L)) :
    Calls Tryz.prog 18 #[.pointer (some ⟨q, 0, none⟩)] w fun e w' => ∃ v os, e = .returned v ∧ (os.map Sn.key).Perm ((seen S.nodes 22 1 []).map keyE) ∧ Srt os ∧ Has w' (Sns v os :: Trc q S :: L) ∧ Keep w w' := by
  obtain ⟨m, f, P, hPT, h⟩ := trc_iff.1 hO
  have hnd := Trb.nodup h
  have hfn : ∀ y ∈ P, fnd S.nodes y.1 = some y.2.2 := by
    intro y hy
    rw [← hPT.1]
    exact fnd_mem (by rw [pnN_keys]; exact hnd) (List.mem_map.2 ⟨y, hy, rfl⟩)
  have h1' := h1
  rw [← hPT.1] at h1'
  obtain ⟨A, b, B, hPe⟩ := pn_split h1'
  have hin : (1, b, x) ∈ P := by rw [hPe]; simp
  have hP : pnN P = S.nodes := hPT.1
  have HSE := hid (fun gt gs go => tSee q m f gt gs go P S.last S.tab rk (fun y hy => hdl _ _ (hfn y hy)) hnd (fun y hy => hlow _ _ (hfn y hy)) (fun y hy e he => by
    obtain ⟨a1, a2, z, hz⟩ := hrk _ _ (hfn y hy) e he
    refine ⟨a1, a2, ?_⟩
    rw [← hP] at hz
    obtain ⟨A', b', B', e'⟩ := pn_split hz
    exact ⟨(e.2, b', z), by rw [e']; simp, rfl⟩) 22 1 b x [] P)
  have HPT := hid hPT
  have HT := hid (show Has w (Trg q m f P S.last S.tab P :: L) from Trg.of h)
  have HIN := hid hin
  have HLOW := hid (hlow _ _ h1)
  have HMANY := hid hmany
  have HSO := hid hSort
  clear hO h hnd hfn h1' hin hPe hdl hlow hrk hmany hSort hPT
  have h2 := ((HT.out.alloc (.cells #[.pointer (some ⟨q, 0, none⟩)] 24)).alloc (.cells #[.slice none 0 0] 33)).alloc (.cells #[.nilFunc] 85)
  have e1 : (w.alloc (.cells #[.pointer (some ⟨q, 0, none⟩)] 24)).heap.size = w.heap.size + 1 := by show (Array.push _ _).size = _; rw [Array.size_push]
  have e2 : ((w.alloc (.cells #[.pointer (some ⟨q, 0, none⟩)] 24)).alloc (.cells #[.slice none 0 0] 33)).heap.size = w.heap.size + 1 + 1 := by show (Array.push _ _).size = _; rw [Array.size_push, e1]
  rw [e2, e1] at h2
  have hcs := (show _ = some Value.nilFunc from h2.cells 0)
  have hts := h2.thaw 0
  have h3 := ((HT.out.alloc (.cells #[.pointer (some ⟨q, 0, none⟩)] 24)).alloc (.cells #[.slice none 0 0] 33)).alloc (.cells #[.func (.func 59) #[] #[.pointer (some ⟨w.heap.size, 0, none⟩), .pointer (some ⟨w.heap.size + 1, 0, none⟩), .pointer (some ⟨w.heap.size + 1 + 1, 0, none⟩)]] 85)
  rw [e2, e1] at h3
  have HO2 := hid h3
  have HK2 := hid ((((Keep.refl w).alloc (.cells #[.pointer (some ⟨q, 0, none⟩)] 24)).alloc (.cells #[.slice none 0 0] 33)).alloc (.cells #[.func (.func 59) #[] #[.pointer (some ⟨w.heap.size, 0, none⟩), .pointer (some ⟨w.heap.size + 1, 0, none⟩), .pointer (some ⟨w.heap.size + 1 + 1, 0, none⟩)]] 85))
  have hsf : ∀ (W : World) (a : Addr) (u v : Array Value), (store a (.func (.func 59) u v)).run Tryz.prog W = stored Tryz.prog W a (.func (.func 59) u v) .plain := fun W a u v => run_store Tryz.prog W a _ .plain rfl
  clear h2 h3 e1 e2
  go_enter Tryz.func18, Tryz.ntmps18
  go_upto_region 6 with fail
  generalize ((w.alloc (.cells #[.pointer (some ⟨q, 0, none⟩)] 24)).alloc (.cells #[.slice none 0 0] 33)).alloc (.cells #[.func (.func 59) #[] #[.pointer (some ⟨w.heap.size, 0, none⟩), .pointer (some ⟨w.heap.size + 1, 0, none⟩), .pointer (some ⟨w.heap.size + 1 + 1, 0, none⟩)]] 85) = w2 at *
  clear hcs hts HT hsf
  generalize hgs : w.heap.size + 1 + 1 = gs at *
  generalize hgo : w.heap.size + 1 = go at *
  generalize w.heap.size = gt at *
  have hgc : w2.cell? ⟨gs, 0, none⟩ = some (.func (.func 59) #[] #[.pointer (some ⟨gt, 0, none⟩), .pointer (some ⟨go, 0, none⟩), .pointer (some ⟨gs, 0, none⟩)]) := HO2.out.cells 0
  have HO3 := hid (show Has w2 (Sns (.slice none 0 0) [] :: pt go (.cells #[.slice none 0 0] 33) :: pt gt (.cells #[.pointer (some ⟨q, 0, none⟩)] 24) :: pt gs (.cells #[.func (.func 59) #[] #[.pointer (some ⟨gt, 0, none⟩), .pointer (some ⟨go, 0, none⟩), .pointer (some ⟨gs, 0, none⟩)]] 85) :: Trg q m f P S.last S.tab P :: L) from sns_iff.2 ((HO2.out.re 4 [1, 2, 0, 3]).row_nil 44 5))
  have HX := hid (HSE.out gt gs go (.slice none 0 0) [] w2 L (by omega) HLOW.out HIN.out (by simp) (fun y hy _ => hy) (by have := HMANY.out; rw [HPT.out.1]; simpa using this) HO3.out)
  rw [HPT.out.1] at HX
  clear HO2 HO3
  go_wp2_with fail
  refine HX.out.mono ?_
  rintro e w4 ⟨rfl, ov, os, hpm, hO4, hK4⟩
  rw [List.nil_append] at hO4
  have HPM := hid hpm
  have HO4 := hid hO4
  have HK4 := hid (HK2.out.trans hK4)
  have HLN := hid (show os.length ≤ 1000000 from by have h1 := hpm.length_eq; rw [List.length_map, List.length_map] at h1; have := HMANY.out; omega)
  have HNE := hid (show os ≠ [] from by
    rintro rfl
    have h1 := hpm.length_eq
    rw [List.length_map, List.length_map, seen] at h1
    simp at h1)
  clear hpm hO4 hK4 HX HK2 hgc
  try dsimp only
  have hov : w4.cell? ⟨go, 0, none⟩ = some ov := HO4.out.p1.cells 0
  have HS5 := hid (HSO.out ov os w4 _ HNE.out HLN.out HO4.out)
  obtain ⟨po, co, rfl, -⟩ := (Has.rd (sns_iff.1 HO4.out)).form
  go_wp2_with fail
  refine HS5.out.mono ?_
  rintro e w5 ⟨rfl, os', hp5, hs5, hO5, hK5⟩
  have hov5 : w5.cell? ⟨go, 0, none⟩ = some (.slice po os.length co) := hO5.p1.cells 0
  try dsimp only
  have HO5 := hid hO5
  have HK5 := hid (HK4.out.trans hK5)
  have HP5 := hid hp5
  have HS6 := hid hs5
  clear hO5 hK5 hp5 hs5 HS5 hov
  go_wp2_with fail
  go_ret
  refine ⟨_, os', rfl, (HP5.out.map _).trans HPM.out, HS6.out, ?_, HK5.out⟩
  have h9 := HO5.out.re 5 [4, 0]
  exact (show Has w5 (Trc q S :: _) from trc_iff.2 ⟨m, f, P, HPT.out, h9⟩).re 2 [1, 0]
end Go.Proofs.YtfhaedkaedffcaaGreatDoor
/- THE WALK of node.blocks (files of at most six blocks), inode.Place. -/
namespace Go.Proofs.YtfhaedkaedffcaaGreatDoor
open Go.RowKit Go.Own
/-- How many blocks a node takes (a file: of at most six). -/
def blocksM (x : Nod) : Int := if x.kind = 2 then (x.most + 3) / 4 else if x.kind = 3 then 1 else ((x.wr.filter id).length : Int)
theorem nPlace (k : Nat) (hk : k < 6) (w : World) : Calls Tryz.prog 117 #[.int .i64 (k : Int)] w fun e w' => e = .returned (.tuple #[.int .i64 0, .int .i64 k, .int .i64 0]) ∧ w = w' := by
  have h0 : (0 : Int) ≤ (k : Int) := by omega
  have h1 : ¬ (k : Int) < 0 := by omega
  have h2 : ¬ (k : Int) ≥ 162 := by omega
  have h3 : (k : Int) < 6 := by omega
  go_enter Tryz.func117, Tryz.ntmps117
  go_wp2_with fail
  go_ret3
  exact ⟨rfl, rfl⟩
def no12 : Array Value := #[.bool false, .bool false, .bool false, .bool false, .bool false, .bool false, .bool false, .bool false, .bool false, .bool false, .bool false, .bool false]
theorem index12 (k : Nat) (hk : k < 12) (w : World) : (Instr.index 154 (.agg no12) (.int .i64 (k : Int))).run Tryz.prog w = .ok (.bool false) w := by
  have : ∀ i : Fin 12, ∀ w : World, (Instr.index 154 (.agg no12) (.int .i64 (i.val : Int))).run Tryz.prog w = .ok (.bool false) w := by
    intro i w
    rcases i with ⟨i, hi⟩
    rcases i with _ | _ | _ | _ | _ | _ | _ | _ | _ | _ | _ | _ | i
    all_goals first | (exfalso; omega) | kernel_rfl
  exact this ⟨k, hk⟩ w
theorem cnt_succ (ws : List Bool) (k : Nat) (hk : k < ws.length) : ((ws.take (k + 1)).filter id).length = ((ws.take k).filter id).length + (if ws[k] = true then 1 else 0) := by
  rw [List.take_add_one, List.getElem?_eq_getElem hk, List.filter_append, List.length_append]
  cases ws[k] <;> simp
set_option maxRecDepth 100000 in
set_option maxHeartbeats 4000000 in
theorem tBlocks (b : Nat) (x : Nod) (w : World) (L : List HP) (hm0 : 0 ≤ x.most) (hm1 : x.most ≤ 1000000) (hw : x.wr.length ≤ 6) (hO : Has w (Ndc b x :: L)) :
    Calls Tryz.prog 69 #[.pointer (some ⟨b, 0, none⟩)] w fun e w' => e = .returned (.int .i64 (blocksM x)) ∧ Has w' (Ndc b x :: L) ∧ Keep w w' := by
  obtain ⟨dv, wv, nm, hnm, hHP⟩ := ndc_iff.1 hO
  have HNM := hid hnm
  have HP := hid hHP
  have hc0 : w.cell? ⟨b, 0, none⟩ = some (.int .i64 x.kind) := hHP.cells 0
  have hc4 : w.cell? ⟨b, 4, none⟩ = some (.int .i64 x.most) := hHP.cells 4
  have HO := hid hO
  clear hnm hHP hO
  by_cases hk2 : x.kind = 2
  · have HB := hid (show blocksM x = (x.most + 4 - 1) / 4 from by unfold blocksM; rw [if_pos hk2]; congr 1; omega)
    have hq : (0 : Int) ≤ x.most + 4 - 1 := by omega
    go_enter Tryz.func69, Tryz.ntmps69
    go_wp2_with fail
    go_ret
    rw [HB.out]
    exact ⟨rfl, HO.out, Keep.refl w⟩
  by_cases hk3 : x.kind = 3
  · have HB := hid (show blocksM x = 1 from by unfold blocksM; rw [if_neg hk2, if_pos hk3])
    go_enter Tryz.func69, Tryz.ntmps69
    go_wp2_with fail
    go_ret
    rw [HB.out]
    exact ⟨rfl, HO.out, Keep.refl w⟩
  · have HB := hid (show blocksM x = (((x.wr.take x.wr.length).filter id).length : Int) from by unfold blocksM; rw [if_neg hk2, if_neg hk3, List.take_length])
    obtain ⟨pw, cw, rfl, hcap, -, hcs⟩ := (Bools.rd HP.out.p2).form
    have hc2 : w.cell? ⟨b, 2, none⟩ = some (.slice pw x.wr.length cw) := HP.out.cells 2
    have hw6 : (x.wr.length : Int) ≤ 6 := by omega
    have hw0 : (0 : Int) ≤ (x.wr.length : Int) := by omega
    clear hcs
    have hbl := HP.out.lt
    have HP1 := hid (HP.out.alloc (.cells no12 154))
    go_enter Tryz.func69, Tryz.ntmps69
    go_wp2_with fail
    go_loopw [34, 3, 4, 5] (fun kv cv sv fv w' => ∃ k : Nat, k ≤ x.wr.length ∧ kv = .int .i64 (k : Int) ∧ sv = .int .i64 0 ∧ fv = .int .i64 0 ∧ cv = .int .i64 (((x.wr.take k).filter id).length : Int) ∧ Hid (Has w' (pt w.heap.size (.cells no12 154) :: pt b (.cells (nodC x dv (.slice pw x.wr.length cw) nm) 72) :: Dat x.kind dv x.data :: Bools (.slice pw x.wr.length cw) x.wr :: Nms nm x.names :: L)) ∧ Hid (Keep w w')) (fun kv _ _ _ _ => x.wr.length - (intOf kv).toNat)
    case atStart => exact ⟨0, by omega, rfl, rfl, rfl, rfl, HP1, hid ((Keep.refl w).alloc _)⟩
    case round =>
      clear HP1 HP HO hc0 hc4 hc2
      generalize w.heap.size = g6 at *
      obtain ⟨k, hk, rfl, rfl, rfl, rfl, HO, HK⟩ := hrel
      have hk0 : (0 : Int) ≤ (k : Int) := by omega
      by_cases hlt : k < x.wr.length
      · have hki : (k : Int) < (x.wr.length : Int) := by omega
        obtain ⟨p', c', e', -, -, hcs⟩ := (Bools.rd HO.out.p3).form
        obtain ⟨gw, ow, rfl, hcs2⟩ := hcs (by omega)
        simp only [Value.slice.injEq, true_and] at e'
        obtain ⟨rfl, rfl⟩ := e'
        have hcel : wr.cell? ⟨gw, ow + k, none⟩ = some (.bool x.wr[k]) := by
          rw [hcs2 k (by omega), List.getElem?_map, List.getElem?_eq_getElem hlt]
          rfl
        have hsc := cnt_succ x.wr k hlt
        have hcl : ((x.wr.take k).filter id).length ≤ 6 := by
          have h1 := List.length_filter_le id (x.wr.take k)
          have h2 : (x.wr.take k).length ≤ k := by simp; omega
          omega
        clear hcs hcs2
        generalize x.wr[k] = bv at *
        cases bv
        · have HSC := hid (show ((x.wr.take (k + 1)).filter id).length = ((x.wr.take k).filter id).length from by rw [hsc]; simp)
          clear hsc
          go_wp2_with fail
          exact ⟨⟨k + 1, by omega, by go_num, rfl, rfl, by rw [HSC.out], HO, HK⟩, by simp [intOf]; omega⟩
        · rw [if_pos rfl] at hsc
          have HSC := hid hsc
          clear hsc
          generalize ((x.wr.take k).filter id).length = cn at *
          have hcn0 : (0 : Int) ≤ (cn : Int) := by omega
          have hcn6 : (cn : Int) ≤ 6 := by omega
          go_wp2_with fail
          refine (nPlace k (by omega) _).mono ?_
          rintro e w' ⟨rfl, rfl⟩
          try dsimp only
          go_wp2_with fail
          exact ⟨⟨k + 1, by omega, by go_num, rfl, rfl, by rw [HSC.out]; go_num, HO, HK⟩, by simp [intOf]; omega⟩
      · obtain rfl : k = x.wr.length := by omega
        have hki : ¬ (x.wr.length : Int) < (x.wr.length : Int) := by omega
        have hcl : ((x.wr.take x.wr.length).filter id).length ≤ 6 := by
          have h1 := List.length_filter_le id (x.wr.take x.wr.length)
          have h2 : (x.wr.take x.wr.length).length ≤ x.wr.length := by simp
          omega
        generalize ((x.wr.take x.wr.length).filter id).length = cn at *
        have hcn0 : (0 : Int) ≤ (cn : Int) := by omega
        have hcn6 : (cn : Int) ≤ 6 := by omega
        have z0 : wr.cell? ⟨g6, 0, none⟩ = some (.bool false) := HO.out.cells 0
        have z1 : wr.cell? ⟨g6, 1, none⟩ = some (.bool false) := HO.out.cells 1
        have z2 : wr.cell? ⟨g6, 2, none⟩ = some (.bool false) := HO.out.cells 2
        have z3 : wr.cell? ⟨g6, 3, none⟩ = some (.bool false) := HO.out.cells 3
        have z4 : wr.cell? ⟨g6, 4, none⟩ = some (.bool false) := HO.out.cells 4
        have z5 : wr.cell? ⟨g6, 5, none⟩ = some (.bool false) := HO.out.cells 5
        have z6 : wr.cell? ⟨g6, 6, none⟩ = some (.bool false) := HO.out.cells 6
        have z7 : wr.cell? ⟨g6, 7, none⟩ = some (.bool false) := HO.out.cells 7
        have z8 : wr.cell? ⟨g6, 8, none⟩ = some (.bool false) := HO.out.cells 8
        have z9 : wr.cell? ⟨g6, 9, none⟩ = some (.bool false) := HO.out.cells 9
        have z10 : wr.cell? ⟨g6, 10, none⟩ = some (.bool false) := HO.out.cells 10
        have z11 : wr.cell? ⟨g6, 11, none⟩ = some (.bool false) := HO.out.cells 11
        go_wp2_with fail
        clear z0 z1 z2 z3 z4 z5 z6 z7 z8 z9 z10 z11
        go_loopw [58, 3] (fun kv cv w' => ∃ k : Nat, k ≤ 12 ∧ kv = .int .i64 (k : Int) ∧ cv = .int .i64 (cn : Int) ∧ Hid (Has w' (pt g6 (.cells no12 154) :: pt b (.cells (nodC x dv (.slice pw x.wr.length cw) nm) 72) :: Dat x.kind dv x.data :: Bools (.slice pw x.wr.length cw) x.wr :: Nms nm x.names :: L)) ∧ Hid (Keep w w')) (fun kv _ _ => 12 - (intOf kv).toNat)
        case atStart => exact ⟨0, by omega, rfl, rfl, HO, HK⟩
        case round =>
          clear HO HK
          obtain ⟨k, hk12, rfl, rfl, HO, HK⟩ := hrel
          have hk0 : (0 : Int) ≤ (k : Int) := by omega
          by_cases hlt2 : k < 12
          · have hki2 : (k : Int) < 12 := by omega
            have hi := index12 k hlt2 wr
            unfold no12 at hi
            go_wp2_with fail
            exact ⟨⟨k + 1, by omega, by go_num, rfl, HO, HK⟩, by simp [intOf]; omega⟩
          · obtain rfl : k = 12 := by omega
            rw [show ((12 : Nat) : Int) = 12 from rfl]
            go_wp2_with fail
            go_ret
            rw [HB.out]
            exact ⟨rfl, ndc_iff.2 ⟨_, _, _, HNM.out, HO.out.re 5 [1, 2, 3, 4]⟩, HK.out⟩
end Go.Proofs.YtfhaedkaedffcaaGreatDoor
