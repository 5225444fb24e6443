/- TEXTS of mine, merged. -/
import Derived.Test.YtfhaedkaedffcaaGreatDoorM13
import Derived.Shelf.SlIter.Nil
import Derived.Shelf.SlIter.Sorted
import Derived.Shelf.SlIter.Keys
import Derived.Shelf.SlGeneric
import Derived.Ground.GgzProg
import Derived.Test.YtfhaedkaedffcaaGreatDoorProg
import Derived.Test.YtfhaedkaedffcaaGreatDoorM1
import Derived.Shelf.SlIterI.Nil
import Derived.Maps.OwnIn
import Derived.Test.YtfhaedkaedffcaaGreatDoorM7
import Derived.Test.YtfhaedkaedffcaaGreatDoorM4
/- WHAT EVERY TREE KEEPS: kept by taking away and by moving. No program in sight. -/
namespace Go.Proofs.YtfhaedkaedffcaaGreatDoor
open Go.RowKit Go.Own
variable {S : Tre} {rk : Int → Nat} {k : Nat}
end Go.Proofs.YtfhaedkaedffcaaGreatDoor
/- WHAT EVERY TREE KEEPS: kept by renaming. No program in sight. -/
namespace Go.Proofs.YtfhaedkaedffcaaGreatDoor
open Go.RowKit Go.Own
variable {S : Tre} {rk : Int → Nat} {k : Nat}
/-- A tree of no more entries. -/
def Les (t : List (Int × Nod)) (S : Tre) : Prop := ∀ n x, fnd t n = some x → ∃ x0, fnd S.nodes n = some x0 ∧ x.kind = x0.kind ∧ ∀ e ∈ x.names, e ∈ x0.names
end Go.Proofs.YtfhaedkaedffcaaGreatDoor
/-
  DERIVED: THE SHELF's CONTRACTS AT THIS DUMP, IN PLAIN WORDS (tools/lay-plain.mjs out of 'TryzKey.lean', which tools/lay-shelf.mjs wrote): THE SAME DECLARATIONS UNDER THE SAME NAMES: 'import', 'namespace', 'open', 'def', 'theorem' AND NOTHING ELSE: no command of the shelf's: FOR A HAND-IN. Each laying: the table of numbers ('.._ren') and one theorem, a field a fact of the dump's own or the kernel's comparison; each contract: ONE APPLICATION.
-/
namespace Go.Proofs
open Go.Shelf
def Tryz.keys105_ren : Go.Shelf.Ren := ⟨fun | 7 => 105 | 10 => 146 | n => n, fun | 23 => 69 | 26 => 9 | 3 => 3 | 28 => 140 | 0 => 0 | 27 => 139 | 33 => 178 | 4 => 4 | n => n, fun | n => n⟩
theorem Tryz.keys105 : Go.Proofs.SlLaysZ.n7 Tryz.prog Tryz.keys105_ren := {
  mixed := by kernel_rfl
  f7 := ⟨Tryz.f105.name, by decide, Tryz.func105.trans (congrArg some (by kernel_rfl))⟩
  f10 := ⟨Tryz.f146.name, by decide, Tryz.func146.trans (congrArg some (by kernel_rfl))⟩
  t0 := Tryz.underlying0
  a0 := Tryz.isAgg0
  z0 := Tryz.sizeOf0
  v0 := Tryz.zeroValue0
  t4 := Tryz.underlying4
  a4 := Tryz.isAgg4
  z4 := Tryz.sizeOf4
  v4 := Tryz.zeroValue4
  t23 := Tryz.underlying69
  a23 := Tryz.isAgg69
  z23 := Tryz.sizeOf69
  v23 := Tryz.zeroValue69
  t26 := Tryz.underlying9
  a26 := Tryz.isAgg9
  z26 := Tryz.sizeOf9
  v26 := Tryz.zeroValue9
  t27 := Tryz.underlying139
  a27 := Tryz.isAgg139
  z27 := Tryz.sizeOf139
  v27 := Tryz.zeroValue139
  t28 := Tryz.underlying140
  a28 := Tryz.isAgg140
  z28 := Tryz.sizeOf140
  v28 := Tryz.zeroValue140
  t33 := Tryz.underlying178
  a33 := Tryz.isAgg178
  z33 := Tryz.sizeOf178
  v33 := Tryz.zeroValue178 }
def Tryz.sorted104_ren : Go.Shelf.Ren := ⟨fun | 6 => 104 | 8 => 144 | 9 => 145 | 11 => 177 | 13 => 112 | 12 => 178 | 23 => 158 | 24 => 159 | 14 => 189 | 15 => 190 | 16 => 191 | 17 => 192 | 18 => 193 | 19 => 194 | 20 => 195 | 21 => 196 | 22 => 197 | 25 => 208 | 26 => 181 | 27 => 182 | 28 => 209 | 29 => 210 | 30 => 211 | 31 => 219 | n => n, fun | 26 => 9 | 28 => 140 | 24 => 27 | 0 => 0 | 3 => 3 | 37 => 90 | 48 => 188 | 50 => 190 | 4 => 4 | 40 => 182 | 39 => 181 | 45 => 126 | 5 => 5 | 9 => 9 | 51 => 202 | 55 => 206 | 57 => 224 | 58 => 55 | 33 => 178 | n => n, fun | n => n⟩
theorem Tryz.sorted104 : Go.Proofs.SlLaysZ.n6 Tryz.prog Tryz.sorted104_ren := {
  mixed := by kernel_rfl
  f6 := ⟨Tryz.f104.name, by decide, Tryz.func104.trans (congrArg some (by kernel_rfl))⟩
  f8 := ⟨Tryz.f144.name, by decide, Tryz.func144.trans (congrArg some (by kernel_rfl))⟩
  f11 := ⟨Tryz.f177.name, by decide, Tryz.func177.trans (congrArg some (by kernel_rfl))⟩
  t0 := Tryz.underlying0
  a0 := Tryz.isAgg0
  z0 := Tryz.sizeOf0
  v0 := Tryz.zeroValue0
  t24 := Tryz.underlying27
  a24 := Tryz.isAgg27
  z24 := Tryz.sizeOf27
  v24 := Tryz.zeroValue27
  t26 := Tryz.underlying9
  a26 := Tryz.isAgg9
  z26 := Tryz.sizeOf9
  v26 := Tryz.zeroValue9
  t28 := Tryz.underlying140
  a28 := Tryz.isAgg140
  z28 := Tryz.sizeOf140
  v28 := Tryz.zeroValue140
  i26 := by kernel_rfl }
end Go.Proofs
/- slices.AppendSeq of a slice that is not nil, against whatever iterator of ints. No program in sight. -/
namespace Go.Own
open Go.RowKit Go.Maps Go.Sort Go.Shelf Go.Proofs
/-- Nothing that lay there has turned, but for one block. -/
structure But (w w' : World) (row : Option Nat) : Prop where
  keep : Keep w w'
  same : ∀ k, k < w.heap.size → some k ≠ row → w'.heap[k]? = w.heap[k]?
/-- What is owned behind all that. -/
theorem Has.regrown {w w' : World} {L : List HP} {v v' : Value} {e : TypeId} {size n n' : Nat} {xs xs' : List Value} (h : Has w (row v e size n xs :: L)) (hb : But w w' v.ownBlock) (ho : w'.ownsRow 0 e size v' n' xs')
    (hv : v'.ownBlock = v.ownBlock ∨ ∃ b, v'.ownBlock = some b ∧ w.heap.size ≤ b) : Has w' (row v' e size n' xs' :: L) := by
  obtain ⟨h1, ⟨rfl, rfl, -, h2⟩ | ⟨g, cap, cur, rfl, -, -, -, -, h2⟩⟩ := h.row_cases
  · have hs : ∀ k, k < w.heap.size → w'.heap[k]? = w.heap[k]? := fun k hk => hb.same k hk (by simp [Value.ownBlock])
    obtain ⟨hl, ⟨rfl, rfl⟩ | ⟨g, cap, cur, rfl, -, hg, r1, r2, r3, r4⟩⟩ := ho
    · have hx : xs' = [] := List.eq_nil_of_length_eq_zero (by simpa using hl)
      subst hx
      exact (h2.frame hs).row_nil e size
    · rcases hv with hv | ⟨b, hv, hle⟩
      · simp [Value.ownBlock] at hv
      · simp only [Value.ownBlock, Option.some.injEq] at hv
        subst hv
        exact (h2.fresh hs hle hg).row_of r1 r2 r3 r4 hl
  · have hne : ∀ k, k < w.heap.size → k ≠ g → w'.heap[k]? = w.heap[k]? := fun k hk hkg => hb.same k hk (by simpa [Value.ownBlock] using hkg)
    obtain ⟨o, hog⟩ : ∃ o, w'.heap[g]? = some o := ⟨_, Array.getElem?_eq_getElem (by have := h2.lt; have := hb.keep.size; omega)⟩
    obtain ⟨hl, ⟨rfl, rfl⟩ | ⟨g', cap', cur', rfl, -, hg', r1, r2, r3, r4⟩⟩ := ho
    · have hx : xs' = [] := List.eq_nil_of_length_eq_zero (by simpa using hl)
      subst hx
      exact (h2.turn hne hog).drop.row_nil e size
    · rcases hv with hv | ⟨b, hv, hle⟩
      · simp only [Value.ownBlock, Option.some.injEq] at hv
        subst hv
        exact (h2.turn hne hg').row_of r1 r2 r3 r4 hl
      · simp only [Value.ownBlock, Option.some.injEq] at hv
        subst hv
        have h3 := (h2.setObj o).drop
        refine (h3.fresh (fun k hk => ?_) (by simpa using hle) hg').row_of r1 r2 r3 r4 hl
        by_cases e1 : k = g
        · subst e1
          rw [hog]
          have := h2.lt
          simp [this]
        · have hk' : k < w.heap.size := by simpa using hk
          rw [hne k hk' e1]
          simp [Ne.symm e1]
section
variable {P : Program} {ρ : Ren}
/-- The loop's record. -/
def sqRec (ρ : Ren) (v0 : Value) (fn : FuncId) (sv : Value) (Bs D : Nat) (st : LoopState) (pend : Option Code) : Loop :=
  { AnyZI.apRec ρ fn sv Bs D st pend with tmps := #[v0, sv, .pointer (some ⟨Bs, 0, none⟩), undef, .slice none 0 0, undef, sv, undef, undef, undef, undef, undef, undef] }
/-- Between two rounds. -/
structure SqAt (ρ : Ren) (w0 : World) (v0 : Value) (xs : List Int) (fn : FuncId) (sv : Value) (Bs l D : Nat) (ss : List Int) (W : World) : Prop where
  box : ∃ v, W.heap[Bs]? = some (.cells #[v] (ρ.t 24) (0, 0)) ∧ W.ownsRow 0 (ρ.t 26) 1 v (xs.length + ss.length) ((xs ++ ss).map encZ) ∧ (v.ownBlock = v0.ownBlock ∨ ∃ b, v.ownBlock = some b ∧ w0.heap.size ≤ b)
  L : W.heap[l]? = some (.loop (sqRec ρ v0 fn sv Bs D .ready none))
  K : W.heap[D]? = some (.deferred (some []))
  but : But w0 W v0.ownBlock
end
end Go.Own
/- slices.Sorted(maps.Keys(m)) of a directory's names. -/
namespace Go.Proofs.YtfhaedkaedffcaaGreatDoor
open Go.RowKit Go.Own Go.Maps Go.ChangeMaps Go.Shelf Go.Proofs
def sortedS (l : List Str) : List Str := l.mergeSort fun x y => decide (x ≤ y)
theorem leS_trans (a b c : Str) (h1 : decide (a ≤ b) = true) (h2 : decide (b ≤ c) = true) : decide (a ≤ c) = true := by
  simp only [decide_eq_true_eq] at *
  exact List.le_trans h1 h2
theorem leS_total (a b : Str) : (decide (a ≤ b) || decide (b ≤ a)) = true := by
  simp only [Bool.or_eq_true, decide_eq_true_eq]
  exact List.le_total a b
theorem sortedS_perm (l : List Str) : (sortedS l).Perm l := List.mergeSort_perm l _
theorem sortedS_sorted (l : List Str) : (sortedS l).Pairwise (fun x y => decide (x ≤ y) = true) := List.pairwise_mergeSort leS_trans leS_total l
theorem sortedS_congr {l l' : List Str} (h : l.Perm l') : sortedS l = sortedS l' :=
  (((sortedS_perm l).trans h).trans (sortedS_perm l').symm).eq_of_pairwise (fun a b _ _ h1 h2 => by simp only [decide_eq_true_eq] at *; exact List.le_antisymm h1 h2) (sortedS_sorted l) (sortedS_sorted l')
theorem sortedS_len (l : List Str) : (sortedS l).length = l.length := (sortedS_perm l).length_eq
abbrev seqK (c : Nat) : Value := .func (.func 146) #[] #[.pointer (some ⟨c, 0, none⟩)]
theorem keysK (b : Nat) (w : World) : Calls Tryz.prog 105 #[.map (some b)] w fun e w' => e = .returned (seqK w.heap.size) ∧ w' = w.alloc (.cells #[.map (some b)] tNm) :=
  callsIn_wide.1 (AnyZ.keys_in Tryz.keys105 Fence.wide 9 trivial rfl (some b) w)
theorem sortsInK (m : Nat) : AnyZ.SortsIn Tryz.prog Tryz.sorted104_ren Fence.wide m :=
  ⟨fun blk off cap ss W hH hblk hsz => callsIn_wide.2 (Tryz.slices_Sort_string blk off cap ss W hH hblk hsz), fun p cap W => callsIn_wide.2 (Tryz.slices_Sort_string_none p cap W)⟩
theorem belowBut {W w' : World} (h : Below W.heap.size W w') : But W w' none := ⟨⟨h.os, h.tape, h.output, h.size⟩, fun k hk _ => h.block k hk⟩
theorem sortedK (b : Nat) (t : List (Str × Int)) (w : World) (L : List HP) (hl : t.length ≤ 1000000) (hO : Has w (Mk kStr vInt b t :: L)) :
    Calls Tryz.prog 104 #[seqK w.heap.size] (w.alloc (.cells #[.map (some b)] tNm)) fun e w' => ∃ v, e = .returned v ∧ Has w' (row v tStr 1 (sortedS (t.map Prod.fst)).length ((sortedS (t.map Prod.fst)).map sV) :: Mk kStr vInt b t :: L) ∧ Keep w w' := by
  obtain ⟨D, h1, h2⟩ := Mk.iff.1 hO
  have hs := AnyZ.keys_gives (ρ := Tryz.keys105_ren) { Tryz.keys105 with } Fence.wide 6 trivial rfl (by omega) w.heap.size b _ D (w.alloc (.cells #[.map (some b)] tNm)) (by simp) (by simp) (h2.alloc' _).owns
  rw [h1.size] at hs
  have hp : (t.map Prod.fst).Perm (strKeys D) := Collected.perm (left := fun _ => false) ⟨h1.nodup, fun x => by rw [show (Lit.string x) = kStr.lk x from rfl, h1.has]; simp⟩ h2.owns kStr.law undS (fun _ => rfl)
  refine (callsIn_wide (n := 9)).1 ((AnyZ.sorted_in Tryz.sorted104 Fence.wide 9 trivial trivial trivial trivial rfl (by omega) (sortsInK _) (enters_of Tryz.func145 (by kernel_rfl) rfl) 146 #[.pointer (some ⟨w.heap.size, 0, none⟩)] trivial (enters_of Tryz.func146 (by kernel_rfl) rfl) _ t.length (le_maxLen (by omega)) (by omega) (w.alloc (.cells #[.map (some b)] tNm)) hs).mono ?_)
  rintro e w' ⟨v, ss, rfl, hS, hrow, hnil, hb⟩
  have e1 : (ss.mergeSort fun x y => decide (x ≤ y)) = sortedS (t.map Prod.fst) := sortedS_congr (hS.trans hp.symm)
  rw [e1] at hrow
  have hlen : ss.length = (sortedS (t.map Prod.fst)).length := by rw [sortedS_len, hS.length_eq, ← hp.length_eq]
  rw [hlen] at hrow
  refine ⟨v, rfl, ((hO.alloc' _).row_nil tStr 1).regrown (belowBut hb) (ownsRow_base_a hrow (Nat.zero_le _)) ?_, ((Keep.refl w).alloc _).trans (belowBut hb).keep⟩
  rcases hrow.2 with ⟨rfl, -⟩ | ⟨g, cap, cur, rfl, hbase, -⟩
  · exact .inl rfl
  · exact .inr ⟨g, rfl, hbase⟩
namespace Tre
variable (S : Tre)
def list (kind : Int) (p : Str) : Ans :=
  if (S.find p (kind == 18)).2 ≠ 0 then ansE (S.find p (kind == 18)).2
  else if kind = 18 ∧ (S.at_ (S.find p (kind == 18)).1.node).kind ≠ 2 then ansE 7
  else if kind = 18 then ⟨0, 0, 0, 0, [], sortedS ((S.at_ (S.find p (kind == 18)).1.node).names.map Prod.fst)⟩
  else if (S.at_ (S.find p (kind == 18)).1.node).kind ≠ 3 then ansE 2
  else ⟨0, 0, 0, 0, (S.at_ (S.find p (kind == 18)).1.node).data, []⟩
end Tre
end Go.Proofs.YtfhaedkaedffcaaGreatDoor
