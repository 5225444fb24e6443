/- TEXTS of mine, merged. -/
import Derived.Test.YtajnhggcaiakeaaRows
import Derived.Test.YtajnhggcaiakeaaM1
import Derived.Test.YtajnhggcaiakeaaM2
import Derived.WalkLawsBesides
import Derived.Deep.QuietTactic
import Derived.BigQuiet
import Derived.StillTailTactics
import Derived.Deep.DeepCutAuto
import Derived.Deep.CutBlock
import Derived.Maps.RangeWalk
/- What every text of walks of this seat imports. -/
namespace Go.Proofs.Ytajnhggcaiakeaa
open Go.RowKit Go.Own
theorem infoInt : (Try.prog.info? 3).map (fun i => (i.zero, i.size, i.bytes)) = some (some (.int .i64 0), 1, 8) := by kernel_rfl
def Ints (v : Value) (xs : List Int) : HP := row v 3 1 xs.length (ic xs)
theorem Ints.rd {v : Value} {xs : List Int} {w : World} {L : List HP} (h : Has w (Ints v xs :: L)) : Rd w v 1 xs.length (ic xs) := Has.rd h
theorem infoU8 : (Try.prog.info? 5).map (fun i => (i.zero, i.size, i.bytes)) = some (some (.int .u8 0), 1, 1) := by kernel_rfl
def Bytes (v : Value) (xs : List Int) : HP := row v 5 1 xs.length (bc xs)
theorem Bytes.rd {v : Value} {xs : List Int} {w : World} {L : List HP} (h : Has w (Bytes v xs :: L)) : Rd w v 1 xs.length (bc xs) := Has.rd h
/-- A number below n. -/
def low (x n : Int) : Int := IntKind.u64.wrap x % n
theorem low_in (x n : Int) (hn : 1 ≤ n) : 0 ≤ low x n ∧ low x n < n := ⟨Int.emod_nonneg _ (by omega), Int.emod_lt_of_pos _ (by omega)⟩
theorem u64_nonneg (x : Int) : 0 ≤ IntKind.u64.wrap x := by simp [IntKind.wrap, IntKind.bits, IntKind.signed]; omega
theorem low_eq (x n : Int) (hn : 1 ≤ n) (hn' : n ≤ 9223372036854775807) : wrap64 ((IntKind.u64.wrap x).tmod n) = low x n := by
  have h := low_in x n hn
  have h0 := u64_nonneg x
  rw [Int.tmod_eq_emod_of_nonneg h0]
  exact IntWalk.wrap64_in _ (by unfold low at h; omega)
end Go.Proofs.Ytajnhggcaiakeaa
/- MAPS: a chunk for a map whose keys are ints, as a list of its entries. -/
namespace Go.Own
open Go.RowKit Go.Maps Go.ChangeMaps Go.MapKept
open Go.WideElems (Fit rd rg pl rd_val)
abbrev Rdr := Value → Option (DataW Unit × List MemPlace)
abbrev lk (x : Int) : Lit := .int .i64 x
section
variable {P : Program} {k : TypeId} {R : Rdr} {w w' : World} {L : List HP} {b n : Nat} {D D' : DataW Unit}
/-- Block b is a map that reads as D. -/
def Mp (P : Program) (k : TypeId) (R : Rdr) (b : Nat) (D : DataW Unit) : HP :=
  ex fun es : Array MapEntry => ex fun clock : Nat => sep (fact (Fit P k R es clock ∧ D = .map ((es.toList.map (rg P k R)).foldr DataW.insert []))) (pt b (.map es clock))
theorem Mp.iff : Has w (Mp P k R b D :: L) ↔ ∃ es clock, (Fit P k R es clock ∧ D = .map ((es.toList.map (rg P k R)).foldr DataW.insert [])) ∧ Has w (pt b (.map es clock) :: L) := by
  unfold Mp
  rw [Has.ex_iff]
  constructor
  · rintro ⟨es, h⟩
    obtain ⟨clock, h⟩ := Has.ex_iff.1 h
    rw [Has.sep_iff, Has.fact_iff] at h
    exact ⟨es, clock, h⟩
  · rintro ⟨es, clock, h⟩
    refine ⟨es, Has.ex_iff.2 ⟨clock, ?_⟩⟩
    rw [Has.sep_iff, Has.fact_iff]
    exact h
theorem Has.owns (h : Has w (Mp P k R b D :: L)) : w.ownsMap P k R b (Maps.size D) D := by
  obtain ⟨es, clock, ⟨F, rfl⟩, h1⟩ := Mp.iff.1 h
  exact ⟨es, clock, h1.lookup, F, by rw [Maps.size_eq, length_read]; exact Nat.le_refl _, rfl⟩
theorem Has.mapTurn (h : Has w (Mp P k R b D :: L)) (hg : ∀ i, i < w.heap.size → i ≠ b → w'.heap[i]? = w.heap[i]?) (ho : w'.ownsMap P k R b n D') : Has w' (Mp P k R b D' :: L) := by
  obtain ⟨es, clock, -, h1⟩ := Mp.iff.1 h
  obtain ⟨es', clock', hb, F, -, hD⟩ := ho
  exact Mp.iff.2 ⟨es', clock', ⟨F, hD⟩, h1.turn hg hb⟩
theorem Has.mapMade (h : Has w L) (P : Program) (k : TypeId) (R : Rdr) : Has (w.alloc (.map #[] 0)) (Mp P k R w.heap.size (.map []) :: L) :=
  Mp.iff.2 ⟨#[], 0, ⟨⟨by simp, stamped_empty 0, by simp⟩, rfl⟩, h.alloc _⟩
theorem grown_but {row : Option Nat} (h : w.grownBy w' row) {b : Nat} (hr : ∀ r, row = some r → r = b) : ∀ i, i < w.heap.size → i ≠ b → w'.heap[i]? = w.heap[i]? :=
  fun i hi hne => h.block i hi fun e => hne (hr i e.symm)
end
section
variable {α : Type} {enc : α → DataW Unit} {D : DataW Unit} {t : List (Int × α)}
/-- D's entries are t's. -/
structure Al (enc : α → DataW Unit) (D : DataW Unit) (t : List (Int × α)) : Prop where
  tidy : Tidy D
  nodup : (t.map Prod.fst).Nodup
  size : Maps.size D = t.length
  wf : ∀ p ∈ t, (Lit.int .i64 p.1).wf = true
  yes : ∀ p ∈ t, ∀ z, D.atKey (lk p.1) z = enc p.2
  no : ∀ x, x ∉ t.map Prod.fst → ∀ z, D.atKey (lk x) z = z
theorem isKey (x : Int) : WideAt.IsKeyLit (lk x) := by simp [WideAt.IsKeyLit]
theorem lk_ne {x y : Int} (h : x ≠ y) : lk x ≠ lk y := fun e => h (by simpa using e)
theorem Al.nil : Al enc (.map []) [] where
  tidy := tidy_empty
  nodup := List.nodup_nil
  size := rfl
  wf := by simp
  yes := by simp
  no := fun x _ z => rfl
theorem Al.has (h : Al enc D t) (x : Int) : Maps.has D (lk x) = decide (x ∈ t.map Prod.fst) := by
  by_cases hx : x ∈ t.map Prod.fst
  · rw [decide_eq_true hx]
    obtain ⟨p, hp, rfl⟩ := List.mem_map.1 hx
    exact has_true_of_atKey (y := enc p.2) fun z => h.yes p hp z
  · rw [decide_eq_false hx]
    exact has_false_of_atKey fun z => h.no x hx z
theorem Al.put (h : Al enc D t) (x : Int) (a : α) (hx : x ∉ t.map Prod.fst) (hw : (Lit.int .i64 x).wf = true) : Al enc (D.put (lk x) (enc a)) (t ++ [(x, a)]) where
  tidy := h.tidy.put (isKey x) _
  nodup := by
    rw [List.map_append, List.nodup_append]
    exact ⟨h.nodup, by simp, by rintro y hy z hz rfl; simp at hz; subst hz; exact hx hy⟩
  size := by rw [size_put h.tidy, h.has, decide_eq_false hx, if_neg Bool.false_ne_true, h.size]; simp
  wf := by
    intro p hp
    rcases List.mem_append.1 hp with hp | hp
    · exact h.wf p hp
    · rw [List.mem_singleton.1 hp]; exact hw
  yes := by
    intro p hp z
    rcases List.mem_append.1 hp with hp | hp
    · rw [atKey_put_other (lk_ne fun e => hx (by rw [← e]; exact List.mem_map_of_mem hp))]
      exact h.yes p hp z
    · rw [List.mem_singleton.1 hp]; exact atKey_put_same h.tidy.isMap (isKey x) _ _
  no := by
    intro y hy z
    simp only [List.map_append, List.map_cons, List.map_nil, List.mem_append, List.mem_singleton, not_or] at hy
    rw [atKey_put_other (lk_ne hy.2)]
    exact h.no y hy.1 z
/-- What is there already is put again. -/
theorem Al.again (h : Al enc D t) (x : Int) (a : α) (hx : (x, a) ∈ t) : Al enc (D.put (lk x) (enc a)) t where
  tidy := h.tidy.put (isKey x) _
  nodup := h.nodup
  size := by rw [size_put h.tidy, h.has, decide_eq_true (List.mem_map_of_mem (f := Prod.fst) hx), if_pos rfl, h.size]
  wf := h.wf
  yes := by
    intro p hp z
    by_cases e : p.1 = x
    · have : enc p.2 = enc a := by
        have h1 := h.yes p hp (.map [])
        have h2 := h.yes _ hx (.map [])
        rw [e] at h1
        exact h1.symm.trans h2
      rw [e, atKey_put_same h.tidy.isMap (isKey x), this]
    · rw [atKey_put_other (lk_ne e)]; exact h.yes p hp z
  no := by
    intro y hy z
    rw [atKey_put_other (lk_ne fun e => hy (by subst e; exact List.mem_map_of_mem (f := Prod.fst) hx))]
    exact h.no y hy z
theorem Al.del (h : Al enc D t) (x : Int) : Al enc (D.del (lk x)) (t.filter fun p => p.1 != x) where
  tidy := h.tidy.del _
  nodup := h.nodup.sublist ((List.filter_sublist).map _)
  size := by
    have h1 := size_del h.tidy (k := lk x)
    rw [h.has] at h1
    have h2 : (t.filter fun p => p.1 != x).length + (if decide (x ∈ t.map Prod.fst) then 1 else 0) = t.length := by
      have hnd := h.nodup
      clear h h1
      induction t with
      | nil => rfl
      | cons p t ih =>
        rw [List.map_cons, List.nodup_cons] at hnd
        have i := ih hnd.2
        by_cases e : p.1 = x
        · subst e
          have hm : decide (p.1 ∈ t.map Prod.fst) = false := decide_eq_false hnd.1
          rw [hm] at i
          simp only [Bool.false_eq_true, if_false, Nat.add_zero] at i
          have hb : (p.1 != p.1) = false := by simp
          rw [List.filter_cons, hb]
          simp only [Bool.false_eq_true, if_false, i, List.map_cons, List.mem_cons, true_or, decide_true, if_true, List.length_cons]
        · have hb : (p.1 != x) = true := by simpa using e
          rw [List.filter_cons, hb]
          have hm : decide (x ∈ (p :: t).map Prod.fst) = decide (x ∈ t.map Prod.fst) := by
            simp [List.map_cons, List.mem_cons, Ne.symm e]
          rw [hm]
          simp only [if_true, List.length_cons]
          omega
    rw [h.size] at h1
    omega
  wf := fun p hp => h.wf p (List.mem_filter.1 hp).1
  yes := by
    intro p hp z
    obtain ⟨hp, hx⟩ := List.mem_filter.1 hp
    rw [atKey_del_other (lk_ne (by simpa using hx))]
    exact h.yes p hp z
  no := by
    intro y hy z
    by_cases e : y = x
    · subst e; exact atKey_del_same z
    · rw [atKey_del_other (lk_ne e)]
      refine h.no y (fun hm => hy ?_) z
      obtain ⟨p, hp, rfl⟩ := List.mem_map.1 hm
      exact List.mem_map_of_mem (List.mem_filter.2 ⟨hp, by simpa using e⟩)
end
end Go.Own
/- A map that is ranged over, as a chunk. -/
namespace Go.Own
open Go.RowKit Go.Maps Go.ChangeMaps Go.MapKept
open Go.WideElems (Fit rd rg pl rd_val)
section
variable {P : Program} {k : TypeId} {R : Rdr} {w w' : World} {L : List HP} {b r n cnt cnt' : Nat} {D : DataW Unit} {left left' : Lit → Bool}
/-- What holds of a map that is ranged over. -/
def RgF (P : Program) (k : TypeId) (R : Rdr) (D : DataW Unit) (left : Lit → Bool) (cnt : Nat) (es : Array MapEntry) (clock since : Nat) (seen : Array Nat) (c0 : Nat) : Prop :=
  Fit P k R es clock ∧ D = .map ((es.toList.map (rg P k R)).foldr DataW.insert []) ∧ (∀ x ∈ es.toList, x.born < since) ∧ (leftOf es seen).size = cnt ∧
    (∀ x ∈ es.toList, left (rg P k R x).1 = !seen.contains x.born) ∧ (∀ kl, left kl = true → ∃ x ∈ es.toList, (rg P k R x).1 = kl) ∧ since ≤ c0 ∧ since ≤ clock
abbrev RgI := Array MapEntry × Nat × Nat × Array Nat × Nat
def Rg (P : Program) (k : TypeId) (R : Rdr) (b r : Nat) (D : DataW Unit) (left : Lit → Bool) (cnt : Nat) : HP :=
  ex fun i : RgI => star [fact (RgF P k R D left cnt i.1 i.2.1 i.2.2.1 i.2.2.2.1 i.2.2.2.2), pt b (.map i.1 i.2.1), pt r (.mapIter (some b) i.2.2.1 i.2.2.2.1 i.2.2.2.2)]
theorem Rg.iff : Has w (Rg P k R b r D left cnt :: L) ↔ ∃ es clock since seen c0, RgF P k R D left cnt es clock since seen c0 ∧ Has w (pt b (.map es clock) :: pt r (.mapIter (some b) since seen c0) :: L) := by
  unfold Rg
  rw [Has.ex_iff]
  constructor
  · rintro ⟨⟨es, clock, since, seen, c0⟩, h⟩
    have h1 := Has.star_iff.1 h
    exact ⟨es, clock, since, seen, c0, Has.fact_iff.1 h1⟩
  · rintro ⟨es, clock, since, seen, c0, h⟩
    exact ⟨⟨es, clock, since, seen, c0⟩, Has.star_iff.2 (Has.fact_iff.2 h)⟩
theorem Has.rgRanges (h : Has w (Rg P k R b r D left cnt :: L)) : w.ranges P k R b r (Maps.size D) D left cnt := by
  obtain ⟨es, clock, since, seen, c0, ⟨F, rfl, h1, h2, h3, h4, h5, h6⟩, hh⟩ := Rg.iff.1 h
  exact ⟨es, clock, since, seen, c0, hh.lookup, F, by rw [Maps.size_eq, length_read]; exact Nat.le_refl _, rfl, hh.p1.lookup, h1, h2, h3, h4, h5, h6⟩
theorem Has.rgEnd (h : Has w (Rg P k R b r D left cnt :: L)) : Has w (Mp P k R b D :: L) := by
  obtain ⟨es, clock, since, seen, c0, F, hh⟩ := Rg.iff.1 h
  exact Mp.iff.2 ⟨es, clock, ⟨F.1, F.2.1⟩, hh.p1.drop⟩
theorem Has.rgStart (h : Has w (Mp P k R b D :: L)) (hr : w'.ranges P k R b w.heap.size n D left cnt) (hg : w.grownBy w' none) : Has w' (Rg P k R b w.heap.size D left cnt :: L) := by
  obtain ⟨es, clock, since, seen, c0, hb, F, hs, hD, hi, h1, h2, h3, h4, h5, h6⟩ := hr
  obtain ⟨es', clock', -, hh⟩ := Mp.iff.1 h
  have e := (hg.block b hh.lt (by simp)).symm.trans hb
  rw [hh.lookup] at e
  simp only [Option.some.injEq, Obj.map.injEq] at e
  obtain ⟨rfl, rfl⟩ := e
  have hk : ∀ i, i < w.heap.size → w'.heap[i]? = w.heap[i]? := fun i hi => hg.block i hi (by simp)
  refine Rg.iff.2 ⟨es', clock', since, seen, c0, ⟨F, hD, h1, h2, h3, h4, h5, h6⟩, ?_⟩
  exact (hh.fresh hk (Nat.le_refl _) hi).p1
theorem Has.rgTurn (h : Has w (Rg P k R b r D left cnt :: L)) (hr : w'.ranges P k R b r n D left' cnt') (hg : w.grownBy w' (some r)) : Has w' (Rg P k R b r D left' cnt' :: L) := by
  obtain ⟨es, clock, since, seen, c0, hb, F, hs, hD, hi, h1, h2, h3, h4, h5, h6⟩ := hr
  obtain ⟨es', clock', since', seen', c0', -, hh⟩ := Rg.iff.1 h
  have hne : b ≠ r := hh.ne
  have e := (hg.block b hh.lt (fun e => hne (by simpa using e))).symm.trans hb
  rw [hh.lookup] at e
  simp only [Option.some.injEq, Obj.map.injEq] at e
  obtain ⟨rfl, rfl⟩ := e
  refine Rg.iff.2 ⟨es', clock', since, seen, c0, ⟨F, hD, h1, h2, h3, h4, h5, h6⟩, ?_⟩
  exact (hh.p1.turn (grown_but hg fun r' e => by cases e; rfl) hi).p1
end
end Go.Own
/- GRAPHS of deps: the chunks, and what the operations on their maps give. -/
namespace Go.Proofs.Ytajnhggcaiakeaa
open Go.RowKit Go.Own Go.Maps Go.ChangeMaps
abbrev tI : TypeId := 3
abbrev tN : TypeId := 49
abbrev tO : TypeId := 44
theorem undI : Try.prog.underlying tI = some (.int .i64) := by kernel_rfl
theorem undN : Try.prog.underlying tN = some (.map tI tI) := by kernel_rfl
theorem undO : Try.prog.underlying tO = some (.map tI tN) := by kernel_rfl
theorem lawI : Keyed Try.prog tI := int_keyed undI
theorem zeroI (w : World) : (zeroValue tI).run Try.prog w = .ok (.int .i64 0) w := (Try.zeroValue3 w).trans rfl
theorem zeroN (w : World) : (zeroValue tN).run Try.prog w = .ok (.map none) w := (Try.zeroValue49 w).trans rfl
/-- How the elements read. -/
noncomputable abbrev rI : Rdr := plainElem Try.prog tI
def rM : Rdr
  | .map (some b) => some (.lit (.int .i64 b), [])
  | .map none => some (.lit (.int .i64 (-1)), [])
  | _ => none
theorem rM_inv {v : Value} {c : Int} {ps : List MemPlace} (h : rM v = some (.lit (.int .i64 c), ps)) : (∃ b : Nat, v = .map (some b) ∧ c = b) ∨ (v = .map none ∧ c = -1) := by
  unfold rM at h
  split at h
  · rename_i b
    simp at h
    exact .inl ⟨b, rfl, h.1.symm⟩
  · simp at h
    exact .inr ⟨rfl, h.1.symm⟩
  · cases h
def eI : Unit → DataW Unit := fun _ => .lit (.int .i64 1)
def eM : Nat → DataW Unit := fun b => .lit (.int .i64 b)
def okK (x : Int) : Prop := (Lit.int .i64 x).wf = true
/-- A set of ints in block b. -/
def Ns (b : Nat) (s : List Int) : HP := ex fun D : DataW Unit => sep (fact (Al eI D (s.map fun x => (x, ())))) (Mp Try.prog tI rI b D)
/-- A map of maps in block b. -/
def Om (b : Nat) (t : List (Int × Nat)) : HP := ex fun D : DataW Unit => sep (fact (Al eM D t)) (Mp Try.prog tI rM b D)
section
variable {w w' : World} {L : List HP} {b : Nat} {s : List Int} {t : List (Int × Nat)} {x : Int}
theorem Ns.iff : Has w (Ns b s :: L) ↔ ∃ D, Al eI D (s.map fun x => (x, ())) ∧ Has w (Mp Try.prog tI rI b D :: L) := by
  unfold Ns
  rw [Has.ex_iff]
  simp only [Has.sep_iff, Has.fact_iff]
theorem Om.iff : Has w (Om b t :: L) ↔ ∃ D, Al eM D t ∧ Has w (Mp Try.prog tI rM b D :: L) := by
  unfold Om
  rw [Has.ex_iff]
  simp only [Has.sep_iff, Has.fact_iff]
theorem fsts (s : List Int) : (s.map fun x => (x, ())).map Prod.fst = s := by
  rw [List.map_map]
  exact List.map_id s
theorem Ns.nodup (h : Has w (Ns b s :: L)) : s.Nodup := by
  obtain ⟨D, h1, -⟩ := Ns.iff.1 h
  have := h1.nodup
  rwa [fsts] at this
theorem Ns.ok (h : Has w (Ns b s :: L)) (hx : x ∈ s) : okK x := by
  obtain ⟨D, h1, -⟩ := Ns.iff.1 h
  exact h1.wf (x, ()) (List.mem_map_of_mem hx)
theorem Ns.at1 {D : DataW Unit} (h : Al eI D (s.map fun x => (x, ()))) (x : Int) (z : Int) : D.atKey (lk x) (.lit (.int .i64 z)) = .lit (.int .i64 (if x ∈ s then 1 else z)) := by
  by_cases hx : x ∈ s
  · rw [if_pos hx, h.yes (x, ()) (List.mem_map_of_mem hx)]; rfl
  · rw [if_neg hx, h.no x (by rwa [fsts])]
/-- `seen[x]` with ok. -/
theorem Ns.look (h : Has w (Ns b s :: L)) (hx : okK x) : (Instr.lookup tN (.map (some b)) (.int .i64 x) true).run Try.prog w = .ok (.tuple #[.int .i64 (if x ∈ s then 1 else 0), .bool (decide (x ∈ s))]) w := by
  obtain ⟨D, h1, h2⟩ := Ns.iff.1 h
  obtain ⟨v, ps, hr, hv⟩ := h2.owns.look_ok lawI undN (zeroI w) (plainElem_int undI (by decide)) (keyOf_int_mk undI hx)
  rw [Ns.at1 h1] at hv
  obtain ⟨c, rfl, hc, -⟩ := plainElem_int_inv undI hv
  simp only [Prod.mk.injEq, DataW.lit.injEq, Lit.int.injEq, true_and, and_true] at hc
  rw [hr, h1.has, fsts, hc.1]
/-- `done[x]`. -/
theorem Ns.look0 (h : Has w (Ns b s :: L)) (hx : okK x) : (Instr.lookup tN (.map (some b)) (.int .i64 x) false).run Try.prog w = .ok (.int .i64 (if x ∈ s then 1 else 0)) w := by
  obtain ⟨D, h1, h2⟩ := Ns.iff.1 h
  obtain ⟨v, ps, hr, hv⟩ := h2.owns.lookup lawI undN (zeroI w) (plainElem_int undI (by decide)) (keyOf_int_mk undI hx)
  rw [Ns.at1 h1] at hv
  obtain ⟨c, rfl, hc, -⟩ := plainElem_int_inv undI hv
  simp only [Prod.mk.injEq, DataW.lit.injEq, Lit.int.injEq, true_and, and_true] at hc
  rw [hr, hc.1]
/-- Where x's own map is. -/
def fb (t : List (Int × Nat)) (x : Int) : Option Nat := (t.find? fun p => p.1 == x).map Prod.snd
theorem fb_none {t : List (Int × Nat)} {x : Int} : fb t x = none ↔ x ∉ t.map Prod.fst := by
  unfold fb
  rw [Option.map_eq_none_iff, List.find?_eq_none]
  simp only [beq_iff_eq, List.mem_map, not_exists, not_and]
theorem fb_some {t : List (Int × Nat)} {x : Int} {b : Nat} (h : fb t x = some b) : (x, b) ∈ t := by
  unfold fb at h
  obtain ⟨p, hp, rfl⟩ := Option.map_eq_some_iff.1 h
  have h1 := List.find?_some hp
  simp only [beq_iff_eq] at h1
  subst h1
  exact List.mem_of_find?_eq_some hp
theorem fb_mem {t : List (Int × Nat)} (hn : (t.map Prod.fst).Nodup) {x : Int} {b : Nat} (h : (x, b) ∈ t) : fb t x = some b := by
  induction t with
  | nil => simp at h
  | cons p t ih =>
    rw [List.map_cons, List.nodup_cons] at hn
    unfold fb
    rw [List.find?_cons]
    rcases List.mem_cons.1 h with rfl | h
    · simp
    · have hne : ¬ p.1 = x := by rintro rfl; exact hn.1 (List.mem_map.2 ⟨_, h, rfl⟩)
      rw [show (p.1 == x) = false by simpa using hne]
      exact ih hn.2 h
theorem Om.nodup (h : Has w (Om b t :: L)) : (t.map Prod.fst).Nodup := by
  obtain ⟨D, h1, -⟩ := Om.iff.1 h
  exact h1.nodup
theorem Om.ok (h : Has w (Om b t :: L)) {p : Int × Nat} (hp : p ∈ t) : okK p.1 := by
  obtain ⟨D, h1, -⟩ := Om.iff.1 h
  exact h1.wf p hp
theorem Om.at1 {D : DataW Unit} (h : Al eM D t) (x : Int) : ∃ c : Int, D.atKey (lk x) (.lit (.int .i64 (-1))) = .lit (.int .i64 c) ∧ ((∃ b : Nat, c = b ∧ fb t x = some b) ∨ c = -1 ∧ fb t x = none) := by
  cases e : fb t x with
  | none => exact ⟨-1, h.no x (fb_none.1 e) _, .inr ⟨rfl, rfl⟩⟩
  | some b => exact ⟨b, h.yes _ (fb_some e) _, .inl ⟨b, rfl, rfl⟩⟩
theorem rM_val {v : Value} {c : Int} {ps : List MemPlace} {f : Option Nat} (hv : rM v = some (.lit (.int .i64 c), ps)) (hc : (∃ b : Nat, c = b ∧ f = some b) ∨ c = -1 ∧ f = none) : v = .map f := by
  rcases rM_inv hv with ⟨b, rfl, e⟩ | ⟨rfl, e⟩
  · rcases hc with ⟨b', e', rfl⟩ | ⟨e', -⟩
    · rw [show b = b' by omega]
    · omega
  · rcases hc with ⟨b', e', rfl⟩ | ⟨-, rfl⟩
    · omega
    · rfl
/-- `g.of[x]` with ok. -/
theorem Om.look (h : Has w (Om b t :: L)) (hx : okK x) : (Instr.lookup tO (.map (some b)) (.int .i64 x) true).run Try.prog w = .ok (.tuple #[.map (fb t x), .bool (decide (x ∈ t.map Prod.fst))]) w := by
  obtain ⟨D, h1, h2⟩ := Om.iff.1 h
  obtain ⟨v, ps, hr, hv⟩ := h2.owns.look_ok lawI undO (zeroN w) (zd := .lit (.int .i64 (-1))) (zp := []) rfl (keyOf_int_mk undI hx)
  obtain ⟨c, e, hc⟩ := Om.at1 h1 x
  rw [e] at hv
  rw [hr, h1.has, rM_val hv hc]
/-- `g.of[x]`. -/
theorem Om.look0 (h : Has w (Om b t :: L)) (hx : okK x) : (Instr.lookup tO (.map (some b)) (.int .i64 x) false).run Try.prog w = .ok (.map (fb t x)) w := by
  obtain ⟨D, h1, h2⟩ := Om.iff.1 h
  obtain ⟨v, ps, hr, hv⟩ := h2.owns.lookup lawI undO (zeroN w) (zd := .lit (.int .i64 (-1))) (zp := []) rfl (keyOf_int_mk undI hx)
  obtain ⟨c, e, hc⟩ := Om.at1 h1 x
  rw [e] at hv
  rw [hr, rM_val hv hc]
/-- `len(g.of[x])`. -/
theorem Ns.len (h : Has w (Ns b s :: L)) (ty : TypeId) : (Builtin.len_ #[tN] ty #[.map (some b)]).run Try.prog w = .ok (.int .i64 s.length) w := by
  obtain ⟨D, h1, h2⟩ := Ns.iff.1 h
  rw [h2.owns.len undN, h1.size, List.length_map]
theorem Ns.keep {a c : World} {i : Nat} (h : a.mapTurned c i) : Keep a c := (Keep.refl a).grown h.grown
end
section
variable {P : Program} (w : World) {ops : Array Oper} {rest : List Oper} {o : Oper} {a : Act} {Q : Exit → Act → World → Prop} {L : List HP} {b : Nat}
/-- `seen[x] = 1`. -/
theorem wpList_nsPut {s : List Int} (h : Has w (Ns b s :: L)) (hl : s.length < 1000000) (hg : o.guard = none) (m k v : Operand) (hop : o.op = Op.mapUpdate tN m k v) (hm : a.eval m = .map (some b)) (x : Int) (hx : okK x) (hk : a.eval k = .int .i64 x) (hv : a.eval v = .int .i64 1)
    (hK : ∀ w', Has w' (Ns b (if x ∈ s then s else s ++ [x]) :: L) → Keep w w' → wpList Try.prog ops Q rest (a.put o.dst undef) w') : wpList Try.prog ops Q (o :: rest) a w := by
  obtain ⟨D, h1, h2⟩ := Ns.iff.1 h
  have hs : Maps.size D = s.length := by rw [h1.size, List.length_map]
  refine wpList_mapUpdate_in w hg m k v tN hop tI tI lawI undN rI b _ D hm h2.owns (by rw [hs]; show s.length < maxLen; unfold maxLen; omega) _ _ _ hk hv (keyOf_int_mk undI hx) (.lit (.int .i64 1)) [] (plainElem_int undI (by decide)) ?_
  intro w' ho ht
  have h3 := h2.mapTurn (grown_but ht.grown fun r e => by cases e; rfl) ho
  refine hK w' (Ns.iff.2 ⟨_, ?_, h3⟩) (Ns.keep ht)
  by_cases hxs : x ∈ s
  · rw [if_pos hxs]
    exact h1.again x () (List.mem_map_of_mem (f := fun x => (x, ())) hxs)
  · rw [if_neg hxs, List.map_append]
    exact h1.put x () (by rwa [fsts]) hx
/-- `g.of[x] = m`. -/
theorem wpList_omPut {t : List (Int × Nat)} (h : Has w (Om b t :: L)) (hl : t.length < 1000000) (hg : o.guard = none) (m k v : Operand) (hop : o.op = Op.mapUpdate tO m k v) (hm : a.eval m = .map (some b)) (x : Int) (hx : okK x) (hk : a.eval k = .int .i64 x) (c : Nat) (hv : a.eval v = .map (some c))
    (hn : x ∉ t.map Prod.fst) (hK : ∀ w', Has w' (Om b (t ++ [(x, c)]) :: L) → Keep w w' → wpList Try.prog ops Q rest (a.put o.dst undef) w') : wpList Try.prog ops Q (o :: rest) a w := by
  obtain ⟨D, h1, h2⟩ := Om.iff.1 h
  refine wpList_mapUpdate_in w hg m k v tO hop tI tN lawI undO rM b _ D hm h2.owns (by rw [h1.size]; show t.length < maxLen; unfold maxLen; omega) _ _ _ hk hv (keyOf_int_mk undI hx) (.lit (.int .i64 c)) [] rfl ?_
  intro w' ho ht
  have h3 := h2.mapTurn (grown_but ht.grown fun r e => by cases e; rfl) ho
  exact hK w' (Om.iff.2 ⟨_, h1.put x c hn hx, h3⟩) (Ns.keep ht)
/-- `delete(g.of, x)`. -/
theorem wpList_omDel {t : List (Int × Nat)} (h : Has w (Om b t :: L)) (hg : o.guard = none) (m k : Operand) (hop : o.op = Op.call { callee := Callee.builtin Builtin.delete, args := #[m, k], argTypes := #[tO, tI] }) (hm : a.eval m = .map (some b)) (x : Int) (hx : okK x) (hk : a.eval k = .int .i64 x)
    (hK : ∀ w', Has w' (Om b (t.filter fun p => p.1 != x) :: L) → Keep w w' → wpList Try.prog ops Q rest (a.put o.dst (.tuple #[])) w') : wpList Try.prog ops Q (o :: rest) a w := by
  obtain ⟨D, h1, h2⟩ := Om.iff.1 h
  refine wpList_delete_own w hg m k tO tI hop tN lawI undO rM b _ D hm h2.owns _ _ hk (keyOf_int_mk undI hx) ?_
  intro w' ho ht
  have h3 := h2.mapTurn (grown_but ht.grown fun r e => by cases e; rfl) ho
  exact hK w' (Om.iff.2 ⟨_, h1.del x, h3⟩) (Ns.keep ht)
/-- `delete(l, x)`. -/
theorem wpList_nsDel {s : List Int} (h : Has w (Ns b s :: L)) (hg : o.guard = none) (m k : Operand) (hop : o.op = Op.call { callee := Callee.builtin Builtin.delete, args := #[m, k], argTypes := #[tN, tI] }) (hm : a.eval m = .map (some b)) (x : Int) (hx : okK x) (hk : a.eval k = .int .i64 x)
    (hK : ∀ w', Has w' (Ns b (s.filter fun y => y != x) :: L) → Keep w w' → wpList Try.prog ops Q rest (a.put o.dst (.tuple #[])) w') : wpList Try.prog ops Q (o :: rest) a w := by
  obtain ⟨D, h1, h2⟩ := Ns.iff.1 h
  refine wpList_delete_own w hg m k tN tI hop tI lawI undN rI b _ D hm h2.owns _ _ hk (keyOf_int_mk undI hx) ?_
  intro w' ho ht
  have h3 := h2.mapTurn (grown_but ht.grown fun r e => by cases e; rfl) ho
  refine hK w' (Ns.iff.2 ⟨_, ?_, h3⟩) (Ns.keep ht)
  have h4 := h1.del x
  rwa [List.filter_map] at h4
end
/-- A graph: what each needs, and in which block that lies. -/
abbrev Ge := Int × Nat × List Int
def outer (T : List Ge) : List (Int × Nat) := T.map fun e => (e.1, e.2.1)
def gids (T : List Ge) : List Int := T.map fun e => e.1
def inners (T : List Ge) : List HP := T.map fun e => Ns e.2.1 e.2.2
def Gr (g m : Nat) (T : List Ge) : HP := star (pt g (.cells #[.map (some m)] 46) :: Om m (outer T) :: inners T)
theorem outer_fst (T : List Ge) : (outer T).map Prod.fst = gids T := by simp [outer, gids]
theorem Gr.iff {w : World} {L : List HP} {g m : Nat} {T : List Ge} : Has w (Gr g m T :: L) ↔ Has w (pt g (.cells #[.map (some m)] 46) :: Om m (outer T) :: (inners T ++ L)) := by
  unfold Gr
  rw [Has.star_iff]
  rfl
/-- One of the inner maps at the head. -/
theorem inners_pull {w : World} {L : List HP} {T1 T2 : List Ge} {e : Ge} : Has w (inners (T1 ++ e :: T2) ++ L) ↔ Has w (Ns e.2.1 e.2.2 :: (inners (T1 ++ T2) ++ L)) := by
  unfold inners
  rw [List.map_append, List.map_cons, List.map_append]
  constructor
  · intro h
    exact h.perm (by simp only [List.append_assoc, List.cons_append]; exact List.perm_middle)
  · intro h
    exact h.perm (by simp only [List.append_assoc, List.cons_append]; exact List.perm_middle.symm)
end Go.Proofs.Ytajnhggcaiakeaa
/- THE WALKS of deps.New, there and Add. -/
namespace Go.Proofs.Ytajnhggcaiakeaa
open Go.RowKit Go.Own Go.Maps
abbrev gP (g : Nat) : Value := .pointer (some ⟨g, 0, none⟩)
set_option maxRecDepth 100000 in
theorem gThereNil (x : Int) (w : World) : Calls Try.prog 19 #[.pointer none, .int .i64 x] w fun e w' => e = .returned (.bool false) ∧ w = w' := by
  go_enter Try.func19, Try.ntmps19
  go_wp2_with fail
  go_ret
  exact ⟨rfl, rfl⟩
set_option maxRecDepth 100000 in
theorem gThere (g m : Nat) (T : List Ge) (x : Int) (w : World) (L : List HP) (hx : okK x) (hO : Has w (Gr g m T :: L)) :
    Calls Try.prog 19 #[gP g, .int .i64 x] w fun e w' => e = .returned (.bool (decide (x ∈ gids T))) ∧ w = w' := by
  have h := Gr.iff.1 hO
  have hc : w.cell? ⟨g, 0, none⟩ = some (.map (some m)) := by rw [h.cells 0]; rfl
  have hl := Om.look h.p1 hx
  rw [outer_fst] at hl
  clear h hO
  generalize fb (outer T) x = f at *
  generalize decide (x ∈ gids T) = r at *
  go_enter Try.func19, Try.ntmps19
  go_wp2_with fail
  go_ret
  exact ⟨rfl, rfl⟩
set_option maxRecDepth 100000 in
theorem gNew (w : World) (L : List HP) (hO : Has w L) : Calls Try.prog 8 #[] w fun e w' => ∃ g m, e = .returned (gP g) ∧ Has w' (Gr g m [] :: L) ∧ Keep w w' := by
  have hmm := @run_makeMap Try.prog
  go_enter Try.func8, Try.ntmps8
  have HO := hid hO
  clear hO
  go_wp2_with fail
  go_ret
  refine ⟨_, w.heap.size, rfl, Gr.iff.2 ?_, (((Keep.refl w).alloc _).alloc _)⟩
  have h := (HO.out.mapMade Try.prog tI rM).alloc (.cells #[.map (some w.heap.size)] 46)
  have hs : (w.alloc (.map #[] 0)).heap.size = w.heap.size + 1 := Array.size_push _
  rw [hs] at h
  exact (Om.iff.2 ⟨_, Al.nil, h.p1⟩).p1
set_option maxRecDepth 100000 in
theorem gAddNil (x : Int) (w : World) : Calls Try.prog 9 #[.pointer none, .int .i64 x] w fun e w' => e = .returned (.int .i64 1) ∧ w = w' := by
  go_enter Try.func9, Try.ntmps9
  go_wp2_with fail
  go_ret
  exact ⟨rfl, rfl⟩
set_option maxRecDepth 100000 in
set_option maxHeartbeats 4000000 in
theorem gAdd (g m : Nat) (T : List Ge) (x : Int) (w : World) (L : List HP) (hx : okK x) (h1 : 1 ≤ x) (hn : x ∉ gids T) (hl : T.length ≤ 1000) (hO : Has w (Gr g m T :: L)) :
    Calls Try.prog 9 #[gP g, .int .i64 x] w fun e w' => ∃ b, e = .returned (.int .i64 0) ∧ Has w' (Gr g m (T ++ [(x, b, [])]) :: L) ∧ Keep w w' := by
  have hth := gThere g m T x w L hx hO
  rw [decide_eq_false hn] at hth
  have hlt : ¬ x < 1 := by omega
  have HO := hid hO
  have HX := hid hx
  have HN := hid hn
  have HL := hid hl
  clear hO hx hn hl h1
  have hmm := @run_makeMap Try.prog
  go_enter Try.func9, Try.ntmps9
  go_wp2_with fail
  refine (hth).mono ?_
  rintro e w' ⟨rfl, rfl⟩
  try dsimp only
  have h := Gr.iff.1 HO.out
  have hc : w.cell? ⟨g, 0, none⟩ = some (.map (some m)) := by rw [h.cells 0]; rfl
  have HM := hid (h.mapMade Try.prog tI rI).p2
  clear h
  go_wp2_with (at_mapUpdate; refine wpList_omPut (t := outer T) _ HM.out (by rw [outer, List.length_map]; have := HL.out; omega) rfl _ _ _ rfl rfl x HX.out rfl w.heap.size rfl (by rw [outer_fst]; exact HN.out) ?_; intro w2 hO2 hK2)
  go_ret
  refine ⟨w.heap.size, rfl, Gr.iff.2 ?_, ((Keep.refl w).alloc _).trans hK2⟩
  have h2 : Has w2 (Ns w.heap.size [] :: Om m (outer T ++ [(x, w.heap.size)]) :: pt g (.cells #[.map (some m)] 46) :: (inners T ++ L)) := Ns.iff.2 ⟨_, Al.nil, hO2.p1⟩
  have h3 : Has w2 (pt g (.cells #[.map (some m)] 46) :: Om m (outer T ++ [(x, w.heap.size)]) :: Ns w.heap.size [] :: (inners T ++ L)) := h2.p1.p2
  have e1 : outer (T ++ [(x, w.heap.size, [])]) = outer T ++ [(x, w.heap.size)] := by simp [outer]
  have e2 : inners (T ++ [(x, w.heap.size, [])]) = inners T ++ [Ns w.heap.size []] := by simp [inners]
  rw [e1, e2]
  refine h3.perm (((List.Perm.refl _)).cons _ |>.cons _ |>.trans (List.Perm.cons _ (List.Perm.cons _ ?_)))
  rw [List.append_assoc]
  exact List.perm_middle.symm
end Go.Proofs.Ytajnhggcaiakeaa
/- RANGES over the maps of a graph. -/
namespace Go.Proofs.Ytajnhggcaiakeaa
open Go.RowKit Go.Own Go.Maps Go.ChangeMaps
section
variable {α : Type}
/-- A map that is ranged over: rem: the keys still to come. -/
def Rx (R : Rdr) (enc : α → DataW Unit) (b r : Nat) (t : List (Int × α)) (rem : List Int) (cnt : Nat) : HP :=
  ex fun D : DataW Unit => ex fun left : Lit → Bool => sep (fact (Al enc D t ∧ ∀ x, left (lk x) = true ↔ x ∈ rem)) (Rg Try.prog tI R b r D left cnt)
variable {R : Rdr} {enc : α → DataW Unit} {b r cnt : Nat} {t : List (Int × α)} {rem : List Int} {w : World} {L : List HP}
theorem Rx.iff : Has w (Rx R enc b r t rem cnt :: L) ↔ ∃ D left, (Al enc D t ∧ ∀ x, left (lk x) = true ↔ x ∈ rem) ∧ Has w (Rg Try.prog tI R b r D left cnt :: L) := by
  unfold Rx
  simp only [Has.ex_iff, Has.sep_iff, Has.fact_iff]
theorem Rx.left (h : Has w (Rx R enc b r t rem cnt :: L)) : w.rangeLeft b r = cnt := by
  obtain ⟨D, left, -, h⟩ := Rx.iff.1 h
  exact h.rgRanges.left_eq
/-- The loop is left. -/
theorem Rx.end (h : Has w (Rx R enc b r t rem cnt :: L)) : ∃ D, Al enc D t ∧ Has w (Mp Try.prog tI R b D :: L) := by
  obtain ⟨D, left, h1, h⟩ := Rx.iff.1 h
  exact ⟨D, h1.1, h.rgEnd⟩
end
section
variable {α β : Type} {R : Rdr} {enc : α → DataW Unit} {b r cnt : Nat} {t : List (Int × α)} {rem : List Int} {w : World} {L : List HP} {D : DataW Unit} {ops : Array Oper} {rest : List Oper} {o : Oper} {a : Act} {Q : Exit → Act → World → Prop}
/-- 'range m'. -/
theorem wpList_rxStart (h1 : Al enc D t) (h : Has w (Mp Try.prog tI R b D :: L)) (hg : o.guard = none) (m : Operand) (T E : TypeId) (hT : Try.prog.underlying T = some (.map tI E)) (hop : o.op = Op.range T m) (hm : a.eval m = .map (some b))
    (hK : ∀ w', Has w' (Rx R enc b w.heap.size t (t.map Prod.fst) t.length :: L) → Keep w w' → w'.heap.size = w.heap.size + 1 → wpList Try.prog ops Q rest (a.put o.dst (.pointer (some ⟨w.heap.size, 0, none⟩))) w') : wpList Try.prog ops Q (o :: rest) a w := by
  refine wpList_range_own w hg m T hop tI E lawI hT R b _ D hm h.owns ?_
  intro w' hr hgr hs
  have h2 := h.rgStart hr hgr
  rw [h1.size] at h2
  exact hK w' (Rx.iff.2 ⟨D, _, ⟨h1, fun x => by rw [h1.has, decide_eq_true_iff]⟩, h2⟩) ((Keep.refl w).grown hgr) hs
/-- The step. -/
theorem wpList_rxNext (mkV : β → Value) (val : α → β) (invV : ∀ v y, R v = some y → ∃ c, v = mkV c) (hval : ∀ (p : α) c y, R (mkV c) = some y → y.1 = enc p → c = val p)
    (h : Has w (Rx R enc b r t rem cnt :: L)) (hg : o.guard = none) (it : Operand) (hop : o.op = Op.next it false) (hit : a.eval it = .pointer (some ⟨r, 0, none⟩))
    (hDone : rem = [] → wpList Try.prog ops Q rest (a.put o.dst (.tuple #[.bool false])) w)
    (hMore : ∀ (p : Int × α) (w' : World) (cnt' : Nat), p ∈ t → p.1 ∈ rem → okK p.1 → Has w' (Rx R enc b r t (rem.filter fun y => y != p.1) cnt' :: L) → cnt' < cnt → Keep w w' → w'.heap.size = w.heap.size →
      (Instr.entry (.pointer (some ⟨r, 0, none⟩))).run Try.prog w' = .ok (.tuple #[.int .i64 p.1, mkV (val p.2)]) w' → wpList Try.prog ops Q rest (a.put o.dst (.tuple #[.bool true, .int .i64 p.1, mkV (val p.2)])) w') : wpList Try.prog ops Q (o :: rest) a w := by
  obtain ⟨D, left, ⟨h1, hl⟩, h2⟩ := Rx.iff.1 h
  refine wpList_next_ranges w hg it hop tI lawI R (Value.int .i64) mkV (fun key kl hk => by obtain ⟨x, rfl, _⟩ := Maps.keyOf_int_inv undI hk; exact ⟨x, rfl⟩) invV b r _ D left cnt hit h2.rgRanges (fun hc hno => hDone ?_) ?_
  · rw [List.eq_nil_iff_forall_not_mem]
    intro x hx
    have := (hl x).2 hx
    rw [hno] at this
    cases this
  · intro x c kl y w' cnt' hk hlk hv hat hrg hlt hgr hsz hen
    obtain ⟨x', ex, rfl, hw⟩ := Maps.keyOf_int_inv undI hk
    cases ex
    have hx : x ∈ t.map Prod.fst := by
      refine Classical.byContradiction fun hx => ?_
      have e1 := (hat .nil).symm.trans (h1.no x hx .nil)
      have e2 := (hat (.map [])).symm.trans (h1.no x hx (.map []))
      rw [e1] at e2
      cases e2
    obtain ⟨p, hp, rfl⟩ := List.mem_map.1 hx
    obtain rfl := hval p.2 c y hv ((hat .nil).symm.trans (h1.yes p hp .nil))
    refine hMore p w' cnt' hp ((hl _).1 hlk) hw (Rx.iff.2 ⟨D, _, ⟨h1, fun z => ?_⟩, h2.rgTurn hrg hgr⟩) hlt ((Keep.refl w).grown hgr) hsz hen
    have e : (lk z).sameKey (.int .i64 p.1) = decide (z = p.1) := by simp [Lit.sameKey]
    rw [e, Bool.and_eq_true, hl, List.mem_filter]
    simp
end
abbrev Rn (b r : Nat) (s rem : List Int) (cnt : Nat) : HP := Rx rI eI b r (s.map fun x => (x, ())) rem cnt
abbrev Ro (b r : Nat) (t : List (Int × Nat)) (rem : List Int) (cnt : Nat) : HP := Rx rM eM b r t rem cnt
section
variable {b r cnt : Nat} {s rem : List Int} {t : List (Int × Nat)} {w : World} {L : List HP} {ops : Array Oper} {rest : List Oper} {o : Oper} {a : Act} {Q : Exit → Act → World → Prop}
theorem Rn.end (h : Has w (Rn b r s rem cnt :: L)) : Has w (Ns b s :: L) := Ns.iff.2 (Rx.end h)
theorem Ro.end (h : Has w (Ro b r t rem cnt :: L)) : Has w (Om b t :: L) := Om.iff.2 (Rx.end h)
theorem wpList_rnStart (h : Has w (Ns b s :: L)) (hg : o.guard = none) (m : Operand) (hop : o.op = Op.range tN m) (hm : a.eval m = .map (some b))
    (hK : ∀ w', Has w' (Rn b w.heap.size s s s.length :: L) → Keep w w' → w'.heap.size = w.heap.size + 1 → wpList Try.prog ops Q rest (a.put o.dst (.pointer (some ⟨w.heap.size, 0, none⟩))) w') : wpList Try.prog ops Q (o :: rest) a w := by
  obtain ⟨D, h1, h2⟩ := Ns.iff.1 h
  refine wpList_rxStart h1 h2 hg m tN tI undN hop hm fun w' h3 => ?_
  rw [fsts, List.length_map] at h3
  exact hK w' h3
theorem wpList_roStart (h : Has w (Om b t :: L)) (hg : o.guard = none) (m : Operand) (hop : o.op = Op.range tO m) (hm : a.eval m = .map (some b))
    (hK : ∀ w', Has w' (Ro b w.heap.size t (t.map Prod.fst) t.length :: L) → Keep w w' → w'.heap.size = w.heap.size + 1 → wpList Try.prog ops Q rest (a.put o.dst (.pointer (some ⟨w.heap.size, 0, none⟩))) w') : wpList Try.prog ops Q (o :: rest) a w := by
  obtain ⟨D, h1, h2⟩ := Om.iff.1 h
  exact wpList_rxStart h1 h2 hg m tO tN undO hop hm hK
theorem wpList_rnNext (h : Has w (Rn b r s rem cnt :: L)) (hg : o.guard = none) (it : Operand) (hop : o.op = Op.next it false) (hit : a.eval it = .pointer (some ⟨r, 0, none⟩))
    (hDone : rem = [] → wpList Try.prog ops Q rest (a.put o.dst (.tuple #[.bool false])) w)
    (hMore : ∀ (x : Int) (w' : World) (cnt' : Nat), x ∈ s → x ∈ rem → okK x → Has w' (Rn b r s (rem.filter fun y => y != x) cnt' :: L) → cnt' < cnt → Keep w w' → w'.heap.size = w.heap.size →
      (Instr.entry (.pointer (some ⟨r, 0, none⟩))).run Try.prog w' = .ok (.tuple #[.int .i64 x, .int .i64 1]) w' → wpList Try.prog ops Q rest (a.put o.dst (.tuple #[.bool true, .int .i64 x, .int .i64 1])) w') : wpList Try.prog ops Q (o :: rest) a w := by
  refine wpList_rxNext (Value.int .i64) (fun _ => (1 : Int)) (fun v y hv => by obtain ⟨c, rfl, _⟩ := plainElem_int_inv undI hv; exact ⟨c, rfl⟩) (fun p c y hv hy => ?_) h hg it hop hit hDone ?_
  · obtain ⟨c', ec, rfl, _⟩ := plainElem_int_inv undI hv
    cases ec
    simpa [eI] using hy
  · intro p w' cnt' hp hr hk
    obtain ⟨x, hx, rfl⟩ := List.mem_map.1 hp
    exact hMore x w' cnt' hx hr hk
theorem wpList_roNext (h : Has w (Ro b r t rem cnt :: L)) (hg : o.guard = none) (it : Operand) (hop : o.op = Op.next it false) (hit : a.eval it = .pointer (some ⟨r, 0, none⟩))
    (hDone : rem = [] → wpList Try.prog ops Q rest (a.put o.dst (.tuple #[.bool false])) w)
    (hMore : ∀ (p : Int × Nat) (w' : World) (cnt' : Nat), p ∈ t → p.1 ∈ rem → okK p.1 → Has w' (Ro b r t (rem.filter fun y => y != p.1) cnt' :: L) → cnt' < cnt → Keep w w' → w'.heap.size = w.heap.size →
      (Instr.entry (.pointer (some ⟨r, 0, none⟩))).run Try.prog w' = .ok (.tuple #[.int .i64 p.1, .map (some p.2)]) w' → wpList Try.prog ops Q rest (a.put o.dst (.tuple #[.bool true, .int .i64 p.1, .map (some p.2)])) w') : wpList Try.prog ops Q (o :: rest) a w := by
  refine wpList_rxNext (fun f : Option Nat => Value.map f) (fun p : Nat => some p) (fun v y hv => ?_) (fun p c y hv hy => ?_) h hg it hop hit hDone hMore
  · unfold rM at hv
    split at hv
    · exact ⟨_, rfl⟩
    · exact ⟨_, rfl⟩
    · cases hv
  · have hv' : rM (.map c) = some (.lit (.int .i64 (p : Int)), y.2) := by rw [hv, show y = (y.1, y.2) from rfl, hy]; rfl
    rcases rM_inv hv' with ⟨b', e, e2⟩ | ⟨-, e2⟩
    · cases e
      rw [show p = b' by omega]
    · omega
end
end Go.Proofs.Ytajnhggcaiakeaa
