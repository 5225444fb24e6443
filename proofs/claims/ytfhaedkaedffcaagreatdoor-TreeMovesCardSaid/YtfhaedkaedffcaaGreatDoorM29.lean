/- TEXTS of mine, merged. -/
import Derived.Test.YtfhaedkaedffcaaGreatDoorM28
import Derived.Test.YtfhaedkaedffcaaGreatDoorM27
import Derived.Test.YtfhaedkaedffcaaGreatDoorM26
import Derived.Test.YtfhaedkaedffcaaGreatDoorM10
import Derived.Test.YtfhaedkaedffcaaGreatDoorM7
import Derived.Test.YtfhaedkaedffcaaGreatDoorM8
import Derived.Shelf.SlMaps.Clone
/- TreeNames: its operations, as it calls them. -/
namespace Go.Proofs.YtfhaedkaedffcaaGreatDoor
open Go.RowKit Go.Own
/-- An answer of numbers, as a value. -/
abbrev bareY (c n k l : Int) (p : Option Addr) (cp : Nat) (p' : Option Addr) (cp' : Nat) : Value := .agg #[.int .i64 c, .int .i64 n, .int .i64 k, .int .i64 l, .slice p 0 cp, .slice p' 0 cp']
section
variable {S : Tre} {k : Nat} (q : Nat) (mx : Int) (w : World) (L : List HP)
end
abbrev noB : ByteArray := ⟨#[]⟩
section
variable (q : Nat) (mx : Int) (w : World) (L : List HP) (hM : MxL mx L) {p p' nm nm' : Str} {P P' : ByteArray} (hP : sB p = P) (hP' : sB p' = P') (hp : p.length ≤ 100) (hp' : p'.length ≤ 100) {d : List Int} {wr : List Bool} {o : Int}
end
end Go.Proofs.YtfhaedkaedffcaaGreatDoor
/- Great, GreatOps; operations of a list, one by one. -/
namespace Go.Proofs.YtfhaedkaedffcaaGreatDoor
open Go.RowKit Go.Own
/-- More than is gone through. -/
def greatM (y : Oq) : Bool := decide (300 < y.op.path.length) || decide (300 < y.op.dest.length) || decide (3000 < y.data.length)
def greatOpsM (R : List Oq) (most : Nat) : Bool := decide (most < R.length) || R.any greatM
/-- Operations done one by one. -/
def runM (S : Tre) : List Oq → Tre
  | [] => S
  | y :: R => runM (S.doM y.op y.data).2 R
end Go.Proofs.YtfhaedkaedffcaaGreatDoor
/- THE WALK of tree.Copy. -/
namespace Go.Own
open Go.RowKit
section
variable {P : Program} {k e : TypeId} {κ α : Type} [DecidableEq κ] {K : Ky P k κ} {V : El P e α} {D : DataW Unit} {t t' : List (κ × α)} {w : World} {L : List HP} {b : Nat}
omit [DecidableEq κ] in
theorem AlK.perm (h : AlK K V D t) (hp : t.Perm t') : AlK K V D t' where
  tidy := h.tidy
  nodup := (hp.map Prod.fst).nodup h.nodup
  size := h.size.trans hp.length_eq
  ok := fun p hm => h.ok p (hp.mem_iff.2 hm)
  yes := fun p hm => h.yes p (hp.mem_iff.2 hm)
  no := fun x hx => h.no x fun hm => hx ((hp.map Prod.fst).mem_iff.1 hm)
omit [DecidableEq κ] in
theorem Mk.perm (h : Has w (Mk K V b t :: L)) (hp : t.Perm t') : Has w (Mk K V b t' :: L) := by
  obtain ⟨D, h1, h2⟩ := Mk.iff.1 h
  exact Mk.iff.2 ⟨D, h1.perm hp, h2⟩
end
end Go.Own
namespace Go.Proofs.YtfhaedkaedffcaaGreatDoor
open Go.RowKit Go.Own
section
variable {w : World} {L : List HP} {q m f : Nat} {P : List Pn} {S : Tre}
end
def zTab : Array Value := Tb.cells (List.replicate 16 Tb.none4)
/-- The nodes that a range has passed. -/
def passed (P : List Pn) (rem : List Int) : List (Int × Nod) := (pnN P).filter fun e => !decide (e.1 ∈ rem)
end Go.Proofs.YtfhaedkaedffcaaGreatDoor
