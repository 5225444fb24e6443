/- TEXTS of mine, merged. -/
import Derived.Test.YtfhaedkaedffcaaGreatDoorM26
import Derived.Test.YtfhaedkaedffcaaGreatDoorM17
import Derived.Test.YtfhaedkaedffcaaGreatDoorM18
import Derived.Test.YtfhaedkaedffcaaGreatDoorM2
import Derived.Test.YtfhaedkaedffcaaGreatDoorM5
import Derived.Test.YtfhaedkaedffcaaGreatDoorM6
import Derived.Test.YtfhaedkaedffcaaGreatDoorM7
/- tree.Do on a tree of one file f: each operation as the laws call it. -/
namespace Go.Proofs.YtfhaedkaedffcaaGreatDoor
open Go.RowKit Go.Own
section
variable (q : Nat) (mx : Int) (w : World) (L : List HP)
variable {d : List Int} {wr : List Bool} {T : List Tb.Slot} {fd : Int} {s : Tb.Slot} (hd : d.length ≤ 100000) (hw : wr.length ≤ 162)
include hd hw
variable (hT : TabF T) (hl : Tb.look T fd = some s)
include hT hl
variable (hf : andI s.flags 32 ≠ 0)
include hf
variable (po : Option Addr) (co : Nat) {ds : List Int} (hds : ds.length ≤ 10000)
include hds
/-- A write anywhere. -/
def pwD (d : List Int) (o : Nat) (ds : List Int) : List Int := if ds = [] then d else wrD d o ds
end
end Go.Proofs.YtfhaedkaedffcaaGreatDoor
/- THE WALK of Low. -/
namespace Go.Proofs.YtfhaedkaedffcaaGreatDoor
open Go.RowKit Go.Own
theorem lowAny (x n : Int) (w : World) (hn : 1 ≤ n) (hn' : n ≤ 9223372036854775807) :
    Calls Tryz.prog 20 #[.int .i64 x, .int .i64 n] w fun e w' => e = .returned (.int .i64 (low x n)) ∧ w = w' := by
  go_enter Tryz.func20, Tryz.ntmps20
  go_wp2
  go_ret
  exact ⟨by rw [← low_eq x n hn hn']; rfl, rfl⟩
end Go.Proofs.YtfhaedkaedffcaaGreatDoor
/- THE WALK of TreeReads. -/
namespace Go.Proofs.YtfhaedkaedffcaaGreatDoor
open Go.RowKit Go.Own
theorem lowN (x n : Int) (m : Nat) (w : World) (hn : 1 ≤ n) (hn' : n ≤ 9223372036854775807) (hm : low x n = m) :
    Calls Tryz.prog 20 #[.int .i64 x, .int .i64 n] w fun e w' => e = .returned (.int .i64 (m : Int)) ∧ w = w' := by
  have h := lowAny x n w hn hn'
  rw [hm] at h
  exact h
theorem low_nat (x n : Int) (hn : 1 ≤ n) : ∃ m : Nat, low x n = m ∧ (m : Int) < n := by
  have h := low_in x n hn
  exact ⟨(low x n).toNat, by omega, by omega⟩
theorem mxStart {W : World} {mx : Int} (h : W.cell? ⟨0, 0, none⟩ = some (.int .i64 mx)) : MxL mx [old W] := fun w' h' => (World.cell?_of_block (h'.old_look 0 (World.block_lt_of_cell? W _ h))).trans h
section
variable (q : Nat) (w : World) (L : List HP) {b : List Int} {wr : List Bool} (hd : b.length ≤ 10000) (hw : wr.length ≤ 162) (K : Nat) (hK : K ≤ b.length)
include hd hw hK
end
end Go.Proofs.YtfhaedkaedffcaaGreatDoor
/- THE WALK of Fill. -/
namespace Go.Proofs.YtfhaedkaedffcaaGreatDoor
open Go.RowKit Go.Own
/-- Byte k of number n's text. -/
def fb (n : Int) (k : Nat) : Int := (n / 2 ^ (8 * (k % 4)) + (k : Int) * 7) % 256
def fill (n : Int) (sz : Nat) : List Int := (List.range sz).map (fb n)
end Go.Proofs.YtfhaedkaedffcaaGreatDoor
/- THE WALK of TreeAppends. -/
namespace Go.Proofs.YtfhaedkaedffcaaGreatDoor
open Go.RowKit Go.Own
def lowQ : Qc := ⟨[20], fun _ args => .int .i64 (low (intOf (args.getD 0 undef)) (intOf (args.getD 1 undef))), []⟩
section
variable (q : Nat) (w : World) (L : List HP) {d : List Int} {wr : List Bool} (hd : d.length ≤ 5000) (hw : wr.length ≤ 162) (o : Nat) (ho : o ≤ 5000)
include hd hw ho
end
theorem oldCell {W w : World} {L : List HP} {g o : Nat} {v : Value} (h : W.cell? ⟨g, o, none⟩ = some v) (hO : Has w (old W :: L)) : w.cell? ⟨g, o, none⟩ = some v := (World.cell?_of_block (hO.old_look g (World.block_lt_of_cell? W _ h))).trans h
end Go.Proofs.YtfhaedkaedffcaaGreatDoor
