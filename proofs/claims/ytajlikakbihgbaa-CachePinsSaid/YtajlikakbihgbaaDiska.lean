/- HOW A DISK LIES IN MEMORY. -/
import Derived.Test.YtajlikakbihgbaaBase
import Derived.Test.YtajlikakbihgbaaDiskm
namespace Go.Proofs.Ytajlikakbihgbaa
open Go.RowKit Go.Own Go.Dk
def wenc (W : List (Int × Txt)) : List Value := W.flatMap fun x => [.int .i64 x.1, x.2.1]
def Bools (v : Value) (ks : List Bool) : HP := row v 4 1 ks.length (ks.map Value.bool)
def Armc (v : Value) : Option (Int × List Bool) → HP
  | none => fact (v = .pointer none)
  | some (n, k) => ex fun g => ex fun kv => star [fact (v = .pointer (some ⟨g, 0, none⟩)), pt g (.cells #[.int .i64 n, kv] 104), Bools kv k]
def Dsk (d : Nat) (D : Disk) : HP := ex fun fv => ex fun wv => ex fun av => ex fun lv => ex fun B =>
  star [fact (Ok B D), pt d (.cells #[fv, wv, .bool D.on, av, lv, .int .i64 D.flushes] 67), row fv 33 1 D.firm.length (D.firm.map (·.1)), row wv 85 2 D.waits.length (wenc D.waits), Armc av D.armed, Ints lv D.writes, poolc 5 B]
theorem dsk_iff {w : World} {L : List HP} {d : Nat} {D : Disk} : Has w (Dsk d D :: L) ↔ ∃ fv wv av lv B, Ok B D ∧
    Has w (pt d (.cells #[fv, wv, .bool D.on, av, lv, .int .i64 D.flushes] 67) :: row fv 33 1 D.firm.length (D.firm.map (·.1)) :: row wv 85 2 D.waits.length (wenc D.waits) :: Armc av D.armed :: Ints lv D.writes :: poolc 5 B :: L) := by
  unfold Dsk
  simp only [Has.ex_iff, Has.star_iff, List.cons_append, List.nil_append, Has.fact_iff]
theorem armc_some {w : World} {L : List HP} {v : Value} {n : Int} {k : List Bool} : Has w (Armc v (some (n, k)) :: L) ↔ ∃ g kv, v = .pointer (some ⟨g, 0, none⟩) ∧ Has w (pt g (.cells #[.int .i64 n, kv] 104) :: Bools kv k :: L) := by
  unfold Armc
  simp only [Has.ex_iff, Has.star_iff, List.cons_append, List.nil_append, Has.fact_iff]
theorem armc_none {w : World} {L : List HP} {v : Value} : Has w (Armc v none :: L) ↔ v = .pointer none ∧ Has w L := by
  unfold Armc
  simp only [Has.fact_iff]
/-! ### Calls of a disk that is none -/
theorem diskSectorsNil (w : World) : Calls Try.prog 30 #[.pointer none] w fun e w' => e = .returned (.int .i64 0) ∧ w = w' := by
  go_enter Try.func30, Try.ntmps30
  go_wp2
  go_ret
  exact ⟨rfl, rfl⟩
theorem diskAskedNil (b : Bool) (w : World) : Calls Try.prog 38 #[.pointer none, .bool b] w fun e w' => e = .returned (.int .i64 1) ∧ w = w' := by
  go_enter Try.func38, Try.ntmps38
  go_wp2
  go_ret
  exact ⟨rfl, rfl⟩
theorem diskSectors (d : Nat) (D : Disk) (w : World) (L : List HP) (hO : Has w (Dsk d D :: L)) :
    Calls Try.prog 30 #[.pointer (some ⟨d, 0, none⟩)] w fun e w' => e = .returned (.int .i64 D.firm.length) ∧ w = w' := by
  obtain ⟨fv, wv, av, lv, B, hok, hO⟩ := dsk_iff.1 hO
  obtain ⟨p, cap, rfl, -⟩ := hO.p1.rd.form
  have hc := hO.cells
  clear hO hok
  go_enter Try.func30, Try.ntmps30
  go_wp2
  go_ret
  exact ⟨rfl, rfl⟩
theorem diskThere (d : Nat) (D : Disk) (at_ : Int) (w : World) (L : List HP) (hO : Has w (Dsk d D :: L)) :
    Calls Try.prog 39 #[.pointer (some ⟨d, 0, none⟩), .int .i64 at_] w fun e w' => e = .returned (.bool (D.there at_)) ∧ w = w' := by
  have H := hid (diskSectors d D w L hO)
  clear hO
  by_cases h0 : 0 ≤ at_
  · go_enter Try.func39, Try.ntmps39
    go_wp2_with fail
    refine H.out.mono ?_
    rintro e w' ⟨rfl, rfl⟩
    go_wp2_with fail
    go_ret
    exact ⟨by simp [Disk.there, h0], rfl⟩
  · go_enter Try.func39, Try.ntmps39
    go_wp2_with fail
    go_ret
    exact ⟨by simp [Disk.there]; omega, rfl⟩
theorem diskAsked (d : Nat) (D : Disk) (b : Bool) (w : World) (L : List HP) (hO : Has w (Dsk d D :: L)) :
    Calls Try.prog 38 #[.pointer (some ⟨d, 0, none⟩), .bool b] w fun e w' => e = .returned (.int .i64 (D.asked b)) ∧ w = w' := by
  obtain ⟨fv, wv, av, lv, B, hok, hO⟩ := dsk_iff.1 hO
  have hc := hO.cells
  clear hO hok
  obtain ⟨F, W, on, ar, wr, fl⟩ := D
  have Ha := hid (fun (b : Bool) => show Disk.asked ⟨F, W, on, ar, wr, fl⟩ b = if on then (if b then 0 else 2) else 4 from rfl)
  simp only at hc
  cases on <;> cases b
  all_goals
    go_enter Try.func38, Try.ntmps38
    go_wp2
    go_ret
    exact ⟨by rw [Ha.out]; rfl, rfl⟩
theorem diskBoot (d : Nat) (D : Disk) (w : World) (L : List HP) (hO : Has w (Dsk d D :: L)) :
    Calls Try.prog 50 #[.pointer (some ⟨d, 0, none⟩)] w fun e w' => e = .returned (.int .i64 D.boot.1) ∧ Has w' (Dsk d D.boot.2 :: L) ∧ Keep w w' := by
  have HD := hid hO
  obtain ⟨fv, wv, av, lv, B, hok, hO⟩ := dsk_iff.1 hO
  obtain ⟨F, W, on, ar, wr, fl⟩ := D
  simp only at hO
  have hc := hO.cells
  have ht := hO.thaw
  have HO := hid hO
  have Hok := hid hok
  clear hO hok
  cases on
  · go_enter Try.func50, Try.ntmps50
    go_wp2
    go_ret
    refine ⟨rfl, ?_, (Keep.refl _).set _ _⟩
    have h := HO.out.set 2 (.bool true)
    exact dsk_iff.2 ⟨fv, wv, av, lv, B, ⟨Hok.out.firm, Hok.out.waits, Hok.out.at_, Hok.out.len, Hok.out.wlen, Hok.out.left⟩, h⟩
  · go_enter Try.func50, Try.ntmps50
    go_wp2
    go_ret
    exact ⟨rfl, HD.out, Keep.refl _⟩
end Go.Proofs.Ytajlikakbihgbaa
