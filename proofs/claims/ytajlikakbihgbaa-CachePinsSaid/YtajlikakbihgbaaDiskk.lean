/- A DISK's CALLS, its bytes alone. -/
import Derived.Test.YtajlikakbihgbaaDiskd
import Derived.Test.YtajlikakbihgbaaDisko
import Derived.Test.YtajlikakbihgbaaDiskr
import Derived.Test.YtajlikakbihgbaaDiskz
import Derived.Test.YtajlikakbihgbaaTexts
namespace Go.Proofs.Ytajlikakbihgbaa
open Go.RowKit Go.Own Go.Dk
/-- A disk whose bytes are E, at block d. -/
def Dk (d : Nat) (E : Bk) : HP := ex fun D => star [fact (D.bk = E), Dsk d D]
theorem dk_iff {w : World} {L : List HP} {d : Nat} {E : Bk} : Has w (Dk d E :: L) ↔ ∃ D, D.bk = E ∧ Has w (Dsk d D :: L) := by
  unfold Dk
  simp only [Has.ex_iff, Has.star_iff, List.cons_append, List.nil_append, Has.fact_iff]
theorem kNew (n : Nat) (W : World) (L : List HP) (h1 : 1 ≤ n) (h2 : n ≤ 2048) (hO : Has W L) :
    Calls Try.prog 8 #[.int .i64 (n : Int)] W fun e w' => ∃ d, e = .returned (.pointer (some ⟨d, 0, none⟩)) ∧ Has w' (Dk d (Bk.zero n) :: L) ∧ Keep W w' :=
  (diskNew n W L h1 h2 hO).mono fun e w' ⟨d, F, he, hl, hz, h, hK⟩ => ⟨d, he, dk_iff.2 ⟨_, by
    simp only [Disk.bk, Bk.zero, List.map_nil, Bk.mk.injEq, and_true]
    rw [List.eq_replicate_iff]
    refine ⟨by simpa using hl, fun y hy => ?_⟩
    obtain ⟨x, hx, rfl⟩ := List.mem_map.1 hy
    exact hz x hx, h⟩, hK⟩
section
variable (d : Nat) (E : Bk) (w : World) (L : List HP) (hO : Has w (Dk d E :: L))
include hO
theorem kSectors : Calls Try.prog 30 #[.pointer (some ⟨d, 0, none⟩)] w fun e w' => e = .returned (.int .i64 E.firm.length) ∧ w = w' := by
  obtain ⟨D, rfl, h⟩ := dk_iff.1 hO
  have := diskSectors d D w L h
  simpa [Disk.bk] using this
theorem kBoot : Calls Try.prog 50 #[.pointer (some ⟨d, 0, none⟩)] w fun e w' => e = .returned (.int .i64 E.boot.1) ∧ Has w' (Dk d E.boot.2 :: L) ∧ Keep w w' := by
  obtain ⟨D, rfl, h⟩ := dk_iff.1 hO
  rw [bk_boot]
  exact (diskBoot d D w L h).mono fun e w' ⟨h1, h2, h3⟩ => ⟨h1, dk_iff.2 ⟨_, rfl, h2⟩, h3⟩
theorem kCrash (kv : Value) (keep : List Bool) (hL : ∀ w', Has w' L → Rd w' kv 1 keep.length (keep.map Value.bool)) :
    Calls Try.prog 52 #[.pointer (some ⟨d, 0, none⟩), kv] w fun e w' => e = .returned (.tuple #[]) ∧ Has w' (Dk d (E.crash keep) :: L) ∧ Keep w w' := by
  obtain ⟨D, rfl, h⟩ := dk_iff.1 hO
  exact (diskCrash d D kv keep w L hL h).mono fun e w' ⟨h1, h2, h3⟩ => ⟨h1, dk_iff.2 ⟨_, bk_crash D keep, h2⟩, h3⟩
theorem kCrash0 : Calls Try.prog 52 #[.pointer (some ⟨d, 0, none⟩), .slice none 0 0] w fun e w' => e = .returned (.tuple #[]) ∧ Has w' (Dk d (E.crash []) :: L) ∧ Keep w w' :=
  kCrash d E w L hO _ [] fun w' h => (h.row_nil 4 1).rd
theorem kWrite (at_ : Int) (b : Value) (xs : List Int) (hw : E.waits.length ≤ 1000000000) (hw2 : E.writes.length ≤ 1000000000) (hL : ∀ w', Has w' L → Rd w' b 1 xs.length (bc xs)) :
    Calls Try.prog 34 #[.pointer (some ⟨d, 0, none⟩), .int .i64 at_, b] w fun e w' => e = .returned (.int .i64 (E.write at_ xs).1) ∧ Has w' (Dk d (E.write at_ xs).2 :: L) ∧ Keep w w' := by
  obtain ⟨D, rfl, h⟩ := dk_iff.1 hO
  refine (diskWrite d D at_ b xs w L (by simpa [Disk.bk] using hw) hw2 hL h).mono ?_
  rintro e w' ⟨x, h1, h2, h3⟩
  have := bk_write D at_ (x, xs)
  dsimp only at this
  rw [this]
  exact ⟨h1, dk_iff.2 ⟨_, rfl, h2⟩, h3⟩
theorem kRead (x : Int) (hw : E.waits.length ≤ 1000000000) :
    Calls Try.prog 17 #[.pointer (some ⟨d, 0, none⟩), .int .i64 x] w fun e w' => ∃ v, e = .returned (.tuple #[v, .int .i64 (E.read x).1]) ∧ Has w' (Bytes v (E.read x).2 :: Dk d E :: L) ∧ Keep w w' := by
  obtain ⟨D, rfl, h⟩ := dk_iff.1 hO
  refine (diskRead d D x w L (by simpa [Disk.bk] using hw) h).mono ?_
  rintro e w' ⟨v, h1, h2, h3⟩
  have e : D.bk.read x = D.read x := by
    unfold Bk.read Disk.read
    rw [bk_asked, bk_there, bk_last]
  rw [e]
  exact ⟨v, h1, (dk_iff.2 ⟨_, rfl, h2.p1⟩).p1, h3⟩
theorem kImage (hw : E.firm.length ≤ 1000000000) :
    Calls Try.prog 29 #[.pointer (some ⟨d, 0, none⟩)] w fun e w' => ∃ v, e = .returned v ∧ Has w' (Prts v E.firm :: Dk d E :: L) ∧ Keep w w' := by
  obtain ⟨D, rfl, h⟩ := dk_iff.1 hO
  refine (diskImage d D w L (by simpa [Disk.bk] using hw) h).mono ?_
  rintro e w' ⟨v, R, h1, h2, h3, h4⟩
  exact ⟨v, h1, prts_iff.2 ⟨R, h2, (dk_iff.2 ⟨_, rfl, h3.p2⟩).b2⟩, h4⟩
theorem kWrites (hw : E.writes.length ≤ 1000000000) :
    Calls Try.prog 21 #[.pointer (some ⟨d, 0, none⟩)] w fun e w' => ∃ v, e = .returned v ∧ Has w' (Ints v E.writes :: Dk d E :: L) ∧ Keep w w' := by
  obtain ⟨D, rfl, h⟩ := dk_iff.1 hO
  refine (diskWrites d D w L hw h).mono ?_
  rintro e w' ⟨v, h1, h3, h4⟩
  exact ⟨v, h1, (dk_iff.2 ⟨_, rfl, h3.p1⟩).p1, h4⟩
end
end Go.Proofs.Ytajlikakbihgbaa
