/- THE REFERENCE's DISK in bytes. -/
import Derived.Test.YtbcilhcmjkgkgaaRdskd
import Derived.Test.YtbcilhcmjkgkgaaLend
import Derived.Test.YtbcilhcmjkgkgaaAwake4
namespace Go.Proofs.Ytbcilhcmjkgkgaa
open Go.RowKit Go.Own Go.Dk
def RDk (c : Nat) (E : Bk) : HP := ex fun D => star [fact (D.bk = E), RDsk c D]
theorem rdk_iff {w : World} {L : List HP} {c : Nat} {E : Bk} : Has w (RDk c E :: L) ↔ ∃ D, D.bk = E ∧ Has w (RDsk c D :: L) := by
  unfold RDk
  simp only [Has.ex_iff, Has.star_iff, List.cons_append, List.nil_append, Has.fact_iff]
theorem rkNew (n : Nat) (W : World) (L : List HP) (h1 : 1 ≤ n) (h2 : n ≤ 2048) (hO : Has W L) :
    Calls Try.prog 27 #[.int .i64 (n : Int)] W fun e w' => ∃ d, e = .returned (.pointer (some ⟨d, 0, none⟩)) ∧ Has w' (RDk d (Bk.zero n) :: L) ∧ Keep W w' :=
  (rNew n W L h1 h2 hO).mono fun e w' ⟨d, F, he, hl, hz, h, hK⟩ => ⟨d, he, rdk_iff.2 ⟨_, by
    simp only [Disk.bk, Bk.zero, List.map_nil, Bk.mk.injEq, and_true]
    rw [List.eq_replicate_iff]
    refine ⟨by simpa using hl, fun y hy => ?_⟩
    obtain ⟨x, hx, rfl⟩ := List.mem_map.1 hy
    exact hz x hx, h⟩, hK⟩
section
variable (c : Nat) (E : Bk) (w : World) (L : List HP) (hO : Has w (RDk c E :: L))
include hO
theorem rkBoot : Calls Try.prog 47 #[.pointer (some ⟨c, 0, none⟩)] w fun e w' => e = .returned (.int .i64 E.boot.1) ∧ Has w' (RDk c E.boot.2 :: L) ∧ Keep w w' := by
  obtain ⟨D, rfl, h⟩ := rdk_iff.1 hO
  rw [bk_boot]
  exact (rBoot c D w L h).mono fun e w' ⟨h1, h2, h3⟩ => ⟨h1, rdk_iff.2 ⟨_, rfl, h2⟩, h3⟩
theorem rkCrash (kv : Value) (keep : List Bool) (hL : ∀ w', Has w' L → Rd w' kv 1 keep.length (keep.map Value.bool)) :
    Calls Try.prog 46 #[.pointer (some ⟨c, 0, none⟩), kv] w fun e w' => e = .returned (.tuple #[]) ∧ Has w' (RDk c (E.crash keep) :: L) ∧ Keep w w' := by
  obtain ⟨D, rfl, h⟩ := rdk_iff.1 hO
  exact (rCrash c D kv keep w L hL h).mono fun e w' ⟨h1, h2, h3⟩ => ⟨h1, rdk_iff.2 ⟨_, bk_crash D keep, h2⟩, h3⟩
theorem rkFlush (h1 : 0 ≤ E.flushes) (h2 : E.flushes ≤ 1000000000000) : Calls Try.prog 44 #[.pointer (some ⟨c, 0, none⟩)] w fun e w' => e = .returned (.int .i64 E.flush.1) ∧ Has w' (RDk c E.flush.2 :: L) ∧ Keep w w' := by
  obtain ⟨D, rfl, h⟩ := rdk_iff.1 hO
  rw [bk_flush]
  exact (rFlush c D w L h1 h2 h).mono fun e w' ⟨h1, h2, h3⟩ => ⟨h1, rdk_iff.2 ⟨_, rfl, h2⟩, h3⟩
theorem rkArm (n : Int) (kv : Value) (keep : List Bool) (hn : n ≤ 9223372036854775807) (hk : Rd w kv 1 keep.length (keep.map Value.bool)) (hkl : keep.length ≤ 1000000000) :
    Calls Try.prog 45 #[.pointer (some ⟨c, 0, none⟩), .int .i64 n, kv] w fun e w' => e = .returned (.int .i64 (E.arm n keep).1) ∧ Has w' (RDk c (E.arm n keep).2 :: L) ∧ Keep w w' := by
  obtain ⟨D, rfl, h⟩ := rdk_iff.1 hO
  rw [bk_arm]
  exact (rArm c D n kv keep w L hn hk hkl h).mono fun e w' ⟨h1, h2, h3⟩ => ⟨h1, rdk_iff.2 ⟨_, rfl, h2⟩, h3⟩
theorem rkWrite (at_ : Int) (b : Value) (xs : List Int) (hw : E.waits.length ≤ 100000000) (hw2 : E.writes.length ≤ 1000000000) (hL : ∀ w', Has w' L → Rd w' b 1 xs.length (bc xs)) :
    Calls Try.prog 43 #[.pointer (some ⟨c, 0, none⟩), .int .i64 at_, b] w fun e w' => e = .returned (.int .i64 (E.write at_ xs).1) ∧ Has w' (RDk c (E.write at_ xs).2 :: L) ∧ Keep w w' := by
  obtain ⟨D, rfl, h⟩ := rdk_iff.1 hO
  by_cases hA : D.asked (D.there at_ && xs.length == 128) = 0
  · refine (rWriteGo c D at_ b xs w L (by simpa [Disk.bk] using hw) hw2 hL hA h).mono ?_
    rintro e w' ⟨x, h1, h2, h3⟩
    have := bk_write D at_ (x, xs)
    dsimp only at this
    rw [this]
    exact ⟨h1, rdk_iff.2 ⟨_, rfl, h2⟩, h3⟩
  · refine (rWriteNo c D at_ b (.slice none 0 0) xs w L (hL _ h.drop) hA h).mono ?_
    rintro e w' ⟨h1, h2, h3⟩
    have := bk_write D at_ (.slice none 0 0, xs)
    dsimp only at this
    rw [this]
    exact ⟨h1, rdk_iff.2 ⟨_, rfl, h2⟩, h3⟩
theorem rkRead (x : Int) (hw : E.waits.length ≤ 1000000000) :
    Calls Try.prog 40 #[.pointer (some ⟨c, 0, none⟩), .int .i64 x] w fun e w' => ∃ v, e = .returned (.tuple #[v, .int .i64 (E.read x).1]) ∧ Has w' (Bytes v (E.read x).2 :: RDk c E :: L) ∧ Keep w w' := by
  obtain ⟨D, rfl, h⟩ := rdk_iff.1 hO
  refine (rRead c D x w L (by simpa [Disk.bk] using hw) h).mono ?_
  rintro e w' ⟨v, h1, h2, h3⟩
  have e : D.bk.read x = D.read x := by
    unfold Bk.read Disk.read
    rw [bk_asked, bk_there, bk_last]
  rw [e]
  exact ⟨v, h1, (rdk_iff.2 ⟨_, rfl, h2.p1⟩).p1, h3⟩
theorem rkWaiting (hw : E.waits.length ≤ 1000000000) :
    Calls Try.prog 30 #[.pointer (some ⟨c, 0, none⟩)] w fun e w' => ∃ v, e = .returned v ∧ Has w' (Ints v (E.waits.map (·.1)) :: RDk c E :: L) ∧ Keep w w' := by
  obtain ⟨D, rfl, h⟩ := rdk_iff.1 hO
  refine (rWaiting c D w L (by simpa [Disk.bk] using hw) h).mono ?_
  rintro e w' ⟨v, h1, h3, h4⟩
  have e : D.bk.waits.map (·.1) = D.waits.map (·.1) := by simp [Disk.bk, Function.comp_def]
  rw [e]
  exact ⟨v, h1, (rdk_iff.2 ⟨_, rfl, h3.p1⟩).p1, h4⟩
/-- What a statement reads of it. -/
theorem rkCells : ∃ fv lv : Value, w.cell? ⟨c, 0, none⟩ = some fv ∧ w.cell? ⟨c, 2, none⟩ = some (.bool (!E.on)) ∧ w.cell? ⟨c, 4, none⟩ = some (.int .i64 E.flushes) ∧ w.cell? ⟨c, 6, none⟩ = some lv ∧ RdT w fv E.firm ∧ Rd w lv 1 E.writes.length (ic E.writes) ∧ (∃ p m k, fv = .slice p m k) ∧ (∃ p m k, lv = .slice p m k) := by
  obtain ⟨D, rfl, h⟩ := rdk_iff.1 hO
  obtain ⟨fv, wv, kv, lv, ks, left, B, hok, hP⟩ := rdsk_iff.1 h
  have hf := hP.p1.rd.form
  have hl := (Ints.rd hP.p4).form
  refine ⟨fv, lv, hP.cells 0, hP.cells 2, hP.cells 4, hP.cells 6, ?_, Ints.rd hP.p4, ?_, ?_⟩
  · exact ⟨D.firm, rfl, hP.p1.rd, fun x hx => hP.p5.pool_rd (hok.1.firm x hx)⟩
  · obtain ⟨p, k, e, -⟩ := hf
    exact ⟨p, _, k, e⟩
  · obtain ⟨p, k, e, -⟩ := hl
    exact ⟨p, _, k, e⟩
theorem rkLen (x : Int) : (E.read x).2.length ≤ 128 := by
  obtain ⟨D, rfl, h⟩ := rdk_iff.1 hO
  obtain ⟨fv, wv, kv, lv, ks, left, B, hok, hP⟩ := rdsk_iff.1 h
  have e : D.bk.read x = D.read x := by
    unfold Bk.read Disk.read
    rw [bk_asked, bk_there, bk_last]
  rw [e]
  unfold Disk.read
  split
  · simp
  · show (D.last x).2.length ≤ 128
    unfold Disk.last
    split
    · rename_i y hy
      have := hok.1.wlen y (by simpa using List.mem_of_find?_eq_some hy)
      omega
    · rw [List.getD_eq_getElem?_getD]
      by_cases hx : x.toNat < D.firm.length
      · rw [List.getElem?_eq_getElem hx, Option.getD_some]
        have := hok.1.len _ (List.getElem_mem hx)
        omega
      · rw [List.getElem?_eq_none (by omega)]; simp
end
/-- One act. -/
def stepBk (E : Bk) (do_ at_ n : Int) (short : Bool) (keep : List Bool) : Bk :=
  if do_ = 1 then (E.write at_ (fill n (if short then 127 else 128))).2 else if do_ = 2 then E.flush.2 else if do_ = 3 then (E.arm n keep).2 else if do_ = 4 then E.crash keep else if do_ = 5 then E.boot.2 else E
/-- No more waits, was written, was flushed than k acts can. -/
structure Bd (E : Bk) (k : Nat) : Prop where
  waits : E.waits.length ≤ k
  writes : E.writes.length ≤ k
  flushes : 0 ≤ E.flushes ∧ E.flushes ≤ k
theorem Bd.falls {E : Bk} {k : Nat} (h : Bd E k) : Bd E.falls.2 k := by
  unfold Bk.falls
  split
  · exact h
  · split
    · exact ⟨h.waits, h.writes, h.flushes⟩
    · exact ⟨by simp [Bk.crash], h.writes, h.flushes⟩
theorem Bd.up {E : Bk} {k : Nat} (h : Bd E k) : Bd E (k + 1) := ⟨by have := h.waits; omega, by have := h.writes; omega, by have := h.flushes; omega⟩
theorem Bd.write {E : Bk} {k : Nat} (h : Bd E k) (a : Int) (t : List Int) : Bd (E.write a t).2 (k + 1) := by
  unfold Bk.write
  split
  · exact h.up
  · split
    · exact h.falls.up
    · have := h.falls
      exact ⟨by have := this.waits; simp; omega, by have := this.writes; simp; omega, by have := this.flushes; simp only; omega⟩
theorem Bd.flush {E : Bk} {k : Nat} (h : Bd E k) : Bd E.flush.2 (k + 1) := by
  unfold Bk.flush
  split
  · exact h.up
  · split
    · exact h.falls.up
    · have := h.falls
      exact ⟨by simp, by have := this.writes; simp only; omega, by have := this.flushes; simp only; omega⟩
theorem Bd.arm {E : Bk} {k : Nat} (h : Bd E k) (n : Int) (keep : List Bool) : Bd (E.arm n keep).2 (k + 1) := by
  unfold Bk.arm
  split
  · exact h.up
  · exact ⟨by have := h.waits; simp only; omega, by have := h.writes; simp only; omega, by have := h.flushes; simp only; omega⟩
theorem Bd.boot {E : Bk} {k : Nat} (h : Bd E k) : Bd E.boot.2 (k + 1) := by
  unfold Bk.boot
  split
  · exact h.up
  · exact ⟨by have := h.waits; simp only; omega, by have := h.writes; simp only; omega, by have := h.flushes; simp only; omega⟩
theorem Bd.step {E : Bk} {k : Nat} (h : Bd E k) (do_ at_ n : Int) (short : Bool) (keep : List Bool) : Bd (stepBk E do_ at_ n short keep) (k + 1) := by
  unfold stepBk
  split
  · exact h.write _ _
  split
  · exact h.flush
  split
  · exact h.arm _ _
  split
  · exact ⟨by simp [Bk.crash], by have := h.writes; simp only [Bk.crash]; omega, by have := h.flushes; simp only [Bk.crash]; omega⟩
  split
  · exact h.boot
  · exact h.up
theorem falls_len (E : Bk) : E.falls.2.firm.length = E.firm.length := by
  unfold Bk.falls
  split
  · rfl
  · split
    · rfl
    · simp [Bk.crash, blayKept_len]
theorem write_len (E : Bk) (a : Int) (t : List Int) : (E.write a t).2.firm.length = E.firm.length := by
  unfold Bk.write
  split
  · rfl
  · split <;> exact falls_len E
theorem flush_len (E : Bk) : E.flush.2.firm.length = E.firm.length := by
  unfold Bk.flush
  split
  · rfl
  · split
    · exact falls_len E
    · show (blayAll _ _).length = _
      rw [blayAll_len, falls_len]
theorem step_len (E : Bk) (do_ at_ n : Int) (short : Bool) (keep : List Bool) : (stepBk E do_ at_ n short keep).firm.length = E.firm.length := by
  unfold stepBk
  split
  · exact write_len _ _ _
  split
  · exact flush_len _
  split
  · unfold Bk.arm; split <;> rfl
  split
  · simp [Bk.crash, blayKept_len]
  split
  · unfold Bk.boot; split <;> rfl
  · rfl
end Go.Proofs.Ytbcilhcmjkgkgaa
