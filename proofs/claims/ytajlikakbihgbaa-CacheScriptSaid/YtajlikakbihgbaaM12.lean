/- TEXTS of mine, merged. -/
import Derived.Test.YtajlikakbihgbaaM11
import Derived.Test.YtajlikakbihgbaaM6
import Derived.Test.YtajlikakbihgbaaM9
import Derived.Test.YtajlikakbihgbaaM10
/- THE REFERENCE's DISK in bytes. -/
namespace Go.Proofs.Ytajlikakbihgbaa
open Go.RowKit Go.Own Go.Dk
def RDk (c : Nat) (E : Bk) : HP := ex fun D => star [fact (D.bk = E), RDsk c D]
theorem rdk_iff {w : World} {L : List HP} {c : Nat} {E : Bk} : Has w (RDk c E :: L) ↔ ∃ D, D.bk = E ∧ Has w (RDsk c D :: L) := by
  unfold RDk
  simp only [Has.ex_iff, Has.star_iff, List.cons_append, List.nil_append, Has.fact_iff]
theorem rkNew (n : Nat) (W : World) (L : List HP) (h1 : 1 ≤ n) (h2 : n ≤ 2048) (hO : Has W L) :
    Calls Try.prog 23 #[.int .i64 (n : Int)] W fun e w' => ∃ d, e = .returned (.pointer (some ⟨d, 0, none⟩)) ∧ Has w' (RDk d (Bk.zero n) :: L) ∧ Keep W w' :=
  (rNew n W L h1 h2 hO).mono fun e w' ⟨d, F, he, hl, hz, h, hK⟩ => ⟨d, he, rdk_iff.2 ⟨_, by
    simp only [Disk.bk, Bk.zero, List.map_nil, Bk.mk.injEq, and_true]
    rw [List.eq_replicate_iff]
    refine ⟨by simpa using hl, fun y hy => ?_⟩
    obtain ⟨x, hx, rfl⟩ := List.mem_map.1 hy
    exact hz x hx, h⟩, hK⟩
section
variable (c : Nat) (E : Bk) (w : World) (L : List HP) (hO : Has w (RDk c E :: L))
include hO
theorem rkBoot : Calls Try.prog 51 #[.pointer (some ⟨c, 0, none⟩)] w fun e w' => e = .returned (.int .i64 E.boot.1) ∧ Has w' (RDk c E.boot.2 :: L) ∧ Keep w w' := by
  obtain ⟨D, rfl, h⟩ := rdk_iff.1 hO
  rw [bk_boot]
  exact (rBoot c D w L h).mono fun e w' ⟨h1, h2, h3⟩ => ⟨h1, rdk_iff.2 ⟨_, rfl, h2⟩, h3⟩
theorem rkCrash (kv : Value) (keep : List Bool) (hL : ∀ w', Has w' L → Rd w' kv 1 keep.length (keep.map Value.bool)) :
    Calls Try.prog 53 #[.pointer (some ⟨c, 0, none⟩), kv] w fun e w' => e = .returned (.tuple #[]) ∧ Has w' (RDk c (E.crash keep) :: L) ∧ Keep w w' := by
  obtain ⟨D, rfl, h⟩ := rdk_iff.1 hO
  exact (rCrash c D kv keep w L hL h).mono fun e w' ⟨h1, h2, h3⟩ => ⟨h1, rdk_iff.2 ⟨_, bk_crash D keep, h2⟩, h3⟩
theorem rkWrite (at_ : Int) (b : Value) (xs : List Int) (hw : E.waits.length ≤ 100000000) (hw2 : E.writes.length ≤ 1000000000) (hL : ∀ w', Has w' L → Rd w' b 1 xs.length (bc xs)) :
    Calls Try.prog 66 #[.pointer (some ⟨c, 0, none⟩), .int .i64 at_, b] w fun e w' => e = .returned (.int .i64 (E.write at_ xs).1) ∧ Has w' (RDk c (E.write at_ xs).2 :: L) ∧ Keep w w' := by
  obtain ⟨D, rfl, h⟩ := rdk_iff.1 hO
  by_cases hA : D.asked (D.there at_ && xs.length == 128) = 0
  · refine (rWriteGo c D at_ b xs w L (by simpa [Disk.bk] using hw) hw2 hL hA h).mono ?_
    rintro e w' ⟨x, h1, h2, h3⟩
    have := bk_write D at_ (x, xs)
    dsimp only at this
    rw [this]
    exact ⟨h1, rdk_iff.2 ⟨_, rfl, h2⟩, h3⟩
  · refine (rWriteNo c D at_ b (.slice none 0 0) xs w L (hL _ h.drop) hA h).mono ?_
    rintro e w' ⟨h1, h2, h3⟩
    have := bk_write D at_ (.slice none 0 0, xs)
    dsimp only at this
    rw [this]
    exact ⟨h1, rdk_iff.2 ⟨_, rfl, h2⟩, h3⟩
theorem rkRead (x : Int) (hw : E.waits.length ≤ 1000000000) :
    Calls Try.prog 64 #[.pointer (some ⟨c, 0, none⟩), .int .i64 x] w fun e w' => ∃ v, e = .returned (.tuple #[v, .int .i64 (E.read x).1]) ∧ Has w' (Bytes v (E.read x).2 :: RDk c E :: L) ∧ Keep w w' := by
  obtain ⟨D, rfl, h⟩ := rdk_iff.1 hO
  refine (rRead c D x w L (by simpa [Disk.bk] using hw) h).mono ?_
  rintro e w' ⟨v, h1, h2, h3⟩
  have e : D.bk.read x = D.read x := by
    unfold Bk.read Disk.read
    rw [bk_asked, bk_there, bk_last]
  rw [e]
  exact ⟨v, h1, (rdk_iff.2 ⟨_, rfl, h2.p1⟩).p1, h3⟩
/-- What a statement reads of it. -/
theorem rkCells : ∃ fv lv : Value, w.cell? ⟨c, 0, none⟩ = some fv ∧ w.cell? ⟨c, 2, none⟩ = some (.bool (!E.on)) ∧ w.cell? ⟨c, 4, none⟩ = some (.int .i64 E.flushes) ∧ w.cell? ⟨c, 6, none⟩ = some lv ∧ RdT w fv E.firm ∧ Rd w lv 1 E.writes.length (ic E.writes) ∧ (∃ p m k, fv = .slice p m k) ∧ (∃ p m k, lv = .slice p m k) := by
  obtain ⟨D, rfl, h⟩ := rdk_iff.1 hO
  obtain ⟨fv, wv, kv, lv, ks, left, B, hok, hP⟩ := rdsk_iff.1 h
  have hf := hP.p1.rd.form
  have hl := (Ints.rd hP.p4).form
  refine ⟨fv, lv, hP.cells 0, hP.cells 2, hP.cells 4, hP.cells 6, ?_, Ints.rd hP.p4, ?_, ?_⟩
  · exact ⟨D.firm, rfl, hP.p1.rd, fun x hx => hP.p5.pool_rd (hok.1.firm x hx)⟩
  · obtain ⟨p, k, e, -⟩ := hf
    exact ⟨p, _, k, e⟩
  · obtain ⟨p, k, e, -⟩ := hl
    exact ⟨p, _, k, e⟩
theorem rkLen (x : Int) : (E.read x).2.length ≤ 128 := by
  obtain ⟨D, rfl, h⟩ := rdk_iff.1 hO
  obtain ⟨fv, wv, kv, lv, ks, left, B, hok, hP⟩ := rdsk_iff.1 h
  have e : D.bk.read x = D.read x := by
    unfold Bk.read Disk.read
    rw [bk_asked, bk_there, bk_last]
  rw [e]
  unfold Disk.read
  split
  · simp
  · show (D.last x).2.length ≤ 128
    unfold Disk.last
    split
    · rename_i y hy
      have := hok.1.wlen y (by simpa using List.mem_of_find?_eq_some hy)
      omega
    · rw [List.getD_eq_getElem?_getD]
      by_cases hx : x.toNat < D.firm.length
      · rw [List.getElem?_eq_getElem hx, Option.getD_some]
        have := hok.1.len _ (List.getElem_mem hx)
        omega
      · rw [List.getElem?_eq_none (by omega)]; simp
end
/-- One act. -/
def stepBk (E : Bk) (do_ at_ n : Int) (short : Bool) (keep : List Bool) : Bk :=
  if do_ = 1 then (E.write at_ (fill n (if short then 127 else 128))).2 else if do_ = 2 then E.flush.2 else if do_ = 3 then (E.arm n keep).2 else if do_ = 4 then E.crash keep else if do_ = 5 then E.boot.2 else E
/-- No more waits, was written, was flushed than k acts can. -/
structure Bd (E : Bk) (k : Nat) : Prop where
  waits : E.waits.length ≤ k
  writes : E.writes.length ≤ k
  flushes : 0 ≤ E.flushes ∧ E.flushes ≤ k
theorem Bd.falls {E : Bk} {k : Nat} (h : Bd E k) : Bd E.falls.2 k := by
  unfold Bk.falls
  split
  · exact h
  · split
    · exact ⟨h.waits, h.writes, h.flushes⟩
    · exact ⟨by simp [Bk.crash], h.writes, h.flushes⟩
theorem Bd.up {E : Bk} {k : Nat} (h : Bd E k) : Bd E (k + 1) := ⟨by have := h.waits; omega, by have := h.writes; omega, by have := h.flushes; omega⟩
theorem Bd.write {E : Bk} {k : Nat} (h : Bd E k) (a : Int) (t : List Int) : Bd (E.write a t).2 (k + 1) := by
  unfold Bk.write
  split
  · exact h.up
  · split
    · exact h.falls.up
    · have := h.falls
      exact ⟨by have := this.waits; simp; omega, by have := this.writes; simp; omega, by have := this.flushes; simp only; omega⟩
theorem Bd.flush {E : Bk} {k : Nat} (h : Bd E k) : Bd E.flush.2 (k + 1) := by
  unfold Bk.flush
  split
  · exact h.up
  · split
    · exact h.falls.up
    · have := h.falls
      exact ⟨by simp, by have := this.writes; simp only; omega, by have := this.flushes; simp only; omega⟩
theorem Bd.arm {E : Bk} {k : Nat} (h : Bd E k) (n : Int) (keep : List Bool) : Bd (E.arm n keep).2 (k + 1) := by
  unfold Bk.arm
  split
  · exact h.up
  · exact ⟨by have := h.waits; simp only; omega, by have := h.writes; simp only; omega, by have := h.flushes; simp only; omega⟩
theorem Bd.boot {E : Bk} {k : Nat} (h : Bd E k) : Bd E.boot.2 (k + 1) := by
  unfold Bk.boot
  split
  · exact h.up
  · exact ⟨by have := h.waits; simp only; omega, by have := h.writes; simp only; omega, by have := h.flushes; simp only; omega⟩
theorem Bd.step {E : Bk} {k : Nat} (h : Bd E k) (do_ at_ n : Int) (short : Bool) (keep : List Bool) : Bd (stepBk E do_ at_ n short keep) (k + 1) := by
  unfold stepBk
  split
  · exact h.write _ _
  split
  · exact h.flush
  split
  · exact h.arm _ _
  split
  · exact ⟨by simp [Bk.crash], by have := h.writes; simp only [Bk.crash]; omega, by have := h.flushes; simp only [Bk.crash]; omega⟩
  split
  · exact h.boot
  · exact h.up
theorem falls_len (E : Bk) : E.falls.2.firm.length = E.firm.length := by
  unfold Bk.falls
  split
  · rfl
  · split
    · rfl
    · simp [Bk.crash, blayKept_len]
theorem write_len (E : Bk) (a : Int) (t : List Int) : (E.write a t).2.firm.length = E.firm.length := by
  unfold Bk.write
  split
  · rfl
  · split <;> exact falls_len E
theorem flush_len (E : Bk) : E.flush.2.firm.length = E.firm.length := by
  unfold Bk.flush
  split
  · rfl
  · split
    · exact falls_len E
    · show (blayAll _ _).length = _
      rw [blayAll_len, falls_len]
theorem step_len (E : Bk) (do_ at_ n : Int) (short : Bool) (keep : List Bool) : (stepBk E do_ at_ n short keep).firm.length = E.firm.length := by
  unfold stepBk
  split
  · exact write_len _ _ _
  split
  · exact flush_len _
  split
  · unfold Bk.arm; split <;> rfl
  split
  · simp [Bk.crash, blayKept_len]
  split
  · unfold Bk.boot; split <;> rfl
  · rfl
end Go.Proofs.Ytajlikakbihgbaa
/- A BLOCK that is made, loaded, and stored into as a whole. No program in sight. -/
namespace Go.Own
open Go.RowKit
section
variable {P : Program} {ops : Array Oper} {rest : List Oper} {o : Oper} {a : Act} {Q : Exit → Act → World → Prop} {w : World} {l : List HP}
theorem wpList_allocAs (hgd : o.guard = none) (t : TypeId) (ho : o.op = .alloc t) (C : Array Value) (hz : ∀ w, (zeroValue t).run P w = .ok (.agg C) w)
    (h : wpList P ops Q rest (a.put o.dst (.pointer (some ⟨w.heap.size, 0, none⟩))) (w.alloc (.cells C t))) : wpList P ops Q (o :: rest) a w := by
  refine wpList_plain hgd fun K hK => ?_
  unfold Oper.wp execOp
  simp only [ho, Instr.alloc, newVar, newRow, Value.cells, Sem.run_bind, Sem.run_pure, Result.andThen_ok, hz]
  exact hK _ _ h
theorem wpList_storeAt (hgd : o.guard = none) (t : TypeId) (x y : Operand) (ho : o.op = .store t x y) (b off : Nat) (C D : Array Value) (T : TypeId) (hO : Has w (pt b (.cells C T) :: l)) (hx : a.eval x = .pointer (some ⟨b, off, none⟩)) (hy : a.eval y = .agg D)
    (hs : ∀ w, (sizeOf t).run P w = .ok D.size w) (h1 : ∀ v ∈ D.toList, v.oneCell' = true) (hfit : off + D.size ≤ C.size)
    (h : ∀ w', Has w' (pt b (.cells (C.toList.take off ++ D.toList ++ C.toList.drop (off + D.size)).toArray T) :: l) → Keep w w' → wpList P ops Q rest (a.put o.dst undef) w') : wpList P ops Q (o :: rest) a w := by
  refine wpList_plain hgd fun K hK => ?_
  have hst := run_storeCells_at P b off T D.toList 0 C w hO.lookup (by simpa using hfit) h1
  simp only [Nat.add_zero, Array.length_toList] at hst
  unfold Oper.wp execOp
  simp only [ho, Instr.storeAt, Instr.sureAddr, storeVar, Value.cells, hx, hy, Sem.run_bind, Sem.run_pure, Result.andThen_ok, hs, ne_eq, not_true, if_false, hst]
  exact hK _ _ (h _ (hO.turn (fun k _ hk => setRow_other w b k _ hk) (setRow_heap w b C _ T _ hO.lookup)) ⟨rfl, rfl, rfl, by simp⟩)
end
end Go.Own
/- A CACHE's CALLS of none, of what is not held, and what is refused. -/
namespace Go.Proofs.Ytajlikakbihgbaa
open Go.RowKit Go.Own Go.Dk Go.Ch
theorem kcGetNil (a : Int) (w : World) : Calls Try.prog 15 #[.pointer none, .int .i64 a] w fun e w' => e = .returned (.tuple #[.slice none 0 0, .int .i64 1]) ∧ w = w' := by
  go_enter Try.func15, Try.ntmps15
  go_wp2_with fail
  go_ret2
  exact ⟨rfl, rfl⟩
theorem kcPutNil (a : Int) (p : Option Addr) (n c : Nat) (w : World) : Calls Try.prog 11 #[.pointer none, .int .i64 a, .slice p n c] w fun e w' => e = .returned (.int .i64 1) ∧ w = w' := by
  go_enter Try.func11, Try.ntmps11
  go_wp2_with fail
  go_ret
  exact ⟨rfl, rfl⟩
theorem kcDropNil (a : Int) (w : World) : Calls Try.prog 14 #[.pointer none, .int .i64 a] w fun e w' => e = .returned (.int .i64 0) ∧ w = w' := by
  go_enter Try.func14, Try.ntmps14
  go_wp2_with fail
  go_ret
  exact ⟨rfl, rfl⟩
theorem kcHeldNil (w : World) : Calls Try.prog 19 #[.pointer none] w fun e w' => e = .returned (.slice none 0 0) ∧ w = w' := by
  go_enter Try.func19, Try.ntmps19
  go_wp2_with fail
  go_ret
  exact ⟨rfl, rfl⟩
set_option maxRecDepth 100000 in
set_option maxHeartbeats 4000000 in
theorem kcPinNone (q : Nat) (dv : Value) (most : Int) (K : List Hb) (a : Int) (on : Bool) (w : World) (L : List HP) (hl : K.length ≤ 10000) (hf : find K a = none) (hO : Has w (Cch q dv most K :: L)) :
    Calls Try.prog 22 #[.pointer (some ⟨q, 0, none⟩), .int .i64 a, .bool on] w fun e w' => e = .returned (.int .i64 5) ∧ Has w' (Cch q dv most K :: L) ∧ Keep w w' := by
  obtain ⟨v, T, B, ⟨rfl, hB⟩, h2⟩ := cch_iff.1 hO
  have HA := hid (cAsked dv most v T q a w _ (fun w' h => Has.rd h) (by simp at hl; omega) h2)
  rw [hf] at HA
  dsimp only at HA
  have HB := hid hB
  clear hO h2 hB hf hl
  go_enter Try.func22, Try.ntmps22
  go_wp2_with fail
  refine HA.out.mono ?_
  rintro e w2 ⟨rfl, h2, k2⟩
  have HO2 := hid h2
  have HK2 := hid k2
  clear h2 k2 HA
  try dsimp only
  go_wp2_with fail
  go_ret
  exact ⟨rfl, cch_iff.2 ⟨v, T, B, ⟨rfl, HB.out⟩, HO2.out⟩, HK2.out⟩
set_option maxRecDepth 100000 in
set_option maxHeartbeats 4000000 in
theorem kcCleanNone (q : Nat) (dv : Value) (most : Int) (K : List Hb) (a : Int) (w : World) (L : List HP) (hl : K.length ≤ 10000) (hf : find K a = none) (hO : Has w (Cch q dv most K :: L)) :
    Calls Try.prog 13 #[.pointer (some ⟨q, 0, none⟩), .int .i64 a] w fun e w' => e = .returned (.int .i64 5) ∧ Has w' (Cch q dv most K :: L) ∧ Keep w w' := by
  obtain ⟨v, T, B, ⟨rfl, hB⟩, h2⟩ := cch_iff.1 hO
  have HA := hid (cAsked dv most v T q a w _ (fun w' h => Has.rd h) (by simp at hl; omega) h2)
  rw [hf] at HA
  dsimp only at HA
  have HB := hid hB
  clear hO h2 hB hf hl
  go_enter Try.func13, Try.ntmps13
  go_wp2_with fail
  refine HA.out.mono ?_
  rintro e w2 ⟨rfl, h2, k2⟩
  have HO2 := hid h2
  have HK2 := hid k2
  clear h2 k2 HA
  try dsimp only
  go_wp2_with fail
  go_ret
  exact ⟨rfl, cch_iff.2 ⟨v, T, B, ⟨rfl, HB.out⟩, HO2.out⟩, HK2.out⟩
set_option maxRecDepth 100000 in
set_option maxHeartbeats 4000000 in
theorem kcPutBad (q d : Nat) (most : Int) (K : List Hb) (E : Bk) (a : Int) (v : Value) (xs : List Int) (w : World) (L : List HP) (ha : ¬ (0 ≤ a ∧ a < E.firm.length)) (hx : xs.length = 128) (hr : ∀ w', Has w' L → Rd w' v 1 xs.length (bc xs)) (hO : Has w (Cch q (dP d) most K :: Dk d E :: L)) :
    Calls Try.prog 11 #[.pointer (some ⟨q, 0, none⟩), .int .i64 a, v] w fun e w' => e = .returned (.int .i64 2) ∧ Has w' (Cch q (dP d) most K :: Dk d E :: L) ∧ Keep w w' := by
  obtain ⟨p, c, rfl, -⟩ := (hr w hO.drop.drop).form
  have HSX := hid (kSectors d E w _ hO.p1)
  obtain ⟨v0, T, B, ⟨hT, hB⟩, h2⟩ := cch_iff.1 hO
  have hc := h2.cells
  have HO := hid hO
  unfold caC at hc
  by_cases h1 : a < 0
  · clear hr hx ha h2 hO hT hB
    go_enter Try.func11, Try.ntmps11
    go_wp2_with fail
    go_ret
    exact ⟨rfl, HO.out, Keep.refl w⟩
  · have ha3 : (E.firm.length : Int) ≤ a := by omega
    clear hr hx ha h2 hO hT hB
    go_enter Try.func11, Try.ntmps11
    go_wp2_with fail
    refine (HSX.out).mono ?_
    rintro e w' ⟨rfl, rfl⟩
    try dsimp only
    clear hc
    go_wp2_with fail
    go_ret
    exact ⟨rfl, HO.out, Keep.refl w⟩
set_option maxRecDepth 100000 in
set_option maxHeartbeats 4000000 in
theorem kcGetErr (q d : Nat) (most : Int) (K : List Hb) (E : Bk) (a : Int) (w : World) (L : List HP) (hl : K.length ≤ 10000) (hw : E.waits.length ≤ 1000000000) (hf : find K a = none) (he : (E.read a).1 ≠ 0) (hO : Has w (Cch q (dP d) most K :: Dk d E :: L)) :
    Calls Try.prog 15 #[.pointer (some ⟨q, 0, none⟩), .int .i64 a] w fun e w' => e = .returned (.tuple #[.slice none 0 0, .int .i64 (E.read a).1]) ∧ Has w' (Cch q (dP d) most K :: Dk d E :: L) ∧ Keep w w' := by
  obtain ⟨v, T, B, ⟨rfl, hB⟩, h2⟩ := cch_iff.1 hO
  have HF := hid (cFind (dP d) most v T q a w _ (fun w' h => Has.rd h) (by simp at hl; omega) h2)
  have HBB := hid hB
  have HW := hid hw
  have HE := hid he
  rw [hf] at HF
  simp only [atN] at HF
  clear hO h2 hB hl hf hw he
  go_enter Try.func15, Try.ntmps15
  go_wp2_with fail
  refine HF.out.mono ?_
  rintro e w2 ⟨rfl, h2, k2⟩
  have HO2 := hid h2
  have HK2 := hid k2
  clear h2 k2 HF
  try dsimp only
  have hq := HO2.out.cells
  unfold caC at hq
  have HRD := hid (kRead d E w2 _ HO2.out.p3 a HW.out)
  generalize her : (E.read a).1 = er at *
  have HER := hid her
  clear her
  go_wp2_with fail
  refine HRD.out.mono ?_
  rintro e w3 ⟨v3, rfl, h3, k3⟩
  have HO3 := hid (show Has w3 (Cch q (dP d) most (T.map Hd.hb) :: Bytes v3 (E.read a).2 :: Dk d E :: L) from cch_iff.2 ⟨v, T, B, ⟨rfl, HBB.out⟩, h3.re 5 [2, 3, 4, 0, 1]⟩)
  have HK3 := hid (HK2.out.trans k3)
  obtain ⟨p3, c3, rfl, -⟩ := (Bytes.rd h3).form
  clear h3 k3 HO2 HK2 HRD hq
  try dsimp only
  have he := HE.out
  go_wp2_with fail
  go_ret2
  rw [HER.out]
  exact ⟨rfl, HO3.out.p1.drop, HK3.out⟩
end Go.Proofs.Ytajlikakbihgbaa
/- THE REFERENCE's CACHE, its bytes alone. -/
namespace Go.Proofs.Ytajlikakbihgbaa
open Go.RowKit Go.Own Go.Ch Go.Dk
def putK (K : List Hb) (h : Hb) : List Hb := K.filter (fun x => x.at_ != h.at_) ++ [h]
theorem putT_map (T : List Hd) (h : Hd) : (putT T h).map Hd.hb = putK (T.map Hd.hb) h.hb := by
  unfold putT putK
  rw [List.map_append, List.filter_map]
  rfl
theorem putT_mem {T : List Hd} {h x : Hd} (hx : x ∈ putT T h) : x ∈ T ∨ x = h := by
  unfold putT at hx
  rcases List.mem_append.1 hx with hx | hx
  · exact .inl (List.mem_filter.1 hx).1
  · exact .inr (by simpa using hx)
def Rcc (q : Nat) (dv : Value) (most : Int) (K : List Hb) : HP := ex fun v : Value => ex fun T : List Hd => ex fun B : Txs => star [fact (T.map Hd.hb = K ∧ ∀ x ∈ T, x.t ∈ B), rC q dv most v, rRow v T, poolc 5 B]
theorem rcc_iff {w : World} {L : List HP} {q : Nat} {dv : Value} {most : Int} {K : List Hb} : Has w (Rcc q dv most K :: L) ↔ ∃ v T B, (T.map Hd.hb = K ∧ ∀ x ∈ T, x.t ∈ B) ∧ Has w (rC q dv most v :: rRow v T :: poolc 5 B :: L) := by
  unfold Rcc
  simp only [Has.ex_iff, Has.star_iff, List.cons_append, List.nil_append, Has.fact_iff]
theorem rcAt (q : Nat) (dv : Value) (most : Int) (v : Value) (T : List Hd) (B : Txs) (a : Int) (w : World) (L : List HP) (hl : T.length ≤ 10000) (hO : Has w (rC q dv most v :: rRow v T :: poolc 5 B :: L)) :
    Calls Try.prog 54 #[.pointer (some ⟨q, 0, none⟩), .int .i64 a] w fun e w' => e = .returned (.int .i64 (atN (find (T.map Hd.hb) a))) ∧ w = w' :=
  rAt dv most v T q a w _ hO.p1.rd hl hO
theorem rcNewest (q : Nat) (dv : Value) (most : Int) (v : Value) (T : List Hd) (B : Txs) (h : Hd) (w : World) (L : List HP) (hl : T.length ≤ 10000) (hB : ∀ x ∈ T, x.t ∈ B) (hh : h.t ∈ B) (hO : Has w (rC q dv most v :: rRow v T :: poolc 5 B :: L)) :
    Calls Try.prog 65 #[.pointer (some ⟨q, 0, none⟩), hdV h] w fun e w' => e = .returned (.tuple #[]) ∧ (∃ v' T', (T'.map Hd.hb = putK (T.map Hd.hb) h.hb ∧ ∀ x ∈ T', x.t ∈ B) ∧ T'.length ≤ T.length + 1 ∧ Has w' (rC q dv most v' :: rRow v' T' :: poolc 5 B :: L)) ∧ Keep w w' := by
  obtain ⟨ha, ⟨hv, hb⟩, hd, hp⟩ := h
  obtain ⟨p, c, ev, -⟩ := ((hO.p2).pool_rd hh).form
  dsimp only at ev
  subst ev
  refine (rNewest dv most v T ha p _ c hb hd hp q w _ hl (one1_of hO.p2 hB) hO).mono ?_
  rintro e w' ⟨h1, ⟨v', h2⟩, h3⟩
  refine ⟨h1, ⟨v', _, ⟨putT_map .., fun x hx => ?_⟩, putT_len _ _, h2⟩, h3⟩
  rcases putT_mem hx with hx | hx
  · exact hB x hx
  · rw [hx]; exact hh
/-- Drop. -/
theorem rcDropT (q : Nat) (dv : Value) (most : Int) (v : Value) (T : List Hd) (B : Txs) (m : Int) (w : World) (L : List HP) (hm : m ≤ 1000000000) (hl : T.length ≤ 10000) (hB : ∀ x ∈ T, x.t ∈ B) (hO : Has w (rC q dv most v :: rRow v T :: poolc 5 B :: L)) :
    Calls Try.prog 49 #[.pointer (some ⟨q, 0, none⟩), .int .i64 m] w fun e w' => e = .returned (.int .i64 ((T.length : Int) - ((dropG Hb.stay m (T.map Hd.hb)).2.length : Int))) ∧ (∃ v' T', (T'.map Hd.hb = (dropG Hb.stay m (T.map Hd.hb)).2 ∧ ∀ x ∈ T', x.t ∈ B) ∧ Has w' (rC q dv most v' :: rRow v' T' :: poolc 5 B :: L)) ∧ Keep w w' := by
  refine (rDrop dv most v T m q w _ hm hl (one1_of hO.p2 hB) hO).mono ?_
  rintro e w' ⟨h1, ⟨v', h2⟩, h3⟩
  rw [drop_map, List.length_map]
  exact ⟨h1, ⟨v', _, ⟨rfl, fun x hx => hB x (dropG_mem _ _ _ x hx)⟩, h2⟩, h3⟩
theorem rcDrop (q : Nat) (dv : Value) (most : Int) (K : List Hb) (m : Int) (w : World) (L : List HP) (hm : m ≤ 1000000000) (hl : K.length ≤ 10000) (hO : Has w (Rcc q dv most K :: L)) :
    Calls Try.prog 49 #[.pointer (some ⟨q, 0, none⟩), .int .i64 m] w fun e w' => e = .returned (.int .i64 ((K.length : Int) - ((dropG Hb.stay m K).2.length : Int))) ∧ Has w' (Rcc q dv most (dropG Hb.stay m K).2 :: L) ∧ Keep w w' := by
  obtain ⟨v, T, B, ⟨rfl, hB⟩, h2⟩ := rcc_iff.1 hO
  refine (rcDropT q dv most v T B m w L hm (by simpa using hl) hB h2).mono ?_
  rintro e w' ⟨h3, ⟨v', T', h4, h5⟩, h6⟩
  rw [List.length_map]
  exact ⟨h3, rcc_iff.2 ⟨v', T', B, h4, h5⟩, h6⟩
/-- What settles. -/
theorem settle_is (most : Int) (K : List Hb) : (dropG Hb.stay ((K.length : Int) - most) K).2 = settleK most K := rfl
set_option maxRecDepth 100000 in
set_option maxHeartbeats 4000000 in
theorem rcGetHit (q : Nat) (dv : Value) (most : Int) (K : List Hb) (a : Int) (i : Nat) (w : World) (L : List HP) (hm : 0 ≤ most ∧ most ≤ 1000000) (hl : K.length ≤ 9000) (h128 : ∀ x ∈ K, x.b.length ≤ 1000) (hf : find K a = some i) (hi : i < K.length) (hO : Has w (Rcc q dv most K :: L)) :
    Calls Try.prog 43 #[.pointer (some ⟨q, 0, none⟩), .int .i64 a] w fun e w' => ∃ v', e = .returned (.tuple #[v', .int .i64 0]) ∧ Has w' (Bytes v' K[i].b :: Rcc q dv most (settleK most (putK K K[i])) :: L) ∧ Keep w w' := by
  obtain ⟨v, T, B, ⟨rfl, hB⟩, h2⟩ := rcc_iff.1 hO
  have HO := hid h2
  have HF := hid (rcAt q dv most v T B a w L (by simp at hl; omega) h2)
  have hiT : i < T.length := by simpa using hi
  have HX : Hid (T[i] ∈ T) := hid (List.getElem_mem hiT)
  have HLX := hid (show T[i].t.2.length ≤ 1000 from h128 T[i].hb (List.mem_map_of_mem HX.out))
  have HKI : Hid ((T.map Hd.hb)[i] = T[i].hb) := hid (List.getElem_map ..)
  obtain ⟨px, cx, hxt, -⟩ := ((h2.p2).pool_rd (hB T[i] HX.out)).form
  obtain ⟨p, c, rfl, -, -, hcs⟩ := h2.p1.rd.form
  obtain ⟨g, o, rfl, -⟩ := hcs (by omega)
  have HM := hid hm
  have HL := hid (show T.length ≤ 9000 by simpa using hl)
  have HBB := hid hB
  have HII := hid hiT
  rw [hf] at HF
  simp only [atN] at HF
  have hi0 : (0 : Int) ≤ (i : Int) := by omega
  have hi1 : (i : Int) < (T.length : Int) := by omega
  have hi2 : (T.length : Int) ≤ 10000 := by simp at hl; omega
  rw [HKI.out]
  generalize hx : T[i] = x at *
  have HXE := hid hx
  have HW := hid h2
  have HO2 := hid (h2.alloc (.cells #[.int .i64 a, .slice none 0 0, .bool false, .bool false] 92))
  have HK2 := hid ((Keep.refl w).alloc (.cells #[.int .i64 a, .slice none 0 0, .bool false, .bool false] 92))
  have hq := HO2.out.p1.cells
  unfold caC at hq
  obtain ⟨c0, c1, c2, c3⟩ := hd_cells HO2.out.p2.rd i HII.out
  have hxe : T[i]'HII.out = x := HXE.out
  rw [hxe] at c0 c1 c2 c3
  clear hxe
  obtain ⟨xa, ⟨xv, xb⟩, xd, xp⟩ := x
  dsimp only at hxt c0 c1 c2 c3
  subst hxt
  clear HKI
  clear hO h2 hB hl hm hf h128 hi hx hcs HO
  go_enter Try.func43, Try.ntmps43
  go_wp2_with fail
  refine HF.out.mono ?_
  rintro e w' ⟨rfl, rfl⟩
  try dsimp only
  have HO5 := hid (HW.out.alloc (.cells #[.int .i64 xa, .slice px xb.length cx, .bool xd, .bool xp] 92))
  have HK5 := hid ((Keep.refl w).alloc (.cells #[.int .i64 xa, .slice px xb.length cx, .bool xd, .bool xp] 92))
  clear HO2 HK2 HW
  have hbx := HO5.out.cells
  have HN := hid (rcNewest q dv most (.slice (some ⟨g, o, none⟩) T.length c) T B ⟨xa, ⟨.slice px xb.length cx, xb⟩, xd, xp⟩ _ _ (by omega) HBB.out (HBB.out _ HX.out) (HO5.out.re 4 [1, 2, 3, 0]))
  unfold hdV at HN
  dsimp only at HN
  go_wp2_with fail
  refine HN.out.mono ?_
  rintro e w4 ⟨rfl, ⟨v4, T4, hT4, hl4, h4⟩, k4⟩
  have HO4 := hid h4
  have HK4 := hid (HK5.out.trans k4)
  have HT4 := hid hT4
  have HL4 := hid hl4
  obtain ⟨p4, c4, e4, -⟩ := h4.p1.rd.form
  subst e4
  clear h4 k4 hT4 hl4 HO5 HK5 HN hbx hq c0 c1 c2 c3 HF
  generalize w.heap.size = b at *
  try dsimp only
  have hl5 : (T4.length : Int) ≤ 10000 := by have := HL4.out; have := HL.out; omega
  have hm1 : 0 ≤ most := HM.out.1
  have hm2 : most ≤ 1000000 := HM.out.2
  have hlt : b < w4.heap.size := HO4.out.p3.lt
  go_upto_region 10 with fail
  refine region_tail1 (fun w' => w'.cell? ⟨q, 1, none⟩ = some (.int .i64 most) ∧ w'.cell? ⟨q, 2, none⟩ = some (.slice p4 T4.length c4)) (by kernel_rfl) (by kernel_rfl) (by kernel_rfl) (by decide) ⟨HO4.out.drew.cells 1, HO4.out.drew.cells 2⟩ ?_
  have HW5 := hid (show IntKind.i64.wrap ((T4.length : Int) - most) = (T4.length : Int) - most from wrapk_in _ (by omega))
  have HO5 := hid HO4.out.drew
  have HK5 := hid HK4.out.drew
  have HLE := hid hl5
  generalize w4.drew = w5 at *
  clear HO4 HK4
  repeat (first
    | (refine wpL_read (by rfl) (by rfl) ?_ ?_ ?_; rotate_left; (rintro w ⟨z0, z1⟩; go_simp; with_reducible rfl); simp only [Act.put, List.setIfInBounds_toArray, List.set_cons_zero, List.set_cons_succ]) | (refine wpL_skip (by rfl) ?_; simp only [Act.put, List.setIfInBounds_toArray, List.set_cons_zero, List.set_cons_succ]))
  refine wpL_nil ?_
  refine wpOp_last rfl (by rfl) ?_
  go_simp
  rw [HW5.out]
  refine (rcDropT q dv most (.slice p4 T4.length c4) T4 B ((T4.length : Int) - most) w5 _ (by have := HLE.out; have := HM.out.1; omega) (by have := HLE.out; omega) HT4.out.2 HO5.out).mono ?_
  rintro e w6 ⟨rfl, ⟨v6, T6, hT6, h6⟩, k6⟩
  rw [show ((T4.length : Int) - most) = (((T4.map Hd.hb).length : Nat) : Int) - most by rw [List.length_map], settle_is, HT4.out.1] at hT6
  have HO6 := hid h6
  have HK6 := hid (HK5.out.trans k6)
  have HT6 := hid hT6
  clear h6 k6 hT6 HO5 HK5
  try dsimp only
  have hbx := HO6.out.p3.cells
  have HRD := hid (HO6.out.p2.pool_rd (HBB.out _ HX.out))
  go_wp2_with (at_builtin; refine wpList_appendA rfl _ _ _ rfl Try.underlying33 infoU8 rfl (by decide) (HO6.out.row_nil 5 1) rfl _ xb.length _ rfl HRD.out (bc_one _) (le_maxLen (by have := HLX.out; omega)) (by have := HLX.out; omega) ?_)
  intro v7 w7 h7 k7
  have HO7 := hid (bytes_of h7)
  have HK7 := hid (HK6.out.trans k7)
  clear h7 k7 HO6 HK6 HRD hbx
  go_wp2_with fail
  go_ret2
  refine ⟨v7, rfl, ?_, HK7.out⟩
  exact ((rcc_iff.2 ⟨v6, T6, B, HT6.out, HO7.out.re 5 [1, 2, 3, 0]⟩) : Has w7 (Rcc q dv most _ :: Bytes v7 xb :: L)).p1
set_option maxRecDepth 100000 in
set_option maxHeartbeats 4000000 in
theorem rcGetMiss (q d : Nat) (most : Int) (K : List Hb) (E : Bk) (a : Int) (w : World) (L : List HP) (hm : 0 ≤ most ∧ most ≤ 1000000) (hl : K.length ≤ 9000) (hw : E.waits.length ≤ 1000000000) (hf : find K a = none) (he : (E.read a).1 = 0) (hbl : (E.read a).2.length ≤ 1000) (hO : Has w (Rcc q (.pointer (some ⟨d, 0, none⟩)) most K :: RDk d E :: L)) :
    Calls Try.prog 43 #[.pointer (some ⟨q, 0, none⟩), .int .i64 a] w fun e w' => ∃ v', e = .returned (.tuple #[v', .int .i64 0]) ∧ Has w' (Bytes v' (E.read a).2 :: Rcc q (.pointer (some ⟨d, 0, none⟩)) most (settleK most (putK K ⟨a, (E.read a).2, false, false⟩)) :: RDk d E :: L) ∧ Keep w w' := by
  obtain ⟨v, T, B, ⟨rfl, hB⟩, h2⟩ := rcc_iff.1 hO
  have HF := hid (rcAt q (.pointer (some ⟨d, 0, none⟩)) most v T B a w _ (by simp at hl; omega) h2)
  obtain ⟨p, c, rfl, -⟩ := h2.p1.rd.form
  have HM := hid hm
  have HL := hid (show T.length ≤ 9000 by simpa using hl)
  have HBB := hid hB
  have HWT := hid hw
  have HE := hid he
  have HBL := hid hbl
  rw [hf] at HF
  simp only [atN] at HF
  have hW := h2
  have HO2 := hid (h2.alloc (.cells #[.int .i64 a, .slice none 0 0, .bool false, .bool false] 92))
  have HK2 := hid ((Keep.refl w).alloc (.cells #[.int .i64 a, .slice none 0 0, .bool false, .bool false] 92))
  have hq := HO2.out.p1.cells
  unfold caC at hq
  clear hO h2 hB hl hm hf hw he hbl hW
  go_enter Try.func43, Try.ntmps43
  go_wp2_with fail
  refine HF.out.mono ?_
  rintro e w' ⟨rfl, rfl⟩
  try dsimp only
  go_wp2_with fail
  refine (rkRead d E _ _ HO2.out.p4 a HWT.out).mono ?_
  rintro e w3 ⟨v3, rfl, h3, k3⟩
  rw [HE.out]
  obtain ⟨p3, c3, rfl, -⟩ := (Bytes.rd h3).form
  have HO3 := hid (show Has w3 (pt w.heap.size (.cells #[.int .i64 a, .slice none 0 0, .bool false, .bool false] 92) :: rC q (.pointer (some ⟨d, 0, none⟩)) most (.slice p T.length c) :: rRow (.slice p T.length c) T :: poolc 5 ((.slice p3 (E.read a).2.length c3, (E.read a).2) :: B) :: RDk d E :: L) from (show Has w3 (Bytes (.slice p3 (E.read a).2.length c3) (E.read a).2 :: poolc 5 B :: pt w.heap.size (.cells #[.int .i64 a, .slice none 0 0, .bool false, .bool false] 92) :: rC q (.pointer (some ⟨d, 0, none⟩)) most (.slice p T.length c) :: rRow (.slice p T.length c) T :: RDk d E :: L) from h3.re 6 [0, 5, 2, 3, 4, 1]).pool_add.re 5 [1, 2, 3, 0, 4])
  have HK3 := hid (HK2.out.trans k3)
  clear h3 k3 HO2 HK2 hq HF
  try dsimp only
  generalize hbs : (E.read a).2 = bs at *
  have HBS := hid hbs
  clear hbs
  have HO4 := hid (HO3.out.set 1 (.slice p3 bs.length c3))
  have HK4 := hid (HK3.out.set ⟨w.heap.size, 1, none⟩ (.slice p3 bs.length c3))
  have HHB := hid (show ∀ x ∈ T, x.t ∈ ((.slice p3 bs.length c3, bs) :: B : Txs) from fun x hx => List.mem_cons_of_mem _ (HBB.out x hx))
  have hbx := HO3.out.cells
  have hbt := HO3.out.thaw
  have hbx4 := HO4.out.cells
  have HN := hid (rcNewest q (.pointer (some ⟨d, 0, none⟩)) most (.slice p T.length c) T ((.slice p3 bs.length c3, bs) :: B) ⟨a, ⟨.slice p3 bs.length c3, bs⟩, false, false⟩ _ _ (by have := HL.out; omega) HHB.out List.mem_cons_self (HO4.out.re 4 [1, 2, 3, 0]))
  unfold hdV at HN
  dsimp only at HN
  have hi2 : (T.length : Int) ≤ 10000 := by have := HL.out; omega
  go_wp2_with fail
  refine HN.out.mono ?_
  rintro e w4 ⟨rfl, ⟨v4, T4, hT4, hl4, h4⟩, k4⟩
  have HO4 := hid h4
  have HK4 := hid (HK4.out.trans k4)
  have HT4 := hid hT4
  have HL4 := hid hl4
  obtain ⟨p4, c4, e4, -⟩ := h4.p1.rd.form
  subst e4
  clear h4 k4 hT4 hl4 HO3 HK3 HN hbx hbt hbx4
  try dsimp only
  have hl5 : (T4.length : Int) ≤ 10000 := by have := HL4.out; have := HL.out; omega
  have hm1 : 0 ≤ most := HM.out.1
  have hm2 : most ≤ 1000000 := HM.out.2
  go_upto_region 10 with fail
  refine region_tail1 (fun w' => w'.cell? ⟨q, 1, none⟩ = some (.int .i64 most) ∧ w'.cell? ⟨q, 2, none⟩ = some (.slice p4 T4.length c4)) (by kernel_rfl) (by kernel_rfl) (by kernel_rfl) (by decide) ⟨HO4.out.drew.cells 1, HO4.out.drew.cells 2⟩ ?_
  have HW5 := hid (show IntKind.i64.wrap ((T4.length : Int) - most) = (T4.length : Int) - most from wrapk_in _ (by omega))
  have HO5 := hid HO4.out.drew
  have HK5 := hid HK4.out.drew
  have HLE := hid hl5
  generalize w4.drew = w5 at *
  clear HO4 HK4
  repeat (first
    | (refine wpL_read (by rfl) (by rfl) ?_ ?_ ?_; rotate_left; (rintro w ⟨z0, z1⟩; go_simp; with_reducible rfl); simp only [Act.put, List.setIfInBounds_toArray, List.set_cons_zero, List.set_cons_succ]) | (refine wpL_skip (by rfl) ?_; simp only [Act.put, List.setIfInBounds_toArray, List.set_cons_zero, List.set_cons_succ]))
  refine wpL_nil ?_
  refine wpOp_last rfl (by rfl) ?_
  go_simp
  rw [HW5.out]
  refine (rcDropT q (.pointer (some ⟨d, 0, none⟩)) most (.slice p4 T4.length c4) T4 ((.slice p3 bs.length c3, bs) :: B) ((T4.length : Int) - most) w5 _ (by have := HLE.out; have := HM.out.1; omega) (by have := HLE.out; omega) HT4.out.2 HO5.out).mono ?_
  rintro e w6 ⟨rfl, ⟨v6, T6, hT6, h6⟩, k6⟩
  rw [show ((T4.length : Int) - most) = (((T4.map Hd.hb).length : Nat) : Int) - most by rw [List.length_map], settle_is, HT4.out.1] at hT6
  have HO6 := hid h6
  have HK6 := hid (HK5.out.trans k6)
  have HT6 := hid hT6
  clear h6 k6 hT6 HO5 HK5
  try dsimp only
  have hbx := HO6.out.p3.cells
  have HRD := hid (HO6.out.p2.pool_rd (x := (.slice p3 bs.length c3, bs)) List.mem_cons_self)
  go_wp2_with (at_builtin; refine wpList_appendA rfl _ _ _ rfl Try.underlying33 infoU8 rfl (by decide) (HO6.out.row_nil 5 1) rfl _ bs.length _ rfl HRD.out (bc_one _) (le_maxLen (by have := HBL.out; omega)) (by have := HBL.out; omega) ?_)
  intro v7 w7 h7 k7
  have HO7 := hid (bytes_of h7)
  have HK7 := hid (HK6.out.trans k7)
  clear h7 k7 HO6 HK6 HRD hbx
  go_wp2_with fail
  go_ret2
  rw [HBS.out]
  refine ⟨v7, rfl, ?_, HK7.out⟩
  exact ((rcc_iff.2 ⟨v6, T6, _, HT6.out, HO7.out.re 5 [1, 2, 3, 0]⟩) : Has w7 (Rcc q _ most _ :: Bytes v7 bs :: RDk d E :: L)).p1
end Go.Proofs.Ytajlikakbihgbaa
