/- TEXTS of mine, merged. -/
import Derived.Test.YtajlikakbihgbaaRows
import Derived.Test.YtajlikakbihgbaaM1
import Derived.Test.YtajlikakbihgbaaM2
import Derived.WalkLawsBesides
import Derived.Deep.QuietTactic
import Derived.BigQuiet
import Derived.StillTailTactics
import Derived.Deep.DeepCutAuto
import Derived.Deep.CutBlock
import Derived.RangeFuncNested
/- What every text of walks of this seat imports. -/
namespace Go.Proofs.Ytajlikakbihgbaa
open Go.RowKit Go.Own
theorem infoInt : (Try.prog.info? 3).map (fun i => (i.zero, i.size, i.bytes)) = some (some (.int .i64 0), 1, 8) := by kernel_rfl
def Ints (v : Value) (xs : List Int) : HP := row v 3 1 xs.length (ic xs)
theorem Ints.rd {v : Value} {xs : List Int} {w : World} {L : List HP} (h : Has w (Ints v xs :: L)) : Rd w v 1 xs.length (ic xs) := Has.rd h
theorem infoU8 : (Try.prog.info? 5).map (fun i => (i.zero, i.size, i.bytes)) = some (some (.int .u8 0), 1, 1) := by kernel_rfl
def Bytes (v : Value) (xs : List Int) : HP := row v 5 1 xs.length (bc xs)
theorem Bytes.rd {v : Value} {xs : List Int} {w : World} {L : List HP} (h : Has w (Bytes v xs :: L)) : Rd w v 1 xs.length (bc xs) := Has.rd h
/-- A number below n. -/
def low (x n : Int) : Int := IntKind.u64.wrap x % n
theorem low_in (x n : Int) (hn : 1 ≤ n) : 0 ≤ low x n ∧ low x n < n := ⟨Int.emod_nonneg _ (by omega), Int.emod_lt_of_pos _ (by omega)⟩
theorem u64_nonneg (x : Int) : 0 ≤ IntKind.u64.wrap x := by simp [IntKind.wrap, IntKind.bits, IntKind.signed]; omega
theorem low_eq (x n : Int) (hn : 1 ≤ n) (hn' : n ≤ 9223372036854775807) : wrap64 ((IntKind.u64.wrap x).tmod n) = low x n := by
  have h := low_in x n hn
  have h0 := u64_nonneg x
  rw [Int.tmod_eq_emod_of_nonneg h0]
  exact IntWalk.wrap64_in _ (by unfold low at h; omega)
end Go.Proofs.Ytajlikakbihgbaa
/- A POOL OF BYTES that nobody writes any more: many slices, each with its own block, owned together. No program in sight. -/
namespace Go.Own
open Go.RowKit
/-- Each pair of the list: a slice value and its bytes. -/
def poolc (u8 : TypeId) (B : List (Value × List Int)) : HP := star (B.map fun x => row x.1 u8 1 x.2.length (bc x.2))
section
variable {w : World} {l : List HP} {u8 : TypeId} {B : List (Value × List Int)}
theorem Has.pool_open {x : Value × List Int} (h : Has w (poolc u8 B :: l)) (hx : x ∈ B) : ∃ m, Has w (row x.1 u8 1 x.2.length (bc x.2) :: m) := by
  obtain ⟨s, t, rfl⟩ := List.append_of_mem hx
  have h1 := Has.star_iff.1 h
  rw [List.map_append, List.map_cons, List.append_assoc, List.cons_append] at h1
  exact ⟨_, h1.perm List.perm_middle⟩
theorem Has.pool_rd {x : Value × List Int} (h : Has w (poolc u8 B :: l)) (hx : x ∈ B) : Rd w x.1 1 x.2.length (bc x.2) := by
  obtain ⟨m, hm⟩ := h.pool_open hx
  exact hm.rd
theorem Has.pool_nil (h : Has w l) : Has w (poolc u8 [] :: l) := Has.star_iff.2 h
theorem Has.pool_add {v : Value} {xs : List Int} (h : Has w (row v u8 1 xs.length (bc xs) :: poolc u8 B :: l)) : Has w (poolc u8 ((v, xs) :: B) :: l) := by
  refine Has.star_iff.2 ?_
  rw [List.map_cons, List.cons_append]
  have := h.p1
  have h2 := Has.star_iff.1 this
  exact h2.perm List.perm_middle
theorem Has.pool_snoc {v : Value} {xs : List Int} (h : Has w (row v u8 1 xs.length (bc xs) :: poolc u8 B :: l)) : Has w (poolc u8 (B ++ [(v, xs)]) :: l) := by
  refine Has.star_iff.2 ?_
  have h2 := Has.star_iff.1 h.p1
  rw [List.map_append, List.append_assoc]
  exact h2
theorem set_perm {α : Type _} : ∀ (F : List α) (k : Nat) (hk : k < F.length) (y : α), (F.set k y).Perm (y :: F.eraseIdx k)
  | _ :: _, 0, _, _ => .refl _
  | a :: F, k + 1, hk, y => ((set_perm F k (by simpa using hk) y).cons a).trans (.swap _ _ _)
theorem Has.poolPerm {B' : List (Value × List Int)} (h : Has w (poolc u8 B :: l)) (hp : B.Perm B') : Has w (poolc u8 B' :: l) := by
  refine Has.star_iff.2 ((Has.star_iff.1 h).perm ?_)
  exact (hp.map _).append_right l
/-- One text is taken out. -/
theorem Has.pool_out (h : Has w (poolc u8 B :: l)) (k : Nat) (hk : k < B.length) : Has w (row B[k].1 u8 1 B[k].2.length (bc B[k].2) :: poolc u8 (B.eraseIdx k) :: l) := by
  have := h.poolPerm (perm_pull B k hk)
  have h2 := Has.star_iff.1 this
  exact (Has.star_iff.2 (show Has w (((B.eraseIdx k).map fun x => row x.1 u8 1 x.2.length (bc x.2)) ++ (row B[k].1 u8 1 B[k].2.length (bc B[k].2) :: l)) from h2.perm List.perm_middle.symm)).p1
/-- Another comes in its place. -/
theorem Has.pool_in {k : Nat} {v : Value} {xs : List Int} (hk : k < B.length) (h : Has w (row v u8 1 xs.length (bc xs) :: poolc u8 (B.eraseIdx k) :: l)) : Has w (poolc u8 (B.set k (v, xs)) :: l) :=
  h.pool_add.poolPerm (set_perm B k hk (v, xs)).symm
end
end Go.Own
/- THE PLAIN LAW OF A DISK: sectors, what waits, the power, what is armed. Each text is a slice's value with its bytes. -/
namespace Go.Dk
open Go.Own
abbrev Txt := Value × List Int
structure Disk where
  firm : List Txt
  waits : List (Int × Txt)
  on : Bool
  armed : Option (Int × List Bool)
  writes : List Int
  flushes : Int
/-- A write is laid into the sectors. -/
def lay (F : List Txt) (x : Int × Txt) : List Txt := F.set x.1.toNat x.2
def layAll (F : List Txt) (W : List (Int × Txt)) : List Txt := W.foldl lay F
/-- The writes that are kept, from the i-th on. -/
def kept (keep : List Bool) (i : Nat) : Bool := 0 < keep.length && keep.getD (i % keep.length) false
def layKept (keep : List Bool) (F : List Txt) (W : List (Int × Txt)) : List Txt := W.zipIdx.foldl (fun F x => if kept keep x.2 then lay F x.1 else F) F
def Disk.crash (D : Disk) (keep : List Bool) : Disk := { D with firm := layKept keep D.firm D.waits, waits := [], armed := none, on := false }
/-- Does the power go now? -/
def Disk.falls (D : Disk) : Bool × Disk :=
  match D.armed with
  | none => (false, D)
  | some (n, k) => if 0 < n then (false, { D with armed := some (n - 1, k) }) else (true, D.crash k)
def Disk.there (D : Disk) (at_ : Int) : Bool := decide (0 ≤ at_) && decide (at_ < D.firm.length)
def Disk.asked (D : Disk) (good : Bool) : Int := if D.on then (if good then 0 else 2) else 4
def Disk.write (D : Disk) (at_ : Int) (x : Txt) : Int × Disk :=
  if D.asked (D.there at_ && x.2.length == 128) ≠ 0 then (D.asked (D.there at_ && x.2.length == 128), D)
  else if D.falls.1 then (4, D.falls.2)
  else (0, { D.falls.2 with waits := D.falls.2.waits ++ [(at_, x)], writes := D.falls.2.writes ++ [at_] })
def Disk.flush (D : Disk) : Int × Disk :=
  if D.asked true ≠ 0 then (D.asked true, D)
  else if D.falls.1 then (4, D.falls.2)
  else (0, { D.falls.2 with firm := layAll D.falls.2.firm D.falls.2.waits, waits := [], flushes := D.falls.2.flushes + 1 })
def Disk.arm (D : Disk) (after : Int) (keep : List Bool) : Int × Disk :=
  if D.asked (decide (0 ≤ after)) ≠ 0 then (D.asked (decide (0 ≤ after)), D) else (0, { D with armed := some (after, keep) })
def Disk.boot (D : Disk) : Int × Disk := if D.on then (19, D) else (0, { D with on := true })
/-- What was written last to a sector. -/
def Disk.last (D : Disk) (at_ : Int) : Txt :=
  match D.waits.reverse.find? (fun x => x.1 == at_) with
  | some x => x.2
  | none => D.firm.getD at_.toNat (.slice none 0 0, [])
/-- All texts lie in the pool; each write's sector is there; a sector has 128 bytes. -/
structure Ok (B : List Txt) (D : Disk) : Prop where
  firm : ∀ x ∈ D.firm, x ∈ B
  waits : ∀ x ∈ D.waits, x.2 ∈ B
  at_ : ∀ x ∈ D.waits, 0 ≤ x.1 ∧ x.1 < D.firm.length
  len : ∀ x ∈ D.firm, x.2.length = 128
  wlen : ∀ x ∈ D.waits, x.2.2.length = 128
  left : ∀ n k, D.armed = some (n, k) → n ≤ 9223372036854775807
theorem lay_len (F : List Txt) (x : Int × Txt) : (lay F x).length = F.length := by simp [lay]
theorem layAll_len (F : List Txt) (W : List (Int × Txt)) : (layAll F W).length = F.length := by
  unfold layAll
  induction W generalizing F with
  | nil => rfl
  | cons x W ih => rw [List.foldl_cons, ih, lay_len]
theorem layAll_snoc (F : List Txt) (W : List (Int × Txt)) (x : Int × Txt) : layAll F (W ++ [x]) = lay (layAll F W) x := by simp [layAll]
theorem lay_mem {F : List Txt} {x : Int × Txt} {y : Txt} (h : y ∈ lay F x) : y ∈ F ∨ y = x.2 := List.mem_or_eq_of_mem_set h
theorem layKept_snoc (keep : List Bool) (F : List Txt) (W : List (Int × Txt)) (x : Int × Txt) : layKept keep F (W ++ [x]) = if kept keep W.length then lay (layKept keep F W) x else layKept keep F W := by
  simp [layKept, List.zipIdx_append]
theorem layKept_len (keep : List Bool) (F : List Txt) (W : List (Int × Txt)) : (layKept keep F W).length = F.length := by
  unfold layKept
  generalize W.zipIdx = Z
  induction Z generalizing F with
  | nil => rfl
  | cons x Z ih =>
    rw [List.foldl_cons, ih]
    split
    · rw [lay_len]
    · rfl
theorem layAll_mem {F : List Txt} {W : List (Int × Txt)} {y : Txt} (h : y ∈ layAll F W) : y ∈ F ∨ ∃ x ∈ W, y = x.2 := by
  unfold layAll at h
  induction W generalizing F with
  | nil => exact .inl h
  | cons x W ih =>
    rcases ih h with h | ⟨z, hz, rfl⟩
    · rcases lay_mem h with h | rfl
      · exact .inl h
      · exact .inr ⟨x, by simp, rfl⟩
    · exact .inr ⟨z, by simp [hz], rfl⟩
theorem layKept_mem {keep : List Bool} {F : List Txt} {W : List (Int × Txt)} {y : Txt} (h : y ∈ layKept keep F W) : y ∈ F ∨ ∃ x ∈ W, y = x.2 := by
  unfold layKept at h
  have key : ∀ (Z : List ((Int × Txt) × Nat)) (F : List Txt), y ∈ Z.foldl (fun F x => if kept keep x.2 then lay F x.1 else F) F → y ∈ F ∨ ∃ x ∈ Z, y = x.1.2 := by
    intro Z
    induction Z with
    | nil => intro F h; exact .inl h
    | cons x Z ih =>
      intro F h
      rcases ih _ h with h | ⟨z, hz, rfl⟩
      · dsimp only at h
        split at h
        · rcases lay_mem h with h | rfl
          · exact .inl h
          · exact .inr ⟨x, by simp, rfl⟩
        · exact .inl h
      · exact .inr ⟨z, by simp [hz], rfl⟩
  rcases key _ _ h with h | ⟨z, hz, rfl⟩
  · exact .inl h
  · exact .inr ⟨z.1, by have := List.fst_mem_of_mem_zipIdx hz; exact this, rfl⟩
end Go.Dk
/- HOW A DISK LIES IN MEMORY. -/
namespace Go.Proofs.Ytajlikakbihgbaa
open Go.RowKit Go.Own Go.Dk
def wenc (W : List (Int × Txt)) : List Value := W.flatMap fun x => [.int .i64 x.1, x.2.1]
def Bools (v : Value) (ks : List Bool) : HP := row v 4 1 ks.length (ks.map Value.bool)
def Armc (v : Value) : Option (Int × List Bool) → HP
  | none => fact (v = .pointer none)
  | some (n, k) => ex fun g => ex fun kv => star [fact (v = .pointer (some ⟨g, 0, none⟩)), pt g (.cells #[.int .i64 n, kv] 104), Bools kv k]
def Dsk (d : Nat) (D : Disk) : HP := ex fun fv => ex fun wv => ex fun av => ex fun lv => ex fun B =>
  star [fact (Ok B D), pt d (.cells #[fv, wv, .bool D.on, av, lv, .int .i64 D.flushes] 67), row fv 33 1 D.firm.length (D.firm.map (·.1)), row wv 85 2 D.waits.length (wenc D.waits), Armc av D.armed, Ints lv D.writes, poolc 5 B]
theorem dsk_iff {w : World} {L : List HP} {d : Nat} {D : Disk} : Has w (Dsk d D :: L) ↔ ∃ fv wv av lv B, Ok B D ∧
    Has w (pt d (.cells #[fv, wv, .bool D.on, av, lv, .int .i64 D.flushes] 67) :: row fv 33 1 D.firm.length (D.firm.map (·.1)) :: row wv 85 2 D.waits.length (wenc D.waits) :: Armc av D.armed :: Ints lv D.writes :: poolc 5 B :: L) := by
  unfold Dsk
  simp only [Has.ex_iff, Has.star_iff, List.cons_append, List.nil_append, Has.fact_iff]
theorem armc_some {w : World} {L : List HP} {v : Value} {n : Int} {k : List Bool} : Has w (Armc v (some (n, k)) :: L) ↔ ∃ g kv, v = .pointer (some ⟨g, 0, none⟩) ∧ Has w (pt g (.cells #[.int .i64 n, kv] 104) :: Bools kv k :: L) := by
  unfold Armc
  simp only [Has.ex_iff, Has.star_iff, List.cons_append, List.nil_append, Has.fact_iff]
theorem armc_none {w : World} {L : List HP} {v : Value} : Has w (Armc v none :: L) ↔ v = .pointer none ∧ Has w L := by
  unfold Armc
  simp only [Has.fact_iff]
/-! ### Calls of a disk that is none -/
theorem diskSectorsNil (w : World) : Calls Try.prog 30 #[.pointer none] w fun e w' => e = .returned (.int .i64 0) ∧ w = w' := by
  go_enter Try.func30, Try.ntmps30
  go_wp2
  go_ret
  exact ⟨rfl, rfl⟩
theorem diskAskedNil (b : Bool) (w : World) : Calls Try.prog 38 #[.pointer none, .bool b] w fun e w' => e = .returned (.int .i64 1) ∧ w = w' := by
  go_enter Try.func38, Try.ntmps38
  go_wp2
  go_ret
  exact ⟨rfl, rfl⟩
theorem diskSectors (d : Nat) (D : Disk) (w : World) (L : List HP) (hO : Has w (Dsk d D :: L)) :
    Calls Try.prog 30 #[.pointer (some ⟨d, 0, none⟩)] w fun e w' => e = .returned (.int .i64 D.firm.length) ∧ w = w' := by
  obtain ⟨fv, wv, av, lv, B, hok, hO⟩ := dsk_iff.1 hO
  obtain ⟨p, cap, rfl, -⟩ := hO.p1.rd.form
  have hc := hO.cells
  clear hO hok
  go_enter Try.func30, Try.ntmps30
  go_wp2
  go_ret
  exact ⟨rfl, rfl⟩
theorem diskThere (d : Nat) (D : Disk) (at_ : Int) (w : World) (L : List HP) (hO : Has w (Dsk d D :: L)) :
    Calls Try.prog 39 #[.pointer (some ⟨d, 0, none⟩), .int .i64 at_] w fun e w' => e = .returned (.bool (D.there at_)) ∧ w = w' := by
  have H := hid (diskSectors d D w L hO)
  clear hO
  by_cases h0 : 0 ≤ at_
  · go_enter Try.func39, Try.ntmps39
    go_wp2_with fail
    refine H.out.mono ?_
    rintro e w' ⟨rfl, rfl⟩
    go_wp2_with fail
    go_ret
    exact ⟨by simp [Disk.there, h0], rfl⟩
  · go_enter Try.func39, Try.ntmps39
    go_wp2_with fail
    go_ret
    exact ⟨by simp [Disk.there]; omega, rfl⟩
theorem diskAsked (d : Nat) (D : Disk) (b : Bool) (w : World) (L : List HP) (hO : Has w (Dsk d D :: L)) :
    Calls Try.prog 38 #[.pointer (some ⟨d, 0, none⟩), .bool b] w fun e w' => e = .returned (.int .i64 (D.asked b)) ∧ w = w' := by
  obtain ⟨fv, wv, av, lv, B, hok, hO⟩ := dsk_iff.1 hO
  have hc := hO.cells
  clear hO hok
  obtain ⟨F, W, on, ar, wr, fl⟩ := D
  have Ha := hid (fun (b : Bool) => show Disk.asked ⟨F, W, on, ar, wr, fl⟩ b = if on then (if b then 0 else 2) else 4 from rfl)
  simp only at hc
  cases on <;> cases b
  all_goals
    go_enter Try.func38, Try.ntmps38
    go_wp2
    go_ret
    exact ⟨by rw [Ha.out]; rfl, rfl⟩
theorem diskBoot (d : Nat) (D : Disk) (w : World) (L : List HP) (hO : Has w (Dsk d D :: L)) :
    Calls Try.prog 50 #[.pointer (some ⟨d, 0, none⟩)] w fun e w' => e = .returned (.int .i64 D.boot.1) ∧ Has w' (Dsk d D.boot.2 :: L) ∧ Keep w w' := by
  have HD := hid hO
  obtain ⟨fv, wv, av, lv, B, hok, hO⟩ := dsk_iff.1 hO
  obtain ⟨F, W, on, ar, wr, fl⟩ := D
  simp only at hO
  have hc := hO.cells
  have ht := hO.thaw
  have HO := hid hO
  have Hok := hid hok
  clear hO hok
  cases on
  · go_enter Try.func50, Try.ntmps50
    go_wp2
    go_ret
    refine ⟨rfl, ?_, (Keep.refl _).set _ _⟩
    have h := HO.out.set 2 (.bool true)
    exact dsk_iff.2 ⟨fv, wv, av, lv, B, ⟨Hok.out.firm, Hok.out.waits, Hok.out.at_, Hok.out.len, Hok.out.wlen, Hok.out.left⟩, h⟩
  · go_enter Try.func50, Try.ntmps50
    go_wp2
    go_ret
    exact ⟨rfl, HD.out, Keep.refl _⟩
end Go.Proofs.Ytajlikakbihgbaa
/- THE WALK of Crash, of falls. -/
namespace Go.Proofs.Ytajlikakbihgbaa
open Go.RowKit Go.Own Go.Dk
theorem wenc_len (W : List (Int × Txt)) : (wenc W).length = W.length * 2 := by
  induction W with
  | nil => rfl
  | cons x W ih => simp [wenc] at *; omega
theorem wenc_at (W : List (Int × Txt)) (i : Nat) (h : i < W.length) : (wenc W)[i * 2]? = some (.int .i64 W[i].1) ∧ (wenc W)[i * 2 + 1]? = some W[i].2.1 := by
  induction W generalizing i with
  | nil => simp at h
  | cons x W ih =>
    cases i with
    | zero => simp [wenc]
    | succ i =>
      have := ih i (by simpa using h)
      rw [show (i + 1) * 2 = i * 2 + 2 from by omega]
      simpa [wenc] using this
theorem layKept_take (keep : List Bool) (F : List Txt) (W : List (Int × Txt)) (k : Nat) (h : k < W.length) : layKept keep F (W.take (k + 1)) = if kept keep k then lay (layKept keep F (W.take k)) W[k] else layKept keep F (W.take k) := by
  rw [← List.take_append_getElem h, layKept_snoc, List.length_take, Nat.min_eq_left (by omega)]
theorem lay_map (F : List Txt) (x : Int × Txt) : (lay F x).map (·.1) = (F.map (·.1)).set x.1.toNat x.2.1 := by simp [lay, List.map_set]
/-- The two cells of write k. -/
theorem wcells {w : World} {v : Value} {W : List (Int × Txt)} {L : List HP} (h : Has w (row v 85 2 W.length (wenc W) :: L)) (k : Nat) (hk : k < W.length) :
    ∃ g o c, v = .slice (some ⟨g, o, none⟩) W.length c ∧ w.cell? ⟨g, o + k * 2, none⟩ = some (.int .i64 W[k].1) ∧ w.cell? ⟨g, o + k * 2 + 1, none⟩ = some W[k].2.1 := by
  obtain ⟨p, c, rfl, -, -, hr⟩ := h.rd.form
  obtain ⟨g, o, rfl, hg⟩ := hr (by omega)
  have h1 := hg (k * 2) (by omega)
  have h2 := hg (k * 2 + 1) (by omega)
  obtain ⟨e1, e2⟩ := wenc_at W k hk
  exact ⟨g, o, c, rfl, by rw [h1, e1], by rw [Nat.add_assoc, h2, e2]⟩
theorem crashNil (kv : Value) (w : World) : Calls Try.prog 52 #[.pointer none, kv] w fun e w' => e = .returned (.tuple #[]) ∧ w = w' := by
  go_enter Try.func52, Try.ntmps52
  go_wp2
  try simp only [Exit.inBlock, Exit.then]
  refine bodyPost_ret (results_none rfl _ _ _) rfl ?_
  exact ⟨rfl, rfl⟩
theorem crashO (d : Nat) (fv wv av lv kv : Value) (on : Bool) (fl : Int) (F : List Txt) (W : List (Int × Txt)) (keep : List Bool) (w : World) (L : List HP)
    (hat : ∀ x ∈ W, 0 ≤ x.1 ∧ x.1 < F.length) (hsl : ∀ x ∈ W, ∃ p n c, x.2.1 = .slice p n c) (hL : ∀ w', Has w' L → Rd w' kv 1 keep.length (keep.map Value.bool))
    (hO : Has w (pt d (.cells #[fv, wv, .bool on, av, lv, .int .i64 fl] 67) :: row fv 33 1 F.length (F.map (·.1)) :: row wv 85 2 W.length (wenc W) :: L)) :
    Calls Try.prog 52 #[.pointer (some ⟨d, 0, none⟩), kv] w fun e w' => e = .returned (.tuple #[]) ∧
      Has w' (pt d (.cells #[fv, .slice none 0 0, .bool false, .pointer none, lv, .int .i64 fl] 67) :: row fv 33 1 F.length ((layKept keep F W).map (·.1)) :: row wv 85 2 W.length (wenc W) :: L) ∧ Keep w w' := by
  obtain ⟨wp, wc, rfl, hwc, hwl, hwr⟩ := hO.p2.rd.form
  obtain ⟨kp, kc, rfl, hkc, hkl, -⟩ := (hL _ hO.drop.drop.drop).form
  obtain ⟨fp, fc, rfl, hfc, hfl, -⟩ := hO.p1.rd.form
  have HO := hid hO
  have HL := hid hL
  have HA := hid hat
  have HSL := hid hsl
  have HW := hid hwr
  have hc := hO.cells
  clear hO hL hat hwr hsl
  go_enter Try.func52, Try.ntmps52
  go_wp2_with fail
  go_loopw [5, 4, 13] (fun t5 t4 i w' => ∃ k : Nat, k ≤ W.length ∧ i = .int .i64 k ∧ Hid (Has w' (pt d (.cells #[.slice fp F.length fc, .slice wp W.length wc, .bool on, av, lv, .int .i64 fl] 67) :: row (.slice fp F.length fc) 33 1 F.length ((layKept keep F (W.take k)).map (·.1)) :: row (.slice wp W.length wc) 85 2 W.length (wenc W) :: L)) ∧ Hid (Keep w w')) (fun _ _ i _ => W.length - (intOf i).toNat)
  case atStart => exact ⟨0, by omega, rfl, HO, hid (Keep.refl _)⟩
  case round =>
    obtain ⟨k, hk, rfl, HX, HK⟩ := hrel
    by_cases hlt : k < W.length
    · have hwn := hlt
      obtain ⟨g, o, c, e, hw1, hw2⟩ := wcells HX.out.p2 k hlt
      simp only [Value.slice.injEq] at e
      obtain ⟨rfl, -, rfl⟩ := e
      obtain ⟨xp, xn, xc, hx⟩ := HSL.out _ (List.getElem_mem hlt)
      rw [hx] at hw2
      have hin := HA.out _ (List.getElem_mem hlt)
      generalize hxi : W[k].1 = xi at *
      obtain ⟨q, rfl⟩ := Int.eq_ofNat_of_zero_le hin.1
      have hq : q < F.length := by omega
      have Hx := hid hx
      have Hxi := hid hxi
      clear hx hxi hin
      have HO3 := hid (HX.out.alloc (.cells #[.int .i64 (q : Int), .slice xp xn xc] 85))
      have HK3 := hid (HK.out.alloc (.cells #[.int .i64 (q : Int), .slice xp xn xc] 85))
      by_cases hk0 : keep.length = 0
      · have hkt : kept keep k = false := by simp [kept, hk0]
        have HKT := hid hkt
        clear hkt
        go_wp2_with fail
        refine ⟨⟨k + 1, by omega, rfl, hid ?_, HK3⟩, ?_⟩
        · rw [layKept_take _ _ _ _ hlt, HKT.out]; exact HO3.out.drop
        · simp only [intOf]; omega
      · obtain ⟨r, hr⟩ : ∃ r : Nat, (k : Int) % (keep.length : Int) = (r : Int) := ⟨k % keep.length, by omega⟩
        have hrl : (r : Int) < keep.length := by rw [← hr]; exact Int.emod_lt_of_pos _ (by omega)
        have hrl' : r < keep.length := by omega
        obtain ⟨kp', kc', ek, -, -, hkr⟩ := (HL.out _ HO3.out.drop.drop.drop.drop).form
        simp only [Value.slice.injEq, true_and] at ek
        obtain ⟨rfl, rfl⟩ := ek
        obtain ⟨kg, ko, rfl, hkc⟩ := hkr (by omega)
        have hkv : (wr.alloc (.cells #[.int .i64 (q : Int), .slice xp xn xc] 85)).cell? ⟨kg, ko + r, none⟩ = some (.bool keep[r]) := by
          rw [hkc r (by omega)]; simp [hrl']
        clear hkr hkc
        have HKT := hid (show kept keep k = keep[r] from by
          have : k % keep.length = r := by exact_mod_cast hr
          simp [kept, this, hrl']; omega)
        generalize hkb : keep[r] = kb at *
        clear hkb
        cases kb
        · go_wp2_with fail
          refine ⟨⟨k + 1, by omega, rfl, hid ?_, HK3⟩, ?_⟩
          · rw [layKept_take _ _ _ _ hlt, HKT.out]; exact HO3.out.drop
          · simp only [intOf]; omega
        · obtain ⟨-, hf | ⟨fg, fc', cur, ef, -, -, -, -, -⟩⟩ := HX.out.p1.row_cases
          · exact absurd hf.2.1 (by omega)
          simp only [Value.slice.injEq, true_and] at ef
          obtain ⟨rfl, rfl⟩ := ef
          go_wp2_with fail
          have h0 := HO3.out.cells
          have h1 := HO3.out.p1.cells
          obtain ⟨-, h2, ht, -, -⟩ := HO3.out.p2.row_cells
          generalize hwa : wr.alloc (.cells #[.int .i64 (q : Int), .slice xp xn xc] 85) = wa at *
          refine region_tail1 (fun w => w.cell? ⟨d, 0, none⟩ = some (.slice (some ⟨fg, 0, none⟩) F.length fc) ∧ w.cell? ⟨wr.heap.size, 0, none⟩ = some (.int .i64 (q : Int)) ∧ w.cell? ⟨wr.heap.size, 1, none⟩ = some (.slice xp xn xc)) (by kernel_rfl) (by kernel_rfl) (by kernel_rfl) (by decide) ⟨h1 0, h0 0, h0 1⟩ ?_
          repeat (first
            | (refine wpL_read (by rfl) (by rfl) ?_ ?_ ?_; rotate_left; (rintro w ⟨hS, hS1, hS2⟩; go_simp; with_reducible rfl); simp only [Act.put, List.setIfInBounds_toArray, List.set_cons_zero, List.set_cons_succ])
            | (refine wpL_skip (by rfl) ?_; simp only [Act.put, List.setIfInBounds_toArray, List.set_cons_zero, List.set_cons_succ]))
          refine wpL_nil ?_
          refine wpOp_last rfl (by rfl) ?_
          have h3 := h2 q (by omega)
          rw [List.getElem?_eq_getElem (by simp [layKept_len, hq])] at h3
          clear h2 h0 h1
          have HO5 := hid ((HO3.out.p2.row_set q (by omega) (.slice xp xn xc)).b2.drop.drew)
          have HK5 := hid ((HK3.out.set ⟨fg, q, none⟩ (.slice xp xn xc)).drew)
          go_simp
          go_wp2_with fail
          refine ⟨⟨k + 1, by omega, rfl, hid ?_, HK5⟩, ?_⟩
          · rw [layKept_take _ _ _ _ hlt, HKT.out, if_pos rfl, lay_map, Hx.out, Hxi.out]
            exact HO5.out
          · simp only [intOf]; omega
    · obtain rfl : k = W.length := by omega
      have HF := hid HX.out
      have ht := HX.out.thaw
      have hc := HX.out.cells
      go_wp2_with fail
      refine bodyPost_end (results_none rfl _ _ _) rfl ?_
      have h := ((HF.out.set 1 (.slice none 0 0)).set 3 (.pointer none)).set 2 (.bool false)
      rw [List.take_length] at h
      exact ⟨rfl, h, ((HK.out.set _ _).set _ _).set _ _⟩
/-- A disk's pool holds slices. -/
theorem okSlices {B : List Txt} {D : Disk} (h : Ok B D) {w : World} {L : List HP} (hO : Has w (poolc 5 B :: L)) : ∀ x ∈ D.waits, ∃ p n c, x.2.1 = .slice p n c := by
  intro x hx
  obtain ⟨p, c, e, -⟩ := (hO.pool_rd (h.waits x hx)).form
  exact ⟨p, _, c, e⟩
theorem okCrash {B : List Txt} {D : Disk} (h : Ok B D) (keep : List Bool) : Ok B (D.crash keep) where
  firm := fun y hy => by
    rcases layKept_mem hy with h1 | ⟨x, hx, rfl⟩
    · exact h.firm _ h1
    · exact h.waits _ hx
  waits := by simp [Disk.crash]
  at_ := by simp [Disk.crash]
  len := fun y hy => by
    rcases layKept_mem hy with h1 | ⟨x, hx, rfl⟩
    · exact h.len _ h1
    · exact h.wlen _ hx
  wlen := by simp [Disk.crash]
  left := by simp [Disk.crash]
theorem armc_drop {w : World} {L : List HP} {v : Value} {a : Option (Int × List Bool)} (h : Has w (Armc v a :: L)) : Has w L := h.drop
/-- Crash, of a whole disk. -/
theorem diskCrash (d : Nat) (D : Disk) (kv : Value) (keep : List Bool) (w : World) (L : List HP) (hL : ∀ w', Has w' L → Rd w' kv 1 keep.length (keep.map Value.bool)) (hO : Has w (Dsk d D :: L)) :
    Calls Try.prog 52 #[.pointer (some ⟨d, 0, none⟩), kv] w fun e w' => e = .returned (.tuple #[]) ∧ Has w' (Dsk d (D.crash keep) :: L) ∧ Keep w w' := by
  obtain ⟨fv, wv, av, lv, B, hok, hO⟩ := dsk_iff.1 hO
  refine (crashO d fv wv av lv kv D.on D.flushes D.firm D.waits keep w _ hok.at_ (okSlices hok hO.p5) (fun w' h => hL w' h.drop.drop.drop) hO).mono ?_
  rintro e w' ⟨rfl, h, hK⟩
  refine ⟨rfl, dsk_iff.2 ⟨fv, .slice none 0 0, .pointer none, lv, B, okCrash hok keep, ?_⟩, hK⟩
  have h1 := h.p2.drop.p2.drop
  have h2 := ((armc_none.2 ⟨rfl, h1⟩).b2.row_nil 85 2).b2
  have e : (layKept keep D.firm D.waits).length = D.firm.length := layKept_len _ _ _
  show Has w' (pt d _ :: row fv 33 1 (layKept keep D.firm D.waits).length _ :: _)
  rw [e]
  exact h2
theorem fallsNone (d : Nat) (D : Disk) (w : World) (L : List HP) (hA : D.armed = none) (hO : Has w (Dsk d D :: L)) :
    Calls Try.prog 56 #[.pointer (some ⟨d, 0, none⟩)] w fun e w' => e = .returned (.bool D.falls.1) ∧ Has w' (Dsk d D.falls.2 :: L) ∧ Keep w w' := by
  have HD := hid hO
  obtain ⟨fv, wv, av, lv, B, hok, hO⟩ := dsk_iff.1 hO
  obtain ⟨F, W, on, ar, wr, fl⟩ := D
  simp only at hO hA
  subst hA
  obtain ⟨rfl, hO⟩ := armc_none.1 hO.p3
  have hc := hO.cells
  clear hO hok
  go_enter Try.func56, Try.ntmps56
  go_wp2_with fail
  go_ret
  exact ⟨rfl, HD.out, Keep.refl _⟩
theorem fallsLeft (d : Nat) (D : Disk) (n : Int) (k : List Bool) (w : World) (L : List HP) (hA : D.armed = some (n, k)) (hn : 0 < n) (hO : Has w (Dsk d D :: L)) :
    Calls Try.prog 56 #[.pointer (some ⟨d, 0, none⟩)] w fun e w' => e = .returned (.bool D.falls.1) ∧ Has w' (Dsk d D.falls.2 :: L) ∧ Keep w w' := by
  obtain ⟨fv, wv, av, lv, B, hok, hO⟩ := dsk_iff.1 hO
  have hn2 := hok.left _ _ hA
  obtain ⟨F, W, on, ar, wr, fl⟩ := D
  simp only at hO hA
  subst hA
  obtain ⟨g, kv, rfl, hO⟩ := armc_some.1 hO.p3
  have hc := hO.p2.cells
  have hg := hO.cells
  have ht := hO.thaw
  have HO := hid hO
  have Hok := hid hok
  have HF := hid (show Disk.falls ⟨F, W, on, some (n, k), wr, fl⟩ = (false, ⟨F, W, on, some (n - 1, k), wr, fl⟩) from if_pos hn)
  clear hO hok
  go_enter Try.func56, Try.ntmps56
  go_wp2_with fail
  go_ret
  rw [HF.out]
  refine ⟨rfl, dsk_iff.2 ⟨fv, wv, .pointer (some ⟨g, 0, none⟩), lv, B, ⟨Hok.out.firm, Hok.out.waits, Hok.out.at_, Hok.out.len, Hok.out.wlen, fun a b e => by simp only [Option.some.injEq, Prod.mk.injEq] at e; omega⟩, ?_⟩, (Keep.refl _).set _ _⟩
  have h := HO.out.set 0 (.int .i64 (n - 1))
  exact (armc_some.2 ⟨g, kv, rfl, h⟩).b3
theorem fallsGone (d : Nat) (D : Disk) (n : Int) (k : List Bool) (w : World) (L : List HP) (hA : D.armed = some (n, k)) (hn : ¬ 0 < n) (hO : Has w (Dsk d D :: L)) :
    Calls Try.prog 56 #[.pointer (some ⟨d, 0, none⟩)] w fun e w' => e = .returned (.bool D.falls.1) ∧ Has w' (Dsk d D.falls.2 :: L) ∧ Keep w w' := by
  obtain ⟨fv, wv, av, lv, B, hok, hO⟩ := dsk_iff.1 hO
  obtain ⟨F, W, on, ar, wr, fl⟩ := D
  simp only at hO hA
  subst hA
  obtain ⟨g, kv, rfl, hO⟩ := armc_some.1 hO.p3
  have hc := hO.p2.cells
  have hg := hO.cells
  have HC := hid (crashO d fv wv (.pointer (some ⟨g, 0, none⟩)) lv kv on fl F W k w _ hok.at_ (okSlices hok hO.p6) (fun w' h => Has.rd h.p1) (hO.p4.p4.p4))
  clear hO
  have Hok := hid hok
  have HF := hid (show Disk.falls ⟨F, W, on, some (n, k), wr, fl⟩ = (true, (Disk.mk F W on (some (n, k)) wr fl).crash k) from if_neg hn)
  clear hok
  go_enter Try.func56, Try.ntmps56
  go_wp2_with (go_at_call 52; refine HC.out.mono ?_; clear HC)
  rintro e w' rfl h hK
  have HH := hid h
  have HK := hid hK
  clear h hK
  dsimp only
  go_wp2_with fail
  go_ret
  rw [HF.out]
  refine ⟨rfl, dsk_iff.2 ⟨fv, .slice none 0 0, .pointer none, lv, B, okCrash Hok.out k, ?_⟩, HK.out⟩
  have h1 := HH.out.p2.drop.p2.drop.p2.drop
  have h2 := ((armc_none.2 ⟨rfl, h1⟩).b2.row_nil 85 2).b2
  have e : (layKept k F W).length = F.length := layKept_len _ _ _
  show Has _ (pt d _ :: row fv 33 1 (layKept k F W).length _ :: _)
  rw [e]
  exact h2
theorem diskFalls (d : Nat) (D : Disk) (w : World) (L : List HP) (hO : Has w (Dsk d D :: L)) :
    Calls Try.prog 56 #[.pointer (some ⟨d, 0, none⟩)] w fun e w' => e = .returned (.bool D.falls.1) ∧ Has w' (Dsk d D.falls.2 :: L) ∧ Keep w w' := by
  rcases h : D.armed with _ | ⟨n, k⟩
  · exact fallsNone d D w L h hO
  · by_cases hn : 0 < n
    · exact fallsLeft d D n k w L h hn hO
    · exact fallsGone d D n k w L h hn hO
end Go.Proofs.Ytajlikakbihgbaa
/- THE WALK of Flush. -/
namespace Go.Proofs.Ytajlikakbihgbaa
open Go.RowKit Go.Own Go.Dk
theorem layAll_take (F : List Txt) (W : List (Int × Txt)) (k : Nat) (h : k < W.length) : layAll F (W.take (k + 1)) = lay (layAll F (W.take k)) W[k] := by
  rw [← List.take_append_getElem h, layAll_snoc]
theorem okFlush {B : List Txt} {D : Disk} (h : Ok B D) (n : Int) : Ok B { D with firm := layAll D.firm D.waits, waits := [], flushes := n } where
  firm := fun y hy => by
    rcases layAll_mem hy with h1 | ⟨x, hx, rfl⟩
    · exact h.firm _ h1
    · exact h.waits _ hx
  waits := by simp
  at_ := by simp
  len := fun y hy => by
    rcases layAll_mem hy with h1 | ⟨x, hx, rfl⟩
    · exact h.len _ h1
    · exact h.wlen _ hx
  wlen := by simp
  left := h.left
end Go.Proofs.Ytajlikakbihgbaa
/- THE WALKS of what the statements share on bytes. -/
namespace Go.Proofs.Ytajlikakbihgbaa
open Go.RowKit Go.Own
theorem sameBytes (a b : Value) (xs ys : List Int) (w : World) (ha : Rd w a 1 xs.length (bc xs)) (hb : Rd w b 1 ys.length (bc ys)) :
    Calls Try.prog 16 #[a, b] w fun e w' => e = .returned (.bool (decide (xs = ys))) ∧ ∃ n, w' = w.drewN n := by
  obtain ⟨pa, ca, rfl, hca, hla, hra⟩ := ha.form
  obtain ⟨pb, cb, rfl, hcb, hlb, hrb⟩ := hb.form
  have Hra := hid hra
  have Hrb := hid hrb
  clear hra hrb ha hb
  by_cases hl : xs.length = ys.length
  · have ht : ((xs.length : Int) != (ys.length : Int)) = false := by simp [hl]
    have Hl := hid hl
    clear hl
    go_enter Try.func16, Try.ntmps16
    go_wp2
    go_loopw [5] (fun i w' => ∃ k m : Nat, k ≤ xs.length ∧ i = .int .i64 k ∧ w' = w.drewN m ∧ Hid (∀ j, j < k → xs[j]? = ys[j]?)) (fun i _ => xs.length - (intOf i).toNat)
    case atStart => exact ⟨0, 0, by omega, rfl, rfl, hid (by omega)⟩
    case round =>
      obtain ⟨k, m, hk, rfl, rfl, HN⟩ := hrel
      by_cases hlt : k < xs.length
      · have hky : k < ys.length := by have := Hl.out; omega
        obtain ⟨ga, oa, rfl, ra⟩ := Hra.out (by omega)
        obtain ⟨gb, ob, rfl, rb⟩ := Hrb.out (by omega)
        have h1 : w.cell? ⟨ga, oa + k, none⟩ = some (.int .u8 xs[k]) := by rw [ra k (by omega), bc_at xs k hlt]
        have h2 : w.cell? ⟨gb, ob + k, none⟩ = some (.int .u8 ys[k]) := by rw [rb k (by omega), bc_at ys k hky]
        clear ra rb
        rcases he : (xs[k] != ys[k]) with _ | _
        · have HE := hid he
          go_wp2
          go_quiet (fail)
          go_wp2
          go_roundw
          case rel =>
            refine ⟨k + 1, _, by omega, by go_num, rfl, hid fun j hj => ?_⟩
            by_cases hjk : j = k
            · subst hjk
              have := HE.out
              rw [List.getElem?_eq_getElem hlt, List.getElem?_eq_getElem hky]
              simpa using this
            · exact HN.out j (by omega)
          case measure => simp [intOf]; omega
        · have HE := hid he
          go_wp2
          go_quiet (fail)
          go_wp2
          go_ret
          refine ⟨?_, _, World.drewN_drewN ..⟩
          have hne : xs ≠ ys := by
            intro e
            have := HE.out
            subst e
            simp at this
          simp [hne]
      · go_wp2
        go_ret
        refine ⟨?_, _, rfl⟩
        have he : xs = ys := by
          apply List.ext_getElem?
          intro j
          by_cases hj : j < k
          · exact HN.out j hj
          · have := Hl.out
            rw [List.getElem?_eq_none (by omega), List.getElem?_eq_none (by omega)]
        simp [he]
  · have ht : ((xs.length : Int) != (ys.length : Int)) = true := by simp; omega
    have Hl := hid hl
    clear hl
    go_enter Try.func16, Try.ntmps16
    go_wp2
    go_ret
    refine ⟨?_, 0, rfl⟩
    have hne : xs ≠ ys := by
      intro e
      exact Hl.out (by rw [e])
    simp [hne]
theorem sameBytesYes (a b : Value) (xs : List Int) (w : World) (ha : Rd w a 1 xs.length (bc xs)) (hb : Rd w b 1 xs.length (bc xs)) :
    Calls Try.prog 16 #[a, b] w fun e w' => e = .returned (.bool true) ∧ ∃ n, w' = w.drewN n :=
  (sameBytes a b xs xs w ha hb).mono fun e w' ⟨h1, h2⟩ => ⟨by simpa using h1, h2⟩
theorem overBytes (v : Value) (xs : List Int) (W : World) (L : List HP) (hO : Has W (Bytes v xs :: L)) (hsm : xs.length ≤ 1000000) :
    Calls Try.prog 44 #[v] W fun e w' => e = .returned (.tuple #[]) ∧ Has w' L ∧ Keep W w' := by
  obtain ⟨p, cap, rfl, hcap, hla, hr⟩ := hO.rd.form
  have Hr := hid hr
  have HO := hid hO
  clear hO hr
  go_enter Try.func44, Try.ntmps44
  go_wp2
  go_loopw [2] (fun i w => ∃ k : Nat, k ≤ xs.length ∧ i = .int .i64 k ∧ Hid (∃ ys : List Int, ys.length = xs.length ∧ Has w (Bytes (.slice p xs.length cap) ys :: L)) ∧ Hid (Keep W w)) (fun i _ => xs.length - (intOf i).toNat)
  case atStart => exact ⟨0, by omega, rfl, hid ⟨xs, rfl, HO.out⟩, hid (Keep.refl _)⟩
  case round =>
    obtain ⟨k, hk, rfl, HY, HK⟩ := hrel
    by_cases hlt : k < xs.length
    · obtain ⟨g, o, rfl, -⟩ := Hr.out (by omega)
      obtain ⟨ys, hy, hO⟩ := HY.out
      have ho : o = 0 := by
        obtain ⟨_, h | ⟨g', c', cur, e, _⟩⟩ := hO.row_cases
        · cases h.1
        · simp at e; exact e.1.2
      subst ho
      obtain ⟨-, hc, ht, -, -⟩ := hO.row_cells
      have hc1 : wr.cell? ⟨g, k, none⟩ = some (.int .u8 (ys.getD k 0)) := by
        rw [hc k (by omega), bc_at ys k (by omega)]; simp [List.getD, hy, hlt]
      have HO1 := hid hO
      have Hy := hid hy
      clear hc hO hy
      go_wp2
      go_roundw
      case rel =>
        refine ⟨k + 1, by omega, by go_num, hid ⟨ys.set k 238, by simp [Hy.out], ?_⟩, hid (HK.out.set _ _)⟩
        have := HO1.out.row_set k (by have := Hy.out; omega) (.int .u8 238)
        simpa [Bytes, bc, List.map_set] using this
      case measure => simp [intOf]; omega
    · obtain ⟨ys, hy, hO⟩ := HY.out
      have HO1 := hid hO
      have Hy := hid hy
      clear hO hy
      go_wp2_with (at_builtin; refine wpList_append1 rfl _ _ _ rfl Try.underlying33 infoU8 rfl (.int .u8 238) (HO1.out.alloc' _) rfl 1 _ rfl (by simp) rfl (le_maxLen (by have := Hy.out; omega)) (by have := Hy.out; omega) ?_)
      intro v' w' hO' hK'
      have HO' := hid hO'
      have HK' := hid hK'
      clear hO' hK'
      go_wp2_with fail
      go_end0
      exact ⟨rfl, HO'.out.drop, (HK.out.alloc _).trans HK'.out⟩
end Go.Proofs.Ytajlikakbihgbaa
/- THE WALKS of slices.Clone. -/
namespace Go.Proofs.Ytajlikakbihgbaa
open Go.RowKit Go.Own
theorem cloneBytes (v : Value) (xs : List Int) (w : World) (L : List HP) (hO : Has w L) (hr : Rd w v 1 xs.length (bc xs)) (hsm : xs.length ≤ 1000000000) :
    Calls Try.prog 32 #[v] w fun e w' => ∃ v', e = .returned v' ∧ Has w' (Bytes v' xs :: L) ∧ Keep w w' ∧ nilS v' = nilS v := by
  obtain ⟨p, cap, rfl, hca, hla, hra⟩ := hr.form
  have Hra := hid hra
  have Hr := hid hr
  have HO := hid hO
  clear hO hra hr
  rcases p with _ | ad
  · have hz : xs = [] := by
      rcases Nat.eq_zero_or_pos xs.length with h | h
      · exact List.eq_nil_of_length_eq_zero h
      · obtain ⟨g, o, h1, -⟩ := Hra.out (by omega)
        cases h1
    subst hz
    have hnil := Lib.run_eql_slice_nil w 33 5 none 0 cap 0 0 Try.underlying33
    simp only [Option.isNone] at hnil
    go_enter Try.func32, Try.ntmps32
    go_wp2
    go_ret
    exact ⟨_, rfl, HO.out.row_nil _ _, Keep.refl _, rfl⟩
  · have hnil := Lib.run_eql_slice_nil w 33 5 (some ad) xs.length cap 0 0 Try.underlying33
    simp only [Option.isNone] at hnil
    go_enter Try.func32, Try.ntmps32
    go_wp2_with (at_builtin; refine wpList_append_rd rfl _ _ _ rfl Try.underlying33 infoU8 rfl ((HO.out.alloc (.cells #[] 5)).row_of (n := 0) (cap := 0) (Nat.le_refl _) (Nat.zero_le _) rfl rfl rfl) rfl ad xs.length cap (bc xs) rfl (Hr.out.alloc _) (bc_one xs) (le_maxLen (by omega)) (by omega) ?_)
    intro v' w' hO' hK' hN
    have HO' := hid hO'
    have HK' := hid hK'
    have HN := hid hN
    clear hO' hK' hN
    go_wp2_with fail
    go_ret
    refine ⟨_, rfl, ?_, ((Keep.refl _).alloc _).trans HK'.out, ?_⟩
    · have := HO'.out
      simpa [Bytes] using this
    · exact HO'.out.row_nilS HN.out
end Go.Proofs.Ytajlikakbihgbaa
/- WHAT IS NEW BESIDE WHAT WAS: chunks that were made behind a world, together with what was owned in it. No program in sight. -/
namespace Go.Own
open Go.RowKit
section
variable {W W' : World} {p : HP} {M : List HP} {n : Nat}
/-- What is owned beside all that was is owned beside what was owned. -/
theorem Has.over (h : Has W' [p, old W]) (hM : Has W M) : Has W' (p :: M) := by
  obtain ⟨_, hw, a, b, d, rfl, hp, hb⟩ := h
  rw [star_one] at hb
  obtain ⟨c, hc, hs⟩ := hM
  have hbk : ∀ k o, c k = some o → b k = some o := fun k o e => by rw [show b = _ from hb]; exact hc k o e
  refine ⟨Frag.join a c, fun k o e => ?_, a, c, fun k => ?_, rfl, hp, hs⟩
  · unfold Frag.join at e
    rcases d k with e' | e'
    · rw [e'] at e
      exact hw k o (by simp [Frag.join, e', hbk k o (by simpa using e)])
    · cases e2 : a k with
      | some x => rw [e2] at e; exact hw k o (by simp [Frag.join, e2]; simpa using e)
      | none =>
        rw [e2] at e
        have := hbk k o (by simpa using e)
        rw [e'] at this; cases this
  · rcases d k with e | e
    · exact .inl e
    · cases e2 : c k with
      | none => exact .inr rfl
      | some x => have := hbk k x e2; rw [e] at this; cases this
/-- p lies in cells at n or beyond. -/
def Fresh (n : Nat) (W : World) (p : HP) : Prop := ∃ h : Frag, (∀ k o, h k = some o → W.heap[k]? = some o ∧ o.isCells = true ∧ n ≤ k) ∧ p h
theorem Fresh.own (h : Fresh n W' p) (hM : Has W M) (hn : W.heap.size ≤ n) (hb : Below W.heap.size W W') : Has W' (p :: M) := by
  obtain ⟨a, ha, hp⟩ := h
  obtain ⟨c, hc, hs⟩ := hM
  have hlt : ∀ k o, c k = some o → k < W.heap.size := fun k o e => (Array.getElem?_eq_some_iff.1 (hc k o e)).1
  refine ⟨Frag.join a c, fun k o e => ?_, a, c, fun k => ?_, rfl, hp, hs⟩
  · unfold Frag.join at e
    cases e2 : a k with
    | some x => rw [e2] at e; have := (ha k x e2).1; rw [this]; simpa using e
    | none =>
      rw [e2] at e
      have e : c k = some o := by simpa using e
      rw [hb.block k (hlt k o e)]; exact hc k o e
  · cases e : a k with
    | none => exact .inl rfl
    | some x =>
      cases e2 : c k with
      | none => exact .inr rfl
      | some y => have := (ha k x e).2.2; have := hlt k y e2; omega
theorem ownFrom_fresh {β : Type} (B n : Nat) (p : β → HP) : OwnFrom B (fun s W => Fresh n W (p s)) := by
  intro s A C row hs hg hr
  obtain ⟨h, hh, hp⟩ := hs
  refine ⟨h, fun k o e => ?_, hp⟩
  obtain ⟨h1, h2, h3⟩ := hh k o e
  refine ⟨(hg.block k (Array.getElem?_eq_some_iff.1 h1).1 (fun e' => ?_)).trans h1, h2, h3⟩
  obtain ⟨_, o', ho', hc'⟩ := hr k e'.symm
  rw [h1] at ho'; cases ho'; rw [h2] at hc'; cases hc'
theorem Fresh.frame (h : Fresh n W p) (hk : ∀ k, n ≤ k → k < W.heap.size → W'.heap[k]? = W.heap[k]?) : Fresh n W' p := by
  obtain ⟨a, ha, hp⟩ := h
  refine ⟨a, fun k o e => ?_, hp⟩
  obtain ⟨h1, h2, h3⟩ := ha k o e
  exact ⟨(hk k h3 (Array.getElem?_eq_some_iff.1 h1).1).trans h1, h2, h3⟩
theorem row_isCells {e : TypeId} {v : Value} {size m : Nat} {xs : List Value} {a : Frag} (h : row v e size m xs a) : ∀ k o, a k = some o → o.isCells = true := by
  obtain ⟨-, ⟨-, -, h⟩ | ⟨g, cap, cur, -, -, -, -, -, h⟩⟩ := h
  · intro k o e; rw [show a = _ from h] at e; cases e
  · intro k o e
    rw [show a = _ from h] at e
    by_cases hk : k = g
    · simp [hk] at e; subst e; rfl
    · simp [hk] at e
/-- A row beside all that was. -/
theorem Has.fresh_row {e : TypeId} {v : Value} {size m : Nat} {xs : List Value} (h : Has W' [row v e size m xs, old W]) (hn : n ≤ W.heap.size) : Fresh n W' (row v e size m xs) := by
  obtain ⟨_, hw, a, b, d, rfl, hp, hb⟩ := h
  refine ⟨a, fun k o e => ?_, hp⟩
  have h1 := hw k o (by simp [Frag.join, e])
  rw [star_one] at hb
  have hb' : b k = W.heap[k]? := by rw [show b = _ from hb]
  have hk : W.heap.size ≤ k := by
    rcases d k with e' | e'
    · rw [e'] at e; cases e
    · rw [hb'] at e'
      exact Array.getElem?_eq_none_iff.1 e'
  exact ⟨h1, row_isCells hp k o e, Nat.le_trans hn hk⟩
end
end Go.Own
