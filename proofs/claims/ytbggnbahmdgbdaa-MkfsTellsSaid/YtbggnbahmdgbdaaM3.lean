/- TEXTS of mine, merged. -/
import Derived.Test.YtbggnbahmdgbdaaRows
import Derived.Test.YtbggnbahmdgbdaaM1
import Derived.Test.YtbggnbahmdgbdaaM2
import Derived.WalkLawsBesides
import Derived.Deep.QuietTactic
import Derived.BigQuiet
import Derived.StillTailTactics
import Derived.Deep.DeepCutAuto
import Derived.Deep.CutBlock
import Derived.Laws.CopyOwn
import Derived.Laws.IdiomCopy
import Derived.Lib.AppendStr
import Derived.WalkMore
/- What every text of walks of this seat imports. -/
namespace Go.Proofs.Ytbggnbahmdgbdaa
open Go.RowKit Go.Own
theorem infoInt : (Try.prog.info? 3).map (fun i => (i.zero, i.size, i.bytes)) = some (some (.int .i64 0), 1, 8) := by kernel_rfl
def Ints (v : Value) (xs : List Int) : HP := row v 3 1 xs.length (ic xs)
theorem Ints.rd {v : Value} {xs : List Int} {w : World} {L : List HP} (h : Has w (Ints v xs :: L)) : Rd w v 1 xs.length (ic xs) := Has.rd h
theorem infoU8 : (Try.prog.info? 5).map (fun i => (i.zero, i.size, i.bytes)) = some (some (.int .u8 0), 1, 1) := by kernel_rfl
def Bytes (v : Value) (xs : List Int) : HP := row v 5 1 xs.length (bc xs)
theorem Bytes.rd {v : Value} {xs : List Int} {w : World} {L : List HP} (h : Has w (Bytes v xs :: L)) : Rd w v 1 xs.length (bc xs) := Has.rd h
/-- A number below n. -/
def low (x n : Int) : Int := IntKind.u64.wrap x % n
theorem low_in (x n : Int) (hn : 1 ≤ n) : 0 ≤ low x n ∧ low x n < n := ⟨Int.emod_nonneg _ (by omega), Int.emod_lt_of_pos _ (by omega)⟩
theorem u64_nonneg (x : Int) : 0 ≤ IntKind.u64.wrap x := by simp [IntKind.wrap, IntKind.bits, IntKind.signed]; omega
theorem low_eq (x n : Int) (hn : 1 ≤ n) (hn' : n ≤ 9223372036854775807) : wrap64 ((IntKind.u64.wrap x).tmod n) = low x n := by
  have h := low_in x n hn
  have h0 := u64_nonneg x
  rw [Int.tmod_eq_emod_of_nonneg h0]
  exact IntWalk.wrap64_in _ (by unfold low at h; omega)
end Go.Proofs.Ytbggnbahmdgbdaa
/- 'copy' into a row that is owned, elements of one cell. No program in sight. -/
namespace Go.Own
open Go.RowKit
section
variable {w : World} {l : List HP} {e : TypeId} {n cap g off m : Nat} {xs ys : List Value}
theorem Has.copyRun {P : Program} (hO : Has w (row (.slice (some ⟨g, 0, none⟩) n cap) e 1 n xs :: l)) (dT sT ty : TypeId) (hu : P.underlying dT = some (.slice e)) (hsz : (P.info? e).map (·.size) = some 1)
    (dn dc c : Nat) (sp : Option Addr) (hr : Rd w (.slice sp m c) 1 m ys) (h1 : ∀ u ∈ ys, u.oneCell' = true) (hfit : off + min m dn ≤ n) :
    ∃ w', (Builtin.copy_ #[dT, sT] ty #[.slice (some ⟨g, off, none⟩) dn dc, .slice sp m c]).run P w = .ok (goInt ((min m dn : Nat) : Int)) w' ∧ Has w' (row (.slice (some ⟨g, 0, none⟩) n cap) e 1 n (xs.take off ++ ys.take (min m dn) ++ xs.drop (off + min m dn)) :: l) ∧ Keep w w' := by
  obtain ⟨hxl, h | ⟨g', cap', cur, e1, h2, h3, h4, h5, hp⟩⟩ := hO.row_cases
  · exact absurd h.1 (by simp)
  simp only [Value.slice.injEq, Option.some.injEq, Addr.mk.injEq] at e1
  obtain ⟨⟨rfl, -, -⟩, -, rfl⟩ := e1
  obtain ⟨hyl, -, p, cap2, e2, -, hcs⟩ := hr
  cases e2
  rw [Nat.mul_one] at hyl h4 h5 hxl
  by_cases hz : min m dn = 0
  · refine ⟨w, ?_, ?_, Keep.refl w⟩
    · have := run_copy_none (P := P) w dT sT ty e (some ⟨g, off, none⟩) sp dn dc m c hu hsz hz
      rw [hz]; exact this
    · rw [hz]; simpa using hO
  · obtain ⟨g2, o2, rfl, hc2⟩ := hcs (by omega)
    have hl : (ys.take (min m dn)).length = Nat.min m dn := by rw [List.length_take, hyl]; show min (min m dn) m = min m dn; omega
    have hr := run_copy_row (P := P) w dT sT ty e g off dn dc ⟨g2, o2, none⟩ m c cur e (ys.take (min m dn)) hu hsz hp.lookup hl (by
      intro j v hj
      have hjl : j < (ys.take (min m dn)).length := (List.getElem?_eq_some_iff.1 hj).1
      rw [hl] at hjl
      have hjm : j < min m dn := hjl
      rw [List.getElem?_take, if_pos hjm] at hj
      rw [add_plain, hc2 j (by omega), hj]) (by rw [hl]; show off + min m dn ≤ _; omega) (fun v hv => h1 v (List.mem_of_mem_take hv))
    refine ⟨w.setRow g (cur.toList.take off ++ ys.take (min m dn) ++ cur.toList.drop (off + min m dn)).toArray, by rw [hr, hl], ?_, ⟨rfl, rfl, rfl, by simp [World.setRow]⟩⟩
    refine (hp.turn (fun k _ hk => setRow_other w g k _ hk) (setRow_heap w g cur _ e _ hp.lookup)).row_of h2 h3 ?_ ?_ ?_
    · simp only [List.size_toArray, List.length_append, List.length_take, List.length_drop, Array.length_toList]; omega
    · rw [Nat.mul_one]
      show (cur.toList.take off ++ ys.take (min m dn) ++ cur.toList.drop (off + min m dn)).take n = _
      have hcl : n ≤ cur.toList.length := by simp; omega
      have hA : (cur.toList.take off ++ ys.take (min m dn)).length = off + min m dn := by
        simp only [List.length_append, List.length_take]
        omega
      rw [List.take_append, List.take_of_length_le (by rw [hA]; exact hfit), hA, ← h5, List.take_take, Nat.min_eq_left (show off ≤ n by omega), List.drop_take]
    · simp only [List.length_append, List.length_take, List.length_drop]; omega
theorem wp_copy {P : Program} {o : Oper} {a : Act} {K : Act → World → Prop} {Q : Exit → Act → World → Prop} (d s : Operand) (dT sT : TypeId)
    (ho : o.op = .call { callee := .builtin .copy, args := #[d, s], argTypes := #[dT, sT] }) (hu : P.underlying dT = some (.slice e)) (hsz : (P.info? e).map (·.size) = some 1)
    (hO : Has w (row (.slice (some ⟨g, 0, none⟩) n cap) e 1 n xs :: l)) (dn dc c : Nat) (sp : Option Addr) (hd : a.eval d = .slice (some ⟨g, off, none⟩) dn dc) (hs : a.eval s = .slice sp m c)
    (hr : Rd w (.slice sp m c) 1 m ys) (h1 : ∀ u ∈ ys, u.oneCell' = true) (hfit : off + min m dn ≤ n)
    (h : ∀ w', Has w' (row (.slice (some ⟨g, 0, none⟩) n cap) e 1 n (xs.take off ++ ys.take (min m dn) ++ xs.drop (off + min m dn)) :: l) → Keep w w' → K (a.put o.dst (goInt ((min m dn : Nat) : Int))) w') : o.wp P a w K Q := by
  obtain ⟨w', hrun, h2, h3⟩ := hO.copyRun (P := P) dT sT o.type hu hsz dn dc c sp hr h1 hfit
  unfold Oper.wp execOp
  simp only [ho, resolve, invoke, builtin, Sem.run_bind, Sem.run_pure, Result.andThen_ok, List.map_toArray, List.map_cons, List.map_nil, hd, hs, hrun]
  exact h w' h2 h3
theorem wpList_copy {P : Program} {ops : Array Oper} {rest : List Oper} {o : Oper} {a : Act} {Q : Exit → Act → World → Prop} (hgd : o.guard = none) (d s : Operand) (dT sT : TypeId)
    (ho : o.op = .call { callee := .builtin .copy, args := #[d, s], argTypes := #[dT, sT] }) (hu : P.underlying dT = some (.slice e)) (hsz : (P.info? e).map (·.size) = some 1)
    (hO : Has w (row (.slice (some ⟨g, 0, none⟩) n cap) e 1 n xs :: l)) (dn dc c : Nat) (sp : Option Addr) (hd : a.eval d = .slice (some ⟨g, off, none⟩) dn dc) (hs : a.eval s = .slice sp m c)
    (hr : Rd w (.slice sp m c) 1 m ys) (h1 : ∀ u ∈ ys, u.oneCell' = true) (hfit : off + min m dn ≤ n)
    (h : ∀ w', Has w' (row (.slice (some ⟨g, 0, none⟩) n cap) e 1 n (xs.take off ++ ys.take (min m dn) ++ xs.drop (off + min m dn)) :: l) → Keep w w' → wpList P ops Q rest (a.put o.dst (goInt ((min m dn : Nat) : Int))) w') : wpList P ops Q (o :: rest) a w :=
  wpList_plain hgd fun _ hK => wp_copy d s dT sT ho hu hsz hO dn dc c sp hd hs hr h1 hfit fun w' h2 h3 => hK _ _ (h w' h2 h3)
end
end Go.Own
/- 'append(s, x...)' of whatever reads as a row, nil let in. No program in sight. -/
namespace Go.Own
open Go.RowKit
section
variable {w : World} {l : List HP} {v : Value} {e : TypeId} {size n : Nat} {xs : List Value}
theorem Has.appendNone {P : Program} (hO : Has w (row v e size n xs :: l)) (t ty : TypeId) (ht : P.underlying t = some (.slice e)) (i : TypeInfo) (hi : P.info? e = some i) (c : Nat) :
    (Builtin.append_ #[t, t] ty #[v, .slice none 0 c]).run P w = .ok v w := by
  obtain ⟨-, ⟨rfl, -⟩ | ⟨g, cap, cur, rfl, hnc, -⟩⟩ := hO.row_cases
  · simp [Builtin.append_, run_underlying ht, sizeOf, typeInfo, hi, Builtin.lenOf, Builtin.firstCells]
  · simp [Builtin.append_, run_underlying ht, sizeOf, typeInfo, hi, Builtin.lenOf, Builtin.firstCells, hnc, storeCells]
theorem Has.appendAny {P : Program} (hO : Has w (row v e size n xs :: l)) (t ty : TypeId) {z : Value} {bytes : Nat} (ht : P.underlying t = some (.slice e)) (hi : (P.info? e).map (fun i => (i.zero, i.size, i.bytes)) = some (some z, size, bytes)) (hzs : z.cells.size = size) (hsz : 0 < size)
    (x : Value) (m : Nat) (ys : List Value) (hr : Rd w x size m ys) (h1 : ∀ u ∈ ys, u.oneCell' = true) (h63 : n + m ≤ maxLen) (hbytes : (n + m) * bytes ≤ 140737488355328) :
    ∃ v' w', (Builtin.append_ #[t, t] ty #[v, x]).run P w = .ok v' w' ∧ Has w' (row v' e size (n + m) (xs ++ ys) :: l) ∧ Keep w w' ∧ (v = .slice none 0 0 → m = 0 → v' = .slice none 0 0) := by
  obtain ⟨i, hi, hz, hs, hby⟩ := info_parts hi
  obtain ⟨hyl, hm, p, cap, rfl, -, hc⟩ := hr
  rcases p with _ | ad
  · have hm0 : m = 0 := by
      rcases Nat.eq_zero_or_pos m with h | h
      · exact h
      · obtain ⟨g, o, e, -⟩ := hc (Nat.mul_pos h hsz)
        cases e
    subst hm0
    have hy : ys = [] := List.eq_nil_of_length_eq_zero (by simpa using hyl)
    subst hy
    exact ⟨v, w, hO.appendNone t ty ht i hi cap, by simpa using hO, Keep.refl w, fun h _ => h⟩
  · obtain ⟨v', w', h2, h3, h4, h5⟩ := hO.append (P := P) t ty i z bytes ht hi hz hs hby hzs ad m cap ys hyl (by
      intro j y hj
      have hjl : j < m * size := by rw [← hyl]; exact (List.getElem?_eq_some_iff.1 hj).1
      obtain ⟨g, o, e2, hc2⟩ := hc (by omega)
      cases e2
      rw [add_plain, hc2 j hjl, hj]) h1 h63 hbytes
    exact ⟨v', w', h2, h3, h4, fun a b => h5.2 ⟨a, b⟩⟩
theorem wp_appendA {P : Program} {o : Oper} {a : Act} {K : Act → World → Prop} {Q : Exit → Act → World → Prop} (s x : Operand) (t : TypeId)
    (ho : o.op = .call { callee := .builtin .append, args := #[s, x], argTypes := #[t, t] })
    {z : Value} {bytes : Nat} (ht : P.underlying t = some (.slice e)) (hi : (P.info? e).map (fun i => (i.zero, i.size, i.bytes)) = some (some z, size, bytes)) (hzs : z.cells.size = size) (hsz : 0 < size)
    (hO : Has w (row v e size n xs :: l)) (hs : a.eval s = v) (xv : Value) (m : Nat) (ys : List Value) (hx : a.eval x = xv) (hr : Rd w xv size m ys) (h1 : ∀ u ∈ ys, u.oneCell' = true) (h63 : n + m ≤ maxLen) (hbytes : (n + m) * bytes ≤ 140737488355328)
    (h : ∀ v' w', Has w' (row v' e size (n + m) (xs ++ ys) :: l) → Keep w w' → K (a.put o.dst v') w') : o.wp P a w K Q := by
  obtain ⟨v', w', hrun, h2, h3, -⟩ := hO.appendAny (P := P) t o.type ht hi hzs hsz xv m ys hr h1 h63 hbytes
  unfold Oper.wp execOp
  simp only [ho, resolve, invoke, builtin, Sem.run_bind, Sem.run_pure, Result.andThen_ok, List.map_toArray, List.map_cons, List.map_nil, hs, hx, hrun]
  exact h v' w' h2 h3
theorem wpList_appendA {P : Program} {ops : Array Oper} {rest : List Oper} {o : Oper} {a : Act} {Q : Exit → Act → World → Prop} (hgd : o.guard = none) (s x : Operand) (t : TypeId)
    (ho : o.op = .call { callee := .builtin .append, args := #[s, x], argTypes := #[t, t] })
    {z : Value} {bytes : Nat} (ht : P.underlying t = some (.slice e)) (hi : (P.info? e).map (fun i => (i.zero, i.size, i.bytes)) = some (some z, size, bytes)) (hzs : z.cells.size = size) (hsz : 0 < size)
    (hO : Has w (row v e size n xs :: l)) (hs : a.eval s = v) (xv : Value) (m : Nat) (ys : List Value) (hx : a.eval x = xv) (hr : Rd w xv size m ys) (h1 : ∀ u ∈ ys, u.oneCell' = true) (h63 : n + m ≤ maxLen) (hbytes : (n + m) * bytes ≤ 140737488355328)
    (h : ∀ v' w', Has w' (row v' e size (n + m) (xs ++ ys) :: l) → Keep w w' → wpList P ops Q rest (a.put o.dst v') w') : wpList P ops Q (o :: rest) a w :=
  wpList_plain hgd fun _ hK => wp_appendA s x t ho ht hi hzs hsz hO hs xv m ys hx hr h1 h63 hbytes fun v' w' h2 h3 => hK _ _ (h v' w' h2 h3)
/-- .. where a guard says yes. -/
theorem wpList_appendG {P : Program} {ops : Array Oper} {rest : List Oper} {o : Oper} {a : Act} {Q : Exit → Act → World → Prop} (hw : Region.wanted o (yielded ops a.tmps) = true) (s x : Operand) (t : TypeId)
    (ho : o.op = .call { callee := .builtin .append, args := #[s, x], argTypes := #[t, t] })
    {z : Value} {bytes : Nat} (ht : P.underlying t = some (.slice e)) (hi : (P.info? e).map (fun i => (i.zero, i.size, i.bytes)) = some (some z, size, bytes)) (hzs : z.cells.size = size) (hsz : 0 < size)
    (hO : Has w (row v e size n xs :: l)) (hs : a.eval s = v) (xv : Value) (m : Nat) (ys : List Value) (hx : a.eval x = xv) (hr : Rd w xv size m ys) (h1 : ∀ u ∈ ys, u.oneCell' = true) (h63 : n + m ≤ maxLen) (hbytes : (n + m) * bytes ≤ 140737488355328)
    (h : ∀ v' w', Has w' (row v' e size (n + m) (xs ++ ys) :: l) → Keep w w' → wpList P ops Q rest (a.put o.dst v') w') : wpList P ops Q (o :: rest) a w :=
  wpList_step fun K hK => by
    rw [if_pos hw]
    exact wp_appendA s x t ho ht hi hzs hsz hO hs xv m ys hx hr h1 h63 hbytes fun v' w' h2 h3 => hK _ _ (h v' w' h2 h3)
end
end Go.Own
/- THE WALKS of seal's Sum and Seal. -/
namespace Go.Sl
open Go
def sum1 (r x : Int) : Int := bits BinOp.xor IntKind.u32 r (x % 4294967296) * 16777619 % 4294967296
def sumF (n : Int) : Int := bits BinOp.xor IntKind.u32 (bits BinOp.xor IntKind.u32 n (n / 32768) * 2246822507 % 4294967296) (bits BinOp.xor IntKind.u32 n (n / 32768) * 2246822507 % 4294967296 / 8192)
def sumL (xs : List Int) : Int := sumF (xs.foldl sum1 2166136261)
def zs (n : Nat) : List Int := List.replicate n 0
def sealB (k : Int) (b : List Int) : List Int := [k] ++ b ++ zs (123 - b.length)
def sumB (s : Int) : List Int := [s / 16777216 % 256, s / 65536 % 256, s / 256 % 256, s % 256]
def sealL (k : Int) (b : List Int) : List Int := sealB k b ++ sumB (sumL (sealB k b))
theorem sealB_len {k : Int} {b : List Int} (h : b.length ≤ 123) : (sealB k b).length = 124 := by simp [sealB, zs]; omega
theorem sealL_len {k : Int} {b : List Int} (h : b.length ≤ 123) : (sealL k b).length = 128 := by rw [sealL, List.length_append, sealB_len h]; rfl
end Go.Sl
namespace Go.Proofs.Ytbggnbahmdgbdaa
open Go.RowKit Go.Own Go.Sl
theorem fold_snoc (xs : List Int) (k : Nat) (h : k < xs.length) : (xs.take (k + 1)).foldl sum1 2166136261 = sum1 ((xs.take k).foldl sum1 2166136261) xs[k] := by
  rw [List.take_succ_eq_append_getElem h, List.foldl_append]; rfl
set_option maxRecDepth 100000 in
set_option maxHeartbeats 4000000 in
theorem sSum (v : Value) (xs : List Int) (w : World) (hr : Rd w v 1 xs.length (bc xs)) (hl : xs.length ≤ 1000000) :
    Calls Try.prog 70 #[v] w fun e w' => e = .returned (.int .u32 (sumL xs)) ∧ w = w' := by
  obtain ⟨p, c, rfl, -, -, hcs⟩ := hr.form
  have HC := hid hcs
  clear hcs hr
  go_enter Try.func70, Try.ntmps70
  go_wp2_with fail
  go_loopw [3, 8] (fun s i w' => ∃ k : Nat, ∃ n : Int, k ≤ xs.length ∧ i = .int .i64 k ∧ s = .int .u32 n ∧ Hid ((xs.take k).foldl sum1 2166136261 = n) ∧ w = w') (fun _ i _ => xs.length - (intOf i).toNat)
  case atStart => exact ⟨0, _, by omega, rfl, rfl, hid rfl, rfl⟩
  case round =>
    obtain ⟨k, n, hk, rfl, rfl, HN, rfl⟩ := hrel
    by_cases hlt : k < xs.length
    · have hki : (k : Int) < (xs.length : Int) := by omega
      obtain ⟨g, o, rfl, hc⟩ := HC.out (by omega)
      have hx := hc k (by omega)
      rw [bc, List.getElem?_map, List.getElem?_eq_getElem hlt, Option.map_some] at hx
      have HS := hid (fold_snoc xs k hlt)
      clear hc
      generalize xs[k] = x at *
      go_wp2_with fail
      exact ⟨⟨k + 1, _, by omega, rfl, rfl, hid (by rw [HS.out, HN.out]; rfl), by trivial⟩, by simp [intOf]; omega⟩
    · have hki : ¬ (k : Int) < (xs.length : Int) := by omega
      have e : xs.foldl sum1 2166136261 = n := by have := HN.out; rwa [List.take_of_length_le (by omega)] at this
      have HE := hid (show sumL xs = sumF n by rw [sumL, e])
      clear e HN
      go_wp2_with fail
      go_ret
      exact ⟨by rw [HE.out]; rfl, rfl⟩
def zerosS : Array Value := (List.replicate 128 (Value.int .u8 0)).toArray
set_option maxRecDepth 100000 in
theorem make124 (w : World) : (Instr.makeSlice 35 (.int .i64 124) (.int .i64 128)).run Try.prog w = .ok (.slice (some ⟨w.heap.size, 0, none⟩) 124 128) (w.alloc (.cells zerosS 5)) := by
  obtain ⟨i, hi, hz, hsz, hby⟩ := info_parts infoU8
  have hr := run_make (P := Try.prog) w 35 5 i (.int .u8 0) Try.underlying35 hi hz .i64 .i64 124 128 (by omega) (by omega) (by rw [hby]; omega) (by omega)
  rw [hr]
  congr 3
  apply Array.toList_inj.1
  rw [hsz, Nat.mul_one]
  exact toList_madeCells_one _ _
theorem made124 {w : World} {L : List HP} (h : Has w L) : Has (w.alloc (.cells zerosS 5)) (row (.slice (some ⟨w.heap.size, 0, none⟩) 124 128) 5 1 124 (bc (zs 124)) :: L) :=
  (h.alloc _).row_of (by omega) (le_maxLen (by omega)) rfl rfl rfl
theorem bytesLit {w : World} {L : List HP} {b : Nat} {C : Array Value} (xs : List Int) (h : Has w (pt b (.cells C 5) :: L)) (hc : C = (bc xs).toArray) (hl : xs.length ≤ 1000000000) : Has w (Bytes (.slice (some ⟨b, 0, none⟩) xs.length xs.length) xs :: L) :=
  h.row_of (Nat.le_refl _) (le_maxLen (by omega)) (by subst hc; simp [bc]) (by subst hc; rw [Nat.mul_one]; show (bc xs).take xs.length = bc xs; exact List.take_of_length_le (by rw [bc_len]; exact Nat.le_refl _)) (by simp [bc])
theorem seal_laid (k : Int) (b : List Int) (h : b.length ≤ 123) : ((bc (zs 124)).set 0 (.int .u8 k)).take 1 ++ ((bc b).take b.length ++ ((bc (zs 124)).set 0 (.int .u8 k)).drop (1 + b.length)) = bc (sealB k b) := by
  rw [← List.append_assoc, List.take_of_length_le (l := bc b) (by rw [bc_len]; exact Nat.le_refl _)]
  have e : (bc (zs 124)).set 0 (.int .u8 k) = bc (k :: zs 123) := rfl
  rw [e]
  simp only [bc, sealB, List.map_append, List.map_cons, List.map_nil, List.take_succ_cons, List.take_zero]
  congr 1
  rw [Nat.add_comm 1, List.drop_succ_cons]
  simp only [zs, List.map_replicate, List.drop_replicate]
set_option maxRecDepth 100000 in
set_option maxHeartbeats 4000000 in
theorem sSeal (k : Int) (v : Value) (b : List Int) (w : World) (L : List HP) (hk : k ≠ 0) (hl : b.length ≤ 123) (hr : ∀ w', Has w' L → Rd w' v 1 b.length (bc b)) (hO : Has w L) :
    Calls Try.prog 57 #[.int .u8 k, v] w fun e w' => ∃ v', e = .returned (.tuple #[v', .int .i64 0]) ∧ Has w' (Bytes v' (sealL k b) :: L) ∧ Keep w w' := by
  obtain ⟨p, c, rfl, -⟩ := (hr w hO).form
  have hmk := make124 w
  have HP := hid (made124 hO)
  have HR := hid hr
  have HK := hid ((Keep.refl w).alloc (.cells zerosS 5))
  have hk0 : (k == 0) = false := by simpa using hk
  have hli : ¬ (123 : Int) < (b.length : Int) := by omega
  clear hr hk
  have ht := HP.out.row_cells.2.2.1
  have hc : (w.alloc (.cells zerosS 5)).cell? ⟨w.heap.size, 0, none⟩ = some (.int .u8 0) := HP.out.row_cells.2.1 0 (by omega)
  have HS := hid (show Has (w.alloc (.cells (zerosS.setIfInBounds 0 (.int .u8 k)) 5)) (row (.slice (some ⟨w.heap.size, 0, none⟩) 124 128) 5 1 124 ((bc (zs 124)).set 0 (.int .u8 k)) :: L) from (hO.alloc _).row_of (by omega) (le_maxLen (by omega)) rfl rfl rfl)
  have HKS := hid ((Keep.refl w).alloc (.cells (zerosS.setIfInBounds 0 (.int .u8 k)) 5))
  clear hO
  go_enter Try.func57, Try.ntmps57
  go_upto_region 5 with fail
  clear hc ht hmk HP HK
  generalize w.alloc (.cells (zerosS.setIfInBounds 0 (.int .u8 k)) 5) = w1 at *
  generalize w.heap.size = g at *
  go_wp2_with (with_reducible refine wpList_copy rfl _ _ _ _ rfl Try.underlying35 (by kernel_rfl) HS.out 123 127 c p rfl rfl (HR.out w1 HS.out.drop) (bc_one _) (by omega) ?_)
  intro w2 h2 hk2
  rw [seal_laid k b hl] at h2
  have HO2 := hid h2
  have HK2 := hid (HKS.out.trans hk2)
  clear h2 hk2 HS HKS
  have hln := sealB_len (k := k) hl
  have HLN := hid hln
  clear hln
  generalize hsb : sealB k b = sb at *
  have HSB := hid hsb
  clear hsb
  have HO2' := hid (show Has w2 (Bytes (.slice (some ⟨g, 0, none⟩) 124 128) sb :: L) from by unfold Bytes; rw [HLN.out]; exact HO2.out)
  go_wp2_with fail
  refine (sSum _ sb w2 (Bytes.rd HO2'.out) (by rw [HLN.out]; omega)).mono ?_
  rintro e w' ⟨rfl, rfl⟩
  try dsimp only
  have HO3 := hid (show Has (w2.alloc (.cells #[.int .u8 (sumL sb / 16777216 % 256), .int .u8 (sumL sb / 65536 % 256), .int .u8 (sumL sb / 256 % 256), .int .u8 (sumL sb % 256)] 5)) (pt w2.heap.size (.cells (bc (sumB (sumL sb))).toArray 5) :: row (.slice (some ⟨g, 0, none⟩) 124 128) 5 1 124 (bc sb) :: L) from HO2.out.alloc _)
  have HK3 := hid (HK2.out.alloc (.cells #[.int .u8 (sumL sb / 16777216 % 256), .int .u8 (sumL sb / 65536 % 256), .int .u8 (sumL sb / 256 % 256), .int .u8 (sumL sb % 256)] 5))
  have HRD := hid (Bytes.rd (bytesLit (sumB (sumL sb)) HO3.out rfl (by show 4 ≤ 1000000000; omega)))
  go_wp2_with (at_builtin; refine wpList_appendA rfl _ _ _ rfl Try.underlying35 infoU8 rfl (by decide) HO3.out.p1 rfl _ 4 (bc (sumB (sumL sb))) rfl HRD.out (bc_one _) (le_maxLen (by omega)) (by omega) ?_)
  intro v4 w4 h4 hk4
  have HO4 := hid h4
  have HK4 := hid (HK3.out.trans hk4)
  clear h4 hk4 HO3 HK3 HRD HO2 HK2 HO2'
  go_wp2_with fail
  go_ret2
  refine ⟨v4, rfl, ?_, HK4.out⟩
  have h := HO4.out.p1.drop
  unfold Bytes
  rw [sealL_len hl, sealL, HSB.out]
  simpa [bc] using h
end Go.Proofs.Ytbggnbahmdgbdaa
/- append(v, make([]T, n)...), the elements of one cell. No program in sight. -/
namespace Go.Own
open Go.RowKit
section
variable {w : World} {l : List HP} {e : TypeId} {n m : Nat} {xs : List Value} {v : Value}
theorem zcells (z : Value) (hz : z.cells = #[z]) (m : Nat) : Builtin.zeroCells z.cells m = (List.replicate m z).toArray := by
  rw [hz]
  unfold Builtin.zeroCells
  apply Array.ext
  · simp
  · intro i h1 h2
    simp [Nat.mod_one]
theorem Has.appendZ {P : Program} (hO : Has w (row v e 1 n xs :: l)) (t it ty : TypeId) {z : Value} {bytes : Nat} (ht : P.underlying t = some (.slice e)) (hit : P.underlying it = some (.int .i64)) (hi : (P.info? e).map (fun i => (i.zero, i.size, i.bytes)) = some (some z, 1, bytes)) (hz : z.cells = #[z]) (h1 : z.oneCell' = true)
    (h63 : n + m ≤ maxLen) (hbytes : (n + m) * bytes ≤ 140737488355328) :
    ∃ v' w', (Builtin.append_ #[t, it] ty #[v, .int .i64 (m : Int)]).run P w = .ok v' w' ∧ Has w' (row v' e 1 (n + m) (xs ++ List.replicate m z) :: l) ∧ Keep w w' := by
  obtain ⟨i, hi', hzz, hs, hby⟩ := info_parts hi
  subst hby
  have hsmall : n + m ≤ 9223372036854775807 := by simp only [maxLen] at h63; omega
  have hw : IntKind.i64.wrap (m : Int) = (m : Int) := by
    simp [IntKind.wrap, IntKind.bits, IntKind.signed]; omega
  have hneg : ¬ ((m : Int) < 0) := by omega
  have hmb : m * i.bytes ≤ (n + m) * i.bytes := Nat.mul_le_mul_right _ (by omega)
  have h48 : ¬ (281474976710656 < (m : Int) * (i.bytes : Int)) := by
    have : (m : Int) * (i.bytes : Int) = ((m * i.bytes : Nat) : Int) := by simp
    rw [this]; omega
  have hlen : (xs ++ List.replicate m z).length = (n + m) * 1 := by
    have := hO.row_cases.1
    rw [List.length_append, List.length_replicate, this]; omega
  obtain ⟨hxl, hc⟩ := hO.row_cases
  rcases hc with ⟨rfl, rfl, rfl, hO'⟩ | ⟨g, cap, cur, rfl, hnc, hcm, hcs, htake, hp⟩
  · by_cases hm : m = 0
    · subst hm
      refine ⟨.slice none 0 0, w, ?_, by simpa using hO'.row_nil e 1, Keep.refl w⟩
      have hw0 : IntKind.i64.wrap 0 = 0 := by decide
      simp [Builtin.append_, run_underlying ht, run_underlying hit, sizeOf, typeInfo, hi', asInt, asIntOf, hw0]
    · have hg := grownCap_ge w m 0 e
      have hgm : grownCap w m 0 e ≤ maxLen := grownCap_le_maxLen w m 0 e (by omega)
      have h63' : ¬ (9223372036854775807 < (m : Int)) := by omega
      have h48' : ¬ (281474976710656 < Builtin.nextslicecap m 0 * i.bytes) := by rw [nextslicecap_zero (by omega)]; omega
      refine ⟨.slice (some ⟨w.heap.size, 0, none⟩) m (grownCap w m 0 e), w.drew.alloc (.cells ((List.replicate m z).toArray ++ Builtin.zeroCells z.cells (grownCap w m 0 e - m)) e), ?_, ?_, (Keep.refl w).drew.alloc _⟩
      · simp [Builtin.append_, run_underlying ht, run_underlying hit, sizeOf, typeInfo, zeroValue, hi', hzz, asInt, asIntOf, hw, hneg, h48, hm, h63', h48', hs, Question.forced, run_firstCells_none, newRow, grownCap, zcells z hz]
        done
      · have h := (hO'.drew.alloc (.cells ((List.replicate m z).toArray ++ Builtin.zeroCells z.cells (grownCap w m 0 e - m)) e)).row_of (n := m) (size := 1) (xs := List.replicate m z) hg hgm (by simp [zcells z hz]; omega) (by simp [zcells z hz]) (by simp)
        simpa using h
  · by_cases hroom : n + m ≤ cap
    · have hfit : n + (List.replicate m z).length ≤ cur.size := by rw [List.length_replicate, hcs]; omega
      have hst := run_storeCells_at P g n e (List.replicate m z) 0 cur w hp.lookup (by simpa using hfit) (fun u hu => by rw [List.eq_of_mem_replicate hu]; exact h1)
      simp only [Nat.add_zero] at hst
      refine ⟨.slice (some ⟨g, 0, none⟩) (n + m) cap, w.setRow g (cur.toList.take n ++ List.replicate m z ++ cur.toList.drop (n + (List.replicate m z).length)).toArray, ?_, ?_, ⟨rfl, rfl, rfl, by simp⟩⟩
      · by_cases hm : m = 0
        · subst hm
          have hw0 : IntKind.i64.wrap 0 = 0 := by decide
          simp only [List.replicate_zero] at hst
          simp [Builtin.append_, run_underlying ht, run_underlying hit, sizeOf, typeInfo, hi', asInt, asIntOf, hw0, hnc, hs, Addr.add_lit, hst]
          done
        · simp [Builtin.append_, run_underlying ht, run_underlying hit, sizeOf, typeInfo, zeroValue, hi', hzz, asInt, asIntOf, hw, hneg, h48, hm, hroom, hs, zcells z hz, Addr.add_lit, hst]
          done
      · refine (hp.turn (fun k _ hk => setRow_other w g k _ hk) (setRow_heap w g cur _ e _ hp.lookup)).row_of hroom hcm ?_ ?_ hlen
        · simp only [List.size_toArray, List.length_append, List.length_take, List.length_drop, Array.length_toList, List.length_replicate]
          omega
        · rw [← hlen]
          have hx : cur.toList.take n = xs := by rw [← htake, Nat.mul_one]
          rw [hx]
          exact List.take_left
    · have hg := grownCap_ge w (n + m) cap e
      have hgm : grownCap w (n + m) cap e ≤ maxLen := grownCap_le_maxLen w (n + m) cap e h63
      have h63' : ¬ (9223372036854775807 < ((n : Int) + (m : Int))) := by omega
      have h48' : ¬ (281474976710656 < Builtin.nextslicecap (n + m) cap * i.bytes) := by have := growslice_fits (show cap < n + m by omega) hbytes; omega
      have holds : ∀ j u, xs[j]? = some u → w.drew.cell? ((⟨g, 0, none⟩ : Addr).add j) = some u := hO.row_own.cells (g := g) rfl
      have hfo := run_firstCells_some (P := P) w.drew i.size n ⟨g, 0, none⟩ n cap xs (by rw [hs]; simpa using hxl) holds
      rw [hs] at hfo
      refine ⟨.slice (some ⟨w.heap.size, 0, none⟩) (n + m) (grownCap w (n + m) cap e), w.drew.alloc (.cells (xs.toArray ++ (List.replicate m z).toArray ++ Builtin.zeroCells z.cells (grownCap w (n + m) cap e - (n + m))) e), ?_, ?_, (Keep.refl w).drew.alloc _⟩
      · by_cases hm : m = 0
        · omega
        · simp [Builtin.append_, run_underlying ht, run_underlying hit, sizeOf, typeInfo, zeroValue, hi', hzz, asInt, asIntOf, hw, hneg, h48, hm, h63', h48', hroom, hs, Question.forced, hfo, newRow, grownCap, zcells z hz]
          done
      · have h := (hO.drop.drew.alloc (.cells (xs.toArray ++ (List.replicate m z).toArray ++ Builtin.zeroCells z.cells (grownCap w (n + m) cap e - (n + m))) e)).row_of (n := n + m) (size := 1) (xs := xs ++ List.replicate m z) hg hgm (by simp [zcells z hz]; omega) (by
          rw [Nat.mul_one]
          simp only [Array.toList_append, List.toList_toArray]
          exact List.take_left' (by rw [hlen, Nat.mul_one])) (by rw [hlen])
        exact h
theorem wpList_appendZ {P : Program} {ops : Array Oper} {rest : List Oper} {o : Oper} {a : Act} {Q : Exit → Act → World → Prop} (hgd : o.guard = none) (s x : Operand) (t it : TypeId)
    (ho : o.op = .call { callee := .builtin .append, args := #[s, x], argTypes := #[t, it] })
    {z : Value} {bytes : Nat} (ht : P.underlying t = some (.slice e)) (hit : P.underlying it = some (.int .i64)) (hi : (P.info? e).map (fun i => (i.zero, i.size, i.bytes)) = some (some z, 1, bytes)) (hz : z.cells = #[z]) (h1 : z.oneCell' = true)
    (hO : Has w (row v e 1 n xs :: l)) (hs : a.eval s = v) (m : Nat) (hx : a.eval x = .int .i64 (m : Int)) (h63 : n + m ≤ maxLen) (hbytes : (n + m) * bytes ≤ 140737488355328)
    (h : ∀ v' w', Has w' (row v' e 1 (n + m) (xs ++ List.replicate m z) :: l) → Keep w w' → wpList P ops Q rest (a.put o.dst v') w') : wpList P ops Q (o :: rest) a w := by
  refine wpList_plain hgd fun K hK => ?_
  obtain ⟨v', w', hrun, h2, h3⟩ := hO.appendZ (P := P) t it o.type ht hit hi hz h1 h63 hbytes
  unfold Oper.wp execOp
  simp only [ho, resolve, invoke, builtin, Sem.run_bind, Sem.run_pure, Result.andThen_ok, List.map_toArray, List.map_cons, List.map_nil, hs, hx, hrun]
  exact hK _ _ (h v' w' h2 h3)
/-- A string's bytes behind a row that is not nil. -/
theorem Has.appendStr {P : Program} {g cap : Nat} (hO : Has w (row (.slice (some ⟨g, 0, none⟩) n cap) e 1 n xs :: l)) (t u ty : TypeId) {z : Value} {bytes : Nat} (ht : P.underlying t = some (.slice e)) (hu : P.underlying u = some .string) (hi : (P.info? e).map (fun i => (i.zero, i.size, i.bytes)) = some (some z, 1, bytes)) (hz : z.cells = #[z]) (s : ByteArray)
    (h63 : n + s.size ≤ maxLen) (hbytes : (n + s.size) * bytes ≤ 140737488355328) :
    ∃ v' w', (Builtin.append_ #[t, u] ty #[.slice (some ⟨g, 0, none⟩) n cap, .string s]).run P w = .ok v' w' ∧ Has w' (row v' e 1 (n + s.size) (xs ++ Lib.strCells s) :: l) ∧ Keep w w' := by
  obtain ⟨i, hi', hzz, hs, hby⟩ := info_parts hi
  subst hby
  have hsmall : n + s.size ≤ 9223372036854775807 := by simp only [maxLen] at h63; omega
  have hlen : (xs ++ Lib.strCells s).length = (n + s.size) * 1 := by
    have := hO.row_cases.1
    rw [List.length_append, Lib.strCells_length, this]; omega
  obtain ⟨hxl, hc⟩ := hO.row_cases
  rcases hc with ⟨h, -⟩ | ⟨g', cap', cur, e1, hnc, hcm, hcs, htake, hp⟩
  · cases h
  · simp only [Value.slice.injEq, Option.some.injEq, Addr.mk.injEq] at e1
    obtain ⟨⟨rfl, -, -⟩, -, rfl⟩ := e1
    by_cases hroom : n + s.size ≤ cap
    · have hr := Lib.run_append_room_string (P := P) w t u ty e i ht hu hi' hs g n cap cur hp.lookup s hroom (by rw [hcs]; omega)
      refine ⟨_, _, hr, (hp.turn (fun k _ hk => setRow_other w g k _ hk) (setRow_heap w g cur _ e _ hp.lookup)).row_of hroom hcm ?_ ?_ hlen, ⟨rfl, rfl, rfl, by simp⟩⟩
      · simp only [List.size_toArray, List.length_append, List.length_take, List.length_drop, Array.length_toList, Lib.strCells_length]
        omega
      · rw [← hlen]
        have hx : cur.toList.take n = xs := by rw [← htake, Nat.mul_one]
        rw [hx]
        exact List.take_left
    · have hg := grownCap_ge w (n + s.size) cap e
      have hgm : grownCap w (n + s.size) cap e ≤ maxLen := grownCap_le_maxLen w (n + s.size) cap e h63
      have holds : ∀ j u, xs[j]? = some u → w.cell? ((⟨g, 0, none⟩ : Addr).add j) = some u := hO.row_own.cells (g := g) rfl
      have hr := Lib.run_append_grow_string (P := P) w t u ty e i z ht hu hi' hzz ⟨g, 0, none⟩ n cap xs (by rw [hs]; exact hxl) holds s (by omega) (by omega) (growslice_fits (by omega) hbytes)
      refine ⟨_, _, hr, (hO.drop.drew.alloc _).row_of hg hgm ?_ ?_ hlen, (Keep.refl w).drew.alloc _⟩
      · simp [zcells z hz, Lib.strCells_length]; omega
      · rw [Nat.mul_one]
        simp only [Array.toList_append, List.toList_toArray]
        exact List.take_left' (by rw [hlen, Nat.mul_one])
theorem wpList_appendStr {P : Program} {ops : Array Oper} {rest : List Oper} {o : Oper} {a : Act} {Q : Exit → Act → World → Prop} (hgd : o.guard = none) (sv x : Operand) (t u : TypeId)
    (ho : o.op = .call { callee := .builtin .append, args := #[sv, x], argTypes := #[t, u] })
    {g cap : Nat} {z : Value} {bytes : Nat} (ht : P.underlying t = some (.slice e)) (hu : P.underlying u = some .string) (hi : (P.info? e).map (fun i => (i.zero, i.size, i.bytes)) = some (some z, 1, bytes)) (hz : z.cells = #[z])
    (hO : Has w (row (.slice (some ⟨g, 0, none⟩) n cap) e 1 n xs :: l)) (hs : a.eval sv = .slice (some ⟨g, 0, none⟩) n cap) (s : ByteArray) (hx : a.eval x = .string s) (h63 : n + s.size ≤ maxLen) (hbytes : (n + s.size) * bytes ≤ 140737488355328)
    (h : ∀ v' w', Has w' (row v' e 1 (n + s.size) (xs ++ Lib.strCells s) :: l) → Keep w w' → wpList P ops Q rest (a.put o.dst v') w') : wpList P ops Q (o :: rest) a w := by
  refine wpList_plain hgd fun K hK => ?_
  obtain ⟨v', w', hrun, h2, h3⟩ := hO.appendStr (P := P) t u o.type ht hu hi hz s h63 hbytes
  unfold Oper.wp execOp
  simp only [ho, resolve, invoke, builtin, Sem.run_bind, Sem.run_pure, Result.andThen_ok, List.map_toArray, List.map_cons, List.map_nil, hs, hx, hrun]
  exact hK _ _ (h v' w' h2 h3)
end
end Go.Own
/- A POOL OF BYTES that nobody writes any more: many slices, each with its own block, owned together. No program in sight. -/
namespace Go.Own
open Go.RowKit
/-- Each pair of the list: a slice value and its bytes. -/
def poolc (u8 : TypeId) (B : List (Value × List Int)) : HP := star (B.map fun x => row x.1 u8 1 x.2.length (bc x.2))
section
variable {w : World} {l : List HP} {u8 : TypeId} {B : List (Value × List Int)}
theorem Has.pool_open {x : Value × List Int} (h : Has w (poolc u8 B :: l)) (hx : x ∈ B) : ∃ m, Has w (row x.1 u8 1 x.2.length (bc x.2) :: m) := by
  obtain ⟨s, t, rfl⟩ := List.append_of_mem hx
  have h1 := Has.star_iff.1 h
  rw [List.map_append, List.map_cons, List.append_assoc, List.cons_append] at h1
  exact ⟨_, h1.perm List.perm_middle⟩
theorem Has.pool_rd {x : Value × List Int} (h : Has w (poolc u8 B :: l)) (hx : x ∈ B) : Rd w x.1 1 x.2.length (bc x.2) := by
  obtain ⟨m, hm⟩ := h.pool_open hx
  exact hm.rd
theorem Has.pool_nil (h : Has w l) : Has w (poolc u8 [] :: l) := Has.star_iff.2 h
theorem Has.pool_add {v : Value} {xs : List Int} (h : Has w (row v u8 1 xs.length (bc xs) :: poolc u8 B :: l)) : Has w (poolc u8 ((v, xs) :: B) :: l) := by
  refine Has.star_iff.2 ?_
  rw [List.map_cons, List.cons_append]
  have := h.p1
  have h2 := Has.star_iff.1 this
  exact h2.perm List.perm_middle
theorem Has.pool_snoc {v : Value} {xs : List Int} (h : Has w (row v u8 1 xs.length (bc xs) :: poolc u8 B :: l)) : Has w (poolc u8 (B ++ [(v, xs)]) :: l) := by
  refine Has.star_iff.2 ?_
  have h2 := Has.star_iff.1 h.p1
  rw [List.map_append, List.append_assoc]
  exact h2
theorem set_perm {α : Type _} : ∀ (F : List α) (k : Nat) (hk : k < F.length) (y : α), (F.set k y).Perm (y :: F.eraseIdx k)
  | _ :: _, 0, _, _ => .refl _
  | a :: F, k + 1, hk, y => ((set_perm F k (by simpa using hk) y).cons a).trans (.swap _ _ _)
theorem Has.poolPerm {B' : List (Value × List Int)} (h : Has w (poolc u8 B :: l)) (hp : B.Perm B') : Has w (poolc u8 B' :: l) := by
  refine Has.star_iff.2 ((Has.star_iff.1 h).perm ?_)
  exact (hp.map _).append_right l
/-- One text is taken out. -/
theorem Has.pool_out (h : Has w (poolc u8 B :: l)) (k : Nat) (hk : k < B.length) : Has w (row B[k].1 u8 1 B[k].2.length (bc B[k].2) :: poolc u8 (B.eraseIdx k) :: l) := by
  have := h.poolPerm (perm_pull B k hk)
  have h2 := Has.star_iff.1 this
  exact (Has.star_iff.2 (show Has w (((B.eraseIdx k).map fun x => row x.1 u8 1 x.2.length (bc x.2)) ++ (row B[k].1 u8 1 B[k].2.length (bc B[k].2) :: l)) from h2.perm List.perm_middle.symm)).p1
/-- Another comes in its place. -/
theorem Has.pool_in {k : Nat} {v : Value} {xs : List Int} (hk : k < B.length) (h : Has w (row v u8 1 xs.length (bc xs) :: poolc u8 (B.eraseIdx k) :: l)) : Has w (poolc u8 (B.set k (v, xs)) :: l) :=
  h.pool_add.poolPerm (set_perm B k hk (v, xs)).symm
end
end Go.Own
/- CHUNKS SELECTED AND ORDERED by a list of their places. No program in sight. -/
namespace Go.Own
def pickE : List Nat → List HP → List HP
  | [], _ => []
  | i :: is, l => l[i]?.getD emp :: pickE is (l.set i emp)
theorem Has.out1 {w : World} {l m : List HP} (i : Nat) (h : Has w (l ++ m)) : Has w (l[i]?.getD emp :: (l.set i emp ++ m)) := by
  by_cases hi : i < l.length
  · rw [List.getElem?_eq_getElem hi, Option.getD_some]
    have h1 : Has w (l[i] :: (l.eraseIdx i ++ m)) := h.perm ((perm_pull l i hi).append_right m)
    have h2 : Has w (emp :: l[i] :: (l.eraseIdx i ++ m)) := Has.emp_iff.2 h1
    exact h2.p1.perm (((set_perm l i hi emp).symm.append_right m).cons _)
  · rw [List.getElem?_eq_none (by omega), Option.getD_none, List.set_eq_of_length_le (by omega)]
    exact Has.emp_iff.2 h
theorem Has.dropAll {w : World} {m : List HP} : ∀ (l : List HP), Has w (l ++ m) → Has w m
  | [], h => h
  | _ :: l, h => Has.dropAll l h.drop
theorem Has.reIn {w : World} {m : List HP} : ∀ (is : List Nat) (acc l : List HP), Has w (acc ++ (l ++ m)) → Has w (acc ++ (pickE is l ++ m))
  | [], acc, l, h => by
    unfold pickE
    rw [List.nil_append]
    have : Has w (l ++ (acc ++ m)) := h.perm (List.perm_append_comm_assoc _ _ _)
    exact this.dropAll
  | i :: is, acc, l, h => by
    unfold pickE
    have h1 : Has w (l ++ (acc ++ m)) := h.perm (List.perm_append_comm_assoc _ _ _)
    have h2 := h1.out1 i
    have h3 : Has w ((acc ++ [l[i]?.getD emp]) ++ (l.set i emp ++ m)) := by
      rw [List.append_assoc, List.singleton_append]
      exact h2.perm (((List.perm_append_comm_assoc _ _ _).cons _).trans List.perm_middle.symm)
    have h4 := Has.reIn is _ _ h3
    rw [List.append_assoc, List.singleton_append] at h4
    exact h4
/-- Of the first n chunks those at the places 'is', in that order; the rest of the first n are let go. -/
theorem Has.re {w : World} {l : List HP} (n : Nat) (is : List Nat) (h : Has w l) : Has w (pickE is (l.take n) ++ l.drop n) :=
  Has.reIn is [] _ (by rw [List.nil_append, List.take_append_drop]; exact h)
example {w : World} {a b c d : HP} {L : List HP} (h : Has w (a :: b :: c :: d :: L)) : Has w (c :: a :: d :: L) := h.re 3 [2, 0]
end Go.Own
/- THE WALKS of slices.Grow of nothing, of slices.Concat of two lists of numbers. -/
namespace Go.Proofs.Ytbggnbahmdgbdaa
open Go.RowKit Go.Own
/-- A row cut to nothing, its room kept. -/
theorem _root_.Go.Own.Has.toFront {w : World} {L : List HP} {v : Value} {e : TypeId} {n : Nat} {xs : List Value} (h : Has w (row v e 1 n xs :: L)) (hn : 0 < n) : ∃ g c, v = .slice (some ⟨g, 0, none⟩) n c ∧ n ≤ c ∧ Has w (row (.slice (some ⟨g, 0, none⟩) 0 c) e 1 0 [] :: L) := by
  obtain ⟨hxl, hc⟩ := h.row_cases
  rcases hc with ⟨-, e0, -⟩ | ⟨g, cap, cur, rfl, hnc, hcm, hcs, htake, hp⟩
  · omega
  · exact ⟨g, cap, rfl, hnc, hp.row_of (Nat.zero_le _) hcm hcs (by simp) rfl⟩
set_option maxRecDepth 100000 in
set_option maxHeartbeats 4000000 in
theorem growNil (n : Nat) (w : World) (L : List HP) (hO : Has w L) (hn : n ≤ 1000000) (h0 : 0 < n) : Calls Try.prog 80 #[.slice none 0 0, .int .i64 n] w fun e w' => ∃ v', e = .returned v' ∧ Has w' (row v' 3 1 0 [] :: L) ∧ Keep w w' := by
  have HO := hid hO
  clear hO
  go_enter Try.func80, Try.ntmps80
  go_wp2_with (at_builtin; refine wpList_appendZ rfl _ _ _ _ rfl Try.underlying30 Try.underlying3 infoInt rfl rfl (HO.out.row_nil 3 1) rfl n rfl (le_maxLen (by omega)) (by omega) ?_)
  intro v2 w2 h2 hk2
  obtain ⟨g, c, rfl, hcm, h3⟩ := h2.toFront h0
  have HO2 := hid h3
  have HK2 := hid hk2
  clear h2 h3 hk2 HO
  have hc0 : (0 : Int) ≤ (c : Int) := by omega
  go_wp2_with fail
  go_ret
  exact ⟨_, rfl, HO2.out, HK2.out⟩
set_option maxRecDepth 100000 in
set_option maxHeartbeats 4000000 in
theorem concat2 (g0 : Nat) (v1 v2 : Value) (xs ys : List Int) (w : World) (L : List HP) (hO : Has w (pt g0 (.cells #[v1, v2] 30) :: L)) (h1 : ∀ w', Has w' L → Rd w' v1 1 xs.length (ic xs)) (h2 : ∀ w', Has w' L → Rd w' v2 1 ys.length (ic ys)) (h0 : 0 < xs.length + ys.length) (hm : xs.length + ys.length ≤ 1000) :
    Calls Try.prog 72 #[.slice (some ⟨g0, 0, none⟩) 2 2] w fun e w' => ∃ v', e = .returned v' ∧ Has w' (Ints v' (xs ++ ys) :: pt g0 (.cells #[v1, v2] 30) :: L) ∧ Keep w w' := by
  obtain ⟨p1, c1, rfl, -⟩ := (h1 w hO.drop).form
  obtain ⟨p2, c2, rfl, -⟩ := (h2 w hO.drop).form
  have HO := hid hO
  have H1 := hid h1
  have H2 := hid h2
  have hc0 := hO.cells 0
  have hc1 := hO.cells 1
  clear hO h1 h2
  go_enter Try.func72, Try.ntmps72
  have e1 : (xs.length : Int) ≤ 1000 := by omega
  have e2 : (ys.length : Int) ≤ 1000 := by omega
  have HG := hid (show Calls Try.prog 80 #[.slice none 0 0, .int .i64 ((xs.length : Int) + (ys.length : Int))] w fun e w' => ∃ v', e = .returned v' ∧ Has w' (row v' 3 1 0 [] :: pt g0 (.cells #[.slice p1 xs.length c1, .slice p2 ys.length c2] 30) :: L) ∧ Keep w w' from growNil (xs.length + ys.length) w _ HO.out (by omega) h0)
  have HM := hid hm
  have H0 := hid h0
  clear hm h0
  go_wp2_with fail
  go_loopw [3, 11] (fun s i w' => ((i = .int .i64 0 ∧ s = .int .i64 0) ∨ (i = .int .i64 1 ∧ s = .int .i64 (xs.length : Int)) ∨ (i = .int .i64 2 ∧ s = .int .i64 ((xs.length : Int) + (ys.length : Int)))) ∧ w = w') (fun _ i _ => 2 - (intOf i).toNat)
  case atStart => exact ⟨.inl ⟨rfl, rfl⟩, rfl⟩
  case round =>
    obtain ⟨⟨rfl, rfl⟩ | ⟨rfl, rfl⟩ | ⟨rfl, rfl⟩, rfl⟩ := hrel
    · go_wp2_with fail
      exact ⟨⟨.inr (.inl ⟨rfl, by go_num⟩), by trivial⟩, by simp [intOf]⟩
    · go_wp2_with fail
      exact ⟨⟨.inr (.inr ⟨rfl, by go_num⟩), by trivial⟩, by simp [intOf]⟩
    · go_wp2_with fail
      refine (HG.out).mono ?_
      rintro e w3 ⟨v3, rfl, hO3, hK3⟩
      have HO3 := hid hO3
      have HK3 := hid ((Keep.refl w).trans hK3)
      clear hO3 hK3
      try dsimp only
      clear hc0 hc1
      go_wp2_with fail
      go_loopw [6, 27] (fun s i w' => ((i = .int .i64 0 ∧ Hid (Has w' (Ints s [] :: pt g0 (.cells #[.slice p1 xs.length c1, .slice p2 ys.length c2] 30) :: L))) ∨ (i = .int .i64 1 ∧ Hid (Has w' (Ints s xs :: pt g0 (.cells #[.slice p1 xs.length c1, .slice p2 ys.length c2] 30) :: L))) ∨ (i = .int .i64 2 ∧ Hid (Has w' (Ints s (xs ++ ys) :: pt g0 (.cells #[.slice p1 xs.length c1, .slice p2 ys.length c2] 30) :: L)))) ∧ Hid (Keep w w')) (fun _ i _ => 2 - (intOf i).toNat)
      case atStart => exact ⟨.inl ⟨rfl, HO3⟩, HK3⟩
      case round =>
        clear HO3 HK3
        obtain ⟨⟨rfl, HA⟩ | ⟨rfl, HA⟩ | ⟨rfl, HA⟩, HB⟩ := hrel
        · have hc0 := HA.out.p1.cells 0
          go_wp2_with (at_builtin; refine wpList_appendA rfl _ _ _ rfl Try.underlying30 infoInt rfl (by decide) HA.out rfl _ xs.length (ic xs) rfl (H1.out _ HA.out.drop.drop) (ic_one _) (le_maxLen (by have := HM.out; simp; omega)) (by have := HM.out; simp; omega) ?_)
          intro v5 w5 h5 hk5
          have HO5 := hid (show Has w5 (Ints v5 xs :: pt g0 (.cells #[.slice p1 xs.length c1, .slice p2 ys.length c2] 30) :: L) from by simpa [Ints, ic] using h5)
          have HK5 := hid (HB.out.trans hk5)
          clear h5 hk5 HA HB
          go_wp2_with fail
          exact ⟨⟨.inr (.inl ⟨rfl, HO5⟩), HK5⟩, by simp [intOf]⟩
        · have hc1 := HA.out.p1.cells 1
          go_wp2_with (at_builtin; refine wpList_appendA rfl _ _ _ rfl Try.underlying30 infoInt rfl (by decide) HA.out rfl _ ys.length (ic ys) rfl (H2.out _ HA.out.drop.drop) (ic_one _) (le_maxLen (by have := HM.out; omega)) (by have := HM.out; omega) ?_)
          intro v5 w5 h5 hk5
          have HO5 := hid (show Has w5 (Ints v5 (xs ++ ys) :: pt g0 (.cells #[.slice p1 xs.length c1, .slice p2 ys.length c2] 30) :: L) from by
            unfold Ints
            rw [List.length_append, show ic (xs ++ ys) = ic xs ++ ic ys by simp [ic]]
            exact h5)
          have HK5 := hid (HB.out.trans hk5)
          clear h5 hk5 HA HB
          go_wp2_with fail
          exact ⟨⟨.inr (.inr ⟨rfl, HO5⟩), HK5⟩, by simp [intOf]⟩
        · go_wp2_with fail
          go_ret
          exact ⟨_, rfl, HA.out, HB.out⟩
end Go.Proofs.Ytbggnbahmdgbdaa
