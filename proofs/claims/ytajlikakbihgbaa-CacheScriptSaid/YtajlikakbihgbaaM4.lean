/- TEXTS of mine, merged. -/
import Derived.Test.YtajlikakbihgbaaM3
import Derived.RangeFuncBound
import Derived.RangeFuncCalls
import Derived.RangeFuncLeaves
import Derived.Shelf.Abstract
import Derived.Shelf.RegionOpen
import Derived.OwnWalkIn
import Derived.TacticsInMore
import Derived.LoopNIn
import Derived.LoopIn
import Derived.Deep.QuietTactic
/- THE WALK of slices.Backward at the waiting writes. -/
namespace Go.Proofs.Ytajlikakbihgbaa
open Go.RowKit Go.Own Go.Dk Go.Shelf
attribute [local go_sem] Oper.semAt_some
abbrev Wt := Int × Option Addr × Nat × Nat
def wtv (z : Nat → Wt) {len : Nat} (j : Fin len) : Array Value := #[.int .i64 ((j : Nat) : Int), .agg #[.int .i64 (z j).1, .slice (z j).2.1 (z j).2.2.1 (z j).2.2.2]]
def come (len k : Nat) : List (Fin len) := (List.finRange len).reverse.take k
theorem come_succ (len k : Nat) (m : Nat) (h : m < len) (hk : k + m + 1 = len) : come len (k + 1) = come len k ++ [⟨m, h⟩] := by
  unfold come
  rw [List.take_succ_eq_append_getElem (by simp; omega)]
  congr 2
  simp
  omega
theorem come_all (len : Nat) : come len len = (List.finRange len).reverse := by unfold come; rw [List.take_of_length_le (by simp)]
theorem come_length (len k : Nat) (h : k ≤ len) : (come len k).length = k := by simp [come, h]
set_option maxRecDepth 100000 in
set_option maxHeartbeats 2000000 in
theorem back1_in (F : Fence) (n : Nat) (hf : F.fn 61) (hro : F.round = none) (hn : 1 ≤ n) (l Bs n₀ b off len cap : Nat) (z : Nat → Wt) (hreach : len ≤ 1000000000) (hb : b < n₀) (J Jx : List (Fin len) → World → Prop)
    (hY : ∀ pre x W, J pre W → pre.length < len → YieldAt F (n - 1) Try.prog l (wtv z x) W fun e W' =>
      (e = .returned (.bool true) ∧ J (pre ++ [x]) W' ∧ Below n₀ W W') ∨ (e = .returned (.bool false) ∧ Jx (pre ++ [x]) W'))
    (W : World) (hBs : W.cell? ⟨Bs, 0, none⟩ = some (.slice (some ⟨b, off, none⟩) len cap)) (hBl : Bs < n₀) (hc : ∀ j, j < len → W.cell? ⟨b, off + j * 2, none⟩ = some (.int .i64 (z j).1) ∧ W.cell? ⟨b, off + j * 2 + 1, none⟩ = some (.slice (z j).2.1 (z j).2.2.1 (z j).2.2.2)) (h0 : J [] W) :
    CallsIn F n Try.prog 61 #[.func (.yield l) #[] #[], .pointer (some ⟨Bs, 0, none⟩)] W fun e W' => (∃ v, e = .returned v) ∧
      ((∃ ys, ys = come len len ∧ J ys W') ∨ (∃ pre, (∃ k, k ≤ len ∧ pre = come len k) ∧ Jx pre W')) := by
  refine callsIn_of_wp Try.func61 rfl hf ?_ hro
  simp only [Try.ntmps61, List.size_toArray, List.length_cons, List.length_nil, Nat.reduceAdd, Nat.reduceSub, Array.replicate_succ, Array.replicate_zero, List.push_toArray, List.append_toArray, List.nil_append, List.cons_append]
  gi_wp2
  gi_loopw [3] (fun i wr => ∃ m : Nat, m ≤ len ∧ i = .int .i64 ((m : Int) - 1) ∧ J (come len (len - m)) wr ∧ Below n₀ W wr)
    (fun i _ => (intOf i + 1).toNat)
  case atStart => exact ⟨len, Nat.le_refl _, rfl, by rw [Nat.sub_self]; exact h0, Below.refl _ _⟩
  case round =>
    obtain ⟨m, hm, rfl, hJs, hnx⟩ := hrel
    have hbx : wr.cell? ⟨Bs, 0, none⟩ = some (.slice (some ⟨b, off, none⟩) len cap) := (hnx.cell (p := ⟨Bs, 0, none⟩) hBl).trans hBs
    rcases m with _ | m
    · gi_wp2
      go_end0
      exact ⟨⟨_, rfl⟩, .inl ⟨_, rfl, hJs⟩⟩
    · have e1 : ((m + 1 : Nat) : Int) - 1 = (m : Int) := by omega
      have e3 : len - (m + 1) + 1 = len - m := by omega
      rw [e1]
      obtain ⟨hc1, hc2⟩ := hc m (by omega)
      have hcx := (hnx.cell (p := ⟨b, off + m * 2, none⟩) hb).trans hc1
      have hcy := (hnx.cell (p := ⟨b, off + m * 2 + 1, none⟩) hb).trans hc2
      have hmb : (m : Int) < len := by omega
      obtain ⟨fn, tmps, assign, body, hy, hR⟩ := hY _ ⟨m, by omega⟩ wr hJs (by rw [come_length _ _ (by omega)]; omega)
      have hcs := come_succ len (len - (m + 1)) m (by omega) (by omega)
      rw [e3] at hcs
      rw [← hcs] at hR
      have HCS := hid hcs
      clear hcs e1 e3 hc1 hc2
      simp only [wtv] at hy
      gi_wp2
      refine hR.mono ?_
      rintro e W3 (⟨rfl, hJ3, hk3⟩ | ⟨rfl, hJx3⟩)
      · gi_wp2
        go_roundw
        case rel => exact ⟨m, by omega, rfl, hJ3, hnx.trans hk3⟩
        case measure => simp [intOf]
      · gi_wp2
        refine bodyPost_ret (results_none rfl _ _ _) rfl ?_
        exact ⟨⟨_, rfl⟩, .inr ⟨_, ⟨len - m, by omega, rfl⟩, hJx3⟩⟩
set_option maxRecDepth 100000 in
set_option maxHeartbeats 1000000 in
theorem back1_nil_in (F : Fence) (n : Nat) (hf : F.fn 61) (hro : F.round = none) (l Bs : Nat) (J : List (Fin 0) → World → Prop) (W : World) (hBs : W.cell? ⟨Bs, 0, none⟩ = some (.slice none 0 0)) (h0 : J [] W) :
    CallsIn F n Try.prog 61 #[.func (.yield l) #[] #[], .pointer (some ⟨Bs, 0, none⟩)] W fun e W' => (∃ v, e = .returned v) ∧ J [] W' := by
  refine callsIn_of_wp Try.func61 rfl hf ?_ hro
  simp only [Try.ntmps61, List.size_toArray, List.length_cons, List.length_nil, Nat.reduceAdd, Nat.reduceSub, Array.replicate_succ, Array.replicate_zero, List.push_toArray, List.append_toArray, List.nil_append, List.cons_append]
  gi_wp2
  gi_loopw [3] (fun i wr => i = .int .i64 (-1) ∧ J [] wr) (fun _ _ => 0)
  case atStart => exact ⟨rfl, h0⟩
  case round =>
    obtain ⟨rfl, hJs⟩ := hrel
    gi_wp2
    go_end0
    exact ⟨⟨_, rfl⟩, hJs⟩
set_option maxHeartbeats 1000000 in
theorem back_any (a : Option Addr) (len cap : Nat) (w : World) :
    Calls Try.prog 40 #[.slice a len cap] w fun e w' => e = .returned (.func (.func 61) #[] #[.pointer (some ⟨w.heap.size, 0, none⟩)]) ∧ w' = w.alloc (.cells #[.slice a len cap] 64) := by
  go_enter Try.func40, Try.ntmps40
  go_wp2
  go_ret
  exact ⟨rfl, rfl⟩
theorem back_stops (F : Fence) (n : Nat) (hf : F.fn 61) (hro : F.round = none) (hn : 1 ≤ n) (Bs n₀ : Nat) (sv : Value) (len : Nat) (z : Nat → Wt) (hreach : len ≤ 1000000000) (w : World) (hBs : Bs < n₀) (hn₀ : n₀ ≤ w.heap.size)
    (hc : w.cell? ⟨Bs, 0, none⟩ = some sv) (hI : (sv = .slice none 0 0 ∧ len = 0) ∨ ∃ b off cap, sv = .slice (some ⟨b, off, none⟩) len cap ∧ b < n₀ ∧ ∀ j, j < len → w.cell? ⟨b, off + j * 2, none⟩ = some (.int .i64 (z j).1) ∧ w.cell? ⟨b, off + j * 2 + 1, none⟩ = some (.slice (z j).2.1 (z j).2.2.1 (z j).2.2.2)) :
    SeqStopsK F n Try.prog 61 #[.pointer (some ⟨Bs, 0, none⟩)] (wtv z (len := len)) (Below n₀) (fun ys => ys = come len len) (fun pre => ∃ k, k ≤ len ∧ pre = come len k) len w := fun l J Jx W hW _ _ hY h0 => by
  have hc' := (hW.cell (p := ⟨Bs, 0, none⟩) (Nat.lt_of_lt_of_le hBs hn₀)).trans hc
  rcases hI with ⟨rfl, rfl⟩ | ⟨b, off, cap, rfl, hb, hcs⟩
  · exact (back1_nil_in F n hf hro l Bs J W hc' h0).mono fun e W' ⟨he, hj⟩ => ⟨he, .inl ⟨_, rfl, hj⟩⟩
  · exact back1_in F n hf hro hn l Bs n₀ b off len cap z hreach hb J Jx hY W hc' hBs (fun j hj => ⟨(hW.cell (p := ⟨b, off + j * 2, none⟩) (Nat.lt_of_lt_of_le hb hn₀)).trans (hcs j hj).1, (hW.cell (p := ⟨b, off + j * 2 + 1, none⟩) (Nat.lt_of_lt_of_le hb hn₀)).trans (hcs j hj).2⟩) h0
end Go.Proofs.Ytajlikakbihgbaa
/- THE WALK of Read. -/
namespace Go.Proofs.Ytajlikakbihgbaa
open Go.RowKit Go.Own Go.Dk Go.Shelf
attribute [local go_sem] Oper.semAt_some
/-- What Read answers. -/
def _root_.Go.Dk.Disk.read (D : Disk) (at_ : Int) : Int × List Int := if D.asked (D.there at_) ≠ 0 then (D.asked (D.there at_), []) else (0, (D.last at_).2)
theorem thereNil (x : Int) (w : World) : Calls Try.prog 39 #[.pointer none, .int .i64 x] w fun e w' => e = .returned (.bool false) ∧ w = w' := by
  have H := hid (diskSectorsNil w)
  by_cases h0 : 0 ≤ x
  · have hf : ¬ x < 0 := by omega
    go_enter Try.func39, Try.ntmps39
    go_wp2_with fail
    refine H.out.mono ?_
    rintro e w' ⟨rfl, rfl⟩
    go_wp2_with fail
    go_ret
    exact ⟨by simp; omega, rfl⟩
  · go_enter Try.func39, Try.ntmps39
    go_wp2_with fail
    go_ret
    exact ⟨rfl, rfl⟩
set_option maxRecDepth 100000 in
set_option maxHeartbeats 2000000 in
theorem readNil (x : Int) (w : World) (L : List HP) (hO : Has w L) :
    Calls Try.prog 17 #[.pointer none, .int .i64 x] w fun e w' => e = .returned (.tuple #[.slice none 0 0, .int .i64 1]) ∧ Has w' L ∧ Keep w w' := by
  have HO := hid hO
  clear hO
  refine (callsIn_wide (n := 10)).1 ?_
  refine callsIn_of_wp_marks Try.func17 rfl trivial ?_ rfl
  refine wpIn_wide.2 ?_
  simp only [Try.ntmps17, List.size_toArray, List.length_cons, List.length_nil, Nat.reduceAdd, Nat.reduceSub, Array.replicate_succ, Array.replicate_zero, List.push_toArray, List.append_toArray, List.nil_append, List.cons_append]
  go_wp2_with fail
  refine (thereNil x _).mono ?_
  rintro e w' ⟨rfl, rfl⟩
  dsimp only
  go_wp2_with fail
  refine (diskAskedNil _ _).mono ?_
  rintro e w' ⟨rfl, rfl⟩
  dsimp only
  go_wp2_with fail
  refine ⟨.tuple #[.slice none 0 0, .int .i64 1], by simp [results, Try.results17, go_sem], rfl, ((HO.out.alloc' _).alloc' _).alloc' _, (((Keep.refl _).alloc _).alloc _).alloc _⟩
set_option maxRecDepth 100000 in
set_option maxHeartbeats 2000000 in
theorem readNot (d : Nat) (D : Disk) (x : Int) (w : World) (L : List HP) (hA : D.asked (D.there x) ≠ 0) (hO : Has w (Dsk d D :: L)) :
    Calls Try.prog 17 #[.pointer (some ⟨d, 0, none⟩), .int .i64 x] w fun e w' => e = .returned (.tuple #[.slice none 0 0, .int .i64 (D.asked (D.there x))]) ∧ Has w' (Dsk d D :: L) ∧ Keep w w' := by
  have H1 := hid (fun w' (h : Has w' (Dsk d D :: L)) => diskThere d D x w' L h)
  have H2 := hid (fun w' (h : Has w' (Dsk d D :: L)) => diskAsked d D (D.there x) w' L h)
  have HO := hid hO
  clear hO
  generalize D.asked (D.there x) = c at *
  generalize D.there x = th at *
  refine (callsIn_wide (n := 10)).1 ?_
  refine callsIn_of_wp_marks Try.func17 rfl trivial ?_ rfl
  refine wpIn_wide.2 ?_
  simp only [Try.ntmps17, List.size_toArray, List.length_cons, List.length_nil, Nat.reduceAdd, Nat.reduceSub, Array.replicate_succ, Array.replicate_zero, List.push_toArray, List.append_toArray, List.nil_append, List.cons_append]
  go_wp2_with fail
  refine (H1.out _ (((HO.out.alloc' _).alloc' _).alloc' _)).mono ?_
  rintro e w' ⟨rfl, rfl⟩
  dsimp only
  go_wp2_with fail
  refine (H2.out _ (((HO.out.alloc' _).alloc' _).alloc' _)).mono ?_
  rintro e w' ⟨rfl, rfl⟩
  dsimp only
  go_wp2_with fail
  refine ⟨.tuple #[.slice none 0 0, .int .i64 c], by simp [results, Try.results17, go_sem], rfl, ((HO.out.alloc' _).alloc' _).alloc' _, (((Keep.refl _).alloc _).alloc _).alloc _⟩
theorem fins {α : Type} (l : List α) : l.reverse = (List.finRange l.length).reverse.map fun j => l[j] := by
  rw [List.map_reverse]
  congr 1
  apply List.ext_getElem
  · simp
  · intro i h1 h2
    simp
theorem last_done (D : Disk) (x : Int) (h : ∀ j : Fin D.waits.length, D.waits[j].1 ≠ x) : D.last x = D.firm.getD x.toNat (.slice none 0 0, []) := by
  unfold Disk.last
  have : D.waits.reverse.find? (fun y => y.1 == x) = none := by
    rw [List.find?_eq_none]
    intro y hy
    rw [fins] at hy
    obtain ⟨j, -, rfl⟩ := List.mem_map.1 hy
    simpa using h j
  rw [this]
theorem last_stop (D : Disk) (x : Int) (ini : List (Fin D.waits.length)) (j : Fin D.waits.length) (k : Nat) (h : come D.waits.length k = ini ++ [j]) (h1 : ∀ i ∈ ini, D.waits[i].1 ≠ x) (h2 : D.waits[j].1 = x) : D.last x = D.waits[j].2 := by
  unfold Disk.last
  have : D.waits.reverse.find? (fun y => y.1 == x) = some D.waits[j] := by
    rw [fins, List.find?_map]
    have e : (List.finRange D.waits.length).reverse = ini ++ j :: (List.finRange D.waits.length).reverse.drop k := by
      have := List.take_append_drop k (List.finRange D.waits.length).reverse
      unfold come at h
      rw [h] at this
      exact this.symm.trans (by simp)
    rw [e, List.find?_append]
    have h3 : List.find? ((fun y : Int × Txt => y.1 == x) ∘ fun i : Fin D.waits.length => D.waits[i]) ini = none := by
      rw [List.find?_eq_none]
      intro i hi
      simpa using h1 i hi
    rw [h3]
    simp only [Option.none_or, List.find?_cons, Function.comp, h2, beq_self_eq_true, Option.map_some]
  rw [this]
def slp : Value → Option Addr × Nat × Nat
  | .slice p n c => (p, n, c)
  | _ => (none, 0, 0)
/-- The writes that wait, as they are handed to a round. -/
def zof (W : List (Int × Txt)) (j : Nat) : Wt := let x := W[j]?.getD (0, (.slice none 0 0, [])); (x.1, slp x.2.1)
/-- The bytes of the j-th write. -/
def txof (W : List (Int × Txt)) (j : Nat) : List Int := (W[j]?.getD (0, (.slice none 0 0, []))).2.2
theorem txof_eq (W : List (Int × Txt)) (j : Fin W.length) : txof W j = W[j].2.2 := by simp [txof]
theorem zof_eq (W : List (Int × Txt)) (j : Nat) (h : j < W.length) {p : Option Addr} {n c : Nat} (e : W[j].2.1 = .slice p n c) : zof W j = (W[j].1, p, n, c) := by
  simp [zof, h, e, slp]
def RdI {len : Nat} (z : Nat → Wt) (w4 : World) (x : Int) (pre : List (Fin len)) (W : World) : Prop :=
  (∀ p ∈ pre, (z p).1 ≠ x) ∧ Below w4.heap.size w4 W
def RdX {len : Nat} (z : Nat → Wt) (txt : Nat → List Int) (n : Nat) (w : World) (x : Int) (c : Code) (pre : List (Fin len)) (W : World) : Prop :=
  ∃ v, ((c = .ret ∧ ∃ (ini : List (Fin len)) (j : Fin len), pre = ini ++ [j] ∧ (∀ p ∈ ini, (z p).1 ≠ x) ∧ (z j).1 = x ∧ Fresh (n + 4) W (Bytes v (txt j))) ∧ Boxed W (n + 1) 33 v ∧ Boxed W (n + 2) 31 (.int .i64 0)) ∧ Below n w W
theorem rdI_from {len : Nat} (z : Nat → Wt) (w4 : World) (x : Int) : OwnFrom w4.heap.size (RdI (len := len) z w4 x) :=
  OwnFrom.and (ownFrom_pure _ _) (ownFrom_below (Nat.le_refl _) (Nat.le_refl _))
theorem rdX_from {len : Nat} (z : Nat → Wt) (txt : Nat → List Int) (n B : Nat) (w : World) (x : Int) (hn : n ≤ w.heap.size) (hB : n ≤ B) (c : Code) : OwnFrom B (RdX (len := len) z txt n w x c) := by
  rintro pre A C row ⟨v, ⟨⟨hc, ini, j, h1, h2, h3, h4⟩, h5, h6⟩, h7⟩ hg hr
  refine ⟨v, ⟨⟨hc, ini, j, h1, h2, h3, ownFrom_fresh B (n + 4) (fun (_ : Unit) => Bytes v (txt j)) () A C row h4 hg hr⟩, ?_, ?_⟩, ownFrom_below hn hB () A C row h7 hg hr⟩
  · exact boxed_own (n + 1) 33 (fun (_ : Unit) => v) () A C row h5 hg fun r e => (hr r e).2
  · exact boxed_own (n + 2) 31 (fun (_ : Unit) => Value.int .i64 0) () A C row h6 hg fun r e => (hr r e).2
set_option maxRecDepth 100000 in
set_option maxHeartbeats 4000000 in
theorem readGo (d : Nat) (D : Disk) (q : Nat) (w : World) (L : List HP) (hw : D.waits.length ≤ 1000000000) (hA : D.asked (D.there (q : Int)) = 0) (ht : D.there (q : Int) = true) (hO : Has w (Dsk d D :: L)) :
    Calls Try.prog 17 #[.pointer (some ⟨d, 0, none⟩), .int .i64 (q : Int)] w fun e w' => ∃ v, e = .returned (.tuple #[v, .int .i64 0]) ∧ Has w' (Bytes v (D.last (q : Int)).2 :: Dsk d D :: L) ∧ Keep w w' := by
  generalize hx : (q : Int) = x at *
  have HX := hid hx
  clear hx
  have H1 := hid (fun w' (h : Has w' (Dsk d D :: L)) => diskThere d D x w' L h)
  have H2 := hid (fun w' (h : Has w' (Dsk d D :: L)) => diskAsked d D true w' L h)
  rw [ht] at H1 hA
  rw [hA] at H2
  have HO := hid hO
  have HT := hid ht
  obtain ⟨fv, wv, av, lv, B, hok, hD⟩ := dsk_iff.1 hO
  obtain ⟨wp, wc, rfl, -⟩ := hD.p2.rd.form
  have hc : w.cell? ⟨d, 1, none⟩ = some (.slice wp D.waits.length wc) := hD.cells 1
  have hdl := hD.lt
  have HD := hid hD
  have HK := hid hok
  clear hO hok ht hA hD
  refine (callsIn_wide (n := 10)).1 ?_
  refine callsIn_of_wp_marks Try.func17 rfl trivial ?_ rfl
  refine wpIn_wide.2 ?_
  simp only [Try.ntmps17, List.size_toArray, List.length_cons, List.length_nil, Nat.reduceAdd, Nat.reduceSub, Array.replicate_succ, Array.replicate_zero, List.push_toArray, List.append_toArray, List.nil_append, List.cons_append]
  go_wp2_with fail
  refine (H1.out _ (((HO.out.alloc' _).alloc' _).alloc' _)).mono ?_
  rintro e w' ⟨rfl, rfl⟩
  dsimp only
  go_wp2_with fail
  refine (H2.out _ (((HO.out.alloc' _).alloc' _).alloc' _)).mono ?_
  rintro e w' ⟨rfl, rfl⟩
  dsimp only
  have hz : w.heap.size + 1 + 1 = w.heap.size + 2 := by omega
  rw [hz]
  have HB := hid (((Below.refl w.heap.size w).alloc (Nat.le_refl _) (.cells #[.int .i64 x] 3)).alloc (by simp) (.cells #[.slice none 0 0] 33) |>.alloc (by simp; omega) (.cells #[.int .i64 0] 31))
  have HK3 := hid ((((Keep.refl w).alloc (.cells #[.int .i64 x] 3)).alloc (.cells #[.slice none 0 0] 33)).alloc (.cells #[.int .i64 0] 31))
  have b3 := ((Boxed.new w 3 (.int .i64 x)).alloc (.cells #[.slice none 0 0] 33)).alloc (.cells #[.int .i64 0] 31)
  have b4 := (Boxed.new (w.alloc (.cells #[.int .i64 x] 3)) 33 (.slice none 0 0)).alloc (.cells #[.int .i64 0] 31)
  have b5 := Boxed.new ((w.alloc (.cells #[.int .i64 x] 3)).alloc (.cells #[.slice none 0 0] 33)) 31 (.int .i64 0)
  have hs3 : (((w.alloc (.cells #[.int .i64 x] 3)).alloc (.cells #[.slice none 0 0] 33)).alloc (.cells #[.int .i64 0] 31)).heap.size = w.heap.size + 3 := by simp
  have hc3 := (hc ▸ HB.out.cell (p := ⟨d, 1, none⟩) hdl : _ = some (Value.slice wp D.waits.length wc))
  simp only [World.size_alloc] at b4 b5
  generalize ((w.alloc (.cells #[.int .i64 x] 3)).alloc (.cells #[.slice none 0 0] 33)).alloc (.cells #[.int .i64 0] 31) = w3 at *
  rw [hz] at b5
  go_wp2_with fail
  refine (back_any _ _ _ _).mono ?_
  rintro e w' ⟨rfl, rfl⟩
  dsimp only
  go_wp2_with fail
  have b6 := Boxed.new w3 64 (.slice wp D.waits.length wc)
  have HB4 := hid (HB.out.alloc (by omega) (.cells #[.slice wp D.waits.length wc] 64))
  have HK4 := hid (HK3.out.alloc (.cells #[.slice wp D.waits.length wc] 64))
  have hs4 : (w3.alloc (.cells #[.slice wp D.waits.length wc] 64)).heap.size = w.heap.size + 4 := by simp [hs3]
  replace b3 := b3.alloc (.cells #[.slice wp D.waits.length wc] 64)
  replace b4 := b4.alloc (.cells #[.slice wp D.waits.length wc] 64)
  replace b5 := b5.alloc (.cells #[.slice wp D.waits.length wc] 64)
  rw [hs3] at b6 ⊢
  clear HB HK3 hc3 hs3
  generalize w3.alloc (.cells #[.slice wp D.waits.length wc] 64) = w4 at *
  have HI : Hid ((Value.slice wp D.waits.length wc = .slice none 0 0 ∧ D.waits.length = 0) ∨ ∃ b off cap, Value.slice wp D.waits.length wc = .slice (some ⟨b, off, none⟩) D.waits.length cap ∧ b < w4.heap.size ∧ ∀ j, j < D.waits.length → w4.cell? ⟨b, off + j * 2, none⟩ = some (.int .i64 (zof D.waits j).1) ∧ w4.cell? ⟨b, off + j * 2 + 1, none⟩ = some (.slice (zof D.waits j).2.1 (zof D.waits j).2.2.1 (zof D.waits j).2.2.2)) := by
    refine hid ?_
    have hR := HD.out.p2
    obtain ⟨-, h | ⟨g, cap, cur, e, -, -, -, -, h5⟩⟩ := hR.row_cases
    · exact .inl ⟨h.1, h.2.1⟩
    · right
      refine ⟨g, 0, cap, e, Nat.lt_of_lt_of_le h5.lt (by omega), fun j hj => ?_⟩
      obtain ⟨g', o, c', e', h1, h2⟩ := wcells hR j hj
      rw [e] at e'
      simp only [Value.slice.injEq, Option.some.injEq, Addr.mk.injEq] at e'
      obtain ⟨⟨rfl, rfl, -⟩, -, rfl⟩ := e'
      obtain ⟨p, n, c, hx⟩ := okSlices HK.out HD.out.p5 _ (List.getElem_mem hj)
      rw [zof_eq _ _ hj hx]
      exact ⟨(HB4.out.cell (p := ⟨g, 0 + j * 2, none⟩) h5.lt).trans h1, (HB4.out.cell (p := ⟨g, 0 + j * 2 + 1, none⟩) h5.lt).trans (hx ▸ h2)⟩
  refine (wpIn_wide (n := 10)).1 ?_
  refine wpIn_rangeFunc_ownH (F := Fence.wide) (w := w4) rfl (by decide) (gf := 61) (lb := #[.pointer (some ⟨w.heap.size + 3, 0, none⟩)]) rfl trivial (enters_of Try.func61 (by kernel_rfl) rfl)
    (back_stops Fence.wide 9 trivial rfl (by omega) (w.heap.size + 3) w4.heap.size (.slice wp D.waits.length wc) D.waits.length (zof D.waits) hw w4 (by omega) (Nat.le_refl _) b6.cell HI.out) belowK_t (belowK_b (Nat.le_refl _)) (Below.refl _ _) (fun _ => rfl)
    (RdI (zof D.waits) w4 x) (RdX (zof D.waits) (txof D.waits) w.heap.size w x) (rdI_from _ _ _) (rdX_from _ _ _ _ _ _ (Nat.le_refl _) (by omega)) ⟨by simp, Below.refl _ _⟩
    (fun j a' W => ∃ Bx, (w4.heap.size ≤ Bx ∧ W.heap[Bx]? = some (.cells #[.int .i64 (zof D.waits j).1, .slice (zof D.waits j).2.1 (zof D.waits j).2.2.1 (zof D.waits j).2.2.2] 85)) ∧ a' = { tmps := #[.pointer (some ⟨d, 0, none⟩), .int .i64 x, undef, .pointer (some ⟨w.heap.size, 0, none⟩), .pointer (some ⟨w.heap.size + 1, 0, none⟩), .pointer (some ⟨w.heap.size + 2, 0, none⟩), .int .i64 0, undef, .pointer (some ⟨Bx, 0, none⟩), .pointer (some ⟨d, 0, none⟩), .pointer (some ⟨d, 0, none⟩), .int .i64 x, .bool true, .int .i64 0, .int .i64 0, .bool false, undef, .pointer (some ⟨d, 0, none⟩), .pointer (some ⟨d, 0, none⟩), .pointer (some ⟨d, 1, none⟩), .slice wp D.waits.length wc, .func (.func 61) #[] #[.pointer (some ⟨w.heap.size + 3, 0, none⟩)], .int .i64 ((j : Nat) : Int), .agg #[.int .i64 (zof D.waits j).1, .slice (zof D.waits j).2.1 (zof D.waits j).2.2.1 (zof D.waits j).2.2.2], undef, undef, undef, undef, undef, undef, undef, undef, undef, undef, undef, undef, undef, undef, undef], defers := [] })
    (fun j a' _ A C row hs hg hr => by
      obtain ⟨Bx, ⟨h1, h2⟩, h3⟩ := hs
      refine ⟨Bx, ⟨h1, (hg.block Bx (Array.getElem?_eq_some_iff.1 h2).1 (fun e => ?_)).trans h2⟩, h3⟩
      obtain ⟨_, o, ho, hcc⟩ := hr Bx e.symm
      rw [h2] at ho; cases ho; cases hcc)
    ?assign ?body ?done ?stop
  case assign =>
    rintro l pre j W K hI hK
    obtain ⟨hp, hB⟩ := hI
    simp only [wtv]
    gi_wp2
    exact hK _ _ ((KeepsOthers.alloc _ _).from _) ((Below.refl _ W).alloc hB.size _) ⟨hp, hB.alloc hB.size _⟩ ⟨W.heap.size, ⟨hB.size, World.alloc_heap_new W _⟩, rfl⟩
  case body =>
    rintro l pre j a' W hl ⟨r, hr⟩ ⟨hp, hB⟩ ⟨Bx, ⟨hBx, hX⟩, rfl⟩ hlt
    have hXt : (zof D.waits j).1 = D.waits[j].1 ∧ D.waits[j].2.1 = .slice (zof D.waits j).2.1 (zof D.waits j).2.2.1 (zof D.waits j).2.2.2 := by
      obtain ⟨p, n, c, hx⟩ := okSlices HK.out HD.out.p5 _ (List.getElem_mem j.2)
      have := zof_eq _ _ j.2 hx
      rw [this]; exact ⟨rfl, hx⟩
    have HP := hid hp
    have HBW := hid hB
    have HW4 := hid hs4
    have HXt := hid hXt
    have hcX0 : W.cell? ⟨Bx, 0, none⟩ = some (.int .i64 (zof D.waits j).1) := by simp [World.cell?, hX]
    have hcX1 : W.cell? ⟨Bx, 1, none⟩ = some (.slice (zof D.waits j).2.1 (zof D.waits j).2.2.1 (zof D.waits j).2.2.2) := by simp [World.cell?, hX]
    have b3W : Boxed W w.heap.size 3 (.int .i64 x) := (hB.block _ (by omega)).trans b3
    have b4W : Boxed W (w.heap.size + 1) 33 (.slice none 0 0) := (hB.block _ (by omega)).trans b4
    have b5W : Boxed W (w.heap.size + 2) 31 (.int .i64 0) := (hB.block _ (by omega)).trans b5
    have hc3W := b3W.cell
    have HrdW : Hid (Rd W D.waits[j].2.1 1 D.waits[j].2.2.length (bc D.waits[j].2.2)) := by
      refine hid ?_
      exact (HD.out.p5.pool_rd (HK.out.waits _ (List.getElem_mem j.2))).cellsOld fun k hk => ((hB.block k (by omega)).trans (HB4.out.block k hk))
    have hWn : w.heap.size + 4 ≤ W.heap.size := by have := hB.size; omega
    clear hX hXt hp hB hs4 hc
    by_cases he : (zof D.waits j).1 = x
    · have het : ((zof D.waits j).1 == x) = true := by simp [he]
      have HE := hid he
      clear he
      have HC := hid (cloneBytes D.waits[j].2.1 D.waits[j].2.2 W [old W] (Has.start W) HrdW.out (by have := HK.out.wlen _ (List.getElem_mem j.2); show List.length D.waits[j.1].2.2 ≤ _; omega))
      rw [HXt.out.2] at HC
      gi_wp2_with fail
      refine ⟨trivial, ?_⟩
      refine (CallsIn.inRound l (callsIn_wide.2 HC.out)).mono ?_
      rintro e w' ⟨v', rfl, h, hK, -⟩
      dsimp only
      obtain ⟨vp, vc, rfl, -⟩ := h.rd.form
      have hBW2 := h.p1.below hK.os hK.tape hK.output
      have b4' : Boxed w' (w.heap.size + 1) 33 (.slice none 0 0) := (hBW2.block _ (by omega)).trans b4W
      have b5' : Boxed w' (w.heap.size + 2) 31 (.int .i64 0) := (hBW2.block _ (by omega)).trans b5W
      have hf4 := b4'.frozen
      have hf5 := b5'.frozen
      have hc4 := b4'.cell
      have hc5 := b5'.cell
      have HH := hid h
      have HBW2 := hid hBW2
      clear h hBW2 hcX0 hcX1 hc3W het
      gi_wp2
      refine ⟨⟨by simpa using HBW2.out.size, fun k o _ hk ho => ?_⟩, .slice vp D.waits[j].2.2.length vc, ⟨⟨rfl, pre, j, rfl, HP.out, HE.out, ?_⟩, ?_, ?_⟩, ?_⟩
      · exact ((KeepsOthers.setCell _ _ _).trans (KeepsOthers.setCell _ _ _)).same k o ((HBW2.out.block k (Array.getElem?_eq_some_iff.1 hk).1).trans hk) ho
      · have hfr := HH.out.fresh_row (n := w.heap.size + 4) hWn
        rw [txof_eq]
        exact hfr.frame fun k h1 h2 => (Below.heap_setCell _ _ _ _ (by show k ≠ w.heap.size + 2; omega)).trans (Below.heap_setCell _ _ _ _ (by show k ≠ w.heap.size + 1; omega))
      · exact (b4'.set _).other (by omega) _
      · exact (b5'.other (by omega) _).set _
      · exact (((HB4.out.trans (HBW.out.mono (by have := HW4.out; omega))).trans (HBW2.out.mono (by omega))).setCell (p := ⟨w.heap.size + 1, 0, none⟩) (by simp) _).setCell (p := ⟨w.heap.size + 2, 0, none⟩) (by simp) _
    · have het : ((zof D.waits j).1 == x) = false := by simp [he]
      have HE := hid he
      clear he
      gi_wp2
      exact ⟨KeepsFrom.refl _ _, Below.refl _ _, fun p hp => (List.mem_append.1 hp).elim (HP.out p) (fun e => by rw [List.mem_singleton.1 e]; exact HE.out), HBW.out⟩
  case done =>
    rintro N ys W hN rfl ⟨hp, hB⟩ hK
    have HX' := HX.out
    subst HX'
    have hql : q < D.firm.length := by
      have := HT.out
      unfold Disk.there at this
      simp at this
      omega
    obtain ⟨fp, fc, rfl, -, -, hfr⟩ := HD.out.p1.rd.form
    obtain ⟨fg, fo, rfl, hfc⟩ := hfr (by omega)
    obtain ⟨yp, yc, hy, -⟩ := (HD.out.p5.pool_rd (HK.out.firm _ (List.getElem_mem hql))).form
    have hyl := HK.out.len _ (List.getElem_mem hql)
    have hfq := hfc q (by omega)
    have hfg := World.block_lt_of_cell? w ⟨fg, fo + q, none⟩ (hfq.trans (by simp [hql]; rfl))
    rw [List.getElem?_map, List.getElem?_eq_getElem hql, Option.map_some, hy, hyl] at hfq
    have hBw := HB4.out.trans (hB.mono (by omega))
    have c0 : W.cell? ⟨d, 0, none⟩ = some (.slice (some ⟨fg, fo, none⟩) D.firm.length fc) := (hBw.cell (p := ⟨d, 0, none⟩) hdl).trans (HD.out.cells 0)
    have c1 : W.cell? ⟨w.heap.size, 0, none⟩ = some (.int .i64 (q : Int)) := (show Boxed W w.heap.size 3 (.int .i64 (q : Int)) from (hB.block _ (by omega)).trans b3).cell
    have c2 : W.cell? ⟨fg, fo + q, none⟩ = some (.slice yp 128 yc) := (hBw.cell (p := ⟨fg, fo + q, none⟩) hfg).trans hfq
    go_wp2_with fail
    refine region_tail1 (fun w' => w'.cell? ⟨d, 0, none⟩ = some (.slice (some ⟨fg, fo, none⟩) D.firm.length fc) ∧ w'.cell? ⟨w.heap.size, 0, none⟩ = some (.int .i64 (q : Int)) ∧ w'.cell? ⟨fg, fo + q, none⟩ = some (.slice yp 128 yc)) (by kernel_rfl) (by kernel_rfl) (by kernel_rfl) (by decide) ⟨c0, c1, c2⟩ ?_
    repeat (first
      | (refine wpL_read (by rfl) (by rfl) ?_ ?_ ?_; rotate_left; (rintro w ⟨hS, hS1, hS2⟩; go_simp; with_reducible rfl); simp only [Act.put, List.setIfInBounds_toArray, List.set_cons_zero, List.set_cons_succ])
      | (refine wpL_skip (by rfl) ?_; simp only [Act.put, List.setIfInBounds_toArray, List.set_cons_zero, List.set_cons_succ]))
    have hrd : Rd W.drew (.slice yp 128 yc) 1 D.firm[q].2.length (bc D.firm[q].2) := by
      have := (HD.out.p5.pool_rd (HK.out.firm _ (List.getElem_mem hql))).cellsOld (w' := W.drew) hBw.block
      rw [hy, hyl] at this
      rw [hyl]; exact this
    have b4 : Boxed W.drew (w.heap.size + 1) 33 (.slice none 0 0) := (hB.block _ (by omega)).trans b4
    have b5 : Boxed W.drew (w.heap.size + 2) 31 (.int .i64 0) := (hB.block _ (by omega)).trans b5
    have HC := hid (cloneBytes (.slice yp 128 yc) D.firm[q].2 W.drew [old W.drew] (Has.start _) hrd (by omega))
    have HKN := hid hK
    have hbw := (hBw.trans ((Below.refl w.heap.size W).drew))
    have c0 : W.drew.cell? ⟨d, 0, none⟩ = some (.slice (some ⟨fg, fo, none⟩) D.firm.length fc) := c0
    have c1 : Boxed W.drew w.heap.size 3 (.int .i64 (q : Int)) := (hB.block _ (by omega)).trans b3
    have c2 : W.drew.cell? ⟨fg, fo + q, none⟩ = some (.slice yp 128 yc) := c2
    have hsz : w.heap.size + 4 ≤ W.drew.heap.size := by have := hB.size; simp; omega
    have hNl : N < W.drew.heap.size := (Array.getElem?_eq_some_iff.1 hK).1
    clear hK hB hrd
    refine wpL_act (by rfl) (by rfl) (fun K hK => ?_)
    go_simp
    refine HC.out.mono ?_
    rintro e w2 ⟨v', rfl, h2, hk2, -⟩
    have hbl2 := h2.p1.below hk2.os hk2.tape hk2.output
    obtain ⟨vp, vc, rfl, -⟩ := h2.rd.form
    rw [hyl] at h2
    have H2 := hid h2
    clear h2
    have c0 := (hbl2.cell (p := ⟨d, 0, none⟩) (World.block_lt_of_cell? _ _ c0)).trans c0
    have c1 : Boxed w2 w.heap.size 3 (.int .i64 (q : Int)) := (hbl2.block _ c1.lt).trans c1
    have c2 := (hbl2.cell (p := ⟨fg, fo + q, none⟩) (World.block_lt_of_cell? _ _ c2)).trans c2
    have b4 : Boxed w2 (w.heap.size + 1) 33 (.slice none 0 0) := (hbl2.block _ (by omega)).trans b4
    have b5 : Boxed w2 (w.heap.size + 2) 31 (.int .i64 0) := (hbl2.block _ (by omega)).trans b5
    have hKN : w2.heap[N]? = some (.deferred (some [])) := (hbl2.block _ hNl).trans HKN.out
    have hbw2 := hbw.trans (hbl2.mono (by omega))
    have hfr := H2.out.fresh_row (n := w.heap.size + 4) hsz
    have hf4 := b4.frozen
    have hf5 := b5.frozen
    have hc4 := b4.cell
    have hc5 := b5.cell
    refine hK.out _ _ ⟨c0, c1.cell, c2⟩ ?_
    clear hK K
    try simp only [Act.put, List.setIfInBounds_toArray, List.set_cons_zero, List.set_cons_succ]
    refine wpL_act (by rfl) (by rfl) (fun K hK => ?_)
    go_simp
    refine hK.out _ _ ⟨((Below.refl w.heap.size w2).setCell (p := ⟨w.heap.size + 1, 0, none⟩) (by simp) _ |>.cell (p := ⟨d, 0, none⟩) hdl).trans c0, (c1.other (by omega) _).cell, ((Below.refl w.heap.size w2).setCell (p := ⟨w.heap.size + 1, 0, none⟩) (by simp) _ |>.cell (p := ⟨fg, fo + q, none⟩) hfg).trans c2⟩ ?_
    clear hK K
    try simp only [Act.put, List.setIfInBounds_toArray, List.set_cons_zero, List.set_cons_succ]
    refine wpL_nil ?_
    refine wpOp_last rfl (by rfl) ?_
    have hf5' := (b5.other (B' := w.heap.size + 1) (by omega) (.slice vp 128 vc)).frozen
    have hc5' := (b5.other (B' := w.heap.size + 1) (by omega) (.slice vp 128 vc)).cell
    go_simp
    go_wp2_with fail
    have hKf := ((KeepsOthers.setCell w2 ⟨w.heap.size + 1, 0, none⟩ (.slice vp 128 vc)).trans (KeepsOthers.setCell _ ⟨w.heap.size + 2, 0, none⟩ (.int .i64 0))).same N _ hKN rfl
    have b4' := (b4.set (.slice vp 128 vc)).other (B' := w.heap.size + 2) (by omega) (.int .i64 0)
    have b5' := (b5.other (B' := w.heap.size + 1) (by omega) (.slice vp 128 vc)).set (.int .i64 0)
    have hBf := (hbw2.setCell (p := ⟨w.heap.size + 1, 0, none⟩) (by simp) (.slice vp 128 vc)).setCell (p := ⟨w.heap.size + 2, 0, none⟩) (by simp) (.int .i64 0)
    have hfr2 := hfr.frame (W' := (w2.setCell ⟨w.heap.size + 1, 0, none⟩ (.slice vp 128 vc)).setCell ⟨w.heap.size + 2, 0, none⟩ (.int .i64 0)) fun k h1 h2 => (Below.heap_setCell _ _ _ _ (by show k ≠ w.heap.size + 2; omega)).trans (Below.heap_setCell _ _ _ _ (by show k ≠ w.heap.size + 1; omega))
    generalize (w2.setCell ⟨w.heap.size + 1, 0, none⟩ (.slice vp 128 vc)).setCell ⟨w.heap.size + 2, 0, none⟩ (.int .i64 0) = W5 at *
    refine ⟨by simp, .inl ⟨_, _, rfl, run_takeDeferred hKf, ?_⟩⟩
    have hc4 := cell_kept b4'.cell (grownBy_putObj' _ N (.deferred none)) (fun r e => by cases e; exact ⟨_, hKf, rfl⟩)
    have hc5 := cell_kept b5'.cell (grownBy_putObj' _ N (.deferred none)) (fun r e => by cases e; exact ⟨_, hKf, rfl⟩)
    have hBz := hBf.trans (belowK_b (w := w) (Nat.le_refl _) W5 N _ (.deferred none) (by omega) hKf rfl rfl)
    have hfr3 := (ownFrom_fresh w4.heap.size (w.heap.size + 4) (fun (_ : Unit) => Bytes (.slice vp 128 vc) D.firm[q].2)).putObj (s := ()) (.deferred none) hfr2 hN hKf rfl
    have hl := last_done D q (fun j => by
      have h1 := hp j (by rw [come_all]; simp)
      have h2 : (zof D.waits j).1 = D.waits[j].1 := by simp [zof]
      rw [← h2]; exact h1)
    refine ⟨.tuple #[.slice vp 128 vc, .int .i64 0], by simp [results, Try.results17, go_sem, hc4, hc5], _, rfl, ?_, ⟨hBz.os, hBz.tape, hBz.output, hBz.size⟩⟩
    have hl2 : (D.last (q : Int)).2 = D.firm[q].2 := by rw [hl]; simp [hql]
    rw [hl2]
    exact hfr3.own HO.out (by omega) hBz
  case stop =>
    rintro N c pre W hN ⟨k, hk, rfl⟩ ⟨v, ⟨⟨rfl, ini, j, e1, e2, e3, e4⟩, b4', b5'⟩, hB'⟩ hK
    gi_wp2
    refine ⟨by simp, .inl ⟨_, _, rfl, run_takeDeferred hK, ?_⟩⟩
    have hc4 := cell_kept b4'.cell (grownBy_putObj' _ N (.deferred none)) (fun r e => by cases e; exact ⟨_, hK, rfl⟩)
    have hc5 := cell_kept b5'.cell (grownBy_putObj' _ N (.deferred none)) (fun r e => by cases e; exact ⟨_, hK, rfl⟩)
    have hBf := hB'.trans (belowK_b (w := w) (Nat.le_refl _) W N _ (.deferred none) (by omega) hK rfl rfl)
    have hXt : ∀ j : Fin D.waits.length, (zof D.waits j).1 = D.waits[j].1 := fun j => by simp [zof]
    have hl := last_stop D x ini j k e1 (fun i hi => by rw [← hXt]; exact e2 i hi) (by rw [← hXt]; exact e3)
    have hfr := (ownFrom_fresh w4.heap.size (w.heap.size + 4) (fun (_ : Unit) => Bytes v (txof D.waits j))).putObj (s := ()) (.deferred none) e4 hN hK rfl
    refine ⟨.tuple #[v, .int .i64 0], by simp [results, Try.results17, go_sem, hc4, hc5], v, rfl, ?_, ⟨hBf.os, hBf.tape, hBf.output, hBf.size⟩⟩
    rw [hl, ← txof_eq]
    exact hfr.own HO.out (by omega) hBf
theorem diskRead (d : Nat) (D : Disk) (x : Int) (w : World) (L : List HP) (hw : D.waits.length ≤ 1000000000) (hO : Has w (Dsk d D :: L)) :
    Calls Try.prog 17 #[.pointer (some ⟨d, 0, none⟩), .int .i64 x] w fun e w' => ∃ v, e = .returned (.tuple #[v, .int .i64 (D.read x).1]) ∧ Has w' (Bytes v (D.read x).2 :: Dsk d D :: L) ∧ Keep w w' := by
  by_cases hA : D.asked (D.there x) = 0
  · have ht : D.there x = true := by
      cases h : D.there x
      · rw [h] at hA
        unfold Disk.asked at hA
        split at hA <;> simp at hA
      · rfl
    have hx : 0 ≤ x := by unfold Disk.there at ht; simp at ht; exact ht.1
    obtain ⟨q, rfl⟩ := Int.eq_ofNat_of_zero_le hx
    refine (readGo d D q w L hw hA ht hO).mono fun e w' ⟨v, h1, h2, h3⟩ => ⟨v, ?_, ?_, h3⟩
    · simpa [Disk.read, hA] using h1
    · simpa [Disk.read, hA] using h2
  · refine (readNot d D x w L hA hO).mono fun e w' ⟨h1, h2, h3⟩ => ⟨.slice none 0 0, ?_, ?_, h3⟩
    · simpa [Disk.read, hA] using h1
    · simp only [Disk.read, hA, ne_eq, not_false_eq_true, if_true]; exact h2.row_nil _ _
end Go.Proofs.Ytajlikakbihgbaa
/- THE WALKS of slices.Clone. -/
namespace Go.Proofs.Ytajlikakbihgbaa
open Go.RowKit Go.Own
theorem infoBool : (Try.prog.info? 4).map (fun i => (i.zero, i.size, i.bytes)) = some (some (.bool false), 1, 1) := by kernel_rfl
theorem bool_one (xs : List Bool) : ∀ u ∈ xs.map Value.bool, u.oneCell' = true := by
  intro u hu
  obtain ⟨x, -, rfl⟩ := List.mem_map.1 hu
  rfl
end Go.Proofs.Ytajlikakbihgbaa
/- THE WALK of Arm. -/
namespace Go.Proofs.Ytajlikakbihgbaa
open Go.RowKit Go.Own Go.Dk
end Go.Proofs.Ytajlikakbihgbaa
