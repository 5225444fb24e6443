/- THE WALKS of LendBytes, KeptBytes. -/
import Derived.Test.YtihfhigkpkamiaaBytes
import Derived.Test.YtihfhigkpkamiaaApp
import Derived.Test.YtihfhigkpkamiaaRe
import Derived.Deep.DeepCutAuto
namespace Go.Own
open Go.RowKit
/-- An append with room, elements of one cell: in place. -/
theorem Has.appendRoom {P : Program} {w : World} {l : List HP} {g n cap : Nat} {cur : Array Value} {e : TypeId} (hO : Has w (pt g (.cells cur e) :: l)) (hcur : cur.size = cap) (t ty : TypeId) {z : Value} {bytes : Nat} (ht : P.underlying t = some (.slice e)) (hi : (P.info? e).map (fun i => (i.zero, i.size, i.bytes)) = some (some z, 1, bytes))
    (x : Value) (m : Nat) (ys : List Value) (hr : Rd w x 1 m ys) (h1 : ∀ u ∈ ys, u.oneCell' = true) (hroom : n + m ≤ cap) (hcm : cap ≤ maxLen) :
    ∃ w', (Builtin.append_ #[t, t] ty #[.slice (some ⟨g, 0, none⟩) n cap, x]).run P w = .ok (.slice (some ⟨g, 0, none⟩) (n + m) cap) w' ∧ Has w' (pt g (.cells (cur.toList.take n ++ ys ++ cur.toList.drop (n + m)).toArray e) :: l) ∧ Keep w w' := by
  obtain ⟨i, hi, hz, hs, hby⟩ := info_parts hi
  obtain ⟨hyl, hm, p, xcap, rfl, -, hc⟩ := hr
  rw [Nat.mul_one] at hyl
  rcases p with _ | ad
  · have hm0 : m = 0 := by
      rcases Nat.eq_zero_or_pos m with h | h
      · exact h
      · obtain ⟨g, o, e, -⟩ := hc (by omega)
        cases e
    subst hm0
    have hy : ys = [] := List.eq_nil_of_length_eq_zero hyl
    subst hy
    have hrow : Has w (row (.slice (some ⟨g, 0, none⟩) n cap) e 1 n (cur.toList.take n) :: l) := hO.row_of (by omega) hcm (by rw [hcur, Nat.mul_one]) (by rw [Nat.mul_one]) (by simp; omega)
    refine ⟨w, by rw [Nat.add_zero]; exact hrow.appendNone t ty ht i hi xcap, ?_, Keep.refl w⟩
    rw [Nat.add_zero, List.append_nil, List.take_append_drop]
    exact hO
  · have hr := run_append_room (P := P) w t ty e i ht hi g n cap cur hO.lookup ad m xcap ys (by rw [hs]; omega) (by
      intro j y hj
      have hjl : j < m := by rw [← hyl]; exact (List.getElem?_eq_some_iff.1 hj).1
      obtain ⟨g, o, e2, hc2⟩ := hc (by omega)
      cases e2
      rw [add_plain, hc2 j (by omega), hj]) h1 hroom (by rw [hs, hyl, hcur]; omega)
    refine ⟨_, hr, ?_, ⟨rfl, rfl, rfl, by simp⟩⟩
    have h := hO.turn (fun k _ hk => setRow_other w g k _ hk) (setRow_heap w g cur (cur.toList.take (n * i.size) ++ ys ++ cur.toList.drop (n * i.size + ys.length)).toArray e _ hO.lookup)
    rw [hs, Nat.mul_one, hyl] at h
    rw [hs, Nat.mul_one, hyl]
    exact h
theorem wpList_appendRoom {P : Program} {w : World} {l : List HP} {g n cap : Nat} {cur : Array Value} {e : TypeId} {ops : Array Oper} {rest : List Oper} {o : Oper} {a : Act} {Q : Exit → Act → World → Prop} (hgd : o.guard = none) (s x : Operand) (t : TypeId)
    (ho : o.op = .call { callee := .builtin .append, args := #[s, x], argTypes := #[t, t] })
    {z : Value} {bytes : Nat} (ht : P.underlying t = some (.slice e)) (hi : (P.info? e).map (fun i => (i.zero, i.size, i.bytes)) = some (some z, 1, bytes))
    (hO : Has w (pt g (.cells cur e) :: l)) (hcur : cur.size = cap) (hs : a.eval s = .slice (some ⟨g, 0, none⟩) n cap) (xv : Value) (m : Nat) (ys : List Value) (hx : a.eval x = xv) (hr : Rd w xv 1 m ys) (h1 : ∀ u ∈ ys, u.oneCell' = true) (hroom : n + m ≤ cap) (hcm : cap ≤ maxLen)
    (h : ∀ w', Has w' (pt g (.cells (cur.toList.take n ++ ys ++ cur.toList.drop (n + m)).toArray e) :: l) → Keep w w' → wpList P ops Q rest (a.put o.dst (.slice (some ⟨g, 0, none⟩) (n + m) cap)) w') : wpList P ops Q (o :: rest) a w :=
  wpList_plain hgd fun _ hK => by
    obtain ⟨w', hrun, h2, h3⟩ := hO.appendRoom (P := P) hcur t o.type ht hi xv m ys hr h1 hroom hcm
    unfold Oper.wp execOp
    simp only [ho, resolve, invoke, builtin, Sem.run_bind, Sem.run_pure, Result.andThen_ok, List.map_toArray, List.map_cons, List.map_nil, hs, hx, hrun]
    exact hK _ _ (h w' h2 h3)
end Go.Own
namespace Go.Proofs.Ytihfhigkpkamiaa
open Go.RowKit Go.Own
theorem fillUp' {α : Type} (n k : Nat) (a b : α) (h : k < n) : (List.replicate k a ++ List.replicate (n - k) b).set k a = List.replicate (k + 1) a ++ List.replicate (n - (k + 1)) b := by
  obtain ⟨m, hm⟩ : ∃ m, n - k = m + 1 := ⟨n - k - 1, by omega⟩
  rw [hm, show n - (k + 1) = m from by omega, List.set_append_right _ _ (by simp), List.replicate_succ, List.replicate_succ']
  simp
/-- Bytes that are lent: spare room behind them, marked. -/
def Lent (v : Value) (xs : List Int) : HP := ex fun g : Nat => star [fact (v = .slice (some ⟨g, 0, none⟩) xs.length (xs.length + 3)), pt g (.cells (bc (xs ++ [119, 119, 119])).toArray 5)]
section
variable {w : World} {L : List HP} {v : Value} {xs : List Int}
theorem lent_iff : Has w (Lent v xs :: L) ↔ ∃ g, v = .slice (some ⟨g, 0, none⟩) xs.length (xs.length + 3) ∧ Has w (pt g (.cells (bc (xs ++ [119, 119, 119])).toArray 5) :: L) := by
  unfold Lent
  simp only [Has.ex_iff, Has.star_iff, List.cons_append, List.nil_append, Has.fact_iff]
theorem Lent.bytes (h : Has w (Lent v xs :: L)) (hl : xs.length ≤ 1000000000) : Has w (Bytes v xs :: L) := by
  obtain ⟨g, rfl, h2⟩ := lent_iff.1 h
  exact h2.row_of (by omega) (le_maxLen (by omega)) (by simp [bc]) (by rw [Nat.mul_one]; simp [bc]) (by simp [bc])
theorem Lent.rd (h : Has w (Lent v xs :: L)) (hl : xs.length ≤ 1000000000) : Rd w v 1 xs.length (bc xs) := Bytes.rd (Lent.bytes h hl)
end
def roomOf (n : Nat) : Array Value := (List.replicate (n + 3) (Value.int .u8 0)).toArray
theorem makeRoom (n : Nat) (hn : n ≤ 1000000000) (w : World) : (Instr.makeSlice 22 (.int .i64 0) (.int .i64 ((n : Int) + 3))).run Try.prog w = .ok (.slice (some ⟨w.heap.size, 0, none⟩) 0 (n + 3)) (w.alloc (.cells (roomOf n) 5)) := by
  obtain ⟨i, hi, hz, hsz, hby⟩ := info_parts infoU8
  have hr := run_make (P := Try.prog) w 22 5 i (.int .u8 0) Try.underlying22 hi hz .i64 .i64 0 ((n : Int) + 3) (by omega) (by omega) (by rw [hby]; omega) (by omega)
  rw [hr]
  have e : ((n : Int) + 3).toNat = n + 3 := by omega
  rw [e]
  congr 3
  apply Array.toList_inj.1
  rw [hsz, Nat.mul_one]
  exact toList_madeCells_one _ _
theorem lendBytes (v : Value) (xs : List Int) (W : World) (L : List HP) (hO : Has W L) (hr : Rd W v 1 xs.length (bc xs)) (hl : xs.length ≤ 100000000) :
    Calls Try.prog 16 #[v] W fun e w' => ∃ v', e = .returned v' ∧ Has w' (Lent v' xs :: L) ∧ Keep W w' := by
  obtain ⟨p, c, rfl, -⟩ := hr.form
  have HO := hid (hO.alloc (.cells (roomOf xs.length) 5))
  have HK := hid ((Keep.refl W).alloc (.cells (roomOf xs.length) 5))
  have hmk := makeRoom xs.length (by omega) W
  have HR := hid (hr.alloc (.cells (roomOf xs.length) 5))
  clear hO hr
  go_enter Try.func16, Try.ntmps16
  go_upto_region 2 with fail
  clear hmk
  generalize W.heap.size = g at *
  generalize W.alloc (.cells (roomOf xs.length) 5) = w1 at *
  go_wp2_with (at_builtin; refine wpList_appendRoom rfl _ _ _ rfl Try.underlying22 infoU8 HO.out (by simp [roomOf]) rfl _ xs.length _ rfl HR.out (bc_one _) (by omega) (le_maxLen (by omega)) ?_)
  intro w2 h2 hk2
  have HO2 := hid (show Has w2 (pt g (.cells (bc (xs ++ List.replicate 0 119 ++ List.replicate 3 0)).toArray 5) :: L) by
    have e : (roomOf xs.length).toList.take 0 ++ bc xs ++ (roomOf xs.length).toList.drop (0 + xs.length) = bc (xs ++ List.replicate 0 119 ++ List.replicate 3 0) := by
      simp [roomOf, bc, List.drop_replicate]
    rw [← e]
    simpa using h2)
  have HK2 := hid (HK.out.trans hk2)
  clear h2 hk2 HO HK HR
  go_wp2_with fail
  go_loopw [5] (fun i w => ∃ k : Nat, k ≤ 3 ∧ i = .int .i64 k ∧ Hid (Has w (pt g (.cells (bc (xs ++ List.replicate k 119 ++ List.replicate (3 - k) 0)).toArray 5) :: L)) ∧ Hid (Keep W w)) (fun i _ => 3 - (intOf i).toNat)
  case atStart => exact ⟨0, by omega, rfl, HO2, HK2⟩
  case round =>
    clear HO2 HK2
    obtain ⟨k, hk, rfl, HO, HK⟩ := hrel
    by_cases hlt : k < 3
    · have ht := HO.out.thaw (xs.length + k)
      have hc : wr.cell? ⟨g, xs.length + k, none⟩ = some (.int .u8 0) := by
        rw [HO.out.cells (xs.length + k)]
        have : 3 - k = (3 - k - 1) + 1 := by omega
        rw [this, List.replicate_succ]
        simp [bc]
      go_wp2_with fail
      refine ⟨⟨k + 1, by omega, by go_num, hid ?_, hid (HK.out.set _ _)⟩, by simp [intOf]; omega⟩
      have h := HO.out.set (xs.length + k) (.int .u8 119)
      have e : (bc (xs ++ List.replicate k 119 ++ List.replicate (3 - k) 0)).toArray.setIfInBounds (xs.length + k) (.int .u8 119) = (bc (xs ++ List.replicate (k + 1) 119 ++ List.replicate (3 - (k + 1)) 0)).toArray := by
        have h2 := fillUp' 3 k (119 : Int) 0 hlt
        rw [List.append_assoc, List.append_assoc, ← h2]
        simp [bc, List.map_set, List.set_append_right]
      rw [e] at h
      exact h
    · obtain rfl : k = 3 := by omega
      go_wp2_with fail
      go_ret
      exact ⟨_, rfl, lent_iff.2 ⟨g, rfl, by simpa using HO.out⟩, HK.out⟩
theorem keptBytes (v b : Value) (xs ys : List Int) (w : World) (L : List HP) (hl : xs.length ≤ 100000000) (hO : Has w (Lent v xs :: L)) (hb : Rd w b 1 ys.length (bc ys)) :
    Calls Try.prog 26 #[v, b] w fun e w' => e = .returned (.bool (decide (xs = ys))) ∧ ∃ n, w' = w.drewN n := by
  have HS := hid (fun m => sameBytes v b xs ys (w.drewN m) ((Lent.rd hO (by omega)).drewN m) (hb.drewN m))
  obtain ⟨g, rfl, hP⟩ := lent_iff.1 hO
  obtain ⟨p, c, rfl, -⟩ := hb.form
  have hcs : ∀ k, k < 3 → w.cell? ⟨g, xs.length + k, none⟩ = some (.int .u8 119) := by
    intro k hk
    rw [hP.cells (xs.length + k)]
    rcases k with _ | _ | _ | k
    · simp [bc]
    · simp [bc]
    · simp [bc]
    · omega
  have HC := hid hcs
  clear hO hP hb hcs
  go_enter Try.func26, Try.ntmps26
  go_wp2_with fail
  go_loop [6] (fun i => ∃ k : Nat, k ≤ 3 ∧ i = .int .i64 k) (fun i => 3 - (intOf i).toNat)
  case atStart => exact ⟨0, by omega, rfl⟩
  case round =>
    obtain ⟨k, hk, rfl⟩ := hrel
    by_cases hlt : k < 3
    · have hc := HC.out k hlt
      go_wp2_with fail
      exact ⟨⟨k + 1, by omega, by go_num⟩, by simp [intOf]; omega⟩
    · obtain rfl : k = 3 := by omega
      go_wp2_with fail
      refine (HS.out 0).mono ?_
      rintro e w' ⟨rfl, n, rfl⟩
      dsimp only
      go_wp2_with fail
      go_ret
      exact ⟨rfl, n, rfl⟩
end Go.Proofs.Ytihfhigkpkamiaa
