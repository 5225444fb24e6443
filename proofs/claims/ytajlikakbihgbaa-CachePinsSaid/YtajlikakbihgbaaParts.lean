/- THE WALKS of what the statements share on lists of bytes. -/
import Derived.Test.YtajlikakbihgbaaBytes
import Derived.Test.YtajlikakbihgbaaPool
namespace Go.Proofs.Ytajlikakbihgbaa
open Go.RowKit Go.Own
theorem qaddN {P : Program} {f : FuncId} {args : Array Value} {w : World} {a n : Nat} {v : Value}
    (h : Calls P f args (w.drewN (a + n)) fun e w' => e = .returned v ∧ ∃ m, w' = (w.drewN (a + n)).drewN m) :
    Calls P f args (w.drewN (a + n)) fun e w'' => e = .returned v ∧ ∃ m, w'' = w.drewN (a + m) :=
  h.mono fun _ _ ⟨he, m, hm⟩ => ⟨he, n + m, by rw [hm, World.drewN_drewN, Nat.add_assoc]⟩
abbrev Txs := List (Value × List Int)
/-- v reads as a list of texts. -/
def RdP (w : World) (v : Value) (R : Txs) : Prop := Rd w v 1 R.length (R.map (·.1)) ∧ ∀ x ∈ R, Rd w x.1 1 x.2.length (bc x.2)
theorem RdP.drewN {w : World} {v : Value} {R : Txs} (h : RdP w v R) (n : Nat) : RdP (w.drewN n) v R := ⟨h.1.drewN n, fun x hx => (h.2 x hx).drewN n⟩
theorem RdP.at_ {w : World} {v : Value} {R : Txs} (h : RdP w v R) (k : Nat) (hk : k < R.length) : ∃ g o c p m, v = .slice (some ⟨g, o, none⟩) R.length c ∧ w.cell? ⟨g, o + k, none⟩ = some (.slice p R[k].2.length m) ∧ R[k].1 = .slice p R[k].2.length m := by
  obtain ⟨p, c, rfl, -, -, hr⟩ := h.1.form
  obtain ⟨g, o, rfl, hc⟩ := hr (by omega)
  obtain ⟨p, m, hx, -⟩ := (h.2 _ (List.getElem_mem hk)).form
  refine ⟨g, o, c, p, m, rfl, ?_, hx⟩
  rw [hc k (by omega), List.getElem?_map, List.getElem?_eq_getElem hk, Option.map_some, hx]
theorem RdP.form {w : World} {v : Value} {R : Txs} (h : RdP w v R) : ∃ p c, v = .slice p R.length c := by
  obtain ⟨p, c, h, -⟩ := h.1.form
  exact ⟨p, c, h⟩
theorem RdP.len {w : World} {v : Value} {R : Txs} (h : RdP w v R) : R.length ≤ 9223372036854775807 := by
  obtain ⟨p, c, -, -, h, -⟩ := h.1.form
  exact h
theorem sameParts (a b : Value) (R T : Txs) (w : World) (ha : RdP w a R) (hb : RdP w b T) :
    Calls Try.prog 28 #[a, b] w fun e w' => e = .returned (.bool (decide (R.map (·.2) = T.map (·.2)))) ∧ ∃ n, w' = w.drewN n := by
  obtain ⟨pa, ca, ea⟩ := ha.form
  obtain ⟨pb, cb, eb⟩ := hb.form
  have hla := ha.len
  have hlb := hb.len
  have Ha := hid ha
  have Hb := hid hb
  clear ha hb
  subst ea eb
  by_cases hl : R.length = T.length
  · have ht : ((R.length : Int) != (T.length : Int)) = false := by simp [hl]
    have Hl := hid hl
    clear hl
    go_enter Try.func28, Try.ntmps28
    go_wp2
    go_loopw [5] (fun i w' => ∃ k m : Nat, k ≤ R.length ∧ i = .int .i64 k ∧ w' = w.drewN m ∧ Hid (∀ j, j < k → (R.map (·.2))[j]? = (T.map (·.2))[j]?)) (fun i _ => R.length - (intOf i).toNat)
    case atStart => exact ⟨0, 0, by omega, rfl, rfl, hid (by omega)⟩
    case round =>
      obtain ⟨k, m, hk, rfl, rfl, HN⟩ := hrel
      by_cases hlt : k < R.length
      · have hky : k < T.length := by have := Hl.out; omega
        obtain ⟨ga, oa, c, p1, m1, e, h1, x1⟩ := Ha.out.at_ k hlt
        simp only [Value.slice.injEq, true_and] at e
        obtain ⟨rfl, rfl⟩ := e
        obtain ⟨gb, ob, c, p2, m2, e, h2, x2⟩ := Hb.out.at_ k hky
        simp only [Value.slice.injEq, true_and] at e
        obtain ⟨rfl, rfl⟩ := e
        have HC := hid (fun n => sameBytes R[k].1 T[k].1 R[k].2 T[k].2 (w.drewN n) ((Ha.out.2 _ (List.getElem_mem hlt)).drewN _) ((Hb.out.2 _ (List.getElem_mem hky)).drewN _))
        rw [x1, x2] at HC
        rcases he : (decide (R[k].2 = T[k].2)) with _ | _
        · have HE := hid he
          rw [he] at HC
          clear he x1 x2
          go_wp2
          go_quiet ((first | exact Calls.quiet_of (HC.out _) | exact qaddN (HC.out _)))
          go_wp2
          go_ret
          refine ⟨?_, _, World.drewN_drewN ..⟩
          have hne : R.map (·.2) ≠ T.map (·.2) := by
            intro e
            have h := congrArg (fun l => l[k]?) e
            simp only [List.getElem?_map, List.getElem?_eq_getElem hlt, List.getElem?_eq_getElem hky, Option.map_some, Option.some.injEq] at h
            have := HE.out
            simp [h] at this
          simp [hne]
        · have HE := hid he
          rw [he] at HC
          clear he x1 x2
          go_wp2
          go_quiet ((first | exact Calls.quiet_of (HC.out _) | exact qaddN (HC.out _)))
          go_wp2
          go_roundw
          case rel =>
            refine ⟨k + 1, _, by omega, by go_num, rfl, hid fun j hj => ?_⟩
            by_cases hjk : j = k
            · subst hjk
              have := HE.out
              simp only [List.getElem?_map, List.getElem?_eq_getElem hlt, List.getElem?_eq_getElem hky, Option.map_some]
              simpa using this
            · exact HN.out j (by omega)
          case measure => simp [intOf]; omega
      · go_wp2
        go_ret
        refine ⟨?_, _, rfl⟩
        have he : R.map (·.2) = T.map (·.2) := by
          apply List.ext_getElem?
          intro j
          by_cases hj : j < k
          · exact HN.out j hj
          · have := Hl.out
            rw [List.getElem?_eq_none (by simp; omega), List.getElem?_eq_none (by simp; omega)]
        simp [he]
  · have ht : ((R.length : Int) != (T.length : Int)) = true := by simp; omega
    have Hl := hid hl
    clear hl
    go_enter Try.func28, Try.ntmps28
    go_wp2
    go_ret
    refine ⟨?_, 0, rfl⟩
    have hne : R.map (·.2) ≠ T.map (·.2) := by
      intro e
      have := congrArg List.length e
      exact Hl.out (by simpa using this)
    simp [hne]
theorem samePartsYes (a b : Value) (R T : Txs) (w : World) (ha : RdP w a R) (hb : RdP w b T) (h : R.map (·.2) = T.map (·.2)) :
    Calls Try.prog 28 #[a, b] w fun e w' => e = .returned (.bool true) ∧ ∃ n, w' = w.drewN n :=
  (sameParts a b R T w ha hb).mono fun e w' ⟨h1, h2⟩ => ⟨by simpa [h] using h1, h2⟩
end Go.Proofs.Ytajlikakbihgbaa
