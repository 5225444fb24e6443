/- THE WALKS of what the statements share on lists of numbers. -/
import Derived.Test.YtajlikakbihgbaaBase
namespace Go.Proofs.Ytajlikakbihgbaa
open Go.RowKit Go.Own
theorem sameInts (a b : Value) (xs ys : List Int) (w : World) (ha : Rd w a 1 xs.length (ic xs)) (hb : Rd w b 1 ys.length (ic ys)) :
    Calls Try.prog 20 #[a, b] w fun e w' => e = .returned (.bool (decide (xs = ys))) ∧ ∃ n, w' = w.drewN n := by
  obtain ⟨pa, ca, rfl, hca, hla, hra⟩ := ha.form
  obtain ⟨pb, cb, rfl, hcb, hlb, hrb⟩ := hb.form
  have Hra := hid hra
  have Hrb := hid hrb
  clear hra hrb ha hb
  by_cases hl : xs.length = ys.length
  · have ht : ((xs.length : Int) != (ys.length : Int)) = false := by simp [hl]
    have Hl := hid hl
    clear hl
    go_enter Try.func20, Try.ntmps20
    go_wp2
    go_loopw [5] (fun i w' => ∃ k m : Nat, k ≤ xs.length ∧ i = .int .i64 k ∧ w' = w.drewN m ∧ Hid (∀ j, j < k → xs[j]? = ys[j]?)) (fun i _ => xs.length - (intOf i).toNat)
    case atStart => exact ⟨0, 0, by omega, rfl, rfl, hid (by omega)⟩
    case round =>
      obtain ⟨k, m, hk, rfl, rfl, HN⟩ := hrel
      by_cases hlt : k < xs.length
      · have hky : k < ys.length := by have := Hl.out; omega
        obtain ⟨ga, oa, rfl, ra⟩ := Hra.out (by omega)
        obtain ⟨gb, ob, rfl, rb⟩ := Hrb.out (by omega)
        have h1 : w.cell? ⟨ga, oa + k, none⟩ = some (.int .i64 xs[k]) := by rw [ra k (by omega), ic_at xs k hlt]
        have h2 : w.cell? ⟨gb, ob + k, none⟩ = some (.int .i64 ys[k]) := by rw [rb k (by omega), ic_at ys k hky]
        clear ra rb
        rcases he : (xs[k] != ys[k]) with _ | _
        · have HE := hid he
          go_wp2
          go_quiet (fail)
          go_wp2
          go_roundw
          case rel =>
            refine ⟨k + 1, _, by omega, by go_num, rfl, hid fun j hj => ?_⟩
            by_cases hjk : j = k
            · subst hjk
              have := HE.out
              rw [List.getElem?_eq_getElem hlt, List.getElem?_eq_getElem hky]
              simpa using this
            · exact HN.out j (by omega)
          case measure => simp [intOf]; omega
        · have HE := hid he
          go_wp2
          go_quiet (fail)
          go_wp2
          go_ret
          refine ⟨?_, _, World.drewN_drewN ..⟩
          have hne : xs ≠ ys := by
            intro e
            have := HE.out
            subst e
            simp at this
          simp [hne]
      · go_wp2
        go_ret
        refine ⟨?_, _, rfl⟩
        have he : xs = ys := by
          apply List.ext_getElem?
          intro j
          by_cases hj : j < k
          · exact HN.out j hj
          · have := Hl.out
            rw [List.getElem?_eq_none (by omega), List.getElem?_eq_none (by omega)]
        simp [he]
  · have ht : ((xs.length : Int) != (ys.length : Int)) = true := by simp; omega
    have Hl := hid hl
    clear hl
    go_enter Try.func20, Try.ntmps20
    go_wp2
    go_ret
    refine ⟨?_, 0, rfl⟩
    have hne : xs ≠ ys := by
      intro e
      exact Hl.out (by rw [e])
    simp [hne]
theorem sameIntsYes (a b : Value) (xs : List Int) (w : World) (ha : Rd w a 1 xs.length (ic xs)) (hb : Rd w b 1 xs.length (ic xs)) :
    Calls Try.prog 20 #[a, b] w fun e w' => e = .returned (.bool true) ∧ ∃ n, w' = w.drewN n :=
  (sameInts a b xs xs w ha hb).mono fun e w' ⟨h1, h2⟩ => ⟨by simpa using h1, h2⟩
theorem overInts (v : Value) (xs : List Int) (W : World) (L : List HP) (hO : Has W (Ints v xs :: L)) (hsm : xs.length ≤ 1000000) :
    Calls Try.prog 27 #[v] W fun e w' => e = .returned (.tuple #[]) ∧ Has w' L ∧ Keep W w' := by
  obtain ⟨p, cap, rfl, hcap, hla, hr⟩ := hO.rd.form
  have Hr := hid hr
  have HO := hid hO
  clear hO hr
  go_enter Try.func27, Try.ntmps27
  go_wp2
  go_loopw [2] (fun i w => ∃ k : Nat, k ≤ xs.length ∧ i = .int .i64 k ∧ Hid (∃ ys : List Int, ys.length = xs.length ∧ Has w (Ints (.slice p xs.length cap) ys :: L)) ∧ Hid (Keep W w)) (fun i _ => xs.length - (intOf i).toNat)
  case atStart => exact ⟨0, by omega, rfl, hid ⟨xs, rfl, HO.out⟩, hid (Keep.refl _)⟩
  case round =>
    obtain ⟨k, hk, rfl, HY, HK⟩ := hrel
    by_cases hlt : k < xs.length
    · obtain ⟨g, o, rfl, -⟩ := Hr.out (by omega)
      obtain ⟨ys, hy, hO⟩ := HY.out
      have ho : o = 0 := by
        obtain ⟨_, h | ⟨g', c', cur, e, _⟩⟩ := hO.row_cases
        · cases h.1
        · simp at e; exact e.1.2
      subst ho
      obtain ⟨-, hc, ht, -, -⟩ := hO.row_cells
      have hc1 : wr.cell? ⟨g, k, none⟩ = some (.int .i64 (ys.getD k 0)) := by
        rw [hc k (by omega), ic_at ys k (by omega)]; simp [List.getD, hy, hlt]
      have HO1 := hid hO
      have Hy := hid hy
      clear hc hO hy
      go_wp2
      go_roundw
      case rel =>
        refine ⟨k + 1, by omega, by go_num, hid ⟨ys.set k (-999), by simp [Hy.out], ?_⟩, hid (HK.out.set _ _)⟩
        have := HO1.out.row_set k (by have := Hy.out; omega) (.int .i64 (-999))
        simpa [Ints, ic, List.map_set] using this
      case measure => simp [intOf]; omega
    · obtain ⟨ys, hy, hO⟩ := HY.out
      have HO1 := hid hO
      have Hy := hid hy
      clear hO hy
      go_wp2_with (at_builtin; refine wpList_append1 rfl _ _ _ rfl Try.underlying22 infoInt rfl (.int .i64 (-999)) (HO1.out.alloc' _) rfl 1 _ rfl (by simp) rfl (le_maxLen (by have := Hy.out; omega)) (by have := Hy.out; omega) ?_)
      intro v' w' hO' hK'
      have HO' := hid hO'
      have HK' := hid hK'
      clear hO' hK'
      go_wp2_with fail
      go_end0
      exact ⟨rfl, HO'.out.drop, (HK.out.alloc _).trans HK'.out⟩
end Go.Proofs.Ytajlikakbihgbaa
