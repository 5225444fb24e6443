/- THE WALKS of slices.Equal and bytes.Equal of what is the same. -/
import Derived.Test.YtbggnbahmdgbdaaBytes
import Derived.Laws.BytesArg
namespace Go.Proofs.Ytbggnbahmdgbdaa
open Go.RowKit Go.Own
set_option maxRecDepth 100000 in
set_option maxHeartbeats 4000000 in
theorem slEqual (a b : Value) (xs : List Int) (w : World) (ha : Rd w a 1 xs.length (bc xs)) (hb : Rd w b 1 xs.length (bc xs)) :
    Calls Try.prog 78 #[a, b] w fun e w' => e = .returned (.bool true) ∧ ∃ n, w' = w.drewN n := by
  obtain ⟨pa, ca, rfl, hca, hla, hra⟩ := ha.form
  obtain ⟨pb, cb, rfl, hcb, hlb, hrb⟩ := hb.form
  have Hra := hid hra
  have Hrb := hid hrb
  clear hra hrb ha hb
  go_enter Try.func78, Try.ntmps78
  go_wp2
  go_loopw [13] (fun i w' => ∃ k m : Nat, k ≤ xs.length ∧ i = .int .i64 k ∧ w' = w.drewN m) (fun i _ => xs.length - (intOf i).toNat)
  case atStart => exact ⟨0, 0, by omega, rfl, rfl⟩
  case round =>
    obtain ⟨k, m, hk, rfl, rfl⟩ := hrel
    by_cases hlt : k < xs.length
    · obtain ⟨ga, oa, rfl, ra⟩ := Hra.out (by omega)
      obtain ⟨gb, ob, rfl, rb⟩ := Hrb.out (by omega)
      have h1 : w.cell? ⟨ga, oa + k, none⟩ = some (.int .u8 xs[k]) := by rw [ra k (by omega), bc_at xs k hlt]
      have h2 : w.cell? ⟨gb, ob + k, none⟩ = some (.int .u8 xs[k]) := by rw [rb k (by omega), bc_at xs k hlt]
      clear ra rb
      generalize xs[k] = x at *
      go_wp2
      go_quiet (fail)
      go_wp2
      go_roundw
      case rel => exact ⟨k + 1, _, by omega, by go_num, rfl⟩
      case measure => simp [intOf]; omega
    · go_wp2
      go_ret
      exact ⟨rfl, _, rfl⟩
/-- Bytes, as a text. -/
theorem textOf (v : Value) (xs : List Int) (w : World) (hp : 0 < xs.length) (h : Rd w v 1 xs.length (bc xs)) : (convert 35 9 v).run Try.prog w = .ok (.string (strOfNums xs)) w := by
  obtain ⟨p, c, rfl, -, -, hr⟩ := h.form
  obtain ⟨g, o, rfl, hc⟩ := hr (by omega)
  refine run_convert_bytes_arg w 35 5 Try.underlying35 Try.underlying5 g o xs.length c xs rfl (fun i hi => ?_) 9 Try.underlying9
  rw [hc i (by omega), bc_at xs i hi]
  simp [List.getD, List.getElem?_eq_getElem hi]
set_option maxRecDepth 100000 in
set_option maxHeartbeats 4000000 in
theorem byEqual (a b : Value) (xs : List Int) (w : World) (hp : 0 < xs.length) (ha : Rd w a 1 xs.length (bc xs)) (hb : Rd w b 1 xs.length (bc xs)) :
    Calls Try.prog 53 #[a, b] w fun e w' => e = .returned (.bool true) ∧ w = w' := by
  have h1 := textOf a xs w hp ha
  have h2 := textOf b xs w hp hb
  clear ha hb hp
  generalize strOfNums xs = s at *
  go_enter Try.func53, Try.ntmps53
  go_wp2
  go_ret
  exact ⟨by simp, rfl⟩
end Go.Proofs.Ytbggnbahmdgbdaa
