/- HOW THE REFERENCE's DISK LIES IN MEMORY; its small walks. -/
import Derived.Test.YtbcilhcmjkgkgaaDiskk
import Derived.Test.YtbcilhcmjkgkgaaApp
namespace Go.Proofs.Ytbcilhcmjkgkgaa
open Go.RowKit Go.Own Go.Dk
def rarm : Option (Int × List Bool) → Int → List Bool → Prop
  | none, l, _ => l = -1
  | some (n, k), l, ks => l = n ∧ ks = k ∧ 0 ≤ n
def RDsk (c : Nat) (D : Disk) : HP := ex fun fv => ex fun wv => ex fun kv => ex fun lv => ex fun ks => ex fun left => ex fun B =>
  star [fact (Ok B D ∧ rarm D.armed left ks), pt c (.cells #[fv, wv, .bool (!D.on), .int .i64 left, .int .i64 D.flushes, kv, lv] 56), row fv 28 1 D.firm.length (D.firm.map (·.1)), row wv 81 2 D.waits.length (wenc D.waits), Bools kv ks, Ints lv D.writes, poolc 5 B]
theorem rdsk_iff {w : World} {L : List HP} {c : Nat} {D : Disk} : Has w (RDsk c D :: L) ↔ ∃ fv wv kv lv ks left B, (Ok B D ∧ rarm D.armed left ks) ∧
    Has w (pt c (.cells #[fv, wv, .bool (!D.on), .int .i64 left, .int .i64 D.flushes, kv, lv] 56) :: row fv 28 1 D.firm.length (D.firm.map (·.1)) :: row wv 81 2 D.waits.length (wenc D.waits) :: Bools kv ks :: Ints lv D.writes :: poolc 5 B :: L) := by
  unfold RDsk
  simp only [Has.ex_iff, Has.star_iff, List.cons_append, List.nil_append, Has.fact_iff]
theorem wcellsT {e : TypeId} {w : World} {v : Value} {W : List (Int × Txt)} {L : List HP} (h : Has w (row v e 2 W.length (wenc W) :: L)) (k : Nat) (hk : k < W.length) :
    ∃ g c, v = .slice (some ⟨g, 0, none⟩) W.length c ∧ w.cell? ⟨g, k * 2, none⟩ = some (.int .i64 W[k].1) ∧ w.cell? ⟨g, k * 2 + 1, none⟩ = some W[k].2.1 := by
  obtain ⟨-, h1 | ⟨g, c, cur, rfl, -⟩⟩ := h.row_cases
  · exact absurd h1.2.1 (by omega)
  have hc := h.row_cells.2.1
  obtain ⟨e1, e2⟩ := wenc_at W k hk
  exact ⟨g, c, rfl, by rw [hc _ (by omega), e1], by rw [hc _ (by omega), e2]⟩
theorem okSlicesP {B : List Txt} {D : Disk} (h : Ok B D) {w : World} {L : List HP} (hO : Has w (poolc 5 B :: L)) : ∀ x ∈ D.waits, ∃ p c, x.2.1 = .slice p 128 c := by
  intro x hx
  obtain ⟨p, c, e, -⟩ := (hO.pool_rd (h.waits x hx)).form
  exact ⟨p, c, by rw [e, h.wlen x hx]⟩
section
variable (c : Nat) (D : Disk) (w : World) (L : List HP) (hO : Has w (RDsk c D :: L))
include hO
theorem rBoot : Calls Try.prog 47 #[.pointer (some ⟨c, 0, none⟩)] w fun e w' => e = .returned (.int .i64 D.boot.1) ∧ Has w' (RDsk c D.boot.2 :: L) ∧ Keep w w' := by
  have HD := hid hO
  obtain ⟨fv, wv, kv, lv, ks, left, B, hok, hO⟩ := rdsk_iff.1 hO
  obtain ⟨F, W, on, ar, wr, fl⟩ := D
  simp only at hO
  have hc := hO.cells
  have ht := hO.thaw
  have HO := hid hO
  have Hok := hid hok
  clear hO hok
  cases on
  · go_enter Try.func47, Try.ntmps47
    go_wp2
    go_ret
    refine ⟨rfl, ?_, (Keep.refl _).set _ _⟩
    have h := HO.out.set 2 (.bool false)
    exact rdsk_iff.2 ⟨fv, wv, kv, lv, ks, left, B, ⟨⟨Hok.out.1.firm, Hok.out.1.waits, Hok.out.1.at_, Hok.out.1.len, Hok.out.1.wlen, Hok.out.1.left⟩, Hok.out.2⟩, h⟩
  · go_enter Try.func47, Try.ntmps47
    go_wp2
    go_ret
    exact ⟨rfl, HD.out, Keep.refl _⟩
end
theorem rCrashO (c : Nat) (fv wv kv lv qv : Value) (off : Bool) (left fl : Int) (F : List Txt) (W : List (Int × Txt)) (keep : List Bool) (w : World) (L : List HP)
    (hat : ∀ x ∈ W, 0 ≤ x.1 ∧ x.1 < F.length) (hsl : ∀ x ∈ W, ∃ p c, x.2.1 = .slice p 128 c) (hL : ∀ w', Has w' L → Rd w' qv 1 keep.length (keep.map Value.bool))
    (hO : Has w (pt c (.cells #[fv, wv, .bool off, .int .i64 left, .int .i64 fl, kv, lv] 56) :: row fv 28 1 F.length (F.map (·.1)) :: row wv 81 2 W.length (wenc W) :: L)) :
    Calls Try.prog 46 #[.pointer (some ⟨c, 0, none⟩), qv] w fun e w' => e = .returned (.tuple #[]) ∧
      Has w' (pt c (.cells #[fv, .slice none 0 0, .bool true, .int .i64 (-1), .int .i64 fl, kv, lv] 56) :: row fv 28 1 F.length ((layKept keep F W).map (·.1)) :: row wv 81 2 W.length (wenc W) :: L) ∧ Keep w w' := by
  obtain ⟨wp, wc, rfl, hwc, hwl, -⟩ := hO.p2.rd.form
  obtain ⟨kp, kc, rfl, hkc, hkl, -⟩ := (hL _ hO.drop.drop.drop).form
  obtain ⟨fp, fc, rfl, hfc, hfl, -⟩ := hO.p1.rd.form
  have HO := hid hO
  have HL := hid hL
  have HA := hid hat
  have HSL := hid hsl
  clear hO hL hat hsl
  go_enter Try.func46, Try.ntmps46
  go_wp2_with fail
  go_loopw [4] (fun i w' => ∃ k : Nat, k ≤ W.length ∧ i = .int .i64 k ∧ Hid (Has w' (pt c (.cells #[.slice fp F.length fc, .slice wp W.length wc, .bool off, .int .i64 left, .int .i64 fl, kv, lv] 56) :: row (.slice fp F.length fc) 28 1 F.length ((layKept keep F (W.take k)).map (·.1)) :: row (.slice wp W.length wc) 81 2 W.length (wenc W) :: L)) ∧ Hid (Keep w w')) (fun i _ => W.length - (intOf i).toNat)
  case atStart => exact ⟨0, by omega, rfl, HO, hid (Keep.refl _)⟩
  case round =>
    clear HO
    obtain ⟨k, hk, rfl, HX, HK⟩ := hrel
    have hc0 : wr.cell? ⟨c, 0, none⟩ = some (.slice fp F.length fc) := HX.out.cells 0
    have hc1 : wr.cell? ⟨c, 1, none⟩ = some (.slice wp W.length wc) := HX.out.cells 1
    by_cases hlt : k < W.length
    · have hwn := hlt
      obtain ⟨g, c', e, hw1, hw2⟩ := wcellsT HX.out.p2 k hlt
      simp only [Value.slice.injEq, true_and] at e
      obtain ⟨rfl, rfl⟩ := e
      obtain ⟨xp, xc, hx⟩ := HSL.out _ (List.getElem_mem hlt)
      rw [hx] at hw2
      have hin := HA.out _ (List.getElem_mem hlt)
      generalize hxi : W[k].1 = xi at *
      obtain ⟨q, rfl⟩ := Int.eq_ofNat_of_zero_le hin.1
      have hq : q < F.length := by omega
      have Hx := hid hx
      have Hxi := hid hxi
      clear hx hxi hin
      by_cases hk0 : keep.length = 0
      · have HKT := hid (show kept keep k = false by simp [kept, hk0])
        go_wp2_with fail
        refine ⟨⟨k + 1, by omega, by go_num, hid ?_, HK⟩, by simp [intOf]; omega⟩
        rw [layKept_take _ _ _ _ hlt, HKT.out]; exact HX.out
      · obtain ⟨r, hr⟩ : ∃ r : Nat, (k : Int) % (keep.length : Int) = (r : Int) := ⟨k % keep.length, by omega⟩
        have hrl : (r : Int) < keep.length := by rw [← hr]; exact Int.emod_lt_of_pos _ (by omega)
        have hrl' : r < keep.length := by omega
        obtain ⟨kp', kc', ek, -, -, hkr⟩ := (HL.out _ HX.out.drop.drop.drop).form
        simp only [Value.slice.injEq, true_and] at ek
        obtain ⟨rfl, rfl⟩ := ek
        obtain ⟨kg, ko, rfl, hkc⟩ := hkr (by omega)
        have hkv : wr.cell? ⟨kg, ko + r, none⟩ = some (.bool keep[r]) := by
          rw [hkc r (by omega)]; simp [hrl']
        clear hkr hkc
        have HKT := hid (show kept keep k = keep[r] from by
          have : k % keep.length = r := by exact_mod_cast hr
          simp [kept, this, hrl']; omega)
        generalize hkb : keep[r] = kb at *
        clear hkb
        cases kb
        · go_wp2_with fail
          refine ⟨⟨k + 1, by omega, by go_num, hid ?_, HK⟩, by simp [intOf]; omega⟩
          rw [layKept_take _ _ _ _ hlt, HKT.out]; exact HX.out
        · obtain ⟨-, hf | ⟨fg, fc', cur, ef, -, -, -, -, -⟩⟩ := HX.out.p1.row_cases
          · exact absurd hf.2.1 (by omega)
          simp only [Value.slice.injEq, true_and] at ef
          obtain ⟨rfl, rfl⟩ := ef
          go_wp2_with fail
          obtain ⟨-, h2, ht, -, -⟩ := HX.out.p1.row_cells
          refine region_tail1 (fun w => w.cell? ⟨c, 0, none⟩ = some (.slice (some ⟨fg, 0, none⟩) F.length fc) ∧ w.cell? ⟨c, 1, none⟩ = some (.slice (some ⟨g, 0, none⟩) W.length wc) ∧ w.cell? ⟨g, k * 2, none⟩ = some (.int .i64 (q : Int)) ∧ w.cell? ⟨g, k * 2 + 1, none⟩ = some (.slice xp 128 xc)) (by kernel_rfl) (by kernel_rfl) (by kernel_rfl) (by decide) ⟨hc0, hc1, hw1, hw2⟩ ?_
          repeat (first
            | (refine wpL_read (by rfl) (by rfl) ?_ ?_ ?_; rotate_left; (rintro w ⟨hS, hS1, hS2, hS3⟩; go_simp; with_reducible rfl); simp only [Act.put, List.setIfInBounds_toArray, List.set_cons_zero, List.set_cons_succ])
            | (refine wpL_skip (by rfl) ?_; simp only [Act.put, List.setIfInBounds_toArray, List.set_cons_zero, List.set_cons_succ]))
          refine wpL_nil ?_
          refine wpOp_last rfl (by rfl) ?_
          have h3 := h2 q (by omega)
          rw [List.getElem?_eq_getElem (by simp [layKept_len, hq])] at h3
          clear h2
          have HO5 := hid ((HX.out.p1.row_set q (by omega) (.slice xp 128 xc)).drew)
          have HK5 := hid ((HK.out.set ⟨fg, q, none⟩ (.slice xp 128 xc)).drew)
          go_simp
          go_wp2_with fail
          refine ⟨⟨k + 1, by omega, by go_num, hid ?_, HK5⟩, by simp [intOf]; omega⟩
          rw [layKept_take _ _ _ _ hlt, HKT.out, if_pos rfl, lay_map, Hx.out, Hxi.out]
          exact HO5.out.p1
    · obtain rfl : k = W.length := by omega
      have HF := hid HX.out
      have ht := HX.out.thaw
      have hc := HX.out.cells
      go_wp2_with fail
      refine bodyPost_end (results_none rfl _ _ _) rfl ?_
      have h := ((HF.out.set 1 (.slice none 0 0)).set 2 (.bool true)).set 3 (.int .i64 (-1))
      rw [List.take_length] at h
      exact ⟨rfl, h, ((HK.out.set _ _).set _ _).set _ _⟩
end Go.Proofs.Ytbcilhcmjkgkgaa
