/- THE WALK of Arm. -/
import Derived.Test.YtbcilhcmjkgkgaaCloneO
namespace Go.Proofs.Ytbcilhcmjkgkgaa
open Go.RowKit Go.Own Go.Dk
theorem armNil (n : Int) (kv : Value) (w : World) : Calls Try.prog 20 #[.pointer none, .int .i64 n, kv] w fun e w' => e = .returned (.int .i64 1) ∧ w = w' := by
  have H := hid (fun b => diskAskedNil b w)
  go_enter Try.func20, Try.ntmps20
  go_wp2_with (go_at_call 33; refine (H.out _).mono ?_)
  rintro e w' ⟨rfl, rfl⟩
  dsimp only
  go_wp2_with fail
  go_ret
  exact ⟨rfl, rfl⟩
theorem armNot (d : Nat) (D : Disk) (n : Int) (kv : Value) (keep : List Bool) (w : World) (L : List HP) (hA : D.asked (decide (0 ≤ n)) ≠ 0) (hO : Has w (Dsk d D :: L)) :
    Calls Try.prog 20 #[.pointer (some ⟨d, 0, none⟩), .int .i64 n, kv] w fun e w' => e = .returned (.int .i64 (D.arm n keep).1) ∧ Has w' (Dsk d (D.arm n keep).2 :: L) ∧ Keep w w' := by
  have H := hid (diskAsked d D (decide (0 ≤ n)) w L hO)
  have HO := hid hO
  have HF := hid (show D.arm n keep = (D.asked (decide (0 ≤ n)), D) from if_pos hA)
  clear hO
  generalize D.asked (decide (0 ≤ n)) = c at *
  go_enter Try.func20, Try.ntmps20
  go_wp2_with (go_at_call 33; refine H.out.mono ?_)
  rintro e w' ⟨rfl, rfl⟩
  dsimp only
  go_wp2_with fail
  go_ret
  rw [HF.out]
  exact ⟨rfl, HO.out, Keep.refl _⟩
theorem armGo (d : Nat) (D : Disk) (n : Int) (kv : Value) (keep : List Bool) (w : World) (L : List HP) (hA : D.asked (decide (0 ≤ n)) = 0) (hn : n ≤ 9223372036854775807) (hk : Rd w kv 1 keep.length (keep.map Value.bool)) (hkl : keep.length ≤ 1000000000) (hO : Has w (Dsk d D :: L)) :
    Calls Try.prog 20 #[.pointer (some ⟨d, 0, none⟩), .int .i64 n, kv] w fun e w' => e = .returned (.int .i64 (D.arm n keep).1) ∧ Has w' (Dsk d (D.arm n keep).2 :: L) ∧ Keep w w' := by
  have H := hid (diskAsked d D (decide (0 ≤ n)) w L hO)
  have H2 := hid (cloneBools kv keep w (Dsk d D :: L) hO hk hkl)
  have HF := hid (show D.arm n keep = (0, { D with armed := some (n, keep) }) from by simp [Disk.arm, hA])
  rw [hA] at H
  clear hO hA hk
  go_enter Try.func20, Try.ntmps20
  go_wp2_with (go_at_call 33; refine H.out.mono ?_)
  rintro e w' ⟨rfl, rfl⟩
  dsimp only
  go_wp2_with (go_at_call 39; refine H2.out.mono ?_)
  rintro e w' ⟨v', rfl, h, hK, -⟩
  dsimp only
  obtain ⟨fv, wv, av, lv, B, hok, hO⟩ := dsk_iff.1 h.p1
  obtain ⟨F, W, on, ar, wr, fl⟩ := D
  simp only at hO
  obtain ⟨vp, vc, rfl, -⟩ := hO.p6.rd.form
  have HO := hid hO
  have Hok := hid hok
  have HK := hid hK
  have HO1 := hid (hO.alloc (.cells #[.int .i64 n, .slice vp keep.length vc] 77)).p1
  have hc := HO1.out.cells
  have ht := HO1.out.thaw
  have HK1 := hid (hK.alloc (.cells #[.int .i64 n, .slice vp keep.length vc] 77))
  clear h hO hok hK H H2
  go_wp2_with fail
  go_ret
  rw [HF.out]
  refine ⟨rfl, dsk_iff.2 ⟨fv, wv, .pointer (some ⟨w'.heap.size, 0, none⟩), lv, B, ⟨Hok.out.firm, Hok.out.waits, Hok.out.at_, Hok.out.len, Hok.out.wlen, fun a b e => by simp only [Option.some.injEq, Prod.mk.injEq] at e; omega⟩, ?_⟩, HK1.out.set _ _⟩
  have h := HO1.out.set 3 (.pointer (some ⟨w'.heap.size, 0, none⟩))
  exact (armc_some.2 ⟨_, _, rfl, h.p4.drop.p6.p2⟩).b3
theorem diskArm (d : Nat) (D : Disk) (n : Int) (kv : Value) (keep : List Bool) (w : World) (L : List HP) (hn : n ≤ 9223372036854775807) (hk : Rd w kv 1 keep.length (keep.map Value.bool)) (hkl : keep.length ≤ 1000000000) (hO : Has w (Dsk d D :: L)) :
    Calls Try.prog 20 #[.pointer (some ⟨d, 0, none⟩), .int .i64 n, kv] w fun e w' => e = .returned (.int .i64 (D.arm n keep).1) ∧ Has w' (Dsk d (D.arm n keep).2 :: L) ∧ Keep w w' := by
  by_cases hA : D.asked (decide (0 ≤ n)) = 0
  · exact armGo d D n kv keep w L hA hn hk hkl hO
  · exact armNot d D n kv keep w L hA hO
end Go.Proofs.Ytbcilhcmjkgkgaa
