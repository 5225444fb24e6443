/- TEXTS of mine, merged. -/
import Derived.Test.YtfhaedkaedffcaaGreatDoorM26
import Derived.Test.YtfhaedkaedffcaaGreatDoorM27
import Derived.Test.YtfhaedkaedffcaaGreatDoorM28
import Derived.Test.YtfhaedkaedffcaaGreatDoorRows
import Derived.Lay
import Derived.LaidMore
import Derived.SevenTiedAt
import Derived.HandedShaped
import Derived.Shelf.Vars
import Derived.ProofKit
import Derived.OpenShut
import Derived.Stop.Joined
import Derived.Test.YtfhaedkaedffcaaGreatDoorM1
import Derived.ShutString
import Derived.ChangeOld
import Derived.Deep.Slices
/- THE WALK of TreeNamesRise. -/
namespace Go.Proofs.YtfhaedkaedffcaaGreatDoor
open Go.RowKit Go.Own
def lowC : Qc := ⟨[20], fun _ args => .int .i64 (low (intOf (args.getD 0 undef)) (intOf (args.getD 1 undef))), [22]⟩
theorem wp_valueC {P : Program} {o : Oper} {a : Act} {w : World} {K : Act → World → Prop} {R : Exit → Act → World → Prop} {v : Value} {t1 t2 : TypeId} {x : Operand} {u : Value} (h : (convert t1 t2 u).run P w = .ok v w) (ho : o.op = .convert t1 t2 x) (hx : a.eval x = u) (hh : K (a.put o.dst v) w) : o.wp P a w K R := by
  unfold Oper.wp execOp
  simp only [ho, hx, h, Sem.run_bind, Sem.run_pure, Result.andThen_ok]
  exact hh
theorem str_nm2 : ∀ a b : Fin 26, strOf [97 + (a.val : Int), 97 + (b.val : Int)] = nm2 a.val b.val := by decide +kernel
theorem bytesLess_dec : ∀ (x y : List UInt8), Op.bytesLess x y = decide (x < y)
  | [], [] => by simp [Op.bytesLess]
  | _ :: _, [] => by simp [Op.bytesLess]
  | [], _ :: _ => by simp [Op.bytesLess]
  | a :: x, b :: y => by
    rw [Op.bytesLess, bytesLess_dec x y]
    by_cases h : a < b
    · simp [h, List.cons_lt_cons_iff]
    · by_cases e : a = b
      · simp [e, List.cons_lt_cons_iff]
      · simp [h, e, List.cons_lt_cons_iff]
theorem bytesLess_no {a b : Str} (h : b < a) : Op.bytesLess a b = false ∧ (a == b) = false := by
  rw [bytesLess_dec]
  refine ⟨decide_eq_false fun h2 => absurd (List.lt_trans h h2) (List.lt_irrefl _), ?_⟩
  simp only [beq_eq_false_iff_ne, ne_eq]
  rintro rfl
  exact List.lt_irrefl _ h
theorem wrap8 (n : Int) (h : 0 ≤ n ∧ n ≤ 255) : IntKind.u8.wrap n = n := by
  simp [IntKind.wrap, IntKind.bits, IntKind.signed]
  omega
theorem conv2 {a b : Nat} (ha : (a : Int) < 26) (hb : (b : Int) < 26) {w : World} {L : List HP} {g : Nat} (h : Has w (pt g (.cells #[.int .u8 (97 + (a : Int)), .int .u8 (97 + (b : Int))] 5) :: L)) : (convert 22 9 (.slice (some ⟨g, 0, none⟩) 2 2)).run Tryz.prog w = .ok (sV (nm2 a b)) w := by
  have e := str_nm2 ⟨a, by omega⟩ ⟨b, by omega⟩
  dsimp only at e
  rw [← e]
  refine strOf_conv (xs := [97 + (a : Int), 97 + (b : Int)]) ⟨rfl, (show 2 ≤ maxLen by decide), some ⟨g, 0, none⟩, 2, rfl, Nat.le_refl 2, fun _ => ⟨g, 0, rfl, fun j _ => ?_⟩⟩
  rw [Nat.zero_add, h.cells j]
  simp [bc]
theorem str_add (s : Str) : (Value.string (⟨#[47]⟩ ++ sB s)) = .string ⟨(47 :: s).toArray⟩ := by rw [sB_cons]
set_option maxRecDepth 100000 in
set_option maxHeartbeats 8000000 in
theorem risesWalk (mx : Int) (v : Value) (xs : List Int) (W : World) (hmx : W.cell? ⟨0, 0, none⟩ = some (.int .i64 mx)) (hr : Rd W v 1 xs.length (ic xs)) :
    Calls Tryz.prog 9 #[v] W fun e w' => e = .returned (.bool true) ∧ Below W.heap.size W w' := by
  obtain ⟨vp, vc, rfl, hvc, hvl, hvr⟩ := hr.form
  have HO := hid (Has.start W)
  have HM := hid (mxStart hmx)
  have HR := hid hvr
  clear hr hmx hvr
  by_cases hl : xs.length ≤ 30
  · have hli : ¬ (30 : Int) < (xs.length : Int) := by omega
    have af0 := ansF0
    have af1 := ansF1
    go_enter Tryz.func9, Tryz.ntmps9
    go_wp2_with fail
    refine (tNew W [old W] HO.out).mono ?_
    rintro e w1 ⟨q, rfl, hO1, hK1⟩
    have HO1 := hid hO1
    have HK1 := hid ((Keep.refl W).trans hK1)
    clear hO1 hK1
    try dsimp only
    clear HO
    go_wp2_with fail
    go_loopw [5, 4] (fun i mv w => ∃ (k m : Nat) (S : Tre) (w0 : World), w0 = w ∧ k ≤ xs.length ∧ m ≤ k ∧ i = .int .i64 k ∧ mv = .int .i64 m ∧ Hid (Nr S k m) ∧ Hid (Has w0 (Trc q S :: [old W])) ∧ Hid (Keep W w0)) (fun i _ _ => xs.length - (intOf i).toNat)
    case atStart => exact ⟨0, 0, tre0, _, rfl, by omega, by omega, rfl, rfl, hid nr0, HO1, HK1⟩
    case round =>
      clear HO1 HK1
      obtain ⟨k, m, S, w0, rfl, hk, hmk, rfl, rfl, HN, HOw, HKw⟩ := hrel
      by_cases hlt : k < xs.length
      · have hki : (k : Int) < (xs.length : Int) := by omega
        have hk0 : (0 : Int) ≤ (k : Int) := by omega
        obtain ⟨g0, o0, rfl, hcn⟩ := HR.out (by omega)
        obtain ⟨x, hx⟩ : ∃ x, xs[k] = x := ⟨_, rfl⟩
        have HC0 := hid (show ∀ (w' : World) (L' : List HP), Has w' (old W :: L') → w'.cell? ⟨g0, o0 + k, none⟩ = some (.int .i64 x) from fun w' L' h => by rw [← hx]; exact oldCell ((hcn k (by omega)).trans (ic_at xs k hlt)) h)
        clear hcn hx
        obtain ⟨a, ha0, ha1⟩ := low_nat x 26 (by decide)
        obtain ⟨b, hb0, hb1⟩ := low_nat (IntKind.i64.wrap (x.tdiv 26)) 26 (by decide)
        have HA := hid ha0
        have HB := hid hb0
        have wa : IntKind.i64.wrap (97 + (a : Int)) = 97 + (a : Int) := wrapk_in _ (by omega)
        have wb : IntKind.i64.wrap (97 + (b : Int)) = 97 + (b : Int) := wrapk_in _ (by omega)
        clear ha0 hb0
        have ua : IntKind.u8.wrap (97 + (a : Int)) = 97 + (a : Int) := wrap8 _ (by omega)
        have ub : IntKind.u8.wrap (97 + (b : Int)) = 97 + (b : Int) := wrap8 _ (by omega)
        have hnl : List.length (nm2 a b) = 2 := rfl
        go_upto_region 10 with fail
        go_cut [6] (fun p6 wx => ∃ (g6 : Nat) (c : Int) (S' : Tre) (m' : Nat) (w2 : World), w2 = wx ∧ p6 = .pointer (some ⟨g6, 0, none⟩) ∧ (c = 0 ∧ m' = m + 1 ∨ c = 6 ∧ m' = m) ∧ Hid (Nr S' (k + 1) m') ∧ Hid (Has w2 (pt g6 (.cells (ansC (ansE c) nilV nilV) 29) :: Trc q S' :: [old W])) ∧ Hid (Keep W w2))
        case first =>
          have HOd := hid HOw.out.drew
          have HKd := hid HKw.out.drew
          clear HOw HKw
          refine region_textF lowC (fun w' => w'.cell? ⟨g0, o0 + k, none⟩ = some (.int .i64 x) ∧ True) 21 22 [_, _, _, _, _, _, _, _, _, _, _, _, _, _, _, _, _, _, _, _, _] [] _ _ (by kernel_rfl) (by kernel_rfl) (by rfl) rfl rfl ⟨HC0.out _ _ HOd.out.p1, trivial⟩ ?_
          generalize w0.drew = wd at *
          repeat (first
            | (refine wpLF_read (by rfl) (by rfl) ?_ ?_ ?_; rotate_left; (rintro w ⟨z0, z1⟩; go_simp; with_reducible rfl); simp only [Act.put, List.setIfInBounds_toArray, List.set_cons_zero, List.set_cons_succ]) | (refine wpLF_skip (by rfl) (by rfl) ?_; simp only [Act.put, List.setIfInBounds_toArray, List.set_cons_zero, List.set_cons_succ]))
          refine wpLF_call (by rfl) (by rfl) 20 #[.int .i64 x, .int .i64 26] (.int .i64 (a : Int)) (congrArg (Value.int .i64) HA.out) (by rintro w ⟨z0, z1⟩; go_simp) (fun w' _ => lowN x 26 a w' (by decide) (by decide) HA.out) ?_
          try simp only [Act.put, List.setIfInBounds_toArray, List.set_cons_zero, List.set_cons_succ]
          repeat (first
            | (refine wpLF_read (by rfl) (by rfl) ?_ ?_ ?_; rotate_left; (rintro w ⟨z0, z1⟩; go_simp; with_reducible rfl); simp only [Act.put, List.setIfInBounds_toArray, List.set_cons_zero, List.set_cons_succ]) | (refine wpLF_skip (by rfl) (by rfl) ?_; simp only [Act.put, List.setIfInBounds_toArray, List.set_cons_zero, List.set_cons_succ]))
          refine wpLF_call (by rfl) (by rfl) 20 #[.int .i64 (IntKind.i64.wrap (x.tdiv 26)), .int .i64 26] (.int .i64 (b : Int)) (congrArg (Value.int .i64) HB.out) (by rintro w ⟨z0, z1⟩; go_simp) (fun w' _ => lowN (IntKind.i64.wrap (x.tdiv 26)) 26 b w' (by decide) (by decide) HB.out) ?_
          try simp only [Act.put, List.setIfInBounds_toArray, List.set_cons_zero, List.set_cons_succ]
          repeat (first
            | (refine wpLF_read (by rfl) (by rfl) ?_ ?_ ?_; rotate_left; (rintro w ⟨z0, z1⟩; go_simp; with_reducible rfl); simp only [Act.put, List.setIfInBounds_toArray, List.set_cons_zero, List.set_cons_succ]) | (refine wpLF_skip (by rfl) (by rfl) ?_; simp only [Act.put, List.setIfInBounds_toArray, List.set_cons_zero, List.set_cons_succ]))
          refine wpLF_act (by rfl) (by rfl) ?_ (fun K hK => ?_)
          · refine wpL_act (by rfl) (by rfl) (fun K hK => ?_)
            go_simp
            have HA1 := hid (HOd.out.alloc (.cells #[.int .i64 0, .int .i64 0, .int .i64 0, .int .i64 0, .slice none 0 0, .slice none 0 0] 29))
            have HB1 := hid (HKd.out.alloc (.cells #[.int .i64 0, .int .i64 0, .int .i64 0, .int .i64 0, .slice none 0 0, .slice none 0 0] 29))
            refine hK.out _ _ ⟨HC0.out _ _ (HA1.out.re 3 [2]), trivial⟩ ?_
            clear hK K
            try simp only [Act.put, List.setIfInBounds_toArray, List.set_cons_zero, List.set_cons_succ]
            generalize wd.heap.size = h1 at *
            generalize wd.alloc (.cells #[.int .i64 0, .int .i64 0, .int .i64 0, .int .i64 0, .slice none 0 0, .slice none 0 0] 29) = y1 at *
            repeat (first
              | (refine wpL_read (by rfl) (by rfl) ?_ ?_ ?_; rotate_left; (rintro w ⟨z0, z1⟩; go_simp; with_reducible rfl); simp only [Act.put, List.setIfInBounds_toArray, List.set_cons_zero, List.set_cons_succ]) | (refine wpL_skip (by rfl) ?_; simp only [Act.put, List.setIfInBounds_toArray, List.set_cons_zero, List.set_cons_succ]))
            refine wpL_act (by rfl) (by rfl) (fun K hK => ?_)
            go_simp
            have HA2 := hid (HA1.out.alloc (.cells #[.int .u8 (97 + (a : Int)), .int .u8 (97 + (b : Int))] 5))
            have HB2 := hid (HB1.out.alloc (.cells #[.int .u8 (97 + (a : Int)), .int .u8 (97 + (b : Int))] 5))
            refine hK.out _ _ ⟨HC0.out _ _ (HA2.out.re 4 [3]), trivial⟩ ?_
            clear hK K
            try simp only [Act.put, List.setIfInBounds_toArray, List.set_cons_zero, List.set_cons_succ]
            generalize y1.heap.size = h2 at *
            generalize y1.alloc (.cells #[.int .u8 (97 + (a : Int)), .int .u8 (97 + (b : Int))] 5) = y2 at *
            repeat (first
              | (refine wpL_read (by rfl) (by rfl) ?_ ?_ ?_; rotate_left; (rintro w ⟨z0, z1⟩; go_simp; with_reducible rfl); simp only [Act.put, List.setIfInBounds_toArray, List.set_cons_zero, List.set_cons_succ]) | (refine wpL_skip (by rfl) ?_; simp only [Act.put, List.setIfInBounds_toArray, List.set_cons_zero, List.set_cons_succ]))
            refine wpL_act (by rfl) (by rfl) (fun K hK => ?_)
            have hcv := conv2 ha1 hb1 (show Has y2 (pt h2 (.cells #[.int .u8 (97 + (a : Int)), .int .u8 (97 + (b : Int))] 5) :: _) from HA2.out.re 4 [0])
            refine wp_valueC (v := .string (sB (nm2 a b))) hcv (by rfl) (by rfl) ?_
            refine hK.out _ _ ⟨HC0.out _ _ (HA2.out.re 4 [3]), trivial⟩ ?_
            clear hK K
            try simp only [Act.put, List.setIfInBounds_toArray, List.set_cons_zero, List.set_cons_succ]
            repeat (first
              | (refine wpL_read (by rfl) (by rfl) ?_ ?_ ?_; rotate_left; (rintro w ⟨z0, z1⟩; go_simp; with_reducible rfl); simp only [Act.put, List.setIfInBounds_toArray, List.set_cons_zero, List.set_cons_succ]) | (refine wpL_skip (by rfl) ?_; simp only [Act.put, List.setIfInBounds_toArray, List.set_cons_zero, List.set_cons_succ]))
            refine wpL_act (by rfl) (by rfl) (fun K hK => ?_)
            go_simp
            rw [str_add]
            refine (nMkdir q S k m mx y2 _ ((HM.out).cons _) (by omega) HN.out (nm2 a b) (good_nm2 ⟨a, by omega⟩ ⟨b, by omega⟩) (HA2.out.re 4 [2, 1, 3])).mono ?_
            rintro e y3 ⟨c, S', m', rfl, hcm, hN', hO', hK'⟩
            have HA3 := hid hO'
            have HB3 := hid (HB2.out.trans hK')
            have HN' := hid hN'
            clear hO' hK' hN'
            try dsimp only
            refine hK.out _ _ ⟨HC0.out _ _ (HA3.out.re 3 [2]), trivial⟩ ?_
            clear hK K
            try simp only [Act.put, List.setIfInBounds_toArray, List.set_cons_zero, List.set_cons_succ]
            repeat (first
              | (refine wpL_read (by rfl) (by rfl) ?_ ?_ ?_; rotate_left; (rintro w ⟨z0, z1⟩; go_simp; with_reducible rfl); simp only [Act.put, List.setIfInBounds_toArray, List.set_cons_zero, List.set_cons_succ]) | (refine wpL_skip (by rfl) ?_; simp only [Act.put, List.setIfInBounds_toArray, List.set_cons_zero, List.set_cons_succ]))
            refine wpL_act (by rfl) (by rfl) (fun K hK => ?_)
            have HZ := hid (show Has y3 (pt h1 (.cells (ansC (ansE 0) nilV nilV) 29) :: Trc q S' :: [old W]) from HA3.out.re 3 [1, 0, 2])
            have hz0 : y3.cell? ⟨h1, 0, none⟩ = some (.int .i64 0) := (HZ.out).cells 0
            have hz1 : y3.cell? ⟨h1, 1, none⟩ = some (.int .i64 0) := (HZ.out).cells 1
            have hz2 : y3.cell? ⟨h1, 2, none⟩ = some (.int .i64 0) := (HZ.out).cells 2
            have hz3 : y3.cell? ⟨h1, 3, none⟩ = some (.int .i64 0) := (HZ.out).cells 3
            have hz4 : y3.cell? ⟨h1, 4, none⟩ = some (.slice none 0 0) := (HZ.out).cells 4
            have hz5 : y3.cell? ⟨h1, 5, none⟩ = some (.slice none 0 0) := (HZ.out).cells 5
            have hy0 := (HZ.out).thaw 0
            have hy1 := (HZ.out).thaw 1
            have hy2 := (HZ.out).thaw 2
            have hy3 := (HZ.out).thaw 3
            have hy4 := (HZ.out).thaw 4
            have hy5 := (HZ.out).thaw 5
            go_simp
            have hF := HZ.out.ans (ansE c) nilV nilV
            have hG := HB3.out.ans h1 (.int .i64 c) (.int .i64 0) (.int .i64 0) (.int .i64 0) nilV nilV
            refine hK.out _ _ ⟨HC0.out _ _ hF.p2, trivial⟩ ?_
            clear hK K
            try simp only [Act.put, List.setIfInBounds_toArray, List.set_cons_zero, List.set_cons_succ]
            refine wpL_nil ?_
            go_wp2_with fail
            go_meet
            exact ⟨_, c, S', m', _, rfl, rfl, hcm, HN', hid hF, hid hG⟩
          go_simp
          have HA1 := hid (HOd.out.alloc (.cells #[.int .u8 (97 + (a : Int)), .int .u8 (97 + (b : Int))] 5))
          have HB1 := hid (HKd.out.alloc (.cells #[.int .u8 (97 + (a : Int)), .int .u8 (97 + (b : Int))] 5))
          refine hK.out _ _ ⟨HC0.out _ _ (HA1.out.re 3 [2]), trivial⟩ ?_
          clear hK K
          try simp only [Act.put, List.setIfInBounds_toArray, List.set_cons_zero, List.set_cons_succ]
          generalize wd.heap.size = h1 at *
          generalize wd.alloc (.cells #[.int .u8 (97 + (a : Int)), .int .u8 (97 + (b : Int))] 5) = y1 at *
          repeat (first
            | (refine wpLF_read (by rfl) (by rfl) ?_ ?_ ?_; rotate_left; (rintro w ⟨z0, z1⟩; go_simp; with_reducible rfl); simp only [Act.put, List.setIfInBounds_toArray, List.set_cons_zero, List.set_cons_succ]) | (refine wpLF_skip (by rfl) (by rfl) ?_; simp only [Act.put, List.setIfInBounds_toArray, List.set_cons_zero, List.set_cons_succ]))
          refine wpLF_act (by rfl) (by rfl) ?_ (fun K hK => ?_)
          · refine wpL_act (by rfl) (by rfl) (fun K hK => ?_)
            go_simp
            have HA2 := hid (HA1.out.alloc (.cells #[.int .i64 0, .int .i64 0, .int .i64 0, .int .i64 0, .slice none 0 0, .slice none 0 0] 29))
            have HB2 := hid (HB1.out.alloc (.cells #[.int .i64 0, .int .i64 0, .int .i64 0, .int .i64 0, .slice none 0 0, .slice none 0 0] 29))
            refine hK.out _ _ ⟨HC0.out _ _ (HA2.out.re 4 [3]), trivial⟩ ?_
            clear hK K
            try simp only [Act.put, List.setIfInBounds_toArray, List.set_cons_zero, List.set_cons_succ]
            generalize y1.heap.size = h2 at *
            generalize y1.alloc (.cells #[.int .i64 0, .int .i64 0, .int .i64 0, .int .i64 0, .slice none 0 0, .slice none 0 0] 29) = y2 at *
            repeat (first
              | (refine wpL_read (by rfl) (by rfl) ?_ ?_ ?_; rotate_left; (rintro w ⟨z0, z1⟩; go_simp; with_reducible rfl); simp only [Act.put, List.setIfInBounds_toArray, List.set_cons_zero, List.set_cons_succ]) | (refine wpL_skip (by rfl) ?_; simp only [Act.put, List.setIfInBounds_toArray, List.set_cons_zero, List.set_cons_succ]))
            refine wpL_act (by rfl) (by rfl) (fun K hK => ?_)
            have hcv := conv2 ha1 hb1 (show Has y2 (pt h1 (.cells #[.int .u8 (97 + (a : Int)), .int .u8 (97 + (b : Int))] 5) :: _) from HA2.out.re 4 [1])
            refine wp_valueC (v := .string (sB (nm2 a b))) hcv (by rfl) (by rfl) ?_
            refine hK.out _ _ ⟨HC0.out _ _ (HA2.out.re 4 [3]), trivial⟩ ?_
            clear hK K
            try simp only [Act.put, List.setIfInBounds_toArray, List.set_cons_zero, List.set_cons_succ]
            repeat (first
              | (refine wpL_read (by rfl) (by rfl) ?_ ?_ ?_; rotate_left; (rintro w ⟨z0, z1⟩; go_simp; with_reducible rfl); simp only [Act.put, List.setIfInBounds_toArray, List.set_cons_zero, List.set_cons_succ]) | (refine wpL_skip (by rfl) ?_; simp only [Act.put, List.setIfInBounds_toArray, List.set_cons_zero, List.set_cons_succ]))
            refine wpL_act (by rfl) (by rfl) (fun K hK => ?_)
            go_simp
            rw [str_add]
            refine (nMkdir q S k m mx y2 _ ((HM.out).cons _) (by omega) HN.out (nm2 a b) (good_nm2 ⟨a, by omega⟩ ⟨b, by omega⟩) (HA2.out.re 4 [2, 0, 3])).mono ?_
            rintro e y3 ⟨c, S', m', rfl, hcm, hN', hO', hK'⟩
            have HA3 := hid hO'
            have HB3 := hid (HB2.out.trans hK')
            have HN' := hid hN'
            clear hO' hK' hN'
            try dsimp only
            refine hK.out _ _ ⟨HC0.out _ _ (HA3.out.re 3 [2]), trivial⟩ ?_
            clear hK K
            try simp only [Act.put, List.setIfInBounds_toArray, List.set_cons_zero, List.set_cons_succ]
            repeat (first
              | (refine wpL_read (by rfl) (by rfl) ?_ ?_ ?_; rotate_left; (rintro w ⟨z0, z1⟩; go_simp; with_reducible rfl); simp only [Act.put, List.setIfInBounds_toArray, List.set_cons_zero, List.set_cons_succ]) | (refine wpL_skip (by rfl) ?_; simp only [Act.put, List.setIfInBounds_toArray, List.set_cons_zero, List.set_cons_succ]))
            refine wpL_act (by rfl) (by rfl) (fun K hK => ?_)
            have HZ := hid (show Has y3 (pt h2 (.cells (ansC (ansE 0) nilV nilV) 29) :: Trc q S' :: [old W]) from HA3.out.re 3 [1, 0, 2])
            have hz0 : y3.cell? ⟨h2, 0, none⟩ = some (.int .i64 0) := (HZ.out).cells 0
            have hz1 : y3.cell? ⟨h2, 1, none⟩ = some (.int .i64 0) := (HZ.out).cells 1
            have hz2 : y3.cell? ⟨h2, 2, none⟩ = some (.int .i64 0) := (HZ.out).cells 2
            have hz3 : y3.cell? ⟨h2, 3, none⟩ = some (.int .i64 0) := (HZ.out).cells 3
            have hz4 : y3.cell? ⟨h2, 4, none⟩ = some (.slice none 0 0) := (HZ.out).cells 4
            have hz5 : y3.cell? ⟨h2, 5, none⟩ = some (.slice none 0 0) := (HZ.out).cells 5
            have hy0 := (HZ.out).thaw 0
            have hy1 := (HZ.out).thaw 1
            have hy2 := (HZ.out).thaw 2
            have hy3 := (HZ.out).thaw 3
            have hy4 := (HZ.out).thaw 4
            have hy5 := (HZ.out).thaw 5
            go_simp
            have hF := HZ.out.ans (ansE c) nilV nilV
            have hG := HB3.out.ans h2 (.int .i64 c) (.int .i64 0) (.int .i64 0) (.int .i64 0) nilV nilV
            refine hK.out _ _ ⟨HC0.out _ _ hF.p2, trivial⟩ ?_
            clear hK K
            try simp only [Act.put, List.setIfInBounds_toArray, List.set_cons_zero, List.set_cons_succ]
            refine wpL_nil ?_
            go_wp2_with fail
            go_meet
            exact ⟨_, c, S', m', _, rfl, rfl, hcm, HN', hid hF, hid hG⟩
          have hcv := conv2 ha1 hb1 (show Has y1 (pt h1 (.cells #[.int .u8 (97 + (a : Int)), .int .u8 (97 + (b : Int))] 5) :: _) from HA1.out.re 3 [0])
          refine wp_valueC (v := .string (sB (nm2 a b))) hcv (by rfl) (by rfl) ?_
          refine hK.out _ _ ⟨HC0.out _ _ (HA1.out.re 3 [2]), trivial⟩ ?_
          clear hK K
          try simp only [Act.put, List.setIfInBounds_toArray, List.set_cons_zero, List.set_cons_succ]
          repeat (first
            | (refine wpLF_read (by rfl) (by rfl) ?_ ?_ ?_; rotate_left; (rintro w ⟨z0, z1⟩; go_simp; with_reducible rfl); simp only [Act.put, List.setIfInBounds_toArray, List.set_cons_zero, List.set_cons_succ]) | (refine wpLF_skip (by rfl) (by rfl) ?_; simp only [Act.put, List.setIfInBounds_toArray, List.set_cons_zero, List.set_cons_succ]))
          refine wpLF_act (by rfl) (by rfl) ?_ (fun K hK => ?_)
          · refine wpL_act (by rfl) (by rfl) (fun K hK => ?_)
            go_simp
            have HA2 := hid (HA1.out.alloc (.cells #[.int .i64 0, .int .i64 0, .int .i64 0, .int .i64 0, .slice none 0 0, .slice none 0 0] 29))
            have HB2 := hid (HB1.out.alloc (.cells #[.int .i64 0, .int .i64 0, .int .i64 0, .int .i64 0, .slice none 0 0, .slice none 0 0] 29))
            refine hK.out _ _ ⟨HC0.out _ _ (HA2.out.re 4 [3]), trivial⟩ ?_
            clear hK K
            try simp only [Act.put, List.setIfInBounds_toArray, List.set_cons_zero, List.set_cons_succ]
            generalize y1.heap.size = h2 at *
            generalize y1.alloc (.cells #[.int .i64 0, .int .i64 0, .int .i64 0, .int .i64 0, .slice none 0 0, .slice none 0 0] 29) = y2 at *
            repeat (first
              | (refine wpL_read (by rfl) (by rfl) ?_ ?_ ?_; rotate_left; (rintro w ⟨z0, z1⟩; go_simp; with_reducible rfl); simp only [Act.put, List.setIfInBounds_toArray, List.set_cons_zero, List.set_cons_succ]) | (refine wpL_skip (by rfl) ?_; simp only [Act.put, List.setIfInBounds_toArray, List.set_cons_zero, List.set_cons_succ]))
            refine wpL_act (by rfl) (by rfl) (fun K hK => ?_)
            go_simp
            rw [str_add]
            refine (nMkdir q S k m mx y2 _ ((HM.out).cons _) (by omega) HN.out (nm2 a b) (good_nm2 ⟨a, by omega⟩ ⟨b, by omega⟩) (HA2.out.re 4 [2, 0, 3])).mono ?_
            rintro e y3 ⟨c, S', m', rfl, hcm, hN', hO', hK'⟩
            have HA3 := hid hO'
            have HB3 := hid (HB2.out.trans hK')
            have HN' := hid hN'
            clear hO' hK' hN'
            try dsimp only
            refine hK.out _ _ ⟨HC0.out _ _ (HA3.out.re 3 [2]), trivial⟩ ?_
            clear hK K
            try simp only [Act.put, List.setIfInBounds_toArray, List.set_cons_zero, List.set_cons_succ]
            repeat (first
              | (refine wpL_read (by rfl) (by rfl) ?_ ?_ ?_; rotate_left; (rintro w ⟨z0, z1⟩; go_simp; with_reducible rfl); simp only [Act.put, List.setIfInBounds_toArray, List.set_cons_zero, List.set_cons_succ]) | (refine wpL_skip (by rfl) ?_; simp only [Act.put, List.setIfInBounds_toArray, List.set_cons_zero, List.set_cons_succ]))
            refine wpL_act (by rfl) (by rfl) (fun K hK => ?_)
            have HZ := hid (show Has y3 (pt h2 (.cells (ansC (ansE 0) nilV nilV) 29) :: Trc q S' :: [old W]) from HA3.out.re 3 [1, 0, 2])
            have hz0 : y3.cell? ⟨h2, 0, none⟩ = some (.int .i64 0) := (HZ.out).cells 0
            have hz1 : y3.cell? ⟨h2, 1, none⟩ = some (.int .i64 0) := (HZ.out).cells 1
            have hz2 : y3.cell? ⟨h2, 2, none⟩ = some (.int .i64 0) := (HZ.out).cells 2
            have hz3 : y3.cell? ⟨h2, 3, none⟩ = some (.int .i64 0) := (HZ.out).cells 3
            have hz4 : y3.cell? ⟨h2, 4, none⟩ = some (.slice none 0 0) := (HZ.out).cells 4
            have hz5 : y3.cell? ⟨h2, 5, none⟩ = some (.slice none 0 0) := (HZ.out).cells 5
            have hy0 := (HZ.out).thaw 0
            have hy1 := (HZ.out).thaw 1
            have hy2 := (HZ.out).thaw 2
            have hy3 := (HZ.out).thaw 3
            have hy4 := (HZ.out).thaw 4
            have hy5 := (HZ.out).thaw 5
            go_simp
            have hF := HZ.out.ans (ansE c) nilV nilV
            have hG := HB3.out.ans h2 (.int .i64 c) (.int .i64 0) (.int .i64 0) (.int .i64 0) nilV nilV
            refine hK.out _ _ ⟨HC0.out _ _ hF.p2, trivial⟩ ?_
            clear hK K
            try simp only [Act.put, List.setIfInBounds_toArray, List.set_cons_zero, List.set_cons_succ]
            refine wpL_nil ?_
            go_wp2_with fail
            go_meet
            exact ⟨_, c, S', m', _, rfl, rfl, hcm, HN', hid hF, hid hG⟩
          go_simp
          rw [str_add]
          refine (nMkdir q S k m mx y1 _ (HM.out) (by omega) HN.out (nm2 a b) (good_nm2 ⟨a, by omega⟩ ⟨b, by omega⟩) (HA1.out.re 3 [1, 2])).mono ?_
          rintro e y2 ⟨c, S', m', rfl, hcm, hN', hO', hK'⟩
          have HA2 := hid hO'
          have HB2 := hid (HB1.out.trans hK')
          have HN' := hid hN'
          clear hO' hK' hN'
          try dsimp only
          refine hK.out _ _ ⟨HC0.out _ _ (HA2.out.re 2 [1]), trivial⟩ ?_
          clear hK K
          try simp only [Act.put, List.setIfInBounds_toArray, List.set_cons_zero, List.set_cons_succ]
          repeat (first
            | (refine wpLF_read (by rfl) (by rfl) ?_ ?_ ?_; rotate_left; (rintro w ⟨z0, z1⟩; go_simp; with_reducible rfl); simp only [Act.put, List.setIfInBounds_toArray, List.set_cons_zero, List.set_cons_succ]) | (refine wpLF_skip (by rfl) (by rfl) ?_; simp only [Act.put, List.setIfInBounds_toArray, List.set_cons_zero, List.set_cons_succ]))
          refine wpLF_nil ?_
          refine wpL_act (by rfl) (by rfl) (fun K hK => ?_)
          go_simp
          have HA3 := hid (HA2.out.alloc (.cells #[.int .i64 0, .int .i64 0, .int .i64 0, .int .i64 0, .slice none 0 0, .slice none 0 0] 29))
          have HB3 := hid (HB2.out.alloc (.cells #[.int .i64 0, .int .i64 0, .int .i64 0, .int .i64 0, .slice none 0 0, .slice none 0 0] 29))
          refine hK.out _ _ ⟨HC0.out _ _ (HA3.out.re 3 [2]), trivial⟩ ?_
          clear hK K
          try simp only [Act.put, List.setIfInBounds_toArray, List.set_cons_zero, List.set_cons_succ]
          generalize y2.heap.size = h3 at *
          generalize y2.alloc (.cells #[.int .i64 0, .int .i64 0, .int .i64 0, .int .i64 0, .slice none 0 0, .slice none 0 0] 29) = y3 at *
          repeat (first
            | (refine wpL_read (by rfl) (by rfl) ?_ ?_ ?_; rotate_left; (rintro w ⟨z0, z1⟩; go_simp; with_reducible rfl); simp only [Act.put, List.setIfInBounds_toArray, List.set_cons_zero, List.set_cons_succ]) | (refine wpL_skip (by rfl) ?_; simp only [Act.put, List.setIfInBounds_toArray, List.set_cons_zero, List.set_cons_succ]))
          refine wpL_act (by rfl) (by rfl) (fun K hK => ?_)
          have HZ := hid (show Has y3 (pt h3 (.cells (ansC (ansE 0) nilV nilV) 29) :: Trc q S' :: [old W]) from HA3.out.re 3 [0, 1, 2])
          have hz0 : y3.cell? ⟨h3, 0, none⟩ = some (.int .i64 0) := (HZ.out).cells 0
          have hz1 : y3.cell? ⟨h3, 1, none⟩ = some (.int .i64 0) := (HZ.out).cells 1
          have hz2 : y3.cell? ⟨h3, 2, none⟩ = some (.int .i64 0) := (HZ.out).cells 2
          have hz3 : y3.cell? ⟨h3, 3, none⟩ = some (.int .i64 0) := (HZ.out).cells 3
          have hz4 : y3.cell? ⟨h3, 4, none⟩ = some (.slice none 0 0) := (HZ.out).cells 4
          have hz5 : y3.cell? ⟨h3, 5, none⟩ = some (.slice none 0 0) := (HZ.out).cells 5
          have hy0 := (HZ.out).thaw 0
          have hy1 := (HZ.out).thaw 1
          have hy2 := (HZ.out).thaw 2
          have hy3 := (HZ.out).thaw 3
          have hy4 := (HZ.out).thaw 4
          have hy5 := (HZ.out).thaw 5
          go_simp
          have hF := HZ.out.ans (ansE c) nilV nilV
          have hG := HB3.out.ans h3 (.int .i64 c) (.int .i64 0) (.int .i64 0) (.int .i64 0) nilV nilV
          refine hK.out _ _ ⟨HC0.out _ _ hF.p2, trivial⟩ ?_
          clear hK K
          try simp only [Act.put, List.setIfInBounds_toArray, List.set_cons_zero, List.set_cons_succ]
          refine wpL_nil ?_
          go_wp2_with fail
          go_meet
          exact ⟨_, c, S', m', _, rfl, rfl, hcm, HN', hid hF, hid hG⟩
        case rest =>
          clear HOw HKw
          obtain ⟨g6, c, S', m', w2, rfl, rfl, hcm, HN', HO2, HK2⟩ := hcut
          have hc0 : w2.cell? ⟨g6, 0, none⟩ = some (.int .i64 c) := HO2.out.cells 0
          rcases hcm with ⟨rfl, rfl⟩ | ⟨rfl, rfl⟩
          · go_wp2_with fail
            go_roundw
            case rel => exact ⟨k + 1, _, S', _, rfl, by omega, by omega, by go_num, by go_num, HN', hid HO2.out.drop, HK2⟩
            case measure => simp [intOf]; omega
          · go_wp2_with fail
            go_roundw
            case rel => exact ⟨k + 1, _, S', _, rfl, by omega, by omega, by go_num, rfl, HN', hid HO2.out.drop, HK2⟩
            case measure => simp [intOf]; omega
      · obtain rfl : k = xs.length := by omega
        have hki : ¬ (xs.length : Int) < (xs.length : Int) := by omega
        go_wp2_with fail
        refine (nList q S xs.length m mx w0 [old W] HM.out (by omega) HN.out HOw.out).mono ?_
        rintro e w2 ⟨p2, c2, l, dp, dc, rfl, hll, hlp, hO2, hK2⟩
        have HO2 := hid hO2
        have HK2 := hid ((HKw.out).trans hK2)
        clear hO2 hK2
        try dsimp only
        clear HOw HKw
        have hl30 : l.length ≤ 30 := by omega
        have HLL := hid hll
        clear hll
        go_upto_region 16 with fail
        have HP2 := hid (HO2.out.alloc (.cells #[.int .i64 0, .int .i64 0, .int .i64 0, .int .i64 0, .slice dp 0 dc, .slice p2 l.length c2] 29))
        have HQ2 := hid (HK2.out.alloc (.cells #[.int .i64 0, .int .i64 0, .int .i64 0, .int .i64 0, .slice dp 0 dc, .slice p2 l.length c2] 29))
        clear HO2 HK2
        generalize w2.alloc (.cells #[.int .i64 0, .int .i64 0, .int .i64 0, .int .i64 0, .slice dp 0 dc, .slice p2 l.length c2] 29) = y2 at *
        generalize w2.heap.size = g2 at *
        have HLP := hid hlp
        clear hlp
        go_wp2_with fail
        go_loopw [8] (fun i w => ∃ (j n : Nat), 1 ≤ j ∧ (j ≤ l.length ∨ j = 1) ∧ i = .int .i64 j ∧ w = y2.drewN n) (fun i _ => l.length + 2 - (intOf i).toNat)
        case atStart => exact ⟨1, 0, by omega, by omega, rfl, rfl⟩
        case round =>
          obtain ⟨j, n, hj1, hj2, rfl, rfl⟩ := hrel
          have HPn := hid (HP2.out.drewN n)
          have HQn := hid (HQ2.out.drewN n)
          generalize hwn : y2.drewN n = wn at *
          have HWN := hid hwn.symm
          clear hwn
          have hc5 : wn.cell? ⟨g2, 5, none⟩ = some (.slice p2 l.length c2) := HPn.out.cells 5
          by_cases hjl : j < l.length
          · have hji : (j : Int) < (l.length : Int) := by omega
            have hj0 : (0 : Int) ≤ (j : Int) := by omega
            have hj3 : (1 : Int) ≤ (j : Int) := by omega
            have hj9 : (j : Int) - 1 < (l.length : Int) := by omega
            have hj8 : (0 : Int) ≤ (j : Int) - 1 := by omega
            obtain ⟨_, _, hfe, -, -, hfc⟩ := (Strs.rd HPn.out.p1).form
            simp only [Value.slice.injEq] at hfe
            obtain ⟨rfl, -, rfl⟩ := hfe
            obtain ⟨g0, o0, rfl, hcn⟩ := hfc (by omega)
            obtain ⟨i, hij⟩ : ∃ i, j = i + 1 := ⟨j - 1, by omega⟩
            have hi1 : (j : Int) - 1 = (i : Int) := by omega
            have wj : IntKind.i64.wrap (i : Int) = (i : Int) := wrapk_in _ (by omega)
            have hi0 : (0 : Int) ≤ (i : Int) := by omega
            have hil : (i : Int) < (l.length : Int) := by omega
            have hca : wn.drew.cell? ⟨g0, o0 + j, none⟩ = some (sV l[j]) := by
              have h := hcn j (by omega)
              rw [List.getElem?_map, List.getElem?_eq_getElem hjl] at h
              exact h
            have hcb : wn.drew.cell? ⟨g0, o0 + i, none⟩ = some (sV (l[i]'(by omega))) := by
              have h := hcn i (by omega)
              rw [List.getElem?_map, List.getElem?_eq_getElem (by omega)] at h
              exact h
            have hcc : wn.drew.cell? ⟨g2, 5, none⟩ = some (.slice (some ⟨g0, o0, none⟩) l.length c2) := hc5
            have hlt : l[i]'(by omega) < l[j] := List.pairwise_iff_getElem.1 HLP.out i j (by omega) hjl (by omega)
            obtain ⟨hb1, hb2⟩ := bytesLess_no hlt
            have HIJ := hid hij
            clear hlt
            generalize l[j] = sa at *
            generalize l[i]'(by omega) = sb at *
            clear hij
            go_upto_region 19 with fail
            refine region_text (fun w' => w'.cell? ⟨g0, o0 + j, none⟩ = some (sV sa) ∧ w'.cell? ⟨g0, o0 + i, none⟩ = some (sV sb) ∧ w'.cell? ⟨g2, 5, none⟩ = some (.slice (some ⟨g0, o0, none⟩) l.length c2)) (by kernel_rfl) (by kernel_rfl) ⟨hca, hcb, hcc⟩ ?_
            repeat (first
              | (refine wpL_read (by rfl) (by rfl) ?_ ?_ ?_; rotate_left; (rintro w ⟨z0, z1, z2⟩; go_simp; with_reducible rfl); simp only [Act.put, List.setIfInBounds_toArray, List.set_cons_zero, List.set_cons_succ]) | (refine wpL_skip (by rfl) ?_; simp only [Act.put, List.setIfInBounds_toArray, List.set_cons_zero, List.set_cons_succ]))
            refine wpL_nil ?_
            go_wp2_with fail
            go_roundw
            case rel => exact ⟨j + 1, n + 1, by omega, by omega, by go_num, by rw [HWN.out]; rfl⟩
            case measure => simp [intOf]; omega
          · have hji : ¬ (j : Int) < (l.length : Int) := by omega
            go_wp2_with fail
            refine (nStat q S xs.length m mx wn (pt g2 (.cells #[.int .i64 0, .int .i64 0, .int .i64 0, .int .i64 0, .slice dp 0 dc, .slice p2 l.length c2] 29) :: Strs (.slice p2 l.length c2) l :: [old W]) ((HM.out.cons _).cons _) (by omega) HN.out (HPn.out.re 4 [2, 0, 1, 3])).mono ?_
            rintro e w3 ⟨rfl, hO3, hK3⟩
            have HO3 := hid hO3
            have HK3 := hid ((HQn.out).trans hK3)
            clear hO3 hK3
            try dsimp only
            go_upto_region 22 with fail
            have HP3 := hid (HO3.out.alloc (.cells #[.int .i64 0, .int .i64 m, .int .i64 2, .int .i64 1, .slice none 0 0, .slice none 0 0] 29))
            have HQ3 := hid (HK3.out.alloc (.cells #[.int .i64 0, .int .i64 m, .int .i64 2, .int .i64 1, .slice none 0 0, .slice none 0 0] 29))
            clear HO3 HK3 HP2 HQ2 HPn HQn hc5
            generalize w3.alloc (.cells #[.int .i64 0, .int .i64 m, .int .i64 2, .int .i64 1, .slice none 0 0, .slice none 0 0] 29) = y3 at *
            generalize w3.heap.size = g3 at *
            have hc5 : y3.cell? ⟨g2, 5, none⟩ = some (.slice p2 l.length c2) := HP3.out.p2.cells 5
            have hc1 : y3.cell? ⟨g3, 1, none⟩ = some (.int .i64 m) := HP3.out.cells 1
            have hc2 : y3.cell? ⟨g3, 2, none⟩ = some (.int .i64 2) := HP3.out.cells 2
            have hc3 : y3.cell? ⟨g3, 3, none⟩ = some (.int .i64 1) := HP3.out.cells 3
            have hlm : ((l.length : Int) == (m : Int)) = true := by simp [HLL.out]
            have hmm : ((m : Int) == (m : Int)) = true := by simp
            go_wp2_with fail
            refine (awake14 mx y3 _ ((((HM.out.cons _).cons _).cons _).cons _) HP3.out).mono ?_
            rintro e w4 ⟨rfl, hO4, hK4⟩
            have HO4 := hid hO4
            have HK4 := hid ((HQ3.out).trans hK4)
            clear hO4 hK4
            try dsimp only
            go_wp2_with fail
            go_ret
            exact ⟨rfl, (HO4.out.re 5 [4]).below HK4.out.os HK4.out.tape HK4.out.output⟩
  · have hli : (30 : Int) < (xs.length : Int) := by omega
    go_enter Tryz.func9, Tryz.ntmps9
    go_wp2_with fail
    refine (awake14 mx W [old W] HM.out HO.out).mono ?_
    rintro e w1 ⟨rfl, hO1, hK1⟩
    have HO1 := hid hO1
    have HK1 := hid ((Keep.refl W).trans hK1)
    clear hO1 hK1
    try dsimp only
    go_wp2_with fail
    go_ret
    exact ⟨rfl, HO1.out.below HK1.out.os HK1.out.tape HK1.out.output⟩
end Go.Proofs.YtfhaedkaedffcaaGreatDoor
/- What the frames of chapter 14's cards share: the listed data met, and the world's shape kept. -/
namespace Go.Proofs.YtfhaedkaedffcaaGreatDoor
open Go.ChangeShapes Go.WideShapes Go.ChangeAt Go.RowKit
variable {H : Type} {enc : TypeId × Value → H}
theorem handed_and_shaped {a : Assume} {C : Checked} {os : Os} {f : FuncId} {fn : Func} {s : ChangeSpec} {conds : List PathCond} {apart fresh handsOn again : Bool} {X : World → Array Value → Prop}
    (hX : ∀ (w w' : World) (args : Array Value), w.heap = w'.heap → X w args → X w' args)
    (own : ownKnob C.prog.godebug = none) (started : os.Started) (noInit : C.prog.inits.idxOf? f = none) (hfn : C.prog.funcs[f]? = some fn)
    (witness : ∃ (w : World) (tape : Tape) (i : Input), w.os = os ∧ (w.forCall tape i).Shaped C.prog ∧ i.vars = [] ∧ Input.okWide C.prog (w.forCall tape i) .any w.heap.size f i ∧
      ((s.pre enc C.prog fn conds apart (w.forCall tape i).memory i.args ∧ X (w.forCall tape i).memory i.args) ∧ sizedMet enc C.prog fn (OpenSpec.ofChange s) apart (w.forCall tape i).memory i.args) ∧ a.holds C.prog (lone (Frame.enter C.prog f i.args .normal) [] (w.forCall tape i)))
    (contract : ∀ (W : World) (base : Nat) (args : Array Value) (ds gs : List (DataW H)) (before : List MemPlace),
      (∀ (j : Nat) t v, fn.params[j]? = some t → args[j]? = some v → Value.okWide C.prog W .any base t v) →
      DataW.Whole enc C.prog fn.params.toList s.vars apart W args.toList ds gs before →
      conds.all (PathCond.test C.prog ⟨fn.params.toList, ds, s.plain.varTypes C.prog, gs⟩) = true →
      (DataW.weightsEach C.prog (fn.params.toList ++ s.plain.varTypes C.prog) (ds ++ gs)).all (· ≤ reachBytes) = true → X W args → W.ShapedOpen C.prog →
      a.holds C.prog (lone (Frame.enter C.prog f args .normal) [] W) →
      Calls C.prog f args W fun e W' => ∃ v, e = .returned v ∧ s.post enc C.prog fn apart fresh handsOn again W args v W') :
    ReturnsInHanded a C os f .any (fun w args => (s.pre enc C.prog fn conds apart w args ∧ X w args) ∧ sizedMet enc C.prog fn (OpenSpec.ofChange s) apart w args) (s.post enc C.prog fn apart fresh handsOn again) := by
  refine returnsInHanded_of_calls own started noInit witness ?_
  intro w tape i _ hsh _ hok hpre hholds
  obtain ⟨_, _, _, fn', hfn', _, _, _, _, hval⟩ := hok
  have e : fn' = fn := Option.some.inj (hfn'.symm.trans hfn)
  subst e
  obtain ⟨⟨⟨ds, gs, before, hw, hc⟩, hx⟩, hz⟩ := hpre
  have hw' := DataW.Whole.of_heap (w' := w.forCall tape i) (by rfl) hw
  refine (contract (w.forCall tape i) w.heap.size i.args ds gs before hval hw' hc (hz.weights hw) (hX _ _ _ (by rfl) hx) hsh hholds).mono fun e W' ⟨v, he, hp⟩ => ?_
  subst he
  exact ChangeSpec.post_blind hp
theorem mx_shaped {W : World} (h : W.ShapedOpen Tryz.prog) : ∃ m, W.cell? ⟨0, 0, none⟩ = some (.int .i64 m) :=
  cell_of_shapedOpen_int (P := Tryz.prog) (g := 0) (t := 3) (zero := #[.int .i64 0]) h (of_decide_eq_true (by kernel_rfl)) (by kernel_rfl) rfl (by kernel_rfl) (by kernel_rfl) Tryz.underlying3
end Go.Proofs.YtfhaedkaedffcaaGreatDoor
/- HOW ARGUMENTS ARE OPENED: from the form's reading to cells. No program in sight. -/
namespace Go.Own
open Go.ChangeShapes Go.WideShapes Go.ChangeAt Go.RowKit
theorem flat_len (n size : Nat) (C : Nat → List Value) (h : ∀ i, i < n → (C i).length = size) : ((List.range n).flatMap C).length = n * size := by
  induction n with
  | zero => simp
  | succ n ih =>
    rw [List.range_succ, List.flatMap_append, List.length_append, ih fun i hi => h i (by omega)]
    simp [h n (by omega), Nat.succ_mul]
theorem flat_drop (n size : Nat) (C : Nat → List Value) (h : ∀ i, i < n → (C i).length = size) (i : Nat) (hi : i < n) :
    ∃ R, ((List.range n).flatMap C).drop (i * size) = C i ++ R := by
  induction n with
  | zero => omega
  | succ n ih =>
    rw [List.range_succ, List.flatMap_append]
    have hl := flat_len n size C fun i hi => h i (by omega)
    by_cases hin : i = n
    · subst hin
      refine ⟨[], ?_⟩
      rw [List.drop_append_of_le_length (by rw [hl]; exact Nat.le_refl _), List.drop_of_length_le (by rw [hl]; exact Nat.le_refl _)]
      simp
    · obtain ⟨R, hR⟩ := ih (fun i hi => h i (by omega)) (by omega)
      refine ⟨R ++ [n].flatMap C, ?_⟩
      rw [List.drop_append_of_le_length (by rw [hl]; exact Nat.mul_le_mul_right _ (by omega)), hR, List.append_assoc]
theorem flat_slice (n size : Nat) (C : Nat → List Value) (h : ∀ i, i < n → (C i).length = size) (i : Nat) (hi : i < n) :
    (((List.range n).flatMap C).drop (i * size)).take size = C i := by
  obtain ⟨R, hR⟩ := flat_drop n size C h i hi
  rw [hR, ← h i hi, List.take_left]
theorem flatO_at (n size : Nat) (C : Nat → List Value) (h : ∀ i, i < n → (C i).length = size) (i : Nat) (hi : i < n) (j : Nat) (hj : j < size) :
    (C i)[j]? = ((List.range n).flatMap C)[i * size + j]? := by
  rw [← flat_slice n size C h i hi, List.getElem?_take, if_pos hj, List.getElem?_drop]
theorem cells?_parts {w : World} {b : Nat} {a : Addr} {n : Nat} {cs : List Value} (h : w.cells? b a n = some cs) : cs.length = n ∧ ∀ j, j < n → w.cell? (a.add j) = cs[j]? := by
  unfold World.cells? at h
  split at h
  · have : ∀ (l : List Nat) (cs : List Value), (l.mapM fun i => w.cell? (a.add i)) = some cs → cs.length = l.length ∧ ∀ (j i : Nat), l[j]? = some i → w.cell? (a.add i) = cs[j]? := by
      intro l
      induction l with
      | nil => intro cs h; simp at h; subst h; simp
      | cons x l ih =>
        intro cs h
        simp only [List.mapM_cons, Option.pure_def, Option.bind_eq_bind] at h
        obtain ⟨y, hy, h⟩ := Option.bind_eq_some_iff.1 h
        obtain ⟨ys, hys, h⟩ := Option.bind_eq_some_iff.1 h
        cases h
        obtain ⟨h1, h2⟩ := ih ys hys
        refine ⟨by simp [h1], fun j i hj => ?_⟩
        cases j with
        | zero => simp at hj; subst hj; simpa using hy
        | succ j => simpa using h2 j i (by simpa using hj)
    obtain ⟨h1, h2⟩ := this _ _ h
    refine ⟨by simpa using h1, fun j hj => h2 j j (by simp [hj])⟩
  · cases h
section
variable {H : Type} {enc : TypeId × Value → H} {P : Program} {W : World} {base : Nat} {spare : Nat → Bool} {held : Bool}
/-- A slice of elements of whatever type: its cells in a list, each element's own cells read on. -/
theorem open_rd {t e size : Nat} {v : Value} {d : DataW H} {ps : List MemPlace} {r : Reach} {b0 : Nat} (ht : P.underlying t = some (.slice e)) (hc : P.cellsOf e = size) (hv : Value.okWide P W r b0 t v)
    (h : DataW.Trod enc P W base spare held t v d ps) :
    ∃ (n fuel : Nat) (xs : List Value), Rd W v size n xs ∧ ∀ i, i < n → ∃ x, DataW.trod enc P W base spare held fuel e ((xs.drop (i * size)).take size) = some x := by
  obtain ⟨p, len, cap, rfl⟩ := okWide_slice ht hv
  obtain ⟨fuel, hf⟩ := h
  rcases Deep.open_slice ht hf with ⟨hcs, _⟩ | ⟨a, len', cap', m, n, D, Pl, hcs, hb, hl, hm, hmm, hx, hel⟩
  · simp [Value.cells] at hcs
    obtain ⟨rfl, rfl, rfl⟩ := hcs
    exact ⟨0, 0, [], ⟨by simp, Nat.zero_le _, none, 0, rfl, Nat.le_refl _, fun h => absurd h (by simp)⟩, fun i hi => absurd hi (by simp)⟩
  · simp [Value.cells] at hcs
    obtain ⟨rfl, rfl, rfl⟩ := hcs
    rw [hc] at hel
    have hlm : len ≤ m := by rw [hmm]; split <;> omega
    obtain ⟨C, hC⟩ := Deep.choose_lt (α := List Value) (p := fun i cs' => W.cells? base (a.add (i * size)) size = some cs' ∧ DataW.trod enc P W base spare held n e cs' = some (D i, Pl i)) (fun i hi => hel i (by omega : i < m))
    have hlen : ∀ i, i < len → (C i).length = size ∧ ∀ j, j < size → W.cell? ((a.add (i * size)).add j) = (C i)[j]? := fun i hi => cells?_parts (hC i (by omega)).1
    refine ⟨len, n, (List.range len).flatMap C, ⟨flat_len len size C fun i hi => (hlen i hi).1, by omega, some a, cap, rfl, hl, fun hp => ?_⟩, fun i hi => ⟨(D i, Pl i), ?_⟩⟩
    · have hs : 0 < size := Nat.pos_of_mul_pos_left hp
      have hl0 : 0 < len := Nat.pos_of_mul_pos_right hp
      have h0 := (hlen 0 hl0).2 0 hs
      have ha : a = ⟨a.block, a.off, none⟩ := by
        refine cell_plain (w := W) (u := (C 0)[0]'(by rw [(hlen 0 hl0).1]; exact hs)) ?_
        rw [List.getElem?_eq_getElem (by rw [(hlen 0 hl0).1]; exact hs)] at h0
        simpa [Addr.add] using h0
      refine ⟨a.block, a.off, by rw [← ha], fun j hj => ?_⟩
      have hq : j / size < len := (Nat.div_lt_iff_lt_mul hs).2 hj
      have hr : j % size < size := Nat.mod_lt _ hs
      have h1 := (hlen (j / size) hq).2 (j % size) hr
      rw [Deep.add_add, ha, add_plain] at h1
      have hj' : j / size * size + j % size = j := Nat.div_add_mod' j size
      rw [hj'] at h1
      rw [h1, flatO_at len size C (fun i hi => (hlen i hi).1) (j / size) hq (j % size) hr, hj']
    · rw [flat_slice len size C (fun i hi => (hlen i hi).1) i hi]
      exact (hC i (by omega)).2
/-- A slice of ints. -/
theorem open_rd_ints {t e : Nat} {v : Value} {d : DataW H} {ps : List MemPlace} {r : Reach} {b0 : Nat} (ht : P.underlying t = some (.slice e)) (he : P.underlying e = some (.int .i64)) (hc : P.cellsOf e = 1) (hv : Value.okWide P W r b0 t v)
    (h : DataW.Trod enc P W base spare held t v d ps) : ∃ xs : List Int, Rd W v 1 xs.length (ic xs) := by
  obtain ⟨n, fuel, xs, hr, hx⟩ := open_rd ht hc hv h
  have hl : xs.length = n := by simpa using hr.1
  have hall : ∀ (l : List Value), (∀ i (hi : i < l.length), ∃ k, l[i]? = some (.int .i64 k)) → ∃ zs : List Int, l = ic zs := by
    intro l
    induction l with
    | nil => intro _; exact ⟨[], rfl⟩
    | cons y l ih =>
      intro hl
      obtain ⟨k, hk⟩ := hl 0 (by simp)
      obtain ⟨zs, hz⟩ := ih fun i hi => by obtain ⟨k, h⟩ := hl (i + 1) (by simp; omega); exact ⟨k, by simpa using h⟩
      exact ⟨k :: zs, by simp at hk; simp [ic, hk]; exact hz⟩
  obtain ⟨zs, hz⟩ := hall xs fun i hi => by
    obtain ⟨x, hx⟩ := hx i (by omega)
    rw [Nat.mul_one] at hx
    obtain ⟨k, hk, -⟩ := DataW.trod_int he hx
    refine ⟨k, ?_⟩
    have := congrArg (fun l : List Value => l[0]?) hk
    simpa using this
  subst hz
  refine ⟨zs, ?_⟩
  rw [ic_len] at hl
  rw [hl]; exact hr
end
end Go.Own
/- HOW ARGUMENTS ARE OPENED, further: slices within structs and slices. No program in sight. -/
namespace Go.Own
open Go.ChangeShapes Go.WideShapes Go.ChangeAt Go.RowKit
section
variable {H : Type} {enc : TypeId × Value → H} {P : Program} {W : World} {base : Nat} {spare : Nat → Bool} {held : Bool}
end
end Go.Own
