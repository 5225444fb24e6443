/- TEXTS of mine, merged. -/
import Derived.Test.YtonhcefgakmpfaaGreatDoorM11
import Derived.Test.YtonhcefgakmpfaaGreatDoorM10
/- THE WALK of tree.open, with FTrunc too. -/
namespace Go.Proofs.YtonhcefgakmpfaaGreatDoor
open Go.RowKit Go.Own
theorem openAt_okT {S : Tre} {s : Spt} {fl : Int} (h1 : ¬ (s.node ≠ 0 ∧ (S.at_ s.node).kind = 2 ∧ andI fl 32 ≠ 0)) (h2 : ¬ 16 ≤ (Tb.lst S.tab 16).length) :
    S.openAt s fl = ((⟨(Tb.opn S.tab (if s.node = 0 then S.last + 1 else s.node) fl).1.2, (Tb.opn S.tab (if s.node = 0 then S.last + 1 else s.node) fl).1.1, 0, 0, [], []⟩ : Ans), { (if andI fl 4 ≠ 0 then (if s.node = 0 then S.make s 1 [] else S).resize (if s.node = 0 then S.last + 1 else s.node) 0 else (if s.node = 0 then S.make s 1 [] else S)) with tab := (Tb.opn S.tab (if s.node = 0 then S.last + 1 else s.node) fl).2 }) := by
  unfold Tre.openAt
  rw [if_neg h1, if_neg h2]
  by_cases hn : s.node = 0
  · by_cases h4 : andI fl 4 = 0
    · simp only [hn, if_true, h4, ne_eq, not_true_eq_false, if_false]
      rfl
    · simp only [hn, if_true, h4, ne_eq, not_false_eq_true]
      rfl
  · by_cases h4 : andI fl 4 = 0
    · simp only [hn, if_false, h4, ne_eq, not_true_eq_false]
    · simp only [hn, if_false, h4, ne_eq, not_false_eq_true, if_true]
      rfl
theorem make_new (S : Tre) (s : Spt) : ∃ x1, fnd (S.make s 1 []).nodes (S.last + 1) = some x1 ∧ x1.kind ≠ 3 ∧ x1.data.length ≤ 100000 ∧ x1.wr.length ≤ 100000 := by
  have e : Tre.nodAdd (nodNew 1) s.dir = ⟨1, [], [], [], 0, 1, 0⟩ := by
    unfold Tre.nodAdd
    rw [if_neg (by unfold nodNew; decide)]
    rfl
  refine ⟨Tre.nodAdd (nodNew 1) s.dir, ?_, by rw [e]; decide, by rw [e]; decide, by rw [e]; decide⟩
  unfold Tre.make Tre.add
  rw [setN_fnd, if_pos rfl]
  congr 2
  unfold Tre.at_
  rw [fnd_putA, if_pos rfl]
  rfl
set_option maxRecDepth 100000 in
set_option maxHeartbeats 8000000 in
theorem tOpenT (q : Nat) (S : Tre) (rk : Int → Nat) (o : Opm) (ov : Value) (mx : Int) (w : World) (L : List HP) (hW : Wk S) (hY : Wy S rk) (hB : Opb S) (hM : MxL mx L) (hp : o.path.length ≤ 100000) (hnl : (S.find o.path true).2 = 0 → (S.at_ (S.find o.path true).1.node).kind ≠ 3) (hO : Has w (Trc q S :: L)) :
    Calls Tryz.prog 52 #[.pointer (some ⟨q, 0, none⟩), opV o ov] w fun e w' => e = .returned (ansV (S.openFd o.path o.flags).1 nilV nilV) ∧ Has w' (Trc q (S.openFd o.path o.flags).2 :: L) ∧ Keep w w' := by
  have HFI := hid (fun (w : World) (L' : List HP) (hM : MxL mx L') (hO : Has w (Trc q S :: L')) => tFind q S o.path true mx w L' hW hM hp hO)
  have HPL := hid (fun (w : World) (L' : List HP) (hM : MxL mx L') (hO : Has w (Trc q S :: L')) => tPlace q S rk o.path mx w L' hW hY hM hp hO)
  have HTF := hid (find_there hW o.path true)
  have HNL := hid hnl
  clear hnl
  have HTP := hid (place_there hW o.path)
  generalize hR : S.openFd o.path o.flags = R
  unfold Tre.openFd at hR
  generalize S.find o.path true = F at *
  generalize S.place o.path = G at *
  obtain ⟨s2, e2⟩ := F
  obtain ⟨s1, e1⟩ := G
  dsimp only at *
  have HR := hid hR
  have HM := hid hM
  have HB := hid hB
  have HO := hid hO
  clear hO hR hW hM hp hY hB
  unfold opV opC
  go_enter Tryz.func52, Tryz.ntmps52
  go_upto_region 1 with fail
  have h1 := (HO.out.alloc (.cells (opC o ov) 35)).alloc (.cells (ansC (ansE 0) nilV nilV) 32)
  have HK1 := hid (((Keep.refl w).alloc (.cells (opC o ov) 35)).alloc (.cells (ansC (ansE 0) nilV nilV) 32))
  unfold opC ansC ansE at h1 HK1
  have e3 : (w.alloc (.cells #[.int .i64 o.kind, .int .i64 o.fd, .int .i64 o.n, .int .i64 o.off, .int .i64 o.flags, sV o.path, sV o.dest, ov] 35)).heap.size = w.heap.size + 1 := by show (Array.push _ _).size = _; rw [Array.size_push]
  rw [e3] at h1
  have HO1 := hid h1
  clear h1 e3 HO
  generalize (w.alloc (.cells #[.int .i64 o.kind, .int .i64 o.fd, .int .i64 o.n, .int .i64 o.off, .int .i64 o.flags, sV o.path, sV o.dest, ov] 35)).alloc (.cells #[.int .i64 0, .int .i64 0, .int .i64 0, .int .i64 0, nilV, nilV] 32) = w1 at *
  generalize (Value.agg #[.int .i64 o.kind, .int .i64 o.fd, .int .i64 o.n, .int .i64 o.off, .int .i64 o.flags, sV o.path, sV o.dest, ov]) = av at *
  generalize w.heap.size = g3 at *
  generalize g3 + 1 = g4 at *
  have hp4 : w1.cell? ⟨g3, 4, none⟩ = some (.int .i64 o.flags) := HO1.out.p1.cells 4
  have HOa := hid (show Has w1 (pt g4 (.cells (ansC (ansE 0) nilV nilV) 32) :: Trc q S :: L) from HO1.out.re 3 [0, 2])
  by_cases hbad : o.flags < 0 ∨ 64 ≤ o.flags ∨ (andI o.flags 12 ≠ 0 ∧ andI o.flags 32 = 0)
  · have HRR := hid (show R = (ansE 2, S) from by rw [← HR.out, if_pos hbad])
    go_upto_region 1 with fail
    go_cut [31] (fun a wx => wx = w1 ∧ a = .bool true)
    case first =>
      by_cases hb1 : o.flags < 0
      · go_wp2_with fail
        go_meet
        exact ⟨rfl, rfl⟩
      by_cases hb2 : o.flags ≥ 64
      · go_wp2_with fail
        go_meet
        exact ⟨rfl, rfl⟩
      · obtain ⟨hb3, hb4⟩ := (hbad.resolve_left hb1).resolve_left hb2
        unfold andI at hb3 hb4
        have hb5 : (bits BinOp.and IntKind.i64 o.flags 12 != 0) = true := by simpa using hb3
        have hb6 : (bits BinOp.and IntKind.i64 o.flags 32 == 0) = true := by simpa using hb4
        go_wp2_with fail
        go_meet
        exact ⟨rfl, rfl⟩
    case rest =>
      obtain ⟨hwx, rfl⟩ := hcut
      have hwx2 := hwx.symm
      subst hwx2
      have hz0 : w1.cell? ⟨g4, 0, none⟩ = some (.int .i64 0) := (HOa.out).cells 0
      have hz1 : w1.cell? ⟨g4, 1, none⟩ = some (.int .i64 0) := (HOa.out).cells 1
      have hz2 : w1.cell? ⟨g4, 2, none⟩ = some (.int .i64 0) := (HOa.out).cells 2
      have hz3 : w1.cell? ⟨g4, 3, none⟩ = some (.int .i64 0) := (HOa.out).cells 3
      have hz4 : w1.cell? ⟨g4, 4, none⟩ = some (.slice none 0 0) := (HOa.out).cells 4
      have hz5 : w1.cell? ⟨g4, 5, none⟩ = some (.slice none 0 0) := (HOa.out).cells 5
      have hy0 := (HOa.out).thaw 0
      have hy1 := (HOa.out).thaw 1
      have hy2 := (HOa.out).thaw 2
      have hy3 := (HOa.out).thaw 3
      have hy4 := (HOa.out).thaw 4
      have hy5 := (HOa.out).thaw 5
      go_wp2_with fail
      refine (tCode (2 : Int) w1 _ HOa.out).mono ?_
      rintro e w5 ⟨rfl, hO5, hK5⟩
      have HO5 := hid hO5
      have HK5 := hid ((HK1.out).trans hK5)
      clear hO5 hK5
      unfold ansV ansC ansE
      clear hz0 hz1 hz2 hz3 hz4 hz5 hy0 hy1 hy2 hy3 hy4 hy5
      have hz0 : w5.cell? ⟨g4, 0, none⟩ = some (.int .i64 0) := (HO5.out).cells 0
      have hz1 : w5.cell? ⟨g4, 1, none⟩ = some (.int .i64 0) := (HO5.out).cells 1
      have hz2 : w5.cell? ⟨g4, 2, none⟩ = some (.int .i64 0) := (HO5.out).cells 2
      have hz3 : w5.cell? ⟨g4, 3, none⟩ = some (.int .i64 0) := (HO5.out).cells 3
      have hz4 : w5.cell? ⟨g4, 4, none⟩ = some (.slice none 0 0) := (HO5.out).cells 4
      have hz5 : w5.cell? ⟨g4, 5, none⟩ = some (.slice none 0 0) := (HO5.out).cells 5
      have hy0 := (HO5.out).thaw 0
      have hy1 := (HO5.out).thaw 1
      have hy2 := (HO5.out).thaw 2
      have hy3 := (HO5.out).thaw 3
      have hy4 := (HO5.out).thaw 4
      have hy5 := (HO5.out).thaw 5
      go_wp2_with fail
      have h1 := ((show Has w5 (pt g4 (.cells (ansC (ansE 0) nilV nilV) 32) :: Trc q S :: L) from HO5.out)).ans (ansE (2 : Int)) nilV nilV
      refine bodyPost_ret (ans_result rfl rfl h1) rfl ?_
      rw [HRR.out]
      exact ⟨rfl, h1.drop, HK5.out.ans _ _ _ _ _ _ _⟩
  · have HR1 := hid ((if_neg hbad).symm.trans HR.out)
    go_upto_region 1 with fail
    go_cut [31] (fun a wx => wx = w1 ∧ a = .bool false)
    case first =>
      have hb1 : ¬ o.flags < 0 := fun h => hbad (.inl h)
      have hb2 : ¬ o.flags ≥ 64 := fun h => hbad (.inr (.inl h))
      by_cases hb5 : (bits BinOp.and IntKind.i64 o.flags 12 != 0) = true
      · have hb6 : (bits BinOp.and IntKind.i64 o.flags 32 == 0) = false := by
          have : ¬ (andI o.flags 32 = 0) := fun h => hbad (.inr (.inr ⟨by simpa [andI] using hb5, h⟩))
          simpa [andI] using this
        go_wp2_with fail
        go_meet
        exact ⟨rfl, rfl⟩
      · have hb5' : (bits BinOp.and IntKind.i64 o.flags 12 != 0) = false := by simpa using hb5
        go_wp2_with fail
        go_meet
        exact ⟨rfl, rfl⟩
    case rest =>
    obtain ⟨hwx, rfl⟩ := hcut
    have hwx2 := hwx.symm
    subst hwx2
    clear HR
    go_upto_region 4 with fail
    have HO3 := hid (show Has (w1.alloc (.cells #[.int .i64 0, .int .i64 0, .string ⟨#[]⟩] 93)) (pt w1.heap.size (.cells (spC spt0) 93) :: pt g4 (.cells (ansC (ansE 0) nilV nilV) 32) :: pt g3 (.cells (opC o ov) 35) :: Trc q S :: L) from HO1.out.alloc (.cells (spC spt0) 93))
    have HK3 := hid (HK1.out.alloc (.cells #[.int .i64 0, .int .i64 0, .string ⟨#[]⟩] 93))
    clear HO1 HK1 hp4 HOa
    generalize w1.alloc (.cells #[.int .i64 0, .int .i64 0, .string ⟨#[]⟩] 93) = w3 at *
    generalize w1.heap.size = g5 at *
    have hp4 : w3.cell? ⟨g3, 4, none⟩ = some (.int .i64 o.flags) := HO3.out.p2.cells 4
    go_upto_if 37 with fail
    go_cut [] (fun wx => ∃ (w4 : World) (s : Spt), w4 = wx ∧ Hid (Has w4 (pt g5 (.cells (spC s) 93) :: pt g4 (.cells (ansC (ansE 0) nilV nilV) 32) :: pt g3 (.cells (opC o ov) 35) :: Trc q S :: L)) ∧ Hid (Keep w w4) ∧ Hid ((if s.node ≠ 0 ∨ s.dir = 0 then (if e2 ≠ 0 then (ansE e2, S) else S.openAt s2 o.flags) else S.openAt s o.flags) = R) ∧ Hid (s.node = 0 → s.dir ≠ 0 → (∃ d, fnd S.nodes s.dir = some d ∧ d.kind = 2) ∧ s.name.length ≤ 24))
    case first =>
      by_cases hf1 : andI o.flags 1 = 0
      · have hfb : (bits BinOp.and IntKind.i64 o.flags 1 != 0) = false := by simpa [andI] using hf1
        go_wp2_with fail
        go_meet
        exact ⟨_, spt0, rfl, HO3, HK3, hid ((if_pos (.inr rfl)).trans ((if_neg (fun h => h hf1)).symm.trans HR1.out)), hid fun _ h => absurd rfl h⟩
      · have hfb : (bits BinOp.and IntKind.i64 o.flags 1 != 0) = true := by simpa [andI] using hf1
        have HR2 := hid ((if_pos hf1).symm.trans HR1.out)
        have hp5 : w3.cell? ⟨g3, 5, none⟩ = some (sV o.path) := HO3.out.p2.cells 5
        go_upto_region 5 with fail
        go_cut [6, 7] (fun p6 e7 wx => ∃ (w4 : World) (g6 : Nat), w4 = wx ∧ e7 = .int .i64 e1 ∧ p6 = .pointer (some ⟨g6, 0, none⟩) ∧ Hid (Has w4 (pt g6 (.cells (spC s1) 93) :: pt g5 (.cells (spC spt0) 93) :: pt g4 (.cells (ansC (ansE 0) nilV nilV) 32) :: pt g3 (.cells (opC o ov) 35) :: Trc q S :: L)) ∧ Hid (Keep w w4))
        case first =>
          go_wp2_with fail
          refine (HPL.out w3 _ (((HM.out.cons (pt g3 (.cells (opC o ov) 35))).cons (pt g4 (.cells (ansC (ansE 0) nilV nilV) 32))).cons (pt g5 (.cells (spC spt0) 93))) (HO3.out.re 4 [3, 0, 1, 2])).mono ?_
          rintro e w4 ⟨rfl, hO4, hK4⟩
          have HO4 := hid hO4
          have HK4 := hid ((HK3.out).trans hK4)
          clear hO4 hK4
          try dsimp only
          unfold spV spC
          go_wp2_with fail
          go_meet
          exact ⟨_, _, rfl, rfl, rfl, hid ((HO4.out.alloc (.cells (spC s1) 93)).re 5 [0, 2, 3, 4, 1]), hid (HK4.out.alloc _)⟩
        case rest =>
          obtain ⟨w4, g6, rfl, rfl, rfl, HO4, HK4⟩ := hcut
          clear hp4 hp5
          have HOa := hid (show Has w4 (pt g4 (.cells (ansC (ansE 0) nilV nilV) 32) :: Trc q S :: L) from HO4.out.re 5 [2, 4])
          have hz0 : w4.cell? ⟨g4, 0, none⟩ = some (.int .i64 0) := (HOa.out).cells 0
          have hz1 : w4.cell? ⟨g4, 1, none⟩ = some (.int .i64 0) := (HOa.out).cells 1
          have hz2 : w4.cell? ⟨g4, 2, none⟩ = some (.int .i64 0) := (HOa.out).cells 2
          have hz3 : w4.cell? ⟨g4, 3, none⟩ = some (.int .i64 0) := (HOa.out).cells 3
          have hz4 : w4.cell? ⟨g4, 4, none⟩ = some (.slice none 0 0) := (HOa.out).cells 4
          have hz5 : w4.cell? ⟨g4, 5, none⟩ = some (.slice none 0 0) := (HOa.out).cells 5
          have hy0 := (HOa.out).thaw 0
          have hy1 := (HOa.out).thaw 1
          have hy2 := (HOa.out).thaw 2
          have hy3 := (HOa.out).thaw 3
          have hy4 := (HOa.out).thaw 4
          have hy5 := (HOa.out).thaw 5
          have hp4 : w4.cell? ⟨g3, 4, none⟩ = some (.int .i64 o.flags) := HO4.out.p3.cells 4
          have k0 : w4.cell? ⟨g6, 0, none⟩ = some (.int .i64 s1.node) := (HO4.out).cells 0
          have k1 : w4.cell? ⟨g6, 1, none⟩ = some (.int .i64 s1.dir) := (HO4.out).cells 1
          have k2 : w4.cell? ⟨g6, 2, none⟩ = some (sV s1.name) := (HO4.out).cells 2
          have kt0 := (HO4.out).thaw 0
          have kt1 := (HO4.out).thaw 1
          have kt2 := (HO4.out).thaw 2
          by_cases he1 : e1 = 0
          · subst he1
            have HR3 := hid ((if_neg (fun h => h rfl)).symm.trans HR2.out)
            by_cases hx : s1.node ≠ 0 ∧ andI o.flags 2 ≠ 0
            · have HRR := hid (show R = (ansE 6, S) from by rw [← HR3.out, if_pos hx])
              have hxa : (s1.node != 0) = true := by simpa using hx.1
              have hxb : (bits BinOp.and IntKind.i64 o.flags 2 != 0) = true := by simpa [andI] using hx.2
              go_wp2_with fail
              refine (tCode (6 : Int) w4 _ HOa.out).mono ?_
              rintro e w5 ⟨rfl, hO5, hK5⟩
              have HO5 := hid hO5
              have HK5 := hid ((HK4.out).trans hK5)
              clear hO5 hK5
              unfold ansV ansC ansE
              clear hz0 hz1 hz2 hz3 hz4 hz5 hy0 hy1 hy2 hy3 hy4 hy5
              have hz0 : w5.cell? ⟨g4, 0, none⟩ = some (.int .i64 0) := (HO5.out).cells 0
              have hz1 : w5.cell? ⟨g4, 1, none⟩ = some (.int .i64 0) := (HO5.out).cells 1
              have hz2 : w5.cell? ⟨g4, 2, none⟩ = some (.int .i64 0) := (HO5.out).cells 2
              have hz3 : w5.cell? ⟨g4, 3, none⟩ = some (.int .i64 0) := (HO5.out).cells 3
              have hz4 : w5.cell? ⟨g4, 4, none⟩ = some (.slice none 0 0) := (HO5.out).cells 4
              have hz5 : w5.cell? ⟨g4, 5, none⟩ = some (.slice none 0 0) := (HO5.out).cells 5
              have hy0 := (HO5.out).thaw 0
              have hy1 := (HO5.out).thaw 1
              have hy2 := (HO5.out).thaw 2
              have hy3 := (HO5.out).thaw 3
              have hy4 := (HO5.out).thaw 4
              have hy5 := (HO5.out).thaw 5
              go_wp2_with fail
              have h1 := ((show Has w5 (pt g4 (.cells (ansC (ansE 0) nilV nilV) 32) :: Trc q S :: L) from HO5.out)).ans (ansE (6 : Int)) nilV nilV
              refine bodyPost_ret (ans_result rfl rfl h1) rfl ?_
              rw [HRR.out]
              exact ⟨rfl, h1.drop, HK5.out.ans _ _ _ _ _ _ _⟩
            · have HR4 := hid ((if_neg hx).symm.trans HR3.out)
              have HT1 := hid (HTP.out rfl)
              go_upto_region 8 with fail
              go_cut [50] (fun a wx => wx = w4 ∧ a = .bool false)
              case first =>
                by_cases hxn : s1.node = 0
                · have hxa : (s1.node != 0) = false := by simpa using hxn
                  go_wp2_with fail
                  go_meet
                  exact ⟨rfl, rfl⟩
                · have hxa : (s1.node != 0) = true := by simpa using hxn
                  have hxb : (bits BinOp.and IntKind.i64 o.flags 2 != 0) = false := by
                    have : andI o.flags 2 = 0 := Classical.byContradiction fun h => hx ⟨hxn, h⟩
                    simpa [andI] using this
                  go_wp2_with fail
                  go_meet
                  exact ⟨rfl, rfl⟩
              case rest =>
                obtain ⟨hwx, rfl⟩ := hcut
                have hwx2 := hwx.symm
                subst hwx2
                have v0 : w4.cell? ⟨g5, 0, none⟩ = some (.int .i64 0) := (HO4.out.p1).cells 0
                have v1 : w4.cell? ⟨g5, 1, none⟩ = some (.int .i64 0) := (HO4.out.p1).cells 1
                have v2 : w4.cell? ⟨g5, 2, none⟩ = some (sV []) := (HO4.out.p1).cells 2
                have vt0 := (HO4.out.p1).thaw 0
                have vt1 := (HO4.out.p1).thaw 1
                have vt2 := (HO4.out.p1).thaw 2
                go_wp2_with fail
                go_meet
                refine ⟨_, s1, rfl, hid ((show Has w4 (pt g5 (.cells (spC spt0) 93) :: pt g4 (.cells (ansC (ansE 0) nilV nilV) 32) :: pt g3 (.cells (opC o ov) 35) :: Trc q S :: L) from HO4.out.re 5 [1, 2, 3, 4]).spt s1), hid (HK4.out.spt _ _ _ _), HR4, hid fun _ _ => ⟨HT1.out.1, HT1.out.2.1⟩⟩
          · have HRR := hid (show R = (ansE e1, S) from by rw [← HR2.out, if_pos he1])
            go_wp2_with fail
            refine (tCode e1 w4 _ HOa.out).mono ?_
            rintro e w5 ⟨rfl, hO5, hK5⟩
            have HO5 := hid hO5
            have HK5 := hid ((HK4.out).trans hK5)
            clear hO5 hK5
            unfold ansV ansC ansE
            clear hz0 hz1 hz2 hz3 hz4 hz5 hy0 hy1 hy2 hy3 hy4 hy5
            have hz0 : w5.cell? ⟨g4, 0, none⟩ = some (.int .i64 0) := (HO5.out).cells 0
            have hz1 : w5.cell? ⟨g4, 1, none⟩ = some (.int .i64 0) := (HO5.out).cells 1
            have hz2 : w5.cell? ⟨g4, 2, none⟩ = some (.int .i64 0) := (HO5.out).cells 2
            have hz3 : w5.cell? ⟨g4, 3, none⟩ = some (.int .i64 0) := (HO5.out).cells 3
            have hz4 : w5.cell? ⟨g4, 4, none⟩ = some (.slice none 0 0) := (HO5.out).cells 4
            have hz5 : w5.cell? ⟨g4, 5, none⟩ = some (.slice none 0 0) := (HO5.out).cells 5
            have hy0 := (HO5.out).thaw 0
            have hy1 := (HO5.out).thaw 1
            have hy2 := (HO5.out).thaw 2
            have hy3 := (HO5.out).thaw 3
            have hy4 := (HO5.out).thaw 4
            have hy5 := (HO5.out).thaw 5
            go_wp2_with fail
            have h1 := ((show Has w5 (pt g4 (.cells (ansC (ansE 0) nilV nilV) 32) :: Trc q S :: L) from HO5.out)).ans (ansE e1) nilV nilV
            refine bodyPost_ret (ans_result rfl rfl h1) rfl ?_
            rw [HRR.out]
            exact ⟨rfl, h1.drop, HK5.out.ans _ _ _ _ _ _ _⟩
    case rest =>
      obtain ⟨w4, s, rfl, HO4, HK4, HR2, HSD⟩ := hcut
      clear HO3 HK3 HR1 hp4 HPL HTP
      have k0 : w4.cell? ⟨g5, 0, none⟩ = some (.int .i64 s.node) := (HO4.out).cells 0
      have k1 : w4.cell? ⟨g5, 1, none⟩ = some (.int .i64 s.dir) := (HO4.out).cells 1
      have k2 : w4.cell? ⟨g5, 2, none⟩ = some (sV s.name) := (HO4.out).cells 2
      have kt0 := (HO4.out).thaw 0
      have kt1 := (HO4.out).thaw 1
      have kt2 := (HO4.out).thaw 2
      go_upto_region 11 with fail
      go_cut [69] (fun a wx => wx = w4 ∧ a = .bool (decide (s.node ≠ 0 ∨ s.dir = 0)))
      case first =>
        by_cases hn : s.node = 0
        · have hnb : (s.node != 0) = false := by simpa using hn
          by_cases hd : s.dir = 0
          · have hdb : (s.dir == 0) = true := by simpa using hd
            have HB2 := hid (show decide (s.node ≠ 0 ∨ s.dir = 0) = true from decide_eq_true (.inr hd))
            clear hd hn
            go_wp2_with fail
            go_meet
            exact ⟨rfl, by rw [HB2.out]⟩
          · have hdb : (s.dir == 0) = false := by simpa using hd
            have HB2 := hid (show decide (s.node ≠ 0 ∨ s.dir = 0) = false from decide_eq_false (fun h => h.elim (fun h => h hn) hd))
            clear hd hn
            go_wp2_with fail
            go_meet
            exact ⟨rfl, by rw [HB2.out]⟩
        · have hnb : (s.node != 0) = true := by simpa using hn
          have HB2 := hid (show decide (s.node ≠ 0 ∨ s.dir = 0) = true from decide_eq_true (.inl hn))
          clear hn
          go_wp2_with fail
          go_meet
          exact ⟨rfl, by rw [HB2.out]⟩
      case rest =>
      obtain ⟨hwx, rfl⟩ := hcut
      have hwx2 := hwx.symm
      subst hwx2
      generalize hBc : decide (s.node ≠ 0 ∨ s.dir = 0) = bc0
      have HBC := hid hBc
      clear hBc
      go_upto_if 69 with fail
      go_cut [] (fun wx => ∃ (w5 : World) (s' : Spt), w5 = wx ∧ Hid (Has w5 (pt g5 (.cells (spC s') 93) :: pt g4 (.cells (ansC (ansE 0) nilV nilV) 32) :: pt g3 (.cells (opC o ov) 35) :: Trc q S :: L)) ∧ Hid (Keep w w5) ∧ Hid (S.openAt s' o.flags = R) ∧ Hid (s'.node = 0 → (∃ d, fnd S.nodes s'.dir = some d ∧ d.kind = 2) ∧ s'.name.length ≤ 24) ∧ Hid (s'.node ≠ 0 → ∃ x, fnd S.nodes s'.node = some x ∧ x.kind ≠ 3))
      case first =>
        by_cases hc : s.node ≠ 0 ∨ s.dir = 0
        · have HR3 := hid ((if_pos hc).symm.trans HR2.out)
          have hbt : bc0 = true := by rw [← HBC.out]; exact decide_eq_true hc
          subst hbt
          skip
          skip
          · have hp5 : w4.cell? ⟨g3, 5, none⟩ = some (sV o.path) := HO4.out.p2.cells 5
            go_upto_region 12 with fail
            go_cut [8, 9] (fun p8 e9 wx => ∃ (w5 : World) (g8 : Nat), w5 = wx ∧ e9 = .int .i64 e2 ∧ p8 = .pointer (some ⟨g8, 0, none⟩) ∧ Hid (Has w5 (pt g8 (.cells (spC s2) 93) :: pt g5 (.cells (spC s) 93) :: pt g4 (.cells (ansC (ansE 0) nilV nilV) 32) :: pt g3 (.cells (opC o ov) 35) :: Trc q S :: L)) ∧ Hid (Keep w w5))
            case first =>
              go_wp2_with fail
              refine (HFI.out w4 _ (((HM.out.cons (pt g3 (.cells (opC o ov) 35))).cons (pt g4 (.cells (ansC (ansE 0) nilV nilV) 32))).cons (pt g5 (.cells (spC s) 93))) (HO4.out.re 4 [3, 0, 1, 2])).mono ?_
              rintro e w5 ⟨rfl, hO5, hK5⟩
              have HO5 := hid hO5
              have HK5 := hid ((HK4.out).trans hK5)
              clear hO5 hK5
              try dsimp only
              unfold spV spC
              go_wp2_with fail
              go_meet
              exact ⟨_, _, rfl, rfl, rfl, hid ((HO5.out.alloc (.cells (spC s2) 93)).re 5 [0, 2, 3, 4, 1]), hid (HK5.out.alloc _)⟩
            case rest =>
              obtain ⟨w5, g8, rfl, rfl, rfl, HO5, HK5⟩ := hcut
              clear hp5 k0 k1 k2 kt0 kt1 kt2
              by_cases he2 : e2 = 0
              · subst he2
                have v0 : w5.cell? ⟨g5, 0, none⟩ = some (.int .i64 s.node) := (HO5.out.p1).cells 0
                have v1 : w5.cell? ⟨g5, 1, none⟩ = some (.int .i64 s.dir) := (HO5.out.p1).cells 1
                have v2 : w5.cell? ⟨g5, 2, none⟩ = some (sV s.name) := (HO5.out.p1).cells 2
                have vt0 := (HO5.out.p1).thaw 0
                have vt1 := (HO5.out.p1).thaw 1
                have vt2 := (HO5.out.p1).thaw 2
                have k0 : w5.cell? ⟨g8, 0, none⟩ = some (.int .i64 s2.node) := (HO5.out).cells 0
                have k1 : w5.cell? ⟨g8, 1, none⟩ = some (.int .i64 s2.dir) := (HO5.out).cells 1
                have k2 : w5.cell? ⟨g8, 2, none⟩ = some (sV s2.name) := (HO5.out).cells 2
                have kt0 := (HO5.out).thaw 0
                have kt1 := (HO5.out).thaw 1
                have kt2 := (HO5.out).thaw 2
                have HR4 := hid ((if_neg (fun h => h rfl)).symm.trans HR3.out)
                have HTX := hid (HTF.out rfl)
                go_wp2_with fail
                go_meet
                exact ⟨_, s2, rfl, hid ((show Has w5 (pt g5 (.cells (spC s) 93) :: pt g4 (.cells (ansC (ansE 0) nilV nilV) 32) :: pt g3 (.cells (opC o ov) 35) :: Trc q S :: L) from HO5.out.re 5 [1, 2, 3, 4]).spt s2), hid (HK5.out.spt _ _ _ _), HR4, hid fun h0 => absurd HTX.out (by rw [h0, HB.out.zero]; rintro ⟨_, h⟩; cases h), hid fun _ => (by
                  obtain ⟨x, hx⟩ := HTX.out
                  have h9 := HNL.out (by first | rfl | trivial)
                  rw [show S.at_ s2.node = x by unfold Tre.at_; rw [hx]; rfl] at h9
                  exact ⟨x, hx, h9⟩)⟩
              · have HRR := hid (show R = (ansE e2, S) from by rw [← HR3.out, if_pos he2])
                have HOa := hid (show Has w5 (pt g4 (.cells (ansC (ansE 0) nilV nilV) 32) :: Trc q S :: L) from HO5.out.re 5 [2, 4])
                have hz0 : w5.cell? ⟨g4, 0, none⟩ = some (.int .i64 0) := (HOa.out).cells 0
                have hz1 : w5.cell? ⟨g4, 1, none⟩ = some (.int .i64 0) := (HOa.out).cells 1
                have hz2 : w5.cell? ⟨g4, 2, none⟩ = some (.int .i64 0) := (HOa.out).cells 2
                have hz3 : w5.cell? ⟨g4, 3, none⟩ = some (.int .i64 0) := (HOa.out).cells 3
                have hz4 : w5.cell? ⟨g4, 4, none⟩ = some (.slice none 0 0) := (HOa.out).cells 4
                have hz5 : w5.cell? ⟨g4, 5, none⟩ = some (.slice none 0 0) := (HOa.out).cells 5
                have hy0 := (HOa.out).thaw 0
                have hy1 := (HOa.out).thaw 1
                have hy2 := (HOa.out).thaw 2
                have hy3 := (HOa.out).thaw 3
                have hy4 := (HOa.out).thaw 4
                have hy5 := (HOa.out).thaw 5
                go_wp2_with fail
                refine (tCode e2 w5 _ HOa.out).mono ?_
                rintro e w6 ⟨rfl, hO6, hK6⟩
                have HO6 := hid hO6
                have HK6 := hid ((HK5.out).trans hK6)
                clear hO6 hK6
                unfold ansV ansC ansE
                clear hz0 hz1 hz2 hz3 hz4 hz5 hy0 hy1 hy2 hy3 hy4 hy5
                have hz0 : w6.cell? ⟨g4, 0, none⟩ = some (.int .i64 0) := (HO6.out).cells 0
                have hz1 : w6.cell? ⟨g4, 1, none⟩ = some (.int .i64 0) := (HO6.out).cells 1
                have hz2 : w6.cell? ⟨g4, 2, none⟩ = some (.int .i64 0) := (HO6.out).cells 2
                have hz3 : w6.cell? ⟨g4, 3, none⟩ = some (.int .i64 0) := (HO6.out).cells 3
                have hz4 : w6.cell? ⟨g4, 4, none⟩ = some (.slice none 0 0) := (HO6.out).cells 4
                have hz5 : w6.cell? ⟨g4, 5, none⟩ = some (.slice none 0 0) := (HO6.out).cells 5
                have hy0 := (HO6.out).thaw 0
                have hy1 := (HO6.out).thaw 1
                have hy2 := (HO6.out).thaw 2
                have hy3 := (HO6.out).thaw 3
                have hy4 := (HO6.out).thaw 4
                have hy5 := (HO6.out).thaw 5
                go_wp2_with fail
                have h1 := ((show Has w6 (pt g4 (.cells (ansC (ansE 0) nilV nilV) 32) :: Trc q S :: L) from HO6.out)).ans (ansE e2) nilV nilV
                refine bodyPost_ret (ans_result rfl rfl h1) rfl ?_
                rw [HRR.out]
                exact ⟨rfl, h1.drop, HK6.out.ans _ _ _ _ _ _ _⟩
        · have HR3 := hid ((if_neg hc).symm.trans HR2.out)
          have hbt : bc0 = false := by rw [← HBC.out]; exact decide_eq_false hc
          subst hbt
          have hn : s.node = 0 := Classical.byContradiction fun h => hc (.inl h)
          have hd : ¬ s.dir = 0 := fun h => hc (.inr h)
          have hnb : (s.node != 0) = false := by simpa using hn
          have hdb : (s.dir == 0) = false := by simpa using hd
          go_wp2_with fail
          go_meet
          exact ⟨_, s, rfl, HO4, HK4, HR3, hid fun _ => HSD.out hn hd, hid fun h => absurd hn h⟩
      case rest =>
        obtain ⟨w5, s', rfl, HO5, HK5, HR3, HSD', HSN⟩ := hcut
        obtain ⟨m, f, P, hPT, hTr⟩ := trc_iff.1 (HO5.out.re 4 [3, 0, 1, 2])
        have HPT := hid hPT
        have HTr := hid hTr
        clear hTr hPT k0 k1 k2 kt0 kt1 kt2 HO4 HK4
        have hq0 := (Trb.cells HTr.out.drew).1
        have hg0 : w5.drew.cell? ⟨g5, 0, none⟩ = some (.int .i64 s'.node) := HTr.out.drew.p1.cells 0
        have hf4 : w5.drew.cell? ⟨g3, 4, none⟩ = some (.int .i64 o.flags) := HTr.out.drew.p3.cells 4
        go_upto_region 16 with fail
        go_cut [82] (fun a wx => wx = w5.drew ∧ a = .bool (decide (s'.node ≠ 0 ∧ (S.at_ s'.node).kind = 2 ∧ andI o.flags 32 ≠ 0)))
        case first =>
          by_cases hn : s'.node = 0
          · have hnb : (s'.node != 0) = false := by simpa using hn
            have HB2 := hid (show decide (s'.node ≠ 0 ∧ (S.at_ s'.node).kind = 2 ∧ andI o.flags 32 ≠ 0) = false from decide_eq_false (fun h => h.1 hn))
            clear hn
            refine region_text (fun w' => w'.cell? ⟨g5, 0, none⟩ = some (.int .i64 s'.node) ∧ True) (by kernel_rfl) (by kernel_rfl) ⟨hg0, trivial⟩ ?_
            repeat (first
              | (refine wpL_read (by rfl) (by rfl) ?_ ?_ ?_; rotate_left; (rintro w ⟨z0, z1⟩; go_simp; with_reducible rfl); simp only [Act.put, List.setIfInBounds_toArray, List.set_cons_zero, List.set_cons_succ]) | (refine wpL_skip (by rfl) ?_; simp only [Act.put, List.setIfInBounds_toArray, List.set_cons_zero, List.set_cons_succ]))
            refine wpL_nil ?_
            go_wp2_with fail
            go_meet
            exact ⟨rfl, by rw [HB2.out]⟩
          · have hnb : (s'.node != 0) = true := by simpa using hn
            obtain ⟨x, hx, -⟩ := HSN.out hn
            have hat : S.at_ s'.node = x := by unfold Tre.at_; rw [hx]; rfl
            have hx' := hx
            rw [← HPT.out.1] at hx'
            obtain ⟨b, hb, hl⟩ := Trb.look HTr.out.drew hx'
            obtain ⟨dv, wv, nm, -, hc, -⟩ := Trb.node HTr.out.drew hb
            have hcb0 : w5.drew.cell? ⟨b, 0, none⟩ = some (.int .i64 x.kind) := hc 0
            by_cases hk2 : x.kind = 2
            · have hkb : (x.kind == 2) = true := by simpa using hk2
              by_cases hfl : andI o.flags 32 = 0
              · have hfb : (bits BinOp.and IntKind.i64 o.flags 32 != 0) = false := by simpa [andI] using hfl
                have HB2 := hid (show decide (s'.node ≠ 0 ∧ (S.at_ s'.node).kind = 2 ∧ andI o.flags 32 ≠ 0) = false from decide_eq_false (fun h => h.2.2 hfl))
                clear hn hc hk2 hfl
                refine region_text (fun w' => w'.cell? ⟨q, 0, none⟩ = some (.map (some m)) ∧ w'.cell? ⟨g5, 0, none⟩ = some (.int .i64 s'.node) ∧ w'.cell? ⟨g3, 4, none⟩ = some (.int .i64 o.flags) ∧ w'.cell? ⟨b, 0, none⟩ = some (.int .i64 x.kind) ∧ (Instr.lookup tNo (.map (some m)) (.int .i64 s'.node) false).run Tryz.prog w' = .ok (.pointer (some ⟨b, 0, none⟩)) w') (by kernel_rfl) (by kernel_rfl) ⟨hq0, hg0, hf4, hcb0, hl⟩ ?_
                repeat (first
                  | (refine wpL_read (by rfl) (by rfl) ?_ ?_ ?_; rotate_left; (rintro w ⟨z0, z1, z2, z3, z4⟩; go_simp; with_reducible rfl); simp only [Act.put, List.setIfInBounds_toArray, List.set_cons_zero, List.set_cons_succ]) | (refine wpL_skip (by rfl) ?_; simp only [Act.put, List.setIfInBounds_toArray, List.set_cons_zero, List.set_cons_succ]))
                refine wpL_nil ?_
                go_wp2_with fail
                go_meet
                exact ⟨rfl, by rw [HB2.out]⟩
              · have hfb : (bits BinOp.and IntKind.i64 o.flags 32 != 0) = true := by simpa [andI] using hfl
                have HB2 := hid (show decide (s'.node ≠ 0 ∧ (S.at_ s'.node).kind = 2 ∧ andI o.flags 32 ≠ 0) = true from decide_eq_true ⟨hn, by rw [hat]; exact hk2, hfl⟩)
                clear hn hc hk2 hfl
                refine region_text (fun w' => w'.cell? ⟨q, 0, none⟩ = some (.map (some m)) ∧ w'.cell? ⟨g5, 0, none⟩ = some (.int .i64 s'.node) ∧ w'.cell? ⟨g3, 4, none⟩ = some (.int .i64 o.flags) ∧ w'.cell? ⟨b, 0, none⟩ = some (.int .i64 x.kind) ∧ (Instr.lookup tNo (.map (some m)) (.int .i64 s'.node) false).run Tryz.prog w' = .ok (.pointer (some ⟨b, 0, none⟩)) w') (by kernel_rfl) (by kernel_rfl) ⟨hq0, hg0, hf4, hcb0, hl⟩ ?_
                repeat (first
                  | (refine wpL_read (by rfl) (by rfl) ?_ ?_ ?_; rotate_left; (rintro w ⟨z0, z1, z2, z3, z4⟩; go_simp; with_reducible rfl); simp only [Act.put, List.setIfInBounds_toArray, List.set_cons_zero, List.set_cons_succ]) | (refine wpL_skip (by rfl) ?_; simp only [Act.put, List.setIfInBounds_toArray, List.set_cons_zero, List.set_cons_succ]))
                refine wpL_nil ?_
                go_wp2_with fail
                go_meet
                exact ⟨rfl, by rw [HB2.out]⟩
            · have hkb : (x.kind == 2) = false := by simpa using hk2
              have HB2 := hid (show decide (s'.node ≠ 0 ∧ (S.at_ s'.node).kind = 2 ∧ andI o.flags 32 ≠ 0) = false from decide_eq_false (fun h => hk2 (by rw [hat] at h; exact h.2.1)))
              clear hn hc hk2
              refine region_text (fun w' => w'.cell? ⟨q, 0, none⟩ = some (.map (some m)) ∧ w'.cell? ⟨g5, 0, none⟩ = some (.int .i64 s'.node) ∧ w'.cell? ⟨g3, 4, none⟩ = some (.int .i64 o.flags) ∧ w'.cell? ⟨b, 0, none⟩ = some (.int .i64 x.kind) ∧ (Instr.lookup tNo (.map (some m)) (.int .i64 s'.node) false).run Tryz.prog w' = .ok (.pointer (some ⟨b, 0, none⟩)) w') (by kernel_rfl) (by kernel_rfl) ⟨hq0, hg0, hf4, hcb0, hl⟩ ?_
              repeat (first
                | (refine wpL_read (by rfl) (by rfl) ?_ ?_ ?_; rotate_left; (rintro w ⟨z0, z1, z2, z3, z4⟩; go_simp; with_reducible rfl); simp only [Act.put, List.setIfInBounds_toArray, List.set_cons_zero, List.set_cons_succ]) | (refine wpL_skip (by rfl) ?_; simp only [Act.put, List.setIfInBounds_toArray, List.set_cons_zero, List.set_cons_succ]))
              refine wpL_nil ?_
              go_wp2_with fail
              go_meet
              exact ⟨rfl, by rw [HB2.out]⟩
        case rest =>
          obtain ⟨hwx, rfl⟩ := hcut
          have hwx2 := hwx.symm
          subst hwx2
          have HTd := hid HTr.out.drew
          have HKd := hid HK5.out.drew
          clear hq0 hg0 hf4 HTr HO5 HK5
          generalize w5.drew = w6 at *
          have HOa := hid (show Has w6 (pt g4 (.cells (ansC (ansE 0) nilV nilV) 32) :: Trc q S :: L) from (trc_iff.2 ⟨m, f, P, HPT.out, HTd.out.re 4 [0, 2]⟩ : Has w6 (Trc q S :: pt g4 (.cells (ansC (ansE 0) nilV nilV) 32) :: L)).re 2 [1, 0])
          by_cases hbad2 : s'.node ≠ 0 ∧ (S.at_ s'.node).kind = 2 ∧ andI o.flags 32 ≠ 0
          · rw [decide_eq_true hbad2]
            have HRR := hid (show R = (ansE 8, S) from by rw [← HR3.out]; exact if_pos hbad2)
            have hz0 : w6.cell? ⟨g4, 0, none⟩ = some (.int .i64 0) := (HOa.out).cells 0
            have hz1 : w6.cell? ⟨g4, 1, none⟩ = some (.int .i64 0) := (HOa.out).cells 1
            have hz2 : w6.cell? ⟨g4, 2, none⟩ = some (.int .i64 0) := (HOa.out).cells 2
            have hz3 : w6.cell? ⟨g4, 3, none⟩ = some (.int .i64 0) := (HOa.out).cells 3
            have hz4 : w6.cell? ⟨g4, 4, none⟩ = some (.slice none 0 0) := (HOa.out).cells 4
            have hz5 : w6.cell? ⟨g4, 5, none⟩ = some (.slice none 0 0) := (HOa.out).cells 5
            have hy0 := (HOa.out).thaw 0
            have hy1 := (HOa.out).thaw 1
            have hy2 := (HOa.out).thaw 2
            have hy3 := (HOa.out).thaw 3
            have hy4 := (HOa.out).thaw 4
            have hy5 := (HOa.out).thaw 5
            go_wp2_with fail
            refine (tCode (8 : Int) w6 _ HOa.out).mono ?_
            rintro e w7 ⟨rfl, hO7, hK7⟩
            have HO7 := hid hO7
            have HK7 := hid ((HKd.out).trans hK7)
            clear hO7 hK7
            unfold ansV ansC ansE
            clear hz0 hz1 hz2 hz3 hz4 hz5 hy0 hy1 hy2 hy3 hy4 hy5
            have hz0 : w7.cell? ⟨g4, 0, none⟩ = some (.int .i64 0) := (HO7.out).cells 0
            have hz1 : w7.cell? ⟨g4, 1, none⟩ = some (.int .i64 0) := (HO7.out).cells 1
            have hz2 : w7.cell? ⟨g4, 2, none⟩ = some (.int .i64 0) := (HO7.out).cells 2
            have hz3 : w7.cell? ⟨g4, 3, none⟩ = some (.int .i64 0) := (HO7.out).cells 3
            have hz4 : w7.cell? ⟨g4, 4, none⟩ = some (.slice none 0 0) := (HO7.out).cells 4
            have hz5 : w7.cell? ⟨g4, 5, none⟩ = some (.slice none 0 0) := (HO7.out).cells 5
            have hy0 := (HO7.out).thaw 0
            have hy1 := (HO7.out).thaw 1
            have hy2 := (HO7.out).thaw 2
            have hy3 := (HO7.out).thaw 3
            have hy4 := (HO7.out).thaw 4
            have hy5 := (HO7.out).thaw 5
            go_wp2_with fail
            have h1 := ((show Has w7 (pt g4 (.cells (ansC (ansE 0) nilV nilV) 32) :: Trc q S :: L) from HO7.out)).ans (ansE (8 : Int)) nilV nilV
            refine bodyPost_ret (ans_result rfl rfl h1) rfl ?_
            rw [HRR.out]
            exact ⟨rfl, h1.drop, HK7.out.ans _ _ _ _ _ _ _⟩
          · rw [decide_eq_false hbad2]
            have HTb := hid (show Has w6 (Tab f S.tab :: Trt q m f P S.last :: pt g5 (.cells (spC s') 93) :: pt g4 (.cells (ansC (ansE 0) nilV nilV) 32) :: pt g3 (.cells (opC o ov) 35) :: L) from Trb.tab.1 HTd.out)
            have hq2 := (Trb.cells HTd.out).2.2
            go_wp2_with fail
            refine (tabList f S.tab w6 _ HPT.out.2 HTb.out).mono ?_
            rintro e w7 ⟨v7, rfl, hO7, hK7⟩
            have HO7 := hid hO7
            have HK7 := hid ((HKd.out).trans hK7)
            clear hO7 hK7
            try dsimp only
            clear hq2
            obtain ⟨p7, c7, rfl, -⟩ := (Ints.rd HO7.out).form
            have HO8 := hid (show Has w7 (pt g5 (.cells (spC s') 93) :: pt g4 (.cells (ansC (ansE 0) nilV nilV) 32) :: pt g3 (.cells (opC o ov) 35) :: Trc q S :: L) from (trc_iff.2 ⟨m, f, P, HPT.out, Trb.tab.2 (HO7.out.re 6 [1, 2, 3, 4, 5])⟩ : Has w7 (Trc q S :: pt g5 (.cells (spC s') 93) :: pt g4 (.cells (ansC (ansE 0) nilV nilV) 32) :: pt g3 (.cells (opC o ov) 35) :: L)).re 4 [1, 2, 3, 0])
            by_cases h16 : (16 : Int) ≤ ((Tb.lst S.tab 16).length : Int)
            · have HRR := hid (show R = (ansE 14, S) from by rw [← HR3.out]; exact (if_neg hbad2).trans (if_pos (by omega)))
              have HOb := hid (show Has w7 (pt g4 (.cells (ansC (ansE 0) nilV nilV) 32) :: Trc q S :: L) from HO8.out.re 4 [1, 3])
              have hz0 : w7.cell? ⟨g4, 0, none⟩ = some (.int .i64 0) := (HOb.out).cells 0
              have hz1 : w7.cell? ⟨g4, 1, none⟩ = some (.int .i64 0) := (HOb.out).cells 1
              have hz2 : w7.cell? ⟨g4, 2, none⟩ = some (.int .i64 0) := (HOb.out).cells 2
              have hz3 : w7.cell? ⟨g4, 3, none⟩ = some (.int .i64 0) := (HOb.out).cells 3
              have hz4 : w7.cell? ⟨g4, 4, none⟩ = some (.slice none 0 0) := (HOb.out).cells 4
              have hz5 : w7.cell? ⟨g4, 5, none⟩ = some (.slice none 0 0) := (HOb.out).cells 5
              have hy0 := (HOb.out).thaw 0
              have hy1 := (HOb.out).thaw 1
              have hy2 := (HOb.out).thaw 2
              have hy3 := (HOb.out).thaw 3
              have hy4 := (HOb.out).thaw 4
              have hy5 := (HOb.out).thaw 5
              go_wp2_with fail
              refine (tCode (14 : Int) w7 _ HOb.out).mono ?_
              rintro e w9 ⟨rfl, hO9, hK9⟩
              have HO9 := hid hO9
              have HK9 := hid ((HK7.out).trans hK9)
              clear hO9 hK9
              unfold ansV ansC ansE
              clear hz0 hz1 hz2 hz3 hz4 hz5 hy0 hy1 hy2 hy3 hy4 hy5
              have hz0 : w9.cell? ⟨g4, 0, none⟩ = some (.int .i64 0) := (HO9.out).cells 0
              have hz1 : w9.cell? ⟨g4, 1, none⟩ = some (.int .i64 0) := (HO9.out).cells 1
              have hz2 : w9.cell? ⟨g4, 2, none⟩ = some (.int .i64 0) := (HO9.out).cells 2
              have hz3 : w9.cell? ⟨g4, 3, none⟩ = some (.int .i64 0) := (HO9.out).cells 3
              have hz4 : w9.cell? ⟨g4, 4, none⟩ = some (.slice none 0 0) := (HO9.out).cells 4
              have hz5 : w9.cell? ⟨g4, 5, none⟩ = some (.slice none 0 0) := (HO9.out).cells 5
              have hy0 := (HO9.out).thaw 0
              have hy1 := (HO9.out).thaw 1
              have hy2 := (HO9.out).thaw 2
              have hy3 := (HO9.out).thaw 3
              have hy4 := (HO9.out).thaw 4
              have hy5 := (HO9.out).thaw 5
              go_wp2_with fail
              have h1 := ((show Has w9 (pt g4 (.cells (ansC (ansE 0) nilV nilV) 32) :: Trc q S :: L) from HO9.out)).ans (ansE (14 : Int)) nilV nilV
              refine bodyPost_ret (ans_result rfl rfl h1) rfl ?_
              rw [HRR.out]
              exact ⟨rfl, h1.drop, HK9.out.ans _ _ _ _ _ _ _⟩
            · have HR4 := hid (show ((⟨(Tb.opn S.tab (if s'.node = 0 then S.last + 1 else s'.node) o.flags).1.2, (Tb.opn S.tab (if s'.node = 0 then S.last + 1 else s'.node) o.flags).1.1, 0, 0, [], []⟩ : Ans), { (if andI o.flags 4 ≠ 0 then (if s'.node = 0 then S.make s' 1 [] else S).resize (if s'.node = 0 then S.last + 1 else s'.node) 0 else (if s'.node = 0 then S.make s' 1 [] else S)) with tab := (Tb.opn S.tab (if s'.node = 0 then S.last + 1 else s'.node) o.flags).2 }) = R from by
                exact (openAt_okT hbad2 (by omega)).symm.trans HR3.out)
              have k0 : w7.cell? ⟨g5, 0, none⟩ = some (.int .i64 s'.node) := (HO8.out).cells 0
              have k1 : w7.cell? ⟨g5, 1, none⟩ = some (.int .i64 s'.dir) := (HO8.out).cells 1
              have k2 : w7.cell? ⟨g5, 2, none⟩ = some (sV s'.name) := (HO8.out).cells 2
              have kt0 := (HO8.out).thaw 0
              have kt1 := (HO8.out).thaw 1
              have kt2 := (HO8.out).thaw 2
              go_upto_if 117 with fail
              go_cut [] (fun wx => ∃ (w9 : World) (n : Int) (S1 : Tre), w9 = wx ∧ n = (if s'.node = 0 then S.last + 1 else s'.node) ∧ S1 = (if s'.node = 0 then S.make s' 1 [] else S) ∧ Hid (Has w9 (pt g5 (.cells (spC ⟨n, s'.dir, s'.name⟩) 93) :: pt g4 (.cells (ansC (ansE 0) nilV nilV) 32) :: pt g3 (.cells (opC o ov) 35) :: Trc q S1 :: L)) ∧ Hid (Keep w w9) ∧ Hid (∃ x1, fnd S1.nodes n = some x1 ∧ x1.kind ≠ 3 ∧ x1.data.length ≤ 100000 ∧ x1.wr.length ≤ 100000))
              case first =>
                by_cases hn : s'.node = 0
                · have hnb : (s'.node == 0) = true := by simpa using hn
                  obtain ⟨⟨d, hd, hdk⟩, hln⟩ := HSD'.out hn
                  have HMK := hid (tMake q S s' 1 d w7 (pt g5 (.cells (spC s') 93) :: pt g4 (.cells (ansC (ansE 0) nilV nilV) 32) :: pt g3 (.cells (opC o ov) 35) :: L) (by decide) hd hdk (by omega) (HB.out.small _ _ hd).2.2 HB.out.last0 HB.out.last1 HB.out.free HB.out.many (HO8.out.re 4 [3, 0, 1, 2]))
                  unfold spV spC at HMK
                  have HIF := hid (show (if s'.node = 0 then S.last + 1 else s'.node) = S.last + 1 ∧ (if s'.node = 0 then S.make s' 1 [] else S) = S.make s' 1 [] from ⟨if_pos hn, if_pos hn⟩)
                  clear hn
                  go_wp2_with fail
                  refine (HMK.out).mono ?_
                  rintro e w9 ⟨rfl, hO9, hK9⟩
                  have HO9 := hid hO9
                  have HK9 := hid ((HK7.out).trans hK9)
                  clear hO9 hK9
                  try dsimp only
                  have HO9' := hid (show Has w9 (pt g5 (.cells (spC s') 93) :: pt g4 (.cells (ansC (ansE 0) nilV nilV) 32) :: pt g3 (.cells (opC o ov) 35) :: Trc q (S.make s' 1 []) :: L) from HO9.out.re 4 [1, 2, 3, 0])
                  have hv0 : w9.cell? ⟨g5, 0, none⟩ = some (.int .i64 s'.node) := HO9'.out.cells 0
                  have hvt := HO9'.out.thaw 0
                  go_wp2_with fail
                  go_meet
                  exact ⟨_, S.last + 1, S.make s' 1 [], rfl, HIF.out.1.symm, HIF.out.2.symm, hid (HO9'.out.set 0 (.int .i64 (S.last + 1))), hid (HK9.out.set _ _), hid (make_new S s')⟩
                · have hnb : (s'.node == 0) = false := by simpa using hn
                  have HXN := hid (show ∃ x1, fnd S.nodes s'.node = some x1 ∧ x1.kind ≠ 3 ∧ x1.data.length ≤ 100000 ∧ x1.wr.length ≤ 100000 from by
                    obtain ⟨x, hx, h3⟩ := HSN.out hn
                    exact ⟨x, hx, h3, (HB.out.small _ _ hx).1, (HB.out.small _ _ hx).2.1⟩)
                  have HIF := hid (show (if s'.node = 0 then S.last + 1 else s'.node) = s'.node ∧ (if s'.node = 0 then S.make s' 1 [] else S) = S from ⟨if_neg hn, if_neg hn⟩)
                  clear hn
                  go_wp2_with fail
                  go_meet
                  exact ⟨_, s'.node, S, rfl, HIF.out.1.symm, HIF.out.2.symm, HO8, HK7, HXN⟩
              case rest =>
                obtain ⟨w9, n, S0, rfl, hn1, hS1, HO9, HK9, HX1⟩ := hcut
                rw [← hn1, ← hS1] at HR4
                have HT0 := hid (show S0.tab = S.tab from by rw [hS1]; split <;> rfl)
                clear hn1 hS1 HO8 HK7 k0 k1 k2 kt0 kt1 kt2
                have hf4 : w9.cell? ⟨g3, 4, none⟩ = some (.int .i64 o.flags) := HO9.out.p2.cells 4
                go_upto_if 125 with fail
                go_cut [] (fun wx => ∃ (w8 : World) (S1 : Tre), w8 = wx ∧ S1 = (if andI o.flags 4 ≠ 0 then S0.resize n 0 else S0) ∧ Hid (Has w8 (pt g5 (.cells (spC ⟨n, s'.dir, s'.name⟩) 93) :: pt g4 (.cells (ansC (ansE 0) nilV nilV) 32) :: pt g3 (.cells (opC o ov) 35) :: Trc q S1 :: L)) ∧ Hid (Keep w w8))
                case first =>
                  by_cases h4 : andI o.flags 4 = 0
                  · have hfb4 : (bits BinOp.and IntKind.i64 o.flags 4 != 0) = false := by simpa [andI] using h4
                    have HIF := hid (show (if andI o.flags 4 ≠ 0 then S0.resize n 0 else S0) = S0 from if_neg (fun h => h h4))
                    clear h4
                    go_wp2_with fail
                    go_meet
                    exact ⟨_, S0, rfl, HIF.out.symm, HO9, HK9⟩
                  · have hfb4 : (bits BinOp.and IntKind.i64 o.flags 4 != 0) = true := by simpa [andI] using h4
                    have HIF := hid (show (if andI o.flags 4 ≠ 0 then S0.resize n 0 else S0) = S0.resize n 0 from if_pos h4)
                    clear h4
                    obtain ⟨x1, hx1, hx3, hxd, hxw⟩ := HX1.out
                    have hs0 : w9.cell? ⟨g5, 0, none⟩ = some (.int .i64 n) := HO9.out.cells 0
                    have HRZ := hid (show Calls Tryz.prog 118 #[.pointer (some ⟨q, 0, none⟩), .int .i64 n, .int .i64 0] w9 _ from tResizeC q S0 n x1 0 w9 _ hx1 hxd (by omega) hxw hx3 (HO9.out.re 4 [3, 0, 1, 2]))
                    clear hx1 hx3 hxd hxw
                    go_wp2_with fail
                    refine (HRZ.out).mono ?_
                    rintro e w8 ⟨rfl, hO8, hK8⟩
                    have HO8 := hid hO8
                    have HK8 := hid ((HK9.out).trans hK8)
                    clear hO8 hK8
                    try dsimp only
                    go_wp2_with fail
                    go_meet
                    exact ⟨_, S0.resize n 0, rfl, HIF.out.symm, hid (HO8.out.re 4 [1, 2, 3, 0]), HK8⟩
                case rest =>
                obtain ⟨w8, S1, rfl, hS1, HO8, HK8⟩ := hcut
                rw [← hS1] at HR4
                have HT1 := hid (show S1.tab = S.tab from by rw [hS1, ← HT0.out]; split <;> rfl)
                clear hS1 HO9 HK9 hf4 HT0 HX1
                generalize w8 = w9 at *
                have HO9 := HO8
                have HK9 := HK8
                have hf4 : w9.cell? ⟨g3, 4, none⟩ = some (.int .i64 o.flags) := HO9.out.p2.cells 4
                obtain ⟨m1, f1, P1, hPT1, hTr1⟩ := trc_iff.1 (HO9.out.re 4 [3, 0, 1, 2])
                have HPT1 := hid hPT1
                have HTb1 := hid (show Has w9.drew (Tab f1 S1.tab :: Trt q m1 f1 P1 S1.last :: pt g5 (.cells (spC ⟨n, s'.dir, s'.name⟩) 93) :: pt g4 (.cells (ansC (ansE 0) nilV nilV) 32) :: pt g3 (.cells (opC o ov) 35) :: L) from Trb.tab.1 hTr1.drew)
                have hq2 := (Trb.cells hTr1.drew).2.2
                have hs0 : w9.drew.cell? ⟨g5, 0, none⟩ = some (.int .i64 n) := HO9.out.drew.cells 0
                have hf4' : w9.drew.cell? ⟨g3, 4, none⟩ = some (.int .i64 o.flags) := hf4
                clear hTr1 hPT1
                go_upto_region 24 with fail
                refine region_text (fun w' => w'.cell? ⟨q, 2, none⟩ = some (.pointer (some ⟨f1, 0, none⟩)) ∧ w'.cell? ⟨g5, 0, none⟩ = some (.int .i64 n) ∧ w'.cell? ⟨g3, 4, none⟩ = some (.int .i64 o.flags)) (by kernel_rfl) (by kernel_rfl) ⟨hq2, hs0, hf4'⟩ ?_
                repeat (first
                  | (refine wpL_read (by rfl) (by rfl) ?_ ?_ ?_; rotate_left; (rintro w ⟨z0, z1, z2⟩; go_simp; with_reducible rfl); simp only [Act.put, List.setIfInBounds_toArray, List.set_cons_zero, List.set_cons_succ]) | (refine wpL_skip (by rfl) ?_; simp only [Act.put, List.setIfInBounds_toArray, List.set_cons_zero, List.set_cons_succ]))
                refine wpL_act (by rfl) (by rfl) (fun K hK => ?_)
                go_simp
                refine (tabOpen f1 S1.tab n o.flags _ _ HPT1.out.2 HTb1.out).mono ?_
                rintro e w10 ⟨rfl, hO10, hK10⟩
                have HO10 := hid hO10
                have HK10 := hid ((HK9.out.drew).trans hK10)
                clear hO10 hK10
                try dsimp only
                refine hK.out _ _ (⟨(Trb.cells (Trb.tab.2 HO10.out)).2.2, HO10.out.p2.cells 0, HO10.out.p4.cells 4⟩) ?_
                clear hK K
                try simp only [Act.put, List.setIfInBounds_toArray, List.set_cons_zero, List.set_cons_succ]
                repeat (first
                  | (refine wpL_read (by rfl) (by rfl) ?_ ?_ ?_; rotate_left; (rintro w ⟨z0, z1, z2⟩; go_simp; with_reducible rfl); simp only [Act.put, List.setIfInBounds_toArray, List.set_cons_zero, List.set_cons_succ]) | (refine wpL_skip (by rfl) ?_; simp only [Act.put, List.setIfInBounds_toArray, List.set_cons_zero, List.set_cons_succ]))
                refine wpL_nil ?_
                have HOb := hid (show Has w10 (pt g4 (.cells (ansC (ansE 0) nilV nilV) 32) :: Trb q m1 f1 P1 S1.last (Tb.opn S1.tab n o.flags).2 :: L) from (Trb.tab.2 HO10.out).re 4 [2, 0])
                rw [← HT1.out] at HR4
                have HOL := hid (Tb.opn_len S1.tab n o.flags HPT1.out.2)
                generalize Tb.opn S1.tab n o.flags = op1 at *
                obtain ⟨⟨c1, c2⟩, T1⟩ := op1
                dsimp only at *
                have hz0 : w10.cell? ⟨g4, 0, none⟩ = some (.int .i64 0) := (HOb.out).cells 0
                have hz1 : w10.cell? ⟨g4, 1, none⟩ = some (.int .i64 0) := (HOb.out).cells 1
                have hz2 : w10.cell? ⟨g4, 2, none⟩ = some (.int .i64 0) := (HOb.out).cells 2
                have hz3 : w10.cell? ⟨g4, 3, none⟩ = some (.int .i64 0) := (HOb.out).cells 3
                have hz4 : w10.cell? ⟨g4, 4, none⟩ = some (.slice none 0 0) := (HOb.out).cells 4
                have hz5 : w10.cell? ⟨g4, 5, none⟩ = some (.slice none 0 0) := (HOb.out).cells 5
                have hy0 := (HOb.out).thaw 0
                have hy1 := (HOb.out).thaw 1
                have hy2 := (HOb.out).thaw 2
                have hy3 := (HOb.out).thaw 3
                have hy4 := (HOb.out).thaw 4
                have hy5 := (HOb.out).thaw 5
                go_wp2_with fail
                have h1 := HOb.out.ans ⟨c2, c1, 0, 0, [], []⟩ nilV nilV
                refine bodyPost_ret (ans_result rfl rfl h1) rfl ?_
                rw [← HR4.out]
                exact ⟨rfl, trc_iff.2 ⟨m1, f1, P1, ⟨HPT1.out.1, HOL.out⟩, h1.drop⟩, HK10.out.ans _ _ _ _ _ _ _⟩
end Go.Proofs.YtonhcefgakmpfaaGreatDoor
/- THE WALK of tree.Do: open (with FTrunc too). -/
namespace Go.Proofs.YtonhcefgakmpfaaGreatDoor
open Go.RowKit Go.Own
set_option maxRecDepth 100000 in
set_option maxHeartbeats 8000000 in
theorem doOpenT (q : Nat) (S : Tre) (fd n off flags : Int) (path dest : Str) (ov : Value) (w : World) (L : List HP) (rk : Int → Nat) (mx : Int) (hW : Wk S) (hY : Wy S rk) (hB : Opb S) (hM : MxL mx L) (hp : path.length ≤ 100000) (hnl : (S.find path true).2 = 0 → (S.at_ (S.find path true).1.node).kind ≠ 3) (hO : Has w (Trc q S :: L)) :
    Calls Tryz.prog 17 #[.pointer (some ⟨q, 0, none⟩), opV ⟨1, fd, n, off, flags, path, dest⟩ (ov)] w fun e w' => e = .returned (ansV (S.openFd path flags).1 nilV nilV) ∧ Has w' (Trc q (S.openFd path flags).2 :: L) ∧ Keep w w' := by
  have HX0 := (fun (w : World) (L' : List HP) (hM : MxL mx L') (hO : Has w (Trc q S :: L')) => tOpenT q S rk ⟨1, fd, n, off, flags, path, dest⟩ ov mx w L' hW hY hB hM hp hnl hO)
  try dsimp only at HX0
  have HX := hid HX0
  clear HX0
  have HM := hid hM
  clear hM
  generalize S.openFd path flags = R at *
  have HO := hid hO
  clear hO
  try unfold opV opC at HX
  unfold opV opC
  go_enter Tryz.func17, Tryz.ntmps17
  go_upto_region 1 with fail
  have h1 := (HO.out.alloc (.cells #[.int .i64 1, .int .i64 fd, .int .i64 n, .int .i64 off, .int .i64 flags, sV path, sV dest, ov] 35)).alloc (.cells (ansC (ansE 0) nilV nilV) 32)
  have HK1 := hid (((Keep.refl w).alloc (.cells #[.int .i64 1, .int .i64 fd, .int .i64 n, .int .i64 off, .int .i64 flags, sV path, sV dest, ov] 35)).alloc (.cells (ansC (ansE 0) nilV nilV) 32))
  unfold ansC ansE at h1 HK1
  have e1 : (w.alloc (.cells #[.int .i64 1, .int .i64 fd, .int .i64 n, .int .i64 off, .int .i64 flags, sV path, sV dest, ov] 35)).heap.size = w.heap.size + 1 := by show (Array.push _ _).size = _; rw [Array.size_push]
  rw [e1] at h1
  have HO1 := hid h1
  clear h1 e1 HO
  generalize (w.alloc (.cells #[.int .i64 1, .int .i64 fd, .int .i64 n, .int .i64 off, .int .i64 flags, sV path, sV dest, ov] 35)).alloc (.cells #[.int .i64 0, .int .i64 0, .int .i64 0, .int .i64 0, nilV, nilV] 32) = w1 at *
  generalize w.heap.size = g3 at *
  generalize g3 + 1 = g4 at *
  have hp0 : w1.cell? ⟨g3, 0, none⟩ = some (.int .i64 1) := HO1.out.p1.cells 0
  have hp1 : w1.cell? ⟨g3, 1, none⟩ = some (.int .i64 fd) := HO1.out.p1.cells 1
  have hp2 : w1.cell? ⟨g3, 2, none⟩ = some (.int .i64 n) := HO1.out.p1.cells 2
  have hp3 : w1.cell? ⟨g3, 3, none⟩ = some (.int .i64 off) := HO1.out.p1.cells 3
  have hp4 : w1.cell? ⟨g3, 4, none⟩ = some (.int .i64 flags) := HO1.out.p1.cells 4
  have hp5 : w1.cell? ⟨g3, 5, none⟩ = some (sV path) := HO1.out.p1.cells 5
  have hp6 : w1.cell? ⟨g3, 6, none⟩ = some (sV dest) := HO1.out.p1.cells 6
  have hp7 : w1.cell? ⟨g3, 7, none⟩ = some (ov) := HO1.out.p1.cells 7
  go_wp2_with fail
  refine (HX.out w1 _ ((HM.out.cons (pt g3 (.cells #[.int .i64 1, .int .i64 fd, .int .i64 n, .int .i64 off, .int .i64 flags, sV path, sV dest, ov] 35))).cons (pt g4 (.cells #[.int .i64 0, .int .i64 0, .int .i64 0, .int .i64 0, nilV, nilV] 32))) (HO1.out.re 3 [2, 0, 1])).mono ?_
  rintro e w2 ⟨rfl, hO2, hK2⟩
  have HO2 := hid hO2
  have HK2 := hid ((HK1.out).trans hK2)
  clear hO2 hK2
  try dsimp only
  have HO3 := hid (show Has w2 (pt g4 (.cells (ansC (ansE 0) nilV nilV) 32) :: Trc q R.2 :: L) from HO2.out.re 3 [1, 0])
  have hz0 : w2.cell? ⟨g4, 0, none⟩ = some (.int .i64 0) := (HO3.out).cells 0
  have hz1 : w2.cell? ⟨g4, 1, none⟩ = some (.int .i64 0) := (HO3.out).cells 1
  have hz2 : w2.cell? ⟨g4, 2, none⟩ = some (.int .i64 0) := (HO3.out).cells 2
  have hz3 : w2.cell? ⟨g4, 3, none⟩ = some (.int .i64 0) := (HO3.out).cells 3
  have hz4 : w2.cell? ⟨g4, 4, none⟩ = some (.slice none 0 0) := (HO3.out).cells 4
  have hz5 : w2.cell? ⟨g4, 5, none⟩ = some (.slice none 0 0) := (HO3.out).cells 5
  have hy0 := (HO3.out).thaw 0
  have hy1 := (HO3.out).thaw 1
  have hy2 := (HO3.out).thaw 2
  have hy3 := (HO3.out).thaw 3
  have hy4 := (HO3.out).thaw 4
  have hy5 := (HO3.out).thaw 5
  unfold ansV ansC
  go_wp2_with fail
  have h1 := HO3.out.ans R.1 nilV nilV
  refine bodyPost_ret (ans_result rfl rfl h1) rfl ?_
  exact ⟨rfl, h1.drop, HK2.out.ans _ _ _ _ _ _ _⟩
end Go.Proofs.YtonhcefgakmpfaaGreatDoor
