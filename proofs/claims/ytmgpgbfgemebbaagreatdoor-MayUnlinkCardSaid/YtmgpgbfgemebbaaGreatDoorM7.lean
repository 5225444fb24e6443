/- TEXTS of mine, merged. -/
import Derived.Test.YtmgpgbfgemebbaaGreatDoorM6
import Derived.Test.YtmgpgbfgemebbaaGreatDoorM5
import Derived.Test.YtmgpgbfgemebbaaGreatDoorM4
import Derived.Test.YtmgpgbfgemebbaaGreatDoorM1
import Derived.Shelf.GgSortFunc.InsertionK
set_option linter.all false
namespace Go.Proofs.YtmgpgbfgemebbaaGreatDoor
open Go.RowKit Go.Own
end Go.Proofs.YtmgpgbfgemebbaaGreatDoor
namespace Go.Proofs.YtmgpgbfgemebbaaGreatDoor
open Go.RowKit Go.Own
theorem place_there {S : Tre} (hW : Wk S) (p : Str) (h0 : (S.place p).2 = 0) : (∃ d, fnd S.nodes (S.place p).1.dir = some d ∧ d.kind = 2) ∧ (S.place p).1.name.length ≤ 24 ∧ ((S.place p).1.node ≠ 0 → ∃ x, fnd S.nodes (S.place p).1.node = some x) := by
 unfold Tre.place at *
 have hln := last_name p
 split at h0
 ·rename_i h; exact absurd h0 h
 rename_i h1
 rw [if_neg h1]
 split at h0
 ·rename_i h; exact absurd h0 h
 rename_i h2
 rw [if_neg h2]
 obtain ⟨d, hd⟩ := find_there hW _ true (by simpa using h2)
 have hat : S.at_ (S.find (lastM p).1 true).1.node = d := by unfold Tre.at_; rw [hd]; rfl
 rw [hat] at h0 ⊢
 split at h0
 ·simp at h0
 rename_i h3
 rw [if_neg h3]
 split at h0
 ·simp at h0
 rename_i h4
 rw [if_neg h4]
 refine ⟨⟨d, hd, by simpa using h3⟩, hln, ?_⟩
 intro hne
 cases hf : fnd d.names (lastM p).2.1 with
 | none => rw [hf] at hne; exact absurd rfl hne
 | some c => exact hW.child _ _ hd _ _ hf
structure Opb (S : Tre) : Prop where
 last0 : 0 ≤ S.last
 last1 : S.last < 1000000
 free : fnd S.nodes (S.last + 1) = none
 many : S.nodes.length < 1000000
 zero : fnd S.nodes 0 = none
 small : ∀ n x, fnd S.nodes n = some x → x.data.length ≤ 100000 ∧ x.wr.length ≤ 100000 ∧ x.names.length < 1000000
theorem openAt_ok {S : Tre} {s : Spt} {fl : Int} (h1 : ¬ (s.node ≠ 0 ∧ (S.at_ s.node).kind = 2 ∧ andI fl 32 ≠ 0)) (h2 : ¬ 16 ≤ (Tb.lst S.tab 16).length) (h4 : andI fl 4 = 0) :
  S.openAt s fl = ((⟨(Tb.opn S.tab (if s.node = 0 then S.last + 1 else s.node) fl).1.2, (Tb.opn S.tab (if s.node = 0 then S.last + 1 else s.node) fl).1.1, 0, 0, [], []⟩ : Ans), { (if s.node = 0 then S.make s 1 [] else S) with tab := (Tb.opn S.tab (if s.node = 0 then S.last + 1 else s.node) fl).2 }) := by
 unfold Tre.openAt
 rw [if_neg h1, if_neg h2]
 by_cases hn : s.node = 0
 ·simp only [hn, if_true, h4, ne_eq, not_true_eq_false, if_false]
  rfl
 ·simp only [hn, if_false, h4, ne_eq, not_true_eq_false]
set_option maxRecDepth 100000 in
set_option maxHeartbeats 8000000 in
theorem tOpen (q : Nat) (S : Tre) (rk : Int → Nat) (o : Opm) (ov : Value) (mx : Int) (w : World) (L : List HP) (hW : Wk S) (hY : Wy S rk) (hB : Opb S) (hM : MxL mx L) (hp : o.path.length ≤ 100000) (hno4 : andI o.flags 4 = 0) (hO : Has w (Trc q S :: L)) :
  Calls Tryz.prog 47 #[.pointer (some ⟨q, 0, none⟩), opV o ov] w fun e w' => e = .returned (ansV (S.openFd o.path o.flags).1 nilV nilV) ∧ Has w' (Trc q (S.openFd o.path o.flags).2 :: L) ∧ Keep w w' := by
 have HFI := hid (fun (w : World) (L' : List HP) (hM : MxL mx L') (hO : Has w (Trc q S :: L')) => tFind q S o.path true mx w L' hW hM hp hO)
 have HPL := hid (fun (w : World) (L' : List HP) (hM : MxL mx L') (hO : Has w (Trc q S :: L')) => tPlace q S rk o.path mx w L' hW hY hM hp hO)
 have HTF := hid (find_there hW o.path true)
 have HTP := hid (place_there hW o.path)
 generalize hR : S.openFd o.path o.flags = R
 unfold Tre.openFd at hR
 generalize S.find o.path true = F at *
 generalize S.place o.path = G at *
 obtain ⟨s2, e2⟩ := F
 obtain ⟨s1, e1⟩ := G
 dsimp only at *
 have HR := hid hR
 have HM := hid hM
 have HB := hid hB
 have HO := hid hO
 clear hO hR hW hM hp hY hB
 unfold opV opC
 go_enter Tryz.func47, Tryz.ntmps47
 go_upto_region 1 with fail
 have h1 := (HO.out.alloc (.cells (opC o ov) 33)).alloc (.cells (ansC (ansE 0) nilV nilV) 38)
 have HK1 := hid (((Keep.refl w).alloc (.cells (opC o ov) 33)).alloc (.cells (ansC (ansE 0) nilV nilV) 38))
 unfold opC ansC ansE at h1 HK1
 have e3 : (w.alloc (.cells #[.int .i64 o.kind, .int .i64 o.fd, .int .i64 o.n, .int .i64 o.off, .int .i64 o.flags, sV o.path, sV o.dest, ov] 33)).heap.size = w.heap.size + 1 := by show (Array.push _ _).size = _; rw [Array.size_push]
 rw [e3] at h1
 have HO1 := hid h1
 clear h1 e3 HO
 generalize (w.alloc (.cells #[.int .i64 o.kind, .int .i64 o.fd, .int .i64 o.n, .int .i64 o.off, .int .i64 o.flags, sV o.path, sV o.dest, ov] 33)).alloc (.cells #[.int .i64 0, .int .i64 0, .int .i64 0, .int .i64 0, nilV, nilV] 38) = w1 at *
 generalize (Value.agg #[.int .i64 o.kind, .int .i64 o.fd, .int .i64 o.n, .int .i64 o.off, .int .i64 o.flags, sV o.path, sV o.dest, ov]) = av at *
 generalize w.heap.size = g3 at *
 generalize g3 + 1 = g4 at *
 have hp4 : w1.cell? ⟨g3, 4, none⟩ = some (.int .i64 o.flags) := HO1.out.p1.cells 4
 have HOa := hid (show Has w1 (pt g4 (.cells (ansC (ansE 0) nilV nilV) 38) :: Trc q S :: L) from HO1.out.re 3 [0, 2])
 by_cases hbad : o.flags < 0 ∨ 64 ≤ o.flags ∨ (andI o.flags 12 ≠ 0 ∧ andI o.flags 32 = 0)
 ·have HRR := hid (show R = (ansE 2, S) from by rw [← HR.out, if_pos hbad])
  go_upto_region 1 with fail
  go_cut [31] (fun a wx => wx = w1 ∧ a = .bool true)
  case first =>
   by_cases hb1 : o.flags < 0
   ·go_wp2_with fail
    go_meet
    exact ⟨rfl, rfl⟩
   by_cases hb2 : o.flags ≥ 64
   ·go_wp2_with fail
    go_meet
    exact ⟨rfl, rfl⟩
   ·obtain ⟨hb3, hb4⟩ := (hbad.resolve_left hb1).resolve_left hb2
    unfold andI at hb3 hb4
    have hb5 : (bits BinOp.and IntKind.i64 o.flags 12 != 0) = true := by simpa using hb3
    have hb6 : (bits BinOp.and IntKind.i64 o.flags 32 == 0) = true := by simpa using hb4
    go_wp2_with fail
    go_meet
    exact ⟨rfl, rfl⟩
  case rest =>
   obtain ⟨hwx, rfl⟩ := hcut
   have hwx2 := hwx.symm
   subst hwx2
   have hz0 : w1.cell? ⟨g4, 0, none⟩ = some (.int .i64 0) := (HOa.out).cells 0
   have hz1 : w1.cell? ⟨g4, 1, none⟩ = some (.int .i64 0) := (HOa.out).cells 1
   have hz2 : w1.cell? ⟨g4, 2, none⟩ = some (.int .i64 0) := (HOa.out).cells 2
   have hz3 : w1.cell? ⟨g4, 3, none⟩ = some (.int .i64 0) := (HOa.out).cells 3
   have hz4 : w1.cell? ⟨g4, 4, none⟩ = some (.slice none 0 0) := (HOa.out).cells 4
   have hz5 : w1.cell? ⟨g4, 5, none⟩ = some (.slice none 0 0) := (HOa.out).cells 5
   have hy0 := (HOa.out).thaw 0
   have hy1 := (HOa.out).thaw 1
   have hy2 := (HOa.out).thaw 2
   have hy3 := (HOa.out).thaw 3
   have hy4 := (HOa.out).thaw 4
   have hy5 := (HOa.out).thaw 5
   go_wp2_with fail
   refine (tCode (2 : Int) w1 _ HOa.out).mono ?_
   rintro e w5 ⟨rfl, hO5, hK5⟩
   have HO5 := hid hO5
   have HK5 := hid ((HK1.out).trans hK5)
   clear hO5 hK5
   unfold ansV ansC ansE
   clear hz0 hz1 hz2 hz3 hz4 hz5 hy0 hy1 hy2 hy3 hy4 hy5
   have hz0 : w5.cell? ⟨g4, 0, none⟩ = some (.int .i64 0) := (HO5.out).cells 0
   have hz1 : w5.cell? ⟨g4, 1, none⟩ = some (.int .i64 0) := (HO5.out).cells 1
   have hz2 : w5.cell? ⟨g4, 2, none⟩ = some (.int .i64 0) := (HO5.out).cells 2
   have hz3 : w5.cell? ⟨g4, 3, none⟩ = some (.int .i64 0) := (HO5.out).cells 3
   have hz4 : w5.cell? ⟨g4, 4, none⟩ = some (.slice none 0 0) := (HO5.out).cells 4
   have hz5 : w5.cell? ⟨g4, 5, none⟩ = some (.slice none 0 0) := (HO5.out).cells 5
   have hy0 := (HO5.out).thaw 0
   have hy1 := (HO5.out).thaw 1
   have hy2 := (HO5.out).thaw 2
   have hy3 := (HO5.out).thaw 3
   have hy4 := (HO5.out).thaw 4
   have hy5 := (HO5.out).thaw 5
   go_wp2_with fail
   have h1 := ((show Has w5 (pt g4 (.cells (ansC (ansE 0) nilV nilV) 38) :: Trc q S :: L) from HO5.out)).ans (ansE (2 : Int)) nilV nilV
   refine bodyPost_ret (ans_result rfl rfl h1) rfl ?_
   rw [HRR.out]
   exact ⟨rfl, h1.drop, HK5.out.ans _ _ _ _ _ _ _⟩
 ·have HR1 := hid ((if_neg hbad).symm.trans HR.out)
  go_upto_region 1 with fail
  go_cut [31] (fun a wx => wx = w1 ∧ a = .bool false)
  case first =>
   have hb1 : ¬ o.flags < 0 := fun h => hbad (.inl h)
   have hb2 : ¬ o.flags ≥ 64 := fun h => hbad (.inr (.inl h))
   by_cases hb5 : (bits BinOp.and IntKind.i64 o.flags 12 != 0) = true
   ·have hb6 : (bits BinOp.and IntKind.i64 o.flags 32 == 0) = false := by
     have : ¬ (andI o.flags 32 = 0) := fun h => hbad (.inr (.inr ⟨by simpa [andI] using hb5, h⟩))
     simpa [andI] using this
    go_wp2_with fail
    go_meet
    exact ⟨rfl, rfl⟩
   ·have hb5' : (bits BinOp.and IntKind.i64 o.flags 12 != 0) = false := by simpa using hb5
    go_wp2_with fail
    go_meet
    exact ⟨rfl, rfl⟩
  case rest =>
  obtain ⟨hwx, rfl⟩ := hcut
  have hwx2 := hwx.symm
  subst hwx2
  clear HR
  go_upto_region 4 with fail
  have HO3 := hid (show Has (w1.alloc (.cells #[.int .i64 0, .int .i64 0, .string ⟨#[]⟩] 102)) (pt w1.heap.size (.cells (spC spt0) 102) :: pt g4 (.cells (ansC (ansE 0) nilV nilV) 38) :: pt g3 (.cells (opC o ov) 33) :: Trc q S :: L) from HO1.out.alloc (.cells (spC spt0) 102))
  have HK3 := hid (HK1.out.alloc (.cells #[.int .i64 0, .int .i64 0, .string ⟨#[]⟩] 102))
  clear HO1 HK1 hp4 HOa
  generalize w1.alloc (.cells #[.int .i64 0, .int .i64 0, .string ⟨#[]⟩] 102) = w3 at *
  generalize w1.heap.size = g5 at *
  have hp4 : w3.cell? ⟨g3, 4, none⟩ = some (.int .i64 o.flags) := HO3.out.p2.cells 4
  go_upto_if 37 with fail
  go_cut [] (fun wx => ∃ (w4 : World) (s : Spt), w4 = wx ∧ Hid (Has w4 (pt g5 (.cells (spC s) 102) :: pt g4 (.cells (ansC (ansE 0) nilV nilV) 38) :: pt g3 (.cells (opC o ov) 33) :: Trc q S :: L)) ∧ Hid (Keep w w4) ∧ Hid ((if s.node ≠ 0 ∨ s.dir = 0 then (if e2 ≠ 0 then (ansE e2, S) else S.openAt s2 o.flags) else S.openAt s o.flags) = R) ∧ Hid (s.node = 0 → s.dir ≠ 0 → (∃ d, fnd S.nodes s.dir = some d ∧ d.kind = 2) ∧ s.name.length ≤ 24))
  case first =>
   by_cases hf1 : andI o.flags 1 = 0
   ·have hfb : (bits BinOp.and IntKind.i64 o.flags 1 != 0) = false := by simpa [andI] using hf1
    go_wp2_with fail
    go_meet
    exact ⟨_, spt0, rfl, HO3, HK3, hid ((if_pos (.inr rfl)).trans ((if_neg (fun h => h hf1)).symm.trans HR1.out)), hid fun _ h => absurd rfl h⟩
   ·have hfb : (bits BinOp.and IntKind.i64 o.flags 1 != 0) = true := by simpa [andI] using hf1
    have HR2 := hid ((if_pos hf1).symm.trans HR1.out)
    have hp5 : w3.cell? ⟨g3, 5, none⟩ = some (sV o.path) := HO3.out.p2.cells 5
    go_upto_region 5 with fail
    go_cut [6, 7] (fun p6 e7 wx => ∃ (w4 : World) (g6 : Nat), w4 = wx ∧ e7 = .int .i64 e1 ∧ p6 = .pointer (some ⟨g6, 0, none⟩) ∧ Hid (Has w4 (pt g6 (.cells (spC s1) 102) :: pt g5 (.cells (spC spt0) 102) :: pt g4 (.cells (ansC (ansE 0) nilV nilV) 38) :: pt g3 (.cells (opC o ov) 33) :: Trc q S :: L)) ∧ Hid (Keep w w4))
    case first =>
     go_wp2_with fail
     refine (HPL.out w3 _ (((HM.out.cons (pt g3 (.cells (opC o ov) 33))).cons (pt g4 (.cells (ansC (ansE 0) nilV nilV) 38))).cons (pt g5 (.cells (spC spt0) 102))) (HO3.out.re 4 [3, 0, 1, 2])).mono ?_
     rintro e w4 ⟨rfl, hO4, hK4⟩
     have HO4 := hid hO4
     have HK4 := hid ((HK3.out).trans hK4)
     clear hO4 hK4
     try dsimp only
     unfold spV spC
     go_wp2_with fail
     go_meet
     exact ⟨_, _, rfl, rfl, rfl, hid ((HO4.out.alloc (.cells (spC s1) 102)).re 5 [0, 2, 3, 4, 1]), hid (HK4.out.alloc _)⟩
    case rest =>
     obtain ⟨w4, g6, rfl, rfl, rfl, HO4, HK4⟩ := hcut
     clear hp4 hp5
     have HOa := hid (show Has w4 (pt g4 (.cells (ansC (ansE 0) nilV nilV) 38) :: Trc q S :: L) from HO4.out.re 5 [2, 4])
     have hz0 : w4.cell? ⟨g4, 0, none⟩ = some (.int .i64 0) := (HOa.out).cells 0
     have hz1 : w4.cell? ⟨g4, 1, none⟩ = some (.int .i64 0) := (HOa.out).cells 1
     have hz2 : w4.cell? ⟨g4, 2, none⟩ = some (.int .i64 0) := (HOa.out).cells 2
     have hz3 : w4.cell? ⟨g4, 3, none⟩ = some (.int .i64 0) := (HOa.out).cells 3
     have hz4 : w4.cell? ⟨g4, 4, none⟩ = some (.slice none 0 0) := (HOa.out).cells 4
     have hz5 : w4.cell? ⟨g4, 5, none⟩ = some (.slice none 0 0) := (HOa.out).cells 5
     have hy0 := (HOa.out).thaw 0
     have hy1 := (HOa.out).thaw 1
     have hy2 := (HOa.out).thaw 2
     have hy3 := (HOa.out).thaw 3
     have hy4 := (HOa.out).thaw 4
     have hy5 := (HOa.out).thaw 5
     have hp4 : w4.cell? ⟨g3, 4, none⟩ = some (.int .i64 o.flags) := HO4.out.p3.cells 4
     have k0 : w4.cell? ⟨g6, 0, none⟩ = some (.int .i64 s1.node) := (HO4.out).cells 0
     have k1 : w4.cell? ⟨g6, 1, none⟩ = some (.int .i64 s1.dir) := (HO4.out).cells 1
     have k2 : w4.cell? ⟨g6, 2, none⟩ = some (sV s1.name) := (HO4.out).cells 2
     have kt0 := (HO4.out).thaw 0
     have kt1 := (HO4.out).thaw 1
     have kt2 := (HO4.out).thaw 2
     by_cases he1 : e1 = 0
     ·subst he1
      have HR3 := hid ((if_neg (fun h => h rfl)).symm.trans HR2.out)
      by_cases hx : s1.node ≠ 0 ∧ andI o.flags 2 ≠ 0
      ·have HRR := hid (show R = (ansE 6, S) from by rw [← HR3.out, if_pos hx])
       have hxa : (s1.node != 0) = true := by simpa using hx.1
       have hxb : (bits BinOp.and IntKind.i64 o.flags 2 != 0) = true := by simpa [andI] using hx.2
       go_wp2_with fail
       refine (tCode (6 : Int) w4 _ HOa.out).mono ?_
       rintro e w5 ⟨rfl, hO5, hK5⟩
       have HO5 := hid hO5
       have HK5 := hid ((HK4.out).trans hK5)
       clear hO5 hK5
       unfold ansV ansC ansE
       clear hz0 hz1 hz2 hz3 hz4 hz5 hy0 hy1 hy2 hy3 hy4 hy5
       have hz0 : w5.cell? ⟨g4, 0, none⟩ = some (.int .i64 0) := (HO5.out).cells 0
       have hz1 : w5.cell? ⟨g4, 1, none⟩ = some (.int .i64 0) := (HO5.out).cells 1
       have hz2 : w5.cell? ⟨g4, 2, none⟩ = some (.int .i64 0) := (HO5.out).cells 2
       have hz3 : w5.cell? ⟨g4, 3, none⟩ = some (.int .i64 0) := (HO5.out).cells 3
       have hz4 : w5.cell? ⟨g4, 4, none⟩ = some (.slice none 0 0) := (HO5.out).cells 4
       have hz5 : w5.cell? ⟨g4, 5, none⟩ = some (.slice none 0 0) := (HO5.out).cells 5
       have hy0 := (HO5.out).thaw 0
       have hy1 := (HO5.out).thaw 1
       have hy2 := (HO5.out).thaw 2
       have hy3 := (HO5.out).thaw 3
       have hy4 := (HO5.out).thaw 4
       have hy5 := (HO5.out).thaw 5
       go_wp2_with fail
       have h1 := ((show Has w5 (pt g4 (.cells (ansC (ansE 0) nilV nilV) 38) :: Trc q S :: L) from HO5.out)).ans (ansE (6 : Int)) nilV nilV
       refine bodyPost_ret (ans_result rfl rfl h1) rfl ?_
       rw [HRR.out]
       exact ⟨rfl, h1.drop, HK5.out.ans _ _ _ _ _ _ _⟩
      ·have HR4 := hid ((if_neg hx).symm.trans HR3.out)
       have HT1 := hid (HTP.out rfl)
       go_upto_region 8 with fail
       go_cut [50] (fun a wx => wx = w4 ∧ a = .bool false)
       case first =>
        by_cases hxn : s1.node = 0
        ·have hxa : (s1.node != 0) = false := by simpa using hxn
         go_wp2_with fail
         go_meet
         exact ⟨rfl, rfl⟩
        ·have hxa : (s1.node != 0) = true := by simpa using hxn
         have hxb : (bits BinOp.and IntKind.i64 o.flags 2 != 0) = false := by
          have : andI o.flags 2 = 0 := Classical.byContradiction fun h => hx ⟨hxn, h⟩
          simpa [andI] using this
         go_wp2_with fail
         go_meet
         exact ⟨rfl, rfl⟩
       case rest =>
        obtain ⟨hwx, rfl⟩ := hcut
        have hwx2 := hwx.symm
        subst hwx2
        have v0 : w4.cell? ⟨g5, 0, none⟩ = some (.int .i64 0) := (HO4.out.p1).cells 0
        have v1 : w4.cell? ⟨g5, 1, none⟩ = some (.int .i64 0) := (HO4.out.p1).cells 1
        have v2 : w4.cell? ⟨g5, 2, none⟩ = some (sV []) := (HO4.out.p1).cells 2
        have vt0 := (HO4.out.p1).thaw 0
        have vt1 := (HO4.out.p1).thaw 1
        have vt2 := (HO4.out.p1).thaw 2
        go_wp2_with fail
        go_meet
        refine ⟨_, s1, rfl, hid ((show Has w4 (pt g5 (.cells (spC spt0) 102) :: pt g4 (.cells (ansC (ansE 0) nilV nilV) 38) :: pt g3 (.cells (opC o ov) 33) :: Trc q S :: L) from HO4.out.re 5 [1, 2, 3, 4]).spt s1), hid (HK4.out.spt _ _ _ _), HR4, hid fun _ _ => ⟨HT1.out.1, HT1.out.2.1⟩⟩
     ·have HRR := hid (show R = (ansE e1, S) from by rw [← HR2.out, if_pos he1])
      go_wp2_with fail
      refine (tCode e1 w4 _ HOa.out).mono ?_
      rintro e w5 ⟨rfl, hO5, hK5⟩
      have HO5 := hid hO5
      have HK5 := hid ((HK4.out).trans hK5)
      clear hO5 hK5
      unfold ansV ansC ansE
      clear hz0 hz1 hz2 hz3 hz4 hz5 hy0 hy1 hy2 hy3 hy4 hy5
      have hz0 : w5.cell? ⟨g4, 0, none⟩ = some (.int .i64 0) := (HO5.out).cells 0
      have hz1 : w5.cell? ⟨g4, 1, none⟩ = some (.int .i64 0) := (HO5.out).cells 1
      have hz2 : w5.cell? ⟨g4, 2, none⟩ = some (.int .i64 0) := (HO5.out).cells 2
      have hz3 : w5.cell? ⟨g4, 3, none⟩ = some (.int .i64 0) := (HO5.out).cells 3
      have hz4 : w5.cell? ⟨g4, 4, none⟩ = some (.slice none 0 0) := (HO5.out).cells 4
      have hz5 : w5.cell? ⟨g4, 5, none⟩ = some (.slice none 0 0) := (HO5.out).cells 5
      have hy0 := (HO5.out).thaw 0
      have hy1 := (HO5.out).thaw 1
      have hy2 := (HO5.out).thaw 2
      have hy3 := (HO5.out).thaw 3
      have hy4 := (HO5.out).thaw 4
      have hy5 := (HO5.out).thaw 5
      go_wp2_with fail
      have h1 := ((show Has w5 (pt g4 (.cells (ansC (ansE 0) nilV nilV) 38) :: Trc q S :: L) from HO5.out)).ans (ansE e1) nilV nilV
      refine bodyPost_ret (ans_result rfl rfl h1) rfl ?_
      rw [HRR.out]
      exact ⟨rfl, h1.drop, HK5.out.ans _ _ _ _ _ _ _⟩
  case rest =>
   obtain ⟨w4, s, rfl, HO4, HK4, HR2, HSD⟩ := hcut
   clear HO3 HK3 HR1 hp4 HPL HTP
   have k0 : w4.cell? ⟨g5, 0, none⟩ = some (.int .i64 s.node) := (HO4.out).cells 0
   have k1 : w4.cell? ⟨g5, 1, none⟩ = some (.int .i64 s.dir) := (HO4.out).cells 1
   have k2 : w4.cell? ⟨g5, 2, none⟩ = some (sV s.name) := (HO4.out).cells 2
   have kt0 := (HO4.out).thaw 0
   have kt1 := (HO4.out).thaw 1
   have kt2 := (HO4.out).thaw 2
   go_upto_region 11 with fail
   go_cut [69] (fun a wx => wx = w4 ∧ a = .bool (decide (s.node ≠ 0 ∨ s.dir = 0)))
   case first =>
    by_cases hn : s.node = 0
    ·have hnb : (s.node != 0) = false := by simpa using hn
     by_cases hd : s.dir = 0
     ·have hdb : (s.dir == 0) = true := by simpa using hd
      have HB2 := hid (show decide (s.node ≠ 0 ∨ s.dir = 0) = true from decide_eq_true (.inr hd))
      clear hd hn
      go_wp2_with fail
      go_meet
      exact ⟨rfl, by rw [HB2.out]⟩
     ·have hdb : (s.dir == 0) = false := by simpa using hd
      have HB2 := hid (show decide (s.node ≠ 0 ∨ s.dir = 0) = false from decide_eq_false (fun h => h.elim (fun h => h hn) hd))
      clear hd hn
      go_wp2_with fail
      go_meet
      exact ⟨rfl, by rw [HB2.out]⟩
    ·have hnb : (s.node != 0) = true := by simpa using hn
     have HB2 := hid (show decide (s.node ≠ 0 ∨ s.dir = 0) = true from decide_eq_true (.inl hn))
     clear hn
     go_wp2_with fail
     go_meet
     exact ⟨rfl, by rw [HB2.out]⟩
   case rest =>
   obtain ⟨hwx, rfl⟩ := hcut
   have hwx2 := hwx.symm
   subst hwx2
   generalize hBc : decide (s.node ≠ 0 ∨ s.dir = 0) = bc0
   have HBC := hid hBc
   clear hBc
   go_upto_if 69 with fail
   go_cut [] (fun wx => ∃ (w5 : World) (s' : Spt), w5 = wx ∧ Hid (Has w5 (pt g5 (.cells (spC s') 102) :: pt g4 (.cells (ansC (ansE 0) nilV nilV) 38) :: pt g3 (.cells (opC o ov) 33) :: Trc q S :: L)) ∧ Hid (Keep w w5) ∧ Hid (S.openAt s' o.flags = R) ∧ Hid (s'.node = 0 → (∃ d, fnd S.nodes s'.dir = some d ∧ d.kind = 2) ∧ s'.name.length ≤ 24) ∧ Hid (s'.node ≠ 0 → ∃ x, fnd S.nodes s'.node = some x))
   case first =>
    by_cases hc : s.node ≠ 0 ∨ s.dir = 0
    ·have HR3 := hid ((if_pos hc).symm.trans HR2.out)
     have hbt : bc0 = true := by rw [← HBC.out]; exact decide_eq_true hc
     subst hbt
     skip
     skip
     ·have hp5 : w4.cell? ⟨g3, 5, none⟩ = some (sV o.path) := HO4.out.p2.cells 5
      go_upto_region 12 with fail
      go_cut [8, 9] (fun p8 e9 wx => ∃ (w5 : World) (g8 : Nat), w5 = wx ∧ e9 = .int .i64 e2 ∧ p8 = .pointer (some ⟨g8, 0, none⟩) ∧ Hid (Has w5 (pt g8 (.cells (spC s2) 102) :: pt g5 (.cells (spC s) 102) :: pt g4 (.cells (ansC (ansE 0) nilV nilV) 38) :: pt g3 (.cells (opC o ov) 33) :: Trc q S :: L)) ∧ Hid (Keep w w5))
      case first =>
       go_wp2_with fail
       refine (HFI.out w4 _ (((HM.out.cons (pt g3 (.cells (opC o ov) 33))).cons (pt g4 (.cells (ansC (ansE 0) nilV nilV) 38))).cons (pt g5 (.cells (spC s) 102))) (HO4.out.re 4 [3, 0, 1, 2])).mono ?_
       rintro e w5 ⟨rfl, hO5, hK5⟩
       have HO5 := hid hO5
       have HK5 := hid ((HK4.out).trans hK5)
       clear hO5 hK5
       try dsimp only
       unfold spV spC
       go_wp2_with fail
       go_meet
       exact ⟨_, _, rfl, rfl, rfl, hid ((HO5.out.alloc (.cells (spC s2) 102)).re 5 [0, 2, 3, 4, 1]), hid (HK5.out.alloc _)⟩
      case rest =>
       obtain ⟨w5, g8, rfl, rfl, rfl, HO5, HK5⟩ := hcut
       clear hp5 k0 k1 k2 kt0 kt1 kt2
       by_cases he2 : e2 = 0
       ·subst he2
        have v0 : w5.cell? ⟨g5, 0, none⟩ = some (.int .i64 s.node) := (HO5.out.p1).cells 0
        have v1 : w5.cell? ⟨g5, 1, none⟩ = some (.int .i64 s.dir) := (HO5.out.p1).cells 1
        have v2 : w5.cell? ⟨g5, 2, none⟩ = some (sV s.name) := (HO5.out.p1).cells 2
        have vt0 := (HO5.out.p1).thaw 0
        have vt1 := (HO5.out.p1).thaw 1
        have vt2 := (HO5.out.p1).thaw 2
        have k0 : w5.cell? ⟨g8, 0, none⟩ = some (.int .i64 s2.node) := (HO5.out).cells 0
        have k1 : w5.cell? ⟨g8, 1, none⟩ = some (.int .i64 s2.dir) := (HO5.out).cells 1
        have k2 : w5.cell? ⟨g8, 2, none⟩ = some (sV s2.name) := (HO5.out).cells 2
        have kt0 := (HO5.out).thaw 0
        have kt1 := (HO5.out).thaw 1
        have kt2 := (HO5.out).thaw 2
        have HR4 := hid ((if_neg (fun h => h rfl)).symm.trans HR3.out)
        have HTX := hid (HTF.out rfl)
        go_wp2_with fail
        go_meet
        exact ⟨_, s2, rfl, hid ((show Has w5 (pt g5 (.cells (spC s) 102) :: pt g4 (.cells (ansC (ansE 0) nilV nilV) 38) :: pt g3 (.cells (opC o ov) 33) :: Trc q S :: L) from HO5.out.re 5 [1, 2, 3, 4]).spt s2), hid (HK5.out.spt _ _ _ _), HR4, hid fun h0 => absurd HTX.out (by rw [h0, HB.out.zero]; rintro ⟨_, h⟩; cases h), hid fun _ => HTX.out⟩
       ·have HRR := hid (show R = (ansE e2, S) from by rw [← HR3.out, if_pos he2])
        have HOa := hid (show Has w5 (pt g4 (.cells (ansC (ansE 0) nilV nilV) 38) :: Trc q S :: L) from HO5.out.re 5 [2, 4])
        have hz0 : w5.cell? ⟨g4, 0, none⟩ = some (.int .i64 0) := (HOa.out).cells 0
        have hz1 : w5.cell? ⟨g4, 1, none⟩ = some (.int .i64 0) := (HOa.out).cells 1
        have hz2 : w5.cell? ⟨g4, 2, none⟩ = some (.int .i64 0) := (HOa.out).cells 2
        have hz3 : w5.cell? ⟨g4, 3, none⟩ = some (.int .i64 0) := (HOa.out).cells 3
        have hz4 : w5.cell? ⟨g4, 4, none⟩ = some (.slice none 0 0) := (HOa.out).cells 4
        have hz5 : w5.cell? ⟨g4, 5, none⟩ = some (.slice none 0 0) := (HOa.out).cells 5
        have hy0 := (HOa.out).thaw 0
        have hy1 := (HOa.out).thaw 1
        have hy2 := (HOa.out).thaw 2
        have hy3 := (HOa.out).thaw 3
        have hy4 := (HOa.out).thaw 4
        have hy5 := (HOa.out).thaw 5
        go_wp2_with fail
        refine (tCode e2 w5 _ HOa.out).mono ?_
        rintro e w6 ⟨rfl, hO6, hK6⟩
        have HO6 := hid hO6
        have HK6 := hid ((HK5.out).trans hK6)
        clear hO6 hK6
        unfold ansV ansC ansE
        clear hz0 hz1 hz2 hz3 hz4 hz5 hy0 hy1 hy2 hy3 hy4 hy5
        have hz0 : w6.cell? ⟨g4, 0, none⟩ = some (.int .i64 0) := (HO6.out).cells 0
        have hz1 : w6.cell? ⟨g4, 1, none⟩ = some (.int .i64 0) := (HO6.out).cells 1
        have hz2 : w6.cell? ⟨g4, 2, none⟩ = some (.int .i64 0) := (HO6.out).cells 2
        have hz3 : w6.cell? ⟨g4, 3, none⟩ = some (.int .i64 0) := (HO6.out).cells 3
        have hz4 : w6.cell? ⟨g4, 4, none⟩ = some (.slice none 0 0) := (HO6.out).cells 4
        have hz5 : w6.cell? ⟨g4, 5, none⟩ = some (.slice none 0 0) := (HO6.out).cells 5
        have hy0 := (HO6.out).thaw 0
        have hy1 := (HO6.out).thaw 1
        have hy2 := (HO6.out).thaw 2
        have hy3 := (HO6.out).thaw 3
        have hy4 := (HO6.out).thaw 4
        have hy5 := (HO6.out).thaw 5
        go_wp2_with fail
        have h1 := ((show Has w6 (pt g4 (.cells (ansC (ansE 0) nilV nilV) 38) :: Trc q S :: L) from HO6.out)).ans (ansE e2) nilV nilV
        refine bodyPost_ret (ans_result rfl rfl h1) rfl ?_
        rw [HRR.out]
        exact ⟨rfl, h1.drop, HK6.out.ans _ _ _ _ _ _ _⟩
    ·have HR3 := hid ((if_neg hc).symm.trans HR2.out)
     have hbt : bc0 = false := by rw [← HBC.out]; exact decide_eq_false hc
     subst hbt
     have hn : s.node = 0 := Classical.byContradiction fun h => hc (.inl h)
     have hd : ¬ s.dir = 0 := fun h => hc (.inr h)
     have hnb : (s.node != 0) = false := by simpa using hn
     have hdb : (s.dir == 0) = false := by simpa using hd
     go_wp2_with fail
     go_meet
     exact ⟨_, s, rfl, HO4, HK4, HR3, hid fun _ => HSD.out hn hd, hid fun h => absurd hn h⟩
   case rest =>
    obtain ⟨w5, s', rfl, HO5, HK5, HR3, HSD', HSN⟩ := hcut
    obtain ⟨m, f, P, hPT, hTr⟩ := trc_iff.1 (HO5.out.re 4 [3, 0, 1, 2])
    have HPT := hid hPT
    have HTr := hid hTr
    clear hTr hPT k0 k1 k2 kt0 kt1 kt2 HO4 HK4
    have hq0 := (Trb.cells HTr.out.drew).1
    have hg0 : w5.drew.cell? ⟨g5, 0, none⟩ = some (.int .i64 s'.node) := HTr.out.drew.p1.cells 0
    have hf4 : w5.drew.cell? ⟨g3, 4, none⟩ = some (.int .i64 o.flags) := HTr.out.drew.p3.cells 4
    go_upto_region 16 with fail
    go_cut [82] (fun a wx => wx = w5.drew ∧ a = .bool (decide (s'.node ≠ 0 ∧ (S.at_ s'.node).kind = 2 ∧ andI o.flags 32 ≠ 0)))
    case first =>
     by_cases hn : s'.node = 0
     ·have hnb : (s'.node != 0) = false := by simpa using hn
      have HB2 := hid (show decide (s'.node ≠ 0 ∧ (S.at_ s'.node).kind = 2 ∧ andI o.flags 32 ≠ 0) = false from decide_eq_false (fun h => h.1 hn))
      clear hn
      refine region_text (fun w' => w'.cell? ⟨g5, 0, none⟩ = some (.int .i64 s'.node) ∧ True) (by kernel_rfl) (by kernel_rfl) ⟨hg0, trivial⟩ ?_
      repeat (first | refine wr2 ?_ | refine wk ?_)
      refine wpL_nil ?_
      go_wp2_with fail
      go_meet
      exact ⟨rfl, by rw [HB2.out]⟩
     ·have hnb : (s'.node != 0) = true := by simpa using hn
      obtain ⟨x, hx⟩ := HSN.out hn
      have hat : S.at_ s'.node = x := by unfold Tre.at_; rw [hx]; rfl
      have hx' := hx
      rw [← HPT.out.1] at hx'
      obtain ⟨b, hb, hl⟩ := Trb.look HTr.out.drew hx'
      obtain ⟨dv, wv, nm, -, hc, -⟩ := Trb.node HTr.out.drew hb
      have hcb0 : w5.drew.cell? ⟨b, 0, none⟩ = some (.int .i64 x.kind) := hc 0
      by_cases hk2 : x.kind = 2
      ·have hkb : (x.kind == 2) = true := by simpa using hk2
       by_cases hfl : andI o.flags 32 = 0
       ·have hfb : (bits BinOp.and IntKind.i64 o.flags 32 != 0) = false := by simpa [andI] using hfl
        have HB2 := hid (show decide (s'.node ≠ 0 ∧ (S.at_ s'.node).kind = 2 ∧ andI o.flags 32 ≠ 0) = false from decide_eq_false (fun h => h.2.2 hfl))
        clear hn hc hk2 hfl
        refine region_text (fun w' => w'.cell? ⟨q, 0, none⟩ = some (.map (some m)) ∧ w'.cell? ⟨g5, 0, none⟩ = some (.int .i64 s'.node) ∧ w'.cell? ⟨g3, 4, none⟩ = some (.int .i64 o.flags) ∧ w'.cell? ⟨b, 0, none⟩ = some (.int .i64 x.kind) ∧ (Instr.lookup tNo (.map (some m)) (.int .i64 s'.node) false).run Tryz.prog w' = .ok (.pointer (some ⟨b, 0, none⟩)) w') (by kernel_rfl) (by kernel_rfl) ⟨hq0, hg0, hf4, hcb0, hl⟩ ?_
        repeat (first | refine wr5 ?_ | refine wk ?_)
        refine wpL_nil ?_
        go_wp2_with fail
        go_meet
        exact ⟨rfl, by rw [HB2.out]⟩
       ·have hfb : (bits BinOp.and IntKind.i64 o.flags 32 != 0) = true := by simpa [andI] using hfl
        have HB2 := hid (show decide (s'.node ≠ 0 ∧ (S.at_ s'.node).kind = 2 ∧ andI o.flags 32 ≠ 0) = true from decide_eq_true ⟨hn, by rw [hat]; exact hk2, hfl⟩)
        clear hn hc hk2 hfl
        refine region_text (fun w' => w'.cell? ⟨q, 0, none⟩ = some (.map (some m)) ∧ w'.cell? ⟨g5, 0, none⟩ = some (.int .i64 s'.node) ∧ w'.cell? ⟨g3, 4, none⟩ = some (.int .i64 o.flags) ∧ w'.cell? ⟨b, 0, none⟩ = some (.int .i64 x.kind) ∧ (Instr.lookup tNo (.map (some m)) (.int .i64 s'.node) false).run Tryz.prog w' = .ok (.pointer (some ⟨b, 0, none⟩)) w') (by kernel_rfl) (by kernel_rfl) ⟨hq0, hg0, hf4, hcb0, hl⟩ ?_
        repeat (first | refine wr5 ?_ | refine wk ?_)
        refine wpL_nil ?_
        go_wp2_with fail
        go_meet
        exact ⟨rfl, by rw [HB2.out]⟩
      ·have hkb : (x.kind == 2) = false := by simpa using hk2
       have HB2 := hid (show decide (s'.node ≠ 0 ∧ (S.at_ s'.node).kind = 2 ∧ andI o.flags 32 ≠ 0) = false from decide_eq_false (fun h => hk2 (by rw [hat] at h; exact h.2.1)))
       clear hn hc hk2
       refine region_text (fun w' => w'.cell? ⟨q, 0, none⟩ = some (.map (some m)) ∧ w'.cell? ⟨g5, 0, none⟩ = some (.int .i64 s'.node) ∧ w'.cell? ⟨g3, 4, none⟩ = some (.int .i64 o.flags) ∧ w'.cell? ⟨b, 0, none⟩ = some (.int .i64 x.kind) ∧ (Instr.lookup tNo (.map (some m)) (.int .i64 s'.node) false).run Tryz.prog w' = .ok (.pointer (some ⟨b, 0, none⟩)) w') (by kernel_rfl) (by kernel_rfl) ⟨hq0, hg0, hf4, hcb0, hl⟩ ?_
       repeat (first | refine wr5 ?_ | refine wk ?_)
       refine wpL_nil ?_
       go_wp2_with fail
       go_meet
       exact ⟨rfl, by rw [HB2.out]⟩
    case rest =>
     obtain ⟨hwx, rfl⟩ := hcut
     have hwx2 := hwx.symm
     subst hwx2
     have HTd := hid HTr.out.drew
     have HKd := hid HK5.out.drew
     clear hq0 hg0 hf4 HTr HO5 HK5
     generalize w5.drew = w6 at *
     have HOa := hid (show Has w6 (pt g4 (.cells (ansC (ansE 0) nilV nilV) 38) :: Trc q S :: L) from (trc_iff.2 ⟨m, f, P, HPT.out, HTd.out.re 4 [0, 2]⟩ : Has w6 (Trc q S :: pt g4 (.cells (ansC (ansE 0) nilV nilV) 38) :: L)).re 2 [1, 0])
     by_cases hbad2 : s'.node ≠ 0 ∧ (S.at_ s'.node).kind = 2 ∧ andI o.flags 32 ≠ 0
     ·rw [decide_eq_true hbad2]
      have HRR := hid (show R = (ansE 8, S) from by rw [← HR3.out]; exact if_pos hbad2)
      have hz0 : w6.cell? ⟨g4, 0, none⟩ = some (.int .i64 0) := (HOa.out).cells 0
      have hz1 : w6.cell? ⟨g4, 1, none⟩ = some (.int .i64 0) := (HOa.out).cells 1
      have hz2 : w6.cell? ⟨g4, 2, none⟩ = some (.int .i64 0) := (HOa.out).cells 2
      have hz3 : w6.cell? ⟨g4, 3, none⟩ = some (.int .i64 0) := (HOa.out).cells 3
      have hz4 : w6.cell? ⟨g4, 4, none⟩ = some (.slice none 0 0) := (HOa.out).cells 4
      have hz5 : w6.cell? ⟨g4, 5, none⟩ = some (.slice none 0 0) := (HOa.out).cells 5
      have hy0 := (HOa.out).thaw 0
      have hy1 := (HOa.out).thaw 1
      have hy2 := (HOa.out).thaw 2
      have hy3 := (HOa.out).thaw 3
      have hy4 := (HOa.out).thaw 4
      have hy5 := (HOa.out).thaw 5
      go_wp2_with fail
      refine (tCode (8 : Int) w6 _ HOa.out).mono ?_
      rintro e w7 ⟨rfl, hO7, hK7⟩
      have HO7 := hid hO7
      have HK7 := hid ((HKd.out).trans hK7)
      clear hO7 hK7
      unfold ansV ansC ansE
      clear hz0 hz1 hz2 hz3 hz4 hz5 hy0 hy1 hy2 hy3 hy4 hy5
      have hz0 : w7.cell? ⟨g4, 0, none⟩ = some (.int .i64 0) := (HO7.out).cells 0
      have hz1 : w7.cell? ⟨g4, 1, none⟩ = some (.int .i64 0) := (HO7.out).cells 1
      have hz2 : w7.cell? ⟨g4, 2, none⟩ = some (.int .i64 0) := (HO7.out).cells 2
      have hz3 : w7.cell? ⟨g4, 3, none⟩ = some (.int .i64 0) := (HO7.out).cells 3
      have hz4 : w7.cell? ⟨g4, 4, none⟩ = some (.slice none 0 0) := (HO7.out).cells 4
      have hz5 : w7.cell? ⟨g4, 5, none⟩ = some (.slice none 0 0) := (HO7.out).cells 5
      have hy0 := (HO7.out).thaw 0
      have hy1 := (HO7.out).thaw 1
      have hy2 := (HO7.out).thaw 2
      have hy3 := (HO7.out).thaw 3
      have hy4 := (HO7.out).thaw 4
      have hy5 := (HO7.out).thaw 5
      go_wp2_with fail
      have h1 := ((show Has w7 (pt g4 (.cells (ansC (ansE 0) nilV nilV) 38) :: Trc q S :: L) from HO7.out)).ans (ansE (8 : Int)) nilV nilV
      refine bodyPost_ret (ans_result rfl rfl h1) rfl ?_
      rw [HRR.out]
      exact ⟨rfl, h1.drop, HK7.out.ans _ _ _ _ _ _ _⟩
     ·rw [decide_eq_false hbad2]
      have HTb := hid (show Has w6 (Tab f S.tab :: Trt q m f P S.last :: pt g5 (.cells (spC s') 102) :: pt g4 (.cells (ansC (ansE 0) nilV nilV) 38) :: pt g3 (.cells (opC o ov) 33) :: L) from Trb.tab.1 HTd.out)
      have hq2 := (Trb.cells HTd.out).2.2
      go_wp2_with fail
      refine (tabList f S.tab w6 _ HPT.out.2 HTb.out).mono ?_
      rintro e w7 ⟨v7, rfl, hO7, hK7⟩
      have HO7 := hid hO7
      have HK7 := hid ((HKd.out).trans hK7)
      clear hO7 hK7
      try dsimp only
      clear hq2
      obtain ⟨p7, c7, rfl, -⟩ := (Ints.rd HO7.out).form
      have HO8 := hid (show Has w7 (pt g5 (.cells (spC s') 102) :: pt g4 (.cells (ansC (ansE 0) nilV nilV) 38) :: pt g3 (.cells (opC o ov) 33) :: Trc q S :: L) from (trc_iff.2 ⟨m, f, P, HPT.out, Trb.tab.2 (HO7.out.re 6 [1, 2, 3, 4, 5])⟩ : Has w7 (Trc q S :: pt g5 (.cells (spC s') 102) :: pt g4 (.cells (ansC (ansE 0) nilV nilV) 38) :: pt g3 (.cells (opC o ov) 33) :: L)).re 4 [1, 2, 3, 0])
      by_cases h16 : (16 : Int) ≤ ((Tb.lst S.tab 16).length : Int)
      ·have HRR := hid (show R = (ansE 14, S) from by rw [← HR3.out]; exact (if_neg hbad2).trans (if_pos (by omega)))
       have HOb := hid (show Has w7 (pt g4 (.cells (ansC (ansE 0) nilV nilV) 38) :: Trc q S :: L) from HO8.out.re 4 [1, 3])
       have hz0 : w7.cell? ⟨g4, 0, none⟩ = some (.int .i64 0) := (HOb.out).cells 0
       have hz1 : w7.cell? ⟨g4, 1, none⟩ = some (.int .i64 0) := (HOb.out).cells 1
       have hz2 : w7.cell? ⟨g4, 2, none⟩ = some (.int .i64 0) := (HOb.out).cells 2
       have hz3 : w7.cell? ⟨g4, 3, none⟩ = some (.int .i64 0) := (HOb.out).cells 3
       have hz4 : w7.cell? ⟨g4, 4, none⟩ = some (.slice none 0 0) := (HOb.out).cells 4
       have hz5 : w7.cell? ⟨g4, 5, none⟩ = some (.slice none 0 0) := (HOb.out).cells 5
       have hy0 := (HOb.out).thaw 0
       have hy1 := (HOb.out).thaw 1
       have hy2 := (HOb.out).thaw 2
       have hy3 := (HOb.out).thaw 3
       have hy4 := (HOb.out).thaw 4
       have hy5 := (HOb.out).thaw 5
       go_wp2_with fail
       refine (tCode (14 : Int) w7 _ HOb.out).mono ?_
       rintro e w9 ⟨rfl, hO9, hK9⟩
       have HO9 := hid hO9
       have HK9 := hid ((HK7.out).trans hK9)
       clear hO9 hK9
       unfold ansV ansC ansE
       clear hz0 hz1 hz2 hz3 hz4 hz5 hy0 hy1 hy2 hy3 hy4 hy5
       have hz0 : w9.cell? ⟨g4, 0, none⟩ = some (.int .i64 0) := (HO9.out).cells 0
       have hz1 : w9.cell? ⟨g4, 1, none⟩ = some (.int .i64 0) := (HO9.out).cells 1
       have hz2 : w9.cell? ⟨g4, 2, none⟩ = some (.int .i64 0) := (HO9.out).cells 2
       have hz3 : w9.cell? ⟨g4, 3, none⟩ = some (.int .i64 0) := (HO9.out).cells 3
       have hz4 : w9.cell? ⟨g4, 4, none⟩ = some (.slice none 0 0) := (HO9.out).cells 4
       have hz5 : w9.cell? ⟨g4, 5, none⟩ = some (.slice none 0 0) := (HO9.out).cells 5
       have hy0 := (HO9.out).thaw 0
       have hy1 := (HO9.out).thaw 1
       have hy2 := (HO9.out).thaw 2
       have hy3 := (HO9.out).thaw 3
       have hy4 := (HO9.out).thaw 4
       have hy5 := (HO9.out).thaw 5
       go_wp2_with fail
       have h1 := ((show Has w9 (pt g4 (.cells (ansC (ansE 0) nilV nilV) 38) :: Trc q S :: L) from HO9.out)).ans (ansE (14 : Int)) nilV nilV
       refine bodyPost_ret (ans_result rfl rfl h1) rfl ?_
       rw [HRR.out]
       exact ⟨rfl, h1.drop, HK9.out.ans _ _ _ _ _ _ _⟩
      ·have HR4 := hid (show ((⟨(Tb.opn S.tab (if s'.node = 0 then S.last + 1 else s'.node) o.flags).1.2, (Tb.opn S.tab (if s'.node = 0 then S.last + 1 else s'.node) o.flags).1.1, 0, 0, [], []⟩ : Ans), { (if s'.node = 0 then S.make s' 1 [] else S) with tab := (Tb.opn S.tab (if s'.node = 0 then S.last + 1 else s'.node) o.flags).2 }) = R from by
        exact (openAt_ok hbad2 (by omega) hno4).symm.trans HR3.out)
       have k0 : w7.cell? ⟨g5, 0, none⟩ = some (.int .i64 s'.node) := (HO8.out).cells 0
       have k1 : w7.cell? ⟨g5, 1, none⟩ = some (.int .i64 s'.dir) := (HO8.out).cells 1
       have k2 : w7.cell? ⟨g5, 2, none⟩ = some (sV s'.name) := (HO8.out).cells 2
       have kt0 := (HO8.out).thaw 0
       have kt1 := (HO8.out).thaw 1
       have kt2 := (HO8.out).thaw 2
       go_upto_if 117 with fail
       go_cut [] (fun wx => ∃ (w9 : World) (n : Int) (S1 : Tre), w9 = wx ∧ n = (if s'.node = 0 then S.last + 1 else s'.node) ∧ S1 = (if s'.node = 0 then S.make s' 1 [] else S) ∧ Hid (Has w9 (pt g5 (.cells (spC ⟨n, s'.dir, s'.name⟩) 102) :: pt g4 (.cells (ansC (ansE 0) nilV nilV) 38) :: pt g3 (.cells (opC o ov) 33) :: Trc q S1 :: L)) ∧ Hid (Keep w w9))
       case first =>
        by_cases hn : s'.node = 0
        ·have hnb : (s'.node == 0) = true := by simpa using hn
         obtain ⟨⟨d, hd, hdk⟩, hln⟩ := HSD'.out hn
         have HMK := hid (tMake q S s' 1 d w7 (pt g5 (.cells (spC s') 102) :: pt g4 (.cells (ansC (ansE 0) nilV nilV) 38) :: pt g3 (.cells (opC o ov) 33) :: L) (by decide) hd hdk (by omega) (HB.out.small _ _ hd).2.2 HB.out.last0 HB.out.last1 HB.out.free HB.out.many (HO8.out.re 4 [3, 0, 1, 2]))
         unfold spV spC at HMK
         have HIF := hid (show (if s'.node = 0 then S.last + 1 else s'.node) = S.last + 1 ∧ (if s'.node = 0 then S.make s' 1 [] else S) = S.make s' 1 [] from ⟨if_pos hn, if_pos hn⟩)
         clear hn
         go_wp2_with fail
         refine (HMK.out).mono ?_
         rintro e w9 ⟨rfl, hO9, hK9⟩
         have HO9 := hid hO9
         have HK9 := hid ((HK7.out).trans hK9)
         clear hO9 hK9
         try dsimp only
         have HO9' := hid (show Has w9 (pt g5 (.cells (spC s') 102) :: pt g4 (.cells (ansC (ansE 0) nilV nilV) 38) :: pt g3 (.cells (opC o ov) 33) :: Trc q (S.make s' 1 []) :: L) from HO9.out.re 4 [1, 2, 3, 0])
         have hv0 : w9.cell? ⟨g5, 0, none⟩ = some (.int .i64 s'.node) := HO9'.out.cells 0
         have hvt := HO9'.out.thaw 0
         go_wp2_with fail
         go_meet
         exact ⟨_, S.last + 1, S.make s' 1 [], rfl, HIF.out.1.symm, HIF.out.2.symm, hid (HO9'.out.set 0 (.int .i64 (S.last + 1))), hid (HK9.out.set _ _)⟩
        ·have hnb : (s'.node == 0) = false := by simpa using hn
         have HIF := hid (show (if s'.node = 0 then S.last + 1 else s'.node) = s'.node ∧ (if s'.node = 0 then S.make s' 1 [] else S) = S from ⟨if_neg hn, if_neg hn⟩)
         clear hn
         go_wp2_with fail
         go_meet
         exact ⟨_, s'.node, S, rfl, HIF.out.1.symm, HIF.out.2.symm, HO8, HK7⟩
       case rest =>
        obtain ⟨w9, n, S1, rfl, hn1, hS1, HO9, HK9⟩ := hcut
        rw [← hn1, ← hS1] at HR4
        have HT1 := hid (show S1.tab = S.tab from by rw [hS1]; split <;> rfl)
        clear hn1 hS1 HO8 HK7 k0 k1 k2 kt0 kt1 kt2
        have hfb4 : (bits BinOp.and IntKind.i64 o.flags 4 != 0) = false := by simpa [andI] using hno4
        have hf4 : w9.cell? ⟨g3, 4, none⟩ = some (.int .i64 o.flags) := HO9.out.p2.cells 4
        obtain ⟨m1, f1, P1, hPT1, hTr1⟩ := trc_iff.1 (HO9.out.re 4 [3, 0, 1, 2])
        have HPT1 := hid hPT1
        have HTb1 := hid (show Has w9.drew (Tab f1 S1.tab :: Trt q m1 f1 P1 S1.last :: pt g5 (.cells (spC ⟨n, s'.dir, s'.name⟩) 102) :: pt g4 (.cells (ansC (ansE 0) nilV nilV) 38) :: pt g3 (.cells (opC o ov) 33) :: L) from Trb.tab.1 hTr1.drew)
        have hq2 := (Trb.cells hTr1.drew).2.2
        have hs0 : w9.drew.cell? ⟨g5, 0, none⟩ = some (.int .i64 n) := HO9.out.drew.cells 0
        have hf4' : w9.drew.cell? ⟨g3, 4, none⟩ = some (.int .i64 o.flags) := hf4
        clear hTr1 hPT1
        go_upto_region 24 with fail
        refine region_text (fun w' => w'.cell? ⟨q, 2, none⟩ = some (.pointer (some ⟨f1, 0, none⟩)) ∧ w'.cell? ⟨g5, 0, none⟩ = some (.int .i64 n) ∧ w'.cell? ⟨g3, 4, none⟩ = some (.int .i64 o.flags)) (by kernel_rfl) (by kernel_rfl) ⟨hq2, hs0, hf4'⟩ ?_
        repeat (first | refine wr3 ?_ | refine wk ?_)
        refine wa fun K hK => ?_
        go_simp
        refine (tabOpen f1 S1.tab n o.flags _ _ HPT1.out.2 HTb1.out).mono ?_
        rintro e w10 ⟨rfl, hO10, hK10⟩
        have HO10 := hid hO10
        have HK10 := hid ((HK9.out.drew).trans hK10)
        clear hO10 hK10
        try dsimp only
        refine hK.out _ _ (⟨(Trb.cells (Trb.tab.2 HO10.out)).2.2, HO10.out.p2.cells 0, HO10.out.p4.cells 4⟩) ?_
        clear hK K
        try simp only [Act.put, List.setIfInBounds_toArray, List.set_cons_zero, List.set_cons_succ]
        repeat (first | refine wr3 ?_ | refine wk ?_)
        refine wpL_nil ?_
        have HOb := hid (show Has w10 (pt g4 (.cells (ansC (ansE 0) nilV nilV) 38) :: Trb q m1 f1 P1 S1.last (Tb.opn S1.tab n o.flags).2 :: L) from (Trb.tab.2 HO10.out).re 4 [2, 0])
        rw [← HT1.out] at HR4
        have HOL := hid (Tb.opn_len S1.tab n o.flags HPT1.out.2)
        generalize Tb.opn S1.tab n o.flags = op1 at *
        obtain ⟨⟨c1, c2⟩, T1⟩ := op1
        dsimp only at *
        have hz0 : w10.cell? ⟨g4, 0, none⟩ = some (.int .i64 0) := (HOb.out).cells 0
        have hz1 : w10.cell? ⟨g4, 1, none⟩ = some (.int .i64 0) := (HOb.out).cells 1
        have hz2 : w10.cell? ⟨g4, 2, none⟩ = some (.int .i64 0) := (HOb.out).cells 2
        have hz3 : w10.cell? ⟨g4, 3, none⟩ = some (.int .i64 0) := (HOb.out).cells 3
        have hz4 : w10.cell? ⟨g4, 4, none⟩ = some (.slice none 0 0) := (HOb.out).cells 4
        have hz5 : w10.cell? ⟨g4, 5, none⟩ = some (.slice none 0 0) := (HOb.out).cells 5
        have hy0 := (HOb.out).thaw 0
        have hy1 := (HOb.out).thaw 1
        have hy2 := (HOb.out).thaw 2
        have hy3 := (HOb.out).thaw 3
        have hy4 := (HOb.out).thaw 4
        have hy5 := (HOb.out).thaw 5
        go_wp2_with fail
        have h1 := HOb.out.ans ⟨c2, c1, 0, 0, [], []⟩ nilV nilV
        refine bodyPost_ret (ans_result rfl rfl h1) rfl ?_
        rw [← HR4.out]
        exact ⟨rfl, trc_iff.2 ⟨m1, f1, P1, ⟨HPT1.out.1, HOL.out⟩, h1.drop⟩, HK10.out.ans _ _ _ _ _ _ _⟩
end Go.Proofs.YtmgpgbfgemebbaaGreatDoor
namespace Go.Proofs.YtmgpgbfgemebbaaGreatDoor
open Go.RowKit Go.Own
def tre0 : Tre := ⟨[(1, ⟨2, [], [], [], 0, 1, 0⟩)], 1, List.replicate 16 Tb.none4⟩
set_option maxRecDepth 100000 in
set_option maxHeartbeats 4000000 in
theorem tNew (w : World) (L : List HP) (hO : Has w L) : Calls Tryz.prog 13 #[] w fun e w' => ∃ q, e = .returned (.pointer (some ⟨q, 0, none⟩)) ∧ Has w' (Trc q tre0 :: L) ∧ Keep w w' := by
 have h1 := (Mk.made (Mk.made hO kInt vPtr) kStr vInt).alloc (.cells #[.int .i64 2, .slice none 0 0, .slice none 0 0, .map (some (w.alloc (.map #[] 0)).heap.size), .int .i64 0, .int .i64 1, .int .i64 0] 82)
 have e1 : (w.alloc (.map #[] 0)).heap.size = w.heap.size + 1 := by show (Array.push _ _).size = _; rw [Array.size_push]
 have e2 : ((w.alloc (.map #[] 0)).alloc (.map #[] 0)).heap.size = w.heap.size + 1 + 1 := by show (Array.push _ _).size = _; rw [Array.size_push, e1]
 rw [e2, e1] at h1
 have HO1 := hid (h1.re 3 [2, 0, 1])
 have HK1 := hid ((((Keep.refl w).alloc (.map #[] 0)).alloc (.map #[] 0)).alloc (.cells #[.int .i64 2, .slice none 0 0, .slice none 0 0, .map (some (w.heap.size + 1)), .int .i64 0, .int .i64 1, .int .i64 0] 82))
 have hmm := @run_makeMap Tryz.prog
 clear h1 hO e1 e2
 go_enter Tryz.func13, Tryz.ntmps13
 go_wp2_with (refine wpList_mkIns HO1.out (by decide) tNo undNo rfl _ _ _ rfl rfl 1 (wf_small 1 (by decide) (by decide)) rfl (some (w.heap.size + 1 + 1)) trivial rfl ?_; intro w2 h2 k2; simp only [Act.put])
 refine (tabNew w2 _ h2).mono ?_
 rintro e w3 ⟨f, rfl, h3, k3⟩
 have HO3 := hid h3
 have HK3 := hid ((HK1.out.trans k2).trans k3)
 clear h2 k2 h3 k3 HO1 HK1
 try dsimp only
 go_wp2_with fail
 go_ret
 refine ⟨w3.heap.size, rfl, ?_, HK3.out.alloc _⟩
 have h4 := (HO3.out.alloc (.cells (treC w.heap.size f 1) 87))
 refine trc_iff.2 ⟨w.heap.size, f, [(1, w.heap.size + 1 + 1, ⟨2, [], [], [], 0, 1, 0⟩)], ⟨rfl, by simp [tre0]⟩, trb_iff.2 ?_⟩
 have h5 := (h4.re 5 [3, 4, 0, 1, 2])
 have h6 := ((h5.row_nil 4 1).row_nil 5 1).re 7 [2, 0, 1, 3, 4, 5, 6]
 have h7 : Has _ (Ndc (w.heap.size + 1 + 1) ⟨2, [], [], [], 0, 1, 0⟩ :: _) := ndc_ofB (by show (2 : Int) ≠ 3; decide) ⟨.slice none 0 0, .slice none 0 0, some (w.heap.size + 1), fun _ => ⟨_, rfl⟩, h6⟩
 exact h7.re 4 [1, 3, 2, 0]
end Go.Proofs.YtmgpgbfgemebbaaGreatDoor
namespace Go.Proofs.YtmgpgbfgemebbaaGreatDoor
open Go.RowKit Go.Own
def wkB (S : Tre) : Bool := (fnd S.nodes 1).isSome && S.nodes.all fun p => (p.2.names.all fun e => (fnd S.nodes e.2).isSome) && (decide (p.2.above = 0) || (fnd S.nodes p.2.above).isSome) && decide (p.2.data.length ≤ 100000) && decide (p.2.wr.length ≤ 100000) && decide (p.2.names.length < 1000000)
def wyB (S : Tre) (rk : Int → Nat) : Bool := S.nodes.all fun p => decide (p.1 = 1) || decide (p.2.above = 0) || match fnd S.nodes p.2.above with
 | none => false
 | some y => match y.names.filter fun e => decide (e.2 = p.1) with
  | [e] => decide (rk p.2.above < rk p.1) && decide (e.1.length ≤ 24) && decide (e.2 = p.1)
  | _ => false
def opbB (S : Tre) : Bool := decide (0 ≤ S.last) && decide (S.last < 1000000) && (fnd S.nodes (S.last + 1)).isNone && decide (S.nodes.length < 1000000) && (fnd S.nodes 0).isNone
theorem wk_of {S : Tre} (h : wkB S = true) : Wk S ∧ ∀ n x, fnd S.nodes n = some x → x.data.length ≤ 100000 ∧ x.wr.length ≤ 100000 ∧ x.names.length < 1000000 := by
 unfold wkB at h
 rw [Bool.and_eq_true, List.all_eq_true] at h
 obtain ⟨h1, h2⟩ := h
 have h3 : ∀ n x, fnd S.nodes n = some x → (∀ e ∈ x.names, (fnd S.nodes e.2).isSome = true) ∧ (x.above = 0 ∨ (fnd S.nodes x.above).isSome = true) ∧ x.data.length ≤ 100000 ∧ x.wr.length ≤ 100000 ∧ x.names.length < 1000000 := by
  intro n x hx
  have h4 := h2 _ (fnd_some hx)
  simpa [and_assoc] using h4
 refine ⟨⟨Option.isSome_iff_exists.1 h1, fun n x hx p c hc => ?_, fun n x hx h0 => ?_, fun n x hx _ => (h3 n x hx).2.2.1⟩, fun n x hx => (h3 n x hx).2.2⟩
 ·exact Option.isSome_iff_exists.1 ((h3 n x hx).1 _ (fnd_some hc))
 ·rcases (h3 n x hx).2.1 with h | h
  ·exact absurd h h0
  ·exact Option.isSome_iff_exists.1 h
theorem wy_of {S : Tre} {rk : Int → Nat} (h : wyB S rk = true) (hl : ∀ n, rk n ≤ 20) : Wy S rk := by
 refine ⟨fun n x hx h1 h0 => ?_, hl⟩
 unfold wyB at h
 have h4 := (List.all_eq_true.1 h) _ (fnd_some hx)
 dsimp only at h4
 rw [decide_eq_false h1, decide_eq_false h0, Bool.false_or, Bool.false_or] at h4
 split at h4
 ·cases h4
 ·rename_i y hy
  split at h4
  ·rename_i e he
   simp only [Bool.and_eq_true, decide_eq_true_eq] at h4
   exact ⟨y, e.1, hy, by rw [he, ← h4.2], h4.1.1, h4.1.2⟩
  ·cases h4
theorem opb_of {S : Tre} (h : opbB S = true) (h2 : wkB S = true) : Opb S := by
 unfold opbB at h
 simp only [Bool.and_eq_true, decide_eq_true_eq, Option.isNone_iff_eq_none] at h
 exact ⟨h.1.1.1.1, h.1.1.1.2, h.1.1.2, h.1.2, h.2, (wk_of h2).2⟩
def opnB (S : Tre) : Bool := S.tab.all fun s => !s.on || ((fnd S.nodes s.node).isSome && decide (0 ≤ s.off) && decide (s.off ≤ 2000000000000) && decide ((S.at_ s.node).kind ≠ 3))
end Go.Proofs.YtmgpgbfgemebbaaGreatDoor
namespace Go.Proofs.YtmgpgbfgemebbaaGreatDoor
open Go.RowKit Go.Own
abbrev nF : Str := [102]
abbrev pF : Str := [47, 102]
def root0 : Nod := ⟨2, [], [], [], 0, 1, 0⟩
def rootF : Nod := ⟨2, [], [], [(nF, 2)], 1, 1, 0⟩
def fileF (d : List Int) (wr : List Bool) : Nod := ⟨1, d, wr, [], 0, 1, 0⟩
def trF (d : List Int) (wr : List Bool) (T : List Tb.Slot) : Tre := ⟨[(1, rootF), (2, fileF d wr)], 2, T⟩
theorem splitM_root : splitM [47] = ([], 0) := by decide +kernel
theorem find_root (S : Tre) (fo : Bool) : S.find [47] fo = (⟨1, 0, []⟩, 0) := by
 unfold Tre.find
 rw [splitM_root, if_neg (by simp), Tre.walk]
section
variable {d : List Int} {wr : List Bool} {T : List Tb.Slot}
def TabF (T : List Tb.Slot) : Prop := ∀ s ∈ T, s.on = true → s.node = 2 ∧ 0 ≤ s.off ∧ s.off ≤ 2000000000000
end
end Go.Proofs.YtmgpgbfgemebbaaGreatDoor
namespace Go.Proofs.YtmgpgbfgemebbaaGreatDoor
open Go.RowKit Go.Own
def orM (p : Str) : Str := if p = [] then [47] else p
set_option maxRecDepth 100000 in
theorem cmpOr (g : Nat) (p : Str) (w : World) (h0 : w.cell? ⟨g, 0, none⟩ = some (sV p)) (h1 : w.cell? ⟨g, 1, none⟩ = some (sV [47])) : Calls Tryz.prog 86 #[.slice (some ⟨g, 0, none⟩) 2 2] w fun e w' => e = .returned (sV (orM p)) ∧ w = w' := by
 go_enter Tryz.func86, Tryz.ntmps86
 go_wp2_with fail
 go_loopw [8] (fun kv w' => w' = w ∧ ((kv = .int .i64 0) ∨ (kv = .int .i64 1 ∧ p = []))) (fun kv _ => 2 - (intOf kv).toNat)
 case atStart => exact ⟨rfl, .inl rfl⟩
 case round =>
  obtain ⟨rfl, rfl | ⟨rfl, rfl⟩⟩ := hrel
  ·by_cases hp : p = []
   ·subst hp
    go_wp2_with fail
    exact ⟨⟨trivial, .inr ⟨rfl, trivial⟩⟩, by simp [intOf]⟩
   ·have HR := hid (show orM p = p from if_neg hp)
    have he : p.isEmpty = false := by simpa using hp
    have he2 : (p == []) = false := by simpa using hp
    have he3 : (p != []) = true := by simpa using hp
    clear hp
    go_wp2_with fail
    try rw [Exit.noGoto_ret]
    go_ret
    rw [HR.out]
    exact ⟨rfl, rfl⟩
  ·have HR := hid (show orM [] = [47] from rfl)
   go_wp2_with fail
   try rw [Exit.noGoto_ret]
   go_ret
   rw [HR.out]
   exact ⟨rfl, rfl⟩
end Go.Proofs.YtmgpgbfgemebbaaGreatDoor
namespace Go.Proofs.YtmgpgbfgemebbaaGreatDoor
open Go.RowKit Go.Own
theorem range_nil (w : World) : (Instr.range tNm (.map none)).run Tryz.prog w = .ok (.pointer (some ⟨w.heap.size, 0, none⟩)) (w.alloc (.mapIter none 0 #[] 0)) := by
 unfold Instr.range
 simp only [Sem.run_bind, run_underlying undNm, Result.andThen_ok, Sem.run_pure]
 rfl
theorem next_nil (r : Nat) (w : World) (T : TypeId) (h : w.heap[r]? = some (.mapIter none 0 #[] 0)) : (Instr.next (.pointer (some ⟨r, 0, none⟩)) false T).run Tryz.prog w = .ok (.tuple #[.bool false]) w := by
 unfold Instr.next
 have e : (getObj r).run Tryz.prog w = .ok (.mapIter none 0 #[] 0) w := by
  simp [getObj, Sem.run, h]
 simp only [Sem.run_bind, e, Result.andThen_ok, Sem.run_pure]
end Go.Proofs.YtmgpgbfgemebbaaGreatDoor
namespace Go.Own
open Go.RowKit
end Go.Own
namespace Go.Proofs.YtmgpgbfgemebbaaGreatDoor
open Go.RowKit Go.Own
structure Sn where
 path : Str
 num : Int
 kind : Int
 links : Int
 data : List Int
 dv : Value
def oneV : Value → Value
 | .slice p n c => .slice p n c
 | _ => .slice none 0 0
def Sn.enc (s : Sn) : List Value := [sV s.path, .int .i64 s.num, .int .i64 s.kind, .int .i64 s.links, oneV s.dv]
def snEnc : List Sn → List Value
 | [] => []
 | s :: r => s.enc ++ snEnc r
theorem snEnc_app (a b : List Sn) : snEnc (a ++ b) = snEnc a ++ snEnc b := by
 induction a with
 | nil => rfl
 | cons s a ih => simp [snEnc, ih, List.append_assoc]
theorem infoNode : (Tryz.prog.info? 57).map (fun i => (i.zero, i.size, i.bytes)) = some (some (.agg #[.string ⟨#[]⟩, .int .i64 0, .int .i64 0, .int .i64 0, .slice none 0 0]), 5, 64) := by kernel_rfl
def Sns (v : Value) (os : List Sn) : HP := star (row v 57 5 os.length (snEnc os) :: os.map fun s => Bytes s.dv s.data)
theorem sns_iff {w : World} {L : List HP} {v : Value} {os : List Sn} : Has w (Sns v os :: L) ↔ Has w (row v 57 5 os.length (snEnc os) :: (os.map (fun s => Bytes s.dv s.data) ++ L)) := by
 unfold Sns
 rw [Has.star_iff]
 rfl
def seen (S : List (Int × Nod)) : Nat → Int → Str → List (Str × Int × Nod)
 | 0, _, _ => []
 | k + 1, n, p => (orM p, n, (fnd S n).getD nod0) :: ((fnd S n).getD nod0).names.flatMap fun e => seen S k e.2 (p ++ 47 :: e.1)
theorem sB_app (a b : Str) : sB a ++ sB b = sB (a ++ b) := by
 apply ByteArray.ext
 simp [sB]
theorem names_step {t : List (Str × Int)} {rem : List Str} {k : Str} {c : Int} (hn : (t.map Prod.fst).Nodup) (hm : (k, c) ∈ t) (hr : k ∈ rem) :
  (t.filter fun e => decide (e.1 ∈ rem)).Perm ((k, c) :: t.filter fun e => decide (e.1 ∈ rem.filter fun y => !decide (y = k))) ∧ (t.filter fun e => !decide (e.1 ∈ rem.filter fun y => !decide (y = k))).Perm ((k, c) :: t.filter fun e => !decide (e.1 ∈ rem)) := by
 obtain ⟨X, Y, rfl⟩ := List.append_of_mem hm
 have hX : ∀ e ∈ X, (e.1 ∈ rem.filter fun y => !decide (y = k)) ↔ e.1 ∈ rem := by
  intro e he
  have : e.1 ≠ k := by
   rintro rfl
   simp only [List.map_append, List.map_cons, List.nodup_append] at hn
   exact hn.2.2 e.1 (List.mem_map_of_mem he) e.1 (by simp) rfl
  simp [this]
 have hY : ∀ e ∈ Y, (e.1 ∈ rem.filter fun y => !decide (y = k)) ↔ e.1 ∈ rem := by
  intro e he
  have : e.1 ≠ k := by
   rintro rfl
   simp only [List.map_append, List.map_cons, List.nodup_append, List.nodup_cons] at hn
   exact hn.2.1.1 (List.mem_map_of_mem he)
  simp [this]
 have e1 : X.filter (fun e => decide (e.1 ∈ rem.filter fun y => !decide (y = k))) = X.filter fun e => decide (e.1 ∈ rem) := List.filter_congr fun e he => by rw [decide_eq_decide]; exact hX e he
 have e2 : Y.filter (fun e => decide (e.1 ∈ rem.filter fun y => !decide (y = k))) = Y.filter fun e => decide (e.1 ∈ rem) := List.filter_congr fun e he => by rw [decide_eq_decide]; exact hY e he
 have e3 : X.filter (fun e => !decide (e.1 ∈ rem.filter fun y => !decide (y = k))) = X.filter fun e => !decide (e.1 ∈ rem) := List.filter_congr fun e he => by congr 1; rw [decide_eq_decide]; exact hX e he
 have e4 : Y.filter (fun e => !decide (e.1 ∈ rem.filter fun y => !decide (y = k))) = Y.filter fun e => !decide (e.1 ∈ rem) := List.filter_congr fun e he => by congr 1; rw [decide_eq_decide]; exact hY e he
 have hk : ¬ (k ∈ rem.filter fun y => !decide (y = k)) := by simp
 refine ⟨?_, ?_⟩
 ·rw [List.filter_append, List.filter_append, List.filter_cons, List.filter_cons, e1, e2]
  dsimp only
  rw [if_pos (by simpa using hr), if_neg (by rw [decide_eq_true_iff]; exact hk)]
  exact List.perm_middle
 ·rw [List.filter_append, List.filter_append, List.filter_cons, List.filter_cons, e3, e4]
  dsimp only
  rw [if_pos (by rw [decide_eq_false hk]; rfl), if_neg (by rw [decide_eq_true hr]; decide)]
  exact List.perm_middle
theorem flat_le {α β : Type} (f : α → List β) : ∀ (l : List α) (e : α), e ∈ l → (f e).length ≤ (l.flatMap f).length
 | a :: l, e, h => by
  rw [List.flatMap_cons, List.length_append]
  rcases List.mem_cons.1 h with rfl | h
  ·omega
  ·have := flat_le f l e h
   omega
theorem sns_snoc {w : World} {L : List HP} {v : Value} {os : List Sn} (s : Sn) (h : Has w (row v 57 5 (os.length + 1) (snEnc os ++ s.enc) :: Bytes s.dv s.data :: (os.map (fun s => Bytes s.dv s.data) ++ L))) : Has w (Sns v (os ++ [s]) :: L) := by
 refine sns_iff.2 ?_
 rw [snEnc_app, List.length_append, List.map_append]
 have e : snEnc [s] = s.enc := by simp [snEnc]
 rw [e]
 refine h.perm (.cons _ ?_)
 rw [List.append_assoc]
 exact List.perm_middle.symm
theorem seen_front {a r b : HP} {X M L : List HP} : (a :: r :: b :: (X ++ (M ++ L))).Perm (r :: b :: (M ++ (a :: (X ++ L)))) := by
 refine (List.Perm.swap _ _ _).trans (.cons _ ((List.Perm.swap _ _ _).trans (.cons _ ?_)))
 show ((a :: X) ++ (M ++ L)).Perm (M ++ ((a :: X) ++ L))
 rw [← List.append_assoc, ← List.append_assoc]
 exact List.Perm.append_right L List.perm_append_comm
def Sn.key (s : Sn) : Str × Int × Int × Int × List Int := (s.path, s.num, s.kind, s.links, s.data)
def keyE (e : Str × Int × Nod) : Str × Int × Int × Int × List Int := (e.1, e.2.1, e.2.2.kind, e.2.2.links, e.2.2.data)
set_option maxRecDepth 100000 in
set_option maxHeartbeats 8000000 in
theorem tSee (q m f gt gs go : Nat) (P : List Pn) (last : Int) (T : List Tb.Slot) (rk : Int → Nat) (hxd : ∀ y ∈ P, y.2.2.data.length ≤ 100000) (hnd : (P.map Prod.fst).Nodup) (hlow : ∀ y ∈ P, rk y.1 ≤ 21) (hrk : ∀ y ∈ P, ∀ e ∈ y.2.2.names, rk y.1 < rk e.2 ∧ e.1.length ≤ 24 ∧ ∃ z ∈ P, z.1 = e.2) : ∀ (d : Nat) (n : Int) (b : Nat) (x : Nod) (p : Str) (PC : List Pn) (ov : Value) (os : List Sn) (w : World) (L : List HP), 22 ≤ rk n + d → rk n ≤ 21 → (n, b, x) ∈ P → p.length ≤ 25 * rk n → (∀ y ∈ P, rk n ≤ rk y.1 → y ∈ PC) → os.length + (seen (pnN P) d n p).length ≤ 1000000 →
  Has w (Sns ov os :: pt go (.cells #[ov] 48) :: pt gt (.cells #[.pointer (some ⟨q, 0, none⟩)] 27) :: pt gs (.cells #[(.func (.func 85) #[] #[.pointer (some ⟨gt, 0, none⟩), .pointer (some ⟨go, 0, none⟩), .pointer (some ⟨gs, 0, none⟩)])] 116) :: Trg q m f P last T PC :: L) →
  Calls Tryz.prog 85 #[.int .i64 n, sV p, .pointer (some ⟨gt, 0, none⟩), .pointer (some ⟨go, 0, none⟩), .pointer (some ⟨gs, 0, none⟩)] w fun e w' => e = .returned (.tuple #[]) ∧ ∃ ov' os', (os'.map Sn.key).Perm ((seen (pnN P) d n p).map keyE) ∧ Has w' (Sns ov' (os ++ os') :: pt go (.cells #[ov'] 48) :: pt gt (.cells #[.pointer (some ⟨q, 0, none⟩)] 27) :: pt gs (.cells #[(.func (.func 85) #[] #[.pointer (some ⟨gt, 0, none⟩), .pointer (some ⟨go, 0, none⟩), .pointer (some ⟨gs, 0, none⟩)])] 116) :: Trg q m f P last T PC :: L) ∧ Keep w w' := by
 intro d
 induction d with
 | zero => intro n b x p PC ov os w L h1 h2; omega
 | succ d ih =>
 intro n b x p PC ov os w L hr1 hr2 hin hp hall hos hO
 obtain ⟨A, B, hPC⟩ := List.append_of_mem (hall _ hin (Nat.le_refl _))
 have hat : (fnd (pnN P) n).getD nod0 = x := by
  rw [fnd_mem (by rw [pnN_keys]; exact hnd) (show (n, x) ∈ pnN P from List.mem_map.2 ⟨_, hin, rfl⟩)]
  rfl
 have hsn : seen (pnN P) (d + 1) n p = (orM p, n, x) :: x.names.flatMap fun e => seen (pnN P) d e.2 (p ++ 47 :: e.1) := by
  rw [seen, hat]
 rw [hsn] at hos ⊢
 simp only [List.length_cons] at hos
 have hxl := hxd _ hin
 have HIH := hid ih
 have HALL := hid hall
 have HPCe := hid hPC
 clear ih hall hat hsn
 have hlk := Trg.look hO.drop.drop.drop.drop hin
 have hq0 := (Trg.cells hO.drop.drop.drop.drop).1
 have hgt : w.cell? ⟨gt, 0, none⟩ = some (.pointer (some ⟨q, 0, none⟩)) := hO.p2.cells 0
 have h1 : Has w (Trg q m f P last T (A ++ (n, b, x) :: B) :: Sns ov os :: pt go (.cells #[ov] 48) :: pt gt (.cells #[.pointer (some ⟨q, 0, none⟩)] 27) :: pt gs (.cells #[(.func (.func 85) #[] #[.pointer (some ⟨gt, 0, none⟩), .pointer (some ⟨go, 0, none⟩), .pointer (some ⟨gs, 0, none⟩)])] 116) :: L) := by rw [← hPC]; exact hO.re 5 [4, 0, 1, 2, 3]
 obtain ⟨dv, wv, nm, hnm, h2⟩ := ndc_iff.1 (Trg.pull h1)
 have HNM := hid hnm
 obtain ⟨pd, cd, rfl, -⟩ := (Dat.rd h2.p1).form
 have HO := hid (show Has w (row ov 57 5 os.length (snEnc os) :: pt go (.cells #[ov] 48) :: pt b (.cells (nodC x (.slice pd x.data.length cd) wv nm) 82) :: Dat x.kind (.slice pd x.data.length cd) x.data :: Bools wv x.wr :: Nms nm x.names :: Trg q m f P last T (A ++ B) :: pt gt (.cells #[.pointer (some ⟨q, 0, none⟩)] 27) :: pt gs (.cells #[(.func (.func 85) #[] #[.pointer (some ⟨gt, 0, none⟩), .pointer (some ⟨go, 0, none⟩), .pointer (some ⟨gs, 0, none⟩)])] 116) :: (os.map (fun s => Bytes s.dv s.data) ++ L)) from by
  have h3 := (h2.re 9 [5, 6, 0, 1, 2, 3, 4, 7, 8])
  have h4 := sns_iff.1 h3
  refine h4.perm (.cons _ ?_)
  refine List.Perm.trans (l₂ := (os.map fun s => Bytes s.dv s.data) ++ ([pt go (.cells #[ov] 48), pt b (.cells (nodC x (.slice pd x.data.length cd) wv nm) 82), Dat x.kind (.slice pd x.data.length cd) x.data, Bools wv x.wr, Nms nm x.names, Trg q m f P last T (A ++ B), pt gt (.cells #[.pointer (some ⟨q, 0, none⟩)] 27), pt gs (.cells #[(.func (.func 85) #[] #[.pointer (some ⟨gt, 0, none⟩), .pointer (some ⟨go, 0, none⟩), .pointer (some ⟨gs, 0, none⟩)])] 116)] ++ L)) (.refl _) ?_
  rw [← List.append_assoc]
  refine (List.Perm.append_right L List.perm_append_comm).trans ?_
  rw [List.append_assoc]
  exact .refl _)
 clear h1 h2 hO hnm
 go_enter Tryz.func85, Tryz.ntmps85
 go_upto_region 1 with fail
 have HO2 := hid HO.out.drew
 have HK2 := hid (Keep.refl w).drew
 obtain ⟨po, co, hov, -⟩ := (Has.rd HO.out).form
 refine region_tail1 (fun w' => w'.cell? ⟨go, 0, none⟩ = some ov ∧ w'.cell? ⟨b, 0, none⟩ = some (.int .i64 x.kind) ∧ w'.cell? ⟨b, 5, none⟩ = some (.int .i64 x.links) ∧ w'.cell? ⟨b, 1, none⟩ = some (.slice pd x.data.length cd)) (by kernel_rfl) (by kernel_rfl) (by kernel_rfl) (by decide) ⟨HO2.out.p1.cells 0, HO2.out.p2.cells 0, HO2.out.p2.cells 5, HO2.out.p2.cells 1⟩ ?_
 clear HO hlk hq0 hgt
 generalize w.drew = w2 at *
 subst hov
 repeat (first | refine wr4 ?_ | refine wk ?_)
 refine wa fun K hK => ?_
 go_simp
 have HO3 := hid (HO2.out.alloc (.cells #[sV p, sV [47]] 9))
 have HK3 := hid (HK2.out.alloc (.cells #[sV p, sV [47]] 9))
 refine hK.out _ _ ⟨HO3.out.p2.cells 0, HO3.out.p3.cells 0, HO3.out.p3.cells 5, HO3.out.p3.cells 1⟩ ?_
 clear hK K HO2 HK2
 try simp only [Act.put, List.setIfInBounds_toArray, List.set_cons_zero, List.set_cons_succ]
 generalize w2.heap.size = g6 at *
 generalize w2.alloc (.cells #[sV p, sV [47]] 9) = w3 at *
 refine wa fun K hK => ?_
 go_simp
 refine (cmpOr g6 p w3 (HO3.out.cells 0) (HO3.out.cells 1)).mono ?_
 rintro e w' ⟨rfl, rfl⟩
 try dsimp only
 refine hK.out _ _ ⟨HO3.out.p2.cells 0, HO3.out.p3.cells 0, HO3.out.p3.cells 5, HO3.out.p3.cells 1⟩ ?_
 clear hK K
 try simp only [Act.put, List.setIfInBounds_toArray, List.set_cons_zero, List.set_cons_succ]
 repeat (first | refine wr4 ?_ | refine wk ?_)
 refine wa fun K hK => ?_
 go_simp
 refine (cloneBy _ x.data _ _ HO3.out (Dat.rd (HO3.out.re 5 [4])) (by have := hxl; dsimp only at this; omega)).mono ?_
 rintro e w4 ⟨v4, rfl, hO4, hK4⟩
 have HO4 := hid hO4
 have HK4 := hid ((HK3.out).trans hK4)
 clear hO4 hK4
 try dsimp only
 refine hK.out _ _ (⟨(HO4.out.re 4 [3]).cells 0, (HO4.out.re 5 [4]).cells 0, (HO4.out.re 5 [4]).cells 5, (HO4.out.re 5 [4]).cells 1⟩) ?_
 clear hK K
 try simp only [Act.put, List.setIfInBounds_toArray, List.set_cons_zero, List.set_cons_succ]
 obtain ⟨p4, c4, hv4, -⟩ := (Bytes.rd HO4.out).form
 subst hv4
 repeat (first | refine wr4 ?_ | refine wk ?_)
 refine wa fun K hK => ?_
 go_simp
 have HO5 := hid (HO4.out.alloc (.cells #[sV (orM p), .int .i64 n, .int .i64 x.kind, .int .i64 x.links, .slice p4 x.data.length c4] 57))
 have HK5 := hid (HK4.out.alloc (.cells #[sV (orM p), .int .i64 n, .int .i64 x.kind, .int .i64 x.links, .slice p4 x.data.length c4] 57))
 refine hK.out _ _ ⟨(HO5.out.re 5 [4]).cells 0, (HO5.out.re 6 [5]).cells 0, (HO5.out.re 6 [5]).cells 5, (HO5.out.re 6 [5]).cells 1⟩ ?_
 clear hK K HO4 HK4 HO3 HK3
 try simp only [Act.put, List.setIfInBounds_toArray, List.set_cons_zero, List.set_cons_succ]
 generalize w4.heap.size = g7 at *
 generalize w4.alloc (.cells #[sV (orM p), .int .i64 n, .int .i64 x.kind, .int .i64 x.links, .slice p4 x.data.length c4] 57) = w5 at *
 refine wa fun K hK => ?_
 have hcs := HO5.out.cells
 refine wp_append1 _ _ 48 rfl Tryz.underlying48 infoNode rfl [sV (orM p), .int .i64 n, .int .i64 x.kind, .int .i64 x.links, .slice p4 x.data.length c4] rfl (HO5.out.re 4 [3, 0, 1, 2]) rfl 1 g7 rfl (fun j => by rw [hcs j]; simp) (by intro u hu; simp at hu; rcases hu with rfl | rfl | rfl | rfl | rfl <;> rfl) (le_maxLen (by omega)) (by omega) ?_
 intro v6 w6 h6 k6
 refine hK.out _ _ ⟨(h6.re 5 [4]).cells 0, (h6.re 6 [5]).cells 0, (h6.re 6 [5]).cells 5, (h6.re 6 [5]).cells 1⟩ ?_
 clear hK K hcs
 try simp only [Act.put, List.setIfInBounds_toArray, List.set_cons_zero, List.set_cons_succ]
 refine wpL_nil ?_
 obtain ⟨p6, c6, hv6, -⟩ := (Has.rd h6).form
 subst hv6
 have hcg : w6.cell? ⟨go, 0, none⟩ = some (.slice po os.length co) := (h6.re 5 [4]).cells 0
 have htg := (h6.re 5 [4]).thaw 0
 have HO7 := hid (show Has (w6.setCell ⟨go, 0, none⟩ (.slice p6 (os.length + 1) c6)) (pt go (.cells #[.slice p6 (os.length + 1) c6] 48) :: row (.slice p6 (os.length + 1) c6) 57 5 (os.length + 1) (snEnc os ++ [sV (orM p), .int .i64 n, .int .i64 x.kind, .int .i64 x.links, .slice p4 x.data.length c4]) :: Bytes (.slice p4 x.data.length c4) x.data :: pt b (.cells (nodC x (.slice pd x.data.length cd) wv nm) 82) :: Dat x.kind (.slice pd x.data.length cd) x.data :: Bools wv x.wr :: Nms nm x.names :: Trg q m f P last T (A ++ B) :: pt gt (.cells #[.pointer (some ⟨q, 0, none⟩)] 27) :: pt gs (.cells #[(.func (.func 85) #[] #[.pointer (some ⟨gt, 0, none⟩), .pointer (some ⟨go, 0, none⟩), .pointer (some ⟨gs, 0, none⟩)])] 116) :: (os.map (fun s => Bytes s.dv s.data) ++ L)) from
  (show Has w6 (pt go (.cells #[.slice po os.length co] 48) :: _) from h6.re 12 [4, 0, 2, 5, 6, 7, 8, 9, 10, 11]).set 0 (.slice p6 (os.length + 1) c6))
 have HK7 := hid ((HK5.out.trans k6).set ⟨go, 0, none⟩ (.slice p6 (os.length + 1) c6))
 refine wpOp_last rfl (by rfl) ?_
 go_simp
 clear h6 k6 hcg htg HO5 HK5
 generalize w6.setCell ⟨go, 0, none⟩ (.slice p6 (os.length + 1) c6) = w7 at *
 have hc3 : w7.cell? ⟨b, 3, none⟩ = some (.map nm) := (HO7.out.re 4 [3]).cells 3
 cases nm with
 | none =>
  have hrn := range_nil
  have hnx := next_nil w7.heap.size (w7.alloc (.mapIter none 0 #[] 0)) 0 (by show (Array.push _ _)[_]? = _; simp)
  go_wp2_with fail
  go_loopw [] (fun w' => w' = w7.alloc (.mapIter none 0 #[] 0)) (fun _ => 0)
  case atStart => rfl
  case round =>
   subst hrel
   have HO8 := hid (sns_snoc ⟨orM p, n, x.kind, x.links, x.data, .slice p4 x.data.length c4⟩ (HO7.out.perm (seen_front (X := [_, _, _, _, _, _, _]))))
   go_wp2_with fail
   go_end0
   have hnn : x.names = [] := (Has.fact_iff.1 (show Has w7 (fact (x.names = []) :: _) from HO8.out.re 6 [5])).1
   refine ⟨rfl, .slice p6 (os.length + 1) c6, [⟨orM p, n, x.kind, x.links, x.data, .slice p4 x.data.length c4⟩], ?_, ?_, HK7.out.alloc _⟩
   ·rw [hnn]
    exact .refl _
   ·have h9 := (HO8.out.re 9 [2, 3, 4, 5, 6, 0, 1, 7, 8]).alloc' (.mapIter none 0 #[] 0)
    have h10 := Trg.push n (ndc_iff.2 ⟨_, _, _, HNM.out, h9⟩ : Has _ (Ndc b x :: _))
    have h11 := Trg.perm h10 (PC' := PC) (by rw [HPCe.out]; exact List.perm_middle.symm)
    exact h11.re 5 [1, 2, 3, 4, 0]
 | some mm =>
  have HO8 := hid (sns_snoc ⟨orM p, n, x.kind, x.links, x.data, .slice p4 x.data.length c4⟩ (HO7.out.perm (seen_front (X := [_, _, _, _, _, _, _]))))
  have HO9 := hid (show Has w7 (Mk kStr vInt mm x.names :: _) from HO8.out.re 9 [5, 0, 1, 2, 3, 4, 6, 7, 8])
  have HNDN := hid (Mk.nodup HO9.out)
  clear HO7 HO8
  go_wp2_with (at_range; refine wpList_mkStart HO9.out tNm undNm rfl _ rfl rfl ?_; intro w8 hO8 hK8 hs8)
  try go_frame
  have HO8 := hid hO8
  have HK8 := hid (HK7.out.trans hK8)
  clear hO8 hK8 hs8 HO9 HK7 hc3
  generalize w7.heap.size = r at *
  go_loopw [] (fun w' => ∃ (rem : List Str) (cnt : Nat) (ov1 : Value) (os1 : List Sn), (∀ s ∈ rem, s ∈ x.names.map Prod.fst) ∧ os1.length + ((x.names.filter fun e => decide (e.1 ∈ rem)).flatMap fun e => seen (pnN P) d e.2 (p ++ 47 :: e.1)).length ≤ (x.names.flatMap fun e => seen (pnN P) d e.2 (p ++ 47 :: e.1)).length + 1 ∧ Hid ((os1.map Sn.key).Perm (keyE (orM p, n, x) :: ((x.names.filter fun e => !decide (e.1 ∈ rem)).flatMap fun e => seen (pnN P) d e.2 (p ++ 47 :: e.1)).map keyE)) ∧ Hid (Has w' (Mr kStr vInt mm r x.names rem cnt :: Sns ov1 (os ++ os1) :: pt go (.cells #[ov1] 48) :: pt b (.cells (nodC x (.slice pd x.data.length cd) wv (some mm)) 82) :: Dat x.kind (.slice pd x.data.length cd) x.data :: Bools wv x.wr :: Trg q m f P last T (A ++ B) :: pt gt (.cells #[.pointer (some ⟨q, 0, none⟩)] 27) :: pt gs (.cells #[(.func (.func 85) #[] #[.pointer (some ⟨gt, 0, none⟩), .pointer (some ⟨go, 0, none⟩), .pointer (some ⟨gs, 0, none⟩)])] 116) :: L)) ∧ Hid (Keep w w')) (fun w' => w'.rangeLeft mm r)
  case atStart =>
   have hall : ∀ e ∈ x.names, e.1 ∈ x.names.map Prod.fst := fun e he => List.mem_map_of_mem he
   refine ⟨x.names.map Prod.fst, x.names.length, _, [⟨orM p, n, x.kind, x.links, x.data, .slice p4 x.data.length c4⟩], fun s hs => hs, ?_, hid ?_, HO8, HK8⟩
   ·rw [List.filter_eq_self.2 (fun e he => decide_eq_true (hall e he))]
    simp only [List.length_singleton]
    omega
   ·rw [List.filter_eq_nil_iff.2 (fun e he => by simp [hall e he])]
    exact .refl _
  case round =>
   clear HO8 HK8
   obtain ⟨rem, cnt, ov1, os1, hsub, hlen1, HPM, HO, HK⟩ := hrel
   have hleft := Mr.left HO.out
   have HLF := hid hleft
   have HSUB := hid hsub
   have HLEN := hid hlen1
   clear hsub hlen1
   go_wp2_with (at_next; refine wpList_mkNext HO.out rfl _ rfl rfl ?_ ?_)
   ·intro hrem
    subst hrem
    have HO5 := hid (show Has wr (Sns ov1 (os ++ os1) :: pt go (.cells #[ov1] 48) :: pt gt (.cells #[.pointer (some ⟨q, 0, none⟩)] 27) :: pt gs (.cells #[(.func (.func 85) #[] #[.pointer (some ⟨gt, 0, none⟩), .pointer (some ⟨go, 0, none⟩), .pointer (some ⟨gs, 0, none⟩)])] 116) :: Trg q m f P last T PC :: L) from by
     have h9 := (Mr.end HO.out).re 9 [3, 4, 5, 0, 6, 1, 2, 7, 8]
     have h10 := Trg.push n (ndc_iff.2 ⟨_, _, _, HNM.out, h9⟩ : Has _ (Ndc b x :: _))
     have h11 := Trg.perm h10 (PC' := PC) (by rw [HPCe.out]; exact List.perm_middle.symm)
     exact h11.re 5 [1, 2, 3, 4, 0])
    clear HO hleft
    go_wp2_with fail
    go_end0
    refine ⟨rfl, ov1, os1, ?_, HO5.out, HK.out⟩
    have h1 := HPM.out
    rw [List.filter_eq_self.2 (fun e _ => by simp)] at h1
    exact h1
   ·rintro k c w9 cnt' hp9 hr9 hky hO9 hlt9 hK9 hsz hen
    simp only [kStr_val, vInt_val] at hen ⊢
    have hen2 := hen
    obtain ⟨hk1, hk2, ⟨c', b', x'⟩, hz, hzc⟩ := hrk _ hin (k, c) hp9
    dsimp only at hk1 hk2 hzc
    subst hzc
    obtain ⟨hNA, hNB⟩ := names_step HNDN.out hp9 hr9
    have hfl := flat_le (fun e : Str × Int => seen (pnN P) d e.2 (p ++ 47 :: e.1)) (x.names.filter fun e => decide (e.1 ∈ rem)) (k, c') (List.mem_filter.2 ⟨hp9, decide_eq_true hr9⟩)
    dsimp only at hfl
    have hpl : (p ++ 47 :: k).length ≤ 25 * rk c' := by simp only [List.length_append, List.length_cons]; omega
    have hall2 : ∀ y ∈ P, rk c' ≤ rk y.1 → y ∈ A ++ B := by
     intro y hy hyr
     have h1 := HALL.out y hy (by omega)
     rw [HPCe.out] at h1
     rcases List.mem_append.1 h1 with h | h
     ·exact List.mem_append_left _ h
     ·rcases List.mem_cons.1 h with h | h
      ·rw [h] at hyr; dsimp only at hyr; omega
      ·exact List.mem_append_right _ h
    have hgs : w9.cell? ⟨gs, 0, none⟩ = some (.func (.func 85) #[] #[.pointer (some ⟨gt, 0, none⟩), .pointer (some ⟨go, 0, none⟩), .pointer (some ⟨gs, 0, none⟩)]) := (show Has w9 (pt gs _ :: _) from hO9.re 9 [8]).cells 0
    have HX := hid (HIH.out c' b' x' (p ++ 47 :: k) (A ++ B) ov1 (os ++ os1) w9 _ (by omega) (hlow _ hz) hz hpl hall2 (by have h1 := HLEN.out; rw [List.length_append]; omega) (hO9.re 9 [1, 2, 7, 8, 6, 0, 3, 4, 5]))
    have HNA := hid hNA
    have HNB := hid hNB
    have HL9 := hid hlt9
    have HK9 := hid (HK.out.trans hK9)
    clear hp9 hr9 hky hO9 hlt9 hK9 hsz hleft HO HK hNA hNB hfl hall2 hpl
    go_wp2_with fail
    rw [show sB p ++ (⟨#[47]⟩ : ByteArray) ++ sB k = sB (p ++ 47 :: k) from by rw [show (⟨#[47]⟩ : ByteArray) = sB [47] from rfl, sB_app, sB_app, List.append_assoc]; rfl]
    refine HX.out.mono ?_
    rintro e w10 ⟨rfl, ov2, os2, hpm2, hO2, hK2⟩
    rw [List.append_assoc] at hO2
    have HO10 := hid (show Has w10 (Mr kStr vInt mm r x.names (rem.filter fun y => !decide (y = k)) cnt' :: _) from hO2.re 9 [5, 0, 1, 6, 7, 8, 4, 2, 3])
    have HK10 := hid (HK9.out.trans hK2)
    have HPM2 := hid hpm2
    have hleft := Mr.left HO10.out
    clear hO2 hK2 HX HK9 hen hen2 hgs hpm2
    try dsimp only
    go_wp2_with fail
    refine ⟨⟨_, cnt', ov2, os1 ++ os2, fun s hs => HSUB.out s (List.mem_filter.1 hs).1, ?_, hid ?_, HO10, HK10⟩, by rw [hleft, HLF.out]; exact HL9.out⟩
    ·have h1 := HLEN.out
     have h2 := (HNA.out.flatMap_right fun e : Str × Int => seen (pnN P) d e.2 (p ++ 47 :: e.1)).length_eq
     rw [List.flatMap_cons, List.length_append] at h2
     have h3 := HPM2.out.length_eq
     rw [List.length_map, List.length_map] at h3
     rw [List.length_append]
     dsimp only at h2
     omega
    ·have h2 := (HNB.out.flatMap_right fun e : Str × Int => seen (pnN P) d e.2 (p ++ 47 :: e.1)).map keyE
     rw [List.flatMap_cons, List.map_append] at h2
     rw [List.map_append]
     refine (HPM.out.append HPM2.out).trans ?_
     rw [List.cons_append]
     refine .cons _ ?_
     exact List.perm_append_comm.trans h2.symm
end Go.Proofs.YtmgpgbfgemebbaaGreatDoor
namespace Go.Own
open Go.RowKit
theorem flat_at {α : Type} (enc : α → List Value) (k : Nat) (hk : 0 < k) (he : ∀ x, (enc x).length = k) : ∀ (l : List α) (t : Nat) (h : t < l.length * k), (l.flatMap enc)[t]? = (enc (l[t / k]'(Nat.div_lt_of_lt_mul (by rw [Nat.mul_comm]; exact h))))[t % k]?
 | [], t, h => by simp at h
 | x :: l, t, h => by
  rw [List.flatMap_cons]
  by_cases ht : t < k
  ·rw [List.getElem?_append_left (by rw [he]; exact ht)]
   have e1 : t / k = 0 := Nat.div_eq_of_lt ht
   have e2 : t % k = t := Nat.mod_eq_of_lt ht
   simp [e1, e2]
  ·have hle : k ≤ t := by omega
   rw [List.getElem?_append_right (by rw [he]; exact hle), he]
   have h' : t - k < l.length * k := by
    rw [List.length_cons, Nat.succ_mul] at h
    omega
   rw [flat_at enc k hk he l (t - k) h']
   have e1 : t / k = (t - k) / k + 1 := by
    conv => lhs; rw [show t = t - k + k from by omega]
    rw [Nat.add_div_right _ hk]
   have e2 : t % k = (t - k) % k := by
    conv => lhs; rw [show t = t - k + k from by omega]
    rw [Nat.add_mod_right]
   simp [e1, e2]
theorem flatK_list {α : Type} [Inhabited α] (enc : α → List Value) (k : Nat) (hk : 0 < k) (he : ∀ x, (enc x).length = k) (d : Array α) : (Go.Sort.flatK enc k d).toList = d.toList.flatMap enc := by
 apply List.ext_getElem?
 intro t
 have hl : (d.toList.flatMap enc).length = d.size * k := by
  rw [List.length_flatMap]
  have : (d.toList.map fun x => (enc x).length) = List.replicate d.size k := by
   apply List.ext_getElem
   ·simp
   ·intro i h1 h2
    simp [he]
  rw [this]
  simp
 by_cases ht : t < d.size * k
 ·rw [flat_at enc k hk he d.toList t (by simpa using ht), Array.getElem?_toList, Array.getElem?_eq_getElem (by simpa using ht)]
  have h1 := Go.Sort.get_flatK enc k d t ht
  rw [getElem!_pos _ t (by simpa using ht)] at h1
  have h2 : t / k < d.size := Nat.div_lt_of_lt_mul (by rw [Nat.mul_comm]; exact ht)
  rw [h1, getElem!_pos d (t / k) h2]
  have h3 : t % k < (enc d[t / k]).length := by rw [he]; exact Nat.mod_lt _ hk
  rw [getElem!_pos _ (t % k) h3]
  simp
 ·rw [List.getElem?_eq_none (by rw [Array.length_toList]; simp; omega), List.getElem?_eq_none (by rw [hl]; omega)]
section
variable {w : World} {l : List HP} {e : TypeId} {size n : Nat} {xs : List Value}
theorem Has.putRowK {α : Type} [Inhabited α] (enc : α → List Value) (hs : 0 < size) (he : ∀ x, (enc x).length = size) {g cap m : Nat} {d : Array α} (h : Has w (row (.slice (some ⟨g, 0, none⟩) m cap) e size n xs :: l)) (hd : d.size = n) :
  Has (Go.Sort.putRowK enc size w g 0 d) (row (.slice (some ⟨g, 0, none⟩) m cap) e size n (d.toList.flatMap enc) :: l) := by
 rw [← flatK_list enc size hs he d]
 have hF : (Go.Sort.flatK enc size d).size = n * size := by simp [hd]
 unfold Go.Sort.putRowK
 generalize Go.Sort.flatK enc size d = F at *
 obtain ⟨hl, h | ⟨g', cap', cur, e1, h1, h2, h3, h4, h5⟩⟩ := h.row_cases
 ·exact absurd h.1 (by simp)
 ·simp only [Value.slice.injEq, Option.some.injEq, Addr.mk.injEq] at e1
  obtain ⟨⟨rfl, -, -⟩, rfl, rfl⟩ := e1
  have hle : F.size ≤ cap * size := by rw [hF]; exact Nat.mul_le_mul_right size (by omega)
  have hp : Has (Sort.putRow id w g 0 F) (pt g (.cells (Sort.putCells id 0 F cur) e) :: l) := by
   refine h5.turn (fun k _ hk => ?_) ?_
   ·simp [Sort.putRow, Sort.mapBlock, Array.getElem?_modify, Ne.symm hk]
   ·simp [Sort.putRow, Sort.mapBlock, Array.getElem?_modify, h5.lookup, Sort.onCells]
  refine hp.row_of (by omega) h2 (by simpa [Sort.putCells] using h3) ?_ (by simp [hF])
  apply List.ext_getElem?
  intro k
  by_cases hk : k < F.size
  ·have hkc : k < cur.size := by omega
   rw [List.getElem?_take, if_pos (by omega), Array.getElem?_toList, Sort.putCells, Array.getElem?_mapIdx, Array.getElem?_eq_getElem hkc, Option.map_some, if_pos ⟨Nat.zero_le _, by omega⟩, Array.getElem?_toList, Nat.sub_zero,
    Array.getElem?_eq_getElem hk, getElem!_pos F k hk]
   rfl
  ·rw [List.getElem?_eq_none (by simp [Sort.putCells]; omega), List.getElem?_eq_none (by simp; omega)]
end
end Go.Own
namespace Go.Proofs.YtmgpgbfgemebbaaGreatDoor
open Go.RowKit Go.Own Go.Sort
set_option maxRecDepth 100000 in
theorem tCmp (x y : Sn) (W : World) : Calls Tryz.prog 89 #[.agg x.enc.toArray, .agg y.enc.toArray] W fun e w' => e = .returned (.int .i64 (Lib.compareBytes x.path y.path)) ∧ ∃ q os', w' = grow (W.drewN q) os' := by
 have hcon := fun W' => Tryz.strings_Compare (sB x.path) (sB y.path) W'
 unfold Sn.enc
 go_enter Tryz.func89, Tryz.ntmps89
 go_wp2_with fail
 refine (hcon _).mono ?_
 rintro e w' ⟨rfl, rfl⟩
 try dsimp only
 go_wp2_with fail
 go_ret
 exact ⟨rfl, 0, _, by rw [alloc_eq_grow, alloc_eq_grow, grow_grow]; rfl⟩
end Go.Proofs.YtmgpgbfgemebbaaGreatDoor
