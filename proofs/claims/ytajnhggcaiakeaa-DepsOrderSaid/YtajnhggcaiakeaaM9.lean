/- TEXTS of mine, merged. -/
import Derived.Test.YtajnhggcaiakeaaM8
import Derived.Test.YtajnhggcaiakeaaM1
import Derived.ProofKit
import Derived.OpenShut
import Derived.ShutString
import Derived.ChangeOld
import Derived.Deep.Slices
/- DepsOrder: levels, in which each comes behind all that it needs. For every input. -/
namespace Go.Proofs.Ytajnhggcaiakeaa
open Go.RowKit Go.Own Go.Maps Go.ChangeMaps Go.Own.Dp
theorem okS (n : Nat) (h : n ≤ 1000) : okK (n : Int) := by
  show (Lit.int .i64 (n : Int)).wf = true
  unfold Lit.wf
  rw [Bool.and_eq_true, decide_eq_true_iff, decide_eq_true_iff]
  have h1 : IntKind.min .i64 = -9223372036854775808 := by decide
  have h2 : IntKind.max .i64 = 9223372036854775807 := by decide
  rw [h1, h2]
  omega
theorem Ll.at2 {w : World} {L : List HP} {p : Option Addr} {n c : Nat} {B : Il} {q : Nat} {row : List Int} (h : Has w (Ll (.slice p n c) B :: L)) (hr : (B.map Prod.snd)[q]? = some row) :
    ∃ g o, p = some ⟨g, o, none⟩ ∧ ∃ pr cr, w.cell? ⟨g, o + q, none⟩ = some (.slice pr row.length cr) ∧ row.length ≤ 9223372036854775807 ∧ ∀ (k : Nat) x, row[k]? = some x → ∃ g' o', pr = some ⟨g', o', none⟩ ∧ w.cell? ⟨g', o' + k, none⟩ = some (.int .i64 x) := by
  have hq : q < B.length := by simpa using (List.getElem?_eq_some_iff.1 hr).1
  rw [List.getElem?_map, List.getElem?_eq_getElem hq] at hr
  simp only [Option.map_some, Option.some.injEq] at hr
  obtain ⟨g, o, c', pr, cr, e, hcr, hrv⟩ := (Ll.rdq h).at_ q hq
  have hrd := (Ll.rdq h).2 _ (List.getElem_mem hq)
  rw [hr] at hcr hrv hrd
  rw [hrv] at hrd
  simp only [Value.slice.injEq] at e
  obtain ⟨rfl, -⟩ := e
  obtain ⟨p2, c2, e2, -, hl, hc⟩ := hrd.form
  simp only [Value.slice.injEq, true_and] at e2
  obtain ⟨rfl, rfl⟩ := e2
  refine ⟨g, o, rfl, pr, cr, hcr, hl, fun k x hx => ?_⟩
  have hk := (List.getElem?_eq_some_iff.1 hx).1
  obtain ⟨g', o', rfl, hc2⟩ := hc (by omega)
  exact ⟨g', o', rfl, by rw [hc2 k (by omega), ic, List.getElem?_map, hx]; rfl⟩
set_option maxRecDepth 100000 in
set_option maxHeartbeats 16000000 in
theorem orderWalk (many : Int) (v1 : Value) (ws : List Int) (v2 : Value) (is : List Int) (W : World) (hr1 : Rd W v1 1 ws.length (ic ws) ∧ ∀ x ∈ ws, (Lit.int .i64 x).wf = true) (hr2 : Rd W v2 1 is.length (ic is) ∧ ∀ x ∈ is, (Lit.int .i64 x).wf = true) :
    Calls Try.prog 3 #[.int .i64 many, v1, v2] W fun e w' => e = .returned (.bool true) ∧ Below W.heap.size W w' := by
  obtain ⟨vp1, vc1, rfl, hvc1, hvl1, -⟩ := hr1.1.form
  obtain ⟨vp2, vc2, rfl, hvc2, hvl2, -⟩ := hr2.1.form
  have HR1 := hid hr1.1
  have HR2 := hid hr2.1
  have HOK := hid (show ∀ x ∈ is, okK x from hr2.2)
  have HO0 := hid (Has.start W)
  clear hr1 hr2
  obtain ⟨m, hm⟩ : ∃ m : Nat, (m : Int) = low many 21 := ⟨(low many 21).toNat, by have := low_in many 21 (by omega); omega⟩
  have hml : m ≤ 20 := by have := low_in many 21 (by omega); omega
  have HM := hid hm
  clear hm
  by_cases hbig : 20 < is.length
  · have hbi : (20 : Int) < (is.length : Int) := by omega
    go_enter Try.func3, Try.ntmps3
    go_wp2_with fail
    refine (lowAny many 21 W (by omega) (by omega)).mono ?_
    rintro e w' ⟨rfl, rfl⟩
    try dsimp only
    go_wp2_with fail
    refine (awake17 W _ HO0.out).mono ?_
    rintro e w1 ⟨rfl, hO1, hK1⟩
    have HO1 := hid hO1
    have HK1 := hid ((Keep.refl W).trans hK1)
    clear hO1 hK1
    try dsimp only
    go_wp2_with fail
    go_ret
    exact ⟨rfl, HO1.out.below HK1.out.os HK1.out.tape HK1.out.output⟩
  · have hbi : ¬ (20 : Int) < (is.length : Int) := by omega
    go_enter Try.func3, Try.ntmps3
    go_wp2_with fail
    refine (lowAny many 21 W (by omega) (by omega)).mono ?_
    rintro e w' ⟨rfl, rfl⟩
    try dsimp only
    rw [← HM.out]
    go_wp2_with fail
    refine (xNew W _ HO0.out).mono ?_
    rintro e w1 ⟨g, rfl, hO1, hK1⟩
    have HO1 := hid hO1
    have HK1 := hid hK1
    clear hO1 hK1 HO0
    try dsimp only
    go_wp2_with fail
    go_loopw [8] (fun i w => ∃ n : Nat, n ≤ m ∧ i = .int .i64 ((n + 1 : Nat) : Int) ∧ Hid (Has w (Gx g (chain (fun _ => []) n) :: [old W])) ∧ Hid (Keep W w)) (fun i _ => m + 1 - (intOf i).toNat)
    case atStart => exact ⟨0, by omega, rfl, HO1, HK1⟩
    case round =>
      clear HO1 HK1
      obtain ⟨n, hn, rfl, HO, HK⟩ := hrel
      by_cases hlt : n < m
      · have hi : ((n + 1 : Nat) : Int) ≤ (m : Int) := by omega
        have hlen := chain_len (fun _ => []) n
        have hnot : ((n + 1 : Nat) : Int) ∉ ids (chain (fun _ => []) n) := fun h => by have := chain_ids.1 h; omega
        have HA := hid (xAdd g (chain (fun _ => []) n) ((n + 1 : Nat) : Int) wr _ (okS _ (by omega)) (by omega) hnot (by rw [hlen]; omega) HO.out)
        rw [show chain (fun _ => []) n ++ [(((n + 1 : Nat) : Int), [])] = chain (fun _ => []) (n + 1) from (chain_snoc _ n).symm] at HA
        clear hlen hnot
        generalize hq : ((n + 1 : Nat) : Int) = q at *
        have HQ := hid hq
        have hq3 : 1 ≤ q ∧ q ≤ 100 := by omega
        clear hq
        go_wp2_with fail
        refine HA.out.mono ?_
        rintro e w2 ⟨rfl, hO2, hK2⟩
        have HO2 := hid hO2
        have HK2 := hid (HK.out.trans hK2)
        clear hO2 hK2 HA HO HK
        try dsimp only
        go_wp2_with fail
        exact ⟨⟨n + 1, by omega, by rw [← HQ.out]; go_num, HO2, HK2⟩, by rw [← HQ.out]; simp [intOf]; omega⟩
      · obtain rfl : n = m := by omega
        have hi : ¬ ((n + 1 : Nat) : Int) ≤ (n : Int) := by omega
        clear hlt hn
        go_wp2_with fail
        refine (wantsW n (.slice vp1 ws.length vc1) ws wr (old W :: [Gx g (chain (fun _ => []) n)]) hml (fun w' h => HR1.out.cellsOld h.old_look) HO.out.p1).mono ?_
        rintro e w3 ⟨l, hl, rfl, hO3, hK3⟩
        have HO3 := hid hO3.p1
        have HK3 := hid (HK.out.trans hK3)
        have HL := hid hl
        clear hO3 hK3 HO HK hl
        try dsimp only
        have HO4 := hid (show Has (w3.alloc (.cells (i8 (List.replicate 21 0)) 29)) (pt w3.heap.size (.cells (i8 (List.replicate 21 0)) 29) :: Gx g (chain (fun _ => []) n) :: [old W]) from HO3.out.alloc _)
        have HK4 := hid (HK3.out.alloc (.cells (i8 (List.replicate 21 0)) 29))
        clear HO3 HK3
        go_wp2_with (refine wpList_storeAt rfl _ _ _ rfl w3.heap.size 0 (i8 (List.replicate 21 0)) (i8 l) _ HO4.out rfl rfl (by intro w; rw [i8_size, HL.out]; exact Try.sizeOf29 w) (i8_one l) (by rw [i8_size, i8_size, HL.out]; decide) ?_; intro w5 hO5 hK5)
        rw [whole l HL.out] at hO5
        generalize w3.heap.size = gn at *
        have HO5 := hid (show Has w5 (pt gn (.cells (i8 l) 29) :: Gx g (chain (fS l 1 1) n) :: [old W]) from by rw [← fS_zero]; exact hO5)
        have HK5 := hid (HK4.out.trans hK5)
        clear hO5 hK5 HO4 HK4
        go_wp2_with fail
        go_loopw [10] (fun i w => ∃ k : Nat, 1 ≤ k ∧ k ≤ n + 1 ∧ i = .int .i64 k ∧ Hid (Has w (pt gn (.cells (i8 l) 29) :: Gx g (chain (fS l k 1) n) :: [old W])) ∧ Hid (Keep W w)) (fun i _ => n + 1 - (intOf i).toNat)
        case atStart => exact ⟨1, by omega, by omega, rfl, HO5, HK5⟩
        case round =>
          clear HO5 HK5
          obtain ⟨i, hi1, hin, rfl, HO, HK⟩ := hrel
          by_cases hlt : i ≤ n
          · have hii : (i : Int) ≤ (n : Int) := by omega
            have hi0 : (1 : Int) ≤ (i : Int) := by omega
            have hi21 : (i : Int) < 21 := by omega
            have HIN := hid hlt
            have HI1 := hid hi1
            clear hlt hin hi1
            go_wp2_with fail
            go_loopw [11] (fun j w => ∃ k : Nat, 1 ≤ k ∧ k ≤ i ∧ j = .int .i64 k ∧ Hid (Has w (pt gn (.cells (i8 l) 29) :: Gx g (chain (fS l i k) n) :: [old W])) ∧ Hid (Keep W w)) (fun j _ => i - (intOf j).toNat)
            case atStart => exact ⟨1, by omega, HI1.out, rfl, HO, HK⟩
            case round =>
              clear HO HK
              obtain ⟨k, hk1, hki, rfl, HO, HK⟩ := hrel
              by_cases hlt : k < i
              · have hkk : (k : Int) < (i : Int) := by omega
                have hk0 : (1 : Int) ≤ (k : Int) := by omega
                have hk00 : (0 : Int) ≤ (k : Int) := by omega
                have hk21 : (k : Int) < 21 := by omega
                have hcell : wr.cell? ⟨gn, i, none⟩ = some (.int .i64 (l.getD i 0)) := by rw [HO.out.cells i]; exact i8_at l i (by rw [HL.out]; omega)
                have HLT := hid hlt
                have HK1 := hid hk1
                have HX := hid (rfl : l.getD i 0 = l.getD i 0)
                generalize hxx : l.getD i 0 = x at hcell
                have HXX := hid hxx
                clear hlt hki hk1 HX hxx
                rcases hb : (bits BinOp.and IntKind.i64 (x / 2 ^ k) 1 == 1) with _ | _
                · have HB := hid (show bt l i k = false by unfold bt bitW; rw [HXX.out]; exact hb)
                  go_wp2_with fail
                  exact ⟨⟨k + 1, by omega, by have := HLT.out; omega, by go_num, by rw [fS_no HK1.out HB.out]; exact HO, HK⟩, by have := HLT.out; simp [intOf]; omega⟩
                · have HB := hid (show bt l i k = true by unfold bt bitW; rw [HXX.out]; exact hb)
                  have hdn := fS_dn l i k (by have := HLT.out; omega) (by have := HIN.out; omega)
                  have hN := xNeeds g (chain (fS l i k) n) i k wr (pt gn (.cells (i8 l) 29) :: [old W]) (chain_ids.2 (by omega)) (chain_ids.2 (by omega)) (by rw [chain_len]; omega) (hdn.nd n) HO.out.p1
                  have HNR := hid (show ¬ Rch (chain (fS l i k) n) [(k : Int)] i from fun hr => by
                    have := hdn.below (m := k) (by intro y hy; rw [List.mem_singleton] at hy; omega) hr
                    omega)
                  have HN := hid hN
                  clear hN hdn
                  go_wp2_with fail
                  refine HN.out.mono ?_
                  rintro e w6 ⟨r, rfl, -, h4, ⟨E', -, h5, hO6⟩, hK6⟩
                  obtain rfl := h4 HNR.out
                  obtain rfl := h5 HNR.out
                  rw [fS_yes HK1.out HLT.out HB.out] at hO6
                  have HO6 := hid hO6
                  have HK6 := hid (HK.out.trans hK6)
                  have hdn := fS_dn l i (k + 1) HLT.out (by have := HIN.out; omega)
                  have hN := xNeeds g (chain (fS l i (k + 1)) n) k i w6 (pt gn (.cells (i8 l) 29) :: [old W]) (chain_ids.2 (by omega)) (chain_ids.2 (by omega)) (by rw [chain_len]; omega) (hdn.nd n) HO6.out
                  have HNR2 := hid (show Rch (chain (fS l i (k + 1)) n) [(i : Int)] k from .step k i (.base i (by simp) (chain_ids.2 (by omega))) (by
                    rw [chain_nd (by omega) HIN.out, fS_self]
                    exact part_mem.2 ⟨by omega, by omega, by rw [Int.toNat_natCast]; exact HB.out⟩) (chain_ids.2 (by omega)))
                  have HN2 := hid hN
                  clear hN hdn HN HNR hO6 hK6 HO HK h4 h5
                  try dsimp only
                  go_wp2_with fail
                  refine HN2.out.mono ?_
                  rintro e w7 ⟨r, rfl, h4, -, ⟨E', h5, -, hO7⟩, hK7⟩
                  obtain rfl := h4 HNR2.out
                  obtain rfl := h5 HNR2.out
                  have HO7 := hid hO7.p1
                  have HK7 := hid (HK6.out.trans hK7)
                  clear h4 h5 hO7 hK7 HN2 HNR2 HO6 HK6
                  try dsimp only
                  go_wp2_with fail
                  exact ⟨⟨k + 1, by omega, by have := HLT.out; omega, by go_num, HO7, HK7⟩, by have := HLT.out; simp [intOf]; omega⟩
              · obtain rfl : k = i := by omega
                have hkk : ¬ (k : Int) < (k : Int) := by omega
                have HO8 := hid (show Has wr (pt gn (.cells (i8 l) 29) :: Gx g (chain (fS l (k + 1) 1) n) :: [old W]) from by rw [← fS_one]; exact HO.out)
                clear hlt hki HO
                go_wp2_with fail
                exact ⟨⟨k + 1, by omega, by have := HIN.out; omega, by go_num, HO8, HK⟩, by have := HIN.out; simp [intOf]; omega⟩
          · obtain rfl : i = n + 1 := by omega
            have hii : ¬ ((n + 1 : Nat) : Int) ≤ (n : Int) := by omega
            obtain ⟨f, hdn, hfe⟩ := fF_dn l n hml
            have hacy := hdn.acy n
            have hndl := hdn.nd n
            rw [← hfe] at hacy hndl
            rw [fS_end] at HO
            have HN := hid (chain_nodup (fF l) n)
            have hmem : ∀ x ∈ clo (chain (fF l) n) is, 1 ≤ x ∧ x ≤ n := fun x hx => chain_ids.1 ((clo_mem _ _ x).1 hx).there
            have hLI : LI (chain (fF l) n) (clo (chain (fF l) n) is) [] := ⟨fun x hx => ((clo_mem _ is x).1 hx).there, fun x hx y hy => .inl ((clo_mem _ is y).2 (.step y x ((clo_mem _ is x).1 hx) hy (hacy x ((clo_mem _ is x).1 hx).there y hy).1)), clo_nodup _ is HN.out, by simp⟩
            have HLV := hid (levF_ok hacy _ _ _ hLI (Nat.le_refl _))
            have HCM := hid (fun x => clo_mem (chain (fF l) n) is x)
            have HXL := hid (xLevels g (chain (fF l) n) Int.toNat (.slice vp2 is.length vc2) is (wr.alloc (.cells (i8 (List.replicate 21 0)) 29)) (pt wr.heap.size (.cells (i8 (List.replicate 21 0)) 29) :: pt gn (.cells (i8 l) 29) :: [old W]) hacy HOK.out (by omega) (by rw [chain_len]; omega) hndl ((HR2.out.cellsOld HO.out.p2.old_look).alloc _) ((HO.out.alloc _).re 3 [2, 0, 1]))
            have HXC := hid (fun (w : World) (L : List HP) (hr : Rd w (.slice vp2 is.length vc2) 1 is.length (ic is)) (hO : Has w (Gx g (chain (fF l) n) :: L)) => xClosure g (chain (fF l) n) (.slice vp2 is.length vc2) is w L HOK.out (by omega) (by rw [chain_len]; omega) hndl hr hO)
            have HMB := hid hmem
            have HCL := hid (show (clo (chain (fF l) n) is).length ≤ 20 from by
              have h1 := nodup_len (clo_nodup _ is HN.out) fun x hx => ((clo_mem _ is x).1 hx).there
              have h2 : (ids (chain (fF l) n)).length = n := by simp [ids, chain]
              omega)
            clear hlt hin hi1 hLI hacy hndl hdn hfe hmem HO
            generalize hcs : clo (chain (fF l) n) is = cs at *
            clear hcs
            go_wp2_with fail
            refine HXL.out.mono ?_
            rintro e w6 ⟨v6, B, rfl, hB, hO6, hK6⟩
            rw [← hB] at HLV
            have HO6 := hid (hO6.re 4 [2, 3, 1, 0])
            have HK6 := hid ((HK.out.alloc _).trans hK6)
            obtain ⟨p6, c6, e6⟩ := Ll.val hO6
            subst e6
            generalize wr.heap.size = gl at *
            clear hO6 hK6 HXL HK hB
            try dsimp only
            go_wp2_with fail
            go_loopw [15, 14] (fun i c w => ∃ (q : Nat) (a : List Int), q ≤ B.length ∧ i = .int .i64 q ∧ c = .int .i64 ((((B.map Prod.snd).take q).map List.length).sum : Nat) ∧ Hid (Fl (B.map Prod.snd) q 0 a) ∧ Hid (Has w (pt gl (.cells (i8 a) 29) :: pt gn (.cells (i8 l) 29) :: Gx g (chain (fF l) n) :: Ll (.slice p6 B.length c6) B :: [old W])) ∧ Hid (Keep W w)) (fun i _ _ => B.length - (intOf i).toNat)
            case atStart => exact ⟨0, _, by omega, rfl, rfl, hid (Fl.start _), HO6, HK6⟩
            case round =>
              clear HO6 HK6
              obtain ⟨q, a, hq, rfl, rfl, HF, HO, HK⟩ := hrel
              have HSL := hid (show (((B.map Prod.snd).take q).map List.length).sum ≤ 20 from by
                have h1 := sum_le (rows := B.map Prod.snd) q
                have h2 := HLV.out.sum
                have h3 := HCL.out
                omega)
              by_cases hlt : q < B.length
              · have hqi : (q : Int) < (B.length : Int) := by omega
                have hq0 : (0 : Int) ≤ (q : Int) := by omega
                obtain ⟨row, hrow⟩ : ∃ row, (B.map Prod.snd)[q]? = some row := ⟨_, by rw [List.getElem?_map, List.getElem?_eq_getElem hlt]; rfl⟩
                have HRW := hid hrow
                have HQ := hid hlt
                have HSR := hid (show (((B.map Prod.snd).take q).map List.length).sum + row.length ≤ 20 from by
                  have h1 := sum_le (rows := B.map Prod.snd) (q + 1)
                  rw [sum_take hrow] at h1
                  have h2 := HLV.out.sum
                  have h3 := HCL.out
                  omega)
                have HSN := hid (sum_take hrow)
                clear hlt hrow hq
                generalize hss : (((B.map Prod.snd).take q).map List.length).sum = ss at *
                have HSS := hid hss
                clear hss
                go_wp2_with fail
                go_loopw [16, 14] (fun j c w => ∃ (k : Nat) (a : List Int), k ≤ row.length ∧ j = .int .i64 k ∧ c = .int .i64 ((ss + k : Nat) : Int) ∧ Hid (Fl (B.map Prod.snd) q k a) ∧ Hid (Has w (pt gl (.cells (i8 a) 29) :: pt gn (.cells (i8 l) 29) :: Gx g (chain (fF l) n) :: Ll (.slice p6 B.length c6) B :: [old W])) ∧ Hid (Keep W w)) (fun j _ _ => row.length - (intOf j).toNat)
                case atStart => exact ⟨0, a, by omega, rfl, rfl, HF, HO, HK⟩
                case round =>
                  clear HF HO HK
                  clear a
                  obtain ⟨k, a, hk, rfl, rfl, HF, HO, HK⟩ := hrel
                  obtain ⟨gb, ob, rfl, pr, cr, hcr, hrl, hcx⟩ := Ll.at2 HO.out.p3 HRW.out
                  have hk0 : (0 : Int) ≤ (k : Int) := by omega
                  by_cases hlt : k < row.length
                  · have hki : (k : Int) < (row.length : Int) := by omega
                    have hk3 : (k : Int) ≤ 1000 := by have := HSR.out; omega
                    have hs3 : ((ss + k : Nat) : Int) ≤ 1000 := by have := HSR.out; omega
                    have hs0 : (0 : Int) ≤ ((ss + k : Nat) : Int) := by omega
                    have hq3 : (q : Int) ≤ 1000 := by
                      have h1 := rows_len HLV.out.full
                      have h2 := HLV.out.sum
                      have h3 := HCL.out
                      have h4 := HQ.out
                      rw [List.length_map] at h1
                      omega
                    obtain ⟨x, hx⟩ : ∃ x, row[k]? = some x := ⟨_, List.getElem?_eq_getElem hlt⟩
                    obtain ⟨gr, or, rfl, hce⟩ := hcx k x hx
                    have hxb := HMB.out x (HLV.out.sub q row HRW.out x (List.mem_of_getElem? hx))
                    obtain ⟨y, hy⟩ : ∃ y : Nat, x = (y : Int) := ⟨x.toNat, by omega⟩
                    subst hy
                    obtain ⟨ha0, hF2⟩ := HF.out.step HLV.out HRW.out hx (fun z hz => by have := HMB.out z hz; omega)
                    rw [Int.toNat_natCast] at ha0 hF2
                    have hal : wr.cell? ⟨gl, y, none⟩ = some (.int .i64 0) := by
                      rw [HO.out.cells y, ← ha0]; exact i8_at a y (by rw [HF.out.len]; omega)
                    have ht := HO.out.thaw
                    have HO2 := hid (HO.out.set y (.int .i64 ((q : Int) + 1)))
                    rw [i8_set] at HO2
                    have HK2 := hid (HK.out.set ⟨gl, y, none⟩ (.int .i64 ((q : Int) + 1)))
                    have HF2 := hid hF2
                    have HLT := hid hlt
                    have hy1 : ¬ (y : Int) < 1 := by omega
                    have hy2 : ¬ (n : Int) < (y : Int) := by omega
                    have hy3 : (y : Int) < 21 := by omega
                    have hy0 : (0 : Int) ≤ (y : Int) := by omega
                    clear ha0 hF2 hx hcx hlt hk HF HO HK hxb
                    go_wp2_with fail
                    exact ⟨⟨k + 1, _, by have := HLT.out; omega, by go_num, by go_num, HF2, HO2, HK2⟩, by have := HLT.out; simp [intOf]; omega⟩
                  · obtain rfl : k = row.length := by omega
                    have hki : ¬ (row.length : Int) < (row.length : Int) := by omega
                    have HF2 := hid (HF.out.next HRW.out)
                    have hs3 : ((ss + row.length : Nat) : Int) ≤ 1000 := by have := HSR.out; omega
                    have hq3 : (q : Int) ≤ 1000 := by
                      have h1 := rows_len HLV.out.full
                      have h2 := HLV.out.sum
                      have h3 := HCL.out
                      have h4 := HQ.out
                      rw [List.length_map] at h1
                      omega
                    clear hlt hk HF hcx
                    go_wp2_with fail
                    exact ⟨⟨q + 1, a, by have := HQ.out; omega, by go_num, by rw [HSN.out], HF2, HO, HK⟩, by have := HQ.out; simp [intOf]; omega⟩
              · obtain rfl : q = B.length := by omega
                have hqi : ¬ (B.length : Int) < (B.length : Int) := by omega
                have HFI := hid (show Fini (B.map Prod.snd) cs a from by
                  have h := HF.out
                  have e : B.length = (B.map Prod.snd).length := by simp
                  rw [e] at h
                  exact h.fin)
                have HCN := hid (show (((B.map Prod.snd).take B.length).map List.length).sum = cs.length from by
                  rw [List.take_of_length_le (by simp)]
                  exact HLV.out.sum)
                rw [HCN.out]
                clear hlt hq HF HSL HCN
                go_wp2_with fail
                go_loopw [18] (fun i w => ∃ k : Nat, 1 ≤ k ∧ k ≤ n + 1 ∧ i = .int .i64 k ∧ Hid (Has w (pt gl (.cells (i8 a) 29) :: pt gn (.cells (i8 l) 29) :: Gx g (chain (fF l) n) :: Ll (.slice p6 B.length c6) B :: [old W])) ∧ Hid (Keep W w)) (fun i _ => n + 1 - (intOf i).toNat)
                case atStart => exact ⟨1, by omega, by omega, rfl, HO, HK⟩
                case round =>
                  clear HO HK
                  obtain ⟨i, hi1, hin, rfl, HO, HK⟩ := hrel
                  by_cases hlt : i ≤ n
                  · have hii : (i : Int) ≤ (n : Int) := by omega
                    have hi0 : (0 : Int) ≤ (i : Int) := by omega
                    have hi21 : (i : Int) < 21 := by omega
                    have HIN := hid hlt
                    have HI1 := hid hi1
                    have HAN := hid (HFI.out.nonneg i)
                    clear hlt hin hi1
                    go_wp2_with fail
                    go_loopw [20, 19] (fun j mo w => ∃ (k : Nat) (m : Int), 1 ≤ k ∧ k ≤ i ∧ j = .int .i64 k ∧ mo = .int .i64 m ∧ Hid (0 ≤ m ∧ m ≤ 100 ∧ (0 < a.getD i 0 → m ≤ a.getD i 0 - 1) ∧ ∀ j, 1 ≤ j → j < k → bt l i j = true → a.getD j 0 ≤ m) ∧ Hid (Has w (pt gl (.cells (i8 a) 29) :: pt gn (.cells (i8 l) 29) :: Gx g (chain (fF l) n) :: Ll (.slice p6 B.length c6) B :: [old W])) ∧ Hid (Keep W w)) (fun j _ _ => i - (intOf j).toNat)
                    case atStart => exact ⟨1, 0, by omega, HI1.out, rfl, rfl, hid ⟨by omega, by omega, fun h => by omega, fun j h1 h2 => by omega⟩, HO, HK⟩
                    case round =>
                      clear HO HK
                      obtain ⟨k, m, hk1, hki, rfl, rfl, HMM, HO, HK⟩ := hrel
                      have hk0 : (0 : Int) ≤ (k : Int) := by omega
                      have hai : wr.cell? ⟨gl, i, none⟩ = some (.int .i64 (a.getD i 0)) := by rw [HO.out.cells i]; exact i8_at a i (by rw [HFI.out.len]; omega)
                      have HAX := hid (rfl : a.getD i 0 = a.getD i 0)
                      generalize hax : a.getD i 0 = ai at hai
                      have HAI := hid hax
                      have HM1 := hid (show 0 < ai → m ≤ ai - 1 by rw [← hax]; exact HMM.out.2.2.1)
                      clear hax HAX
                      by_cases hlt : k < i
                      · have hkk : (k : Int) < (i : Int) := by omega
                        have hk21 : (k : Int) < 21 := by omega
                        have HLT := hid hlt
                        have HK1 := hid hk1
                        clear hlt hki hk1
                        by_cases hpos : 0 < ai
                        · have hxc : wr.cell? ⟨gn, i, none⟩ = some (.int .i64 (l.getD i 0)) := by rw [HO.out.p1.cells i]; exact i8_at l i (by rw [HL.out]; omega)
                          generalize hxx : l.getD i 0 = x at hxc
                          have HXX := hid hxx
                          clear hxx
                          rcases hb : (bits BinOp.and IntKind.i64 (x / 2 ^ k) 1 == 1) with _ | _
                          · have HB := hid (show bt l i k = false by unfold bt bitW; rw [HXX.out]; exact hb)
                            go_wp2_with fail
                            exact ⟨⟨k + 1, m, by omega, by have := HLT.out; omega, by go_num, rfl, hid ⟨HMM.out.1, HMM.out.2.1, HM1.out, fun j h1 h2 h3 => by
                              by_cases e : j = k
                              · subst e; rw [HB.out] at h3; cases h3
                              · exact HMM.out.2.2.2 j h1 (by omega) h3⟩, HO, HK⟩, by have := HLT.out; simp [intOf]; omega⟩
                          · have HB := hid (show bt l i k = true by unfold bt bitW; rw [HXX.out]; exact hb)
                            have hlow := HFI.out.lower HLV.out (i := i) (k := k) (by rw [HAI.out]; exact hpos) (by
                              rw [chain_nd (by have := HI1.out; omega) HIN.out]
                              exact part_mem.2 ⟨by have := HK1.out; omega, by have := HLT.out; omega, by rw [Int.toNat_natCast]; exact HB.out⟩)
                            rw [HAI.out] at hlow
                            have hak : wr.cell? ⟨gl, k, none⟩ = some (.int .i64 (a.getD k 0)) := by rw [HO.out.cells k]; exact i8_at a k (by rw [HFI.out.len]; have := HLT.out; omega)
                            generalize hax : a.getD k 0 = ak at hak hlow
                            have HAK := hid hax
                            obtain ⟨hl1, hl2⟩ := hlow
                            have hl3 : ¬ ak = 0 := by omega
                            have hl4 : ¬ ai ≤ ak := by omega
                            have HLO := hid (And.intro hl1 hl2)
                            clear hax
                            go_wp2_with fail
                            have HMX := hid (show max m ak ≤ 100 ∧ 0 ≤ max m ak ∧ max m ak ≤ ai - 1 ∧ m ≤ max m ak ∧ ak ≤ max m ak from by
                              have h1 := HMM.out.2.1
                              have h2 := HM1.out hpos
                              have h3 := HFI.out.no i
                              have h4 := HAI.out
                              have h5 := rows_len HLV.out.full
                              have h6 := HLV.out.sum
                              have h7 := HCL.out
                              have h8 : ai ≤ 21 := by
                                rcases h3 with h3 | ⟨q, row, h8, -, h9⟩
                                · omega
                                · have := (List.getElem?_eq_some_iff.1 h8).1
                                  omega
                              omega)
                            go_quiet (fail)
                            go_wp2_with fail
                            · rename_i hx
                              exfalso
                              rcases hx with hx | hx
                              · rw [beq_iff_eq] at hx; exact hl3 hx
                              · omega
                            exact ⟨⟨k + 1, max m ak, by omega, by have := HLT.out; omega, by go_num, rfl, hid ⟨HMX.out.2.1, HMX.out.1, fun _ => HMX.out.2.2.1, fun j h1 h2 h3 => by
                              by_cases e : j = k
                              · subst e; rw [HAK.out]; exact HMX.out.2.2.2.2
                              · exact Int.le_trans (HMM.out.2.2.2 j h1 (by omega) h3) HMX.out.2.2.2.1⟩, hid (HO.out.drewN _), hid (HK.out.drewN _)⟩, by have := HLT.out; simp [intOf]; omega⟩
                        · have hp3 : ai = 0 := by have := HAN.out; rw [HAI.out] at this; omega
                          subst hp3
                          clear hpos
                          go_wp2_with fail
                          exact ⟨⟨i + 1, by omega, by have := HIN.out; omega, by go_num, HO, HK⟩, by have := HIN.out; simp [intOf]; omega⟩
                      · obtain rfl : k = i := by omega
                        have hkk : ¬ (k : Int) < (k : Int) := by omega
                        clear hlt hki
                        by_cases hpos : 0 < ai
                        · have hm1 : ai = m + 1 := by
                            have h := HFI.out.most HLV.out (i := k) (m := m) (by rw [HAI.out]; exact hpos) HMM.out.1 (by rw [HAI.out]; exact HM1.out hpos) (fun y hy => by
                              rw [chain_nd (by have := HI1.out; omega) HIN.out] at hy
                              have h1 := part_mem.1 hy
                              exact HMM.out.2.2.2 y.toNat (by omega) (by omega) h1.2.2)
                            rw [HAI.out] at h
                            exact h
                          have hm0 : m ≤ 100 := HMM.out.2.1
                          have hm2 : 0 ≤ m := HMM.out.1
                          have HM1 := 0
                          have HAN := 0
                          subst hm1
                          clear hkk
                          go_wp2_with fail
                          exact ⟨⟨k + 1, by omega, by have := HIN.out; omega, by go_num, HO, HK⟩, by have := HIN.out; simp [intOf]; omega⟩
                        · have hp3 : ai = 0 := by have := HAN.out; rw [HAI.out] at this; omega
                          subst hp3
                          clear hpos
                          go_wp2_with fail
                          exact ⟨⟨k + 1, by omega, by have := HIN.out; omega, by go_num, HO, HK⟩, by have := HIN.out; simp [intOf]; omega⟩
                  · obtain rfl : i = n + 1 := by omega
                    have hii : ¬ ((n + 1 : Nat) : Int) ≤ (n : Int) := by omega
                    clear hlt hin hi1
                    go_wp2_with fail
                    go_loopw [21] (fun i w => ∃ k : Nat, k ≤ is.length ∧ i = .int .i64 k ∧ Hid (Has w (pt gl (.cells (i8 a) 29) :: pt gn (.cells (i8 l) 29) :: Gx g (chain (fF l) n) :: Ll (.slice p6 B.length c6) B :: [old W])) ∧ Hid (Keep W w)) (fun i _ => is.length - (intOf i).toNat)
                    case atStart => exact ⟨0, by omega, rfl, HO, HK⟩
                    case round =>
                      clear HO HK
                      obtain ⟨k, hk, rfl, HO, HK⟩ := hrel
                      by_cases hlt : k < is.length
                      · have hki : (k : Int) < (is.length : Int) := by omega
                        have hk0 : (0 : Int) ≤ (k : Int) := by omega
                        have HLT := hid hlt
                        have HRR := hid (HR2.out.cellsOld HO.out.p4.old_look)
                        obtain ⟨p0, c0, e0, -, -, hcx0⟩ := HRR.out.form
                        simp only [Value.slice.injEq] at e0
                        obtain ⟨rfl, -, rfl⟩ := e0
                        obtain ⟨gx, ox, rfl, hcx1⟩ := hcx0 (by omega)
                        have hc := hcx1 k (by omega)
                        rw [ic_at is k hlt] at hc
                        have HIM := hid (show is[k] ∈ is from List.getElem_mem hlt)
                        generalize is[k] = x at *
                        clear hcx0 hcx1 hk
                        by_cases hx1 : 1 ≤ x
                        · by_cases hxn : x ≤ n
                          · obtain ⟨y, hy⟩ : ∃ y : Nat, x = (y : Int) := ⟨x.toNat, by omega⟩
                            subst hy
                            have hcx := (HCM.out y).2 (.base _ HIM.out (chain_ids.2 ⟨hx1, hxn⟩))
                            have hpos := HFI.out.pos HLV.out hcx
                            rw [Int.toNat_natCast] at hpos
                            have hal : wr.cell? ⟨gl, y, none⟩ = some (.int .i64 (a.getD y 0)) := by rw [HO.out.cells y]; exact i8_at a y (by rw [HFI.out.len]; omega)
                            generalize a.getD y 0 = ay at hal hpos
                            have hp3 : ¬ ay = 0 := by omega
                            have hy0 : (0 : Int) ≤ (y : Int) := by omega
                            have hy3 : (y : Int) < 21 := by omega
                            clear hlt
                            go_wp2_with fail
                            exact ⟨⟨k + 1, by have := HLT.out; omega, by go_num, HO, HK⟩, by have := HLT.out; simp [intOf]; omega⟩
                          · clear hlt
                            go_wp2_with fail
                            exact ⟨⟨k + 1, by have := HLT.out; omega, by go_num, HO, HK⟩, by have := HLT.out; simp [intOf]; omega⟩
                        · clear hlt
                          go_wp2_with fail
                          exact ⟨⟨k + 1, by have := HLT.out; omega, by go_num, HO, HK⟩, by have := HLT.out; simp [intOf]; omega⟩
                      · obtain rfl : k = is.length := by omega
                        have hki : ¬ (is.length : Int) < (is.length : Int) := by omega
                        clear hlt hk
                        have HY := hid (HXC.out wr _ (HR2.out.cellsOld HO.out.p4.old_look) (HO.out.re 3 [2, 0, 1]))
                        go_wp2_with fail
                        refine HY.out.mono ?_
                        rintro e w8 ⟨v8, rfl, hO8, hK8⟩
                        have HO8 := hid hO8
                        have HK8 := hid (HK.out.trans hK8)
                        obtain ⟨p8, c8, rfl⟩ : ∃ p8 c8, v8 = .slice p8 cs.length c8 := by
                          obtain ⟨p8, c8, e8, -⟩ := (Ints.rd hO8).form
                          exact ⟨p8, c8, e8⟩
                        clear hO8 hK8 HO HK HY
                        try dsimp only
                        have HZ := hid (awake17 w8 _ HO8.out)
                        go_wp2_with fail
                        refine HZ.out.mono ?_
                        rintro e w9 ⟨rfl, hO9, hK9⟩
                        have HO9 := hid hO9
                        have HK9 := hid (HK8.out.trans hK9)
                        clear hO9 hK9 HZ HO8 HK8
                        try dsimp only
                        go_wp2_with fail
                        go_ret
                        exact ⟨rfl, HO9.out.p5.below HK9.out.os HK9.out.tape HK9.out.output⟩
end Go.Proofs.Ytajnhggcaiakeaa
/- HOW ARGUMENTS ARE OPENED: from the form's reading to cells. No program in sight. -/
namespace Go.Own
open Go.ChangeShapes Go.WideShapes Go.ChangeAt Go.RowKit
theorem flat_len (n size : Nat) (C : Nat → List Value) (h : ∀ i, i < n → (C i).length = size) : ((List.range n).flatMap C).length = n * size := by
  induction n with
  | zero => simp
  | succ n ih =>
    rw [List.range_succ, List.flatMap_append, List.length_append, ih fun i hi => h i (by omega)]
    simp [h n (by omega), Nat.succ_mul]
theorem flat_drop (n size : Nat) (C : Nat → List Value) (h : ∀ i, i < n → (C i).length = size) (i : Nat) (hi : i < n) :
    ∃ R, ((List.range n).flatMap C).drop (i * size) = C i ++ R := by
  induction n with
  | zero => omega
  | succ n ih =>
    rw [List.range_succ, List.flatMap_append]
    have hl := flat_len n size C fun i hi => h i (by omega)
    by_cases hin : i = n
    · subst hin
      refine ⟨[], ?_⟩
      rw [List.drop_append_of_le_length (by rw [hl]; exact Nat.le_refl _), List.drop_of_length_le (by rw [hl]; exact Nat.le_refl _)]
      simp
    · obtain ⟨R, hR⟩ := ih (fun i hi => h i (by omega)) (by omega)
      refine ⟨R ++ [n].flatMap C, ?_⟩
      rw [List.drop_append_of_le_length (by rw [hl]; exact Nat.mul_le_mul_right _ (by omega)), hR, List.append_assoc]
theorem flat_slice (n size : Nat) (C : Nat → List Value) (h : ∀ i, i < n → (C i).length = size) (i : Nat) (hi : i < n) :
    (((List.range n).flatMap C).drop (i * size)).take size = C i := by
  obtain ⟨R, hR⟩ := flat_drop n size C h i hi
  rw [hR, ← h i hi, List.take_left]
theorem flat_at (n size : Nat) (C : Nat → List Value) (h : ∀ i, i < n → (C i).length = size) (i : Nat) (hi : i < n) (j : Nat) (hj : j < size) :
    (C i)[j]? = ((List.range n).flatMap C)[i * size + j]? := by
  rw [← flat_slice n size C h i hi, List.getElem?_take, if_pos hj, List.getElem?_drop]
theorem cells?_parts {w : World} {b : Nat} {a : Addr} {n : Nat} {cs : List Value} (h : w.cells? b a n = some cs) : cs.length = n ∧ ∀ j, j < n → w.cell? (a.add j) = cs[j]? := by
  unfold World.cells? at h
  split at h
  · have : ∀ (l : List Nat) (cs : List Value), (l.mapM fun i => w.cell? (a.add i)) = some cs → cs.length = l.length ∧ ∀ (j i : Nat), l[j]? = some i → w.cell? (a.add i) = cs[j]? := by
      intro l
      induction l with
      | nil => intro cs h; simp at h; subst h; simp
      | cons x l ih =>
        intro cs h
        simp only [List.mapM_cons, Option.pure_def, Option.bind_eq_bind] at h
        obtain ⟨y, hy, h⟩ := Option.bind_eq_some_iff.1 h
        obtain ⟨ys, hys, h⟩ := Option.bind_eq_some_iff.1 h
        cases h
        obtain ⟨h1, h2⟩ := ih ys hys
        refine ⟨by simp [h1], fun j i hj => ?_⟩
        cases j with
        | zero => simp at hj; subst hj; simpa using hy
        | succ j => simpa using h2 j i (by simpa using hj)
    obtain ⟨h1, h2⟩ := this _ _ h
    refine ⟨by simpa using h1, fun j hj => h2 j j (by simp [hj])⟩
  · cases h
section
variable {H : Type} {enc : TypeId × Value → H} {P : Program} {W : World} {base : Nat} {spare : Nat → Bool} {held : Bool}
/-- A slice of elements of whatever type: its cells in a list, each element's own cells read on. -/
theorem open_rd {t e size : Nat} {v : Value} {d : DataW H} {ps : List MemPlace} {r : Reach} {b0 : Nat} (ht : P.underlying t = some (.slice e)) (hc : P.cellsOf e = size) (hv : Value.okWide P W r b0 t v)
    (h : DataW.Trod enc P W base spare held t v d ps) :
    ∃ (n fuel : Nat) (xs : List Value), Rd W v size n xs ∧ ∀ i, i < n → ∃ x, DataW.trod enc P W base spare held fuel e ((xs.drop (i * size)).take size) = some x := by
  obtain ⟨p, len, cap, rfl⟩ := okWide_slice ht hv
  obtain ⟨fuel, hf⟩ := h
  rcases Deep.open_slice ht hf with ⟨hcs, _⟩ | ⟨a, len', cap', m, n, D, Pl, hcs, hb, hl, hm, hmm, hx, hel⟩
  · simp [Value.cells] at hcs
    obtain ⟨rfl, rfl, rfl⟩ := hcs
    exact ⟨0, 0, [], ⟨by simp, Nat.zero_le _, none, 0, rfl, Nat.le_refl _, fun h => absurd h (by simp)⟩, fun i hi => absurd hi (by simp)⟩
  · simp [Value.cells] at hcs
    obtain ⟨rfl, rfl, rfl⟩ := hcs
    rw [hc] at hel
    have hlm : len ≤ m := by rw [hmm]; split <;> omega
    obtain ⟨C, hC⟩ := Deep.choose_lt (α := List Value) (p := fun i cs' => W.cells? base (a.add (i * size)) size = some cs' ∧ DataW.trod enc P W base spare held n e cs' = some (D i, Pl i)) (fun i hi => hel i (by omega : i < m))
    have hlen : ∀ i, i < len → (C i).length = size ∧ ∀ j, j < size → W.cell? ((a.add (i * size)).add j) = (C i)[j]? := fun i hi => cells?_parts (hC i (by omega)).1
    refine ⟨len, n, (List.range len).flatMap C, ⟨flat_len len size C fun i hi => (hlen i hi).1, by omega, some a, cap, rfl, hl, fun hp => ?_⟩, fun i hi => ⟨(D i, Pl i), ?_⟩⟩
    · have hs : 0 < size := Nat.pos_of_mul_pos_left hp
      have hl0 : 0 < len := Nat.pos_of_mul_pos_right hp
      have h0 := (hlen 0 hl0).2 0 hs
      have ha : a = ⟨a.block, a.off, none⟩ := by
        refine cell_plain (w := W) (u := (C 0)[0]'(by rw [(hlen 0 hl0).1]; exact hs)) ?_
        rw [List.getElem?_eq_getElem (by rw [(hlen 0 hl0).1]; exact hs)] at h0
        simpa [Addr.add] using h0
      refine ⟨a.block, a.off, by rw [← ha], fun j hj => ?_⟩
      have hq : j / size < len := (Nat.div_lt_iff_lt_mul hs).2 hj
      have hr : j % size < size := Nat.mod_lt _ hs
      have h1 := (hlen (j / size) hq).2 (j % size) hr
      rw [Deep.add_add, ha, add_plain] at h1
      have hj' : j / size * size + j % size = j := Nat.div_add_mod' j size
      rw [hj'] at h1
      rw [h1, flat_at len size C (fun i hi => (hlen i hi).1) (j / size) hq (j % size) hr, hj']
    · rw [flat_slice len size C (fun i hi => (hlen i hi).1) i hi]
      exact (hC i (by omega)).2
/-- A slice of ints. -/
theorem open_rd_ints {t e : Nat} {v : Value} {d : DataW H} {ps : List MemPlace} {r : Reach} {b0 : Nat} (ht : P.underlying t = some (.slice e)) (he : P.underlying e = some (.int .i64)) (hc : P.cellsOf e = 1) (hv : Value.okWide P W r b0 t v)
    (h : DataW.Trod enc P W base spare held t v d ps) : ∃ xs : List Int, Rd W v 1 xs.length (ic xs) := by
  obtain ⟨n, fuel, xs, hr, hx⟩ := open_rd ht hc hv h
  have hl : xs.length = n := by simpa using hr.1
  have hall : ∀ (l : List Value), (∀ i (hi : i < l.length), ∃ k, l[i]? = some (.int .i64 k)) → ∃ zs : List Int, l = ic zs := by
    intro l
    induction l with
    | nil => intro _; exact ⟨[], rfl⟩
    | cons y l ih =>
      intro hl
      obtain ⟨k, hk⟩ := hl 0 (by simp)
      obtain ⟨zs, hz⟩ := ih fun i hi => by obtain ⟨k, h⟩ := hl (i + 1) (by simp; omega); exact ⟨k, by simpa using h⟩
      exact ⟨k :: zs, by simp at hk; simp [ic, hk]; exact hz⟩
  obtain ⟨zs, hz⟩ := hall xs fun i hi => by
    obtain ⟨x, hx⟩ := hx i (by omega)
    rw [Nat.mul_one] at hx
    obtain ⟨k, hk, -⟩ := DataW.trod_int he hx
    refine ⟨k, ?_⟩
    have := congrArg (fun l : List Value => l[0]?) hk
    simpa using this
  subst hz
  refine ⟨zs, ?_⟩
  rw [ic_len] at hl
  rw [hl]; exact hr
/-- A struct's field, read on. -/
theorem open_field {t fuel : Nat} {cs : List Value} {x : DataW H × List MemPlace} {fs : Array Field} (ht : P.underlying t = some (.struct fs)) (h : DataW.trod enc P W base spare held fuel t cs = some x)
    (i : Nat) (f : Field) (hf : fs[i]? = some f) : ∃ m y, DataW.trod enc P W base spare held m f.type ((cs.drop f.offset).take (P.cellsOf f.type)) = some y := by
  obtain ⟨xs, n, -, -, -, hl, hx⟩ := DataW.trod_struct ht h
  have hi : i < xs.length := by rw [hl]; exact (Array.getElem?_eq_some_iff.1 hf).1
  exact ⟨n, xs[i], by rw [hx i f hf, List.getElem?_eq_getElem hi]⟩
/-- A field that is an int. -/
theorem open_int_field {t fuel : Nat} {cs : List Value} {x : DataW H × List MemPlace} {fs : Array Field} {k : IntKind} (ht : P.underlying t = some (.struct fs)) (h : DataW.trod enc P W base spare held fuel t cs = some x)
    (i : Nat) (f : Field) (hf : fs[i]? = some f) (hk : P.underlying f.type = some (.int k)) (hc : P.cellsOf f.type = 1) : ∃ n, cs[f.offset]? = some (.int k n) ∧ (Lit.int k n).wf = true := by
  obtain ⟨m, y, hy⟩ := open_field ht h i f hf
  rw [hc] at hy
  obtain ⟨n, hn, -, hw⟩ := DataW.trod_int hk hy
  refine ⟨n, ?_, hw⟩
  have := congrArg (fun l : List Value => l[0]?) hn
  simpa using this
end
end Go.Own
