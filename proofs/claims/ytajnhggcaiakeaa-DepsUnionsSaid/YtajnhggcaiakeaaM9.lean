/- TEXTS of mine, merged. -/
import Derived.Test.YtajnhggcaiakeaaM8
import Derived.Test.YtajnhggcaiakeaaM1
import Derived.ProofKit
import Derived.OpenShut
import Derived.ShutString
import Derived.ChangeOld
import Derived.Deep.Slices
/- DepsUnions: the closure of two, and levels as deep as the deepest of theirs. For every input. -/
namespace Go.Proofs.Ytajnhggcaiakeaa
open Go.RowKit Go.Own Go.Maps Go.ChangeMaps Go.Own.Dp
theorem okS2 (n : Nat) (h : n ≤ 1000) : okK (n : Int) := by
  show (Lit.int .i64 (n : Int)).wf = true
  unfold Lit.wf
  rw [Bool.and_eq_true, decide_eq_true_iff, decide_eq_true_iff]
  have h1 : IntKind.min .i64 = -9223372036854775808 := by decide
  have h2 : IntKind.max .i64 = 9223372036854775807 := by decide
  rw [h1, h2]
  omega
theorem uni_add (l : List Int) (n : Nat) : chain (fS l (n + 1) 1) n ++ [(((n + 1 : Nat) : Int), [])] = chain (fS l (n + 1) 1) (n + 1) := by
  rw [chain_snoc, fS_self, part_one]
set_option maxRecDepth 100000 in
set_option maxHeartbeats 16000000 in
theorem uniWalk (many : Int) (v1 : Value) (ws : List Int) (a b : Int) (W : World) (hr1 : Rd W v1 1 ws.length (ic ws)) :
    Calls Try.prog 4 #[.int .i64 many, v1, .int .i64 a, .int .i64 b] W fun e w' => e = .returned (.bool true) ∧ Below W.heap.size W w' := by
  obtain ⟨vp1, vc1, rfl, hvc1, hvl1, -⟩ := hr1.form
  have HR1 := hid hr1
  have HO0 := hid (Has.start W)
  clear hr1
  obtain ⟨m, hm⟩ : ∃ m : Nat, (m : Int) = 1 + low many 14 := ⟨(1 + low many 14).toNat, by have := low_in many 14 (by omega); omega⟩
  have hml : m ≤ 14 := by have := low_in many 14 (by omega); omega
  have hm1 : 1 ≤ m := by have := low_in many 14 (by omega); omega
  have hmb : 1 + low many 14 ≤ 14 ∧ 0 ≤ 1 + low many 14 := by have := low_in many 14 (by omega); omega
  have HM := hid hm
  clear hm
  go_enter Try.func4, Try.ntmps4
  go_wp2_with fail
  refine (lowAny many 14 W (by omega) (by omega)).mono ?_
  rintro e w' ⟨rfl, rfl⟩
  try dsimp only
  go_wp2_with fail
  rw [← HM.out]
  refine (xNew W _ HO0.out).mono ?_
  rintro e w1 ⟨g, rfl, hO1, hK1⟩
  have HO1 := hid hO1
  have HK1 := hid hK1
  clear hO1 hK1 HO0 hmb
  try dsimp only
  go_wp2_with fail
  refine (wantsW m (.slice vp1 ws.length vc1) ws w1 (old W :: [Gx g []]) (by omega) (fun w' h => HR1.out.cellsOld h.old_look) HO1.out.p1).mono ?_
  rintro e w3 ⟨l, hl, rfl, hO3, hK3⟩
  have HO3 := hid hO3.p1
  have HK3 := hid (HK1.out.trans hK3)
  have HL := hid hl
  clear hO3 hK3 HO1 HK1 hl
  try dsimp only
  have HO4 := hid (show Has (w3.alloc (.cells (i8 (List.replicate 21 0)) 29)) (pt w3.heap.size (.cells (i8 (List.replicate 21 0)) 29) :: Gx g [] :: [old W]) from HO3.out.alloc _)
  have HK4 := hid (HK3.out.alloc (.cells (i8 (List.replicate 21 0)) 29))
  clear HO3 HK3
  go_wp2_with (refine wpList_storeAt rfl _ _ _ rfl w3.heap.size 0 (i8 (List.replicate 21 0)) (i8 l) _ HO4.out rfl rfl (by intro w; rw [i8_size, HL.out]; exact Try.sizeOf29 w) (i8_one l) (by rw [i8_size, i8_size, HL.out]; decide) ?_; intro w5 hO5 hK5)
  rw [whole l HL.out] at hO5
  generalize w3.heap.size = gn at *
  have HO5 := hid (show Has w5 (pt gn (.cells (i8 l) 29) :: Gx g (chain (fS l 1 1) 0) :: [old W]) from hO5)
  have HK5 := hid (HK4.out.trans hK5)
  clear hO5 hK5 HO4 HK4
  go_wp2_with fail
  go_loopw [11] (fun i w => ∃ n : Nat, n ≤ m ∧ i = .int .i64 ((n + 1 : Nat) : Int) ∧ Hid (Has w (pt gn (.cells (i8 l) 29) :: Gx g (chain (fS l (n + 1) 1) n) :: [old W])) ∧ Hid (Keep W w)) (fun i _ => m + 1 - (intOf i).toNat)
  case atStart => exact ⟨0, by omega, rfl, HO5, HK5⟩
  case round =>
    clear HO5 HK5
    obtain ⟨n, hn, rfl, HO, HK⟩ := hrel
    by_cases hlt : n < m
    · have hi : ((n + 1 : Nat) : Int) ≤ (m : Int) := by omega
      have hlen := chain_len (fS l (n + 1) 1) n
      have hnot : ((n + 1 : Nat) : Int) ∉ ids (chain (fS l (n + 1) 1) n) := fun h => by have := chain_ids.1 h; omega
      have HA := hid (xAdd g (chain (fS l (n + 1) 1) n) ((n + 1 : Nat) : Int) wr _ (okS2 _ (by omega)) (by omega) hnot (by rw [hlen]; omega) HO.out.p1)
      rw [uni_add] at HA
      clear hlen hnot
      obtain ⟨i, hq⟩ : ∃ i : Nat, i = n + 1 := ⟨_, rfl⟩
      rw [← hq] at HA hi
      rw [← hq]
      have HQ := hid hq
      have hi1 : (1 : Int) ≤ (i : Int) := by omega
      have hi21 : (i : Int) < 21 := by omega
      have HN := hid (And.intro hn hlt)
      clear hq hn hlt
      go_wp2_with fail
      refine HA.out.mono ?_
      rintro e w2 ⟨rfl, hO2, hK2⟩
      have HO2 := hid hO2.p1
      have HK2 := hid (HK.out.trans hK2)
      clear hO2 hK2 HA HO HK
      try dsimp only
      go_wp2_with fail
      go_loopw [12] (fun j w => ∃ k : Nat, 1 ≤ k ∧ k ≤ i ∧ j = .int .i64 k ∧ Hid (Has w (pt gn (.cells (i8 l) 29) :: Gx g (chain (fS l i k) i) :: [old W])) ∧ Hid (Keep W w)) (fun j _ => i - (intOf j).toNat)
      case atStart => exact ⟨1, by omega, by omega, rfl, HO2, HK2⟩
      case round =>
        clear HO2 HK2
        obtain ⟨k, hk1, hki, rfl, HO, HK⟩ := hrel
        by_cases hlt : k < i
        · have hkk : (k : Int) < (i : Int) := by omega
          have hk0 : (1 : Int) ≤ (k : Int) := by omega
          have hk00 : (0 : Int) ≤ (k : Int) := by omega
          have hk21 : (k : Int) < 21 := by omega
          have hcell : wr.cell? ⟨gn, i, none⟩ = some (.int .i64 (l.getD i 0)) := by rw [HO.out.cells i]; exact i8_at l i (by rw [HL.out]; omega)
          have HLT := hid hlt
          have HK1 := hid hk1
          have HX := hid (rfl : l.getD i 0 = l.getD i 0)
          generalize hxx : l.getD i 0 = x at hcell
          have HXX := hid hxx
          clear hlt hki hk1 HX hxx
          rcases hb : (bits BinOp.and IntKind.i64 (x / 2 ^ k) 1 == 1) with _ | _
          · have HB := hid (show bt l i k = false by unfold bt bitW; rw [HXX.out]; exact hb)
            go_wp2_with fail
            exact ⟨⟨k + 1, by omega, by have := HLT.out; omega, by go_num, by rw [fS_no HK1.out HB.out]; exact HO, HK⟩, by have := HLT.out; simp [intOf]; omega⟩
          · have HB := hid (show bt l i k = true by unfold bt bitW; rw [HXX.out]; exact hb)
            have hdn := fS_dn l i k (by have := HLT.out; omega) (by omega)
            have hN := xNeeds g (chain (fS l i k) i) i k wr (pt gn (.cells (i8 l) 29) :: [old W]) (chain_ids.2 (by omega)) (chain_ids.2 (by omega)) (by rw [chain_len]; omega) (hdn.nd i) HO.out.p1
            have HNR := hid (show ¬ Rch (chain (fS l i k) i) [(k : Int)] i from fun hr => by
              have := hdn.below (m := k) (by intro y hy; rw [List.mem_singleton] at hy; omega) hr
              omega)
            have HN := hid hN
            clear hN hdn
            go_wp2_with fail
            refine HN.out.mono ?_
            rintro e w6 ⟨r, rfl, -, h4, ⟨E', -, h5, hO6⟩, hK6⟩
            obtain rfl := h4 HNR.out
            obtain rfl := h5 HNR.out
            rw [fS_yes HK1.out HLT.out HB.out] at hO6
            have HO6 := hid hO6.p1
            have HK6 := hid (HK.out.trans hK6)
            clear hO6 hK6 HO HK HN h4 h5
            try dsimp only
            go_wp2_with fail
            exact ⟨⟨k + 1, by omega, by have := HLT.out; omega, by go_num, HO6, HK6⟩, by have := HLT.out; simp [intOf]; omega⟩
        · obtain rfl : k = i := by omega
          have hkk : ¬ (k : Int) < (k : Int) := by omega
          have HO8 := hid (show Has wr (pt gn (.cells (i8 l) 29) :: Gx g (chain (fS l (k + 1) 1) k) :: [old W]) from by rw [← fS_one]; exact HO.out)
          clear hlt hki HO
          go_wp2_with fail
          have h9 := HQ.out
          subst h9
          exact ⟨⟨n + 1, by have := HN.out; omega, by go_num, HO8, HK⟩, by have := HN.out; simp [intOf]; omega⟩
    · obtain rfl : n = m := by omega
      have hi : ¬ ((n + 1 : Nat) : Int) ≤ (n : Int) := by omega
      clear hlt hn
      rw [fS_end] at HO
      obtain ⟨f, hdn, hfe⟩ := fF_dn l n (by omega)
      have hacy := hdn.acy n
      have hndl := hdn.nd n
      rw [← hfe] at hacy hndl
      have hids : ∀ x, x ∈ ids (chain (fF l) n) ↔ 1 ≤ x ∧ x ≤ n := fun x => chain_ids
      have HN := hid (chain_nodup (fF l) n)
      have HCL := hid (chain_len (fF l) n)
      have HIDS := hid hids
      have HACY := hid hacy
      have HND := hid hndl
      clear hfe hdn hacy hndl hids
      generalize chain (fF l) n = E at *
      have HLO := hid (show sorted (ids E) = sorted (ids E) from rfl)
      have HXC := hid (fun (w : World) (v : Value) (is : List Int) (L : List HP) (h1 : ∀ x ∈ is, 1 ≤ x ∧ x ≤ n) (hl : is.length ≤ 10) (hr : Rd w v 1 is.length (ic is)) (hO : Has w (Gx g E :: L)) => xClosure g E v is w L (fun x hx => by
        have := h1 x hx
        have h2 := okS2 x.toNat (by omega)
        rwa [show ((x.toNat : Nat) : Int) = x by omega] at h2) (by omega) (by rw [HCL.out]; omega) HND.out hr hO)
      have HXL := hid (fun (w : World) (v : Value) (is : List Int) (L : List HP) (h1 : ∀ x ∈ is, 1 ≤ x ∧ x ≤ n) (hl : is.length ≤ 10) (hr : Rd w v 1 is.length (ic is)) (hO : Has w (Gx g E :: L)) => xLevels g E Int.toNat v is w L HACY.out (fun x hx => by
        have := h1 x hx
        have h2 := okS2 x.toNat (by omega)
        rwa [show ((x.toNat : Nat) : Int) = x by omega] at h2) (by omega) (by rw [HCL.out]; omega) HND.out hr hO)
      have hab := low_in a n (by omega)
      have hbb := low_in b n (by omega)
      have hab2 : 1 + low a n ≤ 1000 := by omega
      have hbb2 : 1 + low b n ≤ 1000 := by omega
      go_wp2_with fail
      refine (lowAny a n wr (by omega) (by omega)).mono ?_
      rintro e w' ⟨rfl, rfl⟩
      try dsimp only
      go_wp2_with fail
      go_wp2_with fail
      refine (lowAny b n wr (by omega) (by omega)).mono ?_
      rintro e w' ⟨rfl, rfl⟩
      try dsimp only
      generalize hxa : 1 + low a n = xa
      generalize hxb : 1 + low b n = xb
      have HXA := hid (show 1 ≤ xa ∧ xa ≤ n by omega)
      have HXB := hid (show 1 ≤ xb ∧ xb ≤ n by omega)
      have hxa1 : 1 ≤ xa := by omega
      have hxb1 : 1 ≤ xb := by omega
      clear hab hbb
      have hsz : (wr.alloc (.cells (bA fun _ => false) 36)).heap.size = wr.heap.size + 1 := Array.size_push _
      have HO1 := hid (show Has (wr.alloc (.cells (bA fun _ => false) 36)) (Gx g E :: pt wr.heap.size (.cells (bA fun _ => false) 36) :: pt gn (.cells (i8 l) 29) :: [old W]) from (HO.out.alloc _).re 3 [2, 0, 1])
      have HK1 := hid (HK.out.alloc (.cells (bA fun _ => false) 36))
      rw [← inS_zero []] at HO1 HK1 hsz
      clear HO HK
      go_wp2_with fail
      generalize hw1 : wr.alloc (.cells (bA (inS [] [] 0)) 36) = w1 at HO1 HK1 hsz
      have hO2 := HO1.out.alloc' (.cells #[.int .i64 xa] 3)
      have hR2 := Ints.rd (HO1.out.alloc (.cells #[.int .i64 xa] 3)).lit
      rw [hsz] at hR2
      have HC := HXC.out (w1.alloc (.cells #[.int .i64 xa] 3)) (.slice (some ⟨wr.heap.size + 1, 0, none⟩) 1 1) [xa] _ (by intro x hx; rw [List.mem_singleton] at hx; subst hx; exact HXA.out) (by simp) hR2 hO2
      have HK2 := hid (HK1.out.alloc (.cells #[.int .i64 xa] 3))
      rw [← hw1] at HC
      clear hO2 hR2 hsz HO1 HK1
      refine HC.mono ?_
      rw [hw1]
      clear HC hw1
      rintro e w2 ⟨v2, rfl, hO3, hK3⟩
      have HO3 := hid hO3
      have HK3 := hid (HK2.out.trans hK3)
      obtain ⟨p2, c2, rfl⟩ : ∃ p c, v2 = .slice p (clo E [xa]).length c := by
        obtain ⟨p8, c8, e8, -⟩ := (Ints.rd hO3).form
        exact ⟨p8, c8, e8⟩
      clear hO3 hK3 HK2
      try dsimp only
      go_wp2_with fail
      refine (HXC.out (w2.alloc (.cells #[.int .i64 xb] 3)) (.slice (some ⟨w2.heap.size, 0, none⟩) 1 1) [xb] _ (by intro x hx; rw [List.mem_singleton] at hx; subst hx; exact HXB.out) (by simp) (Ints.rd (HO3.out.alloc (.cells #[.int .i64 xb] 3)).lit) (HO3.out.alloc' (.cells #[.int .i64 xb] 3)).p1).mono ?_
      rintro e w4 ⟨v4, rfl, hO4, hK4⟩
      have HO4 := hid hO4
      have HK4 := hid ((HK3.out.alloc (.cells #[.int .i64 xb] 3)).trans hK4)
      obtain ⟨p4, c4, rfl⟩ : ∃ p c, v4 = .slice p (clo E [xb]).length c := by
        obtain ⟨p8, c8, e8, -⟩ := (Ints.rd hO4).form
        exact ⟨p8, c8, e8⟩
      clear hO4 hK4 HO3 HK3
      try dsimp only
      go_wp2_with fail
      refine (HXC.out (w4.alloc (.cells #[.int .i64 xa, .int .i64 xb] 3)) (.slice (some ⟨w4.heap.size, 0, none⟩) 2 2) [xa, xb] _ (by intro x hx; simp only [List.mem_cons, List.not_mem_nil, or_false] at hx; rcases hx with rfl | rfl; exact HXA.out; exact HXB.out) (by simp) (Ints.rd (HO4.out.alloc (.cells #[.int .i64 xa, .int .i64 xb] 3)).lit2) (HO4.out.alloc' (.cells #[.int .i64 xa, .int .i64 xb] 3)).p1).mono ?_
      rintro e w5 ⟨v5, rfl, hO5, hK5⟩
      have HO5 := hid hO5
      have HK5 := hid ((HK4.out.alloc (.cells #[.int .i64 xa, .int .i64 xb] 3)).trans hK5)
      obtain ⟨p5, c5, rfl⟩ : ∃ p c, v5 = .slice p (clo E [xa, xb]).length c := by
        obtain ⟨p8, c8, e8, -⟩ := (Ints.rd hO5).form
        exact ⟨p8, c8, e8⟩
      clear hO5 hK5 HO4 HK4
      try dsimp only
      have HIN := hid (fun is => fun x (hx : x ∈ clo E is) => (HIDS.out x).1 ((clo_mem E is x).1 hx).there)
      have HXB9 := hid (HIN.out [xa])
      have HYB := hid (HIN.out [xb])
      have HZB := hid (HIN.out [xa, xb])
      have HXM := hid (clo_mem E [xa])
      have HYM := hid (clo_mem E [xb])
      have HZM := hid (clo_mem E [xa, xb])
      have HCT := hid (show clo E [xb, xa, xb] = clo E [xa, xb] from clo_congr (by intro x; simp only [List.mem_cons, List.not_mem_nil, or_false]; omega))
      have HZU := hid (fun s => clo_up (E := E) (is := [xa, xb]) (s := s) HN.out)
      have HLI := hid (show ∀ is, LI E (clo E is) [] from fun is => ⟨fun x hx => ((clo_mem E is x).1 hx).there, fun x hx y hy => .inl ((clo_mem _ is y).2 (.step y x ((clo_mem _ is x).1 hx) hy (HACY.out x ((clo_mem _ is x).1 hx).there y hy).1)), clo_nodup _ is HN.out, by simp⟩)
      have HLEN := hid (show ∀ is, ((clo E is).length : Int) ≤ 14 from fun is => by
        have h1 := nodup_len (clo_nodup _ is HN.out) fun x hx => ((clo_mem E is x).1 hx).there
        have h2 : (ids E).length = n := by rw [← HCL.out]; simp [ids]
        omega)
      have XL := hid (HLEN.out [xa])
      have YL := hid (HLEN.out [xb])
      have ZL := hid (HLEN.out [xa, xb])
      have HLA := hid (levF_ok HACY.out _ _ _ (HLI.out [xa]) (Nat.le_refl _))
      have HLB := hid (levF_ok HACY.out _ _ _ (HLI.out [xb]) (Nat.le_refl _))
      have HLC := hid (levF_ok HACY.out _ _ _ (HLI.out [xa, xb]) (Nat.le_refl _))
      have HDP := hid (HLA.out.deep2 HACY.out HLB.out HLC.out (fun x hx => ((clo_mem E _ x).1 hx).there) fun x => by rw [HXM.out, HYM.out, HZM.out]; exact Rch.two)
      have HXS := hid (show xa ∈ clo E [xa] from (clo_mem _ _ _).2 (.base _ (by simp) ((HIDS.out xa).2 HXA.out)))
      have HYS := hid (show xb ∈ clo E [xb] from (clo_mem _ _ _).2 (.base _ (by simp) ((HIDS.out xb).2 HXB.out)))
      have HO5 := hid (HO5.out.re 5 [4, 0, 1, 2, 3])
      generalize hX : clo E [xa] = X at *
      generalize hY : clo E [xb] = Y at *
      generalize hZ : clo E [xa, xb] = Z at *
      have HXE := hid hX
      have HYE := hid hY
      have HZE := hid hZ
      generalize wr.heap.size = gi at *
      clear hX hY hZ HLI HIN
      go_wp2_with fail
      go_loopw [17] (fun i w => ∃ k : Nat, k ≤ X.length ∧ i = .int .i64 k ∧ Hid (Has w (pt gi (.cells (bA (inS [] X k)) 36) :: Ints (.slice p5 Z.length c5) Z :: Gx g E :: Ints (.slice p4 Y.length c4) Y :: Ints (.slice p2 X.length c2) X :: pt gn (.cells (i8 l) 29) :: [old W])) ∧ Hid (Keep W w)) (fun i _ => X.length - (intOf i).toNat)
      case atStart => exact ⟨0, by omega, rfl, HO5, HK5⟩
      case round =>
        clear HO5 HK5
        obtain ⟨k, hk, rfl, HO, HK⟩ := hrel
        have hxl : (X.length : Int) ≤ 14 := XL.out
        by_cases hlt : k < X.length
        · have hki : (k : Int) < (X.length : Int) := by omega
          have hk0 : (0 : Int) ≤ (k : Int) := by omega
          have HLT := hid hlt
          obtain ⟨p0, c0, e0, -, -, hcx0⟩ := (Ints.rd HO.out.p4).form
          simp only [Value.slice.injEq] at e0
          obtain ⟨rfl, -, rfl⟩ := e0
          obtain ⟨gx, ox, rfl, hcx1⟩ := hcx0 (by omega)
          have hc := hcx1 k (by omega)
          rw [ic_at X k hlt] at hc
          have hxb := (HXB9.out X[k] (List.getElem_mem hlt))
          have hxe : X[k]? = some X[k] := List.getElem?_eq_getElem hlt
          generalize X[k] = x at *
          obtain ⟨y, hy⟩ : ∃ y : Nat, x = (y : Int) := ⟨x.toNat, by omega⟩
          subst hy
          have hlow : low (y : Int) 15 = y := low_small (by omega) (by omega) (by omega)
          have hy0 : (0 : Int) ≤ (y : Int) := by omega
          have hy3 : (y : Int) < 15 := by omega
          have hcy : wr.cell? ⟨gi, y, none⟩ = some (.bool (inS [] X k y)) := by rw [HO.out.cells y]; exact bA_at _ y (by omega)
          have ht := HO.out.thaw
          have HO2 := hid (HO.out.set y (.bool true))
          rw [bA_set, inS_next hxe] at HO2
          have HK2 := hid (HK.out.set ⟨gi, y, none⟩ (.bool true))
          clear hcx0 hcx1 hk hlt hxe HO HK hxb
          go_wp2_with fail
          refine (lowAny y 15 _ (by omega) (by omega)).mono ?_
          rintro e w' ⟨rfl, rfl⟩
          rw [hlow]
          try dsimp only
          go_wp2_with fail
          exact ⟨⟨k + 1, by have := HLT.out; omega, by go_num, HO2, HK2⟩, by have := HLT.out; simp [intOf]; omega⟩
        · obtain rfl : k = X.length := by omega
          have hki : ¬ (X.length : Int) < (X.length : Int) := by omega
          clear hlt hk
          rw [inS_turn X Y] at HO
          go_wp2_with fail
          go_loopw [18] (fun i w => ∃ k : Nat, k ≤ Y.length ∧ i = .int .i64 k ∧ Hid (Has w (pt gi (.cells (bA (inS X Y k)) 36) :: Ints (.slice p5 Z.length c5) Z :: Gx g E :: Ints (.slice p4 Y.length c4) Y :: Ints (.slice p2 X.length c2) X :: pt gn (.cells (i8 l) 29) :: [old W])) ∧ Hid (Keep W w)) (fun i _ => Y.length - (intOf i).toNat)
          case atStart => exact ⟨0, by omega, rfl, HO, HK⟩
          case round =>
            clear HO HK
            obtain ⟨k, hk, rfl, HO, HK⟩ := hrel
            have hxl : (Y.length : Int) ≤ 14 := YL.out
            by_cases hlt : k < Y.length
            · have hki : (k : Int) < (Y.length : Int) := by omega
              have hk0 : (0 : Int) ≤ (k : Int) := by omega
              have HLT := hid hlt
              obtain ⟨p0, c0, e0, -, -, hcx0⟩ := (Ints.rd HO.out.p3).form
              simp only [Value.slice.injEq] at e0
              obtain ⟨rfl, -, rfl⟩ := e0
              obtain ⟨gx, ox, rfl, hcx1⟩ := hcx0 (by omega)
              have hc := hcx1 k (by omega)
              rw [ic_at Y k hlt] at hc
              have hxb := (HYB.out Y[k] (List.getElem_mem hlt))
              have hxe : Y[k]? = some Y[k] := List.getElem?_eq_getElem hlt
              generalize Y[k] = x at *
              obtain ⟨y, hy⟩ : ∃ y : Nat, x = (y : Int) := ⟨x.toNat, by omega⟩
              subst hy
              have hlow : low (y : Int) 15 = y := low_small (by omega) (by omega) (by omega)
              have hy0 : (0 : Int) ≤ (y : Int) := by omega
              have hy3 : (y : Int) < 15 := by omega
              have hcy : wr.cell? ⟨gi, y, none⟩ = some (.bool (inS X Y k y)) := by rw [HO.out.cells y]; exact bA_at _ y (by omega)
              have ht := HO.out.thaw
              have HO2 := hid (HO.out.set y (.bool true))
              rw [bA_set, inS_next hxe] at HO2
              have HK2 := hid (HK.out.set ⟨gi, y, none⟩ (.bool true))
              clear hcx0 hcx1 hk hlt hxe HO HK hxb
              go_wp2_with fail
              refine (lowAny y 15 _ (by omega) (by omega)).mono ?_
              rintro e w' ⟨rfl, rfl⟩
              rw [hlow]
              try dsimp only
              go_wp2_with fail
              exact ⟨⟨k + 1, by have := HLT.out; omega, by go_num, HO2, HK2⟩, by have := HLT.out; simp [intOf]; omega⟩
            · obtain rfl : k = Y.length := by omega
              have hki : ¬ (Y.length : Int) < (Y.length : Int) := by omega
              clear hlt hk
              have HO0 := hid (show Has wr (Ints (.slice none 0 0) (mem15 (inS X Y Y.length) 1) :: pt gi (.cells (bA (inS X Y Y.length)) 36) :: Ints (.slice p5 Z.length c5) Z :: Gx g E :: Ints (.slice p4 Y.length c4) Y :: Ints (.slice p2 X.length c2) X :: pt gn (.cells (i8 l) 29) :: [old W]) from by
                rw [mem15_one]
                exact HO.out.row_nil _ 1)
              clear HO
              go_wp2_with fail
              go_loopw [19, 20] (fun v i w => ∃ k : Nat, 1 ≤ k ∧ k ≤ n + 1 ∧ i = .int .i64 k ∧ Hid (Has w (Ints v (mem15 (inS X Y Y.length) k) :: pt gi (.cells (bA (inS X Y Y.length)) 36) :: Ints (.slice p5 Z.length c5) Z :: Gx g E :: Ints (.slice p4 Y.length c4) Y :: Ints (.slice p2 X.length c2) X :: pt gn (.cells (i8 l) 29) :: [old W])) ∧ Hid (Keep W w)) (fun _ i _ => n + 1 - (intOf i).toNat)
              case atStart => exact ⟨1, by omega, by omega, rfl, HO0, HK⟩
              case round =>
                clear HO0 HK
                obtain ⟨k, hk1, hk, rfl, HO, HK⟩ := hrel
                obtain ⟨p6, c6, e6, -⟩ := (Ints.rd HO.out).form
                subst e6
                have hk0 : (0 : Int) ≤ (k : Int) := by omega
                by_cases hlt : k ≤ n
                · have hki : (k : Int) ≤ (n : Int) := by omega
                  have hk15 : (k : Int) < 15 := by omega
                  have HLT := hid hlt
                  have hcy : wr.cell? ⟨gi, k, none⟩ = some (.bool (inS X Y Y.length k)) := by rw [HO.out.p1.cells k]; exact bA_at _ k (by omega)
                  have hms := mem15_succ (inS X Y Y.length) hk1
                  have HLM := hid (show (mem15 (inS X Y Y.length) k).length ≤ 100 from by
                    have h1 := nodup_len ((mem15_up (inS X Y Y.length) k).imp fun h e => by omega) (l' := (List.range 15).map fun j : Nat => (j : Int)) (fun x hx => by
                      have h2 := mem15_mem.1 hx
                      rw [List.mem_map]
                      exact ⟨x.toNat, by rw [List.mem_range]; omega, by omega⟩)
                    simp at h1
                    omega)
                  rcases hb : inS X Y Y.length k with _ | _
                  · rw [hb] at hms hcy
                    simp only [Bool.false_eq_true, if_false, List.append_nil] at hms
                    have HMS := hid hms
                    clear hlt hk hms hb
                    go_wp2_with fail
                    exact ⟨⟨k + 1, by omega, by have := HLT.out; omega, by go_num, by rw [HMS.out]; exact HO, HK⟩, by have := HLT.out; simp [intOf]; omega⟩
                  · rw [hb] at hms hcy
                    rw [if_pos rfl] at hms
                    have HMS := hid hms
                    have HO2 := hid (HO.out.alloc (.cells #[.int .i64 k] 3)).p1
                    have HK2 := hid (HK.out.alloc (.cells #[.int .i64 k] 3))
                    have hcx := HO2.out.p1.cells 0
                    clear hlt hk hms hb HO HK
                    go_wp2_with (at_builtin; refine wpList_append1 rfl _ _ _ rfl Try.underlying22 infoInt rfl (.int .i64 k) HO2.out rfl 1 wr.heap.size rfl hcx rfl (le_maxLen (by have := HLM.out; omega)) (by have := HLM.out; omega) ?_; intro v5 w5 h5 k5)
                    have HO5 := hid (show Has w5 (Ints v5 (mem15 (inS X Y Y.length) (k + 1)) :: pt gi (.cells (bA (inS X Y Y.length)) 36) :: Ints (.slice p5 Z.length c5) Z :: Gx g E :: Ints (.slice p4 Y.length c4) Y :: Ints (.slice p2 X.length c2) X :: pt gn (.cells (i8 l) 29) :: [old W]) from by
                      rw [HMS.out]
                      have h6 : Has w5 (Ints v5 (mem15 (inS X Y Y.length) k ++ [(k : Int)]) :: pt wr.heap.size (.cells #[.int .i64 k] 3) :: pt gi (.cells (bA (inS X Y Y.length)) 36) :: Ints (.slice p5 Z.length c5) Z :: Gx g E :: Ints (.slice p4 Y.length c4) Y :: Ints (.slice p2 X.length c2) X :: pt gn (.cells (i8 l) 29) :: [old W]) := by
                        unfold Ints at h5 ⊢
                        rw [ic_snoc, List.length_append]
                        exact h5
                      exact h6.re 2 [0])
                    have HK5 := hid (HK2.out.trans k5)
                    clear h5 k5 HO2 HK2 hcx
                    go_wp2_with fail
                    exact ⟨⟨k + 1, by omega, by have := HLT.out; omega, by go_num, HO5, HK5⟩, by have := HLT.out; simp [intOf]; omega⟩
                · obtain rfl : k = n + 1 := by omega
                  have hki : ¬ ((n + 1 : Nat) : Int) ≤ (n : Int) := by omega
                  have HZW := hid (HZU.out (mem15 (inS X Y Y.length) (n + 1)) (mem15_up _ _) fun x => by
                    rw [mem15_mem]
                    unfold inS
                    rw [List.take_length, Bool.or_eq_true, decide_eq_true_iff, decide_eq_true_iff]
                    constructor
                    · rintro ⟨h1, h2, h3⟩
                      rw [show ((x.toNat : Nat) : Int) = x by omega] at h3
                      rw [Rch.two]
                      exact h3.imp (HXM.out x).1 (HYM.out x).1
                    · intro h
                      have hb := HZB.out x ((HZM.out x).2 h)
                      rw [show ((x.toNat : Nat) : Int) = x by omega]
                      refine ⟨hb.1, by omega, ?_⟩
                      exact (Rch.two.1 h).imp (HXM.out x).2 (HYM.out x).2)
                  have HZW2 := hid HZW.out.symm
                  rw [HZW2.out] at HO ⊢
                  clear hlt hk HZW HZW2
                  have HO1 := hid (HO.out.re 4 [3, 0, 1, 2])
                  clear HO
                  go_wp2_with fail
                  refine (HXL.out (wr.alloc (.cells #[.int .i64 xa] 3)) (.slice (some ⟨wr.heap.size, 0, none⟩) 1 1) [xa] _ (by intro x hx; rw [List.mem_singleton] at hx; subst hx; exact HXA.out) (by simp) (Ints.rd (HO1.out.alloc (.cells #[.int .i64 xa] 3)).lit) (HO1.out.alloc' (.cells #[.int .i64 xa] 3))).mono ?_
                  rintro e w2 ⟨v2, B2, rfl, hB2, hO2, hK2⟩
                  rw [HXE.out] at hB2
                  have HB2 := hid hB2
                  have HO2 := hid hO2.drop
                  have HK2 := hid ((HK.out.alloc (.cells #[.int .i64 xa] 3)).trans hK2)
                  obtain ⟨p2', c2', e2⟩ := Ll.val hO2
                  subst e2
                  clear hO2 hK2 HO1 HK hB2
                  try dsimp only
                  go_wp2_with fail
                  refine (HXL.out (w2.alloc (.cells #[.int .i64 xb] 3)) (.slice (some ⟨w2.heap.size, 0, none⟩) 1 1) [xb] _ (by intro x hx; rw [List.mem_singleton] at hx; subst hx; exact HXB.out) (by simp) (Ints.rd (HO2.out.alloc (.cells #[.int .i64 xb] 3)).lit) (HO2.out.alloc' (.cells #[.int .i64 xb] 3))).mono ?_
                  rintro e w4 ⟨v4, B4, rfl, hB4, hO4, hK4⟩
                  rw [HYE.out] at hB4
                  have HB4 := hid hB4
                  have HO4 := hid (hO4.drop.re 4 [2, 0, 1, 3])
                  have HK4 := hid ((HK2.out.alloc (.cells #[.int .i64 xb] 3)).trans hK4)
                  obtain ⟨p4', c4', e4⟩ := Ll.val hO4
                  subst e4
                  clear hO4 hK4 HO2 HK2 hB4
                  have HL2 := hid (show (B2.length : Int) = (levF E X.length X []).length from by rw [← HB2.out]; simp)
                  have HL4 := hid (show (B4.length : Int) = (levF E Y.length Y []).length from by rw [← HB4.out]; simp)
                  try dsimp only
                  go_wp2_with fail
                  go_wp2_with fail
                  refine (sameIntsYes (.slice p5 Z.length c5) (.slice p6 Z.length c6) Z w4 (Ints.rd HO4.out.p3) (Ints.rd HO4.out.p2)).mono ?_
                  rintro e w' ⟨rfl, nq5, rfl⟩
                  have HO5 := hid ((HO4.out.p1).drewN nq5)
                  have HK5 := hid ((HK4.out).drewN nq5)
                  try dsimp only
                  generalize w4.drewN nq5 = w5 at *
                  clear HO4 HK4
                  go_wp2_with fail
                  refine (HXL.out (w5.alloc (.cells #[.int .i64 xa, .int .i64 xb] 3)) (.slice (some ⟨w5.heap.size, 0, none⟩) 2 2) [xa, xb] _ (by intro x hx; simp only [List.mem_cons, List.not_mem_nil, or_false] at hx; rcases hx with rfl | rfl; exact HXA.out; exact HXB.out) (by simp) (Ints.rd (HO5.out.alloc (.cells #[.int .i64 xa, .int .i64 xb] 3)).lit2) (HO5.out.alloc' (.cells #[.int .i64 xa, .int .i64 xb] 3))).mono ?_
                  rintro e w6 ⟨v6, B6, rfl, hB6, hO6, hK6⟩
                  rw [HZE.out] at hB6
                  have HO6 := hid hO6.drop
                  have HK6 := hid ((HK5.out.alloc (.cells #[.int .i64 xa, .int .i64 xb] 3)).trans hK6)
                  have h9 : (B6.length : Int) = max (B2.length : Int) (B4.length : Int) := by
                    have h7 : B6.length = (levF E Z.length Z []).length := by rw [← hB6]; simp
                    have h8 := HDP.out
                    have h10 := HL2.out
                    have h11 := HL4.out
                    omega
                  obtain ⟨p6', c6', e6⟩ := Ll.val hO6
                  subst e6
                  rw [← h9]
                  clear hO6 hK6 HO5 HK5 hB6 h9
                  try dsimp only
                  go_wp2_with fail
                  refine (HXC.out (w6.alloc (.cells #[.int .i64 xb, .int .i64 xa, .int .i64 xb] 3)) (.slice (some ⟨w6.heap.size, 0, none⟩) 3 3) [xb, xa, xb] _ (by intro x hx; simp only [List.mem_cons, List.not_mem_nil, or_false] at hx; rcases hx with rfl | rfl | rfl; exact HXB.out; exact HXA.out; exact HXB.out) (by simp) (Ints.rd (HO6.out.alloc (.cells #[.int .i64 xb, .int .i64 xa, .int .i64 xb] 3)).lit3) (HO6.out.alloc' (.cells #[.int .i64 xb, .int .i64 xa, .int .i64 xb] 3))).mono ?_
                  rintro e w7 ⟨v7, rfl, hO7, hK7⟩
                  rw [HCT.out] at hO7
                  have HO7 := hid hO7
                  have HK7 := hid ((HK6.out.alloc (.cells #[.int .i64 xb, .int .i64 xa, .int .i64 xb] 3)).trans hK7)
                  obtain ⟨p7, c7, rfl⟩ : ∃ p c, v7 = .slice p Z.length c := by
                    obtain ⟨p8, c8, e8, -⟩ := (Ints.rd hO7).form
                    exact ⟨p8, c8, e8⟩
                  clear hO7 hK7 HO6 HK6
                  try dsimp only
                  go_wp2_with fail
                  go_wp2_with fail
                  refine (sameIntsYes (.slice p7 Z.length c7) (.slice p5 Z.length c5) Z w7 (Ints.rd HO7.out) (Ints.rd HO7.out.p4)).mono ?_
                  rintro e w' ⟨rfl, nq8, rfl⟩
                  have HO8 := hid ((HO7.out.p2).drewN nq8)
                  have HK8 := hid ((HK7.out).drewN nq8)
                  try dsimp only
                  generalize w7.drewN nq8 = w8 at *
                  clear HO7 HK7
                  obtain ⟨ya, hya⟩ : ∃ y : Nat, xa = (y : Int) := ⟨xa.toNat, by omega⟩
                  obtain ⟨yb, hyb⟩ : ∃ y : Nat, xb = (y : Int) := ⟨xb.toNat, by omega⟩
                  have hca : w8.cell? ⟨gi, ya, none⟩ = some (.bool true) := by
                    have h1 := HXS.out
                    have h2 := HXA.out
                    rw [HO8.out.cells ya, bA_at _ ya (by omega)]
                    rw [hya] at h1
                    simp [inS, h1]
                  have hcb : w8.cell? ⟨gi, yb, none⟩ = some (.bool true) := by
                    have h1 := HYS.out
                    have h2 := HXB.out
                    rw [HO8.out.cells yb, bA_at _ yb (by omega)]
                    rw [hyb] at h1
                    simp [inS, h1]
                  have hya0 : (0 : Int) ≤ (ya : Int) := by omega
                  have hyb0 : (0 : Int) ≤ (yb : Int) := by omega
                  have hya3 : (ya : Int) < 15 := by have := HXA.out; omega
                  have hyb3 : (yb : Int) < 15 := by have := HXB.out; omega
                  have HAL := hid (xAll g E w8 _ (by rw [HCL.out]; omega) (HO8.out.p2))
                  have HSL := hid (show ((sorted (ids E)).length : Int) = n from by rw [sorted_len]; rw [← HCL.out]; simp [ids])
                  subst hya hyb
                  go_wp2_with fail
                  refine HAL.out.mono ?_
                  rintro e w9 ⟨v9, rfl, hO9, hK9⟩
                  have HO9 := hid hO9
                  have HK9 := hid (HK8.out.trans hK9)
                  obtain ⟨p9, c9, rfl⟩ : ∃ p c, v9 = .slice p (sorted (ids E)).length c := by
                    obtain ⟨p8, c8, e8, -⟩ := (Ints.rd hO9).form
                    exact ⟨p8, c8, e8⟩
                  have hsl : (sorted (ids E)).length = n := by have := HSL.out; omega
                  rw [hsl]
                  clear hO9 hK9 HO8 HK8 HAL HSL hsl
                  try dsimp only
                  have HZ := hid (awake17 w9 _ HO9.out)
                  go_wp2_with fail
                  refine HZ.out.mono ?_
                  rintro e w10 ⟨rfl, hO10, hK10⟩
                  have HO10 := hid hO10
                  have HK10 := hid (HK9.out.trans hK10)
                  clear hO10 hK10 HZ HO9 HK9
                  try dsimp only
                  go_wp2_with fail
                  go_ret
                  exact ⟨rfl, (HO10.out.re 10 [9]).below HK10.out.os HK10.out.tape HK10.out.output⟩
          
end Go.Proofs.Ytajnhggcaiakeaa
/- HOW ARGUMENTS ARE OPENED: from the form's reading to cells. No program in sight. -/
namespace Go.Own
open Go.ChangeShapes Go.WideShapes Go.ChangeAt Go.RowKit
theorem flat_len (n size : Nat) (C : Nat → List Value) (h : ∀ i, i < n → (C i).length = size) : ((List.range n).flatMap C).length = n * size := by
  induction n with
  | zero => simp
  | succ n ih =>
    rw [List.range_succ, List.flatMap_append, List.length_append, ih fun i hi => h i (by omega)]
    simp [h n (by omega), Nat.succ_mul]
theorem flat_drop (n size : Nat) (C : Nat → List Value) (h : ∀ i, i < n → (C i).length = size) (i : Nat) (hi : i < n) :
    ∃ R, ((List.range n).flatMap C).drop (i * size) = C i ++ R := by
  induction n with
  | zero => omega
  | succ n ih =>
    rw [List.range_succ, List.flatMap_append]
    have hl := flat_len n size C fun i hi => h i (by omega)
    by_cases hin : i = n
    · subst hin
      refine ⟨[], ?_⟩
      rw [List.drop_append_of_le_length (by rw [hl]; exact Nat.le_refl _), List.drop_of_length_le (by rw [hl]; exact Nat.le_refl _)]
      simp
    · obtain ⟨R, hR⟩ := ih (fun i hi => h i (by omega)) (by omega)
      refine ⟨R ++ [n].flatMap C, ?_⟩
      rw [List.drop_append_of_le_length (by rw [hl]; exact Nat.mul_le_mul_right _ (by omega)), hR, List.append_assoc]
theorem flat_slice (n size : Nat) (C : Nat → List Value) (h : ∀ i, i < n → (C i).length = size) (i : Nat) (hi : i < n) :
    (((List.range n).flatMap C).drop (i * size)).take size = C i := by
  obtain ⟨R, hR⟩ := flat_drop n size C h i hi
  rw [hR, ← h i hi, List.take_left]
theorem flat_at (n size : Nat) (C : Nat → List Value) (h : ∀ i, i < n → (C i).length = size) (i : Nat) (hi : i < n) (j : Nat) (hj : j < size) :
    (C i)[j]? = ((List.range n).flatMap C)[i * size + j]? := by
  rw [← flat_slice n size C h i hi, List.getElem?_take, if_pos hj, List.getElem?_drop]
theorem cells?_parts {w : World} {b : Nat} {a : Addr} {n : Nat} {cs : List Value} (h : w.cells? b a n = some cs) : cs.length = n ∧ ∀ j, j < n → w.cell? (a.add j) = cs[j]? := by
  unfold World.cells? at h
  split at h
  · have : ∀ (l : List Nat) (cs : List Value), (l.mapM fun i => w.cell? (a.add i)) = some cs → cs.length = l.length ∧ ∀ (j i : Nat), l[j]? = some i → w.cell? (a.add i) = cs[j]? := by
      intro l
      induction l with
      | nil => intro cs h; simp at h; subst h; simp
      | cons x l ih =>
        intro cs h
        simp only [List.mapM_cons, Option.pure_def, Option.bind_eq_bind] at h
        obtain ⟨y, hy, h⟩ := Option.bind_eq_some_iff.1 h
        obtain ⟨ys, hys, h⟩ := Option.bind_eq_some_iff.1 h
        cases h
        obtain ⟨h1, h2⟩ := ih ys hys
        refine ⟨by simp [h1], fun j i hj => ?_⟩
        cases j with
        | zero => simp at hj; subst hj; simpa using hy
        | succ j => simpa using h2 j i (by simpa using hj)
    obtain ⟨h1, h2⟩ := this _ _ h
    refine ⟨by simpa using h1, fun j hj => h2 j j (by simp [hj])⟩
  · cases h
section
variable {H : Type} {enc : TypeId × Value → H} {P : Program} {W : World} {base : Nat} {spare : Nat → Bool} {held : Bool}
/-- A slice of elements of whatever type: its cells in a list, each element's own cells read on. -/
theorem open_rd {t e size : Nat} {v : Value} {d : DataW H} {ps : List MemPlace} {r : Reach} {b0 : Nat} (ht : P.underlying t = some (.slice e)) (hc : P.cellsOf e = size) (hv : Value.okWide P W r b0 t v)
    (h : DataW.Trod enc P W base spare held t v d ps) :
    ∃ (n fuel : Nat) (xs : List Value), Rd W v size n xs ∧ ∀ i, i < n → ∃ x, DataW.trod enc P W base spare held fuel e ((xs.drop (i * size)).take size) = some x := by
  obtain ⟨p, len, cap, rfl⟩ := okWide_slice ht hv
  obtain ⟨fuel, hf⟩ := h
  rcases Deep.open_slice ht hf with ⟨hcs, _⟩ | ⟨a, len', cap', m, n, D, Pl, hcs, hb, hl, hm, hmm, hx, hel⟩
  · simp [Value.cells] at hcs
    obtain ⟨rfl, rfl, rfl⟩ := hcs
    exact ⟨0, 0, [], ⟨by simp, Nat.zero_le _, none, 0, rfl, Nat.le_refl _, fun h => absurd h (by simp)⟩, fun i hi => absurd hi (by simp)⟩
  · simp [Value.cells] at hcs
    obtain ⟨rfl, rfl, rfl⟩ := hcs
    rw [hc] at hel
    have hlm : len ≤ m := by rw [hmm]; split <;> omega
    obtain ⟨C, hC⟩ := Deep.choose_lt (α := List Value) (p := fun i cs' => W.cells? base (a.add (i * size)) size = some cs' ∧ DataW.trod enc P W base spare held n e cs' = some (D i, Pl i)) (fun i hi => hel i (by omega : i < m))
    have hlen : ∀ i, i < len → (C i).length = size ∧ ∀ j, j < size → W.cell? ((a.add (i * size)).add j) = (C i)[j]? := fun i hi => cells?_parts (hC i (by omega)).1
    refine ⟨len, n, (List.range len).flatMap C, ⟨flat_len len size C fun i hi => (hlen i hi).1, by omega, some a, cap, rfl, hl, fun hp => ?_⟩, fun i hi => ⟨(D i, Pl i), ?_⟩⟩
    · have hs : 0 < size := Nat.pos_of_mul_pos_left hp
      have hl0 : 0 < len := Nat.pos_of_mul_pos_right hp
      have h0 := (hlen 0 hl0).2 0 hs
      have ha : a = ⟨a.block, a.off, none⟩ := by
        refine cell_plain (w := W) (u := (C 0)[0]'(by rw [(hlen 0 hl0).1]; exact hs)) ?_
        rw [List.getElem?_eq_getElem (by rw [(hlen 0 hl0).1]; exact hs)] at h0
        simpa [Addr.add] using h0
      refine ⟨a.block, a.off, by rw [← ha], fun j hj => ?_⟩
      have hq : j / size < len := (Nat.div_lt_iff_lt_mul hs).2 hj
      have hr : j % size < size := Nat.mod_lt _ hs
      have h1 := (hlen (j / size) hq).2 (j % size) hr
      rw [Deep.add_add, ha, add_plain] at h1
      have hj' : j / size * size + j % size = j := Nat.div_add_mod' j size
      rw [hj'] at h1
      rw [h1, flat_at len size C (fun i hi => (hlen i hi).1) (j / size) hq (j % size) hr, hj']
    · rw [flat_slice len size C (fun i hi => (hlen i hi).1) i hi]
      exact (hC i (by omega)).2
/-- A slice of ints. -/
theorem open_rd_ints {t e : Nat} {v : Value} {d : DataW H} {ps : List MemPlace} {r : Reach} {b0 : Nat} (ht : P.underlying t = some (.slice e)) (he : P.underlying e = some (.int .i64)) (hc : P.cellsOf e = 1) (hv : Value.okWide P W r b0 t v)
    (h : DataW.Trod enc P W base spare held t v d ps) : ∃ xs : List Int, Rd W v 1 xs.length (ic xs) := by
  obtain ⟨n, fuel, xs, hr, hx⟩ := open_rd ht hc hv h
  have hl : xs.length = n := by simpa using hr.1
  have hall : ∀ (l : List Value), (∀ i (hi : i < l.length), ∃ k, l[i]? = some (.int .i64 k)) → ∃ zs : List Int, l = ic zs := by
    intro l
    induction l with
    | nil => intro _; exact ⟨[], rfl⟩
    | cons y l ih =>
      intro hl
      obtain ⟨k, hk⟩ := hl 0 (by simp)
      obtain ⟨zs, hz⟩ := ih fun i hi => by obtain ⟨k, h⟩ := hl (i + 1) (by simp; omega); exact ⟨k, by simpa using h⟩
      exact ⟨k :: zs, by simp at hk; simp [ic, hk]; exact hz⟩
  obtain ⟨zs, hz⟩ := hall xs fun i hi => by
    obtain ⟨x, hx⟩ := hx i (by omega)
    rw [Nat.mul_one] at hx
    obtain ⟨k, hk, -⟩ := DataW.trod_int he hx
    refine ⟨k, ?_⟩
    have := congrArg (fun l : List Value => l[0]?) hk
    simpa using this
  subst hz
  refine ⟨zs, ?_⟩
  rw [ic_len] at hl
  rw [hl]; exact hr
/-- A struct's field, read on. -/
theorem open_field {t fuel : Nat} {cs : List Value} {x : DataW H × List MemPlace} {fs : Array Field} (ht : P.underlying t = some (.struct fs)) (h : DataW.trod enc P W base spare held fuel t cs = some x)
    (i : Nat) (f : Field) (hf : fs[i]? = some f) : ∃ m y, DataW.trod enc P W base spare held m f.type ((cs.drop f.offset).take (P.cellsOf f.type)) = some y := by
  obtain ⟨xs, n, -, -, -, hl, hx⟩ := DataW.trod_struct ht h
  have hi : i < xs.length := by rw [hl]; exact (Array.getElem?_eq_some_iff.1 hf).1
  exact ⟨n, xs[i], by rw [hx i f hf, List.getElem?_eq_getElem hi]⟩
/-- A field that is an int. -/
theorem open_int_field {t fuel : Nat} {cs : List Value} {x : DataW H × List MemPlace} {fs : Array Field} {k : IntKind} (ht : P.underlying t = some (.struct fs)) (h : DataW.trod enc P W base spare held fuel t cs = some x)
    (i : Nat) (f : Field) (hf : fs[i]? = some f) (hk : P.underlying f.type = some (.int k)) (hc : P.cellsOf f.type = 1) : ∃ n, cs[f.offset]? = some (.int k n) ∧ (Lit.int k n).wf = true := by
  obtain ⟨m, y, hy⟩ := open_field ht h i f hf
  rw [hc] at hy
  obtain ⟨n, hn, -, hw⟩ := DataW.trod_int hk hy
  refine ⟨n, ?_, hw⟩
  have := congrArg (fun l : List Value => l[0]?) hn
  simpa using this
end
end Go.Own
