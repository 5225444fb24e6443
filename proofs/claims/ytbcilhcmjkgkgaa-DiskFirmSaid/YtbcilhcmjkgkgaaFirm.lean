/- DiskFirm: what was flushed stays, what is read is what was written last. For every input. -/
import Derived.Test.YtbcilhcmjkgkgaaAwake4
import Derived.Test.YtbcilhcmjkgkgaaLst
import Derived.Test.YtbcilhcmjkgkgaaFirmm
import Derived.Test.YtbcilhcmjkgkgaaPref
import Derived.RegionTactic
namespace Go.Proofs.Ytbcilhcmjkgkgaa
open Go.RowKit Go.Own Go.Dk
/-- Two new texts of zeros are laid into two lists, in either order. -/
theorem twoZeros {w : World} {L : List HP} {B : Txs} {g1 g2 n c n' c' : Nat} {T T' : List (List Int)} (h : Has w (Lst B (.slice (some ⟨g1, 0, none⟩) n c) T :: Lst B (.slice (some ⟨g2, 0, none⟩) n' c') T' :: Pool B :: L)) (k : Nat) (hk : k < T.length) (hk' : k < T'.length) (h1 : g1 < w.heap.size) (h2 : g2 < w.heap.size) :
    ∃ B' : Txs, (∀ x ∈ B, x ∈ B') ∧ ∀ a b : Nat, (a = w.heap.size ∨ a = w.heap.size + 1) → (b = w.heap.size ∨ b = w.heap.size + 1) →
      Has ((((w.setCell ⟨g1, k, none⟩ (.slice (some ⟨a, 0, none⟩) 128 128)).setCell ⟨g2, k, none⟩ (.slice (some ⟨b, 0, none⟩) 128 128)).alloc (.cells zeros128 5)).alloc (.cells zeros128 5)).drew
        (Lst B' (.slice (some ⟨g1, 0, none⟩) n c) (T.set k zer) :: Lst B' (.slice (some ⟨g2, 0, none⟩) n' c') (T'.set k zer) :: Pool B' :: L) := by
  have m1 := made128 h
  have m2 := made128 m1
  have e : (w.alloc (.cells zeros128 5)).heap.size = w.heap.size + 1 := by simp
  rw [e] at m2
  have h4 := (m2.p4.p2.pool_add).p1.pool_add
  refine ⟨(.slice (some ⟨w.heap.size + 1, 0, none⟩) 128 128, zer) :: (.slice (some ⟨w.heap.size, 0, none⟩) 128 128, zer) :: B, fun x hx => List.mem_cons_of_mem _ (List.mem_cons_of_mem _ hx), ?_⟩
  intro a b ha hb
  have mem : ∀ a, (a = w.heap.size ∨ a = w.heap.size + 1) → ((.slice (some ⟨a, 0, none⟩) 128 128 : Value), zer) ∈ ((.slice (some ⟨w.heap.size + 1, 0, none⟩) 128 128 : Value), zer) :: (.slice (some ⟨w.heap.size, 0, none⟩) 128 128, zer) :: B := by
    rintro a (rfl | rfl) <;> simp
  have h5 := Lst.set (Lst.sub h4.p1 (B' := (.slice (some ⟨w.heap.size + 1, 0, none⟩) 128 128, zer) :: (.slice (some ⟨w.heap.size, 0, none⟩) 128 128, zer) :: B) fun x hx => List.mem_cons_of_mem _ (List.mem_cons_of_mem _ hx)) k hk (mem a ha)
  have h6 := Lst.set (Lst.sub h5.p2 (B' := (.slice (some ⟨w.heap.size + 1, 0, none⟩) 128 128, zer) :: (.slice (some ⟨w.heap.size, 0, none⟩) 128 128, zer) :: B) fun x hx => List.mem_cons_of_mem _ (List.mem_cons_of_mem _ hx)) k hk' (mem b hb)
  rw [World.setCell_alloc_past _ _ _ _ (by simp; omega), World.setCell_alloc_past _ _ _ _ h1, World.setCell_alloc_past _ _ _ _ (by simp; omega), World.setCell_alloc_past _ _ _ _ (by simpa using h2)] at h6
  exact h6.p1.drew
set_option maxRecDepth 100000 in
set_option maxHeartbeats 4000000 in
theorem firmWalk (v : Value) (xs : List Int) (fl : Int) (W : World) (hr : Rd W v 1 xs.length (ic xs)) :
    Calls Try.prog 5 #[v, .int .i64 fl] W fun e w' => e = .returned (.bool true) ∧ Below W.heap.size W w' := by
  obtain ⟨vp, vc, rfl, hvc, hvl, -⟩ := hr.form
  have HR := hid hr
  have HO0 := hid (Has.start W)
  clear hr
  by_cases hbig : 30 < xs.length
  · go_enter Try.func5, Try.ntmps5
    go_wp2_with fail
    refine (awake4 W _ HO0.out).mono ?_
    rintro e w1 ⟨rfl, hO1, hK1⟩
    have HO1 := hid hO1
    have HK1 := hid ((Keep.refl W).trans hK1)
    clear hO1 hK1
    try dsimp only
    go_wp2_with fail
    go_ret
    exact ⟨rfl, HO1.out.below HK1.out.os HK1.out.tape HK1.out.output⟩
  · go_enter Try.func5, Try.ntmps5
    go_wp2_with fail
    refine (kNew 5 W _ (by omega) (by omega) HO0.out).mono ?_
    rintro e w1 ⟨d, rfl, hO1, hK1⟩
    try dsimp only
    have HO1 := hid (Pool.nil1 hO1)
    have HK1 := hid hK1
    clear hO1 hK1
    have hmk := makeBs5
    go_upto_region 6 with fail
    go_cut [6, 7] (fun a b wx => ∃ g1 g2 : Nat, a = .slice (some ⟨g1, 0, none⟩) 5 5 ∧ b = .slice (some ⟨g2, 0, none⟩) 5 5 ∧ Hid (Has wx (Lst [(.slice none 0 0, [])] (.slice (some ⟨g1, 0, none⟩) 5 5) (List.replicate 5 []) :: Lst [(.slice none 0 0, [])] (.slice (some ⟨g2, 0, none⟩) 5 5) (List.replicate 5 []) :: Pool [(.slice none 0 0, [])] :: Dk d (Bk.zero 5) :: [old W])) ∧ Hid (Keep W wx))
    case first =>
      have e : (w1.alloc (.cells nils5 28)).heap.size = w1.heap.size + 1 := by simp
      have h1 := Lst.made (k := 5) HO1.out (le_maxLen (by omega)) (List.mem_singleton.2 rfl)
      have h2 := Lst.made (k := 5) h1 (le_maxLen (by omega)) (List.mem_singleton.2 rfl)
      have H2 := hid (show Has ((w1.alloc (.cells nils5 28)).alloc (.cells nils5 28)) (Lst [(.slice none 0 0, [])] (.slice (some ⟨w1.heap.size + 1, 0, none⟩) 5 5) (List.replicate 5 []) :: Lst [(.slice none 0 0, [])] (.slice (some ⟨w1.heap.size, 0, none⟩) 5 5) (List.replicate 5 []) :: _) from e ▸ h2)
      clear h1 h2 e
      go_region
      all_goals (go_wp2_with fail; go_meet)
      all_goals refine ⟨_, _, rfl, rfl, hid ?_, hid (((HK1.out.alloc _).alloc _).drew)⟩
      · exact H2.out.p1.drew
      · exact H2.out.drew
    case rest =>
      clear hmk
      obtain ⟨g1, g2, rfl, rfl, HO2, HK2⟩ := hcut
      go_wp2_with fail
      go_loopw [8] (fun i w => ∃ k : Nat, k ≤ 5 ∧ i = .int .i64 k ∧ Hid (∃ B : Txs, (.slice none 0 0, []) ∈ B ∧ Has w (Lst B (.slice (some ⟨g1, 0, none⟩) 5 5) (List.replicate k zer ++ List.replicate (5 - k) []) :: Lst B (.slice (some ⟨g2, 0, none⟩) 5 5) (List.replicate k zer ++ List.replicate (5 - k) []) :: Pool B :: Dk d (Bk.zero 5) :: [old W])) ∧ Hid (Keep W w)) (fun i _ => 5 - (intOf i).toNat)
      case atStart => exact ⟨0, by omega, rfl, hid ⟨_, List.mem_singleton.2 rfl, HO2.out⟩, HK2⟩
      case round =>
        obtain ⟨k, hk, rfl, HY, HK⟩ := hrel
        obtain ⟨B, hB, hO⟩ := HY.out
        have HO := hid hO
        have HB := hid hB
        clear hO hB HY HO2 HK2
        by_cases hlt : k < 5
        · have hmk := make128
          obtain ⟨-, ht1, p1, m1, hc1, -, -⟩ := Lst.at_ HO.out.p2.p1 k (by simp; omega)
          obtain ⟨-, ht2, p2, m2, hc2, -, -⟩ := Lst.at_ HO.out.drop k (by simp; omega)
          have hg1 := World.block_lt_of_cell? wr ⟨g1, k, none⟩ hc1
          have hg2 := World.block_lt_of_cell? wr ⟨g2, k, none⟩ hc2
          simp only at hg1 hg2
          have hb0 : (0 : Int) ≤ (k : Int) := by omega
          have hb1 : (k : Int) < 5 := by omega
          have hne := Lst.ne HO.out
          have hx : ∀ u, (wr.setCell ⟨g1, k, none⟩ u).cell? ⟨g2, k, none⟩ = some (.slice p2 ((List.replicate k zer ++ List.replicate (5 - k) ([] : List Int))[k]'(by simp; omega)).length m2) := fun u => (World.cell?_of_block (Below.heap_setCell _ _ _ _ (by show g2 ≠ g1; exact hne.symm))).trans hc2
          have hy : ∀ u, (wr.setCell ⟨g1, k, none⟩ u).frozen? ⟨g2, k, none⟩ = false := fun u => (by rw [World.frozen?_setCell]; exact ht2 k)
          have HNE := hid hne
          clear hne
          obtain ⟨B', hBB, H4⟩ := twoZeros HO.out k (by simp; omega) (by simp; omega) hg1 hg2
          rw [fillUp 5 k _ _ hlt] at H4
          have HBB := hid hBB
          have H4 := hid H4
          clear hBB
          go_wp2_with fail
          go_region
          all_goals (go_wp2_with fail)
          all_goals refine ⟨⟨k + 1, by omega, by go_num, hid ⟨B', HBB.out _ HB.out, ?_⟩, hid ((((HK.out.set _ _).set _ _).alloc _).alloc _).drew⟩, by simp [intOf]; omega⟩
          · exact H4.out _ _ (.inl rfl) (.inr rfl)
          · exact H4.out _ _ (.inr rfl) (.inl rfl)
        · obtain rfl : k = 5 := by omega
          rw [show ((5 : Nat) : Int) = (5 : Int) from rfl]
          have HO := hid (show Has wr (Lst B (.slice (some ⟨g1, 0, none⟩) 5 5) (firmD 5 xs (bitOf fl) 0).firm :: Lst B (.slice (some ⟨g2, 0, none⟩) 5 5) (blayAll (firmD 5 xs (bitOf fl) 0).firm (firmD 5 xs (bitOf fl) 0).waits) :: Pool B :: Dk d (firmD 5 xs (bitOf fl) 0) :: [old W]) from HO.out)
          go_wp2_with fail
          go_loopw [10, 9] (fun i f w => ∃ k : Nat, k ≤ xs.length ∧ i = .int .i64 k ∧ f = .int .i64 (firmN (bitOf fl) k) ∧ Hid (∃ B : Txs, Has w (Lst B (.slice (some ⟨g1, 0, none⟩) 5 5) (firmD 5 xs (bitOf fl) k).firm :: Lst B (.slice (some ⟨g2, 0, none⟩) 5 5) (blayAll (firmD 5 xs (bitOf fl) k).firm (firmD 5 xs (bitOf fl) k).waits) :: Pool B :: Dk d (firmD 5 xs (bitOf fl) k) :: [old W])) ∧ Hid (Keep W w)) (fun i _ _ => xs.length - (intOf i).toNat)
          case atStart => exact ⟨0, by omega, rfl, rfl, hid ⟨B, HO.out⟩, HK⟩
          case round =>
            clear HO HK HB
            obtain ⟨k, hk, rfl, rfl, HY, HK⟩ := hrel
            obtain ⟨B, hO⟩ := HY.out
            have HO := hid hO
            clear hO HY
            by_cases hlt : k < xs.length
            · obtain ⟨p2, c2, e, -, -, hR⟩ := (Rd.start HR.out HO.out.p4).form
              simp only [Value.slice.injEq, true_and] at e
              obtain ⟨rfl, rfl⟩ := e
              obtain ⟨vg, vo, rfl, hc⟩ := hR (by omega)
              have hck : wr.cell? ⟨vg, vo + k, none⟩ = some (.int .i64 (nth xs k)) := by
                rw [hc k (by omega), ic_at xs k hlt]; simp [nth, hlt]
              clear hR hc
              obtain ⟨q, hq⟩ : ∃ q : Nat, (q : Int) = low (nth xs k) 5 := ⟨(low (nth xs k) 5).toNat, by have := low_in (nth xs k) 5 (by omega); omega⟩
              have hq5 : q < 5 := by have := low_in (nth xs k) 5 (by omega); omega
              have OK := hid (firmD_ok 5 (by omega) xs (bitOf fl) k)
              have E1 := hid (OK.out.write (q : Int) (by omega) (by omega) (fill k 128) (fill128 _))
              have X1 := hid (show (firmD 5 xs (bitOf fl) k).waits.length ≤ 1000000000 by have := OK.out.waits; omega)
              have X2 := hid (show (firmD 5 xs (bitOf fl) k).writes.length ≤ 1000000000 by have := OK.out.writes; omega)
              have EL := hid hq
              clear hq
              go_wp2_with fail
              refine (lowAny (nth xs k) 5 wr (by omega) (by omega)).mono ?_
              rintro e w' ⟨rfl, rfl⟩
              try dsimp only
              rw [← EL.out]
              go_wp2_with fail
              refine (fillAny128 k wr _ HO.out).mono ?_
              rintro e w3 ⟨vp3, vc3, rfl, hO3, hK3⟩
              have HO3 := hid hO3
              have HK3 := hid (HK.out.trans hK3)
              clear hO3 hK3
              try dsimp only
              go_wp2_with fail
              refine (kWrite d (firmD 5 xs (bitOf fl) k) w3 _ HO3.out.p4 q (.slice vp3 128 vc3) (fill k 128) X1.out X2.out (fun w' h => Bytes.rd h)).mono ?_
              rintro e w4 ⟨rfl, hO4, hK4⟩
              have HO4 := hid hO4
              have HK4 := hid ((HK3.out).trans hK4)
              clear hO4 hK4
              try dsimp only
              rw [E1.out.1]
              have XF := hid (show ((firmD 5 xs (bitOf fl) k).write (q : Int) (fill k 128)).2.firm = (firmD 5 xs (bitOf fl) k).firm by rw [E1.out.1])
              have XT := hid (show blayAll ((firmD 5 xs (bitOf fl) k).write (q : Int) (fill k 128)).2.firm ((firmD 5 xs (bitOf fl) k).write (q : Int) (fill k 128)).2.waits = (blayAll (firmD 5 xs (bitOf fl) k).firm (firmD 5 xs (bitOf fl) k).waits).set q (fill k 128) by rw [E1.out.1]; show blayAll (firmD 5 xs (bitOf fl) k).firm (_ ++ [_]) = _; rw [blayAll_snoc]; rfl)
              have XN := hid (show firmD 5 xs (bitOf fl) (k + 1) = if (bitOf fl) k then (((firmD 5 xs (bitOf fl) k).write (q : Int) (fill (k : Int) 128)).2.flush).2 else ((firmD 5 xs (bitOf fl) k).write (q : Int) (fill (k : Int) 128)).2 by rw [EL.out]; rfl)
              have XO := hid E1.out.2
              have XL := hid (show q < (blayAll (firmD 5 xs (bitOf fl) k).firm (firmD 5 xs (bitOf fl) k).waits).length by rw [blayAll_len, OK.out.len]; exact hq5)
              clear E1 X1 X2 EL OK HO3 HK3
              generalize ((firmD 5 xs (bitOf fl) k).write (q : Int) (fill k 128)).2 = D1 at *
              generalize blayAll (firmD 5 xs (bitOf fl) k).firm (firmD 5 xs (bitOf fl) k).waits = T at *
              rw [← XF.out] at HO4
              clear XF
              go_wp2_with fail
              refine (fillAny128 k w4 _ HO4.out).mono ?_
              rintro e w5 ⟨vp5, vc5, rfl, hO5, hK5⟩
              have HO5 := hid hO5.p5.p1.pool_add
              have HK5 := hid (HK4.out.trans hK5)
              clear hO5 hK5 HO4 HK4
              try dsimp only
              have hL2 := Lst.cons HO5.out.p4 (.slice vp5 128 vc5, fill (k : Int) 128)
              obtain ⟨-, ht, p, mm, hc, -, -⟩ := Lst.at_ hL2 q XL.out
              have HO6 := hid (Lst.cons (Lst.set hL2 q XL.out List.mem_cons_self).p3.drop.p3 (.slice vp5 128 vc5, fill (k : Int) 128))
              rw [← XT.out] at HO6
              have HK6 := hid (HK5.out.set ⟨g2, q, none⟩ (.slice vp5 128 vc5))
              clear hL2
              have HO6' := hid (show ∃ B : Txs, Has (w5.setCell ⟨g2, q, none⟩ (.slice vp5 128 vc5)) (Lst B (.slice (some ⟨g1, 0, none⟩) 5 5) D1.firm :: Lst B (.slice (some ⟨g2, 0, none⟩) 5 5) (blayAll D1.firm D1.waits) :: Pool B :: Dk d D1 :: [old W]) from ⟨_, HO6.out⟩)
              go_upto_if 62 with fail
              clear HO6 ht hc HO5 HK5
              generalize w5.setCell ⟨g2, q, none⟩ (.slice vp5 128 vc5) = w6 at *
              go_cut [9] (fun f wx => f = .int .i64 (firmN (bitOf fl) (k + 1)) ∧ Hid (∃ B : Txs, Has wx (Lst B (.slice (some ⟨g1, 0, none⟩) 5 5) (firmD 5 xs (bitOf fl) (k + 1)).firm :: Lst B (.slice (some ⟨g2, 0, none⟩) 5 5) (blayAll (firmD 5 xs (bitOf fl) (k + 1)).firm (firmD 5 xs (bitOf fl) (k + 1)).waits) :: Pool B :: Dk d (firmD 5 xs (bitOf fl) (k + 1)) :: [old W])) ∧ Hid (Keep W wx))
              case first =>
                rcases hb : (bits BinOp.and IntKind.i64 (fl / 2 ^ k) 1 == 1) with _ | _
                · have HB := hid (show bitOf fl k = false from hb)
                  go_wp2_with fail
                  go_meet
                  refine ⟨?_, hid ?_, HK6⟩
                  · rw [firmN_succ, HB.out]; rfl
                  · rw [XN.out, HB.out]; exact HO6'.out
                · have HB := hid (show bitOf fl k = true from hb)
                  obtain ⟨B1, hO⟩ := HO6'.out
                  have HO7 := hid hO.p3
                  have OF := hid XO.out.flush
                  have X3 := hid (show 0 ≤ D1.flushes ∧ D1.flushes ≤ 1000000000000 by have := XO.out.flushes; have := firmN_le (bitOf fl) k; omega)
                  have hfl := firmN_le (bitOf fl) k
                  have hfl2 : k ≤ 30 := by omega
                  have XN' := hid (show firmD 5 xs (bitOf fl) (k + 1) = D1.flush.2 by rw [XN.out, HB.out]; rfl)
                  have XF := hid (show D1.flush.2.firm = blayAll D1.firm D1.waits by rw [OF.out.1])
                  have XW := hid (show D1.flush.2.waits = [] by rw [OF.out.1])
                  have XL1 := hid (show D1.firm.length = (blayAll D1.firm D1.waits).length by rw [blayAll_len])
                  clear hO HO6' XN
                  go_wp2_with fail
                  refine (kFlush d D1 w6 _ HO7.out X3.out.1 X3.out.2).mono ?_
                  rintro e w8 ⟨rfl, hO8, hK8⟩
                  have HO8 := hid hO8
                  have HK8 := hid ((HK6.out).trans hK8)
                  clear hO8 hK8
                  try dsimp only
                  rw [OF.out.1]
                  have XO2 := hid OF.out.2
                  clear OF X3 HO7
                  generalize D1.flush.2 = D2 at *
                  go_wp2_with fail
                  refine (kWaiting d D2 w8 _ HO8.out (by rw [XW.out]; simp)).mono ?_
                  rintro e w9 ⟨v9, rfl, hO9, hK9⟩
                  obtain ⟨vp9, vc9, rfl, -⟩ := (Ints.rd hO9).form
                  rw [XW.out]
                  have HO9 := hid hO9.drop
                  have HK9 := hid (HK8.out.trans hK9)
                  clear hO9 hK9 HO8 HK8
                  try dsimp only
                  go_wp2_with (with_reducible refine wpList_copyLst rfl _ _ rfl HO9.out.p3.p3.p3 XL1.out rfl rfl ?_)
                  intro w10 hO10 hK10
                  have HO10 := hid hO10
                  have HK10 := hid (HK9.out.trans hK10)
                  clear hO10 hK10
                  go_wp2_with fail
                  go_meet
                  refine ⟨?_, hid ⟨B1, ?_⟩, HK10⟩
                  · rw [firmN_succ, HB.out]; rfl
                  · rw [XN'.out, XF.out, XW.out]; exact HO10.out
              case rest =>
                obtain ⟨rfl, HY, HK⟩ := hcut
                obtain ⟨B1, hO⟩ := HY.out
                have HO7 := hid hO
                have OK := hid (firmD_ok 5 (by omega) xs (bitOf fl) (k + 1))
                have XR := hid (OK.out.last q hq5)
                have XW := hid (show (firmD 5 xs (bitOf fl) (k + 1)).waits.length ≤ 1000000000 by have := OK.out.waits; omega)
                have XI := hid (show (firmD 5 xs (bitOf fl) (k + 1)).firm.length ≤ 1000000000 by rw [OK.out.len]; omega)
                have XT2 := hid (show q < (blayAll (firmD 5 xs (bitOf fl) (k + 1)).firm (firmD 5 xs (bitOf fl) (k + 1)).waits).length by rw [blayAll_len, OK.out.len]; exact hq5)
                clear hO HY OK XN XO HO6' XT XL HK6
                generalize hD3 : firmD 5 xs (bitOf fl) (k + 1) = D3 at *
                generalize hT3 : blayAll D3.firm D3.waits = T3 at *
                have HD3 := hid hD3
                have HT3 := hid hT3
                clear hD3 hT3
                go_wp2_with fail
                refine (kRead d D3 wc _ HO7.out.p3 q XW.out).mono ?_
                rintro e w8 ⟨v8, rfl, hO8, hK8⟩
                have HO8 := hid hO8
                have HK8 := hid ((HK.out).trans hK8)
                clear hO8 hK8
                try dsimp only
                rw [XR.out]
                rw [XR.out] at HO8
                have hxt : q < T3.length := XT2.out
                have XG := hid (show T3.getD q [] = T3[q] by simp [hxt])
                rw [XG.out] at HO8
                obtain ⟨-, -, p, mm, hc, hrd, -⟩ := Lst.at_ HO8.out.p4.p4 q hxt
                have Hrd := hid hrd
                clear hrd HO7 HK
                go_wp2_with fail
                refine (sameBytesYes v8 _ T3[q] w8 (Bytes.rd HO8.out) Hrd.out).mono ?_
                rintro e w' ⟨rfl, nq9, rfl⟩
                have HO9 := hid ((HO8.out.drop).drewN nq9)
                have HK9 := hid ((HK8.out).drewN nq9)
                try dsimp only
                clear HO8 HK8 hc
                generalize w8.drewN nq9 = w9 at *
                go_wp2_with fail
                refine (kImage d D3 w9 _ HO9.out XI.out).mono ?_
                rintro e w10 ⟨v10, rfl, hO10, hK10⟩
                have HO10 := hid hO10
                have HK10 := hid ((HK9.out).trans hK10)
                clear hO10 hK10
                try dsimp only
                go_wp2_with fail
                refine (sameTexts v10 _ D3.firm D3.firm w10 (Prts.rd HO10.out) (Lst.rd (HO10.out.p4.p3))).mono ?_
                rintro e w' ⟨rfl, nq11, rfl⟩
                have HO11 := hid ((HO10.out.drop).drewN nq11)
                have HK11 := hid ((HK10.out).drewN nq11)
                try dsimp only
                simp only [decide_true]
                clear HO9 HK9 HO10 HK10
                generalize w10.drewN nq11 = w11 at *
                go_wp2_with fail
                refine ⟨⟨k + 1, by omega, by go_num, rfl, hid ⟨B1, ?_⟩, HK11⟩, by simp [intOf]; omega⟩
                rw [HD3.out, HT3.out]
                exact HO11.out.b3
            · obtain rfl : k = xs.length := by omega
              have OK := hid (firmD_ok 5 (by omega) xs (bitOf fl) xs.length)
              have XW := hid (show (firmD 5 xs (bitOf fl) xs.length).writes.length = xs.length from OK.out.writes)
              have XF := hid (show (firmD 5 xs (bitOf fl) xs.length).flushes = firmN (bitOf fl) xs.length from OK.out.flushes)
              have XL := hid (show (firmD 5 xs (bitOf fl) xs.length).firm.length = 5 from OK.out.len)
              generalize firmD 5 xs (bitOf fl) xs.length = E at *
              generalize firmN (bitOf fl) xs.length = f at *
              clear OK
              have XC := hid (show (E.crash []).firm = E.firm from blayKept_nil _ _)
              have XC2 := hid (show (E.crash []).flushes = f by rw [← XF.out]; rfl)
              have XB := hid (show (E.crash []).boot = (0, { E.crash [] with on := true }) from rfl)
              have XB2 := hid (show ({ E.crash [] with on := true } : Bk).boot = (19, { E.crash [] with on := true }) from rfl)
              go_wp2_with fail
              refine (kWrites d E wr _ HO.out.p3 (by rw [XW.out]; omega)).mono ?_
              rintro e w6 ⟨v6, rfl, hO6, hK6⟩
              obtain ⟨vp6, vc6, rfl, -⟩ := (Ints.rd hO6).form
              rw [XW.out]
              have HO6 := hid hO6.drop
              have HK6 := hid (HK.out.trans hK6)
              clear hO6 hK6 HO HK
              try dsimp only
              go_wp2_with fail
              refine (kCrash0 d E w6 _ HO6.out).mono ?_
              rintro e w7 ⟨rfl, hO7, hK7⟩
              have HO7 := hid hO7
              have HK7 := hid ((HK6.out).trans hK7)
              clear hO7 hK7
              try dsimp only
              have XO := hid (show (E.crash []).on = false from rfl)
              generalize hE2 : ({ E.crash [] with on := true } : Bk) = E2 at *
              generalize E.crash [] = E1 at *
              clear hE2 HO6 HK6
              have ht : ((xs.length : Int) == (xs.length : Int)) = true := by simp
              have ht2 : ((f : Int) == (f : Int)) = true := by simp
              go_wp2_with fail
              refine (kFlushes d E1 w7 _ HO7.out).mono ?_
              rintro e w' ⟨rfl, rfl⟩
              try dsimp only
              rw [XC2.out]
              go_wp2_with fail
              refine (kImage d E1 w7 _ HO7.out (by rw [XC.out, XL.out]; omega)).mono ?_
              rintro e w8 ⟨v8, rfl, hO8, hK8⟩
              have HO8 := hid hO8
              have HK8 := hid ((HK7.out).trans hK8)
              clear hO8 hK8
              try dsimp only
              rw [XC.out] at HO8
              go_wp2_with fail
              refine (sameTexts v8 _ E.firm E.firm w8 (Prts.rd HO8.out) (Lst.rd (HO8.out.p4.p3))).mono ?_
              rintro e w' ⟨rfl, nq9, rfl⟩
              have HO9 := hid ((HO8.out.drop).drewN nq9)
              have HK9 := hid ((HK8.out).drewN nq9)
              try dsimp only
              simp only [decide_true]
              generalize w8.drewN nq9 = w9 at *
              clear HO7 HK7 HO8 HK8
              go_wp2_with fail
              refine (kOn d E1 w9 _ HO9.out).mono ?_
              rintro e w' ⟨rfl, rfl⟩
              try dsimp only
              rw [XO.out]
              go_wp2_with fail
              refine (kBoot d E1 w9 _ HO9.out).mono ?_
              rintro e w10 ⟨rfl, hO10, hK10⟩
              have HO10 := hid hO10
              have HK10 := hid ((HK9.out).trans hK10)
              clear hO10 hK10
              try dsimp only
              rw [XB.out]
              rw [XB.out] at HO10
              go_wp2_with fail
              refine (kBoot d E2 w10 _ HO10.out).mono ?_
              rintro e w11 ⟨rfl, hO11, hK11⟩
              have HO11 := hid hO11
              have HK11 := hid ((HK10.out).trans hK11)
              clear hO11 hK11
              try dsimp only
              rw [XB2.out]
              go_wp2_with fail
              refine (awake4 w11 _ HO11.out).mono ?_
              rintro e w12 ⟨rfl, hO12, hK12⟩
              have HO12 := hid hO12
              have HK12 := hid ((HK11.out).trans hK12)
              clear hO12 hK12
              try dsimp only
              go_wp2_with fail
              go_ret
              exact ⟨rfl, HO12.out.p4.below HK12.out.os HK12.out.tape HK12.out.output⟩
end Go.Proofs.Ytbcilhcmjkgkgaa
