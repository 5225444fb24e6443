/- TEXTS of mine, merged. -/
import Derived.Test.YtajlikakbihgbaaM11
import Derived.Test.YtajlikakbihgbaaM1
import Derived.ProofKit
import Derived.OpenShut
import Derived.ShutString
import Derived.ChangeOld
import Derived.Deep.Slices
/- CacheSees: what was put is got, whatever was dropped meanwhile. For every input. -/
namespace Go.Proofs.Ytajlikakbihgbaa
open Go.RowKit Go.Own Go.Dk Go.Ch
def i8 (l : List Int) : Array Value := (ic l).toArray
def b8 (l : List Bool) : Array Value := (l.map Value.bool).toArray
theorem i8_at (l : List Int) (k : Nat) (h : k < l.length) : (i8 l)[k]? = some (.int .i64 (l.getD k 0)) := by simp [i8, ic, h]
theorem b8_at (l : List Bool) (k : Nat) (h : k < l.length) : (b8 l)[k]? = some (.bool (l.getD k false)) := by simp [b8, h]
theorem i8_set (l : List Int) (k : Nat) (x : Int) : (i8 l).setIfInBounds k (.int .i64 x) = i8 (l.set k x) := by simp [i8, ic, List.map_set]
theorem b8_set (l : List Bool) (k : Nat) (x : Bool) : (b8 l).setIfInBounds k (.bool x) = b8 (l.set k x) := by simp [b8, List.map_set]
def wantF (Ls : List Int) (Hs : List Bool) (t : Int) : List Int := if Hs.getD t.toNat false then fill (Ls.getD t.toNat 0) 128 else zer
theorem wantF_len (Ls : List Int) (Hs : List Bool) (t : Int) : (wantF Ls Hs t).length = 128 := by
  unfold wantF
  split
  · exact fill128 _
  · rw [zer, List.length_replicate]
theorem Inv.congr {K : List Hb} {E : Bk} {want want' : Int → List Int} (H : Inv K E want) (h : ∀ t, 0 ≤ t → t < 8 → want t = want' t) : Inv K E want' where
  a x hx := by
    have h1 := H.a x hx
    rw [← h _ h1.2.1 h1.2.2]
    exact h1
  b s h0 h8 hs := by rw [← h s h0 h8]; exact H.b s h0 h8 hs
  c := H.c
  p := H.p
  on := H.on
  arm := H.arm
  len := H.len
theorem upd_want (Ls : List Int) (Hs : List Bool) (s : Nat) (i : Int) (hL : s < Ls.length) (hH : s < Hs.length) (t : Int) (h0 : 0 ≤ t) : upd (wantF Ls Hs) s (fill i 128) t = wantF (Ls.set s i) (Hs.set s true) t := by
  unfold upd wantF
  by_cases e : t = (s : Int)
  · subst e
    rw [if_pos rfl, Int.toNat_natCast]
    simp [hL, hH]
  · rw [if_neg e]
    have hn : s ≠ t.toNat := by omega
    have h1 : (Hs.set s true).getD t.toNat false = Hs.getD t.toNat false := by simp only [List.getD, List.getElem?_set_ne hn]
    have h2 : (Ls.set s i).getD t.toNat 0 = Ls.getD t.toNat 0 := by simp only [List.getD, List.getElem?_set_ne hn]
    rw [h1, h2]
theorem inv0 : Inv [] (Bk.zero 8) (wantF (List.replicate 8 0) (List.replicate 8 false)) where
  a := by simp
  b s h0 h8 _ := by
    have hs : s.toNat < 8 := by omega
    show ((List.replicate 8 zer)[s.toNat]?).getD [] = _
    unfold wantF
    have h1 : (List.replicate 8 false).getD s.toNat false = false := by rw [List.getD, List.getElem?_replicate, if_pos hs]; rfl
    rw [h1, if_neg Bool.false_ne_true, List.getElem?_replicate, if_pos hs]
    rfl
  c := List.nodup_nil
  p := by simp
  on := rfl
  arm := rfl
  len := by simp [Bk.zero]
set_option maxRecDepth 100000 in
set_option maxHeartbeats 8000000 in
theorem seesWalk (v : Value) (xs : List Int) (pins most : Int) (W : World) (hr : Rd W v 1 xs.length (ic xs)) :
    Calls Try.prog 3 #[v, .int .i64 pins, .int .i64 most] W fun e w' => e = .returned (.bool true) ∧ Below W.heap.size W w' := by
  obtain ⟨vp, vc, rfl, hvc, hvl, -⟩ := hr.form
  have HR := hid hr
  have HO0 := hid (Has.start W)
  clear hr
  by_cases hbig : 40 < xs.length
  · go_enter Try.func3, Try.ntmps3
    go_wp2_with fail
    refine (awake18 W _ HO0.out).mono ?_
    rintro e w1 ⟨rfl, hO1, hK1⟩
    have HO1 := hid hO1
    have HK1 := hid ((Keep.refl W).trans hK1)
    clear hO1 hK1
    try dsimp only
    go_wp2_with fail
    go_ret
    exact ⟨rfl, HO1.out.below HK1.out.os HK1.out.tape HK1.out.output⟩
  · obtain ⟨m, hm⟩ : ∃ m : Nat, (m : Int) = low most 6 := ⟨(low most 6).toNat, by have := low_in most 6 (by omega); omega⟩
    have hml : m ≤ 5 := by have := low_in most 6 (by omega); omega
    have HM := hid hm
    have hm0 : (0 : Int) ≤ (m : Int) := by omega
    have hm8 : (m : Int) ≤ 5 := by omega
    clear hm
    go_enter Try.func3, Try.ntmps3
    go_wp2_with fail
    refine (kNew 8 W _ (by omega) (by omega) HO0.out).mono ?_
    rintro e w1 ⟨d, rfl, hO1, hK1⟩
    have HO1 := hid hO1
    have HK1 := hid ((Keep.refl W).trans hK1)
    clear hO1 hK1
    try dsimp only
    go_wp2_with fail
    refine (lowAny most 6 w1 (by omega) (by omega)).mono ?_
    rintro e w' ⟨rfl, rfl⟩
    try dsimp only
    rw [← HM.out]
    have hmo : (1 : Int) ≤ 1 + (m : Int) := by omega
    have hmo2 : 0 ≤ 1 + (m : Int) ∧ 1 + (m : Int) ≤ 1000000 := by omega
    have HMO := hid hmo2
    clear hmo2
    go_wp2_with fail
    refine (kcNew (dP d) ⟨d, 0, none⟩ rfl (1 + (m : Int)) w1 _ hmo HO1.out).mono ?_
    rintro e w2 ⟨q, rfl, hO2, hK2⟩
    have HO2 := hid hO2
    have HK2 := hid ((HK1.out).trans hK2)
    clear hO2 hK2
    try dsimp only
    have HO3 := hid (show Has ((w2.alloc (.cells (i8 (List.replicate 8 0)) 29)).alloc (.cells (b8 (List.replicate 8 false)) 30)) (Cch q (dP d) (1 + (m : Int)) [] :: Dk d (Bk.zero 8) :: pt w2.heap.size (.cells (i8 (List.replicate 8 0)) 29) :: pt (w2.heap.size + 1) (.cells (b8 (List.replicate 8 false)) 30) :: [old W]) from by
      have h := (HO2.out.alloc (.cells (i8 (List.replicate 8 0)) 29)).alloc (.cells (b8 (List.replicate 8 false)) 30)
      have e : (w2.alloc (.cells (i8 (List.replicate 8 0)) 29)).heap.size = w2.heap.size + 1 := Array.size_push _
      rw [e] at h
      exact h.re 4 [2, 3, 1, 0])
    have HK3 := hid ((HK2.out.alloc (.cells (i8 (List.replicate 8 0)) 29)).alloc (.cells (b8 (List.replicate 8 false)) 30))
    clear HO0 HO1 HO2 HK1 HK2
    go_wp2_with fail
    generalize w2.heap.size = g1 at *
    generalize hg2 : g1 + 1 = g2 at *
    clear hg2
    go_loopw [11] (fun i w => ∃ (k : Nat) (Ls : List Int) (Hs : List Bool) (K : List Hb) (E : Bk), k ≤ xs.length ∧ i = .int .i64 k ∧ Hid (Ls.length = 8 ∧ Hs.length = 8 ∧ K.length ≤ k ∧ E.waits.length ≤ k ∧ E.writes.length ≤ k) ∧ Hid (Inv K E (wantF Ls Hs)) ∧ Hid (Has w (Cch q (dP d) (1 + (m : Int)) K :: Dk d E :: pt g1 (.cells (i8 Ls) 29) :: pt g2 (.cells (b8 Hs) 30) :: [old W])) ∧ Hid (Keep W w)) (fun i _ => xs.length - (intOf i).toNat)
    case atStart => exact ⟨0, _, _, [], Bk.zero 8, by omega, rfl, hid ⟨by simp, by simp, by simp, by simp [Bk.zero], by simp [Bk.zero]⟩, hid inv0, HO3, HK3⟩
    case round =>
      clear HO3 HK3
      obtain ⟨k, Ls, Hs, K, E, hk, rfl, HN, HI, HO, HK⟩ := hrel
      by_cases hlt : k < xs.length
      · have hki : (k : Int) < (xs.length : Int) := by omega
        have hk0 : (0 : Int) ≤ (k : Int) := by omega
        obtain ⟨p2, c2, e, -, -, hR⟩ := (Rd.start HR.out HO.out.p4).form
        simp only [Value.slice.injEq, true_and] at e
        obtain ⟨rfl, rfl⟩ := e
        obtain ⟨vg, vo, rfl, hc⟩ := hR (by omega)
        have hck : wr.cell? ⟨vg, vo + k, none⟩ = some (.int .i64 (nth xs k)) := by
          rw [hc k (by omega), ic_at xs k hlt]; simp [nth, hlt]
        clear hR hc
        obtain ⟨s, hs⟩ : ∃ s : Nat, (s : Int) = low (nth xs k) 8 := ⟨(low (nth xs k) 8).toNat, by have := low_in (nth xs k) 8 (by omega); omega⟩
        have hs8 : s < 8 := by have := low_in (nth xs k) 8 (by omega); omega
        have HS := hid hs
        have HS8 := hid hs8
        have hs0 : (0 : Int) ≤ (s : Int) := by omega
        have hsi8 : (s : Int) < 8 := by omega
        clear hs
        go_wp2_with fail
        refine (lowAny (nth xs k) 8 wr (by omega) (by omega)).mono ?_
        rintro e w' ⟨rfl, rfl⟩
        try dsimp only
        rw [← HS.out]
        clear hck
        go_wp2_with fail
        refine (fillAny128 k wr _ HO.out).mono ?_
        rintro e w3 ⟨vp3, vc3, rfl, hO3, hK3⟩
        have HO3 := hid hO3
        have HK3 := hid (HK.out.trans hK3)
        clear hO3 hK3
        try dsimp only
        go_wp2_with fail
        refine (kcPutI q d (1 + (m : Int)) K E (wantF Ls Hs) w3 _ HI.out HMO.out (by have := HN.out; omega) (HO3.out.re 3 [1, 2, 0]) s (.slice vp3 128 vc3) (fill k 128) hs0 hsi8 (fill128 _) (fun w' h => Bytes.rd h)).mono ?_
        rintro e w4 ⟨K4, rfl, hI4, hO4, hK4⟩
        have HO4 := hid hO4
        have HK4 := hid ((HK3.out).trans hK4)
        clear hO4 hK4
        try dsimp only
        have HI4 := hid hI4
        clear hI4 HO HK HO3 HK3 HS HI
        have HO5 := hid (show Has w4 (pt g1 (.cells (i8 Ls) 29) :: pt g2 (.cells (b8 Hs) 30) :: Cch q (dP d) (1 + (m : Int)) K4 :: Dk d E :: [old W]) from HO4.out.re 5 [3, 4, 0, 1])
        have HO6 := hid (HO5.out.set s (.int .i64 k))
        rw [i8_set] at HO6
        have HO7 := hid (HO6.out.p1.set s (.bool true))
        rw [b8_set] at HO7
        have HK7 := hid ((HK4.out.set ⟨g1, s, none⟩ (.int .i64 k)).set ⟨g2, s, none⟩ (.bool true))
        have hc1 : w4.cell? ⟨g1, s, none⟩ = some (.int .i64 (Ls.getD s 0)) := by rw [HO5.out.cells s]; exact i8_at Ls s (by rw [HN.out.1]; exact HS8.out)
        have ht1 := HO5.out.thaw
        have hc2 : (w4.setCell ⟨g1, s, none⟩ (.int .i64 k)).cell? ⟨g2, s, none⟩ = some (.bool (Hs.getD s false)) := by rw [HO6.out.p1.cells s]; exact b8_at Hs s (by rw [HN.out.2.1]; exact HS8.out)
        have ht2 := HO6.out.p1.thaw
        have hk40 : (k : Int) < 40 := by omega
        have hmod : (k : Int).tmod 60 = (k : Int) := Int.tmod_eq_of_lt hk0 (by omega)
        have HI7 := hid (Inv.congr HI4.out.1 (fun t h0 _ => upd_want Ls Hs s k (by rw [HN.out.1]; exact HS8.out) (by rw [HN.out.2.1]; exact HS8.out) t h0))
        have HN7 := hid (show (Ls.set s (k : Int)).length = 8 ∧ (Hs.set s true).length = 8 ∧ K4.length ≤ k + 1 ∧ E.waits.length ≤ k ∧ E.writes.length ≤ k from ⟨by rw [List.length_set]; exact HN.out.1, by rw [List.length_set]; exact HN.out.2.1, by have := HI4.out.2.2; have := HN.out.2.2.1; omega, HN.out.2.2.2.1, HN.out.2.2.2.2⟩)
        have HM4 := hid HI4.out.2.1
        clear HO4 HK4 HI4
        go_upto_if 72 with fail
        · have HO7' := hid (show Has ((w4.setCell ⟨g1, s, none⟩ (.int .i64 k)).setCell ⟨g2, s, none⟩ (.bool true)) (Cch q (dP d) (1 + (m : Int)) K4 :: Dk d E :: pt g1 (.cells (i8 (Ls.set s (k : Int))) 29) :: pt g2 (.cells (b8 (Hs.set s true)) 30) :: [old W]) from HO7.out.re 4 [2, 3, 1, 0])
          clear hc1 ht1 hc2 ht2 HO5 HO6 HO7
          generalize (w4.setCell ⟨g1, s, none⟩ (.int .i64 k)).setCell ⟨g2, s, none⟩ (.bool true) = w7 at *
          refine (kcCleanI q d (1 + (m : Int)) K4 E (wantF (Ls.set s (k : Int)) (Hs.set s true)) w7 _ HI7.out HMO.out (by have := HN7.out.2.2.1; omega) (wantF_len _ _) HO7'.out s hs0 hsi8 (by have := HN7.out.2.2.2.1; omega) (by have := HN7.out.2.2.2.2; omega)).mono ?_
          rintro e w8 ⟨r, K8, E8, rfl, hI8, hO8, hK8⟩
          have HO8 := hid hO8
          have HK8 := hid (HK7.out.trans hK8)
          have HII := hid hI8.1
          have HNN := hid (show (Ls.set s (k : Int)).length = 8 ∧ (Hs.set s true).length = 8 ∧ K8.length ≤ k + 1 ∧ E8.waits.length ≤ k + 1 ∧ E8.writes.length ≤ k + 1 from ⟨HN7.out.1, HN7.out.2.1, by have := hI8.2.2.2.2.1; have := HN7.out.2.2.1; omega, by have := hI8.2.2.2.2.2.1; have := HN7.out.2.2.2.1; omega, by have := hI8.2.2.2.2.2.2; have := HN7.out.2.2.2.2; omega⟩)
          obtain rfl : r = 0 := hI8.2.2.1 ⟨_, HM4.out, rfl⟩
          clear hO8 hK8 hI8 HO7' HK7 HM4 HN7 HI7 HN
          try dsimp only
          go_wp2_with fail
          go_wp2_with fail
          refine (lowAny k 5 w8 (by omega) (by omega)).mono ?_
          rintro e w' ⟨rfl, rfl⟩
          try dsimp only
          have hlo := low_in k 5 (by omega)
          go_wp2_with fail
          refine (kcDropI q d (1 + (m : Int)) K8 E8 (wantF (Ls.set s (k : Int)) (Hs.set s true)) w8 _ HII.out (by have := HNN.out.2.2.1; omega) (HO8.out) (low k 5) (by omega)).mono ?_
          rintro e w9 ⟨r9, K9, rfl, hI9, hO9, hK9⟩
          have HO9 := hid hO9
          have HK9 := hid ((HK8.out).trans hK9)
          clear hO9 hK9
          try dsimp only
          have HI9 := hid hI9
          clear hI9 hlo
          go_wp2_with fail
          exact ⟨⟨k + 1, Ls.set s (k : Int), Hs.set s true, K9, E8, by omega, by go_num, hid ⟨HNN.out.1, HNN.out.2.1, by have := HNN.out.2.2.1; have := HI9.out.2; omega, HNN.out.2.2.2.1, HNN.out.2.2.2.2⟩, hid HI9.out.1, HO9, HK9⟩, by simp [intOf]; omega⟩
        · have HO7' := hid (show Has ((w4.setCell ⟨g1, s, none⟩ (.int .i64 k)).setCell ⟨g2, s, none⟩ (.bool true)) (Cch q (dP d) (1 + (m : Int)) K4 :: Dk d E :: pt g1 (.cells (i8 (Ls.set s (k : Int))) 29) :: pt g2 (.cells (b8 (Hs.set s true)) 30) :: [old W]) from HO7.out.re 4 [2, 3, 1, 0])
          clear hc1 ht1 hc2 ht2 HO5 HO6 HO7
          generalize (w4.setCell ⟨g1, s, none⟩ (.int .i64 k)).setCell ⟨g2, s, none⟩ (.bool true) = w7 at *
          have HII := HI7
          have HNN := hid (show (Ls.set s (k : Int)).length = 8 ∧ (Hs.set s true).length = 8 ∧ K4.length ≤ k + 1 ∧ E.waits.length ≤ k + 1 ∧ E.writes.length ≤ k + 1 from ⟨HN7.out.1, HN7.out.2.1, HN7.out.2.2.1, by have := HN7.out.2.2.2.1; omega, by have := HN7.out.2.2.2.2; omega⟩)
          clear HM4 HN7 HI7 HN
          go_wp2_with fail
          go_wp2_with fail
          refine (lowAny k 5 w7 (by omega) (by omega)).mono ?_
          rintro e w' ⟨rfl, rfl⟩
          try dsimp only
          have hlo := low_in k 5 (by omega)
          go_wp2_with fail
          refine (kcDropI q d (1 + (m : Int)) K4 E (wantF (Ls.set s (k : Int)) (Hs.set s true)) w7 _ HII.out (by have := HNN.out.2.2.1; omega) (HO7'.out) (low k 5) (by omega)).mono ?_
          rintro e w9 ⟨r9, K9, rfl, hI9, hO9, hK9⟩
          have HO9 := hid hO9
          have HK9 := hid ((HK7.out).trans hK9)
          clear hO9 hK9
          try dsimp only
          have HI9 := hid hI9
          clear hI9 hlo
          go_wp2_with fail
          exact ⟨⟨k + 1, Ls.set s (k : Int), Hs.set s true, K9, E, by omega, by go_num, hid ⟨HNN.out.1, HNN.out.2.1, by have := HNN.out.2.2.1; have := HI9.out.2; omega, HNN.out.2.2.2.1, HNN.out.2.2.2.2⟩, hid HI9.out.1, HO9, HK9⟩, by simp [intOf]; omega⟩
      · obtain rfl : k = xs.length := by omega
        have hki : ¬ (xs.length : Int) < (xs.length : Int) := by omega
        have HB0 := hid (show Ls.length = 8 ∧ Hs.length = 8 ∧ K.length ≤ 40 ∧ E.waits.length ≤ 40 ∧ E.writes.length ≤ 40 from ⟨HN.out.1, HN.out.2.1, by have := HN.out.2.2.1; omega, by have := HN.out.2.2.2.1; omega, by have := HN.out.2.2.2.2; omega⟩)
        clear hlt hk HN HR
        go_wp2_with fail
        go_loopw [13] (fun i w => ∃ (s : Nat) (K : List Hb) (E : Bk), s ≤ 8 ∧ i = .int .i64 s ∧ Hid (K.length ≤ 40 + s ∧ E.waits.length ≤ 40 + s ∧ E.writes.length ≤ 40 + s) ∧ Hid (∀ h ∈ K, h.dirty = true → (s : Int) ≤ h.at_) ∧ Hid (Inv K E (wantF Ls Hs)) ∧ Hid (Has w (Cch q (dP d) (1 + (m : Int)) K :: Dk d E :: pt g1 (.cells (i8 Ls) 29) :: pt g2 (.cells (b8 Hs) 30) :: [old W])) ∧ Hid (Keep W w)) (fun i _ => 8 - (intOf i).toNat)
        case atStart => exact ⟨0, K, E, by omega, rfl, hid ⟨HB0.out.2.2.1, HB0.out.2.2.2.1, HB0.out.2.2.2.2⟩, hid (fun h hh _ => (HI.out.a h hh).2.1), HI, HO, HK⟩
        case round =>
          clear HO HK HI
          have HL8 := hid HB0.out.1
          have HH8 := hid HB0.out.2.1
          clear HB0
          clear E K
          obtain ⟨s, K, E, hk, rfl, HN, HD, HI, HO, HK⟩ := hrel
          by_cases hlt : s < 8
          · have hs0 : (0 : Int) ≤ (s : Int) := by omega
            have hsi8 : (s : Int) < 8 := by omega
            have hmk := make128 wr
            have HM0 := hid (made128 HO.out)
            have HKM := hid (HK.out.alloc (.cells zeros128 5))
            have hc2 : (wr.alloc (.cells zeros128 5)).cell? ⟨g2, s, none⟩ = some (.bool (Hs.getD s false)) := by rw [HM0.out.p4.cells s]; exact b8_at Hs s (by rw [HH8.out]; exact hlt)
            have hc1 : (wr.alloc (.cells zeros128 5)).cell? ⟨g1, s, none⟩ = some (.int .i64 (Ls.getD s 0)) := by rw [HM0.out.p3.cells s]; exact i8_at Ls s (by rw [HL8.out]; exact hlt)
            have HW := hid (show wantF Ls Hs (s : Int) = if Hs.getD s false then fill (Ls.getD s 0) 128 else zer from by unfold wantF; rw [Int.toNat_natCast])
            have HWL := hid (wantF_len Ls Hs (s : Int))
            have HLT := hid hlt
            clear hlt hk HO HK HL8 HH8
            generalize hwa : wantF Ls Hs (s : Int) = wa at *
            have HWA := hid hwa
            clear hwa
            generalize Hs.getD s false = hb at *
            generalize Ls.getD s 0 = lb at *
            go_upto_if 84 with fail
            clear hmk
            generalize wr.alloc (.cells zeros128 5) = wm at *
            generalize wr.heap.size = gm at *
            go_cut [14] (fun a wx => ∃ (p : Option Addr) (c : Nat), a = .slice p 128 c ∧ Hid (Has wx (Bytes (.slice p 128 c) wa :: Cch q (dP d) (1 + (m : Int)) K :: Dk d E :: pt g1 (.cells (i8 Ls) 29) :: pt g2 (.cells (b8 Hs) 30) :: [old W])) ∧ Hid (Keep W wx))
            case first =>
              cases hb
              · rw [if_neg Bool.false_ne_true] at HW
                go_wp2_with fail
                go_meet
                refine ⟨_, _, rfl, ?_, HKM⟩
                rw [HW.out]
                exact HM0
              · rw [if_pos rfl] at HW
                go_wp2_with fail
                refine (fillAny128 lb wm _ HM0.out.drop).mono ?_
                rintro e w3 ⟨vp3, vc3, rfl, hO3, hK3⟩
                have HO3 := hid hO3
                have HK3 := hid (HKM.out.trans hK3)
                clear hO3 hK3
                try dsimp only
                go_wp2_with fail
                go_meet
                refine ⟨_, _, rfl, ?_, HK3⟩
                rw [HW.out]
                exact HO3
            case rest =>
              clear hc1 hc2 HM0 HKM HW
              obtain ⟨ap, ac, rfl, HO, HK⟩ := hcut
              have hGet := kcGetI q d (1 + (m : Int)) K E (wantF Ls Hs) wc (Bytes (.slice ap 128 ac) wa :: pt g1 (.cells (i8 Ls) 29) :: pt g2 (.cells (b8 Hs) 30) :: [old W]) HI.out HMO.out (by have := HN.out.1; have := HLT.out; omega) (wantF_len _ _) (HO.out.re 3 [1, 2, 0]) s hs0 hsi8 (by have := HN.out.2.1; have := HLT.out; omega)
              rw [HWA.out] at hGet
              have HGet := hid hGet
              clear hGet
              go_wp2_with fail
              refine (HGet.out).mono ?_
              rintro e w4 ⟨v4, K4, rfl, hI4, hO4, hK4⟩
              have HO4 := hid hO4
              have HK4 := hid ((HK.out).trans hK4)
              clear hO4 hK4
              try dsimp only
              have HI4 := hid hI4.1
              have HN4 := hid (show K4.length ≤ 40 + s + 1 by have := hI4.2.1; have := HN.out.1; omega)
              have HD4 := hid (show ∀ h ∈ K4, h.dirty = true → (s : Int) ≤ h.at_ from fun h hh hd => HD.out h (hI4.2.2 h hh hd) hd)
              clear hI4 HGet HO HK HI HD
              obtain ⟨p4, c4, e4, -⟩ := (Bytes.rd HO4.out).form
              rw [HWL.out] at e4
              subst e4
              have HR2 := hid (show Rd w4 (.slice ap 128 ac) 1 wa.length (bc wa) from by have h := Bytes.rd HO4.out.p3; exact h)
              go_wp2_with fail
              refine (sameBytesYes (.slice p4 128 c4) (.slice ap 128 ac) wa w4 (Bytes.rd HO4.out) HR2.out).mono ?_
              rintro e w' ⟨rfl, nq5, rfl⟩
              have HO5 := hid ((HO4.out).drewN nq5)
              have HK5 := hid ((HK4.out).drewN nq5)
              try dsimp only
              generalize w4.drewN nq5 = w5 at *
              clear HR2
              go_wp2_with fail
              refine (kcCleanI q d (1 + (m : Int)) K4 E (wantF Ls Hs) w5 (Bytes (.slice p4 128 c4) wa :: Bytes (.slice ap 128 ac) wa :: pt g1 (.cells (i8 Ls) 29) :: pt g2 (.cells (b8 Hs) 30) :: [old W]) HI4.out HMO.out (by have := HN4.out; have := HLT.out; omega) (wantF_len _ _) (HO5.out.re 4 [1, 2, 0, 3]) s hs0 hsi8 (by have := HN.out.2.1; have := HLT.out; omega) (by have := HN.out.2.2; have := HLT.out; omega)).mono ?_
              rintro e w6 ⟨r, K6, E6, rfl, hI6, hO6, hK6⟩
              have HO6 := hid hO6
              have HK6 := hid ((HK5.out).trans hK6)
              clear hO6 hK6
              try dsimp only
              have HI6 := hid hI6.1
              have HLA := hid (show r = 0 → E6.last s = wa from fun h => by rw [← HWA.out]; exact hI6.2.1 h)
              have HD6 := hid (show ∀ h ∈ K6, h.dirty = true → ((s + 1 : Nat) : Int) ≤ h.at_ from fun h hh hd => by
                have h1 := hI6.2.2.2.1 h hh hd
                have h2 := HD4.out h h1.1 hd
                have h3 := h1.2
                omega)
              have HN6 := hid (show K6.length ≤ 40 + (s + 1) ∧ E6.waits.length ≤ 40 + (s + 1) ∧ E6.writes.length ≤ 40 + (s + 1) from ⟨by have := hI6.2.2.2.2.1; have := HN4.out; omega, by have := hI6.2.2.2.2.2.1; have := HN.out.2.1; omega, by have := hI6.2.2.2.2.2.2; have := HN.out.2.2; omega⟩)
              clear hI6 HI4 HD4 HN4 HN
              have HRD := hid (kRead d E6 w6 _ HO6.out.p1 s (by have := HN6.out.2.1; have := HLT.out; omega))
              rw [HI6.out.read s hs0 hsi8] at HRD
              go_wp2_with fail
              refine (HRD.out).mono ?_
              rintro e w7 ⟨v7, rfl, hO7, hK7⟩
              have HO7 := hid hO7
              have HK7 := hid ((HK6.out).trans hK7)
              clear hO7 hK7
              try dsimp only
              clear HRD
              by_cases hr0 : r = 0
              · subst hr0
                have hla := HLA.out rfl
                rw [hla] at HO7
                clear hla
                go_wp2_with fail
                refine (sameBytesYes v7 (.slice ap 128 ac) wa w7 (Bytes.rd HO7.out) (Bytes.rd HO7.out.p4)).mono ?_
                rintro e w' ⟨rfl, nq8, rfl⟩
                have HO8 := hid ((HO7.out).drewN nq8)
                have HK8 := hid ((HK7.out).drewN nq8)
                try dsimp only
                generalize w7.drewN nq8 = w8 at *
                go_wp2_with fail
                exact ⟨⟨s + 1, K6, E6, by have := HLT.out; omega, by go_num, HN6, HD6, HI6, hid (HO8.out.re 7 [2, 1, 5, 6]), HK8⟩, by have := HLT.out; simp [intOf]; omega⟩
              · go_wp2_with fail
                exact ⟨⟨s + 1, K6, E6, by have := HLT.out; omega, by go_num, HN6, HD6, HI6, hid (HO7.out.re 7 [2, 1, 5, 6]), HK7⟩, by have := HLT.out; simp [intOf]; omega⟩
          · obtain rfl : s = 8 := by omega
            rw [show ((8 : Nat) : Int) = (8 : Int) from rfl]
            have HNO := hid (show sorted (dirts K) = [] from by
              have e : K.filter Hb.dirty = [] := by
                rw [List.filter_eq_nil_iff]
                intro x hx hd
                have h1 := HD.out x hx (by simpa using hd)
                have h2 := (HI.out.a x hx).2.2
                have e8 : ((8 : Nat) : Int) = 8 := rfl
                omega
              unfold dirts
              rw [e]
              simp [sorted])
            go_wp2_with fail
            refine (kcGetNil 0 wr).mono ?_
            rintro e w' ⟨rfl, rfl⟩
            try dsimp only
            go_wp2_with fail
            refine (kcDirty q (dP d) (1 + (m : Int)) K wr _ (by have := HN.out.1; omega) HO.out).mono ?_
            rintro e w4 ⟨v4, rfl, hO4, hK4⟩
            have HO4 := hid hO4
            have HK4 := hid ((HK.out).trans hK4)
            clear hO4 hK4
            try dsimp only
            rw [HNO.out] at HO4
            obtain ⟨p4, c4, rfl, -⟩ := (Ints.rd HO4.out).form
            go_wp2_with fail
            refine (kcPutNil 0 none 0 0 w4).mono ?_
            rintro e w' ⟨rfl, rfl⟩
            try dsimp only
            go_wp2_with fail
            refine (kcDropNil 1 w4).mono ?_
            rintro e w' ⟨rfl, rfl⟩
            try dsimp only
            go_wp2_with fail
            refine (kcHeldNil w4).mono ?_
            rintro e w' ⟨rfl, rfl⟩
            try dsimp only
            go_wp2_with fail
            refine (awake18 w4 _ HO4.out).mono ?_
            rintro e w5 ⟨rfl, hO5, hK5⟩
            have HO5 := hid hO5
            have HK5 := hid ((HK4.out).trans hK5)
            clear hO5 hK5
            try dsimp only
            go_wp2_with fail
            go_ret
            exact ⟨rfl, HO5.out.re 6 [5] |>.below HK5.out.os HK5.out.tape HK5.out.output⟩
end Go.Proofs.Ytajlikakbihgbaa
/- HOW ARGUMENTS ARE OPENED: from the form's reading to cells. No program in sight. -/
namespace Go.Own
open Go.ChangeShapes Go.WideShapes Go.ChangeAt Go.RowKit
theorem flat_len (n size : Nat) (C : Nat → List Value) (h : ∀ i, i < n → (C i).length = size) : ((List.range n).flatMap C).length = n * size := by
  induction n with
  | zero => simp
  | succ n ih =>
    rw [List.range_succ, List.flatMap_append, List.length_append, ih fun i hi => h i (by omega)]
    simp [h n (by omega), Nat.succ_mul]
theorem flat_drop (n size : Nat) (C : Nat → List Value) (h : ∀ i, i < n → (C i).length = size) (i : Nat) (hi : i < n) :
    ∃ R, ((List.range n).flatMap C).drop (i * size) = C i ++ R := by
  induction n with
  | zero => omega
  | succ n ih =>
    rw [List.range_succ, List.flatMap_append]
    have hl := flat_len n size C fun i hi => h i (by omega)
    by_cases hin : i = n
    · subst hin
      refine ⟨[], ?_⟩
      rw [List.drop_append_of_le_length (by rw [hl]; exact Nat.le_refl _), List.drop_of_length_le (by rw [hl]; exact Nat.le_refl _)]
      simp
    · obtain ⟨R, hR⟩ := ih (fun i hi => h i (by omega)) (by omega)
      refine ⟨R ++ [n].flatMap C, ?_⟩
      rw [List.drop_append_of_le_length (by rw [hl]; exact Nat.mul_le_mul_right _ (by omega)), hR, List.append_assoc]
theorem flat_slice (n size : Nat) (C : Nat → List Value) (h : ∀ i, i < n → (C i).length = size) (i : Nat) (hi : i < n) :
    (((List.range n).flatMap C).drop (i * size)).take size = C i := by
  obtain ⟨R, hR⟩ := flat_drop n size C h i hi
  rw [hR, ← h i hi, List.take_left]
theorem flat_at (n size : Nat) (C : Nat → List Value) (h : ∀ i, i < n → (C i).length = size) (i : Nat) (hi : i < n) (j : Nat) (hj : j < size) :
    (C i)[j]? = ((List.range n).flatMap C)[i * size + j]? := by
  rw [← flat_slice n size C h i hi, List.getElem?_take, if_pos hj, List.getElem?_drop]
theorem cells?_parts {w : World} {b : Nat} {a : Addr} {n : Nat} {cs : List Value} (h : w.cells? b a n = some cs) : cs.length = n ∧ ∀ j, j < n → w.cell? (a.add j) = cs[j]? := by
  unfold World.cells? at h
  split at h
  · have : ∀ (l : List Nat) (cs : List Value), (l.mapM fun i => w.cell? (a.add i)) = some cs → cs.length = l.length ∧ ∀ (j i : Nat), l[j]? = some i → w.cell? (a.add i) = cs[j]? := by
      intro l
      induction l with
      | nil => intro cs h; simp at h; subst h; simp
      | cons x l ih =>
        intro cs h
        simp only [List.mapM_cons, Option.pure_def, Option.bind_eq_bind] at h
        obtain ⟨y, hy, h⟩ := Option.bind_eq_some_iff.1 h
        obtain ⟨ys, hys, h⟩ := Option.bind_eq_some_iff.1 h
        cases h
        obtain ⟨h1, h2⟩ := ih ys hys
        refine ⟨by simp [h1], fun j i hj => ?_⟩
        cases j with
        | zero => simp at hj; subst hj; simpa using hy
        | succ j => simpa using h2 j i (by simpa using hj)
    obtain ⟨h1, h2⟩ := this _ _ h
    refine ⟨by simpa using h1, fun j hj => h2 j j (by simp [hj])⟩
  · cases h
section
variable {H : Type} {enc : TypeId × Value → H} {P : Program} {W : World} {base : Nat} {spare : Nat → Bool} {held : Bool}
/-- A slice of elements of whatever type: its cells in a list, each element's own cells read on. -/
theorem open_rd {t e size : Nat} {v : Value} {d : DataW H} {ps : List MemPlace} {r : Reach} {b0 : Nat} (ht : P.underlying t = some (.slice e)) (hc : P.cellsOf e = size) (hv : Value.okWide P W r b0 t v)
    (h : DataW.Trod enc P W base spare held t v d ps) :
    ∃ (n fuel : Nat) (xs : List Value), Rd W v size n xs ∧ ∀ i, i < n → ∃ x, DataW.trod enc P W base spare held fuel e ((xs.drop (i * size)).take size) = some x := by
  obtain ⟨p, len, cap, rfl⟩ := okWide_slice ht hv
  obtain ⟨fuel, hf⟩ := h
  rcases Deep.open_slice ht hf with ⟨hcs, _⟩ | ⟨a, len', cap', m, n, D, Pl, hcs, hb, hl, hm, hmm, hx, hel⟩
  · simp [Value.cells] at hcs
    obtain ⟨rfl, rfl, rfl⟩ := hcs
    exact ⟨0, 0, [], ⟨by simp, Nat.zero_le _, none, 0, rfl, Nat.le_refl _, fun h => absurd h (by simp)⟩, fun i hi => absurd hi (by simp)⟩
  · simp [Value.cells] at hcs
    obtain ⟨rfl, rfl, rfl⟩ := hcs
    rw [hc] at hel
    have hlm : len ≤ m := by rw [hmm]; split <;> omega
    obtain ⟨C, hC⟩ := Deep.choose_lt (α := List Value) (p := fun i cs' => W.cells? base (a.add (i * size)) size = some cs' ∧ DataW.trod enc P W base spare held n e cs' = some (D i, Pl i)) (fun i hi => hel i (by omega : i < m))
    have hlen : ∀ i, i < len → (C i).length = size ∧ ∀ j, j < size → W.cell? ((a.add (i * size)).add j) = (C i)[j]? := fun i hi => cells?_parts (hC i (by omega)).1
    refine ⟨len, n, (List.range len).flatMap C, ⟨flat_len len size C fun i hi => (hlen i hi).1, by omega, some a, cap, rfl, hl, fun hp => ?_⟩, fun i hi => ⟨(D i, Pl i), ?_⟩⟩
    · have hs : 0 < size := Nat.pos_of_mul_pos_left hp
      have hl0 : 0 < len := Nat.pos_of_mul_pos_right hp
      have h0 := (hlen 0 hl0).2 0 hs
      have ha : a = ⟨a.block, a.off, none⟩ := by
        refine cell_plain (w := W) (u := (C 0)[0]'(by rw [(hlen 0 hl0).1]; exact hs)) ?_
        rw [List.getElem?_eq_getElem (by rw [(hlen 0 hl0).1]; exact hs)] at h0
        simpa [Addr.add] using h0
      refine ⟨a.block, a.off, by rw [← ha], fun j hj => ?_⟩
      have hq : j / size < len := (Nat.div_lt_iff_lt_mul hs).2 hj
      have hr : j % size < size := Nat.mod_lt _ hs
      have h1 := (hlen (j / size) hq).2 (j % size) hr
      rw [Deep.add_add, ha, add_plain] at h1
      have hj' : j / size * size + j % size = j := Nat.div_add_mod' j size
      rw [hj'] at h1
      rw [h1, flat_at len size C (fun i hi => (hlen i hi).1) (j / size) hq (j % size) hr, hj']
    · rw [flat_slice len size C (fun i hi => (hlen i hi).1) i hi]
      exact (hC i (by omega)).2
/-- A slice of ints. -/
theorem open_rd_ints {t e : Nat} {v : Value} {d : DataW H} {ps : List MemPlace} {r : Reach} {b0 : Nat} (ht : P.underlying t = some (.slice e)) (he : P.underlying e = some (.int .i64)) (hc : P.cellsOf e = 1) (hv : Value.okWide P W r b0 t v)
    (h : DataW.Trod enc P W base spare held t v d ps) : ∃ xs : List Int, Rd W v 1 xs.length (ic xs) := by
  obtain ⟨n, fuel, xs, hr, hx⟩ := open_rd ht hc hv h
  have hl : xs.length = n := by simpa using hr.1
  have hall : ∀ (l : List Value), (∀ i (hi : i < l.length), ∃ k, l[i]? = some (.int .i64 k)) → ∃ zs : List Int, l = ic zs := by
    intro l
    induction l with
    | nil => intro _; exact ⟨[], rfl⟩
    | cons y l ih =>
      intro hl
      obtain ⟨k, hk⟩ := hl 0 (by simp)
      obtain ⟨zs, hz⟩ := ih fun i hi => by obtain ⟨k, h⟩ := hl (i + 1) (by simp; omega); exact ⟨k, by simpa using h⟩
      exact ⟨k :: zs, by simp at hk; simp [ic, hk]; exact hz⟩
  obtain ⟨zs, hz⟩ := hall xs fun i hi => by
    obtain ⟨x, hx⟩ := hx i (by omega)
    rw [Nat.mul_one] at hx
    obtain ⟨k, hk, -⟩ := DataW.trod_int he hx
    refine ⟨k, ?_⟩
    have := congrArg (fun l : List Value => l[0]?) hk
    simpa using this
  subst hz
  refine ⟨zs, ?_⟩
  rw [ic_len] at hl
  rw [hl]; exact hr
/-- A struct's field, read on. -/
theorem open_field {t fuel : Nat} {cs : List Value} {x : DataW H × List MemPlace} {fs : Array Field} (ht : P.underlying t = some (.struct fs)) (h : DataW.trod enc P W base spare held fuel t cs = some x)
    (i : Nat) (f : Field) (hf : fs[i]? = some f) : ∃ m y, DataW.trod enc P W base spare held m f.type ((cs.drop f.offset).take (P.cellsOf f.type)) = some y := by
  obtain ⟨xs, n, -, -, -, hl, hx⟩ := DataW.trod_struct ht h
  have hi : i < xs.length := by rw [hl]; exact (Array.getElem?_eq_some_iff.1 hf).1
  exact ⟨n, xs[i], by rw [hx i f hf, List.getElem?_eq_getElem hi]⟩
/-- A field that is an int. -/
theorem open_int_field {t fuel : Nat} {cs : List Value} {x : DataW H × List MemPlace} {fs : Array Field} {k : IntKind} (ht : P.underlying t = some (.struct fs)) (h : DataW.trod enc P W base spare held fuel t cs = some x)
    (i : Nat) (f : Field) (hf : fs[i]? = some f) (hk : P.underlying f.type = some (.int k)) (hc : P.cellsOf f.type = 1) : ∃ n, cs[f.offset]? = some (.int k n) ∧ (Lit.int k n).wf = true := by
  obtain ⟨m, y, hy⟩ := open_field ht h i f hf
  rw [hc] at hy
  obtain ⟨n, hn, -, hw⟩ := DataW.trod_int hk hy
  refine ⟨n, ?_, hw⟩
  have := congrArg (fun l : List Value => l[0]?) hn
  simpa using this
end
end Go.Own
/- HOW ARGUMENTS ARE OPENED, further: slices within structs and slices. No program in sight. -/
namespace Go.Own
open Go.ChangeShapes Go.WideShapes Go.ChangeAt Go.RowKit
section
variable {H : Type} {enc : TypeId × Value → H} {P : Program} {W : World} {base : Nat} {spare : Nat → Bool} {held : Bool}
theorem trod_rd {t e size fuel : Nat} {cs : List Value} {x : DataW H × List MemPlace} (ht : P.underlying t = some (.slice e)) (hc : P.cellsOf e = size) (h : DataW.trod enc P W base spare held fuel t cs = some x) :
    ∃ (v : Value) (n fuel : Nat) (xs : List Value), cs = [v] ∧ Rd W v size n xs ∧ ∀ i, i < n → ∃ x, DataW.trod enc P W base spare held fuel e ((xs.drop (i * size)).take size) = some x := by
  rcases Deep.open_slice ht h with ⟨hcs, _⟩ | ⟨a, len, cap, m, n, D, Pl, hcs, hb, hl, hm, hmm, hx, hel⟩
  · exact ⟨.slice none 0 0, 0, 0, [], hcs, ⟨by simp, Nat.zero_le _, none, 0, rfl, Nat.le_refl _, fun h => absurd h (by simp)⟩, fun i hi => absurd hi (by simp)⟩
  · rw [hc] at hel
    have hlm : len ≤ m := by rw [hmm]; split <;> omega
    obtain ⟨C, hC⟩ := Deep.choose_lt (α := List Value) (p := fun i cs' => W.cells? base (a.add (i * size)) size = some cs' ∧ DataW.trod enc P W base spare held n e cs' = some (D i, Pl i)) (fun i hi => hel i (by omega : i < m))
    have hlen : ∀ i, i < len → (C i).length = size ∧ ∀ j, j < size → W.cell? ((a.add (i * size)).add j) = (C i)[j]? := fun i hi => cells?_parts (hC i (by omega)).1
    refine ⟨.slice (some a) len cap, len, n, (List.range len).flatMap C, hcs, ⟨flat_len len size C fun i hi => (hlen i hi).1, by omega, some a, cap, rfl, hl, fun hp => ?_⟩, fun i hi => ⟨(D i, Pl i), ?_⟩⟩
    · have hs : 0 < size := Nat.pos_of_mul_pos_left hp
      have hl0 : 0 < len := Nat.pos_of_mul_pos_right hp
      have h0 := (hlen 0 hl0).2 0 hs
      have ha : a = ⟨a.block, a.off, none⟩ := by
        refine cell_plain (w := W) (u := (C 0)[0]'(by rw [(hlen 0 hl0).1]; exact hs)) ?_
        rw [List.getElem?_eq_getElem (by rw [(hlen 0 hl0).1]; exact hs)] at h0
        simpa [Addr.add] using h0
      refine ⟨a.block, a.off, by rw [← ha], fun j hj => ?_⟩
      have hq : j / size < len := (Nat.div_lt_iff_lt_mul hs).2 hj
      have hr : j % size < size := Nat.mod_lt _ hs
      have h1 := (hlen (j / size) hq).2 (j % size) hr
      rw [Deep.add_add, ha, add_plain] at h1
      have hj' : j / size * size + j % size = j := Nat.div_add_mod' j size
      rw [hj'] at h1
      rw [h1, flat_at len size C (fun i hi => (hlen i hi).1) (j / size) hq (j % size) hr, hj']
    · rw [flat_slice len size C (fun i hi => (hlen i hi).1) i hi]
      exact (hC i (by omega)).2
theorem all_cells {α : Type} (f : α → Value) (l : List Value) (h : ∀ i (hi : i < l.length), ∃ k, l[i] = f k) : ∃ zs : List α, l = zs.map f := by
  induction l with
  | nil => exact ⟨[], rfl⟩
  | cons y l ih =>
    obtain ⟨k, hk⟩ := h 0 (by simp)
    obtain ⟨zs, hz⟩ := ih fun i hi => h (i + 1) (by simp; omega)
    exact ⟨k :: zs, by simp at hk; simp [hk]; exact hz⟩
theorem drop_one (l : List Value) (i : Nat) (h : i < l.length) : (l.drop i).take 1 = [l[i]] := by
  rw [List.drop_eq_getElem_cons h]; rfl
/-- A slice of integers of one kind. -/
theorem trod_scal {t e fuel : Nat} {k : IntKind} {cs : List Value} {x : DataW H × List MemPlace} (ht : P.underlying t = some (.slice e)) (he : P.underlying e = some (.int k)) (hc : P.cellsOf e = 1) (h : DataW.trod enc P W base spare held fuel t cs = some x) :
    ∃ (v : Value) (xs : List Int), cs = [v] ∧ Rd W v 1 xs.length (xs.map (Value.int k)) := by
  obtain ⟨v, n, fuel, xs, hcs, hr, hx⟩ := trod_rd ht hc h
  have hl : xs.length = n := by simpa using hr.1
  obtain ⟨zs, rfl⟩ := all_cells (Value.int k) xs fun i hi => by
    obtain ⟨x, hx⟩ := hx i (by omega)
    rw [Nat.mul_one, drop_one _ _ hi] at hx
    obtain ⟨k, hk, -⟩ := DataW.trod_int he hx
    exact ⟨k, by simpa using hk⟩
  rw [List.length_map] at hl
  exact ⟨v, zs, hcs, by rw [hl]; exact hr⟩
theorem trod_bools {t e fuel : Nat} {cs : List Value} {x : DataW H × List MemPlace} (ht : P.underlying t = some (.slice e)) (he : P.underlying e = some .bool) (hc : P.cellsOf e = 1) (h : DataW.trod enc P W base spare held fuel t cs = some x) :
    ∃ (v : Value) (xs : List Bool), cs = [v] ∧ Rd W v 1 xs.length (xs.map Value.bool) := by
  obtain ⟨v, n, fuel, xs, hcs, hr, hx⟩ := trod_rd ht hc h
  have hl : xs.length = n := by simpa using hr.1
  obtain ⟨zs, rfl⟩ := all_cells Value.bool xs fun i hi => by
    obtain ⟨x, hx⟩ := hx i (by omega)
    rw [Nat.mul_one, drop_one _ _ hi] at hx
    obtain ⟨k, hk, -⟩ := DataW.trod_bool he hx
    exact ⟨k, by simpa using hk⟩
  rw [List.length_map] at hl
  exact ⟨v, zs, hcs, by rw [hl]; exact hr⟩
/-- A slice of slices of bytes: its texts. -/
theorem texts_of {n fuel tb e : Nat} {xs : List Value} {v : Value} (ht : P.underlying tb = some (.slice e)) (he : P.underlying e = some (.int .u8)) (hc : P.cellsOf e = 1) (hr : Rd W v 1 n xs)
    (hel : ∀ i, i < n → ∃ x, DataW.trod enc P W base spare held fuel tb ((xs.drop (i * 1)).take 1) = some x) :
    ∃ R : List (Value × List Int), Rd W v 1 R.length (R.map (·.1)) ∧ ∀ x ∈ R, Rd W x.1 1 x.2.length (bc x.2) := by
  have hl : xs.length = n := by simpa using hr.1
  have key : ∀ (l : List Value), (∀ u ∈ l, ∃ ys : List Int, Rd W u 1 ys.length (bc ys)) → ∃ R : List (Value × List Int), R.map (·.1) = l ∧ ∀ x ∈ R, Rd W x.1 1 x.2.length (bc x.2) := by
    intro l
    induction l with
    | nil => intro _; exact ⟨[], rfl, by simp⟩
    | cons u l ih =>
      intro h
      obtain ⟨ys, hy⟩ := h u (by simp)
      obtain ⟨R, h1, h2⟩ := ih fun u hu => h u (by simp [hu])
      exact ⟨(u, ys) :: R, by simp [h1], fun x hx => (List.mem_cons.1 hx).elim (fun e => by rw [e]; exact hy) (h2 x)⟩
  obtain ⟨R, h1, h2⟩ := key xs fun u hu => by
    obtain ⟨i, hi, rfl⟩ := List.getElem_of_mem hu
    obtain ⟨x, hx⟩ := hel i (by omega)
    rw [Nat.mul_one, drop_one _ _ hi] at hx
    obtain ⟨v, ys, hcs, hr⟩ := trod_scal ht he hc hx
    simp only [List.cons.injEq, and_true] at hcs
    exact ⟨ys, by rw [hcs]; exact hr⟩
  subst h1
  rw [List.length_map] at hl
  exact ⟨R, by rw [hl]; exact hr, h2⟩
theorem open_rd_bools {t e : Nat} {v : Value} {d : DataW H} {ps : List MemPlace} {r : Reach} {b0 : Nat} (ht : P.underlying t = some (.slice e)) (he : P.underlying e = some .bool) (hc : P.cellsOf e = 1) (hv : Value.okWide P W r b0 t v)
    (h : DataW.Trod enc P W base spare held t v d ps) : ∃ xs : List Bool, Rd W v 1 xs.length (xs.map Value.bool) := by
  obtain ⟨n, fuel, xs, hr, hx⟩ := open_rd ht hc hv h
  have hl : xs.length = n := by simpa using hr.1
  obtain ⟨zs, rfl⟩ := all_cells Value.bool xs fun i hi => by
    obtain ⟨x, hx⟩ := hx i (by omega)
    rw [Nat.mul_one, drop_one _ _ hi] at hx
    obtain ⟨k, hk, -⟩ := DataW.trod_bool he hx
    exact ⟨k, by simpa using hk⟩
  rw [List.length_map] at hl
  exact ⟨zs, by rw [hl]; exact hr⟩
theorem open_rd_scal {t e : Nat} {k : IntKind} {v : Value} {d : DataW H} {ps : List MemPlace} {r : Reach} {b0 : Nat} (ht : P.underlying t = some (.slice e)) (he : P.underlying e = some (.int k)) (hc : P.cellsOf e = 1) (hv : Value.okWide P W r b0 t v)
    (h : DataW.Trod enc P W base spare held t v d ps) : ∃ xs : List Int, Rd W v 1 xs.length (xs.map (Value.int k)) := by
  obtain ⟨n, fuel, xs, hr, hx⟩ := open_rd ht hc hv h
  have hl : xs.length = n := by simpa using hr.1
  obtain ⟨zs, rfl⟩ := all_cells (Value.int k) xs fun i hi => by
    obtain ⟨x, hx⟩ := hx i (by omega)
    rw [Nat.mul_one, drop_one _ _ hi] at hx
    obtain ⟨k, hk, -⟩ := DataW.trod_int he hx
    exact ⟨k, by simpa using hk⟩
  rw [List.length_map] at hl
  exact ⟨zs, by rw [hl]; exact hr⟩
theorem open_rd_texts {t tb e : Nat} {v : Value} {d : DataW H} {ps : List MemPlace} {r : Reach} {b0 : Nat} (ht : P.underlying t = some (.slice tb)) (htc : P.cellsOf tb = 1) (htb : P.underlying tb = some (.slice e)) (he : P.underlying e = some (.int .u8)) (hc : P.cellsOf e = 1) (hv : Value.okWide P W r b0 t v)
    (h : DataW.Trod enc P W base spare held t v d ps) : ∃ R : List (Value × List Int), Rd W v 1 R.length (R.map (·.1)) ∧ ∀ x ∈ R, Rd W x.1 1 x.2.length (bc x.2) := by
  obtain ⟨n, fuel, xs, hr, hx⟩ := open_rd ht htc hv h
  exact texts_of htb he hc hr hx
end
end Go.Own
