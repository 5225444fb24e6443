/- TEXTS of mine, merged. -/
import Derived.Test.YtonhcefgakmpfaaGreatDoorM25
import Derived.Test.YtonhcefgakmpfaaGreatDoorM26
import Derived.Test.YtonhcefgakmpfaaGreatDoorM13
import Derived.Test.YtonhcefgakmpfaaGreatDoorM17
import Derived.Test.YtonhcefgakmpfaaGreatDoorM18
import Derived.Lib.SlBytesConst
import Derived.Test.YtonhcefgakmpfaaGreatDoorM2
import Derived.Test.YtonhcefgakmpfaaGreatDoorM5
import Derived.Test.YtonhcefgakmpfaaGreatDoorM6
/- slices.SortFunc of the files as they are seen. -/
namespace Go.Proofs.YtonhcefgakmpfaaGreatDoor
open Go.RowKit Go.Own Go.Sort Go.Shelf
theorem cb_lt : ∀ a b : List UInt8, Lib.compareBytes a b < 0 ↔ a < b
  | [], [] => by simp [Lib.compareBytes]
  | [], _ :: _ => by simp [Lib.compareBytes]
  | _ :: _, [] => by simp [Lib.compareBytes]
  | a :: r, b :: s => by
    rw [Lib.compareBytes, List.cons_lt_cons_iff, ← cb_lt r s]
    by_cases h1 : a < b
    · simp [h1]
    · by_cases h2 : b < a
      · have h3 : a ≠ b := by rintro rfl; exact absurd h2 (UInt8.lt_irrefl _)
        simp [h1, h2, h3]
      · have h3 : a = b := UInt8.le_antisymm (UInt8.not_lt.1 h2) (UInt8.not_lt.1 h1)
        simp [h1, h3]
def cfS (x y : Sn) : Int := Lib.compareBytes x.path y.path
theorem lt_eq (x y : Sn) : ltOf cfS x y = ltStr x.path y.path := by
  unfold ltOf cfS ltStr
  rw [decide_eq_decide]
  exact cb_lt _ _
theorem swoS : SWO (ltOf cfS) where
  irrefl x := by rw [lt_eq]; exact swo_ltStr.irrefl _
  trans x y z h1 h2 := by rw [lt_eq] at *; exact swo_ltStr.trans _ _ _ h1 h2
  ntrans x y z h1 h2 := by rw [lt_eq] at *; exact swo_ltStr.ntrans _ _ _ h1 h2
theorem snEnc_flat : ∀ os : List Sn, snEnc os = os.flatMap Sn.enc
  | [] => rfl
  | s :: r => by rw [snEnc, snEnc_flat r]; rfl
instance : Inhabited Sn := ⟨⟨[], 0, 0, 0, [], .slice none 0 0⟩⟩
theorem oneV_one (v : Value) : (oneV v).oneCell' = true := by cases v <;> rfl
theorem enc_one (x : Sn) : ∀ v ∈ x.enc, v.oneCell' = true := by
  intro v hv
  simp only [Sn.enc, List.mem_cons, List.not_mem_nil, or_false] at hv
  rcases hv with rfl | rfl | rfl | rfl | rfl
  · rfl
  · rfl
  · rfl
  · rfl
  · exact oneV_one _
theorem sortsNd : SortsNd := by
  intro v os w L hne hl hO
  have h := sns_iff.1 hO
  obtain ⟨-, ⟨-, h0, -, -⟩ | ⟨g, cap, cur, rfl, -, -, -, -, h4⟩⟩ := h.row_cases
  · exact absurd (List.eq_nil_of_length_eq_zero h0) hne
  obtain ⟨-, hcs, hfz, -⟩ := h.row_cells
  have hH : HoldsK Sn.enc 5 w g 0 os.toArray := by
    intro j hj
    have hj' : j < os.length * 5 := by simpa using hj
    rw [Nat.zero_add]
    refine ⟨?_, hfz j⟩
    rw [hcs j hj', snEnc_flat]
    have h1 := flatK_list Sn.enc 5 (by decide) (fun _ => rfl) os.toArray
    have h2 : (os.flatMap Sn.enc)[j]? = (flatK Sn.enc 5 os.toArray).toList[j]? := by rw [h1]
    rw [h2, Array.getElem?_toList, Array.getElem?_eq_getElem hj, getElem!_pos _ j hj]
    rfl
  have eg : ∀ args w, (callFunc 73 args).run Tryz.prog w = .ok (.enter 73 args) w := enters_of Tryz.func73 (by kernel_rfl) rfl
  have hcon := AnyQ.slices_SortFunc Tryz.sortNode 5 Tryz.isAgg55 Tryz.sizeOf55 Sn.enc (fun _ => rfl) enc_one cfS swoS 73 #[] g 0 cap os.toArray w eg (fun _ _ _ _ x y => tCmp x y _) hH h4.lt (by simp; omega)
  refine Calls.mono (show Calls Tryz.prog 72 #[.slice (some ⟨g, 0, none⟩) os.length cap, .func (.func 73) #[] #[]] w _ from hcon) ?_
  rintro e w' ⟨rfl, d', n, os2, hp, hs, rfl⟩
  have hsz : d'.size = os.length := by have := hp.1; simpa using this
  have hpm : d'.toList.Perm os := by
    have h1 := hp.2.2
    have e1 : d'.extract 0 os.toArray.size = d' := by
      rw [List.size_toArray, ← hsz]
      simp
    have e2 : os.toArray.extract 0 os.toArray.size = os.toArray := by simp
    rw [e1, e2] at h1
    simpa using h1
  refine ⟨rfl, d'.toList, hpm, ?_, ?_, rfl, rfl, rfl, by simp [sortWorldK, Sort.grow, putRowK, Sort.putRow, Sort.mapBlock, Sort.ahead]⟩
  · unfold Srt
    rw [List.pairwise_iff_getElem]
    intro i j hi hj hij
    have hi' : i < d'.size := by simpa using hi
    have hj' : j < d'.size := by simpa using hj
    have h1 := hs i j (Nat.zero_le _) hij (by rw [List.size_toArray, ← hsz]; exact hj')
    rw [getElem!_pos d' i hi', getElem!_pos d' j hj'] at h1
    unfold ltOf at h1
    rw [Array.getElem_toList, Array.getElem_toList]
    exact of_decide_eq_false h1
  · have h5 := ((Has.ahead h n).putRowK Sn.enc (by decide) (fun _ => rfl) (d := d') hsz).grow os2
    refine sns_iff.2 ?_
    have e9 : d'.toList.length = os.length := by rw [Array.length_toList]; exact hsz
    rw [snEnc_flat, e9]
    exact h5.perm (.cons _ (List.Perm.append_right L (hpm.map _).symm))
end Go.Proofs.YtonhcefgakmpfaaGreatDoor
/- THE WALK of chapter 14's 'awake'. -/
namespace Go.Proofs.YtonhcefgakmpfaaGreatDoor
open Go.RowKit Go.Own
section
variable (q : Nat) (mx : Int) (w : World) (L : List HP) (hM : MxL mx L)
include hM
theorem akMkdir (hO : Has w (Trc q tre0 :: L)) : Calls Tryz.prog 17 #[.pointer (some ⟨q, 0, none⟩), opW 9 0 0 0 0 [47, 97] nilV] w fun e w' => e = .returned (ansV (ansE 0) nilV nilV) ∧ Has w' (Trc q treE1 :: L) ∧ Keep w w' := by
  have h := doMkdir q tre0 0 0 0 0 pA [] nilV w L rkA mx (wk_of wk_0).1 (wy_of wy_0 rkA_low) (opb_of opb_0 wk_0) hM (by decide) hO
  rw [mkdir_A] at h
  exact h
theorem akOpen (hO : Has w (Trc q treE1 :: L)) : Calls Tryz.prog 17 #[.pointer (some ⟨q, 0, none⟩), opW 1 0 0 0 33 [47, 97, 47, 102] nilV] w fun e w' => e = .returned (ansV (ansE 0) nilV nilV) ∧ Has w' (Trc q treE2 :: L) ∧ Keep w w' := by
  have h := doOpen q treE1 0 0 0 33 pAF [] nilV w L rkA mx (wk_of wk_A).1 (wy_of wy_A rkA_low) (opb_of opb_A wk_A) hM (by decide) (by decide +kernel) hO
  rw [open_AF] at h
  exact h
theorem akStatF (hO : Has w (Trc q treE3 :: L)) : Calls Tryz.prog 17 #[.pointer (some ⟨q, 0, none⟩), opW 16 0 0 0 0 [47, 97, 47, 102] nilV] w fun e w' => e = .returned (ansV ⟨0, 3, 1, 1, [], []⟩ nilV nilV) ∧ Has w' (Trc q treE3 :: L) ∧ Keep w w' := by
  have h := doStat q treE3 0 0 0 0 pAF [] nilV w L mx (wk_of wk_C).1 hM (by decide) (fun n x hx => ⟨((wk_of wk_C).2 n x hx).1, by have := ((wk_of wk_C).2 n x hx).2.2; omega⟩) hO
  rw [stat_AF] at h
  exact h
theorem akStatB (hO : Has w (Trc q treE3 :: L)) : Calls Tryz.prog 17 #[.pointer (some ⟨q, 0, none⟩), opW 16 0 0 0 0 [47, 98] nilV] w fun e w' => e = .returned (ansV (ansE 5) nilV nilV) ∧ Has w' (Trc q treE3 :: L) ∧ Keep w w' := by
  have h := doStat q treE3 0 0 0 0 pB [] nilV w L mx (wk_of wk_C).1 hM (by decide) (fun n x hx => ⟨((wk_of wk_C).2 n x hx).1, by have := ((wk_of wk_C).2 n x hx).2.2; omega⟩) hO
  rw [stat_B] at h
  exact h
theorem akNumber (hO : Has w (Trc q treE3 :: L)) : Calls Tryz.prog 26 #[.pointer (some ⟨q, 0, none⟩), .string ⟨#[47, 97]⟩] w fun e w' => e = .returned (.int .i64 2) ∧ Has w' (Trc q treE3 :: L) ∧ Keep w w' := by
  have h := tNumber q treE3 pA mx w L (wk_of wk_C).1 hM (by decide) hO
  rw [number_A] at h
  exact h
end
theorem _root_.Go.Own.Has.dropL {w : World} {L : List HP} (A : List HP) (h : Has w (A ++ L)) : Has w L := by
  induction A with
  | nil => exact h
  | cons a A ih => exact ih h.drop
theorem akWrite (q g : Nat) (w : World) (L : List HP) (hO : Has w (Trc q treE2 :: pt g (.cells #[.int .u8 120, .int .u8 121, .int .u8 122] 5 (3, 4)) :: L)) : Calls Tryz.prog 17 #[.pointer (some ⟨q, 0, none⟩), opW 4 0 0 0 0 [] (.slice (some ⟨g, 0, none⟩) 3 3)] w fun e w' => ∃ p c, e = .returned (ansV ⟨0, 3, 0, 0, [], []⟩ (.slice p 0 c) nilV) ∧ Has w' (Trc q treE3 :: L) ∧ Keep w w' := by
  have h := doWrite4 q treE2 0 0 0 0 [] [] (some ⟨g, 0, none⟩) 3 [120, 121, 122] w (pt g (.cells #[.int .u8 120, .int .u8 121, .int .u8 122] 5 (3, 4)) :: L) (opn_of opn_B wk_B) (by decide) (by decide) (fun w' h' => ⟨rfl, by decide, some ⟨g, 0, none⟩, 3, rfl, by decide, fun _ => ⟨g, 0, rfl, fun j _ => by rw [Nat.zero_add]; exact (h'.cells j).trans (by simp [bc])⟩⟩) hO
  rw [write_AF] at h
  refine Calls.mono (show Calls Tryz.prog 17 #[.pointer (some ⟨q, 0, none⟩), opW 4 0 0 0 0 [] (.slice (some ⟨g, 0, none⟩) 3 3)] w _ from h) ?_
  rintro e w' ⟨dv, rfl, h1, h2⟩
  obtain ⟨p, c, rfl, -⟩ := (Bytes.rd h1).form
  exact ⟨p, c, rfl, (h1.re 3 [1]), h2⟩
theorem akNeed (q : Nat) (w : World) (L : List HP) (hO : Has w (Trc q treE3 :: L)) : Calls Tryz.prog 21 #[.pointer (some ⟨q, 0, none⟩)] w fun e w' => e = .returned (.tuple #[.int .i64 3, .int .i64 3]) ∧ Has w' (Trc q treE3 :: L) ∧ Keep w w' := by
  have h := tNeed q treE3 w L need_small (by decide) hO
  rw [need_C] at h
  exact h
theorem akNodes (q : Nat) (w : World) (L : List HP) (hO : Has w (Trc q treE3 :: L)) : Calls Tryz.prog 20 #[.pointer (some ⟨q, 0, none⟩)] w fun e w' => ∃ p c, e = .returned (.slice p 3 c) ∧ Has w' (Trc q treE3 :: L) ∧ Keep w w' := by
  refine (tNodes sortsNd q treE3 _ rkA w L rfl (fun n x hx => ((wk_of wk_C).2 n x hx).1) low_C rk_C (by rw [seen_C]; decide) hO).mono ?_
  rintro e w' ⟨v, os, rfl, hp, -, h1, h2⟩
  have hl : os.length = 3 := by
    have h3 := hp.length_eq
    rw [List.length_map, List.length_map, seen_C] at h3
    exact h3
  obtain ⟨p, c, rfl, -⟩ := (Has.rd (sns_iff.1 h1)).form
  exact ⟨p, c, by rw [hl], Has.dropL _ (sns_iff.1 h1).drop, h2⟩
set_option maxRecDepth 100000 in
set_option maxHeartbeats 8000000 in
theorem awake14 (mx : Int) (w : World) (L : List HP) (hM : MxL mx L) (hO : Has w L) :
    Calls Tryz.prog 14 #[] w fun e w' => e = .returned (.bool true) ∧ Has w' L ∧ Keep w w' := by
  have HO := hid hO
  have HM := hid hM
  clear hO hM
  have kc := fun (w : World) (C : Array Value) (n c : Nat) => Lib.run_convert_bytes_const (P := Tryz.prog) w 29 5 C n c Tryz.underlying29 Tryz.underlying5
  go_enter Tryz.func14, Tryz.ntmps14
  go_wp2_with fail
  refine (tNew w L HO.out).mono ?_
  rintro e w1 ⟨q, rfl, hO1, hK1⟩
  have HO1 := hid hO1
  have HK1 := hid ((Keep.refl w).trans hK1)
  clear hO1 hK1
  try dsimp only
  go_wp2_with fail
  refine (akMkdir q mx w1 _ HM.out HO1.out).mono ?_
  rintro e w2 ⟨rfl, hO2, hK2⟩
  have HO2 := hid hO2
  have HK2 := hid ((HK1.out).trans hK2)
  clear hO2 hK2
  try dsimp only
  unfold ansV ansC
  try unfold ansE
  go_upto_region 5 with fail
  have HP2 := hid (HO2.out.alloc (.cells #[.int .i64 0, .int .i64 0, .int .i64 0, .int .i64 0, .slice none 0 0, .slice none 0 0] 32)).p1
  have HK2 := hid (HK2.out.alloc (.cells #[.int .i64 0, .int .i64 0, .int .i64 0, .int .i64 0, .slice none 0 0, .slice none 0 0] 32))
  generalize w2.alloc (.cells #[.int .i64 0, .int .i64 0, .int .i64 0, .int .i64 0, .slice none 0 0, .slice none 0 0] 32) = v2 at *
  generalize w2.heap.size = g2 at *
  go_wp2_with fail
  refine (akOpen q mx v2 _ (HM.out.cons _) HP2.out).mono ?_
  rintro e w3 ⟨rfl, hO3, hK3⟩
  have HO3 := hid hO3
  have HK3 := hid ((HK2.out).trans hK3)
  clear hO3 hK3
  try dsimp only
  unfold ansV ansC
  try unfold ansE
  go_upto_region 6 with fail
  have HP3 := hid (HO3.out.alloc (.cells #[.int .i64 0, .int .i64 0, .int .i64 0, .int .i64 0, .slice none 0 0, .slice none 0 0] 32)).p1
  have HK3 := hid (HK3.out.alloc (.cells #[.int .i64 0, .int .i64 0, .int .i64 0, .int .i64 0, .slice none 0 0, .slice none 0 0] 32))
  generalize w3.alloc (.cells #[.int .i64 0, .int .i64 0, .int .i64 0, .int .i64 0, .slice none 0 0, .slice none 0 0] 32) = v3 at *
  generalize w3.heap.size = g3 at *
  have HB3 := hid (HP3.out.alloc (.cells #[.int .u8 120, .int .u8 121, .int .u8 122] 5 (3, 4))).p1
  have HQ3 := hid (HK3.out.alloc (.cells #[.int .u8 120, .int .u8 121, .int .u8 122] 5 (3, 4)))
  go_wp2_with fail
  refine (akWrite q v3.heap.size _ _ HB3.out).mono ?_
  rintro e w4 ⟨p4, c4, rfl, hO4, hK4⟩
  have HO4 := hid hO4
  have HK4 := hid ((HQ3.out).trans hK4)
  clear hO4 hK4
  try dsimp only
  unfold ansV ansC
  try unfold ansE
  go_upto_region 7 with fail
  have HP4 := hid (HO4.out.alloc (.cells #[.int .i64 0, .int .i64 3, .int .i64 0, .int .i64 0, .slice p4 0 c4, .slice none 0 0] 32)).p1
  have HK4 := hid (HK4.out.alloc (.cells #[.int .i64 0, .int .i64 3, .int .i64 0, .int .i64 0, .slice p4 0 c4, .slice none 0 0] 32))
  generalize w4.alloc (.cells #[.int .i64 0, .int .i64 3, .int .i64 0, .int .i64 0, .slice p4 0 c4, .slice none 0 0] 32) = v4 at *
  generalize w4.heap.size = g4 at *
  go_wp2_with fail
  refine (akStatF q mx v4 _ (((HM.out.cons _).cons _).cons _) HP4.out).mono ?_
  rintro e w5 ⟨rfl, hO5, hK5⟩
  have HO5 := hid hO5
  have HK5 := hid ((HK4.out).trans hK5)
  clear hO5 hK5
  try dsimp only
  unfold ansV ansC
  try unfold ansE
  go_upto_region 8 with fail
  have HP5 := hid (HO5.out.alloc (.cells #[.int .i64 0, .int .i64 3, .int .i64 1, .int .i64 1, .slice none 0 0, .slice none 0 0] 32)).p1
  have HK5 := hid (HK5.out.alloc (.cells #[.int .i64 0, .int .i64 3, .int .i64 1, .int .i64 1, .slice none 0 0, .slice none 0 0] 32))
  generalize w5.alloc (.cells #[.int .i64 0, .int .i64 3, .int .i64 1, .int .i64 1, .slice none 0 0, .slice none 0 0] 32) = v5 at *
  generalize w5.heap.size = g5 at *
  go_wp2_with fail
  refine (akStatB q mx v5 _ ((((HM.out.cons _).cons _).cons _).cons _) HP5.out).mono ?_
  rintro e w6 ⟨rfl, hO6, hK6⟩
  have HO6 := hid hO6
  have HK6 := hid ((HK5.out).trans hK6)
  clear hO6 hK6
  try dsimp only
  unfold ansV ansC
  try unfold ansE
  go_upto_region 9 with fail
  have HP6 := hid (HO6.out.alloc (.cells #[.int .i64 5, .int .i64 0, .int .i64 0, .int .i64 0, .slice none 0 0, .slice none 0 0] 32)).p1
  have HK6 := hid (HK6.out.alloc (.cells #[.int .i64 5, .int .i64 0, .int .i64 0, .int .i64 0, .slice none 0 0, .slice none 0 0] 32))
  generalize w6.alloc (.cells #[.int .i64 5, .int .i64 0, .int .i64 0, .int .i64 0, .slice none 0 0, .slice none 0 0] 32) = v6 at *
  generalize w6.heap.size = g6 at *
  go_wp2_with fail
  refine (akNeed q v6 _ HP6.out).mono ?_
  rintro e w7 ⟨rfl, hO7, hK7⟩
  have HO7 := hid hO7
  have HK7 := hid ((HK6.out).trans hK7)
  clear hO7 hK7
  try dsimp only
  have HS := hid (HO7.out.re 6 [1, 2, 3, 4, 5, 0])
  have c6 : w7.cell? ⟨g6, 0, none⟩ = some (.int .i64 5) := HS.out.cells 0
  have c50 : w7.cell? ⟨g5, 0, none⟩ = some (.int .i64 0) := HS.out.p1.cells 0
  have c51 : w7.cell? ⟨g5, 1, none⟩ = some (.int .i64 3) := HS.out.p1.cells 1
  have c52 : w7.cell? ⟨g5, 2, none⟩ = some (.int .i64 1) := HS.out.p1.cells 2
  have c53 : w7.cell? ⟨g5, 3, none⟩ = some (.int .i64 1) := HS.out.p1.cells 3
  have c4 : w7.cell? ⟨g4, 1, none⟩ = some (.int .i64 3) := HS.out.p2.cells 1
  have c3 : w7.cell? ⟨g3, 0, none⟩ = some (.int .i64 0) := HS.out.p3.cells 0
  have c2 : w7.cell? ⟨g2, 0, none⟩ = some (.int .i64 0) := HS.out.p4.cells 0
  go_wp2_with fail
  refine (akNodes q w7 _ HO7.out).mono ?_
  rintro e w8 ⟨p8, c8, rfl, hO8, hK8⟩
  have HO8 := hid hO8
  have HK8 := hid ((HK7.out).trans hK8)
  clear hO8 hK8
  try dsimp only
  go_wp2_with fail
  refine (akNumber q mx w8 _ (((((HM.out.cons _).cons _).cons _).cons _).cons _) HO8.out).mono ?_
  rintro e w9 ⟨rfl, hO9, hK9⟩
  have HO9 := hid hO9
  have HK9 := hid ((HK8.out).trans hK9)
  clear hO9 hK9
  try dsimp only
  go_wp2_with fail
  go_ret
  exact ⟨rfl, HO9.out.drop.drop.drop.drop.drop.drop, HK9.out⟩
end Go.Proofs.YtonhcefgakmpfaaGreatDoor
/- THE WALK of Low. -/
namespace Go.Proofs.YtonhcefgakmpfaaGreatDoor
open Go.RowKit Go.Own
theorem lowAny (x n : Int) (w : World) (hn : 1 ≤ n) (hn' : n ≤ 9223372036854775807) :
    Calls Tryz.prog 36 #[.int .i64 x, .int .i64 n] w fun e w' => e = .returned (.int .i64 (low x n)) ∧ w = w' := by
  go_enter Tryz.func36, Tryz.ntmps36
  go_wp2
  go_ret
  exact ⟨by rw [← low_eq x n hn hn']; rfl, rfl⟩
end Go.Proofs.YtonhcefgakmpfaaGreatDoor
/- THE WALK of TreeReads. -/
namespace Go.Proofs.YtonhcefgakmpfaaGreatDoor
open Go.RowKit Go.Own
theorem lowN (x n : Int) (m : Nat) (w : World) (hn : 1 ≤ n) (hn' : n ≤ 9223372036854775807) (hm : low x n = m) :
    Calls Tryz.prog 36 #[.int .i64 x, .int .i64 n] w fun e w' => e = .returned (.int .i64 (m : Int)) ∧ w = w' := by
  have h := lowAny x n w hn hn'
  rw [hm] at h
  exact h
theorem low_nat (x n : Int) (hn : 1 ≤ n) : ∃ m : Nat, low x n = m ∧ (m : Int) < n := by
  have h := low_in x n hn
  exact ⟨(low x n).toNat, by omega, by omega⟩
theorem rdStart {W w : World} {L : List HP} {v : Value} {size n : Nat} {xs : List Value} (hr : Rd W v size n xs) (h : Has w (old W :: L)) : Rd w v size n xs := hr.cellsOld h.old_look
theorem mxStart {W : World} {mx : Int} (h : W.cell? ⟨0, 0, none⟩ = some (.int .i64 mx)) : MxL mx [old W] := fun w' h' => (World.cell?_of_block (h'.old_look 0 (World.block_lt_of_cell? W _ h))).trans h
section
variable (q : Nat) (w : World) (L : List HP) {b : List Int} {wr : List Bool} (hd : b.length ≤ 10000) (hw : wr.length ≤ 162) (K : Nat) (hK : K ≤ b.length)
include hd hw hK
end
end Go.Proofs.YtonhcefgakmpfaaGreatDoor
/- OPERATIONS AS ARGUMENTS: a slice of operations, one operation. -/
namespace Go.Proofs.YtonhcefgakmpfaaGreatDoor
open Go.RowKit Go.Own
theorem sB_size (s : Str) : (sB s).size = s.length := by
  show (sB s).data.size = _
  simp [sB]
/-- An operation with the slice value of its data, and the data. -/
structure Oq where
  op : Opm
  dv : Value
  data : List Int
def Oq.cells (y : Oq) : List Value := (opC y.op y.dv).toList
def oqCells (R : List Oq) : List Value := R.flatMap Oq.cells
theorem oqCells_len (R : List Oq) : (oqCells R).length = R.length * 8 := by
  induction R with
  | nil => rfl
  | cons x R ih => simp only [oqCells, List.flatMap_cons, List.length_append] at *; rw [ih]; simp [Oq.cells, opC]; omega
theorem oqCells_at (R : List Oq) (k : Nat) (hk : k < R.length) (j : Nat) (hj : j < 8) : (oqCells R)[k * 8 + j]? = (R[k].cells)[j]? := by
  induction R generalizing k with
  | nil => simp at hk
  | cons x R ih =>
    cases k with
    | zero =>
      simp only [oqCells, List.flatMap_cons, List.getElem_cons_zero, Nat.zero_mul, Nat.zero_add]
      rw [List.getElem?_append_left (by simp [Oq.cells, opC]; omega)]
    | succ k =>
      simp only [oqCells, List.flatMap_cons, List.getElem_cons_succ]
      have hl : x.cells.length = 8 := rfl
      rw [List.getElem?_append_right (by omega), hl, show (k + 1) * 8 + j - 8 = k * 8 + j by omega]
      exact ih k (by simpa using hk)
/-- Numbers that fit. -/
def OpWf (o : Opm) : Prop := -9223372036854775808 ≤ o.off ∧ o.off ≤ 9223372036854775807 ∧ o.path.length ≤ 9223372036854775807 ∧ o.dest.length ≤ 9223372036854775807
def RdOp (w : World) (y : Oq) : Prop := Rd w y.dv 1 y.data.length (bc y.data) ∧ OpWf y.op
def RdOps (w : World) (v : Value) (R : List Oq) : Prop := Rd w v 8 R.length (oqCells R) ∧ ∀ y ∈ R, RdOp w y
theorem RdOps.form {w : World} {v : Value} {R : List Oq} (h : RdOps w v R) : ∃ p c, v = .slice p R.length c ∧ R.length ≤ c ∧ R.length ≤ 9223372036854775807 := by
  obtain ⟨p, c, h, h1, h2, -⟩ := h.1.form
  exact ⟨p, c, h, h1, h2⟩
theorem RdOps.at_ {w : World} {v : Value} {R : List Oq} (h : RdOps w v R) (k : Nat) (hk : k < R.length) : ∃ g o c, v = .slice (some ⟨g, o, none⟩) R.length c ∧ ∀ j, j < 8 → w.cell? ⟨g, o + (k * 8 + j), none⟩ = (R[k].cells)[j]? := by
  obtain ⟨p, c, rfl, -, -, hr⟩ := h.1.form
  obtain ⟨g, o, rfl, hc⟩ := hr (by omega)
  exact ⟨g, o, c, rfl, fun j hj => (hc (k * 8 + j) (by omega)).trans (oqCells_at R k hk j hj)⟩
theorem RdOp.start {W w : World} {L : List HP} {y : Oq} (h : RdOp W y) (hO : Has w (old W :: L)) : RdOp w y := ⟨rdStart h.1 hO, h.2⟩
theorem RdOps.start {W w : World} {L : List HP} {v : Value} {R : List Oq} (h : RdOps W v R) (hO : Has w (old W :: L)) : RdOps w v R := ⟨rdStart h.1 hO, fun y hy => (h.2 y hy).start hO⟩
section
variable {H : Type} {enc : TypeId × Value → H} {W : World} {base : Nat} {spare : Nat → Bool} {held : Bool}
theorem open_string_field {P : Program} {t fuel : Nat} {cs : List Value} {x : DataW H × List MemPlace} {fs : Array Field} (ht : P.underlying t = some (.struct fs)) (h : DataW.trod enc P W base spare held fuel t cs = some x)
    (i : Nat) (f : Field) (hf : fs[i]? = some f) (hk : P.underlying f.type = some .string) (hc : P.cellsOf f.type = 1) : ∃ s : ByteArray, cs[f.offset]? = some (.string s) ∧ s.size ≤ maxLen := by
  obtain ⟨m, y, hy⟩ := open_field ht h i f hf
  rw [hc] at hy
  obtain ⟨s, hn, -, hl⟩ := DataW.trod_string hk hy
  refine ⟨s, ?_, hl⟩
  have := congrArg (fun l : List Value => l[0]?) hn
  simpa [List.getElem?_take, List.getElem?_drop] using this
theorem open_bytes_fld {P : Program} {t e fuel : Nat} {cs : List Value} {x : DataW H × List MemPlace} {fs : Array Field} (ht : P.underlying t = some (.struct fs)) (h : DataW.trod enc P W base spare held fuel t cs = some x)
    (i : Nat) (f : Field) (hf : fs[i]? = some f) (hk : P.underlying f.type = some (.slice e)) (he : P.underlying e = some (.int .u8)) (hc : P.cellsOf f.type = 1) (hce : P.cellsOf e = 1) : ∃ (v : Value) (zs : List Int), cs[f.offset]? = some v ∧ Rd W v 1 zs.length (bc zs) := by
  obtain ⟨m, y, hy⟩ := open_field ht h i f hf
  rw [hc] at hy
  obtain ⟨v, zs, hn, hr⟩ := trod_scal hk he hce hy
  refine ⟨v, zs, ?_, hr⟩
  have := congrArg (fun l : List Value => l[0]?) hn
  simpa [List.getElem?_take, List.getElem?_drop] using this
theorem openOp {cs : List Value} {fuel : Nat} {x : DataW H × List MemPlace} (hx : DataW.trod enc Tryz.prog W base spare held fuel 35 cs = some x) : ∃ y : Oq, (∀ j, j < 8 → cs[j]? = (y.cells)[j]?) ∧ RdOp W y := by
  obtain ⟨kd, h0, -⟩ := open_int_field Tryz.underlying35 hx 0 _ rfl Tryz.underlying3 (by kernel_rfl)
  obtain ⟨fd, h1, -⟩ := open_int_field Tryz.underlying35 hx 1 _ rfl Tryz.underlying3 (by kernel_rfl)
  obtain ⟨n, h2, -⟩ := open_int_field Tryz.underlying35 hx 2 _ rfl Tryz.underlying3 (by kernel_rfl)
  obtain ⟨off, h3, hw3⟩ := open_int_field Tryz.underlying35 hx 3 _ rfl Tryz.underlying3 (by kernel_rfl)
  obtain ⟨fl, h4, -⟩ := open_int_field Tryz.underlying35 hx 4 _ rfl Tryz.underlying3 (by kernel_rfl)
  obtain ⟨p, h5, hp⟩ := open_string_field Tryz.underlying35 hx 5 _ rfl Tryz.underlying9 (by kernel_rfl)
  obtain ⟨q, h6, hq⟩ := open_string_field Tryz.underlying35 hx 6 _ rfl Tryz.underlying9 (by kernel_rfl)
  obtain ⟨v, zs, h7, hr⟩ := open_bytes_fld Tryz.underlying35 hx 7 _ rfl Tryz.underlying29 Tryz.underlying5 (by kernel_rfl) (by kernel_rfl)
  refine ⟨⟨⟨kd, fd, n, off, fl, p.data.toList, q.data.toList⟩, v, zs⟩, fun j hj => ?_, hr, ?_⟩
  · have e5 : sV p.data.toList = .string p := congrArg Value.string (sB_of p)
    have e6 : sV q.data.toList = .string q := congrArg Value.string (sB_of q)
    unfold Oq.cells opC
    dsimp only
    rw [e5, e6]
    rcases j with _ | _ | _ | _ | _ | _ | _ | _ | j
    · exact h0
    · exact h1
    · exact h2
    · exact h3
    · exact h4
    · exact h5
    · exact h6
    · exact h7
    · omega
  · simp only [Lit.wf] at hw3
    have hp1 : p.data.toList.length = p.size := by simp
    have hq1 : q.data.toList.length = q.size := by simp
    have hm : maxLen ≤ 9223372036854775807 := by decide
    have hmin : IntKind.i64.min = -9223372036854775808 := by decide +kernel
    have hmax : IntKind.i64.max = 9223372036854775807 := by decide +kernel
    simp [hmin, hmax] at hw3
    refine ⟨?_, ?_, ?_, ?_⟩
    · show _ ≤ off; omega
    · show off ≤ _; omega
    · show p.data.toList.length ≤ _; omega
    · show q.data.toList.length ≤ _; omega
set_option maxRecDepth 100000 in
theorem openOps {a : Value} {n fuel : Nat} {xs : List Value} (ha : Rd W a 8 n xs)
    (he : ∀ i, i < n → ∃ x, DataW.trod enc Tryz.prog W base spare held fuel 35 ((xs.drop (i * 8)).take 8) = some x) : ∃ R : List Oq, RdOps W a R := by
  have h1 : ∀ i, i < n → ∃ y : Oq, (∀ j, j < 8 → xs[i * 8 + j]? = (y.cells)[j]?) ∧ RdOp W y := by
    intro i hi
    obtain ⟨x, hx⟩ := he i hi
    obtain ⟨y, hy, hr⟩ := openOp hx
    refine ⟨y, fun j hj => ?_, hr⟩
    rw [← hy j hj, List.getElem?_take, if_pos hj, List.getElem?_drop]
  haveI : Inhabited Oq := ⟨⟨⟨0, 0, 0, 0, 0, [], []⟩, .slice none 0 0, []⟩⟩
  obtain ⟨f, hf⟩ := Deep.choose_lt h1
  refine ⟨(List.range n).map f, ?_, ?_⟩
  · have e : xs = oqCells ((List.range n).map f) := by
      apply List.ext_getElem?
      intro j
      by_cases hj : j < n * 8
      · have hq : j / 8 < n := by omega
        have h2 := (hf (j / 8) hq).1 (j % 8) (by omega)
        have h3 := oqCells_at ((List.range n).map f) (j / 8) (by simpa using hq) (j % 8) (by omega)
        rw [show j / 8 * 8 + j % 8 = j by omega] at h2 h3
        rw [h2, h3]
        simp
      · rw [List.getElem?_eq_none (by have := ha.1; omega), List.getElem?_eq_none (by rw [oqCells_len]; simp; omega)]
    have hl : ((List.range n).map f).length = n := by simp
    rw [← e, hl]
    exact ha
  · intro x hx
    obtain ⟨i, hi, rfl⟩ := List.mem_map.1 hx
    exact (hf i (by simpa using hi)).2
end
end Go.Proofs.YtonhcefgakmpfaaGreatDoor
/- PATHS OF ONE NAME, plain. No program in sight. -/
namespace Go.Proofs.YtonhcefgakmpfaaGreatDoor
open Go.RowKit Go.Own
/-- A name that may be asked for. -/
def GoodN (s : Str) : Prop := NameOk s ∧ s ≠ [46] ∧ (0 : UInt8) ∉ s
theorem spl_no {s : Str} (h : (47 : UInt8) ∉ s) : spl s = [s] := by
  induction s with
  | nil => rfl
  | cons c l ih =>
    have h1 : c ≠ 47 := fun e => h (by rw [e]; exact List.mem_cons_self)
    rw [spl, if_neg h1, ih fun hm => h (List.mem_cons_of_mem _ hm)]
theorem indexByte_none {s : Str} {c : UInt8} (h : c ∉ s) : Lib.indexByte s c = -1 := by
  induction s with
  | nil => rfl
  | cons b l ih =>
    have h1 : (b == c) = false := by
      simp only [beq_eq_false_iff_ne, ne_eq]
      rintro rfl
      exact h List.mem_cons_self
    rw [Lib.indexByte, h1, ih fun hm => h (List.mem_cons_of_mem _ hm)]
    rfl
theorem hasNul_none {s : Str} (h : (0 : UInt8) ∉ s) : hasNul s = false := by
  unfold hasNul
  rw [indexByte_none h]
  rfl
theorem isAbs_cons (s : Str) : isAbs (47 :: s) = true := by
  unfold isAbs Lib.hasPrefix
  simp
theorem partsM_one {nm : Str} (h : GoodN nm) : partsM (47 :: nm) = ([nm], true) := by
  have h1 : skipP nm = false := by
    unfold skipP
    simp only [Bool.or_eq_false_iff, beq_eq_false_iff_ne, ne_eq]
    exact ⟨h.1.1, h.2.1⟩
  have h2 : partsL (pieces (47 :: nm)) [] = some [nm] := by
    rw [pieces_spl, spl, if_pos rfl, spl_no h.1.2.2.1]
    have h3 : ¬ 24 < nm.length := by have := h.1.2.1; omega
    simp only [partsL, h1, Bool.false_eq_true, if_false, if_neg h3, List.nil_append]
    rfl
  unfold partsM
  rw [h2]
  rfl
theorem splitM_one {nm : Str} (h : GoodN nm) : splitM (47 :: nm) = ([nm], 0) := by
  unfold splitM
  have h0 : (0 : UInt8) ∉ (47 :: nm : Str) := by
    intro hm
    rcases List.mem_cons.1 hm with e | hm
    · exact absurd e (by decide)
    · exact h.2.2 hm
  rw [isAbs_cons, hasNul_none h0, partsM_one h]
  have h3 : ¬ (200 : Int) < ((47 :: nm : Str).length : Int) := by have := h.1.2.1; simp only [List.length_cons]; omega
  rw [if_neg (by decide), if_neg ?_]
  simp only [Bool.or_eq_true, Bool.not_eq_true', decide_eq_true_eq, not_or]
  exact ⟨by decide, h3⟩
theorem lastM_one {nm : Str} (h : GoodN nm) : lastM (47 :: nm) = ([47], nm, 0) := by
  unfold lastM
  rw [splitM_one h]
  simp only [ne_eq, not_true_eq_false, if_false, List.getLast?_singleton, if_neg h.1.2.2.2]
  rfl
theorem way1 (S : Tre) : S.way 1 = [] := way_stop (.inl rfl)
variable {S : Tre} {rk : Int → Nat} {k : Nat}
theorem Gd.place_one (hg : Gd S rk k) {nm : Str} (h : GoodN nm) : S.place (47 :: nm) = (⟨(fnd (S.at_ 1).names nm).getD 0, 1, nm⟩, 0) := by
  unfold Tre.place
  rw [lastM_one h]
  simp only [find_root, ne_eq, not_true_eq_false, if_false]
  rw [if_neg (fun e => e hg.root2), way1]
  have h1 : Tre.longM ([] ++ [nm]) = false := by
    unfold Tre.longM
    have h2 := joinS_len [nm] (fun p hp => by rw [List.mem_singleton.1 hp]; exact h.1.2.1)
    simp only [List.length_cons, List.length_nil] at h2
    simp only [Bool.or_eq_false_iff, decide_eq_false_iff_not]
    refine ⟨by simp, ?_⟩
    show ¬ 200 < (joinM [nm]).length
    simp only [joinM, List.length_cons]
    omega
  rw [h1]
  rfl
theorem Gd.fresh_one (hg : Gd S rk k) {nm : Str} (h : GoodN nm) : S.fresh (47 :: nm) = if (fnd (S.at_ 1).names nm).getD 0 ≠ 0 then (spt0, 6) else (⟨0, 1, nm⟩, 0) := by
  unfold Tre.fresh
  rw [hg.place_one h]
  simp only [ne_eq, not_true_eq_false, if_false]
  by_cases h0 : (fnd (S.at_ 1).names nm).getD 0 = 0
  · rw [if_neg (by simp [h0]), if_neg (by simp [h0]), h0]
  · rw [if_pos (by simp [h0]), if_pos (by simp [h0])]
/-- What a new node leaves of its directory. -/
theorem make_dir (S : Tre) (s : Spt) (c : Int) (ds : Str) (h : s.dir ≠ S.last + 1) : fnd (S.make s c ds).nodes s.dir = some (Tre.dirAdd (S.at_ s.dir) s.name (S.last + 1)) := by
  unfold Tre.make Tre.add Tre.setN
  refine (fnd_putA.trans (if_neg h)).trans (fnd_putA.trans ((if_pos rfl).trans ?_))
  unfold Tre.at_
  dsimp only
  rw [fnd_putA, if_neg h]
theorem make_other (S : Tre) (s : Spt) (c : Int) (ds : Str) (n : Int) (h1 : n ≠ s.dir) (h2 : n ≠ S.last + 1) : fnd (S.make s c ds).nodes n = fnd S.nodes n := by
  unfold Tre.make Tre.add Tre.setN
  exact (fnd_putA.trans (if_neg h2)).trans (fnd_putA.trans ((if_neg h1).trans (fnd_putA.trans (if_neg h2))))
theorem gd0 : Gd tre0 (fun _ => 0) 0 where
  x := {
    keys := by decide
    has1 := ⟨_, rfl⟩
    rk1 := rfl
    rk20 := fun _ => by show 0 ≤ 20; omega
    zne := by decide
    zero := rfl
    nod := fun n x hx => by
      have h1 : n = 1 ∧ x = ⟨2, [], [], [], 0, 1, 0⟩ := by
        have e : tre0.nodes = [(1, ⟨2, [], [], [], 0, 1, 0⟩)] := rfl
        rw [e, fnd_cons] at hx
        by_cases h : (1 : Int) = n
        · rw [if_pos h] at hx; cases hx; exact ⟨h.symm, rfl⟩
        · rw [if_neg h] at hx; cases hx
      obtain ⟨rfl, rfl⟩ := h1
      exact ⟨.inr (.inl rfl), fun h => absurd rfl h, by simp, List.nodup_nil, ⟨by simp, by simp, by simp, by simp, by simp, by simp, by simp⟩, fun _ => ⟨rfl, rfl, rfl, by decide⟩, fun _ h => absurd rfl h, fun _ h => absurd rfl h, fun _ _ h => absurd rfl h⟩ }
  num := fun n x hx => by
    have e : tre0.nodes = [(1, ⟨2, [], [], [], 0, 1, 0⟩)] := rfl
    rw [e, fnd_cons] at hx
    by_cases h : (1 : Int) = n
    · subst h; exact ⟨by omega, by show (1:Int) ≤ 1; omega⟩
    · rw [if_neg h] at hx; cases hx
  last := by show (1 : Int) ≤ _; omega
  many := by show 1 ≤ 1; omega
  tab16 := rfl
  opn := fun fd s hs => by
    exfalso
    obtain ⟨j, hj, -, e, hon⟩ := Tb.look_in rfl hs
    have : ∀ s ∈ tre0.tab, s.on = false := by decide
    rw [this s (by rw [← e]; exact List.getElem_mem _)] at hon
    cases hon
end Go.Proofs.YtonhcefgakmpfaaGreatDoor
/- PATHS, plain: parts joined and taken apart again; going down by names. No program in sight. -/
namespace Go.Proofs.YtonhcefgakmpfaaGreatDoor
open Go.RowKit Go.Own
def joinP : List Str → Str
  | [] => []
  | p :: ps => (47 :: p) ++ joinP ps
theorem joinP_app (a b : List Str) : joinP (a ++ b) = joinP a ++ joinP b := by
  induction a with
  | nil => rfl
  | cons x a ih => simp only [List.cons_append, joinP, ih, List.append_assoc]
theorem joinP_ne {ps : List Str} (h : ps ≠ []) : joinP ps ≠ [] := by
  cases ps with
  | nil => exact absurd rfl h
  | cons p ps => simp [joinP]
theorem spl_app {a : Str} (h : (47 : UInt8) ∉ a) (l : Str) : spl (a ++ 47 :: l) = a :: spl l := by
  induction a with
  | nil => rw [List.nil_append, spl, if_pos rfl]
  | cons c a ih =>
    have h1 : c ≠ 47 := fun e => h (by rw [e]; exact List.mem_cons_self)
    rw [List.cons_append, spl, if_neg h1, ih fun hm => h (List.mem_cons_of_mem _ hm)]
theorem spl_joinP : ∀ (ps : List Str) (a : Str), (47 : UInt8) ∉ a → (∀ p ∈ ps, (47 : UInt8) ∉ p) → spl (a ++ joinP ps) = a :: ps
  | [], a, ha, _ => by rw [joinP, List.append_nil, spl_no ha]
  | p :: ps, a, ha, h => by
    show spl (a ++ (47 :: (p ++ joinP ps))) = _
    rw [spl_app ha, spl_joinP ps p (h p List.mem_cons_self) fun q hq => h q (List.mem_cons_of_mem _ hq)]
/-- A part without a zero byte. -/
def Pz (p : Str) : Prop := PartOk p ∧ (0 : UInt8) ∉ p
namespace Tre
/-- Down by names. -/
def goN (S : Tre) : Int → List Str → Option Int
  | n, [] => some n
  | n, p :: ps => match fnd (S.at_ n).names p with
    | none => none
    | some c => goN S c ps
end Tre
theorem goN_app (S : Tre) (n : Int) (a b : List Str) : S.goN n (a ++ b) = (S.goN n a).bind fun c => S.goN c b := by
  induction a generalizing n with
  | nil => rfl
  | cons p a ih =>
    rw [List.cons_append, Tre.goN, Tre.goN]
    cases fnd (S.at_ n).names p with
    | none => rfl
    | some c => exact ih c
theorem goN_snoc {S : Tre} {n c : Int} {ps : List Str} {p : Str} (h : S.goN n (ps ++ [p]) = some c) : ∃ d, S.goN n ps = some d ∧ fnd (S.at_ d).names p = some c := by
  rw [goN_app] at h
  cases hd : S.goN n ps with
  | none => rw [hd] at h; cases h
  | some d =>
    rw [hd] at h
    refine ⟨d, rfl, ?_⟩
    rw [Option.bind_some, Tre.goN] at h
    cases hf : fnd (S.at_ d).names p with
    | none => rw [hf] at h; cases h
    | some e => rw [hf] at h; exact h
variable {S : Tre} {rk : Int → Nat} {k : Nat}
/-- What is found by names is there, deeper. -/
theorem Gd.go_there (h : Gd S rk k) : ∀ (ps : List Str) (n : Int) (x : Nod), fnd S.nodes n = some x → ∀ c, S.goN n ps = some c → ∃ y, fnd S.nodes c = some y ∧ rk n + ps.length ≤ rk c ∧ (∀ p ∈ ps, NameOk p) ∧ (ps ≠ [] → y.kind = 2 → y.above ≠ 0 ∧ rk c = rk n + ps.length)
  | [], n, x, hx, c, hc => by
    cases hc
    exact ⟨x, hx, by simp, by simp, fun h => absurd rfl h⟩
  | p :: ps, n, x, hx, c, hc => by
    rw [Tre.goN, at_of hx] at hc
    cases hf : fnd x.names p with
    | none => rw [hf] at hc; cases hc
    | some d =>
      rw [hf] at hc
      dsimp only at hc
      obtain ⟨e1, e2, y, hy, e3⟩ := (h.nod hx).ents _ (fnd_some hf)
      obtain ⟨z, hz, a1, a2, a3⟩ := h.go_there ps d y hy c hc
      have hr : rk n + 1 ≤ rk d := (h.nm_rk n x hx _ (fnd_some hf)).1
      refine ⟨z, hz, by simp only [List.length_cons]; omega, fun q hq => ?_, fun _ h2 => ?_⟩
      · rcases List.mem_cons.1 hq with rfl | hq
        · exact e1
        · exact a2 q hq
      · by_cases hps : ps = []
        · subst hps
          cases hc
          rw [hy] at hz
          cases hz
          have := e3 h2
          exact ⟨by rw [this.1]; exact h.ne0 hx, by have := this.2; simp only [List.length_cons, List.length_nil]; omega⟩
        · have h4 := a3 hps h2
          have hy2 : y.kind = 2 := Classical.byContradiction fun hk => by
            have h5 := ((h.nod hy).file hk).1
            cases ps with
            | nil => exact hps rfl
            | cons p2 ps =>
              rw [Tre.goN, at_of hy, h5] at hc
              cases hc
          have h5 := (e3 hy2).2
          exact ⟨h4.1, by simp only [List.length_cons]; dsimp only at h5; omega⟩
/-- The names that lead to a directory are its way. -/
theorem Gd.way_go (h : Gd S rk k) : ∀ (r : Nat) (ps : List Str) (n : Int) (x : Nod), ps.length = r → fnd S.nodes n = some x → x.kind = 2 → S.goN 1 ps = some n → S.way n = ps
  | 0, ps, n, x, hl, hx, h2, hc => by
    have : ps = [] := List.eq_nil_of_length_eq_zero hl
    subst this
    cases hc
    exact way1 S
  | r + 1, ps, n, x, hl, hx, h2, hc => by
    have hne : ps ≠ [] := by rintro rfl; cases hl
    obtain ⟨qs, p, rfl⟩ : ∃ qs p, ps = qs ++ [p] := ⟨ps.dropLast, ps.getLast hne, (List.dropLast_concat_getLast hne).symm⟩
    obtain ⟨d, hd, hf⟩ := goN_snoc hc
    obtain ⟨x1, hx1⟩ := h.x.has1
    obtain ⟨y, hy, _⟩ := h.go_there qs 1 x1 hx1 d hd
    rw [at_of hy] at hf
    obtain ⟨e1, e2, z, hz, e3⟩ := (h.nod hy).ents _ (fnd_some hf)
    dsimp only at hz e3
    rw [hx] at hz
    cases hz
    have hab := (e3 h2).1
    have hn1 : n ≠ 1 := by
      rintro rfl
      have := ((h.nod hx).root rfl).2.1
      rw [this] at hab
      exact h.ne0 hy hab.symm
    have ha0 : x.above ≠ 0 := by rw [hab]; exact h.ne0 hy
    obtain ⟨y', nm, b1, b2, b3, b4, b5⟩ := way_step h.wy hx hn1 ha0
    rw [hab] at b1 b5
    rw [hy] at b1
    cases b1
    have hnm : nm = p := by
      have hm : (p, n) ∈ y.names.filter fun e => decide (e.2 = n) := List.mem_filter.2 ⟨fnd_some hf, by simp⟩
      rw [b2, List.mem_singleton] at hm
      exact (Prod.mk.inj hm).1.symm
    have hk2 : y.kind = 2 := Classical.byContradiction fun hk => by
      rw [((h.nod hy).file hk).1] at hf
      cases hf
    rw [b5, hnm, h.way_go r qs d y (by rw [List.length_append] at hl; simpa using hl) hy hk2 hd]
end Go.Proofs.YtonhcefgakmpfaaGreatDoor
