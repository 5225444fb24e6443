/- TEXTS of mine, merged. -/
import Derived.Test.YtfhaedkaedffcaaGreatDoorM25
import Derived.Shelf.SlSortCmp.WholeK
import Derived.Shelf.SlGeneric
import Derived.Ground.SlsfProg
import Derived.Test.YtfhaedkaedffcaaGreatDoorProg
import Derived.Test.YtfhaedkaedffcaaGreatDoorM11
import Derived.Test.YtfhaedkaedffcaaGreatDoorM10
/- THE WALK of tree.Nodes, out of what slices.SortFunc does. -/
namespace Go.Proofs.YtfhaedkaedffcaaGreatDoor
open Go.RowKit Go.Own
/-- Sorted by their paths. -/
def Srt (os : List Sn) : Prop := os.Pairwise fun a b => ¬ Lib.compareBytes b.path a.path < 0
/-- What is asked of slices.SortFunc. -/
def SortsNd : Prop := ∀ (v : Value) (os : List Sn) (w : World) (L : List HP), os ≠ [] → os.length ≤ 1000000 → Has w (Sns v os :: L) → Calls Tryz.prog 62 #[v, .func (.func 63) #[] #[]] w fun e w' => e = .returned (.tuple #[]) ∧ ∃ os', os'.Perm os ∧ Srt os' ∧ Has w' (Sns v os' :: L) ∧ Keep w w'
set_option maxRecDepth 100000 in
set_option maxHeartbeats 4000000 in
theorem tNodes (hSort : SortsNd) (q : Nat) (S : Tre) (x : Nod) (rk : Int → Nat) (w : World) (L : List HP) (h1 : fnd S.nodes 1 = some x) (hdl : ∀ n x, fnd S.nodes n = some x → x.data.length ≤ 100000) (hlow : ∀ n x, fnd S.nodes n = some x → rk n ≤ 21) (hrk : ∀ n x, fnd S.nodes n = some x → ∀ e ∈ x.names, rk n < rk e.2 ∧ e.1.length ≤ 24 ∧ ∃ y, fnd S.nodes e.2 = some y) (hmany : (seen S.nodes 22 1 []).length ≤ 1000000) (hO : Has w (Trc q S :: L)) :
    Calls Tryz.prog 18 #[.pointer (some ⟨q, 0, none⟩)] w fun e w' => ∃ v os, e = .returned v ∧ (os.map Sn.key).Perm ((seen S.nodes 22 1 []).map keyE) ∧ Srt os ∧ Has w' (Sns v os :: Trc q S :: L) ∧ Keep w w' := by
  obtain ⟨m, f, P, hPT, h⟩ := trc_iff.1 hO
  have hnd := Trb.nodup h
  have hfn : ∀ y ∈ P, fnd S.nodes y.1 = some y.2.2 := by
    intro y hy
    rw [← hPT.1]
    exact fnd_mem (by rw [pnN_keys]; exact hnd) (List.mem_map.2 ⟨y, hy, rfl⟩)
  have h1' := h1
  rw [← hPT.1] at h1'
  obtain ⟨A, b, B, hPe⟩ := pn_split h1'
  have hin : (1, b, x) ∈ P := by rw [hPe]; simp
  have hP : pnN P = S.nodes := hPT.1
  have HSE := hid (fun gt gs go => tSee q m f gt gs go P S.last S.tab rk (fun y hy => hdl _ _ (hfn y hy)) hnd (fun y hy => hlow _ _ (hfn y hy)) (fun y hy e he => by
    obtain ⟨a1, a2, z, hz⟩ := hrk _ _ (hfn y hy) e he
    refine ⟨a1, a2, ?_⟩
    rw [← hP] at hz
    obtain ⟨A', b', B', e'⟩ := pn_split hz
    exact ⟨(e.2, b', z), by rw [e']; simp, rfl⟩) 22 1 b x [] P)
  have HPT := hid hPT
  have HT := hid (show Has w (Trg q m f P S.last S.tab P :: L) from Trg.of h)
  have HIN := hid hin
  have HLOW := hid (hlow _ _ h1)
  have HMANY := hid hmany
  have HSO := hid hSort
  clear hO h hnd hfn h1' hin hPe hdl hlow hrk hmany hSort hPT
  have h2 := ((HT.out.alloc (.cells #[.pointer (some ⟨q, 0, none⟩)] 24)).alloc (.cells #[.slice none 0 0] 33)).alloc (.cells #[.nilFunc] 85)
  have e1 : (w.alloc (.cells #[.pointer (some ⟨q, 0, none⟩)] 24)).heap.size = w.heap.size + 1 := by show (Array.push _ _).size = _; rw [Array.size_push]
  have e2 : ((w.alloc (.cells #[.pointer (some ⟨q, 0, none⟩)] 24)).alloc (.cells #[.slice none 0 0] 33)).heap.size = w.heap.size + 1 + 1 := by show (Array.push _ _).size = _; rw [Array.size_push, e1]
  rw [e2, e1] at h2
  have hcs := (show _ = some Value.nilFunc from h2.cells 0)
  have hts := h2.thaw 0
  have h3 := ((HT.out.alloc (.cells #[.pointer (some ⟨q, 0, none⟩)] 24)).alloc (.cells #[.slice none 0 0] 33)).alloc (.cells #[.func (.func 59) #[] #[.pointer (some ⟨w.heap.size, 0, none⟩), .pointer (some ⟨w.heap.size + 1, 0, none⟩), .pointer (some ⟨w.heap.size + 1 + 1, 0, none⟩)]] 85)
  rw [e2, e1] at h3
  have HO2 := hid h3
  have HK2 := hid ((((Keep.refl w).alloc (.cells #[.pointer (some ⟨q, 0, none⟩)] 24)).alloc (.cells #[.slice none 0 0] 33)).alloc (.cells #[.func (.func 59) #[] #[.pointer (some ⟨w.heap.size, 0, none⟩), .pointer (some ⟨w.heap.size + 1, 0, none⟩), .pointer (some ⟨w.heap.size + 1 + 1, 0, none⟩)]] 85))
  have hsf : ∀ (W : World) (a : Addr) (u v : Array Value), (store a (.func (.func 59) u v)).run Tryz.prog W = stored Tryz.prog W a (.func (.func 59) u v) .plain := fun W a u v => run_store Tryz.prog W a _ .plain rfl
  clear h2 h3 e1 e2
  go_enter Tryz.func18, Tryz.ntmps18
  go_upto_region 6 with fail
  generalize ((w.alloc (.cells #[.pointer (some ⟨q, 0, none⟩)] 24)).alloc (.cells #[.slice none 0 0] 33)).alloc (.cells #[.func (.func 59) #[] #[.pointer (some ⟨w.heap.size, 0, none⟩), .pointer (some ⟨w.heap.size + 1, 0, none⟩), .pointer (some ⟨w.heap.size + 1 + 1, 0, none⟩)]] 85) = w2 at *
  clear hcs hts HT hsf
  generalize hgs : w.heap.size + 1 + 1 = gs at *
  generalize hgo : w.heap.size + 1 = go at *
  generalize w.heap.size = gt at *
  have hgc : w2.cell? ⟨gs, 0, none⟩ = some (.func (.func 59) #[] #[.pointer (some ⟨gt, 0, none⟩), .pointer (some ⟨go, 0, none⟩), .pointer (some ⟨gs, 0, none⟩)]) := HO2.out.cells 0
  have HO3 := hid (show Has w2 (Sns (.slice none 0 0) [] :: pt go (.cells #[.slice none 0 0] 33) :: pt gt (.cells #[.pointer (some ⟨q, 0, none⟩)] 24) :: pt gs (.cells #[.func (.func 59) #[] #[.pointer (some ⟨gt, 0, none⟩), .pointer (some ⟨go, 0, none⟩), .pointer (some ⟨gs, 0, none⟩)]] 85) :: Trg q m f P S.last S.tab P :: L) from sns_iff.2 ((HO2.out.re 4 [1, 2, 0, 3]).row_nil 44 5))
  have HX := hid (HSE.out gt gs go (.slice none 0 0) [] w2 L (by omega) HLOW.out HIN.out (by simp) (fun y hy _ => hy) (by have := HMANY.out; rw [HPT.out.1]; simpa using this) HO3.out)
  rw [HPT.out.1] at HX
  clear HO2 HO3
  go_wp2_with fail
  refine HX.out.mono ?_
  rintro e w4 ⟨rfl, ov, os, hpm, hO4, hK4⟩
  rw [List.nil_append] at hO4
  have HPM := hid hpm
  have HO4 := hid hO4
  have HK4 := hid (HK2.out.trans hK4)
  have HLN := hid (show os.length ≤ 1000000 from by have h1 := hpm.length_eq; rw [List.length_map, List.length_map] at h1; have := HMANY.out; omega)
  have HNE := hid (show os ≠ [] from by
    rintro rfl
    have h1 := hpm.length_eq
    rw [List.length_map, List.length_map, seen] at h1
    simp at h1)
  clear hpm hO4 hK4 HX HK2 hgc
  try dsimp only
  have hov : w4.cell? ⟨go, 0, none⟩ = some ov := HO4.out.p1.cells 0
  have HS5 := hid (HSO.out ov os w4 _ HNE.out HLN.out HO4.out)
  obtain ⟨po, co, rfl, -⟩ := (Has.rd (sns_iff.1 HO4.out)).form
  go_wp2_with fail
  refine HS5.out.mono ?_
  rintro e w5 ⟨rfl, os', hp5, hs5, hO5, hK5⟩
  have hov5 : w5.cell? ⟨go, 0, none⟩ = some (.slice po os.length co) := hO5.p1.cells 0
  try dsimp only
  have HO5 := hid hO5
  have HK5 := hid (HK4.out.trans hK5)
  have HP5 := hid hp5
  have HS6 := hid hs5
  clear hO5 hK5 hp5 hs5 HS5 hov
  go_wp2_with fail
  go_ret
  refine ⟨_, os', rfl, (HP5.out.map _).trans HPM.out, HS6.out, ?_, HK5.out⟩
  have h9 := HO5.out.re 5 [4, 0]
  exact (show Has w5 (Trc q S :: _) from trc_iff.2 ⟨m, f, P, HPT.out, h9⟩).re 2 [1, 0]
end Go.Proofs.YtfhaedkaedffcaaGreatDoor
/-
  DERIVED: THE SHELF's CONTRACTS AT THIS DUMP, IN PLAIN WORDS (tools/lay-plain.mjs out of 'TryzSrt.lean', which tools/lay-shelf.mjs wrote): THE SAME DECLARATIONS UNDER THE SAME NAMES: 'import', 'namespace', 'open', 'def', 'theorem' AND NOTHING ELSE: no command of the shelf's: FOR A HAND-IN. Each laying: the table of numbers ('.._ren') and one theorem, a field a fact of the dump's own or the kernel's comparison; each contract: ONE APPLICATION.
-/
namespace Go.Proofs
open Go.Shelf
def Tryz.sortNode_ren : Go.Shelf.Ren := ⟨fun | 6 => 62 | 15 => 112 | 14 => 111 | 28 => 158 | 29 => 159 | 20 => 150 | 21 => 151 | 22 => 152 | 23 => 153 | 24 => 154 | 25 => 155 | 26 => 156 | 27 => 157 | 46 => 180 | 47 => 181 | 48 => 182 | 49 => 183 | 50 => 184 | 57 => 201 | n => n, fun | 22 => 33 | 24 => 44 | 25 => 89 | 3 => 3 | 39 => 90 | 0 => 0 | 53 => 188 | 55 => 190 | 4 => 4 | 46 => 182 | 45 => 181 | 50 => 126 | 5 => 5 | 9 => 9 | 66 => 202 | 70 => 206 | 76 => 224 | 77 => 55 | n => n, fun | n => n⟩
theorem Tryz.sortNode : Go.Proofs.SlLaysF0.n6 Tryz.prog Tryz.sortNode_ren := {
  mixed := by kernel_rfl
  f6 := ⟨Tryz.f62.name, by decide, Tryz.func62.trans (congrArg some (by kernel_rfl))⟩
  f14 := ⟨Tryz.f111.name, by decide, Tryz.func111.trans (congrArg some (by kernel_rfl))⟩
  f15 := Tryz.func112.trans (congrArg some (by kernel_rfl))
  f20 := ⟨Tryz.f150.name, by decide, Tryz.func150.trans (congrArg some (by kernel_rfl))⟩
  f21 := ⟨Tryz.f151.name, by decide, Tryz.func151.trans (congrArg some (by kernel_rfl))⟩
  f22 := ⟨Tryz.f152.name, by decide, Tryz.func152.trans (congrArg some (by kernel_rfl))⟩
  f23 := ⟨Tryz.f153.name, by decide, Tryz.func153.trans (congrArg some (by kernel_rfl))⟩
  f24 := ⟨Tryz.f154.name, by decide, Tryz.func154.trans (congrArg some (by kernel_rfl))⟩
  f25 := ⟨Tryz.f155.name, by decide, Tryz.func155.trans (congrArg some (by kernel_rfl))⟩
  f26 := ⟨Tryz.f156.name, by decide, Tryz.func156.trans (congrArg some (by kernel_rfl))⟩
  f27 := ⟨Tryz.f157.name, by decide, Tryz.func157.trans (congrArg some (by kernel_rfl))⟩
  f28 := Tryz.func158.trans (congrArg some (by kernel_rfl))
  f29 := Tryz.func159.trans (congrArg some (by kernel_rfl))
  f46 := ⟨Tryz.f180.name, by decide, Tryz.func180.trans (congrArg some (by kernel_rfl))⟩
  f47 := Tryz.func181.trans (congrArg some (by kernel_rfl))
  f48 := Tryz.func182.trans (congrArg some (by kernel_rfl))
  f49 := ⟨Tryz.f183.name, by decide, Tryz.func183.trans (congrArg some (by kernel_rfl))⟩
  f50 := ⟨Tryz.f184.name, by decide, Tryz.func184.trans (congrArg some (by kernel_rfl))⟩
  f57 := ⟨Tryz.f201.name, by decide, Tryz.func201.trans (congrArg some (by kernel_rfl))⟩
  t0 := Tryz.underlying0
  a0 := Tryz.isAgg0
  z0 := Tryz.sizeOf0
  v0 := Tryz.zeroValue0
  t3 := Tryz.underlying3
  a3 := Tryz.isAgg3
  z3 := Tryz.sizeOf3
  v3 := Tryz.zeroValue3
  t4 := Tryz.underlying4
  a4 := Tryz.isAgg4
  z4 := Tryz.sizeOf4
  v4 := Tryz.zeroValue4
  t5 := Tryz.underlying5
  a5 := Tryz.isAgg5
  z5 := Tryz.sizeOf5
  v5 := Tryz.zeroValue5
  t9 := Tryz.underlying9
  a9 := Tryz.isAgg9
  z9 := Tryz.sizeOf9
  v9 := Tryz.zeroValue9
  t22 := Tryz.underlying33
  a22 := Tryz.isAgg33
  z22 := Tryz.sizeOf33
  v22 := Tryz.zeroValue33
  t25 := Tryz.underlying89
  a25 := Tryz.isAgg89
  z25 := Tryz.sizeOf89
  v25 := Tryz.zeroValue89
  t39 := Tryz.underlying90
  a39 := Tryz.isAgg90
  z39 := Tryz.sizeOf90
  v39 := Tryz.zeroValue90
  t45 := Tryz.underlying181
  a45 := Tryz.isAgg181
  z45 := Tryz.sizeOf181
  v45 := Tryz.zeroValue181
  t46 := Tryz.underlying182
  a46 := Tryz.isAgg182
  z46 := Tryz.sizeOf182
  v46 := Tryz.zeroValue182
  t50 := Tryz.underlying126
  a50 := Tryz.isAgg126
  z50 := Tryz.sizeOf126
  v50 := Tryz.zeroValue126
  t53 := Tryz.underlying188
  a53 := Tryz.isAgg188
  z53 := Tryz.sizeOf188
  v53 := Tryz.zeroValue188
  t55 := Tryz.underlying190
  a55 := Tryz.isAgg190
  z55 := Tryz.sizeOf190
  v55 := Tryz.zeroValue190
  t66 := Tryz.underlying202
  a66 := Tryz.isAgg202
  z66 := Tryz.sizeOf202
  v66 := Tryz.zeroValue202
  t70 := Tryz.underlying206
  a70 := Tryz.isAgg206
  z70 := Tryz.sizeOf206
  v70 := Tryz.zeroValue206
  t76 := Tryz.underlying224
  a76 := Tryz.isAgg224
  z76 := Tryz.sizeOf224
  v76 := Tryz.zeroValue224
  t77 := Tryz.underlying55
  a77 := Tryz.isAgg55
  z77 := Tryz.sizeOf55
  v77 := Tryz.zeroValue55 }
end Go.Proofs
/- slices.SortFunc of the files as they are seen. -/
namespace Go.Proofs.YtfhaedkaedffcaaGreatDoor
open Go.RowKit Go.Own Go.Sort Go.Shelf
theorem cb_lt : ∀ a b : List UInt8, Lib.compareBytes a b < 0 ↔ a < b
  | [], [] => by simp [Lib.compareBytes]
  | [], _ :: _ => by simp [Lib.compareBytes]
  | _ :: _, [] => by simp [Lib.compareBytes]
  | a :: r, b :: s => by
    rw [Lib.compareBytes, List.cons_lt_cons_iff, ← cb_lt r s]
    by_cases h1 : a < b
    · simp [h1]
    · by_cases h2 : b < a
      · have h3 : a ≠ b := by rintro rfl; exact absurd h2 (UInt8.lt_irrefl _)
        simp [h1, h2, h3]
      · have h3 : a = b := UInt8.le_antisymm (UInt8.not_lt.1 h2) (UInt8.not_lt.1 h1)
        simp [h1, h3]
def cfS (x y : Sn) : Int := Lib.compareBytes x.path y.path
theorem lt_eq (x y : Sn) : ltOf cfS x y = ltStr x.path y.path := by
  unfold ltOf cfS ltStr
  rw [decide_eq_decide]
  exact cb_lt _ _
theorem swoS : SWO (ltOf cfS) where
  irrefl x := by rw [lt_eq]; exact swo_ltStr.irrefl _
  trans x y z h1 h2 := by rw [lt_eq] at *; exact swo_ltStr.trans _ _ _ h1 h2
  ntrans x y z h1 h2 := by rw [lt_eq] at *; exact swo_ltStr.ntrans _ _ _ h1 h2
theorem snEnc_flat : ∀ os : List Sn, snEnc os = os.flatMap Sn.enc
  | [] => rfl
  | s :: r => by rw [snEnc, snEnc_flat r]; rfl
instance : Inhabited Sn := ⟨⟨[], 0, 0, 0, [], .slice none 0 0⟩⟩
theorem oneV_one (v : Value) : (oneV v).oneCell' = true := by cases v <;> rfl
theorem enc_one (x : Sn) : ∀ v ∈ x.enc, v.oneCell' = true := by
  intro v hv
  simp only [Sn.enc, List.mem_cons, List.not_mem_nil, or_false] at hv
  rcases hv with rfl | rfl | rfl | rfl | rfl
  · rfl
  · rfl
  · rfl
  · rfl
  · exact oneV_one _
theorem sortsNd : SortsNd := by
  intro v os w L hne hl hO
  have h := sns_iff.1 hO
  obtain ⟨-, ⟨-, h0, -, -⟩ | ⟨g, cap, cur, rfl, -, -, -, -, h4⟩⟩ := h.row_cases
  · exact absurd (List.eq_nil_of_length_eq_zero h0) hne
  obtain ⟨-, hcs, hfz, -⟩ := h.row_cells
  have hH : HoldsK Sn.enc 5 w g 0 os.toArray := by
    intro j hj
    have hj' : j < os.length * 5 := by simpa using hj
    rw [Nat.zero_add]
    refine ⟨?_, hfz j⟩
    rw [hcs j hj', snEnc_flat]
    have h1 := flatK_list Sn.enc 5 (by decide) (fun _ => rfl) os.toArray
    have h2 : (os.flatMap Sn.enc)[j]? = (flatK Sn.enc 5 os.toArray).toList[j]? := by rw [h1]
    rw [h2, Array.getElem?_toList, Array.getElem?_eq_getElem hj, getElem!_pos _ j hj]
    rfl
  have eg : ∀ args w, (callFunc 63 args).run Tryz.prog w = .ok (.enter 63 args) w := enters_of Tryz.func63 (by kernel_rfl) rfl
  have hcon := AnyQ.slices_SortFunc Tryz.sortNode 5 Tryz.isAgg44 Tryz.sizeOf44 Sn.enc (fun _ => rfl) enc_one cfS swoS 63 #[] g 0 cap os.toArray w eg (fun _ _ _ _ x y => tCmp x y _) hH h4.lt (by simp; omega)
  refine Calls.mono (show Calls Tryz.prog 62 #[.slice (some ⟨g, 0, none⟩) os.length cap, .func (.func 63) #[] #[]] w _ from hcon) ?_
  rintro e w' ⟨rfl, d', n, os2, hp, hs, rfl⟩
  have hsz : d'.size = os.length := by have := hp.1; simpa using this
  have hpm : d'.toList.Perm os := by
    have h1 := hp.2.2
    have e1 : d'.extract 0 os.toArray.size = d' := by
      rw [List.size_toArray, ← hsz]
      simp
    have e2 : os.toArray.extract 0 os.toArray.size = os.toArray := by simp
    rw [e1, e2] at h1
    simpa using h1
  refine ⟨rfl, d'.toList, hpm, ?_, ?_, rfl, rfl, rfl, by simp [sortWorldK, Sort.grow, putRowK, Sort.putRow, Sort.mapBlock, Sort.ahead]⟩
  · unfold Srt
    rw [List.pairwise_iff_getElem]
    intro i j hi hj hij
    have hi' : i < d'.size := by simpa using hi
    have hj' : j < d'.size := by simpa using hj
    have h1 := hs i j (Nat.zero_le _) hij (by rw [List.size_toArray, ← hsz]; exact hj')
    rw [getElem!_pos d' i hi', getElem!_pos d' j hj'] at h1
    unfold ltOf at h1
    rw [Array.getElem_toList, Array.getElem_toList]
    exact of_decide_eq_false h1
  · have h5 := ((Has.ahead h n).putRowK Sn.enc (by decide) (fun _ => rfl) (d := d') hsz).grow os2
    refine sns_iff.2 ?_
    have e9 : d'.toList.length = os.length := by rw [Array.length_toList]; exact hsz
    rw [snEnc_flat, e9]
    exact h5.perm (.cons _ (List.Perm.append_right L (hpm.map _).symm))
end Go.Proofs.YtfhaedkaedffcaaGreatDoor
/- ALL FILES BY THEIR PATHS, plain: each path once; where it leads. No program in sight. -/
namespace Go.Proofs.YtfhaedkaedffcaaGreatDoor
open Go.RowKit Go.Own
def seenP (t : List (Int × Nod)) : Nat → Int → List Str → List (List Str × Int × Nod)
  | 0, _, _ => []
  | k + 1, n, p => (p, n, (fnd t n).getD nod0) :: ((fnd t n).getD nod0).names.flatMap fun e => seenP t k e.2 (p ++ [e.1])
def outP (e : List Str × Int × Nod) : Str × Int × Nod := (orM (joinP e.1), e.2.1, e.2.2)
theorem joinP_snoc (ps : List Str) (p : Str) : joinP (ps ++ [p]) = joinP ps ++ 47 :: p := by
  rw [joinP_app]
  simp [joinP]
theorem seen_P (t : List (Int × Nod)) : ∀ (f : Nat) (n : Int) (ps : List Str), seen t f n (joinP ps) = (seenP t f n ps).map outP
  | 0, _, _ => rfl
  | f + 1, n, ps => by
    rw [seen, seenP, List.map_cons, List.map_flatMap]
    congr 1
    · refine congrArg (fun g => List.flatMap g ((fnd t n).getD nod0).names) ?_
      funext e
      rw [← joinP_snoc]
      exact seen_P t f e.2 (ps ++ [e.1])
theorem seen_P0 (t : List (Int × Nod)) (f : Nat) (n : Int) : seen t f n [] = (seenP t f n []).map outP := seen_P t f n []
variable {S : Tre} {rk : Int → Nat} {k : Nat}
theorem Gd.seenP_mem (h : Gd S rk k) : ∀ (f : Nat) (n : Int) (x : Nod) (pre : List Str), fnd S.nodes n = some x → ∀ e, e ∈ seenP S.nodes f n pre ↔ ∃ qs, e.1 = pre ++ qs ∧ qs.length < f ∧ S.goN n qs = some e.2.1 ∧ fnd S.nodes e.2.1 = some e.2.2
  | 0, n, x, pre, hx, e => by
    constructor
    · intro he; cases he
    · rintro ⟨qs, _, h1, _⟩; exact absurd h1 (Nat.not_lt_zero _)
  | f + 1, n, x, pre, hx, e => by
    rw [seenP, hx]
    simp only [Option.getD_some]
    rw [List.mem_cons, List.mem_flatMap]
    constructor
    · rintro (rfl | ⟨a, ha, he⟩)
      · exact ⟨[], by simp, by simp, rfl, hx⟩
      · obtain ⟨e1, e2, y, hy, e3⟩ := (h.nod hx).ents a ha
        obtain ⟨qs, h1, h2, h3, h4⟩ := (h.seenP_mem f a.2 y _ hy e).1 he
        refine ⟨a.1 :: qs, by rw [h1]; simp, by simp only [List.length_cons]; omega, ?_, h4⟩
        rw [Tre.goN, at_of hx, fnd_mem (h.nod hx).uniq ha]
        exact h3
    · rintro ⟨qs, h1, h2, h3, h4⟩
      cases qs with
      | nil =>
        left
        cases h3
        rw [List.append_nil] at h1
        rw [hx] at h4
        cases h4
        exact Prod.ext h1 rfl
      | cons q qs =>
        right
        rw [Tre.goN, at_of hx] at h3
        cases hf : fnd x.names q with
        | none => rw [hf] at h3; cases h3
        | some d =>
          rw [hf] at h3
          obtain ⟨e1, e2, y, hy, e3⟩ := (h.nod hx).ents _ (fnd_some hf)
          refine ⟨(q, d), fnd_some hf, (h.seenP_mem f d y _ hy e).2 ⟨qs, by rw [h1]; simp, by simp only [List.length_cons] at h2; omega, h3, h4⟩⟩
/-- The files of a tree, by the parts of their paths. -/
def filesP (S : Tre) : List (List Str × Int × Nod) := seenP S.nodes 22 1 []
theorem files_seen (S : Tre) : seen S.nodes 22 1 [] = (filesP S).map outP := seen_P0 _ _ _
theorem Gd.files_mem (h : Gd S rk k) (e : List Str × Int × Nod) : e ∈ filesP S ↔ S.goN 1 e.1 = some e.2.1 ∧ fnd S.nodes e.2.1 = some e.2.2 := by
  obtain ⟨x1, hx1⟩ := h.x.has1
  unfold filesP
  rw [h.seenP_mem 22 1 x1 [] hx1]
  constructor
  · rintro ⟨qs, h1, _, h2, h3⟩
    rw [List.nil_append] at h1
    subst h1
    exact ⟨h2, h3⟩
  · rintro ⟨h1, h2⟩
    refine ⟨e.1, by simp, ?_, h1, h2⟩
    obtain ⟨y, hy, h3, _⟩ := h.go_there e.1 1 x1 hx1 _ h1
    have := h.x.rk20 e.2.1
    rw [h.x.rk1] at h3
    omega
theorem Gd.files_len (h : Gd S rk k) {os : List Sn} (h1 : (os.map Sn.key).Perm ((seen S.nodes 22 1 []).map keyE)) : os.length = (filesP S).length := by
  have := h1.length_eq
  rw [List.length_map, List.length_map, files_seen, List.length_map] at this
  exact this
end Go.Proofs.YtfhaedkaedffcaaGreatDoor
/- WHAT IS TOLD A CODE CHANGES NOTHING, plain. No program in sight. -/
namespace Go.Proofs.YtfhaedkaedffcaaGreatDoor
open Go.RowKit Go.Own
variable {S : Tre} {rk : Int → Nat} {k : Nat}
end Go.Proofs.YtfhaedkaedffcaaGreatDoor
/- A tree that may be walked, as a check that is decided. No program in sight. -/
namespace Go.Proofs.YtfhaedkaedffcaaGreatDoor
open Go.RowKit Go.Own
def wkB (S : Tre) : Bool := (fnd S.nodes 1).isSome && S.nodes.all fun p => (p.2.names.all fun e => (fnd S.nodes e.2).isSome) && (decide (p.2.above = 0) || (fnd S.nodes p.2.above).isSome) && decide (p.2.data.length ≤ 100000) && decide (p.2.wr.length ≤ 100000) && decide (p.2.names.length < 1000000)
def wyB (S : Tre) (rk : Int → Nat) : Bool := S.nodes.all fun p => decide (p.1 = 1) || decide (p.2.above = 0) || match fnd S.nodes p.2.above with
  | none => false
  | some y => match y.names.filter fun e => decide (e.2 = p.1) with
    | [e] => decide (rk p.2.above < rk p.1) && decide (e.1.length ≤ 24) && decide (e.2 = p.1)
    | _ => false
def opbB (S : Tre) : Bool := decide (0 ≤ S.last) && decide (S.last < 1000000) && (fnd S.nodes (S.last + 1)).isNone && decide (S.nodes.length < 1000000) && (fnd S.nodes 0).isNone
theorem wk_of {S : Tre} (h : wkB S = true) : Wk S ∧ ∀ n x, fnd S.nodes n = some x → x.data.length ≤ 100000 ∧ x.wr.length ≤ 100000 ∧ x.names.length < 1000000 := by
  unfold wkB at h
  rw [Bool.and_eq_true, List.all_eq_true] at h
  obtain ⟨h1, h2⟩ := h
  have h3 : ∀ n x, fnd S.nodes n = some x → (∀ e ∈ x.names, (fnd S.nodes e.2).isSome = true) ∧ (x.above = 0 ∨ (fnd S.nodes x.above).isSome = true) ∧ x.data.length ≤ 100000 ∧ x.wr.length ≤ 100000 ∧ x.names.length < 1000000 := by
    intro n x hx
    have h4 := h2 _ (fnd_some hx)
    simpa [and_assoc] using h4
  refine ⟨⟨Option.isSome_iff_exists.1 h1, fun n x hx p c hc => ?_, fun n x hx h0 => ?_, fun n x hx _ => (h3 n x hx).2.2.1⟩, fun n x hx => (h3 n x hx).2.2⟩
  · exact Option.isSome_iff_exists.1 ((h3 n x hx).1 _ (fnd_some hc))
  · rcases (h3 n x hx).2.1 with h | h
    · exact absurd h h0
    · exact Option.isSome_iff_exists.1 h
theorem wy_of {S : Tre} {rk : Int → Nat} (h : wyB S rk = true) (hl : ∀ n, rk n ≤ 20) : Wy S rk := by
  refine ⟨fun n x hx h1 h0 => ?_, hl⟩
  unfold wyB at h
  have h4 := (List.all_eq_true.1 h) _ (fnd_some hx)
  dsimp only at h4
  rw [decide_eq_false h1, decide_eq_false h0, Bool.false_or, Bool.false_or] at h4
  split at h4
  · cases h4
  · rename_i y hy
    split at h4
    · rename_i e he
      simp only [Bool.and_eq_true, decide_eq_true_eq] at h4
      exact ⟨y, e.1, hy, by rw [he, ← h4.2], h4.1.1, h4.1.2⟩
    · cases h4
theorem opb_of {S : Tre} (h : opbB S = true) (h2 : wkB S = true) : Opb S := by
  unfold opbB at h
  simp only [Bool.and_eq_true, decide_eq_true_eq, Option.isNone_iff_eq_none] at h
  exact ⟨h.1.1.1.1, h.1.1.1.2, h.1.1.2, h.1.2, h.2, (wk_of h2).2⟩
/-- What stands in the table is there. -/
def opnB (S : Tre) : Bool := S.tab.all fun s => !s.on || ((fnd S.nodes s.node).isSome && decide (0 ≤ s.off) && decide (s.off ≤ 2000000000000) && decide ((S.at_ s.node).kind ≠ 3))
theorem look_in2 {T : List Tb.Slot} {fd : Int} {s : Tb.Slot} (h : Tb.look T fd = some s) : s ∈ T ∧ s.on = true := by
  unfold Tb.look at h
  by_cases hr : 0 ≤ fd ∧ fd < 16
  · rw [if_pos hr] at h
    cases ht : T[fd.toNat]? with
    | none => rw [ht] at h; cases h
    | some t =>
      rw [ht] at h
      dsimp only at h
      by_cases hon : t.on = true
      · rw [if_pos hon] at h
        cases h
        exact ⟨List.mem_of_getElem? ht, hon⟩
      · rw [if_neg hon] at h; cases h
  · rw [if_neg hr] at h; cases h
theorem opn_of {S : Tre} (h : opnB S = true) (h2 : wkB S = true) : Opn S := by
  have h3 : ∀ fd s, Tb.look S.tab fd = some s → (∃ x, fnd S.nodes s.node = some x) ∧ (0 ≤ s.off ∧ s.off ≤ 2000000000000) ∧ (S.at_ s.node).kind ≠ 3 := by
    intro fd s hs
    obtain ⟨h4, h5⟩ := look_in2 hs
    have h6 := (List.all_eq_true.1 h) s h4
    rw [h5] at h6
    simp only [Bool.not_true, Bool.false_or, Bool.and_eq_true, decide_eq_true_eq] at h6
    exact ⟨Option.isSome_iff_exists.1 h6.1.1.1, ⟨h6.1.1.2, h6.1.2⟩, h6.2⟩
  exact ⟨fun fd s hs => (h3 fd s hs).1, fun fd s hs => (h3 fd s hs).2.1, fun n x hx => ((wk_of h2).2 n x hx).1, fun n x hx => ((wk_of h2).2 n x hx).2.1, fun fd s hs => (h3 fd s hs).2.2⟩
end Go.Proofs.YtfhaedkaedffcaaGreatDoor
/- THE WALK of node.blocks (files of at most six blocks), inode.Place. -/
namespace Go.Proofs.YtfhaedkaedffcaaGreatDoor
open Go.RowKit Go.Own
/-- How many blocks a node takes (a file: of at most six). -/
def blocksM (x : Nod) : Int := if x.kind = 2 then (x.most + 3) / 4 else if x.kind = 3 then 1 else ((x.wr.filter id).length : Int)
theorem nPlace (k : Nat) (hk : k < 6) (w : World) : Calls Tryz.prog 117 #[.int .i64 (k : Int)] w fun e w' => e = .returned (.tuple #[.int .i64 0, .int .i64 k, .int .i64 0]) ∧ w = w' := by
  have h0 : (0 : Int) ≤ (k : Int) := by omega
  have h1 : ¬ (k : Int) < 0 := by omega
  have h2 : ¬ (k : Int) ≥ 162 := by omega
  have h3 : (k : Int) < 6 := by omega
  go_enter Tryz.func117, Tryz.ntmps117
  go_wp2_with fail
  go_ret3
  exact ⟨rfl, rfl⟩
def no12 : Array Value := #[.bool false, .bool false, .bool false, .bool false, .bool false, .bool false, .bool false, .bool false, .bool false, .bool false, .bool false, .bool false]
theorem index12 (k : Nat) (hk : k < 12) (w : World) : (Instr.index 154 (.agg no12) (.int .i64 (k : Int))).run Tryz.prog w = .ok (.bool false) w := by
  have : ∀ i : Fin 12, ∀ w : World, (Instr.index 154 (.agg no12) (.int .i64 (i.val : Int))).run Tryz.prog w = .ok (.bool false) w := by
    intro i w
    rcases i with ⟨i, hi⟩
    rcases i with _ | _ | _ | _ | _ | _ | _ | _ | _ | _ | _ | _ | i
    all_goals first | (exfalso; omega) | kernel_rfl
  exact this ⟨k, hk⟩ w
theorem cnt_succ (ws : List Bool) (k : Nat) (hk : k < ws.length) : ((ws.take (k + 1)).filter id).length = ((ws.take k).filter id).length + (if ws[k] = true then 1 else 0) := by
  rw [List.take_add_one, List.getElem?_eq_getElem hk, List.filter_append, List.length_append]
  cases ws[k] <;> simp
set_option maxRecDepth 100000 in
set_option maxHeartbeats 4000000 in
theorem tBlocks (b : Nat) (x : Nod) (w : World) (L : List HP) (hm0 : 0 ≤ x.most) (hm1 : x.most ≤ 1000000) (hw : x.wr.length ≤ 6) (hO : Has w (Ndc b x :: L)) :
    Calls Tryz.prog 69 #[.pointer (some ⟨b, 0, none⟩)] w fun e w' => e = .returned (.int .i64 (blocksM x)) ∧ Has w' (Ndc b x :: L) ∧ Keep w w' := by
  obtain ⟨dv, wv, nm, hnm, hHP⟩ := ndc_iff.1 hO
  have HNM := hid hnm
  have HP := hid hHP
  have hc0 : w.cell? ⟨b, 0, none⟩ = some (.int .i64 x.kind) := hHP.cells 0
  have hc4 : w.cell? ⟨b, 4, none⟩ = some (.int .i64 x.most) := hHP.cells 4
  have HO := hid hO
  clear hnm hHP hO
  by_cases hk2 : x.kind = 2
  · have HB := hid (show blocksM x = (x.most + 4 - 1) / 4 from by unfold blocksM; rw [if_pos hk2]; congr 1; omega)
    have hq : (0 : Int) ≤ x.most + 4 - 1 := by omega
    go_enter Tryz.func69, Tryz.ntmps69
    go_wp2_with fail
    go_ret
    rw [HB.out]
    exact ⟨rfl, HO.out, Keep.refl w⟩
  by_cases hk3 : x.kind = 3
  · have HB := hid (show blocksM x = 1 from by unfold blocksM; rw [if_neg hk2, if_pos hk3])
    go_enter Tryz.func69, Tryz.ntmps69
    go_wp2_with fail
    go_ret
    rw [HB.out]
    exact ⟨rfl, HO.out, Keep.refl w⟩
  · have HB := hid (show blocksM x = (((x.wr.take x.wr.length).filter id).length : Int) from by unfold blocksM; rw [if_neg hk2, if_neg hk3, List.take_length])
    obtain ⟨pw, cw, rfl, hcap, -, hcs⟩ := (Bools.rd HP.out.p2).form
    have hc2 : w.cell? ⟨b, 2, none⟩ = some (.slice pw x.wr.length cw) := HP.out.cells 2
    have hw6 : (x.wr.length : Int) ≤ 6 := by omega
    have hw0 : (0 : Int) ≤ (x.wr.length : Int) := by omega
    clear hcs
    have hbl := HP.out.lt
    have HP1 := hid (HP.out.alloc (.cells no12 154))
    go_enter Tryz.func69, Tryz.ntmps69
    go_wp2_with fail
    go_loopw [34, 3, 4, 5] (fun kv cv sv fv w' => ∃ k : Nat, k ≤ x.wr.length ∧ kv = .int .i64 (k : Int) ∧ sv = .int .i64 0 ∧ fv = .int .i64 0 ∧ cv = .int .i64 (((x.wr.take k).filter id).length : Int) ∧ Hid (Has w' (pt w.heap.size (.cells no12 154) :: pt b (.cells (nodC x dv (.slice pw x.wr.length cw) nm) 72) :: Dat x.kind dv x.data :: Bools (.slice pw x.wr.length cw) x.wr :: Nms nm x.names :: L)) ∧ Hid (Keep w w')) (fun kv _ _ _ _ => x.wr.length - (intOf kv).toNat)
    case atStart => exact ⟨0, by omega, rfl, rfl, rfl, rfl, HP1, hid ((Keep.refl w).alloc _)⟩
    case round =>
      clear HP1 HP HO hc0 hc4 hc2
      generalize w.heap.size = g6 at *
      obtain ⟨k, hk, rfl, rfl, rfl, rfl, HO, HK⟩ := hrel
      have hk0 : (0 : Int) ≤ (k : Int) := by omega
      by_cases hlt : k < x.wr.length
      · have hki : (k : Int) < (x.wr.length : Int) := by omega
        obtain ⟨p', c', e', -, -, hcs⟩ := (Bools.rd HO.out.p3).form
        obtain ⟨gw, ow, rfl, hcs2⟩ := hcs (by omega)
        simp only [Value.slice.injEq, true_and] at e'
        obtain ⟨rfl, rfl⟩ := e'
        have hcel : wr.cell? ⟨gw, ow + k, none⟩ = some (.bool x.wr[k]) := by
          rw [hcs2 k (by omega), List.getElem?_map, List.getElem?_eq_getElem hlt]
          rfl
        have hsc := cnt_succ x.wr k hlt
        have hcl : ((x.wr.take k).filter id).length ≤ 6 := by
          have h1 := List.length_filter_le id (x.wr.take k)
          have h2 : (x.wr.take k).length ≤ k := by simp; omega
          omega
        clear hcs hcs2
        generalize x.wr[k] = bv at *
        cases bv
        · have HSC := hid (show ((x.wr.take (k + 1)).filter id).length = ((x.wr.take k).filter id).length from by rw [hsc]; simp)
          clear hsc
          go_wp2_with fail
          exact ⟨⟨k + 1, by omega, by go_num, rfl, rfl, by rw [HSC.out], HO, HK⟩, by simp [intOf]; omega⟩
        · rw [if_pos rfl] at hsc
          have HSC := hid hsc
          clear hsc
          generalize ((x.wr.take k).filter id).length = cn at *
          have hcn0 : (0 : Int) ≤ (cn : Int) := by omega
          have hcn6 : (cn : Int) ≤ 6 := by omega
          go_wp2_with fail
          refine (nPlace k (by omega) _).mono ?_
          rintro e w' ⟨rfl, rfl⟩
          try dsimp only
          go_wp2_with fail
          exact ⟨⟨k + 1, by omega, by go_num, rfl, rfl, by rw [HSC.out]; go_num, HO, HK⟩, by simp [intOf]; omega⟩
      · obtain rfl : k = x.wr.length := by omega
        have hki : ¬ (x.wr.length : Int) < (x.wr.length : Int) := by omega
        have hcl : ((x.wr.take x.wr.length).filter id).length ≤ 6 := by
          have h1 := List.length_filter_le id (x.wr.take x.wr.length)
          have h2 : (x.wr.take x.wr.length).length ≤ x.wr.length := by simp
          omega
        generalize ((x.wr.take x.wr.length).filter id).length = cn at *
        have hcn0 : (0 : Int) ≤ (cn : Int) := by omega
        have hcn6 : (cn : Int) ≤ 6 := by omega
        have z0 : wr.cell? ⟨g6, 0, none⟩ = some (.bool false) := HO.out.cells 0
        have z1 : wr.cell? ⟨g6, 1, none⟩ = some (.bool false) := HO.out.cells 1
        have z2 : wr.cell? ⟨g6, 2, none⟩ = some (.bool false) := HO.out.cells 2
        have z3 : wr.cell? ⟨g6, 3, none⟩ = some (.bool false) := HO.out.cells 3
        have z4 : wr.cell? ⟨g6, 4, none⟩ = some (.bool false) := HO.out.cells 4
        have z5 : wr.cell? ⟨g6, 5, none⟩ = some (.bool false) := HO.out.cells 5
        have z6 : wr.cell? ⟨g6, 6, none⟩ = some (.bool false) := HO.out.cells 6
        have z7 : wr.cell? ⟨g6, 7, none⟩ = some (.bool false) := HO.out.cells 7
        have z8 : wr.cell? ⟨g6, 8, none⟩ = some (.bool false) := HO.out.cells 8
        have z9 : wr.cell? ⟨g6, 9, none⟩ = some (.bool false) := HO.out.cells 9
        have z10 : wr.cell? ⟨g6, 10, none⟩ = some (.bool false) := HO.out.cells 10
        have z11 : wr.cell? ⟨g6, 11, none⟩ = some (.bool false) := HO.out.cells 11
        go_wp2_with fail
        clear z0 z1 z2 z3 z4 z5 z6 z7 z8 z9 z10 z11
        go_loopw [58, 3] (fun kv cv w' => ∃ k : Nat, k ≤ 12 ∧ kv = .int .i64 (k : Int) ∧ cv = .int .i64 (cn : Int) ∧ Hid (Has w' (pt g6 (.cells no12 154) :: pt b (.cells (nodC x dv (.slice pw x.wr.length cw) nm) 72) :: Dat x.kind dv x.data :: Bools (.slice pw x.wr.length cw) x.wr :: Nms nm x.names :: L)) ∧ Hid (Keep w w')) (fun kv _ _ => 12 - (intOf kv).toNat)
        case atStart => exact ⟨0, by omega, rfl, rfl, HO, HK⟩
        case round =>
          clear HO HK
          obtain ⟨k, hk12, rfl, rfl, HO, HK⟩ := hrel
          have hk0 : (0 : Int) ≤ (k : Int) := by omega
          by_cases hlt2 : k < 12
          · have hki2 : (k : Int) < 12 := by omega
            have hi := index12 k hlt2 wr
            unfold no12 at hi
            go_wp2_with fail
            exact ⟨⟨k + 1, by omega, by go_num, rfl, HO, HK⟩, by simp [intOf]; omega⟩
          · obtain rfl : k = 12 := by omega
            rw [show ((12 : Nat) : Int) = 12 from rfl]
            go_wp2_with fail
            go_ret
            rw [HB.out]
            exact ⟨rfl, ndc_iff.2 ⟨_, _, _, HNM.out, HO.out.re 5 [1, 2, 3, 4]⟩, HK.out⟩
end Go.Proofs.YtfhaedkaedffcaaGreatDoor
/- THE WALK of tree.Need (files of at most six blocks). -/
namespace Go.Proofs.YtfhaedkaedffcaaGreatDoor
open Go.RowKit Go.Own
theorem kInt_val (x : Int) : kInt.val x = .int .i64 x := rfl
theorem vPtr_val (b : Nat) : vPtr.val (some b) = .pointer (some ⟨b, 0, none⟩) := rfl
def needSum (t : List (Int × Nod)) : Int := (t.map fun p => blocksM p.2).sum
def sumR : List Pn → List Int → Int
  | [], _ => 0
  | p :: P, rem => (if p.1 ∈ rem then 0 else blocksM p.2.2) + sumR P rem
theorem sumR_nil : ∀ P : List Pn, sumR P [] = needSum (pnN P)
  | [] => rfl
  | p :: P => by
    rw [sumR, sumR_nil P, if_neg (by simp)]
    simp [needSum, pnN]
theorem sumR_all : ∀ (P : List Pn) (rem : List Int), (∀ p ∈ P, p.1 ∈ rem) → sumR P rem = 0
  | [], _, _ => rfl
  | p :: P, rem, h => by
    rw [sumR, sumR_all P rem (fun q hq => h q (List.mem_cons_of_mem _ hq)), if_pos (h p List.mem_cons_self)]
    rfl
theorem sumR_off : ∀ (P : List Pn) (rem : List Int) (n : Int), n ∉ P.map Prod.fst → sumR P (rem.filter fun y => !decide (y = n)) = sumR P rem
  | [], _, _, _ => rfl
  | p :: P, rem, n, h => by
    simp only [List.map_cons, List.mem_cons, not_or] at h
    rw [sumR, sumR, sumR_off P rem n h.2]
    have : p.1 ∈ rem.filter (fun y => !decide (y = n)) ↔ p.1 ∈ rem := by simp [Ne.symm h.1]
    by_cases h2 : p.1 ∈ rem
    · rw [if_pos h2, if_pos (this.2 h2)]
    · rw [if_neg h2, if_neg (fun h => h2 (this.1 h))]
theorem sumR_step : ∀ (P1 P2 : List Pn) (rem : List Int) (n : Int) (b : Nat) (x : Nod), ((P1 ++ (n, b, x) :: P2).map Prod.fst).Nodup → n ∈ rem → sumR (P1 ++ (n, b, x) :: P2) (rem.filter fun y => !decide (y = n)) = sumR (P1 ++ (n, b, x) :: P2) rem + blocksM x
  | [], P2, rem, n, b, x, hd, hr => by
    simp only [List.nil_append, List.map_cons, List.nodup_cons] at hd
    rw [List.nil_append, sumR, sumR, sumR_off P2 rem n hd.1, if_pos hr, if_neg (by simp)]
    show blocksM x + _ = 0 + _ + blocksM x
    omega
  | p :: P1, P2, rem, n, b, x, hd, hr => by
    have hd0 := hd
    simp only [List.cons_append, List.map_cons, List.nodup_cons] at hd
    have hne : p.1 ≠ n := by
      intro e
      exact hd.1 (by rw [e]; simp)
    rw [List.cons_append, sumR, sumR, sumR_step P1 P2 rem n b x hd.2 hr]
    have : p.1 ∈ rem.filter (fun y => !decide (y = n)) ↔ p.1 ∈ rem := by simp [hne]
    by_cases h2 : p.1 ∈ rem
    · rw [if_pos h2, if_pos (this.2 h2)]; omega
    · rw [if_neg h2, if_neg (fun h => h2 (this.1 h))]; omega
theorem blocksM_low (x : Nod) (h0 : 0 ≤ x.most) (h1 : x.most ≤ 1000000) (h2 : x.wr.length ≤ 6) : 0 ≤ blocksM x ∧ blocksM x ≤ 1000000 := by
  unfold blocksM
  split
  · omega
  · split
    · omega
    · have := List.length_filter_le id x.wr
      omega
theorem sumR_low : ∀ (P : List Pn) (rem : List Int), (∀ p ∈ P, 0 ≤ blocksM p.2.2 ∧ blocksM p.2.2 ≤ 1000000) → 0 ≤ sumR P rem ∧ sumR P rem ≤ P.length * 1000000
  | [], _, _ => by simp [sumR]
  | p :: P, rem, h => by
    have h1 := sumR_low P rem fun q hq => h q (List.mem_cons_of_mem _ hq)
    have h2 := h p List.mem_cons_self
    rw [sumR, List.length_cons]
    split <;> omega
theorem pnC_pull3 {w : World} {L : List HP} {A B C : HP} {P1 P2 : List Pn} {p : Pn} : Has w (A :: B :: C :: (pnC (P1 ++ p :: P2) ++ L)) ↔ Has w (Ndc p.2.1 p.2.2 :: A :: B :: C :: (pnC (P1 ++ P2) ++ L)) := by
  have e : (A :: B :: C :: (pnC (P1 ++ p :: P2) ++ L)).Perm (Ndc p.2.1 p.2.2 :: A :: B :: C :: (pnC (P1 ++ P2) ++ L)) := by
    have h1 : (pnC (P1 ++ p :: P2) ++ L).Perm (Ndc p.2.1 p.2.2 :: (pnC (P1 ++ P2) ++ L)) := by
      unfold pnC
      rw [List.map_append, List.map_cons, List.map_append]
      simp only [List.append_assoc, List.cons_append]
      exact List.perm_middle
    refine (((h1.cons C).cons B).cons A).trans ?_
    refine List.Perm.trans (((List.Perm.swap _ _ _).cons B).cons A) ?_
    refine List.Perm.trans ((List.Perm.swap _ _ _).cons A) ?_
    exact List.Perm.swap _ _ _
  exact ⟨fun h => h.perm e, fun h => h.perm e.symm⟩
set_option maxRecDepth 100000 in
set_option maxHeartbeats 4000000 in
theorem tNeed (q : Nat) (S : Tre) (w : World) (L : List HP) (hb : ∀ n x, fnd S.nodes n = some x → 0 ≤ x.most ∧ x.most ≤ 1000000 ∧ x.wr.length ≤ 6) (hn : S.nodes.length ≤ 1000) (hO : Has w (Trc q S :: L)) :
    Calls Tryz.prog 28 #[.pointer (some ⟨q, 0, none⟩)] w fun e w' => e = .returned (.tuple #[.int .i64 (needSum S.nodes), .int .i64 (S.nodes.length : Int)]) ∧ Has w' (Trc q S :: L) ∧ Keep w w' := by
  obtain ⟨m, f, P, hPT, h⟩ := trc_iff.1 hO
  have HPT := hid hPT
  have h' := trb_iff.1 h
  have HND := hid (Trb.nodup h)
  have HO := hid (show Has w (Mk kInt vPtr m (pnB P) :: pt q (.cells (treC m f S.last) 77) :: Tab f S.tab :: (pnC P ++ L)) from h'.perm (.swap _ _ _))
  have hq0 : w.cell? ⟨q, 0, none⟩ = some (.map (some m)) := HO.out.p1.cells 0
  have HBD := hid (show ∀ p ∈ P, 0 ≤ p.2.2.most ∧ p.2.2.most ≤ 1000000 ∧ p.2.2.wr.length ≤ 6 from by
    intro p hp
    have hm : (p.1, p.2.2) ∈ pnN P := List.mem_map.2 ⟨p, hp, rfl⟩
    have hnd : ((pnN P).map Prod.fst).Nodup := by rw [pnN_keys]; exact HND.out
    exact hb p.1 p.2.2 (by rw [← hPT.1]; exact fnd_mem hnd hm))
  have HLW := hid (fun rem => sumR_low P rem fun p hp => blocksM_low p.2.2 (HBD.out p hp).1 (HBD.out p hp).2.1 (HBD.out p hp).2.2)
  have hPl : P.length = S.nodes.length := by rw [← hPT.1]; simp [pnN]
  have hP9 : P.length ≤ 1000 := by omega
  clear hO h h' hPT hb
  go_enter Tryz.func28, Tryz.ntmps28
  go_wp2_with (at_range; refine wpList_mkStart HO.out tNo undNo rfl _ rfl rfl ?_; intro w4 hO4 hK4 hs4)
  try go_frame
  have HO4 := hid hO4
  have HK4 := hid hK4
  clear hO4 hK4 hs4 hq0 HO
  generalize w.heap.size = r at *
  generalize hr0 : (pnB P).map Prod.fst = rem0 at *
  have HS0 := hid (show sumR P rem0 = 0 from sumR_all P rem0 fun p hp => by rw [← hr0, pnB_keys]; exact List.mem_map_of_mem hp)
  clear hr0
  generalize (pnB P).length = cnt0 at *
  go_loopw [4] (fun cv w' => ∃ (rem : List Int) (cnt : Nat), cv = .int .i64 (sumR P rem) ∧ Hid (Has w' (Mr kInt vPtr m r (pnB P) rem cnt :: pt q (.cells (treC m f S.last) 77) :: Tab f S.tab :: (pnC P ++ L))) ∧ Hid (Keep w w')) (fun _ w' => w'.rangeLeft m r)
  case atStart => exact ⟨rem0, cnt0, by rw [HS0.out], HO4, HK4⟩
  case round =>
    clear HO4 HK4 HS0
    obtain ⟨rem, cnt, rfl, HO, HK⟩ := hrel
    have hleft := Mr.left HO.out
    have HLF := hid hleft
    have hlow := HLW.out rem
    go_wp2_with (at_next; refine wpList_mkNext HO.out rfl _ rfl rfl ?_ ?_)
    · intro hrem
      subst hrem
      have HSN := hid (sumR_nil P)
      have HO5 := hid (Mr.end HO.out)
      have hq0 : wr.cell? ⟨q, 0, none⟩ = some (.map (some m)) := HO5.out.p1.cells 0
      have hlen := Mk.len HO5.out undNo 3
      have hbl : (pnB P).length = S.nodes.length := by rw [← hPl]; simp [pnB]
      rw [hbl] at hlen
      clear HO hleft
      generalize sumR P [] = sm at *
      go_wp2_with fail
      go_ret2
      rw [HSN.out, HPT.out.1]
      exact ⟨rfl, trc_iff.2 ⟨m, f, P, HPT.out, trb_iff.2 (HO5.out.perm (.swap _ _ _))⟩, HK.out⟩
    · rintro n ob w5 cnt' hp hr hky hO5 hlt5 hK5 hsz hen
      obtain ⟨⟨n', b, x⟩, hpP, he⟩ := List.mem_map.1 hp
      simp only [Prod.mk.injEq] at he
      obtain ⟨rfl, rfl⟩ := he
      simp only [kInt_val, vPtr_val] at hen ⊢
      have hen2 := hen
      obtain ⟨P1, P2, hPe⟩ := List.append_of_mem hpP
      have HPe := hid hPe
      have hbx := HBD.out _ hpP
      have hblo := blocksM_low x hbx.1 hbx.2.1 hbx.2.2
      have HO6 := hid (show Has w5 (Ndc b x :: Mr kInt vPtr m r (pnB P) (rem.filter fun y => !decide (y = n')) cnt' :: pt q (.cells (treC m f S.last) 77) :: Tab f S.tab :: (pnC (P1 ++ P2) ++ L)) from pnC_pull3.1 (by rw [← hPe]; exact hO5))
      have HST := hid (show sumR P (rem.filter fun y => !decide (y = n')) = sumR P rem + blocksM x from by
        rw [hPe]
        exact sumR_step P1 P2 rem n' b x (by rw [← hPe]; exact HND.out) hr)
      have HK6 := hid (HK.out.trans hK5)
      have HL5 := hid hlt5
      clear hp hr hky hO5 hlt5 hK5 hsz hPe hpP hleft HO HK
      generalize sumR P rem = sm at *
      generalize hbm : blocksM x = bm at *
      have hsm9 : sm ≤ 1000000000 := by omega
      obtain ⟨hs0, -⟩ := hlow
      obtain ⟨hbm0, hbm9⟩ := hblo
      have HBM := hid hbm
      clear hbm
      go_wp2_with fail
      refine (tBlocks b x w5 _ hbx.1 hbx.2.1 hbx.2.2 HO6.out).mono ?_
      rintro e w7 ⟨rfl, hO7, hK7⟩
      have HO7 := hid hO7
      have HK7 := hid ((HK6.out).trans hK7)
      clear hO7 hK7
      try dsimp only
      rw [HBM.out]
      have HO8 := hid (show Has w7 (Mr kInt vPtr m r (pnB P) (rem.filter fun y => !decide (y = n')) cnt' :: pt q (.cells (treC m f S.last) 77) :: Tab f S.tab :: (pnC P ++ L)) from by
        have h1 := pnC_pull3 (p := (n', b, x)).2 HO7.out
        rwa [← HPe.out] at h1)
      have hleft := Mr.left HO8.out
      clear HO6 HK6 HO7 hen hen2
      go_wp2_with fail
      exact ⟨⟨_, _, by rw [HST.out], HO8, HK7⟩, by rw [hleft, HLF.out]; exact HL5.out⟩
end Go.Proofs.YtfhaedkaedffcaaGreatDoor
