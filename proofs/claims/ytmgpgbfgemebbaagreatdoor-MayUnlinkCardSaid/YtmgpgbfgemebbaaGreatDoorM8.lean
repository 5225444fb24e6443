/- TEXTS of mine, merged. -/
import Derived.Test.YtmgpgbfgemebbaaGreatDoorM7
import Derived.Test.YtmgpgbfgemebbaaGreatDoorM6
import Derived.Shelf.SlSortCmp.WholeK
import Derived.Shelf.SlGeneric
import Derived.Ground.SlsfProg
import Derived.Test.YtmgpgbfgemebbaaGreatDoorProg
import Derived.Test.YtmgpgbfgemebbaaGreatDoorM5
import Derived.Test.YtmgpgbfgemebbaaGreatDoorM2
set_option linter.all false
namespace Go.Proofs.YtmgpgbfgemebbaaGreatDoor
open Go.RowKit Go.Own
def Srt (os : List Sn) : Prop := os.Pairwise fun a b => ¬ Lib.compareBytes b.path a.path < 0
def SortsNd : Prop := ∀ (v : Value) (os : List Sn) (w : World) (L : List HP), os ≠ [] → os.length ≤ 1000000 → Has w (Sns v os :: L) → Calls Tryz.prog 88 #[v, .func (.func 89) #[] #[]] w fun e w' => e = .returned (.tuple #[]) ∧ ∃ os', os'.Perm os ∧ Srt os' ∧ Has w' (Sns v os' :: L) ∧ Keep w w'
set_option maxRecDepth 100000 in
set_option maxHeartbeats 4000000 in
theorem tNodes (hSort : SortsNd) (q : Nat) (S : Tre) (x : Nod) (rk : Int → Nat) (w : World) (L : List HP) (h1 : fnd S.nodes 1 = some x) (hdl : ∀ n x, fnd S.nodes n = some x → x.data.length ≤ 100000) (hlow : ∀ n x, fnd S.nodes n = some x → rk n ≤ 21) (hrk : ∀ n x, fnd S.nodes n = some x → ∀ e ∈ x.names, rk n < rk e.2 ∧ e.1.length ≤ 24 ∧ ∃ y, fnd S.nodes e.2 = some y) (hmany : (seen S.nodes 22 1 []).length ≤ 1000000) (hO : Has w (Trc q S :: L)) :
  Calls Tryz.prog 28 #[.pointer (some ⟨q, 0, none⟩)] w fun e w' => ∃ v os, e = .returned v ∧ (os.map Sn.key).Perm ((seen S.nodes 22 1 []).map keyE) ∧ Srt os ∧ Has w' (Sns v os :: Trc q S :: L) ∧ Keep w w' := by
 obtain ⟨m, f, P, hPT, h⟩ := trc_iff.1 hO
 have hnd := Trb.nodup h
 have hfn : ∀ y ∈ P, fnd S.nodes y.1 = some y.2.2 := by
  intro y hy
  rw [← hPT.1]
  exact fnd_mem (by rw [pnN_keys]; exact hnd) (List.mem_map.2 ⟨y, hy, rfl⟩)
 have h1' := h1
 rw [← hPT.1] at h1'
 obtain ⟨A, b, B, hPe⟩ := pn_split h1'
 have hin : (1, b, x) ∈ P := by rw [hPe]; simp
 have hP : pnN P = S.nodes := hPT.1
 have HSE := hid (fun gt gs go => tSee q m f gt gs go P S.last S.tab rk (fun y hy => hdl _ _ (hfn y hy)) hnd (fun y hy => hlow _ _ (hfn y hy)) (fun y hy e he => by
  obtain ⟨a1, a2, z, hz⟩ := hrk _ _ (hfn y hy) e he
  refine ⟨a1, a2, ?_⟩
  rw [← hP] at hz
  obtain ⟨A', b', B', e'⟩ := pn_split hz
  exact ⟨(e.2, b', z), by rw [e']; simp, rfl⟩) 22 1 b x [] P)
 have HPT := hid hPT
 have HT := hid (show Has w (Trg q m f P S.last S.tab P :: L) from Trg.of h)
 have HIN := hid hin
 have HLOW := hid (hlow _ _ h1)
 have HMANY := hid hmany
 have HSO := hid hSort
 clear hO h hnd hfn h1' hin hPe hdl hlow hrk hmany hSort hPT
 have h2 := ((HT.out.alloc (.cells #[.pointer (some ⟨q, 0, none⟩)] 27)).alloc (.cells #[.slice none 0 0] 48)).alloc (.cells #[.nilFunc] 116)
 have e1 : (w.alloc (.cells #[.pointer (some ⟨q, 0, none⟩)] 27)).heap.size = w.heap.size + 1 := by show (Array.push _ _).size = _; rw [Array.size_push]
 have e2 : ((w.alloc (.cells #[.pointer (some ⟨q, 0, none⟩)] 27)).alloc (.cells #[.slice none 0 0] 48)).heap.size = w.heap.size + 1 + 1 := by show (Array.push _ _).size = _; rw [Array.size_push, e1]
 rw [e2, e1] at h2
 have hcs := (show _ = some Value.nilFunc from h2.cells 0)
 have hts := h2.thaw 0
 have h3 := ((HT.out.alloc (.cells #[.pointer (some ⟨q, 0, none⟩)] 27)).alloc (.cells #[.slice none 0 0] 48)).alloc (.cells #[.func (.func 85) #[] #[.pointer (some ⟨w.heap.size, 0, none⟩), .pointer (some ⟨w.heap.size + 1, 0, none⟩), .pointer (some ⟨w.heap.size + 1 + 1, 0, none⟩)]] 116)
 rw [e2, e1] at h3
 have HO2 := hid h3
 have HK2 := hid ((((Keep.refl w).alloc (.cells #[.pointer (some ⟨q, 0, none⟩)] 27)).alloc (.cells #[.slice none 0 0] 48)).alloc (.cells #[.func (.func 85) #[] #[.pointer (some ⟨w.heap.size, 0, none⟩), .pointer (some ⟨w.heap.size + 1, 0, none⟩), .pointer (some ⟨w.heap.size + 1 + 1, 0, none⟩)]] 116))
 have hsf : ∀ (W : World) (a : Addr) (u v : Array Value), (store a (.func (.func 85) u v)).run Tryz.prog W = stored Tryz.prog W a (.func (.func 85) u v) .plain := fun W a u v => run_store Tryz.prog W a _ .plain rfl
 clear h2 h3 e1 e2
 go_enter Tryz.func28, Tryz.ntmps28
 go_upto_region 6 with fail
 generalize ((w.alloc (.cells #[.pointer (some ⟨q, 0, none⟩)] 27)).alloc (.cells #[.slice none 0 0] 48)).alloc (.cells #[.func (.func 85) #[] #[.pointer (some ⟨w.heap.size, 0, none⟩), .pointer (some ⟨w.heap.size + 1, 0, none⟩), .pointer (some ⟨w.heap.size + 1 + 1, 0, none⟩)]] 116) = w2 at *
 clear hcs hts HT hsf
 generalize hgs : w.heap.size + 1 + 1 = gs at *
 generalize hgo : w.heap.size + 1 = go at *
 generalize w.heap.size = gt at *
 have hgc : w2.cell? ⟨gs, 0, none⟩ = some (.func (.func 85) #[] #[.pointer (some ⟨gt, 0, none⟩), .pointer (some ⟨go, 0, none⟩), .pointer (some ⟨gs, 0, none⟩)]) := HO2.out.cells 0
 have HO3 := hid (show Has w2 (Sns (.slice none 0 0) [] :: pt go (.cells #[.slice none 0 0] 48) :: pt gt (.cells #[.pointer (some ⟨q, 0, none⟩)] 27) :: pt gs (.cells #[.func (.func 85) #[] #[.pointer (some ⟨gt, 0, none⟩), .pointer (some ⟨go, 0, none⟩), .pointer (some ⟨gs, 0, none⟩)]] 116) :: Trg q m f P S.last S.tab P :: L) from sns_iff.2 ((HO2.out.re 4 [1, 2, 0, 3]).row_nil 57 5))
 have HX := hid (HSE.out gt gs go (.slice none 0 0) [] w2 L (by omega) HLOW.out HIN.out (by simp) (fun y hy _ => hy) (by have := HMANY.out; rw [HPT.out.1]; simpa using this) HO3.out)
 rw [HPT.out.1] at HX
 clear HO2 HO3
 go_wp2_with fail
 refine HX.out.mono ?_
 rintro e w4 ⟨rfl, ov, os, hpm, hO4, hK4⟩
 rw [List.nil_append] at hO4
 have HPM := hid hpm
 have HO4 := hid hO4
 have HK4 := hid (HK2.out.trans hK4)
 have HLN := hid (show os.length ≤ 1000000 from by have h1 := hpm.length_eq; rw [List.length_map, List.length_map] at h1; have := HMANY.out; omega)
 have HNE := hid (show os ≠ [] from by
  rintro rfl
  have h1 := hpm.length_eq
  rw [List.length_map, List.length_map, seen] at h1
  simp at h1)
 clear hpm hO4 hK4 HX HK2 hgc
 try dsimp only
 have hov : w4.cell? ⟨go, 0, none⟩ = some ov := HO4.out.p1.cells 0
 have HS5 := hid (HSO.out ov os w4 _ HNE.out HLN.out HO4.out)
 obtain ⟨po, co, rfl, -⟩ := (Has.rd (sns_iff.1 HO4.out)).form
 go_wp2_with fail
 refine HS5.out.mono ?_
 rintro e w5 ⟨rfl, os', hp5, hs5, hO5, hK5⟩
 have hov5 : w5.cell? ⟨go, 0, none⟩ = some (.slice po os.length co) := hO5.p1.cells 0
 try dsimp only
 have HO5 := hid hO5
 have HK5 := hid (HK4.out.trans hK5)
 have HP5 := hid hp5
 have HS6 := hid hs5
 clear hO5 hK5 hp5 hs5 HS5 hov
 go_wp2_with fail
 go_ret
 refine ⟨_, os', rfl, (HP5.out.map _).trans HPM.out, HS6.out, ?_, HK5.out⟩
 have h9 := HO5.out.re 5 [4, 0]
 exact (show Has w5 (Trc q S :: _) from trc_iff.2 ⟨m, f, P, HPT.out, h9⟩).re 2 [1, 0]
end Go.Proofs.YtmgpgbfgemebbaaGreatDoor
namespace Go.Proofs.YtmgpgbfgemebbaaGreatDoor
open Go.RowKit Go.Own
def blocksM (x : Nod) : Int := if x.kind = 2 then (x.most + 3) / 4 else if x.kind = 3 then 1 else ((x.wr.filter id).length : Int)
def no12 : Array Value := #[.bool false, .bool false, .bool false, .bool false, .bool false, .bool false, .bool false, .bool false, .bool false, .bool false, .bool false, .bool false]
end Go.Proofs.YtmgpgbfgemebbaaGreatDoor
namespace Go.Proofs.YtmgpgbfgemebbaaGreatDoor
open Go.RowKit Go.Own
theorem kInt_val (x : Int) : kInt.val x = .int .i64 x := rfl
theorem vPtr_val (b : Nat) : vPtr.val (some b) = .pointer (some ⟨b, 0, none⟩) := rfl
def needSum (t : List (Int × Nod)) : Int := (t.map fun p => blocksM p.2).sum
def sumR : List Pn → List Int → Int
 | [], _ => 0
 | p :: P, rem => (if p.1 ∈ rem then 0 else blocksM p.2.2) + sumR P rem
end Go.Proofs.YtmgpgbfgemebbaaGreatDoor
namespace Go.Proofs.YtmgpgbfgemebbaaGreatDoor
open Go.RowKit Go.Own
abbrev nA : Str := [97]
abbrev pA : Str := [47, 97]
abbrev pAF : Str := [47, 97, 47, 102]
abbrev pB : Str := [47, 98]
def tabA (s : Tb.Slot) : List Tb.Slot := s :: List.replicate 15 Tb.none4
def treE1 : Tre := ⟨[(1, ⟨2, [], [], [(nA, 2)], 1, 1, 0⟩), (2, ⟨2, [], [], [], 0, 1, 1⟩)], 2, List.replicate 16 Tb.none4⟩
def treE2 : Tre := ⟨[(1, ⟨2, [], [], [(nA, 2)], 1, 1, 0⟩), (2, ⟨2, [], [], [(nF, 3)], 1, 1, 1⟩), (3, ⟨1, [], [], [], 0, 1, 0⟩)], 3, tabA ⟨3, 0, 33, true⟩⟩
def treE3 : Tre := ⟨[(1, ⟨2, [], [], [(nA, 2)], 1, 1, 0⟩), (2, ⟨2, [], [], [(nF, 3)], 1, 1, 1⟩), (3, ⟨1, [120, 121, 122], [true], [], 0, 1, 0⟩)], 3, tabA ⟨3, 3, 33, true⟩⟩
def rkA (n : Int) : Nat := if n = 3 then 2 else if n = 2 then 1 else 0
theorem rkA_low (n : Int) : rkA n ≤ 20 := by unfold rkA; split <;> (try split) <;> omega
theorem lastM_A : lastM pA = ([47], nA, 0) := by decide +kernel
theorem wk_0 : wkB tre0 = true := by decide +kernel
theorem wy_0 : wyB tre0 rkA = true := by decide +kernel
theorem opb_0 : opbB tre0 = true := by decide +kernel
theorem place_A : tre0.place pA = (⟨0, 1, nA⟩, 0) := by
 unfold Tre.place
 rw [lastM_A, if_neg (by simp), find_root, if_neg (by simp), if_neg (by decide +kernel), if_neg (by decide +kernel)]
 rfl
theorem mkdir_A : tre0.mkdir pA = (ansE 0, treE1) := by
 unfold Tre.mkdir Tre.fresh
 rw [place_A]
 rfl
end Go.Proofs.YtmgpgbfgemebbaaGreatDoor
namespace Go.Proofs.YtmgpgbfgemebbaaGreatDoor
open Go.RowKit Go.Own
abbrev opW (k fd n off fl : Int) (p : Str) (dv : Value) : Value := .agg #[.int .i64 k, .int .i64 fd, .int .i64 n, .int .i64 off, .int .i64 fl, .string ⟨p.toArray⟩, .string ⟨#[]⟩, dv]
section
variable (a b c d : Int) (x y : Value) (w : World)
end
end Go.Proofs.YtmgpgbfgemebbaaGreatDoor
namespace Go.Proofs
open Go.Shelf
def Tryz.sortNode_ren : Go.Shelf.Ren := ⟨fun | 6 => 88 | 15 => 152 | 14 => 151 | 28 => 207 | 29 => 208 | 20 => 199 | 21 => 200 | 22 => 201 | 23 => 202 | 24 => 203 | 25 => 204 | 26 => 205 | 27 => 206 | 46 => 238 | 47 => 239 | 48 => 240 | 49 => 241 | 50 => 242 | 57 => 270 | n => n, fun | 22 => 48 | 24 => 57 | 25 => 120 | 3 => 3 | 39 => 171 | 0 => 0 | 53 => 256 | 55 => 258 | 4 => 4 | 46 => 250 | 45 => 249 | 50 => 146 | 5 => 5 | 9 => 9 | 66 => 278 | 70 => 282 | 76 => 306 | 77 => 45 | n => n, fun | n => n⟩
theorem Tryz.sortNode : Go.Proofs.SlLaysF0.n6 Tryz.prog Tryz.sortNode_ren := {
 mixed := by kernel_rfl
 f6 := ⟨Tryz.f88.name, by decide, Tryz.func88.trans (congrArg some (by kernel_rfl))⟩
 f14 := ⟨Tryz.f151.name, by decide, Tryz.func151.trans (congrArg some (by kernel_rfl))⟩
 f15 := Tryz.func152.trans (congrArg some (by kernel_rfl))
 f20 := ⟨Tryz.f199.name, by decide, Tryz.func199.trans (congrArg some (by kernel_rfl))⟩
 f21 := ⟨Tryz.f200.name, by decide, Tryz.func200.trans (congrArg some (by kernel_rfl))⟩
 f22 := ⟨Tryz.f201.name, by decide, Tryz.func201.trans (congrArg some (by kernel_rfl))⟩
 f23 := ⟨Tryz.f202.name, by decide, Tryz.func202.trans (congrArg some (by kernel_rfl))⟩
 f24 := ⟨Tryz.f203.name, by decide, Tryz.func203.trans (congrArg some (by kernel_rfl))⟩
 f25 := ⟨Tryz.f204.name, by decide, Tryz.func204.trans (congrArg some (by kernel_rfl))⟩
 f26 := ⟨Tryz.f205.name, by decide, Tryz.func205.trans (congrArg some (by kernel_rfl))⟩
 f27 := ⟨Tryz.f206.name, by decide, Tryz.func206.trans (congrArg some (by kernel_rfl))⟩
 f28 := Tryz.func207.trans (congrArg some (by kernel_rfl))
 f29 := Tryz.func208.trans (congrArg some (by kernel_rfl))
 f46 := ⟨Tryz.f238.name, by decide, Tryz.func238.trans (congrArg some (by kernel_rfl))⟩
 f47 := Tryz.func239.trans (congrArg some (by kernel_rfl))
 f48 := Tryz.func240.trans (congrArg some (by kernel_rfl))
 f49 := ⟨Tryz.f241.name, by decide, Tryz.func241.trans (congrArg some (by kernel_rfl))⟩
 f50 := ⟨Tryz.f242.name, by decide, Tryz.func242.trans (congrArg some (by kernel_rfl))⟩
 f57 := ⟨Tryz.f270.name, by decide, Tryz.func270.trans (congrArg some (by kernel_rfl))⟩
 t0 := Tryz.underlying0
 a0 := Tryz.isAgg0
 z0 := Tryz.sizeOf0
 v0 := Tryz.zeroValue0
 t3 := Tryz.underlying3
 a3 := Tryz.isAgg3
 z3 := Tryz.sizeOf3
 v3 := Tryz.zeroValue3
 t4 := Tryz.underlying4
 a4 := Tryz.isAgg4
 z4 := Tryz.sizeOf4
 v4 := Tryz.zeroValue4
 t5 := Tryz.underlying5
 a5 := Tryz.isAgg5
 z5 := Tryz.sizeOf5
 v5 := Tryz.zeroValue5
 t9 := Tryz.underlying9
 a9 := Tryz.isAgg9
 z9 := Tryz.sizeOf9
 v9 := Tryz.zeroValue9
 t22 := Tryz.underlying48
 a22 := Tryz.isAgg48
 z22 := Tryz.sizeOf48
 v22 := Tryz.zeroValue48
 t25 := Tryz.underlying120
 a25 := Tryz.isAgg120
 z25 := Tryz.sizeOf120
 v25 := Tryz.zeroValue120
 t39 := Tryz.underlying171
 a39 := Tryz.isAgg171
 z39 := Tryz.sizeOf171
 v39 := Tryz.zeroValue171
 t45 := Tryz.underlying249
 a45 := Tryz.isAgg249
 z45 := Tryz.sizeOf249
 v45 := Tryz.zeroValue249
 t46 := Tryz.underlying250
 a46 := Tryz.isAgg250
 z46 := Tryz.sizeOf250
 v46 := Tryz.zeroValue250
 t50 := Tryz.underlying146
 a50 := Tryz.isAgg146
 z50 := Tryz.sizeOf146
 v50 := Tryz.zeroValue146
 t53 := Tryz.underlying256
 a53 := Tryz.isAgg256
 z53 := Tryz.sizeOf256
 v53 := Tryz.zeroValue256
 t55 := Tryz.underlying258
 a55 := Tryz.isAgg258
 z55 := Tryz.sizeOf258
 v55 := Tryz.zeroValue258
 t66 := Tryz.underlying278
 a66 := Tryz.isAgg278
 z66 := Tryz.sizeOf278
 v66 := Tryz.zeroValue278
 t70 := Tryz.underlying282
 a70 := Tryz.isAgg282
 z70 := Tryz.sizeOf282
 v70 := Tryz.zeroValue282
 t76 := Tryz.underlying306
 a76 := Tryz.isAgg306
 z76 := Tryz.sizeOf306
 v76 := Tryz.zeroValue306
 t77 := Tryz.underlying45
 a77 := Tryz.isAgg45
 z77 := Tryz.sizeOf45
 v77 := Tryz.zeroValue45 }
end Go.Proofs
namespace Go.Proofs.YtmgpgbfgemebbaaGreatDoor
open Go.RowKit Go.Own Go.Sort Go.Shelf
theorem cb_lt : ∀ a b : List UInt8, Lib.compareBytes a b < 0 ↔ a < b
 | [], [] => by simp [Lib.compareBytes]
 | [], _ :: _ => by simp [Lib.compareBytes]
 | _ :: _, [] => by simp [Lib.compareBytes]
 | a :: r, b :: s => by
  rw [Lib.compareBytes, List.cons_lt_cons_iff, ← cb_lt r s]
  by_cases h1 : a < b
  ·simp [h1]
  ·by_cases h2 : b < a
   ·have h3 : a ≠ b := by rintro rfl; exact absurd h2 (UInt8.lt_irrefl _)
    simp [h1, h2, h3]
   ·have h3 : a = b := UInt8.le_antisymm (UInt8.not_lt.1 h2) (UInt8.not_lt.1 h1)
    simp [h1, h3]
def cfS (x y : Sn) : Int := Lib.compareBytes x.path y.path
theorem lt_eq (x y : Sn) : ltOf cfS x y = ltStr x.path y.path := by
 unfold ltOf cfS ltStr
 rw [decide_eq_decide]
 exact cb_lt _ _
theorem swoS : SWO (ltOf cfS) where
 irrefl x := by rw [lt_eq]; exact swo_ltStr.irrefl _
 trans x y z h1 h2 := by rw [lt_eq] at *; exact swo_ltStr.trans _ _ _ h1 h2
 ntrans x y z h1 h2 := by rw [lt_eq] at *; exact swo_ltStr.ntrans _ _ _ h1 h2
theorem snEnc_flat : ∀ os : List Sn, snEnc os = os.flatMap Sn.enc
 | [] => rfl
 | s :: r => by rw [snEnc, snEnc_flat r]; rfl
instance : Inhabited Sn := ⟨⟨[], 0, 0, 0, [], .slice none 0 0⟩⟩
theorem oneV_one (v : Value) : (oneV v).oneCell' = true := by cases v <;> rfl
theorem enc_one (x : Sn) : ∀ v ∈ x.enc, v.oneCell' = true := by
 intro v hv
 simp only [Sn.enc, List.mem_cons, List.not_mem_nil, or_false] at hv
 rcases hv with rfl | rfl | rfl | rfl | rfl
 ·rfl
 ·rfl
 ·rfl
 ·rfl
 ·exact oneV_one _
theorem sortsNd : SortsNd := by
 intro v os w L hne hl hO
 have h := sns_iff.1 hO
 obtain ⟨-, ⟨-, h0, -, -⟩ | ⟨g, cap, cur, rfl, -, -, -, -, h4⟩⟩ := h.row_cases
 ·exact absurd (List.eq_nil_of_length_eq_zero h0) hne
 obtain ⟨-, hcs, hfz, -⟩ := h.row_cells
 have hH : HoldsK Sn.enc 5 w g 0 os.toArray := by
  intro j hj
  have hj' : j < os.length * 5 := by simpa using hj
  rw [Nat.zero_add]
  refine ⟨?_, hfz j⟩
  rw [hcs j hj', snEnc_flat]
  have h1 := flatK_list Sn.enc 5 (by decide) (fun _ => rfl) os.toArray
  have h2 : (os.flatMap Sn.enc)[j]? = (flatK Sn.enc 5 os.toArray).toList[j]? := by rw [h1]
  rw [h2, Array.getElem?_toList, Array.getElem?_eq_getElem hj, getElem!_pos _ j hj]
  rfl
 have eg : ∀ args w, (callFunc 89 args).run Tryz.prog w = .ok (.enter 89 args) w := enters_of Tryz.func89 (by kernel_rfl) rfl
 have hcon := AnyQ.slices_SortFunc Tryz.sortNode 5 Tryz.isAgg57 Tryz.sizeOf57 Sn.enc (fun _ => rfl) enc_one cfS swoS 89 #[] g 0 cap os.toArray w eg (fun _ _ _ _ x y => tCmp x y _) hH h4.lt (by simp; omega)
 refine Calls.mono (show Calls Tryz.prog 88 #[.slice (some ⟨g, 0, none⟩) os.length cap, .func (.func 89) #[] #[]] w _ from hcon) ?_
 rintro e w' ⟨rfl, d', n, os2, hp, hs, rfl⟩
 have hsz : d'.size = os.length := by have := hp.1; simpa using this
 have hpm : d'.toList.Perm os := by
  have h1 := hp.2.2
  have e1 : d'.extract 0 os.toArray.size = d' := by
   rw [List.size_toArray, ← hsz]
   simp
  have e2 : os.toArray.extract 0 os.toArray.size = os.toArray := by simp
  rw [e1, e2] at h1
  simpa using h1
 refine ⟨rfl, d'.toList, hpm, ?_, ?_, rfl, rfl, rfl, by simp [sortWorldK, Sort.grow, putRowK, Sort.putRow, Sort.mapBlock, Sort.ahead]⟩
 ·unfold Srt
  rw [List.pairwise_iff_getElem]
  intro i j hi hj hij
  have hi' : i < d'.size := by simpa using hi
  have hj' : j < d'.size := by simpa using hj
  have h1 := hs i j (Nat.zero_le _) hij (by rw [List.size_toArray, ← hsz]; exact hj')
  rw [getElem!_pos d' i hi', getElem!_pos d' j hj'] at h1
  unfold ltOf at h1
  rw [Array.getElem_toList, Array.getElem_toList]
  exact of_decide_eq_false h1
 ·have h5 := ((Has.ahead h n).putRowK Sn.enc (by decide) (fun _ => rfl) (d := d') hsz).grow os2
  refine sns_iff.2 ?_
  have e9 : d'.toList.length = os.length := by rw [Array.length_toList]; exact hsz
  rw [snEnc_flat, e9]
  exact h5.perm (.cons _ (List.Perm.append_right L (hpm.map _).symm))
end Go.Proofs.YtmgpgbfgemebbaaGreatDoor
namespace Go.Proofs.YtmgpgbfgemebbaaGreatDoor
open Go.RowKit Go.Own
set_option maxRecDepth 100000 in
set_option maxHeartbeats 8000000 in
theorem tFresh (q : Nat) (S : Tre) (rk : Int → Nat) (p : Str) (mx : Int) (w : World) (L : List HP) (hW : Wk S) (hY : Wy S rk) (hM : MxL mx L) (hp : p.length ≤ 100000) (hO : Has w (Trc q S :: L)) :
  Calls Tryz.prog 53 #[.pointer (some ⟨q, 0, none⟩), sV p] w fun e w' => e = .returned (.tuple #[spV (S.fresh p).1, .int .i64 (S.fresh p).2]) ∧ Has w' (Trc q S :: L) ∧ Keep w w' := by
 have HPL := hid (fun (w : World) (L' : List HP) (hM : MxL mx L') (hO : Has w (Trc q S :: L')) => tPlace q S rk p mx w L' hW hY hM hp hO)
 generalize hR : S.fresh p = R
 unfold Tre.fresh at hR
 generalize S.place p = F at *
 obtain ⟨s2, e2⟩ := F
 dsimp only at *
 have HR := hid hR
 have HM := hid hM
 have HO := hid hO
 clear hM hO hp hW hR hY
 go_enter Tryz.func53, Tryz.ntmps53
 go_upto_region 1 with fail
 generalize hg4 : w.heap.size = g4 at *
 go_cut [6, 7] (fun p9 e9 wx => ∃ (w3 : World) (g9 : Nat), w3 = wx ∧ e9 = .int .i64 e2 ∧ p9 = .pointer (some ⟨g9, 0, none⟩) ∧ Hid (Has w3 (pt g9 (.cells (spC s2) 102) :: pt g4 (.cells (spC spt0) 102) :: Trc q S :: L)) ∧ Hid (Keep w w3))
 case first =>
  subst hg4
  go_wp2_with fail
  refine (HPL.out _ _ (HM.out.cons (pt w.heap.size (.cells (spC spt0) 102))) ((HO.out.alloc (.cells (spC spt0) 102)).re 2 [1, 0])).mono ?_
  rintro e w2 ⟨rfl, hO2, hK2⟩
  have HO2 := hid hO2
  have HK2 := hid (((Keep.refl w).alloc _).trans hK2)
  clear hO2 hK2
  try dsimp only
  unfold spV spC
  go_wp2_with fail
  go_meet
  exact ⟨_, _, rfl, rfl, rfl, hid ((HO2.out.alloc (.cells (spC s2) 102)).re 3 [0, 2, 1]), hid (HK2.out.alloc _)⟩
 case rest =>
  obtain ⟨w3, g9, rfl, rfl, rfl, HO3, HK3⟩ := hcut
  have hc80 : w3.cell? ⟨g4, 0, none⟩ = some (.int .i64 0) := HO3.out.p1.cells 0
  have hc81 : w3.cell? ⟨g4, 1, none⟩ = some (.int .i64 0) := HO3.out.p1.cells 1
  have hc82 : w3.cell? ⟨g4, 2, none⟩ = some (sV []) := HO3.out.p1.cells 2
  have ht80 := HO3.out.p1.thaw 0
  have ht81 := HO3.out.p1.thaw 1
  have ht82 := HO3.out.p1.thaw 2
  have hc90 : w3.cell? ⟨g9, 0, none⟩ = some (.int .i64 s2.node) := HO3.out.cells 0
  have hc91 : w3.cell? ⟨g9, 1, none⟩ = some (.int .i64 s2.dir) := HO3.out.cells 1
  have hc92 : w3.cell? ⟨g9, 2, none⟩ = some (sV s2.name) := HO3.out.cells 2
  by_cases he2 : e2 = 0
  ·subst he2
   by_cases hn : s2.node = 0
   ·have HRR := hid (show R = (s2, 0) from by rw [← HR.out, if_neg (fun h => h rfl), if_neg (fun h => h hn)])
    clear HR
    obtain ⟨n2, d2, nm2⟩ := s2
    dsimp only at *
    subst hn
    go_wp2_with fail
    have h1 := (show Has w3 (pt g4 (.cells (spC spt0) 102) :: Trc q S :: L) from HO3.out.re 3 [1, 2]).spt ⟨0, d2, nm2⟩
    refine bodyPost_ret (spt_result ⟨0, d2, nm2⟩ rfl rfl rfl h1) rfl ?_
    rw [HRR.out]
    exact ⟨rfl, h1.drop, HK3.out.spt _ _ _ _⟩
   ·have HRR := hid (show R = (spt0, 6) from by rw [← HR.out, if_neg (fun h => h rfl), if_pos hn])
    go_wp2_with fail
    have h1 := (show Has w3 (pt g4 (.cells (spC spt0) 102) :: Trc q S :: L) from HO3.out.re 3 [1, 2]).spt spt0
    refine bodyPost_ret (spt_result spt0 rfl rfl rfl h1) rfl ?_
    rw [HRR.out]
    exact ⟨rfl, h1.drop, HK3.out.spt _ _ _ _⟩
  ·have HRR := hid (show R = (spt0, e2) from by rw [← HR.out, if_pos he2])
   go_wp2_with fail
   have h1 := (show Has w3 (pt g4 (.cells (spC spt0) 102) :: Trc q S :: L) from HO3.out.re 3 [1, 2]).spt spt0
   refine bodyPost_ret (spt_result spt0 rfl rfl rfl h1) rfl ?_
   rw [HRR.out]
   exact ⟨rfl, h1.drop, HK3.out.spt _ _ _ _⟩
end Go.Proofs.YtmgpgbfgemebbaaGreatDoor
namespace Go.Proofs.YtmgpgbfgemebbaaGreatDoor
open Go.RowKit Go.Own
theorem fresh_there {S : Tre} (hW : Wk S) (p : Str) (h0 : (S.fresh p).2 = 0) : (∃ d, fnd S.nodes (S.fresh p).1.dir = some d ∧ d.kind = 2) ∧ (S.fresh p).1.name.length ≤ 24 := by
 unfold Tre.fresh at *
 by_cases h1 : (S.place p).2 ≠ 0
 ·rw [if_pos h1] at h0; exact absurd h0 h1
 ·rw [if_neg h1] at *
  by_cases h2 : (S.place p).1.node ≠ 0
  ·rw [if_pos h2] at h0; simp at h0
  ·rw [if_neg h2]
   have := place_there hW p (by simpa using h1)
   exact ⟨this.1, this.2.1⟩
set_option maxRecDepth 100000 in
set_option maxHeartbeats 8000000 in
theorem doMkdir (q : Nat) (S : Tre) (fd n off flags : Int) (path dest : Str) (ov : Value) (w : World) (L : List HP) (rk : Int → Nat) (mx : Int) (hW : Wk S) (hY : Wy S rk) (hB : Opb S) (hM : MxL mx L) (hp : path.length ≤ 100000) (hO : Has w (Trc q S :: L)) :
  Calls Tryz.prog 16 #[.pointer (some ⟨q, 0, none⟩), opV ⟨9, fd, n, off, flags, path, dest⟩ (ov)] w fun e w' => e = .returned (ansV (S.mkdir path).1 nilV nilV) ∧ Has w' (Trc q (S.mkdir path).2 :: L) ∧ Keep w w' := by
 have HX := hid (fun (w : World) (L' : List HP) (hM : MxL mx L') (hO : Has w (Trc q S :: L')) => tFresh q S rk path mx w L' hW hY hM hp hO)
 have HTF := hid (fresh_there hW path)
 have HB := hid hB
 have HM := hid hM
 clear hM
 generalize hR : S.mkdir path = R at *
 unfold Tre.mkdir at hR
 generalize S.fresh path = F at *
 obtain ⟨s1, e1⟩ := F
 dsimp only at *
 have HR := hid hR
 clear hR hW hY hB hp
 have HO := hid hO
 clear hO
 unfold opV opC
 go_enter Tryz.func16, Tryz.ntmps16
 go_upto_region 1 with fail
 have h1 := (HO.out.alloc (.cells #[.int .i64 9, .int .i64 fd, .int .i64 n, .int .i64 off, .int .i64 flags, sV path, sV dest, ov] 33)).alloc (.cells (ansC (ansE 0) nilV nilV) 38)
 have HK1 := hid (((Keep.refl w).alloc (.cells #[.int .i64 9, .int .i64 fd, .int .i64 n, .int .i64 off, .int .i64 flags, sV path, sV dest, ov] 33)).alloc (.cells (ansC (ansE 0) nilV nilV) 38))
 unfold ansC ansE at h1 HK1
 have e3 : (w.alloc (.cells #[.int .i64 9, .int .i64 fd, .int .i64 n, .int .i64 off, .int .i64 flags, sV path, sV dest, ov] 33)).heap.size = w.heap.size + 1 := by show (Array.push _ _).size = _; rw [Array.size_push]
 rw [e3] at h1
 have HO1 := hid h1
 clear h1 e3 HO
 generalize (w.alloc (.cells #[.int .i64 9, .int .i64 fd, .int .i64 n, .int .i64 off, .int .i64 flags, sV path, sV dest, ov] 33)).alloc (.cells #[.int .i64 0, .int .i64 0, .int .i64 0, .int .i64 0, nilV, nilV] 38) = w1 at *
 generalize w.heap.size = g3 at *
 generalize g3 + 1 = g4 at *
 have hp0 : w1.cell? ⟨g3, 0, none⟩ = some (.int .i64 9) := HO1.out.p1.cells 0
 have hp1 : w1.cell? ⟨g3, 1, none⟩ = some (.int .i64 fd) := HO1.out.p1.cells 1
 have hp2 : w1.cell? ⟨g3, 2, none⟩ = some (.int .i64 n) := HO1.out.p1.cells 2
 have hp3 : w1.cell? ⟨g3, 3, none⟩ = some (.int .i64 off) := HO1.out.p1.cells 3
 have hp4 : w1.cell? ⟨g3, 4, none⟩ = some (.int .i64 flags) := HO1.out.p1.cells 4
 have hp5 : w1.cell? ⟨g3, 5, none⟩ = some (sV path) := HO1.out.p1.cells 5
 have hp6 : w1.cell? ⟨g3, 6, none⟩ = some (sV dest) := HO1.out.p1.cells 6
 have hp7 : w1.cell? ⟨g3, 7, none⟩ = some (ov) := HO1.out.p1.cells 7
 go_upto_region 19 with fail
 go_cut [5, 6] (fun p5 e6 wx => ∃ (w3 : World) (g5 : Nat), w3 = wx ∧ e6 = .int .i64 e1 ∧ p5 = .pointer (some ⟨g5, 0, none⟩) ∧ Hid (Has w3 (Trc q S :: pt g5 (.cells (spC s1) 102) :: pt g4 (.cells (ansC (ansE 0) nilV nilV) 38) :: L)) ∧ Hid (Keep w w3))
 case first =>
  go_wp2_with fail
  refine (HX.out w1 _ ((HM.out.cons (pt g3 (.cells #[.int .i64 9, .int .i64 fd, .int .i64 n, .int .i64 off, .int .i64 flags, sV path, sV dest, ov] 33))).cons (pt g4 (.cells (ansC (ansE 0) nilV nilV) 38))) (HO1.out.re 3 [2, 0, 1])).mono ?_
  rintro e w2 ⟨rfl, hO2, hK2⟩
  have HO2 := hid hO2
  have HK2 := hid ((HK1.out).trans hK2)
  clear hO2 hK2
  try dsimp only
  unfold spV spC
  go_wp2_with fail
  go_meet
  exact ⟨_, _, rfl, rfl, rfl, hid ((HO2.out.alloc (.cells (spC s1) 102)).re 4 [1, 0, 2]), hid (HK2.out.alloc _)⟩
 case rest =>
  obtain ⟨w3, g5, rfl, rfl, rfl, HO3, HK3⟩ := hcut
  clear HO1 HK1 hp0 hp1 hp2 hp3 hp4 hp5 hp6 hp7 HX
  by_cases he : e1 = 0
  ·subst he
   have HRR := hid (show R = (ansE 0, S.make s1 2 []) from by rw [← HR.out, if_neg (fun h => h rfl)])
   obtain ⟨⟨d, hd, hdk⟩, hln⟩ := HTF.out rfl
   have k0 : w3.cell? ⟨g5, 0, none⟩ = some (.int .i64 s1.node) := (HO3.out.p1).cells 0
   have k1 : w3.cell? ⟨g5, 1, none⟩ = some (.int .i64 s1.dir) := (HO3.out.p1).cells 1
   have k2 : w3.cell? ⟨g5, 2, none⟩ = some (sV s1.name) := (HO3.out.p1).cells 2
   have kt0 := (HO3.out.p1).thaw 0
   have kt1 := (HO3.out.p1).thaw 1
   have kt2 := (HO3.out.p1).thaw 2
   have HMK := hid (tMake q S s1 2 d w3 (pt g5 (.cells (spC s1) 102) :: pt g4 (.cells (ansC (ansE 0) nilV nilV) 38) :: L) (by decide) hd hdk (by omega) (HB.out.small _ _ hd).2.2 HB.out.last0 HB.out.last1 HB.out.free HB.out.many HO3.out)
   unfold spV spC at HMK
   clear hd hdk
   go_wp2_with fail
   refine (HMK.out).mono ?_
   rintro e w4 ⟨rfl, hO4, hK4⟩
   have HO4 := hid hO4
   have HK4 := hid ((HK3.out).trans hK4)
   clear hO4 hK4
   try dsimp only
   have HO5 := hid (show Has w4 (pt g4 (.cells (ansC (ansE 0) nilV nilV) 38) :: Trc q (S.make s1 2 []) :: L) from HO4.out.re 3 [2, 0])
   have hz0 : w4.cell? ⟨g4, 0, none⟩ = some (.int .i64 0) := (HO5.out).cells 0
   have hz1 : w4.cell? ⟨g4, 1, none⟩ = some (.int .i64 0) := (HO5.out).cells 1
   have hz2 : w4.cell? ⟨g4, 2, none⟩ = some (.int .i64 0) := (HO5.out).cells 2
   have hz3 : w4.cell? ⟨g4, 3, none⟩ = some (.int .i64 0) := (HO5.out).cells 3
   have hz4 : w4.cell? ⟨g4, 4, none⟩ = some (.slice none 0 0) := (HO5.out).cells 4
   have hz5 : w4.cell? ⟨g4, 5, none⟩ = some (.slice none 0 0) := (HO5.out).cells 5
   have hy0 := (HO5.out).thaw 0
   have hy1 := (HO5.out).thaw 1
   have hy2 := (HO5.out).thaw 2
   have hy3 := (HO5.out).thaw 3
   have hy4 := (HO5.out).thaw 4
   have hy5 := (HO5.out).thaw 5
   go_wp2_with fail
   refine (tCode (0 : Int) w4 _ HO5.out).mono ?_
   rintro e w6 ⟨rfl, hO6, hK6⟩
   have HO6 := hid hO6
   have HK6 := hid ((HK4.out).trans hK6)
   clear hO6 hK6
   unfold ansV ansC ansE
   clear hz0 hz1 hz2 hz3 hz4 hz5 hy0 hy1 hy2 hy3 hy4 hy5
   have hz0 : w6.cell? ⟨g4, 0, none⟩ = some (.int .i64 0) := (HO6.out).cells 0
   have hz1 : w6.cell? ⟨g4, 1, none⟩ = some (.int .i64 0) := (HO6.out).cells 1
   have hz2 : w6.cell? ⟨g4, 2, none⟩ = some (.int .i64 0) := (HO6.out).cells 2
   have hz3 : w6.cell? ⟨g4, 3, none⟩ = some (.int .i64 0) := (HO6.out).cells 3
   have hz4 : w6.cell? ⟨g4, 4, none⟩ = some (.slice none 0 0) := (HO6.out).cells 4
   have hz5 : w6.cell? ⟨g4, 5, none⟩ = some (.slice none 0 0) := (HO6.out).cells 5
   have hy0 := (HO6.out).thaw 0
   have hy1 := (HO6.out).thaw 1
   have hy2 := (HO6.out).thaw 2
   have hy3 := (HO6.out).thaw 3
   have hy4 := (HO6.out).thaw 4
   have hy5 := (HO6.out).thaw 5
   go_wp2_with fail
   have h1 := ((show Has w6 (pt g4 (.cells (ansC (ansE 0) nilV nilV) 38) :: Trc q (S.make s1 2 []) :: L) from HO6.out)).ans (ansE (0 : Int)) nilV nilV
   refine bodyPost_ret (ans_result rfl rfl h1) rfl ?_
   rw [HRR.out]
   exact ⟨rfl, h1.drop, HK6.out.ans _ _ _ _ _ _ _⟩
  ·have HRR := hid (show R = (ansE e1, S) from by rw [← HR.out, if_pos he])
   have HO5 := hid (show Has w3 (pt g4 (.cells (ansC (ansE 0) nilV nilV) 38) :: Trc q S :: L) from HO3.out.re 3 [2, 0])
   have heb : (e1 == 0) = false := by simpa using he
   have hz0 : w3.cell? ⟨g4, 0, none⟩ = some (.int .i64 0) := (HO5.out).cells 0
   have hz1 : w3.cell? ⟨g4, 1, none⟩ = some (.int .i64 0) := (HO5.out).cells 1
   have hz2 : w3.cell? ⟨g4, 2, none⟩ = some (.int .i64 0) := (HO5.out).cells 2
   have hz3 : w3.cell? ⟨g4, 3, none⟩ = some (.int .i64 0) := (HO5.out).cells 3
   have hz4 : w3.cell? ⟨g4, 4, none⟩ = some (.slice none 0 0) := (HO5.out).cells 4
   have hz5 : w3.cell? ⟨g4, 5, none⟩ = some (.slice none 0 0) := (HO5.out).cells 5
   have hy0 := (HO5.out).thaw 0
   have hy1 := (HO5.out).thaw 1
   have hy2 := (HO5.out).thaw 2
   have hy3 := (HO5.out).thaw 3
   have hy4 := (HO5.out).thaw 4
   have hy5 := (HO5.out).thaw 5
   go_wp2_with fail
   refine (tCode e1 w3 _ HO5.out).mono ?_
   rintro e w6 ⟨rfl, hO6, hK6⟩
   have HO6 := hid hO6
   have HK6 := hid ((HK3.out).trans hK6)
   clear hO6 hK6
   unfold ansV ansC ansE
   clear hz0 hz1 hz2 hz3 hz4 hz5 hy0 hy1 hy2 hy3 hy4 hy5
   have hz0 : w6.cell? ⟨g4, 0, none⟩ = some (.int .i64 0) := (HO6.out).cells 0
   have hz1 : w6.cell? ⟨g4, 1, none⟩ = some (.int .i64 0) := (HO6.out).cells 1
   have hz2 : w6.cell? ⟨g4, 2, none⟩ = some (.int .i64 0) := (HO6.out).cells 2
   have hz3 : w6.cell? ⟨g4, 3, none⟩ = some (.int .i64 0) := (HO6.out).cells 3
   have hz4 : w6.cell? ⟨g4, 4, none⟩ = some (.slice none 0 0) := (HO6.out).cells 4
   have hz5 : w6.cell? ⟨g4, 5, none⟩ = some (.slice none 0 0) := (HO6.out).cells 5
   have hy0 := (HO6.out).thaw 0
   have hy1 := (HO6.out).thaw 1
   have hy2 := (HO6.out).thaw 2
   have hy3 := (HO6.out).thaw 3
   have hy4 := (HO6.out).thaw 4
   have hy5 := (HO6.out).thaw 5
   go_wp2_with fail
   have h1 := ((show Has w6 (pt g4 (.cells (ansC (ansE 0) nilV nilV) 38) :: Trc q S :: L) from HO6.out)).ans (ansE e1) nilV nilV
   refine bodyPost_ret (ans_result rfl rfl h1) rfl ?_
   rw [HRR.out]
   exact ⟨rfl, h1.drop, HK6.out.ans _ _ _ _ _ _ _⟩
end Go.Proofs.YtmgpgbfgemebbaaGreatDoor
namespace Go.Proofs.YtmgpgbfgemebbaaGreatDoor
open Go.RowKit Go.Own
def slLenO : Option Value → Nat
 | some v => slLen v
 | none => 0
end Go.Proofs.YtmgpgbfgemebbaaGreatDoor
namespace Go.Proofs.YtmgpgbfgemebbaaGreatDoor
open Go.RowKit Go.Own
end Go.Proofs.YtmgpgbfgemebbaaGreatDoor
