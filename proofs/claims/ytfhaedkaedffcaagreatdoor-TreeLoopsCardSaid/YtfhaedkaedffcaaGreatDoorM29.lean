/- TEXTS of mine, merged. -/
import Derived.Test.YtfhaedkaedffcaaGreatDoorM28
import Derived.Test.YtfhaedkaedffcaaGreatDoorM7
import Derived.Test.YtfhaedkaedffcaaGreatDoorRows
import Derived.Lay
import Derived.LaidMore
import Derived.SevenTiedAt
import Derived.HandedShaped
import Derived.Shelf.Vars
import Derived.ProofKit
import Derived.OpenShut
import Derived.Stop.Joined
/- TreeNames: its operations, as it calls them. -/
namespace Go.Proofs.YtfhaedkaedffcaaGreatDoor
open Go.RowKit Go.Own
/-- An answer of numbers, as a value. -/
abbrev bareY (c n k l : Int) (p : Option Addr) (cp : Nat) (p' : Option Addr) (cp' : Nat) : Value := .agg #[.int .i64 c, .int .i64 n, .int .i64 k, .int .i64 l, .slice p 0 cp, .slice p' 0 cp']
section
variable {S : Tre} {k : Nat} (q : Nat) (mx : Int) (w : World) (L : List HP)
theorem stepBare (h : Gdx S k) (hk : k < 100000) (hM : MxL mx L) (o : Opm) {P Q : ByteArray} (hP : sB o.path = P) (hQ : sB o.dest = Q) (ho : o.off ≤ 9223372036854775807) (hp : o.path.length ≤ 100000) (hq : o.dest.length ≤ 100000)
    (po : Option Addr) (co : Nat) (ds : List Int) (hds : ds.length ≤ 100000) (hrd : ∀ w', Has w' L → Rd w' (.slice po ds.length co) 1 ds.length (bc ds)) (hb : Bare (S.doM o ds).1) (hO : Has w (Trc q S :: L)) :
    Calls Tryz.prog 17 #[.pointer (some ⟨q, 0, none⟩), opY o.kind o.fd o.n o.off o.flags P Q (.slice po ds.length co)] w fun e w' => ∃ p c p' c', e = .returned (bareY (S.doM o ds).1.code (S.doM o ds).1.n (S.doM o ds).1.kind (S.doM o ds).1.links p c p' c') ∧ Gdx (S.doM o ds).2 (k + 1) ∧ Has w' (Trc q (S.doM o ds).2 :: L) ∧ Keep w w' := by
  refine (stepDo q mx w L h hk hM o hP hQ ho hp hq po co ds hds hrd (S.doM o ds).1 (S.doM o ds).2 rfl hO).mono ?_
  rintro e w' ⟨p, c, p', c', rfl, hg, h1, h2⟩
  refine ⟨p, c, p', c', ?_, hg, h1.drop.drop, h2⟩
  unfold ansY bareY
  rw [hb.1, hb.2]
  rfl
theorem stepBare0 (h : Gdx S k) (hk : k < 100000) (hM : MxL mx L) (o : Opm) {P Q : ByteArray} (hP : sB o.path = P) (hQ : sB o.dest = Q) (ho : o.off ≤ 9223372036854775807) (hp : o.path.length ≤ 100000) (hq : o.dest.length ≤ 100000)
    (hb : Bare (S.doM o []).1) (hO : Has w (Trc q S :: L)) :
    Calls Tryz.prog 17 #[.pointer (some ⟨q, 0, none⟩), opY o.kind o.fd o.n o.off o.flags P Q (.slice none 0 0)] w fun e w' => ∃ p c p' c', e = .returned (bareY (S.doM o []).1.code (S.doM o []).1.n (S.doM o []).1.kind (S.doM o []).1.links p c p' c') ∧ Gdx (S.doM o []).2 (k + 1) ∧ Has w' (Trc q (S.doM o []).2 :: L) ∧ Keep w w' :=
  stepBare q mx w L h hk hM o hP hQ ho hp hq none 0 [] (by simp) (fun w' h' => Bytes.rd (h'.row_nil _ _)) hb hO
end
abbrev noB : ByteArray := ⟨#[]⟩
section
variable (q : Nat) (mx : Int) (w : World) (L : List HP) (hM : MxL mx L) {p p' nm nm' : Str} {P P' : ByteArray} (hP : sB p = P) (hP' : sB p' = P') (hp : p.length ≤ 100) (hp' : p'.length ≤ 100) {d : List Int} {wr : List Bool} {o : Int}
end
end Go.Proofs.YtfhaedkaedffcaaGreatDoor
/- TreeLoops: its operations, as it calls them. -/
namespace Go.Proofs.YtfhaedkaedffcaaGreatDoor
open Go.RowKit Go.Own
theorem Lp.up {S : Tre} {k m i ring : Nat} (h : Lp S k m i ring) (hg : Gdx S (k + 1)) : Lp S (k + 1) m i ring := ⟨hg, h.last, h.names, h.two, h.row, h.ring⟩
section
variable (q : Nat) (mx : Int) (w : World) (L : List HP) (hM : MxL mx L) {S : Tre} {k m i ring : Nat} {P P' : ByteArray}
include hM
theorem lMkdir (hO : Has w (Trc q tre0 :: L)) : Calls Tryz.prog 17 #[.pointer (some ⟨q, 0, none⟩), opW 9 0 0 0 0 [47, 101, 110, 100] nilV] w fun e w' => ∃ a ca b cb S', e = .returned (bareY 0 0 0 0 a ca b cb) ∧ Lp S' 1 0 0 1 ∧ Has w' (Trc q S' :: L) ∧ Keep w w' := by
  have h := stepBare0 q mx w L gdx0 (by omega) hM ⟨9, 0, 0, 0, 0, 47 :: endS, []⟩ rfl rfl (show (0 : Int) ≤ 9223372036854775807 by decide) (by decide) (by simp) (bare_mkdir tre0 _) hO
  refine Calls.mono (show Calls Tryz.prog 17 #[.pointer (some ⟨q, 0, none⟩), opW 9 0 0 0 0 [47, 101, 110, 100] nilV] w _ from h) ?_
  rintro e w' ⟨a, ca, b, cb, rfl, hg, h1, h2⟩
  have e1 : tre0.doM ⟨9, 0, 0, 0, 0, 47 :: endS, []⟩ [] = tre0.mkdir (47 :: endS) := rfl
  rw [e1] at hg h1 ⊢
  refine ⟨a, ca, b, cb, _, ?_, lp0.1, h1, h2⟩
  rw [lp0.2]
  rfl
theorem lLink (h : Lp S k m 0 1) (hk : k < 1000) (hm : m < 12) (hP : sB (pthL m) = P) (hP' : sB (47 :: chA m) = P') (hO : Has w (Trc q S :: L)) : Calls Tryz.prog 17 #[.pointer (some ⟨q, 0, none⟩), opY 13 0 0 0 0 P P' nilV] w fun e w' => ∃ a ca b cb S', e = .returned (bareY 0 0 0 0 a ca b cb) ∧ Lp S' (k + 1) (m + 1) 0 1 ∧ Has w' (Trc q S' :: L) ∧ Keep w w' := by
  have hl : (pthL m).length ≤ 100000 := by rw [pthL_nm]; have := (good_nmL ⟨m, by omega⟩).1.2.1; dsimp only at this ⊢; simp only [List.length_cons]; omega
  refine (stepBare0 q mx w L h.gd (by omega) hM ⟨13, 0, 0, 0, 0, pthL m, 47 :: chA m⟩ hP hP' (show (0 : Int) ≤ 9223372036854775807 by decide) hl (by simp [chA]) (bare_symlink _ _ _) hO).mono ?_
  rintro e w' ⟨a, ca, b, cb, rfl, hg, h1, h2⟩
  have e1 : S.doM ⟨13, 0, 0, 0, 0, pthL m, 47 :: chA m⟩ [] = S.symlink (pthL m) (47 :: chA m) := by simp [Tre.doM]
  obtain ⟨e2, h3⟩ := h.link hm
  rw [e1] at hg h1 ⊢
  refine ⟨a, ca, b, cb, _, ?_, h3, h1, h2⟩
  rw [e2]
  rfl
theorem lStat (h : Lp S k m i ring) (hk : k < 1000) (hm : m < 13) (hi : i < 5) (hP : sB (pthL m) = P) (hO : Has w (Trc q S :: L)) : Calls Tryz.prog 17 #[.pointer (some ⟨q, 0, none⟩), opY 16 0 0 0 0 P noB nilV] w fun e w' => ∃ c n kd l a ca b cb, e = .returned (bareY c n kd l a ca b cb) ∧ c = (if m ≤ 8 then 0 else 12) ∧ Lp S (k + 1) m i ring ∧ Has w' (Trc q S :: L) ∧ Keep w w' := by
  have hl : (pthL m).length ≤ 100000 := by rw [pthL_nm]; have := (good_nmL ⟨m, by omega⟩).1.2.1; dsimp only at this ⊢; simp only [List.length_cons]; omega
  refine (stepBare0 q mx w L h.gd (by omega) hM ⟨16, 0, 0, 0, 0, pthL m, []⟩ hP rfl (show (0 : Int) ≤ 9223372036854775807 by decide) hl (by simp) (bare_stat _ _ _) hO).mono ?_
  rintro e w' ⟨a, ca, b, cb, rfl, hg, h1, h2⟩
  have e1 : S.doM ⟨16, 0, 0, 0, 0, pthL m, []⟩ [] = (S.stat (pthL m) true, S) := by simp [Tre.doM]
  rw [e1] at hg h1 ⊢
  refine ⟨_, _, _, _, a, ca, b, cb, rfl, ?_, h.up hg, h1, h2⟩
  have := h.stat_row hm hi m (Nat.le_refl _)
  rw [pthL_nm]
  exact this
theorem lRing (h : Lp S k m i ring) (hk : k < 1000) (hm : m < 13) (hi : i < ring) (hr : ring ≤ 4) (hP : sB (chR ((i + 1) % ring)) = P) (hP' : sB (47 :: chR i) = P') (hO : Has w (Trc q S :: L)) : Calls Tryz.prog 17 #[.pointer (some ⟨q, 0, none⟩), opY 13 0 0 0 0 P P' nilV] w fun e w' => ∃ a ca b cb S', e = .returned (bareY 0 0 0 0 a ca b cb) ∧ Lp S' (k + 1) m (i + 1) ring ∧ Has w' (Trc q S' :: L) ∧ Keep w w' := by
  refine (stepBare0 q mx w L h.gd (by omega) hM ⟨13, 0, 0, 0, 0, chR ((i + 1) % ring), 47 :: chR i⟩ hP hP' (show (0 : Int) ≤ 9223372036854775807 by decide) (by simp [chR]) (by simp [chR]) (bare_symlink _ _ _) hO).mono ?_
  rintro e w' ⟨a, ca, b, cb, rfl, hg, h1, h2⟩
  have e1 : S.doM ⟨13, 0, 0, 0, 0, chR ((i + 1) % ring), 47 :: chR i⟩ [] = S.symlink (chR ((i + 1) % ring)) (47 :: chR i) := by simp [Tre.doM]
  obtain ⟨e2, h3⟩ := h.rlink hm hi hr
  rw [e1] at hg h1 ⊢
  refine ⟨a, ca, b, cb, _, ?_, h3, h1, h2⟩
  rw [e2]
  rfl
theorem lStatR (h : Lp S k m ring ring) (hk : k < 1000) (hm : m < 13) (hi : ring < 5) (h0 : 0 < ring) (hO : Has w (Trc q S :: L)) : Calls Tryz.prog 17 #[.pointer (some ⟨q, 0, none⟩), opW 16 0 0 0 0 [47, 114, 97] nilV] w fun e w' => ∃ n kd l a ca b cb, e = .returned (bareY 12 n kd l a ca b cb) ∧ Lp S (k + 1) m ring ring ∧ Has w' (Trc q S :: L) ∧ Keep w w' := by
  have h' := stepBare0 q mx w L h.gd (by omega) hM ⟨16, 0, 0, 0, 0, 47 :: chR 0, []⟩ rfl rfl (show (0 : Int) ≤ 9223372036854775807 by decide) (by decide) (by simp) (bare_stat _ _ _) hO
  refine Calls.mono (show Calls Tryz.prog 17 #[.pointer (some ⟨q, 0, none⟩), opW 16 0 0 0 0 [47, 114, 97] nilV] w _ from h') ?_
  rintro e w' ⟨a, ca, b, cb, rfl, hg, h1, h2⟩
  have e1 : S.doM ⟨16, 0, 0, 0, 0, 47 :: chR 0, []⟩ [] = (S.stat (47 :: chR 0) true, S) := by simp [Tre.doM]
  rw [e1] at hg h1 ⊢
  refine ⟨(S.stat (47 :: chR 0) true).n, (S.stat (47 :: chR 0) true).kind, (S.stat (47 :: chR 0) true).links, a, ca, b, cb, ?_, h.up hg, h1, h2⟩
  have := h.stat_ring hm hi rfl h0
  dsimp only
  rw [this]
theorem lLstat (h : Lp S k m ring ring) (hk : k < 1000) (hm : m < 13) (hi : ring < 5) (h0 : 0 < ring) (hO : Has w (Trc q S :: L)) : Calls Tryz.prog 17 #[.pointer (some ⟨q, 0, none⟩), opW 17 0 0 0 0 [47, 114, 97] nilV] w fun e w' => ∃ c n l a ca b cb, e = .returned (bareY c n 3 l a ca b cb) ∧ Has w' (Trc q S :: L) ∧ Keep w w' := by
  have h' := stepBare0 q mx w L h.gd (by omega) hM ⟨17, 0, 0, 0, 0, 47 :: chR 0, []⟩ rfl rfl (show (0 : Int) ≤ 9223372036854775807 by decide) (by decide) (by simp) (bare_stat _ _ _) hO
  refine Calls.mono (show Calls Tryz.prog 17 #[.pointer (some ⟨q, 0, none⟩), opW 17 0 0 0 0 [47, 114, 97] nilV] w _ from h') ?_
  rintro e w' ⟨a, ca, b, cb, rfl, hg, h1, h2⟩
  have e1 : S.doM ⟨17, 0, 0, 0, 0, 47 :: chR 0, []⟩ [] = (S.stat (47 :: chR 0) false, S) := by simp [Tre.doM]
  rw [e1] at hg h1 ⊢
  refine ⟨(S.stat (47 :: chR 0) false).code, (S.stat (47 :: chR 0) false).n, (S.stat (47 :: chR 0) false).links, a, ca, b, cb, ?_, h1, h2⟩
  have := h.lstat_ring hm hi rfl h0
  dsimp only
  rw [this]
end
abbrev abcB : ByteArray := ⟨#[97, 98, 99, 100, 101, 102, 103, 104, 105, 106, 107, 108, 109, 110, 111, 112]⟩
theorem abc_sub : ∀ i : Fin 16, abcB.extract i.val (i.val + 1) = sB [UInt8.ofNat (97 + i.val)] := by decide +kernel
end Go.Proofs.YtfhaedkaedffcaaGreatDoor
/- THE WALK of Fill. -/
namespace Go.Proofs.YtfhaedkaedffcaaGreatDoor
open Go.RowKit Go.Own
/-- Byte k of number n's text. -/
def fb (n : Int) (k : Nat) : Int := (n / 2 ^ (8 * (k % 4)) + (k : Int) * 7) % 256
def fill (n : Int) (sz : Nat) : List Int := (List.range sz).map (fb n)
end Go.Proofs.YtfhaedkaedffcaaGreatDoor
/- THE WALK of TreeAppends. -/
namespace Go.Proofs.YtfhaedkaedffcaaGreatDoor
open Go.RowKit Go.Own
def lowQ : Qc := ⟨[20], fun _ args => .int .i64 (low (intOf (args.getD 0 undef)) (intOf (args.getD 1 undef))), []⟩
section
variable (q : Nat) (w : World) (L : List HP) {d : List Int} {wr : List Bool} (hd : d.length ≤ 5000) (hw : wr.length ≤ 162) (o : Nat) (ho : o ≤ 5000)
include hd hw ho
end
end Go.Proofs.YtfhaedkaedffcaaGreatDoor
/- THE WALK of TreeLoops. -/
namespace Go.Proofs.YtfhaedkaedffcaaGreatDoor
open Go.RowKit Go.Own
set_option maxRecDepth 100000 in
set_option maxHeartbeats 16000000 in
theorem loopsWalk (mx : Int) (many ring : Int) (W : World) (hmx : W.cell? ⟨0, 0, none⟩ = some (.int .i64 mx)) :
    Calls Tryz.prog 4 #[.int .i64 many, .int .i64 ring] W fun e w' => e = .returned (.bool true) ∧ Below W.heap.size W w' := by
  have HO := hid (Has.start W)
  have HM := hid (mxStart hmx)
  clear hmx
  obtain ⟨m, hm0, hm1⟩ := low_nat many 13 (by decide)
  obtain ⟨r0, hr0, hr1⟩ := low_nat ring 4 (by decide)
  have HA := hid hm0
  have HB := hid hr0
  clear hm0 hr0
  obtain ⟨r, hr⟩ : ∃ r : Nat, r = 1 + r0 := ⟨_, rfl⟩
  have wr : IntKind.i64.wrap (1 + (r0 : Int)) = (r : Int) := by rw [wrapk_in _ (by omega)]; omega
  have hr4 : r ≤ 4 := by omega
  have hr9 : 1 ≤ r := by omega
  have hrz : ¬ r = 0 := by omega
  clear hr hr1
  have af0 := ansF0
  have af1 := ansF1
  go_enter Tryz.func4, Tryz.ntmps4
  go_wp2_with fail
  refine (lowN many 13 m W (by decide) (by decide) HA.out).mono ?_
  rintro e w' ⟨rfl, rfl⟩
  try dsimp only
  go_wp2_with fail
  refine (lowN ring 4 r0 W (by decide) (by decide) HB.out).mono ?_
  rintro e w' ⟨rfl, rfl⟩
  try dsimp only
  go_wp2_with fail
  refine (tNew W [old W] HO.out).mono ?_
  rintro e w1 ⟨q, rfl, hO1, hK1⟩
  have HO1 := hid hO1
  have HK1 := hid ((Keep.refl W).trans hK1)
  clear hO1 hK1
  try dsimp only
  clear HO
  go_wp2_with fail
  refine (lMkdir q mx w1 [old W] HM.out HO1.out).mono ?_
  rintro e w2 ⟨a2, ca2, b2, cb2, S2, rfl, hlp, hO2, hK2⟩
  have HO2 := hid hO2
  have HK2 := hid ((HK1.out).trans hK2)
  clear hO2 hK2
  try dsimp only
  clear HO1 HK1
  have HLP := hid hlp
  clear hlp
  go_wp2_with fail
  go_loopw [8, 7] (fun i tv w => ∃ (j : Nat) (S : Tre) (T : ByteArray) (w0 : World), w0 = w ∧ j ≤ m ∧ i = .int .i64 j ∧ tv = .string T ∧ Hid (sB (pthL j) = T) ∧ Hid (Lp S (1 + j) j 0 1) ∧ Hid (Has w0 (Trc q S :: [old W])) ∧ Hid (Keep W w0)) (fun i _ _ => m - (intOf i).toNat)
  case atStart => exact ⟨0, S2, _, _, rfl, by omega, rfl, rfl, hid rfl, HLP, HO2, HK2⟩
  case round =>
    clear HO2 HK2 HLP
    obtain ⟨j, S, T, w0, rfl, hjm, rfl, rfl, HT, HLP, HOw, HKw⟩ := hrel
    by_cases hlt : j < m
    · have hji : (j : Int) < (m : Int) := by omega
      have hj0 : (0 : Int) ≤ (j : Int) := by omega
      have hj16 : (j : Int) < 16 := by omega
      go_upto_region 11 with fail
      have hE : (⟨#[47]⟩ : ByteArray) ++ abcB.extract j (j + 1) = sB (47 :: chA j) := by rw [← sB_cons]; congr 1; exact abc_sub ⟨j, by omega⟩
      generalize (⟨#[47]⟩ : ByteArray) ++ abcB.extract j (j + 1) = E at *
      have HE := hid hE.symm
      clear hE
      go_wp2_with fail
      refine (lLink q mx w0 [old W] HM.out HLP.out (by omega) (by omega) HT.out HE.out HOw.out).mono ?_
      rintro e w5 ⟨a5, ca5, b5, cb5, S5, rfl, hlp, hO5, hK5⟩
      have HO5 := hid hO5
      have HK5 := hid ((HKw.out).trans hK5)
      clear hO5 hK5
      try dsimp only
      have HLP5 := hid hlp
      clear hlp HOw HKw
      go_wp2_with fail
      go_roundw
      case rel => exact ⟨j + 1, S5, E, _, rfl, by omega, by go_num, rfl, HE, HLP5, HO5, HK5⟩
      case measure => simp [intOf]; omega
    · obtain rfl : j = m := by omega
      have hji : ¬ (j : Int) < (j : Int) := by omega
      go_wp2_with fail
      refine (lStat q mx w0 [old W] HM.out HLP.out (by omega) (by omega) (by omega) HT.out HOw.out).mono ?_
      rintro e w5 ⟨c, n5, d5, l5, a5, ca5, b5, cb5, rfl, hc, hlp, hO5, hK5⟩
      have HO5 := hid hO5
      have HK5 := hid ((HKw.out).trans hK5)
      clear hO5 hK5
      try dsimp only
      have HLP5 := hid (hlp.toRing r)
      have HC := hid hc
      clear hlp HOw HKw HLP hc
      go_upto_region 15 with fail
      have HP5 := hid (HO5.out.alloc (.cells #[.int .i64 c, .int .i64 n5, .int .i64 d5, .int .i64 l5, .slice a5 0 ca5, .slice b5 0 cb5] 29))
      have HQ5 := hid (HK5.out.alloc (.cells #[.int .i64 c, .int .i64 n5, .int .i64 d5, .int .i64 l5, .slice a5 0 ca5, .slice b5 0 cb5] 29))
      clear HO5 HK5
      generalize w5.alloc (.cells #[.int .i64 c, .int .i64 n5, .int .i64 d5, .int .i64 l5, .slice a5 0 ca5, .slice b5 0 cb5] 29) = y5 at *
      generalize w5.heap.size = g5 at *
      go_wp2_with fail
      go_loopw [11] (fun i w => ∃ (z : Nat) (S : Tre) (w0 : World), w0 = w ∧ z ≤ r ∧ i = .int .i64 z ∧ Hid (Lp S (2 + j + z) j z r) ∧ Hid (Has w0 (Trc q S :: pt g5 (.cells #[.int .i64 c, .int .i64 n5, .int .i64 d5, .int .i64 l5, .slice a5 0 ca5, .slice b5 0 cb5] 29) :: [old W])) ∧ Hid (Keep W w0)) (fun i _ => r - (intOf i).toNat)
      case atStart => exact ⟨0, S, _, rfl, by omega, rfl, hid (by have := HLP5.out; rwa [show 2 + j + 0 = 1 + j + 1 by omega]), hid (HP5.out.re 3 [1, 0, 2]), HQ5⟩
      case round =>
        clear HP5 HQ5 HLP5
        obtain ⟨z, S6, w0, rfl, hzr, rfl, HLP, HOw, HKw⟩ := hrel
        by_cases hlt : z < r
        · have hzi : (z : Int) < (r : Int) := by omega
          have hz0 : (0 : Int) ≤ (z : Int) := by omega
          have hz16 : (z : Int) < 16 := by omega
          have htm : ((z : Int) + 1).tmod (r : Int) = (((z + 1) % r : Nat) : Int) := (Int.ofNat_tmod (z + 1) r).symm
          have hmod : (z + 1) % r < r := Nat.mod_lt _ (by omega)
          obtain ⟨x, hx⟩ : ∃ x, (z + 1) % r = x := ⟨_, rfl⟩
          rw [hx] at htm hmod
          have hx0 : (0 : Int) ≤ (x : Int) := by omega
          have hn1 : ¬ 9223372036854775807 < 1 + (min (x + 1) 16 - x) := by omega
          have hn2 : ¬ 9223372036854775807 < 2 + (min (z + 1) 16 - z) := by omega
          have hx2 : (0 : Int) ≤ (x : Int) + 1 := by omega
          have hx3 : (x : Int) + 1 ≤ 16 := by omega
          have hx4 : (x : Int) ≤ (x : Int) + 1 := by omega
          have hz2 : (0 : Int) ≤ (z : Int) + 1 := by omega
          have hz3 : (z : Int) + 1 ≤ 16 := by omega
          have hz4 : (z : Int) ≤ (z : Int) + 1 := by omega
          have wz : IntKind.i64.wrap ((z : Int) + 1) = (z : Int) + 1 := wrapk_in _ (by omega)
          have wx : IntKind.i64.wrap (x : Int) = (x : Int) := wrapk_in _ (by omega)
          have wx1 : IntKind.i64.wrap ((x : Int) + 1) = (x : Int) + 1 := wrapk_in _ (by omega)
          have hx16 : (x : Int) < 16 := by omega
          have hE1 : (⟨#[114]⟩ : ByteArray) ++ abcB.extract x (x + 1) = sB (chR ((z + 1) % r)) := by
            have h1 := abc_sub ⟨x, by omega⟩
            dsimp only at h1
            rw [h1, hx]
            apply ByteArray.ext
            simp [sB, chR]
          have hE2 : (⟨#[47, 114]⟩ : ByteArray) ++ abcB.extract z (z + 1) = sB (47 :: chR z) := by
            have h1 := abc_sub ⟨z, by omega⟩
            dsimp only at h1
            rw [h1]
            apply ByteArray.ext
            simp [sB, chR]
          have HE1 := hid hE1.symm
          have HE2 := hid hE2.symm
          clear hx hE1 hE2
          go_upto_region 18 with fail
          have HOd := hid HOw.out.drew
          have HKd := hid HKw.out.drew
          clear HOw HKw
          refine region_text (fun w' => True ∧ True) (by kernel_rfl) (by kernel_rfl) ⟨trivial, trivial⟩ ?_
          repeat (first
            | (refine wpL_read (by rfl) (by rfl) ?_ ?_ ?_; rotate_left; (rintro w ⟨z0, z1⟩; go_simp; with_reducible rfl); simp only [Act.put, List.setIfInBounds_toArray, List.set_cons_zero, List.set_cons_succ]) | (refine wpL_skip (by rfl) ?_; simp only [Act.put, List.setIfInBounds_toArray, List.set_cons_zero, List.set_cons_succ]))
          generalize (⟨#[114]⟩ : ByteArray) ++ abcB.extract x (x + 1) = E1 at *
          generalize (⟨#[47, 114]⟩ : ByteArray) ++ abcB.extract z (z + 1) = E2 at *
          refine wpL_act (by rfl) (by rfl) (fun K hK => ?_)
          go_simp
          refine (lRing q mx w0.drew _ (HM.out.cons _) HLP.out (by omega) (by omega) hlt (by omega) HE1.out HE2.out HOd.out).mono ?_
          rintro e w7 ⟨a7, ca7, b7, cb7, S7, rfl, hlp, hO7, hK7⟩
          have HO7 := hid hO7
          have HK7 := hid ((HKd.out).trans hK7)
          clear hO7 hK7
          try dsimp only
          refine hK.out _ _ (⟨trivial, trivial⟩) ?_
          clear hK K
          try simp only [Act.put, List.setIfInBounds_toArray, List.set_cons_zero, List.set_cons_succ]
          have HLP7 := hid hlp
          clear hlp HOd HKd HE1 HE2
          repeat (first
            | (refine wpL_read (by rfl) (by rfl) ?_ ?_ ?_; rotate_left; (rintro w ⟨z0, z1⟩; go_simp; with_reducible rfl); simp only [Act.put, List.setIfInBounds_toArray, List.set_cons_zero, List.set_cons_succ]) | (refine wpL_skip (by rfl) ?_; simp only [Act.put, List.setIfInBounds_toArray, List.set_cons_zero, List.set_cons_succ]))
          refine wpL_nil ?_
          go_wp2_with fail
          go_roundw
          case rel => exact ⟨z + 1, S7, _, rfl, by omega, by go_num, HLP7, HO7, HK7⟩
          case measure => simp [intOf]; omega
        · obtain rfl : z = r := by omega
          have hzi : ¬ (z : Int) < (z : Int) := by omega
          go_wp2_with fail
          refine (lStatR q mx w0 [pt g5 (.cells #[.int .i64 c, .int .i64 n5, .int .i64 d5, .int .i64 l5, .slice a5 0 ca5, .slice b5 0 cb5] 29), old W] (HM.out.cons _) HLP.out (by omega) (by omega) (by omega) (by omega) HOw.out).mono ?_
          rintro e w6 ⟨n6, d6, l6, a6, ca6, b6, cb6, rfl, hlp, hO6, hK6⟩
          have HO6 := hid hO6
          have HK6 := hid ((HKw.out).trans hK6)
          clear hO6 hK6
          try dsimp only
          have HLP6 := hid hlp
          clear hlp HOw HKw HLP
          go_upto_region 21 with fail
          have HP6 := hid (HO6.out.alloc (.cells #[.int .i64 12, .int .i64 n6, .int .i64 d6, .int .i64 l6, .slice a6 0 ca6, .slice b6 0 cb6] 29))
          have HQ6 := hid (HK6.out.alloc (.cells #[.int .i64 12, .int .i64 n6, .int .i64 d6, .int .i64 l6, .slice a6 0 ca6, .slice b6 0 cb6] 29))
          clear HO6 HK6
          generalize w6.alloc (.cells #[.int .i64 12, .int .i64 n6, .int .i64 d6, .int .i64 l6, .slice a6 0 ca6, .slice b6 0 cb6] 29) = y6 at *
          generalize w6.heap.size = g6 at *
          go_wp2_with fail
          refine (lLstat q mx y6 [pt g6 (.cells #[.int .i64 12, .int .i64 n6, .int .i64 d6, .int .i64 l6, .slice a6 0 ca6, .slice b6 0 cb6] 29), pt g5 (.cells #[.int .i64 c, .int .i64 n5, .int .i64 d5, .int .i64 l5, .slice a5 0 ca5, .slice b5 0 cb5] 29), old W] ((HM.out.cons _).cons _) HLP6.out (by omega) (by omega) (by omega) (by omega) (HP6.out.re 4 [1, 0, 2, 3])).mono ?_
          rintro e w8 ⟨c8, n8, l8, a8, ca8, b8, cb8, rfl, hO8, hK8⟩
          have HO8 := hid hO8
          have HK8 := hid ((HQ6.out).trans hK8)
          clear hO8 hK8
          try dsimp only
          clear HP6 HQ6
          go_upto_region 22 with fail
          have HP8 := hid (HO8.out.alloc (.cells #[.int .i64 c8, .int .i64 n8, .int .i64 3, .int .i64 l8, .slice a8 0 ca8, .slice b8 0 cb8] 29))
          have HQ8 := hid (HK8.out.alloc (.cells #[.int .i64 c8, .int .i64 n8, .int .i64 3, .int .i64 l8, .slice a8 0 ca8, .slice b8 0 cb8] 29))
          clear HO8 HK8
          generalize w8.alloc (.cells #[.int .i64 c8, .int .i64 n8, .int .i64 3, .int .i64 l8, .slice a8 0 ca8, .slice b8 0 cb8] 29) = y8 at *
          generalize w8.heap.size = g8 at *
          have hc8 : y8.cell? ⟨g8, 2, none⟩ = some (.int .i64 3) := HP8.out.cells 2
          have hc6 : y8.cell? ⟨g6, 0, none⟩ = some (.int .i64 12) := HP8.out.p2.cells 0
          have hc5 : y8.cell? ⟨g5, 0, none⟩ = some (.int .i64 c) := HP8.out.p3.cells 0
          by_cases h8 : j ≤ 8
          · have hC := HC.out
            rw [if_pos h8] at hC
            subst hC
            have hj8 : (j : Int) ≤ 8 := by omega
            go_wp2_with fail
            refine (awake14 mx y8 _ ((((HM.out.cons _).cons _).cons _).cons _) HP8.out).mono ?_
            rintro e w9 ⟨rfl, hO9, hK9⟩
            have HO9 := hid hO9
            have HK9 := hid ((HQ8.out).trans hK9)
            clear hO9 hK9
            try dsimp only
            go_wp2_with fail
            go_ret
            exact ⟨rfl, (HO9.out.re 5 [4]).below HK9.out.os HK9.out.tape HK9.out.output⟩
          · have hC := HC.out
            rw [if_neg h8] at hC
            subst hC
            have hj8 : ¬ (j : Int) ≤ 8 := by omega
            go_wp2_with fail
            refine (awake14 mx y8 _ ((((HM.out.cons _).cons _).cons _).cons _) HP8.out).mono ?_
            rintro e w9 ⟨rfl, hO9, hK9⟩
            have HO9 := hid hO9
            have HK9 := hid ((HQ8.out).trans hK9)
            clear hO9 hK9
            try dsimp only
            go_wp2_with fail
            go_ret
            exact ⟨rfl, (HO9.out.re 5 [4]).below HK9.out.os HK9.out.tape HK9.out.output⟩
end Go.Proofs.YtfhaedkaedffcaaGreatDoor
/- What the frames of chapter 14's cards share: the listed data met, and the world's shape kept. -/
namespace Go.Proofs.YtfhaedkaedffcaaGreatDoor
open Go.ChangeShapes Go.WideShapes Go.ChangeAt Go.RowKit
variable {H : Type} {enc : TypeId × Value → H}
theorem handed_and_shaped {a : Assume} {C : Checked} {os : Os} {f : FuncId} {fn : Func} {s : ChangeSpec} {conds : List PathCond} {apart fresh handsOn again : Bool} {X : World → Array Value → Prop}
    (hX : ∀ (w w' : World) (args : Array Value), w.heap = w'.heap → X w args → X w' args)
    (own : ownKnob C.prog.godebug = none) (started : os.Started) (noInit : C.prog.inits.idxOf? f = none) (hfn : C.prog.funcs[f]? = some fn)
    (witness : ∃ (w : World) (tape : Tape) (i : Input), w.os = os ∧ (w.forCall tape i).Shaped C.prog ∧ i.vars = [] ∧ Input.okWide C.prog (w.forCall tape i) .any w.heap.size f i ∧
      ((s.pre enc C.prog fn conds apart (w.forCall tape i).memory i.args ∧ X (w.forCall tape i).memory i.args) ∧ sizedMet enc C.prog fn (OpenSpec.ofChange s) apart (w.forCall tape i).memory i.args) ∧ a.holds C.prog (lone (Frame.enter C.prog f i.args .normal) [] (w.forCall tape i)))
    (contract : ∀ (W : World) (base : Nat) (args : Array Value) (ds gs : List (DataW H)) (before : List MemPlace),
      (∀ (j : Nat) t v, fn.params[j]? = some t → args[j]? = some v → Value.okWide C.prog W .any base t v) →
      DataW.Whole enc C.prog fn.params.toList s.vars apart W args.toList ds gs before →
      conds.all (PathCond.test C.prog ⟨fn.params.toList, ds, s.plain.varTypes C.prog, gs⟩) = true →
      (DataW.weightsEach C.prog (fn.params.toList ++ s.plain.varTypes C.prog) (ds ++ gs)).all (· ≤ reachBytes) = true → X W args → W.ShapedOpen C.prog →
      a.holds C.prog (lone (Frame.enter C.prog f args .normal) [] W) →
      Calls C.prog f args W fun e W' => ∃ v, e = .returned v ∧ s.post enc C.prog fn apart fresh handsOn again W args v W') :
    ReturnsInHanded a C os f .any (fun w args => (s.pre enc C.prog fn conds apart w args ∧ X w args) ∧ sizedMet enc C.prog fn (OpenSpec.ofChange s) apart w args) (s.post enc C.prog fn apart fresh handsOn again) := by
  refine returnsInHanded_of_calls own started noInit witness ?_
  intro w tape i _ hsh _ hok hpre hholds
  obtain ⟨_, _, _, fn', hfn', _, _, _, _, hval⟩ := hok
  have e : fn' = fn := Option.some.inj (hfn'.symm.trans hfn)
  subst e
  obtain ⟨⟨⟨ds, gs, before, hw, hc⟩, hx⟩, hz⟩ := hpre
  have hw' := DataW.Whole.of_heap (w' := w.forCall tape i) (by rfl) hw
  refine (contract (w.forCall tape i) w.heap.size i.args ds gs before hval hw' hc (hz.weights hw) (hX _ _ _ (by rfl) hx) hsh hholds).mono fun e W' ⟨v, he, hp⟩ => ?_
  subst he
  exact ChangeSpec.post_blind hp
theorem mx_shaped {W : World} (h : W.ShapedOpen Tryz.prog) : ∃ m, W.cell? ⟨0, 0, none⟩ = some (.int .i64 m) :=
  cell_of_shapedOpen_int (P := Tryz.prog) (g := 0) (t := 3) (zero := #[.int .i64 0]) h (of_decide_eq_true (by kernel_rfl)) (by kernel_rfl) rfl (by kernel_rfl) (by kernel_rfl) Tryz.underlying3
end Go.Proofs.YtfhaedkaedffcaaGreatDoor
