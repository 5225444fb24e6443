/- TEXTS of mine, merged. -/
import Derived.Test.YtfhaedkaedffcaaGreatDoorM31
import Derived.Test.YtfhaedkaedffcaaGreatDoorM29
import Derived.Test.YtfhaedkaedffcaaGreatDoorM32
import Derived.Test.YtfhaedkaedffcaaGreatDoorM34
/- THE WALK of TreeMoves. -/
namespace Go.Proofs.YtfhaedkaedffcaaGreatDoor
open Go.RowKit Go.Own
theorem Mv.higher {S : Tre} {rk : Int → Nat} {k N top top' : Nat} (h : Mv S rk k N top) (ht : top ≤ top') (h2 : top' ≤ 123) : Mv S rk k N top' :=
  ⟨h.gd, h.last, h.dirs, h.all, fun n x hx e he => (h.one n x hx e he).mono ht, h2⟩
theorem Mv.later {S : Tre} {rk : Int → Nat} {k N top : Nat} (h : Mv S rk k N top) (h2 : top < 123) : Mv S rk (k + 1) N (top + 1) :=
  ⟨h.gd.mono (Nat.le_succ k), h.last, h.dirs, h.all, fun n x hx e he => (h.one n x hx e he).mono (by omega), by omega⟩
theorem sB_take (l : Str) (n : Nat) : (sB l).extract 0 n = sB (l.take n) := by
  apply ByteArray.ext
  simp [sB, ByteArray.data_extract]
theorem sB_inj {a b : Str} (h : sB a = sB b) : a = b := by
  have := congrArg (fun x : ByteArray => x.data.toList) h
  simpa [sB] using this
theorem ba_loop (bs : ByteArray) : ∀ (n i : Nat) (r : List UInt8), bs.size - i = n → ByteArray.toList.loop bs i r = r.reverse ++ bs.data.toList.drop i := by
  intro n
  have hs : bs.size = bs.data.toList.length := by show bs.data.size = _; rw [Array.length_toList]
  induction n with
  | zero =>
    intro i r h
    rw [ByteArray.toList.loop, if_neg (by omega), List.drop_eq_nil_of_le (by omega), List.append_nil]
  | succ n ih =>
    intro i r h
    have hi : i < bs.data.toList.length := by omega
    have hi2 : i < bs.data.size := by rw [Array.length_toList] at hi; exact hi
    have hg : bs.get! i = bs.data.toList[i] := by
      show bs.data[i]! = _
      rw [getElem!_pos bs.data i hi2, Array.getElem_toList]
    rw [ByteArray.toList.loop, if_pos (by omega), ih (i + 1) _ (by omega), List.reverse_cons, List.append_assoc, List.drop_eq_getElem_cons hi, hg, List.cons_append, List.nil_append]
theorem ba_toList (bs : ByteArray) : bs.toList = bs.data.toList := by
  rw [ByteArray.toList, ba_loop bs _ 0 [] rfl]
  try rfl
theorem sB_list (l : Str) : (sB l).toList = l := by
  rw [ba_toList]
  try rfl
theorem ba_inj {a b : ByteArray} (h : a.toList = b.toList) : a = b := by
  rw [ba_toList, ba_toList] at h
  exact ByteArray.ext (Array.ext' h)
def chS (n : Nat) : Str := [UInt8.ofNat n]
theorem str1 : ∀ n : Fin 128, strOf [((n.val : Nat) : Int)] = chS n.val := by decide
theorem chr_nat {n : Nat} (h : n < 128) : (UInt8.ofNat n).toNat = n := by
  rw [UInt8.toNat_ofNat']
  omega
theorem conv1 {n : Nat} (hn : n < 128) {v : Int} (hv : v = (n : Int)) {w : World} {L : List HP} {g : Nat} (h : Has w (pt g (.cells #[.int .u8 v] 5) :: L)) : (convert 22 9 (.slice (some ⟨g, 0, none⟩) 1 1)).run Tryz.prog w = .ok (.string (sB (chS n))) w := by
  subst hv
  have e := str1 ⟨n, hn⟩
  dsimp only at e
  rw [← e]
  refine strOf_conv (xs := [(n : Int)]) ⟨rfl, (show 1 ≤ maxLen by decide), some ⟨g, 0, none⟩, 1, rfl, Nat.le_refl 1, fun _ => ⟨g, 0, rfl, fun j _ => ?_⟩⟩
  rw [Nat.zero_add, h.cells j]
  simp [bc]
section
variable {S : Tre} {rk : Int → Nat} {k N top : Nat} (h : Mv S rk k N top) (q : Nat) (mx : Int) (w : World) (L : List HP) (hk : k < 100) (hM : MxL mx L)
include h hk hM
theorem mvMkdir {n : Nat} (hc1 : 97 ≤ n) (hc : top ≤ n) (hc2 : n ≤ 122) (hO : Has w (Trc q S :: L)) : Calls Tryz.prog 17 #[.pointer (some ⟨q, 0, none⟩), opY 9 0 0 0 0 (⟨#[47]⟩ ++ sB (chS n)) noB nilV] w fun e w' => ∃ S' rk' a ca b cb, e = .returned (bareY 0 0 0 0 a ca b cb) ∧ Mv S' rk' (k + 1) (N + 1) (n + 1) ∧ Has w' (Trc q S' :: L) ∧ Keep w w' := by
  have hcn := chr_nat (n := n) (by omega)
  obtain ⟨S', rk', he, hm⟩ := h.mkdir (c := UInt8.ofNat n) (by omega) (by omega) (by omega)
  rw [hcn] at hm
  refine (stepDo0 q mx w L ⟨rk, h.gd⟩ (by omega) hM ⟨9, 0, 0, 0, 0, 47 :: chS n, []⟩ (sB_cons _).symm rfl (show (0 : Int) ≤ 9223372036854775807 by decide) (by simp [chS]) (by simp) (ansE 0) S' (by rw [← he]; simp [Tre.doM, chS]) hO).mono ?_
  rintro e w' ⟨a, ca, b, cb, rfl, -, h1, h2⟩
  exact ⟨S', rk', a, ca, b, cb, rfl, hm, h1.drop.drop, h2⟩
theorem mvRename {p r : Str} {P Q : ByteArray} (hP : sB p = P) (hQ : sB r = Q) (hp : p.length ≤ 1000) (hq : r.length ≤ 1000) {e0 : Int} {S' : Tre} (he : S.rename p r = (ansE e0, S')) (hO : Has w (Trc q S :: L)) : Calls Tryz.prog 17 #[.pointer (some ⟨q, 0, none⟩), opY 15 0 0 0 0 P Q nilV] w fun e w' => ∃ a ca b cb, e = .returned (bareY e0 0 0 0 a ca b cb) ∧ Has w' (Trc q S' :: L) ∧ Keep w w' := by
  refine (stepDo0 q mx w L ⟨rk, h.gd⟩ (by omega) hM ⟨15, 0, 0, 0, 0, p, r⟩ hP hQ (show (0 : Int) ≤ 9223372036854775807 by decide) (by dsimp only; omega) (by dsimp only; omega) (ansE e0) S' (by rw [← he]; simp [Tre.doM]) hO).mono ?_
  rintro e w' ⟨a, ca, b, cb, rfl, -, h1, h2⟩
  exact ⟨a, ca, b, cb, rfl, h1.drop.drop, h2⟩
omit hk in
theorem mvNumber {p : Str} {P : ByteArray} (hP : sB p = P) (hp : p.length ≤ 1000) {n : Int} (hn : (S.find p false).1.node = n) (hO : Has w (Trc q S :: L)) : Calls Tryz.prog 22 #[.pointer (some ⟨q, 0, none⟩), .string P] w fun e w' => e = .returned (.int .i64 n) ∧ Has w' (Trc q S :: L) ∧ Keep w w' := by
  subst hn hP
  exact tNumber q S p mx w L h.gd.wk hM (by omega) hO
end
abbrev zNod : Array Value := #[.string noB, .int .i64 0, .int .i64 0, .int .i64 0, .slice none 0 0]
theorem _root_.Go.Own.Has.five {w : World} {L : List HP} {b : Nat} {c0 c1 c2 c3 c4 : Value} (h : Has w (pt b (.cells #[c0, c1, c2, c3, c4] 44) :: L)) (v0 v1 v2 v3 v4 : Value) : Has (((((w.setCell ⟨b, 0, none⟩ v0).setCell ⟨b, 1, none⟩ v1).setCell ⟨b, 2, none⟩ v2).setCell ⟨b, 3, none⟩ v3).setCell ⟨b, 4, none⟩ v4) (pt b (.cells #[v0, v1, v2, v3, v4] 44) :: L) :=
  ((((h.set 0 v0).set 1 v1).set 2 v2).set 3 v3).set 4 v4
theorem _root_.Go.Own.Keep.five {w0 w : World} (h : Keep w0 w) (b : Nat) (v0 v1 v2 v3 v4 : Value) : Keep w0 (((((w.setCell ⟨b, 0, none⟩ v0).setCell ⟨b, 1, none⟩ v1).setCell ⟨b, 2, none⟩ v2).setCell ⟨b, 3, none⟩ v3).setCell ⟨b, 4, none⟩ v4) :=
  ((((h.set _ _).set _ _).set _ _).set _ _).set _ _
set_option maxRecDepth 100000 in
set_option maxHeartbeats 16000000 in
theorem movesWalk (mx : Int) (v : Value) (xs : List Int) (W : World) (hmx : W.cell? ⟨0, 0, none⟩ = some (.int .i64 mx)) (hr : Rd W v 1 xs.length (ic xs)) :
    Calls Tryz.prog 7 #[v] W fun e w' => e = .returned (.bool true) ∧ Below W.heap.size W w' := by
  obtain ⟨vp, vc, rfl, hvc, hvl, hvr⟩ := hr.form
  have HO := hid (Has.start W)
  have HM := hid (mxStart hmx)
  have HR := hid hvr
  clear hr hmx hvr
  by_cases hl : xs.length ≤ 12
  · have hli : ¬ (12 : Int) < (xs.length : Int) := by omega
    have af0 := ansF0
    go_enter Tryz.func7, Tryz.ntmps7
    go_wp2_with fail
    refine (tNew W [old W] HO.out).mono ?_
    rintro e w1 ⟨q, rfl, hO1, hK1⟩
    have HO1 := hid hO1
    have HK1 := hid ((Keep.refl W).trans hK1)
    clear hO1 hK1
    try dsimp only
    clear HO
    obtain ⟨rk0, hm0⟩ := mv0
    have HM0 := hid hm0
    clear hm0
    go_wp2_with fail
    go_loopw [4] (fun i w => ∃ (j : Nat) (S : Tre) (rk : Int → Nat) (w0 : World), w0 = w ∧ j ≤ 5 ∧ i = .int .i64 j ∧ Hid (Mv S rk j (1 + j) (97 + j)) ∧ Hid (Has w0 (Trc q S :: [old W])) ∧ Hid (Keep W w0)) (fun i _ => 5 - (intOf i).toNat)
    case atStart => exact ⟨0, tre0, rk0, _, rfl, by omega, rfl, HM0, HO1, HK1⟩
    case round =>
      clear HO1 HK1 HM0
      obtain ⟨j, S, rk, w0, rfl, hj, rfl, HS, HOw, HKw⟩ := hrel
      by_cases hlt : j < 5
      · have hji : (j : Int) < 5 := by omega
        have hj0 : (0 : Int) ≤ (j : Int) := by omega
        have wa : IntKind.i64.wrap (97 + (j : Int)) = 97 + (j : Int) := wrapk_in _ (by omega)
        have ua : IntKind.u8.wrap (97 + (j : Int)) = 97 + (j : Int) := wrap8 _ (by omega)
        have hcv := conv1 (n := 97 + j) (by omega) (v := 97 + (j : Int)) (by push_cast; rfl) (HOw.out.alloc (.cells #[.int .u8 (97 + (j : Int))] 5))
        have hsz : ¬ 9223372036854775807 < 1 + (sB (chS (97 + j))).size := by rw [sB_size]; show ¬ 9223372036854775807 < 1 + 1; omega
        go_wp2_with fail
        refine (mvMkdir HS.out q mx _ [old W] (by omega) HM.out (n := 97 + j) (by omega) (by omega) (by omega) (HOw.out.alloc (.cells #[.int .u8 (97 + (j : Int))] 5)).drop).mono ?_
        rintro e w5 ⟨S', rk', a5, ca5, b5, cb5, rfl, hmv, hO5, hK5⟩
        have HO5 := hid hO5
        have HK5 := hid (((HKw.out.alloc (.cells #[.int .u8 (97 + (j : Int))] 5))).trans hK5)
        clear hO5 hK5
        try dsimp only
        have HMV := hid (show Mv S' rk' (j + 1) (1 + (j + 1)) (97 + (j + 1)) from by
          rw [show 1 + (j + 1) = 1 + j + 1 by omega, show 97 + (j + 1) = 97 + j + 1 by omega]
          exact hmv)
        clear hmv HOw HKw hcv hsz HS
        go_wp2_with fail
        go_roundw
        case rel => exact ⟨j + 1, S', rk', _, rfl, by omega, by go_num, HMV, HO5, HK5⟩
        case measure => simp [intOf]; omega
      · obtain rfl : j = 5 := by omega
        rw [show ((5 : Nat) : Int) = 5 from rfl]
        have HS5 := hid (show Mv S rk (5 + 0) 6 (109 + 0) from HS.out.higher (by omega) (by omega))
        clear HS
        go_wp2_with fail
        go_loopw [5] (fun i w => ∃ (j : Nat) (S : Tre) (rk : Int → Nat) (w0 : World), w0 = w ∧ j ≤ xs.length ∧ i = .int .i64 j ∧ Hid (Mv S rk (5 + j) 6 (109 + j)) ∧ Hid (Has w0 (Trc q S :: [old W])) ∧ Hid (Keep W w0)) (fun i _ => xs.length - (intOf i).toNat)
        case atStart => exact ⟨0, S, rk, _, rfl, by omega, rfl, HS5, HOw, HKw⟩
        case round =>
          clear HOw HKw HS5
          obtain ⟨i, S, rk, w0, rfl, hi, rfl, HS, HOw, HKw⟩ := hrel
          by_cases hlt : i < xs.length
          · have hij : (i : Int) < (xs.length : Int) := by omega
            have hi0 : (0 : Int) ≤ (i : Int) := by omega
            have hi12 : (i : Int) < 12 := by omega
            obtain ⟨gm, om, rfl, hcn⟩ := HR.out (by omega)
            obtain ⟨x, hx⟩ : ∃ x, xs[i] = x := ⟨_, rfl⟩
            have HC0 := hid (show ∀ (w' : World), Has w' [old W] → w'.cell? ⟨gm, om + i, none⟩ = some (.int .i64 x) from fun w' h => by rw [← hx]; exact oldCell ((hcn i (by omega)).trans (ic_at xs i hlt)) h)
            clear hcn hx
            have HGX := hid (show Gdx S (5 + i) from ⟨rk, HS.out.gd⟩)
            go_wp2_with fail
            refine (stepNodes' q w0 _ HGX.out (by omega) HOw.out).mono ?_
            rintro e w6 ⟨pn, cn, os, rfl, hpo, hso, hO6, hK6⟩
            have HO6 := hid hO6
            have HK6 := hid ((HKw.out).trans hK6)
            clear hO6 hK6
            try dsimp only
            have HPO := hid hpo
            have hol := HS.out.sns_len hpo
            clear hpo hso HOw HKw
            have hoz : ((os.length : Int) == 0) = false := by rw [hol]; rfl
            have HOL := hid hol
            have ho1 : (1 : Int) ≤ (os.length : Int) := by omega
            have ho2 : (os.length : Int) ≤ 100 := by omega
            clear hol
            obtain ⟨ia, ha0, ha1⟩ := low_nat x (os.length : Int) (by omega)
            obtain ⟨ib, hb0, hb1⟩ := low_nat (IntKind.i64.wrap (x.tdiv 9)) (os.length : Int) (by omega)
            have HA := hid ha0
            have HB := hid hb0
            clear ha0 hb0
            have hia0 : (0 : Int) ≤ (ia : Int) := by omega
            have hib0 : (0 : Int) ≤ (ib : Int) := by omega
            have hial : ia < os.length := by omega
            have hibl : ib < os.length := by omega
            obtain ⟨g, o, c', da, mda, hv, hda, a0, a1, a2, a3, a4⟩ := (rdNs_of HO6.out).five ia hial
            simp only [Value.slice.injEq] at hv
            obtain ⟨rfl, -, rfl⟩ := hv
            obtain ⟨g2, o2, c2, db, mdb, hv, hdb, b0, b1, b2, b3, b4⟩ := (rdNs_of HO6.out).five ib hibl
            simp only [Value.slice.injEq, Option.some.injEq, Addr.mk.injEq] at hv
            obtain ⟨⟨rfl, rfl, -⟩, -, rfl⟩ := hv
            clear a0 a1 a2 a3 a4 b0 b1 b2 b3 b4
            obtain ⟨sa, hsa⟩ : ∃ sa, os[ia] = sa := ⟨_, rfl⟩
            obtain ⟨sb, hsb⟩ : ∃ sb, os[ib] = sb := ⟨_, rfl⟩
            have HSA := hid (hsa ▸ HS.out.sn HPO.out (List.getElem_mem hial))
            have HSB := hid (hsb ▸ HS.out.sn HPO.out (List.getElem_mem hibl))
            rw [hsa] at hda
            rw [hsb] at hdb
            have HCL := hid (show ∀ w', Has w' (Sns (.slice (some ⟨g, o, none⟩) os.length cn) os :: Trc q S :: [old W]) → w'.cell? ⟨gm, om + i, none⟩ = some (.int .i64 x) ∧ w'.cell? ⟨g, o + ia * 5, none⟩ = some (sV sa.path) ∧ w'.cell? ⟨g, o + ia * 5 + 1, none⟩ = some (.int .i64 sa.num) ∧ w'.cell? ⟨g, o + ia * 5 + 2, none⟩ = some (.int .i64 sa.kind) ∧ w'.cell? ⟨g, o + ia * 5 + 3, none⟩ = some (.int .i64 sa.links) ∧ w'.cell? ⟨g, o + ia * 5 + 4, none⟩ = some (.slice da sa.data.length mda) ∧ w'.cell? ⟨g, o + ib * 5, none⟩ = some (sV sb.path) ∧ w'.cell? ⟨g, o + ib * 5 + 1, none⟩ = some (.int .i64 sb.num) ∧ w'.cell? ⟨g, o + ib * 5 + 2, none⟩ = some (.int .i64 sb.kind) ∧ w'.cell? ⟨g, o + ib * 5 + 3, none⟩ = some (.int .i64 sb.links) ∧ w'.cell? ⟨g, o + ib * 5 + 4, none⟩ = some (.slice db sb.data.length mdb) from fun w' h => by
              obtain ⟨g', o', c', p', m', hv, hd, a0, a1, a2, a3, a4⟩ := (rdNs_of h).five ia hial
              simp only [Value.slice.injEq, Option.some.injEq, Addr.mk.injEq] at hv
              obtain ⟨⟨rfl, rfl, -⟩, -, rfl⟩ := hv
              obtain ⟨g', o', c', p2, m2, hv, hd2, b0, b1, b2, b3, b4⟩ := (rdNs_of h).five ib hibl
              simp only [Value.slice.injEq, Option.some.injEq, Addr.mk.injEq] at hv
              obtain ⟨⟨rfl, rfl, -⟩, -, rfl⟩ := hv
              rw [hsa] at hd a0 a1 a2 a3 a4
              rw [hsb] at hd2 b0 b1 b2 b3 b4
              rw [hda] at hd
              rw [hdb] at hd2
              simp only [Value.slice.injEq, true_and] at hd hd2
              obtain ⟨rfl, rfl⟩ := hd
              obtain ⟨rfl, rfl⟩ := hd2
              exact ⟨HC0.out _ h.drop.drop, a0, a1, a2, a3, a4, b0, b1, b2, b3, b4⟩)
            clear hda hdb hsa hsb
            go_upto_region 17 with fail
            go_cut [7, 8] (fun p7 p8 wx => ∃ (g7 g8 : Nat) (w2 : World), w2 = wx ∧ p7 = .pointer (some ⟨g7, 0, none⟩) ∧ p8 = .pointer (some ⟨g8, 0, none⟩) ∧ Hid (Has w2 (pt g7 (.cells #[sV sa.path, .int .i64 sa.num, .int .i64 sa.kind, .int .i64 sa.links, .slice da sa.data.length mda] 44) :: pt g8 (.cells #[sV sb.path, .int .i64 sb.num, .int .i64 sb.kind, .int .i64 sb.links, .slice db sb.data.length mdb] 44) :: Sns (.slice (some ⟨g, o, none⟩) os.length cn) os :: Trc q S :: [old W])) ∧ Hid (Keep W w2))
            case first =>
              have HOd := hid HO6.out.drew
              have HKd := hid HK6.out.drew
              clear HO6 HK6
              refine region_text2 (qc := lowC) (fun w' => w'.cell? ⟨gm, om + i, none⟩ = some (.int .i64 x) ∧ w'.cell? ⟨g, o + ia * 5, none⟩ = some (sV sa.path) ∧ w'.cell? ⟨g, o + ia * 5 + 1, none⟩ = some (.int .i64 sa.num) ∧ w'.cell? ⟨g, o + ia * 5 + 2, none⟩ = some (.int .i64 sa.kind) ∧ w'.cell? ⟨g, o + ia * 5 + 3, none⟩ = some (.int .i64 sa.links) ∧ w'.cell? ⟨g, o + ia * 5 + 4, none⟩ = some (.slice da sa.data.length mda) ∧ w'.cell? ⟨g, o + ib * 5, none⟩ = some (sV sb.path) ∧ w'.cell? ⟨g, o + ib * 5 + 1, none⟩ = some (.int .i64 sb.num) ∧ w'.cell? ⟨g, o + ib * 5 + 2, none⟩ = some (.int .i64 sb.kind) ∧ w'.cell? ⟨g, o + ib * 5 + 3, none⟩ = some (.int .i64 sb.links) ∧ w'.cell? ⟨g, o + ib * 5 + 4, none⟩ = some (.slice db sb.data.length mdb)) 21 22 [_, _, _, _, _, _, _, _, _, _, _, _, _, _, _, _, _, _, _, _, _] [] _ _ _ (by kernel_rfl) (by kernel_rfl) (by rfl) rfl rfl rfl (HCL.out _ HOd.out) ?_
              simp only [List.cons_append, List.nil_append]
              generalize w6.drew = wd at *
              repeat (first
                | (refine wpL_read (by rfl) (by rfl) ?_ ?_ ?_; rotate_left; (rintro w ⟨z0, z1, z2, z3, z4, z5, z6, z7, z8, z9, z10⟩; go_simp; with_reducible rfl); simp only [Act.put, List.setIfInBounds_toArray, List.set_cons_zero, List.set_cons_succ]) | (refine wpL_skip (by rfl) ?_; simp only [Act.put, List.setIfInBounds_toArray, List.set_cons_zero, List.set_cons_succ]))
              refine wpL_call (by rfl) (by rfl) 20 #[.int .i64 x, .int .i64 (os.length : Int)] (.int .i64 (ia : Int)) (congrArg (Value.int .i64) HA.out) (by rintro w ⟨z0, z1, z2, z3, z4, z5, z6, z7, z8, z9, z10⟩; go_simp) (fun w' _ => lowN x (os.length : Int) ia w' (by omega) (by omega) HA.out) ?_
              try simp only [Act.put, List.setIfInBounds_toArray, List.set_cons_zero, List.set_cons_succ]
              repeat (first
                | (refine wpL_read (by rfl) (by rfl) ?_ ?_ ?_; rotate_left; (rintro w ⟨z0, z1, z2, z3, z4, z5, z6, z7, z8, z9, z10⟩; go_simp; with_reducible rfl); simp only [Act.put, List.setIfInBounds_toArray, List.set_cons_zero, List.set_cons_succ]) | (refine wpL_skip (by rfl) ?_; simp only [Act.put, List.setIfInBounds_toArray, List.set_cons_zero, List.set_cons_succ]))
              refine wpL_call (by rfl) (by rfl) 20 #[.int .i64 (IntKind.i64.wrap (x.tdiv 9)), .int .i64 (os.length : Int)] (.int .i64 (ib : Int)) (congrArg (Value.int .i64) HB.out) (by rintro w ⟨z0, z1, z2, z3, z4, z5, z6, z7, z8, z9, z10⟩; go_simp) (fun w' _ => lowN (IntKind.i64.wrap (x.tdiv 9)) (os.length : Int) ib w' (by omega) (by omega) HB.out) ?_
              try simp only [Act.put, List.setIfInBounds_toArray, List.set_cons_zero, List.set_cons_succ]
              repeat (first
                | (refine wpL_read (by rfl) (by rfl) ?_ ?_ ?_; rotate_left; (rintro w ⟨z0, z1, z2, z3, z4, z5, z6, z7, z8, z9, z10⟩; go_simp; with_reducible rfl); simp only [Act.put, List.setIfInBounds_toArray, List.set_cons_zero, List.set_cons_succ]) | (refine wpL_skip (by rfl) ?_; simp only [Act.put, List.setIfInBounds_toArray, List.set_cons_zero, List.set_cons_succ]))
              refine wpL_nil ⟨?_, ?_⟩
              · refine wpL_act (by rfl) (by rfl) (fun K hK => ?_)
                go_simp
                have HA1 := hid (HOd.out.alloc (.cells #[.string noB, .int .i64 0, .int .i64 0, .int .i64 0, .slice none 0 0] 44))
                have HB1 := hid (HKd.out.alloc (.cells #[.string noB, .int .i64 0, .int .i64 0, .int .i64 0, .slice none 0 0] 44))
                refine hK.out _ _ (HCL.out _ (by have h := HA1.out; exact h.drop)) ?_
                clear hK K
                try simp only [Act.put, List.setIfInBounds_toArray, List.set_cons_zero, List.set_cons_succ]
                generalize wd.heap.size = h7 at *
                generalize wd.alloc (.cells #[.string noB, .int .i64 0, .int .i64 0, .int .i64 0, .slice none 0 0] 44) = y1 at *
                repeat (first
                  | (refine wpL_read (by rfl) (by rfl) ?_ ?_ ?_; rotate_left; (rintro w ⟨z0, z1, z2, z3, z4, z5, z6, z7, z8, z9, z10⟩; go_simp; with_reducible rfl); simp only [Act.put, List.setIfInBounds_toArray, List.set_cons_zero, List.set_cons_succ]) | (refine wpL_skip (by rfl) ?_; simp only [Act.put, List.setIfInBounds_toArray, List.set_cons_zero, List.set_cons_succ]))
                refine wpL_act (by rfl) (by rfl) (fun K hK => ?_)
                go_simp
                have HA2 := hid (HA1.out.alloc (.cells #[.string noB, .int .i64 0, .int .i64 0, .int .i64 0, .slice none 0 0] 44))
                have HB2 := hid (HB1.out.alloc (.cells #[.string noB, .int .i64 0, .int .i64 0, .int .i64 0, .slice none 0 0] 44))
                refine hK.out _ _ (HCL.out _ (by have h := HA2.out; exact h.drop.drop)) ?_
                clear hK K
                try simp only [Act.put, List.setIfInBounds_toArray, List.set_cons_zero, List.set_cons_succ]
                generalize y1.heap.size = h8 at *
                generalize y1.alloc (.cells #[.string noB, .int .i64 0, .int .i64 0, .int .i64 0, .slice none 0 0] 44) = y2 at *
                repeat (first
                  | (refine wpL_read (by rfl) (by rfl) ?_ ?_ ?_; rotate_left; (rintro w ⟨z0, z1, z2, z3, z4, z5, z6, z7, z8, z9, z10⟩; go_simp; with_reducible rfl); simp only [Act.put, List.setIfInBounds_toArray, List.set_cons_zero, List.set_cons_succ]) | (refine wpL_skip (by rfl) ?_; simp only [Act.put, List.setIfInBounds_toArray, List.set_cons_zero, List.set_cons_succ]))
                have HZ := hid (show Has y2 (pt h7 (.cells #[.string noB, .int .i64 0, .int .i64 0, .int .i64 0, .slice none 0 0] 44) :: pt h8 (.cells #[.string noB, .int .i64 0, .int .i64 0, .int .i64 0, .slice none 0 0] 44) :: Sns (.slice (some ⟨g, o, none⟩) os.length cn) os :: Trc q S :: [old W]) from HA2.out.re 2 [1, 0])
                have hz0 : y2.cell? ⟨h7, 0, none⟩ = some (.string noB) := HZ.out.cells 0
                have hz1 : y2.cell? ⟨h7, 1, none⟩ = some (.int .i64 0) := HZ.out.cells 1
                have hz2 : y2.cell? ⟨h7, 2, none⟩ = some (.int .i64 0) := HZ.out.cells 2
                have hz3 : y2.cell? ⟨h7, 3, none⟩ = some (.int .i64 0) := HZ.out.cells 3
                have hz4 : y2.cell? ⟨h7, 4, none⟩ = some (.slice none 0 0) := HZ.out.cells 4
                have hy0 := HZ.out.thaw 0
                have hy1 := HZ.out.thaw 1
                have hy2 := HZ.out.thaw 2
                have hy3 := HZ.out.thaw 3
                have hy4 := HZ.out.thaw 4
                refine wpL_act (by rfl) (by rfl) (fun K hK => ?_)
                go_simp
                have HA3 := hid (HZ.out.five (sV sa.path) (.int .i64 sa.num) (.int .i64 sa.kind) (.int .i64 sa.links) (.slice da sa.data.length mda))
                have HB3 := hid (HB2.out.five h7 (sV sa.path) (.int .i64 sa.num) (.int .i64 sa.kind) (.int .i64 sa.links) (.slice da sa.data.length mda))
                refine hK.out _ _ (HCL.out _ HA3.out.drop.drop) ?_
                clear hK K
                try simp only [Act.put, List.setIfInBounds_toArray, List.set_cons_zero, List.set_cons_succ]
                generalize (((((y2.setCell ⟨h7, 0, none⟩ (sV sa.path)).setCell ⟨h7, 1, none⟩ (.int .i64 sa.num)).setCell ⟨h7, 2, none⟩ (.int .i64 sa.kind)).setCell ⟨h7, 3, none⟩ (.int .i64 sa.links)).setCell ⟨h7, 4, none⟩ (.slice da sa.data.length mda)) = y3 at *
                clear hz0 hz1 hz2 hz3 hz4 hy0 hy1 hy2 hy3 hy4
                repeat (first
                  | (refine wpL_read (by rfl) (by rfl) ?_ ?_ ?_; rotate_left; (rintro w ⟨z0, z1, z2, z3, z4, z5, z6, z7, z8, z9, z10⟩; go_simp; with_reducible rfl); simp only [Act.put, List.setIfInBounds_toArray, List.set_cons_zero, List.set_cons_succ]) | (refine wpL_skip (by rfl) ?_; simp only [Act.put, List.setIfInBounds_toArray, List.set_cons_zero, List.set_cons_succ]))
                have HZ2 := hid (HA3.out.re 2 [1, 0])
                have hz0 : y3.cell? ⟨h8, 0, none⟩ = some (.string noB) := HZ2.out.cells 0
                have hz1 : y3.cell? ⟨h8, 1, none⟩ = some (.int .i64 0) := HZ2.out.cells 1
                have hz2 : y3.cell? ⟨h8, 2, none⟩ = some (.int .i64 0) := HZ2.out.cells 2
                have hz3 : y3.cell? ⟨h8, 3, none⟩ = some (.int .i64 0) := HZ2.out.cells 3
                have hz4 : y3.cell? ⟨h8, 4, none⟩ = some (.slice none 0 0) := HZ2.out.cells 4
                have hy0 := HZ2.out.thaw 0
                have hy1 := HZ2.out.thaw 1
                have hy2 := HZ2.out.thaw 2
                have hy3 := HZ2.out.thaw 3
                have hy4 := HZ2.out.thaw 4
                refine wpL_act (by rfl) (by rfl) (fun K hK => ?_)
                go_simp
                have HA4 := hid (HZ2.out.five (sV sb.path) (.int .i64 sb.num) (.int .i64 sb.kind) (.int .i64 sb.links) (.slice db sb.data.length mdb))
                have HB4 := hid (HB3.out.five h8 (sV sb.path) (.int .i64 sb.num) (.int .i64 sb.kind) (.int .i64 sb.links) (.slice db sb.data.length mdb))
                refine hK.out _ _ (HCL.out _ HA4.out.drop.drop) ?_
                clear hK K
                try simp only [Act.put, List.setIfInBounds_toArray, List.set_cons_zero, List.set_cons_succ]
                generalize (((((y3.setCell ⟨h8, 0, none⟩ (sV sb.path)).setCell ⟨h8, 1, none⟩ (.int .i64 sb.num)).setCell ⟨h8, 2, none⟩ (.int .i64 sb.kind)).setCell ⟨h8, 3, none⟩ (.int .i64 sb.links)).setCell ⟨h8, 4, none⟩ (.slice db sb.data.length mdb)) = y4 at *
                clear hz0 hz1 hz2 hz3 hz4 hy0 hy1 hy2 hy3 hy4
                repeat (first
                  | (refine wpL_read (by rfl) (by rfl) ?_ ?_ ?_; rotate_left; (rintro w ⟨z0, z1, z2, z3, z4, z5, z6, z7, z8, z9, z10⟩; go_simp; with_reducible rfl); simp only [Act.put, List.setIfInBounds_toArray, List.set_cons_zero, List.set_cons_succ]) | (refine wpL_skip (by rfl) ?_; simp only [Act.put, List.setIfInBounds_toArray, List.set_cons_zero, List.set_cons_succ]))
                refine wpL_nil ?_
                go_wp2_with fail
                go_meet
                exact ⟨h7, h8, _, rfl, rfl, rfl, hid (HA4.out.re 2 [1, 0]), HB4⟩
              · refine wpL_act (by rfl) (by rfl) (fun K hK => ?_)
                go_simp
                have HA1 := hid (HOd.out.alloc (.cells #[.string noB, .int .i64 0, .int .i64 0, .int .i64 0, .slice none 0 0] 44))
                have HB1 := hid (HKd.out.alloc (.cells #[.string noB, .int .i64 0, .int .i64 0, .int .i64 0, .slice none 0 0] 44))
                refine hK.out _ _ (HCL.out _ (by have h := HA1.out; exact h.drop)) ?_
                clear hK K
                try simp only [Act.put, List.setIfInBounds_toArray, List.set_cons_zero, List.set_cons_succ]
                generalize wd.heap.size = h8 at *
                generalize wd.alloc (.cells #[.string noB, .int .i64 0, .int .i64 0, .int .i64 0, .slice none 0 0] 44) = y1 at *
                repeat (first
                  | (refine wpL_read (by rfl) (by rfl) ?_ ?_ ?_; rotate_left; (rintro w ⟨z0, z1, z2, z3, z4, z5, z6, z7, z8, z9, z10⟩; go_simp; with_reducible rfl); simp only [Act.put, List.setIfInBounds_toArray, List.set_cons_zero, List.set_cons_succ]) | (refine wpL_skip (by rfl) ?_; simp only [Act.put, List.setIfInBounds_toArray, List.set_cons_zero, List.set_cons_succ]))
                refine wpL_act (by rfl) (by rfl) (fun K hK => ?_)
                go_simp
                have HA2 := hid (HA1.out.alloc (.cells #[.string noB, .int .i64 0, .int .i64 0, .int .i64 0, .slice none 0 0] 44))
                have HB2 := hid (HB1.out.alloc (.cells #[.string noB, .int .i64 0, .int .i64 0, .int .i64 0, .slice none 0 0] 44))
                refine hK.out _ _ (HCL.out _ (by have h := HA2.out; exact h.drop.drop)) ?_
                clear hK K
                try simp only [Act.put, List.setIfInBounds_toArray, List.set_cons_zero, List.set_cons_succ]
                generalize y1.heap.size = h7 at *
                generalize y1.alloc (.cells #[.string noB, .int .i64 0, .int .i64 0, .int .i64 0, .slice none 0 0] 44) = y2 at *
                repeat (first
                  | (refine wpL_read (by rfl) (by rfl) ?_ ?_ ?_; rotate_left; (rintro w ⟨z0, z1, z2, z3, z4, z5, z6, z7, z8, z9, z10⟩; go_simp; with_reducible rfl); simp only [Act.put, List.setIfInBounds_toArray, List.set_cons_zero, List.set_cons_succ]) | (refine wpL_skip (by rfl) ?_; simp only [Act.put, List.setIfInBounds_toArray, List.set_cons_zero, List.set_cons_succ]))
                have HZ := hid (show Has y2 (pt h7 (.cells #[.string noB, .int .i64 0, .int .i64 0, .int .i64 0, .slice none 0 0] 44) :: pt h8 (.cells #[.string noB, .int .i64 0, .int .i64 0, .int .i64 0, .slice none 0 0] 44) :: Sns (.slice (some ⟨g, o, none⟩) os.length cn) os :: Trc q S :: [old W]) from HA2.out)
                have hz0 : y2.cell? ⟨h7, 0, none⟩ = some (.string noB) := HZ.out.cells 0
                have hz1 : y2.cell? ⟨h7, 1, none⟩ = some (.int .i64 0) := HZ.out.cells 1
                have hz2 : y2.cell? ⟨h7, 2, none⟩ = some (.int .i64 0) := HZ.out.cells 2
                have hz3 : y2.cell? ⟨h7, 3, none⟩ = some (.int .i64 0) := HZ.out.cells 3
                have hz4 : y2.cell? ⟨h7, 4, none⟩ = some (.slice none 0 0) := HZ.out.cells 4
                have hy0 := HZ.out.thaw 0
                have hy1 := HZ.out.thaw 1
                have hy2 := HZ.out.thaw 2
                have hy3 := HZ.out.thaw 3
                have hy4 := HZ.out.thaw 4
                refine wpL_act (by rfl) (by rfl) (fun K hK => ?_)
                go_simp
                have HA3 := hid (HZ.out.five (sV sa.path) (.int .i64 sa.num) (.int .i64 sa.kind) (.int .i64 sa.links) (.slice da sa.data.length mda))
                have HB3 := hid (HB2.out.five h7 (sV sa.path) (.int .i64 sa.num) (.int .i64 sa.kind) (.int .i64 sa.links) (.slice da sa.data.length mda))
                refine hK.out _ _ (HCL.out _ HA3.out.drop.drop) ?_
                clear hK K
                try simp only [Act.put, List.setIfInBounds_toArray, List.set_cons_zero, List.set_cons_succ]
                generalize (((((y2.setCell ⟨h7, 0, none⟩ (sV sa.path)).setCell ⟨h7, 1, none⟩ (.int .i64 sa.num)).setCell ⟨h7, 2, none⟩ (.int .i64 sa.kind)).setCell ⟨h7, 3, none⟩ (.int .i64 sa.links)).setCell ⟨h7, 4, none⟩ (.slice da sa.data.length mda)) = y3 at *
                clear hz0 hz1 hz2 hz3 hz4 hy0 hy1 hy2 hy3 hy4
                repeat (first
                  | (refine wpL_read (by rfl) (by rfl) ?_ ?_ ?_; rotate_left; (rintro w ⟨z0, z1, z2, z3, z4, z5, z6, z7, z8, z9, z10⟩; go_simp; with_reducible rfl); simp only [Act.put, List.setIfInBounds_toArray, List.set_cons_zero, List.set_cons_succ]) | (refine wpL_skip (by rfl) ?_; simp only [Act.put, List.setIfInBounds_toArray, List.set_cons_zero, List.set_cons_succ]))
                have HZ2 := hid (HA3.out.re 2 [1, 0])
                have hz0 : y3.cell? ⟨h8, 0, none⟩ = some (.string noB) := HZ2.out.cells 0
                have hz1 : y3.cell? ⟨h8, 1, none⟩ = some (.int .i64 0) := HZ2.out.cells 1
                have hz2 : y3.cell? ⟨h8, 2, none⟩ = some (.int .i64 0) := HZ2.out.cells 2
                have hz3 : y3.cell? ⟨h8, 3, none⟩ = some (.int .i64 0) := HZ2.out.cells 3
                have hz4 : y3.cell? ⟨h8, 4, none⟩ = some (.slice none 0 0) := HZ2.out.cells 4
                have hy0 := HZ2.out.thaw 0
                have hy1 := HZ2.out.thaw 1
                have hy2 := HZ2.out.thaw 2
                have hy3 := HZ2.out.thaw 3
                have hy4 := HZ2.out.thaw 4
                refine wpL_act (by rfl) (by rfl) (fun K hK => ?_)
                go_simp
                have HA4 := hid (HZ2.out.five (sV sb.path) (.int .i64 sb.num) (.int .i64 sb.kind) (.int .i64 sb.links) (.slice db sb.data.length mdb))
                have HB4 := hid (HB3.out.five h8 (sV sb.path) (.int .i64 sb.num) (.int .i64 sb.kind) (.int .i64 sb.links) (.slice db sb.data.length mdb))
                refine hK.out _ _ (HCL.out _ HA4.out.drop.drop) ?_
                clear hK K
                try simp only [Act.put, List.setIfInBounds_toArray, List.set_cons_zero, List.set_cons_succ]
                generalize (((((y3.setCell ⟨h8, 0, none⟩ (sV sb.path)).setCell ⟨h8, 1, none⟩ (.int .i64 sb.num)).setCell ⟨h8, 2, none⟩ (.int .i64 sb.kind)).setCell ⟨h8, 3, none⟩ (.int .i64 sb.links)).setCell ⟨h8, 4, none⟩ (.slice db sb.data.length mdb)) = y4 at *
                clear hz0 hz1 hz2 hz3 hz4 hy0 hy1 hy2 hy3 hy4
                repeat (first
                  | (refine wpL_read (by rfl) (by rfl) ?_ ?_ ?_; rotate_left; (rintro w ⟨z0, z1, z2, z3, z4, z5, z6, z7, z8, z9, z10⟩; go_simp; with_reducible rfl); simp only [Act.put, List.setIfInBounds_toArray, List.set_cons_zero, List.set_cons_succ]) | (refine wpL_skip (by rfl) ?_; simp only [Act.put, List.setIfInBounds_toArray, List.set_cons_zero, List.set_cons_succ]))
                refine wpL_nil ?_
                go_wp2_with fail
                go_meet
                exact ⟨h7, h8, _, rfl, rfl, rfl, hid (HA4.out.re 2 [1, 0]), HB4⟩
            case rest =>
              obtain ⟨g7, g8, w2, rfl, rfl, rfl, HO7, HK7⟩ := hcut
              clear HO6 HK6 HCL HA HB HC0
              have HSN := hid (show Mv S rk (5 + (i + 1)) 6 (109 + (i + 1)) from HS.out.later (by omega))
              by_cases hpa : sa.path = [47]
              · have c70 : w2.cell? ⟨g7, 0, none⟩ = some (.string ⟨#[47]⟩) := by
                  have h1 := HO7.out.cells 0
                  rw [hpa] at h1
                  exact h1
                go_wp2_with fail
                exact ⟨⟨i + 1, S, rk, _, rfl, by omega, by go_num, HSN, hid HO7.out.drop.drop.drop, HK7⟩, by simp [intOf]; omega⟩
              obtain ⟨PA, hPA⟩ : ∃ PA, sB sa.path = PA := ⟨_, rfl⟩
              obtain ⟨PB, hPB⟩ : ∃ PB, sB sb.path = PB := ⟨_, rfl⟩
              have c70 : w2.cell? ⟨g7, 0, none⟩ = some (.string PA) := by rw [← hPA]; exact HO7.out.cells 0
              have hqa : (PA.toList == [47]) = false := by
                rw [← hPA, sB_list]
                simpa using hpa
              by_cases hpb : sb.path = [47]
              · have c80 : w2.cell? ⟨g8, 0, none⟩ = some (.string ⟨#[47]⟩) := by
                  have h1 := HO7.out.p1.cells 0
                  rw [hpb] at h1
                  exact h1
                go_wp2_with fail
                exact ⟨⟨i + 1, S, rk, _, rfl, by omega, by go_num, HSN, hid HO7.out.drop.drop.drop, HK7⟩, by simp [intOf]; omega⟩
              have c80 : w2.cell? ⟨g8, 0, none⟩ = some (.string PB) := by rw [← hPB]; exact HO7.out.p1.cells 0
              have hqb : (PB.toList == [47]) = false := by
                rw [← hPB, sB_list]
                simpa using hpb
              obtain ⟨xa, hxa, hpta⟩ := HSA.out
              obtain ⟨xb, hxb, hptb⟩ := HSB.out
              have hwa : S.way sa.num ≠ [] := by
                intro e
                rw [e] at hpta
                exact hpa hpta
              have hwb : S.way sb.num ≠ [] := by
                intro e
                rw [e] at hptb
                exact hpb hptb
              have hna1 : sa.num ≠ 1 := by
                intro e
                rw [e, way1] at hwa
                exact hwa rfl
              have hta : sa.path = joinP (S.way sa.num) := by rw [hpta]; unfold orM; rw [if_neg (joinP_ne hwa)]
              have htb : sb.path = joinP (S.way sb.num) := by rw [hptb]; unfold orM; rw [if_neg (joinP_ne hwb)]
              have hPAs : PA.size = sa.path.length := by rw [← hPA, sB_size]
              have hPBs : PB.size = sb.path.length := by rw [← hPB, sB_size]
              have HPAs := hid hPAs
              have HPBs := hid hPBs
              clear hPAs hPBs
              have HXA := hid hxa
              have HXB := hid hxb
              have HTA := hid hta
              have HTB := hid htb
              have HPA := hid hPA
              have HPB := hid hPB
              have HWS := hid (within_str HS.out hxa hxb)
              have hna1' := hid hna1
              have HL1 := hid (HS.out.wayOk hxa)
              have HL2 := hid (HS.out.wayOk hxb)
              clear hpa hpb hpta hptb hwa hwb hxa hxb hta htb hPA hPB hna1 HSA HSB
              go_upto_region 19 with fail
              go_cut [9] (fun v9 wx => ∃ (inn : Bool) (w3 : World), w3 = wx ∧ v9 = .bool inn ∧ Hid (inn = true ↔ S.way sa.num <+: S.way sb.num) ∧ Hid (Has w3 (pt g7 (.cells #[sV sa.path, .int .i64 sa.num, .int .i64 sa.kind, .int .i64 sa.links, .slice da sa.data.length mda] 44) :: pt g8 (.cells #[sV sb.path, .int .i64 sb.num, .int .i64 sb.kind, .int .i64 sb.links, .slice db sb.data.length mdb] 44) :: Sns (.slice (some ⟨g, o, none⟩) os.length cn) os :: Trc q S :: [old W])) ∧ Hid (Keep W w3))
              case first =>
                have HOd := hid HO7.out.drew
                have HKd := hid HK7.out.drew
                clear HO7 HK7 hqa hqb c70 c80
                have c70 : w2.drew.cell? ⟨g7, 0, none⟩ = some (.string PA) := by rw [← HPA.out]; exact HOd.out.cells 0
                have c80 : w2.drew.cell? ⟨g8, 0, none⟩ = some (.string PB) := by rw [← HPB.out]; exact HOd.out.p1.cells 0
                obtain ⟨pre1, pre2⟩ := HWS.out
                rw [← HTA.out, ← HTB.out] at pre1 pre2
                by_cases h1 : PA.size ≤ PB.size
                · have h1i : (PA.size : Int) ≤ (PB.size : Int) := by omega
                  have hd1 : decide (PA.size ≤ PB.size) = true := decide_eq_true h1
                  have hd2 : decide ((PA.size : Int) ≤ (PB.size : Int)) = true := decide_eq_true h1i
                  have hd3 : decide ((PB.size : Int) ≥ (PA.size : Int)) = true := decide_eq_true h1i
                  have hsi : (0 : Int) ≤ (PA.size : Int) := by omega
                  by_cases h2 : PB.extract 0 PA.size = PA
                  · have h2' : ((PB.extract 0 PA.size).toList == PA.toList) = true := by rw [h2]; simp
                    have hpx : S.way sa.num <+: S.way sb.num := pre1.2 ⟨by have := HPAs.out; have := HPBs.out; omega, by
                      have h3 := h2
                      rw [HPAs.out, ← HPB.out, ← HPA.out, sB_take] at h3
                      exact sB_inj h3⟩
                    by_cases h3 : PB.size = PA.size
                    · have h3' : ((PB.size : Int) == (PA.size : Int)) = true := by simp [h3]
                      have h3'' : decide (PB.size = PA.size) = true := decide_eq_true h3
                      have HIN := hid hpx
                      clear h2 hpx pre1 pre2
                      refine region_text (fun w' => w'.cell? ⟨g7, 0, none⟩ = some (.string PA) ∧ w'.cell? ⟨g8, 0, none⟩ = some (.string PB)) (by kernel_rfl) (by kernel_rfl) ⟨c70, c80⟩ ?_
                      repeat (first
                        | (refine wpL_read (by rfl) (by rfl) ?_ ?_ ?_; rotate_left; (rintro w ⟨z0, z1⟩; go_simp; with_reducible rfl); simp only [Act.put, List.setIfInBounds_toArray, List.set_cons_zero, List.set_cons_succ]) | (refine wpL_skip (by rfl) ?_; simp only [Act.put, List.setIfInBounds_toArray, List.set_cons_zero, List.set_cons_succ]))
                      refine wpL_nil ?_
                      go_wp2_with fail
                      go_meet
                      exact ⟨true, _, rfl, rfl, hid ⟨fun _ => HIN.out, fun _ => rfl⟩, HOd, HKd⟩
                    · have h3' : ((PB.size : Int) == (PA.size : Int)) = false := by simp; omega
                      have h3'' : decide (PB.size = PA.size) = false := decide_eq_false h3
                      have h4 : (PA.size : Int) < (PB.size : Int) := by omega
                      have h5 := pre2 hpx (by have := HPAs.out; have := HPBs.out; omega)
                      have hlt5 : PA.size < PB.size := by omega
                      have h6 : ((PB[PA.size].toNat : Int) == 47) = true := by
                        have e : PB[PA.size] = 47 := by
                          have h7 : PB.data.toList[PA.size]? = some 47 := by
                            rw [← HPB.out, HPAs.out]
                            exact h5
                          have h8 : PA.size < PB.data.size := hlt5
                          rw [Array.getElem?_toList, Array.getElem?_eq_getElem h8] at h7
                          exact Option.some.inj h7
                        rw [e]
                        rfl
                      have HIN := hid hpx
                      clear h2 hpx pre1 pre2
                      refine region_text (fun w' => w'.cell? ⟨g7, 0, none⟩ = some (.string PA) ∧ w'.cell? ⟨g8, 0, none⟩ = some (.string PB)) (by kernel_rfl) (by kernel_rfl) ⟨c70, c80⟩ ?_
                      repeat (first
                        | (refine wpL_read (by rfl) (by rfl) ?_ ?_ ?_; rotate_left; (rintro w ⟨z0, z1⟩; go_simp; with_reducible rfl); simp only [Act.put, List.setIfInBounds_toArray, List.set_cons_zero, List.set_cons_succ]) | (refine wpL_skip (by rfl) ?_; simp only [Act.put, List.setIfInBounds_toArray, List.set_cons_zero, List.set_cons_succ]))
                      refine wpL_nil ?_
                      go_wp2_with fail
                      go_meet
                      exact ⟨true, _, rfl, rfl, hid ⟨fun _ => HIN.out, fun _ => rfl⟩, HOd, HKd⟩
                  · have h2' : ((PB.extract 0 PA.size).toList == PA.toList) = false := by simp only [beq_eq_false_iff_ne, ne_eq]; exact fun e => h2 (ba_inj e)
                    have hpx : ¬ S.way sa.num <+: S.way sb.num := fun e => h2 (by
                      have h3 := (pre1.1 e).2
                      rw [HPAs.out, ← HPB.out, ← HPA.out, sB_take, h3])
                    have HIN := hid hpx
                    clear h2 hpx pre1 pre2
                    refine region_text (fun w' => w'.cell? ⟨g7, 0, none⟩ = some (.string PA) ∧ w'.cell? ⟨g8, 0, none⟩ = some (.string PB)) (by kernel_rfl) (by kernel_rfl) ⟨c70, c80⟩ ?_
                    repeat (first
                      | (refine wpL_read (by rfl) (by rfl) ?_ ?_ ?_; rotate_left; (rintro w ⟨z0, z1⟩; go_simp; with_reducible rfl); simp only [Act.put, List.setIfInBounds_toArray, List.set_cons_zero, List.set_cons_succ]) | (refine wpL_skip (by rfl) ?_; simp only [Act.put, List.setIfInBounds_toArray, List.set_cons_zero, List.set_cons_succ]))
                    refine wpL_nil ?_
                    go_wp2_with fail
                    go_meet
                    exact ⟨false, _, rfl, rfl, hid ⟨fun e => absurd e (by decide), fun e => absurd e HIN.out⟩, HOd, HKd⟩
                · have h1i : ¬ (PA.size : Int) ≤ (PB.size : Int) := by omega
                  have hd1 : decide (PA.size ≤ PB.size) = false := decide_eq_false h1
                  have hd2 : decide ((PA.size : Int) ≤ (PB.size : Int)) = false := decide_eq_false h1i
                  have hd3 : decide ((PB.size : Int) ≥ (PA.size : Int)) = false := decide_eq_false h1i
                  have hpx : ¬ S.way sa.num <+: S.way sb.num := fun e => h1 (by
                    have h3 := (pre1.1 e).1
                    have := HPAs.out
                    have := HPBs.out
                    omega)
                  have HIN := hid hpx
                  clear hpx pre1 pre2
                  refine region_text (fun w' => w'.cell? ⟨g7, 0, none⟩ = some (.string PA) ∧ w'.cell? ⟨g8, 0, none⟩ = some (.string PB)) (by kernel_rfl) (by kernel_rfl) ⟨c70, c80⟩ ?_
                  repeat (first
                    | (refine wpL_read (by rfl) (by rfl) ?_ ?_ ?_; rotate_left; (rintro w ⟨z0, z1⟩; go_simp; with_reducible rfl); simp only [Act.put, List.setIfInBounds_toArray, List.set_cons_zero, List.set_cons_succ]) | (refine wpL_skip (by rfl) ?_; simp only [Act.put, List.setIfInBounds_toArray, List.set_cons_zero, List.set_cons_succ]))
                  refine wpL_nil ?_
                  go_wp2_with fail
                  go_meet
                  exact ⟨false, _, rfl, rfl, hid ⟨fun e => absurd e (by decide), fun e => absurd e HIN.out⟩, HOd, HKd⟩
              case rest =>
                obtain ⟨inn, w3, rfl, rfl, HIN, HO8, HK8⟩ := hcut
                clear HO7 HK7 hqa hqb c70 c80
                have c70 : w3.cell? ⟨g7, 0, none⟩ = some (.string PA) := by rw [← HPA.out]; exact HO8.out.cells 0
                have c80 : w3.cell? ⟨g8, 0, none⟩ = some (.string PB) := by rw [← HPB.out]; exact HO8.out.p1.cells 0
                have wa : IntKind.i64.wrap (109 + (i : Int)) = 109 + (i : Int) := wrapk_in _ (by omega)
                have ua : IntKind.u8.wrap (109 + (i : Int)) = 109 + (i : Int) := wrap8 _ (by omega)
                have hpl : PB.size ≤ 10 := by
                  have h1 := HPBs.out
                  have h2 := HL2.out
                  rw [HTB.out, joinP_one fun p hp => (h2.1 p hp).2.1] at h1
                  omega
                have hal : PA.size ≤ 10 := by
                  have h1 := HPAs.out
                  have h2 := HL1.out
                  rw [HTA.out, joinP_one fun p hp => (h2.1 p hp).2.1] at h1
                  omega
                have hcn := chr_nat (n := 109 + i) (by omega)
                have HQ := hid (show sB (joinP (S.way sb.num ++ [chS (109 + i)])) = PB ++ ⟨#[47]⟩ ++ sB (chS (109 + i)) from by
                  rw [joinP_app, ← sB_app, ← HTB.out, HPB.out]
                  show PB ++ sB (47 :: (chS (109 + i) ++ [])) = _
                  rw [List.append_nil, ← sB_cons, ByteArray.append_assoc])
                have HQL := hid (show (joinP (S.way sb.num ++ [chS (109 + i)])).length = PB.size + 2 from by
                  rw [← sB_size, HQ.out, ByteArray.size_append, ByteArray.size_append, sB_size]
                  rfl)
                have HPA2 := hid (show sB (joinP (S.way sa.num)) = PA from by rw [← HTA.out]; exact HPA.out)
                have HAL := hid (show (joinP (S.way sa.num)).length = PA.size from by rw [← sB_size, HPA2.out])
                have HREN := hid (HS.out.rename (by omega) HXA.out HXB.out hna1'.out (c := UInt8.ofNat (109 + i)) (by rw [hcn]; omega) (by rw [hcn]; omega) (by rw [hcn]; omega))
                rw [hcn] at HREN
                obtain ⟨Q0, hQ0⟩ : ∃ Q0, sB (chS (109 + i)) = Q0 := ⟨_, rfl⟩
                have hQs : Q0.size = 1 := by rw [← hQ0, sB_size]; rfl
                have hcv := conv1 (n := 109 + i) (by omega) (v := 109 + (i : Int)) (by push_cast; rfl) (HO8.out.alloc (.cells #[.int .u8 (109 + (i : Int))] 5))
                rw [hQ0] at hcv HQ
                have hz1 : ¬ 9223372036854775807 < PB.size + 1 := by omega
                have hz2 : ¬ 9223372036854775807 < PB.size + 1 + Q0.size := by omega
                have HPL := hid hpl
                have HAL2 := hid hal
                clear hpl hal hcn hQ0 hQs
                go_upto_region 21 with fail
                have HO9 := hid ((HO8.out.alloc (.cells #[.int .u8 (109 + (i : Int))] 5)).re 6 [4, 1, 2, 3, 5])
                have HK9 := hid (HK8.out.alloc (.cells #[.int .u8 (109 + (i : Int))] 5))
                clear HO8 HK8 hcv c70 c80 hz1 hz2 wa ua
                generalize w3.alloc (.cells #[.int .u8 (109 + (i : Int))] 5) = w4 at *
                have c70 : w4.cell? ⟨g7, 0, none⟩ = some (.string PA) := by rw [← HPA.out]; exact HO9.out.p1.cells 0
                generalize hQ9 : PB ++ ⟨#[47]⟩ ++ Q0 = Q9 at *
                have HQ9s := hid (show Q9.size = PB.size + 2 from by rw [← HQ.out, sB_size]; exact HQL.out)
                cases inn
                · obtain ⟨S', rk', hr, hm, n1, n2, n3⟩ := HREN.out.2 (fun e => by have := HIN.out.2 e; cases this)
                  have HR := hid hr
                  have HM' := hid (show Mv S' rk' (5 + (i + 1)) 6 (109 + (i + 1)) from by
                    rw [show 5 + (i + 1) = 5 + i + 1 by omega, show 109 + (i + 1) = 109 + i + 1 by omega]
                    exact hm)
                  have HN1 := hid n1
                  have HN2 := hid n2
                  have HN3 := hid n3
                  clear hr hm n1 n2 n3
                  go_wp2_with fail
                  refine (mvRename HS.out q mx w4 _ (by omega) (((HM.out.cons _).cons _).cons _) HPA2.out HQ.out (by have := HAL.out; have := HAL2.out; omega) (by have := HQL.out; have := HPL.out; omega) HR.out (HO9.out.re 5 [0, 1, 2, 3, 4])).mono ?_
                  rintro e w10 ⟨a10, ca10, b10, cb10, rfl, hO10, hK10⟩
                  have HO10 := hid hO10
                  have HK10 := hid ((HK9.out).trans hK10)
                  clear hO10 hK10
                  try dsimp only
                  go_upto_region 22 with fail
                  have HO11 := hid (HO10.out.alloc (.cells #[.int .i64 0, .int .i64 0, .int .i64 0, .int .i64 0, .slice a10 0 ca10, .slice b10 0 cb10] 29))
                  have HK11 := hid (HK10.out.alloc (.cells #[.int .i64 0, .int .i64 0, .int .i64 0, .int .i64 0, .slice a10 0 ca10, .slice b10 0 cb10] 29))
                  clear HO10 HK10 HO9 HK9 c70
                  generalize w10.alloc (.cells #[.int .i64 0, .int .i64 0, .int .i64 0, .int .i64 0, .slice a10 0 ca10, .slice b10 0 cb10] 29) = w11 at *
                  generalize w10.heap.size = g11 at *
                  go_wp2_with fail
                  refine (stepNodes' q w11 _ (show Gdx S' (5 + (i + 1)) from ⟨rk', HM'.out.gd⟩) (by omega) (HO11.out.re 2 [1, 0])).mono ?_
                  rintro e w12 ⟨p12, c12, os12, rfl, hp12, hs12, hO12, hK12⟩
                  have HO12 := hid hO12
                  have HK12 := hid ((HK11.out).trans hK12)
                  clear hO12 hK12
                  try dsimp only
                  have hne := HM'.out.sns_len hp12
                  have hno := HS.out.sns_len HPO.out
                  have hle : ((os12.length : Int) != (os.length : Int)) = false := by rw [hne, hno]; rfl
                  have hle2 : ((os12.length : Int) == (os.length : Int)) = true := by rw [hne, hno]; rfl
                  have c0 : w12.cell? ⟨g11, 0, none⟩ = some (.int .i64 0) := HO12.out.p2.cells 0
                  have HN := hid (show Has w12 (Trc q S' :: pt g7 (.cells #[sV sa.path, .int .i64 sa.num, .int .i64 sa.kind, .int .i64 sa.links, .slice da sa.data.length mda] 44) :: pt g8 (.cells #[sV sb.path, .int .i64 sb.num, .int .i64 sb.kind, .int .i64 sb.links, .slice db sb.data.length mdb] 44) :: [old W]) from HO12.out.re 7 [1, 3, 4, 6])
                  clear hp12 hs12 hne hno
                  have HQ3 := hid (show sB (joinP (S.way sb.num ++ [chS (109 + i)] ++ [[46, 46]])) = Q9 ++ ⟨#[47, 46, 46]⟩ from by
                    rw [joinP_snoc, ← sB_app, HQ.out])
                  have hz3 : ¬ 9223372036854775807 < Q9.size + 3 := by have := HQ9s.out; have := HPL.out; omega
                  have HQ3L := hid (show (joinP (S.way sb.num ++ [chS (109 + i)] ++ [[46, 46]])).length ≤ 1000 from by
                    rw [joinP_snoc, List.length_append]
                    have := HQL.out
                    have := HPL.out
                    show _ + 3 ≤ 1000
                    omega)
                  go_upto_region 25 with fail
                  have HOd := hid HN.out.drew
                  have HKd := hid HK12.out.drew
                  refine region_text (fun w' => w'.cell? ⟨g7, 0, none⟩ = some (.string PA) ∧ w'.cell? ⟨g7, 1, none⟩ = some (.int .i64 sa.num) ∧ w'.cell? ⟨g8, 1, none⟩ = some (.int .i64 sb.num)) (by kernel_rfl) (by kernel_rfl) ⟨by rw [← HPA.out]; exact HOd.out.p1.cells 0, HOd.out.p1.cells 1, HOd.out.p2.cells 1⟩ ?_
                  clear c0 HN HK12 HO12
                  generalize w12.drew = w13 at *
                  repeat (first
                    | (refine wpL_read (by rfl) (by rfl) ?_ ?_ ?_; rotate_left; (rintro w ⟨z0, z1, z2⟩; go_simp; with_reducible rfl); simp only [Act.put, List.setIfInBounds_toArray, List.set_cons_zero, List.set_cons_succ]) | (refine wpL_skip (by rfl) ?_; simp only [Act.put, List.setIfInBounds_toArray, List.set_cons_zero, List.set_cons_succ]))
                  refine wpL_act (by rfl) (by rfl) (fun K hK => ?_)
                  go_simp
                  refine (mvNumber HM'.out q mx w13 _ ((HM.out.cons _).cons _) HPA2.out (by have := HAL.out; have := HAL2.out; omega) HN1.out HOd.out).mono ?_
                  rintro e w14 ⟨rfl, hO14, hK14⟩
                  have HO14 := hid hO14
                  have HK14 := hid ((HKd.out).trans hK14)
                  clear hO14 hK14
                  try dsimp only
                  refine hK.out _ _ (⟨by rw [← HPA.out]; exact HO14.out.p1.cells 0, HO14.out.p1.cells 1, HO14.out.p2.cells 1⟩) ?_
                  clear hK K
                  try simp only [Act.put, List.setIfInBounds_toArray, List.set_cons_zero, List.set_cons_succ]
                  repeat (first
                    | (refine wpL_read (by rfl) (by rfl) ?_ ?_ ?_; rotate_left; (rintro w ⟨z0, z1, z2⟩; go_simp; with_reducible rfl); simp only [Act.put, List.setIfInBounds_toArray, List.set_cons_zero, List.set_cons_succ]) | (refine wpL_skip (by rfl) ?_; simp only [Act.put, List.setIfInBounds_toArray, List.set_cons_zero, List.set_cons_succ]))
                  refine wpL_act (by rfl) (by rfl) (fun K hK => ?_)
                  go_simp
                  refine (mvNumber HM'.out q mx w14 _ ((HM.out.cons _).cons _) HQ.out (by have := HQL.out; have := HPL.out; omega) HN2.out HO14.out).mono ?_
                  rintro e w15 ⟨rfl, hO15, hK15⟩
                  have HO15 := hid hO15
                  have HK15 := hid ((HK14.out).trans hK15)
                  clear hO15 hK15
                  try dsimp only
                  refine hK.out _ _ (⟨by rw [← HPA.out]; exact HO15.out.p1.cells 0, HO15.out.p1.cells 1, HO15.out.p2.cells 1⟩) ?_
                  clear hK K
                  try simp only [Act.put, List.setIfInBounds_toArray, List.set_cons_zero, List.set_cons_succ]
                  repeat (first
                    | (refine wpL_read (by rfl) (by rfl) ?_ ?_ ?_; rotate_left; (rintro w ⟨z0, z1, z2⟩; go_simp; with_reducible rfl); simp only [Act.put, List.setIfInBounds_toArray, List.set_cons_zero, List.set_cons_succ]) | (refine wpL_skip (by rfl) ?_; simp only [Act.put, List.setIfInBounds_toArray, List.set_cons_zero, List.set_cons_succ]))
                  refine wpL_act (by rfl) (by rfl) (fun K hK => ?_)
                  go_simp
                  refine (mvNumber HM'.out q mx w15 _ ((HM.out.cons _).cons _) HQ3.out HQ3L.out HN3.out HO15.out).mono ?_
                  rintro e w16 ⟨rfl, hO16, hK16⟩
                  have HO16 := hid hO16
                  have HK16 := hid ((HK15.out).trans hK16)
                  clear hO16 hK16
                  try dsimp only
                  refine hK.out _ _ (⟨by rw [← HPA.out]; exact HO16.out.p1.cells 0, HO16.out.p1.cells 1, HO16.out.p2.cells 1⟩) ?_
                  clear hK K
                  try simp only [Act.put, List.setIfInBounds_toArray, List.set_cons_zero, List.set_cons_succ]
                  repeat (first
                    | (refine wpL_read (by rfl) (by rfl) ?_ ?_ ?_; rotate_left; (rintro w ⟨z0, z1, z2⟩; go_simp; with_reducible rfl); simp only [Act.put, List.setIfInBounds_toArray, List.set_cons_zero, List.set_cons_succ]) | (refine wpL_skip (by rfl) ?_; simp only [Act.put, List.setIfInBounds_toArray, List.set_cons_zero, List.set_cons_succ]))
                  refine wpL_nil ?_
                  go_wp2_with fail
                  exact ⟨⟨i + 1, S', rk', _, rfl, by omega, by go_num, HM', hid (HO16.out.re 4 [0, 3]), HK16⟩, by simp [intOf]; omega⟩
                · have HR := hid (HREN.out.1 (HIN.out.1 rfl))
                  go_wp2_with fail
                  refine (mvRename HS.out q mx w4 _ (by omega) (((HM.out.cons _).cons _).cons _) HPA2.out HQ.out (by have := HAL.out; have := HAL2.out; omega) (by have := HQL.out; have := HPL.out; omega) HR.out (HO9.out.re 5 [0, 1, 2, 3, 4])).mono ?_
                  rintro e w10 ⟨a10, ca10, b10, cb10, rfl, hO10, hK10⟩
                  have HO10 := hid hO10
                  have HK10 := hid ((HK9.out).trans hK10)
                  clear hO10 hK10
                  try dsimp only
                  go_upto_region 22 with fail
                  have HO11 := hid (HO10.out.alloc (.cells #[.int .i64 2, .int .i64 0, .int .i64 0, .int .i64 0, .slice a10 0 ca10, .slice b10 0 cb10] 29))
                  have HK11 := hid (HK10.out.alloc (.cells #[.int .i64 2, .int .i64 0, .int .i64 0, .int .i64 0, .slice a10 0 ca10, .slice b10 0 cb10] 29))
                  clear HO10 HK10 HO9 HK9 c70
                  generalize w10.alloc (.cells #[.int .i64 2, .int .i64 0, .int .i64 0, .int .i64 0, .slice a10 0 ca10, .slice b10 0 cb10] 29) = w11 at *
                  generalize w10.heap.size = g11 at *
                  go_wp2_with fail
                  refine (stepNodes' q w11 _ HGX.out (by omega) (HO11.out.re 2 [1, 0])).mono ?_
                  rintro e w12 ⟨p12, c12, os12, rfl, hp12, hs12, hO12, hK12⟩
                  have HO12 := hid hO12
                  have HK12 := hid ((HK11.out).trans hK12)
                  clear hO12 hK12
                  try dsimp only
                  have hne := HS.out.sns_len hp12
                  have hno := HS.out.sns_len HPO.out
                  have hle : ((os12.length : Int) != (os.length : Int)) = false := by rw [hne, hno]; rfl
                  have hle2 : ((os12.length : Int) == (os.length : Int)) = true := by rw [hne, hno]; rfl
                  have c0 : w12.cell? ⟨g11, 0, none⟩ = some (.int .i64 2) := HO12.out.p2.cells 0
                  have HN := hid (HO12.out.re 7 [1, 6])
                  clear hp12 hs12 hne hno
                  go_upto_region 25 with fail
                  refine region_text (fun _ => True) (by kernel_rfl) (by kernel_rfl) trivial ?_
                  repeat (first
                    | (refine wpL_read (by rfl) (by rfl) ?_ ?_ ?_; rotate_left; (intro w hS; go_simp; with_reducible rfl); simp only [Act.put, List.setIfInBounds_toArray, List.set_cons_zero, List.set_cons_succ]) | (refine wpL_skip (by rfl) ?_; simp only [Act.put, List.setIfInBounds_toArray, List.set_cons_zero, List.set_cons_succ]))
                  refine wpL_nil ?_
                  go_wp2_with fail
                  exact ⟨⟨i + 1, S, rk, _, rfl, by omega, by go_num, HSN, hid HN.out.drew, hid HK12.out.drew⟩, by simp [intOf]; omega⟩
          · obtain rfl : i = xs.length := by omega
            have hki : ¬ (xs.length : Int) < (xs.length : Int) := by omega
            go_wp2_with fail
            refine (awake14 mx w0 _ (fun w' h => HM.out w' h.drop) HOw.out).mono ?_
            rintro e w6 ⟨rfl, hO6, hK6⟩
            have HO6 := hid hO6
            have HK6 := hid ((HKw.out).trans hK6)
            clear hO6 hK6
            try dsimp only
            go_wp2_with fail
            go_ret
            exact ⟨rfl, (HO6.out.re 2 [1]).below HK6.out.os HK6.out.tape HK6.out.output⟩
  · have hli : (12 : Int) < (xs.length : Int) := by omega
    go_enter Tryz.func7, Tryz.ntmps7
    go_wp2_with fail
    refine (awake14 mx W _ HM.out HO.out).mono ?_
    rintro e w1 ⟨rfl, hO1, hK1⟩
    have HO1 := hid hO1
    have HK1 := hid ((Keep.refl W).trans hK1)
    clear hO1 hK1
    try dsimp only
    go_wp2_with fail
    go_ret
    exact ⟨rfl, HO1.out.below HK1.out.os HK1.out.tape HK1.out.output⟩
end Go.Proofs.YtfhaedkaedffcaaGreatDoor
