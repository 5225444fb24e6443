/- TEXTS of mine, merged. -/
import Derived.Test.YtfhaedkaedffcaaGreatDoorM17
import Derived.Test.YtfhaedkaedffcaaGreatDoorM13
import Derived.Test.YtfhaedkaedffcaaGreatDoorRows
import Derived.Lay
import Derived.LaidMore
import Derived.SevenTiedAt
import Derived.HandedShaped
import Derived.Shelf.Vars
import Derived.ProofKit
import Derived.OpenShut
import Derived.Stop.Joined
import Derived.Test.YtfhaedkaedffcaaGreatDoorM1
import Derived.ShutString
import Derived.ChangeOld
import Derived.Deep.Slices
/- THE WALK of TreeBytes. -/
namespace Go.Own
open Go.RowKit
/-- copy of nothing, or to nowhere. -/
theorem wpList_copy0 {P : Program} {ops : Array Oper} {rest : List Oper} {o : Oper} {a : Act} {Q : Exit → Act → World → Prop} {w : World} {e : TypeId} (hgd : o.guard = none) (d s : Operand) (dT sT : TypeId)
    (ho : o.op = .call { callee := .builtin .copy, args := #[d, s], argTypes := #[dT, sT] }) (hu : P.underlying dT = some (.slice e)) (hsz : (P.info? e).map (·.size) = some 1)
    (dp sp : Option Addr) (dn dc m c : Nat) (hd : a.eval d = .slice dp dn dc) (hs : a.eval s = .slice sp m c) (hz : min m dn = 0)
    (h : wpList P ops Q rest (a.put o.dst (goInt 0)) w) : wpList P ops Q (o :: rest) a w := by
  refine wpList_plain hgd fun K hK => ?_
  have hrun := run_copy_none (P := P) w dT sT o.type e dp sp dn dc m c hu hsz hz
  unfold Oper.wp execOp
  simp only [ho, resolve, invoke, builtin, Sem.run_bind, Sem.run_pure, Result.andThen_ok, List.map_toArray, List.map_cons, List.map_nil, hd, hs, hrun]
  exact hK _ _ h
end Go.Own
namespace Go.Proofs.YtfhaedkaedffcaaGreatDoor
open Go.RowKit Go.Own
/-- What was there, grown by zeros as far as is needed, and written over. -/
theorem cutD_grow (d : List Int) (n : Nat) : cutD d (max d.length n) = d ++ List.replicate (n - d.length) 0 := by
  unfold cutD
  split
  · rename_i h
    rw [List.take_of_length_le (by omega), show n - d.length = 0 by omega]
    simp
  · rw [show max d.length n - d.length = n - d.length by omega]
theorem grown_eq (d ds : List Int) (o z : Nat) (hds : ds ≠ []) (h1 : d.length + z ≤ max d.length (o + ds.length)) (h2 : o + ds.length ≤ d.length + z) :
    (d ++ List.replicate z 0).take o ++ ds ++ (d ++ List.replicate z 0).drop (o + ds.length) = pwD d o ds := by
  unfold pwD wrD
  rw [if_neg hds, cutD_grow, show o + ds.length - d.length = z by omega]
theorem pwD_len (d ds : List Int) (o : Nat) : (pwD d o ds).length ≤ max d.length (o + ds.length) := by
  unfold pwD
  split
  · omega
  · rw [wrD_len]; exact Nat.le_refl _
theorem bytesCopied {w : World} {L : List HP} {v : Value} {n m dn : Nat} {G F : List Int} (h : Has w (row v 5 1 n ((bc G).take m ++ (bc F).take (min F.length dn) ++ (bc G).drop (m + min F.length dn)) :: L)) (hn : n = G.length) (hf : m + F.length ≤ G.length) (hd : F.length ≤ dn) : Has w (Bytes v (G.take m ++ F ++ G.drop (m + F.length)) :: L) := by
  subst hn
  rw [Nat.min_eq_left hd] at h
  unfold Bytes
  rw [show (G.take m ++ F ++ G.drop (m + F.length)).length = G.length by rw [List.length_append, List.length_append, List.length_take, List.length_drop]; omega]
  rw [show bc (G.take m ++ F ++ G.drop (m + F.length)) = (bc G).take m ++ (bc F).take F.length ++ (bc G).drop (m + F.length) by
    unfold bc
    rw [List.take_of_length_le (l := F.map _) (by rw [List.length_map]; exact Nat.le_refl _)]
    simp only [List.map_append, List.map_take, List.map_drop]]
  exact h
theorem rowLen {w : World} {L : List HP} {p : Option Addr} {n c : Nat} {G : List Int} (h : Has w (Bytes (.slice p n c) G :: L)) : G.length = n := by
  obtain ⟨p', c', e, -⟩ := (Bytes.rd h).form
  simp only [Value.slice.injEq] at e
  exact e.2.1.symm
theorem bytes_some {w : World} {L : List HP} {p : Option Addr} {n c : Nat} {G : List Int} (h : Has w (Bytes (.slice p n c) G :: L)) (hn : 0 < G.length) : ∃ g, p = some ⟨g, 0, none⟩ := by
  obtain ⟨hxl, h1 | ⟨g', cap', cur, e1, -⟩⟩ := Has.row_cases h
  · have := h1.2; omega
  · simp only [Value.slice.injEq] at e1
    exact ⟨g', e1.1⟩
def zeroA (n : Nat) : Array Value := (List.replicate n (Value.int .u8 0)).toArray
set_option maxRecDepth 100000 in
theorem makeZ (n : Nat) (hn : n ≤ 1000000000) (w : World) : (Instr.makeSlice 22 (.int .i64 (n : Int)) (.int .i64 (n : Int))).run Tryz.prog w = .ok (.slice (some ⟨w.heap.size, 0, none⟩) n n) (w.alloc (.cells (zeroA n) 5)) := by
  obtain ⟨i, hi, hz, hsz, hby⟩ := info_parts infoU8
  have hr := run_make (P := Tryz.prog) w 22 5 i (.int .u8 0) Tryz.underlying22 hi hz .i64 .i64 (n : Int) (n : Int) (by omega) (by omega) (by rw [hby]; omega) (by omega)
  rw [hr]
  have e : ((n : Int)).toNat = n := by omega
  rw [e]
  congr 3
  apply Array.toList_inj.1
  rw [hsz, Nat.mul_one]
  exact toList_madeCells_one _ _
theorem madeZ {w : World} {L : List HP} (n : Nat) (hn : n ≤ 1000000000) (h : Has w L) : Has (w.alloc (.cells (zeroA n) 5)) (row (.slice (some ⟨w.heap.size, 0, none⟩) n n) 5 1 n (bc (List.replicate n 0)) :: L) :=
  (h.alloc (.cells (zeroA n) 5)).row_of (n := n) (cap := n) (size := 1) (xs := bc (List.replicate n 0)) (Nat.le_refl _) (le_maxLen (by omega)) (by simp [zeroA]) (by simp [zeroA, bc]) (by simp [bc])
theorem laidE {w : World} {L : List HP} {v : Value} {N m : Nat} {d E : List Int} (h : Has w (row v 5 1 N ((bc (List.replicate N 0)).take 0 ++ (bc (d.take m)).take (min m N) ++ (bc (List.replicate N 0)).drop (0 + min m N)) :: L)) (hd : m ≤ d.length) (hN : m ≤ N) (hE : E = d.take m ++ List.replicate (N - m) 0) : Has w (Bytes v E :: L) := by
  have hl : (d.take m).length = m := by rw [List.length_take]; omega
  rw [show min m N = min (d.take m).length N by rw [hl]] at h
  have h1 := bytesCopied h (by simp) (by rw [List.length_replicate, hl]; omega) (by rw [hl]; exact hN)
  rw [List.take_zero, List.nil_append, hl, List.drop_replicate, Nat.zero_add, ← hE] at h1
  exact h1
/-- Cut, and grown again. -/
theorem cut_grown (d : List Int) (c : Nat) : cutD (cutD d c) (d.length + 100) = d.take (min c d.length) ++ List.replicate (d.length + 100 - min c d.length) 0 := by
  unfold cutD
  by_cases h : c ≤ d.length
  · rw [if_pos h, if_neg (by rw [List.length_take]; omega), Nat.min_eq_left h, List.length_take, Nat.min_eq_left h]
  · rw [if_neg h, Nat.min_eq_right (by omega), List.take_length]
    by_cases h2 : d.length + 100 ≤ (d ++ List.replicate (c - d.length) (0 : Int)).length
    · rw [if_pos h2]
      rw [List.length_append, List.length_replicate] at h2
      rw [List.take_append, List.take_of_length_le (by omega), List.take_replicate, show min (d.length + 100 - d.length) (c - d.length) = d.length + 100 - d.length by omega]
    · rw [if_neg h2]
      rw [List.length_append, List.length_replicate] at h2 ⊢
      rw [List.append_assoc, List.replicate_append_replicate]
      congr 2
      omega
theorem tabZ : TabF (tabA ⟨2, 0, 33, true⟩) := tabF_A rfl (by decide) (by decide)
theorem bStat (q : Nat) (w : World) (L : List HP) {d : List Int} {wr : List Bool} (hd : d.length ≤ 5000) (mx : Int) (hM : MxL mx L) (hO : Has w (Trc q (trF d wr (tabA ⟨2, 0, 33, true⟩)) :: L)) :
    Calls Tryz.prog 17 #[.pointer (some ⟨q, 0, none⟩), opW 16 0 0 0 0 [47, 102] nilV] w fun e w' => e = .returned (.agg #[.int .i64 0, .int .i64 d.length, .int .i64 1, .int .i64 1, .slice none 0 0, .slice none 0 0]) ∧ Has w' (Trc q (trF d wr (tabA ⟨2, 0, 33, true⟩)) :: L) ∧ Keep w w' := by
  have h := fStat q mx w L (by omega : d.length ≤ 100000) (T := tabA ⟨2, 0, 33, true⟩) hM hO
  exact h
section
variable (q : Nat) (w : World) (L : List HP) {d : List Int} {wr : List Bool} (hd : d.length ≤ 5000) (hw : wr.length ≤ 162)
include hd hw
theorem bWrite (po : Option Addr) (co : Nat) (o : Nat) (ho : o ≤ 5000) (ds : List Int) (hds : ds.length ≤ 1000) (hrd : ∀ w', Has w' L → Rd w' (.slice po ds.length co) 1 ds.length (bc ds)) (hO : Has w (Trc q (trF d wr (tabA ⟨2, 0, 33, true⟩)) :: L)) :
    Calls Tryz.prog 17 #[.pointer (some ⟨q, 0, none⟩), opW 6 0 0 o 0 [] (.slice po ds.length co)] w fun e w' => ∃ p c wr', e = .returned (.agg #[.int .i64 0, .int .i64 ds.length, .int .i64 0, .int .i64 0, .slice p 0 c, .slice none 0 0]) ∧ wr'.length ≤ 162 ∧ Has w' (Trc q (trF (pwD d o ds) wr' (tabA ⟨2, 0, 33, true⟩)) :: L) ∧ Keep w w' := by
  have h := fWrite6 q w L (by omega : d.length ≤ 100000) hw tabZ (look_A (s := ⟨2, 0, 33, true⟩) rfl) (by decide +kernel) po co (by omega : ds.length ≤ 10000) (off := (o : Int)) (by omega) (by omega) hrd hO
  exact h
theorem bPread (hO : Has w (Trc q (trF d wr (tabA ⟨2, 0, 33, true⟩)) :: L)) :
    Calls Tryz.prog 17 #[.pointer (some ⟨q, 0, none⟩), opW 5 0 5000 0 0 [] nilV] w fun e w' => ∃ p c, e = .returned (.agg #[.int .i64 0, .int .i64 0, .int .i64 0, .int .i64 0, .slice p d.length c, .slice none 0 0]) ∧ Has w' (Bytes (.slice p d.length c) d :: Trc q (trF d wr (tabA ⟨2, 0, 33, true⟩)) :: L) ∧ Keep w w' := by
  have h := fRead5 q w L (by omega : d.length ≤ 100000) hw tabZ (look_A (s := ⟨2, 0, 33, true⟩) rfl) (n := 5000) (off := 0) (by omega) (by omega) (by omega) hO
  rw [show (d.drop (0 : Int).toNat).take (5000 : Int).toNat = d from by rw [show (0 : Int).toNat = 0 from rfl, List.drop_zero]; exact List.take_of_length_le hd] at h
  exact h
theorem bTrunc (c : Nat) (hc : c ≤ 5000) (hO : Has w (Trc q (trF d wr (tabA ⟨2, 0, 33, true⟩)) :: L)) :
    Calls Tryz.prog 17 #[.pointer (some ⟨q, 0, none⟩), opW 8 0 0 c 0 [] nilV] w fun e w' => ∃ p cp wr', e = .returned (.agg #[.int .i64 0, .int .i64 0, .int .i64 0, .int .i64 0, .slice p 0 cp, .slice none 0 0]) ∧ wr'.length ≤ 162 ∧ Has w' (Trc q (trF (cutD d c) wr' (tabA ⟨2, 0, 33, true⟩)) :: L) ∧ Keep w w' := by
  have h := fTrunc q w L (by omega : d.length ≤ 100000) hw tabZ (look_A (s := ⟨2, 0, 33, true⟩) rfl) (by decide +kernel) (off := (c : Int)) (by omega) (by omega) hO
  exact h
end
def lenV (v : Value) : Nat := match v with
  | .slice _ n _ => n
  | _ => 0
set_option maxRecDepth 100000 in
set_option maxHeartbeats 16000000 in
theorem bytesWalk (mx : Int) (ov : Value) (os : List Int) (lv : Value) (ls : List Int) (cut : Int) (W : World) (hmx : W.cell? ⟨0, 0, none⟩ = some (.int .i64 mx)) (ho : Rd W ov 1 os.length (ic os)) (hl : Rd W lv 1 ls.length (ic ls)) :
    Calls Tryz.prog 5 #[ov, lv, .int .i64 cut] W fun e w' => e = .returned (.bool true) ∧ Below W.heap.size W w' := by
  obtain ⟨op, oc, rfl, hoc, hol, hF⟩ := ho.form
  obtain ⟨lp, lc, rfl, hlc, hll, hS⟩ := hl.form
  have HF := hid hF
  have HS := hid hS
  have HO := hid (Has.start W)
  have HM := hid (mxStart hmx)
  clear ho hl hF hS hmx
  obtain ⟨c, hc0, hc1⟩ := low_nat cut 2500 (by decide)
  have HC := hid hc0
  clear hc0
  by_cases hb1 : 8 < os.length
  · have hbi : (8 : Int) < (os.length : Int) := by omega
    have af0 := ansF0
    have af1 := ansF1
    have af4 := ansF4
    go_enter Tryz.func5, Tryz.ntmps5
    go_wp2_with fail
    refine (awake14 mx W [old W] HM.out HO.out).mono ?_
    rintro e w1 ⟨rfl, hO1, hK1⟩
    have HO1 := hid hO1
    have HK1 := hid ((Keep.refl W).trans hK1)
    clear hO1 hK1
    try dsimp only
    go_wp2_with fail
    go_ret
    exact ⟨rfl, HO1.out.below HK1.out.os HK1.out.tape HK1.out.output⟩
  · have hbi : ¬ (8 : Int) < (os.length : Int) := by omega
    by_cases hb2 : 8 < ls.length
    · have hbj : (8 : Int) < (ls.length : Int) := by omega
      have af0 := ansF0
      have af1 := ansF1
      have af4 := ansF4
      go_enter Tryz.func5, Tryz.ntmps5
      go_wp2_with fail
      refine (awake14 mx W [old W] HM.out HO.out).mono ?_
      rintro e w1 ⟨rfl, hO1, hK1⟩
      have HO1 := hid hO1
      have HK1 := hid ((Keep.refl W).trans hK1)
      clear hO1 hK1
      try dsimp only
      go_wp2_with fail
      go_ret
      exact ⟨rfl, HO1.out.below HK1.out.os HK1.out.tape HK1.out.output⟩
    · have hbj : ¬ (8 : Int) < (ls.length : Int) := by omega
      by_cases hb3 : ls.length = 0
      · have hbk : ((ls.length : Int) == 0) = true := by simp [hb3]
        have af0 := ansF0
        have af1 := ansF1
        have af4 := ansF4
        go_enter Tryz.func5, Tryz.ntmps5
        go_wp2_with fail
        refine (awake14 mx W [old W] HM.out HO.out).mono ?_
        rintro e w1 ⟨rfl, hO1, hK1⟩
        have HO1 := hid hO1
        have HK1 := hid ((Keep.refl W).trans hK1)
        clear hO1 hK1
        try dsimp only
        go_wp2_with fail
        go_ret
        exact ⟨rfl, HO1.out.below HK1.out.os HK1.out.tape HK1.out.output⟩
      · have hbk : ((ls.length : Int) == 0) = false := by simp [hb3]
        have hbz : (ls.length : Int) ≠ 0 := by omega
        have af0 := ansF0
        have af1 := ansF1
        have af4 := ansF4
        go_enter Tryz.func5, Tryz.ntmps5
        go_wp2_with fail
        refine (tNew W [old W] HO.out).mono ?_
        rintro e w1 ⟨q, rfl, hO1, hK1⟩
        have HO1 := hid hO1
        have HK1 := hid ((Keep.refl W).trans hK1)
        clear hO1 hK1
        try dsimp only
        clear HO
        go_wp2_with fail
        refine (fOpen33 q mx w1 _ HM.out HO1.out).mono ?_
        rintro e w2 ⟨rfl, hO2, hK2⟩
        have HO2 := hid hO2
        have HK2 := hid ((HK1.out).trans hK2)
        clear hO2 hK2
        try dsimp only
        clear HO1 HK1
        go_wp2_with fail
        go_loopw [9, 8] (fun i v w => ∃ (k : Nat) (d : List Int) (wr : List Bool) (v0 : Value) (w0 : World), v0 = v ∧ w0 = w ∧ k ≤ os.length ∧ i = .int .i64 k ∧ d.length ≤ 2300 ∧ wr.length ≤ 162 ∧ Hid (Has w0 (Bytes v0 d :: Trc q (trF d wr (tabA ⟨2, 0, 33, true⟩)) :: [old W])) ∧ Hid (Keep W w0)) (fun i _ _ => os.length - (intOf i).toNat)
        case atStart => exact ⟨0, [], [], _, _, rfl, rfl, by omega, rfl, by simp, by simp, hid (HO2.out.row_nil _ _), HK2⟩
        case round =>
          clear HO2 HK2
          obtain ⟨k, d, wr, v0, w0, rfl, rfl, hk, rfl, hd, hwr, HOw, HKw⟩ := hrel
          obtain ⟨vp, vc, rfl, hvc, -⟩ := (Bytes.rd HOw.out).form
          by_cases hlt : k < os.length
          · have hki : (k : Int) < (os.length : Int) := by omega
            have hk0 : (0 : Int) ≤ (k : Int) := by omega
            have hx0 : 0 < ls.length := by omega
            obtain ⟨g0, o0, rfl, hcn⟩ := HF.out (by omega)
            obtain ⟨x, hx⟩ : ∃ x, os[k] = x := ⟨_, rfl⟩
            obtain ⟨g1, o1, rfl, hcs⟩ := HS.out (by omega)
            have hmod : k % ls.length < ls.length := Nat.mod_lt _ hx0
            obtain ⟨y, hy⟩ : ∃ y, ls[k % ls.length] = y := ⟨_, rfl⟩
            have htm : (k : Int).tmod (ls.length : Int) = ((k % ls.length : Nat) : Int) := (Int.ofNat_tmod k ls.length).symm
            have hm0 : (0 : Int) ≤ ((k % ls.length : Nat) : Int) := by omega
            have hm1 : ((k % ls.length : Nat) : Int) < (ls.length : Int) := by omega
            generalize k % ls.length = r at *
            have HC0 := hid (show ∀ (w' : World) (L' : List HP), Has w' (old W :: L') → w'.cell? ⟨g0, o0 + k, none⟩ = some (.int .i64 x) ∧ w'.cell? ⟨g1, o1 + r, none⟩ = some (.int .i64 y) from fun w' L' h => ⟨by rw [← hx]; exact oldCell ((hcn k (by omega)).trans (ic_at os k hlt)) h, by rw [← hy]; exact oldCell ((hcs r (by omega)).trans (ic_at ls r hmod)) h⟩)
            clear hcn hx hcs hy
            obtain ⟨o, ho0, ho1⟩ := low_nat x 2000 (by decide)
            obtain ⟨sz, hz0, hz1⟩ := low_nat y 300 (by decide)
            have HLO := hid ho0
            have HLZ := hid hz0
            clear ho0 hz0
            go_upto_region 10 with fail
            have HOd := hid HOw.out.drew
            have HKd := hid HKw.out.drew
            clear HOw HKw
            refine region_textC lowQ (fun w' => w'.cell? ⟨g0, o0 + k, none⟩ = some (.int .i64 x) ∧ w'.cell? ⟨g1, o1 + r, none⟩ = some (.int .i64 y)) (by kernel_rfl) (by kernel_rfl) (HC0.out _ _ HOd.out.p2) ?_
            repeat (first
              | (refine wpL_read (by rfl) (by rfl) ?_ ?_ ?_; rotate_left; (rintro w ⟨z0, z1⟩; go_simp; with_reducible rfl); simp only [Act.put, List.setIfInBounds_toArray, List.set_cons_zero, List.set_cons_succ]) | (refine wpL_skip (by rfl) ?_; simp only [Act.put, List.setIfInBounds_toArray, List.set_cons_zero, List.set_cons_succ]))
            refine wpL_call (by rfl) (by rfl) 20 #[.int .i64 x, .int .i64 2000] (.int .i64 (o : Int)) (congrArg (Value.int .i64) HLO.out) (by rintro w ⟨z0, z1⟩; go_simp) (fun w' _ => lowN x 2000 o w' (by decide) (by decide) HLO.out) ?_
            try simp only [Act.put, List.setIfInBounds_toArray, List.set_cons_zero, List.set_cons_succ]
            repeat (first
              | (refine wpL_read (by rfl) (by rfl) ?_ ?_ ?_; rotate_left; (rintro w ⟨z0, z1⟩; go_simp; with_reducible rfl); simp only [Act.put, List.setIfInBounds_toArray, List.set_cons_zero, List.set_cons_succ]) | (refine wpL_skip (by rfl) ?_; simp only [Act.put, List.setIfInBounds_toArray, List.set_cons_zero, List.set_cons_succ]))
            refine wpL_call (by rfl) (by rfl) 20 #[.int .i64 y, .int .i64 300] (.int .i64 (sz : Int)) (congrArg (Value.int .i64) HLZ.out) (by rintro w ⟨z0, z1⟩; go_simp) (fun w' _ => lowN y 300 sz w' (by decide) (by decide) HLZ.out) ?_
            try simp only [Act.put, List.setIfInBounds_toArray, List.set_cons_zero, List.set_cons_succ]
            repeat (first
              | (refine wpL_read (by rfl) (by rfl) ?_ ?_ ?_; rotate_left; (rintro w ⟨z0, z1⟩; go_simp; with_reducible rfl); simp only [Act.put, List.setIfInBounds_toArray, List.set_cons_zero, List.set_cons_succ]) | (refine wpL_skip (by rfl) ?_; simp only [Act.put, List.setIfInBounds_toArray, List.set_cons_zero, List.set_cons_succ]))
            refine wpL_act (by rfl) (by rfl) (fun K hK => ?_)
            go_simp
            refine (fillAny k sz _ _ HOd.out (by omega)).mono ?_
            rintro e w4 ⟨v4, rfl, hO4, hK4⟩
            have HO4 := hid hO4
            have HK4 := hid ((HKd.out).trans hK4)
            clear hO4 hK4
            try dsimp only
            refine hK.out _ _ (HC0.out _ _ HO4.out.p3) ?_
            clear hK K
            try simp only [Act.put, List.setIfInBounds_toArray, List.set_cons_zero, List.set_cons_succ]
            repeat (first
              | (refine wpL_read (by rfl) (by rfl) ?_ ?_ ?_; rotate_left; (rintro w ⟨z0, z1⟩; go_simp; with_reducible rfl); simp only [Act.put, List.setIfInBounds_toArray, List.set_cons_zero, List.set_cons_succ]) | (refine wpL_skip (by rfl) ?_; simp only [Act.put, List.setIfInBounds_toArray, List.set_cons_zero, List.set_cons_succ]))
            refine wpL_nil ?_
            clear HOd HKd
            obtain ⟨fp, fc, rfl, -⟩ := (Bytes.rd HO4.out).form
            have HFL := hid (show (fill (k : Int) sz).length ≤ 300 by rw [fill_len]; omega)
            generalize fill (k : Int) sz = F at *
            go_wp2_with fail
            refine (bWrite q w4 (Bytes (.slice fp F.length fc) F :: Bytes (.slice vp d.length vc) d :: [old W]) (by omega) hwr fp fc o (by omega) F (by have := HFL.out; omega) (fun w' h => Bytes.rd h) (HO4.out.re 4 [2, 0, 1, 3])).mono ?_
            rintro e w5 ⟨p5, c5, wr5, rfl, hwr5, hO5, hK5⟩
            have HO5 := hid hO5
            have HK5 := hid ((HK4.out).trans hK5)
            clear hO5 hK5
            try dsimp only
            clear HO4 HK4
            have wof : IntKind.i64.wrap ((o : Int) + (F.length : Int)) = (o : Int) + (F.length : Int) := wrapk_in _ (by have := HFL.out; omega)
            go_wp2_with fail
            go_loopw [8] (fun v w => ∃ (z : Nat) (v1 : Value) (w1 : World), v1 = v ∧ w1 = w ∧ d.length + z ≤ max d.length (o + F.length) ∧ (F.length = 0 → z = 0) ∧ Hid (Has w1 (Bytes v1 (d ++ List.replicate z 0) :: Trc q (trF (pwD d o F) wr5 (tabA ⟨2, 0, 33, true⟩)) :: Bytes (.slice fp F.length fc) F :: [old W])) ∧ Hid (Keep W w1)) (fun v _ => (o + F.length) - lenV v)
            case atStart => exact ⟨0, _, _, rfl, rfl, by omega, fun _ => rfl, hid (by rw [List.replicate_zero, List.append_nil]; exact HO5.out.re 4 [2, 0, 1, 3]), HK5⟩
            case round =>
              clear HO5 HK5
              obtain ⟨z, v1, w1, rfl, rfl, hz, hzz, HOx, HKx⟩ := hrel
              have hGl : (d ++ List.replicate z (0 : Int)).length = d.length + z := by rw [List.length_append, List.length_replicate]
              obtain ⟨gp, gc, rfl, hgc, hgm, -⟩ := (Bytes.rd HOx.out).form
              have HZ := hid (show d.length + z ≤ max d.length (o + F.length) ∧ (F.length = 0 → z = 0) from ⟨hz, hzz⟩)
              have HGL := hid hGl
              clear hz hzz hGl
              obtain ⟨G, hG⟩ : ∃ G, d ++ List.replicate z (0 : Int) = G := ⟨_, rfl⟩
              rw [hG] at HOx HGL hgc hgm ⊢
              have HG := hid hG
              clear hG
              by_cases hin : 0 < F.length ∧ G.length < o + F.length
              · have hf0 : (0 : Int) < (F.length : Int) := by omega
                have hg1 : (G.length : Int) < (o : Int) + (F.length : Int) := by omega
                have HIN := hid hin
                clear hin
                go_wp2_with (at_builtin; refine wpList_append1 rfl _ _ _ rfl Tryz.underlying22 infoU8 rfl (.int .u8 0) (HOx.out.alloc' _) rfl 1 _ rfl (by simp) rfl (le_maxLen (by have := HIN.out; have := HFL.out; omega)) (by have := HIN.out; have := HFL.out; omega) ?_)
                intro v6 w6 hO6 hK6
                have HO6 := hid (show Has w6 (Bytes v6 (d ++ List.replicate (z + 1) 0) :: Trc q (trF (pwD d o F) wr5 (tabA ⟨2, 0, 33, true⟩)) :: Bytes (.slice fp F.length fc) F :: [old W]) from by
                  rw [List.replicate_succ', ← List.append_assoc, HG.out]
                  have := hO6
                  simpa [Bytes, bc_snoc] using this)
                have HK6 := hid ((HKx.out.alloc _).trans hK6)
                obtain ⟨p6, c6, rfl, -⟩ := (Bytes.rd HO6.out).form
                clear hO6 hK6 HOx HKx
                go_wp2_with fail
                go_roundw
                case rel => exact ⟨z + 1, _, _, rfl, rfl, by have := HIN.out; have := HGL.out; omega, fun h => absurd h (by have := HIN.out; omega), HO6, HK6⟩
                case measure => simp only [lenV, List.length_append, List.length_replicate]; have := HIN.out; have := HGL.out; omega
              · have hmi : ∃ m, min o G.length = m := ⟨_, rfl⟩
                obtain ⟨m, hm⟩ := hmi
                have hmi : min (o : Int) (G.length : Int) = (m : Int) := by omega
                have hm0 : (0 : Int) ≤ (m : Int) := by omega
                have hmG : (m : Int) ≤ (G.length : Int) := by omega
                have hGc : (G.length : Int) ≤ (gc : Int) := by omega
                have HM2 := hid (show m = min o G.length from hm.symm)
                clear hm
                by_cases hF0 : F.length = 0
                · have hf0 : ¬ (0 : Int) < (F.length : Int) := by omega
                  have HE := hid (show G = d ∧ pwD d o F = d from by
                    have h1 := HZ.out.2 hF0
                    have h2 := HG.out
                    rw [h1] at h2
                    exact ⟨by rw [← h2]; simp, if_pos (List.eq_nil_of_length_eq_zero hF0)⟩)
                  have HF0 := hid hF0
                  clear hF0
                  have hcp : ∀ (dp : Option Addr) (dn dc : Nat) (w : World), (Builtin.copy_ #[22, 22] 3 #[.slice dp dn dc, .slice fp F.length fc]).run Tryz.prog w = .ok (goInt 0) w := fun dp dn dc w => run_copy_none w 22 22 3 5 dp fp dn dc F.length fc Tryz.underlying22 (by kernel_rfl) (by rw [HF0.out]; exact Nat.zero_min _)
                  by_cases hcm : gc = m
                  · subst hcm
                    go_wp2_with fail
                    go_roundw
                    case rel =>
                      have h1 := HOx.out.re 4 [0, 1, 3]
                      rw [HE.out.1, HE.out.2] at h1
                      exact ⟨k + 1, d, wr5, _, _, by rw [HE.out.1], rfl, by omega, by go_num, hd, hwr5, hid h1, HKx⟩
                    case measure => simp [intOf]; omega
                  · go_wp2_with fail
                    go_wp2_with fail
                    go_roundw
                    case rel =>
                      have h1 := HOx.out.re 4 [0, 1, 3]
                      rw [HE.out.1, HE.out.2] at h1
                      exact ⟨k + 1, d, wr5, _, _, by rw [HE.out.1], rfl, by omega, by go_num, hd, hwr5, hid h1, HKx⟩
                    case measure => simp [intOf]; omega
                · have hf0 : (0 : Int) < (F.length : Int) := by omega
                  have hg1 : ¬ (G.length : Int) < (o : Int) + (F.length : Int) := by omega
                  have HIN := hid (show o + F.length ≤ G.length ∧ m = o from by have := HM2.out; omega)
                  obtain ⟨g9, rfl⟩ := bytes_some HOx.out (by have := HIN.out; omega)
                  have hcm : ¬ gc = m := by have := HIN.out; omega
                  have HF0 := hid hF0
                  clear hin hF0
                  have HRW := hid (show Has w1 (row (.slice (some ⟨g9, 0, none⟩) G.length gc) 5 1 G.length (bc G) :: Trc q (trF (pwD d o F) wr5 (tabA ⟨2, 0, 33, true⟩)) :: Bytes (.slice fp F.length fc) F :: [old W]) from HOx.out)
                  have HRF := hid (Bytes.rd HOx.out.p2)
                  obtain ⟨w6, hrun, hO6, hK6⟩ := HRW.out.copyRun (P := Tryz.prog) (off := m) 22 22 3 Tryz.underlying22 (by kernel_rfl) (G.length - m) (gc - m) fc fp HRF.out (bc_one _) (by have := HIN.out; omega)
                  have HO6 := hid (show Has w6 (Bytes (.slice (some ⟨g9, 0, none⟩) G.length gc) (pwD d o F) :: Trc q (trF (pwD d o F) wr5 (tabA ⟨2, 0, 33, true⟩)) :: [old W]) from by
                    have h1 := bytesCopied (hO6.re 4 [0, 1, 3]) rfl (by have := HIN.out; omega) (by have := HIN.out; omega)
                    have h2 := grown_eq d F o z (by intro h; exact HF0.out (by rw [h]; rfl)) HZ.out.1 (by have h3 := HIN.out; have h4 := HGL.out; omega)
                    rw [HG.out] at h2
                    rw [HIN.out.2, h2] at h1
                    exact h1)
                  have HK6 := hid (HKx.out.trans hK6)
                  clear hO6 hK6 HOx HKx HRW HRF
                  have hpl := pwD_len d F o
                  go_wp2_with fail
                  go_roundw
                  case rel => exact ⟨k + 1, pwD d o F, wr5, _, _, rfl, rfl, by omega, by go_num, by have := HFL.out; omega, hwr5, HO6, HK6⟩
                  case measure => simp [intOf]; omega
          · obtain rfl : k = os.length := by omega
            have hki : ¬ (os.length : Int) < (os.length : Int) := by omega
            go_wp2_with fail
            refine (bPread q w0 (Bytes (.slice vp d.length vc) d :: [old W]) (by omega) hwr (HOw.out.re 3 [1, 0, 2])).mono ?_
            rintro e w5 ⟨p5, c5, rfl, hO5, hK5⟩
            have HO5 := hid hO5
            have HK5 := hid ((HKw.out).trans hK5)
            clear hO5 hK5
            try dsimp only
            clear HOw HKw
            go_upto_region 17 with fail
            have HP5 := hid (HO5.out.alloc (.cells #[.int .i64 0, .int .i64 0, .int .i64 0, .int .i64 0, .slice p5 d.length c5, .slice none 0 0] 29)).p1
            have HQ5 := hid (HK5.out.alloc (.cells #[.int .i64 0, .int .i64 0, .int .i64 0, .int .i64 0, .slice p5 d.length c5, .slice none 0 0] 29))
            clear HO5 HK5
            generalize w5.alloc (.cells #[.int .i64 0, .int .i64 0, .int .i64 0, .int .i64 0, .slice p5 d.length c5, .slice none 0 0] 29) = y5 at *
            generalize w5.heap.size = g5 at *
            go_wp2_with fail
            refine (bStat q y5 (Bytes (.slice p5 d.length c5) d :: pt g5 (.cells #[.int .i64 0, .int .i64 0, .int .i64 0, .int .i64 0, .slice p5 d.length c5, .slice none 0 0] 29) :: Bytes (.slice vp d.length vc) d :: [old W]) (by omega) mx (((HM.out.cons _).cons _).cons _) (HP5.out.re 5 [2, 0, 1, 3, 4])).mono ?_
            rintro e w6 ⟨rfl, hO6, hK6⟩
            have HO6 := hid hO6
            have HK6 := hid ((HQ5.out).trans hK6)
            clear hO6 hK6
            try dsimp only
            clear HP5 HQ5
            go_upto_region 18 with fail
            have HP6 := hid (HO6.out.alloc (.cells #[.int .i64 0, .int .i64 d.length, .int .i64 1, .int .i64 1, .slice none 0 0, .slice none 0 0] 29)).p1
            have HQ6 := hid (HK6.out.alloc (.cells #[.int .i64 0, .int .i64 d.length, .int .i64 1, .int .i64 1, .slice none 0 0, .slice none 0 0] 29))
            clear HO6 HK6
            generalize w6.alloc (.cells #[.int .i64 0, .int .i64 d.length, .int .i64 1, .int .i64 1, .slice none 0 0, .slice none 0 0] 29) = y6 at *
            generalize w6.heap.size = g6 at *
            have hc4 : y6.cell? ⟨g5, 4, none⟩ = some (.slice p5 d.length c5) := HP6.out.p3.cells 4
            go_wp2_with fail
            refine (sameT _ _ d d y6 rfl (Bytes.rd HP6.out.p2) (Bytes.rd HP6.out.p4)).mono ?_
            rintro e w' ⟨rfl, nq7, rfl⟩
            have HO7 := hid ((HP6.out).drewN nq7)
            have HK7 := hid ((HQ6.out).drewN nq7)
            try dsimp only
            clear HP6 HQ6 hc4
            generalize y6.drewN nq7 = w7 at *
            have hc1 : w7.cell? ⟨g6, 1, none⟩ = some (.int .i64 d.length) := HO7.out.p1.cells 1
            go_wp2_with fail
            refine (lowN cut 2500 c w7 (by decide) (by decide) HC.out).mono ?_
            rintro e w' ⟨rfl, rfl⟩
            try dsimp only
            clear hc1
            go_wp2_with fail
            refine (bTrunc q w7 (Bytes (.slice vp d.length vc) d :: [old W]) (by omega) hwr c (by omega) (HO7.out.re 6 [0, 4, 5])).mono ?_
            rintro e w8 ⟨p8, c8, wr8, rfl, hwr8, hO8, hK8⟩
            have HO8 := hid hO8
            have HK8 := hid ((HK7.out).trans hK8)
            clear hO8 hK8
            try dsimp only
            clear HO7 HK7
            go_upto_region 22 with fail
            have HP8 := hid (HO8.out.alloc (.cells #[.int .i64 0, .int .i64 0, .int .i64 0, .int .i64 0, .slice p8 0 c8, .slice none 0 0] 29)).p1
            have HQ8 := hid (HK8.out.alloc (.cells #[.int .i64 0, .int .i64 0, .int .i64 0, .int .i64 0, .slice p8 0 c8, .slice none 0 0] 29))
            clear HO8 HK8
            generalize w8.alloc (.cells #[.int .i64 0, .int .i64 0, .int .i64 0, .int .i64 0, .slice p8 0 c8, .slice none 0 0] 29) = y8 at *
            generalize w8.heap.size = g8 at *
            obtain ⟨N, hN⟩ : ∃ N, d.length + 100 = N := ⟨_, rfl⟩
            have hNi : (d.length : Int) + 100 = (N : Int) := by omega
            have wN : IntKind.i64.wrap (N : Int) = (N : Int) := wrapk_in _ (by omega)
            have HN := hid hN
            have hN1 : N ≤ 5000 := by omega
            clear hN
            go_wp2_with fail
            refine (bTrunc q y8 (pt g8 (.cells #[.int .i64 0, .int .i64 0, .int .i64 0, .int .i64 0, .slice p8 0 c8, .slice none 0 0] 29) :: Bytes (.slice vp d.length vc) d :: [old W]) (by rw [cutD_len]; omega) hwr8 N hN1 HP8.out).mono ?_
            rintro e w9 ⟨p9, c9, wr9, rfl, hwr9, hO9, hK9⟩
            have HO9 := hid hO9
            have HK9 := hid ((HQ8.out).trans hK9)
            clear hO9 hK9
            try dsimp only
            clear HP8 HQ8
            go_upto_region 23 with fail
            have HP9 := hid (HO9.out.alloc (.cells #[.int .i64 0, .int .i64 0, .int .i64 0, .int .i64 0, .slice p9 0 c9, .slice none 0 0] 29)).p1
            have HQ9 := hid (HK9.out.alloc (.cells #[.int .i64 0, .int .i64 0, .int .i64 0, .int .i64 0, .slice p9 0 c9, .slice none 0 0] 29))
            clear HO9 HK9
            generalize w9.alloc (.cells #[.int .i64 0, .int .i64 0, .int .i64 0, .int .i64 0, .slice p9 0 c9, .slice none 0 0] 29) = y9 at *
            generalize w9.heap.size = g9 at *
            obtain ⟨m, hm⟩ : ∃ m, min c d.length = m := ⟨_, rfl⟩
            have hE := cut_grown d c
            have hEl : (cutD (cutD d c) N).length = N := cutD_len N
            rw [HN.out, hm] at hE
            generalize cutD (cutD d c) N = E at *
            have HE := hid hE
            have HEL := hid hEl
            clear hE hEl
            go_wp2_with fail
            refine (bPread q y9 (pt g9 (.cells #[.int .i64 0, .int .i64 0, .int .i64 0, .int .i64 0, .slice p9 0 c9, .slice none 0 0] 29) :: pt g8 (.cells #[.int .i64 0, .int .i64 0, .int .i64 0, .int .i64 0, .slice p8 0 c8, .slice none 0 0] 29) :: Bytes (.slice vp d.length vc) d :: [old W]) (by rw [HEL.out]; exact hN1) hwr9 HP9.out).mono ?_
            rintro e w10 ⟨p10, c10, rfl, hO10, hK10⟩
            have HO10 := hid hO10
            have HK10 := hid ((HQ9.out).trans hK10)
            clear hO10 hK10
            try dsimp only
            clear HP9 HQ9
            go_upto_region 24 with fail
            have HP10 := hid (HO10.out.alloc (.cells #[.int .i64 0, .int .i64 0, .int .i64 0, .int .i64 0, .slice p10 E.length c10, .slice none 0 0] 29)).p1
            have HQ10 := hid (HK10.out.alloc (.cells #[.int .i64 0, .int .i64 0, .int .i64 0, .int .i64 0, .slice p10 E.length c10, .slice none 0 0] 29))
            clear HO10 HK10
            generalize w10.alloc (.cells #[.int .i64 0, .int .i64 0, .int .i64 0, .int .i64 0, .slice p10 E.length c10, .slice none 0 0] 29) = y10 at *
            generalize w10.heap.size = g10 at *
            have hmk := makeZ N (by omega)
            go_upto_region 25 with fail
            have HP11 := hid (madeZ N (by omega) HP10.out)
            have HQ11 := hid (HQ10.out.alloc (.cells (zeroA N) 5))
            clear HP10 HQ10 hmk
            generalize y10.alloc (.cells (zeroA N) 5) = y11 at *
            generalize y10.heap.size = g11 at *
            have hmi : min (c : Int) (d.length : Int) = (m : Int) := by omega
            have hm0 : (0 : Int) ≤ (m : Int) := by omega
            have hmd : m ≤ d.length := by omega
            have hmi1 : (m : Int) ≤ (d.length : Int) := by omega
            have hmi2 : (m : Int) ≤ (vc : Int) := by omega
            have hmN : m ≤ N := by have := HN.out; omega
            have HDT := hid (show Rd y11 (.slice vp m vc) 1 m (bc (d.take m)) from by
              have h := (Bytes.rd (HP11.out.re 8 [6])).takeS m hmd
              rw [Nat.mul_one] at h
              rw [show bc (d.take m) = (bc d).take m by simp [bc]]
              exact h)
            have HTL := hid (show (d.take m).length = m by rw [List.length_take]; omega)
            obtain ⟨w12, hrun, hO12, hK12⟩ := Has.copyRun (P := Tryz.prog) (off := 0) HP11.out 22 22 3 Tryz.underlying22 (by kernel_rfl) N N vc vp HDT.out (bc_one _) (by omega)
            have HO12 := hid (laidE hO12 hmd hmN HE.out)
            have HK12 := hid (HQ11.out.trans hK12)
            clear hO12 hK12 HP11 HQ11 HDT
            have hk8 : w12.cell? ⟨g8, 0, none⟩ = some (.int .i64 0) := HO12.out.p5.cells 0
            have hk9 : w12.cell? ⟨g9, 0, none⟩ = some (.int .i64 0) := HO12.out.p4.cells 0
            have hk10 : w12.cell? ⟨g10, 4, none⟩ = some (.slice p10 E.length c10) := HO12.out.p2.cells 4
            go_wp2_with fail
            refine (sameT _ _ E E w12 rfl (Bytes.rd HO12.out.p1) (Bytes.rd HO12.out)).mono ?_
            rintro e w' ⟨rfl, nq13, rfl⟩
            have HO13 := hid ((HO12.out).drewN nq13)
            have HK13 := hid ((HK12.out).drewN nq13)
            try dsimp only
            clear HO12 HK12 hk8 hk9 hk10 hrun
            generalize w12.drewN nq13 = w13 at *
            go_wp2_with fail
            refine (awake14 mx w13 _ (((((((HM.out.cons _).cons _).cons _).cons _).cons _).cons _).cons _) HO13.out).mono ?_
            rintro e w14 ⟨rfl, hO14, hK14⟩
            have HO14 := hid hO14
            have HK14 := hid ((HK13.out).trans hK14)
            clear hO14 hK14
            try dsimp only
            go_wp2_with fail
            go_ret
            exact ⟨rfl, (HO14.out.re 8 [7]).below HK14.out.os HK14.out.tape HK14.out.output⟩
end Go.Proofs.YtfhaedkaedffcaaGreatDoor
/- What the frames of chapter 14's cards share: the listed data met, and the world's shape kept. -/
namespace Go.Proofs.YtfhaedkaedffcaaGreatDoor
open Go.ChangeShapes Go.WideShapes Go.ChangeAt Go.RowKit
variable {H : Type} {enc : TypeId × Value → H}
theorem handed_and_shaped {a : Assume} {C : Checked} {os : Os} {f : FuncId} {fn : Func} {s : ChangeSpec} {conds : List PathCond} {apart fresh handsOn again : Bool} {X : World → Array Value → Prop}
    (hX : ∀ (w w' : World) (args : Array Value), w.heap = w'.heap → X w args → X w' args)
    (own : ownKnob C.prog.godebug = none) (started : os.Started) (noInit : C.prog.inits.idxOf? f = none) (hfn : C.prog.funcs[f]? = some fn)
    (witness : ∃ (w : World) (tape : Tape) (i : Input), w.os = os ∧ (w.forCall tape i).Shaped C.prog ∧ i.vars = [] ∧ Input.okWide C.prog (w.forCall tape i) .any w.heap.size f i ∧
      ((s.pre enc C.prog fn conds apart (w.forCall tape i).memory i.args ∧ X (w.forCall tape i).memory i.args) ∧ sizedMet enc C.prog fn (OpenSpec.ofChange s) apart (w.forCall tape i).memory i.args) ∧ a.holds C.prog (lone (Frame.enter C.prog f i.args .normal) [] (w.forCall tape i)))
    (contract : ∀ (W : World) (base : Nat) (args : Array Value) (ds gs : List (DataW H)) (before : List MemPlace),
      (∀ (j : Nat) t v, fn.params[j]? = some t → args[j]? = some v → Value.okWide C.prog W .any base t v) →
      DataW.Whole enc C.prog fn.params.toList s.vars apart W args.toList ds gs before →
      conds.all (PathCond.test C.prog ⟨fn.params.toList, ds, s.plain.varTypes C.prog, gs⟩) = true →
      (DataW.weightsEach C.prog (fn.params.toList ++ s.plain.varTypes C.prog) (ds ++ gs)).all (· ≤ reachBytes) = true → X W args → W.ShapedOpen C.prog →
      a.holds C.prog (lone (Frame.enter C.prog f args .normal) [] W) →
      Calls C.prog f args W fun e W' => ∃ v, e = .returned v ∧ s.post enc C.prog fn apart fresh handsOn again W args v W') :
    ReturnsInHanded a C os f .any (fun w args => (s.pre enc C.prog fn conds apart w args ∧ X w args) ∧ sizedMet enc C.prog fn (OpenSpec.ofChange s) apart w args) (s.post enc C.prog fn apart fresh handsOn again) := by
  refine returnsInHanded_of_calls own started noInit witness ?_
  intro w tape i _ hsh _ hok hpre hholds
  obtain ⟨_, _, _, fn', hfn', _, _, _, _, hval⟩ := hok
  have e : fn' = fn := Option.some.inj (hfn'.symm.trans hfn)
  subst e
  obtain ⟨⟨⟨ds, gs, before, hw, hc⟩, hx⟩, hz⟩ := hpre
  have hw' := DataW.Whole.of_heap (w' := w.forCall tape i) (by rfl) hw
  refine (contract (w.forCall tape i) w.heap.size i.args ds gs before hval hw' hc (hz.weights hw) (hX _ _ _ (by rfl) hx) hsh hholds).mono fun e W' ⟨v, he, hp⟩ => ?_
  subst he
  exact ChangeSpec.post_blind hp
theorem mx_shaped {W : World} (h : W.ShapedOpen Tryz.prog) : ∃ m, W.cell? ⟨0, 0, none⟩ = some (.int .i64 m) :=
  cell_of_shapedOpen_int (P := Tryz.prog) (g := 0) (t := 3) (zero := #[.int .i64 0]) h (of_decide_eq_true (by kernel_rfl)) (by kernel_rfl) rfl (by kernel_rfl) (by kernel_rfl) Tryz.underlying3
end Go.Proofs.YtfhaedkaedffcaaGreatDoor
/- HOW ARGUMENTS ARE OPENED: from the form's reading to cells. No program in sight. -/
namespace Go.Own
open Go.ChangeShapes Go.WideShapes Go.ChangeAt Go.RowKit
theorem flat_len (n size : Nat) (C : Nat → List Value) (h : ∀ i, i < n → (C i).length = size) : ((List.range n).flatMap C).length = n * size := by
  induction n with
  | zero => simp
  | succ n ih =>
    rw [List.range_succ, List.flatMap_append, List.length_append, ih fun i hi => h i (by omega)]
    simp [h n (by omega), Nat.succ_mul]
theorem flat_drop (n size : Nat) (C : Nat → List Value) (h : ∀ i, i < n → (C i).length = size) (i : Nat) (hi : i < n) :
    ∃ R, ((List.range n).flatMap C).drop (i * size) = C i ++ R := by
  induction n with
  | zero => omega
  | succ n ih =>
    rw [List.range_succ, List.flatMap_append]
    have hl := flat_len n size C fun i hi => h i (by omega)
    by_cases hin : i = n
    · subst hin
      refine ⟨[], ?_⟩
      rw [List.drop_append_of_le_length (by rw [hl]; exact Nat.le_refl _), List.drop_of_length_le (by rw [hl]; exact Nat.le_refl _)]
      simp
    · obtain ⟨R, hR⟩ := ih (fun i hi => h i (by omega)) (by omega)
      refine ⟨R ++ [n].flatMap C, ?_⟩
      rw [List.drop_append_of_le_length (by rw [hl]; exact Nat.mul_le_mul_right _ (by omega)), hR, List.append_assoc]
theorem flat_slice (n size : Nat) (C : Nat → List Value) (h : ∀ i, i < n → (C i).length = size) (i : Nat) (hi : i < n) :
    (((List.range n).flatMap C).drop (i * size)).take size = C i := by
  obtain ⟨R, hR⟩ := flat_drop n size C h i hi
  rw [hR, ← h i hi, List.take_left]
theorem flatO_at (n size : Nat) (C : Nat → List Value) (h : ∀ i, i < n → (C i).length = size) (i : Nat) (hi : i < n) (j : Nat) (hj : j < size) :
    (C i)[j]? = ((List.range n).flatMap C)[i * size + j]? := by
  rw [← flat_slice n size C h i hi, List.getElem?_take, if_pos hj, List.getElem?_drop]
theorem cells?_parts {w : World} {b : Nat} {a : Addr} {n : Nat} {cs : List Value} (h : w.cells? b a n = some cs) : cs.length = n ∧ ∀ j, j < n → w.cell? (a.add j) = cs[j]? := by
  unfold World.cells? at h
  split at h
  · have : ∀ (l : List Nat) (cs : List Value), (l.mapM fun i => w.cell? (a.add i)) = some cs → cs.length = l.length ∧ ∀ (j i : Nat), l[j]? = some i → w.cell? (a.add i) = cs[j]? := by
      intro l
      induction l with
      | nil => intro cs h; simp at h; subst h; simp
      | cons x l ih =>
        intro cs h
        simp only [List.mapM_cons, Option.pure_def, Option.bind_eq_bind] at h
        obtain ⟨y, hy, h⟩ := Option.bind_eq_some_iff.1 h
        obtain ⟨ys, hys, h⟩ := Option.bind_eq_some_iff.1 h
        cases h
        obtain ⟨h1, h2⟩ := ih ys hys
        refine ⟨by simp [h1], fun j i hj => ?_⟩
        cases j with
        | zero => simp at hj; subst hj; simpa using hy
        | succ j => simpa using h2 j i (by simpa using hj)
    obtain ⟨h1, h2⟩ := this _ _ h
    refine ⟨by simpa using h1, fun j hj => h2 j j (by simp [hj])⟩
  · cases h
section
variable {H : Type} {enc : TypeId × Value → H} {P : Program} {W : World} {base : Nat} {spare : Nat → Bool} {held : Bool}
/-- A slice of elements of whatever type: its cells in a list, each element's own cells read on. -/
theorem open_rd {t e size : Nat} {v : Value} {d : DataW H} {ps : List MemPlace} {r : Reach} {b0 : Nat} (ht : P.underlying t = some (.slice e)) (hc : P.cellsOf e = size) (hv : Value.okWide P W r b0 t v)
    (h : DataW.Trod enc P W base spare held t v d ps) :
    ∃ (n fuel : Nat) (xs : List Value), Rd W v size n xs ∧ ∀ i, i < n → ∃ x, DataW.trod enc P W base spare held fuel e ((xs.drop (i * size)).take size) = some x := by
  obtain ⟨p, len, cap, rfl⟩ := okWide_slice ht hv
  obtain ⟨fuel, hf⟩ := h
  rcases Deep.open_slice ht hf with ⟨hcs, _⟩ | ⟨a, len', cap', m, n, D, Pl, hcs, hb, hl, hm, hmm, hx, hel⟩
  · simp [Value.cells] at hcs
    obtain ⟨rfl, rfl, rfl⟩ := hcs
    exact ⟨0, 0, [], ⟨by simp, Nat.zero_le _, none, 0, rfl, Nat.le_refl _, fun h => absurd h (by simp)⟩, fun i hi => absurd hi (by simp)⟩
  · simp [Value.cells] at hcs
    obtain ⟨rfl, rfl, rfl⟩ := hcs
    rw [hc] at hel
    have hlm : len ≤ m := by rw [hmm]; split <;> omega
    obtain ⟨C, hC⟩ := Deep.choose_lt (α := List Value) (p := fun i cs' => W.cells? base (a.add (i * size)) size = some cs' ∧ DataW.trod enc P W base spare held n e cs' = some (D i, Pl i)) (fun i hi => hel i (by omega : i < m))
    have hlen : ∀ i, i < len → (C i).length = size ∧ ∀ j, j < size → W.cell? ((a.add (i * size)).add j) = (C i)[j]? := fun i hi => cells?_parts (hC i (by omega)).1
    refine ⟨len, n, (List.range len).flatMap C, ⟨flat_len len size C fun i hi => (hlen i hi).1, by omega, some a, cap, rfl, hl, fun hp => ?_⟩, fun i hi => ⟨(D i, Pl i), ?_⟩⟩
    · have hs : 0 < size := Nat.pos_of_mul_pos_left hp
      have hl0 : 0 < len := Nat.pos_of_mul_pos_right hp
      have h0 := (hlen 0 hl0).2 0 hs
      have ha : a = ⟨a.block, a.off, none⟩ := by
        refine cell_plain (w := W) (u := (C 0)[0]'(by rw [(hlen 0 hl0).1]; exact hs)) ?_
        rw [List.getElem?_eq_getElem (by rw [(hlen 0 hl0).1]; exact hs)] at h0
        simpa [Addr.add] using h0
      refine ⟨a.block, a.off, by rw [← ha], fun j hj => ?_⟩
      have hq : j / size < len := (Nat.div_lt_iff_lt_mul hs).2 hj
      have hr : j % size < size := Nat.mod_lt _ hs
      have h1 := (hlen (j / size) hq).2 (j % size) hr
      rw [Deep.add_add, ha, add_plain] at h1
      have hj' : j / size * size + j % size = j := Nat.div_add_mod' j size
      rw [hj'] at h1
      rw [h1, flatO_at len size C (fun i hi => (hlen i hi).1) (j / size) hq (j % size) hr, hj']
    · rw [flat_slice len size C (fun i hi => (hlen i hi).1) i hi]
      exact (hC i (by omega)).2
/-- A slice of ints. -/
theorem open_rd_ints {t e : Nat} {v : Value} {d : DataW H} {ps : List MemPlace} {r : Reach} {b0 : Nat} (ht : P.underlying t = some (.slice e)) (he : P.underlying e = some (.int .i64)) (hc : P.cellsOf e = 1) (hv : Value.okWide P W r b0 t v)
    (h : DataW.Trod enc P W base spare held t v d ps) : ∃ xs : List Int, Rd W v 1 xs.length (ic xs) := by
  obtain ⟨n, fuel, xs, hr, hx⟩ := open_rd ht hc hv h
  have hl : xs.length = n := by simpa using hr.1
  have hall : ∀ (l : List Value), (∀ i (hi : i < l.length), ∃ k, l[i]? = some (.int .i64 k)) → ∃ zs : List Int, l = ic zs := by
    intro l
    induction l with
    | nil => intro _; exact ⟨[], rfl⟩
    | cons y l ih =>
      intro hl
      obtain ⟨k, hk⟩ := hl 0 (by simp)
      obtain ⟨zs, hz⟩ := ih fun i hi => by obtain ⟨k, h⟩ := hl (i + 1) (by simp; omega); exact ⟨k, by simpa using h⟩
      exact ⟨k :: zs, by simp at hk; simp [ic, hk]; exact hz⟩
  obtain ⟨zs, hz⟩ := hall xs fun i hi => by
    obtain ⟨x, hx⟩ := hx i (by omega)
    rw [Nat.mul_one] at hx
    obtain ⟨k, hk, -⟩ := DataW.trod_int he hx
    refine ⟨k, ?_⟩
    have := congrArg (fun l : List Value => l[0]?) hk
    simpa using this
  subst hz
  refine ⟨zs, ?_⟩
  rw [ic_len] at hl
  rw [hl]; exact hr
/-- A struct's field, read on. -/
theorem open_field {t fuel : Nat} {cs : List Value} {x : DataW H × List MemPlace} {fs : Array Field} (ht : P.underlying t = some (.struct fs)) (h : DataW.trod enc P W base spare held fuel t cs = some x)
    (i : Nat) (f : Field) (hf : fs[i]? = some f) : ∃ m y, DataW.trod enc P W base spare held m f.type ((cs.drop f.offset).take (P.cellsOf f.type)) = some y := by
  obtain ⟨xs, n, -, -, -, hl, hx⟩ := DataW.trod_struct ht h
  have hi : i < xs.length := by rw [hl]; exact (Array.getElem?_eq_some_iff.1 hf).1
  exact ⟨n, xs[i], by rw [hx i f hf, List.getElem?_eq_getElem hi]⟩
/-- A field that is an int. -/
theorem open_int_field {t fuel : Nat} {cs : List Value} {x : DataW H × List MemPlace} {fs : Array Field} {k : IntKind} (ht : P.underlying t = some (.struct fs)) (h : DataW.trod enc P W base spare held fuel t cs = some x)
    (i : Nat) (f : Field) (hf : fs[i]? = some f) (hk : P.underlying f.type = some (.int k)) (hc : P.cellsOf f.type = 1) : ∃ n, cs[f.offset]? = some (.int k n) ∧ (Lit.int k n).wf = true := by
  obtain ⟨m, y, hy⟩ := open_field ht h i f hf
  rw [hc] at hy
  obtain ⟨n, hn, -, hw⟩ := DataW.trod_int hk hy
  refine ⟨n, ?_, hw⟩
  have := congrArg (fun l : List Value => l[0]?) hn
  simpa using this
end
end Go.Own
/- HOW ARGUMENTS ARE OPENED, further: slices within structs and slices. No program in sight. -/
namespace Go.Own
open Go.ChangeShapes Go.WideShapes Go.ChangeAt Go.RowKit
section
variable {H : Type} {enc : TypeId × Value → H} {P : Program} {W : World} {base : Nat} {spare : Nat → Bool} {held : Bool}
theorem trod_rd {t e size fuel : Nat} {cs : List Value} {x : DataW H × List MemPlace} (ht : P.underlying t = some (.slice e)) (hc : P.cellsOf e = size) (h : DataW.trod enc P W base spare held fuel t cs = some x) :
    ∃ (v : Value) (n fuel : Nat) (xs : List Value), cs = [v] ∧ Rd W v size n xs ∧ ∀ i, i < n → ∃ x, DataW.trod enc P W base spare held fuel e ((xs.drop (i * size)).take size) = some x := by
  rcases Deep.open_slice ht h with ⟨hcs, _⟩ | ⟨a, len, cap, m, n, D, Pl, hcs, hb, hl, hm, hmm, hx, hel⟩
  · exact ⟨.slice none 0 0, 0, 0, [], hcs, ⟨by simp, Nat.zero_le _, none, 0, rfl, Nat.le_refl _, fun h => absurd h (by simp)⟩, fun i hi => absurd hi (by simp)⟩
  · rw [hc] at hel
    have hlm : len ≤ m := by rw [hmm]; split <;> omega
    obtain ⟨C, hC⟩ := Deep.choose_lt (α := List Value) (p := fun i cs' => W.cells? base (a.add (i * size)) size = some cs' ∧ DataW.trod enc P W base spare held n e cs' = some (D i, Pl i)) (fun i hi => hel i (by omega : i < m))
    have hlen : ∀ i, i < len → (C i).length = size ∧ ∀ j, j < size → W.cell? ((a.add (i * size)).add j) = (C i)[j]? := fun i hi => cells?_parts (hC i (by omega)).1
    refine ⟨.slice (some a) len cap, len, n, (List.range len).flatMap C, hcs, ⟨flat_len len size C fun i hi => (hlen i hi).1, by omega, some a, cap, rfl, hl, fun hp => ?_⟩, fun i hi => ⟨(D i, Pl i), ?_⟩⟩
    · have hs : 0 < size := Nat.pos_of_mul_pos_left hp
      have hl0 : 0 < len := Nat.pos_of_mul_pos_right hp
      have h0 := (hlen 0 hl0).2 0 hs
      have ha : a = ⟨a.block, a.off, none⟩ := by
        refine cell_plain (w := W) (u := (C 0)[0]'(by rw [(hlen 0 hl0).1]; exact hs)) ?_
        rw [List.getElem?_eq_getElem (by rw [(hlen 0 hl0).1]; exact hs)] at h0
        simpa [Addr.add] using h0
      refine ⟨a.block, a.off, by rw [← ha], fun j hj => ?_⟩
      have hq : j / size < len := (Nat.div_lt_iff_lt_mul hs).2 hj
      have hr : j % size < size := Nat.mod_lt _ hs
      have h1 := (hlen (j / size) hq).2 (j % size) hr
      rw [Deep.add_add, ha, add_plain] at h1
      have hj' : j / size * size + j % size = j := Nat.div_add_mod' j size
      rw [hj'] at h1
      rw [h1, flatO_at len size C (fun i hi => (hlen i hi).1) (j / size) hq (j % size) hr, hj']
    · rw [flat_slice len size C (fun i hi => (hlen i hi).1) i hi]
      exact (hC i (by omega)).2
theorem all_cells {α : Type} (f : α → Value) (l : List Value) (h : ∀ i (hi : i < l.length), ∃ k, l[i] = f k) : ∃ zs : List α, l = zs.map f := by
  induction l with
  | nil => exact ⟨[], rfl⟩
  | cons y l ih =>
    obtain ⟨k, hk⟩ := h 0 (by simp)
    obtain ⟨zs, hz⟩ := ih fun i hi => h (i + 1) (by simp; omega)
    exact ⟨k :: zs, by simp at hk; simp [hk]; exact hz⟩
theorem drop_one (l : List Value) (i : Nat) (h : i < l.length) : (l.drop i).take 1 = [l[i]] := by
  rw [List.drop_eq_getElem_cons h]; rfl
/-- A slice of integers of one kind. -/
theorem trod_scal {t e fuel : Nat} {k : IntKind} {cs : List Value} {x : DataW H × List MemPlace} (ht : P.underlying t = some (.slice e)) (he : P.underlying e = some (.int k)) (hc : P.cellsOf e = 1) (h : DataW.trod enc P W base spare held fuel t cs = some x) :
    ∃ (v : Value) (xs : List Int), cs = [v] ∧ Rd W v 1 xs.length (xs.map (Value.int k)) := by
  obtain ⟨v, n, fuel, xs, hcs, hr, hx⟩ := trod_rd ht hc h
  have hl : xs.length = n := by simpa using hr.1
  obtain ⟨zs, rfl⟩ := all_cells (Value.int k) xs fun i hi => by
    obtain ⟨x, hx⟩ := hx i (by omega)
    rw [Nat.mul_one, drop_one _ _ hi] at hx
    obtain ⟨k, hk, -⟩ := DataW.trod_int he hx
    exact ⟨k, by simpa using hk⟩
  rw [List.length_map] at hl
  exact ⟨v, zs, hcs, by rw [hl]; exact hr⟩
theorem trod_bools {t e fuel : Nat} {cs : List Value} {x : DataW H × List MemPlace} (ht : P.underlying t = some (.slice e)) (he : P.underlying e = some .bool) (hc : P.cellsOf e = 1) (h : DataW.trod enc P W base spare held fuel t cs = some x) :
    ∃ (v : Value) (xs : List Bool), cs = [v] ∧ Rd W v 1 xs.length (xs.map Value.bool) := by
  obtain ⟨v, n, fuel, xs, hcs, hr, hx⟩ := trod_rd ht hc h
  have hl : xs.length = n := by simpa using hr.1
  obtain ⟨zs, rfl⟩ := all_cells Value.bool xs fun i hi => by
    obtain ⟨x, hx⟩ := hx i (by omega)
    rw [Nat.mul_one, drop_one _ _ hi] at hx
    obtain ⟨k, hk, -⟩ := DataW.trod_bool he hx
    exact ⟨k, by simpa using hk⟩
  rw [List.length_map] at hl
  exact ⟨v, zs, hcs, by rw [hl]; exact hr⟩
/-- A slice of slices of bytes: its texts. -/
theorem texts_of {n fuel tb e : Nat} {xs : List Value} {v : Value} (ht : P.underlying tb = some (.slice e)) (he : P.underlying e = some (.int .u8)) (hc : P.cellsOf e = 1) (hr : Rd W v 1 n xs)
    (hel : ∀ i, i < n → ∃ x, DataW.trod enc P W base spare held fuel tb ((xs.drop (i * 1)).take 1) = some x) :
    ∃ R : List (Value × List Int), Rd W v 1 R.length (R.map (·.1)) ∧ ∀ x ∈ R, Rd W x.1 1 x.2.length (bc x.2) := by
  have hl : xs.length = n := by simpa using hr.1
  have key : ∀ (l : List Value), (∀ u ∈ l, ∃ ys : List Int, Rd W u 1 ys.length (bc ys)) → ∃ R : List (Value × List Int), R.map (·.1) = l ∧ ∀ x ∈ R, Rd W x.1 1 x.2.length (bc x.2) := by
    intro l
    induction l with
    | nil => intro _; exact ⟨[], rfl, by simp⟩
    | cons u l ih =>
      intro h
      obtain ⟨ys, hy⟩ := h u (by simp)
      obtain ⟨R, h1, h2⟩ := ih fun u hu => h u (by simp [hu])
      exact ⟨(u, ys) :: R, by simp [h1], fun x hx => (List.mem_cons.1 hx).elim (fun e => by rw [e]; exact hy) (h2 x)⟩
  obtain ⟨R, h1, h2⟩ := key xs fun u hu => by
    obtain ⟨i, hi, rfl⟩ := List.getElem_of_mem hu
    obtain ⟨x, hx⟩ := hel i (by omega)
    rw [Nat.mul_one, drop_one _ _ hi] at hx
    obtain ⟨v, ys, hcs, hr⟩ := trod_scal ht he hc hx
    simp only [List.cons.injEq, and_true] at hcs
    exact ⟨ys, by rw [hcs]; exact hr⟩
  subst h1
  rw [List.length_map] at hl
  exact ⟨R, by rw [hl]; exact hr, h2⟩
theorem open_rd_bools {t e : Nat} {v : Value} {d : DataW H} {ps : List MemPlace} {r : Reach} {b0 : Nat} (ht : P.underlying t = some (.slice e)) (he : P.underlying e = some .bool) (hc : P.cellsOf e = 1) (hv : Value.okWide P W r b0 t v)
    (h : DataW.Trod enc P W base spare held t v d ps) : ∃ xs : List Bool, Rd W v 1 xs.length (xs.map Value.bool) := by
  obtain ⟨n, fuel, xs, hr, hx⟩ := open_rd ht hc hv h
  have hl : xs.length = n := by simpa using hr.1
  obtain ⟨zs, rfl⟩ := all_cells Value.bool xs fun i hi => by
    obtain ⟨x, hx⟩ := hx i (by omega)
    rw [Nat.mul_one, drop_one _ _ hi] at hx
    obtain ⟨k, hk, -⟩ := DataW.trod_bool he hx
    exact ⟨k, by simpa using hk⟩
  rw [List.length_map] at hl
  exact ⟨zs, by rw [hl]; exact hr⟩
theorem open_rd_scal {t e : Nat} {k : IntKind} {v : Value} {d : DataW H} {ps : List MemPlace} {r : Reach} {b0 : Nat} (ht : P.underlying t = some (.slice e)) (he : P.underlying e = some (.int k)) (hc : P.cellsOf e = 1) (hv : Value.okWide P W r b0 t v)
    (h : DataW.Trod enc P W base spare held t v d ps) : ∃ xs : List Int, Rd W v 1 xs.length (xs.map (Value.int k)) := by
  obtain ⟨n, fuel, xs, hr, hx⟩ := open_rd ht hc hv h
  have hl : xs.length = n := by simpa using hr.1
  obtain ⟨zs, rfl⟩ := all_cells (Value.int k) xs fun i hi => by
    obtain ⟨x, hx⟩ := hx i (by omega)
    rw [Nat.mul_one, drop_one _ _ hi] at hx
    obtain ⟨k, hk, -⟩ := DataW.trod_int he hx
    exact ⟨k, by simpa using hk⟩
  rw [List.length_map] at hl
  exact ⟨zs, by rw [hl]; exact hr⟩
theorem open_rd_texts {t tb e : Nat} {v : Value} {d : DataW H} {ps : List MemPlace} {r : Reach} {b0 : Nat} (ht : P.underlying t = some (.slice tb)) (htc : P.cellsOf tb = 1) (htb : P.underlying tb = some (.slice e)) (he : P.underlying e = some (.int .u8)) (hc : P.cellsOf e = 1) (hv : Value.okWide P W r b0 t v)
    (h : DataW.Trod enc P W base spare held t v d ps) : ∃ R : List (Value × List Int), Rd W v 1 R.length (R.map (·.1)) ∧ ∀ x ∈ R, Rd W x.1 1 x.2.length (bc x.2) := by
  obtain ⟨n, fuel, xs, hr, hx⟩ := open_rd ht htc hv h
  exact texts_of htb he hc hr hx
end
end Go.Own
