/- TEXTS of mine, merged. -/
import Derived.Test.YtbggnbahmdgbdaaM4
import Derived.Test.YtbggnbahmdgbdaaM5
import Derived.Test.YtbggnbahmdgbdaaM6
import Derived.WalkMore
/- THE WALK of mkfs.Image. -/
namespace Go.Proofs.Ytbggnbahmdgbdaa
open Go.RowKit Go.Own Go.Sl Go.Gm
set_option maxRecDepth 100000 in
set_option maxHeartbeats 8000000 in
theorem sectors_nat {g : Geo} (h : may g = true) : ∃ n : Nat, sectors g = (n : Int) ∧ 20 ≤ n ∧ n ≤ 842 := by
  have := may_iff.1 h
  have e := sectors_of h
  have hl : 18 ≤ long g ∧ long g ≤ 105 := by
    have h4 : g.i.tdiv 4 = g.i / 4 := Int.tdiv_eq_ediv_of_nonneg (by omega)
    unfold long; omega
  have h1 : g.n * long g ≤ 8 * 105 := Int.mul_le_mul (by omega) hl.2 (by omega) (by omega)
  have h2 : 1 * 18 ≤ g.n * long g := Int.mul_le_mul (by omega) hl.1 (by omega) (by omega)
  exact ⟨(sectors g).toNat, by omega, by omega, by omega⟩
theorem Wrt.cell {w : World} {L : List HP} {g n c : Nat} {T : List (List Int)} (h : Has w (Wrt (.slice (some ⟨g, 0, none⟩) n c) T :: L)) (k : Nat) (hk : k < T.length) : (∀ j, w.frozen? ⟨g, j, none⟩ = false) ∧ ∃ u, w.cell? ⟨g, k, none⟩ = some u := by
  obtain ⟨-, hf, p, m, hc, -⟩ := Wrt.at_ h k hk
  exact ⟨hf, _, hc⟩
theorem made_bs {w : World} {L : List HP} (n : Nat) (hn : n ≤ 1000000) (h : Has w L) : ∃ w', (Instr.makeSlice 31 (.int .i64 (n : Int)) (.int .i64 (n : Int))).run Try.prog w = .ok (.slice (some ⟨w.heap.size, 0, none⟩) n n) w' ∧ Has w' (Wrt (.slice (some ⟨w.heap.size, 0, none⟩) n n) (List.replicate n []) :: L) ∧ Keep w w' :=
  ⟨_, makeBs n hn w, made_wrt h (le_maxLen (by omega)), (Keep.refl w).alloc _⟩
theorem made_128 {w : World} {L : List HP} (h : Has w L) : ∃ w', (Instr.makeSlice 35 (.int .i64 128) (.int .i64 128)).run Try.prog w = .ok (.slice (some ⟨w.heap.size, 0, none⟩) 128 128) w' ∧ Has w' (Bytes (.slice (some ⟨w.heap.size, 0, none⟩) 128 128) (zs 128) :: L) ∧ Keep w w' :=
  ⟨_, makeN 128 (by omega) w, madeN 128 (by omega) h, (Keep.refl w).alloc _⟩
set_option maxRecDepth 100000 in
set_option maxHeartbeats 8000000 in
theorem imageNo (g : Geo) (w : World) (L : List HP) (hm : may g = false) (hO : Has w L) :
    Calls Try.prog 13 #[geoV g] w fun e w' => e = .returned (.slice none 0 0) ∧ Has w' L ∧ Keep w w' := by
  have HO := hid (hO.alloc (.cells (gcell g) 24))
  have HK := hid ((Keep.refl w).alloc (.cells (gcell g) 24))
  have HC := hid (fun w' L (h : Has w' L) => sLayNo g w' L hm h)
  have hc := (hO.alloc (.cells (gcell g) 24)).cells
  clear hO hm
  unfold geoV at *
  go_enter Try.func13, Try.ntmps13
  go_wp2_with fail
  refine (HC.out _ _ HO.out).mono ?_
  rintro e w2 ⟨rfl, hO2, hK2⟩
  have HO2 := hid hO2
  have HK2 := hid ((HK.out).trans hK2)
  clear hO2 hK2
  try dsimp only
  go_wp2_with fail
  go_ret
  exact ⟨rfl, HO2.out.drop, HK2.out⟩
/-- An image: the sectors of a group, of four inodes, each in its place. -/
def nodesL (g : Geo) (k : Nat) : List Int := if k = 0 then (zs ((g.i + 7) / 8).toNat).set 0 1 else zs ((g.i + 7) / 8).toNat
def grpL (g : Geo) (k : Nat) : List Int := sealL 71 (groupB (nodesL g k) (zs ((g.b + 7) / 8).toNat))
def grpT (g : Geo) (T : List (List Int)) : Nat → List (List Int)
  | 0 => T
  | k + 1 => (grpT g T k).set (2 + (k : Int) * long g).toNat (grpL g k)
def rootK (q : Nat) : Int := if q = 0 then 2 else 0
def rootL (q : Nat) : Int := if q = 0 then 1 else 0
def inoI (g : Geo) (q : Nat) : Nat := (2 + 4 * (q : Int) / g.i * long g + 1 + 4 * (q : Int) % g.i / 4).toNat
def inoS (q : Nat) : List Int := sealL 73 (inoB (rootK q) (rootL q) ++ zs 69)
def inoT (g : Geo) (T : List (List Int)) : Nat → List (List Int)
  | 0 => T
  | q + 1 => (inoT g T q).set (inoI g q) (inoS q)
def startT (g : Geo) (n : Nat) : List (List Int) := ((List.replicate n (zs 128)).set 0 (superL g)).set 1 (sealL 82 (zs 59))
def imgL (g : Geo) : List (List Int) := inoT g (grpT g (startT g (sectors g).toNat) g.n.toNat) (inodes g / 4).toNat
theorem grpT_len (g : Geo) (T : List (List Int)) : ∀ k, (grpT g T k).length = T.length
  | 0 => rfl
  | k + 1 => by rw [grpT, List.length_set, grpT_len g T k]
theorem inoT_len (g : Geo) (T : List (List Int)) : ∀ k, (inoT g T k).length = T.length
  | 0 => rfl
  | k + 1 => by rw [inoT, List.length_set, inoT_len g T k]
theorem startT_len (g : Geo) (n : Nat) : (startT g n).length = n := by simp [startT]
theorem imgL_len (g : Geo) : (imgL g).length = (sectors g).toNat := by rw [imgL, inoT_len, grpT_len, startT_len]
theorem long_bound {g : Geo} (h : may g = true) : 18 ≤ long g ∧ long g ≤ 105 := by
  have := may_iff.1 h
  have h4 : g.i.tdiv 4 = g.i / 4 := Int.tdiv_eq_ediv_of_nonneg (by omega)
  unfold long; omega
/-- Where a group begins. -/
theorem grp_at {g : Geo} (h : may g = true) {n k : Nat} (hn : sectors g = (n : Int)) (hk : (k : Int) < g.n) : ∃ j : Nat, 2 + (k : Int) * long g = (j : Int) ∧ j < n ∧ (2 + (k : Int) * long g).toNat = j := by
  have e := sectors_of h
  have hl := long_bound h
  have h1 : (k : Int) * long g ≤ (g.n - 1) * long g := Int.mul_le_mul_of_nonneg_right (by omega) (by omega)
  have h2 : (g.n - 1) * long g = g.n * long g - long g := by rw [Int.sub_mul, Int.one_mul]
  have h3 : 0 ≤ (k : Int) * long g := Int.mul_nonneg (by omega) (by omega)
  exact ⟨(2 + (k : Int) * long g).toNat, by omega, by omega, rfl⟩
theorem nodes_len {g : Geo} (h : may g = true) (k : Nat) : 1 ≤ (nodesL g k).length ∧ (nodesL g k).length ≤ 4 := by
  have := may_iff.1 h
  unfold nodesL
  split <;> simp [zs] <;> omega
theorem blks_len {g : Geo} (h : may g = true) : 2 ≤ (zs ((g.b + 7) / 8).toNat).length ∧ (zs ((g.b + 7) / 8).toNat).length ≤ 12 := by
  have := may_iff.1 h
  simp [zs]; omega
theorem inodes_four {g : Geo} (h : may g = true) : ∃ Q : Nat, inodes g = 4 * (Q : Int) ∧ 1 ≤ Q ∧ Q ≤ 64 ∧ (inodes g / 4).toNat = Q := by
  have hm := may_iff.1 h
  have e := inodes_of h
  obtain ⟨m, hm4⟩ : ∃ m, g.i = 4 * m := ⟨g.i / 4, by omega⟩
  have e2 : g.n * g.i = 4 * (g.n * m) := by rw [hm4, ← Int.mul_assoc, Int.mul_comm g.n 4, Int.mul_assoc]
  have h1 : g.n * m ≤ 8 * 8 := Int.mul_le_mul (by omega) (by omega) (by omega) (by omega)
  have h2 : 1 * 1 ≤ g.n * m := Int.mul_le_mul (by omega) (by omega) (by omega) (by omega)
  exact ⟨(inodes g / 4).toNat, by omega, by omega, by omega, rfl⟩
/-- Where four inodes stand. -/
theorem ino_at {g : Geo} (h : may g = true) {n q : Nat} (hn : sectors g = (n : Int)) {Q : Nat} (hQ : inodes g = 4 * (Q : Int)) (hq : q < Q) :
    ∃ j : Nat, 2 + (1 + 4 * (q : Int) - 1) / g.i * long g + 1 + (1 + 4 * (q : Int) - 1) % g.i / 4 = (j : Int) ∧ j < n ∧ inoI g q = j := by
  have hm := may_iff.1 h
  have e := sectors_of h
  have hl := long_bound h
  have hx := inode_q (n := 1 + 4 * (q : Int)) h ⟨by omega, by omega⟩
  unfold inoI
  rw [show 1 + 4 * (q : Int) - 1 = 4 * (q : Int) by omega] at hx ⊢
  generalize 4 * (q : Int) / g.i = A at *
  have hr : 4 * (q : Int) % g.i < g.i := Int.emod_lt_of_pos _ (by omega)
  generalize 4 * (q : Int) % g.i = B at *
  have h1 : A * long g ≤ (g.n - 1) * long g := Int.mul_le_mul_of_nonneg_right (by omega) (by omega)
  have h2 : (g.n - 1) * long g = g.n * long g - long g := by rw [Int.sub_mul, Int.one_mul]
  have h3 : 0 ≤ A * long g := Int.mul_nonneg (by omega) (by omega)
  have h4 : long g = 1 + g.i / 4 + g.b := by unfold long; rw [Int.tdiv_eq_ediv_of_nonneg (by omega)]
  generalize A * long g = AL at *
  generalize g.n * long g = NL at *
  exact ⟨(2 + AL + 1 + B / 4).toNat, by omega, by omega, rfl⟩
theorem zero44 (w : World) : (zeroValue 66).run Try.prog w = .ok (.agg (ics 0 0)) w := (Try.zeroValue66 w).trans rfl
theorem with0_eq {m : Nat} {h : 0 < (zs m).length} : (zs m).set 0 (Go.bits .or .u8 (zs m)[0] 1) = (zs m).set 0 1 := by
  rw [show (zs m)[0] = 0 from by simp [zs]]
  rfl
set_option maxRecDepth 100000 in
set_option maxHeartbeats 8000000 in
theorem image (g : Geo) (w : World) (L : List HP) (hm : may g = true) (hO : Has w L) :
    Calls Try.prog 13 #[geoV g] w fun e w' => ∃ v', e = .returned v' ∧ Has w' (Wrt v' (imgL g) :: L) ∧ Keep w w' := by
  have HO := hid (hO.alloc (.cells (gcell g) 24))
  have HK := hid ((Keep.refl w).alloc (.cells (gcell g) 24))
  have HC := hid (fun w' L (h : Has w' L) => sLay g w' L hm h)
  have HCS := hid (fun w' => gSectors g w')
  have hc := (hO.alloc (.cells (gcell g) 24)).cells
  have HM := hid hm
  obtain ⟨n, hn, hn0, hnb⟩ := sectors_nat hm
  have HN := hid hn
  have HNB := hid (show n ≤ 1000000 by omega)
  have HNL := hid hn0
  clear hO hm hn hn0 hnb
  unfold geoV at *
  go_enter Try.func13, Try.ntmps13
  go_wp2_with fail
  refine (HC.out _ _ HO.out).mono ?_
  rintro e w2 ⟨v2, rfl, hO2, hK2⟩
  have HO2 := hid hO2
  have HK2 := hid ((HK.out).trans hK2)
  clear hO2 hK2
  try dsimp only
  clear hc
  have hc := HO2.out.p1.cells
  go_wp2_with fail
  refine (gSectors g w2 _ HO2.out).mono ?_
  rintro e w3 ⟨rfl, hO3, hK3⟩
  have HO3 := hid hO3
  have HK3 := hid ((HK2.out).trans hK3)
  clear hO3 hK3
  try dsimp only
  rw [HN.out]
  obtain ⟨w4, hmk, h4, k4⟩ := made_bs n HNB.out HO3.out
  have HO4 := hid h4
  have HK4 := hid (HK3.out.trans k4)
  clear HO2 HK2 HO HK hc HC HO3 HK3 h4 k4
  go_wp2_with fail
  clear hmk
  generalize w.heap.size = b0 at *
  generalize w3.heap.size = gi at *
  go_loopw [25] (fun i w' => ∃ k : Nat, k ≤ n ∧ i = .int .i64 k ∧ Hid (Has w' (Wrt (.slice (some ⟨gi, 0, none⟩) n n) (List.replicate k (zs 128) ++ List.replicate (n - k) []) :: Bytes v2 (superL g) :: pt b0 (.cells (gcell g) 24) :: L)) ∧ Hid (Keep w w')) (fun i _ => n - (intOf i).toNat)
  case atStart => exact ⟨0, by omega, rfl, HO4, HK4⟩
  case round =>
    clear HO4 HK4
    obtain ⟨k, hk, rfl, HO, HK⟩ := hrel
    by_cases hlt : k < n
    · have hki : (k : Int) < (n : Int) := by omega
      have hkl : k < (List.replicate k (zs 128) ++ List.replicate (n - k) []).length := by simp; omega
      have HKL := hid hkl
      obtain ⟨w5, hmk, h5, k5⟩ := made_128 HO.out
      obtain ⟨hf, u0, hcell⟩ := Wrt.cell h5.p1 k hkl
      clear hkl
      have HS := hid (Wrt.set h5 k HKL.out)
      have HK5 := hid (HK.out.trans k5)
      clear h5 k5
      rw [fillUp n k _ _ hlt] at HS
      go_wp2_with fail
      have hb := HNB.out
      rw [show wrap64 ((k : Int) + 1) = ((k + 1 : Nat) : Int) from by rw [wrap_in _ (by omega)]; omega]
      exact ⟨⟨k + 1, by omega, rfl, HS, hid (HK5.out.set _ _)⟩, by simp [intOf]; omega⟩
    · obtain rfl : n = k := by omega
      have HO6 := hid (show Has wr (Wrt (.slice (some ⟨gi, 0, none⟩) n n) (List.replicate n (zs 128)) :: Bytes v2 (superL g) :: pt b0 (.cells (gcell g) 24) :: L) from by
        have h := HO.out
        rwa [Nat.sub_self, List.replicate_zero, List.append_nil] at h)
      have HK6 := HK
      clear hlt hk HO HK
      obtain ⟨p2, c2, rfl, -⟩ := (Bytes.rd HO6.out.p1).form
      have hn0 : (0 : Int) < (n : Int) := by have := HNL.out; omega
      have hn1 : (1 : Int) < (n : Int) := by have := HNL.out; omega
      obtain ⟨hf, u0, hcell0⟩ := Wrt.cell HO6.out 0 (by rw [List.length_replicate]; have := HNL.out; omega)
      have HO7 := hid (Wrt.set HO6.out.p1 0 (by rw [List.length_replicate]; have := HNL.out; omega))
      have HK7 := hid (HK6.out.set ⟨gi, 0, none⟩ (.slice p2 (superL g).length c2))
      have HR := hid (fun w' L (h : Has w' L) => recLay0 w' L h)
      unfold rec0 at HR
      clear HO6 HK6
      go_wp2_with fail
      refine (HR.out _ _ HO7.out).mono ?_
      rintro e w8 ⟨v8, rfl, hO8, hK8⟩
      have HO8 := hid hO8
      have HK8 := hid ((HK7.out).trans hK8)
      clear hO8 hK8
      try dsimp only
      clear HR HO7 HK7 hf hcell0 hn0
      obtain ⟨p8, c8, rfl, -⟩ := (Bytes.rd HO8.out).form
      have hlb : 1 < ((List.replicate n (zs 128)).set 0 (superL g)).length := by rw [List.length_set, List.length_replicate]; have := HNL.out; omega
      obtain ⟨hf, u1, hcell1⟩ := Wrt.cell HO8.out.p1 1 hlb
      have HO9 := hid (Wrt.set HO8.out 1 hlb)
      have HK9 := hid (HK8.out.set ⟨gi, 1, none⟩ (.slice p8 (sealL 82 (zs 59)).length c8))
      clear hlb HO8 HK8
      have hc := HO9.out.p1.cells
      have HO9 := hid (show Has (w8.setCell ⟨gi, 1, none⟩ (.slice p8 (sealL 82 (zs 59)).length c8)) (Wrt (.slice (some ⟨gi, 0, none⟩) n n) (startT g n) :: pt b0 (.cells (gcell g) 24) :: L) from HO9.out)
      go_wp2_with fail
      clear hc hcell1 hf
      generalize w8.setCell ⟨gi, 1, none⟩ (.slice p8 (sealL 82 (zs 59)).length c8) = w9 at *
      go_loopw [45] (fun i w' => ∃ k : Nat, (k : Int) ≤ g.n ∧ i = .int .i64 k ∧ Hid (Has w' (Wrt (.slice (some ⟨gi, 0, none⟩) n n) (grpT g (startT g n) k) :: pt b0 (.cells (gcell g) 24) :: L)) ∧ Hid (Keep w w')) (fun i _ => g.n.toNat - (intOf i).toNat)
      case atStart => exact ⟨0, by have := (may_iff.1 HM.out).1; omega, rfl, HO9, HK9⟩
      case round =>
        clear HO9 HK9
        obtain ⟨k, hk, rfl, HO, HK⟩ := hrel
        by_cases hki : (k : Int) < g.n
        · obtain ⟨j, hj, hjn, hjt⟩ := grp_at HM.out HN.out hki
          have HJ := hid (And.intro hj (And.intro hjn hjt))
          clear hj hjn hjt
          have hc := HO.out.p1.cells
          have HG : Hid (∀ w' L, Has w' L → Calls Try.prog 36 #[.agg #[.int .i64 g.n, .int .i64 g.i, .int .i64 g.b], .int .i64 k] w' fun e w'' => e = .returned (.int .i64 (j : Int)) ∧ Has w'' L ∧ Keep w' w'') := hid fun w' L h => by
            have := gGroup g k w' L HM.out ⟨by omega, hki⟩ h
            rwa [HJ.out.1] at this
          have hjl : (j : Int) < (n : Int) := by have := HJ.out.2.1; omega
          go_wp2_with fail
          refine (bOf0 g.i wr _ (by have := may_iff.1 HM.out; omega) HO.out).mono ?_
          rintro e w10 ⟨v10, rfl, hO10, hK10⟩
          have HO10 := hid hO10
          have HK10 := hid ((HK.out).trans hK10)
          clear hO10 hK10
          try dsimp only
          clear HO HK
          by_cases hk0 : k = 0
          · have hki0 : ((k : Int) == 0) = true := by simp [hk0]
            have HZ := hid hk0
            clear hk0
            obtain ⟨pw, cw, rfl, -⟩ := (Bytes.rd HO10.out).form
            go_wp2_with fail
            refine (bWith0 _ (zs ((g.i + 7) / 8).toNat) w10 _ (by have := may_iff.1 HM.out; simp [zs]; omega) (by have := may_iff.1 HM.out; simp [zs]; omega) (fun w' h => Bytes.rd h) HO10.out).mono ?_
            rintro e w11 ⟨v11, rfl, hO11, hK11⟩
            have HO11 := hid hO11
            have HK11 := hid ((HK10.out).trans hK11)
            clear hO11 hK11
            try dsimp only
            have HOX := hid (show Has w11 (Bytes v11 (nodesL g k) :: Wrt (.slice (some ⟨gi, 0, none⟩) n n) (grpT g (startT g n) k) :: pt b0 (.cells (gcell g) 24) :: L) from by
              have h := HO11.out.re 2 [0]
              unfold nodesL
              rw [if_pos HZ.out, ← with0_eq]
              exact h)
            clear HO10 HO11
            obtain ⟨px, cx, rfl, -⟩ := (Bytes.rd HOX.out).form
            clear hc
            have hc := HOX.out.p2.cells
            go_wp2_with fail
            clear hc
            refine region_text (fun w' => w'.cell? ⟨b0, 0, none⟩ = some (.int .i64 g.n) ∧ w'.cell? ⟨b0, 1, none⟩ = some (.int .i64 g.i) ∧ w'.cell? ⟨b0, 2, none⟩ = some (.int .i64 g.b)) (by kernel_rfl) (by kernel_rfl) ⟨HOX.out.drew.p2.cells 0, HOX.out.drew.p2.cells 1, HOX.out.drew.p2.cells 2⟩ ?_
            repeat (first
              | (refine wpL_read (by rfl) (by rfl) ?_ ?_ ?_; rotate_left; (rintro w ⟨z0, z1, z2⟩; go_simp; with_reducible rfl); simp only [Act.put, List.setIfInBounds_toArray, List.set_cons_zero, List.set_cons_succ]) | (refine wpL_skip (by rfl) ?_; simp only [Act.put, List.setIfInBounds_toArray, List.set_cons_zero, List.set_cons_succ]))
            refine wpL_act (by rfl) (by rfl) (fun K hK => ?_)
            go_simp
            refine (HG.out _ _ HOX.out.drew).mono ?_
            rintro e w12 ⟨rfl, hO12, hK12⟩
            have HO12 := hid hO12
            have HK12 := hid ((HK11.out.drew).trans hK12)
            clear hO12 hK12
            try dsimp only
            refine hK.out _ _ (⟨HO12.out.p2.cells 0, HO12.out.p2.cells 1, HO12.out.p2.cells 2⟩) ?_
            clear hK K
            try simp only [Act.put, List.setIfInBounds_toArray, List.set_cons_zero, List.set_cons_succ]
            repeat (first
              | (refine wpL_read (by rfl) (by rfl) ?_ ?_ ?_; rotate_left; (rintro w ⟨z0, z1, z2⟩; go_simp; with_reducible rfl); simp only [Act.put, List.setIfInBounds_toArray, List.set_cons_zero, List.set_cons_succ]) | (refine wpL_skip (by rfl) ?_; simp only [Act.put, List.setIfInBounds_toArray, List.set_cons_zero, List.set_cons_succ]))
            refine wpL_act (by rfl) (by rfl) (fun K hK => ?_)
            go_simp
            refine (bOf0 g.b _ _ (by have := may_iff.1 HM.out; omega) HO12.out).mono ?_
            rintro e w13 ⟨v13, rfl, hO13, hK13⟩
            have HO13 := hid hO13
            have HK13 := hid ((HK12.out).trans hK13)
            clear hO13 hK13
            try dsimp only
            refine hK.out _ _ (⟨HO13.out.p3.cells 0, HO13.out.p3.cells 1, HO13.out.p3.cells 2⟩) ?_
            clear hK K
            try simp only [Act.put, List.setIfInBounds_toArray, List.set_cons_zero, List.set_cons_succ]
            obtain ⟨py, cy, rfl, -⟩ := (Bytes.rd HO13.out).form
            repeat (first
              | (refine wpL_read (by rfl) (by rfl) ?_ ?_ ?_; rotate_left; (rintro w ⟨z0, z1, z2⟩; go_simp; with_reducible rfl); simp only [Act.put, List.setIfInBounds_toArray, List.set_cons_zero, List.set_cons_succ]) | (refine wpL_skip (by rfl) ?_; simp only [Act.put, List.setIfInBounds_toArray, List.set_cons_zero, List.set_cons_succ]))
            refine wpL_act (by rfl) (by rfl) (fun K hK => ?_)
            go_simp
            refine (gpLay (nodesL g k) _ _ _ _ _ (nodes_len HM.out k) (blks_len HM.out) (fun w' h => Bytes.rd h.p1) (fun w' h => Bytes.rd h) HO13.out).mono ?_
            rintro e w14 ⟨v14, rfl, hO14, hK14⟩
            have HO14 := hid hO14
            have HK14 := hid ((HK13.out).trans hK14)
            clear hO14 hK14
            try dsimp only
            refine hK.out _ _ (⟨HO14.out.p4.cells 0, HO14.out.p4.cells 1, HO14.out.p4.cells 2⟩) ?_
            clear hK K
            try simp only [Act.put, List.setIfInBounds_toArray, List.set_cons_zero, List.set_cons_succ]
            obtain ⟨pz, cz, rfl, -⟩ := (Bytes.rd HO14.out).form
            have HP := hid (show Has w14 (Bytes (.slice pz (sealL 71 (groupB (nodesL g k) (zs ((g.b + 7) / 8).toNat))).length cz) (grpL g k) :: Wrt (.slice (some ⟨gi, 0, none⟩) n n) (grpT g (startT g n) k) :: pt b0 (.cells (gcell g) 24) :: L) from HO14.out.re 5 [0, 3, 4])
            obtain ⟨hf, u1, hcell1⟩ := Wrt.cell HP.out.p1 j (by rw [grpT_len, startT_len]; exact HJ.out.2.1)
            have HO15 := hid (Wrt.set HP.out j (by rw [grpT_len, startT_len]; exact HJ.out.2.1))
            have HK15 := hid (HK14.out.set ⟨gi, j, none⟩ (.slice pz (sealL 71 (groupB (nodesL g k) (zs ((g.b + 7) / 8).toNat))).length cz))
            repeat (first
              | (refine wpL_read (by rfl) (by rfl) ?_ ?_ ?_; rotate_left; (rintro w ⟨z0, z1, z2⟩; go_simp; with_reducible rfl); simp only [Act.put, List.setIfInBounds_toArray, List.set_cons_zero, List.set_cons_succ]) | (refine wpL_skip (by rfl) ?_; simp only [Act.put, List.setIfInBounds_toArray, List.set_cons_zero, List.set_cons_succ]))
            refine wpL_act (by rfl) (by rfl) (fun K hK => ?_)
            go_simp
            refine hK.out _ _ ⟨HO15.out.p1.cells 0, HO15.out.p1.cells 1, HO15.out.p1.cells 2⟩ ?_
            clear hK K
            try simp only [Act.put, List.setIfInBounds_toArray, List.set_cons_zero, List.set_cons_succ]
            refine wpL_nil ?_
            go_wp2_with fail
            have hb := (may_iff.1 HM.out).2.1
            rw [show wrap64 ((k : Int) + 1) = ((k + 1 : Nat) : Int) from by rw [wrap_in _ (by omega)]; omega]
            exact ⟨⟨k + 1, by omega, rfl, hid (show Has _ (Wrt _ ((grpT g (startT g n) k).set (2 + (k : Int) * long g).toNat (grpL g k)) :: _) from by rw [HJ.out.2.2]; exact HO15.out), HK15⟩, by simp [intOf]; omega⟩
          · have hki0 : ((k : Int) == 0) = false := by simpa using hk0
            have HOX := hid (show Has w10 (Bytes v10 (nodesL g k) :: Wrt (.slice (some ⟨gi, 0, none⟩) n n) (grpT g (startT g n) k) :: pt b0 (.cells (gcell g) 24) :: L) from by
              have h := HO10.out
              unfold nodesL
              rwa [if_neg hk0])
            clear HO10
            obtain ⟨px, cx, rfl, -⟩ := (Bytes.rd HOX.out).form
            clear hc
            have hc := HOX.out.p2.cells
            go_wp2_with fail
            clear hc
            refine region_text (fun w' => w'.cell? ⟨b0, 0, none⟩ = some (.int .i64 g.n) ∧ w'.cell? ⟨b0, 1, none⟩ = some (.int .i64 g.i) ∧ w'.cell? ⟨b0, 2, none⟩ = some (.int .i64 g.b)) (by kernel_rfl) (by kernel_rfl) ⟨HOX.out.drew.p2.cells 0, HOX.out.drew.p2.cells 1, HOX.out.drew.p2.cells 2⟩ ?_
            repeat (first
              | (refine wpL_read (by rfl) (by rfl) ?_ ?_ ?_; rotate_left; (rintro w ⟨z0, z1, z2⟩; go_simp; with_reducible rfl); simp only [Act.put, List.setIfInBounds_toArray, List.set_cons_zero, List.set_cons_succ]) | (refine wpL_skip (by rfl) ?_; simp only [Act.put, List.setIfInBounds_toArray, List.set_cons_zero, List.set_cons_succ]))
            refine wpL_act (by rfl) (by rfl) (fun K hK => ?_)
            go_simp
            refine (HG.out _ _ HOX.out.drew).mono ?_
            rintro e w12 ⟨rfl, hO12, hK12⟩
            have HO12 := hid hO12
            have HK12 := hid ((HK10.out.drew).trans hK12)
            clear hO12 hK12
            try dsimp only
            refine hK.out _ _ (⟨HO12.out.p2.cells 0, HO12.out.p2.cells 1, HO12.out.p2.cells 2⟩) ?_
            clear hK K
            try simp only [Act.put, List.setIfInBounds_toArray, List.set_cons_zero, List.set_cons_succ]
            repeat (first
              | (refine wpL_read (by rfl) (by rfl) ?_ ?_ ?_; rotate_left; (rintro w ⟨z0, z1, z2⟩; go_simp; with_reducible rfl); simp only [Act.put, List.setIfInBounds_toArray, List.set_cons_zero, List.set_cons_succ]) | (refine wpL_skip (by rfl) ?_; simp only [Act.put, List.setIfInBounds_toArray, List.set_cons_zero, List.set_cons_succ]))
            refine wpL_act (by rfl) (by rfl) (fun K hK => ?_)
            go_simp
            refine (bOf0 g.b _ _ (by have := may_iff.1 HM.out; omega) HO12.out).mono ?_
            rintro e w13 ⟨v13, rfl, hO13, hK13⟩
            have HO13 := hid hO13
            have HK13 := hid ((HK12.out).trans hK13)
            clear hO13 hK13
            try dsimp only
            refine hK.out _ _ (⟨HO13.out.p3.cells 0, HO13.out.p3.cells 1, HO13.out.p3.cells 2⟩) ?_
            clear hK K
            try simp only [Act.put, List.setIfInBounds_toArray, List.set_cons_zero, List.set_cons_succ]
            obtain ⟨py, cy, rfl, -⟩ := (Bytes.rd HO13.out).form
            repeat (first
              | (refine wpL_read (by rfl) (by rfl) ?_ ?_ ?_; rotate_left; (rintro w ⟨z0, z1, z2⟩; go_simp; with_reducible rfl); simp only [Act.put, List.setIfInBounds_toArray, List.set_cons_zero, List.set_cons_succ]) | (refine wpL_skip (by rfl) ?_; simp only [Act.put, List.setIfInBounds_toArray, List.set_cons_zero, List.set_cons_succ]))
            refine wpL_act (by rfl) (by rfl) (fun K hK => ?_)
            go_simp
            refine (gpLay (nodesL g k) _ _ _ _ _ (nodes_len HM.out k) (blks_len HM.out) (fun w' h => Bytes.rd h.p1) (fun w' h => Bytes.rd h) HO13.out).mono ?_
            rintro e w14 ⟨v14, rfl, hO14, hK14⟩
            have HO14 := hid hO14
            have HK14 := hid ((HK13.out).trans hK14)
            clear hO14 hK14
            try dsimp only
            refine hK.out _ _ (⟨HO14.out.p4.cells 0, HO14.out.p4.cells 1, HO14.out.p4.cells 2⟩) ?_
            clear hK K
            try simp only [Act.put, List.setIfInBounds_toArray, List.set_cons_zero, List.set_cons_succ]
            obtain ⟨pz, cz, rfl, -⟩ := (Bytes.rd HO14.out).form
            have HP := hid (show Has w14 (Bytes (.slice pz (sealL 71 (groupB (nodesL g k) (zs ((g.b + 7) / 8).toNat))).length cz) (grpL g k) :: Wrt (.slice (some ⟨gi, 0, none⟩) n n) (grpT g (startT g n) k) :: pt b0 (.cells (gcell g) 24) :: L) from HO14.out.re 5 [0, 3, 4])
            obtain ⟨hf, u1, hcell1⟩ := Wrt.cell HP.out.p1 j (by rw [grpT_len, startT_len]; exact HJ.out.2.1)
            have HO15 := hid (Wrt.set HP.out j (by rw [grpT_len, startT_len]; exact HJ.out.2.1))
            have HK15 := hid (HK14.out.set ⟨gi, j, none⟩ (.slice pz (sealL 71 (groupB (nodesL g k) (zs ((g.b + 7) / 8).toNat))).length cz))
            repeat (first
              | (refine wpL_read (by rfl) (by rfl) ?_ ?_ ?_; rotate_left; (rintro w ⟨z0, z1, z2⟩; go_simp; with_reducible rfl); simp only [Act.put, List.setIfInBounds_toArray, List.set_cons_zero, List.set_cons_succ]) | (refine wpL_skip (by rfl) ?_; simp only [Act.put, List.setIfInBounds_toArray, List.set_cons_zero, List.set_cons_succ]))
            refine wpL_act (by rfl) (by rfl) (fun K hK => ?_)
            go_simp
            refine hK.out _ _ ⟨HO15.out.p1.cells 0, HO15.out.p1.cells 1, HO15.out.p1.cells 2⟩ ?_
            clear hK K
            try simp only [Act.put, List.setIfInBounds_toArray, List.set_cons_zero, List.set_cons_succ]
            refine wpL_nil ?_
            go_wp2_with fail
            have hb := (may_iff.1 HM.out).2.1
            rw [show wrap64 ((k : Int) + 1) = ((k + 1 : Nat) : Int) from by rw [wrap_in _ (by omega)]; omega]
            exact ⟨⟨k + 1, by omega, rfl, hid (show Has _ (Wrt _ ((grpT g (startT g n) k).set (2 + (k : Int) * long g).toNat (grpL g k)) :: _) from by rw [HJ.out.2.2]; exact HO15.out), HK15⟩, by simp [intOf]; omega⟩
        · have HO16 := hid (show Has wr (Wrt (.slice (some ⟨gi, 0, none⟩) n n) (grpT g (startT g n) g.n.toNat) :: pt b0 (.cells (gcell g) 24) :: L) from by
            rw [show g.n.toNat = k by omega]
            exact HO.out)
          have HK16 := hid HK.out
          clear HO HK hk
          go_wp2_with fail
          clear hki
          obtain ⟨Q, hQ, hQ1, hQ2, hQ3⟩ := inodes_four HM.out
          have HQ := hid (And.intro hQ (And.intro hQ1 (And.intro hQ2 hQ3)))
          clear hQ hQ1 hQ2 hQ3
          go_loopw [9] (fun i w' => ∃ q : Nat, q ≤ Q ∧ i = .int .i64 (1 + 4 * (q : Int)) ∧ Hid (Has w' (Wrt (.slice (some ⟨gi, 0, none⟩) n n) (inoT g (grpT g (startT g n) g.n.toNat) q) :: pt b0 (.cells (gcell g) 24) :: L)) ∧ Hid (Keep w w')) (fun i _ => 4 * Q + 10 - (intOf i).toNat)
          case atStart => exact ⟨0, by omega, rfl, HO16, HK16⟩
          case round =>
            clear HO16 HK16
            obtain ⟨q, hq, rfl, HO, HK⟩ := hrel
            have HIN : Hid (∀ w' L, Has w' L → Calls Try.prog 26 #[.agg #[.int .i64 g.n, .int .i64 g.i, .int .i64 g.b]] w' fun e w'' => e = .returned (.int .i64 (4 * (Q : Int))) ∧ Has w'' L ∧ Keep w' w'') := hid fun w' L h => by
              have := gInodes g w' L h
              rwa [HQ.out.1] at this
            have hc := HO.out.p1.cells
            by_cases hlt : q < Q
            · have hle : 1 + 4 * (q : Int) ≤ 4 * (Q : Int) := by omega
              obtain ⟨j, hj, hjn, hjt⟩ := ino_at HM.out HN.out HQ.out.1 hlt
              have HJ := hid (And.intro hj (And.intro hjn hjt))
              have hjl : (j : Int) < (n : Int) := by omega
              have HGI : Hid (∀ w' L, Has w' L → Calls Try.prog 37 #[.agg #[.int .i64 g.n, .int .i64 g.i, .int .i64 g.b], .int .i64 (1 + 4 * (q : Int))] w' fun e w'' => e = .returned (.tuple #[.int .i64 (j : Int), .int .i64 ((1 + 4 * (q : Int) - 1) % g.i % 4)]) ∧ Has w'' L ∧ Keep w' w'') := hid fun w' L h => by
                have := gInode g (1 + 4 * (q : Int)) w' L HM.out ⟨by omega, by rw [HQ.out.1]; exact hle⟩ h
                rwa [HJ.out.1] at this
              clear hj hjn hjt
              go_wp2_with fail
              refine (HIN.out _ _ HO.out).mono ?_
              rintro e w20 ⟨rfl, hO20, hK20⟩
              have HO20 := hid hO20
              have HK20 := hid ((HK.out).trans hK20)
              clear hO20 hK20
              try dsimp only
              clear hc HO HK HIN
              have HB := hid (HO20.out.alloc (.cells (ics 0 0) 66))
              have HKB := hid (HK20.out.alloc (.cells (ics 0 0) 66))
              by_cases hq0 : q = 0
              · have HZ := hid hq0
                have hq1 : ((1 + 4 * (q : Int)) == 1) = true := by simp [hq0]
                clear hq0
                go_wp2_with (first | (with_reducible refine wpList_allocAs rfl 66 rfl (ics 0 0) zero44 ?_) | (with_reducible refine wpList_storeAt rfl 65 _ _ rfl w20.heap.size 0 (ics 0 0) (icell 2 1) 66 HB.out rfl rfl (fun _ => rfl) (by decide) (by simp [ics, icell]) ?_))
                intro w21 h21 k21
                have HB2 := hid (show Has w21 (pt w20.heap.size (.cells (ics 2 1) 66) :: Wrt (.slice (some ⟨gi, 0, none⟩) n n) (inoT g (grpT g (startT g n) g.n.toNat) q) :: pt b0 (.cells (gcell g) 24) :: L) from h21)
                have HKB2 := hid (HKB.out.trans k21)
                clear h21 k21 HB HKB
                generalize w20.heap.size = gq at *
                have hc := HB2.out.p2.cells
                go_wp2_with fail
                refine (HGI.out _ _ HB2.out).mono ?_
                rintro e w22 ⟨rfl, hO22, hK22⟩
                have HO22 := hid hO22
                have HK22 := hid (HKB2.out.trans hK22)
                clear hO22 hK22 hc HB2 HKB2
                dsimp only
                have hL := load44 (ics 2 1) (ics_size 2 1) gq w22 HO22.out.cells
                go_wp2_with (with_reducible refine wpList_loadAll rfl 66 _ rfl (.pointer (some ⟨gq, 0, none⟩)) (.agg (ics 2 1)) rfl hL ?_)
                refine (iLay 2 1 (.inr ⟨rfl, rfl⟩) w22 _ HO22.out).mono ?_
                rintro e w23 ⟨v23, rfl, hO23, hK23⟩
                have HK23 := hid (HK22.out.trans hK23)
                obtain ⟨pz, cz, rfl, -⟩ := (Bytes.rd hO23).form
                have HP := hid (show Has w23 (Bytes (.slice pz (sealL 73 (inoB 2 1 ++ zs 69)).length cz) (inoS q) :: Wrt (.slice (some ⟨gi, 0, none⟩) n n) (inoT g (grpT g (startT g n) g.n.toNat) q) :: pt b0 (.cells (gcell g) 24) :: L) from by
                  have h := hO23.re 4 [0, 2, 3]
                  unfold inoS rootK rootL
                  rw [if_pos HZ.out, if_pos HZ.out]
                  exact h)
                clear hO23 hK23 hL HO22 HK22
                obtain ⟨hf, u1, hcell1⟩ := Wrt.cell HP.out.p1 j (by rw [inoT_len, grpT_len, startT_len]; exact HJ.out.2.1)
                have HO25 := hid (Wrt.set HP.out j (by rw [inoT_len, grpT_len, startT_len]; exact HJ.out.2.1))
                have HK25 := hid (HK23.out.set ⟨gi, j, none⟩ (.slice pz (sealL 73 (inoB 2 1 ++ zs 69)).length cz))
                dsimp only
                go_wp2_with fail
                have hb := HQ.out.2.2.1
                rw [show wrap64 (1 + 4 * (q : Int) + 4) = 1 + 4 * ((q + 1 : Nat) : Int) from by rw [wrap_in _ (by omega)]; omega]
                exact ⟨⟨q + 1, by omega, rfl, hid (show Has _ (Wrt _ ((inoT g (grpT g (startT g n) g.n.toNat) q).set (inoI g q) (inoS q)) :: _) from by rw [HJ.out.2.2]; exact HO25.out), HK25⟩, by simp [intOf]; omega⟩
              · have HZ := hid hq0
                have hq1 : ((1 + 4 * (q : Int)) == 1) = false := by simp; omega
                clear hq0
                have hc := HB.out.p2.cells
                go_wp2_with (with_reducible refine wpList_allocAs rfl 66 rfl (ics 0 0) zero44 ?_)
                generalize w20.alloc (.cells (ics 0 0) 66) = w21 at *
                generalize w20.heap.size = gq at *
                refine (HGI.out _ _ HB.out).mono ?_
                rintro e w22 ⟨rfl, hO22, hK22⟩
                have HO22 := hid hO22
                have HK22 := hid (HKB.out.trans hK22)
                clear hO22 hK22 hc HB HKB
                dsimp only
                have hL := load44 (ics 0 0) (ics_size 0 0) gq w22 HO22.out.cells
                go_wp2_with (with_reducible refine wpList_loadAll rfl 66 _ rfl (.pointer (some ⟨gq, 0, none⟩)) (.agg (ics 0 0)) rfl hL ?_)
                refine (iLay 0 0 (.inl ⟨rfl, rfl⟩) w22 _ HO22.out).mono ?_
                rintro e w23 ⟨v23, rfl, hO23, hK23⟩
                have HK23 := hid (HK22.out.trans hK23)
                obtain ⟨pz, cz, rfl, -⟩ := (Bytes.rd hO23).form
                have HP := hid (show Has w23 (Bytes (.slice pz (sealL 73 (inoB 0 0 ++ zs 69)).length cz) (inoS q) :: Wrt (.slice (some ⟨gi, 0, none⟩) n n) (inoT g (grpT g (startT g n) g.n.toNat) q) :: pt b0 (.cells (gcell g) 24) :: L) from by
                  have h := hO23.re 4 [0, 2, 3]
                  unfold inoS rootK rootL
                  rw [if_neg HZ.out, if_neg HZ.out]
                  exact h)
                clear hO23 hK23 hL HO22 HK22
                obtain ⟨hf, u1, hcell1⟩ := Wrt.cell HP.out.p1 j (by rw [inoT_len, grpT_len, startT_len]; exact HJ.out.2.1)
                have HO25 := hid (Wrt.set HP.out j (by rw [inoT_len, grpT_len, startT_len]; exact HJ.out.2.1))
                have HK25 := hid (HK23.out.set ⟨gi, j, none⟩ (.slice pz (sealL 73 (inoB 0 0 ++ zs 69)).length cz))
                dsimp only
                go_wp2_with fail
                have hb := HQ.out.2.2.1
                rw [show wrap64 (1 + 4 * (q : Int) + 4) = 1 + 4 * ((q + 1 : Nat) : Int) from by rw [wrap_in _ (by omega)]; omega]
                exact ⟨⟨q + 1, by omega, rfl, hid (show Has _ (Wrt _ ((inoT g (grpT g (startT g n) g.n.toNat) q).set (inoI g q) (inoS q)) :: _) from by rw [HJ.out.2.2]; exact HO25.out), HK25⟩, by simp [intOf]; omega⟩
            · have hle : ¬ (1 + 4 * (q : Int) ≤ 4 * (Q : Int)) := by omega
              go_wp2_with fail
              refine (HIN.out _ _ HO.out).mono ?_
              rintro e w20 ⟨rfl, hO20, hK20⟩
              have HO20 := hid hO20
              have HK20 := hid ((HK.out).trans hK20)
              clear hO20 hK20
              try dsimp only
              clear hc HO HK HIN
              go_wp2_with fail
              go_ret
              refine ⟨_, rfl, ?_, HK20.out⟩
              have h := HO20.out.p1.drop
              unfold imgL
              rw [HQ.out.2.2.2, show (sectors g).toNat = n by have := HN.out; omega]
              rwa [show q = Q by omega] at h
end Go.Proofs.Ytbggnbahmdgbdaa
/- THE WALKS of mkfs.fits and mkfs.Fit. -/
namespace Go.Proofs.Ytbggnbahmdgbdaa
open Go.RowKit Go.Own Go.Gm
theorem two_boxes {w : World} {L : List HP} (o1 o2 : Obj) (hO : Has w L) : Has ((w.alloc o1).alloc o2) (pt (w.heap.size + 1) o2 :: pt w.heap.size o1 :: L) := by
  have h := (hO.alloc o1).alloc o2
  rwa [show (w.alloc o1).heap.size = w.heap.size + 1 from Array.size_push _] at h
theorem geo_result {fn : Func} {p : Tmp} {tmps : Array Value} {w : World} {L : List HP} {r : Nat} (g : Geo) (h : fn.results = #[.cell p 24]) (ht : tmps.getD p undef = .pointer (some ⟨r, 0, none⟩)) (hO : Has w (pt r (.cells (gcell g) 24) :: L)) :
    (results fn tmps).run Try.prog w = .ok (geoV g) w := by
  have h0 : w.cell? ⟨r, 0, none⟩ = some (.int .i64 g.n) := hO.cells 0
  have h1 : w.cell? ⟨r, 1, none⟩ = some (.int .i64 g.i) := hO.cells 1
  have h2 : w.cell? ⟨r, 2, none⟩ = some (.int .i64 g.b) := hO.cells 2
  unfold results geoV
  rw [h]
  have ht2 : tmps[p]?.getD undef = .pointer (some ⟨r, 0, none⟩) := by rw [← ht]; simp
  clear hO h ht
  go_simp
set_option maxRecDepth 100000 in
set_option maxHeartbeats 8000000 in
theorem mFits (s n : Int) (w : World) (L : List HP) (hn : 1 ≤ n ∧ n ≤ 8) (hO : Has w L) :
    Calls Try.prog 25 #[.int .i64 s, .int .i64 n] w fun e w' => ∃ g, e = .returned (geoV g) ∧ Top s n g ∧ Has w' L ∧ Keep w w' := by
  have HO := hid (two_boxes (.cells (gcell zero) 24) (.cells (gcell zero) 24) hO)
  have HK := hid (((Keep.refl w).alloc (.cells (gcell zero) 24)).alloc (.cells (gcell zero) 24))
  have HN := hid hn
  clear hO hn
  go_enter Try.func25, Try.ntmps25
  go_wp2_with fail
  go_step3
  go_wp2_with fail
  go_step3
  go_wp2_with fail
  have hz : gcell zero = #[.int .i64 0, .int .i64 0, .int .i64 0] := rfl
  rw [hz] at HO HK
  clear hz
  generalize w.heap.size = r at *
  generalize hwb : (w.alloc (.cells #[.int .i64 0, .int .i64 0, .int .i64 0] 24)).alloc (.cells #[.int .i64 0, .int .i64 0, .int .i64 0] 24) = wb at *
  clear hwb
  go_loopw [6] (fun b w' => ∃ k : Int, 15 ≤ k ∧ k ≤ 96 ∧ b = .int .i64 k ∧ Hid (∀ x, Room s x → x.n = n → x.b ≤ k) ∧ Hid (Has w' (pt (r + 1) (.cells #[.int .i64 0, .int .i64 0, .int .i64 0] 24) :: pt r (.cells #[.int .i64 0, .int .i64 0, .int .i64 0] 24) :: L)) ∧ Hid (Keep w w')) (fun b _ => (intOf b - 15).toNat)
  case atStart => exact ⟨96, by omega, by omega, rfl, hid fun x hx _ => by have := may_iff.1 hx.1; omega, HO, HK⟩
  case round =>
    clear HO HK
    obtain ⟨k, hk1, hk2, rfl, HB, HO, HK⟩ := hrel
    by_cases hlt : 16 ≤ k
    · have hki : decide (k ≥ 16) = true := decide_eq_true hlt
      go_wp2_with fail
      go_loopw [7] (fun i w' => ∃ j : Int, 0 ≤ j ∧ j ≤ 32 ∧ j % 4 = 0 ∧ i = .int .i64 j ∧ Hid (∀ x, Room s x → x.n = n → x.b < k ∨ (x.b = k ∧ x.i ≤ j)) ∧ Hid (Has w' (pt (r + 1) (.cells #[.int .i64 0, .int .i64 0, .int .i64 0] 24) :: pt r (.cells #[.int .i64 0, .int .i64 0, .int .i64 0] 24) :: L)) ∧ Hid (Keep w w')) (fun i _ => (intOf i).toNat)
      case atStart => exact ⟨32, by omega, by omega, by omega, rfl, hid fun x hx hn => by have := may_iff.1 hx.1; have := HB.out x hx hn; omega, HO, HK⟩
      case round =>
        clear HO HK HB
        obtain ⟨j, hj1, hj2, hj4, rfl, HB, HO, HK⟩ := hrel
        by_cases hlj : 4 ≤ j
        · have hji : decide (j ≥ 4) = true := decide_eq_true hlj
          have HO2 := hid (HO.out.alloc (.cells #[.int .i64 n, .int .i64 j, .int .i64 k] 24))
          have HK2 := hid (HK.out.alloc (.cells #[.int .i64 n, .int .i64 j, .int .i64 k] 24))
          have hc := HO2.out.cells
          go_wp2_with fail
          refine (gSectors ⟨n, j, k⟩ _ _ HO2.out).mono ?_
          rintro e w3 ⟨rfl, hO3, hK3⟩
          have HO3 := hid hO3
          have HK3 := hid ((HK2.out).trans hK3)
          clear hO3 hK3
          try dsimp only
          clear hc HO2 HK2
          have hm : may ⟨n, j, k⟩ = true := may_iff.2 (by have := HN.out; simp only; omega)
          have HM := hid hm
          clear hm
          generalize wr.heap.size = bx at *
          by_cases hs : sectors ⟨n, j, k⟩ ≤ s
          · have HS := hid (show Room s ⟨n, j, k⟩ from ⟨HM.out, hs⟩)
            have hsi : decide (sectors ⟨n, j, k⟩ > s) = false := decide_eq_false (by omega)
            clear hs
            generalize hsv : sectors ⟨n, j, k⟩ = sv
            rw [hsv] at hsi
            clear hsv
            have c0 := HO3.out.cells
            have t1 := HO3.out.p1.thaw
            have c1 := HO3.out.p1.cells
            go_upto_region 11 with fail
            have HO5 := hid (show Has (((w3.setCell ⟨r + 1, 0, none⟩ (.int .i64 n)).setCell ⟨r + 1, 1, none⟩ (.int .i64 j)).setCell ⟨r + 1, 2, none⟩ (.int .i64 k)) (pt (r + 1) (.cells #[.int .i64 n, .int .i64 j, .int .i64 k] 24) :: pt r (.cells #[.int .i64 0, .int .i64 0, .int .i64 0] 24) :: L) from (((HO3.out.p1.set 0 (.int .i64 n)).set 1 (.int .i64 j)).set 2 (.int .i64 k)).p1.drop)
            have HK5 := hid (((HK3.out.set ⟨r + 1, 0, none⟩ (.int .i64 n)).set ⟨r + 1, 1, none⟩ (.int .i64 j)).set ⟨r + 1, 2, none⟩ (.int .i64 k))
            clear c0 t1 c1 HO3 HK3
            generalize ((w3.setCell ⟨r + 1, 0, none⟩ (.int .i64 n)).setCell ⟨r + 1, 1, none⟩ (.int .i64 j)).setCell ⟨r + 1, 2, none⟩ (.int .i64 k) = w5 at *
            have c1 := HO5.out.cells
            have c2 := HO5.out.p1.cells
            have t2 := HO5.out.p1.thaw
            go_wp2_with fail
            try rw [Exit.noGoto_ret]
            have HO6 := hid (show Has (((w5.setCell ⟨r, 0, none⟩ (.int .i64 n)).setCell ⟨r, 1, none⟩ (.int .i64 j)).setCell ⟨r, 2, none⟩ (.int .i64 k)) (pt r (.cells (gcell ⟨n, j, k⟩) 24) :: L) from (((HO5.out.p1.set 0 (.int .i64 n)).set 1 (.int .i64 j)).set 2 (.int .i64 k)).p1.drop)
            have HK6 := hid (((HK5.out.set ⟨r, 0, none⟩ (.int .i64 n)).set ⟨r, 1, none⟩ (.int .i64 j)).set ⟨r, 2, none⟩ (.int .i64 k))
            refine bodyPost_ret (geo_result ⟨n, j, k⟩ rfl rfl HO6.out) rfl ?_
            exact ⟨_, rfl, .inr ⟨HS.out, rfl, HB.out⟩, HO6.out.drop, HK6.out⟩
          · have hsi : decide (sectors ⟨n, j, k⟩ > s) = true := decide_eq_true (by omega)
            have HS := hid hs
            have HSX := hid (show ∀ x : Geo, x = ⟨n, j, k⟩ → ¬ sectors x ≤ s from fun x e => by rw [e]; exact hs)
            clear hs
            generalize sectors ⟨n, j, k⟩ = sv at *
            go_wp2_with fail
            refine ⟨⟨j - 4, by omega, by omega, by omega, by go_num, hid fun x hx hn => ?_, hid HO3.out.drop, HK3⟩, by simp [intOf]; omega⟩
            have h1 := may_iff.1 hx.1
            have h2 := HB.out x hx hn
            by_cases e : x.b = k ∧ x.i = j
            · have he : x = ⟨n, j, k⟩ := by cases x; simp_all
              exact absurd hx.2 (HSX.out x he)
            · omega
        · have hji : decide (j ≥ 4) = false := decide_eq_false hlj
          go_wp2_with fail
          refine ⟨⟨k - 1, by omega, by omega, by go_num, hid fun x hx hn => ?_, HO, HK⟩, by simp [intOf]; omega⟩
          have h1 := may_iff.1 hx.1
          have h2 := HB.out x hx hn
          omega
    · have hki : decide (k ≥ 16) = false := decide_eq_false hlt
      have c1 := HO.out.cells
      have c2 := HO.out.p1.cells
      have t2 := HO.out.p1.thaw
      go_wp2_with fail
      try rw [Exit.noGoto_ret]
      have HO6 := hid (show Has (((wr.setCell ⟨r, 0, none⟩ (.int .i64 0)).setCell ⟨r, 1, none⟩ (.int .i64 0)).setCell ⟨r, 2, none⟩ (.int .i64 0)) (pt r (.cells (gcell zero) 24) :: L) from (((HO.out.p1.set 0 (.int .i64 0)).set 1 (.int .i64 0)).set 2 (.int .i64 0)).p1.drop)
      have HK6 := hid (((HK.out.set ⟨r, 0, none⟩ (.int .i64 0)).set ⟨r, 1, none⟩ (.int .i64 0)).set ⟨r, 2, none⟩ (.int .i64 0))
      refine bodyPost_ret (geo_result zero rfl rfl HO6.out) rfl ?_
      exact ⟨_, rfl, .inl ⟨rfl, fun x hx hn => by have h1 := may_iff.1 hx.1; have h2 := HB.out x hx hn; omega⟩, HO6.out.drop, HK6.out⟩
end Go.Proofs.Ytbggnbahmdgbdaa
