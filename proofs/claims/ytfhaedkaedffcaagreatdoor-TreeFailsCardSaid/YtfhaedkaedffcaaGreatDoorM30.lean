/- TEXTS of mine, merged. -/
import Derived.Test.YtfhaedkaedffcaaGreatDoorM28
import Derived.Test.YtfhaedkaedffcaaGreatDoorM29
import Derived.Test.YtfhaedkaedffcaaGreatDoorM27
import Derived.Test.YtfhaedkaedffcaaGreatDoorRows
import Derived.Lay
import Derived.LaidMore
import Derived.SevenTiedAt
import Derived.HandedShaped
import Derived.Shelf.Vars
import Derived.ProofKit
import Derived.OpenShut
import Derived.Stop.Joined
/- SameTexts, SameAnswer, SameNodes, where they say yes. -/
namespace Go.Proofs.YtfhaedkaedffcaaGreatDoor
open Go.RowKit Go.Own
set_option maxRecDepth 100000 in
set_option maxHeartbeats 4000000 in
theorem textsYes (a b : Value) (xs : List Str) (w : World) (ha : Rd w a 1 xs.length (xs.map sV)) (hb : Rd w b 1 xs.length (xs.map sV)) :
    Calls Tryz.prog 68 #[a, b] w fun e w' => e = .returned (.bool true) ∧ ∃ n, w' = w.drewN n := by
  obtain ⟨pa, ca, rfl, hca, hla, hra⟩ := ha.form
  obtain ⟨pb, cb, rfl, hcb, hlb, hrb⟩ := hb.form
  have Hra := hid hra
  have Hrb := hid hrb
  clear hra hrb ha hb
  have hl : ((xs.length : Int) != (xs.length : Int)) = false := by simp
  go_enter Tryz.func68, Tryz.ntmps68
  go_wp2_with fail
  go_loopw [5] (fun i w' => ∃ k m : Nat, k ≤ xs.length ∧ i = .int .i64 k ∧ w' = w.drewN m) (fun i _ => xs.length - (intOf i).toNat)
  case atStart => exact ⟨0, 0, by omega, rfl, rfl⟩
  case round =>
    obtain ⟨k, m, hk, rfl, rfl⟩ := hrel
    by_cases hlt : k < xs.length
    · have hki : (k : Int) < (xs.length : Int) := by omega
      have hk0 : (0 : Int) ≤ (k : Int) := by omega
      obtain ⟨ga, oa, rfl, ra⟩ := Hra.out (by omega)
      obtain ⟨gb, ob, rfl, rb⟩ := Hrb.out (by omega)
      have h1 : w.cell? ⟨ga, oa + k, none⟩ = some (sV xs[k]) := by rw [ra k (by omega), List.getElem?_map, List.getElem?_eq_getElem hlt]; rfl
      have h2 : w.cell? ⟨gb, ob + k, none⟩ = some (sV xs[k]) := by rw [rb k (by omega), List.getElem?_map, List.getElem?_eq_getElem hlt]; rfl
      clear ra rb
      generalize xs[k] = x at *
      have hx : (x != x) = false := by simp
      go_upto_region 6 with fail
      refine region_text (fun w' => w'.cell? ⟨ga, oa + k, none⟩ = some (sV x) ∧ w'.cell? ⟨gb, ob + k, none⟩ = some (sV x)) (by kernel_rfl) (by kernel_rfl) ⟨h1, h2⟩ ?_
      repeat (first
        | (refine wpL_read (by rfl) (by rfl) ?_ ?_ ?_; rotate_left; (rintro w ⟨z0, z1⟩; go_simp; with_reducible rfl); simp only [Act.put, List.setIfInBounds_toArray, List.set_cons_zero, List.set_cons_succ]) | (refine wpL_skip (by rfl) ?_; simp only [Act.put, List.setIfInBounds_toArray, List.set_cons_zero, List.set_cons_succ]))
      refine wpL_nil ?_
      go_wp2_with fail
      go_roundw
      case rel => exact ⟨k + 1, m + 1, by omega, by go_num, rfl⟩
      case measure => simp [intOf]; omega
    · obtain rfl : k = xs.length := by omega
      have hki : ¬ (xs.length : Int) < (xs.length : Int) := by omega
      go_wp2_with fail
      go_ret
      exact ⟨rfl, m, rfl⟩
/-- Lists of files, read. -/
def RdNs (w : World) (v : Value) (os : List Sn) : Prop := Rd w v 5 os.length (snEnc os) ∧ ∀ s ∈ os, Rd w s.dv 1 s.data.length (bc s.data)
theorem rdNs_of {w : World} {L : List HP} {v : Value} {os : List Sn} (h : Has w (Sns v os :: L)) : RdNs w v os := by
  have h1 := sns_iff.1 h
  refine ⟨Has.rd h1, fun s hs => ?_⟩
  obtain ⟨A, B, rfl⟩ := List.append_of_mem hs
  have h2 : Has w (Bytes s.dv s.data :: (row v 44 5 (A ++ s :: B).length (snEnc (A ++ s :: B)) :: ((A.map fun s => Bytes s.dv s.data) ++ (B.map (fun s => Bytes s.dv s.data) ++ L)))) := by
    refine h1.perm ?_
    rw [List.map_append, List.map_cons, List.append_assoc, List.cons_append]
    exact (List.Perm.cons _ List.perm_middle).trans (List.Perm.swap _ _ _)
  exact Bytes.rd h2
theorem snEnc_at (os : List Sn) (k : Nat) (hk : k < os.length) (j : Nat) (hj : j < 5) : (snEnc os)[k * 5 + j]? = (os[k].enc)[j]? := by
  rw [snEnc_flat]
  induction os generalizing k with
  | nil => simp at hk
  | cons x R ih =>
    cases k with
    | zero =>
      simp only [List.flatMap_cons, List.getElem_cons_zero, Nat.zero_mul, Nat.zero_add]
      rw [List.getElem?_append_left (by simp [Sn.enc]; omega)]
    | succ k =>
      simp only [List.flatMap_cons, List.getElem_cons_succ]
      have hl : x.enc.length = 5 := rfl
      rw [List.getElem?_append_right (by omega), hl, show (k + 1) * 5 + j - 5 = k * 5 + j by omega]
      exact ih k (by simpa using hk)
set_option maxRecDepth 100000 in
set_option maxHeartbeats 4000000 in
theorem answerYes (a : Ans) (p1 : Option Addr) (c1 : Nat) (n1 : Option Addr) (m1 : Nat) (p2 : Option Addr) (c2 : Nat) (n2 : Option Addr) (m2 : Nat) (w : World) (L : List HP) (hO : Has w L) (hd1 : Rd w (.slice p1 a.data.length c1) 1 a.data.length (bc a.data)) (hd2 : Rd w (.slice p2 a.data.length c2) 1 a.data.length (bc a.data)) (hn1 : Rd w (.slice n1 a.names.length m1) 1 a.names.length (a.names.map sV)) (hn2 : Rd w (.slice n2 a.names.length m2) 1 a.names.length (a.names.map sV)) :
    Calls Tryz.prog 26 #[ansY a p1 c1 n1 m1, ansY a p2 c2 n2 m2] w fun e w' => e = .returned (.bool true) ∧ Has w' L ∧ Keep w w' := by
  have HD1 := hid hd1
  have HD2 := hid hd2
  have HN1 := hid hn1
  have HN2 := hid hn2
  clear hd1 hd2 hn1 hn2
  obtain ⟨code, n, kind, links, data, names⟩ := a
  dsimp only at HD1 HD2 HN1 HN2
  unfold ansY
  dsimp only
  have hx0 : (code == code) = true := by simp
  have hx1 : (n == n) = true := by simp
  have hx2 : (kind == kind) = true := by simp
  have hx3 : (links == links) = true := by simp
  have h1 := (hO.alloc (.cells #[.int .i64 code, .int .i64 n, .int .i64 kind, .int .i64 links, .slice p1 data.length c1, .slice n1 names.length m1] 29)).alloc (.cells #[.int .i64 code, .int .i64 n, .int .i64 kind, .int .i64 links, .slice p2 data.length c2, .slice n2 names.length m2] 29)
  have e1 : (w.alloc (.cells #[.int .i64 code, .int .i64 n, .int .i64 kind, .int .i64 links, .slice p1 data.length c1, .slice n1 names.length m1] 29)).heap.size = w.heap.size + 1 := by show (Array.push _ _).size = _; rw [Array.size_push]
  rw [e1] at h1
  have HO := hid h1
  have HK := hid (((Keep.refl w).alloc (.cells #[.int .i64 code, .int .i64 n, .int .i64 kind, .int .i64 links, .slice p1 data.length c1, .slice n1 names.length m1] 29)).alloc (.cells #[.int .i64 code, .int .i64 n, .int .i64 kind, .int .i64 links, .slice p2 data.length c2, .slice n2 names.length m2] 29))
  have GD1 := hid ((HD1.out.alloc (.cells #[.int .i64 code, .int .i64 n, .int .i64 kind, .int .i64 links, .slice p1 data.length c1, .slice n1 names.length m1] 29)).alloc (.cells #[.int .i64 code, .int .i64 n, .int .i64 kind, .int .i64 links, .slice p2 data.length c2, .slice n2 names.length m2] 29))
  have GD2 := hid ((HD2.out.alloc (.cells #[.int .i64 code, .int .i64 n, .int .i64 kind, .int .i64 links, .slice p1 data.length c1, .slice n1 names.length m1] 29)).alloc (.cells #[.int .i64 code, .int .i64 n, .int .i64 kind, .int .i64 links, .slice p2 data.length c2, .slice n2 names.length m2] 29))
  have GN1 := hid ((HN1.out.alloc (.cells #[.int .i64 code, .int .i64 n, .int .i64 kind, .int .i64 links, .slice p1 data.length c1, .slice n1 names.length m1] 29)).alloc (.cells #[.int .i64 code, .int .i64 n, .int .i64 kind, .int .i64 links, .slice p2 data.length c2, .slice n2 names.length m2] 29))
  have GN2 := hid ((HN2.out.alloc (.cells #[.int .i64 code, .int .i64 n, .int .i64 kind, .int .i64 links, .slice p1 data.length c1, .slice n1 names.length m1] 29)).alloc (.cells #[.int .i64 code, .int .i64 n, .int .i64 kind, .int .i64 links, .slice p2 data.length c2, .slice n2 names.length m2] 29))
  clear hO h1 e1 HD1 HD2 HN1 HN2
  go_enter Tryz.func26, Tryz.ntmps26
  go_upto_region 1 with fail
  generalize (w.alloc (.cells #[.int .i64 code, .int .i64 n, .int .i64 kind, .int .i64 links, .slice p1 data.length c1, .slice n1 names.length m1] 29)).alloc (.cells #[.int .i64 code, .int .i64 n, .int .i64 kind, .int .i64 links, .slice p2 data.length c2, .slice n2 names.length m2] 29) = y at *
  generalize w.heap.size = g1 at *
  generalize g1 + 1 = g2 at *
  have a0 : y.cell? ⟨g1, 0, none⟩ = some (.int .i64 code) := HO.out.p1.cells 0
  have a1 : y.cell? ⟨g1, 1, none⟩ = some (.int .i64 n) := HO.out.p1.cells 1
  have a2 : y.cell? ⟨g1, 2, none⟩ = some (.int .i64 kind) := HO.out.p1.cells 2
  have a3 : y.cell? ⟨g1, 3, none⟩ = some (.int .i64 links) := HO.out.p1.cells 3
  have a4 : y.cell? ⟨g1, 4, none⟩ = some (.slice p1 data.length c1) := HO.out.p1.cells 4
  have b0 : y.cell? ⟨g2, 0, none⟩ = some (.int .i64 code) := HO.out.cells 0
  have b1 : y.cell? ⟨g2, 1, none⟩ = some (.int .i64 n) := HO.out.cells 1
  have b2 : y.cell? ⟨g2, 2, none⟩ = some (.int .i64 kind) := HO.out.cells 2
  have b3 : y.cell? ⟨g2, 3, none⟩ = some (.int .i64 links) := HO.out.cells 3
  have b4 : y.cell? ⟨g2, 4, none⟩ = some (.slice p2 data.length c2) := HO.out.cells 4
  go_wp2_with fail
  refine (sameT _ _ data data y rfl GD1.out GD2.out).mono ?_
  rintro e w' ⟨rfl, nq5, rfl⟩
  have HO5 := hid ((HO.out).drewN nq5)
  have HK5 := hid ((HK.out).drewN nq5)
  try dsimp only
  have GN3 := hid (GN1.out.drewN nq5)
  have GN4 := hid (GN2.out.drewN nq5)
  clear GN1 GN2 GD1 GD2 HO HK a0 a1 a2 a3 a4 b0 b1 b2 b3 b4
  generalize y.drewN nq5 = y5 at *
  have a5 : y5.cell? ⟨g1, 5, none⟩ = some (.slice n1 names.length m1) := HO5.out.p1.cells 5
  have b5 : y5.cell? ⟨g2, 5, none⟩ = some (.slice n2 names.length m2) := HO5.out.cells 5
  go_wp2_with fail
  refine (textsYes _ _ names y5 GN3.out GN4.out).mono ?_
  rintro e w' ⟨rfl, nq6, rfl⟩
  have HO6 := hid ((HO5.out).drewN nq6)
  have HK6 := hid ((HK5.out).drewN nq6)
  try dsimp only
  generalize y5.drewN nq6 = y6 at *
  go_wp2_with fail
  go_ret
  exact ⟨rfl, HO6.out.drop.drop, HK6.out⟩
theorem nodesKey {os os' : List Sn} (hk : os.map Sn.key = os'.map Sn.key) (k : Nat) (h : k < os.length) (h' : k < os'.length) : os[k].key = os'[k].key := by
  have h1 := congrArg (fun l => l[k]?) hk
  simp only [List.getElem?_map, List.getElem?_eq_getElem h, List.getElem?_eq_getElem h', Option.map_some] at h1
  exact Option.some.inj h1
set_option maxRecDepth 100000 in
set_option maxHeartbeats 8000000 in
theorem nodesYes (v1 v2 : Value) (os os' : List Sn) (w : World) (h1 : RdNs w v1 os) (h2 : RdNs w v2 os') (hk : os.map Sn.key = os'.map Sn.key) :
    Calls Tryz.prog 27 #[v1, v2] w fun e w' => e = .returned (.bool true) ∧ ∃ n, w' = w.drewN n := by
  obtain ⟨pa, ca, rfl, hca, hla, hra⟩ := h1.1.form
  obtain ⟨pb, cb, rfl, hcb, hlb, hrb⟩ := h2.1.form
  have Hra := hid hra
  have Hrb := hid hrb
  have HD1 := hid h1.2
  have HD2 := hid h2.2
  have HKY := hid hk
  have hlen : os'.length = os.length := by
    have := congrArg List.length hk
    simpa using this.symm
  clear hra hrb h1 h2 hk
  have HL := hid hlen
  have hl : ((os.length : Int) != (os'.length : Int)) = false := by simp [hlen]
  clear hlen
  go_enter Tryz.func27, Tryz.ntmps27
  go_wp2_with fail
  go_loopw [5] (fun i w' => ∃ k m : Nat, k ≤ os.length ∧ i = .int .i64 k ∧ w' = w.drewN m) (fun i _ => os.length - (intOf i).toNat)
  case atStart => exact ⟨0, 0, by omega, rfl, rfl⟩
  case round =>
    obtain ⟨k, m, hk, rfl, rfl⟩ := hrel
    by_cases hlt : k < os.length
    · have hlt' : k < os'.length := by have := HL.out; omega
      have hki : (k : Int) < (os.length : Int) := by omega
      have hki' : (k : Int) < (os'.length : Int) := by omega
      have hk0 : (0 : Int) ≤ (k : Int) := by omega
      obtain ⟨ga, oa, rfl, ra⟩ := Hra.out (by omega)
      obtain ⟨gb, ob, rfl, rb⟩ := Hrb.out (by omega)
      have hkey := nodesKey HKY.out k hlt hlt'
      have hda := HD1.out os[k] (List.getElem_mem hlt)
      have hdb := HD2.out os'[k] (List.getElem_mem hlt')
      obtain ⟨ea, ta, hsa, -⟩ := hda.form
      obtain ⟨eb, tb, hsb, -⟩ := hdb.form
      have Ra : ∀ j, j < 5 → w.cell? ⟨ga, oa + (k * 5 + j), none⟩ = (os[k].enc)[j]? := fun j hj => (ra (k * 5 + j) (by omega)).trans (snEnc_at os k hlt j hj)
      have Rb : ∀ j, j < 5 → w.cell? ⟨gb, ob + (k * 5 + j), none⟩ = (os'[k].enc)[j]? := fun j hj => (rb (k * 5 + j) (by omega)).trans (snEnc_at os' k hlt' j hj)
      clear ra rb
      generalize os[k] = x at *
      generalize os'[k] = x' at *
      obtain ⟨path, num, kind, links, data, dv⟩ := x
      obtain ⟨path', num', kind', links', data', dv'⟩ := x'
      simp only [Sn.key, Prod.mk.injEq] at hkey
      obtain ⟨rfl, rfl, rfl, rfl, rfl⟩ := hkey
      dsimp only at hda hdb hsa hsb
      subst hsa hsb
      have a0 : w.cell? ⟨ga, oa + k * 5, none⟩ = some (sV path) := Ra 0 (by omega)
      have a1 : w.cell? ⟨ga, oa + k * 5 + 1, none⟩ = some (.int .i64 num) := by rw [Nat.add_assoc]; exact Ra 1 (by omega)
      have a2 : w.cell? ⟨ga, oa + k * 5 + 2, none⟩ = some (.int .i64 kind) := by rw [Nat.add_assoc]; exact Ra 2 (by omega)
      have a3 : w.cell? ⟨ga, oa + k * 5 + 3, none⟩ = some (.int .i64 links) := by rw [Nat.add_assoc]; exact Ra 3 (by omega)
      have a4 : w.cell? ⟨ga, oa + k * 5 + 4, none⟩ = some (.slice ea data.length ta) := by rw [Nat.add_assoc]; exact Ra 4 (by omega)
      have b0 : w.cell? ⟨gb, ob + k * 5, none⟩ = some (sV path) := Rb 0 (by omega)
      have b1 : w.cell? ⟨gb, ob + k * 5 + 1, none⟩ = some (.int .i64 num) := by rw [Nat.add_assoc]; exact Rb 1 (by omega)
      have b2 : w.cell? ⟨gb, ob + k * 5 + 2, none⟩ = some (.int .i64 kind) := by rw [Nat.add_assoc]; exact Rb 2 (by omega)
      have b3 : w.cell? ⟨gb, ob + k * 5 + 3, none⟩ = some (.int .i64 links) := by rw [Nat.add_assoc]; exact Rb 3 (by omega)
      have b4 : w.cell? ⟨gb, ob + k * 5 + 4, none⟩ = some (.slice eb data.length tb) := by rw [Nat.add_assoc]; exact Rb 4 (by omega)
      have HDA := hid hda
      have HDB := hid hdb
      clear Ra Rb hda hdb
      have hx0 : (path != path) = false := by simp
      have hx1 : (num != num) = false := by simp
      have hx2 : (kind != kind) = false := by simp
      have hx3 : (links != links) = false := by simp
      go_upto_region 6 with fail
      refine region_text (fun w' => w'.cell? ⟨ga, oa + k * 5, none⟩ = some (sV path) ∧ w'.cell? ⟨ga, oa + k * 5 + 1, none⟩ = some (.int .i64 num) ∧ w'.cell? ⟨ga, oa + k * 5 + 2, none⟩ = some (.int .i64 kind) ∧ w'.cell? ⟨ga, oa + k * 5 + 3, none⟩ = some (.int .i64 links) ∧ w'.cell? ⟨ga, oa + k * 5 + 4, none⟩ = some (.slice ea data.length ta) ∧ w'.cell? ⟨gb, ob + k * 5, none⟩ = some (sV path) ∧ w'.cell? ⟨gb, ob + k * 5 + 1, none⟩ = some (.int .i64 num) ∧ w'.cell? ⟨gb, ob + k * 5 + 2, none⟩ = some (.int .i64 kind) ∧ w'.cell? ⟨gb, ob + k * 5 + 3, none⟩ = some (.int .i64 links) ∧ w'.cell? ⟨gb, ob + k * 5 + 4, none⟩ = some (.slice eb data.length tb)) (by kernel_rfl) (by kernel_rfl) ⟨a0, a1, a2, a3, a4, b0, b1, b2, b3, b4⟩ ?_
      repeat (first
        | (refine wpL_read (by rfl) (by rfl) ?_ ?_ ?_; rotate_left; (rintro w ⟨z0, z1, z2, z3, z4, z5, z6, z7, z8, z9⟩; go_simp; with_reducible rfl); simp only [Act.put, List.setIfInBounds_toArray, List.set_cons_zero, List.set_cons_succ]) | (refine wpL_skip (by rfl) ?_; simp only [Act.put, List.setIfInBounds_toArray, List.set_cons_zero, List.set_cons_succ]))
      refine wpL_act (by rfl) (by rfl) (fun K hK => ?_)
      go_simp
      refine (sameT _ _ data data _ rfl (HDA.out.drewN _) (HDB.out.drewN _)).mono ?_
      rintro e w' ⟨rfl, nq, rfl⟩
      try dsimp only
      refine hK.out _ _ ⟨a0, a1, a2, a3, a4, b0, b1, b2, b3, b4⟩ ?_
      clear hK K
      try simp only [Act.put, List.setIfInBounds_toArray, List.set_cons_zero, List.set_cons_succ]
      repeat (first
        | (refine wpL_read (by rfl) (by rfl) ?_ ?_ ?_; rotate_left; (rintro w ⟨z0, z1, z2, z3, z4, z5, z6, z7, z8, z9⟩; go_simp; with_reducible rfl); simp only [Act.put, List.setIfInBounds_toArray, List.set_cons_zero, List.set_cons_succ]) | (refine wpL_skip (by rfl) ?_; simp only [Act.put, List.setIfInBounds_toArray, List.set_cons_zero, List.set_cons_succ]))
      refine wpL_nil ?_
      go_wp2_with fail
      go_roundw
      case rel => exact ⟨k + 1, _, by omega, by go_num, rfl⟩
      case measure => simp [intOf]; omega
    · obtain rfl : k = os.length := by omega
      have hki : ¬ (os.length : Int) < (os.length : Int) := by omega
      go_wp2_with fail
      go_ret
      exact ⟨rfl, m, rfl⟩
end Go.Proofs.YtfhaedkaedffcaaGreatDoor
/- HOW MANY FILES a tree has, plain. No program in sight. -/
namespace Go.Proofs.YtfhaedkaedffcaaGreatDoor
open Go.RowKit Go.Own
theorem nodup_lenS {α : Type} [DecidableEq α] {l : List α} : ∀ {l' : List α}, l.Nodup → (∀ x ∈ l, x ∈ l') → l.length ≤ l'.length := by
  induction l with
  | nil => intro l' _ _; simp
  | cons x l ih =>
    intro l' hn hs
    rw [List.nodup_cons] at hn
    have hx : x ∈ l' := hs x (by simp)
    have h1 := ih (l' := l'.erase x) hn.2 fun y hy => by
      have hne : y ≠ x := by rintro rfl; exact hn.1 hy
      exact (List.mem_erase_of_ne hne).2 (hs y (by simp [hy]))
    rw [List.length_erase_of_mem hx] at h1
    have : 0 < l'.length := List.length_pos_of_mem hx
    simp only [List.length_cons]
    omega
variable {S : Tre} {rk : Int → Nat} {k : Nat}
theorem Gd.files_nodup (h : Gd S rk k) : ((filesP S).map Prod.fst).Nodup := by
  obtain ⟨x1, hx1⟩ := h.x.has1
  unfold List.Nodup
  rw [List.pairwise_map]
  exact h.seenP_nodup 22 1 x1 [] hx1
def allP (S : Tre) : List (List Str) := [] :: S.nodes.flatMap fun p => p.2.names.map fun e => S.way p.1 ++ [e.1]
theorem Gd.files_sub (h : Gd S rk k) {e : List Str × Int × Nod} (he : e ∈ filesP S) : e.1 ∈ allP S := by
  obtain ⟨h1, h2⟩ := (h.files_mem e).1 he
  by_cases h0 : e.1 = []
  · rw [h0]; exact List.mem_cons_self
  · obtain ⟨qs, p, hq⟩ : ∃ qs p, e.1 = qs ++ [p] := ⟨e.1.dropLast, e.1.getLast h0, (List.dropLast_concat_getLast h0).symm⟩
    rw [hq] at h1 ⊢
    obtain ⟨d, hd, hf⟩ := goN_snoc h1
    obtain ⟨x1, hx1⟩ := h.x.has1
    obtain ⟨y, hy, _⟩ := h.go_there qs 1 x1 hx1 d hd
    rw [at_of hy] at hf
    have hk : y.kind = 2 := Classical.byContradiction fun h2 => by
      rw [((h.nod hy).file h2).1] at hf
      cases hf
    have hw := h.way_go qs.length qs d y rfl hy hk hd
    refine List.mem_cons_of_mem _ (List.mem_flatMap.2 ⟨(d, y), fnd_some hy, List.mem_map.2 ⟨_, fnd_some hf, ?_⟩⟩)
    show S.way d ++ [p] = _
    rw [hw]
theorem Gd.files_few (h : Gd S rk k) : (filesP S).length ≤ 1 + (k + 1) * k := by
  have h1 := nodup_lenS h.files_nodup (l' := allP S) fun x hx => by
    obtain ⟨e, he, rfl⟩ := List.mem_map.1 hx
    exact h.files_sub he
  rw [List.length_map] at h1
  have h2 : (allP S).length ≤ 1 + S.nodes.length * k := by
    unfold allP
    rw [List.length_cons, List.length_flatMap]
    have : ∀ t : List (Int × Nod), (∀ p ∈ t, p.2.names.length ≤ k) → (t.map fun p => (p.2.names.map fun e => S.way p.1 ++ [e.1]).length).sum ≤ t.length * k := by
      intro t
      induction t with
      | nil => intro _; simp
      | cons p t ih =>
        intro hp
        have h3 := ih fun q hq => hp q (List.mem_cons_of_mem _ hq)
        have h4 := hp p List.mem_cons_self
        rw [List.map_cons, List.sum_cons, List.length_map, List.length_cons, Nat.add_mul]
        omega
    have h5 := this S.nodes fun p hp => (h.nod (fnd_mem h.x.keys (show (p.1, p.2) ∈ S.nodes from hp))).size.2.2.1
    omega
  have h3 : S.nodes.length * k ≤ (k + 1) * k := Nat.mul_le_mul_right _ h.many
  omega
theorem Gd.files_few' (h : Gd S rk k) (hk : k < 900) : (filesP S).length ≤ 1000000 := by
  have h1 := h.files_few
  have h2 : (k + 1) * k ≤ 900 * 900 := Nat.mul_le_mul (by omega) (by omega)
  omega
end Go.Proofs.YtfhaedkaedffcaaGreatDoor
/- Steps of the laws that do a list of operations. -/
namespace Go.Proofs.YtfhaedkaedffcaaGreatDoor
open Go.RowKit Go.Own
theorem gdTake {R : List Oq} (hR : ∀ y ∈ R, greatM y = false) (k : Nat) (hk : k ≤ R.length) : Gdx (runM tre0 (R.take k)) k := by
  have h := runM_gd gdx0 (R.take k) fun y hy => hR y (List.mem_of_mem_take hy)
  rwa [List.length_take, Nat.min_eq_left hk, Nat.zero_add] at h
theorem gdRun {R : List Oq} (hR : ∀ y ∈ R, greatM y = false) : Gdx (runM tre0 R) R.length := by
  have h := gdTake hR R.length (Nat.le_refl _)
  rwa [List.take_length] at h
theorem stepCopy {S : Tre} {k : Nat} (q : Nat) (w : World) (L : List HP) (h : Gdx S k) (hk : k < 90000) (hO : Has w (Trc q S :: L)) :
    Calls Tryz.prog 25 #[.pointer (some ⟨q, 0, none⟩)] w fun e w' => ∃ q', e = .returned (.pointer (some ⟨q', 0, none⟩)) ∧ Has w' (Trc q' S :: Trc q S :: L) ∧ Keep w w' := by
  obtain ⟨rk, h⟩ := h
  exact tCopy q S w L (fun n x hx => ⟨(h.nod hx).size.1, (h.nod hx).size.2.1⟩) (by have := h.many; omega) hO
/-- One operation of a list. -/
theorem loopAt {R : List Oq} {k : Nat} (q : Nat) (mx : Int) (w : World) (L : List HP) (hR : ∀ y ∈ R, greatM y = false) (hk : k < R.length) (hn : R.length ≤ 1000) (hM : MxL mx L) (y : Oq) (hy : R[k] = y) (p : Option Addr) (m : Nat) (hwf : OpWf y.op) (hrd : ∀ w', Has w' L → Rd w' (.slice p y.data.length m) 1 y.data.length (bc y.data)) (hO : Has w (Trc q (runM tre0 (R.take k)) :: L)) :
    Calls Tryz.prog 17 #[.pointer (some ⟨q, 0, none⟩), .agg #[.int .i64 y.op.kind, .int .i64 y.op.fd, .int .i64 y.op.n, .int .i64 y.op.off, .int .i64 y.op.flags, sV y.op.path, sV y.op.dest, .slice p y.data.length m]] w fun e w' => ∃ v, e = .returned v ∧ Has w' (Trc q (runM tre0 (R.take (k + 1))) :: L) ∧ Keep w w' := by
  have hm : y ∈ R := hy ▸ List.getElem_mem hk
  have hg := greatM_no (hR y hm)
  refine (stepOq q mx w L (gdTake hR k (by omega)) (by omega) hM y.op p m y.data hg hwf hrd hO).mono ?_
  rintro e w' ⟨a, ca, b, cb, rfl, -, h1, h2⟩
  refine ⟨_, rfl, ?_, h2⟩
  rw [runM_take _ _ _ hk, hy]
  exact h1.drop.drop
theorem stepNodes' {S : Tre} {k : Nat} (q : Nat) (w : World) (L : List HP) (h : Gdx S k) (hk : k < 900) (hO : Has w (Trc q S :: L)) :
    Calls Tryz.prog 18 #[.pointer (some ⟨q, 0, none⟩)] w fun e w' => ∃ p c os, e = .returned (.slice p (os.length) c) ∧ (os.map Sn.key).Perm ((seen S.nodes 22 1 []).map keyE) ∧ Srt os ∧ Has w' (Sns (.slice p os.length c) os :: Trc q S :: L) ∧ Keep w w' := by
  have hf : (filesP S).length ≤ 1000000 := by
    obtain ⟨rk, h⟩ := h
    exact h.files_few' hk
  refine (stepNodes q w L h (by omega) hf hO).mono ?_
  rintro e w' ⟨p, c, os, rfl, hl, h1, h2, h3, h4⟩
  exact ⟨p, c, os, by rw [hl], h1, h2, h3, h4⟩
theorem keysOne {S : Tre} {k : Nat} (h : Gdx S k) {os os' : List Sn} (h1 : (os.map Sn.key).Perm ((seen S.nodes 22 1 []).map keyE)) (h2 : (os'.map Sn.key).Perm ((seen S.nodes 22 1 []).map keyE)) (s1 : Srt os) (s2 : Srt os') : os.map Sn.key = os'.map Sn.key := by
  obtain ⟨rk, h⟩ := h
  exact h.files_one h1 h2 s1 s2
theorem gdTab {S : Tre} {k : Nat} (h : Gdx S k) : S.tab.length = 16 := by
  obtain ⟨rk, h⟩ := h
  exact h.tab16
theorem failsG {S : Tre} {k : Nat} (h : Gdx S k) (o : Opm) (ds : List Int) (h1 : (S.doM o ds).1.code ≠ 0) : (S.doM o ds).2 = S := fail_doM (gdTab h) o ds h1
end Go.Proofs.YtfhaedkaedffcaaGreatDoor
/- THE WALK of TreeFails. -/
namespace Go.Proofs.YtfhaedkaedffcaaGreatDoor
open Go.RowKit Go.Own
set_option maxRecDepth 100000 in
set_option maxHeartbeats 16000000 in
theorem failsWalk (mx : Int) (v : Value) (R : List Oq) (y : Oq) (fd : Int) (W : World) (hmx : W.cell? ⟨0, 0, none⟩ = some (.int .i64 mx)) (hR : RdOps W v R) (hy : RdOp W y) :
    Calls Tryz.prog 11 #[v, opV y.op y.dv, .int .i64 fd] W fun e w' => e = .returned (.bool true) ∧ Below W.heap.size W w' := by
  obtain ⟨vp, vc, rfl, hvc, hvl⟩ := hR.form
  obtain ⟨⟨kind, ofd, nn, off, flags, path, dest⟩, dv, data⟩ := y
  obtain ⟨p, m, hpm, -⟩ := hy.1.form
  dsimp only at hpm
  subst hpm
  have HM := hid (mxStart hmx)
  have HR := hid (show ∀ w', Has w' [old W] → RdOps w' (.slice vp R.length vc) R from fun w' h => hR.start h)
  have HRW := hid hR
  have HY := hid (show ∀ w', Has w' [old W] → Rd w' (.slice p data.length m) 1 data.length (bc data) from fun w' h => rdStart hy.1 h)
  have HWF := hid hy.2
  obtain ⟨f, hf0, hf1⟩ := low_nat fd 16 (by decide)
  have HF := hid hf0
  have HP := hid ((Has.start W).alloc (.cells #[.int .i64 kind, .int .i64 ofd, .int .i64 nn, .int .i64 off, .int .i64 flags, sV path, sV dest, .slice p data.length m] 32))
  have HQ := hid ((Keep.refl W).alloc (.cells #[.int .i64 kind, .int .i64 ofd, .int .i64 nn, .int .i64 off, .int .i64 flags, sV path, sV dest, .slice p data.length m] 32))
  clear hmx hR hy hf0
  unfold opV opC
  dsimp only
  go_enter Tryz.func11, Tryz.ntmps11
  go_upto_region 1 with fail
  generalize W.alloc (.cells #[.int .i64 kind, .int .i64 ofd, .int .i64 nn, .int .i64 off, .int .i64 flags, sV path, sV dest, .slice p data.length m] 32) = y0 at *
  generalize hg0 : W.heap.size = g0 at *
  have HG0 := hid hg0
  clear hg0
  go_wp2_with fail
  refine (greatOps (.slice vp R.length vc) R 40 (by decide) W y0 [pt g0 (.cells #[.int .i64 kind, .int .i64 ofd, .int .i64 nn, .int .i64 off, .int .i64 flags, sV path, sV dest, .slice p data.length m] 32)] HRW.out (HP.out.re 2 [1, 0])).mono ?_
  rintro e w1 ⟨rfl, hO1, hK1⟩
  have HO1 := hid hO1
  have HK1 := hid ((HQ.out).trans hK1)
  clear hO1 hK1
  try dsimp only
  clear HP HQ
  cases hgo : greatOpsM R 40
  · have HGO := hid (greatOpsM_no hgo)
    have hR40 := HGO.out.1
    have HGR := hid HGO.out.2
    clear hgo HGO
    have c0 : w1.cell? ⟨g0, 0, none⟩ = some (.int .i64 kind) := (HO1.out.p1).cells 0
    have c1 : w1.cell? ⟨g0, 1, none⟩ = some (.int .i64 ofd) := (HO1.out.p1).cells 1
    have c2 : w1.cell? ⟨g0, 2, none⟩ = some (.int .i64 nn) := (HO1.out.p1).cells 2
    have c3 : w1.cell? ⟨g0, 3, none⟩ = some (.int .i64 off) := (HO1.out.p1).cells 3
    have c4 : w1.cell? ⟨g0, 4, none⟩ = some (.int .i64 flags) := (HO1.out.p1).cells 4
    have c5 : w1.cell? ⟨g0, 5, none⟩ = some (sV path) := (HO1.out.p1).cells 5
    have c6 : w1.cell? ⟨g0, 6, none⟩ = some (sV dest) := (HO1.out.p1).cells 6
    have c7 : w1.cell? ⟨g0, 7, none⟩ = some (.slice p data.length m) := (HO1.out.p1).cells 7
    go_wp2_with fail
    refine (great ⟨kind, ofd, nn, off, flags, path, dest⟩ p data.length m w1 _ HO1.out).mono ?_
    rintro e w2 ⟨rfl, hO2, hK2⟩
    have HO2 := hid hO2
    have HK2 := hid ((HK1.out).trans hK2)
    clear hO2 hK2
    try dsimp only
    clear HO1 HK1 c0 c1 c2 c3 c4 c5 c6 c7
    try dsimp only
    cases hgr : (decide (300 < path.length) || decide (300 < dest.length) || decide (3000 < data.length))
    · have HLM := hid (show path.length ≤ 300 ∧ dest.length ≤ 300 ∧ data.length ≤ 3000 from by
        simp only [Bool.or_eq_false_iff, decide_eq_false_iff_not] at hgr
        omega)
      clear hgr
      go_wp2_with fail
      refine (tNew w2 _ HO2.out).mono ?_
      rintro e w3 ⟨q, rfl, hO3, hK3⟩
      have HO3 := hid hO3
      have HK3 := hid ((HK2.out).trans hK3)
      clear hO3 hK3
      try dsimp only
      clear HO2 HK2
      have HP3 := hid (HO3.out.re 3 [0, 2, 1])
      clear HO3
      go_wp2_with fail
      go_loopw [8] (fun i w => ∃ (k : Nat) (w0 : World), w0 = w ∧ k ≤ R.length ∧ i = .int .i64 k ∧ Hid (Has w0 (Trc q (runM tre0 (R.take k)) :: [pt g0 (.cells #[.int .i64 kind, .int .i64 ofd, .int .i64 nn, .int .i64 off, .int .i64 flags, sV path, sV dest, .slice p data.length m] 32), old W])) ∧ Hid (Keep W w0)) (fun i _ => R.length - (intOf i).toNat)
      case atStart => exact ⟨0, _, rfl, by omega, rfl, HP3, HK3⟩
      case round =>
        clear HP3 HK3
        obtain ⟨k, w0, rfl, hk, rfl, HOw, HKw⟩ := hrel
        by_cases hlt : k < R.length
        · have hki : (k : Int) < (R.length : Int) := by omega
          have hk0 : (0 : Int) ≤ (k : Int) := by omega
          obtain ⟨g, o, c, pp, mm, hv, hdv, c0, c1, c2, c3, c4, c5, c6, c7⟩ := (HR.out _ (HOw.out.drop.drop)).eight k hlt
          simp only [Value.slice.injEq] at hv
          obtain ⟨rfl, -, rfl⟩ := hv
          have hrd0 := (HR.out _ (HOw.out.drop.drop)).2 _ (List.getElem_mem hlt)
          obtain ⟨yy, hyy⟩ : ∃ yy, R[k] = yy := ⟨_, rfl⟩
          rw [hyy] at hdv c0 c1 c2 c3 c4 c5 c6 c7 hrd0
          have HRD := hid (show ∀ w', Has w' ([pt g0 (.cells #[.int .i64 kind, .int .i64 ofd, .int .i64 nn, .int .i64 off, .int .i64 flags, sV path, sV dest, .slice p data.length m] 32), old W]) → Rd w' (.slice pp yy.data.length mm) 1 yy.data.length (bc yy.data) from fun w' h => by
            have := (HR.out _ (h.drop)).2 R[k] (List.getElem_mem hlt)
            rw [hyy] at this
            have h2 := this.1
            rw [hdv] at h2
            exact h2)
          have HYY := hid hyy
          have HW := hid hrd0.2
          clear hyy hdv hrd0
          go_wp2_with fail
          refine (loopAt q mx w0 _ HGR.out hlt (by omega) ((HM.out.cons _)) yy HYY.out pp mm HW.out HRD.out HOw.out).mono ?_
          rintro e w41 ⟨v41, rfl, hO41, hK41⟩
          have HO41 := hid hO41
          have HK41 := hid ((HKw.out).trans hK41)
          clear hO41 hK41
          try dsimp only
          clear HOw HKw c0 c1 c2 c3 c4 c5 c6 c7 HRD HYY HW
          go_wp2_with fail
          go_roundw
          case rel => exact ⟨k + 1, _, rfl, by omega, by go_num, HO41, HK41⟩
          case measure => simp [intOf]; omega
        · obtain rfl : k = R.length := by omega
          have hki : ¬ (R.length : Int) < (R.length : Int) := by omega
          have HOr := hid HOw.out
          rw [List.take_length] at HOr
          clear HOw
          obtain ⟨S, hS⟩ : ∃ S, runM tre0 R = S := ⟨_, rfl⟩
          rw [hS] at HOr
          have HGD := hid (show Gdx S R.length from hS ▸ gdRun HGR.out)
          have HS := hid hS
          clear hS
          go_wp2_with fail
          refine (stepCopy q w0 _ HGD.out (by omega) HOr.out).mono ?_
          rintro e w5 ⟨q2, rfl, hO5, hK5⟩
          have HO5 := hid hO5
          have HK5 := hid ((HKw.out).trans hK5)
          clear hO5 hK5
          try dsimp only
          clear HOr HKw
          have c0 : w5.cell? ⟨g0, 0, none⟩ = some (.int .i64 kind) := (HO5.out.p2).cells 0
          have c1 : w5.cell? ⟨g0, 1, none⟩ = some (.int .i64 ofd) := (HO5.out.p2).cells 1
          have c2 : w5.cell? ⟨g0, 2, none⟩ = some (.int .i64 nn) := (HO5.out.p2).cells 2
          have c3 : w5.cell? ⟨g0, 3, none⟩ = some (.int .i64 off) := (HO5.out.p2).cells 3
          have c4 : w5.cell? ⟨g0, 4, none⟩ = some (.int .i64 flags) := (HO5.out.p2).cells 4
          have c5 : w5.cell? ⟨g0, 5, none⟩ = some (sV path) := (HO5.out.p2).cells 5
          have c6 : w5.cell? ⟨g0, 6, none⟩ = some (sV dest) := (HO5.out.p2).cells 6
          have c7 : w5.cell? ⟨g0, 7, none⟩ = some (.slice p data.length m) := (HO5.out.p2).cells 7
          obtain ⟨ans, S2, hans⟩ : ∃ ans S2, S.doM ⟨kind, ofd, nn, off, flags, path, dest⟩ data = (ans, S2) := ⟨_, _, rfl⟩
          have HAN := hid hans
          clear hans
          go_wp2_with fail
          refine (stepDo q mx w5 (Trc q2 S :: [pt g0 (.cells #[.int .i64 kind, .int .i64 ofd, .int .i64 nn, .int .i64 off, .int .i64 flags, sV path, sV dest, .slice p data.length m] 32), old W]) HGD.out (by omega) (((HM.out.cons _).cons _)) ⟨kind, ofd, nn, off, flags, path, dest⟩ rfl rfl HWF.out.2.1 (by have := HLM.out.1; dsimp only; omega) (by have := HLM.out.2.1; dsimp only; omega) p m data (by have := HLM.out.2.2; omega) (fun w' h => HY.out w' h.drop.drop) ans S2 HAN.out (HO5.out.re 2 [1, 0])).mono ?_
          rintro e w6 ⟨a6, ca6, b6, cb6, rfl, hg6, hO6, hK6⟩
          have HO6 := hid hO6
          have HK6 := hid ((HK5.out).trans hK6)
          clear hO6 hK6
          try dsimp only
          have HG6 := hid hg6
          clear hg6 HO5 HK5 c0 c1 c2 c3 c4 c5 c6 c7
          obtain ⟨code, an, ak, al, adata, anames⟩ := ans
          dsimp only at HO6
          unfold ansY
          dsimp only
          go_upto_region 12 with fail
          have HP6 := hid (HO6.out.alloc (.cells #[.int .i64 code, .int .i64 an, .int .i64 ak, .int .i64 al, .slice a6 adata.length ca6, .slice b6 anames.length cb6] 29))
          have HQ6 := hid (HK6.out.alloc (.cells #[.int .i64 code, .int .i64 an, .int .i64 ak, .int .i64 al, .slice a6 adata.length ca6, .slice b6 anames.length cb6] 29))
          clear HO6 HK6
          generalize w6.alloc (.cells #[.int .i64 code, .int .i64 an, .int .i64 ak, .int .i64 al, .slice a6 adata.length ca6, .slice b6 anames.length cb6] 29) = y6 at *
          generalize w6.heap.size = g6 at *
          have c0 : y6.cell? ⟨g0, 0, none⟩ = some (.int .i64 kind) := (HP6.out.p5).cells 0
          have c1 : y6.cell? ⟨g0, 1, none⟩ = some (.int .i64 ofd) := (HP6.out.p5).cells 1
          have c2 : y6.cell? ⟨g0, 2, none⟩ = some (.int .i64 nn) := (HP6.out.p5).cells 2
          have c3 : y6.cell? ⟨g0, 3, none⟩ = some (.int .i64 off) := (HP6.out.p5).cells 3
          have c4 : y6.cell? ⟨g0, 4, none⟩ = some (.int .i64 flags) := (HP6.out.p5).cells 4
          have c5 : y6.cell? ⟨g0, 5, none⟩ = some (sV path) := (HP6.out.p5).cells 5
          have c6 : y6.cell? ⟨g0, 6, none⟩ = some (sV dest) := (HP6.out.p5).cells 6
          have c7 : y6.cell? ⟨g0, 7, none⟩ = some (.slice p data.length m) := (HP6.out.p5).cells 7
          go_wp2_with fail
          refine (stepDo q2 mx y6 (pt g6 (.cells #[.int .i64 code, .int .i64 an, .int .i64 ak, .int .i64 al, .slice a6 adata.length ca6, .slice b6 anames.length cb6] 29) :: Bytes (.slice a6 adata.length ca6) adata :: Strs (.slice b6 anames.length cb6) anames :: Trc q S2 :: [pt g0 (.cells #[.int .i64 kind, .int .i64 ofd, .int .i64 nn, .int .i64 off, .int .i64 flags, sV path, sV dest, .slice p data.length m] 32), old W]) HGD.out (by omega) ((((((HM.out.cons _).cons _).cons _).cons _).cons _)) ⟨kind, ofd, nn, off, flags, path, dest⟩ rfl rfl HWF.out.2.1 (by have := HLM.out.1; dsimp only; omega) (by have := HLM.out.2.1; dsimp only; omega) p m data (by have := HLM.out.2.2; omega) (fun w' h => HY.out w' h.drop.drop.drop.drop.drop) ⟨code, an, ak, al, adata, anames⟩ S2 HAN.out (HP6.out.re 5 [4, 0, 1, 2, 3])).mono ?_
          rintro e w7 ⟨a7, ca7, b7, cb7, rfl, -, hO7, hK7⟩
          have HO7 := hid hO7
          have HK7 := hid ((HQ6.out).trans hK7)
          clear hO7 hK7
          try dsimp only
          clear HP6 HQ6 c0 c1 c2 c3 c4 c5 c6 c7
          dsimp only at HO7
          unfold ansY
          dsimp only
          go_upto_region 13 with fail
          have HP7 := hid (HO7.out.alloc (.cells #[.int .i64 code, .int .i64 an, .int .i64 ak, .int .i64 al, .slice a7 adata.length ca7, .slice b7 anames.length cb7] 29))
          have HQ7 := hid (HK7.out.alloc (.cells #[.int .i64 code, .int .i64 an, .int .i64 ak, .int .i64 al, .slice a7 adata.length ca7, .slice b7 anames.length cb7] 29))
          clear HO7 HK7
          generalize w7.alloc (.cells #[.int .i64 code, .int .i64 an, .int .i64 ak, .int .i64 al, .slice a7 adata.length ca7, .slice b7 anames.length cb7] 29) = y7 at *
          generalize w7.heap.size = g7 at *
          have d0 : y7.cell? ⟨g6, 0, none⟩ = some (.int .i64 code) := HP7.out.p4.cells 0
          have d1 : y7.cell? ⟨g6, 1, none⟩ = some (.int .i64 an) := HP7.out.p4.cells 1
          have d2 : y7.cell? ⟨g6, 2, none⟩ = some (.int .i64 ak) := HP7.out.p4.cells 2
          have d3 : y7.cell? ⟨g6, 3, none⟩ = some (.int .i64 al) := HP7.out.p4.cells 3
          have d4 : y7.cell? ⟨g6, 4, none⟩ = some (.slice a6 adata.length ca6) := HP7.out.p4.cells 4
          have d5 : y7.cell? ⟨g6, 5, none⟩ = some (.slice b6 anames.length cb6) := HP7.out.p4.cells 5
          have e0 : y7.cell? ⟨g7, 0, none⟩ = some (.int .i64 code) := HP7.out.cells 0
          have e1 : y7.cell? ⟨g7, 1, none⟩ = some (.int .i64 an) := HP7.out.cells 1
          have e2 : y7.cell? ⟨g7, 2, none⟩ = some (.int .i64 ak) := HP7.out.cells 2
          have e3 : y7.cell? ⟨g7, 3, none⟩ = some (.int .i64 al) := HP7.out.cells 3
          have e4 : y7.cell? ⟨g7, 4, none⟩ = some (.slice a7 adata.length ca7) := HP7.out.cells 4
          have e5 : y7.cell? ⟨g7, 5, none⟩ = some (.slice b7 anames.length cb7) := HP7.out.cells 5
          go_wp2_with fail
          refine (answerYes ⟨code, an, ak, al, adata, anames⟩ a6 ca6 b6 cb6 a7 ca7 b7 cb7 y7 _ HP7.out (Bytes.rd HP7.out.p5) (Bytes.rd HP7.out.p1) (Strs.rd HP7.out.p6) (Strs.rd HP7.out.p2)).mono ?_
          rintro e w8 ⟨rfl, hO8, hK8⟩
          have HO8 := hid hO8
          have HK8 := hid ((HQ7.out).trans hK8)
          clear hO8 hK8
          try dsimp only
          clear HP7 HQ7 d0 d1 d2 d3 d4 d5 e0 e1 e2 e3 e4 e5
          have hcd : w8.cell? ⟨g6, 0, none⟩ = some (.int .i64 code) := HO8.out.p4.cells 0
          by_cases hc0 : code = 0
          · have hcb : (code == 0) = true := by simp [hc0]
            go_upto_region 16 with fail
            have HP8 := hid (show Has w8 (Trc q S2 :: Trc q2 S2 :: [pt g0 (.cells #[.int .i64 kind, .int .i64 ofd, .int .i64 nn, .int .i64 off, .int .i64 flags, sV path, sV dest, .slice p data.length m] 32), old W]) from HO8.out.re 9 [7, 3, 8])
            clear HO8 hcd hcb
            go_wp2_with fail
            refine (stepNodes' q w8 _ HG6.out (by omega) HP8.out).mono ?_
            rintro e w9 ⟨p9, c9, os9, rfl, hp9, hs9, hO9, hK9⟩
            have HO9 := hid hO9
            have HK9 := hid ((HK8.out).trans hK9)
            clear hO9 hK9
            try dsimp only
            have HPS := hid hp9
            have HSS := hid hs9
            clear hp9 hs9 HP8 HK8
            go_wp2_with fail
            refine (stepNodes' q2 w9 _ HG6.out (by omega) (HO9.out.re 3 [2, 0, 1])).mono ?_
            rintro e w10 ⟨p10, c10, os10, rfl, hp10, hs10, hO10, hK10⟩
            have HO10 := hid hO10
            have HK10 := hid ((HK9.out).trans hK10)
            clear hO10 hK10
            try dsimp only
            have HPT := hid (keysOne HG6.out HPS.out hp10 HSS.out hs10)
            clear hp10 hs10 HO9 HK9
            go_wp2_with fail
            refine (nodesYes _ _ os9 os10 w10 (rdNs_of (HO10.out.re 3 [2])) (rdNs_of HO10.out) HPT.out).mono ?_
            rintro e w' ⟨rfl, nq11, rfl⟩
            have HO11 := hid ((HO10.out).drewN nq11)
            have HK11 := hid ((HK10.out).drewN nq11)
            try dsimp only
            generalize w10.drewN nq11 = w11 at *
            go_wp2_with fail
            refine (awake14 mx w11 _ (fun w' h => HM.out w' h.drop.drop.drop.drop.drop) HO11.out).mono ?_
            rintro e w12 ⟨rfl, hO12, hK12⟩
            have HO12 := hid hO12
            have HK12 := hid ((HK11.out).trans hK12)
            clear hO12 hK12
            try dsimp only
            go_wp2_with fail
            go_ret
            have hg0 := HG0.out
            subst hg0
            exact ⟨rfl, (HO12.out.re 6 [5]).below HK12.out.os HK12.out.tape HK12.out.output⟩
          · have hcb : (code == 0) = false := by simp [hc0]
            have hSS : S2 = S := by
              have h1 := failsG HGD.out ⟨kind, ofd, nn, off, flags, path, dest⟩ data
              rw [HAN.out] at h1
              exact h1 hc0
            subst hSS
            go_upto_region 17 with fail
            have HP8 := hid (show Has w8 (Trc q S2 :: [pt g0 (.cells #[.int .i64 kind, .int .i64 ofd, .int .i64 nn, .int .i64 off, .int .i64 flags, sV path, sV dest, .slice p data.length m] 32), old W]) from HO8.out.re 9 [7, 8])
            clear HO8 hcd hcb HG6 HAN
            go_wp2_with fail
            refine (tNew w8 _ HP8.out).mono ?_
            rintro e w9 ⟨q3, rfl, hO9, hK9⟩
            have HO9 := hid hO9
            have HK9 := hid ((HK8.out).trans hK9)
            clear hO9 hK9
            try dsimp only
            clear HP8 HK8
            go_wp2_with fail
            go_loopw [13] (fun i w => ∃ (k : Nat) (w0 : World), w0 = w ∧ k ≤ R.length ∧ i = .int .i64 k ∧ Hid (Has w0 (Trc q3 (runM tre0 (R.take k)) :: (Trc q S2 :: [pt g0 (.cells #[.int .i64 kind, .int .i64 ofd, .int .i64 nn, .int .i64 off, .int .i64 flags, sV path, sV dest, .slice p data.length m] 32), old W]))) ∧ Hid (Keep W w0)) (fun i _ => R.length - (intOf i).toNat)
            case atStart => exact ⟨0, _, rfl, by omega, rfl, HO9, HK9⟩
            case round =>
              clear HO9 HK9
              obtain ⟨k, w0, rfl, hk, rfl, HOw, HKw⟩ := hrel
              by_cases hlt : k < R.length
              · have hki : (k : Int) < (R.length : Int) := by omega
                have hk0 : (0 : Int) ≤ (k : Int) := by omega
                obtain ⟨g, o, c, pp, mm, hv, hdv, c0, c1, c2, c3, c4, c5, c6, c7⟩ := (HR.out _ (HOw.out.drop.drop.drop)).eight k hlt
                simp only [Value.slice.injEq] at hv
                obtain ⟨rfl, -, rfl⟩ := hv
                have hrd0 := (HR.out _ (HOw.out.drop.drop.drop)).2 _ (List.getElem_mem hlt)
                obtain ⟨yy, hyy⟩ : ∃ yy, R[k] = yy := ⟨_, rfl⟩
                rw [hyy] at hdv c0 c1 c2 c3 c4 c5 c6 c7 hrd0
                have HRD := hid (show ∀ w', Has w' ((Trc q S2 :: [pt g0 (.cells #[.int .i64 kind, .int .i64 ofd, .int .i64 nn, .int .i64 off, .int .i64 flags, sV path, sV dest, .slice p data.length m] 32), old W])) → Rd w' (.slice pp yy.data.length mm) 1 yy.data.length (bc yy.data) from fun w' h => by
                  have := (HR.out _ (h.drop.drop)).2 R[k] (List.getElem_mem hlt)
                  rw [hyy] at this
                  have h2 := this.1
                  rw [hdv] at h2
                  exact h2)
                have HYY := hid hyy
                have HW := hid hrd0.2
                clear hyy hdv hrd0
                go_wp2_with fail
                refine (loopAt q3 mx w0 _ HGR.out hlt (by omega) (((HM.out.cons _).cons _)) yy HYY.out pp mm HW.out HRD.out HOw.out).mono ?_
                rintro e w41 ⟨v41, rfl, hO41, hK41⟩
                have HO41 := hid hO41
                have HK41 := hid ((HKw.out).trans hK41)
                clear hO41 hK41
                try dsimp only
                clear HOw HKw c0 c1 c2 c3 c4 c5 c6 c7 HRD HYY HW
                go_wp2_with fail
                go_roundw
                case rel => exact ⟨k + 1, _, rfl, by omega, by go_num, HO41, HK41⟩
                case measure => simp [intOf]; omega
              · obtain rfl : k = R.length := by omega
                have hki : ¬ (R.length : Int) < (R.length : Int) := by omega
                have HOr := hid HOw.out
                rw [List.take_length] at HOr
                clear HOw
                rw [HS.out] at HOr
                go_wp2_with fail
                refine (lowN fd 16 f w0 (by decide) (by decide) HF.out).mono ?_
                rintro e w' ⟨rfl, rfl⟩
                try dsimp only
                go_upto_region 25 with fail
                have HP9 := hid (HOr.out.alloc (.cells #[.int .i64 7, .int .i64 (f : Int), .int .i64 1, .int .i64 0, .int .i64 0, .string noB, .string noB, nilV] 32))
                have HQ9 := hid (HKw.out.alloc (.cells #[.int .i64 7, .int .i64 (f : Int), .int .i64 1, .int .i64 0, .int .i64 0, .string noB, .string noB, nilV] 32))
                clear HOr HKw
                generalize w0.alloc (.cells #[.int .i64 7, .int .i64 (f : Int), .int .i64 1, .int .i64 0, .int .i64 0, .string noB, .string noB, nilV] 32) = y9 at *
                generalize w0.heap.size = g9 at *
                have HOd := hid HP9.out.drew
                have HKd := hid HQ9.out.drew
                clear HP9 HQ9
                refine region_text (fun w' => w'.cell? ⟨g9, 0, none⟩ = some (.int .i64 7) ∧ w'.cell? ⟨g9, 1, none⟩ = some (.int .i64 (f : Int)) ∧ w'.cell? ⟨g9, 2, none⟩ = some (.int .i64 1) ∧ w'.cell? ⟨g9, 3, none⟩ = some (.int .i64 0) ∧ w'.cell? ⟨g9, 4, none⟩ = some (.int .i64 0) ∧ w'.cell? ⟨g9, 5, none⟩ = some (.string noB) ∧ w'.cell? ⟨g9, 6, none⟩ = some (.string noB) ∧ w'.cell? ⟨g9, 7, none⟩ = some (nilV)) (by kernel_rfl) (by kernel_rfl) ⟨(HOd.out).cells 0, (HOd.out).cells 1, (HOd.out).cells 2, (HOd.out).cells 3, (HOd.out).cells 4, (HOd.out).cells 5, (HOd.out).cells 6, (HOd.out).cells 7⟩ ?_
                repeat (first
                  | (refine wpL_read (by rfl) (by rfl) ?_ ?_ ?_; rotate_left; (rintro w ⟨z0, z1, z2, z3, z4, z5, z6, z7⟩; go_simp; with_reducible rfl); simp only [Act.put, List.setIfInBounds_toArray, List.set_cons_zero, List.set_cons_succ]) | (refine wpL_skip (by rfl) ?_; simp only [Act.put, List.setIfInBounds_toArray, List.set_cons_zero, List.set_cons_succ]))
                refine wpL_act (by rfl) (by rfl) (fun K hK => ?_)
                go_simp
                refine (stepNodes' q y9.drew _ HGD.out (by omega) (HOd.out.re 3 [2, 0, 1])).mono ?_
                rintro e w10 ⟨p10, c10, os10, rfl, hp10, hs10, hO10, hK10⟩
                have HO10 := hid hO10
                have HK10 := hid ((HKd.out).trans hK10)
                clear hO10 hK10
                try dsimp only
                refine hK.out _ _ (⟨(HO10.out.p2).cells 0, (HO10.out.p2).cells 1, (HO10.out.p2).cells 2, (HO10.out.p2).cells 3, (HO10.out.p2).cells 4, (HO10.out.p2).cells 5, (HO10.out.p2).cells 6, (HO10.out.p2).cells 7⟩) ?_
                clear hK K
                try simp only [Act.put, List.setIfInBounds_toArray, List.set_cons_zero, List.set_cons_succ]
                have HPS := hid hp10
                have HSS := hid hs10
                clear hp10 hs10 HOd HKd
                repeat (first
                  | (refine wpL_read (by rfl) (by rfl) ?_ ?_ ?_; rotate_left; (rintro w ⟨z0, z1, z2, z3, z4, z5, z6, z7⟩; go_simp; with_reducible rfl); simp only [Act.put, List.setIfInBounds_toArray, List.set_cons_zero, List.set_cons_succ]) | (refine wpL_skip (by rfl) ?_; simp only [Act.put, List.setIfInBounds_toArray, List.set_cons_zero, List.set_cons_succ]))
                refine wpL_act (by rfl) (by rfl) (fun K hK => ?_)
                go_simp
                refine (stepNodes' q3 w10 _ HGD.out (by omega) (HO10.out.re 4 [3, 0, 1, 2])).mono ?_
                rintro e w11 ⟨p11, c11, os11, rfl, hp11, hs11, hO11, hK11⟩
                have HO11 := hid hO11
                have HK11 := hid ((HK10.out).trans hK11)
                clear hO11 hK11
                try dsimp only
                refine hK.out _ _ (⟨(HO11.out.p4).cells 0, (HO11.out.p4).cells 1, (HO11.out.p4).cells 2, (HO11.out.p4).cells 3, (HO11.out.p4).cells 4, (HO11.out.p4).cells 5, (HO11.out.p4).cells 6, (HO11.out.p4).cells 7⟩) ?_
                clear hK K
                try simp only [Act.put, List.setIfInBounds_toArray, List.set_cons_zero, List.set_cons_succ]
                have HPT := hid (keysOne HGD.out HPS.out hp11 HSS.out hs11)
                clear hp11 hs11 HO10 HK10
                repeat (first
                  | (refine wpL_read (by rfl) (by rfl) ?_ ?_ ?_; rotate_left; (rintro w ⟨z0, z1, z2, z3, z4, z5, z6, z7⟩; go_simp; with_reducible rfl); simp only [Act.put, List.setIfInBounds_toArray, List.set_cons_zero, List.set_cons_succ]) | (refine wpL_skip (by rfl) ?_; simp only [Act.put, List.setIfInBounds_toArray, List.set_cons_zero, List.set_cons_succ]))
                refine wpL_act (by rfl) (by rfl) (fun K hK => ?_)
                go_simp
                refine (nodesYes _ _ os10 os11 w11 (rdNs_of (HO11.out.re 3 [2])) (rdNs_of HO11.out) HPT.out).mono ?_
                rintro e w' ⟨rfl, nq12, rfl⟩
                have HO12 := hid ((HO11.out).drewN nq12)
                have HK12 := hid ((HK11.out).drewN nq12)
                try dsimp only
                refine hK.out _ _ (⟨(HO12.out.p4).cells 0, (HO12.out.p4).cells 1, (HO12.out.p4).cells 2, (HO12.out.p4).cells 3, (HO12.out.p4).cells 4, (HO12.out.p4).cells 5, (HO12.out.p4).cells 6, (HO12.out.p4).cells 7⟩) ?_
                clear hK K
                try simp only [Act.put, List.setIfInBounds_toArray, List.set_cons_zero, List.set_cons_succ]
                clear HO11 HK11
                generalize w11.drewN nq12 = w12 at *
                repeat (first
                  | (refine wpL_read (by rfl) (by rfl) ?_ ?_ ?_; rotate_left; (rintro w ⟨z0, z1, z2, z3, z4, z5, z6, z7⟩; go_simp; with_reducible rfl); simp only [Act.put, List.setIfInBounds_toArray, List.set_cons_zero, List.set_cons_succ]) | (refine wpL_skip (by rfl) ?_; simp only [Act.put, List.setIfInBounds_toArray, List.set_cons_zero, List.set_cons_succ]))
                obtain ⟨an9, S3, hans9⟩ : ∃ an9 S3, S2.doM ⟨7, (f : Int), 1, 0, 0, [], []⟩ [] = (an9, S3) := ⟨_, _, rfl⟩
                have HAN9 := hid hans9
                clear hans9
                refine wpL_act (by rfl) (by rfl) (fun K hK => ?_)
                go_simp
                refine (stepDo0 q mx w12 (Trc q3 S2 :: pt g9 (.cells #[.int .i64 7, .int .i64 (f : Int), .int .i64 1, .int .i64 0, .int .i64 0, .string noB, .string noB, nilV] 32) :: [pt g0 (.cells #[.int .i64 kind, .int .i64 ofd, .int .i64 nn, .int .i64 off, .int .i64 flags, sV path, sV dest, .slice p data.length m] 32), old W]) HGD.out (by omega) (((HM.out.cons _).cons _).cons _) ⟨7, (f : Int), 1, 0, 0, [], []⟩ rfl rfl (show (0 : Int) ≤ 9223372036854775807 by decide) (by simp) (by simp) an9 S3 HAN9.out (HO12.out.re 5 [3, 1, 4])).mono ?_
                rintro e w13 ⟨a13, ca13, b13, cb13, rfl, -, hO13, hK13⟩
                have HO13 := hid hO13
                have HK13 := hid ((HK12.out).trans hK13)
                clear hO13 hK13
                try dsimp only
                refine hK.out _ _ (⟨(HO13.out.p4).cells 0, (HO13.out.p4).cells 1, (HO13.out.p4).cells 2, (HO13.out.p4).cells 3, (HO13.out.p4).cells 4, (HO13.out.p4).cells 5, (HO13.out.p4).cells 6, (HO13.out.p4).cells 7⟩) ?_
                clear hK K
                try simp only [Act.put, List.setIfInBounds_toArray, List.set_cons_zero, List.set_cons_succ]
                clear HO12 HK12
                repeat (first
                  | (refine wpL_read (by rfl) (by rfl) ?_ ?_ ?_; rotate_left; (rintro w ⟨z0, z1, z2, z3, z4, z5, z6, z7⟩; go_simp; with_reducible rfl); simp only [Act.put, List.setIfInBounds_toArray, List.set_cons_zero, List.set_cons_succ]) | (refine wpL_skip (by rfl) ?_; simp only [Act.put, List.setIfInBounds_toArray, List.set_cons_zero, List.set_cons_succ]))
                refine wpL_act (by rfl) (by rfl) (fun K hK => ?_)
                go_simp
                refine (stepDo0 q3 mx w13 (Bytes (.slice a13 an9.data.length ca13) an9.data :: Strs (.slice b13 an9.names.length cb13) an9.names :: Trc q S3 :: pt g9 (.cells #[.int .i64 7, .int .i64 (f : Int), .int .i64 1, .int .i64 0, .int .i64 0, .string noB, .string noB, nilV] 32) :: [pt g0 (.cells #[.int .i64 kind, .int .i64 ofd, .int .i64 nn, .int .i64 off, .int .i64 flags, sV path, sV dest, .slice p data.length m] 32), old W]) HGD.out (by omega) (((((HM.out.cons _).cons _).cons _).cons _).cons _) ⟨7, (f : Int), 1, 0, 0, [], []⟩ rfl rfl (show (0 : Int) ≤ 9223372036854775807 by decide) (by simp) (by simp) an9 S3 HAN9.out (HO13.out.re 4 [3, 0, 1, 2])).mono ?_
                rintro e w14 ⟨a14, ca14, b14, cb14, rfl, -, hO14, hK14⟩
                have HO14 := hid hO14
                have HK14 := hid ((HK13.out).trans hK14)
                clear hO14 hK14
                try dsimp only
                refine hK.out _ _ (⟨(HO14.out.p6).cells 0, (HO14.out.p6).cells 1, (HO14.out.p6).cells 2, (HO14.out.p6).cells 3, (HO14.out.p6).cells 4, (HO14.out.p6).cells 5, (HO14.out.p6).cells 6, (HO14.out.p6).cells 7⟩) ?_
                clear hK K
                try simp only [Act.put, List.setIfInBounds_toArray, List.set_cons_zero, List.set_cons_succ]
                clear HO13 HK13
                repeat (first
                  | (refine wpL_read (by rfl) (by rfl) ?_ ?_ ?_; rotate_left; (rintro w ⟨z0, z1, z2, z3, z4, z5, z6, z7⟩; go_simp; with_reducible rfl); simp only [Act.put, List.setIfInBounds_toArray, List.set_cons_zero, List.set_cons_succ]) | (refine wpL_skip (by rfl) ?_; simp only [Act.put, List.setIfInBounds_toArray, List.set_cons_zero, List.set_cons_succ]))
                refine wpL_act (by rfl) (by rfl) (fun K hK => ?_)
                go_simp
                refine (answerYes an9 a13 ca13 b13 cb13 a14 ca14 b14 cb14 w14 _ HO14.out (Bytes.rd HO14.out.p3) (Bytes.rd HO14.out) (Strs.rd HO14.out.p4) (Strs.rd HO14.out.p1)).mono ?_
                rintro e w15 ⟨rfl, hO15, hK15⟩
                have HO15 := hid hO15
                have HK15 := hid ((HK14.out).trans hK15)
                clear hO15 hK15
                try dsimp only
                refine hK.out _ _ (⟨(HO15.out.p6).cells 0, (HO15.out.p6).cells 1, (HO15.out.p6).cells 2, (HO15.out.p6).cells 3, (HO15.out.p6).cells 4, (HO15.out.p6).cells 5, (HO15.out.p6).cells 6, (HO15.out.p6).cells 7⟩) ?_
                clear hK K
                try simp only [Act.put, List.setIfInBounds_toArray, List.set_cons_zero, List.set_cons_succ]
                clear HO14 HK14
                repeat (first
                  | (refine wpL_read (by rfl) (by rfl) ?_ ?_ ?_; rotate_left; (rintro w ⟨z0, z1, z2, z3, z4, z5, z6, z7⟩; go_simp; with_reducible rfl); simp only [Act.put, List.setIfInBounds_toArray, List.set_cons_zero, List.set_cons_succ]) | (refine wpL_skip (by rfl) ?_; simp only [Act.put, List.setIfInBounds_toArray, List.set_cons_zero, List.set_cons_succ]))
                refine wpL_act (by rfl) (by rfl) (fun K hK => ?_)
                go_simp
                refine (awake14 mx w15 _ (fun w' h => HM.out w' h.drop.drop.drop.drop.drop.drop.drop.drop) HO15.out).mono ?_
                rintro e w16 ⟨rfl, hO16, hK16⟩
                have HO16 := hid hO16
                have HK16 := hid ((HK15.out).trans hK16)
                clear hO16 hK16
                try dsimp only
                refine hK.out _ _ (⟨(HO16.out.p6).cells 0, (HO16.out.p6).cells 1, (HO16.out.p6).cells 2, (HO16.out.p6).cells 3, (HO16.out.p6).cells 4, (HO16.out.p6).cells 5, (HO16.out.p6).cells 6, (HO16.out.p6).cells 7⟩) ?_
                clear hK K
                try simp only [Act.put, List.setIfInBounds_toArray, List.set_cons_zero, List.set_cons_succ]
                clear HO15 HK15
                repeat (first
                  | (refine wpL_read (by rfl) (by rfl) ?_ ?_ ?_; rotate_left; (rintro w ⟨z0, z1, z2, z3, z4, z5, z6, z7⟩; go_simp; with_reducible rfl); simp only [Act.put, List.setIfInBounds_toArray, List.set_cons_zero, List.set_cons_succ]) | (refine wpL_skip (by rfl) ?_; simp only [Act.put, List.setIfInBounds_toArray, List.set_cons_zero, List.set_cons_succ]))
                refine wpL_nil ?_
                go_wp2_with fail
                go_ret
                have hg0 := HG0.out
                subst hg0
                exact ⟨rfl, (HO16.out.re 9 [8]).below HK16.out.os HK16.out.tape HK16.out.output⟩

    · go_wp2_with fail
      refine (awake14 mx w2 [old W, pt g0 (.cells #[.int .i64 kind, .int .i64 ofd, .int .i64 nn, .int .i64 off, .int .i64 flags, sV path, sV dest, .slice p data.length m] 32)] (fun w' h => HM.out w' (h.re 2 [0])) HO2.out).mono ?_
      rintro e w3 ⟨rfl, hO3, hK3⟩
      have HO3 := hid hO3
      have HK3 := hid ((HK2.out).trans hK3)
      clear hO3 hK3
      try dsimp only
      go_wp2_with fail
      go_ret
      have hg0 := HG0.out
      subst hg0
      exact ⟨rfl, HO3.out.below HK3.out.os HK3.out.tape HK3.out.output⟩
  · go_wp2_with fail
    refine (awake14 mx w1 [old W, pt g0 (.cells #[.int .i64 kind, .int .i64 ofd, .int .i64 nn, .int .i64 off, .int .i64 flags, sV path, sV dest, .slice p data.length m] 32)] (fun w' h => HM.out w' (h.re 2 [0])) HO1.out).mono ?_
    rintro e w2 ⟨rfl, hO2, hK2⟩
    have HO2 := hid hO2
    have HK2 := hid ((HK1.out).trans hK2)
    clear hO2 hK2
    try dsimp only
    go_wp2_with fail
    go_ret
    have hg0 := HG0.out
    subst hg0
    exact ⟨rfl, HO2.out.below HK2.out.os HK2.out.tape HK2.out.output⟩
end Go.Proofs.YtfhaedkaedffcaaGreatDoor
/- What the frames of chapter 14's cards share: the listed data met, and the world's shape kept. -/
namespace Go.Proofs.YtfhaedkaedffcaaGreatDoor
open Go.ChangeShapes Go.WideShapes Go.ChangeAt Go.RowKit
variable {H : Type} {enc : TypeId × Value → H}
theorem handed_and_shaped {a : Assume} {C : Checked} {os : Os} {f : FuncId} {fn : Func} {s : ChangeSpec} {conds : List PathCond} {apart fresh handsOn again : Bool} {X : World → Array Value → Prop}
    (hX : ∀ (w w' : World) (args : Array Value), w.heap = w'.heap → X w args → X w' args)
    (own : ownKnob C.prog.godebug = none) (started : os.Started) (noInit : C.prog.inits.idxOf? f = none) (hfn : C.prog.funcs[f]? = some fn)
    (witness : ∃ (w : World) (tape : Tape) (i : Input), w.os = os ∧ (w.forCall tape i).Shaped C.prog ∧ i.vars = [] ∧ Input.okWide C.prog (w.forCall tape i) .any w.heap.size f i ∧
      ((s.pre enc C.prog fn conds apart (w.forCall tape i).memory i.args ∧ X (w.forCall tape i).memory i.args) ∧ sizedMet enc C.prog fn (OpenSpec.ofChange s) apart (w.forCall tape i).memory i.args) ∧ a.holds C.prog (lone (Frame.enter C.prog f i.args .normal) [] (w.forCall tape i)))
    (contract : ∀ (W : World) (base : Nat) (args : Array Value) (ds gs : List (DataW H)) (before : List MemPlace),
      (∀ (j : Nat) t v, fn.params[j]? = some t → args[j]? = some v → Value.okWide C.prog W .any base t v) →
      DataW.Whole enc C.prog fn.params.toList s.vars apart W args.toList ds gs before →
      conds.all (PathCond.test C.prog ⟨fn.params.toList, ds, s.plain.varTypes C.prog, gs⟩) = true →
      (DataW.weightsEach C.prog (fn.params.toList ++ s.plain.varTypes C.prog) (ds ++ gs)).all (· ≤ reachBytes) = true → X W args → W.ShapedOpen C.prog →
      a.holds C.prog (lone (Frame.enter C.prog f args .normal) [] W) →
      Calls C.prog f args W fun e W' => ∃ v, e = .returned v ∧ s.post enc C.prog fn apart fresh handsOn again W args v W') :
    ReturnsInHanded a C os f .any (fun w args => (s.pre enc C.prog fn conds apart w args ∧ X w args) ∧ sizedMet enc C.prog fn (OpenSpec.ofChange s) apart w args) (s.post enc C.prog fn apart fresh handsOn again) := by
  refine returnsInHanded_of_calls own started noInit witness ?_
  intro w tape i _ hsh _ hok hpre hholds
  obtain ⟨_, _, _, fn', hfn', _, _, _, _, hval⟩ := hok
  have e : fn' = fn := Option.some.inj (hfn'.symm.trans hfn)
  subst e
  obtain ⟨⟨⟨ds, gs, before, hw, hc⟩, hx⟩, hz⟩ := hpre
  have hw' := DataW.Whole.of_heap (w' := w.forCall tape i) (by rfl) hw
  refine (contract (w.forCall tape i) w.heap.size i.args ds gs before hval hw' hc (hz.weights hw) (hX _ _ _ (by rfl) hx) hsh hholds).mono fun e W' ⟨v, he, hp⟩ => ?_
  subst he
  exact ChangeSpec.post_blind hp
theorem mx_shaped {W : World} (h : W.ShapedOpen Tryz.prog) : ∃ m, W.cell? ⟨0, 0, none⟩ = some (.int .i64 m) :=
  cell_of_shapedOpen_int (P := Tryz.prog) (g := 0) (t := 3) (zero := #[.int .i64 0]) h (of_decide_eq_true (by kernel_rfl)) (by kernel_rfl) rfl (by kernel_rfl) (by kernel_rfl) Tryz.underlying3
end Go.Proofs.YtfhaedkaedffcaaGreatDoor
