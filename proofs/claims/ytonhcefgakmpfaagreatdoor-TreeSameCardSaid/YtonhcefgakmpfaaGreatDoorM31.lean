/- TEXTS of mine, merged. -/
import Derived.Test.YtonhcefgakmpfaaGreatDoorM30
import Derived.Test.YtonhcefgakmpfaaGreatDoorM28
import Derived.Test.YtonhcefgakmpfaaGreatDoorM27
import Derived.Test.YtonhcefgakmpfaaGreatDoorM26
import Derived.Test.YtonhcefgakmpfaaGreatDoorM7
import Derived.Test.YtonhcefgakmpfaaGreatDoorM20
/- TreeSame, plain: a name more is a file more. No program in sight. -/
namespace Go.Proofs.YtonhcefgakmpfaaGreatDoor
open Go.RowKit Go.Own
def nm3 (a : Nat) : Str := [UInt8.ofNat (97 + a), 122, 113]
theorem good_nm3 : ∀ a : Fin 26, GoodN (nm3 a.val) := by
  unfold GoodN NameOk nm3
  decide
theorem goN_inc {S S' : Tre} (inc : ∀ n x, fnd S.nodes n = some x → ∃ x', fnd S'.nodes n = some x' ∧ ∀ p c, fnd x.names p = some c → fnd x'.names p = some c) : ∀ (ps : List Str) (n c : Int), S.goN n ps = some c → S'.goN n ps = some c
  | [], _, _, h => h
  | p :: ps, n, c, h => by
    rw [Tre.goN] at h ⊢
    cases hx : fnd S.nodes n with
    | none =>
      have : S.at_ n = nod0 := by unfold Tre.at_; rw [hx]; rfl
      rw [this] at h
      cases h
    | some x =>
      obtain ⟨x', hx', hi⟩ := inc n x hx
      rw [at_of hx] at h
      rw [at_of hx']
      cases hf : fnd x.names p with
      | none => rw [hf] at h; cases h
      | some d =>
        rw [hf] at h
        rw [hi p d hf]
        exact goN_inc inc ps d c h
theorem files_more {S S' : Tre} {rk rk' : Int → Nat} {k k' : Nat} (hg : Gd S rk k) (hg' : Gd S' rk' k') (inc : ∀ n x, fnd S.nodes n = some x → ∃ x', fnd S'.nodes n = some x' ∧ ∀ p c, fnd x.names p = some c → fnd x'.names p = some c) {ps : List Str} {c : Int} (h1 : S'.goN 1 ps = some c) (h0 : S.goN 1 ps = none) : (filesP S).length < (filesP S').length := by
  obtain ⟨x1, hx1⟩ := hg'.x.has1
  have hin : ∀ (qs : List Str) (d : Int), S'.goN 1 qs = some d → qs ∈ (filesP S').map Prod.fst := by
    intro qs d hd
    obtain ⟨y, hy, _⟩ := hg'.go_there qs 1 x1 hx1 d hd
    exact List.mem_map.2 ⟨(qs, d, y), (hg'.files_mem (qs, d, y)).2 ⟨hd, hy⟩, rfl⟩
  have hn : (ps :: (filesP S).map Prod.fst).Nodup := by
    rw [List.nodup_cons]
    refine ⟨fun hm => ?_, hg.files_nodup⟩
    obtain ⟨e, he, rfl⟩ := List.mem_map.1 hm
    have := ((hg.files_mem e).1 he).1
    rw [h0] at this
    cases this
  have := nodup_lenS hn (l' := (filesP S').map Prod.fst) fun qs hq => by
    rcases List.mem_cons.1 hq with rfl | hq
    · exact hin _ _ h1
    · obtain ⟨e, he, rfl⟩ := List.mem_map.1 hq
      exact hin _ _ (goN_inc inc _ _ _ ((hg.files_mem e).1 he).1)
  simp only [List.length_cons, List.length_map] at this
  omega
theorem mkdir_more {S : Tre} {k : Nat} (h : Gdx S k) {nm : Str} (hn : GoodN nm) (h0 : (S.mkdir (47 :: nm)).1.code = 0) : (filesP S).length < (filesP (S.mkdir (47 :: nm)).2).length := by
  obtain ⟨rk, hg⟩ := h
  obtain ⟨rk', hg'⟩ := hg.mkdir (47 :: nm)
  have h1 := hg.fresh_one hn
  unfold Tre.mkdir at *
  rw [h1] at hg' h0 ⊢
  by_cases h2 : (fnd (S.at_ 1).names nm).getD 0 ≠ 0
  · rw [if_pos h2] at h0
    rw [if_pos (show (6 : Int) ≠ 0 by decide)] at h0
    exact absurd (show (6 : Int) = 0 from h0) (by decide)
  rw [if_neg h2] at hg' ⊢
  rw [if_neg (show ¬ (0 : Int) ≠ 0 by decide)] at hg' ⊢
  dsimp only at hg' ⊢
  have hl := hg.last1
  have hd := make_dir S ⟨0, 1, nm⟩ 2 [] (by dsimp only; omega)
  dsimp only at hd
  have hnone : fnd (S.at_ 1).names nm = none := by
    obtain ⟨x, hx⟩ := hg.x.has1
    rw [at_of hx] at h2 ⊢
    cases hf : fnd x.names nm with
    | none => rfl
    | some c =>
      rw [hf] at h2
      obtain ⟨_, _, y, hy, _⟩ := (hg.nod hx).ents _ (fnd_some hf)
      exact absurd (Classical.not_not.1 h2) (hg.ne0 hy)
  refine files_more hg hg' (ps := [nm]) (c := S.last + 1) ?_ ?_ ?_
  · intro n x hx
    by_cases hn1 : n = 1
    · subst hn1
      refine ⟨_, hd, fun p c hp => ?_⟩
      rw [at_of hx] at hnone ⊢
      show fnd (putA x.names nm (S.last + 1)) p = some c
      have hne : p ≠ nm := by rintro rfl; rw [hnone] at hp; cases hp
      rw [fnd_putA, if_neg hne]
      exact hp
    · have hnl : n ≠ S.last + 1 := by have := (hg.num n x hx).2; omega
      exact ⟨x, (make_other S ⟨0, 1, nm⟩ 2 [] n hn1 hnl).trans hx, fun p c hp => hp⟩
  · rw [Tre.goN, at_of hd]
    have : fnd (Tre.dirAdd (S.at_ 1) nm (S.last + 1)).names nm = some (S.last + 1) := by
      show fnd (putA _ nm (S.last + 1)) nm = _
      rw [fnd_putA, if_pos rfl]
    rw [this]
    rfl
  · rw [Tre.goN, hnone]
/-- The numbers of the files that are told. -/
theorem nums_low {S : Tre} {k : Nat} (h : Gdx S k) {os : List Sn} (h1 : (os.map Sn.key).Perm ((seen S.nodes 22 1 []).map keyE)) : ∀ s ∈ os, 1 ≤ s.num ∧ s.num ≤ k + 1 := by
  intro s hs
  obtain ⟨rk, hg⟩ := h
  have h2 := h1.subset (List.mem_map_of_mem hs)
  obtain ⟨e, he, hk⟩ := List.mem_map.1 h2
  rw [files_seen] at he
  obtain ⟨f, hf, rfl⟩ := List.mem_map.1 he
  have h3 := ((hg.files_mem f).1 hf).2
  have h4 := hg.num _ _ h3
  have h5 : f.2.1 = s.num := congrArg (fun t => t.2.1) hk
  have h6 := hg.last
  omega
theorem lens_of {S : Tre} {k : Nat} (h : Gdx S k) {os : List Sn} (h1 : (os.map Sn.key).Perm ((seen S.nodes 22 1 []).map keyE)) : os.length = (filesP S).length := by
  obtain ⟨rk, hg⟩ := h
  exact hg.files_len h1
def mul7 (s : Sn) : Sn := { s with num := s.num * 7 + 3 }
def upto7 (os : List Sn) (k : Nat) : List Sn := (os.take k).map mul7 ++ os.drop k
theorem upto7_len (os : List Sn) (k : Nat) : (upto7 os k).length = os.length := by
  unfold upto7
  rw [List.length_append, List.length_map, ← List.length_append, List.take_append_drop]
theorem upto7_at (os : List Sn) (k : Nat) (hk : k < os.length) (h : k < (upto7 os k).length) : (upto7 os k)[k] = os[k] := by
  have h1 : (upto7 os k)[k]? = some os[k] := by
    unfold upto7
    rw [List.getElem?_append_right (by rw [List.length_map, List.length_take]; omega), List.length_map, List.length_take, List.getElem?_drop, show k + (k - min k os.length) = k by omega, List.getElem?_eq_getElem hk]
  rw [List.getElem?_eq_getElem h] at h1
  exact Option.some.inj h1
theorem upto7_next (os : List Sn) (k : Nat) (hk : k < os.length) : (upto7 os k).set k (mul7 os[k]) = upto7 os (k + 1) := by
  unfold upto7
  have hl : ((os.take k).map mul7).length = k := by rw [List.length_map, List.length_take]; omega
  rw [List.set_append_right _ _ (by omega), hl, Nat.sub_self, List.drop_eq_getElem_cons hk, List.set_cons_zero, List.take_succ_eq_append_getElem hk, List.map_append, List.append_assoc]
  rfl
theorem upto7_all (os : List Sn) : upto7 os os.length = os.map mul7 := by
  unfold upto7
  rw [List.take_length, List.drop_length, List.append_nil]
theorem snEnc_put (os : List Sn) (k : Nat) (hk : k < os.length) (z : Int) : (snEnc os).set (k * 5 + 1) (.int .i64 z) = snEnc (os.set k { os[k] with num := z }) := by
  induction os generalizing k with
  | nil => simp at hk
  | cons s os ih =>
    cases k with
    | zero => rfl
    | succ k =>
      rw [List.set_cons_succ]
      show (s.enc ++ snEnc os).set _ _ = s.enc ++ snEnc _
      have hl : s.enc.length = 5 := rfl
      rw [List.set_append_right _ _ (by omega), hl, show (k + 1) * 5 + 1 - 5 = k * 5 + 1 by omega, ih k (by simpa using hk)]
      rfl
theorem sns_put {w : World} {L : List HP} {p : Option Addr} {n c : Nat} {os : List Sn} (h : Has w (Sns (.slice p n c) os :: L)) (k : Nat) (hk : k < os.length) : ∃ g, p = some ⟨g, 0, none⟩ ∧ n = os.length ∧ w.cell? ⟨g, k * 5 + 1, none⟩ = some (.int .i64 os[k].num) ∧ w.frozen? ⟨g, k * 5 + 1, none⟩ = false ∧ ∀ z, Has (w.setCell ⟨g, k * 5 + 1, none⟩ (.int .i64 z)) (Sns (.slice p n c) (os.set k { os[k] with num := z }) :: L) := by
  have h1 := sns_iff.1 h
  obtain ⟨hl, h2 | ⟨g, cap, cur, e, -⟩⟩ := h1.row_cases
  · have := h2.2.1; omega
  · simp only [Value.slice.injEq] at e
    obtain ⟨rfl, rfl, rfl⟩ := e
    obtain ⟨-, hc, hf, -⟩ := h1.row_cells
    refine ⟨g, rfl, rfl, ?_, hf _, fun z => ?_⟩
    · rw [hc _ (by omega), snEnc_at os k hk 1 (by omega)]
      rfl
    · have h3 := h1.row_set (k * 5 + 1) (by omega) (.int .i64 z)
      rw [snEnc_put os k hk z] at h3
      refine sns_iff.2 ?_
      rw [List.length_set]
      have e : (os.set k { os[k] with num := z }).map (fun s => Bytes s.dv s.data) = os.map (fun s => Bytes s.dv s.data) := by
        rw [List.map_set]
        refine List.ext_getElem? fun i => ?_
        rw [List.getElem?_set]
        split
        · next h => subst h; rw [List.length_map, if_pos hk, List.getElem?_map, List.getElem?_eq_getElem hk]; rfl
        · rfl
      rw [e]
      exact h3
end Go.Proofs.YtonhcefgakmpfaaGreatDoor
/- THE WALKS of no tree. -/
namespace Go.Proofs.YtonhcefgakmpfaaGreatDoor
open Go.RowKit Go.Own
theorem zNeed (w : World) : Calls Tryz.prog 21 #[.pointer none] w fun e w' => e = .returned (.tuple #[.int .i64 0, .int .i64 0]) ∧ w = w' := by
  go_enter Tryz.func21, Tryz.ntmps21
  go_wp2_with fail
  go_ret2
  exact ⟨rfl, rfl⟩
theorem zNumber (s : ByteArray) (w : World) : Calls Tryz.prog 26 #[.pointer none, .string s] w fun e w' => e = .returned (.int .i64 0) ∧ w = w' := by
  go_enter Tryz.func26, Tryz.ntmps26
  go_wp2_with fail
  go_ret
  exact ⟨rfl, rfl⟩
theorem zCopy (w : World) : Calls Tryz.prog 18 #[.pointer none] w fun e w' => e = .returned (.pointer none) ∧ w = w' := by
  go_enter Tryz.func18, Tryz.ntmps18
  go_wp2_with fail
  go_ret
  exact ⟨rfl, rfl⟩
theorem zNodes (w : World) (L : List HP) (hO : Has w L) : Calls Tryz.prog 20 #[.pointer none] w fun e w' => e = .returned (.slice none 0 0) ∧ Has w' L ∧ Keep w w' := by
  have HO := hid hO
  clear hO
  go_enter Tryz.func20, Tryz.ntmps20
  go_wp2_with fail
  go_ret
  exact ⟨rfl, (HO.out.alloc (.cells #[.pointer none] 25)).drop, (Keep.refl w).alloc (.cells #[.pointer none] 25)⟩
set_option maxHeartbeats 4000000 in
theorem zDo (w : World) (L : List HP) (hO : Has w L) : Calls Tryz.prog 17 #[.pointer none, opY 0 0 0 0 0 noB noB nilV] w fun e w' => e = .returned (.agg #[.int .i64 1, .int .i64 0, .int .i64 0, .int .i64 0, .slice none 0 0, .slice none 0 0]) ∧ Has w' L ∧ Keep w w' := by
  have h1 := (hO.alloc (.cells #[.int .i64 0, .int .i64 0, .int .i64 0, .int .i64 0, .int .i64 0, .string noB, .string noB, nilV] 35)).alloc (.cells (ansC (ansE 0) nilV nilV) 32)
  have HK1 := hid (((Keep.refl w).alloc (.cells #[.int .i64 0, .int .i64 0, .int .i64 0, .int .i64 0, .int .i64 0, .string noB, .string noB, nilV] 35)).alloc (.cells (ansC (ansE 0) nilV nilV) 32))
  unfold ansC ansE at h1 HK1
  have e1 : (w.alloc (.cells #[.int .i64 0, .int .i64 0, .int .i64 0, .int .i64 0, .int .i64 0, .string noB, .string noB, nilV] 35)).heap.size = w.heap.size + 1 := by show (Array.push _ _).size = _; rw [Array.size_push]
  rw [e1] at h1
  have HO1 := hid h1
  clear h1 e1 hO
  unfold opY
  go_enter Tryz.func17, Tryz.ntmps17
  go_upto_region 1 with fail
  generalize (w.alloc (.cells #[.int .i64 0, .int .i64 0, .int .i64 0, .int .i64 0, .int .i64 0, .string noB, .string noB, nilV] 35)).alloc (.cells #[.int .i64 0, .int .i64 0, .int .i64 0, .int .i64 0, .slice none 0 0, .slice none 0 0] 32) = w1 at *
  generalize w.heap.size = g3 at *
  generalize g3 + 1 = g4 at *
  have hz0 : w1.cell? ⟨g4, 0, none⟩ = some (.int .i64 0) := (HO1.out).cells 0
  have hz1 : w1.cell? ⟨g4, 1, none⟩ = some (.int .i64 0) := (HO1.out).cells 1
  have hz2 : w1.cell? ⟨g4, 2, none⟩ = some (.int .i64 0) := (HO1.out).cells 2
  have hz3 : w1.cell? ⟨g4, 3, none⟩ = some (.int .i64 0) := (HO1.out).cells 3
  have hz4 : w1.cell? ⟨g4, 4, none⟩ = some (.slice none 0 0) := (HO1.out).cells 4
  have hz5 : w1.cell? ⟨g4, 5, none⟩ = some (.slice none 0 0) := (HO1.out).cells 5
  have hy0 := (HO1.out).thaw 0
  have hy1 := (HO1.out).thaw 1
  have hy2 := (HO1.out).thaw 2
  have hy3 := (HO1.out).thaw 3
  have hy4 := (HO1.out).thaw 4
  have hy5 := (HO1.out).thaw 5
  go_wp2_with fail
  refine (tCode (1 : Int) w1 _ HO1.out).mono ?_
  rintro e w5 ⟨rfl, hO5, hK5⟩
  have HO5 := hid hO5
  have HK5 := hid ((HK1.out).trans hK5)
  clear hO5 hK5
  unfold ansV ansC ansE
  clear hz0 hz1 hz2 hz3 hz4 hz5 hy0 hy1 hy2 hy3 hy4 hy5
  have hz0 : w5.cell? ⟨g4, 0, none⟩ = some (.int .i64 0) := (HO5.out).cells 0
  have hz1 : w5.cell? ⟨g4, 1, none⟩ = some (.int .i64 0) := (HO5.out).cells 1
  have hz2 : w5.cell? ⟨g4, 2, none⟩ = some (.int .i64 0) := (HO5.out).cells 2
  have hz3 : w5.cell? ⟨g4, 3, none⟩ = some (.int .i64 0) := (HO5.out).cells 3
  have hz4 : w5.cell? ⟨g4, 4, none⟩ = some (.slice none 0 0) := (HO5.out).cells 4
  have hz5 : w5.cell? ⟨g4, 5, none⟩ = some (.slice none 0 0) := (HO5.out).cells 5
  have hy0 := (HO5.out).thaw 0
  have hy1 := (HO5.out).thaw 1
  have hy2 := (HO5.out).thaw 2
  have hy3 := (HO5.out).thaw 3
  have hy4 := (HO5.out).thaw 4
  have hy5 := (HO5.out).thaw 5
  go_wp2_with fail
  have h1 := ((show Has w5 (pt g4 (.cells (ansC (ansE 0) nilV nilV) 32) :: _) from HO5.out)).ans (ansE (1 : Int)) nilV nilV
  refine bodyPost_ret (ans_result rfl rfl h1) rfl ?_
  exact ⟨rfl, h1.drop.drop, HK5.out.ans _ _ _ _ _ _ _⟩
end Go.Proofs.YtonhcefgakmpfaaGreatDoor
/- TreeNamesRise, plain: directories made in the root, one by one. -/
namespace Go.Proofs.YtonhcefgakmpfaaGreatDoor
open Go.RowKit Go.Own
def nm2 (a b : Nat) : Str := [UInt8.ofNat (97 + a), UInt8.ofNat (97 + b)]
/-- The root has so many names. -/
structure Nr (S : Tre) (k m : Nat) : Prop where
  gd : ∃ rk, Gd S rk k
  names : (S.at_ 1).names.length = m
  data : (S.at_ 1).data = []
theorem Nr.mkdir {S : Tre} {k m : Nat} (h : Nr S k m) {nm : Str} (hn : GoodN nm) : ∃ c S' m', S.mkdir (47 :: nm) = (ansE c, S') ∧ (c = 0 ∧ m' = m + 1 ∨ c = 6 ∧ m' = m) ∧ Nr S' (k + 1) m' := by
  obtain ⟨rk, hg⟩ := h.gd
  have h1 := hg.fresh_one hn
  have hg2 := hg.mkdir (47 :: nm)
  unfold Tre.mkdir at hg2 ⊢
  rw [h1] at hg2 ⊢
  by_cases h0 : (fnd (S.at_ 1).names nm).getD 0 ≠ 0
  · rw [if_pos h0] at hg2 ⊢
    exact ⟨6, S, m, rfl, .inr ⟨rfl, rfl⟩, ⟨⟨rk, hg.mono (Nat.le_succ k)⟩, h.names, h.data⟩⟩
  · rw [if_neg h0] at hg2 ⊢
    have hl := hg.last1
    have hd := make_dir S ⟨0, 1, nm⟩ 2 [] (by dsimp only; omega)
    dsimp only at hd
    have hnone : fnd (S.at_ 1).names nm = none := by
      obtain ⟨x, hx⟩ := hg.x.has1
      rw [at_of hx] at h0 ⊢
      cases hf : fnd x.names nm with
      | none => rfl
      | some c =>
        rw [hf] at h0
        obtain ⟨_, _, y, hy, _⟩ := (hg.nod hx).ents _ (fnd_some hf)
        exact absurd (Classical.not_not.1 h0) (hg.ne0 hy)
    refine ⟨0, S.make ⟨0, 1, nm⟩ 2 [], m + 1, rfl, .inl ⟨rfl, rfl⟩, ⟨hg2, ?_, ?_⟩⟩
    · rw [at_of hd]
      show (putA _ _ _).length = _
      rw [putA_new _ (fnd_none.1 hnone), List.length_append, h.names]
      rfl
    · rw [at_of hd]
      exact h.data
theorem Nr.list {S : Tre} {k m : Nat} (h : Nr S k m) : ∃ l, S.list 18 [47] = ⟨0, 0, 0, 0, [], l⟩ ∧ l.length = m ∧ l.Pairwise (· < ·) := by
  obtain ⟨rk, hg⟩ := h.gd
  have h2 := hg.root2
  refine ⟨sortedS ((S.at_ 1).names.map Prod.fst), ?_, ?_, ?_⟩
  · unfold Tre.list
    have e : S.find [47] ((18 : Int) == 18) = (⟨1, 0, []⟩, 0) := find_root S _
    rw [e]
    rw [if_neg (fun h => h rfl), if_neg (fun h => h.2 h2), if_pos rfl]
  · rw [sortedS_len, List.length_map]; exact h.names
  · obtain ⟨x, hx⟩ := hg.x.has1
    have hu : ((S.at_ 1).names.map Prod.fst).Nodup := by rw [at_of hx]; exact (hg.nod hx).uniq
    have hnd := (sortedS_perm ((S.at_ 1).names.map Prod.fst)).nodup_iff.2 hu
    have hs := sortedS_sorted ((S.at_ 1).names.map Prod.fst)
    refine (hs.and hnd).imp ?_
    rintro a b ⟨h1, h2⟩
    rw [decide_eq_true_eq] at h1
    exact Classical.byContradiction fun h3 => h2 (List.le_antisymm h1 (List.not_lt.1 h3))
theorem Nr.stat {S : Tre} {k m : Nat} (h : Nr S k m) : S.stat [47] true = ⟨0, m, 2, 1, [], []⟩ := by
  obtain ⟨rk, hg⟩ := h.gd
  obtain ⟨x, hx⟩ := hg.x.has1
  have hr := (hg.nod hx).root rfl
  have hn := h.names
  have hd := h.data
  unfold Tre.stat
  simp only [find_root, ne_eq, not_true_eq_false, if_false]
  rw [hd, hn]
  rw [at_of hx, hr.1, hr.2.2.1]
  simp
section
variable (q : Nat) (S : Tre) (k m : Nat) (mx : Int) (w : World) (L : List HP) (hM : MxL mx L) (hk : k < 100000) (h : Nr S k m)
include hM hk h
end
end Go.Proofs.YtonhcefgakmpfaaGreatDoor
/- THE WALK of Fill. -/
namespace Go.Proofs.YtonhcefgakmpfaaGreatDoor
open Go.RowKit Go.Own
/-- Byte k of number n's text. -/
def fb (n : Int) (k : Nat) : Int := (n / 2 ^ (8 * (k % 4)) + (k : Int) * 7) % 256
def fill (n : Int) (sz : Nat) : List Int := (List.range sz).map (fb n)
end Go.Proofs.YtonhcefgakmpfaaGreatDoor
/- THE WALK of TreeAppends. -/
namespace Go.Proofs.YtonhcefgakmpfaaGreatDoor
open Go.RowKit Go.Own
def lowQ : Qc := ⟨[36], fun _ args => .int .i64 (low (intOf (args.getD 0 undef)) (intOf (args.getD 1 undef))), []⟩
section
variable (q : Nat) (w : World) (L : List HP) {d : List Int} {wr : List Bool} (hd : d.length ≤ 5000) (hw : wr.length ≤ 162) (o : Nat) (ho : o ≤ 5000)
include hd hw ho
end
end Go.Proofs.YtonhcefgakmpfaaGreatDoor
/- A REGION THAT DRAWS ITS ORDER, WITH ONE ALLOCATION THAT MAY COME AT ANY TIME: walked in the text's order, the allocation ahead of each acting operation, and ahead of what waits for it. No program in sight. -/
namespace Go.Own
open Go.RowKit
section
variable {P : Program} {ops : Array Oper} {S : World → Prop} {rd : Nat → Bool} {qc : Qc}
def textOKF (ops : Array Oper) (rd : Nat → Bool) (j s : Nat) : Bool :=
  let A := ahead ops
  Region.noSelect ops && !rd j && (match ops[j]? with | some oj => oj.after.isEmpty | none => false) &&
  ((List.range ops.size).all fun i => match ops[i]?, ops[j]? with
    | some oi, some oj => (oi.after.all fun e => !Region.binds .any e || decide (e.on < i)) &&
      (decide (i = j) || (decide (s ≤ i) && (A.getD i []).contains j) || (oi.apart ops oj && oj.apart ops oi && (decide (i < s) || rd i))) &&
      (List.range i).all fun k => decide (i = j) || decide (k = j) || (A.getD i []).contains k || match ops[k]? with
        | none => true
        | some ok => ok.apart ops oi && (rd k || rd i)
    | _, _ => false)
structure OKF (ops : Array Oper) (rd : Nat → Bool) (j s : Nat) : Prop where
  sel : Region.noSelect ops = true
  rdj : rd j = false
  oj : ∃ oj, ops[j]? = some oj ∧ oj.after = #[]
  edges : ∀ {i : Nat} {oi : Oper}, ops[i]? = some oi → ∀ e ∈ oi.after, Region.binds .any e = true → e.on < i
  float : ∀ {i : Nat} {oi oj : Oper}, ops[i]? = some oi → ops[j]? = some oj → i ≠ j → ¬ Anc ops i j → oi.apart ops oj = true ∧ oj.apart ops oi = true ∧ (i < s ∨ rd i = true)
  low : ∀ {i : Nat} {oi oj : Oper}, ops[i]? = some oi → ops[j]? = some oj → i ≠ j → i < s → oi.apart ops oj = true ∧ oj.apart ops oi = true
  pair : ∀ {i k : Nat} {oi ok : Oper}, ops[i]? = some oi → ops[k]? = some ok → k < i → ¬ Anc ops i k → i ≠ j → k ≠ j → ok.apart ops oi = true ∧ (rd k = true ∨ rd i = true)
/-- The text's order, j ahead of each acting operation, or behind them all. -/
def wpF (P : Program) (qc : Qc) (ops : Array Oper) (S : World → Prop) (rd : Nat → Bool) (Q : Act → World → Prop) (j : Nat) (C : List Nat) : List Nat → Act → World → Prop
  | [], a, w => wpT P qc ops S rd Q (j :: C) a w
  | i :: rest, a, w => (rd i = false → wpT P qc ops S rd Q (j :: i :: (rest ++ C)) a w) ∧ stT P qc ops S rd i (wpF P qc ops S rd Q j C rest) a w
variable {Q : Act → World → Prop} {j s : Nat} {oj : Oper}
/-! ### Operation by operation -/
def stL (P : Program) (qc : Qc) (ops : Array Oper) (S : World → Prop) (o : Oper) (K : Act → World → Prop) (a : Act) (w : World) : Prop :=
  if Region.wanted o (yielded ops a.tmps) = true then
    (if isReader qc o = true then ∃ v, readsAt P qc S o a v ∧ K (a.put o.dst v) w
    else o.wp P a w (fun a' w' => S w' ∧ K a' w') (fun _ _ _ => False))
  else K (a.put o.dst undef) w
def wpl0F (P : Program) (qc : Qc) (ops : Array Oper) (S : World → Prop) (Q : Act → World → Prop) (oj : Oper) (C : List Oper) : List Oper → Act → World → Prop
  | [], a, w => wpl0 P qc ops S Q (oj :: C) a w
  | o :: rest, a, w => (isReader qc o = false → wpl0 P qc ops S Q (oj :: o :: (rest ++ C)) a w) ∧ stL P qc ops S o (wpl0F P qc ops S Q oj C rest) a w
/-- The walk of such a region. -/
structure wpLF (P : Program) (qc : Qc) (ops : Array Oper) (S : World → Prop) (Q : Act → World → Prop) (oj : Oper) (C l : List Oper) (a : Act) (w : World) : Prop where
  out : wpl0F P qc ops S Q oj C l a w
end
end Go.Own
/- THE WALK of TreeNamesRise. -/
namespace Go.Proofs.YtonhcefgakmpfaaGreatDoor
open Go.RowKit Go.Own
def lowC : Qc := ⟨[36], fun _ args => .int .i64 (low (intOf (args.getD 0 undef)) (intOf (args.getD 1 undef))), [29]⟩
theorem wrap8 (n : Int) (h : 0 ≤ n ∧ n ≤ 255) : IntKind.u8.wrap n = n := by
  simp [IntKind.wrap, IntKind.bits, IntKind.signed]
  omega
end Go.Proofs.YtonhcefgakmpfaaGreatDoor
