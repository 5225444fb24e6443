/- THE WALK of the reference's Sectors. -/
import Derived.Test.YtihfhigkpkamiaaRefb
import Derived.Test.YtihfhigkpkamiaaComp
import Derived.Test.YtihfhigkpkamiaaBack
import Derived.Test.YtihfhigkpkamiaaRolld
import Derived.Test.YtihfhigkpkamiaaText2
namespace Go.Rl
theorem ins_strict {S : List Int} {x : Int} (h : S.Pairwise (· < ·)) {q : Nat} (hq : q ≤ S.length) (h1 : ∀ j (hj : j < S.length), j < q → S[j] < x) (h2 : ∀ hq : q < S.length, x < S[q]) : (S.take q ++ [x] ++ S.drop q).Pairwise (· < ·) := by
  have hp := List.pairwise_iff_getElem.1 h
  rw [List.append_assoc, List.pairwise_append]
  refine ⟨h.sublist (List.take_sublist ..), ?_, ?_⟩
  · rw [List.singleton_append, List.pairwise_cons]
    refine ⟨fun y hy => ?_, h.sublist (List.drop_sublist ..)⟩
    obtain ⟨i, hi, rfl⟩ := List.getElem_of_mem hy
    rw [List.length_drop] at hi
    rw [List.getElem_drop]
    have h3 := h2 (by omega)
    rcases Nat.eq_zero_or_pos i with e | e
    · subst e; simpa using h3
    · have := hp q (q + i) (by omega) (by omega) (by omega); omega
  · intro a ha b hb
    obtain ⟨i, hi, rfl⟩ := List.getElem_of_mem ha
    rw [List.length_take] at hi
    rw [List.getElem_take]
    have h4 := h1 i (by omega) (by omega)
    rcases List.mem_append.1 hb with hb | hb
    · simp only [List.mem_singleton] at hb; omega
    · obtain ⟨j, hj, rfl⟩ := List.getElem_of_mem hb
      rw [List.length_drop] at hj
      rw [List.getElem_drop]
      exact hp i (q + j) (by omega) (by omega) (by omega)
theorem ins_mem {S : List Int} {x y : Int} {q : Nat} : y ∈ S.take q ++ [x] ++ S.drop q ↔ y ∈ S ∨ y = x := by
  rw [List.append_assoc, List.mem_append, List.mem_append, List.mem_singleton]
  have := List.take_append_drop q S
  constructor
  · rintro (h | h | h)
    · exact .inl (List.mem_of_mem_take h)
    · exact .inr h
    · exact .inl (List.mem_of_mem_drop h)
  · rintro (h | h)
    · rw [← this] at h
      rcases List.mem_append.1 h with h | h
      · exact .inl h
      · exact .inr (.inr h)
    · exact .inr (.inl h)
/-- What the loop keeps. -/
structure SecOk (S : List Int) (os : List Piece) : Prop where
  strict : S.Pairwise (· < ·)
  mem : ∀ x, x ∈ S ↔ x ∈ secs os
  len : S.length ≤ os.length
theorem SecOk.nil : SecOk [] [] := ⟨.nil, by simp [secs], Nat.le_refl _⟩
theorem SecOk.skip {S : List Int} {os : List Piece} {k : Nat} (hk : k < os.length) (h : SecOk S (os.take k)) (hm : may os[k] = false) : SecOk S (os.take (k + 1)) := by
  have e := secs_snoc os k hk
  rw [hm] at e
  exact ⟨h.strict, fun x => by rw [e]; exact h.mem x, by have := h.len; simp at *; omega⟩
theorem SecOk.same {S : List Int} {os : List Piece} {k : Nat} (hk : k < os.length) (h : SecOk S (os.take k)) (hm : may os[k] = true) (hx : os[k].sec ∈ S) : SecOk S (os.take (k + 1)) := by
  have e := secs_snoc os k hk
  rw [hm, if_pos rfl] at e
  refine ⟨h.strict, fun x => ?_, by have := h.len; simp at *; omega⟩
  rw [e, List.mem_append, ← h.mem, List.mem_singleton]
  constructor
  · exact .inl
  · rintro (h | rfl)
    · exact h
    · exact hx
theorem SecOk.ins {S : List Int} {os : List Piece} {k q : Nat} (hk : k < os.length) (h : SecOk S (os.take k)) (hm : may os[k] = true) (hq : q ≤ S.length) (h1 : ∀ j (hj : j < S.length), j < q → S[j] < os[k].sec) (h2 : ∀ hq : q < S.length, os[k].sec < S[q]) : SecOk (S.take q ++ [os[k].sec] ++ S.drop q) (os.take (k + 1)) := by
  have e := secs_snoc os k hk
  rw [hm, if_pos rfl] at e
  refine ⟨ins_strict h.strict hq h1 h2, fun x => ?_, by have := h.len; simp at *; omega⟩
  rw [e, ins_mem, h.mem, List.mem_append, List.mem_singleton]
theorem SecOk.eq {S : List Int} {os : List Piece} (h : SecOk S os) : sectors0 os = S := sectors0_eq h.strict h.mem
end Go.Rl
namespace Go.Proofs.Ytihfhigkpkamiaa
open Go.RowKit Go.Own Go.Rl
theorem ic_take (S : List Int) (q : Nat) : (ic S).take q = ic (S.take q) := by simp [ic, List.map_take]
theorem ic_drop (S : List Int) (q : Nat) : (ic S).drop q = ic (S.drop q) := by simp [ic, List.map_drop]
theorem ic_append (S T : List Int) : ic (S ++ T) = ic S ++ ic T := by simp [ic]
set_option maxRecDepth 100000 in
set_option maxHeartbeats 8000000 in
theorem refSectors (v : Value) (R : List Ob) (w : World) (L : List HP) (hn : R.length ≤ 100000) (hR : ∀ w', Has w' L → RdO w' v R) (hO : Has w L) :
    Calls Try.prog 18 #[v] w fun e w' => ∃ v', e = .returned v' ∧ Has w' (Ints v' (sectors0 (R.map (·.1))) :: L) ∧ Keep w w' := by
  obtain ⟨vp, vc, rfl, hvc, hvl⟩ := (hR w hO).form
  have HR := hid hR
  have HO0 := hid hO
  clear hR hO
  go_enter Try.func18, Try.ntmps18
  go_wp2_with fail
  go_loopw [3, 4] (fun f i w' => ∃ k : Nat, k ≤ R.length ∧ i = .int .i64 k ∧ Hid (∃ S, SecOk S ((R.map (·.1)).take k) ∧ Has w' (Ints f S :: L)) ∧ Hid (Keep w w')) (fun _ i _ => R.length - (intOf i).toNat)
  case atStart => exact ⟨0, by omega, rfl, hid ⟨[], SecOk.nil, HO0.out.row_nil _ _⟩, hid (Keep.refl w)⟩
  case round =>
    obtain ⟨k, hk, rfl, HY, HK⟩ := hrel
    obtain ⟨S, hS, hO⟩ := HY.out
    have HO := hid hO
    have HS := hid hS
    clear hO hS HY
    by_cases hlt : k < R.length
    · obtain ⟨vg, vo, c', xp, xm, e, x0, x1, x2, x3, x4⟩ := (HR.out _ HO.out.drop).at_ k hlt
      simp only [Value.slice.injEq, true_and] at e
      obtain ⟨rfl, rfl⟩ := e
      have hki : (k : Int) < (R.length : Int) := by omega
      obtain ⟨⟨⟨sc, ps, bs⟩, bv⟩, hq⟩ : ∃ q, R[k] = q := ⟨_, rfl⟩
      rw [hq] at x0 x1 x2 x3 x4
      simp only at x0 x1 x2 x3 x4
      subst x3
      have HC := hid (fun w' (h : Has w' L) => by have := ((HR.out w' h).cells3 k hlt).1; rw [hq] at this; exact this : ∀ w', Has w' L → w'.cell? ⟨vg, vo + k * 3, none⟩ = some (.int .i64 sc))
      have hkl : k < (R.map (·.1)).length := by simpa using hlt
      have HE := hid (show (R.map (·.1))[k] = ⟨sc, ps, bs⟩ by rw [List.getElem_map, hq])
      go_wp2_with fail
      refine (refMay sc ps xp xm bs _ _ x4 HO.out).mono ?_
      rintro e w3 ⟨rfl, hO3, hK3⟩
      have HO3 := hid hO3
      have HK3 := hid (HK.out.trans hK3)
      clear hO3 hK3 HO HK x0 x1 x2
      by_cases h1 : may ⟨sc, ps, bs⟩ = true
      · have H1 := hid h1
        rw [h1]
        clear h1
        try dsimp only
        have hSl : S.length ≤ 100000 := by have := HS.out.len; simp at this; omega
        obtain ⟨p3, c3, rfl, hc3, -, h3⟩ := (Ints.rd HO3.out).form
        have H3 := hid h3
        clear h3
        have x0 := HC.out w3 HO3.out.drop
        go_upto_block 2 with fail
        go_cut [5] (fun i wx => ∃ q m : Nat, q ≤ S.length ∧ i = .int .i64 q ∧ wx = w3.drewN m ∧ Hid ((∀ j (hj : j < S.length), j < q → S[j] < sc) ∧ ∀ hq : q < S.length, ¬ S[q] < sc))
        case first =>
          go_wp2_with fail
          go_loopw [5] (fun i wx => ∃ q m : Nat, q ≤ S.length ∧ i = .int .i64 q ∧ wx = w3.drewN m ∧ Hid (∀ j (hj : j < S.length), j < q → S[j] < sc)) (fun i _ => S.length - (intOf i).toNat)
          case atStart => exact ⟨0, 0, by omega, rfl, rfl, hid (by omega)⟩
          case round =>
            obtain ⟨q, m, hq, rfl, rfl, HQ⟩ := hrel
            by_cases hlq : q < S.length
            · have hqi : (q : Int) < (S.length : Int) := by omega
              obtain ⟨g3, o3, rfl, h8⟩ := H3.out (by omega)
              have x7 := h8 q (by omega)
              rw [ic, List.getElem?_map, List.getElem?_eq_getElem hlq, Option.map_some] at x7
              clear h8
              by_cases he : S[q] < sc
              · have HN := hid he
                have hd : decide (S[q] < sc) = true := decide_eq_true he
                clear he
                generalize hsq : S[q] = sq at *
                have HSQ := hid hsq
                clear hsq
                go_wp2_with fail
                refine region_text (fun w => w.cell? ⟨g3, o3 + q, none⟩ = some (.int .i64 sq) ∧ w.cell? ⟨vg, vo + k * 3, none⟩ = some (.int .i64 sc)) (by kernel_rfl) (by kernel_rfl) ⟨x7, x0⟩ ?_
                repeat (first
                  | (refine wpL_read (by rfl) (by rfl) ?_ ?_ ?_; rotate_left; (rintro w ⟨z0, z1⟩; go_simp; with_reducible rfl); simp only [Act.put, List.setIfInBounds_toArray, List.set_cons_zero, List.set_cons_succ])
                  | (refine wpL_skip (by rfl) ?_; simp only [Act.put, List.setIfInBounds_toArray, List.set_cons_zero, List.set_cons_succ]))
                refine wpL_nil ?_
                go_wp2_with fail
                refine ⟨⟨q + 1, m + 1, by omega, rfl, rfl, hid fun j hj h => ?_⟩, by simp [intOf]; omega⟩
                rcases Nat.lt_or_ge j q with h2 | h2
                · exact HQ.out j hj h2
                · obtain rfl : j = q := by omega
                  rw [HSQ.out]; exact HN.out
              · have HN := hid he
                have hd : decide (S[q] < sc) = false := decide_eq_false he
                clear he
                generalize hsq : S[q] = sq at *
                have HSQ := hid hsq
                clear hsq
                go_wp2_with fail
                refine region_text (fun w => w.cell? ⟨g3, o3 + q, none⟩ = some (.int .i64 sq) ∧ w.cell? ⟨vg, vo + k * 3, none⟩ = some (.int .i64 sc)) (by kernel_rfl) (by kernel_rfl) ⟨x7, x0⟩ ?_
                repeat (first
                  | (refine wpL_read (by rfl) (by rfl) ?_ ?_ ?_; rotate_left; (rintro w ⟨z0, z1⟩; go_simp; with_reducible rfl); simp only [Act.put, List.setIfInBounds_toArray, List.set_cons_zero, List.set_cons_succ])
                  | (refine wpL_skip (by rfl) ?_; simp only [Act.put, List.setIfInBounds_toArray, List.set_cons_zero, List.set_cons_succ]))
                refine wpL_nil ?_
                go_wp2_with fail
                go_meet
                exact ⟨q, m + 1, hq, rfl, rfl, hid ⟨HQ.out, fun _ => by rw [HSQ.out]; exact HN.out⟩⟩
            · have hqi : decide ((q : Int) < (S.length : Int)) = false := decide_eq_false (by omega)
              go_wp2_with fail
              refine region_text (fun w => True) (by kernel_rfl) (by kernel_rfl) trivial ?_
              repeat (first
                | (refine wpL_read (by rfl) (by rfl) ?_ ?_ ?_; rotate_left; (rintro w hS; go_simp; with_reducible rfl); simp only [Act.put, List.setIfInBounds_toArray, List.set_cons_zero, List.set_cons_succ])
                | (refine wpL_skip (by rfl) ?_; simp only [Act.put, List.setIfInBounds_toArray, List.set_cons_zero, List.set_cons_succ]))
              refine wpL_nil ?_
              go_wp2_with fail
              go_meet
              exact ⟨q, m + 1, hq, rfl, rfl, hid ⟨HQ.out, fun h => absurd h hlq⟩⟩
        case rest =>
          obtain ⟨q, m, hq, rfl, rfl, HQ⟩ := hcut
          have HO4 := hid (HO3.out.drewN m)
          have HK4 := hid (HK3.out.drewN m)
          have x1 := HC.out _ HO4.out.drop
          have HTK : Hid (∀ w', Has w' (Ints (.slice p3 S.length c3) S :: L) → Rd w' (.slice p3 q c3) 1 q (ic (S.take q))) := hid fun w' h => by
            have := (Ints.rd h).takeS q hq
            rwa [Nat.mul_one, ic_take] at this
          have HDR : Hid (∀ w', Has w' (Ints (.slice p3 S.length c3) S :: L) → Rd w' (.slice (if c3 = q then p3 else p3.map fun a => a.add q) (S.length - q) (c3 - q)) 1 (S.length - q) (ic (S.drop q))) := hid fun w' h => by
            have := (Ints.rd h).dropS q hq
            rwa [Nat.mul_one, ic_drop] at this
          have hq0 : (q : Int) ≤ (S.length : Int) := by omega
          have hqc : (q : Int) ≤ (c3 : Int) := by omega
          generalize w3.drewN m = w4 at *
          by_cases hlq : q < S.length
          · have hqi : (q : Int) < (S.length : Int) := by omega
            have hqn : ((q : Int) == (S.length : Int)) = false := by simp; omega
            obtain ⟨g3, o3, rfl, h8⟩ := H3.out (by omega)
            have x7 := (h8 q (by omega))
            rw [ic, List.getElem?_map, List.getElem?_eq_getElem hlq, Option.map_some] at x7
            have X7 := hid (show w4.cell? ⟨g3, o3 + q, none⟩ = some (.int .i64 S[q]) by
              obtain ⟨p9, c9, e9, -, -, h9⟩ := (Ints.rd HO4.out).form
              simp only [Value.slice.injEq, true_and] at e9
              obtain ⟨rfl, rfl⟩ := e9
              obtain ⟨g9, o9, e9, h9⟩ := h9 (by omega)
              simp only [Option.some.injEq, Addr.mk.injEq, and_true] at e9
              obtain ⟨rfl, rfl⟩ := e9
              have := h9 q (by omega)
              rwa [ic, List.getElem?_map, List.getElem?_eq_getElem hlq, Option.map_some] at this)
            clear h8 x7
            have x7 := X7.out
            by_cases he : S[q] = sc
            · have HMEM := hid (show sc ∈ S from he ▸ List.getElem_mem hlq)
              rw [he] at x7
              clear he X7
              go_wp2_with fail
              refine region_text (fun w => w.cell? ⟨g3, o3 + q, none⟩ = some (.int .i64 sc) ∧ w.cell? ⟨vg, vo + k * 3, none⟩ = some (.int .i64 sc)) (by kernel_rfl) (by kernel_rfl) ⟨x7, x1⟩ ?_
              repeat (first
                | (refine wpL_read (by rfl) (by rfl) ?_ ?_ ?_; rotate_left; (rintro w ⟨z0, z1⟩; go_simp; with_reducible rfl); simp only [Act.put, List.setIfInBounds_toArray, List.set_cons_zero, List.set_cons_succ])
                | (refine wpL_skip (by rfl) ?_; simp only [Act.put, List.setIfInBounds_toArray, List.set_cons_zero, List.set_cons_succ]))
              refine wpL_nil ?_
              go_wp2_with fail
              exact ⟨⟨k + 1, by omega, rfl, hid ⟨S, HS.out.same hkl (by rw [HE.out]; exact H1.out) (by rw [HE.out]; exact HMEM.out), HO4.out.drew⟩, hid HK4.out.drew⟩, by simp [intOf]; omega⟩
            · have hne : (S[q] != sc) = true := by simpa using he
              have hcq : ¬ c3 = q := by omega
              have HDR := hid (fun w' h => by have := HDR.out w' h; rwa [if_neg hcq, Option.map_some, add_plain] at this : ∀ w', Has w' (Ints (.slice (some ⟨g3, o3, none⟩) S.length c3) S :: L) → Rd w' (.slice (some ⟨g3, o3 + q, none⟩) (S.length - q) (c3 - q)) 1 (S.length - q) (ic (S.drop q)))
              have HINS := hid (HS.out.ins hkl (by rw [HE.out]; exact H1.out) hq (by rw [HE.out]; exact HQ.out.1) (fun h => by rw [HE.out]; have h2 := HQ.out.2 h; show sc < S[q]; omega))
              rw [HE.out] at HINS
              clear he X7
              generalize S[q] = sq at *
              go_wp2_with fail
              refine region_text (fun w => w.cell? ⟨g3, o3 + q, none⟩ = some (.int .i64 sq) ∧ w.cell? ⟨vg, vo + k * 3, none⟩ = some (.int .i64 sc)) (by kernel_rfl) (by kernel_rfl) ⟨x7, x1⟩ ?_
              repeat (first
                | (refine wpL_read (by rfl) (by rfl) ?_ ?_ ?_; rotate_left; (rintro w ⟨z0, z1⟩; go_simp; with_reducible rfl); simp only [Act.put, List.setIfInBounds_toArray, List.set_cons_zero, List.set_cons_succ])
                | (refine wpL_skip (by rfl) ?_; simp only [Act.put, List.setIfInBounds_toArray, List.set_cons_zero, List.set_cons_succ]))
              refine wpL_nil ?_
              go_wp2_with fail
              refine region_text2 (fun w => w.cell? ⟨vg, vo + k * 3, none⟩ = some (.int .i64 sc)) 3 9 [_, _, _] [_, _, _, _, _] _ _ _ (by kernel_rfl) (by kernel_rfl) (by rfl) rfl rfl rfl (HC.out _ HO4.out.drew.drop) ?_
              simp only [List.cons_append, List.nil_append]
              repeat (first
                | (refine wpL_read (by rfl) (by rfl) ?_ ?_ ?_; rotate_left; (rintro w z0; go_simp; with_reducible rfl); simp only [Act.put, List.setIfInBounds_toArray, List.set_cons_zero, List.set_cons_succ])
                | (refine wpL_skip (by rfl) ?_; simp only [Act.put, List.setIfInBounds_toArray, List.set_cons_zero, List.set_cons_succ]))
              refine wpL_nil ⟨?_, ?_⟩
              · have HO4d := hid HO4.out.drew.drew
                have HK4d := hid HK4.out.drew.drew
                refine wpL_act (by rfl) (by rfl) (fun K hK => ?_)
                refine wp_appendA (.const (.slice none 0 0)) (.tmp 54) 34 rfl Try.underlying34 infoInt rfl (by decide) (HO4d.out.row_nil 3 1) (by rfl) _ q _ (by rfl) (HTK.out _ HO4d.out) (ic_one _) (le_maxLen (by omega)) (by omega) fun v5 w5 h5 hk5 => ?_
                have HO5 := hid h5
                have HK5 := hid (HK4d.out.trans hk5)
                clear h5 hk5
                refine hK.out _ _ (HC.out _ HO5.out.drop.drop) ?_
                clear hK K
                try simp only [Act.put, List.setIfInBounds_toArray, List.set_cons_zero, List.set_cons_succ]
                refine wpL_act (by rfl) (by rfl) (fun K hK => ?_)
                go_simp
                have HO6 := hid (HO5.out.alloc (.cells #[.int .i64 sc] 3))
                have HK6 := hid (HK5.out.alloc (.cells #[.int .i64 sc] 3))
                refine hK.out _ _ (HC.out _ HO6.out.drop.drop.drop) ?_
                clear hK K
                try simp only [Act.put, List.setIfInBounds_toArray, List.set_cons_zero, List.set_cons_succ]
                refine wpL_act (by rfl) (by rfl) (fun K hK => ?_)
                refine wp_append1 (.tmp 55) (.tmp 61) 34 rfl Try.underlying34 infoInt rfl [.int .i64 sc] rfl HO6.out.p1 (by rfl) 1 _ (by rfl) (fun j => by simp) (by simp [Value.oneCell']) (le_maxLen (by omega)) (by omega) fun v7 w7 h7 hk7 => ?_
                have HO7 := hid h7.p1.drop
                have HK7 := hid (HK6.out.trans hk7)
                clear h7 hk7
                refine hK.out _ _ (HC.out _ HO7.out.drop.drop) ?_
                clear hK K
                try simp only [Act.put, List.setIfInBounds_toArray, List.set_cons_zero, List.set_cons_succ]
                repeat (first
                  | (refine wpL_read (by rfl) (by rfl) ?_ ?_ ?_; rotate_left; (rintro w z0; go_simp; with_reducible rfl); simp only [Act.put, List.setIfInBounds_toArray, List.set_cons_zero, List.set_cons_succ])
                  | (refine wpL_skip (by rfl) ?_; simp only [Act.put, List.setIfInBounds_toArray, List.set_cons_zero, List.set_cons_succ]))
                refine wpL_act (by rfl) (by rfl) (fun K hK => ?_)
                refine wp_appendA (.tmp 62) (.tmp 65) 34 rfl Try.underlying34 infoInt rfl (by decide) HO7.out (by rfl) _ (S.length - q) _ (by rfl) (HDR.out _ HO7.out.drop) (ic_one _) (le_maxLen (by omega)) (by omega) fun v8 w8 h8 hk8 => ?_
                have HO8 := hid (show Has w8 (Ints v8 (S.take q ++ [sc] ++ S.drop q) :: L) from by
                  have h := h8.p1.drop
                  unfold Ints
                  rw [List.nil_append, show [Value.int .i64 sc] = ic [sc] from rfl, ← ic_append, ← ic_append, show 0 + q + 1 + (S.length - q) = (S.take q ++ [sc] ++ S.drop q).length by simp; omega] at h
                  exact h)
                have HK8 := hid (HK7.out.trans hk8)
                clear h8 hk8
                refine hK.out _ _ (HC.out _ HO8.out.drop) ?_
                clear hK K
                try simp only [Act.put, List.setIfInBounds_toArray, List.set_cons_zero, List.set_cons_succ]
                repeat (first
                  | (refine wpL_read (by rfl) (by rfl) ?_ ?_ ?_; rotate_left; (rintro w z0; go_simp; with_reducible rfl); simp only [Act.put, List.setIfInBounds_toArray, List.set_cons_zero, List.set_cons_succ])
                  | (refine wpL_skip (by rfl) ?_; simp only [Act.put, List.setIfInBounds_toArray, List.set_cons_zero, List.set_cons_succ]))
                refine wpL_nil ?_
                go_wp2_with fail
                exact ⟨⟨k + 1, by omega, rfl, hid ⟨_, HINS.out, HO8.out⟩, HK8⟩, by simp [intOf]; omega⟩
              · have HO4d := hid HO4.out.drew.drew
                have HK4d := hid HK4.out.drew.drew
                refine wpL_act (by rfl) (by rfl) (fun K hK => ?_)
                go_simp
                have HO5 := hid (HO4d.out.alloc (.cells #[.int .i64 sc] 3))
                have HK5 := hid (HK4d.out.alloc (.cells #[.int .i64 sc] 3))
                refine hK.out _ _ (HC.out _ HO5.out.drop.drop) ?_
                clear hK K
                try simp only [Act.put, List.setIfInBounds_toArray, List.set_cons_zero, List.set_cons_succ]
                refine wpL_act (by rfl) (by rfl) (fun K hK => ?_)
                refine wp_appendA (.const (.slice none 0 0)) (.tmp 54) 34 rfl Try.underlying34 infoInt rfl (by decide) (HO5.out.row_nil 3 1) (by rfl) _ q _ (by rfl) (HTK.out _ HO5.out.drop) (ic_one _) (le_maxLen (by omega)) (by omega) fun v5 w5 h5 hk5 => ?_
                have HO6 := hid h5
                have HK6 := hid (HK5.out.trans hk5)
                clear h5 hk5
                refine hK.out _ _ (HC.out _ HO6.out.drop.drop.drop) ?_
                clear hK K
                try simp only [Act.put, List.setIfInBounds_toArray, List.set_cons_zero, List.set_cons_succ]
                refine wpL_act (by rfl) (by rfl) (fun K hK => ?_)
                refine wp_append1 (.tmp 55) (.tmp 61) 34 rfl Try.underlying34 infoInt rfl [.int .i64 sc] rfl HO6.out (by rfl) 1 _ (by rfl) (fun j => by simpa using HO6.out.p1.cells j) (by simp [Value.oneCell']) (le_maxLen (by omega)) (by omega) fun v7 w7 h7 hk7 => ?_
                have HO7 := hid h7.p1.drop
                have HK7 := hid (HK6.out.trans hk7)
                clear h7 hk7
                refine hK.out _ _ (HC.out _ HO7.out.drop.drop) ?_
                clear hK K
                try simp only [Act.put, List.setIfInBounds_toArray, List.set_cons_zero, List.set_cons_succ]
                repeat (first
                  | (refine wpL_read (by rfl) (by rfl) ?_ ?_ ?_; rotate_left; (rintro w z0; go_simp; with_reducible rfl); simp only [Act.put, List.setIfInBounds_toArray, List.set_cons_zero, List.set_cons_succ])
                  | (refine wpL_skip (by rfl) ?_; simp only [Act.put, List.setIfInBounds_toArray, List.set_cons_zero, List.set_cons_succ]))
                refine wpL_act (by rfl) (by rfl) (fun K hK => ?_)
                refine wp_appendA (.tmp 62) (.tmp 65) 34 rfl Try.underlying34 infoInt rfl (by decide) HO7.out (by rfl) _ (S.length - q) _ (by rfl) (HDR.out _ HO7.out.drop) (ic_one _) (le_maxLen (by omega)) (by omega) fun v8 w8 h8 hk8 => ?_
                have HO8 := hid (show Has w8 (Ints v8 (S.take q ++ [sc] ++ S.drop q) :: L) from by
                  have h := h8.p1.drop
                  unfold Ints
                  rw [List.nil_append, show [Value.int .i64 sc] = ic [sc] from rfl, ← ic_append, ← ic_append, show 0 + q + 1 + (S.length - q) = (S.take q ++ [sc] ++ S.drop q).length by simp; omega] at h
                  exact h)
                have HK8 := hid (HK7.out.trans hk8)
                clear h8 hk8
                refine hK.out _ _ (HC.out _ HO8.out.drop) ?_
                clear hK K
                try simp only [Act.put, List.setIfInBounds_toArray, List.set_cons_zero, List.set_cons_succ]
                repeat (first
                  | (refine wpL_read (by rfl) (by rfl) ?_ ?_ ?_; rotate_left; (rintro w z0; go_simp; with_reducible rfl); simp only [Act.put, List.setIfInBounds_toArray, List.set_cons_zero, List.set_cons_succ])
                  | (refine wpL_skip (by rfl) ?_; simp only [Act.put, List.setIfInBounds_toArray, List.set_cons_zero, List.set_cons_succ]))
                refine wpL_nil ?_
                go_wp2_with fail
                exact ⟨⟨k + 1, by omega, rfl, hid ⟨_, HINS.out, HO8.out⟩, HK8⟩, by simp [intOf]; omega⟩
          · obtain rfl : q = S.length := by omega
            rw [Nat.sub_self] at HDR
            have HINS := hid (HS.out.ins hkl (by rw [HE.out]; exact H1.out) hq (by rw [HE.out]; exact HQ.out.1) (fun h => absurd h hlq))
            rw [HE.out] at HINS
            go_wp2_with fail
            refine region_text (fun w => True) (by kernel_rfl) (by kernel_rfl) trivial ?_
            repeat (first
              | (refine wpL_read (by rfl) (by rfl) ?_ ?_ ?_; rotate_left; (rintro w hS; go_simp; with_reducible rfl); simp only [Act.put, List.setIfInBounds_toArray, List.set_cons_zero, List.set_cons_succ])
              | (refine wpL_skip (by rfl) ?_; simp only [Act.put, List.setIfInBounds_toArray, List.set_cons_zero, List.set_cons_succ]))
            refine wpL_nil ?_
            go_wp2_with fail
            refine region_text2 (fun w => w.cell? ⟨vg, vo + k * 3, none⟩ = some (.int .i64 sc)) 3 9 [_, _, _] [_, _, _, _, _] _ _ _ (by kernel_rfl) (by kernel_rfl) (by rfl) rfl rfl rfl (HC.out _ HO4.out.drew.drop) ?_
            simp only [List.cons_append, List.nil_append]
            repeat (first
              | (refine wpL_read (by rfl) (by rfl) ?_ ?_ ?_; rotate_left; (rintro w z0; go_simp; with_reducible rfl); simp only [Act.put, List.setIfInBounds_toArray, List.set_cons_zero, List.set_cons_succ])
              | (refine wpL_skip (by rfl) ?_; simp only [Act.put, List.setIfInBounds_toArray, List.set_cons_zero, List.set_cons_succ]))
            refine wpL_nil ⟨?_, ?_⟩
            · have HO4d := hid HO4.out.drew.drew
              have HK4d := hid HK4.out.drew.drew
              refine wpL_act (by rfl) (by rfl) (fun K hK => ?_)
              refine wp_appendA (.const (.slice none 0 0)) (.tmp 54) 34 rfl Try.underlying34 infoInt rfl (by decide) (HO4d.out.row_nil 3 1) (by rfl) _ S.length _ (by rfl) (HTK.out _ HO4d.out) (ic_one _) (le_maxLen (by omega)) (by omega) fun v5 w5 h5 hk5 => ?_
              have HO5 := hid h5
              have HK5 := hid (HK4d.out.trans hk5)
              clear h5 hk5
              refine hK.out _ _ (HC.out _ HO5.out.drop.drop) ?_
              clear hK K
              try simp only [Act.put, List.setIfInBounds_toArray, List.set_cons_zero, List.set_cons_succ]
              refine wpL_act (by rfl) (by rfl) (fun K hK => ?_)
              go_simp
              have HO6 := hid (HO5.out.alloc (.cells #[.int .i64 sc] 3))
              have HK6 := hid (HK5.out.alloc (.cells #[.int .i64 sc] 3))
              refine hK.out _ _ (HC.out _ HO6.out.drop.drop.drop) ?_
              clear hK K
              try simp only [Act.put, List.setIfInBounds_toArray, List.set_cons_zero, List.set_cons_succ]
              refine wpL_act (by rfl) (by rfl) (fun K hK => ?_)
              refine wp_append1 (.tmp 55) (.tmp 61) 34 rfl Try.underlying34 infoInt rfl [.int .i64 sc] rfl HO6.out.p1 (by rfl) 1 _ (by rfl) (fun j => by simp) (by simp [Value.oneCell']) (le_maxLen (by omega)) (by omega) fun v7 w7 h7 hk7 => ?_
              have HO7 := hid h7.p1.drop
              have HK7 := hid (HK6.out.trans hk7)
              clear h7 hk7
              refine hK.out _ _ (HC.out _ HO7.out.drop.drop) ?_
              clear hK K
              try simp only [Act.put, List.setIfInBounds_toArray, List.set_cons_zero, List.set_cons_succ]
              repeat (first
                | (refine wpL_read (by rfl) (by rfl) ?_ ?_ ?_; rotate_left; (rintro w z0; go_simp; with_reducible rfl); simp only [Act.put, List.setIfInBounds_toArray, List.set_cons_zero, List.set_cons_succ])
                | (refine wpL_skip (by rfl) ?_; simp only [Act.put, List.setIfInBounds_toArray, List.set_cons_zero, List.set_cons_succ]))
              refine wpL_act (by rfl) (by rfl) (fun K hK => ?_)
              refine wp_appendA (.tmp 62) (.tmp 65) 34 rfl Try.underlying34 infoInt rfl (by decide) HO7.out (by rfl) _ 0 _ (by rfl) (HDR.out _ HO7.out.drop) (ic_one _) (le_maxLen (by omega)) (by omega) fun v8 w8 h8 hk8 => ?_
              have HO8 := hid (show Has w8 (Ints v8 (S.take S.length ++ [sc] ++ S.drop S.length) :: L) from by
                have h := h8.p1.drop
                unfold Ints
                rw [List.nil_append, show [Value.int .i64 sc] = ic [sc] from rfl, ← ic_append, ← ic_append, show 0 + S.length + 1 + 0 = (S.take S.length ++ [sc] ++ S.drop S.length).length by simp] at h
                exact h)
              have HK8 := hid (HK7.out.trans hk8)
              clear h8 hk8
              refine hK.out _ _ (HC.out _ HO8.out.drop) ?_
              clear hK K
              try simp only [Act.put, List.setIfInBounds_toArray, List.set_cons_zero, List.set_cons_succ]
              repeat (first
                | (refine wpL_read (by rfl) (by rfl) ?_ ?_ ?_; rotate_left; (rintro w z0; go_simp; with_reducible rfl); simp only [Act.put, List.setIfInBounds_toArray, List.set_cons_zero, List.set_cons_succ])
                | (refine wpL_skip (by rfl) ?_; simp only [Act.put, List.setIfInBounds_toArray, List.set_cons_zero, List.set_cons_succ]))
              refine wpL_nil ?_
              generalize (if c3 = S.length then p3 else Option.map (fun x => x.add S.length) p3) = z65
              go_wp2_with fail
              exact ⟨⟨k + 1, by omega, rfl, hid ⟨_, HINS.out, HO8.out⟩, HK8⟩, by simp [intOf]; omega⟩
            · have HO4d := hid HO4.out.drew.drew
              have HK4d := hid HK4.out.drew.drew
              refine wpL_act (by rfl) (by rfl) (fun K hK => ?_)
              go_simp
              have HO5 := hid (HO4d.out.alloc (.cells #[.int .i64 sc] 3))
              have HK5 := hid (HK4d.out.alloc (.cells #[.int .i64 sc] 3))
              refine hK.out _ _ (HC.out _ HO5.out.drop.drop) ?_
              clear hK K
              try simp only [Act.put, List.setIfInBounds_toArray, List.set_cons_zero, List.set_cons_succ]
              refine wpL_act (by rfl) (by rfl) (fun K hK => ?_)
              refine wp_appendA (.const (.slice none 0 0)) (.tmp 54) 34 rfl Try.underlying34 infoInt rfl (by decide) (HO5.out.row_nil 3 1) (by rfl) _ S.length _ (by rfl) (HTK.out _ HO5.out.drop) (ic_one _) (le_maxLen (by omega)) (by omega) fun v5 w5 h5 hk5 => ?_
              have HO6 := hid h5
              have HK6 := hid (HK5.out.trans hk5)
              clear h5 hk5
              refine hK.out _ _ (HC.out _ HO6.out.drop.drop.drop) ?_
              clear hK K
              try simp only [Act.put, List.setIfInBounds_toArray, List.set_cons_zero, List.set_cons_succ]
              refine wpL_act (by rfl) (by rfl) (fun K hK => ?_)
              refine wp_append1 (.tmp 55) (.tmp 61) 34 rfl Try.underlying34 infoInt rfl [.int .i64 sc] rfl HO6.out (by rfl) 1 _ (by rfl) (fun j => by simpa using HO6.out.p1.cells j) (by simp [Value.oneCell']) (le_maxLen (by omega)) (by omega) fun v7 w7 h7 hk7 => ?_
              have HO7 := hid h7.p1.drop
              have HK7 := hid (HK6.out.trans hk7)
              clear h7 hk7
              refine hK.out _ _ (HC.out _ HO7.out.drop.drop) ?_
              clear hK K
              try simp only [Act.put, List.setIfInBounds_toArray, List.set_cons_zero, List.set_cons_succ]
              repeat (first
                | (refine wpL_read (by rfl) (by rfl) ?_ ?_ ?_; rotate_left; (rintro w z0; go_simp; with_reducible rfl); simp only [Act.put, List.setIfInBounds_toArray, List.set_cons_zero, List.set_cons_succ])
                | (refine wpL_skip (by rfl) ?_; simp only [Act.put, List.setIfInBounds_toArray, List.set_cons_zero, List.set_cons_succ]))
              refine wpL_act (by rfl) (by rfl) (fun K hK => ?_)
              refine wp_appendA (.tmp 62) (.tmp 65) 34 rfl Try.underlying34 infoInt rfl (by decide) HO7.out (by rfl) _ 0 _ (by rfl) (HDR.out _ HO7.out.drop) (ic_one _) (le_maxLen (by omega)) (by omega) fun v8 w8 h8 hk8 => ?_
              have HO8 := hid (show Has w8 (Ints v8 (S.take S.length ++ [sc] ++ S.drop S.length) :: L) from by
                have h := h8.p1.drop
                unfold Ints
                rw [List.nil_append, show [Value.int .i64 sc] = ic [sc] from rfl, ← ic_append, ← ic_append, show 0 + S.length + 1 + 0 = (S.take S.length ++ [sc] ++ S.drop S.length).length by simp] at h
                exact h)
              have HK8 := hid (HK7.out.trans hk8)
              clear h8 hk8
              refine hK.out _ _ (HC.out _ HO8.out.drop) ?_
              clear hK K
              try simp only [Act.put, List.setIfInBounds_toArray, List.set_cons_zero, List.set_cons_succ]
              repeat (first
                | (refine wpL_read (by rfl) (by rfl) ?_ ?_ ?_; rotate_left; (rintro w z0; go_simp; with_reducible rfl); simp only [Act.put, List.setIfInBounds_toArray, List.set_cons_zero, List.set_cons_succ])
                | (refine wpL_skip (by rfl) ?_; simp only [Act.put, List.setIfInBounds_toArray, List.set_cons_zero, List.set_cons_succ]))
              refine wpL_nil ?_
              generalize (if c3 = S.length then p3 else Option.map (fun x => x.add S.length) p3) = z65
              go_wp2_with fail
              exact ⟨⟨k + 1, by omega, rfl, hid ⟨_, HINS.out, HO8.out⟩, HK8⟩, by simp [intOf]; omega⟩
      · simp only [Bool.not_eq_true] at h1
        rw [h1]
        try dsimp only
        go_wp2_with fail
        exact ⟨⟨k + 1, by omega, rfl, hid ⟨S, HS.out.skip hkl (by rw [HE.out]; exact h1), HO3.out⟩, HK3⟩, by simp [intOf]; omega⟩
    · obtain rfl : k = R.length := by omega
      go_wp2_with fail
      go_ret
      have h := HO.out
      have h2 := HS.out
      rw [List.take_of_length_le (by simp)] at h2
      rw [h2.eq]
      exact ⟨_, rfl, h, HK.out⟩
end Go.Proofs.Ytihfhigkpkamiaa
