/- TEXTS of mine, merged. -/
import Derived.Test.YtajnhggcaiakeaaM6
import Derived.Test.YtajnhggcaiakeaaM5
/- THE WALKS of Ready. -/
namespace Go.Proofs.Ytajnhggcaiakeaa
open Go.RowKit Go.Own Go.Maps Go.ChangeMaps Go.Own.Dp
def someN (E : Gph) (x : Int) : Bool := decide (0 < (nd E x).length)
def keepN (E : Gph) (T : List Int) : List Int := T.filter fun x => !someN E x
abbrev bxG (q g : Nat) : HP := pt q (.cells #[gP g] 25)
abbrev fnR (q : Nat) : Value := .func (Fn.func 27) #[] #[.pointer (some ⟨q, 0, none⟩)]
def atO : Option Nat → Int
  | some i => i
  | none => -1
theorem filter_snocN (p : Int → Bool) (l : List Int) (x : Int) : ((l ++ [x]).filter fun y => !p y) = (l.filter fun y => !p y) ++ (if p x = true then [] else [x]) := by
  rw [List.filter_append]
  congr 1
  rw [List.filter_cons]
  cases p x <;> rfl
set_option maxRecDepth 100000 in
set_option maxHeartbeats 4000000 in
theorem rOne (g q : Nat) (E : Gph) (x : Int) (w : World) (L : List HP) (hx : x ∈ ids E) (hO : Has w (bxG q g :: Gx g E :: L)) :
    Calls Try.prog 27 #[.int .i64 x, .pointer (some ⟨q, 0, none⟩)] w fun e w' => e = .returned (.bool (someN E x)) ∧ w = w' := by
  obtain ⟨m, T, hE, hT⟩ := Gx.iff.1 hO.p1
  have hxk := Gx.ok hO.p1 hx
  obtain ⟨T1, b, s, T2, hTe, hfb, hndx, -, -⟩ := Gr.split hT (by rw [gids_er, hE]; exact hx)
  subst hTe
  rw [hE] at hndx
  have hc1 : w.cell? ⟨q, 0, none⟩ = some (gP g) := by rw [hO.cells 0]; rfl
  have HSP := Gr.pull.1 hT
  have hc3 := Gro.at0 HSP.p1
  have hl3 := Gro.look0 HSP.p1 hxk
  rw [hfb] at hl3
  have hln := fun ty => Ns.len HSP ty
  have hsn : someN E x = decide ((0 : Int) < (s.length : Int)) := by
    unfold someN
    rw [hndx]
    exact decide_eq_decide.2 (by omega)
  rw [hsn]
  clear hsn HSP hT hO hfb hndx hE hx hxk
  go_enter Try.func27, Try.ntmps27
  go_wp2_with fail
  go_ret
  exact ⟨rfl, rfl⟩
set_option maxRecDepth 100000 in
set_option maxHeartbeats 4000000 in
theorem rIndex (v : Value) (T : List Int) (g q : Nat) (E : Gph) (w : World) (L : List HP) (hr : Rd w v 1 T.length (ic T)) (hl : T.length ≤ 1000000) (hin : ∀ x ∈ T, x ∈ ids E) (hO : Has w (bxG q g :: Gx g E :: L)) :
    Calls Try.prog 33 #[v, fnR q] w fun e w' => (∃ r : Option Nat, e = .returned (.int .i64 (atO r)) ∧ match r with
      | none => Hid (keepN E T = T)
      | some i => Hid (i < T.length ∧ keepN E (T.take (i + 1)) = T.take i)) ∧ w = w' := by
  obtain ⟨p, c, rfl, -, -, hcs⟩ := hr.form
  have HO := hid hO
  have HL := hid hl
  have HCS := hid hcs
  have HIN := hid hin
  clear hr hO hl hcs hin
  go_enter Try.func33, Try.ntmps33
  go_wp2_with fail
  go_loopw [8] (fun i w' => ∃ k : Nat, k ≤ T.length ∧ i = .int .i64 k ∧ Hid ((T.take k).filter (fun x => !someN E x) = T.take k) ∧ w = w') (fun i _ => T.length - (intOf i).toNat)
  case atStart => exact ⟨0, by omega, rfl, hid rfl, rfl⟩
  case round =>
    obtain ⟨k, hk, rfl, HN, rfl⟩ := hrel
    by_cases hlt : k < T.length
    · have hki : (k : Int) < (T.length : Int) := by omega
      have hk0 : (0 : Int) ≤ (k : Int) := by omega
      have hnb : (T.length : Int) ≤ 1000000 := by have := HL.out; omega
      obtain ⟨g0, o, rfl, hc⟩ := HCS.out (by omega)
      obtain ⟨x, hx⟩ : ∃ x, T[k]? = some x := ⟨_, List.getElem?_eq_getElem hlt⟩
      have hcell : w.cell? ⟨g0, o + k, none⟩ = some (.int .i64 x) := by
        rw [hc k (by omega), ic, List.getElem?_map, hx]; rfl
      have HF := hid (rOne g q E x w L (HIN.out x (List.mem_of_getElem? hx)) HO.out)
      have htk : T.take (k + 1) = T.take k ++ [x] := by rw [List.take_add_one, hx]; rfl
      have HLT := hid hlt
      have HTK := hid htk
      clear hc hx htk hlt hk
      cases hp : someN E x
      · rw [hp] at HF
        have HP := hid hp
        clear hp
        go_wp2_with fail
        refine HF.out.mono ?_
        rintro e w2 ⟨rfl, rfl⟩
        try dsimp only
        go_wp2_with fail
        exact ⟨⟨k + 1, by have := HLT.out; omega, by go_num, hid (by rw [HTK.out, filter_snocN, HN.out, HP.out]; rfl), trivial⟩, by have := HLT.out; simp [intOf]; omega⟩
      · rw [hp] at HF
        have HP := hid hp
        clear hp
        go_wp2_with fail
        refine HF.out.mono ?_
        rintro e w2 ⟨rfl, rfl⟩
        try dsimp only
        go_wp2_with fail
        go_ret
        exact ⟨⟨some k, rfl, hid ⟨HLT.out, by unfold keepN; rw [HTK.out, filter_snocN, HN.out, HP.out]; simp⟩⟩, rfl⟩
    · have hki : ¬ (k : Int) < (T.length : Int) := by omega
      obtain rfl : k = T.length := by omega
      clear hlt hk
      go_wp2_with fail
      go_ret
      have h := HN.out
      rw [List.take_length] at h
      exact ⟨⟨none, rfl, hid h⟩, rfl⟩
theorem set_mid (K M : List Int) (y x : Int) (D : List Int) : (K ++ (y :: M) ++ D).set K.length x = K ++ [x] ++ M ++ D := by
  simp [List.set_append_right]
set_option maxRecDepth 100000 in
set_option maxHeartbeats 8000000 in
theorem rDelete (v : Value) (T : List Int) (g q : Nat) (E : Gph) (w : World) (L : List HP) (hl : T.length ≤ 1000000) (hin : ∀ x ∈ T, x ∈ ids E) (hO : Has w (Ints v T :: bxG q g :: Gx g E :: L)) :
    Calls Try.prog 26 #[v, fnR q] w fun e w' => ∃ v', e = .returned v' ∧ Has w' (Ints v' (T.filter fun x => !someN E x) :: bxG q g :: Gx g E :: L) ∧ Keep w w' := by
  obtain ⟨p, c, rfl, -, -, hcs⟩ := (Ints.rd hO).form
  have HCS := hid hcs
  have HI := hid (rIndex (.slice p T.length c) T g q E w _ (Ints.rd hO) hl hin (hO.re 3 [1, 2, 0]))
  have HL := hid hl
  have HIN := hid hin
  have HO := hid hO
  clear hO hcs hl hin
  go_enter Try.func26, Try.ntmps26
  go_wp2_with fail
  refine HI.out.mono ?_
  rintro e w2 ⟨⟨r, rfl, hr⟩, rfl⟩
  clear HI
  rcases r with _ | i0
  · have HE := hid hr.out
    clear hr
    simp only [atO]
    go_wp2_with fail
    go_ret
    refine ⟨_, rfl, ?_, Keep.refl w⟩
    rw [show (T.filter fun x => !someN E x) = T from HE.out]
    exact HO.out
  · obtain ⟨hi0, e1⟩ := hr.out
    clear hr
    obtain ⟨g0, o, hp, -⟩ := HCS.out (by omega)
    have ho : o = 0 := by
      obtain ⟨_, h | ⟨g', c', cur, e, _⟩⟩ := HO.out.row_cases
      · rw [hp] at h; cases h.1
      · rw [hp] at e; simp at e; exact e.1.2
    subst ho
    subst hp
    have HX : Hid (∃ M : List Int, i0 + M.length = i0 + 1 ∧ Has w (row (.slice (some ⟨g0, 0, none⟩) T.length c) 3 1 T.length (ic (T.take i0 ++ M ++ T.drop (i0 + 1))) :: bxG q g :: Gx g E :: L)) := hid ⟨[T[i0]], by simp, by
      have e : T.take i0 ++ [T[i0]] ++ T.drop (i0 + 1) = T := by rw [← List.take_succ_eq_append_getElem hi0, List.take_append_drop]
      rw [e]; exact HO.out⟩
    have HE := hid (show ((T.take (i0 + 1)).filter fun x => !someN E x) = T.take i0 from e1)
    have HI0 := hid hi0
    have HKK := hid (Keep.refl w)
    have hib : (i0 : Int) < 1000000 := by have := HL.out; omega
    have hi00 : (0 : Int) ≤ (i0 : Int) := by omega
    have hi1 : ((i0 : Int) == -1) = false := by simp
    clear e1 HO hi0
    simp only [atO]
    go_wp2_with fail
    go_loopw [5, 6] (fun a b w' => ∃ i j : Nat, i < j ∧ j ≤ T.length ∧ a = .int .i64 i ∧ b = .int .i64 j ∧ Hid (i = ((T.take j).filter fun x => !someN E x).length ∧ ∃ M : List Int, i + M.length = j ∧ Has w' (row (.slice (some ⟨g0, 0, none⟩) T.length c) 3 1 T.length (ic (((T.take j).filter fun x => !someN E x) ++ M ++ T.drop j)) :: bxG q g :: Gx g E :: L)) ∧ Hid (Keep w w')) (fun _ b _ => T.length - (intOf b).toNat)
    case atStart =>
      obtain ⟨M, hM, hH⟩ := HX.out
      refine ⟨i0, i0 + 1, by omega, by have := HI0.out; omega, rfl, rfl, hid ⟨?_, M, hM, ?_⟩, HKK⟩
      · rw [HE.out, List.length_take]; have := HI0.out; omega
      · rw [HE.out]; exact hH
    case round =>
      clear HX HKK HE HI0 hib hi00 hi1
      obtain ⟨i, j, hij, hj, rfl, rfl, HX, HK⟩ := hrel
      obtain ⟨hi, M, hM, hO⟩ := HX.out
      have HO := hid hO
      have HI := hid hi
      have HMM := hid hM
      clear hO hi hM HX
      by_cases hlt : j < T.length
      · have hji : (j : Int) < (T.length : Int) := by omega
        have hj0 : (0 : Int) ≤ (j : Int) := by omega
        have hi0 : (0 : Int) ≤ (i : Int) := by omega
        have hin : (i : Int) < (T.length : Int) := by omega
        have hnb : (T.length : Int) ≤ 1000000 := by have := HL.out; omega
        obtain ⟨x, hx⟩ : ∃ x, T[j]? = some x := ⟨_, List.getElem?_eq_getElem hlt⟩
        have htk : T.take (j + 1) = T.take j ++ [x] := by rw [List.take_add_one, hx]; rfl
        have hdr : T.drop j = x :: T.drop (j + 1) := by
          rw [List.getElem?_eq_getElem hlt] at hx
          rw [List.drop_eq_getElem_cons hlt]
          simp only [Option.some.injEq] at hx
          rw [hx]
        generalize hK : ((T.take j).filter fun x => !someN E x) = K at *
        have hcell : wr.cell? ⟨g0, j, none⟩ = some (.int .i64 x) := by
          rw [HO.out.row_cells.2.1 j (by omega), ic, List.getElem?_map, List.getElem?_append_right (by simp only [List.length_append]; have := HI.out; have := HMM.out; omega), hdr]
          have : j - (K ++ M).length = 0 := by simp only [List.length_append]; have := HI.out; have := HMM.out; omega
          rw [this]; rfl
        have HTK := hid htk
        have HDR := hid hdr
        have HF := hid (rOne g q E x wr _ (HIN.out x (List.mem_of_getElem? hx)) (HO.out.re 3 [1, 2, 0]))
        have HKE := hid hK
        have HLT := hid hlt
        have HIJ := hid hij
        have hth := (HO.out.row_cells).2.2.1
        have hci : wr.cell? ⟨g0, i, none⟩ = (ic (K ++ M ++ T.drop j))[i]? := HO.out.row_cells.2.1 i (by omega)
        have hci2 : ∃ u, (ic (K ++ M ++ T.drop j))[i]? = some u := ⟨_, List.getElem?_eq_getElem (by rw [HO.out.row_own.1]; omega)⟩
        obtain ⟨u, hu⟩ := hci2
        rw [hu] at hci
        have HP := hid (HO.out.row_set i (by omega) (.int .i64 x))
        clear hx htk hdr hK hlt hij hj hu
        cases hp : someN E x
        · rw [hp] at HF
          have HPP := hid hp
          clear hp
          go_wp2_with fail
          refine HF.out.mono ?_
          rintro e w5 ⟨rfl, rfl⟩
          try dsimp only
          go_wp2_with fail
          obtain ⟨y, M0, hM0⟩ : ∃ y M0, M = y :: M0 := by
            rcases M with _ | ⟨y, M0⟩
            · have := HMM.out; have := HIJ.out; simp at *; omega
            · exact ⟨y, M0, rfl⟩
          have hset : (ic (K ++ M ++ T.drop j)).set i (.int .i64 x) = ic (K ++ [x] ++ (M0 ++ [x]) ++ T.drop (j + 1)) := by
            have h1 : (ic (K ++ M ++ T.drop j)).set i (.int .i64 x) = ic ((K ++ M ++ T.drop j).set i x) := by unfold ic; rw [List.map_set]
            rw [h1, hM0, HI.out, set_mid, HDR.out]
            simp
          have hP := HP.out
          rw [hset] at hP
          have hkf : ((T.take (j + 1)).filter fun x => !someN E x) = K ++ [x] := by rw [HTK.out, filter_snocN, HKE.out, HPP.out]; rfl
          refine ⟨⟨i + 1, j + 1, by have := HIJ.out; omega, by have := HLT.out; omega, by go_num, by go_num, hid ⟨?_, M0 ++ [x], ?_, ?_⟩, hid (HK.out.set _ _)⟩, by have := HLT.out; simp [intOf]; omega⟩
          · rw [hkf, List.length_append, HI.out]; rfl
          · have := HMM.out
            rw [hM0] at this
            simp only [List.length_append, List.length_cons, List.length_nil] at *
            omega
          · rw [hkf]; exact hP
        · rw [hp] at HF
          have HPP := hid hp
          clear hp
          go_wp2_with fail
          refine HF.out.mono ?_
          rintro e w5 ⟨rfl, rfl⟩
          try dsimp only
          go_wp2_with fail
          have hkf : ((T.take (j + 1)).filter fun x => !someN E x) = K := by rw [HTK.out, filter_snocN, HKE.out, HPP.out]; simp
          refine ⟨⟨i, j + 1, by have := HIJ.out; omega, by have := HLT.out; omega, rfl, by go_num, hid ⟨?_, M ++ [x], ?_, ?_⟩, HK⟩, by have := HLT.out; simp [intOf]; omega⟩
          · rw [hkf, HI.out]
          · have := HMM.out
            simp only [List.length_append, List.length_cons, List.length_nil]
            omega
          · have h := HO.out
            rw [HDR.out] at h
            have e : K ++ M ++ x :: T.drop (j + 1) = K ++ (M ++ [x]) ++ T.drop (j + 1) := by simp
            rw [e] at h
            rw [hkf]; exact h
      · obtain rfl : j = T.length := by omega
        have hji : ¬ (T.length : Int) < (T.length : Int) := by omega
        have hi0 : (0 : Int) ≤ (i : Int) := by omega
        have hin : (i : Int) ≤ (T.length : Int) := by omega
        have hnb : (T.length : Int) ≤ 1000000 := by have := HL.out; omega
        rw [List.take_length] at HO HI
        rw [List.drop_length, List.append_nil] at HO
        have hca := (HO.out.row_cells).2.2.2.1
        have hcai : (T.length : Int) ≤ (c : Int) := by omega
        have HIL := hid (show i ≤ T.length by omega)
        clear hj hlt hca
        go_wp2_with (refine wpList_clearTail rfl _ _ rfl HO.out Try.underlying22 zeroI rfl (by simp [Value.cells, Value.oneCell']) i HIL.out (some ⟨g0, i, none⟩) (c - i) rfl (fun _ => by rw [Nat.mul_one]) ?_)
        intro w7 h7 k7
        have HO7 := hid (show Has w7 (Ints (.slice (some ⟨g0, 0, none⟩) i c) (T.filter fun x => !someN E x) :: bxG q g :: Gx g E :: L) from by
          rw [ic, ← List.map_take, List.take_left' HI.out.symm] at h7
          unfold Ints
          rw [← HI.out]
          exact h7)
        have HK7 := hid (HK.out.trans k7)
        clear h7 k7
        go_wp2_with fail
        go_ret
        exact ⟨_, rfl, HO7.out, HK7.out⟩
set_option maxRecDepth 100000 in
set_option maxHeartbeats 4000000 in
theorem xReady (g : Nat) (E : Gph) (w : World) (L : List HP) (hE : E.length ≤ 1000) (hO : Has w (Gx g E :: L)) :
    Calls Try.prog 17 #[gP g] w fun e w' => ∃ v, e = .returned v ∧ Has w' (Ints v ((sorted (ids E)).filter fun x => !someN E x) :: Gx g E :: L) ∧ Keep w w' := by
  have HO1 := hid (hO.alloc (.cells #[gP g] 25))
  have HK1 := hid ((Keep.refl w).alloc (.cells #[gP g] 25))
  have hc := HO1.out.cells 0
  have HA := hid (xAll g E _ _ hE HO1.out.p1)
  have HE := hid hE
  clear hO hE
  go_enter Try.func17, Try.ntmps17
  go_wp2_with fail
  refine HA.out.mono ?_
  rintro e w3 ⟨v3, rfl, hO3, hK3⟩
  have HO3 := hid (hO3.re 3 [0, 2, 1])
  have HK3 := hid (HK1.out.trans hK3)
  clear hO3 hK3 HA
  obtain ⟨vp3, vc3, e3, -⟩ := (Ints.rd HO3.out).form
  subst e3
  try dsimp only
  go_wp2_with fail
  refine (rDelete (.slice vp3 (sorted (ids E)).length vc3) (sorted (ids E)) g w.heap.size E w3 L (by rw [sorted_len]; have := HE.out; simp [ids]; omega) (fun x hx => (sorted_perm _).mem_iff.1 hx) HO3.out).mono ?_
  rintro e w4 ⟨v4, rfl, hO4, hK4⟩
  have HO4 := hid hO4
  have HK4 := hid (HK3.out.trans hK4)
  clear hO4 hK4
  obtain ⟨vp4, vc4, e4, -⟩ := (Ints.rd HO4.out).form
  subst e4
  try dsimp only
  go_wp2_with fail
  go_ret
  exact ⟨_, rfl, HO4.out.re 3 [0, 2], HK4.out⟩
end Go.Proofs.Ytajnhggcaiakeaa
/- THE WALK of a graph's Levels. -/
namespace Go.Proofs.Ytajnhggcaiakeaa
open Go.RowKit Go.Own Go.Maps Go.ChangeMaps Go.Own.Dp
set_option maxRecDepth 100000 in
set_option maxHeartbeats 16000000 in
theorem xLevels (g : Nat) (E : Gph) (rk : Int → Nat) (v : Value) (is : List Int) (w : World) (L : List HP) (hA : Acy E rk) (hok : ∀ x ∈ is, okK x) (hil : is.length ≤ 1000) (hE : E.length ≤ 100) (hnd : ∀ x, (nd E x).length ≤ 100)
    (hr : Rd w v 1 is.length (ic is)) (hO : Has w (Gx g E :: L)) :
    Calls Try.prog 12 #[gP g, v] w fun e w' => ∃ v' B, e = .returned v' ∧ B.map Prod.snd = levF E (clo E is).length (clo E is) [] ∧ Has w' (Ll v' B :: Gx g E :: L) ∧ Keep w w' := by
  obtain ⟨vp, vc, rfl, -⟩ := hr.form
  have hnds := Gx.nodup hO
  have HC := hid (xClosure g E (.slice vp is.length vc) is w L hok hil hE hnd hr hO)
  have HA := hid hA
  have HND := hid hnd
  have HE := hid hE
  have HN := hid hnds
  clear hO hr hok hil hA hnd hE hnds
  have hmm := @run_makeMap Try.prog
  go_enter Try.func12, Try.ntmps12
  go_wp2_with fail
  refine HC.out.mono ?_
  rintro e w1 ⟨v1, rfl, hO1, hK1⟩
  have HO1 := hid hO1
  have HK1 := hid hK1
  clear hO1 hK1 HC
  obtain ⟨vp1, vc1, e1, -⟩ := (Ints.rd HO1.out).form
  subst e1
  try dsimp only
  have HMM := hid (@run_makeMap Try.prog)
  have hlm : (clo E is).length ≤ 100 := by
    have h1 : (clo E is).length ≤ (ids E).length := nodup_len (clo_nodup E is HN.out) fun x hx => ((clo_mem E is x).1 hx).there
    have h2 : (ids E).length = E.length := by simp [ids]
    have := HE.out
    omega
  have hLI : LI E (clo E is) [] := ⟨fun x hx => ((clo_mem E is x).1 hx).there, fun x hx y hy => .inl ((clo_mem E is y).2 (.step y x ((clo_mem E is x).1 hx) hy (HA.out x ((clo_mem E is x).1 hx).there y hy).1)), clo_nodup E is HN.out, by simp⟩
  have HLM := hid hlm
  have HLI := hid hLI
  clear hlm hLI
  generalize hcs : clo E is = cs at *
  have HCS := hid hcs
  clear hcs
  go_wp2_with fail
  have HO2 := hid (show Has (w1.alloc (.map #[] 0)) (Ints (.slice vp1 cs.length vc1) cs :: Ns w1.heap.size [] :: Ll (.slice none 0 0) [] :: Gx g E :: L) from by
    have h : Has (w1.alloc (.map #[] 0)) (Ns w1.heap.size [] :: Ints (.slice vp1 cs.length vc1) cs :: Gx g E :: L) := Ns.iff.2 ⟨_, Al.nil, HO1.out.mapMade Try.prog tI rI⟩
    exact (Ll.nil h).re 3 [2, 1, 0])
  have HK2 := hid (HK1.out.alloc (.map #[] 0))
  clear HO1 HK1
  generalize w1.alloc (.map #[] 0) = w2 at *
  generalize w1.heap.size = db at *
  go_loopw [5, 7] (fun v5 v7 wr => ∃ (lf dn : List Int) (B : Il) (n : Nat), (∃ p c, v5 = .slice p lf.length c) ∧ (∃ p c, v7 = .slice p B.length c) ∧ Hid (LI E lf dn) ∧ Hid (lf.length ≤ n ∧ levF E cs.length cs [] = B.map Prod.snd ++ levF E n lf dn ∧ B.length + lf.length ≤ 100 ∧ dn.length + lf.length ≤ 100) ∧ Hid (Has wr (Ints v5 lf :: Ns db dn :: Ll v7 B :: Gx g E :: L)) ∧ Hid (Keep w wr)) (fun v5 _ _ => lenV v5)
  case atStart => exact ⟨cs, [], [], cs.length, ⟨_, _, rfl⟩, ⟨_, _, rfl⟩, HLI, hid ⟨Nat.le_refl _, by simp, by have := HLM.out; simpa using this, by have := HLM.out; simpa using this⟩, HO2, HK2⟩
  case round =>
    clear HO2 HK2 HLI
    obtain ⟨lf, dn, B, n, ⟨p5, c5, rfl⟩, ⟨p7, c7, rfl⟩, HLI, HN2, HO, HK⟩ := hrel
    by_cases hlf : lf = []
    · subst hlf
      go_wp2_with fail
      go_ret
      refine ⟨_, B, rfl, ?_, HO.out.keep [false, false, true, true], HK.out⟩
      have h := HN2.out.2.1
      rw [levF_nil, List.append_nil] at h
      rw [HCS.out]
      exact h.symm
    · have hpos : (0 : Int) < (lf.length : Int) := by have := List.length_pos_iff.2 hlf; omega
      have HLF := hid hlf
      clear hlf
      go_wp2_with fail
      go_step3
      go_wp2_with fail
      go_step3
      go_wp2_with fail
      have HO3 := hid (show Has wr (Ints (.slice none 0 0) [] :: Ints (.slice none 0 0) [] :: Ints (.slice p5 lf.length c5) lf :: Ns db dn :: Gx g E :: Ll (.slice p7 B.length c7) B :: L) from
        ((HO.out.re 4 [0, 1, 3, 2]).row_nil tI 1).row_nil tI 1)
      clear HO
      have hdt : decide (0 < lf.length) = true := decide_eq_true (by omega)
      rw [hdt]
      clear hdt
      go_loopw [24, 8, 9] (fun i v8 v9 wr => ∃ (k : Nat), k ≤ lf.length ∧ i = .int .i64 k ∧ (∃ p c, v8 = .slice p ((lf.take k).filter (rdy E dn)).length c) ∧ (∃ p c, v9 = .slice p ((lf.take k).filter fun x => !rdy E dn x).length c) ∧
        Hid (Has wr (Ints v8 ((lf.take k).filter (rdy E dn)) :: Ints v9 ((lf.take k).filter fun x => !rdy E dn x) :: Ints (.slice p5 lf.length c5) lf :: Ns db dn :: Gx g E :: Ll (.slice p7 B.length c7) B :: L)) ∧ Hid (Keep w wr)) (fun i _ _ _ => lf.length - (intOf i).toNat)
      case atStart => exact ⟨0, by omega, rfl, ⟨none, 0, rfl⟩, ⟨none, 0, rfl⟩, HO3, HK⟩
      case round =>
        clear HO3 HK
        obtain ⟨k, hk, rfl, ⟨p8, c8, rfl⟩, ⟨p9, c9, rfl⟩, HO, HK⟩ := hrel
        by_cases hlt : k < lf.length
        · have hki : (k : Int) < (lf.length : Int) := by omega
          have hk0 : (0 : Int) ≤ (k : Int) := by omega
          have hk3 : (k : Int) ≤ 100000 := by have := HN2.out.2.2.1; omega
          obtain ⟨x, hx⟩ : ∃ x, lf[k]? = some x := ⟨_, List.getElem?_eq_getElem hlt⟩
          have hxm : x ∈ lf := List.mem_of_getElem? hx
          have hxi := HLI.out.there x hxm
          have hxk := Gx.ok HO.out.p4 hxi
          have htk : lf.take (k + 1) = lf.take k ++ [x] := by rw [List.take_add_one, hx]; rfl
          obtain ⟨p, c, e, -, -, hcs5⟩ := (Ints.rd HO.out.p2).form
          simp only [Value.slice.injEq, true_and] at e
          obtain ⟨rfl, rfl⟩ := e
          obtain ⟨g5, o5, rfl, hc5⟩ := hcs5 (by omega)
          have hcell : wr.cell? ⟨g5, o5 + k, none⟩ = some (.int .i64 x) := by
            rw [hc5 k (by omega), ic, List.getElem?_map, hx]; rfl
          obtain ⟨m, T, hE, hT⟩ := Gx.iff.1 HO.out.p4
          obtain ⟨T1, b, sx, T2, hTe, hfb, hndx, -, -⟩ := Gr.split hT (by rw [gids_er, hE]; exact hxi)
          subst hTe
          rw [hE] at hndx
          have HEE := hid hE
          have HSP := hid (Gr.pull.1 hT)
          have hc3 := Gro.at0 HSP.out.p1
          have hl3 := Gro.look0 HSP.out.p1 hxk
          rw [hfb] at hl3
          have HT8 := hid (show (lf.take (k + 1)).filter (rdy E dn) = (lf.take k).filter (rdy E dn) ++ (if rdy E dn x = true then [x] else []) from by
            rw [htk, filter_snoc])
          have HT9 := hid (show ((lf.take (k + 1)).filter fun x => !rdy E dn x) = ((lf.take k).filter fun x => !rdy E dn x) ++ (if rdy E dn x = true then [] else [x]) from by
            rw [htk, filter_snot])
          have HXM := hid hxm
          have HXK := hid hxk
          have HNX := hid hndx
          have HLT := hid hlt
          have HK9 := HK
          have hl8 : ((lf.take k).filter (rdy E dn)).length ≤ 100 := by have h1 := List.length_filter_le (rdy E dn) (lf.take k); have h2 := HN2.out.2.2.1; rw [List.length_take] at h1; omega
          have hl9 : ((lf.take k).filter fun x => !rdy E dn x).length ≤ 100 := by have h1 := List.length_filter_le (fun x => !rdy E dn x) (lf.take k); have h2 := HN2.out.2.2.1; rw [List.length_take] at h1; omega
          have HL8 := hid hl8
          have HL9 := hid hl9
          clear hl8 hl9
          generalize (lf.take k).filter (rdy E dn) = F8 at *
          generalize ((lf.take k).filter fun x => !rdy E dn x) = F9 at *
          clear hcs5 hc5 hT hfb hndx hx hxi hxk htk hxm hlt hk HO HK hE
          go_wp2_with (at_range; refine wpList_rnStart (b := b) (s := sx) HSP.out rfl _ rfl rfl ?_; intro w3 hO3 hK3 hs3)
          try go_frame
          have HO3 := hid hO3
          have HK3 := hid (HK9.out.trans hK3)
          clear hO3 hK3 hs3 hc3 hl3 hcell HSP HK9
          generalize wr.heap.size = r at *
          go_loopw [9] (fun v9 w4 => ∃ (rem : List Int) (cnt : Nat), v9 = .slice p9 F9.length c9 ∧ Hid (Has w4 (Rn b r sx rem cnt :: Gro g m T1 (x, b, sx) T2 :: Ints (.slice p8 F8.length c8) F8 :: Ints (.slice p9 F9.length c9) F9 :: Ints (.slice (some ⟨g5, o5, none⟩) lf.length c5) lf :: Ns db dn :: Ll (.slice p7 B.length c7) B :: L)) ∧ Hid (∀ y ∈ sx, y ∉ rem → y ∈ dn) ∧ Hid (Keep w w4)) (fun _ w4 => w4.rangeLeft b r)
          case atStart => exact ⟨sx, sx.length, rfl, HO3, hid (fun y hy hn => absurd hy hn), HK3⟩
          case round =>
            clear HO3 HK3
            obtain ⟨rem, cnt, rfl, HO, HR, HK⟩ := hrel
            go_wp2_with (at_next; refine wpList_rnNext (b := b) (r := r) (s := sx) (rem := rem) (cnt := cnt) HO.out rfl _ rfl rfl ?_ ?_)
            · intro hrem
              subst hrem
              have hr : rdy E dn x = true := by
                unfold rdy
                rw [decide_eq_true_iff, HNX.out]
                exact fun y hy => HR.out y hy (by simp)
              have HT8' := hid (by have h := HT8.out; rw [if_pos hr] at h; exact h)
              have HT9' := hid (by have h := HT9.out; rw [if_pos hr, List.append_nil] at h; exact h)
              clear hr HT8 HT9
              have HG := hid (show Has wr (Gx g E :: Ints (.slice p8 F8.length c8) F8 :: Ints (.slice p9 F9.length c9) F9 :: Ints (.slice (some ⟨g5, o5, none⟩) lf.length c5) lf :: Ns db dn :: Ll (.slice p7 B.length c7) B :: L) from Gx.iff.2 ⟨m, _, HEE.out, Gr.pull.2 (Rn.end HO.out)⟩)
              clear HO HR
              have HO2 := hid (HG.out.alloc (.cells #[.int .i64 x] 3)).p2
              have HK2 := hid (HK.out.alloc (.cells #[.int .i64 x] 3))
              have hcx := HO2.out.p1.cells 0
              clear HG HK
              go_wp2_with (at_builtin; refine wpList_append1 rfl _ _ _ rfl Try.underlying22 infoInt rfl (.int .i64 x) HO2.out rfl 1 wr.heap.size rfl hcx rfl (le_maxLen (by have := HL8.out; omega)) (by have := HL8.out; omega) ?_; intro v5 w5 h5 k5)
              have HO5 := hid (show Has w5 (Ints v5 (F8 ++ [x]) :: Ints (.slice p9 F9.length c9) F9 :: Ints (.slice (some ⟨g5, o5, none⟩) lf.length c5) lf :: Ns db dn :: Gx g E :: Ll (.slice p7 B.length c7) B :: L) from by
                have h6 : Has w5 (Ints v5 (F8 ++ [x]) :: pt wr.heap.size (.cells #[.int .i64 x] 3) :: Gx g E :: Ints (.slice p9 F9.length c9) F9 :: Ints (.slice (some ⟨g5, o5, none⟩) lf.length c5) lf :: Ns db dn :: Ll (.slice p7 B.length c7) B :: L) := by
                  unfold Ints at h5 ⊢
                  rw [ic_snoc, List.length_append]
                  exact h5
                exact h6.re 6 [0, 3, 4, 5, 2])
              have HK5 := hid (HK2.out.trans k5)
              obtain ⟨p8', c8', e8, -⟩ := (Ints.rd HO5.out).form
              subst e8
              clear h5 k5 HO2 HK2 hcx
              go_roundw
              case rel =>
                refine ⟨k + 1, by have := HLT.out; omega, by go_num, ⟨p8', c8', by rw [HT8'.out]⟩, ⟨p9, c9, by rw [HT9'.out]⟩, ?_, HK5⟩
                rw [HT8'.out, HT9'.out]
                exact HO5
              case measure => have := HLT.out; simp [intOf]; omega
            · intro y w4 cnt4 hy hyr hyk hO4 hlt4 hK4 hs4 hen
              have HO4 := hid hO4
              have HK4 := hid (HK.out.trans hK4)
              have HLC := hid hlt4
              have hlk := Ns.look0 hO4.p5 hyk
              have HCN := hid (Rx.left HO.out)
              by_cases hyd : y ∈ dn
              · rw [if_pos hyd] at hlk
                have HR4 := hid (show ∀ z ∈ sx, z ∉ (rem.filter fun q => q != y) → z ∈ dn from fun z hz hn => by
                  by_cases e : z = y
                  · rw [e]; exact hyd
                  · exact HR.out z hz fun hm => hn (List.mem_filter.2 ⟨hm, by simpa using e⟩))
                clear hyd hO4 hK4 hlt4 hs4 HR HO HK hyr hy
                go_wp2_with fail
                exact ⟨⟨_, cnt4, rfl, HO4, HR4, HK4⟩, by rw [Rx.left HO4.out, HCN.out]; exact HLC.out⟩
              · rw [if_neg hyd] at hlk
                have hr : ¬ rdy E dn x = true := by
                  unfold rdy
                  rw [decide_eq_true_iff, HNX.out]
                  exact fun h => hyd (h y hy)
                have HT8' := hid (by have h := HT8.out; rw [if_neg hr, List.append_nil] at h; exact h)
                have HT9' := hid (by have h := HT9.out; rw [if_neg hr] at h; exact h)
                clear hr HT8 HT9 hyd hyr hy hs4 HLC HCN HR HO HK hlt4 hK4 hO4
                have HG := hid (show Has w4 (Gx g E :: Ints (.slice p8 F8.length c8) F8 :: Ints (.slice p9 F9.length c9) F9 :: Ints (.slice (some ⟨g5, o5, none⟩) lf.length c5) lf :: Ns db dn :: Ll (.slice p7 B.length c7) B :: L) from Gx.iff.2 ⟨m, _, HEE.out, Gr.pull.2 (Rn.end HO4.out)⟩)
                clear HO4
                have HO2 := hid (HG.out.alloc (.cells #[.int .i64 x] 3)).p3
                have HK2 := hid (HK4.out.alloc (.cells #[.int .i64 x] 3))
                have hcx := HO2.out.p1.cells 0
                clear HG HK4
                go_wp2_with (at_builtin; refine wpList_append1 rfl _ _ _ rfl Try.underlying22 infoInt rfl (.int .i64 x) HO2.out rfl 1 w4.heap.size rfl hcx rfl (le_maxLen (by have := HL9.out; omega)) (by have := HL9.out; omega) ?_; intro v5 w5 h5 k5)
                have HO5 := hid (show Has w5 (Ints (.slice p8 F8.length c8) F8 :: Ints v5 (F9 ++ [x]) :: Ints (.slice (some ⟨g5, o5, none⟩) lf.length c5) lf :: Ns db dn :: Gx g E :: Ll (.slice p7 B.length c7) B :: L) from by
                  have h6 : Has w5 (Ints v5 (F9 ++ [x]) :: pt w4.heap.size (.cells #[.int .i64 x] 3) :: Gx g E :: Ints (.slice p8 F8.length c8) F8 :: Ints (.slice (some ⟨g5, o5, none⟩) lf.length c5) lf :: Ns db dn :: Ll (.slice p7 B.length c7) B :: L) := by
                    unfold Ints at h5 ⊢
                    rw [ic_snoc, List.length_append]
                    exact h5
                  exact h6.re 6 [3, 0, 4, 5, 2])
                have HK5 := hid (HK2.out.trans k5)
                obtain ⟨p9', c9', e9, -⟩ := (Ints.rd HO5.out.p1).form
                subst e9
                clear h5 k5 HO2 HK2 hcx
                go_roundw
                case rel =>
                  refine ⟨k + 1, by have := HLT.out; omega, by go_num, ⟨p8, c8, by rw [HT8'.out]⟩, ⟨p9', c9', by rw [HT9'.out]⟩, ?_, HK5⟩
                  rw [HT8'.out, HT9'.out]
                  exact HO5
                case measure => have := HLT.out; simp [intOf]; omega
        · obtain rfl : k = lf.length := by omega
          have hki : ¬ (lf.length : Int) < (lf.length : Int) := by omega
          have hall : lf.take lf.length = lf := List.take_of_length_le (Nat.le_refl _)
          rw [hall] at HO ⊢
          clear hall hlt hk
          have HF8 := hid (rfl : lf.filter (rdy E dn) = lf.filter (rdy E dn))
          have hl8 : (lf.filter (rdy E dn)).length ≤ 100 := by have h1 := List.length_filter_le (rdy E dn) lf; have h2 := HN2.out.2.2.1; omega
          have hl9 := HLI.out.less HA.out HLF.out
          have hap : ∀ x ∈ lf.filter (rdy E dn), okK x ∧ x ∉ dn := fun x hx => ⟨Gx.ok HO.out.p4 (HLI.out.there x (List.mem_filter.1 hx).1), HLI.out.apart x (List.mem_filter.1 hx).1⟩
          have hn8 : (lf.filter (rdy E dn)).Nodup := HLI.out.nodup.sublist List.filter_sublist
          have hs8 : dn.length + (lf.filter (rdy E dn)).length ≤ 100 := by have h1 := List.length_filter_le (rdy E dn) lf; have h2 := HN2.out.2.2.2; omega
          have HL8 := hid hl8
          have HL9 := hid hl9
          have HAP := hid hap
          have HN8 := hid hn8
          have HS8 := hid hs8
          have HST := hid HLI.out.step
          have hlev : levF E n lf dn = lf.filter (rdy E dn) :: levF E (n - 1) (lf.filter fun x => !rdy E dn x) (dn ++ lf.filter (rdy E dn)) := by
            have hn : n = (n - 1) + 1 := by have h1 := HN2.out.1; have h2 := List.length_pos_iff.2 HLF.out; omega
            rw [hn, levF, if_neg HLF.out]
            rfl
          have HLV := hid hlev
          have hsum : (lf.filter (rdy E dn)).length + (lf.filter fun x => !rdy E dn x).length = lf.length := by
            exact flt_len (rdy E dn) lf
          have HSM := hid hsum
          clear hl8 hl9 hap hn8 hs8 hlev hsum HF8
          generalize lf.filter (rdy E dn) = F8 at *
          generalize (lf.filter fun x => !rdy E dn x) = F9 at *
          go_wp2_with fail
          go_loopw [54] (fun i w4 => ∃ j : Nat, j ≤ F8.length ∧ i = .int .i64 j ∧ Hid (Has w4 (Ints (.slice p8 F8.length c8) F8 :: Ints (.slice p9 F9.length c9) F9 :: Ints (.slice p5 lf.length c5) lf :: Ns db (dn ++ F8.take j) :: Gx g E :: Ll (.slice p7 B.length c7) B :: L)) ∧ Hid (Keep w w4)) (fun i _ => F8.length - (intOf i).toNat)
          case atStart => exact ⟨0, by omega, rfl, by rw [List.take_zero, List.append_nil]; exact HO, HK⟩
          case round =>
            clear HO HK
            obtain ⟨j, hj, rfl, HO, HK⟩ := hrel
            by_cases hlt : j < F8.length
            · have hji : (j : Int) < (F8.length : Int) := by omega
              have hj0 : (0 : Int) ≤ (j : Int) := by omega
              have hj3 : (j : Int) ≤ 100000 := by have := HL8.out; omega
              obtain ⟨x, hx⟩ : ∃ x, F8[j]? = some x := ⟨_, List.getElem?_eq_getElem hlt⟩
              obtain ⟨p, c, e, -, -, hcs8⟩ := (Ints.rd HO.out).form
              simp only [Value.slice.injEq, true_and] at e
              obtain ⟨rfl, rfl⟩ := e
              obtain ⟨g8, o8, rfl, hc8⟩ := hcs8 (by omega)
              have hcell : wr.cell? ⟨g8, o8 + j, none⟩ = some (.int .i64 x) := by
                rw [hc8 j (by omega), ic, List.getElem?_map, hx]; rfl
              have hap := HAP.out x (List.mem_of_getElem? hx)
              have htk : F8.take (j + 1) = F8.take j ++ [x] := by rw [List.take_add_one, hx]; rfl
              have hnot : x ∉ dn ++ F8.take j := fun hm => by
                rcases List.mem_append.1 hm with hm | hm
                · exact hap.2 hm
                · have hnd := HN8.out
                  rw [← List.take_append_drop (j + 1) F8, htk] at hnd
                  obtain ⟨h1, -, -⟩ := List.nodup_append.1 hnd
                  obtain ⟨-, -, h3⟩ := List.nodup_append.1 h1
                  exact h3 x hm x (by simp) rfl
              have HTK := hid htk
              have HNT := hid hnot
              have HXK := hid hap.1
              have HLT := hid hlt
              have HDL := hid (show (dn ++ F8.take j).length < 1000000 from by have := HS8.out; rw [List.length_append, List.length_take]; omega)
              clear hcs8 hc8 hx hap htk hnot hlt hj
              have HSP := hid HO.out.p3
              go_wp2_with (at_mapUpdate; refine wpList_nsPut (b := db) (s := dn ++ F8.take j) _ HSP.out HDL.out rfl _ _ _ rfl rfl x HXK.out rfl rfl ?_; rw [if_neg HNT.out]; intro w5 hO5 hK5)
              refine ⟨⟨j + 1, by have := HLT.out; omega, by go_num, ?_, hid (HK.out.trans hK5)⟩, by have := HLT.out; simp [intOf]; omega⟩
              rw [HTK.out, ← List.append_assoc]
              exact hid (hO5.re 4 [1, 2, 3, 0])
            · obtain rfl : j = F8.length := by omega
              have hji : ¬ (F8.length : Int) < (F8.length : Int) := by omega
              have hall : F8.take F8.length = F8 := List.take_of_length_le (Nat.le_refl _)
              rw [hall] at HO
              have HB := hid (show B.length ≤ 100 from by have := HN2.out.2.2.1; omega)
              have HO2 := hid (show Has (wr.alloc (.cells #[.slice p8 F8.length c8] 22)) (row (.slice p7 B.length c7) 22 1 B.length (B.map Prod.fst) :: pt wr.heap.size (.cells #[.slice p8 F8.length c8] 22) :: ((B.map fun p => Ints p.1 p.2) ++ (Ints (.slice p8 F8.length c8) F8 :: Ints (.slice p9 F9.length c9) F9 :: Ns db (dn ++ F8) :: Gx g E :: L))) from by
                have h1 : Has wr (Ll (.slice p7 B.length c7) B :: Ints (.slice p8 F8.length c8) F8 :: Ints (.slice p9 F9.length c9) F9 :: Ns db (dn ++ F8) :: Gx g E :: L) := HO.out.re 6 [5, 0, 1, 3, 4]
                exact ((Ll.iff.1 h1).alloc _).p1)
              have HK2 := hid (HK.out.alloc (.cells #[.slice p8 F8.length c8] 22))
              have hcx := HO2.out.p1.cells 0
              clear HO HK hall hlt hj
              go_wp2_with (at_builtin; refine wpList_append1 rfl _ _ _ rfl Try.underlying32 infoSl rfl (.slice p8 F8.length c8) HO2.out rfl 1 wr.heap.size rfl hcx rfl (le_maxLen (by have := HB.out; omega)) (by have := HB.out; omega) ?_; intro v5 w5 h5 k5)
              have HO5 := hid (show Has w5 (Ints (.slice p9 F9.length c9) F9 :: Ns db (dn ++ F8) :: Ll v5 (B ++ [(.slice p8 F8.length c8, F8)]) :: Gx g E :: L) from by
                have h6 : Has w5 (Ll v5 (B ++ [(.slice p8 F8.length c8, F8)]) :: Ints (.slice p9 F9.length c9) F9 :: Ns db (dn ++ F8) :: Gx g E :: L) := Ll.snoc h5.p1.drop
                exact h6.re 3 [1, 2, 0])
              have HK5 := hid (HK2.out.trans k5)
              obtain ⟨p7', c7', e7⟩ := Ll.val HO5.out.p2
              subst e7
              clear h5 k5 HO2 HK2 hcx
              have HF := hid HN2.out
              go_roundw
              case rel =>
                refine ⟨F9, dn ++ F8, B ++ [(.slice p8 F8.length c8, F8)], n - 1, ⟨p9, c9, rfl⟩, ⟨p7', c7', rfl⟩, HST, hid ⟨?_, ?_, ?_, ?_⟩, HO5, HK5⟩
                · have h1 := HF.out.1; have h2 := HL9.out; omega
                · rw [HF.out.2.1, HLV.out]; simp
                · have h1 := HF.out.2.2.1; have h2 := HL9.out; simp; omega
                · have h1 := HF.out.2.2.2; have h2 := HSM.out; simp; omega
              case measure => have h2 := HL9.out; simp [lenV]; omega
end Go.Proofs.Ytajnhggcaiakeaa
/- THE WALK of SameLists, where the lists are the same. -/
namespace Go.Proofs.Ytajnhggcaiakeaa
open Go.RowKit Go.Own
theorem qaddI {P : Program} {f : FuncId} {args : Array Value} {w : World} {a n : Nat} {v : Value}
    (h : Calls P f args (w.drewN (a + n)) fun e w' => e = .returned v ∧ ∃ m, w' = (w.drewN (a + n)).drewN m) :
    Calls P f args (w.drewN (a + n)) fun e w'' => e = .returned v ∧ ∃ m, w'' = w.drewN (a + m) :=
  h.mono fun _ _ ⟨he, m, hm⟩ => ⟨he, n + m, by rw [hm, World.drewN_drewN, Nat.add_assoc]⟩
/-- v reads as a list of lists of ints. -/
def RdQ (w : World) (v : Value) (R : Il) : Prop := Rd w v 1 R.length (R.map (·.1)) ∧ ∀ x ∈ R, Rd w x.1 1 x.2.length (ic x.2)
theorem RdQ.drewN {w : World} {v : Value} {R : Il} (h : RdQ w v R) (n : Nat) : RdQ (w.drewN n) v R := ⟨h.1.drewN n, fun x hx => (h.2 x hx).drewN n⟩
theorem RdQ.at_ {w : World} {v : Value} {R : Il} (h : RdQ w v R) (k : Nat) (hk : k < R.length) : ∃ g o c p m, v = .slice (some ⟨g, o, none⟩) R.length c ∧ w.cell? ⟨g, o + k, none⟩ = some (.slice p R[k].2.length m) ∧ R[k].1 = .slice p R[k].2.length m := by
  obtain ⟨p, c, rfl, -, -, hr⟩ := h.1.form
  obtain ⟨g, o, rfl, hc⟩ := hr (by omega)
  obtain ⟨p, m, hx, -⟩ := (h.2 _ (List.getElem_mem hk)).form
  refine ⟨g, o, c, p, m, rfl, ?_, hx⟩
  rw [hc k (by omega), List.getElem?_map, List.getElem?_eq_getElem hk, Option.map_some, hx]
theorem RdQ.form {w : World} {v : Value} {R : Il} (h : RdQ w v R) : ∃ p c, v = .slice p R.length c := by
  obtain ⟨p, c, h, -⟩ := h.1.form
  exact ⟨p, c, h⟩
theorem RdQ.len {w : World} {v : Value} {R : Il} (h : RdQ w v R) : R.length ≤ 9223372036854775807 := by
  obtain ⟨p, c, -, -, h, -⟩ := h.1.form
  exact h
theorem Ll.rdq {w : World} {L : List HP} {v : Value} {B : Il} (h : Has w (Ll v B :: L)) : RdQ w v B := by
  have h1 := Ll.iff.1 h
  refine ⟨h1.rd, fun p hp => ?_⟩
  obtain ⟨B1, B2, rfl⟩ := List.append_of_mem hp
  have h2 : Has w (Ints p.1 p.2 :: ((B1.map fun p => Ints p.1 p.2) ++ (B2.map fun p => Ints p.1 p.2) ++ L)) := h1.drop.perm (by
    rw [List.map_append, List.map_cons, List.append_assoc]
    refine (List.perm_middle).trans (List.Perm.cons _ ?_)
    rw [List.append_assoc]
    exact List.Perm.refl _)
  exact Ints.rd h2
set_option maxRecDepth 100000 in
set_option maxHeartbeats 4000000 in
theorem sameListsYes (a b : Value) (R T : Il) (w : World) (ha : RdQ w a R) (hb : RdQ w b T) (hRT : R.map (·.2) = T.map (·.2)) :
    Calls Try.prog 18 #[a, b] w fun e w' => e = .returned (.bool true) ∧ ∃ n, w' = w.drewN n := by
  obtain ⟨pa, ca, ea⟩ := ha.form
  obtain ⟨pb, cb, eb⟩ := hb.form
  have hla := ha.len
  have hlb := hb.len
  have Ha := hid ha
  have Hb := hid hb
  clear ha hb
  subst ea eb
  have hl : R.length = T.length := by simpa using congrArg List.length hRT
  have ht : ((R.length : Int) != (T.length : Int)) = false := by simp [hl]
  have Hl := hid hl
  have HRT := hid hRT
  clear hl hRT
  go_enter Try.func18, Try.ntmps18
  go_wp2
  go_loopw [5] (fun i w' => ∃ k m : Nat, k ≤ R.length ∧ i = .int .i64 k ∧ w' = w.drewN m) (fun i _ => R.length - (intOf i).toNat)
  case atStart => exact ⟨0, 0, by omega, rfl, rfl⟩
  case round =>
    obtain ⟨k, m, hk, rfl, rfl⟩ := hrel
    by_cases hlt : k < R.length
    · have hky : k < T.length := by have := Hl.out; omega
      obtain ⟨ga, oa, c, p1, m1, e, h1, x1⟩ := Ha.out.at_ k hlt
      simp only [Value.slice.injEq, true_and] at e
      obtain ⟨rfl, rfl⟩ := e
      obtain ⟨gb, ob, c, p2, m2, e, h2, x2⟩ := Hb.out.at_ k hky
      simp only [Value.slice.injEq, true_and] at e
      obtain ⟨rfl, rfl⟩ := e
      have he : R[k].2 = T[k].2 := by
        have h := congrArg (fun l => l[k]?) HRT.out
        simpa only [List.getElem?_map, List.getElem?_eq_getElem hlt, List.getElem?_eq_getElem hky, Option.map_some, Option.some.injEq] using h
      have HC := hid (fun n => sameInts R[k].1 T[k].1 R[k].2 T[k].2 (w.drewN n) ((Ha.out.2 _ (List.getElem_mem hlt)).drewN _) ((Hb.out.2 _ (List.getElem_mem hky)).drewN _))
      rw [x1, x2, decide_eq_true he] at HC
      clear he x1 x2
      go_wp2
      go_quiet ((first | exact Calls.quiet_of (HC.out _) | exact qaddI (HC.out _)))
      go_wp2
      go_roundw
      case rel => exact ⟨k + 1, _, by omega, by go_num, rfl⟩
      case measure => simp [intOf]; omega
    · go_wp2
      go_ret
      exact ⟨rfl, _, rfl⟩
end Go.Proofs.Ytajnhggcaiakeaa
