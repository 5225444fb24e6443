/- TEXTS of mine, merged. -/
import Derived.Test.YtajlikakbihgbaaM9
import Derived.Test.YtajlikakbihgbaaM6
import Derived.Test.YtajlikakbihgbaaM5
/- THE WALKS of the reference's cache: at, newest, Drop. -/
namespace Go.Proofs.Ytajlikakbihgbaa
open Go.RowKit Go.Own Go.Dk Go.Ch
abbrev rC (q : Nat) (dv : Value) (most : Int) (v : Value) : HP := pt q (.cells (caC dv most v) 51)
abbrev rRow (v : Value) (T : List Hd) : HP := row v 92 4 T.length (hcells T)
theorem infoRH : (Try.prog.info? 92).map (fun i => (i.zero, i.size, i.bytes)) = some (some zeroH, 4, 40) := by kernel_rfl
set_option maxRecDepth 100000 in
set_option maxHeartbeats 4000000 in
theorem rAt (dv : Value) (most : Int) (v : Value) (T : List Hd) (q : Nat) (a : Int) (w : World) (L : List HP) (hr : Rd w v 4 T.length (hcells T)) (hl : T.length ≤ 10000) (hO : Has w (rC q dv most v :: L)) :
    Calls Try.prog 54 #[.pointer (some ⟨q, 0, none⟩), .int .i64 a] w fun e w' => e = .returned (.int .i64 (atN (find (T.map Hd.hb) a))) ∧ w = w' := by
  obtain ⟨p, c, rfl, -, -, hcs⟩ := hr.form
  have HR := hid hr
  have HCS := hid hcs
  have hq := hO.cells
  unfold caC at hq
  have HQ := hid hq
  clear hr hcs hO hq
  have hnl : (T.length : Int) ≤ 10000 := by omega
  have hq := HQ.out
  go_enter Try.func54, Try.ntmps54
  go_wp2_with fail
  go_loopw [5] (fun i w' => w' = w ∧ ∃ k : Nat, k ≤ T.length ∧ i = .int .i64 k ∧ Hid (∀ j (hj : j < T.length), j < k → T[j].at_ ≠ a)) (fun i _ => T.length - (intOf i).toNat)
  case atStart => exact ⟨rfl, 0, by omega, rfl, hid fun j _ h => absurd h (by omega)⟩
  case round =>
    obtain ⟨rfl, k, hk, rfl, HN⟩ := hrel
    by_cases hlt : k < T.length
    · have hki : (k : Int) < (T.length : Int) := by omega
      have hk0 : (0 : Int) ≤ (k : Int) := by omega
      obtain ⟨g, o, rfl, -⟩ := HCS.out (by omega)
      obtain ⟨c0, c1, c2, c3⟩ := hd_cells HR.out k hlt
      clear c1 c2 c3
      by_cases hx : T[k].at_ = a
      · rw [hx] at c0
        have HF := hid (find_some (K := T.map Hd.hb) (k := k) (a := a) (by simpa using hlt) (by rw [List.getElem_map]; exact hx) (fun j hj => by rw [List.getElem_map]; exact HN.out j (by omega) hj))
        clear hx hlt hk
        go_wp2_with fail
        go_ret
        rw [HF.out]
        exact ⟨rfl, rfl⟩
      · have HX := hid hx
        have HN2 := hid (show ∀ j (hj : j < T.length), j < k + 1 → T[j].at_ ≠ a from fun j hj h => by
          by_cases e : j = k
          · subst e; exact hx
          · exact HN.out j hj (by omega))
        generalize T[k].at_ = y at *
        have HLT := hid hlt
        clear hlt hk HX HN
        go_wp2_with fail
        exact ⟨⟨trivial, k + 1, by have := HLT.out; omega, by go_num, HN2⟩, by have := HLT.out; simp [intOf]; omega⟩
    · obtain rfl : k = T.length := by omega
      have hki : ¬ (T.length : Int) < (T.length : Int) := by omega
      have HF := hid (find_none (K := T.map Hd.hb) (a := a) (fun j hj => by rw [List.getElem_map]; exact HN.out j (by simpa using hj) (by simpa using hj)))
      clear hlt hk
      go_wp2_with fail
      go_ret
      rw [HF.out]
      exact ⟨rfl, rfl⟩
def putT (T : List Hd) (h : Hd) : List Hd := T.filter (fun x => x.at_ != h.at_) ++ [h]
theorem putT_len (T : List Hd) (h : Hd) : (putT T h).length ≤ T.length + 1 := by
  unfold putT
  rw [List.length_append, List.length_singleton]
  have := List.length_filter_le (fun x => x.at_ != h.at_) T
  omega
theorem hcells_one1 (x : Hd) : hcells [x] = hc x := by simp [hcells]
set_option maxRecDepth 100000 in
set_option maxHeartbeats 8000000 in
theorem rNewest (dv : Value) (most : Int) (v : Value) (T : List Hd) (ha : Int) (hp : Option Addr) (hn hcp : Nat) (hb : List Int) (hd hpin : Bool) (q : Nat) (w : World) (L : List HP) (hl : T.length ≤ 10000) (h1 : one1 T) (hO : Has w (rC q dv most v :: rRow v T :: L)) :
    Calls Try.prog 65 #[.pointer (some ⟨q, 0, none⟩), hdV ⟨ha, ⟨.slice hp hn hcp, hb⟩, hd, hpin⟩] w fun e w' => e = .returned (.tuple #[]) ∧ (∃ v', Has w' (rC q dv most v' :: rRow v' (putT T ⟨ha, ⟨.slice hp hn hcp, hb⟩, hd, hpin⟩) :: L)) ∧ Keep w w' := by
  obtain ⟨p, c, rfl, -, -, hcs⟩ := hO.p1.rd.form
  have HX := hid ((hO.alloc (.cells #[.int .i64 ha, .slice hp hn hcp, .bool hd, .bool hpin] 92)).row_nil 92 4)
  have HK := hid ((Keep.refl w).alloc (.cells #[.int .i64 ha, .slice hp hn hcp, .bool hd, .bool hpin] 92))
  have H1 := hid h1
  have HL := hid hl
  have HCS := hid hcs
  have hq := HX.out.p2.cells
  unfold caC at hq
  have hbx := HX.out.p1.cells
  unfold hdV
  dsimp only
  clear hO h1 hl hcs
  have hnl : (T.length : Int) ≤ 10000 := by have := HL.out; omega
  go_enter Try.func65, Try.ntmps65
  go_wp2_with fail
  clear hq hbx
  generalize w.heap.size = b at *
  generalize w.alloc (.cells #[.int .i64 ha, .slice hp hn hcp, .bool hd, .bool hpin] 92) = w0 at *
  go_loopw [4, 5] (fun s i w' => ∃ k : Nat, k ≤ T.length ∧ i = .int .i64 k ∧ Hid (Has w' (row s 92 4 ((T.take k).filter fun x => x.at_ != ha).length (hcells ((T.take k).filter fun x => x.at_ != ha)) :: pt b (.cells #[.int .i64 ha, .slice hp hn hcp, .bool hd, .bool hpin] 92) :: rC q dv most (.slice p T.length c) :: rRow (.slice p T.length c) T :: L)) ∧ Hid (Keep w w')) (fun _ i _ => T.length - (intOf i).toNat)
  case atStart => exact ⟨0, by omega, rfl, HX, HK⟩
  case round =>
    clear HX HK
    obtain ⟨k, hk, rfl, HO, HK⟩ := hrel
    by_cases hlt : k < T.length
    · have hki : (k : Int) < (T.length : Int) := by omega
      have hk0 : (0 : Int) ≤ (k : Int) := by omega
      obtain ⟨g, o, rfl, -⟩ := HCS.out (by omega)
      obtain ⟨c0, c1, c2, c3⟩ := hd_cells HO.out.p3.rd k hlt
      obtain ⟨px, nx, cx, hxt⟩ := H1.out T[k] (List.getElem_mem hlt)
      have HTK := hid (filter_take (fun x : Hd => x.at_ != ha) T k hlt)
      have HFL := hid (show ((T.take k).filter fun x => x.at_ != ha).length ≤ 10000 from by
        refine Nat.le_trans (List.length_filter_le _ _) ?_
        rw [List.length_take]; have := HL.out; omega)
      have HLT := hid hlt
      generalize T[k] = x at *
      obtain ⟨xa, ⟨xv, xb⟩, xd, xp⟩ := x
      dsimp only at hxt c0 c1 c2 c3 HTK
      subst hxt
      generalize (T.take k).filter (fun x : Hd => x.at_ != ha) = F at *
      have hq := HO.out.p2.cells
      unfold caC at hq
      have hbx := HO.out.p1.cells
      clear hlt hk
      by_cases hxa : xa = ha
      · subst hxa
        rw [if_neg (by simp), List.append_nil] at HTK
        go_wp2_with fail
        go_quiet (fail)
        go_wp2_with fail
        refine ⟨⟨k + 1, by have := HLT.out; omega, by go_num, ?_, hid (HK.out.drewN _)⟩, by have := HLT.out; simp [intOf]; omega⟩
        rw [HTK.out]
        exact hid (HO.out.drewN _)
      · rw [if_pos (by simpa using hxa)] at HTK
        have HXA := hid hxa
        go_wp2_with fail
        go_quiet (fail)
        have HO1 := hid (HO.out.drewN nq)
        have HK1 := hid (HK.out.drewN nq)
        have HO2 := hid ((HO1.out.alloc (.cells #[.int .i64 xa, .slice px nx cx, .bool xd, .bool xp] 92)))
        have HK2 := hid (HK1.out.alloc (.cells #[.int .i64 xa, .slice px nx cx, .bool xd, .bool xp] 92))
        rw [show (wr.drewN nq).heap.size = wr.heap.size by simp [World.drewN]] at HO2
        clear HO HK
        have hcx := HO2.out.cells
        go_wp2_with (at_builtin; refine wpList_appendS rfl _ _ _ rfl Try.underlying49 infoRH rfl [.int .i64 xa, .slice px nx cx, .bool xd, .bool xp] rfl HO2.out.p1 rfl 1 _ rfl (fun j => by rw [hcx j]; simp) (by simp [Value.oneCell']) (le_maxLen (by have := HFL.out; omega)) (by have := HFL.out; omega) ?_)
        intro v4 w4 h4 k4
        have HO4 := hid (show Has w4 (row v4 92 4 (F ++ [(⟨xa, ⟨.slice px nx cx, xb⟩, xd, xp⟩ : Hd)]).length (hcells (F ++ [(⟨xa, ⟨.slice px nx cx, xb⟩, xd, xp⟩ : Hd)])) :: pt b (.cells #[.int .i64 ha, .slice hp hn hcp, .bool hd, .bool hpin] 92) :: rC q dv most (.slice (some ⟨g, o, none⟩) T.length c) :: rRow (.slice (some ⟨g, o, none⟩) T.length c) T :: L) from by
          rw [hcells_append, hcells_one1, List.length_append]
          exact h4.p1.drop)
        have HK4 := hid (HK2.out.trans k4)
        clear h4 k4 HO2 HK2 hcx
        go_wp2_with fail
        refine ⟨⟨k + 1, by have := HLT.out; omega, by go_num, ?_, HK4⟩, by have := HLT.out; simp [intOf]; omega⟩
        rw [HTK.out]
        exact HO4
    · obtain rfl : k = T.length := by omega
      have hki : ¬ (T.length : Int) < (T.length : Int) := by omega
      rw [List.take_of_length_le (Nat.le_refl _)] at HO
      have HFL := hid (show (T.filter fun x => x.at_ != ha).length ≤ 10000 from Nat.le_trans (List.length_filter_le _ _) HL.out)
      have HPT := hid (show putT T ⟨ha, ⟨.slice hp hn hcp, hb⟩, hd, hpin⟩ = (T.filter fun x => x.at_ != ha) ++ [(⟨ha, ⟨.slice hp hn hcp, hb⟩, hd, hpin⟩ : Hd)] from rfl)
      generalize T.filter (fun x : Hd => x.at_ != ha) = F at *
      have hq := HO.out.p2.cells
      unfold caC at hq
      have hbx := HO.out.p1.cells
      have HO2 := hid (HO.out.alloc (.cells #[.int .i64 ha, .slice hp hn hcp, .bool hd, .bool hpin] 92))
      have HK2 := hid (HK.out.alloc (.cells #[.int .i64 ha, .slice hp hn hcp, .bool hd, .bool hpin] 92))
      have hcx := HO2.out.cells
      clear hlt hk HO HK
      go_wp2_with (at_builtin; refine wpList_appendS rfl _ _ _ rfl Try.underlying49 infoRH rfl [.int .i64 ha, .slice hp hn hcp, .bool hd, .bool hpin] rfl HO2.out.p1 rfl 1 _ rfl (fun j => by rw [hcx j]; simp) (by simp [Value.oneCell']) (le_maxLen (by have := HFL.out; omega)) (by have := HFL.out; omega) ?_)
      intro v4 w4 h4 k4
      have HO4 := hid (show Has w4 (rC q dv most (.slice p T.length c) :: row v4 92 4 (F ++ [(⟨ha, ⟨.slice hp hn hcp, hb⟩, hd, hpin⟩ : Hd)]).length (hcells (F ++ [(⟨ha, ⟨.slice hp hn hcp, hb⟩, hd, hpin⟩ : Hd)])) :: L) from by
        rw [hcells_append, hcells_one1, List.length_append]
        exact h4.re 5 [3, 0])
      have HK4 := hid (HK2.out.trans k4)
      clear h4 k4 HO2 HK2 hcx hq hbx
      have hq := HO4.out.cells
      unfold caC at hq
      have ht := HO4.out.thaw
      obtain ⟨p4, c4, e4, -⟩ := HO4.out.p1.rd.form
      subst e4
      go_wp2_with fail
      go_end0
      rw [HPT.out]
      refine ⟨rfl, ⟨.slice p4 (F.length + 1) c4, ?_⟩, HK4.out.set ⟨q, 2, none⟩ (.slice p4 (F.length + 1) c4)⟩
      have h5 := HO4.out.set 2 (.slice p4 (F.length + 1) c4)
      unfold rRow
      simp only [List.length_append, List.length_singleton] at h5 ⊢
      exact h5
def dg (T : List Hd) (m : Int) (k : Nat) : Int × List Hd := dropG Hd.stay m (T.take k)
set_option maxRecDepth 100000 in
set_option maxHeartbeats 8000000 in
theorem rDrop (dv : Value) (most : Int) (v : Value) (T : List Hd) (m : Int) (q : Nat) (w : World) (L : List HP) (hm : m ≤ 1000000000) (hl : T.length ≤ 10000) (h1 : one1 T) (hO : Has w (rC q dv most v :: rRow v T :: L)) :
    Calls Try.prog 49 #[.pointer (some ⟨q, 0, none⟩), .int .i64 m] w fun e w' => e = .returned (.int .i64 ((T.length : Int) - ((dropG Hd.stay m T).2.length : Int))) ∧ (∃ v', Has w' (rC q dv most v' :: rRow v' (dropG Hd.stay m T).2 :: L)) ∧ Keep w w' := by
  obtain ⟨p, c, rfl, -, -, hcs⟩ := hO.p1.rd.form
  have HX := hid (hO.row_nil 92 4)
  have HK := hid (Keep.refl w)
  have H1 := hid h1
  have HL := hid hl
  have HM := hid hm
  have HCS := hid hcs
  have hq := HX.out.p1.cells
  unfold caC at hq
  clear hO h1 hl hcs hm
  have hnl : (T.length : Int) ≤ 10000 := by have := HL.out; omega
  go_enter Try.func49, Try.ntmps49
  go_wp2_with fail
  clear hq
  go_loopw [5, 6, 7] (fun s gn i w' => ∃ k n : Nat, k ≤ T.length ∧ i = .int .i64 k ∧ gn = .int .i64 n ∧ Hid (n + (dg T m k).2.length = k ∧ (n : Int) + (dg T m k).1 = m) ∧ Hid (Has w' (row s 92 4 (dg T m k).2.length (hcells (dg T m k).2) :: rC q dv most (.slice p T.length c) :: rRow (.slice p T.length c) T :: L)) ∧ Hid (Keep w w')) (fun _ _ i _ => T.length - (intOf i).toNat)
  case atStart => exact ⟨0, 0, by omega, rfl, rfl, hid ⟨rfl, by simp [dg, dropG]⟩, HX, HK⟩
  case round =>
    clear HX HK
    obtain ⟨k, n, hk, rfl, rfl, HN, HO, HK⟩ := hrel
    by_cases hlt : k < T.length
    · have hki : (k : Int) < (T.length : Int) := by omega
      have hk0 : (0 : Int) ≤ (k : Int) := by omega
      have hnk : (n : Int) ≤ (k : Int) := by have := HN.out.1; omega
      obtain ⟨g, o, rfl, -⟩ := HCS.out (by omega)
      obtain ⟨c0, c1, c2, c3⟩ := hd_cells HO.out.p2.rd k hlt
      obtain ⟨px, nx, cx, hxt⟩ := H1.out T[k] (List.getElem_mem hlt)
      have HTK := hid (show dg T m (k + 1) = (if (dg T m k).1 ≤ 0 ∨ T[k].stay = true then ((dg T m k).1, (dg T m k).2 ++ [T[k]]) else ((dg T m k).1 - 1, (dg T m k).2)) from by
        unfold dg
        rw [List.take_succ_eq_append_getElem hlt, dropG_append, dropG_one]
        split <;> simp)
      have HFL := hid (show (dg T m k).2.length ≤ 10000 from by have := HN.out.1; have := HL.out; omega)
      have HLT := hid hlt
      generalize T[k] = x at *
      obtain ⟨xa, ⟨xv, xb⟩, xd, xp⟩ := x
      dsimp only at hxt c0 c1 c2 c3 HTK
      subst hxt
      generalize dg T m k = F at *
      obtain ⟨r, F⟩ := F
      dsimp only at HTK HFL HN HO
      have hq := HO.out.p1.cells
      unfold caC at hq
      have hr : r = m - (n : Int) := by have := HN.out.2; omega
      subst hr
      clear hlt hk
      by_cases hgm : (n : Int) < m
      · cases xd
        · cases xp
          · rw [if_neg (by simp [Hd.stay]; omega)] at HTK
            have hmb : m ≤ 1000000000 := HM.out
            go_wp2_with fail
            refine ⟨⟨k + 1, n + 1, by have := HLT.out; omega, by go_num, by go_num, ?_, ?_, HK⟩, by have := HLT.out; simp [intOf]; omega⟩
            · rw [HTK.out]
              exact hid ⟨by have := HN.out.1; dsimp only; omega, by dsimp only; omega⟩
            · rw [HTK.out]
              exact HO
          · rw [if_pos (by simp [Hd.stay])] at HTK
            have HO2 := hid ((HO.out.alloc (.cells #[.int .i64 xa, .slice px nx cx, .bool false, .bool true] 92)))
            have HK2 := hid (HK.out.alloc (.cells #[.int .i64 xa, .slice px nx cx, .bool false, .bool true] 92))
            clear HO HK
            have hcx := HO2.out.cells
            go_wp2_with (at_builtin; refine wpList_appendS rfl _ _ _ rfl Try.underlying49 infoRH rfl [.int .i64 xa, .slice px nx cx, .bool false, .bool true] rfl HO2.out.p1 rfl 1 _ rfl (fun j => by rw [hcx j]; simp) (by simp [Value.oneCell']) (le_maxLen (by have := HFL.out; omega)) (by have := HFL.out; omega) ?_)
            intro v4 w4 h4 k4
            have HO4 := hid (show Has w4 (row v4 92 4 (F ++ [(⟨xa, ⟨.slice px nx cx, xb⟩, false, true⟩ : Hd)]).length (hcells (F ++ [(⟨xa, ⟨.slice px nx cx, xb⟩, false, true⟩ : Hd)])) :: rC q dv most (.slice (some ⟨g, o, none⟩) T.length c) :: rRow (.slice (some ⟨g, o, none⟩) T.length c) T :: L) from by
              rw [hcells_append, hcells_one1, List.length_append]
              exact h4.p1.drop)
            have HK4 := hid (HK2.out.trans k4)
            clear h4 k4 HO2 HK2 hcx
            go_wp2_with fail
            refine ⟨⟨k + 1, n, by have := HLT.out; omega, by go_num, rfl, ?_, ?_, HK4⟩, by have := HLT.out; simp [intOf]; omega⟩
            · rw [HTK.out]
              exact hid ⟨by have := HN.out.1; simp only [List.length_append, List.length_singleton]; omega, by simp; omega⟩
            · rw [HTK.out]
              exact HO4
        · rw [if_pos (by simp [Hd.stay])] at HTK
          have HO2 := hid ((HO.out.alloc (.cells #[.int .i64 xa, .slice px nx cx, .bool true, .bool xp] 92)))
          have HK2 := hid (HK.out.alloc (.cells #[.int .i64 xa, .slice px nx cx, .bool true, .bool xp] 92))
          clear HO HK
          have hcx := HO2.out.cells
          go_wp2_with (at_builtin; refine wpList_appendS rfl _ _ _ rfl Try.underlying49 infoRH rfl [.int .i64 xa, .slice px nx cx, .bool true, .bool xp] rfl HO2.out.p1 rfl 1 _ rfl (fun j => by rw [hcx j]; simp) (by simp [Value.oneCell']) (le_maxLen (by have := HFL.out; omega)) (by have := HFL.out; omega) ?_)
          intro v4 w4 h4 k4
          have HO4 := hid (show Has w4 (row v4 92 4 (F ++ [(⟨xa, ⟨.slice px nx cx, xb⟩, true, xp⟩ : Hd)]).length (hcells (F ++ [(⟨xa, ⟨.slice px nx cx, xb⟩, true, xp⟩ : Hd)])) :: rC q dv most (.slice (some ⟨g, o, none⟩) T.length c) :: rRow (.slice (some ⟨g, o, none⟩) T.length c) T :: L) from by
            rw [hcells_append, hcells_one1, List.length_append]
            exact h4.p1.drop)
          have HK4 := hid (HK2.out.trans k4)
          clear h4 k4 HO2 HK2 hcx
          go_wp2_with fail
          refine ⟨⟨k + 1, n, by have := HLT.out; omega, by go_num, rfl, ?_, ?_, HK4⟩, by have := HLT.out; simp [intOf]; omega⟩
          · rw [HTK.out]
            exact hid ⟨by have := HN.out.1; simp only [List.length_append, List.length_singleton]; omega, by simp; omega⟩
          · rw [HTK.out]
            exact HO4
      · rw [if_pos (.inl (by omega))] at HTK
        have hgm2 : m ≤ (n : Int) := by omega
        have HO2 := hid ((HO.out.alloc (.cells #[.int .i64 xa, .slice px nx cx, .bool xd, .bool xp] 92)))
        have HK2 := hid (HK.out.alloc (.cells #[.int .i64 xa, .slice px nx cx, .bool xd, .bool xp] 92))
        clear HO HK
        have hcx := HO2.out.cells
        go_wp2_with (at_builtin; refine wpList_appendS rfl _ _ _ rfl Try.underlying49 infoRH rfl [.int .i64 xa, .slice px nx cx, .bool xd, .bool xp] rfl HO2.out.p1 rfl 1 _ rfl (fun j => by rw [hcx j]; simp) (by simp [Value.oneCell']) (le_maxLen (by have := HFL.out; omega)) (by have := HFL.out; omega) ?_)
        intro v4 w4 h4 k4
        have HO4 := hid (show Has w4 (row v4 92 4 (F ++ [(⟨xa, ⟨.slice px nx cx, xb⟩, xd, xp⟩ : Hd)]).length (hcells (F ++ [(⟨xa, ⟨.slice px nx cx, xb⟩, xd, xp⟩ : Hd)])) :: rC q dv most (.slice (some ⟨g, o, none⟩) T.length c) :: rRow (.slice (some ⟨g, o, none⟩) T.length c) T :: L) from by
          rw [hcells_append, hcells_one1, List.length_append]
          exact h4.p1.drop)
        have HK4 := hid (HK2.out.trans k4)
        clear h4 k4 HO2 HK2 hcx
        go_wp2_with fail
        refine ⟨⟨k + 1, n, by have := HLT.out; omega, by go_num, rfl, ?_, ?_, HK4⟩, by have := HLT.out; simp [intOf]; omega⟩
        · rw [HTK.out]
          exact hid ⟨by have := HN.out.1; simp only [List.length_append, List.length_singleton]; omega, by simp; omega⟩
        · rw [HTK.out]
          exact HO4
    · obtain rfl : k = T.length := by omega
      have hki : ¬ (T.length : Int) < (T.length : Int) := by omega
      have HD := hid (show dg T m T.length = dropG Hd.stay m T from by unfold dg; rw [List.take_of_length_le (Nat.le_refl _)])
      rw [HD.out] at HO HN
      have hgn : (n : Int) = (T.length : Int) - ((dropG Hd.stay m T).2.length : Int) := by have := HN.out.1; omega
      have HGN := hid hgn
      clear hgn
      generalize hF : (dropG Hd.stay m T).2 = F at *
      have HF := hid hF
      clear hF
      have hq := HO.out.p1.cells
      unfold caC at hq
      have ht := HO.out.p1.thaw
      obtain ⟨p4, c4, e4, -⟩ := HO.out.rd.form
      subst e4
      clear hlt hk
      go_wp2_with fail
      go_ret
      rw [HF.out]
      exact ⟨by rw [← HGN.out]; rfl, ⟨_, (HO.out.p1.set 2 (.slice p4 F.length c4)).re 3 [0, 1]⟩, HK.out.set ⟨q, 2, none⟩ (.slice p4 F.length c4)⟩
end Go.Proofs.Ytajlikakbihgbaa
/- HOW THE REFERENCE's DISK LIES IN MEMORY; its small walks. -/
namespace Go.Proofs.Ytajlikakbihgbaa
open Go.RowKit Go.Own Go.Dk
def rarm : Option (Int × List Bool) → Int → List Bool → Prop
  | none, l, _ => l = -1
  | some (n, k), l, ks => l = n ∧ ks = k ∧ 0 ≤ n
def RDsk (c : Nat) (D : Disk) : HP := ex fun fv => ex fun wv => ex fun kv => ex fun lv => ex fun ks => ex fun left => ex fun B =>
  star [fact (Ok B D ∧ rarm D.armed left ks), pt c (.cells #[fv, wv, .bool (!D.on), .int .i64 left, .int .i64 D.flushes, kv, lv] 59), row fv 33 1 D.firm.length (D.firm.map (·.1)), row wv 102 2 D.waits.length (wenc D.waits), Bools kv ks, Ints lv D.writes, poolc 5 B]
theorem rdsk_iff {w : World} {L : List HP} {c : Nat} {D : Disk} : Has w (RDsk c D :: L) ↔ ∃ fv wv kv lv ks left B, (Ok B D ∧ rarm D.armed left ks) ∧
    Has w (pt c (.cells #[fv, wv, .bool (!D.on), .int .i64 left, .int .i64 D.flushes, kv, lv] 59) :: row fv 33 1 D.firm.length (D.firm.map (·.1)) :: row wv 102 2 D.waits.length (wenc D.waits) :: Bools kv ks :: Ints lv D.writes :: poolc 5 B :: L) := by
  unfold RDsk
  simp only [Has.ex_iff, Has.star_iff, List.cons_append, List.nil_append, Has.fact_iff]
theorem wcellsT {e : TypeId} {w : World} {v : Value} {W : List (Int × Txt)} {L : List HP} (h : Has w (row v e 2 W.length (wenc W) :: L)) (k : Nat) (hk : k < W.length) :
    ∃ g c, v = .slice (some ⟨g, 0, none⟩) W.length c ∧ w.cell? ⟨g, k * 2, none⟩ = some (.int .i64 W[k].1) ∧ w.cell? ⟨g, k * 2 + 1, none⟩ = some W[k].2.1 := by
  obtain ⟨-, h1 | ⟨g, c, cur, rfl, -⟩⟩ := h.row_cases
  · exact absurd h1.2.1 (by omega)
  have hc := h.row_cells.2.1
  obtain ⟨e1, e2⟩ := wenc_at W k hk
  exact ⟨g, c, rfl, by rw [hc _ (by omega), e1], by rw [hc _ (by omega), e2]⟩
theorem okSlicesP {B : List Txt} {D : Disk} (h : Ok B D) {w : World} {L : List HP} (hO : Has w (poolc 5 B :: L)) : ∀ x ∈ D.waits, ∃ p c, x.2.1 = .slice p 128 c := by
  intro x hx
  obtain ⟨p, c, e, -⟩ := (hO.pool_rd (h.waits x hx)).form
  exact ⟨p, c, by rw [e, h.wlen x hx]⟩
section
variable (c : Nat) (D : Disk) (w : World) (L : List HP) (hO : Has w (RDsk c D :: L))
include hO
theorem rBoot : Calls Try.prog 51 #[.pointer (some ⟨c, 0, none⟩)] w fun e w' => e = .returned (.int .i64 D.boot.1) ∧ Has w' (RDsk c D.boot.2 :: L) ∧ Keep w w' := by
  have HD := hid hO
  obtain ⟨fv, wv, kv, lv, ks, left, B, hok, hO⟩ := rdsk_iff.1 hO
  obtain ⟨F, W, on, ar, wr, fl⟩ := D
  simp only at hO
  have hc := hO.cells
  have ht := hO.thaw
  have HO := hid hO
  have Hok := hid hok
  clear hO hok
  cases on
  · go_enter Try.func51, Try.ntmps51
    go_wp2
    go_ret
    refine ⟨rfl, ?_, (Keep.refl _).set _ _⟩
    have h := HO.out.set 2 (.bool false)
    exact rdsk_iff.2 ⟨fv, wv, kv, lv, ks, left, B, ⟨⟨Hok.out.1.firm, Hok.out.1.waits, Hok.out.1.at_, Hok.out.1.len, Hok.out.1.wlen, Hok.out.1.left⟩, Hok.out.2⟩, h⟩
  · go_enter Try.func51, Try.ntmps51
    go_wp2
    go_ret
    exact ⟨rfl, HD.out, Keep.refl _⟩
end
theorem rCrashO (c : Nat) (fv wv kv lv qv : Value) (off : Bool) (left fl : Int) (F : List Txt) (W : List (Int × Txt)) (keep : List Bool) (w : World) (L : List HP)
    (hat : ∀ x ∈ W, 0 ≤ x.1 ∧ x.1 < F.length) (hsl : ∀ x ∈ W, ∃ p c, x.2.1 = .slice p 128 c) (hL : ∀ w', Has w' L → Rd w' qv 1 keep.length (keep.map Value.bool))
    (hO : Has w (pt c (.cells #[fv, wv, .bool off, .int .i64 left, .int .i64 fl, kv, lv] 59) :: row fv 33 1 F.length (F.map (·.1)) :: row wv 102 2 W.length (wenc W) :: L)) :
    Calls Try.prog 53 #[.pointer (some ⟨c, 0, none⟩), qv] w fun e w' => e = .returned (.tuple #[]) ∧
      Has w' (pt c (.cells #[fv, .slice none 0 0, .bool true, .int .i64 (-1), .int .i64 fl, kv, lv] 59) :: row fv 33 1 F.length ((layKept keep F W).map (·.1)) :: row wv 102 2 W.length (wenc W) :: L) ∧ Keep w w' := by
  obtain ⟨wp, wc, rfl, hwc, hwl, -⟩ := hO.p2.rd.form
  obtain ⟨kp, kc, rfl, hkc, hkl, -⟩ := (hL _ hO.drop.drop.drop).form
  obtain ⟨fp, fc, rfl, hfc, hfl, -⟩ := hO.p1.rd.form
  have HO := hid hO
  have HL := hid hL
  have HA := hid hat
  have HSL := hid hsl
  clear hO hL hat hsl
  go_enter Try.func53, Try.ntmps53
  go_wp2_with fail
  go_loopw [4] (fun i w' => ∃ k : Nat, k ≤ W.length ∧ i = .int .i64 k ∧ Hid (Has w' (pt c (.cells #[.slice fp F.length fc, .slice wp W.length wc, .bool off, .int .i64 left, .int .i64 fl, kv, lv] 59) :: row (.slice fp F.length fc) 33 1 F.length ((layKept keep F (W.take k)).map (·.1)) :: row (.slice wp W.length wc) 102 2 W.length (wenc W) :: L)) ∧ Hid (Keep w w')) (fun i _ => W.length - (intOf i).toNat)
  case atStart => exact ⟨0, by omega, rfl, HO, hid (Keep.refl _)⟩
  case round =>
    clear HO
    obtain ⟨k, hk, rfl, HX, HK⟩ := hrel
    have hc0 : wr.cell? ⟨c, 0, none⟩ = some (.slice fp F.length fc) := HX.out.cells 0
    have hc1 : wr.cell? ⟨c, 1, none⟩ = some (.slice wp W.length wc) := HX.out.cells 1
    by_cases hlt : k < W.length
    · have hwn := hlt
      obtain ⟨g, c', e, hw1, hw2⟩ := wcellsT HX.out.p2 k hlt
      simp only [Value.slice.injEq, true_and] at e
      obtain ⟨rfl, rfl⟩ := e
      obtain ⟨xp, xc, hx⟩ := HSL.out _ (List.getElem_mem hlt)
      rw [hx] at hw2
      have hin := HA.out _ (List.getElem_mem hlt)
      generalize hxi : W[k].1 = xi at *
      obtain ⟨q, rfl⟩ := Int.eq_ofNat_of_zero_le hin.1
      have hq : q < F.length := by omega
      have Hx := hid hx
      have Hxi := hid hxi
      clear hx hxi hin
      by_cases hk0 : keep.length = 0
      · have HKT := hid (show kept keep k = false by simp [kept, hk0])
        go_wp2_with fail
        refine ⟨⟨k + 1, by omega, by go_num, hid ?_, HK⟩, by simp [intOf]; omega⟩
        rw [layKept_take _ _ _ _ hlt, HKT.out]; exact HX.out
      · obtain ⟨r, hr⟩ : ∃ r : Nat, (k : Int) % (keep.length : Int) = (r : Int) := ⟨k % keep.length, by omega⟩
        have hrl : (r : Int) < keep.length := by rw [← hr]; exact Int.emod_lt_of_pos _ (by omega)
        have hrl' : r < keep.length := by omega
        obtain ⟨kp', kc', ek, -, -, hkr⟩ := (HL.out _ HX.out.drop.drop.drop).form
        simp only [Value.slice.injEq, true_and] at ek
        obtain ⟨rfl, rfl⟩ := ek
        obtain ⟨kg, ko, rfl, hkc⟩ := hkr (by omega)
        have hkv : wr.cell? ⟨kg, ko + r, none⟩ = some (.bool keep[r]) := by
          rw [hkc r (by omega)]; simp [hrl']
        clear hkr hkc
        have HKT := hid (show kept keep k = keep[r] from by
          have : k % keep.length = r := by exact_mod_cast hr
          simp [kept, this, hrl']; omega)
        generalize hkb : keep[r] = kb at *
        clear hkb
        cases kb
        · go_wp2_with fail
          refine ⟨⟨k + 1, by omega, by go_num, hid ?_, HK⟩, by simp [intOf]; omega⟩
          rw [layKept_take _ _ _ _ hlt, HKT.out]; exact HX.out
        · obtain ⟨-, hf | ⟨fg, fc', cur, ef, -, -, -, -, -⟩⟩ := HX.out.p1.row_cases
          · exact absurd hf.2.1 (by omega)
          simp only [Value.slice.injEq, true_and] at ef
          obtain ⟨rfl, rfl⟩ := ef
          go_wp2_with fail
          obtain ⟨-, h2, ht, -, -⟩ := HX.out.p1.row_cells
          refine region_tail1 (fun w => w.cell? ⟨c, 0, none⟩ = some (.slice (some ⟨fg, 0, none⟩) F.length fc) ∧ w.cell? ⟨c, 1, none⟩ = some (.slice (some ⟨g, 0, none⟩) W.length wc) ∧ w.cell? ⟨g, k * 2, none⟩ = some (.int .i64 (q : Int)) ∧ w.cell? ⟨g, k * 2 + 1, none⟩ = some (.slice xp 128 xc)) (by kernel_rfl) (by kernel_rfl) (by kernel_rfl) (by decide) ⟨hc0, hc1, hw1, hw2⟩ ?_
          repeat (first
            | (refine wpL_read (by rfl) (by rfl) ?_ ?_ ?_; rotate_left; (rintro w ⟨hS, hS1, hS2, hS3⟩; go_simp; with_reducible rfl); simp only [Act.put, List.setIfInBounds_toArray, List.set_cons_zero, List.set_cons_succ])
            | (refine wpL_skip (by rfl) ?_; simp only [Act.put, List.setIfInBounds_toArray, List.set_cons_zero, List.set_cons_succ]))
          refine wpL_nil ?_
          refine wpOp_last rfl (by rfl) ?_
          have h3 := h2 q (by omega)
          rw [List.getElem?_eq_getElem (by simp [layKept_len, hq])] at h3
          clear h2
          have HO5 := hid ((HX.out.p1.row_set q (by omega) (.slice xp 128 xc)).drew)
          have HK5 := hid ((HK.out.set ⟨fg, q, none⟩ (.slice xp 128 xc)).drew)
          go_simp
          go_wp2_with fail
          refine ⟨⟨k + 1, by omega, by go_num, hid ?_, HK5⟩, by simp [intOf]; omega⟩
          rw [layKept_take _ _ _ _ hlt, HKT.out, if_pos rfl, lay_map, Hx.out, Hxi.out]
          exact HO5.out.p1
    · obtain rfl : k = W.length := by omega
      have HF := hid HX.out
      have ht := HX.out.thaw
      have hc := HX.out.cells
      go_wp2_with fail
      refine bodyPost_end (results_none rfl _ _ _) rfl ?_
      have h := ((HF.out.set 1 (.slice none 0 0)).set 2 (.bool true)).set 3 (.int .i64 (-1))
      rw [List.take_length] at h
      exact ⟨rfl, h, ((HK.out.set _ _).set _ _).set _ _⟩
end Go.Proofs.Ytajlikakbihgbaa
/- THE WALKS of the reference's disk: Crash, falls, Flush, Arm. -/
namespace Go.Proofs.Ytajlikakbihgbaa
open Go.RowKit Go.Own Go.Dk
theorem rCrash (c : Nat) (D : Disk) (qv : Value) (keep : List Bool) (w : World) (L : List HP) (hL : ∀ w', Has w' L → Rd w' qv 1 keep.length (keep.map Value.bool)) (hO : Has w (RDsk c D :: L)) :
    Calls Try.prog 53 #[.pointer (some ⟨c, 0, none⟩), qv] w fun e w' => e = .returned (.tuple #[]) ∧ Has w' (RDsk c (D.crash keep) :: L) ∧ Keep w w' := by
  obtain ⟨fv, wv, kv, lv, ks, left, B, hok, hO⟩ := rdsk_iff.1 hO
  refine (rCrashO c fv wv kv lv qv _ left D.flushes D.firm D.waits keep w _ hok.1.at_ (okSlicesP hok.1 hO.p5) (fun w' h => hL w' h.drop.drop.drop) hO).mono ?_
  rintro e w' ⟨rfl, h, hK⟩
  refine ⟨rfl, rdsk_iff.2 ⟨fv, .slice none 0 0, kv, lv, ks, -1, B, ⟨okCrash hok.1 keep, rfl⟩, ?_⟩, hK⟩
  have h2 := (h.p2.drop.row_nil 102 2).b2
  have e : (layKept keep D.firm D.waits).length = D.firm.length := layKept_len _ _ _
  show Has w' (pt c _ :: row fv 33 1 (layKept keep D.firm D.waits).length _ :: _)
  rw [e]
  exact h2
theorem rFallsNo (c : Nat) (D : Disk) (w : World) (L : List HP) (hA : D.armed = none) (hO : Has w (RDsk c D :: L)) :
    Calls Try.prog 78 #[.pointer (some ⟨c, 0, none⟩)] w fun e w' => e = .returned (.bool D.falls.1) ∧ Has w' (RDsk c D.falls.2 :: L) ∧ Keep w w' := by
  have HD := hid hO
  obtain ⟨fv, wv, kv, lv, ks, left, B, hok, hO⟩ := rdsk_iff.1 hO
  obtain ⟨F, W, on, ar, wr, fl⟩ := D
  simp only at hO hA hok
  subst hA
  obtain rfl : left = -1 := hok.2
  have hc := hO.cells
  clear hO hok
  go_enter Try.func78, Try.ntmps78
  go_wp2_with fail
  go_ret
  exact ⟨rfl, HD.out, Keep.refl _⟩
theorem rFallsDec (c : Nat) (D : Disk) (n : Int) (k : List Bool) (w : World) (L : List HP) (hA : D.armed = some (n, k)) (hn : 0 < n) (hO : Has w (RDsk c D :: L)) :
    Calls Try.prog 78 #[.pointer (some ⟨c, 0, none⟩)] w fun e w' => e = .returned (.bool D.falls.1) ∧ Has w' (RDsk c D.falls.2 :: L) ∧ Keep w w' := by
  obtain ⟨fv, wv, kv, lv, ks, left, B, hok, hP⟩ := rdsk_iff.1 hO
  clear hO
  have hO := hP
  clear hP
  have hn2 := hok.1.left _ _ hA
  obtain ⟨F, W, on, ar, wr, fl⟩ := D
  simp only at hO hA hok
  subst hA
  obtain ⟨rfl, rfl, hn0⟩ := hok.2
  have hc := hO.cells
  have ht := hO.thaw
  have HO := hid hO
  have Hok := hid hok.1
  have HF := hid (show Disk.falls ⟨F, W, on, some (left, ks), wr, fl⟩ = (false, ⟨F, W, on, some (left - 1, ks), wr, fl⟩) from if_pos hn)
  have hn3 : (left == 0) = false := by simp; omega
  clear hO hok
  go_enter Try.func78, Try.ntmps78
  go_wp2_with fail
  go_ret
  rw [HF.out]
  refine ⟨rfl, rdsk_iff.2 ⟨fv, wv, kv, lv, ks, left - 1, B, ⟨⟨Hok.out.firm, Hok.out.waits, Hok.out.at_, Hok.out.len, Hok.out.wlen, fun a b e => by simp only [Option.some.injEq, Prod.mk.injEq] at e; omega⟩, ⟨rfl, rfl, by omega⟩⟩, HO.out.set 3 (.int .i64 (left - 1))⟩, (Keep.refl _).set _ _⟩
theorem rFallsGone (c : Nat) (D : Disk) (n : Int) (k : List Bool) (w : World) (L : List HP) (hA : D.armed = some (n, k)) (hn : ¬ 0 < n) (hO : Has w (RDsk c D :: L)) :
    Calls Try.prog 78 #[.pointer (some ⟨c, 0, none⟩)] w fun e w' => e = .returned (.bool D.falls.1) ∧ Has w' (RDsk c D.falls.2 :: L) ∧ Keep w w' := by
  obtain ⟨fv, wv, kv, lv, ks, left, B, hok, hP⟩ := rdsk_iff.1 hO
  clear hO
  have hO := hP
  clear hP
  obtain ⟨F, W, on, ar, wr, fl⟩ := D
  simp only at hO hA hok
  subst hA
  obtain ⟨rfl, rfl, hn0⟩ := hok.2
  obtain rfl : left = 0 := by omega
  have hc := hO.cells
  have HC := hid (rCrashO c fv wv kv lv kv _ 0 fl F W ks w _ hok.1.at_ (okSlicesP hok.1 hO.p5) (fun w' h => Has.rd h) hO)
  have Hok := hid hok.1
  have HF := hid (show Disk.falls ⟨F, W, on, some (0, ks), wr, fl⟩ = (true, (Disk.mk F W on (some (0, ks)) wr fl).crash ks) by unfold Disk.falls; simp)
  clear hO hok
  go_enter Try.func78, Try.ntmps78
  go_wp2_with fail
  refine HC.out.mono ?_
  rintro e w' ⟨rfl, h, hK⟩
  have HH := hid h
  have HK := hid hK
  clear h hK HC
  dsimp only
  go_wp2_with fail
  go_ret
  rw [HF.out]
  refine ⟨rfl, rdsk_iff.2 ⟨fv, .slice none 0 0, kv, lv, ks, -1, B, ⟨okCrash Hok.out ks, rfl⟩, ?_⟩, HK.out⟩
  have h2 := (HH.out.p2.drop.row_nil 102 2).b2
  have e : (layKept ks F W).length = F.length := layKept_len _ _ _
  show Has _ (pt c _ :: row fv 33 1 (layKept ks F W).length _ :: _)
  rw [e]
  exact h2
theorem rFalls (c : Nat) (D : Disk) (w : World) (L : List HP) (hO : Has w (RDsk c D :: L)) :
    Calls Try.prog 78 #[.pointer (some ⟨c, 0, none⟩)] w fun e w' => e = .returned (.bool D.falls.1) ∧ Has w' (RDsk c D.falls.2 :: L) ∧ Keep w w' := by
  rcases h : D.armed with _ | ⟨n, k⟩
  · exact rFallsNo c D w L h hO
  · by_cases hn : 0 < n
    · exact rFallsDec c D n k w L h hn hO
    · exact rFallsGone c D n k w L h hn hO
theorem asked_off {D : Disk} (h : D.on = false) (b : Bool) : D.asked b = 4 := by simp [Disk.asked, h]
theorem asked_on {D : Disk} (h : D.on = true) : D.asked true = 0 := by simp [Disk.asked, h]
end Go.Proofs.Ytajlikakbihgbaa
