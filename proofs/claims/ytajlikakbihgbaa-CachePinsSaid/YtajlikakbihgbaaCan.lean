/- THE WALK of newest of a cache. -/
import Derived.Test.YtajlikakbihgbaaCag
namespace Go.Proofs.Ytajlikakbihgbaa
open Go.RowKit Go.Own Go.Ch
set_option maxRecDepth 100000 in
set_option maxHeartbeats 8000000 in
theorem cNewest (dv : Value) (most : Int) (v : Value) (T : List Hd) (ha : Int) (hp : Option Addr) (hn hc : Nat) (hb : List Int) (hd hpin : Bool) (q : Nat) (w : World) (L : List HP) (hm : 0 ≤ most ∧ most ≤ 1000000) (hl : T.length ≤ 10000) (h1 : one1 T) (hO : Has w (pt q (.cells (caC dv most v) 70) :: row v 76 4 T.length (hcells T) :: L)) :
    Calls Try.prog 31 #[.pointer (some ⟨q, 0, none⟩), hdV ⟨ha, ⟨.slice hp hn hc, hb⟩, hd, hpin⟩] w fun e w' => e = .returned (.tuple #[]) ∧ (∃ v', Has w' (pt q (.cells (caC dv most v') 70) :: row v' 76 4 (settleT most (addT T ⟨ha, ⟨.slice hp hn hc, hb⟩, hd, hpin⟩)).length (hcells (settleT most (addT T ⟨ha, ⟨.slice hp hn hc, hb⟩, hd, hpin⟩))) :: L)) ∧ Keep w w' := by
  have HO := hid ((hO.alloc (.cells #[.int .i64 ha, .slice hp hn hc, .bool hd, .bool hpin] 76)).re 3 [1, 2, 0])
  have HK := hid ((Keep.refl w).alloc (.cells #[.int .i64 ha, .slice hp hn hc, .bool hd, .bool hpin] 76))
  have hcb := HO.out.p2.cells
  obtain ⟨p, c, rfl, -⟩ := hO.p1.rd.form
  have HF := hid (cFind dv most (.slice p T.length c) T q ha _ _ (fun w' h => Has.rd h) (by omega) HO.out)
  have HB := hid (And.intro hm (And.intro hl h1))
  clear hO hm hl h1
  unfold hdV
  dsimp only
  go_enter Try.func31, Try.ntmps31
  go_wp2_with fail
  refine HF.out.mono ?_
  rintro e w2 ⟨rfl, h2, k2⟩
  have HO2 := hid h2
  have HK2 := hid (HK.out.trans k2)
  clear h2 k2 hcb HF HO HK
  generalize w.heap.size = b at *
  rcases hfi : find (T.map Hd.hb) ha with _ | i
  · have HFI := hid hfi
    clear hfi
    simp only [atN]
    have HT1 := hid (show T.length ≤ 10000 from HB.out.2.1)
    have H1 := hid HB.out.2.2
    have HAD := hid (show addT T ⟨ha, ⟨.slice hp hn hc, hb⟩, hd, hpin⟩ = (T) ++ [(⟨ha, ⟨.slice hp hn hc, hb⟩, hd, hpin⟩ : Hd)] by unfold addT; rw [HFI.out])
    have HO5 := hid (show Has w2 (pt q (.cells #[dv, .int .i64 most, .slice p T.length c] 70) :: row (.slice p T.length c) 76 4 T.length (hcells T) :: pt b (.cells #[.int .i64 ha, .slice hp hn hc, .bool hd, .bool hpin] 76) :: L) from HO2.out)
    have HK5 := HK2
    clear HO2 HK2
    go_wp2_with fail
    refine region_tail1 (fun w' => w'.cell? ⟨q, 2, none⟩ = some (.slice p (T).length c) ∧ (w'.cell? ⟨b, 0, none⟩ = some (.int .i64 ha) ∧ w'.cell? ⟨b, 1, none⟩ = some (.slice hp hn hc) ∧ w'.cell? ⟨b, 2, none⟩ = some (.bool hd) ∧ w'.cell? ⟨b, 3, none⟩ = some (.bool hpin))) (by kernel_rfl) (by kernel_rfl) (by kernel_rfl) (by decide) ⟨HO5.out.drew.cells 2, HO5.out.drew.p2.cells 0, HO5.out.drew.p2.cells 1, HO5.out.drew.p2.cells 2, HO5.out.drew.p2.cells 3⟩ ?_
    have HO6 := hid HO5.out.drew
    have HK6 := hid HK5.out.drew
    generalize w2.drew = w6 at *
    clear HO5 HK5
    repeat (first
      | (refine wpL_read (by rfl) (by rfl) ?_ ?_ ?_; rotate_left; (rintro w ⟨z0, z1, z2, z3, z4⟩; go_simp; with_reducible rfl); simp only [Act.put, List.setIfInBounds_toArray, List.set_cons_zero, List.set_cons_succ])
      | (refine wpL_skip (by rfl) ?_; simp only [Act.put, List.setIfInBounds_toArray, List.set_cons_zero, List.set_cons_succ]))
    refine wpL_act (by rfl) (by rfl) (fun K hK => ?_)
    go_simp
    have HO7 := hid (HO6.out.alloc (.cells #[.int .i64 ha, .slice hp hn hc, .bool hd, .bool hpin] 76))
    have HK7 := hid (HK6.out.alloc (.cells #[.int .i64 ha, .slice hp hn hc, .bool hd, .bool hpin] 76))
    refine hK.out _ _ (⟨HO7.out.p1.cells 2, HO7.out.p3.cells 0, HO7.out.p3.cells 1, HO7.out.p3.cells 2, HO7.out.p3.cells 3⟩) ?_
    clear hK K HO6 HK6
    try simp only [Act.put, List.setIfInBounds_toArray, List.set_cons_zero, List.set_cons_succ]
    have HRD := hid (show Rd _ (.slice (some ⟨w6.heap.size, 0, none⟩) 1 1) 4 1 (hcells [(⟨ha, ⟨.slice hp hn hc, hb⟩, hd, hpin⟩ : Hd)]) from (HO7.out.row_of (n := 1) (cap := 1) (size := 4) (xs := hcells [(⟨ha, ⟨.slice hp hn hc, hb⟩, hd, hpin⟩ : Hd)]) (by omega) (le_maxLen (by omega)) rfl rfl rfl).rd)
    refine wpL_act (by rfl) (by rfl) (fun K hK => ?_)
    refine wp_appendA (.tmp 35) (.tmp 37) 68 rfl Try.underlying68 infoHeld rfl (by decide) HO7.out.p2 (by rfl) _ 1 (hcells [(⟨ha, ⟨.slice hp hn hc, hb⟩, hd, hpin⟩ : Hd)]) (by rfl) HRD.out (hd_one (fun x hx => by rw [List.mem_singleton.1 hx]; exact ⟨_, _, _, rfl⟩)) (le_maxLen (by have := HT1.out; omega)) (by have := HT1.out; omega) fun v8 w8 h8 k8 => ?_
    have HO8 := hid (show Has w8 (pt q (.cells #[dv, .int .i64 most, .slice p (T).length c] 70) :: row v8 76 4 ((T).length + 1) (hcells ((T) ++ [(⟨ha, ⟨.slice hp hn hc, hb⟩, hd, hpin⟩ : Hd)])) :: pt b (.cells #[.int .i64 ha, .slice hp hn hc, .bool hd, .bool hpin] 76) :: L) from by
      rw [hcells_append]
      exact h8.re 4 [2, 0, 3])
    have HK8 := hid (HK7.out.trans k8)
    clear h8 k8 HO7 HK7 HRD
    refine hK.out _ _ (⟨HO8.out.cells 2, HO8.out.p2.cells 0, HO8.out.p2.cells 1, HO8.out.p2.cells 2, HO8.out.p2.cells 3⟩) ?_
    clear hK K
    try simp only [Act.put, List.setIfInBounds_toArray, List.set_cons_zero, List.set_cons_succ]
    obtain ⟨p8, c8, rfl, -⟩ := HO8.out.p1.rd.form
    repeat (first
      | (refine wpL_read (by rfl) (by rfl) ?_ ?_ ?_; rotate_left; (rintro w ⟨z0, z1, z2, z3, z4⟩; go_simp; with_reducible rfl); simp only [Act.put, List.setIfInBounds_toArray, List.set_cons_zero, List.set_cons_succ])
      | (refine wpL_skip (by rfl) ?_; simp only [Act.put, List.setIfInBounds_toArray, List.set_cons_zero, List.set_cons_succ]))
    refine wpL_nil ?_
    refine wpOp_last rfl (by rfl) ?_
    have hc8 := HO8.out.cells
    have ht8 := HO8.out.thaw
    go_simp
    have HO9 := hid (show Has _ (pt q (.cells (caC dv most (.slice p8 ((T).length + 1) c8)) 70) :: row (.slice p8 ((T).length + 1) c8) 76 4 ((T).length + 1) (hcells ((T) ++ [(⟨ha, ⟨.slice hp hn hc, hb⟩, hd, hpin⟩ : Hd)])) :: L) from (HO8.out.set 2 (.slice p8 ((T).length + 1) c8)).re 3 [0, 1])
    have HK9 := hid (HK8.out.set ⟨q, 2, none⟩ (.slice p8 ((T).length + 1) c8))
    clear hc8 ht8 HO8 HK8
    have HLN := hid (show (((T) ++ [(⟨ha, ⟨.slice hp hn hc, hb⟩, hd, hpin⟩ : Hd)]).length : Nat) = (T).length + 1 by rw [List.length_append]; rfl)
    have HS := hid (cSettle dv most (.slice p8 ((T).length + 1) c8) ((T) ++ [(⟨ha, ⟨.slice hp hn hc, hb⟩, hd, hpin⟩ : Hd)]) q _ L HB.out.1 (by rw [HLN.out]; have := HT1.out; omega) (fun x hx => by
      rcases List.mem_append.1 hx with hx | hx
      · exact H1.out x hx
      · rw [List.mem_singleton.1 hx]; exact ⟨_, _, _, rfl⟩) (by rw [HLN.out]; exact HO9.out))
    generalize w8.setCell ⟨q, 2, none⟩ (.slice p8 ((T).length + 1) c8) = w9 at *
    go_wp2_with fail
    refine HS.out.mono ?_
    rintro e w10 ⟨rfl, ⟨v10, h10⟩, k10⟩
    have HO10 := hid h10
    have HK10 := hid (HK9.out.trans k10)
    clear h10 k10
    try dsimp only
    go_wp2_with fail
    go_end0
    refine ⟨rfl, ⟨v10, ?_⟩, HK10.out⟩
    have e : addT T ⟨ha, ⟨.slice hp hn hc, hb⟩, hd, hpin⟩ = (T) ++ [(⟨ha, ⟨.slice hp hn hc, hb⟩, hd, hpin⟩ : Hd)] := HAD.out
    rw [e]
    exact HO10.out
  · obtain ⟨hi, hat⟩ := find_lt hfi
    rw [List.length_map] at hi
    have HFI := hid hfi
    clear hfi hat
    simp only [atN]
    have HI := hid hi
    have H1 := hid HB.out.2.2
    have hi0 : (0 : Int) ≤ (i : Int) := by omega
    have hi1 : (i : Int) < (T.length : Int) := by omega
    have hi2 : (T.length : Int) ≤ 10000 := by have := HB.out; omega
    obtain ⟨g, rfl⟩ : ∃ g, p = some ⟨g, 0, none⟩ := by
      obtain ⟨-, h | ⟨gr, cap, cur, e, -⟩⟩ := HO2.out.p1.row_cases
      · have := h.2.1; omega
      · injection e with e; exact ⟨gr, e⟩
    obtain ⟨c0, c1, c2, c4⟩ := hd_cells HO2.out.p1.rd i hi
    simp only [Nat.zero_add] at c0 c1 c2 c4
    obtain ⟨pi, hpi⟩ : ∃ pi, ((T[i]?).map Hd.pin).getD false = pi := ⟨_, rfl⟩
    have c3 : w2.cell? ⟨g, i * 4 + 3, none⟩ = some (.bool pi) := by
      rw [← hpi, List.getElem?_eq_getElem hi]
      exact c4
    have HPI := hid hpi
    clear c0 c1 c2 c4 hpi
    have hq := HO2.out.cells
    have hbx := HO2.out.p2.cells
    have htb := HO2.out.p2.thaw
    have HO3 := hid ((HO2.out.p2.set 3 (.bool pi)).re 3 [2, 1, 0])
    have HK3 := hid (HK2.out.set ⟨b, 3, none⟩ (.bool pi))
    unfold caC at hq
    have HD := hid (cDelete (.slice (some ⟨g, 0, none⟩) T.length c) T i _ _ hi (by have := HB.out; omega) HB.out.2.2 HO3.out)
    clear hi HO2 HK2
    have hqb : q ≠ b ∨ True := .inr trivial
    clear hqb
    go_wp2_with fail
    refine HD.out.mono ?_
    rintro e w4 ⟨v4, rfl, h4, k4⟩
    have HO4 := hid (h4.re 3 [1, 0, 2])
    have HK4 := hid (HK3.out.trans k4)
    clear h4 k4 HO3 HK3 HD c3 hbx htb hq
    try dsimp only
    obtain ⟨p5, c5, rfl, -⟩ := HO4.out.p1.rd.form
    have hq := HO4.out.cells
    have htq := HO4.out.thaw
    have HO5 := hid (show Has (w4.setCell ⟨q, 2, none⟩ (.slice p5 (T.eraseIdx i).length c5)) (pt q (.cells #[dv, .int .i64 most, .slice p5 (T.eraseIdx i).length c5] 70) :: row (.slice p5 (T.eraseIdx i).length c5) 76 4 (T.eraseIdx i).length (hcells (T.eraseIdx i)) :: pt b (.cells #[.int .i64 ha, .slice hp hn hc, .bool hd, .bool pi] 76) :: L) from HO4.out.set 2 _)
    have HK5 := hid (HK4.out.set ⟨q, 2, none⟩ (.slice p5 (T.eraseIdx i).length c5))
    have HT1 := hid (show (T.eraseIdx i).length ≤ 10000 from Nat.le_trans (List.length_eraseIdx_le ..) HB.out.2.1)
    have HAD := hid (show addT T ⟨ha, ⟨.slice hp hn hc, hb⟩, hd, hpin⟩ = (T.eraseIdx i) ++ [(⟨ha, ⟨.slice hp hn hc, hb⟩, hd, pi⟩ : Hd)] by
      unfold addT; rw [HFI.out]; dsimp only; rw [HPI.out])
    have H1 := hid (show one1 (T.eraseIdx i) from fun x hx => H1.out x (List.mem_of_mem_eraseIdx hx))
    unfold caC at hq
    go_wp2_with fail
    clear hq htq HO4 HK4
    generalize w4.setCell ⟨q, 2, none⟩ (.slice p5 (T.eraseIdx i).length c5) = w5 at *
    refine region_tail1 (fun w' => w'.cell? ⟨q, 2, none⟩ = some (.slice p5 (T.eraseIdx i).length c5) ∧ (w'.cell? ⟨b, 0, none⟩ = some (.int .i64 ha) ∧ w'.cell? ⟨b, 1, none⟩ = some (.slice hp hn hc) ∧ w'.cell? ⟨b, 2, none⟩ = some (.bool hd) ∧ w'.cell? ⟨b, 3, none⟩ = some (.bool pi))) (by kernel_rfl) (by kernel_rfl) (by kernel_rfl) (by decide) ⟨HO5.out.drew.cells 2, HO5.out.drew.p2.cells 0, HO5.out.drew.p2.cells 1, HO5.out.drew.p2.cells 2, HO5.out.drew.p2.cells 3⟩ ?_
    have HO6 := hid HO5.out.drew
    have HK6 := hid HK5.out.drew
    generalize w5.drew = w6 at *
    clear HO5 HK5
    repeat (first
      | (refine wpL_read (by rfl) (by rfl) ?_ ?_ ?_; rotate_left; (rintro w ⟨z0, z1, z2, z3, z4⟩; go_simp; with_reducible rfl); simp only [Act.put, List.setIfInBounds_toArray, List.set_cons_zero, List.set_cons_succ])
      | (refine wpL_skip (by rfl) ?_; simp only [Act.put, List.setIfInBounds_toArray, List.set_cons_zero, List.set_cons_succ]))
    refine wpL_act (by rfl) (by rfl) (fun K hK => ?_)
    go_simp
    have HO7 := hid (HO6.out.alloc (.cells #[.int .i64 ha, .slice hp hn hc, .bool hd, .bool pi] 76))
    have HK7 := hid (HK6.out.alloc (.cells #[.int .i64 ha, .slice hp hn hc, .bool hd, .bool pi] 76))
    refine hK.out _ _ (⟨HO7.out.p1.cells 2, HO7.out.p3.cells 0, HO7.out.p3.cells 1, HO7.out.p3.cells 2, HO7.out.p3.cells 3⟩) ?_
    clear hK K HO6 HK6
    try simp only [Act.put, List.setIfInBounds_toArray, List.set_cons_zero, List.set_cons_succ]
    have HRD := hid (show Rd _ (.slice (some ⟨w6.heap.size, 0, none⟩) 1 1) 4 1 (hcells [(⟨ha, ⟨.slice hp hn hc, hb⟩, hd, pi⟩ : Hd)]) from (HO7.out.row_of (n := 1) (cap := 1) (size := 4) (xs := hcells [(⟨ha, ⟨.slice hp hn hc, hb⟩, hd, pi⟩ : Hd)]) (by omega) (le_maxLen (by omega)) rfl rfl rfl).rd)
    refine wpL_act (by rfl) (by rfl) (fun K hK => ?_)
    refine wp_appendA (.tmp 35) (.tmp 37) 68 rfl Try.underlying68 infoHeld rfl (by decide) HO7.out.p2 (by rfl) _ 1 (hcells [(⟨ha, ⟨.slice hp hn hc, hb⟩, hd, pi⟩ : Hd)]) (by rfl) HRD.out (hd_one (fun x hx => by rw [List.mem_singleton.1 hx]; exact ⟨_, _, _, rfl⟩)) (le_maxLen (by have := HT1.out; omega)) (by have := HT1.out; omega) fun v8 w8 h8 k8 => ?_
    have HO8 := hid (show Has w8 (pt q (.cells #[dv, .int .i64 most, .slice p5 (T.eraseIdx i).length c5] 70) :: row v8 76 4 ((T.eraseIdx i).length + 1) (hcells ((T.eraseIdx i) ++ [(⟨ha, ⟨.slice hp hn hc, hb⟩, hd, pi⟩ : Hd)])) :: pt b (.cells #[.int .i64 ha, .slice hp hn hc, .bool hd, .bool pi] 76) :: L) from by
      rw [hcells_append]
      exact h8.re 4 [2, 0, 3])
    have HK8 := hid (HK7.out.trans k8)
    clear h8 k8 HO7 HK7 HRD
    refine hK.out _ _ (⟨HO8.out.cells 2, HO8.out.p2.cells 0, HO8.out.p2.cells 1, HO8.out.p2.cells 2, HO8.out.p2.cells 3⟩) ?_
    clear hK K
    try simp only [Act.put, List.setIfInBounds_toArray, List.set_cons_zero, List.set_cons_succ]
    obtain ⟨p8, c8, rfl, -⟩ := HO8.out.p1.rd.form
    repeat (first
      | (refine wpL_read (by rfl) (by rfl) ?_ ?_ ?_; rotate_left; (rintro w ⟨z0, z1, z2, z3, z4⟩; go_simp; with_reducible rfl); simp only [Act.put, List.setIfInBounds_toArray, List.set_cons_zero, List.set_cons_succ])
      | (refine wpL_skip (by rfl) ?_; simp only [Act.put, List.setIfInBounds_toArray, List.set_cons_zero, List.set_cons_succ]))
    refine wpL_nil ?_
    refine wpOp_last rfl (by rfl) ?_
    have hc8 := HO8.out.cells
    have ht8 := HO8.out.thaw
    go_simp
    have HO9 := hid (show Has _ (pt q (.cells (caC dv most (.slice p8 ((T.eraseIdx i).length + 1) c8)) 70) :: row (.slice p8 ((T.eraseIdx i).length + 1) c8) 76 4 ((T.eraseIdx i).length + 1) (hcells ((T.eraseIdx i) ++ [(⟨ha, ⟨.slice hp hn hc, hb⟩, hd, pi⟩ : Hd)])) :: L) from (HO8.out.set 2 (.slice p8 ((T.eraseIdx i).length + 1) c8)).re 3 [0, 1])
    have HK9 := hid (HK8.out.set ⟨q, 2, none⟩ (.slice p8 ((T.eraseIdx i).length + 1) c8))
    clear hc8 ht8 HO8 HK8
    have HLN := hid (show (((T.eraseIdx i) ++ [(⟨ha, ⟨.slice hp hn hc, hb⟩, hd, pi⟩ : Hd)]).length : Nat) = (T.eraseIdx i).length + 1 by rw [List.length_append]; rfl)
    have HS := hid (cSettle dv most (.slice p8 ((T.eraseIdx i).length + 1) c8) ((T.eraseIdx i) ++ [(⟨ha, ⟨.slice hp hn hc, hb⟩, hd, pi⟩ : Hd)]) q _ L HB.out.1 (by rw [HLN.out]; have := HT1.out; omega) (fun x hx => by
      rcases List.mem_append.1 hx with hx | hx
      · exact H1.out x hx
      · rw [List.mem_singleton.1 hx]; exact ⟨_, _, _, rfl⟩) (by rw [HLN.out]; exact HO9.out))
    generalize w8.setCell ⟨q, 2, none⟩ (.slice p8 ((T.eraseIdx i).length + 1) c8) = w9 at *
    go_wp2_with fail
    refine HS.out.mono ?_
    rintro e w10 ⟨rfl, ⟨v10, h10⟩, k10⟩
    have HO10 := hid h10
    have HK10 := hid (HK9.out.trans k10)
    clear h10 k10
    try dsimp only
    go_wp2_with fail
    go_end0
    refine ⟨rfl, ⟨v10, ?_⟩, HK10.out⟩
    have e : addT T ⟨ha, ⟨.slice hp hn hc, hb⟩, hd, hpin⟩ = (T.eraseIdx i) ++ [(⟨ha, ⟨.slice hp hn hc, hb⟩, hd, pi⟩ : Hd)] := HAD.out
    rw [e]
    exact HO10.out
end Go.Proofs.Ytajlikakbihgbaa
