/- TEXTS of mine, merged. -/
import Derived.Test.YtajlikakbihgbaaM7
import Derived.Test.YtajlikakbihgbaaM3
/- THE WALK of newest of a cache. -/
namespace Go.Proofs.Ytajlikakbihgbaa
open Go.RowKit Go.Own Go.Ch
set_option maxRecDepth 100000 in
set_option maxHeartbeats 8000000 in
theorem cNewest (dv : Value) (most : Int) (v : Value) (T : List Hd) (ha : Int) (hp : Option Addr) (hn hc : Nat) (hb : List Int) (hd hpin : Bool) (q : Nat) (w : World) (L : List HP) (hm : 0 ≤ most ∧ most ≤ 1000000) (hl : T.length ≤ 10000) (h1 : one1 T) (hO : Has w (pt q (.cells (caC dv most v) 70) :: row v 76 4 T.length (hcells T) :: L)) :
    Calls Try.prog 31 #[.pointer (some ⟨q, 0, none⟩), hdV ⟨ha, ⟨.slice hp hn hc, hb⟩, hd, hpin⟩] w fun e w' => e = .returned (.tuple #[]) ∧ (∃ v', Has w' (pt q (.cells (caC dv most v') 70) :: row v' 76 4 (settleT most (addT T ⟨ha, ⟨.slice hp hn hc, hb⟩, hd, hpin⟩)).length (hcells (settleT most (addT T ⟨ha, ⟨.slice hp hn hc, hb⟩, hd, hpin⟩))) :: L)) ∧ Keep w w' := by
  have HO := hid ((hO.alloc (.cells #[.int .i64 ha, .slice hp hn hc, .bool hd, .bool hpin] 76)).re 3 [1, 2, 0])
  have HK := hid ((Keep.refl w).alloc (.cells #[.int .i64 ha, .slice hp hn hc, .bool hd, .bool hpin] 76))
  have hcb := HO.out.p2.cells
  obtain ⟨p, c, rfl, -⟩ := hO.p1.rd.form
  have HF := hid (cFind dv most (.slice p T.length c) T q ha _ _ (fun w' h => Has.rd h) (by omega) HO.out)
  have HB := hid (And.intro hm (And.intro hl h1))
  clear hO hm hl h1
  unfold hdV
  dsimp only
  go_enter Try.func31, Try.ntmps31
  go_wp2_with fail
  refine HF.out.mono ?_
  rintro e w2 ⟨rfl, h2, k2⟩
  have HO2 := hid h2
  have HK2 := hid (HK.out.trans k2)
  clear h2 k2 hcb HF HO HK
  generalize w.heap.size = b at *
  rcases hfi : find (T.map Hd.hb) ha with _ | i
  · have HFI := hid hfi
    clear hfi
    simp only [atN]
    have HT1 := hid (show T.length ≤ 10000 from HB.out.2.1)
    have H1 := hid HB.out.2.2
    have HAD := hid (show addT T ⟨ha, ⟨.slice hp hn hc, hb⟩, hd, hpin⟩ = (T) ++ [(⟨ha, ⟨.slice hp hn hc, hb⟩, hd, hpin⟩ : Hd)] by unfold addT; rw [HFI.out])
    have HO5 := hid (show Has w2 (pt q (.cells #[dv, .int .i64 most, .slice p T.length c] 70) :: row (.slice p T.length c) 76 4 T.length (hcells T) :: pt b (.cells #[.int .i64 ha, .slice hp hn hc, .bool hd, .bool hpin] 76) :: L) from HO2.out)
    have HK5 := HK2
    clear HO2 HK2
    go_wp2_with fail
    refine region_tail1 (fun w' => w'.cell? ⟨q, 2, none⟩ = some (.slice p (T).length c) ∧ (w'.cell? ⟨b, 0, none⟩ = some (.int .i64 ha) ∧ w'.cell? ⟨b, 1, none⟩ = some (.slice hp hn hc) ∧ w'.cell? ⟨b, 2, none⟩ = some (.bool hd) ∧ w'.cell? ⟨b, 3, none⟩ = some (.bool hpin))) (by kernel_rfl) (by kernel_rfl) (by kernel_rfl) (by decide) ⟨HO5.out.drew.cells 2, HO5.out.drew.p2.cells 0, HO5.out.drew.p2.cells 1, HO5.out.drew.p2.cells 2, HO5.out.drew.p2.cells 3⟩ ?_
    have HO6 := hid HO5.out.drew
    have HK6 := hid HK5.out.drew
    generalize w2.drew = w6 at *
    clear HO5 HK5
    repeat (first
      | (refine wpL_read (by rfl) (by rfl) ?_ ?_ ?_; rotate_left; (rintro w ⟨z0, z1, z2, z3, z4⟩; go_simp; with_reducible rfl); simp only [Act.put, List.setIfInBounds_toArray, List.set_cons_zero, List.set_cons_succ])
      | (refine wpL_skip (by rfl) ?_; simp only [Act.put, List.setIfInBounds_toArray, List.set_cons_zero, List.set_cons_succ]))
    refine wpL_act (by rfl) (by rfl) (fun K hK => ?_)
    go_simp
    have HO7 := hid (HO6.out.alloc (.cells #[.int .i64 ha, .slice hp hn hc, .bool hd, .bool hpin] 76))
    have HK7 := hid (HK6.out.alloc (.cells #[.int .i64 ha, .slice hp hn hc, .bool hd, .bool hpin] 76))
    refine hK.out _ _ (⟨HO7.out.p1.cells 2, HO7.out.p3.cells 0, HO7.out.p3.cells 1, HO7.out.p3.cells 2, HO7.out.p3.cells 3⟩) ?_
    clear hK K HO6 HK6
    try simp only [Act.put, List.setIfInBounds_toArray, List.set_cons_zero, List.set_cons_succ]
    have HRD := hid (show Rd _ (.slice (some ⟨w6.heap.size, 0, none⟩) 1 1) 4 1 (hcells [(⟨ha, ⟨.slice hp hn hc, hb⟩, hd, hpin⟩ : Hd)]) from (HO7.out.row_of (n := 1) (cap := 1) (size := 4) (xs := hcells [(⟨ha, ⟨.slice hp hn hc, hb⟩, hd, hpin⟩ : Hd)]) (by omega) (le_maxLen (by omega)) rfl rfl rfl).rd)
    refine wpL_act (by rfl) (by rfl) (fun K hK => ?_)
    refine wp_appendA (.tmp 35) (.tmp 37) 68 rfl Try.underlying68 infoHeld rfl (by decide) HO7.out.p2 (by rfl) _ 1 (hcells [(⟨ha, ⟨.slice hp hn hc, hb⟩, hd, hpin⟩ : Hd)]) (by rfl) HRD.out (hd_one (fun x hx => by rw [List.mem_singleton.1 hx]; exact ⟨_, _, _, rfl⟩)) (le_maxLen (by have := HT1.out; omega)) (by have := HT1.out; omega) fun v8 w8 h8 k8 => ?_
    have HO8 := hid (show Has w8 (pt q (.cells #[dv, .int .i64 most, .slice p (T).length c] 70) :: row v8 76 4 ((T).length + 1) (hcells ((T) ++ [(⟨ha, ⟨.slice hp hn hc, hb⟩, hd, hpin⟩ : Hd)])) :: pt b (.cells #[.int .i64 ha, .slice hp hn hc, .bool hd, .bool hpin] 76) :: L) from by
      rw [hcells_append]
      exact h8.re 4 [2, 0, 3])
    have HK8 := hid (HK7.out.trans k8)
    clear h8 k8 HO7 HK7 HRD
    refine hK.out _ _ (⟨HO8.out.cells 2, HO8.out.p2.cells 0, HO8.out.p2.cells 1, HO8.out.p2.cells 2, HO8.out.p2.cells 3⟩) ?_
    clear hK K
    try simp only [Act.put, List.setIfInBounds_toArray, List.set_cons_zero, List.set_cons_succ]
    obtain ⟨p8, c8, rfl, -⟩ := HO8.out.p1.rd.form
    repeat (first
      | (refine wpL_read (by rfl) (by rfl) ?_ ?_ ?_; rotate_left; (rintro w ⟨z0, z1, z2, z3, z4⟩; go_simp; with_reducible rfl); simp only [Act.put, List.setIfInBounds_toArray, List.set_cons_zero, List.set_cons_succ])
      | (refine wpL_skip (by rfl) ?_; simp only [Act.put, List.setIfInBounds_toArray, List.set_cons_zero, List.set_cons_succ]))
    refine wpL_nil ?_
    refine wpOp_last rfl (by rfl) ?_
    have hc8 := HO8.out.cells
    have ht8 := HO8.out.thaw
    go_simp
    have HO9 := hid (show Has _ (pt q (.cells (caC dv most (.slice p8 ((T).length + 1) c8)) 70) :: row (.slice p8 ((T).length + 1) c8) 76 4 ((T).length + 1) (hcells ((T) ++ [(⟨ha, ⟨.slice hp hn hc, hb⟩, hd, hpin⟩ : Hd)])) :: L) from (HO8.out.set 2 (.slice p8 ((T).length + 1) c8)).re 3 [0, 1])
    have HK9 := hid (HK8.out.set ⟨q, 2, none⟩ (.slice p8 ((T).length + 1) c8))
    clear hc8 ht8 HO8 HK8
    have HLN := hid (show (((T) ++ [(⟨ha, ⟨.slice hp hn hc, hb⟩, hd, hpin⟩ : Hd)]).length : Nat) = (T).length + 1 by rw [List.length_append]; rfl)
    have HS := hid (cSettle dv most (.slice p8 ((T).length + 1) c8) ((T) ++ [(⟨ha, ⟨.slice hp hn hc, hb⟩, hd, hpin⟩ : Hd)]) q _ L HB.out.1 (by rw [HLN.out]; have := HT1.out; omega) (fun x hx => by
      rcases List.mem_append.1 hx with hx | hx
      · exact H1.out x hx
      · rw [List.mem_singleton.1 hx]; exact ⟨_, _, _, rfl⟩) (by rw [HLN.out]; exact HO9.out))
    generalize w8.setCell ⟨q, 2, none⟩ (.slice p8 ((T).length + 1) c8) = w9 at *
    go_wp2_with fail
    refine HS.out.mono ?_
    rintro e w10 ⟨rfl, ⟨v10, h10⟩, k10⟩
    have HO10 := hid h10
    have HK10 := hid (HK9.out.trans k10)
    clear h10 k10
    try dsimp only
    go_wp2_with fail
    go_end0
    refine ⟨rfl, ⟨v10, ?_⟩, HK10.out⟩
    have e : addT T ⟨ha, ⟨.slice hp hn hc, hb⟩, hd, hpin⟩ = (T) ++ [(⟨ha, ⟨.slice hp hn hc, hb⟩, hd, hpin⟩ : Hd)] := HAD.out
    rw [e]
    exact HO10.out
  · obtain ⟨hi, hat⟩ := find_lt hfi
    rw [List.length_map] at hi
    have HFI := hid hfi
    clear hfi hat
    simp only [atN]
    have HI := hid hi
    have H1 := hid HB.out.2.2
    have hi0 : (0 : Int) ≤ (i : Int) := by omega
    have hi1 : (i : Int) < (T.length : Int) := by omega
    have hi2 : (T.length : Int) ≤ 10000 := by have := HB.out; omega
    obtain ⟨g, rfl⟩ : ∃ g, p = some ⟨g, 0, none⟩ := by
      obtain ⟨-, h | ⟨gr, cap, cur, e, -⟩⟩ := HO2.out.p1.row_cases
      · have := h.2.1; omega
      · injection e with e; exact ⟨gr, e⟩
    obtain ⟨c0, c1, c2, c4⟩ := hd_cells HO2.out.p1.rd i hi
    simp only [Nat.zero_add] at c0 c1 c2 c4
    obtain ⟨pi, hpi⟩ : ∃ pi, ((T[i]?).map Hd.pin).getD false = pi := ⟨_, rfl⟩
    have c3 : w2.cell? ⟨g, i * 4 + 3, none⟩ = some (.bool pi) := by
      rw [← hpi, List.getElem?_eq_getElem hi]
      exact c4
    have HPI := hid hpi
    clear c0 c1 c2 c4 hpi
    have hq := HO2.out.cells
    have hbx := HO2.out.p2.cells
    have htb := HO2.out.p2.thaw
    have HO3 := hid ((HO2.out.p2.set 3 (.bool pi)).re 3 [2, 1, 0])
    have HK3 := hid (HK2.out.set ⟨b, 3, none⟩ (.bool pi))
    unfold caC at hq
    have HD := hid (cDelete (.slice (some ⟨g, 0, none⟩) T.length c) T i _ _ hi (by have := HB.out; omega) HB.out.2.2 HO3.out)
    clear hi HO2 HK2
    have hqb : q ≠ b ∨ True := .inr trivial
    clear hqb
    go_wp2_with fail
    refine HD.out.mono ?_
    rintro e w4 ⟨v4, rfl, h4, k4⟩
    have HO4 := hid (h4.re 3 [1, 0, 2])
    have HK4 := hid (HK3.out.trans k4)
    clear h4 k4 HO3 HK3 HD c3 hbx htb hq
    try dsimp only
    obtain ⟨p5, c5, rfl, -⟩ := HO4.out.p1.rd.form
    have hq := HO4.out.cells
    have htq := HO4.out.thaw
    have HO5 := hid (show Has (w4.setCell ⟨q, 2, none⟩ (.slice p5 (T.eraseIdx i).length c5)) (pt q (.cells #[dv, .int .i64 most, .slice p5 (T.eraseIdx i).length c5] 70) :: row (.slice p5 (T.eraseIdx i).length c5) 76 4 (T.eraseIdx i).length (hcells (T.eraseIdx i)) :: pt b (.cells #[.int .i64 ha, .slice hp hn hc, .bool hd, .bool pi] 76) :: L) from HO4.out.set 2 _)
    have HK5 := hid (HK4.out.set ⟨q, 2, none⟩ (.slice p5 (T.eraseIdx i).length c5))
    have HT1 := hid (show (T.eraseIdx i).length ≤ 10000 from Nat.le_trans (List.length_eraseIdx_le ..) HB.out.2.1)
    have HAD := hid (show addT T ⟨ha, ⟨.slice hp hn hc, hb⟩, hd, hpin⟩ = (T.eraseIdx i) ++ [(⟨ha, ⟨.slice hp hn hc, hb⟩, hd, pi⟩ : Hd)] by
      unfold addT; rw [HFI.out]; dsimp only; rw [HPI.out])
    have H1 := hid (show one1 (T.eraseIdx i) from fun x hx => H1.out x (List.mem_of_mem_eraseIdx hx))
    unfold caC at hq
    go_wp2_with fail
    clear hq htq HO4 HK4
    generalize w4.setCell ⟨q, 2, none⟩ (.slice p5 (T.eraseIdx i).length c5) = w5 at *
    refine region_tail1 (fun w' => w'.cell? ⟨q, 2, none⟩ = some (.slice p5 (T.eraseIdx i).length c5) ∧ (w'.cell? ⟨b, 0, none⟩ = some (.int .i64 ha) ∧ w'.cell? ⟨b, 1, none⟩ = some (.slice hp hn hc) ∧ w'.cell? ⟨b, 2, none⟩ = some (.bool hd) ∧ w'.cell? ⟨b, 3, none⟩ = some (.bool pi))) (by kernel_rfl) (by kernel_rfl) (by kernel_rfl) (by decide) ⟨HO5.out.drew.cells 2, HO5.out.drew.p2.cells 0, HO5.out.drew.p2.cells 1, HO5.out.drew.p2.cells 2, HO5.out.drew.p2.cells 3⟩ ?_
    have HO6 := hid HO5.out.drew
    have HK6 := hid HK5.out.drew
    generalize w5.drew = w6 at *
    clear HO5 HK5
    repeat (first
      | (refine wpL_read (by rfl) (by rfl) ?_ ?_ ?_; rotate_left; (rintro w ⟨z0, z1, z2, z3, z4⟩; go_simp; with_reducible rfl); simp only [Act.put, List.setIfInBounds_toArray, List.set_cons_zero, List.set_cons_succ])
      | (refine wpL_skip (by rfl) ?_; simp only [Act.put, List.setIfInBounds_toArray, List.set_cons_zero, List.set_cons_succ]))
    refine wpL_act (by rfl) (by rfl) (fun K hK => ?_)
    go_simp
    have HO7 := hid (HO6.out.alloc (.cells #[.int .i64 ha, .slice hp hn hc, .bool hd, .bool pi] 76))
    have HK7 := hid (HK6.out.alloc (.cells #[.int .i64 ha, .slice hp hn hc, .bool hd, .bool pi] 76))
    refine hK.out _ _ (⟨HO7.out.p1.cells 2, HO7.out.p3.cells 0, HO7.out.p3.cells 1, HO7.out.p3.cells 2, HO7.out.p3.cells 3⟩) ?_
    clear hK K HO6 HK6
    try simp only [Act.put, List.setIfInBounds_toArray, List.set_cons_zero, List.set_cons_succ]
    have HRD := hid (show Rd _ (.slice (some ⟨w6.heap.size, 0, none⟩) 1 1) 4 1 (hcells [(⟨ha, ⟨.slice hp hn hc, hb⟩, hd, pi⟩ : Hd)]) from (HO7.out.row_of (n := 1) (cap := 1) (size := 4) (xs := hcells [(⟨ha, ⟨.slice hp hn hc, hb⟩, hd, pi⟩ : Hd)]) (by omega) (le_maxLen (by omega)) rfl rfl rfl).rd)
    refine wpL_act (by rfl) (by rfl) (fun K hK => ?_)
    refine wp_appendA (.tmp 35) (.tmp 37) 68 rfl Try.underlying68 infoHeld rfl (by decide) HO7.out.p2 (by rfl) _ 1 (hcells [(⟨ha, ⟨.slice hp hn hc, hb⟩, hd, pi⟩ : Hd)]) (by rfl) HRD.out (hd_one (fun x hx => by rw [List.mem_singleton.1 hx]; exact ⟨_, _, _, rfl⟩)) (le_maxLen (by have := HT1.out; omega)) (by have := HT1.out; omega) fun v8 w8 h8 k8 => ?_
    have HO8 := hid (show Has w8 (pt q (.cells #[dv, .int .i64 most, .slice p5 (T.eraseIdx i).length c5] 70) :: row v8 76 4 ((T.eraseIdx i).length + 1) (hcells ((T.eraseIdx i) ++ [(⟨ha, ⟨.slice hp hn hc, hb⟩, hd, pi⟩ : Hd)])) :: pt b (.cells #[.int .i64 ha, .slice hp hn hc, .bool hd, .bool pi] 76) :: L) from by
      rw [hcells_append]
      exact h8.re 4 [2, 0, 3])
    have HK8 := hid (HK7.out.trans k8)
    clear h8 k8 HO7 HK7 HRD
    refine hK.out _ _ (⟨HO8.out.cells 2, HO8.out.p2.cells 0, HO8.out.p2.cells 1, HO8.out.p2.cells 2, HO8.out.p2.cells 3⟩) ?_
    clear hK K
    try simp only [Act.put, List.setIfInBounds_toArray, List.set_cons_zero, List.set_cons_succ]
    obtain ⟨p8, c8, rfl, -⟩ := HO8.out.p1.rd.form
    repeat (first
      | (refine wpL_read (by rfl) (by rfl) ?_ ?_ ?_; rotate_left; (rintro w ⟨z0, z1, z2, z3, z4⟩; go_simp; with_reducible rfl); simp only [Act.put, List.setIfInBounds_toArray, List.set_cons_zero, List.set_cons_succ])
      | (refine wpL_skip (by rfl) ?_; simp only [Act.put, List.setIfInBounds_toArray, List.set_cons_zero, List.set_cons_succ]))
    refine wpL_nil ?_
    refine wpOp_last rfl (by rfl) ?_
    have hc8 := HO8.out.cells
    have ht8 := HO8.out.thaw
    go_simp
    have HO9 := hid (show Has _ (pt q (.cells (caC dv most (.slice p8 ((T.eraseIdx i).length + 1) c8)) 70) :: row (.slice p8 ((T.eraseIdx i).length + 1) c8) 76 4 ((T.eraseIdx i).length + 1) (hcells ((T.eraseIdx i) ++ [(⟨ha, ⟨.slice hp hn hc, hb⟩, hd, pi⟩ : Hd)])) :: L) from (HO8.out.set 2 (.slice p8 ((T.eraseIdx i).length + 1) c8)).re 3 [0, 1])
    have HK9 := hid (HK8.out.set ⟨q, 2, none⟩ (.slice p8 ((T.eraseIdx i).length + 1) c8))
    clear hc8 ht8 HO8 HK8
    have HLN := hid (show (((T.eraseIdx i) ++ [(⟨ha, ⟨.slice hp hn hc, hb⟩, hd, pi⟩ : Hd)]).length : Nat) = (T.eraseIdx i).length + 1 by rw [List.length_append]; rfl)
    have HS := hid (cSettle dv most (.slice p8 ((T.eraseIdx i).length + 1) c8) ((T.eraseIdx i) ++ [(⟨ha, ⟨.slice hp hn hc, hb⟩, hd, pi⟩ : Hd)]) q _ L HB.out.1 (by rw [HLN.out]; have := HT1.out; omega) (fun x hx => by
      rcases List.mem_append.1 hx with hx | hx
      · exact H1.out x hx
      · rw [List.mem_singleton.1 hx]; exact ⟨_, _, _, rfl⟩) (by rw [HLN.out]; exact HO9.out))
    generalize w8.setCell ⟨q, 2, none⟩ (.slice p8 ((T.eraseIdx i).length + 1) c8) = w9 at *
    go_wp2_with fail
    refine HS.out.mono ?_
    rintro e w10 ⟨rfl, ⟨v10, h10⟩, k10⟩
    have HO10 := hid h10
    have HK10 := hid (HK9.out.trans k10)
    clear h10 k10
    try dsimp only
    go_wp2_with fail
    go_end0
    refine ⟨rfl, ⟨v10, ?_⟩, HK10.out⟩
    have e : addT T ⟨ha, ⟨.slice hp hn hc, hb⟩, hd, hpin⟩ = (T.eraseIdx i) ++ [(⟨ha, ⟨.slice hp hn hc, hb⟩, hd, pi⟩ : Hd)] := HAD.out
    rw [e]
    exact HO10.out
end Go.Proofs.Ytajlikakbihgbaa
/- A CACHE's CALLS, its bytes alone. -/
namespace Go.Proofs.Ytajlikakbihgbaa
open Go.RowKit Go.Own Go.Ch Go.Dk
/-- A cache at block q, of the disk dv: what it holds. -/
def Cch (q : Nat) (dv : Value) (most : Int) (K : List Hb) : HP := ex fun v : Value => ex fun T : List Hd => ex fun B : Txs => star [fact (T.map Hd.hb = K ∧ ∀ x ∈ T, x.t ∈ B), pt q (.cells (caC dv most v) 70), row v 76 4 T.length (hcells T), poolc 5 B]
theorem cch_iff {w : World} {L : List HP} {q : Nat} {dv : Value} {most : Int} {K : List Hb} : Has w (Cch q dv most K :: L) ↔ ∃ v T B, (T.map Hd.hb = K ∧ ∀ x ∈ T, x.t ∈ B) ∧ Has w (pt q (.cells (caC dv most v) 70) :: row v 76 4 T.length (hcells T) :: poolc 5 B :: L) := by
  unfold Cch
  simp only [Has.ex_iff, Has.star_iff, List.cons_append, List.nil_append, Has.fact_iff]
theorem one1_of {w : World} {L : List HP} {T : List Hd} {B : Txs} (h : Has w (poolc 5 B :: L)) (hB : ∀ x ∈ T, x.t ∈ B) : one1 T := fun x hx => by
  obtain ⟨p, c, e, -⟩ := (h.pool_rd (hB x hx)).form
  exact ⟨p, _, c, e⟩
/-- A sector is put in whose text lies about. -/
theorem kNewestB (dv : Value) (most : Int) (v : Value) (T : List Hd) (B : Txs) (h : Hd) (q : Nat) (w : World) (L : List HP) (hm : 0 ≤ most ∧ most ≤ 1000000) (hl : T.length ≤ 10000) (hB : ∀ x ∈ T, x.t ∈ B) (hh : h.t ∈ B)
    (hO : Has w (pt q (.cells (caC dv most v) 70) :: row v 76 4 T.length (hcells T) :: poolc 5 B :: L)) :
    Calls Try.prog 31 #[.pointer (some ⟨q, 0, none⟩), hdV h] w fun e w' => e = .returned (.tuple #[]) ∧ (∃ v' T', (∀ x ∈ T', x.t ∈ B) ∧ T'.map Hd.hb = newK most (T.map Hd.hb) h.hb ∧ Has w' (pt q (.cells (caC dv most v') 70) :: row v' 76 4 T'.length (hcells T') :: poolc 5 B :: L)) ∧ Keep w w' := by
  obtain ⟨ha, ⟨hv, hb⟩, hd, hp⟩ := h
  obtain ⟨p, c, ev, -⟩ := ((hO.p2).pool_rd hh).form
  dsimp only at ev
  subst ev
  refine (cNewest dv most v T ha p _ c hb hd hp q w _ hm hl (one1_of hO.p2 hB) hO).mono ?_
  rintro e w' ⟨h1, ⟨v', h2⟩, h3⟩
  refine ⟨h1, ⟨v', _, ?_, newT_map .., h2⟩, h3⟩
  intro x hx
  rcases newT_mem hx with hx | hx
  · exact hB x hx
  · rw [hx]; exact hh
/-- .. whose text is its own. -/
theorem kNewest (dv : Value) (most : Int) (K : List Hb) (a : Int) (bv : Value) (bs : List Int) (di pi : Bool) (q : Nat) (w : World) (L : List HP) (hm : 0 ≤ most ∧ most ≤ 1000000) (hl : K.length ≤ 10000) (hO : Has w (Bytes bv bs :: Cch q dv most K :: L)) :
    Calls Try.prog 31 #[.pointer (some ⟨q, 0, none⟩), .agg #[.int .i64 a, bv, .bool di, .bool pi]] w fun e w' => e = .returned (.tuple #[]) ∧ Has w' (Cch q dv most (newK most K ⟨a, bs, di, pi⟩) :: L) ∧ Keep w w' := by
  obtain ⟨v, T, B, ⟨rfl, hB⟩, h2⟩ := cch_iff.1 hO.p1
  have h3 : Has w (Bytes bv bs :: poolc 5 B :: pt q (.cells (caC dv most v) 70) :: row v 76 4 T.length (hcells T) :: L) := h2.re 4 [3, 2, 0, 1]
  have h4 : Has w (pt q (.cells (caC dv most v) 70) :: row v 76 4 T.length (hcells T) :: poolc 5 ((bv, bs) :: B) :: L) := h3.pool_add.re 3 [1, 2, 0]
  refine (kNewestB dv most v T ((bv, bs) :: B) ⟨a, ⟨bv, bs⟩, di, pi⟩ q w L hm (by simpa using hl) (fun x hx => List.mem_cons_of_mem _ (hB x hx)) List.mem_cons_self h4).mono ?_
  rintro e w' ⟨h5, ⟨v', T', h6, h7, h8⟩, h9⟩
  exact ⟨h5, cch_iff.2 ⟨v', T', _, ⟨h7, h6⟩, h8⟩, h9⟩
set_option maxRecDepth 100000 in
set_option maxHeartbeats 4000000 in
theorem kcNew (d : Value) (dp : Addr) (hd : d = .pointer (some dp)) (most : Int) (w : World) (L : List HP) (hm : 1 ≤ most) (hO : Has w L) :
    Calls Try.prog 9 #[d, .int .i64 most] w fun e w' => ∃ q, e = .returned (.pointer (some ⟨q, 0, none⟩)) ∧ Has w' (Cch q d most [] :: L) ∧ Keep w w' := by
  subst hd
  have HO := hid (hO.alloc (.cells (caC (.pointer (some dp)) most (.slice none 0 0)) 70))
  have HK := hid ((Keep.refl w).alloc (.cells (caC (.pointer (some dp)) most (.slice none 0 0)) 70))
  have hm1 : ¬ most < 1 := by omega
  clear hO hm
  unfold caC at HO HK
  go_enter Try.func9, Try.ntmps9
  go_wp2_with fail
  go_ret
  exact ⟨_, rfl, cch_iff.2 ⟨_, [], [], ⟨rfl, by simp⟩, ((HO.out.pool_nil).row_nil _ _).re 3 [2, 0, 1]⟩, HK.out⟩
set_option maxRecDepth 100000 in
set_option maxHeartbeats 4000000 in
theorem kcNewNil (d : Value) (most : Int) (w : World) (h : d = .pointer none ∨ (most < 1 ∧ ∃ dp, d = .pointer (some dp))) : Calls Try.prog 9 #[d, .int .i64 most] w fun e w' => e = .returned (.pointer none) ∧ w = w' := by
  rcases h with rfl | ⟨hm, dp, rfl⟩
  · go_enter Try.func9, Try.ntmps9
    go_wp2_with fail
    go_ret
    exact ⟨rfl, rfl⟩
  · go_enter Try.func9, Try.ntmps9
    go_wp2_with fail
    go_ret
    exact ⟨rfl, rfl⟩
set_option maxRecDepth 100000 in
set_option maxHeartbeats 4000000 in
/-- Drop. -/
theorem kcDrop (q : Nat) (dv : Value) (most : Int) (K : List Hb) (m : Int) (w : World) (L : List HP) (hm : m ≤ 1000000000) (hl : K.length ≤ 10000) (hO : Has w (Cch q dv most K :: L)) :
    Calls Try.prog 14 #[.pointer (some ⟨q, 0, none⟩), .int .i64 m] w fun e w' => e = .returned (.int .i64 ((K.length : Int) - ((dropG Hb.stay m K).2.length : Int))) ∧ Has w' (Cch q dv most (dropG Hb.stay m K).2 :: L) ∧ Keep w w' := by
  obtain ⟨v, T, B, ⟨rfl, hB⟩, h2⟩ := cch_iff.1 hO
  have HD := hid (cDrop dv most v T q m w _ hm (by simp at hl; omega) (one1_of h2.p2 hB) h2)
  have HB := hid hB
  clear hO h2 hm hl
  go_enter Try.func14, Try.ntmps14
  go_wp2_with fail
  refine HD.out.mono ?_
  rintro e w2 ⟨rfl, ⟨v2, h2⟩, k2⟩
  have HO2 := hid h2
  have HK2 := hid k2
  clear h2 k2
  try dsimp only
  go_wp2_with fail
  go_ret
  rw [drop_map, List.length_map, List.length_map]
  exact ⟨rfl, cch_iff.2 ⟨v2, _, B, ⟨rfl, fun x hx => HB.out x (dropG_mem _ _ _ x hx)⟩, HO2.out⟩, HK2.out⟩
end Go.Proofs.Ytajlikakbihgbaa
/- A CACHE's Put, Get and Held. -/
namespace Go.Proofs.Ytajlikakbihgbaa
open Go.RowKit Go.Own Go.Ch Go.Dk
abbrev dP (d : Nat) : Value := .pointer (some ⟨d, 0, none⟩)
set_option maxRecDepth 100000 in
set_option maxHeartbeats 4000000 in
theorem kcPut (q d : Nat) (most : Int) (K : List Hb) (E : Bk) (a : Int) (v : Value) (xs : List Int) (w : World) (L : List HP) (hm : 0 ≤ most ∧ most ≤ 1000000) (hl : K.length ≤ 10000) (ha : 0 ≤ a ∧ a < E.firm.length) (hx : xs.length = 128) (hr : ∀ w', Has w' L → Rd w' v 1 xs.length (bc xs)) (hO : Has w (Cch q (dP d) most K :: Dk d E :: L)) :
    Calls Try.prog 11 #[.pointer (some ⟨q, 0, none⟩), .int .i64 a, v] w fun e w' => e = .returned (.int .i64 0) ∧ Has w' (Cch q (dP d) most (newK most K ⟨a, xs, true, false⟩) :: Dk d E :: L) ∧ Keep w w' := by
  obtain ⟨p, c, rfl, -⟩ := (hr w hO.drop.drop).form
  have HR := hid hr
  have HSX := hid (kSectors d E w _ hO.p1)
  have HX := hid hx
  have HM := hid (And.intro hm hl)
  obtain ⟨v0, T, B, ⟨hT, hB⟩, h2⟩ := cch_iff.1 hO
  have hc := h2.cells
  have HO := hid hO
  have ha1 : ¬ a < 0 := by omega
  have ha2 : decide (a ≥ (E.firm.length : Int)) = false := decide_eq_false (by omega)
  have ha3 : ¬ (E.firm.length : Int) ≤ a := by omega
  have ha4 : a < (E.firm.length : Int) := ha.2
  have hxl : ((xs.length : Int) != 128) = false := by simp [hx]
  clear hr hx hm hl ha h2 hO hT hB
  unfold caC at hc
  go_enter Try.func11, Try.ntmps11
  go_wp2_with fail
  refine (HSX.out).mono ?_
  rintro e w' ⟨rfl, rfl⟩
  try dsimp only
  clear hc
  go_wp2_with fail
  refine (cloneBytes (.slice p xs.length c) xs w _ HO.out (HR.out w HO.out.drop.drop) (by rw [HX.out]; omega)).mono ?_
  rintro e w2 ⟨v2, rfl, h2, k2, -⟩
  have HO2 := hid h2
  have HK2 := hid k2
  obtain ⟨p2, c2, rfl, -⟩ := (Bytes.rd h2).form
  clear h2 k2
  try dsimp only
  have HN := hid (kNewest (dP d) most K a (.slice p2 xs.length c2) xs true false q w2 _ HM.out.1 HM.out.2 HO2.out)
  go_wp2_with fail
  refine (HN.out).mono ?_
  rintro e w3 ⟨rfl, hO3, hK3⟩
  have HO3 := hid hO3
  have HK3 := hid ((HK2.out).trans hK3)
  clear hO3 hK3
  try dsimp only
  go_wp2_with fail
  go_ret
  exact ⟨rfl, HO3.out, HK3.out⟩
set_option maxRecDepth 100000 in
set_option maxHeartbeats 4000000 in
theorem kcGetHit (q d : Nat) (most : Int) (K : List Hb) (a : Int) (i : Nat) (w : World) (L : List HP) (hm : 0 ≤ most ∧ most ≤ 1000000) (hl : K.length ≤ 10000) (h128 : ∀ x ∈ K, x.b.length ≤ 1000) (hf : find K a = some i) (hi : i < K.length) (hO : Has w (Cch q (dP d) most K :: L)) :
    Calls Try.prog 15 #[.pointer (some ⟨q, 0, none⟩), .int .i64 a] w fun e w' => ∃ v', e = .returned (.tuple #[v', .int .i64 0]) ∧ Has w' (Bytes v' K[i].b :: Cch q (dP d) most (newK most K K[i]) :: L) ∧ Keep w w' := by
  obtain ⟨v, T, B, ⟨rfl, hB⟩, h2⟩ := cch_iff.1 hO
  have HO := hid h2
  have HF := hid (cFind (dP d) most v T q a w _ (fun w' h => Has.rd h) (by simp at hl; omega) h2)
  have hiT : i < T.length := by simpa using hi
  have HX : Hid (T[i] ∈ T) := hid (List.getElem_mem hiT)
  have HLX := hid (show T[i].t.2.length ≤ 1000 from h128 T[i].hb (List.mem_map_of_mem HX.out))
  have HKI : Hid ((T.map Hd.hb)[i] = T[i].hb) := hid (List.getElem_map ..)
  obtain ⟨px, cx, hxt, -⟩ := ((h2.p2).pool_rd (hB T[i] HX.out)).form
  obtain ⟨p, c, rfl, -⟩ := h2.p1.rd.form
  obtain ⟨g, rfl⟩ : ∃ g, p = some ⟨g, 0, none⟩ := by
    obtain ⟨-, h | ⟨gr, cap, cur, e, -⟩⟩ := h2.p1.row_cases
    · have := h.2.1; omega
    · injection e with e; exact ⟨gr, e⟩
  have HM := hid (And.intro hm hl)
  have HBB := hid hB
  have HII := hid hiT
  rw [hf] at HF
  simp only [atN] at HF
  have hi0 : (0 : Int) ≤ (i : Int) := by omega
  have hi1 : (i : Int) < (T.length : Int) := by omega
  have hi2 : (T.length : Int) ≤ 10000 := by simp at hl; omega
  rw [HKI.out]
  generalize hx : T[i] = x at *
  have HXE := hid hx
  clear HKI
  clear hO h2 hB hl hm hf h128 hi hx
  go_enter Try.func15, Try.ntmps15
  go_wp2_with fail
  refine HF.out.mono ?_
  rintro e w2 ⟨rfl, h2, k2⟩
  have HO2 := hid h2
  have HK2 := hid k2
  clear h2 k2 HF HO
  try dsimp only
  have hq := HO2.out.cells
  obtain ⟨c0, c1, c2, c3⟩ := hd_cells HO2.out.p1.rd i HII.out
  have hxe : T[i]'HII.out = x := HXE.out
  rw [hxe] at c0 c1 c2 c3
  clear hxe
  simp only [Nat.zero_add] at c0 c1 c2 c3
  obtain ⟨xa, ⟨xv, xb⟩, xd, xp⟩ := x
  dsimp only at hxt c0 c1 c2 c3
  subst hxt
  have HO3 := hid (HO2.out.alloc (.cells #[.int .i64 xa, .slice px xb.length cx, .bool xd, .bool xp] 76))
  have HK3 := hid (HK2.out.alloc (.cells #[.int .i64 xa, .slice px xb.length cx, .bool xd, .bool xp] 76))
  have HN := hid (kNewestB (dP d) most (.slice (some ⟨g, 0, none⟩) T.length c) T B ⟨xa, ⟨.slice px xb.length cx, xb⟩, xd, xp⟩ q _ _ HM.out.1 (by omega) HBB.out (HBB.out _ HX.out) (HO3.out.re 4 [1, 2, 3, 0]))
  unfold hdV at HN
  dsimp only at HN
  unfold caC at hq
  go_wp2_with fail
  refine HN.out.mono ?_
  rintro e w4 ⟨rfl, ⟨v4, T4, hB4, hT4, h4⟩, k4⟩
  have HO4 := hid h4
  have HK4 := hid (HK3.out.trans k4)
  have HB4 := hid hB4
  have HT4 := hid hT4
  clear h4 k4 hB4 hT4 HO3 HK3 HN c0 c1 c2 c3 hq HO2 HK2
  try dsimp only
  have hbx := HO4.out.p3.cells
  generalize w2.heap.size = b at *
  go_wp2_with fail
  refine (cloneBytes (.slice px xb.length cx) xb w4 _ HO4.out ((HO4.out.p2).pool_rd (HBB.out _ HX.out)) (by have := HLX.out; omega)).mono ?_
  rintro e w5 ⟨v5, rfl, h5, k5, -⟩
  have HO5 := hid h5
  have HK5 := hid (HK4.out.trans k5)
  clear h5 k5
  try dsimp only
  go_wp2_with fail
  go_ret2
  refine ⟨v5, rfl, ?_, HK5.out⟩
  exact ((cch_iff.2 ⟨v4, T4, B, ⟨HT4.out, HB4.out⟩, HO5.out.re 5 [1, 2, 3, 0]⟩) : Has w5 (Cch q (dP d) most _ :: Bytes v5 xb :: L)).p1
set_option maxRecDepth 100000 in
set_option maxHeartbeats 4000000 in
theorem kcGetMiss (q d : Nat) (most : Int) (K : List Hb) (E : Bk) (a : Int) (w : World) (L : List HP) (hm : 0 ≤ most ∧ most ≤ 1000000) (hl : K.length ≤ 10000) (hw : E.waits.length ≤ 1000000000) (hf : find K a = none) (he : (E.read a).1 = 0) (hbl : (E.read a).2.length ≤ 1000) (hO : Has w (Cch q (dP d) most K :: Dk d E :: L)) :
    Calls Try.prog 15 #[.pointer (some ⟨q, 0, none⟩), .int .i64 a] w fun e w' => ∃ v', e = .returned (.tuple #[v', .int .i64 0]) ∧ Has w' (Bytes v' (E.read a).2 :: Cch q (dP d) most (newK most K ⟨a, (E.read a).2, false, false⟩) :: Dk d E :: L) ∧ Keep w w' := by
  obtain ⟨v, T, B, ⟨rfl, hB⟩, h2⟩ := cch_iff.1 hO
  have HF := hid (cFind (dP d) most v T q a w _ (fun w' h => Has.rd h) (by simp at hl; omega) h2)
  have HM := hid (And.intro hm hl)
  have HBB := hid hB
  have HW := hid hw
  have HE := hid he
  have HBL := hid hbl
  rw [hf] at HF
  simp only [atN] at HF
  clear hO h2 hB hl hm hf hw he hbl
  go_enter Try.func15, Try.ntmps15
  go_wp2_with fail
  refine HF.out.mono ?_
  rintro e w2 ⟨rfl, h2, k2⟩
  have HO2 := hid h2
  have HK2 := hid k2
  clear h2 k2 HF
  try dsimp only
  have hq := HO2.out.cells
  unfold caC at hq
  have HRD := hid (kRead d E w2 _ HO2.out.p3 a HW.out)
  rw [HE.out] at HRD
  go_wp2_with fail
  refine HRD.out.mono ?_
  rintro e w3 ⟨v3, rfl, h3, k3⟩
  have HO3 := hid (show Has w3 (Cch q (dP d) most (T.map Hd.hb) :: Bytes v3 (E.read a).2 :: Dk d E :: L) from cch_iff.2 ⟨v, T, B, ⟨rfl, HBB.out⟩, h3.re 5 [2, 3, 4, 0, 1]⟩)
  have HK3 := hid (HK2.out.trans k3)
  obtain ⟨p3, c3, rfl, -⟩ := (Bytes.rd h3).form
  clear h3 k3 HO2 HK2 HRD hq
  try dsimp only
  generalize hbs : (E.read a).2 = bs at *
  have HBS := hid hbs
  clear hbs
  go_wp2_with fail
  refine (cloneBytes (.slice p3 bs.length c3) bs w3 _ HO3.out (Bytes.rd HO3.out.p1) (by have := HBL.out; omega)).mono ?_
  rintro e w4 ⟨v4, rfl, h4, k4, -⟩
  have HO4 := hid h4
  have HK4 := hid (HK3.out.trans k4)
  obtain ⟨p4, c4, rfl, -⟩ := (Bytes.rd h4).form
  clear h4 k4
  try dsimp only
  have HN := hid (kNewest (dP d) most (T.map Hd.hb) a (.slice p4 bs.length c4) bs false false q w4 _ HM.out.1 HM.out.2 HO4.out)
  go_wp2_with fail
  refine (HN.out).mono ?_
  rintro e w5 ⟨rfl, hO5, hK5⟩
  have HO5 := hid hO5
  have HK5 := hid ((HK4.out).trans hK5)
  clear hO5 hK5
  try dsimp only
  go_wp2_with fail
  go_ret2
  rw [HBS.out]
  exact ⟨.slice p3 bs.length c3, rfl, HO5.out.p1, HK5.out⟩
set_option maxRecDepth 100000 in
set_option maxHeartbeats 4000000 in
theorem kcHeld (q : Nat) (dv : Value) (most : Int) (K : List Hb) (w : World) (L : List HP) (hl : K.length ≤ 10000) (hO : Has w (Cch q dv most K :: L)) :
    Calls Try.prog 19 #[.pointer (some ⟨q, 0, none⟩)] w fun e w' => ∃ v', e = .returned v' ∧ Has w' (Ints v' (K.map Hb.at_) :: Cch q dv most K :: L) ∧ Keep w w' := by
  obtain ⟨v, T, B, ⟨rfl, hB⟩, h2⟩ := cch_iff.1 hO
  obtain ⟨p, c, rfl, -, -, hcs⟩ := h2.p1.rd.form
  have HO := hid (h2.row_nil 3 1)
  have HB := hid hB
  have HL := hid (show T.length ≤ 10000 by simpa using hl)
  have HCS := hid hcs
  have hq := h2.cells
  unfold caC at hq
  have HK := hid (Keep.refl w)
  clear hO h2 hB hl hcs
  go_enter Try.func19, Try.ntmps19
  go_wp2_with fail
  clear hq
  go_loopw [3, 13] (fun s i w' => ∃ k : Nat, k ≤ T.length ∧ i = .int .i64 k ∧ Hid (Has w' (row s 3 1 k (ic ((T.map Hd.at_).take k)) :: pt q (.cells (caC dv most (.slice p T.length c)) 70) :: row (.slice p T.length c) 76 4 T.length (hcells T) :: poolc 5 B :: L)) ∧ Hid (Keep w w')) (fun _ i _ => T.length - (intOf i).toNat)
  case atStart => exact ⟨0, by omega, rfl, HO, HK⟩
  case round =>
    clear HO HK
    obtain ⟨k, hk, rfl, HO, HK⟩ := hrel
    by_cases hlt : k < T.length
    · have hki : (k : Int) < (T.length : Int) := by omega
      have hk0 : (0 : Int) ≤ (k : Int) := by omega
      have hnb : (T.length : Int) ≤ 10000 := by have := HL.out; omega
      obtain ⟨g, o, rfl, -⟩ := HCS.out (by omega)
      obtain ⟨c0, c1, c2, c3⟩ := hd_cells HO.out.p2.rd k hlt
      obtain ⟨px, cx, hxt, -⟩ := (HO.out.p3.pool_rd (HB.out T[k] (List.getElem_mem hlt))).form
      have HTK := hid (show (T.map Hd.at_).take (k + 1) = (T.map Hd.at_).take k ++ [T[k].at_] by rw [← List.map_take, ← List.map_take, take_one hlt, List.map_append]; rfl)
      have HLT := hid hlt
      generalize T[k] = x at *
      obtain ⟨xa, ⟨xv, xb⟩, xd, xp⟩ := x
      dsimp only at hxt c0 c1 c2 c3 HTK
      subst hxt
      have HO2 := hid (HO.out.alloc (.cells #[.int .i64 xa, .slice px xb.length cx, .bool xd, .bool xp] 76))
      have HK2 := hid (HK.out.alloc (.cells #[.int .i64 xa, .slice px xb.length cx, .bool xd, .bool xp] 76))
      have HO3 := hid ((HO2.out.alloc (.cells #[.int .i64 xa] 3)))
      have HK3 := hid (HK2.out.alloc (.cells #[.int .i64 xa] 3))
      have e1 : (wr.alloc (.cells #[.int .i64 xa, .slice px xb.length cx, .bool xd, .bool xp] 76)).heap.size = wr.heap.size + 1 := Array.size_push _
      rw [e1] at HO3
      clear hlt hk HO HK e1 HO2 HK2
      have hcx := HO3.out.cells 0
      go_wp2_with (at_builtin; refine wpList_append1 rfl _ _ _ rfl Try.underlying22 infoInt rfl (.int .i64 xa) HO3.out.p2 rfl 1 (wr.heap.size + 1) rfl hcx rfl (le_maxLen (by have := HLT.out; have := HL.out; omega)) (by have := HLT.out; have := HL.out; omega) ?_)
      intro v4 w4 h4 k4
      have HO4 := hid (show Has w4 (row v4 3 1 (k + 1) (ic ((T.map Hd.at_).take (k + 1))) :: pt q (.cells (caC dv most (.slice (some ⟨g, o, none⟩) T.length c)) 70) :: row (.slice (some ⟨g, o, none⟩) T.length c) 76 4 T.length (hcells T) :: poolc 5 B :: L) from by
        rw [HTK.out, ic_snoc]
        exact h4.re 6 [0, 3, 4, 5])
      have HK4 := hid (HK3.out.trans k4)
      clear h4 k4 HO3 HK3 hcx c0 c1 c2 c3
      go_wp2_with fail
      exact ⟨⟨k + 1, by have := HLT.out; omega, rfl, HO4, HK4⟩, by have := HLT.out; simp [intOf]; omega⟩
    · obtain rfl : k = T.length := by omega
      have hki : ¬ (T.length : Int) < (T.length : Int) := by omega
      clear hlt hk
      go_wp2_with fail
      go_ret
      refine ⟨_, rfl, ?_, HK.out⟩
      have h := HO.out
      rw [List.take_of_length_le (by rw [List.length_map]; exact Nat.le_refl _)] at h
      have h5 : Has wr (Ints u3 (T.map Hd.at_) :: pt q (.cells (caC dv most (.slice p T.length c)) 70) :: row (.slice p T.length c) 76 4 T.length (hcells T) :: poolc 5 B :: L) := by
        unfold Ints
        rw [List.length_map]
        exact h
      show Has wr (Ints u3 (T.map Hd.at_) :: Cch q dv most (T.map Hd.hb) :: L)
      exact ((cch_iff.2 ⟨_, T, B, ⟨rfl, HB.out⟩, h5.re 4 [1, 2, 3, 0]⟩) : Has wr (Cch q dv most _ :: Ints u3 (T.map Hd.at_) :: L)).p1
end Go.Proofs.Ytajlikakbihgbaa
