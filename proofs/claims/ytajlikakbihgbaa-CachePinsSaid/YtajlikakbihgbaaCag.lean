/- THE WALKS of slices.Delete, settle and newest of a cache. -/
import Derived.Test.YtajlikakbihgbaaCae
import Derived.Test.YtajlikakbihgbaaAppIn
namespace Go.Proofs.Ytajlikakbihgbaa
open Go.RowKit Go.Own Go.Ch
theorem wrapk_in (n : Int) (h : -9223372036854775808 ≤ n ∧ n ≤ 9223372036854775807) : IntKind.i64.wrap n = n := by
  simp [IntKind.wrap, IntKind.bits, IntKind.signed]
  omega
theorem infoHeld : (Try.prog.info? 76).map (fun i => (i.zero, i.size, i.bytes)) = some (some zeroH, 4, 40) := by kernel_rfl
theorem hd_one {T : List Hd} (h : one1 T) : ∀ u ∈ hcells T, u.oneCell' = true := by
  refine hcells_one (k := 0) fun x hx => ?_
  obtain ⟨p, n, c, e⟩ := h x hx
  rw [e]; rfl
theorem rd_drop {w : World} {g n c : Nat} {T : List Hd} (h : Rd w (.slice (some ⟨g, 0, none⟩) n c) 4 T.length (hcells T)) (k : Nat) (hk : k ≤ T.length) (ad : Option Addr) (m c' : Nat) (hm : m = T.length - k) (had : k < T.length → ad = some ⟨g, k * 4, none⟩) (hmc : m ≤ c') : Rd w (.slice ad m c') 4 m (hcells (T.drop k)) := by
  subst hm
  obtain ⟨h1, h2, p, c1, e, h3, h4⟩ := h
  injection e with e1 e2 e3
  subst e1
  refine ⟨by rw [hcells_len, List.length_drop], by omega, _, _, rfl, hmc, fun hp => ?_⟩
  have hlt : k < T.length := by omega
  refine ⟨g, k * 4, had hlt, fun j hj => ?_⟩
  obtain ⟨g', o', e, hd⟩ := h4 (by omega)
  injection e with e
  injection e with e1 e2
  subst e1 e2
  have := hd (k * 4 + j) (by omega)
  rw [Nat.zero_add] at this
  rw [this, ← hcells_drop, List.getElem?_drop]
set_option maxRecDepth 100000 in
set_option maxHeartbeats 4000000 in
theorem cDelete (v : Value) (T : List Hd) (i : Nat) (w : World) (L : List HP) (hi : i < T.length) (hl : T.length ≤ 1000000) (h1 : one1 T) (hO : Has w (row v 76 4 T.length (hcells T) :: L)) :
    Calls Try.prog 55 #[v, .int .i64 (i : Int), .int .i64 ((i : Int) + 1)] w fun e w' => ∃ v', e = .returned v' ∧ Has w' (row v' 76 4 (T.eraseIdx i).length (hcells (T.eraseIdx i)) :: L) ∧ Keep w w' := by
  obtain ⟨p, c, rfl, hca, -, hcs⟩ := hO.rd.form
  obtain ⟨g, o, rfl, -⟩ := hcs (by omega)
  have ho : o = 0 := by
    obtain ⟨_, h | ⟨g', c', cur, e, _⟩⟩ := hO.row_cases
    · cases h.1
    · simp at e; exact e.1.2
  subst ho
  have HO := hid hO
  have HI := hid hi
  have HL := hid hl
  have H1 := hid h1
  have hi0 : (0 : Int) ≤ (i : Int) := by omega
  have hi1 : (i : Int) + 1 ≤ (T.length : Int) := by omega
  have hi2 : (T.length : Int) ≤ (c : Int) := by omega
  have hi3 : (T.length : Int) ≤ 1000000 := by omega
  have hi4 : (i : Int) ≤ (c : Int) := by omega
  have hi5 : (i : Int) + 1 ≤ (c : Int) := by omega
  have hi6 : i ≤ c := by omega
  have hi7 : i + 1 ≤ T.length := by omega
  have hi8 : (0 : Int) ≤ (i : Int) + 1 := by omega
  have hne : ¬ (i : Int) = (i : Int) + 1 := by omega
  clear hO hcs hi hl h1
  go_enter Try.func55, Try.ntmps55
  go_wp2_with fail
  have HL2 := hid (show T.length ≤ c by omega)
  refine region_text (fun _ => True) (by kernel_rfl) (by kernel_rfl) trivial ?_
  have HO2 := hid HO.out.drew
  have HK2 := hid ((Keep.refl w).drew)
  generalize w.drew = w2 at *
  clear HO
  repeat (first
    | (refine wpL_read (by rfl) (by rfl) ?_ ?_ ?_; rotate_left; (intro w hS; go_simp; with_reducible rfl); simp only [Act.put, List.setIfInBounds_toArray, List.set_cons_zero, List.set_cons_succ])
    | (refine wpL_skip (by rfl) ?_; simp only [Act.put, List.setIfInBounds_toArray, List.set_cons_zero, List.set_cons_succ]))
  refine wpL_act (by rfl) (by rfl) (fun K hK => ?_)
  refine wp_appendIn (.tmp 22) (.tmp 25) 68 rfl HO2.out Try.underlying68 infoHeld i (T.length - (i + 1)) (hcells (T.drop (i + 1))) _ (by rfl) (by rfl) (rd_drop HO2.out.rd (i + 1) HI.out _ _ _ rfl (fun h => if_neg (by have := HL2.out; omega)) (by have := HL2.out; omega)) (hd_one (fun x hx => H1.out x (List.mem_of_mem_drop hx))) (by have := HI.out; omega) (by omega) fun w3 h3 k3 => ?_
  refine hK.out _ _ trivial ?_
  clear hK K
  try simp only [Act.put, List.setIfInBounds_toArray, List.set_cons_zero, List.set_cons_succ]
  have HO3 := hid h3
  have HK3 := hid (HK2.out.trans k3)
  clear h3 k3 HO2 HK2
  refine wpL_read (by rfl) (by rfl) ?_ ?_ ?_; rotate_left; (intro w hS; go_simp; with_reducible rfl); simp only [Act.put, List.setIfInBounds_toArray, List.set_cons_zero, List.set_cons_succ]
  refine wpL_nil ?_
  generalize (if c = i + 1 then (some (⟨g, 0, none⟩ : Addr)) else some ⟨g, (i + 1) * 4, none⟩) = adx
  obtain ⟨n1, hn1⟩ : ∃ n1, T.length = n1 + 1 := ⟨T.length - 1, by have := HI.out; omega⟩
  have hk : i + (T.length - (i + 1)) = n1 := by have := HI.out; omega
  rw [hk] at HO3 ⊢
  have hx1 : (0 : Int) ≤ (n1 : Int) := by omega
  have hx2 : (n1 : Int) ≤ (T.length : Int) := by omega
  have hx3 : ¬ c = n1 := by have := HL2.out; omega
  have HN1 := hid hn1
  have hx4 : (n1 : Int) ≤ (c : Int) := by have := HL2.out; omega
  clear hk hn1
  go_wp2_with (refine wpList_clearTail rfl _ _ rfl HO3.out Try.underlying68 zeroHeld zeroH_size zeroH_one n1 (by have := HN1.out; omega) (some ⟨g, n1 * 4, none⟩) _ rfl (fun _ => rfl) ?_)
  intro w4 h4 k4
  have HO4 := hid (show Has w4 (row (.slice (some ⟨g, 0, none⟩) n1 c) 76 4 (T.eraseIdx i).length (hcells (T.eraseIdx i)) :: L) from by
    have e1 : (T.eraseIdx i).length = n1 := by rw [List.length_eraseIdx, if_pos (by have := HI.out; omega), HN1.out]; rfl
    have e2 : ((hcells T).take (i * 4) ++ hcells (T.drop (i + 1)) ++ (hcells T).drop (n1 * 4)).take (n1 * 4) = hcells (T.eraseIdx i) := by
      rw [hcells_take, ← hcells_append, ← List.eraseIdx_eq_take_drop_succ]
      exact List.take_left' (by rw [hcells_len, e1])
    rw [e1, ← e2, List.append_assoc]
    exact h4)
  have HK4 := hid (HK3.out.trans k4)
  clear h4 k4 HO3 HK3
  go_wp2_with fail
  go_ret
  exact ⟨_, rfl, HO4.out, HK4.out⟩
set_option maxRecDepth 100000 in
set_option maxHeartbeats 4000000 in
theorem cSettle (dv : Value) (most : Int) (v : Value) (T : List Hd) (q : Nat) (w : World) (L : List HP) (hm : 0 ≤ most ∧ most ≤ 1000000) (hl : T.length ≤ 1000000) (h1 : one1 T) (hO : Has w (pt q (.cells (caC dv most v) 70) :: row v 76 4 T.length (hcells T) :: L)) :
    Calls Try.prog 35 #[.pointer (some ⟨q, 0, none⟩)] w fun e w' => e = .returned (.tuple #[]) ∧ (∃ v', Has w' (pt q (.cells (caC dv most v') 70) :: row v' 76 4 (dropG Hd.stay ((T.length : Int) - most) T).2.length (hcells (dropG Hd.stay ((T.length : Int) - most) T).2) :: L)) ∧ Keep w w' := by
  obtain ⟨p, c, rfl, -⟩ := hO.p1.rd.form
  have HO := hid hO
  have HW := hid (show IntKind.i64.wrap ((T.length : Int) - most) = (T.length : Int) - most from wrapk_in _ (by omega))
  have HB := hid (And.intro hm (And.intro hl h1))
  clear hO hm hl h1
  go_enter Try.func35, Try.ntmps35
  refine region_tail1 (fun w' => w'.cell? ⟨q, 1, none⟩ = some (.int .i64 most) ∧ w'.cell? ⟨q, 2, none⟩ = some (.slice p T.length c)) (by kernel_rfl) (by kernel_rfl) (by kernel_rfl) (by decide) ⟨HO.out.drew.cells 1, HO.out.drew.cells 2⟩ ?_
  have HO2 := hid HO.out.drew
  have HK2 := hid ((Keep.refl w).drew)
  generalize w.drew = w2 at *
  clear HO
  repeat (first
    | (refine wpL_read (by rfl) (by rfl) ?_ ?_ ?_; rotate_left; (rintro w ⟨z0, z1⟩; go_simp; with_reducible rfl); simp only [Act.put, List.setIfInBounds_toArray, List.set_cons_zero, List.set_cons_succ]) | (refine wpL_skip (by rfl) ?_; simp only [Act.put, List.setIfInBounds_toArray, List.set_cons_zero, List.set_cons_succ]))
  refine wpL_nil ?_
  refine wpOp_last rfl (by rfl) ?_
  go_simp
  rw [HW.out]
  refine (cDrop dv most _ T q ((T.length : Int) - most) w2 L (by have := HB.out; omega) HB.out.2.1 HB.out.2.2 HO2.out).mono ?_
  rintro e w3 ⟨rfl, ⟨v3, h3⟩, k3⟩
  have HO3 := hid h3
  have HK3 := hid (HK2.out.trans k3)
  clear h3 k3 HO2 HK2
  try dsimp only
  go_wp2_with fail
  go_end0
  exact ⟨rfl, ⟨v3, HO3.out⟩, HK3.out⟩
end Go.Proofs.Ytajlikakbihgbaa
