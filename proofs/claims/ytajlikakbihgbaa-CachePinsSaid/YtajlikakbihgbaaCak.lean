/- A CACHE's CALLS, its bytes alone. -/
import Derived.Test.YtajlikakbihgbaaCan
namespace Go.Proofs.Ytajlikakbihgbaa
open Go.RowKit Go.Own Go.Ch Go.Dk
/-- A cache at block q, of the disk dv: what it holds. -/
def Cch (q : Nat) (dv : Value) (most : Int) (K : List Hb) : HP := ex fun v : Value => ex fun T : List Hd => ex fun B : Txs => star [fact (T.map Hd.hb = K ∧ ∀ x ∈ T, x.t ∈ B), pt q (.cells (caC dv most v) 70), row v 76 4 T.length (hcells T), poolc 5 B]
theorem cch_iff {w : World} {L : List HP} {q : Nat} {dv : Value} {most : Int} {K : List Hb} : Has w (Cch q dv most K :: L) ↔ ∃ v T B, (T.map Hd.hb = K ∧ ∀ x ∈ T, x.t ∈ B) ∧ Has w (pt q (.cells (caC dv most v) 70) :: row v 76 4 T.length (hcells T) :: poolc 5 B :: L) := by
  unfold Cch
  simp only [Has.ex_iff, Has.star_iff, List.cons_append, List.nil_append, Has.fact_iff]
theorem one1_of {w : World} {L : List HP} {T : List Hd} {B : Txs} (h : Has w (poolc 5 B :: L)) (hB : ∀ x ∈ T, x.t ∈ B) : one1 T := fun x hx => by
  obtain ⟨p, c, e, -⟩ := (h.pool_rd (hB x hx)).form
  exact ⟨p, _, c, e⟩
/-- A sector is put in whose text lies about. -/
theorem kNewestB (dv : Value) (most : Int) (v : Value) (T : List Hd) (B : Txs) (h : Hd) (q : Nat) (w : World) (L : List HP) (hm : 0 ≤ most ∧ most ≤ 1000000) (hl : T.length ≤ 10000) (hB : ∀ x ∈ T, x.t ∈ B) (hh : h.t ∈ B)
    (hO : Has w (pt q (.cells (caC dv most v) 70) :: row v 76 4 T.length (hcells T) :: poolc 5 B :: L)) :
    Calls Try.prog 31 #[.pointer (some ⟨q, 0, none⟩), hdV h] w fun e w' => e = .returned (.tuple #[]) ∧ (∃ v' T', (∀ x ∈ T', x.t ∈ B) ∧ T'.map Hd.hb = newK most (T.map Hd.hb) h.hb ∧ Has w' (pt q (.cells (caC dv most v') 70) :: row v' 76 4 T'.length (hcells T') :: poolc 5 B :: L)) ∧ Keep w w' := by
  obtain ⟨ha, ⟨hv, hb⟩, hd, hp⟩ := h
  obtain ⟨p, c, ev, -⟩ := ((hO.p2).pool_rd hh).form
  dsimp only at ev
  subst ev
  refine (cNewest dv most v T ha p _ c hb hd hp q w _ hm hl (one1_of hO.p2 hB) hO).mono ?_
  rintro e w' ⟨h1, ⟨v', h2⟩, h3⟩
  refine ⟨h1, ⟨v', _, ?_, newT_map .., h2⟩, h3⟩
  intro x hx
  rcases newT_mem hx with hx | hx
  · exact hB x hx
  · rw [hx]; exact hh
/-- .. whose text is its own. -/
theorem kNewest (dv : Value) (most : Int) (K : List Hb) (a : Int) (bv : Value) (bs : List Int) (di pi : Bool) (q : Nat) (w : World) (L : List HP) (hm : 0 ≤ most ∧ most ≤ 1000000) (hl : K.length ≤ 10000) (hO : Has w (Bytes bv bs :: Cch q dv most K :: L)) :
    Calls Try.prog 31 #[.pointer (some ⟨q, 0, none⟩), .agg #[.int .i64 a, bv, .bool di, .bool pi]] w fun e w' => e = .returned (.tuple #[]) ∧ Has w' (Cch q dv most (newK most K ⟨a, bs, di, pi⟩) :: L) ∧ Keep w w' := by
  obtain ⟨v, T, B, ⟨rfl, hB⟩, h2⟩ := cch_iff.1 hO.p1
  have h3 : Has w (Bytes bv bs :: poolc 5 B :: pt q (.cells (caC dv most v) 70) :: row v 76 4 T.length (hcells T) :: L) := h2.re 4 [3, 2, 0, 1]
  have h4 : Has w (pt q (.cells (caC dv most v) 70) :: row v 76 4 T.length (hcells T) :: poolc 5 ((bv, bs) :: B) :: L) := h3.pool_add.re 3 [1, 2, 0]
  refine (kNewestB dv most v T ((bv, bs) :: B) ⟨a, ⟨bv, bs⟩, di, pi⟩ q w L hm (by simpa using hl) (fun x hx => List.mem_cons_of_mem _ (hB x hx)) List.mem_cons_self h4).mono ?_
  rintro e w' ⟨h5, ⟨v', T', h6, h7, h8⟩, h9⟩
  exact ⟨h5, cch_iff.2 ⟨v', T', _, ⟨h7, h6⟩, h8⟩, h9⟩
set_option maxRecDepth 100000 in
set_option maxHeartbeats 4000000 in
theorem kcNew (d : Value) (dp : Addr) (hd : d = .pointer (some dp)) (most : Int) (w : World) (L : List HP) (hm : 1 ≤ most) (hO : Has w L) :
    Calls Try.prog 9 #[d, .int .i64 most] w fun e w' => ∃ q, e = .returned (.pointer (some ⟨q, 0, none⟩)) ∧ Has w' (Cch q d most [] :: L) ∧ Keep w w' := by
  subst hd
  have HO := hid (hO.alloc (.cells (caC (.pointer (some dp)) most (.slice none 0 0)) 70))
  have HK := hid ((Keep.refl w).alloc (.cells (caC (.pointer (some dp)) most (.slice none 0 0)) 70))
  have hm1 : ¬ most < 1 := by omega
  clear hO hm
  unfold caC at HO HK
  go_enter Try.func9, Try.ntmps9
  go_wp2_with fail
  go_ret
  exact ⟨_, rfl, cch_iff.2 ⟨_, [], [], ⟨rfl, by simp⟩, ((HO.out.pool_nil).row_nil _ _).re 3 [2, 0, 1]⟩, HK.out⟩
set_option maxRecDepth 100000 in
set_option maxHeartbeats 4000000 in
theorem kcNewNil (d : Value) (most : Int) (w : World) (h : d = .pointer none ∨ (most < 1 ∧ ∃ dp, d = .pointer (some dp))) : Calls Try.prog 9 #[d, .int .i64 most] w fun e w' => e = .returned (.pointer none) ∧ w = w' := by
  rcases h with rfl | ⟨hm, dp, rfl⟩
  · go_enter Try.func9, Try.ntmps9
    go_wp2_with fail
    go_ret
    exact ⟨rfl, rfl⟩
  · go_enter Try.func9, Try.ntmps9
    go_wp2_with fail
    go_ret
    exact ⟨rfl, rfl⟩
set_option maxRecDepth 100000 in
set_option maxHeartbeats 4000000 in
/-- Drop. -/
theorem kcDrop (q : Nat) (dv : Value) (most : Int) (K : List Hb) (m : Int) (w : World) (L : List HP) (hm : m ≤ 1000000000) (hl : K.length ≤ 10000) (hO : Has w (Cch q dv most K :: L)) :
    Calls Try.prog 14 #[.pointer (some ⟨q, 0, none⟩), .int .i64 m] w fun e w' => e = .returned (.int .i64 ((K.length : Int) - ((dropG Hb.stay m K).2.length : Int))) ∧ Has w' (Cch q dv most (dropG Hb.stay m K).2 :: L) ∧ Keep w w' := by
  obtain ⟨v, T, B, ⟨rfl, hB⟩, h2⟩ := cch_iff.1 hO
  have HD := hid (cDrop dv most v T q m w _ hm (by simp at hl; omega) (one1_of h2.p2 hB) h2)
  have HB := hid hB
  clear hO h2 hm hl
  go_enter Try.func14, Try.ntmps14
  go_wp2_with fail
  refine HD.out.mono ?_
  rintro e w2 ⟨rfl, ⟨v2, h2⟩, k2⟩
  have HO2 := hid h2
  have HK2 := hid k2
  clear h2 k2
  try dsimp only
  go_wp2_with fail
  go_ret
  rw [drop_map, List.length_map, List.length_map]
  exact ⟨rfl, cch_iff.2 ⟨v2, _, B, ⟨rfl, fun x hx => HB.out x (dropG_mem _ _ _ x hx)⟩, HO2.out⟩, HK2.out⟩
end Go.Proofs.Ytajlikakbihgbaa
