/- TEXTS of mine, merged. -/
import Derived.Test.YtajlikakbihgbaaM13
/- THE REFERENCE's CACHE: List, Dirties. -/
namespace Go.Proofs.Ytajlikakbihgbaa
open Go.RowKit Go.Own Go.Ch Go.Dk
set_option maxRecDepth 100000 in
set_option maxHeartbeats 4000000 in
theorem rcList (q : Nat) (dv : Value) (most : Int) (K : List Hb) (w : World) (L : List HP) (hl : K.length ≤ 9000) (hO : Has w (Rcc q dv most K :: L)) :
    Calls Try.prog 25 #[.pointer (some ⟨q, 0, none⟩)] w fun e w' => ∃ v, e = .returned v ∧ Has w' (Ints v (K.map Hb.at_) :: Rcc q dv most K :: L) ∧ Keep w w' := by
  obtain ⟨v, T, B, ⟨rfl, hB⟩, h2⟩ := rcc_iff.1 hO
  obtain ⟨p, c, rfl, -, -, hcs⟩ := h2.p1.rd.form
  have HB := hid hB
  have HCS := hid hcs
  have HL := hid (show T.length ≤ 9000 by simpa using hl)
  have hi2 : (T.length : Int) ≤ 10000 := by have := HL.out; omega
  have HO := hid (show Has w (Ints (.slice none 0 0) ((T.take 0).map Hd.at_) :: rC q dv most (.slice p T.length c) :: rRow (.slice p T.length c) T :: poolc 5 B :: L) from h2.row_nil _ 1)
  have HK := hid (Keep.refl w)
  clear hO h2 hB hl hcs
  go_enter Try.func25, Try.ntmps25
  go_wp2_with fail
  go_loopw [3, 4] (fun s i w' => ∃ k : Nat, k ≤ T.length ∧ i = .int .i64 k ∧ Hid (Has w' (Ints s ((T.take k).map Hd.at_) :: rC q dv most (.slice p T.length c) :: rRow (.slice p T.length c) T :: poolc 5 B :: L)) ∧ Hid (Keep w w')) (fun _ i _ => T.length - (intOf i).toNat)
  case atStart => exact ⟨0, by omega, rfl, HO, HK⟩
  case round =>
    clear HO HK
    obtain ⟨k, hk, rfl, HO, HK⟩ := hrel
    have hq := HO.out.p1.cells
    unfold caC at hq
    obtain ⟨p6, c6, e6, -⟩ := (Ints.rd HO.out).form
    subst e6
    by_cases hlt : k < T.length
    · have hki : (k : Int) < (T.length : Int) := by omega
      have hk0 : (0 : Int) ≤ (k : Int) := by omega
      obtain ⟨g, o, rfl, -⟩ := HCS.out (by omega)
      obtain ⟨c0, c1, c2, c3⟩ := hd_cells HO.out.p2.rd k hlt
      have HTK := hid (show (T.take (k + 1)).map Hd.at_ = (T.take k).map Hd.at_ ++ [T[k].at_] by rw [List.take_succ_eq_append_getElem hlt, List.map_append]; rfl)
      have HLK := hid (show ((T.take k).map Hd.at_).length ≤ 9000 by rw [List.length_map, List.length_take]; have := HL.out; omega)
      generalize T[k].at_ = xa at *
      generalize (T.take k).map Hd.at_ = F at *
      have HO2 := hid (HO.out.alloc (.cells #[.int .i64 xa] 3)).p1
      have HK2 := hid (HK.out.alloc (.cells #[.int .i64 xa] 3))
      have hcx := HO2.out.p1.cells 0
      have HLT := hid hlt
      clear hlt hk HO HK c1 c2 c3
      go_wp2_with (at_builtin; refine wpList_append1 rfl _ _ _ rfl Try.underlying22 infoInt rfl (.int .i64 xa) HO2.out rfl 1 wr.heap.size rfl hcx rfl (le_maxLen (by have := HLK.out; omega)) (by have := HLK.out; omega) ?_; intro v5 w5 h5 k5)
      have HO5 := hid (show Has w5 (Ints v5 (F ++ [xa]) :: rC q dv most (.slice (some ⟨g, o, none⟩) T.length c) :: rRow (.slice (some ⟨g, o, none⟩) T.length c) T :: poolc 5 B :: L) from by
        have h6 : Has w5 (Ints v5 (F ++ [xa]) :: pt wr.heap.size (.cells #[.int .i64 xa] 3) :: rC q dv most (.slice (some ⟨g, o, none⟩) T.length c) :: rRow (.slice (some ⟨g, o, none⟩) T.length c) T :: poolc 5 B :: L) := by
          unfold Ints
          rw [ic_snoc, List.length_append]
          exact h5
        exact h6.re 2 [0])
      have HK5 := hid (HK2.out.trans k5)
      clear h5 k5 HO2 HK2 hcx hq c0
      go_wp2_with fail
      exact ⟨⟨k + 1, by have := HLT.out; omega, by go_num, by rw [HTK.out]; exact HO5, HK5⟩, by have := HLT.out; simp [intOf]; omega⟩
    · obtain rfl : k = T.length := by omega
      have hki : ¬ (T.length : Int) < (T.length : Int) := by omega
      rw [List.take_length] at HO ⊢
      clear hlt hk
      go_wp2_with fail
      go_ret
      refine ⟨_, rfl, ?_, HK.out⟩
      have h9 := HO.out
      rw [show (T.map Hd.at_).length = T.length by simp] at h9
      exact (show Has wr (Rcc q dv most (T.map Hd.hb) :: Ints (.slice p6 T.length c6) (T.map Hd.at_) :: L) from rcc_iff.2 ⟨_, T, B, ⟨rfl, HB.out⟩, h9.re 4 [1, 2, 3, 0]⟩).p1
def dirtyAt (K : List Hb) (s : Int) : Bool := match find K s with
  | some i => (K[i]?.map Hb.dirty).getD false
  | none => false
def dirS (K : List Hb) (n : Nat) : List Int := ((List.range n).filter fun s => dirtyAt K (s : Nat)).map fun s : Nat => (s : Int)
theorem dirS_succ (K : List Hb) (n : Nat) : dirS K (n + 1) = dirS K n ++ (if dirtyAt K (n : Nat) = true then [(n : Int)] else []) := by
  unfold dirS
  rw [List.range_succ, List.filter_append, List.map_append]
  congr 1
  rw [List.filter_cons]
  cases dirtyAt K (n : Nat) <;> simp
theorem dirS_len (K : List Hb) (n : Nat) : (dirS K n).length ≤ n := by
  unfold dirS
  rw [List.length_map]
  refine Nat.le_trans (List.length_filter_le _ _) ?_
  simp
set_option maxRecDepth 100000 in
set_option maxHeartbeats 4000000 in
theorem rcDirties (q d : Nat) (most : Int) (K : List Hb) (n : Nat) (w : World) (L : List HP) (hl : K.length ≤ 9000) (hn : n ≤ 9000) (hfirm : ∀ w', Has w' L → ∃ p k, w'.cell? ⟨d, 0, none⟩ = some (.slice p n k)) (hO : Has w (Rcc q (rP d) most K :: L)) :
    Calls Try.prog 26 #[.pointer (some ⟨q, 0, none⟩)] w fun e w' => ∃ v, e = .returned v ∧ Has w' (Ints v (dirS K n) :: Rcc q (rP d) most K :: L) ∧ Keep w w' := by
  obtain ⟨v, T, B, ⟨rfl, hB⟩, h2⟩ := rcc_iff.1 hO
  obtain ⟨p, c, rfl, -, -, hcs⟩ := h2.p1.rd.form
  have HB := hid hB
  have HCS := hid hcs
  have HL := hid (show T.length ≤ 9000 by simpa using hl)
  have HN := hid hn
  have HFM := hid hfirm
  have hi2 : (T.length : Int) ≤ 10000 := by have := HL.out; omega
  have hi3 : (n : Int) ≤ 10000 := by have := HN.out; omega
  have HO := hid (show Has w (Ints (.slice none 0 0) (dirS (T.map Hd.hb) 0) :: rC q (rP d) most (.slice p T.length c) :: rRow (.slice p T.length c) T :: poolc 5 B :: L) from h2.row_nil _ 1)
  have HK := hid (Keep.refl w)
  clear hO h2 hB hl hcs hn hfirm
  go_enter Try.func26, Try.ntmps26
  go_wp2_with fail
  go_loopw [3, 4] (fun s i w' => ∃ k : Nat, k ≤ n ∧ i = .int .i64 k ∧ Hid (Has w' (Ints s (dirS (T.map Hd.hb) k) :: rC q (rP d) most (.slice p T.length c) :: rRow (.slice p T.length c) T :: poolc 5 B :: L)) ∧ Hid (Keep w w')) (fun _ i _ => n - (intOf i).toNat)
  case atStart => exact ⟨0, by omega, rfl, HO, HK⟩
  case round =>
    clear HO HK
    obtain ⟨k, hk, rfl, HO, HK⟩ := hrel
    have hq := HO.out.p1.cells
    unfold caC at hq
    have hc0 : wr.cell? ⟨q, 0, none⟩ = some (rP d) := hq 0
    obtain ⟨p2, k2, hf0⟩ := HFM.out wr (HO.out.drop.drop.drop.drop)
    obtain ⟨p6, c6, e6, -⟩ := (Ints.rd HO.out).form
    subst e6
    by_cases hlt : k < n
    · have hki : (k : Int) < (n : Int) := by omega
      have hk0 : (0 : Int) ≤ (k : Int) := by omega
      have HSU := hid (dirS_succ (T.map Hd.hb) k)
      have HLK := hid (show (dirS (T.map Hd.hb) k).length ≤ 9000 from Nat.le_trans (dirS_len _ _) (by have := HN.out; omega))
      have HLT := hid hlt
      have HF := hid (rcAt q (rP d) most (.slice p T.length c) T B k wr _ (by have := HL.out; omega) (HO.out.re 4 [1, 2, 3, 0]))
      have HDA := hid (show dirtyAt (T.map Hd.hb) (k : Nat) = dirtyAt (T.map Hd.hb) (k : Nat) from rfl)
      generalize dirS (T.map Hd.hb) k = F at *
      rcases hfi : find (T.map Hd.hb) (k : Int) with _ | i
      · have HD := hid (show dirS (T.map Hd.hb) (k + 1) = F by rw [HSU.out, show dirtyAt (T.map Hd.hb) (k : Nat) = false by unfold dirtyAt; rw [hfi]]; simp)
        rw [hfi] at HF
        simp only [atN] at HF
        clear hlt hk hfi HSU HDA
        go_wp2_with fail
        refine HF.out.mono ?_
        rintro e w' ⟨rfl, rfl⟩
        try dsimp only
        go_wp2_with fail
        exact ⟨⟨k + 1, by have := HLT.out; omega, by go_num, by rw [HD.out]; exact HO, HK⟩, by have := HLT.out; simp [intOf]; omega⟩
      · obtain ⟨hiK, -⟩ := find_lt hfi
        have hiT : i < T.length := by simpa using hiK
        have HDI := hid (show dirtyAt (T.map Hd.hb) (k : Nat) = T[i].dirty by
          unfold dirtyAt
          rw [hfi]
          simp [hiT, Hd.hb])
        rw [HDI.out] at HSU
        rw [hfi] at HF
        simp only [atN] at HF
        have hi0 : (0 : Int) ≤ (i : Int) := by omega
        have hi1 : (i : Int) < (T.length : Int) := by omega
        obtain ⟨g, o, rfl, -⟩ := HCS.out (by omega)
        obtain ⟨c0, c1, c2, c3⟩ := hd_cells HO.out.p2.rd i hiT
        clear hlt hk hfi HDA HDI c0 c1 c3 hiK
        rcases hdi : T[i].dirty with _ | _
        · rw [hdi] at c2 HSU
          have HD := hid (show dirS (T.map Hd.hb) (k + 1) = F by rw [HSU.out]; simp)
          clear hdi HSU
          go_wp2_with fail
          refine HF.out.mono ?_
          rintro e w' ⟨rfl, rfl⟩
          try dsimp only
          go_wp2_with fail
          exact ⟨⟨k + 1, by have := HLT.out; omega, by go_num, by rw [HD.out]; exact HO, HK⟩, by have := HLT.out; simp [intOf]; omega⟩
        · rw [hdi] at c2 HSU
          have HD := hid (show dirS (T.map Hd.hb) (k + 1) = F ++ [(k : Int)] by rw [HSU.out]; simp)
          have HO2 := hid (HO.out.alloc (.cells #[.int .i64 k] 3)).p1
          have HK2 := hid (HK.out.alloc (.cells #[.int .i64 k] 3))
          have hcx := HO2.out.p1.cells 0
          clear hdi HSU
          go_wp2_with fail
          refine HF.out.mono ?_
          rintro e w' ⟨rfl, rfl⟩
          try dsimp only
          clear HO HK
          go_wp2_with (at_builtin; refine wpList_append1 rfl _ _ _ rfl Try.underlying22 infoInt rfl (.int .i64 k) HO2.out rfl 1 wr.heap.size rfl hcx rfl (le_maxLen (by have := HLK.out; omega)) (by have := HLK.out; omega) ?_; intro v5 w5 h5 k5)
          have HO5 := hid (show Has w5 (Ints v5 (F ++ [(k : Int)]) :: rC q (rP d) most (.slice (some ⟨g, o, none⟩) T.length c) :: rRow (.slice (some ⟨g, o, none⟩) T.length c) T :: poolc 5 B :: L) from by
            have h6 : Has w5 (Ints v5 (F ++ [(k : Int)]) :: pt wr.heap.size (.cells #[.int .i64 k] 3) :: rC q (rP d) most (.slice (some ⟨g, o, none⟩) T.length c) :: rRow (.slice (some ⟨g, o, none⟩) T.length c) T :: poolc 5 B :: L) := by
              unfold Ints
              rw [ic_snoc, List.length_append]
              exact h5
            exact h6.re 2 [0])
          have HK5 := hid (HK2.out.trans k5)
          clear h5 k5 HO2 HK2 hcx hq c2 HF hc0 hf0
          go_wp2_with fail
          exact ⟨⟨k + 1, by have := HLT.out; omega, by go_num, by rw [HD.out]; exact HO5, HK5⟩, by have := HLT.out; simp [intOf]; omega⟩
    · obtain rfl : n = k := by omega
      have hki : ¬ (n : Int) < (n : Int) := by omega
      clear hlt hk
      go_wp2_with fail
      go_ret
      refine ⟨_, rfl, ?_, HK.out⟩
      exact (show Has wr (Rcc q (rP d) most (T.map Hd.hb) :: Ints _ (dirS (T.map Hd.hb) n) :: L) from rcc_iff.2 ⟨_, T, B, ⟨rfl, HB.out⟩, HO.out.re 4 [1, 2, 3, 0]⟩).p1
end Go.Proofs.Ytajlikakbihgbaa
/- A CACHE under acts, plain: what both do is one. -/
namespace Go.Proofs.Ytajlikakbihgbaa
open Go.RowKit Go.Own Go.Ch Go.Dk
theorem strict_ext : ∀ {l m : List Int}, l.Pairwise (· < ·) → m.Pairwise (· < ·) → (∀ x, x ∈ l ↔ x ∈ m) → l = m
  | [], [], _, _, _ => rfl
  | [], y :: m, _, _, h => absurd ((h y).2 (List.mem_cons_self ..)) (by simp)
  | x :: l, [], _, _, h => absurd ((h x).1 (List.mem_cons_self ..)) (by simp)
  | x :: l, y :: m, hl, hm, h => by
    rw [List.pairwise_cons] at hl hm
    have hxy : x = y := by
      rcases List.mem_cons.1 ((h x).1 (List.mem_cons_self ..)) with e | e
      · exact e
      · rcases List.mem_cons.1 ((h y).2 (List.mem_cons_self ..)) with e2 | e2
        · exact e2.symm
        · have := hm.1 x e; have := hl.1 y e2; omega
    subst hxy
    rw [strict_ext hl.2 hm.2 fun z => ?_]
    constructor
    · intro hz
      rcases List.mem_cons.1 ((h z).1 (List.mem_cons_of_mem _ hz)) with e | e
      · have := hl.1 z hz; omega
      · exact e
    · intro hz
      rcases List.mem_cons.1 ((h z).2 (List.mem_cons_of_mem _ hz)) with e | e
      · have := hm.1 z hz; omega
      · exact e
theorem nodup_len {l : List Int} : ∀ {l' : List Int}, l.Nodup → (∀ x ∈ l, x ∈ l') → l.length ≤ l'.length := by
  induction l with
  | nil => intro l' _ _; simp
  | cons x l ih =>
    intro l' hn hs
    rw [List.nodup_cons] at hn
    have hx : x ∈ l' := hs x (by simp)
    have h1 := ih (l' := l'.erase x) hn.2 fun y hy => by
      have hne : y ≠ x := by rintro rfl; exact hn.1 hy
      exact (List.mem_erase_of_ne hne).2 (hs y (by simp [hy]))
    rw [List.length_erase_of_mem hx] at h1
    have : 0 < l'.length := List.length_pos_of_mem hx
    simp only [List.length_cons]
    omega
theorem dropG_cnt {α : Type} (st : α → Bool) (m : Int) (K : List α) : (K.length : Int) = (dropG st m K).2.length + (m - (dropG st m K).1) ∧ ((dropG st m K).1 ≤ 0 ∨ ∀ x ∈ (dropG st m K).2, st x = true) ∧ (dropG st m K).2.Sublist K := by
  induction K generalizing m with
  | nil => simp [dropG]
  | cons x K ih =>
    rw [show x :: K = [x] ++ K from rfl, dropG_append, dropG_one]
    by_cases h : m ≤ 0 ∨ st x = true
    · rw [if_pos h]
      obtain ⟨h1, h2, h3⟩ := ih m
      dsimp only
      refine ⟨by simp only [List.length_append, List.length_singleton, Int.natCast_add]; omega, ?_, List.Sublist.append (List.Sublist.refl _) h3⟩
      rcases h with h | h
      · have := dropG_num st m K
        exact .inl (by omega)
      · refine h2.imp id fun h4 y hy => ?_
        rcases List.mem_append.1 hy with hy | hy
        · rw [List.mem_singleton] at hy; rw [hy]; exact h
        · exact h4 y hy
    · rw [if_neg h]
      obtain ⟨h1, h2, h3⟩ := ih (m - 1)
      dsimp only
      refine ⟨by simp only [List.length_append, List.length_singleton, List.nil_append, Int.natCast_add]; omega, h2, ?_⟩
      rw [List.nil_append]
      exact h3.trans (List.sublist_append_right _ _)
structure CI (most : Int) (n : Nat) (K : List Hb) : Prop where
  nodup : (K.map Hb.at_).Nodup
  rng : ∀ x ∈ K, 0 ≤ x.at_ ∧ x.at_ < n
  len : ∀ x ∈ K, x.b.length ≤ 1000
  set : (K.length : Int) ≤ most ∨ ∀ x ∈ K, x.stay = true
section
variable {most : Int} {n : Nat} {K : List Hb} {a : Int} {i : Nat}
theorem CI.short (h : CI most n K) : K.length ≤ n := by
  have h1 := nodup_len h.nodup (l' := (List.range n).map fun j : Nat => (j : Int)) fun x hx => by
    obtain ⟨y, hy, rfl⟩ := List.mem_map.1 hx
    have := h.rng y hy
    rw [List.mem_map]
    exact ⟨y.at_.toNat, by rw [List.mem_range]; omega, by omega⟩
  simpa using h1
theorem find_not {K : List Hb} {a : Int} (h : find K a = none) : a ∉ K.map Hb.at_ := by
  unfold find at h
  rw [List.findIdx?_eq_none_iff] at h
  intro hm
  obtain ⟨x, hx, rfl⟩ := List.mem_map.1 hm
  have := h x hx
  simp at this
theorem filt_not {A : List Hb} (h : a ∉ A.map Hb.at_) : A.filter (fun x => x.at_ != a) = A := by
  rw [List.filter_eq_self]
  intro x hx
  simp only [bne_iff_ne]
  rintro rfl
  exact h (List.mem_map_of_mem (f := Hb.at_) hx)
theorem filt_erase (h : (K.map Hb.at_).Nodup) (hf : find K a = some i) : K.filter (fun x => x.at_ != a) = K.eraseIdx i := by
  obtain ⟨hi, ha⟩ := find_lt hf
  rw [List.eraseIdx_eq_take_drop_succ]
  have e : K = K.take i ++ K[i] :: K.drop (i + 1) := by simp
  rw [e, List.map_append, List.map_cons] at h
  obtain ⟨-, h2, h3⟩ := List.nodup_append.1 h
  rw [ha] at h2 h3
  have n1 : a ∉ (K.take i).map Hb.at_ := fun hm => h3 a hm a (by simp) rfl
  have n2 : a ∉ (K.drop (i + 1)).map Hb.at_ := (List.nodup_cons.1 h2).1
  conv => lhs; rw [e]
  rw [List.filter_append, List.filter_cons, filt_not n1, filt_not n2, ha]
  simp
theorem put_add (h : (K.map Hb.at_).Nodup) (b : List Int) (d p p' : Bool) (hp : match find K a with | some i => ((K[i]?).map Hb.pin).getD false = p | none => p = p') : putK K ⟨a, b, d, p⟩ = addK K ⟨a, b, d, p'⟩ := by
  unfold putK addK
  dsimp only
  cases hf : find K a with
  | none =>
    rw [hf] at hp
    dsimp only at hp ⊢
    rw [filt_not (find_not hf), hp]
  | some i =>
    rw [hf] at hp
    dsimp only at hp ⊢
    rw [filt_erase h hf, hp]
theorem CI.put (h : CI most n K) (ha : 0 ≤ a ∧ a < n) (b : List Int) (hb : b.length ≤ 1000) (d p : Bool) : ((putK K ⟨a, b, d, p⟩).map Hb.at_).Nodup ∧ (∀ x ∈ putK K ⟨a, b, d, p⟩, 0 ≤ x.at_ ∧ x.at_ < n) ∧ ∀ x ∈ putK K ⟨a, b, d, p⟩, x.b.length ≤ 1000 := by
  unfold putK
  dsimp only
  refine ⟨?_, ?_, ?_⟩
  · rw [List.map_append, List.nodup_append]
    refine ⟨h.nodup.sublist (List.Sublist.map _ List.filter_sublist), by simp, ?_⟩
    intro x hx y hy
    simp only [List.map_cons, List.map_nil, List.mem_singleton] at hy
    subst hy
    obtain ⟨z, hz, rfl⟩ := List.mem_map.1 hx
    simpa using (List.mem_filter.1 hz).2
  · intro x hx
    rcases List.mem_append.1 hx with hx | hx
    · exact h.rng x (List.mem_filter.1 hx).1
    · rw [List.mem_singleton] at hx; subst hx; exact ha
  · intro x hx
    rcases List.mem_append.1 hx with hx | hx
    · exact h.len x (List.mem_filter.1 hx).1
    · rw [List.mem_singleton] at hx; subst hx; exact hb
theorem CI.settle {K : List Hb} (h1 : (K.map Hb.at_).Nodup) (h2 : ∀ x ∈ K, 0 ≤ x.at_ ∧ x.at_ < n) (h3 : ∀ x ∈ K, x.b.length ≤ 1000) : CI most n (settleK most K) := by
  obtain ⟨c1, c2, c3⟩ := dropG_cnt Hb.stay ((K.length : Int) - most) K
  refine ⟨h1.sublist (c3.map _), fun x hx => h2 x (c3.subset hx), fun x hx => h3 x (c3.subset hx), ?_⟩
  unfold settleK
  exact c2.imp (fun h => by omega) id
theorem CI.drop (h : CI most n K) (m : Int) : CI most n (dropG Hb.stay m K).2 := by
  obtain ⟨c1, c2, c3⟩ := dropG_cnt Hb.stay m K
  refine ⟨h.nodup.sublist (c3.map _), fun x hx => h.rng x (c3.subset hx), fun x hx => h.len x (c3.subset hx), ?_⟩
  rcases h.set with h4 | h4
  · have := dropG_le Hb.stay m K
    exact .inl (by omega)
  · exact .inr fun x hx => h4 x (c3.subset hx)
theorem CI.same (h : CI most n K) : settleK most K = K := by
  unfold settleK
  rw [dropG_none]
  exact h.set.imp (fun h => by omega) id
theorem CI.setAt (h : CI most n K) (hi : i < K.length) (d p : Bool) : CI most n (settleK most (K.set i ⟨K[i].at_, K[i].b, d, p⟩)) := by
  have hm : (K.set i ⟨K[i].at_, K[i].b, d, p⟩).map Hb.at_ = K.map Hb.at_ := by
    rw [List.map_set]
    refine List.ext_getElem? fun j => ?_
    rw [List.getElem?_set]
    split
    · rename_i e; subst e
      simp [hi]
    · rfl
  refine CI.settle (by rw [hm]; exact h.nodup) (fun x hx => ?_) (fun x hx => ?_)
  · rcases List.mem_or_eq_of_mem_set hx with hx | rfl
    · exact h.rng x hx
    · exact h.rng K[i] (List.getElem_mem hi)
  · rcases List.mem_or_eq_of_mem_set hx with hx | rfl
    · exact h.len x hx
    · exact h.len K[i] (List.getElem_mem hi)
theorem find_some_of (h : (K.map Hb.at_).Nodup) {x : Hb} (hx : x ∈ K) : ∃ i, find K x.at_ = some i ∧ K[i]? = some x := by
  cases hf : find K x.at_ with
  | none => exact absurd (List.mem_map_of_mem (f := Hb.at_) hx) (find_not hf)
  | some i =>
    obtain ⟨hi, ha⟩ := find_lt hf
    refine ⟨i, rfl, ?_⟩
    rw [List.getElem?_eq_getElem hi]
    obtain ⟨j, hj, rfl⟩ := List.getElem_of_mem hx
    have : i = j := (List.getElem?_inj (l := K.map Hb.at_) (by simpa using hi) h).1 (by rw [List.getElem?_map, List.getElem?_map, List.getElem?_eq_getElem hi, List.getElem?_eq_getElem hj]; simp [ha])
    subst this
    rfl
theorem CI.dirty (h : CI most n K) : sorted (dirts K) = dirS K n := by
  refine strict_ext ?_ ?_ fun x => ?_
  · have hn : (dirts K).Nodup := h.nodup.sublist (List.Sublist.map _ List.filter_sublist)
    have h3 : (sorted (dirts K)).Pairwise (fun x y => decide (x ≤ y) = true) := List.pairwise_mergeSort (fun a b c => by simp; omega) (fun a b => by simp; omega) _
    have h4 := (List.mergeSort_perm (dirts K) (fun a b => decide (a ≤ b))).nodup_iff.2 hn
    exact List.Pairwise.imp₂ (fun a b h5 (h6 : a ≠ b) => by simp at h5; omega) h3 h4
  · unfold dirS
    refine List.Pairwise.map _ (R := (· < ·)) (fun a b h => by omega) ?_
    exact List.Pairwise.sublist List.filter_sublist List.pairwise_lt_range
  · rw [show (x ∈ sorted (dirts K)) ↔ x ∈ dirts K from (List.mergeSort_perm (dirts K) _).mem_iff]
    unfold dirts dirS
    simp only [List.mem_map, List.mem_filter, List.mem_range]
    constructor
    · rintro ⟨y, ⟨hy, hd⟩, rfl⟩
      have hr := h.rng y hy
      obtain ⟨i, hf, hk⟩ := find_some_of h.nodup hy
      refine ⟨y.at_.toNat, ⟨by omega, ?_⟩, by omega⟩
      have e : ((y.at_.toNat : Nat) : Int) = y.at_ := by omega
      unfold dirtyAt
      rw [e, hf]
      simp [hk, hd]
    · rintro ⟨s, ⟨hs, hd⟩, rfl⟩
      unfold dirtyAt at hd
      split at hd
      · rename_i i hf
        obtain ⟨hi, ha⟩ := find_lt hf
        rw [List.getElem?_eq_getElem hi] at hd
        exact ⟨K[i], ⟨List.getElem_mem hi, by simpa using hd⟩, ha⟩
      · cases hd
end
theorem read_there {E : Bk} {a : Int} (h : (E.read a).1 = 0) : 0 ≤ a ∧ a < E.firm.length := by
  unfold Bk.read at h
  split at h
  · rename_i h1
    exact absurd h h1
  · rename_i h1
    rw [Classical.not_not] at h1
    unfold Bk.asked at h1
    split at h1
    · split at h1
      · rename_i h2
        unfold Bk.there at h2
        simpa using h2
      · cases h1
    · cases h1
def getC (most : Int) (K : List Hb) (E : Bk) (a : Int) : List Hb :=
  match find K a with
  | some i => (match K[i]? with | some h => newK most K h | none => K)
  | none => if (E.read a).1 = 0 then newK most K ⟨a, (E.read a).2, false, false⟩ else K
def putC (most : Int) (K : List Hb) (n : Nat) (a : Int) (b : List Int) : List Hb := if 0 ≤ a ∧ a < n then newK most K ⟨a, b, true, false⟩ else K
def pinC (most : Int) (K : List Hb) (a : Int) (on : Bool) : List Hb :=
  match find K a with
  | some i => (match K[i]? with | some h => settleK most (K.set i ⟨h.at_, h.b, h.dirty, on⟩) | none => K)
  | none => K
def cleanC (most : Int) (K : List Hb) (E : Bk) (a : Int) : List Hb × Bk :=
  match find K a with
  | some i => (match K[i]? with
    | some h => if h.dirty then (if (E.write a h.b).1 = 0 then settleK most (K.set i ⟨h.at_, h.b, false, h.pin⟩) else K, (E.write a h.b).2) else (K, E)
    | none => (K, E))
  | none => (K, E)
def stepC (most : Int) (K : List Hb) (E : Bk) (do_ a m : Int) (on : Bool) : List Hb × Bk :=
  if do_ = 0 then (getC most K E a, E) else if do_ = 1 then (putC most K E.firm.length a (fill m 128), E) else if do_ = 2 then (pinC most K a on, E) else if do_ = 3 then cleanC most K E a
  else if do_ = 4 then ((dropG Hb.stay (m.tmod 9) K).2, E) else if do_ = 5 then (K, if on then E.boot.2 else E.crash []) else (K, E)
end Go.Proofs.Ytajlikakbihgbaa
/- A CACHE and the reference's: each call of both in the same words. -/
namespace Go.Proofs.Ytajlikakbihgbaa
open Go.RowKit Go.Own Go.Ch Go.Dk
def getR (K : List Hb) (E : Bk) (a : Int) : Int := match find K a with | some _ => 0 | none => (E.read a).1
def getB (K : List Hb) (E : Bk) (a : Int) : List Int := match find K a with | some i => ((K[i]?).map Hb.b).getD [] | none => (E.read a).2
theorem read_err {E : Bk} {a : Int} (h : (E.read a).1 ≠ 0) : (E.read a).2 = [] := by
  unfold Bk.read at h ⊢
  split
  · rfl
  · rename_i h1
    rw [if_neg h1] at h
    exact absurd rfl h
section
variable {q d : Nat} {most : Int} {K : List Hb} {E : Bk} {a : Int} {w : World} {L : List HP}
theorem pGet (hI : CI most E.firm.length K) (hm : 0 ≤ most ∧ most ≤ 1000000) (hn : E.firm.length ≤ 2000) (hw : E.waits.length ≤ 1000000) (hb : (E.read a).2.length ≤ 1000) (hO : Has w (Cch q (dP d) most K :: Dk d E :: L)) :
    Calls Try.prog 15 #[.pointer (some ⟨q, 0, none⟩), .int .i64 a] w fun e w' => ∃ v', e = .returned (.tuple #[v', .int .i64 (getR K E a)]) ∧ Has w' (Bytes v' (getB K E a) :: Cch q (dP d) most (getC most K E a) :: Dk d E :: L) ∧ Keep w w' := by
  have hl := hI.short
  unfold getR getB getC
  cases hf : find K a with
  | some i =>
    obtain ⟨hi, -⟩ := find_lt hf
    dsimp only
    rw [List.getElem?_eq_getElem hi]
    exact kcGetHit q d most K a i w _ hm (by omega) hI.len hf hi hO
  | none =>
    dsimp only
    by_cases he : (E.read a).1 = 0
    · rw [if_pos he]
      refine (kcGetMiss q d most K E a w L hm (by omega) (by omega) hf he hb hO).mono ?_
      rintro e w' ⟨v', rfl, h1, h2⟩
      rw [he]
      exact ⟨v', rfl, h1, h2⟩
    · rw [if_neg he]
      refine (kcGetErr q d most K E a w L (by omega) (by omega) hf he hO).mono ?_
      rintro e w' ⟨rfl, h1, h2⟩
      rw [read_err he]
      exact ⟨_, rfl, h1.row_nil _ _, h2⟩
theorem qGet (hI : CI most E.firm.length K) (hm : 0 ≤ most ∧ most ≤ 1000000) (hn : E.firm.length ≤ 2000) (hw : E.waits.length ≤ 1000000) (hb : (E.read a).2.length ≤ 1000) (hO : Has w (Rcc q (rP d) most K :: RDk d E :: L)) :
    Calls Try.prog 43 #[.pointer (some ⟨q, 0, none⟩), .int .i64 a] w fun e w' => ∃ v', e = .returned (.tuple #[v', .int .i64 (getR K E a)]) ∧ Has w' (Bytes v' (getB K E a) :: Rcc q (rP d) most (getC most K E a) :: RDk d E :: L) ∧ Keep w w' := by
  have hl := hI.short
  unfold getR getB getC
  cases hf : find K a with
  | some i =>
    obtain ⟨hi, hia⟩ := find_lt hf
    dsimp only
    rw [List.getElem?_eq_getElem hi]
    have e : putK K K[i] = addK K K[i] := by
      have h := put_add (K := K) (a := K[i].at_) hI.nodup K[i].b K[i].dirty K[i].pin K[i].pin (by
        rw [hia, hf]
        simp [hi])
      exact h
    have h := rcGetHit q (rP d) most K a i w _ hm (by omega) hI.len hf hi hO
    rw [e] at h
    exact h
  | none =>
    dsimp only
    by_cases he : (E.read a).1 = 0
    · rw [if_pos he]
      have e : putK K ⟨a, (E.read a).2, false, false⟩ = addK K ⟨a, (E.read a).2, false, false⟩ := put_add hI.nodup _ _ _ _ (by rw [hf])
      refine (rcGetMiss q d most K E a w L hm (by omega) (by omega) hf he hb hO).mono ?_
      rintro e' w' ⟨v', rfl, h1, h2⟩
      rw [he]
      rw [e] at h1
      exact ⟨v', rfl, h1, h2⟩
    · rw [if_neg he]
      refine (rcGetErr q d most K E a w L (by omega) (by omega) hf he hO).mono ?_
      rintro e w' ⟨rfl, h1, h2⟩
      rw [read_err he]
      exact ⟨_, rfl, h1.row_nil _ _, h2⟩
theorem CI.get (hI : CI most E.firm.length K) (hb : (E.read a).2.length ≤ 1000) : CI most E.firm.length (getC most K E a) := by
  unfold getC
  cases hf : find K a with
  | some i =>
    obtain ⟨hi, hia⟩ := find_lt hf
    dsimp only
    rw [List.getElem?_eq_getElem hi]
    dsimp only
    have e : putK K K[i] = addK K K[i] := put_add (K := K) (a := K[i].at_) hI.nodup K[i].b K[i].dirty K[i].pin K[i].pin (by
        rw [hia, hf]
        simp [hi])
    unfold newK
    rw [← e]
    obtain ⟨h1, h2, h3⟩ := hI.put (a := K[i].at_) (hI.rng _ (List.getElem_mem hi)) K[i].b (hI.len _ (List.getElem_mem hi)) K[i].dirty K[i].pin
    exact CI.settle h1 h2 h3
  | none =>
    dsimp only
    by_cases he : (E.read a).1 = 0
    · rw [if_pos he]
      have e : putK K ⟨a, (E.read a).2, false, false⟩ = addK K ⟨a, (E.read a).2, false, false⟩ := put_add hI.nodup _ _ _ _ (by rw [hf])
      unfold newK
      rw [← e]
      obtain ⟨h1, h2, h3⟩ := hI.put (read_there he) (E.read a).2 hb false false
      exact CI.settle h1 h2 h3
    · rw [if_neg he]
      exact hI
def putE (n : Nat) (a : Int) : Int := if 0 ≤ a ∧ a < n then 0 else 2
theorem pPut (hI : CI most E.firm.length K) (hm : 0 ≤ most ∧ most ≤ 1000000) (hn : E.firm.length ≤ 2000) (v : Value) (xs : List Int) (hx : xs.length = 128) (hr : ∀ w', Has w' L → Rd w' v 1 xs.length (bc xs)) (hO : Has w (Cch q (dP d) most K :: Dk d E :: L)) :
    Calls Try.prog 11 #[.pointer (some ⟨q, 0, none⟩), .int .i64 a, v] w fun e w' => e = .returned (.int .i64 (putE E.firm.length a)) ∧ Has w' (Cch q (dP d) most (putC most K E.firm.length a xs) :: Dk d E :: L) ∧ Keep w w' := by
  have hl := hI.short
  unfold putE putC
  by_cases ha : 0 ≤ a ∧ a < E.firm.length
  · rw [if_pos ha, if_pos ha]
    exact kcPut q d most K E a v xs w L hm (by omega) ha hx hr hO
  · rw [if_neg ha, if_neg ha]
    exact kcPutBad q d most K E a v xs w L ha hx hr hO
theorem qPut (hI : CI most E.firm.length K) (hm : 0 ≤ most ∧ most ≤ 1000000) (hn : E.firm.length ≤ 2000) (v : Value) (xs : List Int) (hx : xs.length = 128) (hr : ∀ w', Has w' L → Rd w' v 1 xs.length (bc xs)) (hO : Has w (Rcc q (rP d) most K :: RDk d E :: L)) :
    Calls Try.prog 46 #[.pointer (some ⟨q, 0, none⟩), .int .i64 a, v] w fun e w' => e = .returned (.int .i64 (putE E.firm.length a)) ∧ Has w' (Rcc q (rP d) most (putC most K E.firm.length a xs) :: RDk d E :: L) ∧ Keep w w' := by
  have hl := hI.short
  unfold putE putC
  by_cases ha : 0 ≤ a ∧ a < E.firm.length
  · rw [if_pos ha, if_pos ha]
    cases hf : find K a with
    | none =>
      have h := rcPutN q d most K E a v xs w L hm (by omega) ha hx hr hf hO
      rw [put_add hI.nodup xs true false false (by rw [hf])] at h
      exact h
    | some i =>
      obtain ⟨hi, -⟩ := find_lt hf
      have h := rcPutY q d most K E a v xs i w L hm (by omega) ha hx hr hf hi hO
      rw [put_add hI.nodup xs true K[i].pin false (by rw [hf]; simp [hi])] at h
      exact h
  · rw [if_neg ha, if_neg ha]
    refine (rcPutBad q d most K E a v xs w L ha (by obtain ⟨p, c, e, -⟩ := (hr w hO.drop.drop).form; exact ⟨p, c, e⟩) hO).mono ?_
    rintro e w' ⟨rfl, rfl⟩
    exact ⟨rfl, hO, Keep.refl _⟩
theorem CI.putC (hI : CI most E.firm.length K) (xs : List Int) (hx : xs.length = 128) : CI most E.firm.length (putC most K E.firm.length a xs) := by
  unfold Proofs.Ytajlikakbihgbaa.putC
  by_cases ha : 0 ≤ a ∧ a < E.firm.length
  · rw [if_pos ha]
    unfold newK
    have e : ∃ p, putK K ⟨a, xs, true, p⟩ = addK K ⟨a, xs, true, false⟩ := by
      cases hf : find K a with
      | none => exact ⟨false, put_add hI.nodup xs true false false (by rw [hf])⟩
      | some i => exact ⟨_, put_add hI.nodup xs true _ false (by rw [hf])⟩
    obtain ⟨p, e⟩ := e
    rw [← e]
    obtain ⟨h1, h2, h3⟩ := hI.put ha xs (by omega) true p
    exact CI.settle h1 h2 h3
  · rw [if_neg ha]
    exact hI
def hasE (K : List Hb) (a : Int) : Int := match find K a with | some _ => 0 | none => 5
theorem pPin (hI : CI most E.firm.length K) (hm : 0 ≤ most ∧ most ≤ 1000000) (hn : E.firm.length ≤ 2000) (dv : Value) (on : Bool) (hO : Has w (Cch q dv most K :: L)) :
    Calls Try.prog 22 #[.pointer (some ⟨q, 0, none⟩), .int .i64 a, .bool on] w fun e w' => e = .returned (.int .i64 (hasE K a)) ∧ Has w' (Cch q dv most (pinC most K a on) :: L) ∧ Keep w w' := by
  have hl := hI.short
  unfold hasE pinC
  cases hf : find K a with
  | some i =>
    obtain ⟨hi, -⟩ := find_lt hf
    dsimp only
    rw [List.getElem?_eq_getElem hi]
    exact kcPin q dv most K a on i w L hm (by omega) hf hi hO
  | none => exact kcPinNone q dv most K a on w L (by omega) hf hO
theorem qPin (hI : CI most E.firm.length K) (hm : 0 ≤ most ∧ most ≤ 1000000) (hn : E.firm.length ≤ 2000) (dv : Value) (on : Bool) (hO : Has w (Rcc q dv most K :: L)) :
    Calls Try.prog 47 #[.pointer (some ⟨q, 0, none⟩), .int .i64 a, .bool on] w fun e w' => e = .returned (.int .i64 (hasE K a)) ∧ Has w' (Rcc q dv most (pinC most K a on) :: L) ∧ Keep w w' := by
  have hl := hI.short
  unfold hasE pinC
  cases hf : find K a with
  | some i =>
    obtain ⟨hi, -⟩ := find_lt hf
    dsimp only
    rw [List.getElem?_eq_getElem hi]
    exact rcPin q dv most K a on i w L hm (by omega) hf hi hO
  | none =>
    refine (rcPinNone q dv most K a on w L (by omega) hf hO).mono ?_
    rintro e w' ⟨rfl, rfl⟩
    exact ⟨rfl, hO, Keep.refl _⟩
theorem CI.pin (hI : CI most E.firm.length K) (on : Bool) : CI most E.firm.length (pinC most K a on) := by
  unfold pinC
  cases hf : find K a with
  | some i =>
    obtain ⟨hi, -⟩ := find_lt hf
    dsimp only
    rw [List.getElem?_eq_getElem hi]
    exact hI.setAt hi _ _
  | none => exact hI
def cleanE (K : List Hb) (E : Bk) (a : Int) : Int := match find K a with
  | some i => (match K[i]? with | some h => if h.dirty then (E.write a h.b).1 else 0 | none => 0)
  | none => 5
theorem pClean (hI : CI most E.firm.length K) (hm : 0 ≤ most ∧ most ≤ 1000000) (hn : E.firm.length ≤ 2000) (hw : E.waits.length ≤ 1000000) (hw2 : E.writes.length ≤ 1000000) (hO : Has w (Cch q (dP d) most K :: Dk d E :: L)) :
    Calls Try.prog 13 #[.pointer (some ⟨q, 0, none⟩), .int .i64 a] w fun e w' => e = .returned (.int .i64 (cleanE K E a)) ∧ Has w' (Cch q (dP d) most (cleanC most K E a).1 :: Dk d (cleanC most K E a).2 :: L) ∧ Keep w w' := by
  have hl := hI.short
  unfold cleanE cleanC
  cases hf : find K a with
  | some i =>
    obtain ⟨hi, -⟩ := find_lt hf
    dsimp only
    rw [List.getElem?_eq_getElem hi]
    dsimp only
    cases hd : K[i].dirty with
    | true =>
      rw [if_pos rfl, if_pos rfl]
      dsimp only
      have h := kcClean q d most K E a i w L hm (by omega) (by omega) (by omega) hf hi hd hO
      by_cases he : (E.write a K[i].b).1 = 0
      · rw [if_pos he]
        rw [show ((E.write a K[i].b).1 != 0) = false by rw [he]; rfl] at h
        exact h
      · rw [if_neg he]
        rw [show ((E.write a K[i].b).1 != 0) = true by simpa using he] at h
        have e : K.set i ⟨K[i].at_, K[i].b, true, K[i].pin⟩ = K := by
          have : (⟨K[i].at_, K[i].b, true, K[i].pin⟩ : Hb) = K[i] := by rw [← hd]
          rw [this]
          exact List.set_getElem_self hi
        rw [e, hI.same] at h
        exact h
    | false =>
      rw [if_neg (by simp), if_neg (by simp)]
      have h := kcCleanNot q (dP d) most K a i w _ hm (by omega) hf hi hd hO
      rw [hI.same] at h
      exact h
  | none => exact kcCleanNone q (dP d) most K a w _ (by omega) hf hO
theorem qClean (hI : CI most E.firm.length K) (hm : 0 ≤ most ∧ most ≤ 1000000) (hn : E.firm.length ≤ 2000) (hw : E.waits.length ≤ 1000000) (hw2 : E.writes.length ≤ 1000000) (hO : Has w (Rcc q (rP d) most K :: RDk d E :: L)) :
    Calls Try.prog 48 #[.pointer (some ⟨q, 0, none⟩), .int .i64 a] w fun e w' => e = .returned (.int .i64 (cleanE K E a)) ∧ Has w' (Rcc q (rP d) most (cleanC most K E a).1 :: RDk d (cleanC most K E a).2 :: L) ∧ Keep w w' := by
  have hl := hI.short
  unfold cleanE cleanC
  cases hf : find K a with
  | some i =>
    obtain ⟨hi, -⟩ := find_lt hf
    dsimp only
    rw [List.getElem?_eq_getElem hi]
    dsimp only
    cases hd : K[i].dirty with
    | true =>
      rw [if_pos rfl, if_pos rfl]
      dsimp only
      by_cases he : (E.write a K[i].b).1 = 0
      · rw [if_pos he]
        exact rcCleanOk q d most K E a i w L hm (by omega) (by omega) (by omega) hf hi hd he hO
      · rw [if_neg he]
        exact rcCleanErr q d most K E a i w L hm (by omega) (by omega) (by omega) hf hi hd he hO
    | false =>
      rw [if_neg (by simp), if_neg (by simp)]
      have h := rcCleanNot q (rP d) most K a i w _ hm (by omega) hf hi hd hO
      rw [hI.same] at h
      exact h
  | none =>
    refine (rcCleanNone q (rP d) most K a w _ (by omega) hf hO).mono ?_
    rintro e w' ⟨rfl, rfl⟩
    exact ⟨rfl, hO, Keep.refl _⟩
theorem CI.clean (hI : CI most E.firm.length K) : CI most E.firm.length (cleanC most K E a).1 := by
  unfold cleanC
  cases hf : find K a with
  | some i =>
    obtain ⟨hi, -⟩ := find_lt hf
    dsimp only
    rw [List.getElem?_eq_getElem hi]
    dsimp only
    split
    · dsimp only
      split
      · exact hI.setAt hi _ _
      · exact hI
    · exact hI
  | none => exact hI
end
end Go.Proofs.Ytajlikakbihgbaa
