/- TEXTS of mine, merged. -/
import Derived.Test.YtajlikakbihgbaaM10
/- THE PLAIN LAW of a cache of clean sectors of which one is pinned. No program in sight. -/
namespace Go.Ch
open Go.Own Go.RowKit Go.Dk
theorem dropG_stays {α : Type} (st : α → Bool) (m : Int) (l : List α) (x : α) (hx : x ∈ l) (hs : st x = true) : x ∈ (dropG st m l).2 := by
  induction l generalizing m with
  | nil => simp at hx
  | cons y l ih =>
    rw [dropG]
    rcases List.mem_cons.1 hx with rfl | hx
    · rw [if_pos (.inr hs)]; exact List.mem_cons_self
    · split
      · exact List.mem_cons_of_mem _ (ih m hx)
      · exact ih (m - 1) hx
theorem dropG_sub {α : Type} (st : α → Bool) (m : Int) (l : List α) : (dropG st m l).2.Sublist l := by
  induction l generalizing m with
  | nil => exact List.Sublist.slnil
  | cons y l ih =>
    rw [dropG]
    split
    · exact (ih m).cons_cons y
    · exact (ih (m - 1)).cons y
theorem dropG_cnt {α : Type} (st : α → Bool) (m : Int) (l : List α) : (dropG st m l).2.length + min m.toNat (l.filter fun x => !st x).length = l.length := by
  induction l generalizing m with
  | nil => simp [dropG]
  | cons y l ih =>
    by_cases hm : m ≤ 0
    · rw [dropG_none st (.inl hm), show m.toNat = 0 by omega]; simp
    · rw [dropG]
      by_cases hy : st y = true
      · rw [if_pos (.inr hy), List.filter_cons_of_neg (by simp [hy])]
        have := ih m
        simp only [List.length_cons]
        omega
      · rw [if_neg (by simp [hy]; omega), List.filter_cons_of_pos (by simp [hy])]
        have := ih (m - 1)
        simp only [List.length_cons]
        omega
theorem find_f {f : Int → Hb} (hf : ∀ a, (f a).at_ = a) {W : List Int} {s : Int} {i : Nat} (h : find (W.map f) s = some i) : ∃ hi : i < W.length, W[i] = s := by
  obtain ⟨hi, h1⟩ := find_lt h
  have hi' : i < W.length := by simpa using hi
  refine ⟨hi', ?_⟩
  rw [List.getElem_map, hf] at h1
  exact h1
theorem find_f_none {f : Int → Hb} (hf : ∀ a, (f a).at_ = a) {W : List Int} {s : Int} (h : find (W.map f) s = none) : s ∉ W := by
  unfold find at h
  rw [List.findIdx?_eq_none_iff] at h
  intro hs
  have := h (f s) (List.mem_map_of_mem hs)
  simp [hf] at this
theorem find_f_some {f : Int → Hb} (hf : ∀ a, (f a).at_ = a) {W : List Int} {s : Int} (h : s ∈ W) : ∃ i, find (W.map f) s = some i := by
  rcases h1 : find (W.map f) s with _ | i
  · exact absurd h (find_f_none hf h1)
  · exact ⟨i, rfl⟩
/-- A clean sector, pinned if it is p. -/
def cp (b : List Int) (p a : Int) : Hb := ⟨a, b, false, a == p⟩
theorem addK_cp (b : List Int) (p : Int) (W : List Int) (s : Int) (pn : Bool) (h : W.Nodup) (hs : s ∈ W ∨ pn = (s == p)) : addK (W.map (cp b p)) ⟨s, b, false, pn⟩ = (gotA s W).map (cp b p) := by
  unfold addK gotA
  show (match find (W.map (cp b p)) s with | some i => _ | none => _) = _
  rcases hf : find (W.map (cp b p)) s with _ | i
  · have := find_f_none (fun _ => rfl) hf
    dsimp only
    rw [List.filter_eq_self.2 fun y hy => by simp only [bne_iff_ne, ne_eq]; rintro rfl; exact this hy, List.map_append, hs.resolve_left this]
    rfl
  · obtain ⟨hi, rfl⟩ := find_f (fun _ => rfl) hf
    dsimp only
    rw [← map_eraseIdx, erase_nodup W i hi h, List.map_append, List.getElem?_map, List.getElem?_eq_getElem hi]
    rfl
theorem settle_cp (most : Int) (b : List Int) (p : Int) (X : List Int) (hp : p ∈ X) (hn : X.Nodup) (hm : 1 ≤ most) :
    ∃ Y : List Int, settleK most (X.map (cp b p)) = Y.map (cp b p) ∧ Y.Nodup ∧ p ∈ Y ∧ (Y.length : Int) ≤ most := by
  refine ⟨(dropG (fun a => (cp b p a).stay) ((X.length : Int) - most) X).2, ?_, ?_, ?_, ?_⟩
  · unfold settleK
    rw [dropG_map, List.length_map]
  · exact hn.sublist (dropG_sub _ _ _)
  · exact dropG_stays _ _ _ _ hp (by simp [cp, Hb.stay])
  · have h := dropG_cnt (fun a => (cp b p a).stay) ((X.length : Int) - most) X
    have hc : (X.filter fun x => !(cp b p x).stay).length + 1 = X.length := by
      have h1 := List.length_eq_countP_add_countP (fun x => !(cp b p x).stay) (l := X)
      have h2 : X.countP (fun a => decide ¬(!(cp b p a).stay) = true) = X.count p := by
        refine List.countP_congr fun x _ => ?_
        simp [cp, Hb.stay]
      rw [h2, hn.count, if_pos hp, List.countP_eq_length_filter] at h1
      omega
    generalize (dropG (fun a => (cp b p a).stay) ((X.length : Int) - most) X).2 = Y at *
    omega
theorem newK_cp (most : Int) (b : List Int) (p : Int) (W : List Int) (s : Int) (pn : Bool) (h : W.Nodup) (hp : p ∈ W) (hs : s ∈ W ∨ pn = (s == p)) (hm : 1 ≤ most) :
    ∃ Y : List Int, newK most (W.map (cp b p)) ⟨s, b, false, pn⟩ = Y.map (cp b p) ∧ Y.Nodup ∧ p ∈ Y ∧ (Y.length : Int) ≤ most := by
  unfold newK
  rw [addK_cp b p W s pn h hs]
  refine settle_cp most b p _ ?_ (got_nodup h) hm
  unfold gotA
  rw [List.mem_append, List.mem_filter]
  by_cases hps : p = s
  · exact .inr (by simp [hps])
  · exact .inl ⟨hp, by simpa using hps⟩
theorem ats_cp (b : List Int) (p : Int) (W : List Int) : (W.map (cp b p)).map Hb.at_ = W := by
  rw [List.map_map]
  exact List.map_id' W
/-- The pin is let go. -/
theorem unpin_cp (b : List Int) (p : Int) : ∀ (W : List Int) (i : Nat) (hi : i < W.length), W.Nodup → W[i] = p → (W.map (cp b p)).set i ⟨p, b, false, false⟩ = W.map (cl b)
  | x :: W, 0, _, hn, h => by
    have h1 := List.nodup_cons.1 hn
    simp only [List.getElem_cons_zero] at h
    subst h
    simp only [List.map_cons, List.set_cons_zero]
    congr 1
    refine List.map_congr_left fun a ha => ?_
    unfold cp cl
    rw [show (a == x) = false by simp only [beq_eq_false_iff_ne, ne_eq]; rintro rfl; exact h1.1 ha]
  | x :: W, i + 1, hi, hn, h => by
    have h1 := List.nodup_cons.1 hn
    simp only [List.getElem_cons_succ] at h
    simp only [List.map_cons, List.set_cons_succ]
    rw [unpin_cp b p W i (by simpa using hi) h1.2 h]
    congr 1
    unfold cp cl
    rw [show (x == p) = false by simp only [beq_eq_false_iff_ne, ne_eq]; intro e; exact h1.1 (e ▸ h ▸ List.getElem_mem _)]
end Go.Ch
/- THE PLAIN LAW of a cache over a disk: what was put is got. No program in sight. -/
namespace Go.Ch
open Go.Own Go.RowKit Go.Dk
def ats (K : List Hb) : List Int := K.map Hb.at_
theorem uniq : ∀ {K : List Hb}, (ats K).Nodup → ∀ {x y : Hb}, x ∈ K → y ∈ K → x.at_ = y.at_ → x = y
  | z :: K, hn, x, y, hx, hy, h => by
    have h1 := List.nodup_cons.1 hn
    rcases List.mem_cons.1 hx with e1 | hx1
    · rcases List.mem_cons.1 hy with e2 | hy1
      · rw [e1, e2]
      · subst e1; exact absurd (h ▸ List.mem_map_of_mem hy1) h1.1
    · rcases List.mem_cons.1 hy with e2 | hy1
      · subst e2; exact absurd (h ▸ List.mem_map_of_mem hx1) h1.1
      · exact uniq h1.2 hx1 hy1 h
theorem erase_ats : ∀ (K : List Hb) (i : Nat) (hi : i < K.length), (ats K).Nodup → K.eraseIdx i = K.filter (fun h => h.at_ != K[i].at_)
  | x :: K, 0, _, h => by
    have h1 := List.nodup_cons.1 h
    simp only [List.eraseIdx_cons_zero, List.getElem_cons_zero]
    rw [List.filter_cons_of_neg (by simp)]
    refine (List.filter_eq_self.2 fun y hy => ?_).symm
    simp only [bne_iff_ne, ne_eq]
    intro e
    exact h1.1 (e ▸ List.mem_map_of_mem hy)
  | x :: K, i + 1, hi, h => by
    have h1 := List.nodup_cons.1 h
    simp only [List.eraseIdx_cons_succ, List.getElem_cons_succ]
    rw [List.filter_cons_of_pos (by simp only [bne_iff_ne, ne_eq]; intro e; exact h1.1 (e ▸ List.mem_map_of_mem (List.getElem_mem _))), erase_ats K i (by simpa using hi) h1.2]
theorem find_no {K : List Hb} {s : Int} (h : find K s = none) : ∀ x ∈ K, x.at_ ≠ s := by
  unfold find at h
  rw [List.findIdx?_eq_none_iff] at h
  intro x hx
  simpa using h x hx
theorem find_yes {K : List Hb} {s : Int} {x : Hb} (h : x ∈ K) (hs : x.at_ = s) : ∃ i, find K s = some i := by
  rcases hf : find K s with _ | i
  · exact absurd hs (find_no hf x h)
  · exact ⟨i, rfl⟩
def putK (K : List Hb) (h : Hb) : List Hb := K.filter (fun x => x.at_ != h.at_) ++ [h]
theorem addK_put (K : List Hb) (h : Hb) (hn : (ats K).Nodup) (hp : ∀ x ∈ K, x.pin = false) (hh : h.pin = false) : addK K h = putK K h := by
  unfold addK putK
  rcases hf : find K h.at_ with _ | i
  · dsimp only
    rw [List.filter_eq_self.2 fun y hy => by simpa using find_no hf y hy]
  · obtain ⟨hi, hs⟩ := find_lt hf
    dsimp only
    rw [erase_ats K i hi hn, hs, List.getElem?_eq_getElem hi]
    simp only [Option.map_some, Option.getD_some, hp _ (List.getElem_mem hi)]
    obtain ⟨a, b, c, d⟩ := h
    simp only at hh
    subst hh
    rfl
structure Inv (K : List Hb) (E : Bk) (want : Int → List Int) : Prop where
  a : ∀ h ∈ K, h.b = want h.at_ ∧ 0 ≤ h.at_ ∧ h.at_ < 8
  b : ∀ s, 0 ≤ s → s < 8 → (∀ h ∈ K, h.at_ = s → h.dirty = false) → E.last s = want s
  c : (ats K).Nodup
  p : ∀ h ∈ K, h.pin = false
  on : E.on = true
  arm : E.armed = none
  len : E.firm.length = 8
theorem Inv.read {K : List Hb} {E : Bk} {want : Int → List Int} (H : Inv K E want) (s : Int) (h0 : 0 ≤ s) (h8 : s < 8) : E.read s = (0, E.last s) := Bk.read_ok H.on h0 (by rw [H.len]; omega)
theorem ats_sub {K J : List Hb} (h : J.Sublist K) (hn : (ats K).Nodup) : (ats J).Nodup := hn.sublist (h.map _)
theorem Inv.drop {K : List Hb} {E : Bk} {want : Int → List Int} (H : Inv K E want) (m : Int) : Inv (dropG Hb.stay m K).2 E want where
  a h hh := H.a h (dropG_mem _ _ _ _ hh)
  b s h0 h8 h := H.b s h0 h8 fun x hx e => by
    rcases hd : x.dirty with _ | _
    · rfl
    · rw [← hd]; exact h x (dropG_stays _ _ _ _ hx (by simp [Hb.stay, hd])) e
  c := ats_sub (dropG_sub _ _ _) H.c
  p h hh := H.p h (dropG_mem _ _ _ _ hh)
  on := H.on
  arm := H.arm
  len := H.len
theorem ats_put {K : List Hb} (h : Hb) (hn : (ats K).Nodup) : (ats (putK K h)).Nodup := by
  unfold putK ats
  rw [List.map_append, List.nodup_append]
  refine ⟨ats_sub List.filter_sublist hn, by simp, ?_⟩
  intro a ha b hb
  simp only [List.map_cons, List.map_nil, List.mem_singleton] at hb
  subst hb
  obtain ⟨x, hx, rfl⟩ := List.mem_map.1 ha
  simpa using (List.mem_filter.1 hx).2
theorem mem_put {K : List Hb} {h x : Hb} : x ∈ putK K h ↔ (x ∈ K ∧ x.at_ ≠ h.at_) ∨ x = h := by
  unfold putK
  rw [List.mem_append, List.mem_filter, List.mem_singleton]
  simp
theorem put_len (K : List Hb) (h : Hb) : (putK K h).length ≤ K.length + 1 := by
  unfold putK
  rw [List.length_append, List.length_singleton]
  have := List.length_filter_le (fun x => x.at_ != h.at_) K
  omega
theorem Inv.put {K : List Hb} {E : Bk} {want want' : Int → List Int} (H : Inv K E want) (h : Hb) (h0 : 0 ≤ h.at_) (h8 : h.at_ < 8) (hp : h.pin = false) (hb : h.b = want' h.at_) (ho : ∀ t, t ≠ h.at_ → want' t = want t) (hd : h.dirty = true ∨ E.last h.at_ = want' h.at_) : Inv (putK K h) E want' where
  a x hx := by
    rcases mem_put.1 hx with ⟨hx, hne⟩ | rfl
    · rw [ho _ hne]; exact H.a x hx
    · exact ⟨hb, h0, h8⟩
  b s h0 h8 hs := by
    by_cases e : s = h.at_
    · subst e
      rcases hd with hd | hd
      · exact absurd (hs h (mem_put.2 (.inr rfl)) rfl) (by simp [hd])
      · exact hd
    · rw [ho s e]
      exact H.b s h0 h8 fun x hx hxs => hs x (mem_put.2 (.inl ⟨hx, by rw [hxs]; exact e⟩)) hxs
  c := ats_put h H.c
  p x hx := by
    rcases mem_put.1 hx with ⟨hx, -⟩ | rfl
    · exact H.p x hx
    · exact hp
  on := H.on
  arm := H.arm
  len := H.len
theorem ats_set (K : List Hb) (i : Nat) (hi : i < K.length) (h : Hb) (e : h.at_ = K[i].at_) : ats (K.set i h) = ats K := by
  unfold ats
  rw [List.map_set, e, ← List.getElem_map Hb.at_ (h := by simpa using hi), List.set_getElem_self]
theorem mem_set_of {K : List Hb} {i : Nat} (hi : i < K.length) {h x : Hb} (hx : x ∈ K) (hne : x.at_ ≠ K[i].at_) : x ∈ K.set i h := by
  obtain ⟨j, hj, rfl⟩ := List.mem_iff_getElem.1 hx
  refine List.mem_iff_getElem.2 ⟨j, by simpa using hj, ?_⟩
  rw [List.getElem_set_ne]
  rintro rfl
  exact hne rfl
theorem mem_of_set {K : List Hb} {i : Nat} (hi : i < K.length) (hn : (ats K).Nodup) {h x : Hb} (e : h.at_ = K[i].at_) (hx : x ∈ K.set i h) : (x ∈ K ∧ x.at_ ≠ K[i].at_) ∨ x = h := by
  obtain ⟨j, hj, rfl⟩ := List.mem_iff_getElem.1 hx
  by_cases hij : i = j
  · subst hij
    exact .inr (by rw [List.getElem_set_self])
  · rw [List.getElem_set_ne hij]
    refine .inl ⟨List.getElem_mem _, fun e2 => hij ?_⟩
    have hj' : j < K.length := by simpa using hj
    have h1 : (ats K)[j]'(by simpa [ats] using hj') = (ats K)[i]'(by simpa [ats] using hi) := by simpa [ats] using e2
    exact ((List.getElem_inj hn).1 h1).symm
/-- What is dirty is written. -/
theorem Inv.clean {K : List Hb} {E : Bk} {want : Int → List Int} (H : Inv K E want) (i : Nat) (hi : i < K.length) :
    Inv (K.set i ⟨K[i].at_, K[i].b, false, K[i].pin⟩) { E with waits := E.waits ++ [(K[i].at_, K[i].b)], writes := E.writes ++ [K[i].at_] } want := {
  a := fun x hx => by
    rcases mem_of_set hi H.c (show (⟨K[i].at_, K[i].b, false, K[i].pin⟩ : Hb).at_ = K[i].at_ from rfl) hx with ⟨hx, -⟩ | rfl
    · exact H.a x hx
    · exact H.a K[i] (List.getElem_mem hi)
  b := fun s h0 h8 hs => by
    rw [Bk.last_snoc]
    by_cases e : K[i].at_ = s
    · rw [if_pos e, ← e]
      exact (H.a K[i] (List.getElem_mem hi)).1
    · rw [if_neg e]
      exact H.b s h0 h8 fun x hx hxs => hs x (mem_set_of hi hx (by rw [hxs]; exact fun e2 => e e2.symm)) hxs
  c := by rw [ats_set K i hi _ (show (⟨K[i].at_, K[i].b, false, K[i].pin⟩ : Hb).at_ = K[i].at_ from rfl)]; exact H.c
  p := fun x hx => by
    rcases mem_of_set hi H.c (show (⟨K[i].at_, K[i].b, false, K[i].pin⟩ : Hb).at_ = K[i].at_ from rfl) hx with ⟨hx, -⟩ | rfl
    · exact H.p x hx
    · exact H.p K[i] (List.getElem_mem hi)
  on := H.on
  arm := H.arm
  len := H.len }
end Go.Ch
/- A CACHE's CALLS over a disk: what was put is got. -/
namespace Go.Proofs.Ytajlikakbihgbaa
open Go.RowKit Go.Own Go.Dk Go.Ch
def upd (want : Int → List Int) (s : Int) (x : List Int) (t : Int) : List Int := if t = s then x else want t
section
variable (q d : Nat) (most : Int) (K : List Hb) (E : Bk) (want : Int → List Int) (w : World) (L : List HP) (H : Inv K E want) (hm : 0 ≤ most ∧ most ≤ 1000000) (hl : K.length ≤ 9999) (h128 : ∀ t, (want t).length = 128) (hO : Has w (Cch q (dP d) most K :: Dk d E :: L))
include H hm hl hO
theorem kcPutI (s : Int) (v : Value) (xs : List Int) (h0 : 0 ≤ s) (h8 : s < 8) (hx : xs.length = 128) (hr : ∀ w', Has w' L → Rd w' v 1 xs.length (bc xs)) :
    Calls Try.prog 11 #[.pointer (some ⟨q, 0, none⟩), .int .i64 s, v] w fun e w' => ∃ K', e = .returned (.int .i64 0) ∧ (Inv K' E (upd want s xs) ∧ (⟨s, xs, true, false⟩ : Hb) ∈ K' ∧ K'.length ≤ K.length + 1) ∧ Has w' (Cch q (dP d) most K' :: Dk d E :: L) ∧ Keep w w' := by
  refine (kcPut q d most K E s v xs w L hm (by omega) ⟨h0, by rw [H.len]; omega⟩ hx hr hO).mono ?_
  rintro e w' ⟨rfl, h2, h3⟩
  have e : newK most K ⟨s, xs, true, false⟩ = (dropG Hb.stay (((putK K ⟨s, xs, true, false⟩).length : Int) - most) (putK K ⟨s, xs, true, false⟩)).2 := by
    unfold newK settleK
    rw [addK_put K _ H.c H.p rfl]
  rw [e] at h2
  refine ⟨_, rfl, ⟨Inv.drop (H.put (want' := upd want s xs) ⟨s, xs, true, false⟩ h0 h8 rfl (by simp [upd]) (fun t ht => by simp [upd, ht]) (.inl rfl)) _, dropG_stays _ _ _ _ (mem_put.2 (.inr rfl)) rfl, ?_⟩, h2, h3⟩
  have h4 := dropG_le Hb.stay (((putK K ⟨s, xs, true, false⟩).length : Int) - most) (putK K ⟨s, xs, true, false⟩)
  have h5 := put_len K ⟨s, xs, true, false⟩
  omega
omit hm in
theorem kcDropI (m : Int) (hm2 : m ≤ 1000000000) :
    Calls Try.prog 14 #[.pointer (some ⟨q, 0, none⟩), .int .i64 m] w fun e w' => ∃ r K', e = .returned (.int .i64 r) ∧ (Inv K' E want ∧ K'.length ≤ K.length) ∧ Has w' (Cch q (dP d) most K' :: Dk d E :: L) ∧ Keep w w' := by
  refine (kcDrop q (dP d) most K m w _ hm2 (by omega) hO).mono ?_
  rintro e w' ⟨rfl, h2, h3⟩
  exact ⟨_, _, rfl, ⟨H.drop m, dropG_le _ _ _⟩, h2, h3⟩
include h128
theorem kcGetI (s : Int) (h0 : 0 ≤ s) (h8 : s < 8) (hw : E.waits.length ≤ 1000000000) :
    Calls Try.prog 15 #[.pointer (some ⟨q, 0, none⟩), .int .i64 s] w fun e w' => ∃ (v' : Value) (K' : List Hb), e = .returned (.tuple #[v', .int .i64 0]) ∧ (Inv K' E want ∧ K'.length ≤ K.length + 1 ∧ ∀ h ∈ K', h.dirty = true → h ∈ K) ∧ Has w' (Bytes v' (want s) :: Cch q (dP d) most K' :: Dk d E :: L) ∧ Keep w w' := by
  have hstep : ∀ h : Hb, h.at_ = s → h.pin = false → h.b = want s → (h.dirty = true → h ∈ K) → (h.dirty = true ∨ E.last s = want s) →
      Inv (newK most K h) E want ∧ (newK most K h).length ≤ K.length + 1 ∧ ∀ x ∈ newK most K h, x.dirty = true → x ∈ K := by
    rintro h rfl hp hb hd hd2
    unfold newK settleK
    rw [addK_put K h H.c H.p hp]
    refine ⟨Inv.drop (H.put h h0 h8 hp hb (fun _ _ => rfl) hd2) _, ?_, fun x hx hxd => ?_⟩
    · have h4 := dropG_le Hb.stay (((putK K h).length : Int) - most) (putK K h)
      have h5 := put_len K h
      omega
    · rcases mem_put.1 (dropG_mem _ _ _ _ hx) with ⟨hx, -⟩ | rfl
      · exact hx
      · exact hd hxd
  rcases hf : find K s with _ | i
  · have hn := find_no hf
    have hlast : E.last s = want s := H.b s h0 h8 fun h hh e => absurd e (hn h hh)
    have hE := H.read s h0 h8
    have h := kcGetMiss q d most K E s w L hm (by omega) hw hf (by rw [hE]) (by rw [hE, hlast, h128]; omega) hO
    rw [hE, hlast] at h
    exact h.mono fun e w' ⟨v', e1, e2, e3⟩ => ⟨v', _, e1, hstep ⟨s, want s, false, false⟩ rfl rfl rfl (fun h => absurd h Bool.false_ne_true) (.inr hlast), e2, e3⟩
  · obtain ⟨hi, hs⟩ := find_lt hf
    have hmem := List.getElem_mem hi
    have hb : K[i].b = want s := by rw [(H.a _ hmem).1, hs]
    have h := kcGetHit q d most K s i w (Dk d E :: L) hm (by omega) (fun x hx => by rw [(H.a x hx).1, h128]; omega) hf hi hO
    rw [hb] at h
    refine h.mono fun e w' ⟨v', e1, e2, e3⟩ => ⟨v', _, e1, hstep K[i] hs (H.p _ hmem) hb (fun _ => hmem) ?_, e2, e3⟩
    rcases hd : K[i].dirty with _ | _
    · refine .inr (H.b s h0 h8 fun x hx e => ?_)
      rw [uniq H.c hx hmem (by rw [e, hs]), hd]
    · exact .inl rfl
theorem kcCleanI (s : Int) (h0 : 0 ≤ s) (h8 : s < 8) (hw : E.waits.length ≤ 1000000000) (hw2 : E.writes.length ≤ 1000000000) :
    Calls Try.prog 13 #[.pointer (some ⟨q, 0, none⟩), .int .i64 s] w fun e w' => ∃ (r : Int) (K' : List Hb) (E' : Bk), e = .returned (.int .i64 r) ∧ (Inv K' E' want ∧ (r = 0 → E'.last s = want s) ∧ ((∃ h ∈ K, h.at_ = s) → r = 0) ∧ (∀ h ∈ K', h.dirty = true → h ∈ K ∧ h.at_ ≠ s) ∧ K'.length ≤ K.length ∧ E'.waits.length ≤ E.waits.length + 1 ∧ E'.writes.length ≤ E.writes.length + 1) ∧ Has w' (Cch q (dP d) most K' :: Dk d E' :: L) ∧ Keep w w' := by
  rcases hf : find K s with _ | i
  · have hn := find_no hf
    refine (kcCleanNone q (dP d) most K s w _ (by omega) hf hO).mono ?_
    rintro e w' ⟨rfl, h2, h3⟩
    exact ⟨5, K, E, rfl, ⟨H, fun h => absurd h (by decide), fun ⟨h, hh, e⟩ => absurd e (hn h hh), fun h hh _ => ⟨hh, hn h hh⟩, Nat.le_refl _, by omega, by omega⟩, h2, h3⟩
  · obtain ⟨hi, hs⟩ := find_lt hf
    have hmem := List.getElem_mem hi
    have hb : K[i].b = want s := by rw [(H.a _ hmem).1, hs]
    rcases hd : K[i].dirty with _ | _
    · refine (kcCleanNot q (dP d) most K s i w _ hm (by omega) hf hi hd hO).mono ?_
      rintro e w' ⟨rfl, h2, h3⟩
      have hcl : ∀ x ∈ K, x.at_ = s → x.dirty = false := fun x hx e => by rw [uniq H.c hx hmem (by rw [e, hs]), hd]
      refine ⟨0, _, E, rfl, ⟨H.drop _, fun _ => H.b s h0 h8 hcl, fun _ => rfl, fun h hh hhd => ⟨dropG_mem _ _ _ _ hh, fun e => ?_⟩, dropG_le _ _ _, by omega, by omega⟩, h2, h3⟩
      rw [hcl h (dropG_mem _ _ _ _ hh) e] at hhd
      exact absurd hhd (by decide)
    · have hwr := Bk.write_ok (D := E) H.on H.arm (a := s) h0 (by rw [H.len]; omega) (x := K[i].b) (by rw [hb, h128])
      have HI := H.clean i hi
      rw [hs] at HI
      have h := kcClean q d most K E s i w L hm (by omega) hw hw2 hf hi hd hO
      rw [hwr, hs] at h
      refine h.mono ?_
      rintro e w' ⟨rfl, h2, h3⟩
      refine ⟨0, _, _, rfl, ⟨HI.drop _, fun _ => ?_, fun _ => rfl, fun h hh hhd => ?_, ?_, ?_, ?_⟩, h2, h3⟩
      · rw [Bk.last_snoc, if_pos rfl, hb]
      · rcases mem_of_set hi H.c hs.symm (dropG_mem _ _ _ _ hh) with ⟨hx, hne⟩ | rfl
        · exact ⟨hx, by rw [← hs]; exact hne⟩
        · exact absurd hhd Bool.false_ne_true
      · refine Nat.le_trans (dropG_le _ _ _) ?_
        rw [List.length_set]
        exact Nat.le_refl _
      · simp
      · simp
end
end Go.Proofs.Ytajlikakbihgbaa
