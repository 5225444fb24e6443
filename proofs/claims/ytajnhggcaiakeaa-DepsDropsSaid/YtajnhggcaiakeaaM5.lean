/- TEXTS of mine, merged. -/
import Derived.Test.YtajnhggcaiakeaaM3
import Derived.Test.YtajnhggcaiakeaaM4
import Derived.Test.YtajnhggcaiakeaaM1
import Derived.WalkMore
/- slices.Sort, slices.Compact and slices.Contains of ints, over owned rows. -/
namespace Go.Proofs.Ytajnhggcaiakeaa
open Go.RowKit Go.Own
theorem ints_holds {w : World} {L : List HP} {g cap m : Nat} {l : List Int} (hO : Has w (Ints (.slice (some ⟨g, 0, none⟩) m cap) l :: L)) : Sort.Holds (Value.int .i64) w g 0 l.toArray := by
  obtain ⟨-, hc, hf, -, -⟩ := hO.row_cells
  intro j hj
  have hj' : j < l.length := by simpa using hj
  refine ⟨?_, by rw [Nat.zero_add]; exact hf j⟩
  rw [Nat.zero_add, hc j (by omega), ic, List.getElem?_map, List.getElem?_eq_getElem hj', Option.map_some, getElem!_pos _ j hj, List.getElem_toArray]
def sorted (l : List Int) : List Int := l.mergeSort fun x y => decide (x ≤ y)
theorem sorted_len (l : List Int) : (sorted l).length = l.length := List.length_mergeSort _
theorem sortInts (v : Value) (l : List Int) (w : World) (L : List HP) (hl : l.length ≤ 1000000) (hO : Has w (Ints v l :: L)) :
    Calls Try.prog 31 #[v] w fun e w' => e = .returned (.tuple #[]) ∧ Has w' (Ints v (sorted l) :: L) ∧ Keep w w' := by
  obtain ⟨h1, ⟨rfl, h2, h3, -⟩ | ⟨g, cap, cur, rfl, h2, h3, -, -, h4⟩⟩ := Has.row_cases hO
  · have hn : l = [] := List.eq_nil_of_length_eq_zero h2
    subst hn
    refine (Try.slices_Sort_int_none none 0 w).mono ?_
    rintro e w' ⟨rfl, rfl⟩
    exact ⟨rfl, by simpa [sorted] using hO, Keep.refl _⟩
  · refine (Try.slices_Sort_int g 0 cap l w (ints_holds hO) h4.lt (by omega)).mono ?_
    rintro e w' ⟨rfl, m, os, rfl⟩
    have h5 := ((Has.ahead hO m).putRow (d := (sorted l).toArray) (Value.int .i64) (by simp [sorted_len])).grow os
    refine ⟨rfl, ?_, rfl, rfl, rfl, by simp [Sort.grow, Sort.putRow, Sort.mapBlock, Sort.ahead]⟩
    unfold Ints
    rw [sorted_len]
    exact h5
theorem containsInt (v : Value) (l : List Int) (x : Int) (w : World) (hr : Rd w v 1 l.length (ic l)) :
    Calls Try.prog 20 #[v, .int .i64 x] w fun e w' => e = .returned (.bool (l.contains x)) ∧ w' = w := by
  obtain ⟨p, cap, rfl, hc, hl, hcs⟩ := hr.form
  by_cases h0 : l.length = 0
  · have hn : l = [] := List.eq_nil_of_length_eq_zero h0
    subst hn
    exact Try.slices_Contains_int_empty p cap x w
  · obtain ⟨g, o, rfl, hcq⟩ := hcs (by omega)
    have h := Try.slices_Contains_int g o l.length cap l x w (Nat.le_refl _) hl fun j hj => by
      rw [hcq j (by omega), ic, List.getElem?_map, List.getElem?_eq_getElem hj, Option.map_some, List.getD_eq_getElem?_getD, List.getElem?_eq_getElem hj, Option.getD_some]
    rw [List.take_of_length_le (Nat.le_refl _)] at h
    exact h
end Go.Proofs.Ytajnhggcaiakeaa
/- slices.Sorted(maps.Keys(m)) and slices.AppendSeq(v, maps.Keys(m)) of a graph's maps. -/
namespace Go.Proofs.Ytajnhggcaiakeaa
open Go.RowKit Go.Own Go.Maps Go.ChangeMaps Go.Shelf Go.Proofs
theorem sorted_perm (l : List Int) : (sorted l).Perm l := List.mergeSort_perm l _
theorem sorted_sorted (l : List Int) : (sorted l).Pairwise (fun x y => decide (x ≤ y) = true) :=
  List.pairwise_mergeSort (fun a b c h1 h2 => by simp only [decide_eq_true_eq] at *; omega) (fun a b => by simp only [Bool.or_eq_true, decide_eq_true_eq]; omega) l
theorem sorted_congr {l l' : List Int} (h : l.Perm l') : sorted l = sorted l' :=
  (((sorted_perm l).trans h).trans (sorted_perm l').symm).eq_of_pairwise (fun a b _ _ h1 h2 => by simp only [decide_eq_true_eq] at *; omega) (sorted_sorted l) (sorted_sorted l')
theorem enc_ic (l : List Int) : l.map encZ = ic l := rfl
theorem Al.keys {α : Type} {enc : α → DataW Unit} {D : DataW Unit} {t : List (Int × α)} {R : Rdr} {w : World} {b n : Nat} (h : Al enc D t) (ho : w.ownsMap Try.prog tI R b n D) : (t.map Prod.fst).Perm (intKeys D) :=
  CollectedI.perm (left := fun _ => false) ⟨h.nodup, fun x => by rw [h.has]; simp⟩ ho lawI undI (fun _ => rfl)
abbrev seqF (f c : Nat) : Value := .func (.func f) #[] #[.pointer (some ⟨c, 0, none⟩)]
theorem keysN (b : Nat) (w : World) : Calls Try.prog 23 #[.map (some b)] w fun e w' => e = .returned (seqF 29 w.heap.size) ∧ w' = w.alloc (.cells #[.map (some b)] tN) :=
  callsIn_wide.1 (AnyZI.keys_in Try.keys23 Fence.wide 9 trivial rfl (some b) w)
theorem keysO (b : Nat) (w : World) : Calls Try.prog 25 #[.map (some b)] w fun e w' => e = .returned (seqF 32 w.heap.size) ∧ w' = w.alloc (.cells #[.map (some b)] tO) :=
  callsIn_wide.1 (AnyZI.keys_in Try.keys25 Fence.wide 9 trivial rfl (some b) w)
theorem sortsIn (m : Nat) : AnyZI.SortsIn Try.prog Try.sorted24_ren Fence.wide m :=
  ⟨fun blk off cap ss W hH hblk hsz => callsIn_wide.2 (Try.slices_Sort_int blk off cap ss W hH hblk hsz), fun p cap W => callsIn_wide.2 (Try.slices_Sort_int_none p cap W)⟩
section
variable {α : Type} {enc : α → DataW Unit} {D : DataW Unit} {t : List (Int × α)} {R : Rdr} {w : World} {L : List HP} {b : Nat}
theorem seqN (n : Nat) (hn : 1 ≤ n) (h : Al enc D t) (ho : Has w (Mp Try.prog tI R b D :: L)) : SeqGives Fence.wide n Try.prog 29 #[.pointer (some ⟨w.heap.size, 0, none⟩)] encZ (fun ss => ss.Perm (t.map Prod.fst)) t.length (w.alloc (.cells #[.map (some b)] tN)) := by
  have h1 := AnyZI.keys_gives (ρ := Try.keys23_ren) { Try.keys23 with } Fence.wide n trivial rfl hn w.heap.size b _ D (w.alloc (.cells #[.map (some b)] tN)) (by simp) (by simp) (ho.alloc' _).owns
  rw [h.size] at h1
  have e : (fun ss : List Int => ss.Perm (intKeys D)) = fun ss => ss.Perm (t.map Prod.fst) := by
    funext ss
    exact propext ⟨fun h2 => h2.trans (Al.keys h ho.owns).symm, fun h2 => h2.trans (Al.keys h ho.owns)⟩
  rw [e] at h1
  exact h1
theorem seqO (n : Nat) (hn : 1 ≤ n) (h : Al enc D t) (ho : Has w (Mp Try.prog tI R b D :: L)) : SeqGives Fence.wide n Try.prog 32 #[.pointer (some ⟨w.heap.size, 0, none⟩)] encZ (fun ss => ss.Perm (t.map Prod.fst)) t.length (w.alloc (.cells #[.map (some b)] tO)) := by
  have h1 := AnyZI.keys_gives (ρ := Try.keys25_ren) { Try.keys25 with } Fence.wide n trivial rfl hn w.heap.size b _ D (w.alloc (.cells #[.map (some b)] tO)) (by simp) (by simp) (ho.alloc' _).owns
  rw [h.size] at h1
  have e : (fun ss : List Int => ss.Perm (intKeys D)) = fun ss => ss.Perm (t.map Prod.fst) := by
    funext ss
    exact propext ⟨fun h2 => h2.trans (Al.keys h ho.owns).symm, fun h2 => h2.trans (Al.keys h ho.owns)⟩
  rw [e] at h1
  exact h1
end
theorem Below.but {W w' : World} (h : Below W.heap.size W w') : But W w' none := ⟨⟨h.os, h.tape, h.output, h.size⟩, fun k hk _ => h.block k hk⟩
theorem sortedIn (f c : Nat) (S : List Int) (N : Nat) (W : World) (L : List HP) (hO : Has W L) (hN : N ≤ 1000000) (ef : ∀ args w, (callFunc f args).run Try.prog w = .ok (.enter f args) w)
    (hseq : SeqGives Fence.wide 6 Try.prog f #[.pointer (some ⟨c, 0, none⟩)] encZ (fun ss => ss.Perm S) N W) :
    Calls Try.prog 24 #[seqF f c] W fun e w' => ∃ v, e = .returned v ∧ Has w' (Ints v (sorted S) :: L) ∧ Keep W w' := by
  refine (callsIn_wide (n := 9)).1 ((AnyZI.sorted_in Try.sorted24 Fence.wide 9 trivial trivial trivial trivial rfl (by omega) (sortsIn _) (enters_of Try.func31 (by kernel_rfl) rfl) f #[.pointer (some ⟨c, 0, none⟩)] trivial ef _ N (le_maxLen (by omega)) (by omega) W hseq).mono ?_)
  rintro e w' ⟨v, ss, rfl, hS, hrow, hnil, hb⟩
  have e1 : (ss.mergeSort fun x y => decide (x ≤ y)) = sorted S := sorted_congr hS
  rw [e1] at hrow
  have hlen : ss.length = (sorted S).length := by rw [sorted_len, hS.length_eq]
  rw [hlen] at hrow
  refine ⟨v, rfl, (hO.row_nil tI 1).regrown (Below.but hb) (ownsRow_base_a hrow (Nat.zero_le _)) ?_, (Below.but hb).keep⟩
  rcases hrow.2 with ⟨rfl, -⟩ | ⟨g, cap, cur, rfl, hbase, -⟩
  · exact .inl rfl
  · exact .inr ⟨g, rfl, hbase⟩
theorem sortedN (b : Nat) (s : List Int) (w : World) (L : List HP) (hl : s.length ≤ 1000000) (hO : Has w (Ns b s :: L)) :
    Calls Try.prog 24 #[seqF 29 w.heap.size] (w.alloc (.cells #[.map (some b)] tN)) fun e w' => ∃ v, e = .returned v ∧ Has w' (Ints v (sorted s) :: Ns b s :: L) ∧ Keep w w' := by
  obtain ⟨D, h1, h2⟩ := Ns.iff.1 hO
  have hs := seqN 6 (by omega) h1 h2
  rw [fsts, List.length_map] at hs
  refine (sortedIn _ _ s s.length _ _ (hO.alloc' _) hl (enters_of Try.func29 (by kernel_rfl) rfl) hs).mono ?_
  rintro e w' ⟨v, rfl, h3, h4⟩
  exact ⟨v, rfl, h3, ((Keep.refl w).alloc _).trans h4⟩
theorem sortedO (b : Nat) (t : List (Int × Nat)) (w : World) (L : List HP) (hl : t.length ≤ 1000000) (hO : Has w (Om b t :: L)) :
    Calls Try.prog 24 #[seqF 32 w.heap.size] (w.alloc (.cells #[.map (some b)] tO)) fun e w' => ∃ v, e = .returned v ∧ Has w' (Ints v (sorted (t.map Prod.fst)) :: Om b t :: L) ∧ Keep w w' := by
  obtain ⟨D, h1, h2⟩ := Om.iff.1 hO
  have hs := seqO 6 (by omega) h1 h2
  refine (sortedIn _ _ (t.map Prod.fst) t.length _ _ (hO.alloc' _) hl (enters_of Try.func32 (by kernel_rfl) rfl) hs).mono ?_
  rintro e w' ⟨v, rfl, h3, h4⟩
  exact ⟨v, rfl, h3, ((Keep.refl w).alloc _).trans h4⟩
theorem appendKeys (v0 : Value) (xs : List Int) (b : Nat) (s : List Int) (w : World) (L : List HP) (hl : xs.length + s.length ≤ 1000000) (hO : Has w (Ints v0 xs :: Ns b s :: L)) :
    Calls Try.prog 22 #[v0, seqF 29 w.heap.size] (w.alloc (.cells #[.map (some b)] tN)) fun e w' => ∃ v ks, e = .returned v ∧ ks.Perm s ∧ Has w' (Ints v (xs ++ ks) :: Ns b s :: L) ∧ Keep w w' := by
  obtain ⟨D, h1, h2⟩ := Ns.iff.1 hO.p1
  have hs := seqN 6 (by omega) h1 h2
  rw [fsts, List.length_map] at hs
  refine (callsIn_wide (n := 7)).1 ((appendSeqIn (ρ := Try.sorted24_ren) { Try.sorted24 with } Fence.wide 7 trivial rfl (by omega) _ _ trivial (enters_of Try.func29 (by kernel_rfl) rfl) _ s.length _ v0 xs (hO.alloc' _).row_own (le_maxLen (by omega)) (by omega) hs).mono ?_)
  rintro e w' ⟨v, ss, rfl, hS, hrow, hv, hb⟩
  refine ⟨v, ss, rfl, hS, ?_, ((Keep.refl w).alloc _).trans hb.keep⟩
  have h3 := (hO.alloc' (.cells #[.map (some b)] tN)).regrown hb hrow hv
  unfold Ints
  rw [List.length_append]
  exact h3
end Go.Proofs.Ytajnhggcaiakeaa
/- Graphs without their blocks; what a closure is; the contracts of deps.New, there, Add. -/
namespace Go.Own.Dp
/-- What each one needs. -/
abbrev Gph := List (Int × List Int)
def ids (E : Gph) : List Int := E.map Prod.fst
def nd (E : Gph) (x : Int) : List Int := ((E.find? fun e => e.1 == x).map Prod.snd).getD []
inductive Rch (E : Gph) (is : List Int) : Int → Prop
  | base (x : Int) : x ∈ is → x ∈ ids E → Rch E is x
  | step (x y : Int) : Rch E is y → x ∈ nd E y → x ∈ ids E → Rch E is x
theorem Rch.there {E : Gph} {is : List Int} {x : Int} (h : Rch E is x) : x ∈ ids E := by cases h <;> assumption
end Go.Own.Dp
namespace Go.Proofs.Ytajnhggcaiakeaa
open Go.RowKit Go.Own Go.Maps Go.ChangeMaps Go.Own.Dp
def er (T : List Ge) : Gph := T.map fun e => (e.1, e.2.2)
theorem gids_er (T : List Ge) : gids T = ids (er T) := by simp [gids, ids, er]
def Gx (g : Nat) (E : Gph) : HP := ex fun m : Nat => ex fun T : List Ge => sep (fact (er T = E)) (Gr g m T)
section
variable {w : World} {L : List HP} {g m : Nat} {E : Gph} {T : List Ge} {x : Int}
theorem Gx.iff : Has w (Gx g E :: L) ↔ ∃ m T, er T = E ∧ Has w (Gr g m T :: L) := by
  unfold Gx
  simp only [Has.ex_iff, Has.sep_iff, Has.fact_iff]
theorem Gr.nodup (h : Has w (Gr g m T :: L)) : (gids T).Nodup := by
  have h1 := Om.nodup (Gr.iff.1 h).p1
  rwa [outer_fst] at h1
theorem Gx.nodup (h : Has w (Gx g E :: L)) : (ids E).Nodup := by
  obtain ⟨m, T, rfl, hh⟩ := Gx.iff.1 h
  rw [← gids_er]
  exact Gr.nodup hh
theorem Gx.ok (h : Has w (Gx g E :: L)) (hx : x ∈ ids E) : okK x := by
  obtain ⟨m, T, rfl, hh⟩ := Gx.iff.1 h
  rw [← gids_er, gids, List.mem_map] at hx
  obtain ⟨e, he, rfl⟩ := hx
  exact Om.ok (Gr.iff.1 hh).p1 (p := (e.1, e.2.1)) (List.mem_map_of_mem (f := fun e : Ge => (e.1, e.2.1)) he)
theorem find_split {α : Type} (T1 T2 : List (Int × α)) (x : Int) (a : α) (h : x ∉ T1.map Prod.fst) : (T1 ++ (x, a) :: T2).find? (fun e => e.1 == x) = some (x, a) := by
  induction T1 with
  | nil => simp
  | cons e T1 ih =>
    simp only [List.map_cons, List.mem_cons, not_or] at h
    rw [List.cons_append, List.find?_cons, show (e.1 == x) = false by simpa using Ne.symm h.1]
    exact ih h.2
/-- One that is there, and the others. -/
theorem Gr.split (h : Has w (Gr g m T :: L)) (hx : x ∈ gids T) : ∃ T1 b s T2, T = T1 ++ (x, b, s) :: T2 ∧ fb (outer T) x = some b ∧ nd (er T) x = s ∧ x ∉ gids T1 ∧ x ∉ gids T2 := by
  have hn := Gr.nodup h
  clear h
  unfold gids at hx
  obtain ⟨⟨x', b, s⟩, he, rfl⟩ := List.mem_map.1 hx
  obtain ⟨T1, T2, rfl⟩ := List.append_of_mem he
  simp only [gids, List.map_append, List.map_cons] at hn
  obtain ⟨-, h2, h3⟩ := List.nodup_append.1 hn
  have h1 : x' ∉ gids T1 := fun hm => h3 x' hm x' (by simp) rfl
  refine ⟨T1, b, s, T2, rfl, ?_, ?_, h1, (List.nodup_cons.1 h2).1⟩
  · unfold fb outer
    rw [List.map_append, List.map_cons, find_split _ _ x' b (by rw [List.map_map]; exact h1)]
    rfl
  · unfold nd er
    rw [List.map_append, List.map_cons, find_split _ _ x' s (by rw [List.map_map]; exact h1)]
    rfl
end
/-- A graph but for one of its inner maps. -/
def Gro (g m : Nat) (T1 : List Ge) (e : Ge) (T2 : List Ge) : HP := star (pt g (.cells #[.map (some m)] 46) :: Om m (outer (T1 ++ e :: T2)) :: inners (T1 ++ T2))
section
variable {w : World} {L : List HP} {g m : Nat} {T1 T2 : List Ge} {e : Ge}
theorem Gro.iff : Has w (Gro g m T1 e T2 :: L) ↔ Has w (pt g (.cells #[.map (some m)] 46) :: Om m (outer (T1 ++ e :: T2)) :: (inners (T1 ++ T2) ++ L)) := by
  unfold Gro
  rw [Has.star_iff]
  rfl
theorem Gr.pull : Has w (Gr g m (T1 ++ e :: T2) :: L) ↔ Has w (Ns e.2.1 e.2.2 :: Gro g m T1 e T2 :: L) := by
  rw [Gr.iff]
  constructor
  · intro h
    have h1 : Has w (inners (T1 ++ e :: T2) ++ (pt g (.cells #[.map (some m)] 46) :: Om m (outer (T1 ++ e :: T2)) :: L)) := h.perm (by
      have p1 : List.Perm (inners (T1 ++ e :: T2) ++ ([pt g (.cells #[.map (some m)] 46), Om m (outer (T1 ++ e :: T2))] ++ L)) ([pt g (.cells #[.map (some m)] 46), Om m (outer (T1 ++ e :: T2))] ++ (inners (T1 ++ e :: T2) ++ L)) := by
        rw [← List.append_assoc, ← List.append_assoc]
        exact List.perm_append_comm.append_right L
      exact p1.symm)
    have h2 := inners_pull.1 h1
    refine (Gro.iff.2 ?_).p1
    refine h2.perm ?_
    have p1 : List.Perm ([Ns e.2.1 e.2.2] ++ (inners (T1 ++ T2) ++ ([pt g (.cells #[.map (some m)] 46), Om m (outer (T1 ++ e :: T2))] ++ L))) ([pt g (.cells #[.map (some m)] 46), Om m (outer (T1 ++ e :: T2))] ++ (inners (T1 ++ T2) ++ ([Ns e.2.1 e.2.2] ++ L))) := by
      generalize [Ns e.2.1 e.2.2] = A
      generalize inners (T1 ++ T2) = B
      generalize [pt g (.cells #[.map (some m)] 46), Om m (outer (T1 ++ e :: T2))] = C
      have q1 : (A ++ (B ++ (C ++ L))).Perm (C ++ (A ++ (B ++ L))) := by
        have : (A ++ (B ++ (C ++ L))) = (A ++ B) ++ C ++ L := by simp
        rw [this]
        have : (C ++ (A ++ (B ++ L))) = C ++ (A ++ B) ++ L := by simp
        rw [this]
        exact List.perm_append_comm.append_right L
      refine q1.trans (List.Perm.append_left C ?_)
      rw [← List.append_assoc, ← List.append_assoc]
      exact List.perm_append_comm.append_right L
    exact p1
  · intro h
    have h2 := Gro.iff.1 h.p1
    have p1 : List.Perm ([pt g (.cells #[.map (some m)] 46), Om m (outer (T1 ++ e :: T2))] ++ (inners (T1 ++ T2) ++ ([Ns e.2.1 e.2.2] ++ L))) ([Ns e.2.1 e.2.2] ++ (inners (T1 ++ T2) ++ ([pt g (.cells #[.map (some m)] 46), Om m (outer (T1 ++ e :: T2))] ++ L))) := by
      generalize [Ns e.2.1 e.2.2] = A
      generalize inners (T1 ++ T2) = B
      generalize [pt g (.cells #[.map (some m)] 46), Om m (outer (T1 ++ e :: T2))] = C
      have q1 : (A ++ (B ++ (C ++ L))).Perm (C ++ (A ++ (B ++ L))) := by
        have : (A ++ (B ++ (C ++ L))) = (A ++ B) ++ C ++ L := by simp
        rw [this]
        have : (C ++ (A ++ (B ++ L))) = C ++ (A ++ B) ++ L := by simp
        rw [this]
        exact List.perm_append_comm.append_right L
      refine (List.Perm.append_left C ?_).trans q1.symm
      rw [← List.append_assoc, ← List.append_assoc]
      exact List.perm_append_comm.append_right L
    have h3 := inners_pull.2 (h2.perm p1)
    refine h3.perm ?_
    have p2 : List.Perm (inners (T1 ++ e :: T2) ++ ([pt g (.cells #[.map (some m)] 46), Om m (outer (T1 ++ e :: T2))] ++ L)) ([pt g (.cells #[.map (some m)] 46), Om m (outer (T1 ++ e :: T2))] ++ (inners (T1 ++ e :: T2) ++ L)) := by
      rw [← List.append_assoc, ← List.append_assoc]
      exact List.perm_append_comm.append_right L
    exact p2
theorem Gro.at0 (h : Has w (Gro g m T1 e T2 :: L)) : w.cell? ⟨g, 0, none⟩ = some (.map (some m)) := by
  rw [(Gro.iff.1 h).cells 0]; rfl
theorem Gro.look0 {x : Int} (h : Has w (Gro g m T1 e T2 :: L)) (hx : okK x) : (Instr.lookup tO (.map (some m)) (.int .i64 x) false).run Try.prog w = .ok (.map (fb (outer (T1 ++ e :: T2)) x)) w :=
  Om.look0 (Gro.iff.1 h).p1 hx
end
theorem xNew (w : World) (L : List HP) (hO : Has w L) : Calls Try.prog 8 #[] w fun e w' => ∃ g, e = .returned (gP g) ∧ Has w' (Gx g [] :: L) ∧ Keep w w' :=
  (gNew w L hO).mono fun e w' ⟨g, m, he, h1, h2⟩ => ⟨g, he, Gx.iff.2 ⟨m, [], rfl, h1⟩, h2⟩
theorem xThere (g : Nat) (E : Gph) (x : Int) (w : World) (L : List HP) (hx : okK x) (hO : Has w (Gx g E :: L)) :
    Calls Try.prog 19 #[gP g, .int .i64 x] w fun e w' => e = .returned (.bool (decide (x ∈ ids E))) ∧ w = w' := by
  obtain ⟨m, T, rfl, h⟩ := Gx.iff.1 hO
  rw [← gids_er]
  exact gThere g m T x w L hx h
theorem xAdd (g : Nat) (E : Gph) (x : Int) (w : World) (L : List HP) (hx : okK x) (h1 : 1 ≤ x) (hn : x ∉ ids E) (hl : E.length ≤ 1000) (hO : Has w (Gx g E :: L)) :
    Calls Try.prog 9 #[gP g, .int .i64 x] w fun e w' => e = .returned (.int .i64 0) ∧ Has w' (Gx g (E ++ [(x, [])]) :: L) ∧ Keep w w' := by
  obtain ⟨m, T, rfl, h⟩ := Gx.iff.1 hO
  rw [← gids_er] at hn
  refine (gAdd g m T x w L hx h1 hn (by simpa [er] using hl) h).mono ?_
  rintro e w' ⟨b, he, h2, h3⟩
  exact ⟨he, Gx.iff.2 ⟨m, _, by simp [er], h2⟩, h3⟩
/-! What the closure's loop keeps. -/
structure CI (E : Gph) (is s lf : List Int) : Prop where
  sub : ∀ x ∈ s, Rch E is x
  src : ∀ x ∈ lf, x ∈ is ∨ ∃ y ∈ s, x ∈ nd E y
  all : ∀ x, (x ∈ is ∨ ∃ y ∈ s, x ∈ nd E y) → x ∈ ids E → x ∈ s ∨ x ∈ lf
  ok : ∀ x ∈ lf, okK x
  len : lf.length ≤ is.length + s.length * 100
section
variable {E : Gph} {is s lf ks : List Int} {x : Int}
theorem CI.start (h : ∀ x ∈ is, okK x) : CI E is [] is where
  sub := by simp
  src := fun x hx => .inl hx
  all := fun x hx _ => by simpa using hx
  ok := h
  len := by simp
theorem CI.skip (h : CI E is s (lf ++ [x])) (hx : x ∈ s ∨ x ∉ ids E) : CI E is s lf where
  sub := h.sub
  src := fun y hy => h.src y (List.mem_append_left _ hy)
  all := fun y hy hi => by
    rcases h.all y hy hi with h1 | h1
    · exact .inl h1
    · rcases List.mem_append.1 h1 with h2 | h2
      · exact .inr h2
      · rw [List.mem_singleton] at h2
        subst h2
        rcases hx with hx | hx
        · exact .inl hx
        · exact absurd hi hx
  ok := fun y hy => h.ok y (List.mem_append_left _ hy)
  len := by have := h.len; simp at this; omega
theorem CI.push (h : CI E is s (lf ++ [x])) (hi : x ∈ ids E) (hk : ks.Perm (nd E x)) (hok : ∀ y ∈ ks, okK y) (hl : ks.length ≤ 100) : CI E is (s ++ [x]) (lf ++ ks) where
  sub := fun y hy => by
    rcases List.mem_append.1 hy with hy | hy
    · exact h.sub y hy
    · rw [List.mem_singleton] at hy
      subst hy
      rcases h.src y (by simp) with h1 | ⟨z, hz, h1⟩
      · exact .base y h1 hi
      · exact .step y z (h.sub z hz) h1 hi
  src := fun y hy => by
    rcases List.mem_append.1 hy with hy | hy
    · rcases h.src y (List.mem_append_left _ hy) with h1 | ⟨z, hz, h1⟩
      · exact .inl h1
      · exact .inr ⟨z, List.mem_append_left _ hz, h1⟩
    · exact .inr ⟨x, by simp, hk.mem_iff.1 hy⟩
  all := fun y hy hyi => by
    have key : (y ∈ is ∨ ∃ z ∈ s, y ∈ nd E z) → y ∈ s ++ [x] ∨ y ∈ lf ++ ks := fun h1 => by
      rcases h.all y h1 hyi with h2 | h2
      · exact .inl (List.mem_append_left _ h2)
      · rcases List.mem_append.1 h2 with h3 | h3
        · exact .inr (List.mem_append_left _ h3)
        · exact .inl (List.mem_append_right _ h3)
    rcases hy with h1 | ⟨z, hz, h1⟩
    · exact key (.inl h1)
    · rcases List.mem_append.1 hz with hz | hz
      · exact key (.inr ⟨z, hz, h1⟩)
      · rw [List.mem_singleton] at hz
        subst hz
        exact .inr (List.mem_append_right _ (hk.mem_iff.2 h1))
  ok := fun y hy => by
    rcases List.mem_append.1 hy with hy | hy
    · exact h.ok y (List.mem_append_left _ hy)
    · exact hok y hy
  len := by have := h.len; simp at this ⊢; omega
theorem CI.mem (h : CI E is s []) : ∀ x, x ∈ s ↔ Rch E is x := fun x => ⟨h.sub x, fun hr => by
  induction hr with
  | base x h1 h2 => simpa using h.all x (.inl h1) h2
  | step x y _ h1 h2 ih => simpa using h.all x (.inr ⟨y, ih, h1⟩) h2⟩
end
open Classical in
/-- The closure, in order. -/
noncomputable def clo (E : Gph) (is : List Int) : List Int := sorted ((ids E).filter fun x => decide (Rch E is x))
theorem perm_of_mem {l l' : List Int} (h1 : l.Nodup) (h2 : l'.Nodup) (h : ∀ x, x ∈ l ↔ x ∈ l') : l.Perm l' := by
  rw [List.perm_iff_count]
  intro a
  rw [h1.count, h2.count]
  simp only [h a]
theorem nodup_len {l : List Int} : ∀ {l' : List Int}, l.Nodup → (∀ x ∈ l, x ∈ l') → l.length ≤ l'.length := by
  induction l with
  | nil => intro l' _ _; simp
  | cons x l ih =>
    intro l' hn hs
    rw [List.nodup_cons] at hn
    have hx : x ∈ l' := hs x (by simp)
    have h1 := ih (l' := l'.erase x) hn.2 fun y hy => by
      have hne : y ≠ x := by rintro rfl; exact hn.1 hy
      exact (List.mem_erase_of_ne hne).2 (hs y (by simp [hy]))
    rw [List.length_erase_of_mem hx] at h1
    have : 0 < l'.length := List.length_pos_of_mem hx
    simp only [List.length_cons]
    omega
open Classical in
theorem clo_mem (E : Gph) (is : List Int) (x : Int) : x ∈ clo E is ↔ Rch E is x := by
  unfold clo
  rw [(sorted_perm _).mem_iff, List.mem_filter, decide_eq_true_iff]
  exact ⟨fun h => h.2, fun h => ⟨h.there, h⟩⟩
open Classical in
theorem clo_nodup (E : Gph) (is : List Int) (h : (ids E).Nodup) : (clo E is).Nodup := by
  unfold clo
  exact (sorted_perm _).nodup_iff.2 (h.sublist List.filter_sublist)
open Classical in
theorem clo_of {E : Gph} {is s : List Int} (hE : (ids E).Nodup) (hs : s.Nodup) (h : ∀ x, x ∈ s ↔ Rch E is x) : sorted s = clo E is := by
  unfold clo
  refine sorted_congr (perm_of_mem hs (hE.sublist List.filter_sublist) fun x => ?_)
  rw [h, List.mem_filter, decide_eq_true_iff]
  exact ⟨fun h => ⟨h.there, h⟩, fun h => h.2⟩
/-- How many entries a map has, read off the world. -/
def mapSz (w : World) (b : Nat) : Nat := match w.heap[b]? with
  | some (.map es _) => es.size
  | _ => 0
theorem Ns.sz {w : World} {L : List HP} {b : Nat} {s : List Int} (h : Has w (Ns b s :: L)) : mapSz w b = s.length := by
  obtain ⟨D, h1, h2⟩ := Ns.iff.1 h
  obtain ⟨es, clock, ⟨F, rfl⟩, h3⟩ := Mp.iff.1 h2
  unfold mapSz
  rw [h3.lookup]
  have h4 := h1.size
  rw [Maps.size_eq, length_read, List.length_map] at h4
  exact h4
def lenV : Value → Nat
  | .slice _ n _ => n
  | _ => 0
end Go.Proofs.Ytajnhggcaiakeaa
/- THE WALKS of what the statements share on lists of numbers. -/
namespace Go.Proofs.Ytajnhggcaiakeaa
open Go.RowKit Go.Own
theorem sameInts (a b : Value) (xs ys : List Int) (w : World) (ha : Rd w a 1 xs.length (ic xs)) (hb : Rd w b 1 ys.length (ic ys)) :
    Calls Try.prog 14 #[a, b] w fun e w' => e = .returned (.bool (decide (xs = ys))) ∧ ∃ n, w' = w.drewN n := by
  obtain ⟨pa, ca, rfl, hca, hla, hra⟩ := ha.form
  obtain ⟨pb, cb, rfl, hcb, hlb, hrb⟩ := hb.form
  have Hra := hid hra
  have Hrb := hid hrb
  clear hra hrb ha hb
  by_cases hl : xs.length = ys.length
  · have ht : ((xs.length : Int) != (ys.length : Int)) = false := by simp [hl]
    have Hl := hid hl
    clear hl
    go_enter Try.func14, Try.ntmps14
    go_wp2
    go_loopw [5] (fun i w' => ∃ k m : Nat, k ≤ xs.length ∧ i = .int .i64 k ∧ w' = w.drewN m ∧ Hid (∀ j, j < k → xs[j]? = ys[j]?)) (fun i _ => xs.length - (intOf i).toNat)
    case atStart => exact ⟨0, 0, by omega, rfl, rfl, hid (by omega)⟩
    case round =>
      obtain ⟨k, m, hk, rfl, rfl, HN⟩ := hrel
      by_cases hlt : k < xs.length
      · have hky : k < ys.length := by have := Hl.out; omega
        obtain ⟨ga, oa, rfl, ra⟩ := Hra.out (by omega)
        obtain ⟨gb, ob, rfl, rb⟩ := Hrb.out (by omega)
        have h1 : w.cell? ⟨ga, oa + k, none⟩ = some (.int .i64 xs[k]) := by rw [ra k (by omega), ic_at xs k hlt]
        have h2 : w.cell? ⟨gb, ob + k, none⟩ = some (.int .i64 ys[k]) := by rw [rb k (by omega), ic_at ys k hky]
        clear ra rb
        rcases he : (xs[k] != ys[k]) with _ | _
        · have HE := hid he
          go_wp2
          go_quiet (fail)
          go_wp2
          go_roundw
          case rel =>
            refine ⟨k + 1, _, by omega, by go_num, rfl, hid fun j hj => ?_⟩
            by_cases hjk : j = k
            · subst hjk
              have := HE.out
              rw [List.getElem?_eq_getElem hlt, List.getElem?_eq_getElem hky]
              simpa using this
            · exact HN.out j (by omega)
          case measure => simp [intOf]; omega
        · have HE := hid he
          go_wp2
          go_quiet (fail)
          go_wp2
          go_ret
          refine ⟨?_, _, World.drewN_drewN ..⟩
          have hne : xs ≠ ys := by
            intro e
            have := HE.out
            subst e
            simp at this
          simp [hne]
      · go_wp2
        go_ret
        refine ⟨?_, _, rfl⟩
        have he : xs = ys := by
          apply List.ext_getElem?
          intro j
          by_cases hj : j < k
          · exact HN.out j hj
          · have := Hl.out
            rw [List.getElem?_eq_none (by omega), List.getElem?_eq_none (by omega)]
        simp [he]
  · have ht : ((xs.length : Int) != (ys.length : Int)) = true := by simp; omega
    have Hl := hid hl
    clear hl
    go_enter Try.func14, Try.ntmps14
    go_wp2
    go_ret
    refine ⟨?_, 0, rfl⟩
    have hne : xs ≠ ys := by
      intro e
      exact Hl.out (by rw [e])
    simp [hne]
theorem sameIntsYes (a b : Value) (xs : List Int) (w : World) (ha : Rd w a 1 xs.length (ic xs)) (hb : Rd w b 1 xs.length (ic xs)) :
    Calls Try.prog 14 #[a, b] w fun e w' => e = .returned (.bool true) ∧ ∃ n, w' = w.drewN n :=
  (sameInts a b xs xs w ha hb).mono fun e w' ⟨h1, h2⟩ => ⟨by simpa using h1, h2⟩
end Go.Proofs.Ytajnhggcaiakeaa
/- THE WALKS of slices.Clone. -/
namespace Go.Proofs.Ytajnhggcaiakeaa
open Go.RowKit Go.Own
theorem cloneInts (v : Value) (xs : List Int) (w : World) (L : List HP) (hO : Has w L) (hr : Rd w v 1 xs.length (ic xs)) (hsm : xs.length ≤ 1000000000) :
    Calls Try.prog 21 #[v] w fun e w' => ∃ v', e = .returned v' ∧ Has w' (Ints v' xs :: L) ∧ Keep w w' ∧ nilS v' = nilS v := by
  obtain ⟨p, cap, rfl, hca, hla, hra⟩ := hr.form
  have Hra := hid hra
  have Hr := hid hr
  have HO := hid hO
  clear hO hra hr
  rcases p with _ | ad
  · have hz : xs = [] := by
      rcases Nat.eq_zero_or_pos xs.length with h | h
      · exact List.eq_nil_of_length_eq_zero h
      · obtain ⟨g, o, h1, -⟩ := Hra.out (by omega)
        cases h1
    subst hz
    have hnil := Lib.run_eql_slice_nil w 22 3 none 0 cap 0 0 Try.underlying22
    simp only [Option.isNone] at hnil
    go_enter Try.func21, Try.ntmps21
    go_wp2
    go_ret
    exact ⟨_, rfl, HO.out.row_nil _ _, Keep.refl _, rfl⟩
  · have hnil := Lib.run_eql_slice_nil w 22 3 (some ad) xs.length cap 0 0 Try.underlying22
    simp only [Option.isNone] at hnil
    go_enter Try.func21, Try.ntmps21
    go_wp2_with (at_builtin; refine wpList_append_rd rfl _ _ _ rfl Try.underlying22 infoInt rfl ((HO.out.alloc (.cells #[] 3)).row_of (n := 0) (cap := 0) (Nat.le_refl _) (Nat.zero_le _) rfl rfl rfl) rfl ad xs.length cap (ic xs) rfl (Hr.out.alloc _) (ic_one xs) (le_maxLen (by omega)) (by omega) ?_)
    intro v' w' hO' hK' hN
    have HO' := hid hO'
    have HK' := hid hK'
    have HN := hid hN
    clear hO' hK' hN
    go_wp2_with fail
    go_ret
    refine ⟨_, rfl, ?_, ((Keep.refl _).alloc _).trans HK'.out, ?_⟩
    · have := HO'.out
      simpa [Ints] using this
    · exact HO'.out.row_nilS HN.out
end Go.Proofs.Ytajnhggcaiakeaa
/- A POOL OF BYTES that nobody writes any more: many slices, each with its own block, owned together. No program in sight. -/
namespace Go.Own
open Go.RowKit
/-- Each pair of the list: a slice value and its bytes. -/
def poolc (u8 : TypeId) (B : List (Value × List Int)) : HP := star (B.map fun x => row x.1 u8 1 x.2.length (bc x.2))
section
variable {w : World} {l : List HP} {u8 : TypeId} {B : List (Value × List Int)}
theorem Has.pool_open {x : Value × List Int} (h : Has w (poolc u8 B :: l)) (hx : x ∈ B) : ∃ m, Has w (row x.1 u8 1 x.2.length (bc x.2) :: m) := by
  obtain ⟨s, t, rfl⟩ := List.append_of_mem hx
  have h1 := Has.star_iff.1 h
  rw [List.map_append, List.map_cons, List.append_assoc, List.cons_append] at h1
  exact ⟨_, h1.perm List.perm_middle⟩
theorem Has.pool_rd {x : Value × List Int} (h : Has w (poolc u8 B :: l)) (hx : x ∈ B) : Rd w x.1 1 x.2.length (bc x.2) := by
  obtain ⟨m, hm⟩ := h.pool_open hx
  exact hm.rd
theorem Has.pool_nil (h : Has w l) : Has w (poolc u8 [] :: l) := Has.star_iff.2 h
theorem Has.pool_add {v : Value} {xs : List Int} (h : Has w (row v u8 1 xs.length (bc xs) :: poolc u8 B :: l)) : Has w (poolc u8 ((v, xs) :: B) :: l) := by
  refine Has.star_iff.2 ?_
  rw [List.map_cons, List.cons_append]
  have := h.p1
  have h2 := Has.star_iff.1 this
  exact h2.perm List.perm_middle
theorem Has.pool_snoc {v : Value} {xs : List Int} (h : Has w (row v u8 1 xs.length (bc xs) :: poolc u8 B :: l)) : Has w (poolc u8 (B ++ [(v, xs)]) :: l) := by
  refine Has.star_iff.2 ?_
  have h2 := Has.star_iff.1 h.p1
  rw [List.map_append, List.append_assoc]
  exact h2
theorem set_perm {α : Type _} : ∀ (F : List α) (k : Nat) (hk : k < F.length) (y : α), (F.set k y).Perm (y :: F.eraseIdx k)
  | _ :: _, 0, _, _ => .refl _
  | a :: F, k + 1, hk, y => ((set_perm F k (by simpa using hk) y).cons a).trans (.swap _ _ _)
theorem Has.poolPerm {B' : List (Value × List Int)} (h : Has w (poolc u8 B :: l)) (hp : B.Perm B') : Has w (poolc u8 B' :: l) := by
  refine Has.star_iff.2 ((Has.star_iff.1 h).perm ?_)
  exact (hp.map _).append_right l
/-- One text is taken out. -/
theorem Has.pool_out (h : Has w (poolc u8 B :: l)) (k : Nat) (hk : k < B.length) : Has w (row B[k].1 u8 1 B[k].2.length (bc B[k].2) :: poolc u8 (B.eraseIdx k) :: l) := by
  have := h.poolPerm (perm_pull B k hk)
  have h2 := Has.star_iff.1 this
  exact (Has.star_iff.2 (show Has w (((B.eraseIdx k).map fun x => row x.1 u8 1 x.2.length (bc x.2)) ++ (row B[k].1 u8 1 B[k].2.length (bc B[k].2) :: l)) from h2.perm List.perm_middle.symm)).p1
/-- Another comes in its place. -/
theorem Has.pool_in {k : Nat} {v : Value} {xs : List Int} (hk : k < B.length) (h : Has w (row v u8 1 xs.length (bc xs) :: poolc u8 (B.eraseIdx k) :: l)) : Has w (poolc u8 (B.set k (v, xs)) :: l) :=
  h.pool_add.poolPerm (set_perm B k hk (v, xs)).symm
end
end Go.Own
/- CHUNKS SELECTED AND ORDERED by a list of their places. No program in sight. -/
namespace Go.Own
def pickE : List Nat → List HP → List HP
  | [], _ => []
  | i :: is, l => l[i]?.getD emp :: pickE is (l.set i emp)
theorem Has.out1 {w : World} {l m : List HP} (i : Nat) (h : Has w (l ++ m)) : Has w (l[i]?.getD emp :: (l.set i emp ++ m)) := by
  by_cases hi : i < l.length
  · rw [List.getElem?_eq_getElem hi, Option.getD_some]
    have h1 : Has w (l[i] :: (l.eraseIdx i ++ m)) := h.perm ((perm_pull l i hi).append_right m)
    have h2 : Has w (emp :: l[i] :: (l.eraseIdx i ++ m)) := Has.emp_iff.2 h1
    exact h2.p1.perm (((set_perm l i hi emp).symm.append_right m).cons _)
  · rw [List.getElem?_eq_none (by omega), Option.getD_none, List.set_eq_of_length_le (by omega)]
    exact Has.emp_iff.2 h
theorem Has.dropAll {w : World} {m : List HP} : ∀ (l : List HP), Has w (l ++ m) → Has w m
  | [], h => h
  | _ :: l, h => Has.dropAll l h.drop
theorem Has.reIn {w : World} {m : List HP} : ∀ (is : List Nat) (acc l : List HP), Has w (acc ++ (l ++ m)) → Has w (acc ++ (pickE is l ++ m))
  | [], acc, l, h => by
    unfold pickE
    rw [List.nil_append]
    have : Has w (l ++ (acc ++ m)) := h.perm (List.perm_append_comm_assoc _ _ _)
    exact this.dropAll
  | i :: is, acc, l, h => by
    unfold pickE
    have h1 : Has w (l ++ (acc ++ m)) := h.perm (List.perm_append_comm_assoc _ _ _)
    have h2 := h1.out1 i
    have h3 : Has w ((acc ++ [l[i]?.getD emp]) ++ (l.set i emp ++ m)) := by
      rw [List.append_assoc, List.singleton_append]
      exact h2.perm (((List.perm_append_comm_assoc _ _ _).cons _).trans List.perm_middle.symm)
    have h4 := Has.reIn is _ _ h3
    rw [List.append_assoc, List.singleton_append] at h4
    exact h4
/-- Of the first n chunks those at the places 'is', in that order; the rest of the first n are let go. -/
theorem Has.re {w : World} {l : List HP} (n : Nat) (is : List Nat) (h : Has w l) : Has w (pickE is (l.take n) ++ l.drop n) :=
  Has.reIn is [] _ (by rw [List.nil_append, List.take_append_drop]; exact h)
example {w : World} {a b c d : HP} {L : List HP} (h : Has w (a :: b :: c :: d :: L)) : Has w (c :: a :: d :: L) := h.re 3 [2, 0]
end Go.Own
/- THE WALK of a graph's Closure. -/
namespace Go.Proofs.Ytajnhggcaiakeaa
open Go.RowKit Go.Own Go.Maps Go.ChangeMaps Go.Own.Dp
set_option maxRecDepth 100000 in
set_option maxHeartbeats 8000000 in
theorem xClosure (g : Nat) (E : Gph) (v : Value) (is : List Int) (w : World) (L : List HP) (hok : ∀ x ∈ is, okK x) (hil : is.length ≤ 1000) (hE : E.length ≤ 100) (hnd : ∀ x, (nd E x).length ≤ 100)
    (hr : Rd w v 1 is.length (ic is)) (hO : Has w (Gx g E :: L)) :
    Calls Try.prog 13 #[gP g, v] w fun e w' => ∃ v', e = .returned v' ∧ Has w' (Ints v' (clo E is) :: Gx g E :: L) ∧ Keep w w' := by
  obtain ⟨m, T, rfl, hh⟩ := Gx.iff.1 hO
  have hTE : T.length ≤ 100 := by simpa [er] using hE
  obtain ⟨vp, vc, rfl, -⟩ := hr.form
  have HO := hid hh
  have HR := hid hr
  have HK := hid hok
  have HND := hid hnd
  have HT := hid hTE
  have HI := hid hil
  clear hO hr hok hnd hTE hil hE hh
  have hmm := @run_makeMap Try.prog
  go_enter Try.func13, Try.ntmps13
  go_wp2_with fail
  go_step3
  go_wp2_with fail
  have HO1 := hid (show Has (w.alloc (.map #[] 0)) (Ns w.heap.size [] :: Gr g m T :: L) from Ns.iff.2 ⟨_, Al.nil, HO.out.mapMade Try.prog tI rI⟩)
  have HK1 := hid ((Keep.refl w).alloc (.map #[] 0))
  have HR1 := hid (HR.out.alloc (.map #[] 0))
  clear HO HR
  generalize w.alloc (.map #[] 0) = w1 at *
  generalize w.heap.size = sb at *
  refine (cloneInts (.slice vp is.length vc) is w1 _ HO1.out HR1.out (by have := HI.out; omega)).mono ?_
  rintro e w2 ⟨v2, rfl, hO2, hK2, -⟩
  have HO2 := hid hO2
  have HK2 := hid (HK1.out.trans hK2)
  obtain ⟨vp2, vc2, hv2, -⟩ := (Ints.rd hO2).form
  have HV2 := hid hv2
  subst hv2
  clear hO2 hK2 HV2 HO1 HK1 HR1
  try dsimp only
  go_wp2_with fail
  go_step3
  go_wp2_with fail
  go_loopw [6] (fun v wr => ∃ (s lf : List Int), Hid (CI (er T) is s lf) ∧ (∃ p c, v = .slice p lf.length c) ∧ Hid (Has wr (Ints v lf :: Ns sb s :: Gr g m T :: L)) ∧ Hid (Keep w wr)) (fun v wr => (T.length - mapSz wr sb) * 101 + lenV v)
  case atStart => exact ⟨[], is, hid (CI.start HK.out), ⟨_, _, rfl⟩, hid HO2.out, HK2⟩
  case round =>
    clear HO2 HK2
    obtain ⟨s, lf, HC, ⟨vp, vc, rfl⟩, HO, HKW⟩ := hrel
    have hsl : s.length ≤ 100 := by
      have h1 := (Ns.nodup HO.out.p1)
      have h2 : s.length ≤ (gids T).length := nodup_len h1 fun y hy => by rw [gids_er]; exact (HC.out.sub y hy).there
      have h3 : (gids T).length = T.length := by simp [gids]
      have := HT.out
      omega
    have HSL := hid hsl
    clear hsl
    rcases List.eq_nil_or_concat lf with rfl | ⟨lf, x, rfl⟩
    · have hz : ¬ (0 : Int) < (([] : List Int).length : Int) := by simp
      go_wp2_with fail
      refine (keysN sb wr).mono ?_
      rintro e w' ⟨rfl, rfl⟩
      go_wp2_with fail
      refine (sortedN sb s wr _ (by have := HSL.out; omega) HO.out.p1).mono ?_
      rintro e w3 ⟨v3, rfl, hO3, hK3⟩
      rw [clo_of (by rw [← gids_er]; exact Gr.nodup HO.out.p2) (Ns.nodup HO.out.p1) HC.out.mem] at hO3
      have HO3 := hid hO3
      have HK3 := hid (HKW.out.trans hK3)
      clear hO3 hK3
      obtain ⟨vp3, vc3, e3, -⟩ := (Ints.rd HO3.out).form
      subst e3
      try dsimp only
      go_wp2_with fail
      rw [Exit.noGoto_ret]
      go_ret
      exact ⟨_, rfl, (show Has w3 (Gx g (er T) :: Ints _ (clo (er T) is) :: L) from Gx.iff.2 ⟨m, T, rfl, (HO3.out.keep [true, false, false, true]).p1⟩).p1, HK3.out⟩
    · rw [List.concat_eq_append] at *
      have hlen : (lf ++ [x]).length = lf.length + 1 := by simp
      rw [hlen] at HO ⊢
      obtain ⟨-, ⟨e, -⟩ | ⟨g', cap, cur, e, -⟩⟩ := Has.row_cases (show Has wr (row (.slice vp (lf.length + 1) vc) tI 1 (lf ++ [x]).length (ic (lf ++ [x])) :: _) from HO.out)
      · simp at e
      simp only [Value.slice.injEq, true_and] at e
      obtain ⟨rfl, -, rfl⟩ := e
      have hcell : wr.cell? ⟨g', lf.length, none⟩ = some (.int .i64 x) := by
        rw [(Has.row_cells HO.out).2.1 lf.length (by rw [hlen]; omega), ic_snoc, List.getElem?_append_right (by rw [ic_len]; exact Nat.le_refl _), ic_len]
        simp
      have HX := hid (HC.out.ok x (by simp))
      have hkc : lf.length ≤ vc := by have := (Has.row_cells HO.out).2.2.2.1; rw [hlen] at this; omega
      have hlook := Ns.look HO.out.p1 HX.out
      have HL := hid hlen
      have HLE := hid (show Has wr (Ints (.slice (some ⟨g', 0, none⟩) lf.length vc) lf :: Ns sb s :: Gr g m T :: L) from by
        have h := Has.row_take HO.out lf.length (by rw [hlen]; omega)
        rw [ic_snoc, List.take_append_of_le_length (by rw [ic_len]; omega), List.take_of_length_le (by rw [ic_len]; omega)] at h
        exact h)
      have hME := (Ns.sz HO.out.p1)
      have HME := hid hME
      clear hlen hME
      have HKK := hid (rfl : lf.length = lf.length)
      revert HKK
      generalize hk : lf.length = k at HO HLE HL hcell hkc ⊢
      intro _
      have HKK := hid hk
      clear hk
      have hk0 : (0 : Int) ≤ (k : Int) := by omega
      have hk3 : (k : Int) ≤ 100000 := by have h1 := HC.out.len; have h2 := HL.out; have h3 := HSL.out; have h4 := HI.out; omega
      have hk1 : (0 : Int) < (k : Int) + 1 := by omega
      have hk2 : (k : Int) < (k : Int) + 1 := by omega
      by_cases hxs : x ∈ s
      · rw [if_pos hxs, decide_eq_true hxs] at hlook
        have HXS := hid hxs
        clear hxs
        go_wp2_with fail
        exact ⟨⟨s, lf, hid (HC.out.skip (.inl HXS.out)), ⟨_, _, by rw [HKK.out]⟩, HLE, HKW⟩, by rw [HME.out]; simp [lenV]⟩
      · rw [if_neg hxs, decide_eq_false hxs] at hlook
        have HXS := hid hxs
        clear hxs
        have hth := gThere g m T x wr _ HX.out HLE.out.p2
        by_cases hxT : x ∈ gids T
        · rw [decide_eq_true hxT] at hth
          obtain ⟨T1, b, sx, T2, rfl, hfb, hndx, h1, h2⟩ := Gr.split HLE.out.p2 hxT
          have HXT := hid hxT
          have HFB := hid hfb
          have HNX := hid hndx
          clear hxT hfb hndx h1 h2
          go_wp2_with fail
          refine (hth).mono ?_
          rintro e w' ⟨rfl, rfl⟩
          try dsimp only
          clear hlook hcell hth HO
          have HSP := hid (show Has wr (Ns sb s :: Gro g m T1 (x, b, sx) T2 :: Ints (.slice (some ⟨g', 0, none⟩) k vc) lf :: Ns b sx :: L) from by
            have h := Gr.pull.1 HLE.out.p2
            exact h.re 4 [3, 1, 2, 0])
          go_wp2_with (at_mapUpdate; refine wpList_nsPut (b := sb) (s := s) _ HSP.out (by have := HSL.out; omega) rfl _ _ _ rfl rfl x HX.out rfl rfl ?_; rw [if_neg HXS.out]; intro w5 hO5 hK5; have hc5 := Gro.at0 hO5.p1; have hl5 := Gro.look0 hO5.p1 HX.out; rw [HFB.out] at hl5)
          have HO5 := hid hO5
          have HK5 := hid (HKW.out.trans hK5)
          clear hO5 hK5 hc5 hl5 HSP
          refine (keysN b w5).mono ?_
          rintro e w6 ⟨rfl, rfl⟩
          try dsimp only
          have hsl : sx.length ≤ 100 := by rw [← HNX.out]; exact HND.out x
          have HSX := hid hsl
          clear hsl
          go_wp2_with fail
          refine (appendKeys (.slice (some ⟨g', 0, none⟩) k vc) lf b sx w5 _ (by have h1 := HKK.out; have h2 := HSX.out; omega) (HO5.out.re 4 [2, 3, 0, 1])).mono ?_
          rintro e w7 ⟨v7, ks, rfl, hks, hO7, hK7⟩
          have HO7 := hid hO7
          have HK7 := hid (HK5.out.trans hK7)
          have HKS := hid hks
          clear hO7 hK7 hks
          obtain ⟨vp7, vc7, e7, -⟩ := (Ints.rd HO7.out).form
          subst e7
          try dsimp only
          go_wp2_with fail
          have HG7 := hid (show Has w7 (Ints (.slice vp7 (lf ++ ks).length vc7) (lf ++ ks) :: Ns sb (s ++ [x]) :: Gr g m (T1 ++ (x, b, sx) :: T2) :: L) from (show Has w7 (Gr g m (T1 ++ (x, b, sx) :: T2) :: Ints (.slice vp7 (lf ++ ks).length vc7) (lf ++ ks) :: Ns sb (s ++ [x]) :: L) from Gr.pull.2 (HO7.out.re 4 [1, 3, 0, 2])).re 3 [1, 2, 0])
          have hkl : ks.length ≤ 100 := by rw [HKS.out.length_eq]; exact HSX.out
          have hIk : ∀ y ∈ ks, okK y := fun y hy => Ns.ok HO7.out.p1 (HKS.out.mem_iff.1 hy)
          refine ⟨⟨s ++ [x], lf ++ ks, hid (HC.out.push (by rw [← gids_er]; exact HXT.out) (by rw [HNX.out]; exact HKS.out) hIk hkl), ⟨_, _, rfl⟩, HG7, HK7⟩, ?_⟩
          have hsz := Ns.sz HG7.out.p1
          have hs2 : (s ++ [x]).length ≤ (T1 ++ (x, b, sx) :: T2).length := by
            have h1 : (s ++ [x]).length ≤ (gids (T1 ++ (x, b, sx) :: T2)).length := nodup_len (Ns.nodup HG7.out.p1) fun y hy => by
              rcases List.mem_append.1 hy with hy | hy
              · rw [gids_er]; exact (HC.out.sub y hy).there
              · rw [List.mem_singleton] at hy; rw [hy]; exact HXT.out
            simpa [gids] using h1
          rw [hsz, HME.out]
          have h3 := HKK.out
          simp only [lenV, List.length_append, List.length_singleton] at *
          omega
        · rw [decide_eq_false hxT] at hth
          have HXT := hid hxT
          clear hxT
          go_wp2_with fail
          refine (hth).mono ?_
          rintro e w' ⟨rfl, rfl⟩
          try dsimp only
          go_wp2_with fail
          exact ⟨⟨s, lf, hid (HC.out.skip (.inr (by rw [← gids_er]; exact HXT.out))), ⟨_, _, by rw [HKK.out]⟩, HLE, HKW⟩, by rw [HME.out]; simp [lenV]⟩
end Go.Proofs.Ytajnhggcaiakeaa
