/- TEXTS of mine, merged. -/
import Derived.Test.YtfhaedkaedffcaaGreatDoorM11
import Derived.Test.YtfhaedkaedffcaaGreatDoorM9
import Derived.Test.YtfhaedkaedffcaaGreatDoorM1
import Derived.Shelf.GgSortFunc.InsertionK
import Derived.Test.YtfhaedkaedffcaaGreatDoorM10
/- Plain facts of the small trees of the laws: the root alone; one file f. No program in sight. -/
namespace Go.Proofs.YtfhaedkaedffcaaGreatDoor
open Go.RowKit Go.Own
abbrev nF : Str := [102]
abbrev pF : Str := [47, 102]
def root0 : Nod := ⟨2, [], [], [], 0, 1, 0⟩
def rootF : Nod := ⟨2, [], [], [(nF, 2)], 1, 1, 0⟩
def fileF (d : List Int) (wr : List Bool) : Nod := ⟨1, d, wr, [], 0, 1, 0⟩
/-- The root, and a file f. -/
def trF (d : List Int) (wr : List Bool) (T : List Tb.Slot) : Tre := ⟨[(1, rootF), (2, fileF d wr)], 2, T⟩
theorem splitM_root : splitM [47] = ([], 0) := by decide +kernel
theorem splitM_f : splitM pF = ([nF], 0) := by decide +kernel
theorem lastM_f : lastM pF = ([47], nF, 0) := by decide +kernel
theorem find_root (S : Tre) (fo : Bool) : S.find [47] fo = (⟨1, 0, []⟩, 0) := by
  unfold Tre.find
  rw [splitM_root, if_neg (by simp), Tre.walk]
section
variable {d : List Int} {wr : List Bool} {T : List Tb.Slot}
theorem trF_1 : fnd (trF d wr T).nodes 1 = some rootF := rfl
theorem trF_2 : fnd (trF d wr T).nodes 2 = some (fileF d wr) := rfl
theorem trF_all {n : Int} {x : Nod} (h : fnd (trF d wr T).nodes n = some x) : (n = 1 ∧ x = rootF) ∨ (n = 2 ∧ x = fileF d wr) := by
  have := fnd_some h
  simp only [trF, List.mem_cons, Prod.mk.injEq, List.not_mem_nil, or_false] at this
  exact this
theorem trF_names {n : Int} {x : Nod} (h : fnd (trF d wr T).nodes n = some x) {p : Str} {c : Int} (hc : fnd x.names p = some c) : c = 2 := by
  rcases trF_all h with ⟨-, rfl⟩ | ⟨-, rfl⟩
  · have := fnd_some hc
    simp only [rootF, List.mem_singleton, Prod.mk.injEq] at this
    exact this.2
  · simp [fileF, fnd] at hc
theorem wkF (hd : d.length ≤ 100000) : Wk (trF d wr T) where
  root := ⟨_, trF_1⟩
  child n x h p c hc := by rw [trF_names h hc]; exact ⟨_, trF_2⟩
  above n x h h0 := by
    rcases trF_all h with ⟨-, rfl⟩ | ⟨-, rfl⟩ <;> exact absurd rfl h0
  data n x h hk := by
    rcases trF_all h with ⟨-, rfl⟩ | ⟨-, rfl⟩
    · simp [rootF]
    · exact hd
theorem wyF : Wy (trF d wr T) (fun _ => 0) where
  rank n x h h1 h0 := by
    rcases trF_all h with ⟨-, rfl⟩ | ⟨-, rfl⟩ <;> exact absurd rfl h0
  low _ := by omega
theorem opbF (hd : d.length ≤ 100000) (hw : wr.length ≤ 100000) : Opb (trF d wr T) where
  last0 := by show (0 : Int) ≤ 2; decide
  last1 := by show (2 : Int) < 1000000; decide
  free := rfl
  many := by show 2 < 1000000; decide
  zero := rfl
  small n x h := by
    rcases trF_all h with ⟨-, rfl⟩ | ⟨-, rfl⟩
    · exact ⟨by simp [rootF], by simp [rootF], by simp [rootF]⟩
    · exact ⟨hd, hw, by simp [fileF]⟩
/-- What stands in the table: the file alone, somewhere. -/
def TabF (T : List Tb.Slot) : Prop := ∀ s ∈ T, s.on = true → s.node = 2 ∧ 0 ≤ s.off ∧ s.off ≤ 2000000000000
theorem look_mem {T : List Tb.Slot} {fd : Int} {s : Tb.Slot} (h : Tb.look T fd = some s) : s ∈ T ∧ s.on = true := by
  unfold Tb.look at h
  by_cases hr : 0 ≤ fd ∧ fd < 16
  · rw [if_pos hr] at h
    cases ht : T[fd.toNat]? with
    | none => rw [ht] at h; cases h
    | some t =>
      rw [ht] at h
      dsimp only at h
      by_cases hon : t.on = true
      · rw [if_pos hon] at h
        cases h
        exact ⟨List.mem_of_getElem? ht, hon⟩
      · rw [if_neg hon] at h; cases h
  · rw [if_neg hr] at h; cases h
theorem opnF (hT : TabF T) (hd : d.length ≤ 100000) (hw : wr.length ≤ 100000) : Opn (trF d wr T) where
  there fd s h := by
    obtain ⟨h1, h2⟩ := look_mem h
    rw [(hT s h1 h2).1]
    exact ⟨_, trF_2⟩
  off fd s h := by
    obtain ⟨h1, h2⟩ := look_mem h
    exact (hT s h1 h2).2
  data n x h := by
    rcases trF_all h with ⟨-, rfl⟩ | ⟨-, rfl⟩
    · simp [rootF]
    · exact hd
  wr n x h := by
    rcases trF_all h with ⟨-, rfl⟩ | ⟨-, rfl⟩
    · simp [rootF]
    · exact hw
theorem find_f : (trF d wr T).find pF true = (⟨2, 1, nF⟩, 0) := by
  unfold Tre.find
  rw [splitM_f, if_neg (by simp)]
  show (trF d wr T).walk ⟨1, 0, []⟩ 0 [nF] true = _
  rw [Tre.walk, if_neg (by show ¬ ((2 : Int) ≠ 2); decide), if_neg (by decide)]
  show (if _ then _ else (trF d wr T).walk ⟨2, 1, nF⟩ 0 [] true) = _
  rw [if_neg (by show ¬ ((1 : Int) = 3 ∧ _); simp), Tre.walk]
end
end Go.Proofs.YtfhaedkaedffcaaGreatDoor
/- THE WALK of cmp.Or of two strings. -/
namespace Go.Proofs.YtfhaedkaedffcaaGreatDoor
open Go.RowKit Go.Own
def orM (p : Str) : Str := if p = [] then [47] else p
set_option maxRecDepth 100000 in
theorem cmpOr (g : Nat) (p : Str) (w : World) (h0 : w.cell? ⟨g, 0, none⟩ = some (sV p)) (h1 : w.cell? ⟨g, 1, none⟩ = some (sV [47])) : Calls Tryz.prog 60 #[.slice (some ⟨g, 0, none⟩) 2 2] w fun e w' => e = .returned (sV (orM p)) ∧ w = w' := by
  go_enter Tryz.func60, Tryz.ntmps60
  go_wp2_with fail
  go_loopw [8] (fun kv w' => w' = w ∧ ((kv = .int .i64 0) ∨ (kv = .int .i64 1 ∧ p = []))) (fun kv _ => 2 - (intOf kv).toNat)
  case atStart => exact ⟨rfl, .inl rfl⟩
  case round =>
    obtain ⟨rfl, rfl | ⟨rfl, rfl⟩⟩ := hrel
    · by_cases hp : p = []
      · subst hp
        go_wp2_with fail
        exact ⟨⟨trivial, .inr ⟨rfl, trivial⟩⟩, by simp [intOf]⟩
      · have HR := hid (show orM p = p from if_neg hp)
        have he : p.isEmpty = false := by simpa using hp
        have he2 : (p == []) = false := by simpa using hp
        have he3 : (p != []) = true := by simpa using hp
        clear hp
        go_wp2_with fail
        try rw [Exit.noGoto_ret]
        go_ret
        rw [HR.out]
        exact ⟨rfl, rfl⟩
    · have HR := hid (show orM [] = [47] from rfl)
      go_wp2_with fail
      try rw [Exit.noGoto_ret]
      go_ret
      rw [HR.out]
      exact ⟨rfl, rfl⟩
end Go.Proofs.YtfhaedkaedffcaaGreatDoor
/- A range over no map. -/
namespace Go.Proofs.YtfhaedkaedffcaaGreatDoor
open Go.RowKit Go.Own
theorem range_nil (w : World) : (Instr.range tNm (.map none)).run Tryz.prog w = .ok (.pointer (some ⟨w.heap.size, 0, none⟩)) (w.alloc (.mapIter none 0 #[] 0)) := by
  unfold Instr.range
  simp only [Sem.run_bind, run_underlying undNm, Result.andThen_ok, Sem.run_pure]
  rfl
theorem next_nil (r : Nat) (w : World) (T : TypeId) (h : w.heap[r]? = some (.mapIter none 0 #[] 0)) : (Instr.next (.pointer (some ⟨r, 0, none⟩)) false T).run Tryz.prog w = .ok (.tuple #[.bool false]) w := by
  unfold Instr.next
  have e : (getObj r).run Tryz.prog w = .ok (.mapIter none 0 #[] 0) w := by
    simp [getObj, Sem.run, h]
  simp only [Sem.run_bind, e, Result.andThen_ok, Sem.run_pure]
end Go.Proofs.YtfhaedkaedffcaaGreatDoor
/- append of one element of more cells. No program in sight. -/
namespace Go.Own
open Go.RowKit
/-- 'append(s, u)' of one element of more cells. -/
theorem wpList_appendS {P : Program} {w : World} {l : List HP} {v : Value} {e : TypeId} {size n : Nat} {xs : List Value} {ops : Array Oper} {rest : List Oper} {o : Oper} {a : Act} {Q : Exit → Act → World → Prop} (hgd : o.guard = none) (s x : Operand) (t : TypeId)
    (ho : o.op = .call { callee := .builtin .append, args := #[s, x], argTypes := #[t, t] })
    {z : Value} {bytes : Nat} (ht : P.underlying t = some (.slice e)) (hi : (P.info? e).map (fun i => (i.zero, i.size, i.bytes)) = some (some z, size, bytes)) (hzs : z.cells.size = size)
    (us : List Value) (hus : us.length = size) (hO : Has w (row v e size n xs :: l)) (hs : a.eval s = v) (c : Nat) (b : Nat)
    (hx : a.eval x = .slice (some ⟨b, 0, none⟩) 1 c) (hu : ∀ j, w.cell? ⟨b, j, none⟩ = us[j]?) (h1 : ∀ u ∈ us, u.oneCell' = true)
    (h63 : n + 1 ≤ maxLen) (hbytes : (n + 1) * bytes ≤ 140737488355328)
    (h : ∀ v' w', Has w' (row v' e size (n + 1) (xs ++ us) :: l) → Keep w w' → wpList P ops Q rest (a.put o.dst v') w') : wpList P ops Q (o :: rest) a w :=
  wpList_plain hgd fun _ hK => wp_append1 s x t ho ht hi hzs us hus hO hs c b hx hu h1 h63 hbytes fun v' w' h2 h3 => hK _ _ (h v' w' h2 h3)
end Go.Own
/- THE WALK of the closure of tree.Nodes (see). -/
namespace Go.Proofs.YtfhaedkaedffcaaGreatDoor
open Go.RowKit Go.Own
/-- A file as it is seen. -/
structure Sn where
  path : Str
  num : Int
  kind : Int
  links : Int
  data : List Int
  dv : Value
def oneV : Value → Value
  | .slice p n c => .slice p n c
  | _ => .slice none 0 0
def Sn.enc (s : Sn) : List Value := [sV s.path, .int .i64 s.num, .int .i64 s.kind, .int .i64 s.links, oneV s.dv]
def snEnc : List Sn → List Value
  | [] => []
  | s :: r => s.enc ++ snEnc r
theorem snEnc_app (a b : List Sn) : snEnc (a ++ b) = snEnc a ++ snEnc b := by
  induction a with
  | nil => rfl
  | cons s a ih => simp [snEnc, ih, List.append_assoc]
theorem infoNode : (Tryz.prog.info? 44).map (fun i => (i.zero, i.size, i.bytes)) = some (some (.agg #[.string ⟨#[]⟩, .int .i64 0, .int .i64 0, .int .i64 0, .slice none 0 0]), 5, 64) := by kernel_rfl
/-- What was seen so far: the elements, and their bytes. -/
def Sns (v : Value) (os : List Sn) : HP := star (row v 44 5 os.length (snEnc os) :: os.map fun s => Bytes s.dv s.data)
theorem sns_iff {w : World} {L : List HP} {v : Value} {os : List Sn} : Has w (Sns v os :: L) ↔ Has w (row v 44 5 os.length (snEnc os) :: (os.map (fun s => Bytes s.dv s.data) ++ L)) := by
  unfold Sns
  rw [Has.star_iff]
  rfl
/-- All below a node, by all its paths (the order: any). -/
def seen (S : List (Int × Nod)) : Nat → Int → Str → List (Str × Int × Nod)
  | 0, _, _ => []
  | k + 1, n, p => (orM p, n, (fnd S n).getD nod0) :: ((fnd S n).getD nod0).names.flatMap fun e => seen S k e.2 (p ++ 47 :: e.1)
theorem sB_app (a b : Str) : sB a ++ sB b = sB (a ++ b) := by
  apply ByteArray.ext
  simp [sB]
theorem names_step {t : List (Str × Int)} {rem : List Str} {k : Str} {c : Int} (hn : (t.map Prod.fst).Nodup) (hm : (k, c) ∈ t) (hr : k ∈ rem) :
    (t.filter fun e => decide (e.1 ∈ rem)).Perm ((k, c) :: t.filter fun e => decide (e.1 ∈ rem.filter fun y => !decide (y = k))) ∧ (t.filter fun e => !decide (e.1 ∈ rem.filter fun y => !decide (y = k))).Perm ((k, c) :: t.filter fun e => !decide (e.1 ∈ rem)) := by
  obtain ⟨X, Y, rfl⟩ := List.append_of_mem hm
  have hX : ∀ e ∈ X, (e.1 ∈ rem.filter fun y => !decide (y = k)) ↔ e.1 ∈ rem := by
    intro e he
    have : e.1 ≠ k := by
      rintro rfl
      simp only [List.map_append, List.map_cons, List.nodup_append] at hn
      exact hn.2.2 e.1 (List.mem_map_of_mem he) e.1 (by simp) rfl
    simp [this]
  have hY : ∀ e ∈ Y, (e.1 ∈ rem.filter fun y => !decide (y = k)) ↔ e.1 ∈ rem := by
    intro e he
    have : e.1 ≠ k := by
      rintro rfl
      simp only [List.map_append, List.map_cons, List.nodup_append, List.nodup_cons] at hn
      exact hn.2.1.1 (List.mem_map_of_mem he)
    simp [this]
  have e1 : X.filter (fun e => decide (e.1 ∈ rem.filter fun y => !decide (y = k))) = X.filter fun e => decide (e.1 ∈ rem) := List.filter_congr fun e he => by rw [decide_eq_decide]; exact hX e he
  have e2 : Y.filter (fun e => decide (e.1 ∈ rem.filter fun y => !decide (y = k))) = Y.filter fun e => decide (e.1 ∈ rem) := List.filter_congr fun e he => by rw [decide_eq_decide]; exact hY e he
  have e3 : X.filter (fun e => !decide (e.1 ∈ rem.filter fun y => !decide (y = k))) = X.filter fun e => !decide (e.1 ∈ rem) := List.filter_congr fun e he => by congr 1; rw [decide_eq_decide]; exact hX e he
  have e4 : Y.filter (fun e => !decide (e.1 ∈ rem.filter fun y => !decide (y = k))) = Y.filter fun e => !decide (e.1 ∈ rem) := List.filter_congr fun e he => by congr 1; rw [decide_eq_decide]; exact hY e he
  have hk : ¬ (k ∈ rem.filter fun y => !decide (y = k)) := by simp
  refine ⟨?_, ?_⟩
  · rw [List.filter_append, List.filter_append, List.filter_cons, List.filter_cons, e1, e2]
    dsimp only
    rw [if_pos (by simpa using hr), if_neg (by rw [decide_eq_true_iff]; exact hk)]
    exact List.perm_middle
  · rw [List.filter_append, List.filter_append, List.filter_cons, List.filter_cons, e3, e4]
    dsimp only
    rw [if_pos (by rw [decide_eq_false hk]; rfl), if_neg (by rw [decide_eq_true hr]; decide)]
    exact List.perm_middle
theorem flat_le {α β : Type} (f : α → List β) : ∀ (l : List α) (e : α), e ∈ l → (f e).length ≤ (l.flatMap f).length
  | a :: l, e, h => by
    rw [List.flatMap_cons, List.length_append]
    rcases List.mem_cons.1 h with rfl | h
    · omega
    · have := flat_le f l e h
      omega
theorem sns_snoc {w : World} {L : List HP} {v : Value} {os : List Sn} (s : Sn) (h : Has w (row v 44 5 (os.length + 1) (snEnc os ++ s.enc) :: Bytes s.dv s.data :: (os.map (fun s => Bytes s.dv s.data) ++ L))) : Has w (Sns v (os ++ [s]) :: L) := by
  refine sns_iff.2 ?_
  rw [snEnc_app, List.length_append, List.map_append]
  have e : snEnc [s] = s.enc := by simp [snEnc]
  rw [e]
  refine h.perm (.cons _ ?_)
  rw [List.append_assoc]
  exact List.perm_middle.symm
theorem seen_front {a r b : HP} {X M L : List HP} : (a :: r :: b :: (X ++ (M ++ L))).Perm (r :: b :: (M ++ (a :: (X ++ L)))) := by
  refine (List.Perm.swap _ _ _).trans (.cons _ ((List.Perm.swap _ _ _).trans (.cons _ ?_)))
  show ((a :: X) ++ (M ++ L)).Perm (M ++ ((a :: X) ++ L))
  rw [← List.append_assoc, ← List.append_assoc]
  exact List.Perm.append_right L List.perm_append_comm
def Sn.key (s : Sn) : Str × Int × Int × Int × List Int := (s.path, s.num, s.kind, s.links, s.data)
def keyE (e : Str × Int × Nod) : Str × Int × Int × Int × List Int := (e.1, e.2.1, e.2.2.kind, e.2.2.links, e.2.2.data)
set_option maxRecDepth 100000 in
set_option maxHeartbeats 8000000 in
theorem tSee (q m f gt gs go : Nat) (P : List Pn) (last : Int) (T : List Tb.Slot) (rk : Int → Nat) (hxd : ∀ y ∈ P, y.2.2.data.length ≤ 100000) (hnd : (P.map Prod.fst).Nodup) (hlow : ∀ y ∈ P, rk y.1 ≤ 21) (hrk : ∀ y ∈ P, ∀ e ∈ y.2.2.names, rk y.1 < rk e.2 ∧ e.1.length ≤ 24 ∧ ∃ z ∈ P, z.1 = e.2) : ∀ (d : Nat) (n : Int) (b : Nat) (x : Nod) (p : Str) (PC : List Pn) (ov : Value) (os : List Sn) (w : World) (L : List HP), 22 ≤ rk n + d → rk n ≤ 21 → (n, b, x) ∈ P → p.length ≤ 25 * rk n → (∀ y ∈ P, rk n ≤ rk y.1 → y ∈ PC) → os.length + (seen (pnN P) d n p).length ≤ 1000000 →
    Has w (Sns ov os :: pt go (.cells #[ov] 33) :: pt gt (.cells #[.pointer (some ⟨q, 0, none⟩)] 24) :: pt gs (.cells #[(.func (.func 59) #[] #[.pointer (some ⟨gt, 0, none⟩), .pointer (some ⟨go, 0, none⟩), .pointer (some ⟨gs, 0, none⟩)])] 85) :: Trg q m f P last T PC :: L) →
    Calls Tryz.prog 59 #[.int .i64 n, sV p, .pointer (some ⟨gt, 0, none⟩), .pointer (some ⟨go, 0, none⟩), .pointer (some ⟨gs, 0, none⟩)] w fun e w' => e = .returned (.tuple #[]) ∧ ∃ ov' os', (os'.map Sn.key).Perm ((seen (pnN P) d n p).map keyE) ∧ Has w' (Sns ov' (os ++ os') :: pt go (.cells #[ov'] 33) :: pt gt (.cells #[.pointer (some ⟨q, 0, none⟩)] 24) :: pt gs (.cells #[(.func (.func 59) #[] #[.pointer (some ⟨gt, 0, none⟩), .pointer (some ⟨go, 0, none⟩), .pointer (some ⟨gs, 0, none⟩)])] 85) :: Trg q m f P last T PC :: L) ∧ Keep w w' := by
  intro d
  induction d with
  | zero => intro n b x p PC ov os w L h1 h2; omega
  | succ d ih =>
  intro n b x p PC ov os w L hr1 hr2 hin hp hall hos hO
  obtain ⟨A, B, hPC⟩ := List.append_of_mem (hall _ hin (Nat.le_refl _))
  have hat : (fnd (pnN P) n).getD nod0 = x := by
    rw [fnd_mem (by rw [pnN_keys]; exact hnd) (show (n, x) ∈ pnN P from List.mem_map.2 ⟨_, hin, rfl⟩)]
    rfl
  have hsn : seen (pnN P) (d + 1) n p = (orM p, n, x) :: x.names.flatMap fun e => seen (pnN P) d e.2 (p ++ 47 :: e.1) := by
    rw [seen, hat]
  rw [hsn] at hos ⊢
  simp only [List.length_cons] at hos
  have hxl := hxd _ hin
  have HIH := hid ih
  have HALL := hid hall
  have HPCe := hid hPC
  clear ih hall hat hsn
  have hlk := Trg.look hO.drop.drop.drop.drop hin
  have hq0 := (Trg.cells hO.drop.drop.drop.drop).1
  have hgt : w.cell? ⟨gt, 0, none⟩ = some (.pointer (some ⟨q, 0, none⟩)) := hO.p2.cells 0
  have h1 : Has w (Trg q m f P last T (A ++ (n, b, x) :: B) :: Sns ov os :: pt go (.cells #[ov] 33) :: pt gt (.cells #[.pointer (some ⟨q, 0, none⟩)] 24) :: pt gs (.cells #[(.func (.func 59) #[] #[.pointer (some ⟨gt, 0, none⟩), .pointer (some ⟨go, 0, none⟩), .pointer (some ⟨gs, 0, none⟩)])] 85) :: L) := by rw [← hPC]; exact hO.re 5 [4, 0, 1, 2, 3]
  obtain ⟨dv, wv, nm, hnm, h2⟩ := ndc_iff.1 (Trg.pull h1)
  have HNM := hid hnm
  obtain ⟨pd, cd, rfl, -⟩ := (Bytes.rd h2.p1).form
  have HO := hid (show Has w (row ov 44 5 os.length (snEnc os) :: pt go (.cells #[ov] 33) :: pt b (.cells (nodC x (.slice pd x.data.length cd) wv nm) 72) :: Bytes (.slice pd x.data.length cd) x.data :: Bools wv x.wr :: Nms nm x.names :: Trg q m f P last T (A ++ B) :: pt gt (.cells #[.pointer (some ⟨q, 0, none⟩)] 24) :: pt gs (.cells #[(.func (.func 59) #[] #[.pointer (some ⟨gt, 0, none⟩), .pointer (some ⟨go, 0, none⟩), .pointer (some ⟨gs, 0, none⟩)])] 85) :: (os.map (fun s => Bytes s.dv s.data) ++ L)) from by
    have h3 := (h2.re 9 [5, 6, 0, 1, 2, 3, 4, 7, 8])
    have h4 := sns_iff.1 h3
    refine h4.perm (.cons _ ?_)
    refine List.Perm.trans (l₂ := (os.map fun s => Bytes s.dv s.data) ++ ([pt go (.cells #[ov] 33), pt b (.cells (nodC x (.slice pd x.data.length cd) wv nm) 72), Bytes (.slice pd x.data.length cd) x.data, Bools wv x.wr, Nms nm x.names, Trg q m f P last T (A ++ B), pt gt (.cells #[.pointer (some ⟨q, 0, none⟩)] 24), pt gs (.cells #[(.func (.func 59) #[] #[.pointer (some ⟨gt, 0, none⟩), .pointer (some ⟨go, 0, none⟩), .pointer (some ⟨gs, 0, none⟩)])] 85)] ++ L)) (.refl _) ?_
    rw [← List.append_assoc]
    refine (List.Perm.append_right L List.perm_append_comm).trans ?_
    rw [List.append_assoc]
    exact .refl _)
  clear h1 h2 hO hnm
  go_enter Tryz.func59, Tryz.ntmps59
  go_upto_region 1 with fail
  have HO2 := hid HO.out.drew
  have HK2 := hid (Keep.refl w).drew
  obtain ⟨po, co, hov, -⟩ := (Has.rd HO.out).form
  refine region_tail1 (fun w' => w'.cell? ⟨go, 0, none⟩ = some ov ∧ w'.cell? ⟨b, 0, none⟩ = some (.int .i64 x.kind) ∧ w'.cell? ⟨b, 5, none⟩ = some (.int .i64 x.links) ∧ w'.cell? ⟨b, 1, none⟩ = some (.slice pd x.data.length cd)) (by kernel_rfl) (by kernel_rfl) (by kernel_rfl) (by decide) ⟨HO2.out.p1.cells 0, HO2.out.p2.cells 0, HO2.out.p2.cells 5, HO2.out.p2.cells 1⟩ ?_
  clear HO hlk hq0 hgt
  generalize w.drew = w2 at *
  subst hov
  repeat (first
    | (refine wpL_read (by rfl) (by rfl) ?_ ?_ ?_; rotate_left; (rintro w ⟨z0, z1, z2, z3⟩; go_simp; with_reducible rfl); simp only [Act.put, List.setIfInBounds_toArray, List.set_cons_zero, List.set_cons_succ]) | (refine wpL_skip (by rfl) ?_; simp only [Act.put, List.setIfInBounds_toArray, List.set_cons_zero, List.set_cons_succ]))
  refine wpL_act (by rfl) (by rfl) (fun K hK => ?_)
  go_simp
  have HO3 := hid (HO2.out.alloc (.cells #[sV p, sV [47]] 9))
  have HK3 := hid (HK2.out.alloc (.cells #[sV p, sV [47]] 9))
  refine hK.out _ _ ⟨HO3.out.p2.cells 0, HO3.out.p3.cells 0, HO3.out.p3.cells 5, HO3.out.p3.cells 1⟩ ?_
  clear hK K HO2 HK2
  try simp only [Act.put, List.setIfInBounds_toArray, List.set_cons_zero, List.set_cons_succ]
  generalize w2.heap.size = g6 at *
  generalize w2.alloc (.cells #[sV p, sV [47]] 9) = w3 at *
  refine wpL_act (by rfl) (by rfl) (fun K hK => ?_)
  go_simp
  refine (cmpOr g6 p w3 (HO3.out.cells 0) (HO3.out.cells 1)).mono ?_
  rintro e w' ⟨rfl, rfl⟩
  try dsimp only
  refine hK.out _ _ ⟨HO3.out.p2.cells 0, HO3.out.p3.cells 0, HO3.out.p3.cells 5, HO3.out.p3.cells 1⟩ ?_
  clear hK K
  try simp only [Act.put, List.setIfInBounds_toArray, List.set_cons_zero, List.set_cons_succ]
  repeat (first
    | (refine wpL_read (by rfl) (by rfl) ?_ ?_ ?_; rotate_left; (rintro w ⟨z0, z1, z2, z3⟩; go_simp; with_reducible rfl); simp only [Act.put, List.setIfInBounds_toArray, List.set_cons_zero, List.set_cons_succ]) | (refine wpL_skip (by rfl) ?_; simp only [Act.put, List.setIfInBounds_toArray, List.set_cons_zero, List.set_cons_succ]))
  refine wpL_act (by rfl) (by rfl) (fun K hK => ?_)
  go_simp
  refine (cloneBy _ x.data _ _ HO3.out (Bytes.rd (HO3.out.re 5 [4])) (by have := hxl; dsimp only at this; omega)).mono ?_
  rintro e w4 ⟨v4, rfl, hO4, hK4⟩
  have HO4 := hid hO4
  have HK4 := hid ((HK3.out).trans hK4)
  clear hO4 hK4
  try dsimp only
  refine hK.out _ _ (⟨(HO4.out.re 4 [3]).cells 0, (HO4.out.re 5 [4]).cells 0, (HO4.out.re 5 [4]).cells 5, (HO4.out.re 5 [4]).cells 1⟩) ?_
  clear hK K
  try simp only [Act.put, List.setIfInBounds_toArray, List.set_cons_zero, List.set_cons_succ]
  obtain ⟨p4, c4, hv4, -⟩ := (Bytes.rd HO4.out).form
  subst hv4
  repeat (first
    | (refine wpL_read (by rfl) (by rfl) ?_ ?_ ?_; rotate_left; (rintro w ⟨z0, z1, z2, z3⟩; go_simp; with_reducible rfl); simp only [Act.put, List.setIfInBounds_toArray, List.set_cons_zero, List.set_cons_succ]) | (refine wpL_skip (by rfl) ?_; simp only [Act.put, List.setIfInBounds_toArray, List.set_cons_zero, List.set_cons_succ]))
  refine wpL_act (by rfl) (by rfl) (fun K hK => ?_)
  go_simp
  have HO5 := hid (HO4.out.alloc (.cells #[sV (orM p), .int .i64 n, .int .i64 x.kind, .int .i64 x.links, .slice p4 x.data.length c4] 44))
  have HK5 := hid (HK4.out.alloc (.cells #[sV (orM p), .int .i64 n, .int .i64 x.kind, .int .i64 x.links, .slice p4 x.data.length c4] 44))
  refine hK.out _ _ ⟨(HO5.out.re 5 [4]).cells 0, (HO5.out.re 6 [5]).cells 0, (HO5.out.re 6 [5]).cells 5, (HO5.out.re 6 [5]).cells 1⟩ ?_
  clear hK K HO4 HK4 HO3 HK3
  try simp only [Act.put, List.setIfInBounds_toArray, List.set_cons_zero, List.set_cons_succ]
  generalize w4.heap.size = g7 at *
  generalize w4.alloc (.cells #[sV (orM p), .int .i64 n, .int .i64 x.kind, .int .i64 x.links, .slice p4 x.data.length c4] 44) = w5 at *
  refine wpL_act (by rfl) (by rfl) (fun K hK => ?_)
  have hcs := HO5.out.cells
  refine wp_append1 _ _ 33 rfl Tryz.underlying33 infoNode rfl [sV (orM p), .int .i64 n, .int .i64 x.kind, .int .i64 x.links, .slice p4 x.data.length c4] rfl (HO5.out.re 4 [3, 0, 1, 2]) rfl 1 g7 rfl (fun j => by rw [hcs j]; simp) (by intro u hu; simp at hu; rcases hu with rfl | rfl | rfl | rfl | rfl <;> rfl) (le_maxLen (by omega)) (by omega) ?_
  intro v6 w6 h6 k6
  refine hK.out _ _ ⟨(h6.re 5 [4]).cells 0, (h6.re 6 [5]).cells 0, (h6.re 6 [5]).cells 5, (h6.re 6 [5]).cells 1⟩ ?_
  clear hK K hcs
  try simp only [Act.put, List.setIfInBounds_toArray, List.set_cons_zero, List.set_cons_succ]
  refine wpL_nil ?_
  obtain ⟨p6, c6, hv6, -⟩ := (Has.rd h6).form
  subst hv6
  have hcg : w6.cell? ⟨go, 0, none⟩ = some (.slice po os.length co) := (h6.re 5 [4]).cells 0
  have htg := (h6.re 5 [4]).thaw 0
  have HO7 := hid (show Has (w6.setCell ⟨go, 0, none⟩ (.slice p6 (os.length + 1) c6)) (pt go (.cells #[.slice p6 (os.length + 1) c6] 33) :: row (.slice p6 (os.length + 1) c6) 44 5 (os.length + 1) (snEnc os ++ [sV (orM p), .int .i64 n, .int .i64 x.kind, .int .i64 x.links, .slice p4 x.data.length c4]) :: Bytes (.slice p4 x.data.length c4) x.data :: pt b (.cells (nodC x (.slice pd x.data.length cd) wv nm) 72) :: Bytes (.slice pd x.data.length cd) x.data :: Bools wv x.wr :: Nms nm x.names :: Trg q m f P last T (A ++ B) :: pt gt (.cells #[.pointer (some ⟨q, 0, none⟩)] 24) :: pt gs (.cells #[(.func (.func 59) #[] #[.pointer (some ⟨gt, 0, none⟩), .pointer (some ⟨go, 0, none⟩), .pointer (some ⟨gs, 0, none⟩)])] 85) :: (os.map (fun s => Bytes s.dv s.data) ++ L)) from
    (show Has w6 (pt go (.cells #[.slice po os.length co] 33) :: _) from h6.re 12 [4, 0, 2, 5, 6, 7, 8, 9, 10, 11]).set 0 (.slice p6 (os.length + 1) c6))
  have HK7 := hid ((HK5.out.trans k6).set ⟨go, 0, none⟩ (.slice p6 (os.length + 1) c6))
  refine wpOp_last rfl (by rfl) ?_
  go_simp
  clear h6 k6 hcg htg HO5 HK5
  generalize w6.setCell ⟨go, 0, none⟩ (.slice p6 (os.length + 1) c6) = w7 at *
  have hc3 : w7.cell? ⟨b, 3, none⟩ = some (.map nm) := (HO7.out.re 4 [3]).cells 3
  cases nm with
  | none =>
    have hrn := range_nil
    have hnx := next_nil w7.heap.size (w7.alloc (.mapIter none 0 #[] 0)) 0 (by show (Array.push _ _)[_]? = _; simp)
    go_wp2_with fail
    go_loopw [] (fun w' => w' = w7.alloc (.mapIter none 0 #[] 0)) (fun _ => 0)
    case atStart => rfl
    case round =>
      subst hrel
      have HO8 := hid (sns_snoc ⟨orM p, n, x.kind, x.links, x.data, .slice p4 x.data.length c4⟩ (HO7.out.perm (seen_front (X := [_, _, _, _, _, _, _]))))
      go_wp2_with fail
      go_end0
      have hnn : x.names = [] := (Has.fact_iff.1 (show Has w7 (fact (x.names = []) :: _) from HO8.out.re 6 [5])).1
      refine ⟨rfl, .slice p6 (os.length + 1) c6, [⟨orM p, n, x.kind, x.links, x.data, .slice p4 x.data.length c4⟩], ?_, ?_, HK7.out.alloc _⟩
      · rw [hnn]
        exact .refl _
      · have h9 := (HO8.out.re 9 [2, 3, 4, 5, 6, 0, 1, 7, 8]).alloc' (.mapIter none 0 #[] 0)
        have h10 := Trg.push n (ndc_iff.2 ⟨_, _, _, HNM.out, h9⟩ : Has _ (Ndc b x :: _))
        have h11 := Trg.perm h10 (PC' := PC) (by rw [HPCe.out]; exact List.perm_middle.symm)
        exact h11.re 5 [1, 2, 3, 4, 0]
  | some mm =>
    have HO8 := hid (sns_snoc ⟨orM p, n, x.kind, x.links, x.data, .slice p4 x.data.length c4⟩ (HO7.out.perm (seen_front (X := [_, _, _, _, _, _, _]))))
    have HO9 := hid (show Has w7 (Mk kStr vInt mm x.names :: _) from HO8.out.re 9 [5, 0, 1, 2, 3, 4, 6, 7, 8])
    have HNDN := hid (Mk.nodup HO9.out)
    clear HO7 HO8
    go_wp2_with (at_range; refine wpList_mkStart HO9.out tNm undNm rfl _ rfl rfl ?_; intro w8 hO8 hK8 hs8)
    try go_frame
    have HO8 := hid hO8
    have HK8 := hid (HK7.out.trans hK8)
    clear hO8 hK8 hs8 HO9 HK7 hc3
    generalize w7.heap.size = r at *
    go_loopw [] (fun w' => ∃ (rem : List Str) (cnt : Nat) (ov1 : Value) (os1 : List Sn), (∀ s ∈ rem, s ∈ x.names.map Prod.fst) ∧ os1.length + ((x.names.filter fun e => decide (e.1 ∈ rem)).flatMap fun e => seen (pnN P) d e.2 (p ++ 47 :: e.1)).length ≤ (x.names.flatMap fun e => seen (pnN P) d e.2 (p ++ 47 :: e.1)).length + 1 ∧ Hid ((os1.map Sn.key).Perm (keyE (orM p, n, x) :: ((x.names.filter fun e => !decide (e.1 ∈ rem)).flatMap fun e => seen (pnN P) d e.2 (p ++ 47 :: e.1)).map keyE)) ∧ Hid (Has w' (Mr kStr vInt mm r x.names rem cnt :: Sns ov1 (os ++ os1) :: pt go (.cells #[ov1] 33) :: pt b (.cells (nodC x (.slice pd x.data.length cd) wv (some mm)) 72) :: Bytes (.slice pd x.data.length cd) x.data :: Bools wv x.wr :: Trg q m f P last T (A ++ B) :: pt gt (.cells #[.pointer (some ⟨q, 0, none⟩)] 24) :: pt gs (.cells #[(.func (.func 59) #[] #[.pointer (some ⟨gt, 0, none⟩), .pointer (some ⟨go, 0, none⟩), .pointer (some ⟨gs, 0, none⟩)])] 85) :: L)) ∧ Hid (Keep w w')) (fun w' => w'.rangeLeft mm r)
    case atStart =>
      have hall : ∀ e ∈ x.names, e.1 ∈ x.names.map Prod.fst := fun e he => List.mem_map_of_mem he
      refine ⟨x.names.map Prod.fst, x.names.length, _, [⟨orM p, n, x.kind, x.links, x.data, .slice p4 x.data.length c4⟩], fun s hs => hs, ?_, hid ?_, HO8, HK8⟩
      · rw [List.filter_eq_self.2 (fun e he => decide_eq_true (hall e he))]
        simp only [List.length_singleton]
        omega
      · rw [List.filter_eq_nil_iff.2 (fun e he => by simp [hall e he])]
        exact .refl _
    case round =>
      clear HO8 HK8
      obtain ⟨rem, cnt, ov1, os1, hsub, hlen1, HPM, HO, HK⟩ := hrel
      have hleft := Mr.left HO.out
      have HLF := hid hleft
      have HSUB := hid hsub
      have HLEN := hid hlen1
      clear hsub hlen1
      go_wp2_with (at_next; refine wpList_mkNext HO.out rfl _ rfl rfl ?_ ?_)
      · intro hrem
        subst hrem
        have HO5 := hid (show Has wr (Sns ov1 (os ++ os1) :: pt go (.cells #[ov1] 33) :: pt gt (.cells #[.pointer (some ⟨q, 0, none⟩)] 24) :: pt gs (.cells #[(.func (.func 59) #[] #[.pointer (some ⟨gt, 0, none⟩), .pointer (some ⟨go, 0, none⟩), .pointer (some ⟨gs, 0, none⟩)])] 85) :: Trg q m f P last T PC :: L) from by
          have h9 := (Mr.end HO.out).re 9 [3, 4, 5, 0, 6, 1, 2, 7, 8]
          have h10 := Trg.push n (ndc_iff.2 ⟨_, _, _, HNM.out, h9⟩ : Has _ (Ndc b x :: _))
          have h11 := Trg.perm h10 (PC' := PC) (by rw [HPCe.out]; exact List.perm_middle.symm)
          exact h11.re 5 [1, 2, 3, 4, 0])
        clear HO hleft
        go_wp2_with fail
        go_end0
        refine ⟨rfl, ov1, os1, ?_, HO5.out, HK.out⟩
        have h1 := HPM.out
        rw [List.filter_eq_self.2 (fun e _ => by simp)] at h1
        exact h1
      · rintro k c w9 cnt' hp9 hr9 hky hO9 hlt9 hK9 hsz hen
        simp only [kStr_val, vInt_val] at hen ⊢
        have hen2 := hen
        obtain ⟨hk1, hk2, ⟨c', b', x'⟩, hz, hzc⟩ := hrk _ hin (k, c) hp9
        dsimp only at hk1 hk2 hzc
        subst hzc
        obtain ⟨hNA, hNB⟩ := names_step HNDN.out hp9 hr9
        have hfl := flat_le (fun e : Str × Int => seen (pnN P) d e.2 (p ++ 47 :: e.1)) (x.names.filter fun e => decide (e.1 ∈ rem)) (k, c') (List.mem_filter.2 ⟨hp9, decide_eq_true hr9⟩)
        dsimp only at hfl
        have hpl : (p ++ 47 :: k).length ≤ 25 * rk c' := by simp only [List.length_append, List.length_cons]; omega
        have hall2 : ∀ y ∈ P, rk c' ≤ rk y.1 → y ∈ A ++ B := by
          intro y hy hyr
          have h1 := HALL.out y hy (by omega)
          rw [HPCe.out] at h1
          rcases List.mem_append.1 h1 with h | h
          · exact List.mem_append_left _ h
          · rcases List.mem_cons.1 h with h | h
            · rw [h] at hyr; dsimp only at hyr; omega
            · exact List.mem_append_right _ h
        have hgs : w9.cell? ⟨gs, 0, none⟩ = some (.func (.func 59) #[] #[.pointer (some ⟨gt, 0, none⟩), .pointer (some ⟨go, 0, none⟩), .pointer (some ⟨gs, 0, none⟩)]) := (show Has w9 (pt gs _ :: _) from hO9.re 9 [8]).cells 0
        have HX := hid (HIH.out c' b' x' (p ++ 47 :: k) (A ++ B) ov1 (os ++ os1) w9 _ (by omega) (hlow _ hz) hz hpl hall2 (by have h1 := HLEN.out; rw [List.length_append]; omega) (hO9.re 9 [1, 2, 7, 8, 6, 0, 3, 4, 5]))
        have HNA := hid hNA
        have HNB := hid hNB
        have HL9 := hid hlt9
        have HK9 := hid (HK.out.trans hK9)
        clear hp9 hr9 hky hO9 hlt9 hK9 hsz hleft HO HK hNA hNB hfl hall2 hpl
        go_wp2_with fail
        rw [show sB p ++ (⟨#[47]⟩ : ByteArray) ++ sB k = sB (p ++ 47 :: k) from by rw [show (⟨#[47]⟩ : ByteArray) = sB [47] from rfl, sB_app, sB_app, List.append_assoc]; rfl]
        refine HX.out.mono ?_
        rintro e w10 ⟨rfl, ov2, os2, hpm2, hO2, hK2⟩
        rw [List.append_assoc] at hO2
        have HO10 := hid (show Has w10 (Mr kStr vInt mm r x.names (rem.filter fun y => !decide (y = k)) cnt' :: _) from hO2.re 9 [5, 0, 1, 6, 7, 8, 4, 2, 3])
        have HK10 := hid (HK9.out.trans hK2)
        have HPM2 := hid hpm2
        have hleft := Mr.left HO10.out
        clear hO2 hK2 HX HK9 hen hen2 hgs hpm2
        try dsimp only
        go_wp2_with fail
        refine ⟨⟨_, cnt', ov2, os1 ++ os2, fun s hs => HSUB.out s (List.mem_filter.1 hs).1, ?_, hid ?_, HO10, HK10⟩, by rw [hleft, HLF.out]; exact HL9.out⟩
        · have h1 := HLEN.out
          have h2 := (HNA.out.flatMap_right fun e : Str × Int => seen (pnN P) d e.2 (p ++ 47 :: e.1)).length_eq
          rw [List.flatMap_cons, List.length_append] at h2
          have h3 := HPM2.out.length_eq
          rw [List.length_map, List.length_map] at h3
          rw [List.length_append]
          dsimp only at h2
          omega
        · have h2 := (HNB.out.flatMap_right fun e : Str × Int => seen (pnN P) d e.2 (p ++ 47 :: e.1)).map keyE
          rw [List.flatMap_cons, List.map_append] at h2
          rw [List.map_append]
          refine (HPM.out.append HPM2.out).trans ?_
          rw [List.cons_append]
          refine .cons _ ?_
          exact List.perm_append_comm.trans h2.symm
end Go.Proofs.YtfhaedkaedffcaaGreatDoor
/- WHAT IS OWNED BEHIND slices.SortFunc at structs: a row of elements of several cells. No program in sight. -/
namespace Go.Own
open Go.RowKit
theorem flat_at {α : Type} (enc : α → List Value) (k : Nat) (hk : 0 < k) (he : ∀ x, (enc x).length = k) : ∀ (l : List α) (t : Nat) (h : t < l.length * k), (l.flatMap enc)[t]? = (enc (l[t / k]'(Nat.div_lt_of_lt_mul (by rw [Nat.mul_comm]; exact h))))[t % k]?
  | [], t, h => by simp at h
  | x :: l, t, h => by
    rw [List.flatMap_cons]
    by_cases ht : t < k
    · rw [List.getElem?_append_left (by rw [he]; exact ht)]
      have e1 : t / k = 0 := Nat.div_eq_of_lt ht
      have e2 : t % k = t := Nat.mod_eq_of_lt ht
      simp [e1, e2]
    · have hle : k ≤ t := by omega
      rw [List.getElem?_append_right (by rw [he]; exact hle), he]
      have h' : t - k < l.length * k := by
        rw [List.length_cons, Nat.succ_mul] at h
        omega
      rw [flat_at enc k hk he l (t - k) h']
      have e1 : t / k = (t - k) / k + 1 := by
        conv => lhs; rw [show t = t - k + k from by omega]
        rw [Nat.add_div_right _ hk]
      have e2 : t % k = (t - k) % k := by
        conv => lhs; rw [show t = t - k + k from by omega]
        rw [Nat.add_mod_right]
      simp [e1, e2]
theorem flatK_list {α : Type} [Inhabited α] (enc : α → List Value) (k : Nat) (hk : 0 < k) (he : ∀ x, (enc x).length = k) (d : Array α) : (Go.Sort.flatK enc k d).toList = d.toList.flatMap enc := by
  apply List.ext_getElem?
  intro t
  have hl : (d.toList.flatMap enc).length = d.size * k := by
    rw [List.length_flatMap]
    have : (d.toList.map fun x => (enc x).length) = List.replicate d.size k := by
      apply List.ext_getElem
      · simp
      · intro i h1 h2
        simp [he]
    rw [this]
    simp
  by_cases ht : t < d.size * k
  · rw [flat_at enc k hk he d.toList t (by simpa using ht), Array.getElem?_toList, Array.getElem?_eq_getElem (by simpa using ht)]
    have h1 := Go.Sort.get_flatK enc k d t ht
    rw [getElem!_pos _ t (by simpa using ht)] at h1
    have h2 : t / k < d.size := Nat.div_lt_of_lt_mul (by rw [Nat.mul_comm]; exact ht)
    rw [h1, getElem!_pos d (t / k) h2]
    have h3 : t % k < (enc d[t / k]).length := by rw [he]; exact Nat.mod_lt _ hk
    rw [getElem!_pos _ (t % k) h3]
    simp
  · rw [List.getElem?_eq_none (by rw [Array.length_toList]; simp; omega), List.getElem?_eq_none (by rw [hl]; omega)]
section
variable {w : World} {l : List HP} {e : TypeId} {size n : Nat} {xs : List Value}
/-- The row's cells anew. -/
theorem Has.putRowK {α : Type} [Inhabited α] (enc : α → List Value) (hs : 0 < size) (he : ∀ x, (enc x).length = size) {g cap m : Nat} {d : Array α} (h : Has w (row (.slice (some ⟨g, 0, none⟩) m cap) e size n xs :: l)) (hd : d.size = n) :
    Has (Go.Sort.putRowK enc size w g 0 d) (row (.slice (some ⟨g, 0, none⟩) m cap) e size n (d.toList.flatMap enc) :: l) := by
  rw [← flatK_list enc size hs he d]
  have hF : (Go.Sort.flatK enc size d).size = n * size := by simp [hd]
  unfold Go.Sort.putRowK
  generalize Go.Sort.flatK enc size d = F at *
  obtain ⟨hl, h | ⟨g', cap', cur, e1, h1, h2, h3, h4, h5⟩⟩ := h.row_cases
  · exact absurd h.1 (by simp)
  · simp only [Value.slice.injEq, Option.some.injEq, Addr.mk.injEq] at e1
    obtain ⟨⟨rfl, -, -⟩, rfl, rfl⟩ := e1
    have hle : F.size ≤ cap * size := by rw [hF]; exact Nat.mul_le_mul_right size (by omega)
    have hp : Has (Sort.putRow id w g 0 F) (pt g (.cells (Sort.putCells id 0 F cur) e) :: l) := by
      refine h5.turn (fun k _ hk => ?_) ?_
      · simp [Sort.putRow, Sort.mapBlock, Array.getElem?_modify, Ne.symm hk]
      · simp [Sort.putRow, Sort.mapBlock, Array.getElem?_modify, h5.lookup, Sort.onCells]
    refine hp.row_of (by omega) h2 (by simpa [Sort.putCells] using h3) ?_ (by simp [hF])
    apply List.ext_getElem?
    intro k
    by_cases hk : k < F.size
    · have hkc : k < cur.size := by omega
      rw [List.getElem?_take, if_pos (by omega), Array.getElem?_toList, Sort.putCells, Array.getElem?_mapIdx, Array.getElem?_eq_getElem hkc, Option.map_some, if_pos ⟨Nat.zero_le _, by omega⟩, Array.getElem?_toList, Nat.sub_zero,
        Array.getElem?_eq_getElem hk, getElem!_pos F k hk]
      rfl
    · rw [List.getElem?_eq_none (by simp [Sort.putCells]; omega), List.getElem?_eq_none (by simp; omega)]
end
end Go.Own
/- THE WALK of the comparison of tree.Nodes. -/
namespace Go.Proofs.YtfhaedkaedffcaaGreatDoor
open Go.RowKit Go.Own Go.Sort
set_option maxRecDepth 100000 in
theorem tCmp (x y : Sn) (W : World) : Calls Tryz.prog 63 #[.agg x.enc.toArray, .agg y.enc.toArray] W fun e w' => e = .returned (.int .i64 (Lib.compareBytes x.path y.path)) ∧ ∃ q os', w' = grow (W.drewN q) os' := by
  have hcon := fun W' => Tryz.strings_Compare (sB x.path) (sB y.path) W'
  unfold Sn.enc
  go_enter Tryz.func63, Tryz.ntmps63
  go_wp2_with fail
  refine (hcon _).mono ?_
  rintro e w' ⟨rfl, rfl⟩
  try dsimp only
  go_wp2_with fail
  go_ret
  exact ⟨rfl, 0, _, by rw [alloc_eq_grow, alloc_eq_grow, grow_grow]; rfl⟩
end Go.Proofs.YtfhaedkaedffcaaGreatDoor
/- THE WALK of tree.Nodes, out of what slices.SortFunc does. -/
namespace Go.Proofs.YtfhaedkaedffcaaGreatDoor
open Go.RowKit Go.Own
/-- Sorted by their paths. -/
def Srt (os : List Sn) : Prop := os.Pairwise fun a b => ¬ Lib.compareBytes b.path a.path < 0
/-- What is asked of slices.SortFunc. -/
def SortsNd : Prop := ∀ (v : Value) (os : List Sn) (w : World) (L : List HP), os ≠ [] → os.length ≤ 1000000 → Has w (Sns v os :: L) → Calls Tryz.prog 62 #[v, .func (.func 63) #[] #[]] w fun e w' => e = .returned (.tuple #[]) ∧ ∃ os', os'.Perm os ∧ Srt os' ∧ Has w' (Sns v os' :: L) ∧ Keep w w'
set_option maxRecDepth 100000 in
set_option maxHeartbeats 4000000 in
theorem tNodes (hSort : SortsNd) (q : Nat) (S : Tre) (x : Nod) (rk : Int → Nat) (w : World) (L : List HP) (h1 : fnd S.nodes 1 = some x) (hdl : ∀ n x, fnd S.nodes n = some x → x.data.length ≤ 100000) (hlow : ∀ n x, fnd S.nodes n = some x → rk n ≤ 21) (hrk : ∀ n x, fnd S.nodes n = some x → ∀ e ∈ x.names, rk n < rk e.2 ∧ e.1.length ≤ 24 ∧ ∃ y, fnd S.nodes e.2 = some y) (hmany : (seen S.nodes 22 1 []).length ≤ 1000000) (hO : Has w (Trc q S :: L)) :
    Calls Tryz.prog 18 #[.pointer (some ⟨q, 0, none⟩)] w fun e w' => ∃ v os, e = .returned v ∧ (os.map Sn.key).Perm ((seen S.nodes 22 1 []).map keyE) ∧ Srt os ∧ Has w' (Sns v os :: Trc q S :: L) ∧ Keep w w' := by
  obtain ⟨m, f, P, hPT, h⟩ := trc_iff.1 hO
  have hnd := Trb.nodup h
  have hfn : ∀ y ∈ P, fnd S.nodes y.1 = some y.2.2 := by
    intro y hy
    rw [← hPT.1]
    exact fnd_mem (by rw [pnN_keys]; exact hnd) (List.mem_map.2 ⟨y, hy, rfl⟩)
  have h1' := h1
  rw [← hPT.1] at h1'
  obtain ⟨A, b, B, hPe⟩ := pn_split h1'
  have hin : (1, b, x) ∈ P := by rw [hPe]; simp
  have hP : pnN P = S.nodes := hPT.1
  have HSE := hid (fun gt gs go => tSee q m f gt gs go P S.last S.tab rk (fun y hy => hdl _ _ (hfn y hy)) hnd (fun y hy => hlow _ _ (hfn y hy)) (fun y hy e he => by
    obtain ⟨a1, a2, z, hz⟩ := hrk _ _ (hfn y hy) e he
    refine ⟨a1, a2, ?_⟩
    rw [← hP] at hz
    obtain ⟨A', b', B', e'⟩ := pn_split hz
    exact ⟨(e.2, b', z), by rw [e']; simp, rfl⟩) 22 1 b x [] P)
  have HPT := hid hPT
  have HT := hid (show Has w (Trg q m f P S.last S.tab P :: L) from Trg.of h)
  have HIN := hid hin
  have HLOW := hid (hlow _ _ h1)
  have HMANY := hid hmany
  have HSO := hid hSort
  clear hO h hnd hfn h1' hin hPe hdl hlow hrk hmany hSort hPT
  have h2 := ((HT.out.alloc (.cells #[.pointer (some ⟨q, 0, none⟩)] 24)).alloc (.cells #[.slice none 0 0] 33)).alloc (.cells #[.nilFunc] 85)
  have e1 : (w.alloc (.cells #[.pointer (some ⟨q, 0, none⟩)] 24)).heap.size = w.heap.size + 1 := by show (Array.push _ _).size = _; rw [Array.size_push]
  have e2 : ((w.alloc (.cells #[.pointer (some ⟨q, 0, none⟩)] 24)).alloc (.cells #[.slice none 0 0] 33)).heap.size = w.heap.size + 1 + 1 := by show (Array.push _ _).size = _; rw [Array.size_push, e1]
  rw [e2, e1] at h2
  have hcs := (show _ = some Value.nilFunc from h2.cells 0)
  have hts := h2.thaw 0
  have h3 := ((HT.out.alloc (.cells #[.pointer (some ⟨q, 0, none⟩)] 24)).alloc (.cells #[.slice none 0 0] 33)).alloc (.cells #[.func (.func 59) #[] #[.pointer (some ⟨w.heap.size, 0, none⟩), .pointer (some ⟨w.heap.size + 1, 0, none⟩), .pointer (some ⟨w.heap.size + 1 + 1, 0, none⟩)]] 85)
  rw [e2, e1] at h3
  have HO2 := hid h3
  have HK2 := hid ((((Keep.refl w).alloc (.cells #[.pointer (some ⟨q, 0, none⟩)] 24)).alloc (.cells #[.slice none 0 0] 33)).alloc (.cells #[.func (.func 59) #[] #[.pointer (some ⟨w.heap.size, 0, none⟩), .pointer (some ⟨w.heap.size + 1, 0, none⟩), .pointer (some ⟨w.heap.size + 1 + 1, 0, none⟩)]] 85))
  have hsf : ∀ (W : World) (a : Addr) (u v : Array Value), (store a (.func (.func 59) u v)).run Tryz.prog W = stored Tryz.prog W a (.func (.func 59) u v) .plain := fun W a u v => run_store Tryz.prog W a _ .plain rfl
  clear h2 h3 e1 e2
  go_enter Tryz.func18, Tryz.ntmps18
  go_upto_region 6 with fail
  generalize ((w.alloc (.cells #[.pointer (some ⟨q, 0, none⟩)] 24)).alloc (.cells #[.slice none 0 0] 33)).alloc (.cells #[.func (.func 59) #[] #[.pointer (some ⟨w.heap.size, 0, none⟩), .pointer (some ⟨w.heap.size + 1, 0, none⟩), .pointer (some ⟨w.heap.size + 1 + 1, 0, none⟩)]] 85) = w2 at *
  clear hcs hts HT hsf
  generalize hgs : w.heap.size + 1 + 1 = gs at *
  generalize hgo : w.heap.size + 1 = go at *
  generalize w.heap.size = gt at *
  have hgc : w2.cell? ⟨gs, 0, none⟩ = some (.func (.func 59) #[] #[.pointer (some ⟨gt, 0, none⟩), .pointer (some ⟨go, 0, none⟩), .pointer (some ⟨gs, 0, none⟩)]) := HO2.out.cells 0
  have HO3 := hid (show Has w2 (Sns (.slice none 0 0) [] :: pt go (.cells #[.slice none 0 0] 33) :: pt gt (.cells #[.pointer (some ⟨q, 0, none⟩)] 24) :: pt gs (.cells #[.func (.func 59) #[] #[.pointer (some ⟨gt, 0, none⟩), .pointer (some ⟨go, 0, none⟩), .pointer (some ⟨gs, 0, none⟩)]] 85) :: Trg q m f P S.last S.tab P :: L) from sns_iff.2 ((HO2.out.re 4 [1, 2, 0, 3]).row_nil 44 5))
  have HX := hid (HSE.out gt gs go (.slice none 0 0) [] w2 L (by omega) HLOW.out HIN.out (by simp) (fun y hy _ => hy) (by have := HMANY.out; rw [HPT.out.1]; simpa using this) HO3.out)
  rw [HPT.out.1] at HX
  clear HO2 HO3
  go_wp2_with fail
  refine HX.out.mono ?_
  rintro e w4 ⟨rfl, ov, os, hpm, hO4, hK4⟩
  rw [List.nil_append] at hO4
  have HPM := hid hpm
  have HO4 := hid hO4
  have HK4 := hid (HK2.out.trans hK4)
  have HLN := hid (show os.length ≤ 1000000 from by have h1 := hpm.length_eq; rw [List.length_map, List.length_map] at h1; have := HMANY.out; omega)
  have HNE := hid (show os ≠ [] from by
    rintro rfl
    have h1 := hpm.length_eq
    rw [List.length_map, List.length_map, seen] at h1
    simp at h1)
  clear hpm hO4 hK4 HX HK2 hgc
  try dsimp only
  have hov : w4.cell? ⟨go, 0, none⟩ = some ov := HO4.out.p1.cells 0
  have HS5 := hid (HSO.out ov os w4 _ HNE.out HLN.out HO4.out)
  obtain ⟨po, co, rfl, -⟩ := (Has.rd (sns_iff.1 HO4.out)).form
  go_wp2_with fail
  refine HS5.out.mono ?_
  rintro e w5 ⟨rfl, os', hp5, hs5, hO5, hK5⟩
  have hov5 : w5.cell? ⟨go, 0, none⟩ = some (.slice po os.length co) := hO5.p1.cells 0
  try dsimp only
  have HO5 := hid hO5
  have HK5 := hid (HK4.out.trans hK5)
  have HP5 := hid hp5
  have HS6 := hid hs5
  clear hO5 hK5 hp5 hs5 HS5 hov
  go_wp2_with fail
  go_ret
  refine ⟨_, os', rfl, (HP5.out.map _).trans HPM.out, HS6.out, ?_, HK5.out⟩
  have h9 := HO5.out.re 5 [4, 0]
  exact (show Has w5 (Trc q S :: _) from trc_iff.2 ⟨m, f, P, HPT.out, h9⟩).re 2 [1, 0]
end Go.Proofs.YtfhaedkaedffcaaGreatDoor
/- THE WALK of node.blocks (files of at most six blocks), inode.Place. -/
namespace Go.Proofs.YtfhaedkaedffcaaGreatDoor
open Go.RowKit Go.Own
/-- How many blocks a node takes (a file: of at most six). -/
def blocksM (x : Nod) : Int := if x.kind = 2 then (x.most + 3) / 4 else if x.kind = 3 then 1 else ((x.wr.filter id).length : Int)
theorem nPlace (k : Nat) (hk : k < 6) (w : World) : Calls Tryz.prog 117 #[.int .i64 (k : Int)] w fun e w' => e = .returned (.tuple #[.int .i64 0, .int .i64 k, .int .i64 0]) ∧ w = w' := by
  have h0 : (0 : Int) ≤ (k : Int) := by omega
  have h1 : ¬ (k : Int) < 0 := by omega
  have h2 : ¬ (k : Int) ≥ 162 := by omega
  have h3 : (k : Int) < 6 := by omega
  go_enter Tryz.func117, Tryz.ntmps117
  go_wp2_with fail
  go_ret3
  exact ⟨rfl, rfl⟩
def no12 : Array Value := #[.bool false, .bool false, .bool false, .bool false, .bool false, .bool false, .bool false, .bool false, .bool false, .bool false, .bool false, .bool false]
theorem index12 (k : Nat) (hk : k < 12) (w : World) : (Instr.index 154 (.agg no12) (.int .i64 (k : Int))).run Tryz.prog w = .ok (.bool false) w := by
  have : ∀ i : Fin 12, ∀ w : World, (Instr.index 154 (.agg no12) (.int .i64 (i.val : Int))).run Tryz.prog w = .ok (.bool false) w := by
    intro i w
    rcases i with ⟨i, hi⟩
    rcases i with _ | _ | _ | _ | _ | _ | _ | _ | _ | _ | _ | _ | i
    all_goals first | (exfalso; omega) | kernel_rfl
  exact this ⟨k, hk⟩ w
theorem cnt_succ (ws : List Bool) (k : Nat) (hk : k < ws.length) : ((ws.take (k + 1)).filter id).length = ((ws.take k).filter id).length + (if ws[k] = true then 1 else 0) := by
  rw [List.take_add_one, List.getElem?_eq_getElem hk, List.filter_append, List.length_append]
  cases ws[k] <;> simp
set_option maxRecDepth 100000 in
set_option maxHeartbeats 4000000 in
theorem tBlocks (b : Nat) (x : Nod) (w : World) (L : List HP) (hm0 : 0 ≤ x.most) (hm1 : x.most ≤ 1000000) (hw : x.wr.length ≤ 6) (hO : Has w (Ndc b x :: L)) :
    Calls Tryz.prog 69 #[.pointer (some ⟨b, 0, none⟩)] w fun e w' => e = .returned (.int .i64 (blocksM x)) ∧ Has w' (Ndc b x :: L) ∧ Keep w w' := by
  obtain ⟨dv, wv, nm, hnm, hHP⟩ := ndc_iff.1 hO
  have HNM := hid hnm
  have HP := hid hHP
  have hc0 : w.cell? ⟨b, 0, none⟩ = some (.int .i64 x.kind) := hHP.cells 0
  have hc4 : w.cell? ⟨b, 4, none⟩ = some (.int .i64 x.most) := hHP.cells 4
  have HO := hid hO
  clear hnm hHP hO
  by_cases hk2 : x.kind = 2
  · have HB := hid (show blocksM x = (x.most + 4 - 1) / 4 from by unfold blocksM; rw [if_pos hk2]; congr 1; omega)
    have hq : (0 : Int) ≤ x.most + 4 - 1 := by omega
    go_enter Tryz.func69, Tryz.ntmps69
    go_wp2_with fail
    go_ret
    rw [HB.out]
    exact ⟨rfl, HO.out, Keep.refl w⟩
  by_cases hk3 : x.kind = 3
  · have HB := hid (show blocksM x = 1 from by unfold blocksM; rw [if_neg hk2, if_pos hk3])
    go_enter Tryz.func69, Tryz.ntmps69
    go_wp2_with fail
    go_ret
    rw [HB.out]
    exact ⟨rfl, HO.out, Keep.refl w⟩
  · have HB := hid (show blocksM x = (((x.wr.take x.wr.length).filter id).length : Int) from by unfold blocksM; rw [if_neg hk2, if_neg hk3, List.take_length])
    obtain ⟨pw, cw, rfl, hcap, -, hcs⟩ := (Bools.rd HP.out.p2).form
    have hc2 : w.cell? ⟨b, 2, none⟩ = some (.slice pw x.wr.length cw) := HP.out.cells 2
    have hw6 : (x.wr.length : Int) ≤ 6 := by omega
    have hw0 : (0 : Int) ≤ (x.wr.length : Int) := by omega
    clear hcs
    have hbl := HP.out.lt
    have HP1 := hid (HP.out.alloc (.cells no12 154))
    go_enter Tryz.func69, Tryz.ntmps69
    go_wp2_with fail
    go_loopw [34, 3, 4, 5] (fun kv cv sv fv w' => ∃ k : Nat, k ≤ x.wr.length ∧ kv = .int .i64 (k : Int) ∧ sv = .int .i64 0 ∧ fv = .int .i64 0 ∧ cv = .int .i64 (((x.wr.take k).filter id).length : Int) ∧ Hid (Has w' (pt w.heap.size (.cells no12 154) :: pt b (.cells (nodC x dv (.slice pw x.wr.length cw) nm) 72) :: Bytes dv x.data :: Bools (.slice pw x.wr.length cw) x.wr :: Nms nm x.names :: L)) ∧ Hid (Keep w w')) (fun kv _ _ _ _ => x.wr.length - (intOf kv).toNat)
    case atStart => exact ⟨0, by omega, rfl, rfl, rfl, rfl, HP1, hid ((Keep.refl w).alloc _)⟩
    case round =>
      clear HP1 HP HO hc0 hc4 hc2
      generalize w.heap.size = g6 at *
      obtain ⟨k, hk, rfl, rfl, rfl, rfl, HO, HK⟩ := hrel
      have hk0 : (0 : Int) ≤ (k : Int) := by omega
      by_cases hlt : k < x.wr.length
      · have hki : (k : Int) < (x.wr.length : Int) := by omega
        obtain ⟨p', c', e', -, -, hcs⟩ := (Bools.rd HO.out.p3).form
        obtain ⟨gw, ow, rfl, hcs2⟩ := hcs (by omega)
        simp only [Value.slice.injEq, true_and] at e'
        obtain ⟨rfl, rfl⟩ := e'
        have hcel : wr.cell? ⟨gw, ow + k, none⟩ = some (.bool x.wr[k]) := by
          rw [hcs2 k (by omega), List.getElem?_map, List.getElem?_eq_getElem hlt]
          rfl
        have hsc := cnt_succ x.wr k hlt
        have hcl : ((x.wr.take k).filter id).length ≤ 6 := by
          have h1 := List.length_filter_le id (x.wr.take k)
          have h2 : (x.wr.take k).length ≤ k := by simp; omega
          omega
        clear hcs hcs2
        generalize x.wr[k] = bv at *
        cases bv
        · have HSC := hid (show ((x.wr.take (k + 1)).filter id).length = ((x.wr.take k).filter id).length from by rw [hsc]; simp)
          clear hsc
          go_wp2_with fail
          exact ⟨⟨k + 1, by omega, by go_num, rfl, rfl, by rw [HSC.out], HO, HK⟩, by simp [intOf]; omega⟩
        · rw [if_pos rfl] at hsc
          have HSC := hid hsc
          clear hsc
          generalize ((x.wr.take k).filter id).length = cn at *
          have hcn0 : (0 : Int) ≤ (cn : Int) := by omega
          have hcn6 : (cn : Int) ≤ 6 := by omega
          go_wp2_with fail
          refine (nPlace k (by omega) _).mono ?_
          rintro e w' ⟨rfl, rfl⟩
          try dsimp only
          go_wp2_with fail
          exact ⟨⟨k + 1, by omega, by go_num, rfl, rfl, by rw [HSC.out]; go_num, HO, HK⟩, by simp [intOf]; omega⟩
      · obtain rfl : k = x.wr.length := by omega
        have hki : ¬ (x.wr.length : Int) < (x.wr.length : Int) := by omega
        have hcl : ((x.wr.take x.wr.length).filter id).length ≤ 6 := by
          have h1 := List.length_filter_le id (x.wr.take x.wr.length)
          have h2 : (x.wr.take x.wr.length).length ≤ x.wr.length := by simp
          omega
        generalize ((x.wr.take x.wr.length).filter id).length = cn at *
        have hcn0 : (0 : Int) ≤ (cn : Int) := by omega
        have hcn6 : (cn : Int) ≤ 6 := by omega
        have z0 : wr.cell? ⟨g6, 0, none⟩ = some (.bool false) := HO.out.cells 0
        have z1 : wr.cell? ⟨g6, 1, none⟩ = some (.bool false) := HO.out.cells 1
        have z2 : wr.cell? ⟨g6, 2, none⟩ = some (.bool false) := HO.out.cells 2
        have z3 : wr.cell? ⟨g6, 3, none⟩ = some (.bool false) := HO.out.cells 3
        have z4 : wr.cell? ⟨g6, 4, none⟩ = some (.bool false) := HO.out.cells 4
        have z5 : wr.cell? ⟨g6, 5, none⟩ = some (.bool false) := HO.out.cells 5
        have z6 : wr.cell? ⟨g6, 6, none⟩ = some (.bool false) := HO.out.cells 6
        have z7 : wr.cell? ⟨g6, 7, none⟩ = some (.bool false) := HO.out.cells 7
        have z8 : wr.cell? ⟨g6, 8, none⟩ = some (.bool false) := HO.out.cells 8
        have z9 : wr.cell? ⟨g6, 9, none⟩ = some (.bool false) := HO.out.cells 9
        have z10 : wr.cell? ⟨g6, 10, none⟩ = some (.bool false) := HO.out.cells 10
        have z11 : wr.cell? ⟨g6, 11, none⟩ = some (.bool false) := HO.out.cells 11
        go_wp2_with fail
        clear z0 z1 z2 z3 z4 z5 z6 z7 z8 z9 z10 z11
        go_loopw [58, 3] (fun kv cv w' => ∃ k : Nat, k ≤ 12 ∧ kv = .int .i64 (k : Int) ∧ cv = .int .i64 (cn : Int) ∧ Hid (Has w' (pt g6 (.cells no12 154) :: pt b (.cells (nodC x dv (.slice pw x.wr.length cw) nm) 72) :: Bytes dv x.data :: Bools (.slice pw x.wr.length cw) x.wr :: Nms nm x.names :: L)) ∧ Hid (Keep w w')) (fun kv _ _ => 12 - (intOf kv).toNat)
        case atStart => exact ⟨0, by omega, rfl, rfl, HO, HK⟩
        case round =>
          clear HO HK
          obtain ⟨k, hk12, rfl, rfl, HO, HK⟩ := hrel
          have hk0 : (0 : Int) ≤ (k : Int) := by omega
          by_cases hlt2 : k < 12
          · have hki2 : (k : Int) < 12 := by omega
            have hi := index12 k hlt2 wr
            unfold no12 at hi
            go_wp2_with fail
            exact ⟨⟨k + 1, by omega, by go_num, rfl, HO, HK⟩, by simp [intOf]; omega⟩
          · obtain rfl : k = 12 := by omega
            rw [show ((12 : Nat) : Int) = 12 from rfl]
            go_wp2_with fail
            go_ret
            rw [HB.out]
            exact ⟨rfl, ndc_iff.2 ⟨_, _, _, HNM.out, HO.out.re 5 [1, 2, 3, 4]⟩, HK.out⟩
end Go.Proofs.YtfhaedkaedffcaaGreatDoor
