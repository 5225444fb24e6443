/- TEXTS of mine, merged. -/
import Derived.Test.YtfhaedkaedffcaaGreatDoorM15
import Derived.Test.YtfhaedkaedffcaaGreatDoorM17
import Derived.Test.YtfhaedkaedffcaaGreatDoorM18
import Derived.Test.YtfhaedkaedffcaaGreatDoorM19
import Derived.Test.YtfhaedkaedffcaaGreatDoorM22
import Derived.Test.YtfhaedkaedffcaaGreatDoorM23
import Derived.Test.YtfhaedkaedffcaaGreatDoorM24
import Derived.Test.YtfhaedkaedffcaaGreatDoorM8
import Derived.Test.YtfhaedkaedffcaaGreatDoorM9
import Derived.Test.YtfhaedkaedffcaaGreatDoorM11
import Derived.Shelf.GgSortFunc.InsertionK
/- tree.Do, ANY OPERATION: what it answers, what it leaves. -/
namespace Go.Proofs.YtfhaedkaedffcaaGreatDoor
open Go.RowKit Go.Own
namespace Tre
def doM (S : Tre) (o : Opm) (ds : List Int) : Ans × Tre :=
  if o.kind = 1 then S.openFd o.path o.flags
  else if o.kind = 2 then S.close o.fd
  else if o.kind = 3 then S.read 3 o.fd o.n o.off
  else if o.kind = 4 then S.write 4 o.fd o.off ds
  else if o.kind = 5 then S.read 5 o.fd o.n o.off
  else if o.kind = 6 then S.write 6 o.fd o.off ds
  else if o.kind = 7 then S.seek o.fd o.n o.off
  else if o.kind = 8 then S.trunc o.fd o.off
  else if o.kind = 9 then S.mkdir o.path
  else if o.kind = 10 then S.remove 10 o.path
  else if o.kind = 11 then S.remove 11 o.path
  else if o.kind = 12 then S.link o.path o.dest
  else if o.kind = 13 then S.symlink o.path o.dest
  else if o.kind = 14 then (S.list 14 o.path, S)
  else if o.kind = 15 then S.rename o.path o.dest
  else if o.kind = 16 then (S.stat o.path true, S)
  else if o.kind = 17 then (S.stat o.path false, S)
  else if o.kind = 18 then (S.list 18 o.path, S)
  else if o.kind = 19 then (S.lasts o.fd, S)
  else if o.kind = 20 then (S.lasts o.fd, S)
  else if o.kind = 21 then (ansE 0, S)
  else if o.kind = 22 then (if 0 ≤ o.n then ansE 0 else ansE 2, S)
  else if o.kind = 23 then (if 0 ≤ o.n then ansE 0 else ansE 2, S)
  else (ansE 2, S)
end Tre
/-- An answer of numbers. -/
def Bare (a : Ans) : Prop := a.data = [] ∧ a.names = []
theorem bareE (e : Int) : Bare (ansE e) := ⟨rfl, rfl⟩
variable (S : Tre)
theorem bare_openAt (s : Spt) (fl : Int) : Bare (S.openAt s fl).1 := by
  unfold Tre.openAt
  split
  · exact bareE _
  · split
    · exact bareE _
    · exact ⟨rfl, rfl⟩
theorem bare_open (p : Str) (fl : Int) : Bare (S.openFd p fl).1 := by
  unfold Tre.openFd
  split
  · exact bareE _
  · split
    · split
      · exact bareE _
      · split
        · exact bareE _
        · split
          · split
            · exact bareE _
            · exact bare_openAt S _ _
          · exact bare_openAt S _ _
    · split
      · exact bareE _
      · exact bare_openAt S _ _
theorem bare_close (fd : Int) : Bare (S.close fd).1 := by unfold Tre.close; split <;> exact bareE _
theorem names_read (k fd n off : Int) : (S.read k fd n off).1.names = [] := by
  unfold Tre.read
  dsimp only
  split
  · rfl
  · split <;> rfl
theorem bare_write (k fd off : Int) (ds : List Int) : Bare (S.write k fd off ds).1 := by
  unfold Tre.write
  dsimp only
  by_cases h1 : (S.file fd true).2 ≠ 0
  · rw [if_pos h1]; exact bareE _
  rw [if_neg h1]
  by_cases h2 : k = 6 ∧ off < 0
  · rw [if_pos h2]; exact bareE _
  rw [if_neg h2]
  generalize (if k = 6 then off else if andI (S.file fd true).1.flags 8 ≠ 0 then ((S.at_ (S.file fd true).1.node).data.length : Int) else (S.file fd true).1.off) = o
  split
  · exact bareE _
  · split
    · exact bareE _
    · exact ⟨rfl, rfl⟩
theorem bare_seek (fd n off : Int) : Bare (S.seek fd n off).1 := by
  unfold Tre.seek
  dsimp only
  by_cases h1 : (S.file fd false).2 ≠ 0
  · rw [if_pos h1]; exact bareE _
  rw [if_neg h1]
  generalize (if n = 1 then (S.file fd false).1.off else if n = 2 then ((S.at_ (S.file fd false).1.node).data.length : Int) else 0) = f
  split
  · exact bareE _
  · split
    · exact bareE _
    · exact ⟨rfl, rfl⟩
theorem bare_trunc (fd off : Int) : Bare (S.trunc fd off).1 := by
  unfold Tre.trunc
  dsimp only
  split
  · exact bareE _
  · split
    · exact bareE _
    · split <;> exact bareE _
theorem bare_mkdir (p : Str) : Bare (S.mkdir p).1 := by unfold Tre.mkdir; dsimp only; split <;> exact bareE _
theorem bare_remove (k : Int) (p : Str) : Bare (S.remove k p).1 := by
  unfold Tre.remove
  split
  · exact bareE _
  · split
    · exact bareE _
    · split
      · exact bareE _
      · split
        · exact bareE _
        · split <;> exact bareE _
theorem bare_link (p q : Str) : Bare (S.link p q).1 := by
  unfold Tre.link
  split
  · exact bareE _
  · split
    · exact bareE _
    · split <;> exact bareE _
theorem bare_symlink (p q : Str) : Bare (S.symlink p q).1 := by
  unfold Tre.symlink
  split
  · exact bareE _
  · split <;> exact bareE _
theorem bare_rename (p q : Str) : Bare (S.rename p q).1 := by
  unfold Tre.rename
  by_cases h : (lastM p).2.2 ≠ 0
  · rw [if_pos h]; exact bareE _
  rw [if_neg h]; clear h
  by_cases h : (lastM q).2.2 ≠ 0
  · rw [if_pos h]; exact bareE _
  rw [if_neg h]; clear h
  by_cases h : (S.place p).2 ≠ 0
  · rw [if_pos h]; exact bareE _
  rw [if_neg h]; clear h
  by_cases h : (S.place p).1.node = 0
  · rw [if_pos h]; exact bareE _
  rw [if_neg h]; clear h
  by_cases h : (S.place q).2 ≠ 0
  · rw [if_pos h]; exact bareE _
  rw [if_neg h]; clear h
  dsimp only
  generalize (S.place p).1 = s
  generalize (S.place q).1 = t
  by_cases h : (S.at_ s.node).kind = 2 ∧ S.within t.dir s.node = true
  · rw [if_pos h]; exact bareE _
  rw [if_neg h]; clear h
  by_cases h : (S.at_ s.node).kind = 2 ∧ S.deep s.node (S.way t.dir ++ [t.name]) = true
  · rw [if_pos h]; exact bareE _
  rw [if_neg h]; clear h
  by_cases h : t.node = s.node
  · rw [if_pos h]; exact bareE _
  rw [if_neg h]; clear h
  by_cases h : t.node ≠ 0 ∧ (S.at_ s.node).kind = 2 ∧ (S.at_ t.node).kind ≠ 2
  · rw [if_pos h]; exact bareE _
  rw [if_neg h]; clear h
  by_cases h : t.node ≠ 0 ∧ (S.at_ s.node).kind = 2 ∧ 0 < (S.at_ t.node).names.length
  · rw [if_pos h]; exact bareE _
  rw [if_neg h]; clear h
  by_cases h : t.node ≠ 0 ∧ (S.at_ s.node).kind ≠ 2 ∧ (S.at_ t.node).kind = 2
  · rw [if_pos h]; exact bareE _
  rw [if_neg h]
  exact bareE _
theorem bare_stat (p : Str) (fo : Bool) : Bare (S.stat p fo) := by unfold Tre.stat; dsimp only; split <;> exact ⟨rfl, rfl⟩
theorem bare_lasts (fd : Int) : Bare (S.lasts fd) := by unfold Tre.lasts; split <;> exact bareE _
theorem bare_tick (n : Int) : Bare (if 0 ≤ n then ansE 0 else ansE 2) := by split <;> exact bareE _
theorem has_bare {w : World} {L : List HP} {a : Ans} (ha : Bare a) (h : Has w L) : Has w (Bytes nilV a.data :: Strs nilV a.names :: L) := by
  rw [ha.1, ha.2]
  exact (h.row_nil tStr 1).row_nil _ 1
theorem has_data {w : World} {L : List HP} {a : Ans} {dv : Value} (ha : a.names = []) (h : Has w (Bytes dv a.data :: L)) : Has w (Bytes dv a.data :: Strs nilV a.names :: L) := by
  rw [ha]
  exact (h.row_nil tStr 1).re 2 [1, 0]
theorem and12_all : ∀ i : Fin 64, andI (i.val : Int) 4 ≠ 0 → andI (i.val : Int) 12 ≠ 0 := by decide +kernel
theorem and12 {fl : Int} (h0 : 0 ≤ fl) (h1 : fl < 64) : andI fl 4 ≠ 0 → andI fl 12 ≠ 0 := by
  have := and12_all ⟨fl.toNat, by omega⟩
  rwa [show ((fl.toNat : Nat) : Int) = fl by omega] at this
variable {S} {rk : Int → Nat} {k : Nat}
theorem Gd.openFd' (h : Gd S rk k) (p : Str) (fl : Int) : ∃ rk', Gd (S.openFd p fl).2 rk' (k + 1) := by
  by_cases hb : 0 ≤ fl ∧ fl < 64
  · exact h.openFd p fl (and12 hb.1 hb.2)
  · unfold Tre.openFd
    rw [if_pos (by omega)]
    exact ⟨rk, h.mono (Nat.le_succ k)⟩
theorem Gd.doM (h : Gd S rk k) (o : Opm) (ds : List Int) (hp : o.path.length ≤ 100000) : ∃ rk', Gd (S.doM o ds).2 rk' (k + 1) := by
  have hm := h.mono (Nat.le_succ k)
  unfold Tre.doM
  by_cases h1 : o.kind = 1
  · rw [if_pos h1]; exact h.openFd' _ _
  rw [if_neg h1]; clear h1
  by_cases h1 : o.kind = 2
  · rw [if_pos h1]; exact ⟨rk, hm.close _⟩
  rw [if_neg h1]; clear h1
  by_cases h1 : o.kind = 3
  · rw [if_pos h1]; exact ⟨rk, hm.read _ _ _ _⟩
  rw [if_neg h1]; clear h1
  by_cases h1 : o.kind = 4
  · rw [if_pos h1]; exact ⟨rk, hm.write _ _ _ _⟩
  rw [if_neg h1]; clear h1
  by_cases h1 : o.kind = 5
  · rw [if_pos h1]; exact ⟨rk, hm.read _ _ _ _⟩
  rw [if_neg h1]; clear h1
  by_cases h1 : o.kind = 6
  · rw [if_pos h1]; exact ⟨rk, hm.write _ _ _ _⟩
  rw [if_neg h1]; clear h1
  by_cases h1 : o.kind = 7
  · rw [if_pos h1]; exact ⟨rk, hm.seek _ _ _⟩
  rw [if_neg h1]; clear h1
  by_cases h1 : o.kind = 8
  · rw [if_pos h1]; exact ⟨rk, hm.trunc _ _⟩
  rw [if_neg h1]; clear h1
  by_cases h1 : o.kind = 9
  · rw [if_pos h1]; exact h.mkdir _
  rw [if_neg h1]; clear h1
  by_cases h1 : o.kind = 10
  · rw [if_pos h1]; exact ⟨rk, hm.remove (.inl rfl) _⟩
  rw [if_neg h1]; clear h1
  by_cases h1 : o.kind = 11
  · rw [if_pos h1]; exact ⟨rk, hm.remove (.inr rfl) _⟩
  rw [if_neg h1]; clear h1
  by_cases h1 : o.kind = 12
  · rw [if_pos h1]; exact h.link _ _
  rw [if_neg h1]; clear h1
  by_cases h1 : o.kind = 13
  · rw [if_pos h1]; exact h.symlink _ _ hp
  rw [if_neg h1]; clear h1
  by_cases h1 : o.kind = 14
  · rw [if_pos h1]; exact ⟨rk, hm⟩
  rw [if_neg h1]; clear h1
  by_cases h1 : o.kind = 15
  · rw [if_pos h1]; exact h.rename _ _
  rw [if_neg h1]; clear h1
  refine ⟨rk, ?_⟩
  split
  · exact hm
  split
  · exact hm
  split
  · exact hm
  split
  · exact hm
  split
  · exact hm
  split
  · exact hm
  split
  · exact hm
  split
  · exact hm
  exact hm
set_option maxRecDepth 100000 in
theorem doAny (q : Nat) (o : Opm) (po : Option Addr) (co : Nat) (ds : List Int) (mx : Int) (w : World) (L : List HP) (hg : Gd S rk k) (hk : k < 100000) (hM : MxL mx L) (hp : o.path.length ≤ 100000) (hd : o.dest.length ≤ 100000) (ho : o.off ≤ 9223372036854775807) (hds : ds.length ≤ 100000)
    (hrd : ∀ w', Has w' L → Rd w' (.slice po ds.length co) 1 ds.length (bc ds)) (hO : Has w (Trc q S :: L)) :
    Calls Tryz.prog 17 #[.pointer (some ⟨q, 0, none⟩), opV o (.slice po ds.length co)] w fun e w' => ∃ dv nv, e = .returned (ansV (S.doM o ds).1 dv nv) ∧ Has w' (Bytes dv (S.doM o ds).1.data :: Strs nv (S.doM o ds).1.names :: Trc q (S.doM o ds).2 :: L) ∧ Keep w w' := by
  have hk9 : k < 900000 := by omega
  have hdl : ∀ n x, fnd S.nodes n = some x → x.data.length ≤ 100000 ∧ x.names.length ≤ 1000000 := fun n x hx => ⟨(hg.nod hx).size.1, by have := (hg.nod hx).size.2.2.1; omega⟩
  have hlk : ∀ n x, fnd S.nodes n = some x → 0 ≤ x.links ∧ x.links < 1000000 := fun n x hx => by have := (hg.nod hx).size; omega
  obtain ⟨kind, fd, n, off, flags, path, dest⟩ := o
  dsimp only at hp hd ho
  unfold Tre.doM
  dsimp only
  have hKO : (S.place path).2 = 0 → (S.place path).1.node ≠ 0 → KidOk S (S.place path).1 := fun h0 hn => (hg.kidOk hk9 path h0 hn).1
  have hDO : (S.fresh dest).2 = 0 → DirOk S (S.fresh dest).1 := fun h0 => by
    obtain ⟨h1, _, h3⟩ := fresh_place h0
    rw [h3]
    exact hg.dirOk hk9 dest h1
  by_cases h1 : kind = 1
  · subst h1
    rw [if_pos rfl]
    refine (doOpenT q S fd n off flags path dest _ w L rk mx hg.wk hg.wy (hg.opb hk9) hM hp (fun h0 => (hg.find_ok path true h0).2 rfl) hO).mono ?_
    rintro e w' ⟨rfl, h2, h3⟩
    exact ⟨_, _, rfl, has_bare (bare_open S _ _) h2, h3⟩
  rw [if_neg h1]
  by_cases h2 : kind = 2
  · subst h2
    rw [if_pos rfl]
    refine (doClose q S fd n off flags path dest _ w L (fun h0 => ?_) hO).mono ?_
    · unfold Tb.cls at h0 ⊢
      cases hl : Tb.look S.tab fd with
      | none => rw [hl] at h0; simp at h0
      | some s => exact hg.op.there fd s hl
    · rintro e w' ⟨rfl, h2, h3⟩
      exact ⟨_, _, rfl, has_bare (bare_close S _) h2, h3⟩
  rw [if_neg h2]
  by_cases h3 : kind = 3
  · subst h3
    rw [if_pos rfl]
    refine (doRead3 q S fd n off flags path dest _ w L hg.op ho hO).mono ?_
    rintro e w' ⟨dv, rfl, h2, h3⟩
    exact ⟨_, _, rfl, has_data (names_read S _ _ _ _) h2, h3⟩
  rw [if_neg h3]
  by_cases h4 : kind = 4
  · subst h4
    rw [if_pos rfl]
    refine (doWrite4 q S fd n off flags path dest po co ds w L hg.op ho hds hrd hO).mono ?_
    rintro e w' ⟨dv, rfl, h2, h3⟩
    exact ⟨_, _, rfl, has_data (bare_write S _ _ _ _).2 h2, h3⟩
  rw [if_neg h4]
  by_cases h5 : kind = 5
  · subst h5
    rw [if_pos rfl]
    refine (doRead5 q S fd n off flags path dest _ w L hg.op ho hO).mono ?_
    rintro e w' ⟨dv, rfl, h2, h3⟩
    exact ⟨_, _, rfl, has_data (names_read S _ _ _ _) h2, h3⟩
  rw [if_neg h5]
  by_cases h6 : kind = 6
  · subst h6
    rw [if_pos rfl]
    refine (doWrite6 q S fd n off flags path dest po co ds w L hg.op ho hds hrd hO).mono ?_
    rintro e w' ⟨dv, rfl, h2, h3⟩
    exact ⟨_, _, rfl, has_data (bare_write S _ _ _ _).2 h2, h3⟩
  rw [if_neg h6]
  by_cases h7 : kind = 7
  · subst h7
    rw [if_pos rfl]
    refine (doSeek q S fd n off flags path dest _ w L hg.op hO).mono ?_
    rintro e w' ⟨dv, rfl, h2, h3⟩
    exact ⟨_, _, rfl, has_data (bare_seek S _ _ _).2 h2, h3⟩
  rw [if_neg h7]
  by_cases h8 : kind = 8
  · subst h8
    rw [if_pos rfl]
    refine (doTrunc q S fd n off flags path dest _ w L hg.op hO).mono ?_
    rintro e w' ⟨dv, rfl, h2, h3⟩
    exact ⟨_, _, rfl, has_data (bare_trunc S _ _).2 h2, h3⟩
  rw [if_neg h8]
  by_cases h9 : kind = 9
  · subst h9
    rw [if_pos rfl]
    refine (doMkdir q S fd n off flags path dest _ w L rk mx hg.wk hg.wy (hg.opb hk9) hM hp hO).mono ?_
    rintro e w' ⟨rfl, h2, h3⟩
    exact ⟨_, _, rfl, has_bare (bare_mkdir S _) h2, h3⟩
  rw [if_neg h9]
  by_cases h10 : kind = 10
  · subst h10
    rw [if_pos rfl]
    refine (doRmdir q S fd n off flags path dest _ w L rk mx hg.wk hg.wy hM hp hKO hO).mono ?_
    rintro e w' ⟨rfl, h2, h3⟩
    exact ⟨_, _, rfl, has_bare (bare_remove S _ _) h2, h3⟩
  rw [if_neg h10]
  by_cases h11 : kind = 11
  · subst h11
    rw [if_pos rfl]
    refine (doUnlink q S fd n off flags path dest _ w L rk mx hg.wk hg.wy hM hp hKO hO).mono ?_
    rintro e w' ⟨rfl, h2, h3⟩
    exact ⟨_, _, rfl, has_bare (bare_remove S _ _) h2, h3⟩
  rw [if_neg h11]
  by_cases h12 : kind = 12
  · subst h12
    rw [if_pos rfl]
    refine (doLink q S fd n off flags path dest _ w L rk mx hg.wk hg.wy hM hp hd hlk hDO hO).mono ?_
    rintro e w' ⟨rfl, h2, h3⟩
    exact ⟨_, _, rfl, has_bare (bare_link S _ _) h2, h3⟩
  rw [if_neg h12]
  by_cases h13 : kind = 13
  · subst h13
    rw [if_pos rfl]
    refine (doSymlink q S fd n off flags path dest _ w L rk mx hg.wk hg.wy hM hp hd (hg.opb hk9) hDO hO).mono ?_
    rintro e w' ⟨rfl, h2, h3⟩
    exact ⟨_, _, rfl, has_bare (bare_symlink S _ _) h2, h3⟩
  rw [if_neg h13]
  by_cases h14 : kind = 14
  · subst h14
    rw [if_pos rfl]
    exact doReadlink q S fd n off flags path dest _ w L mx hg.wk hM hp hdl hO
  rw [if_neg h14]
  by_cases h15 : kind = 15
  · subst h15
    rw [if_pos rfl]
    refine (doRename q S fd n off flags path dest _ w L rk mx hg.wk hg.wy hM hp hd (hg.kidOk hk9 path) (fun h0 => ⟨hg.dirOk hk9 dest h0, (hg.place_ok dest h0).name.2.1, fun hn => (hg.kidOk hk9 dest h0 hn).1⟩) hg.up_rk hg.nm_rk hO).mono ?_
    rintro e w' ⟨rfl, h2, h3⟩
    exact ⟨_, _, rfl, has_bare (bare_rename S _ _) h2, h3⟩
  rw [if_neg h15]
  by_cases h16 : kind = 16
  · subst h16
    rw [if_pos rfl]
    refine (doStat q S fd n off flags path dest _ w L mx hg.wk hM hp hdl hO).mono ?_
    rintro e w' ⟨rfl, h2, h3⟩
    exact ⟨_, _, rfl, has_bare (bare_stat S _ _) h2, h3⟩
  rw [if_neg h16]
  by_cases h17 : kind = 17
  · subst h17
    rw [if_pos rfl]
    refine (doLstat q S fd n off flags path dest _ w L mx hg.wk hM hp hdl hO).mono ?_
    rintro e w' ⟨rfl, h2, h3⟩
    exact ⟨_, _, rfl, has_bare (bare_stat S _ _) h2, h3⟩
  rw [if_neg h17]
  by_cases h18 : kind = 18
  · subst h18
    rw [if_pos rfl]
    exact doReaddir q S fd n off flags path dest _ w L mx hg.wk hM hp hdl hO
  rw [if_neg h18]
  by_cases h19 : kind = 19
  · subst h19
    rw [if_pos rfl]
    refine (doFsync q S fd n off flags path dest _ w L hO).mono ?_
    rintro e w' ⟨rfl, h2, h3⟩
    exact ⟨_, _, rfl, has_bare (bare_lasts S _) h2, h3⟩
  rw [if_neg h19]
  by_cases h20 : kind = 20
  · subst h20
    rw [if_pos rfl]
    refine (doFdatasync q S fd n off flags path dest _ w L hO).mono ?_
    rintro e w' ⟨rfl, h2, h3⟩
    exact ⟨_, _, rfl, has_bare (bare_lasts S _) h2, h3⟩
  rw [if_neg h20]
  by_cases h21 : kind = 21
  · subst h21
    rw [if_pos rfl]
    refine (doSync q S fd n off flags path dest _ w L hO).mono ?_
    rintro e w' ⟨rfl, h2, h3⟩
    exact ⟨_, _, rfl, has_bare (bareE _) h2, h3⟩
  rw [if_neg h21]
  by_cases h22 : kind = 22
  · subst h22
    rw [if_pos rfl]
    refine (doTick q S fd n off flags path dest _ w L hO).mono ?_
    rintro e w' ⟨rfl, h2, h3⟩
    exact ⟨_, _, rfl, has_bare (bare_tick _) h2, h3⟩
  rw [if_neg h22]
  by_cases h23 : kind = 23
  · subst h23
    rw [if_pos rfl]
    refine (doDrop q S fd n off flags path dest _ w L hO).mono ?_
    rintro e w' ⟨rfl, h2, h3⟩
    exact ⟨_, _, rfl, has_bare (bare_tick _) h2, h3⟩
  rw [if_neg h23]
  refine (doOther q S kind fd n off flags path dest _ w L (by omega) hO).mono ?_
  rintro e w' ⟨rfl, h2, h3⟩
  exact ⟨_, _, rfl, has_bare (bareE _) h2, h3⟩
end Go.Proofs.YtfhaedkaedffcaaGreatDoor
/- THE WALK of tree.New, Number. -/
namespace Go.Proofs.YtfhaedkaedffcaaGreatDoor
open Go.RowKit Go.Own
def tre0 : Tre := ⟨[(1, ⟨2, [], [], [], 0, 1, 0⟩)], 1, List.replicate 16 Tb.none4⟩
set_option maxRecDepth 100000 in
set_option maxHeartbeats 4000000 in
theorem tNew (w : World) (L : List HP) (hO : Has w L) : Calls Tryz.prog 16 #[] w fun e w' => ∃ q, e = .returned (.pointer (some ⟨q, 0, none⟩)) ∧ Has w' (Trc q tre0 :: L) ∧ Keep w w' := by
  have h1 := (Mk.made (Mk.made hO kInt vPtr) kStr vInt).alloc (.cells #[.int .i64 2, .slice none 0 0, .slice none 0 0, .map (some (w.alloc (.map #[] 0)).heap.size), .int .i64 0, .int .i64 1, .int .i64 0] 72)
  have e1 : (w.alloc (.map #[] 0)).heap.size = w.heap.size + 1 := by show (Array.push _ _).size = _; rw [Array.size_push]
  have e2 : ((w.alloc (.map #[] 0)).alloc (.map #[] 0)).heap.size = w.heap.size + 1 + 1 := by show (Array.push _ _).size = _; rw [Array.size_push, e1]
  rw [e2, e1] at h1
  have HO1 := hid (h1.re 3 [2, 0, 1])
  have HK1 := hid ((((Keep.refl w).alloc (.map #[] 0)).alloc (.map #[] 0)).alloc (.cells #[.int .i64 2, .slice none 0 0, .slice none 0 0, .map (some (w.heap.size + 1)), .int .i64 0, .int .i64 1, .int .i64 0] 72))
  have hmm := @run_makeMap Tryz.prog
  clear h1 hO e1 e2
  go_enter Tryz.func16, Tryz.ntmps16
  go_wp2_with (refine wpList_mkIns HO1.out (by decide) tNo undNo rfl _ _ _ rfl rfl 1 (wf_small 1 (by decide) (by decide)) rfl (some (w.heap.size + 1 + 1)) trivial rfl ?_; intro w2 h2 k2; simp only [Act.put])
  refine (tabNew w2 _ h2).mono ?_
  rintro e w3 ⟨f, rfl, h3, k3⟩
  have HO3 := hid h3
  have HK3 := hid ((HK1.out.trans k2).trans k3)
  clear h2 k2 h3 k3 HO1 HK1
  try dsimp only
  go_wp2_with fail
  go_ret
  refine ⟨w3.heap.size, rfl, ?_, HK3.out.alloc _⟩
  have h4 := (HO3.out.alloc (.cells (treC w.heap.size f 1) 77))
  refine trc_iff.2 ⟨w.heap.size, f, [(1, w.heap.size + 1 + 1, ⟨2, [], [], [], 0, 1, 0⟩)], ⟨rfl, by simp [tre0]⟩, trb_iff.2 ?_⟩
  have h5 := (h4.re 5 [3, 4, 0, 1, 2])
  have h6 := ((h5.row_nil 4 1).row_nil 5 1).re 7 [2, 0, 1, 3, 4, 5, 6]
  have h7 : Has _ (Ndc (w.heap.size + 1 + 1) ⟨2, [], [], [], 0, 1, 0⟩ :: _) := ndc_ofB (by show (2 : Int) ≠ 3; decide) ⟨.slice none 0 0, .slice none 0 0, some (w.heap.size + 1), fun _ => ⟨_, rfl⟩, h6⟩
  exact h7.re 4 [1, 3, 2, 0]
set_option maxRecDepth 100000 in
theorem tNumber (q : Nat) (S : Tre) (p : Str) (mx : Int) (w : World) (L : List HP) (hW : Wk S) (hM : MxL mx L) (hp : p.length ≤ 100000) (hO : Has w (Trc q S :: L)) :
    Calls Tryz.prog 22 #[.pointer (some ⟨q, 0, none⟩), sV p] w fun e w' => e = .returned (.int .i64 (S.find p false).1.node) ∧ Has w' (Trc q S :: L) ∧ Keep w w' := by
  have HF := hid (tFind q S p false mx w L hW hM hp hO)
  generalize S.find p false = R at *
  obtain ⟨s, e⟩ := R
  dsimp only at *
  clear hO hM hW
  go_enter Tryz.func22, Tryz.ntmps22
  go_wp2_with fail
  refine (HF.out).mono ?_
  rintro e w1 ⟨rfl, hO1, hK1⟩
  have HO1 := hid hO1
  have HK1 := hid ((Keep.refl w).trans hK1)
  clear hO1 hK1
  try dsimp only
  unfold spV spC
  have hc := (HO1.out.alloc (.cells (spC s) 81)).cells 0
  go_wp2_with fail
  go_ret
  exact ⟨rfl, (HO1.out.alloc (.cells (spC s) 81)).drop, HK1.out.alloc _⟩
end Go.Proofs.YtfhaedkaedffcaaGreatDoor
/- Plain facts of the small trees of the laws: the root alone; one file f. No program in sight. -/
namespace Go.Proofs.YtfhaedkaedffcaaGreatDoor
open Go.RowKit Go.Own
abbrev nF : Str := [102]
abbrev pF : Str := [47, 102]
def root0 : Nod := ⟨2, [], [], [], 0, 1, 0⟩
def rootF : Nod := ⟨2, [], [], [(nF, 2)], 1, 1, 0⟩
def fileF (d : List Int) (wr : List Bool) : Nod := ⟨1, d, wr, [], 0, 1, 0⟩
/-- The root, and a file f. -/
def trF (d : List Int) (wr : List Bool) (T : List Tb.Slot) : Tre := ⟨[(1, rootF), (2, fileF d wr)], 2, T⟩
theorem splitM_root : splitM [47] = ([], 0) := by decide +kernel
theorem find_root (S : Tre) (fo : Bool) : S.find [47] fo = (⟨1, 0, []⟩, 0) := by
  unfold Tre.find
  rw [splitM_root, if_neg (by simp), Tre.walk]
section
variable {d : List Int} {wr : List Bool} {T : List Tb.Slot}
/-- What stands in the table: the file alone, somewhere. -/
def TabF (T : List Tb.Slot) : Prop := ∀ s ∈ T, s.on = true → s.node = 2 ∧ 0 ≤ s.off ∧ s.off ≤ 2000000000000
end
end Go.Proofs.YtfhaedkaedffcaaGreatDoor
/- PATHS OF ONE NAME, plain. No program in sight. -/
namespace Go.Proofs.YtfhaedkaedffcaaGreatDoor
open Go.RowKit Go.Own
/-- A name that may be asked for. -/
def GoodN (s : Str) : Prop := NameOk s ∧ s ≠ [46] ∧ (0 : UInt8) ∉ s
theorem spl_no {s : Str} (h : (47 : UInt8) ∉ s) : spl s = [s] := by
  induction s with
  | nil => rfl
  | cons c l ih =>
    have h1 : c ≠ 47 := fun e => h (by rw [e]; exact List.mem_cons_self)
    rw [spl, if_neg h1, ih fun hm => h (List.mem_cons_of_mem _ hm)]
theorem indexByte_none {s : Str} {c : UInt8} (h : c ∉ s) : Lib.indexByte s c = -1 := by
  induction s with
  | nil => rfl
  | cons b l ih =>
    have h1 : (b == c) = false := by
      simp only [beq_eq_false_iff_ne, ne_eq]
      rintro rfl
      exact h List.mem_cons_self
    rw [Lib.indexByte, h1, ih fun hm => h (List.mem_cons_of_mem _ hm)]
    rfl
theorem hasNul_none {s : Str} (h : (0 : UInt8) ∉ s) : hasNul s = false := by
  unfold hasNul
  rw [indexByte_none h]
  rfl
theorem isAbs_cons (s : Str) : isAbs (47 :: s) = true := by
  unfold isAbs Lib.hasPrefix
  simp
theorem partsM_one {nm : Str} (h : GoodN nm) : partsM (47 :: nm) = ([nm], true) := by
  have h1 : skipP nm = false := by
    unfold skipP
    simp only [Bool.or_eq_false_iff, beq_eq_false_iff_ne, ne_eq]
    exact ⟨h.1.1, h.2.1⟩
  have h2 : partsL (pieces (47 :: nm)) [] = some [nm] := by
    rw [pieces_spl, spl, if_pos rfl, spl_no h.1.2.2.1]
    have h3 : ¬ 24 < nm.length := by have := h.1.2.1; omega
    simp only [partsL, h1, Bool.false_eq_true, if_false, if_neg h3, List.nil_append]
    rfl
  unfold partsM
  rw [h2]
  rfl
theorem splitM_one {nm : Str} (h : GoodN nm) : splitM (47 :: nm) = ([nm], 0) := by
  unfold splitM
  have h0 : (0 : UInt8) ∉ (47 :: nm : Str) := by
    intro hm
    rcases List.mem_cons.1 hm with e | hm
    · exact absurd e (by decide)
    · exact h.2.2 hm
  rw [isAbs_cons, hasNul_none h0, partsM_one h]
  have h3 : ¬ (200 : Int) < ((47 :: nm : Str).length : Int) := by have := h.1.2.1; simp only [List.length_cons]; omega
  rw [if_neg (by decide), if_neg ?_]
  simp only [Bool.or_eq_true, Bool.not_eq_true', decide_eq_true_eq, not_or]
  exact ⟨by decide, h3⟩
theorem lastM_one {nm : Str} (h : GoodN nm) : lastM (47 :: nm) = ([47], nm, 0) := by
  unfold lastM
  rw [splitM_one h]
  simp only [ne_eq, not_true_eq_false, if_false, List.getLast?_singleton, if_neg h.1.2.2.2]
  rfl
theorem way1 (S : Tre) : S.way 1 = [] := way_stop (.inl rfl)
variable {S : Tre} {rk : Int → Nat} {k : Nat}
theorem Gd.place_one (hg : Gd S rk k) {nm : Str} (h : GoodN nm) : S.place (47 :: nm) = (⟨(fnd (S.at_ 1).names nm).getD 0, 1, nm⟩, 0) := by
  unfold Tre.place
  rw [lastM_one h]
  simp only [find_root, ne_eq, not_true_eq_false, if_false]
  rw [if_neg (fun e => e hg.root2), way1]
  have h1 : Tre.longM ([] ++ [nm]) = false := by
    unfold Tre.longM
    have h2 := joinS_len [nm] (fun p hp => by rw [List.mem_singleton.1 hp]; exact h.1.2.1)
    simp only [List.length_cons, List.length_nil] at h2
    simp only [Bool.or_eq_false_iff, decide_eq_false_iff_not]
    refine ⟨by simp, ?_⟩
    show ¬ 200 < (joinM [nm]).length
    simp only [joinM, List.length_cons]
    omega
  rw [h1]
  rfl
theorem Gd.fresh_one (hg : Gd S rk k) {nm : Str} (h : GoodN nm) : S.fresh (47 :: nm) = if (fnd (S.at_ 1).names nm).getD 0 ≠ 0 then (spt0, 6) else (⟨0, 1, nm⟩, 0) := by
  unfold Tre.fresh
  rw [hg.place_one h]
  simp only [ne_eq, not_true_eq_false, if_false]
  by_cases h0 : (fnd (S.at_ 1).names nm).getD 0 = 0
  · rw [if_neg (by simp [h0]), if_neg (by simp [h0]), h0]
  · rw [if_pos (by simp [h0]), if_pos (by simp [h0])]
/-- What a new node leaves of its directory. -/
theorem make_dir (S : Tre) (s : Spt) (c : Int) (ds : Str) (h : s.dir ≠ S.last + 1) : fnd (S.make s c ds).nodes s.dir = some (Tre.dirAdd (S.at_ s.dir) s.name (S.last + 1)) := by
  unfold Tre.make Tre.add Tre.setN
  refine (fnd_putA.trans (if_neg h)).trans (fnd_putA.trans ((if_pos rfl).trans ?_))
  unfold Tre.at_
  dsimp only
  rw [fnd_putA, if_neg h]
theorem make_other (S : Tre) (s : Spt) (c : Int) (ds : Str) (n : Int) (h1 : n ≠ s.dir) (h2 : n ≠ S.last + 1) : fnd (S.make s c ds).nodes n = fnd S.nodes n := by
  unfold Tre.make Tre.add Tre.setN
  exact (fnd_putA.trans (if_neg h2)).trans (fnd_putA.trans ((if_neg h1).trans (fnd_putA.trans (if_neg h2))))
theorem gd0 : Gd tre0 (fun _ => 0) 0 where
  x := {
    keys := by decide
    has1 := ⟨_, rfl⟩
    rk1 := rfl
    rk20 := fun _ => by show 0 ≤ 20; omega
    zne := by decide
    zero := rfl
    nod := fun n x hx => by
      have h1 : n = 1 ∧ x = ⟨2, [], [], [], 0, 1, 0⟩ := by
        have e : tre0.nodes = [(1, ⟨2, [], [], [], 0, 1, 0⟩)] := rfl
        rw [e, fnd_cons] at hx
        by_cases h : (1 : Int) = n
        · rw [if_pos h] at hx; cases hx; exact ⟨h.symm, rfl⟩
        · rw [if_neg h] at hx; cases hx
      obtain ⟨rfl, rfl⟩ := h1
      exact ⟨.inr (.inl rfl), fun h => absurd rfl h, by simp, List.nodup_nil, ⟨by simp, by simp, by simp, by simp, by simp, by simp, by simp⟩, fun _ => ⟨rfl, rfl, rfl, by decide⟩, fun _ h => absurd rfl h, fun _ h => absurd rfl h, fun _ _ h => absurd rfl h⟩ }
  num := fun n x hx => by
    have e : tre0.nodes = [(1, ⟨2, [], [], [], 0, 1, 0⟩)] := rfl
    rw [e, fnd_cons] at hx
    by_cases h : (1 : Int) = n
    · subst h; exact ⟨by omega, by show (1:Int) ≤ 1; omega⟩
    · rw [if_neg h] at hx; cases hx
  last := by show (1 : Int) ≤ _; omega
  many := by show 1 ≤ 1; omega
  tab16 := rfl
  opn := fun fd s hs => by
    exfalso
    obtain ⟨j, hj, -, e, hon⟩ := Tb.look_in rfl hs
    have : ∀ s ∈ tre0.tab, s.on = false := by decide
    rw [this s (by rw [← e]; exact List.getElem_mem _)] at hon
    cases hon
end Go.Proofs.YtfhaedkaedffcaaGreatDoor
/- PATHS, plain: parts joined and taken apart again; going down by names. No program in sight. -/
namespace Go.Proofs.YtfhaedkaedffcaaGreatDoor
open Go.RowKit Go.Own
def joinP : List Str → Str
  | [] => []
  | p :: ps => (47 :: p) ++ joinP ps
theorem joinP_app (a b : List Str) : joinP (a ++ b) = joinP a ++ joinP b := by
  induction a with
  | nil => rfl
  | cons x a ih => simp only [List.cons_append, joinP, ih, List.append_assoc]
theorem joinP_ne {ps : List Str} (h : ps ≠ []) : joinP ps ≠ [] := by
  cases ps with
  | nil => exact absurd rfl h
  | cons p ps => simp [joinP]
theorem joinTail_joinP (r : List Str) : Lib.joinTail [47] r = joinP r := by
  induction r with
  | nil => rfl
  | cons x r ih =>
    unfold Lib.joinTail at ih ⊢
    rw [List.map_cons, List.flatten_cons, ih]
    rfl
theorem joinM_joinP {ps : List Str} (h : ps ≠ []) : joinM ps = joinP ps := by
  cases ps with
  | nil => exact absurd rfl h
  | cons p ps =>
    show 47 :: joinS (p :: ps) = _
    unfold joinS
    rw [Lib.join_cons, joinTail_joinP]
    rfl
theorem joinM_nil : joinM [] = [47] := rfl
theorem joinP_len (ps : List Str) : (joinP ps).length = (ps.map fun p => p.length + 1).sum := by
  induction ps with
  | nil => rfl
  | cons p ps ih => simp only [joinP, List.length_append, List.length_cons, List.map_cons, List.sum_cons, ih]
theorem spl_app {a : Str} (h : (47 : UInt8) ∉ a) (l : Str) : spl (a ++ 47 :: l) = a :: spl l := by
  induction a with
  | nil => rw [List.nil_append, spl, if_pos rfl]
  | cons c a ih =>
    have h1 : c ≠ 47 := fun e => h (by rw [e]; exact List.mem_cons_self)
    rw [List.cons_append, spl, if_neg h1, ih fun hm => h (List.mem_cons_of_mem _ hm)]
theorem spl_joinP : ∀ (ps : List Str) (a : Str), (47 : UInt8) ∉ a → (∀ p ∈ ps, (47 : UInt8) ∉ p) → spl (a ++ joinP ps) = a :: ps
  | [], a, ha, _ => by rw [joinP, List.append_nil, spl_no ha]
  | p :: ps, a, ha, h => by
    show spl (a ++ (47 :: (p ++ joinP ps))) = _
    rw [spl_app ha, spl_joinP ps p (h p List.mem_cons_self) fun q hq => h q (List.mem_cons_of_mem _ hq)]
theorem skip_no {p : Str} (h : PartOk p) : skipP p = false := by
  unfold skipP
  simp only [Bool.or_eq_false_iff, beq_eq_false_iff_ne, ne_eq]
  exact ⟨h.1, h.2.1⟩
theorem partsL_all : ∀ (ps acc : List Str), (∀ p ∈ ps, PartOk p) → partsL ps acc = some (acc ++ ps)
  | [], acc, _ => by rw [partsL, List.append_nil]
  | p :: ps, acc, h => by
    have h1 := h p List.mem_cons_self
    have h2 : ¬ 24 < p.length := by have := h1.2.2.1; omega
    rw [partsL, skip_no h1, if_neg (by decide), if_neg h2, partsL_all ps _ fun q hq => h q (List.mem_cons_of_mem _ hq), List.append_assoc]
    rfl
/-- A part without a zero byte. -/
def Pz (p : Str) : Prop := PartOk p ∧ (0 : UInt8) ∉ p
theorem partsM_joinP {ps : List Str} (h : ∀ p ∈ ps, Pz p) : partsM (joinP ps) = (ps, decide (ps.length ≤ 20)) := by
  have h1 : partsL (pieces (joinP ps)) [] = some ps := by
    have e := spl_joinP ps [] (by simp) fun p hp => (h p hp).1.2.2.2
    rw [List.nil_append] at e
    rw [pieces_spl, e, partsL, if_pos (show skipP [] = true from rfl), partsL_all ps [] fun p hp => (h p hp).1]
    rfl
  unfold partsM
  rw [h1]
theorem zero_joinP {ps : List Str} (h : ∀ p ∈ ps, Pz p) : (0 : UInt8) ∉ joinP ps := by
  induction ps with
  | nil => simp [joinP]
  | cons p ps ih =>
    have h1 := (h p List.mem_cons_self).2
    have h2 := ih fun q hq => h q (List.mem_cons_of_mem _ hq)
    simp only [joinP, List.cons_append, List.mem_cons, List.mem_append, not_or]
    exact ⟨by decide, h1, h2⟩
theorem abs_joinP {ps : List Str} (h : ps ≠ []) : isAbs (joinP ps) = true := by
  cases ps with
  | nil => exact absurd rfl h
  | cons p ps => exact isAbs_cons _
theorem splitM_joinP {ps : List Str} (h : ∀ p ∈ ps, Pz p) (hne : ps ≠ []) : splitM (joinP ps) = if 20 < ps.length ∨ 200 < (joinP ps).length then ([], 11) else (ps, 0) := by
  unfold splitM
  rw [abs_joinP hne, hasNul_none (zero_joinP h), partsM_joinP h]
  by_cases h1 : 20 < ps.length ∨ 200 < (joinP ps).length
  · rw [if_pos h1, if_neg (by decide), if_pos ?_]
    simp only [Bool.or_eq_true, Bool.not_eq_true', decide_eq_false_iff_not, decide_eq_true_eq]
    omega
  · rw [if_neg h1, if_neg (by decide), if_neg ?_]
    simp only [Bool.or_eq_true, Bool.not_eq_true', decide_eq_false_iff_not, decide_eq_true_eq]
    omega
theorem splitM_joinM {ps : List Str} (h : ∀ p ∈ ps, Pz p) (h1 : ps.length ≤ 20) (h2 : (joinP ps).length ≤ 200) : splitM (joinM ps) = (ps, 0) := by
  by_cases hne : ps = []
  · subst hne; rw [joinM_nil]; exact splitM_root
  · rw [joinM_joinP hne, splitM_joinP h hne, if_neg (by omega)]
theorem lastM_joinP {qs : List Str} {nm : Str} (h : ∀ p ∈ qs ++ [nm], Pz p) (hu : nm ≠ [46, 46]) : lastM (joinP (qs ++ [nm])) = if 20 < (qs ++ [nm]).length ∨ 200 < (joinP (qs ++ [nm])).length then ([], [], 11) else (joinM qs, nm, 0) := by
  unfold lastM
  rw [splitM_joinP h (by simp)]
  by_cases h1 : 20 < (qs ++ [nm]).length ∨ 200 < (joinP (qs ++ [nm])).length
  · rw [if_pos h1, if_pos (by decide), if_pos h1]
  · rw [if_neg h1, if_neg h1]
    simp only [ne_eq, not_true_eq_false, if_false, List.getLast?_append, List.getLast?_singleton, Option.some_or, if_neg hu, List.dropLast_concat]
theorem targetM_joinP {ps : List Str} (h : ∀ p ∈ ps, Pz p) (hne : ps ≠ []) (h1 : ps.length ≤ 20) (h2 : (joinP ps).length ≤ 100) : targetM (joinP ps) = (ps, true, 0) := by
  unfold targetM
  have h3 : (joinP ps).isEmpty = false := by
    rw [List.isEmpty_eq_false_iff]
    exact joinP_ne hne
  rw [h3, hasNul_none (zero_joinP h), partsM_joinP h, if_neg (by decide), if_neg ?_, abs_joinP hne]
  simp only [Bool.or_eq_true, Bool.not_eq_true', decide_eq_false_iff_not, decide_eq_true_eq]
  omega
namespace Tre
/-- Down by names. -/
def goN (S : Tre) : Int → List Str → Option Int
  | n, [] => some n
  | n, p :: ps => match fnd (S.at_ n).names p with
    | none => none
    | some c => goN S c ps
end Tre
theorem goN_app (S : Tre) (n : Int) (a b : List Str) : S.goN n (a ++ b) = (S.goN n a).bind fun c => S.goN c b := by
  induction a generalizing n with
  | nil => rfl
  | cons p a ih =>
    rw [List.cons_append, Tre.goN, Tre.goN]
    cases fnd (S.at_ n).names p with
    | none => rfl
    | some c => exact ih c
theorem goN_snoc {S : Tre} {n c : Int} {ps : List Str} {p : Str} (h : S.goN n (ps ++ [p]) = some c) : ∃ d, S.goN n ps = some d ∧ fnd (S.at_ d).names p = some c := by
  rw [goN_app] at h
  cases hd : S.goN n ps with
  | none => rw [hd] at h; cases h
  | some d =>
    rw [hd] at h
    refine ⟨d, rfl, ?_⟩
    rw [Option.bind_some, Tre.goN] at h
    cases hf : fnd (S.at_ d).names p with
    | none => rw [hf] at h; cases h
    | some e => rw [hf] at h; exact h
theorem goN_snoc' {S : Tre} {n c d : Int} {ps : List Str} {p : Str} (h : S.goN n ps = some d) (hf : fnd (S.at_ d).names p = some c) : S.goN n (ps ++ [p]) = some c := by
  rw [goN_app, h, Option.bind_some, Tre.goN, hf]
  rfl
variable {S : Tre} {rk : Int → Nat} {k : Nat}
/-- What is found by names is there, deeper. -/
theorem Gd.go_there (h : Gd S rk k) : ∀ (ps : List Str) (n : Int) (x : Nod), fnd S.nodes n = some x → ∀ c, S.goN n ps = some c → ∃ y, fnd S.nodes c = some y ∧ rk n + ps.length ≤ rk c ∧ (∀ p ∈ ps, NameOk p) ∧ (ps ≠ [] → y.kind = 2 → y.above ≠ 0 ∧ rk c = rk n + ps.length)
  | [], n, x, hx, c, hc => by
    cases hc
    exact ⟨x, hx, by simp, by simp, fun h => absurd rfl h⟩
  | p :: ps, n, x, hx, c, hc => by
    rw [Tre.goN, at_of hx] at hc
    cases hf : fnd x.names p with
    | none => rw [hf] at hc; cases hc
    | some d =>
      rw [hf] at hc
      dsimp only at hc
      obtain ⟨e1, e2, y, hy, e3⟩ := (h.nod hx).ents _ (fnd_some hf)
      obtain ⟨z, hz, a1, a2, a3⟩ := h.go_there ps d y hy c hc
      have hr : rk n + 1 ≤ rk d := (h.nm_rk n x hx _ (fnd_some hf)).1
      refine ⟨z, hz, by simp only [List.length_cons]; omega, fun q hq => ?_, fun _ h2 => ?_⟩
      · rcases List.mem_cons.1 hq with rfl | hq
        · exact e1
        · exact a2 q hq
      · by_cases hps : ps = []
        · subst hps
          cases hc
          rw [hy] at hz
          cases hz
          have := e3 h2
          exact ⟨by rw [this.1]; exact h.ne0 hx, by have := this.2; simp only [List.length_cons, List.length_nil]; omega⟩
        · have h4 := a3 hps h2
          have hy2 : y.kind = 2 := Classical.byContradiction fun hk => by
            have h5 := ((h.nod hy).file hk).1
            cases ps with
            | nil => exact hps rfl
            | cons p2 ps =>
              rw [Tre.goN, at_of hy, h5] at hc
              cases hc
          have h5 := (e3 hy2).2
          exact ⟨h4.1, by simp only [List.length_cons]; dsimp only at h5; omega⟩
/-- .. and links at the end are followed where asked. -/
theorem Gd.walk_goD (h : Gd S rk k) : ∀ (ps : List Str) (s : Spt) (x : Nod) (hops : Nat), fnd S.nodes s.node = some x → ∀ c, S.goN s.node ps = some c → (S.at_ c).kind ≠ 3 → (S.walk s hops ps true).2 = 0 ∧ (S.walk s hops ps true).1.node = c
  | [], s, x, hops, hx, c, hc, _ => by
    rw [Tre.walk]
    cases hc
    exact ⟨rfl, rfl⟩
  | p :: ps, s, x, hops, hx, c, hc, h3 => by
    have hc0 := hc
    rw [Tre.goN, at_of hx] at hc
    cases hf : fnd x.names p with
    | none => rw [hf] at hc; cases hc
    | some d =>
      rw [hf] at hc
      dsimp only at hc
      obtain ⟨e1, e2, y, hy, e3⟩ := (h.nod hx).ents _ (fnd_some hf)
      have hk2 : x.kind = 2 := Classical.byContradiction fun hk => by
        rw [((h.nod hx).file hk).1] at hf
        cases hf
      have hlk : ¬ ((S.at_ d).kind = 3 ∧ (ps ≠ [] ∨ true = true)) := by
        rintro ⟨h4, -⟩
        cases ps with
        | nil => cases hc; exact h3 h4
        | cons p2 ps =>
          rw [at_of hy] at h4
          have h5 := ((h.nod hy).file (by rw [h4]; decide)).1
          rw [Tre.goN, at_of hy, h5] at hc
          cases hc
      rw [Tre.walk, if_neg (by rw [at_of hx]; exact fun e => e hk2), if_neg e1.2.2.2, at_of hx, hf]
      dsimp only
      rw [if_neg hlk]
      exact h.walk_goD ps _ y hops hy c hc h3
/-- The names that lead to a directory are its way. -/
theorem Gd.way_go (h : Gd S rk k) : ∀ (r : Nat) (ps : List Str) (n : Int) (x : Nod), ps.length = r → fnd S.nodes n = some x → x.kind = 2 → S.goN 1 ps = some n → S.way n = ps
  | 0, ps, n, x, hl, hx, h2, hc => by
    have : ps = [] := List.eq_nil_of_length_eq_zero hl
    subst this
    cases hc
    exact way1 S
  | r + 1, ps, n, x, hl, hx, h2, hc => by
    have hne : ps ≠ [] := by rintro rfl; cases hl
    obtain ⟨qs, p, rfl⟩ : ∃ qs p, ps = qs ++ [p] := ⟨ps.dropLast, ps.getLast hne, (List.dropLast_concat_getLast hne).symm⟩
    obtain ⟨d, hd, hf⟩ := goN_snoc hc
    obtain ⟨x1, hx1⟩ := h.x.has1
    obtain ⟨y, hy, _⟩ := h.go_there qs 1 x1 hx1 d hd
    rw [at_of hy] at hf
    obtain ⟨e1, e2, z, hz, e3⟩ := (h.nod hy).ents _ (fnd_some hf)
    dsimp only at hz e3
    rw [hx] at hz
    cases hz
    have hab := (e3 h2).1
    have hn1 : n ≠ 1 := by
      rintro rfl
      have := ((h.nod hx).root rfl).2.1
      rw [this] at hab
      exact h.ne0 hy hab.symm
    have ha0 : x.above ≠ 0 := by rw [hab]; exact h.ne0 hy
    obtain ⟨y', nm, b1, b2, b3, b4, b5⟩ := way_step h.wy hx hn1 ha0
    rw [hab] at b1 b5
    rw [hy] at b1
    cases b1
    have hnm : nm = p := by
      have hm : (p, n) ∈ y.names.filter fun e => decide (e.2 = n) := List.mem_filter.2 ⟨fnd_some hf, by simp⟩
      rw [b2, List.mem_singleton] at hm
      exact (Prod.mk.inj hm).1.symm
    have hk2 : y.kind = 2 := Classical.byContradiction fun hk => by
      rw [((h.nod hy).file hk).1] at hf
      cases hf
    rw [b5, hnm, h.way_go r qs d y (by rw [List.length_append] at hl; simpa using hl) hy hk2 hd]
end Go.Proofs.YtfhaedkaedffcaaGreatDoor
/- WHAT IS OWNED BEHIND slices.SortFunc at structs: a row of elements of several cells. No program in sight. -/
namespace Go.Own
open Go.RowKit
theorem flat_at {α : Type} (enc : α → List Value) (k : Nat) (hk : 0 < k) (he : ∀ x, (enc x).length = k) : ∀ (l : List α) (t : Nat) (h : t < l.length * k), (l.flatMap enc)[t]? = (enc (l[t / k]'(Nat.div_lt_of_lt_mul (by rw [Nat.mul_comm]; exact h))))[t % k]?
  | [], t, h => by simp at h
  | x :: l, t, h => by
    rw [List.flatMap_cons]
    by_cases ht : t < k
    · rw [List.getElem?_append_left (by rw [he]; exact ht)]
      have e1 : t / k = 0 := Nat.div_eq_of_lt ht
      have e2 : t % k = t := Nat.mod_eq_of_lt ht
      simp [e1, e2]
    · have hle : k ≤ t := by omega
      rw [List.getElem?_append_right (by rw [he]; exact hle), he]
      have h' : t - k < l.length * k := by
        rw [List.length_cons, Nat.succ_mul] at h
        omega
      rw [flat_at enc k hk he l (t - k) h']
      have e1 : t / k = (t - k) / k + 1 := by
        conv => lhs; rw [show t = t - k + k from by omega]
        rw [Nat.add_div_right _ hk]
      have e2 : t % k = (t - k) % k := by
        conv => lhs; rw [show t = t - k + k from by omega]
        rw [Nat.add_mod_right]
      simp [e1, e2]
theorem flatK_list {α : Type} [Inhabited α] (enc : α → List Value) (k : Nat) (hk : 0 < k) (he : ∀ x, (enc x).length = k) (d : Array α) : (Go.Sort.flatK enc k d).toList = d.toList.flatMap enc := by
  apply List.ext_getElem?
  intro t
  have hl : (d.toList.flatMap enc).length = d.size * k := by
    rw [List.length_flatMap]
    have : (d.toList.map fun x => (enc x).length) = List.replicate d.size k := by
      apply List.ext_getElem
      · simp
      · intro i h1 h2
        simp [he]
    rw [this]
    simp
  by_cases ht : t < d.size * k
  · rw [flat_at enc k hk he d.toList t (by simpa using ht), Array.getElem?_toList, Array.getElem?_eq_getElem (by simpa using ht)]
    have h1 := Go.Sort.get_flatK enc k d t ht
    rw [getElem!_pos _ t (by simpa using ht)] at h1
    have h2 : t / k < d.size := Nat.div_lt_of_lt_mul (by rw [Nat.mul_comm]; exact ht)
    rw [h1, getElem!_pos d (t / k) h2]
    have h3 : t % k < (enc d[t / k]).length := by rw [he]; exact Nat.mod_lt _ hk
    rw [getElem!_pos _ (t % k) h3]
    simp
  · rw [List.getElem?_eq_none (by rw [Array.length_toList]; simp; omega), List.getElem?_eq_none (by rw [hl]; omega)]
section
variable {w : World} {l : List HP} {e : TypeId} {size n : Nat} {xs : List Value}
/-- The row's cells anew. -/
theorem Has.putRowK {α : Type} [Inhabited α] (enc : α → List Value) (hs : 0 < size) (he : ∀ x, (enc x).length = size) {g cap m : Nat} {d : Array α} (h : Has w (row (.slice (some ⟨g, 0, none⟩) m cap) e size n xs :: l)) (hd : d.size = n) :
    Has (Go.Sort.putRowK enc size w g 0 d) (row (.slice (some ⟨g, 0, none⟩) m cap) e size n (d.toList.flatMap enc) :: l) := by
  rw [← flatK_list enc size hs he d]
  have hF : (Go.Sort.flatK enc size d).size = n * size := by simp [hd]
  unfold Go.Sort.putRowK
  generalize Go.Sort.flatK enc size d = F at *
  obtain ⟨hl, h | ⟨g', cap', cur, e1, h1, h2, h3, h4, h5⟩⟩ := h.row_cases
  · exact absurd h.1 (by simp)
  · simp only [Value.slice.injEq, Option.some.injEq, Addr.mk.injEq] at e1
    obtain ⟨⟨rfl, -, -⟩, rfl, rfl⟩ := e1
    have hle : F.size ≤ cap * size := by rw [hF]; exact Nat.mul_le_mul_right size (by omega)
    have hp : Has (Sort.putRow id w g 0 F) (pt g (.cells (Sort.putCells id 0 F cur) e) :: l) := by
      refine h5.turn (fun k _ hk => ?_) ?_
      · simp [Sort.putRow, Sort.mapBlock, Array.getElem?_modify, Ne.symm hk]
      · simp [Sort.putRow, Sort.mapBlock, Array.getElem?_modify, h5.lookup, Sort.onCells]
    refine hp.row_of (by omega) h2 (by simpa [Sort.putCells] using h3) ?_ (by simp [hF])
    apply List.ext_getElem?
    intro k
    by_cases hk : k < F.size
    · have hkc : k < cur.size := by omega
      rw [List.getElem?_take, if_pos (by omega), Array.getElem?_toList, Sort.putCells, Array.getElem?_mapIdx, Array.getElem?_eq_getElem hkc, Option.map_some, if_pos ⟨Nat.zero_le _, by omega⟩, Array.getElem?_toList, Nat.sub_zero,
        Array.getElem?_eq_getElem hk, getElem!_pos F k hk]
      rfl
    · rw [List.getElem?_eq_none (by simp [Sort.putCells]; omega), List.getElem?_eq_none (by simp; omega)]
end
end Go.Own
/- THE WALK of the comparison of tree.Nodes. -/
namespace Go.Proofs.YtfhaedkaedffcaaGreatDoor
open Go.RowKit Go.Own Go.Sort
set_option maxRecDepth 100000 in
theorem tCmp (x y : Sn) (W : World) : Calls Tryz.prog 63 #[.agg x.enc.toArray, .agg y.enc.toArray] W fun e w' => e = .returned (.int .i64 (Lib.compareBytes x.path y.path)) ∧ ∃ q os', w' = grow (W.drewN q) os' := by
  have hcon := fun W' => Tryz.strings_Compare (sB x.path) (sB y.path) W'
  unfold Sn.enc
  go_enter Tryz.func63, Tryz.ntmps63
  go_wp2_with fail
  refine (hcon _).mono ?_
  rintro e w' ⟨rfl, rfl⟩
  try dsimp only
  go_wp2_with fail
  go_ret
  exact ⟨rfl, 0, _, by rw [alloc_eq_grow, alloc_eq_grow, grow_grow]; rfl⟩
end Go.Proofs.YtfhaedkaedffcaaGreatDoor
