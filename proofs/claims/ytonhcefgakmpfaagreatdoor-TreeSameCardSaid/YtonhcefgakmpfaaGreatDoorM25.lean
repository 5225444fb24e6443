/- TEXTS of mine, merged. -/
import Derived.Test.YtonhcefgakmpfaaGreatDoorM15
import Derived.Test.YtonhcefgakmpfaaGreatDoorM17
import Derived.Test.YtonhcefgakmpfaaGreatDoorM18
import Derived.Test.YtonhcefgakmpfaaGreatDoorM19
import Derived.Test.YtonhcefgakmpfaaGreatDoorM22
import Derived.Test.YtonhcefgakmpfaaGreatDoorM23
import Derived.Test.YtonhcefgakmpfaaGreatDoorM24
import Derived.Test.YtonhcefgakmpfaaGreatDoorM1
import Derived.ProofKit
import Derived.OpenShut
import Derived.ShutString
import Derived.ChangeOld
import Derived.Deep.Slices
import Derived.Test.YtonhcefgakmpfaaGreatDoorM8
import Derived.Test.YtonhcefgakmpfaaGreatDoorM9
import Derived.Test.YtonhcefgakmpfaaGreatDoorM11
import Derived.Shelf.GgSortFunc.InsertionK
/- tree.Do, ANY OPERATION: what it answers, what it leaves. -/
namespace Go.Proofs.YtonhcefgakmpfaaGreatDoor
open Go.RowKit Go.Own
namespace Tre
def doM (S : Tre) (o : Opm) (ds : List Int) : Ans × Tre :=
  if o.kind = 1 then S.openFd o.path o.flags
  else if o.kind = 2 then S.close o.fd
  else if o.kind = 3 then S.read 3 o.fd o.n o.off
  else if o.kind = 4 then S.write 4 o.fd o.off ds
  else if o.kind = 5 then S.read 5 o.fd o.n o.off
  else if o.kind = 6 then S.write 6 o.fd o.off ds
  else if o.kind = 7 then S.seek o.fd o.n o.off
  else if o.kind = 8 then S.trunc o.fd o.off
  else if o.kind = 9 then S.mkdir o.path
  else if o.kind = 10 then S.remove 10 o.path
  else if o.kind = 11 then S.remove 11 o.path
  else if o.kind = 12 then S.link o.path o.dest
  else if o.kind = 13 then S.symlink o.path o.dest
  else if o.kind = 14 then (S.list 14 o.path, S)
  else if o.kind = 15 then S.rename o.path o.dest
  else if o.kind = 16 then (S.stat o.path true, S)
  else if o.kind = 17 then (S.stat o.path false, S)
  else if o.kind = 18 then (S.list 18 o.path, S)
  else if o.kind = 19 then (S.lasts o.fd, S)
  else if o.kind = 20 then (S.lasts o.fd, S)
  else if o.kind = 21 then (ansE 0, S)
  else if o.kind = 22 then (if 0 ≤ o.n then ansE 0 else ansE 2, S)
  else if o.kind = 23 then (if 0 ≤ o.n then ansE 0 else ansE 2, S)
  else (ansE 2, S)
end Tre
/-- An answer of numbers. -/
def Bare (a : Ans) : Prop := a.data = [] ∧ a.names = []
theorem bareE (e : Int) : Bare (ansE e) := ⟨rfl, rfl⟩
variable (S : Tre)
theorem bare_openAt (s : Spt) (fl : Int) : Bare (S.openAt s fl).1 := by
  unfold Tre.openAt
  split
  · exact bareE _
  · split
    · exact bareE _
    · exact ⟨rfl, rfl⟩
theorem bare_open (p : Str) (fl : Int) : Bare (S.openFd p fl).1 := by
  unfold Tre.openFd
  split
  · exact bareE _
  · split
    · split
      · exact bareE _
      · split
        · exact bareE _
        · split
          · split
            · exact bareE _
            · exact bare_openAt S _ _
          · exact bare_openAt S _ _
    · split
      · exact bareE _
      · exact bare_openAt S _ _
theorem bare_close (fd : Int) : Bare (S.close fd).1 := by unfold Tre.close; split <;> exact bareE _
theorem names_read (k fd n off : Int) : (S.read k fd n off).1.names = [] := by
  unfold Tre.read
  dsimp only
  split
  · rfl
  · split <;> rfl
theorem bare_write (k fd off : Int) (ds : List Int) : Bare (S.write k fd off ds).1 := by
  unfold Tre.write
  dsimp only
  by_cases h1 : (S.file fd true).2 ≠ 0
  · rw [if_pos h1]; exact bareE _
  rw [if_neg h1]
  by_cases h2 : k = 6 ∧ off < 0
  · rw [if_pos h2]; exact bareE _
  rw [if_neg h2]
  generalize (if k = 6 then off else if andI (S.file fd true).1.flags 8 ≠ 0 then ((S.at_ (S.file fd true).1.node).data.length : Int) else (S.file fd true).1.off) = o
  split
  · exact bareE _
  · split
    · exact bareE _
    · exact ⟨rfl, rfl⟩
theorem bare_seek (fd n off : Int) : Bare (S.seek fd n off).1 := by
  unfold Tre.seek
  dsimp only
  by_cases h1 : (S.file fd false).2 ≠ 0
  · rw [if_pos h1]; exact bareE _
  rw [if_neg h1]
  generalize (if n = 1 then (S.file fd false).1.off else if n = 2 then ((S.at_ (S.file fd false).1.node).data.length : Int) else 0) = f
  split
  · exact bareE _
  · split
    · exact bareE _
    · exact ⟨rfl, rfl⟩
theorem bare_trunc (fd off : Int) : Bare (S.trunc fd off).1 := by
  unfold Tre.trunc
  dsimp only
  split
  · exact bareE _
  · split
    · exact bareE _
    · split <;> exact bareE _
theorem bare_mkdir (p : Str) : Bare (S.mkdir p).1 := by unfold Tre.mkdir; dsimp only; split <;> exact bareE _
theorem bare_remove (k : Int) (p : Str) : Bare (S.remove k p).1 := by
  unfold Tre.remove
  split
  · exact bareE _
  · split
    · exact bareE _
    · split
      · exact bareE _
      · split
        · exact bareE _
        · split <;> exact bareE _
theorem bare_link (p q : Str) : Bare (S.link p q).1 := by
  unfold Tre.link
  split
  · exact bareE _
  · split
    · exact bareE _
    · split <;> exact bareE _
theorem bare_symlink (p q : Str) : Bare (S.symlink p q).1 := by
  unfold Tre.symlink
  split
  · exact bareE _
  · split <;> exact bareE _
theorem bare_rename (p q : Str) : Bare (S.rename p q).1 := by
  unfold Tre.rename
  by_cases h : (lastM p).2.2 ≠ 0
  · rw [if_pos h]; exact bareE _
  rw [if_neg h]; clear h
  by_cases h : (lastM q).2.2 ≠ 0
  · rw [if_pos h]; exact bareE _
  rw [if_neg h]; clear h
  by_cases h : (S.place p).2 ≠ 0
  · rw [if_pos h]; exact bareE _
  rw [if_neg h]; clear h
  by_cases h : (S.place p).1.node = 0
  · rw [if_pos h]; exact bareE _
  rw [if_neg h]; clear h
  by_cases h : (S.place q).2 ≠ 0
  · rw [if_pos h]; exact bareE _
  rw [if_neg h]; clear h
  dsimp only
  generalize (S.place p).1 = s
  generalize (S.place q).1 = t
  by_cases h : (S.at_ s.node).kind = 2 ∧ S.within t.dir s.node = true
  · rw [if_pos h]; exact bareE _
  rw [if_neg h]; clear h
  by_cases h : (S.at_ s.node).kind = 2 ∧ S.deep s.node (S.way t.dir ++ [t.name]) = true
  · rw [if_pos h]; exact bareE _
  rw [if_neg h]; clear h
  by_cases h : t.node = s.node
  · rw [if_pos h]; exact bareE _
  rw [if_neg h]; clear h
  by_cases h : t.node ≠ 0 ∧ (S.at_ s.node).kind = 2 ∧ (S.at_ t.node).kind ≠ 2
  · rw [if_pos h]; exact bareE _
  rw [if_neg h]; clear h
  by_cases h : t.node ≠ 0 ∧ (S.at_ s.node).kind = 2 ∧ 0 < (S.at_ t.node).names.length
  · rw [if_pos h]; exact bareE _
  rw [if_neg h]; clear h
  by_cases h : t.node ≠ 0 ∧ (S.at_ s.node).kind ≠ 2 ∧ (S.at_ t.node).kind = 2
  · rw [if_pos h]; exact bareE _
  rw [if_neg h]
  exact bareE _
theorem bare_stat (p : Str) (fo : Bool) : Bare (S.stat p fo) := by unfold Tre.stat; dsimp only; split <;> exact ⟨rfl, rfl⟩
theorem bare_lasts (fd : Int) : Bare (S.lasts fd) := by unfold Tre.lasts; split <;> exact bareE _
theorem bare_tick (n : Int) : Bare (if 0 ≤ n then ansE 0 else ansE 2) := by split <;> exact bareE _
theorem has_bare {w : World} {L : List HP} {a : Ans} (ha : Bare a) (h : Has w L) : Has w (Bytes nilV a.data :: Strs nilV a.names :: L) := by
  rw [ha.1, ha.2]
  exact (h.row_nil tStr 1).row_nil _ 1
theorem has_data {w : World} {L : List HP} {a : Ans} {dv : Value} (ha : a.names = []) (h : Has w (Bytes dv a.data :: L)) : Has w (Bytes dv a.data :: Strs nilV a.names :: L) := by
  rw [ha]
  exact (h.row_nil tStr 1).re 2 [1, 0]
theorem and12_all : ∀ i : Fin 64, andI (i.val : Int) 4 ≠ 0 → andI (i.val : Int) 12 ≠ 0 := by decide +kernel
theorem and12 {fl : Int} (h0 : 0 ≤ fl) (h1 : fl < 64) : andI fl 4 ≠ 0 → andI fl 12 ≠ 0 := by
  have := and12_all ⟨fl.toNat, by omega⟩
  rwa [show ((fl.toNat : Nat) : Int) = fl by omega] at this
variable {S} {rk : Int → Nat} {k : Nat}
theorem Gd.openFd' (h : Gd S rk k) (p : Str) (fl : Int) : ∃ rk', Gd (S.openFd p fl).2 rk' (k + 1) := by
  by_cases hb : 0 ≤ fl ∧ fl < 64
  · exact h.openFd p fl (and12 hb.1 hb.2)
  · unfold Tre.openFd
    rw [if_pos (by omega)]
    exact ⟨rk, h.mono (Nat.le_succ k)⟩
theorem Gd.doM (h : Gd S rk k) (o : Opm) (ds : List Int) (hp : o.path.length ≤ 100000) : ∃ rk', Gd (S.doM o ds).2 rk' (k + 1) := by
  have hm := h.mono (Nat.le_succ k)
  unfold Tre.doM
  by_cases h1 : o.kind = 1
  · rw [if_pos h1]; exact h.openFd' _ _
  rw [if_neg h1]; clear h1
  by_cases h1 : o.kind = 2
  · rw [if_pos h1]; exact ⟨rk, hm.close _⟩
  rw [if_neg h1]; clear h1
  by_cases h1 : o.kind = 3
  · rw [if_pos h1]; exact ⟨rk, hm.read _ _ _ _⟩
  rw [if_neg h1]; clear h1
  by_cases h1 : o.kind = 4
  · rw [if_pos h1]; exact ⟨rk, hm.write _ _ _ _⟩
  rw [if_neg h1]; clear h1
  by_cases h1 : o.kind = 5
  · rw [if_pos h1]; exact ⟨rk, hm.read _ _ _ _⟩
  rw [if_neg h1]; clear h1
  by_cases h1 : o.kind = 6
  · rw [if_pos h1]; exact ⟨rk, hm.write _ _ _ _⟩
  rw [if_neg h1]; clear h1
  by_cases h1 : o.kind = 7
  · rw [if_pos h1]; exact ⟨rk, hm.seek _ _ _⟩
  rw [if_neg h1]; clear h1
  by_cases h1 : o.kind = 8
  · rw [if_pos h1]; exact ⟨rk, hm.trunc _ _⟩
  rw [if_neg h1]; clear h1
  by_cases h1 : o.kind = 9
  · rw [if_pos h1]; exact h.mkdir _
  rw [if_neg h1]; clear h1
  by_cases h1 : o.kind = 10
  · rw [if_pos h1]; exact ⟨rk, hm.remove (.inl rfl) _⟩
  rw [if_neg h1]; clear h1
  by_cases h1 : o.kind = 11
  · rw [if_pos h1]; exact ⟨rk, hm.remove (.inr rfl) _⟩
  rw [if_neg h1]; clear h1
  by_cases h1 : o.kind = 12
  · rw [if_pos h1]; exact h.link _ _
  rw [if_neg h1]; clear h1
  by_cases h1 : o.kind = 13
  · rw [if_pos h1]; exact h.symlink _ _ hp
  rw [if_neg h1]; clear h1
  by_cases h1 : o.kind = 14
  · rw [if_pos h1]; exact ⟨rk, hm⟩
  rw [if_neg h1]; clear h1
  by_cases h1 : o.kind = 15
  · rw [if_pos h1]; exact h.rename _ _
  rw [if_neg h1]; clear h1
  refine ⟨rk, ?_⟩
  split
  · exact hm
  split
  · exact hm
  split
  · exact hm
  split
  · exact hm
  split
  · exact hm
  split
  · exact hm
  split
  · exact hm
  split
  · exact hm
  exact hm
set_option maxRecDepth 100000 in
theorem doAny (q : Nat) (o : Opm) (po : Option Addr) (co : Nat) (ds : List Int) (mx : Int) (w : World) (L : List HP) (hg : Gd S rk k) (hk : k < 100000) (hM : MxL mx L) (hp : o.path.length ≤ 100000) (hd : o.dest.length ≤ 100000) (ho : o.off ≤ 9223372036854775807) (hds : ds.length ≤ 100000)
    (hrd : ∀ w', Has w' L → Rd w' (.slice po ds.length co) 1 ds.length (bc ds)) (hO : Has w (Trc q S :: L)) :
    Calls Tryz.prog 17 #[.pointer (some ⟨q, 0, none⟩), opV o (.slice po ds.length co)] w fun e w' => ∃ dv nv, e = .returned (ansV (S.doM o ds).1 dv nv) ∧ Has w' (Bytes dv (S.doM o ds).1.data :: Strs nv (S.doM o ds).1.names :: Trc q (S.doM o ds).2 :: L) ∧ Keep w w' := by
  have hk9 : k < 900000 := by omega
  have hdl : ∀ n x, fnd S.nodes n = some x → x.data.length ≤ 100000 ∧ x.names.length ≤ 1000000 := fun n x hx => ⟨(hg.nod hx).size.1, by have := (hg.nod hx).size.2.2.1; omega⟩
  have hlk : ∀ n x, fnd S.nodes n = some x → 0 ≤ x.links ∧ x.links < 1000000 := fun n x hx => by have := (hg.nod hx).size; omega
  obtain ⟨kind, fd, n, off, flags, path, dest⟩ := o
  dsimp only at hp hd ho
  unfold Tre.doM
  dsimp only
  have hKO : (S.place path).2 = 0 → (S.place path).1.node ≠ 0 → KidOk S (S.place path).1 := fun h0 hn => (hg.kidOk hk9 path h0 hn).1
  have hDO : (S.fresh dest).2 = 0 → DirOk S (S.fresh dest).1 := fun h0 => by
    obtain ⟨h1, _, h3⟩ := fresh_place h0
    rw [h3]
    exact hg.dirOk hk9 dest h1
  by_cases h1 : kind = 1
  · subst h1
    rw [if_pos rfl]
    refine (doOpenT q S fd n off flags path dest _ w L rk mx hg.wk hg.wy (hg.opb hk9) hM hp (fun h0 => (hg.find_ok path true h0).2 rfl) hO).mono ?_
    rintro e w' ⟨rfl, h2, h3⟩
    exact ⟨_, _, rfl, has_bare (bare_open S _ _) h2, h3⟩
  rw [if_neg h1]
  by_cases h2 : kind = 2
  · subst h2
    rw [if_pos rfl]
    refine (doClose q S fd n off flags path dest _ w L (fun h0 => ?_) hO).mono ?_
    · unfold Tb.cls at h0 ⊢
      cases hl : Tb.look S.tab fd with
      | none => rw [hl] at h0; simp at h0
      | some s => exact hg.op.there fd s hl
    · rintro e w' ⟨rfl, h2, h3⟩
      exact ⟨_, _, rfl, has_bare (bare_close S _) h2, h3⟩
  rw [if_neg h2]
  by_cases h3 : kind = 3
  · subst h3
    rw [if_pos rfl]
    refine (doRead3 q S fd n off flags path dest _ w L hg.op ho hO).mono ?_
    rintro e w' ⟨dv, rfl, h2, h3⟩
    exact ⟨_, _, rfl, has_data (names_read S _ _ _ _) h2, h3⟩
  rw [if_neg h3]
  by_cases h4 : kind = 4
  · subst h4
    rw [if_pos rfl]
    refine (doWrite4 q S fd n off flags path dest po co ds w L hg.op ho hds hrd hO).mono ?_
    rintro e w' ⟨dv, rfl, h2, h3⟩
    exact ⟨_, _, rfl, has_data (bare_write S _ _ _ _).2 h2, h3⟩
  rw [if_neg h4]
  by_cases h5 : kind = 5
  · subst h5
    rw [if_pos rfl]
    refine (doRead5 q S fd n off flags path dest _ w L hg.op ho hO).mono ?_
    rintro e w' ⟨dv, rfl, h2, h3⟩
    exact ⟨_, _, rfl, has_data (names_read S _ _ _ _) h2, h3⟩
  rw [if_neg h5]
  by_cases h6 : kind = 6
  · subst h6
    rw [if_pos rfl]
    refine (doWrite6 q S fd n off flags path dest po co ds w L hg.op ho hds hrd hO).mono ?_
    rintro e w' ⟨dv, rfl, h2, h3⟩
    exact ⟨_, _, rfl, has_data (bare_write S _ _ _ _).2 h2, h3⟩
  rw [if_neg h6]
  by_cases h7 : kind = 7
  · subst h7
    rw [if_pos rfl]
    refine (doSeek q S fd n off flags path dest _ w L hg.op hO).mono ?_
    rintro e w' ⟨dv, rfl, h2, h3⟩
    exact ⟨_, _, rfl, has_data (bare_seek S _ _ _).2 h2, h3⟩
  rw [if_neg h7]
  by_cases h8 : kind = 8
  · subst h8
    rw [if_pos rfl]
    refine (doTrunc q S fd n off flags path dest _ w L hg.op hO).mono ?_
    rintro e w' ⟨dv, rfl, h2, h3⟩
    exact ⟨_, _, rfl, has_data (bare_trunc S _ _).2 h2, h3⟩
  rw [if_neg h8]
  by_cases h9 : kind = 9
  · subst h9
    rw [if_pos rfl]
    refine (doMkdir q S fd n off flags path dest _ w L rk mx hg.wk hg.wy (hg.opb hk9) hM hp hO).mono ?_
    rintro e w' ⟨rfl, h2, h3⟩
    exact ⟨_, _, rfl, has_bare (bare_mkdir S _) h2, h3⟩
  rw [if_neg h9]
  by_cases h10 : kind = 10
  · subst h10
    rw [if_pos rfl]
    refine (doRmdir q S fd n off flags path dest _ w L rk mx hg.wk hg.wy hM hp hKO hO).mono ?_
    rintro e w' ⟨rfl, h2, h3⟩
    exact ⟨_, _, rfl, has_bare (bare_remove S _ _) h2, h3⟩
  rw [if_neg h10]
  by_cases h11 : kind = 11
  · subst h11
    rw [if_pos rfl]
    refine (doUnlink q S fd n off flags path dest _ w L rk mx hg.wk hg.wy hM hp hKO hO).mono ?_
    rintro e w' ⟨rfl, h2, h3⟩
    exact ⟨_, _, rfl, has_bare (bare_remove S _ _) h2, h3⟩
  rw [if_neg h11]
  by_cases h12 : kind = 12
  · subst h12
    rw [if_pos rfl]
    refine (doLink q S fd n off flags path dest _ w L rk mx hg.wk hg.wy hM hp hd hlk hDO hO).mono ?_
    rintro e w' ⟨rfl, h2, h3⟩
    exact ⟨_, _, rfl, has_bare (bare_link S _ _) h2, h3⟩
  rw [if_neg h12]
  by_cases h13 : kind = 13
  · subst h13
    rw [if_pos rfl]
    refine (doSymlink q S fd n off flags path dest _ w L rk mx hg.wk hg.wy hM hp hd (hg.opb hk9) hDO hO).mono ?_
    rintro e w' ⟨rfl, h2, h3⟩
    exact ⟨_, _, rfl, has_bare (bare_symlink S _ _) h2, h3⟩
  rw [if_neg h13]
  by_cases h14 : kind = 14
  · subst h14
    rw [if_pos rfl]
    exact doReadlink q S fd n off flags path dest _ w L mx hg.wk hM hp hdl hO
  rw [if_neg h14]
  by_cases h15 : kind = 15
  · subst h15
    rw [if_pos rfl]
    refine (doRename q S fd n off flags path dest _ w L rk mx hg.wk hg.wy hM hp hd (hg.kidOk hk9 path) (fun h0 => ⟨hg.dirOk hk9 dest h0, (hg.place_ok dest h0).name.2.1, fun hn => (hg.kidOk hk9 dest h0 hn).1⟩) hg.up_rk hg.nm_rk hO).mono ?_
    rintro e w' ⟨rfl, h2, h3⟩
    exact ⟨_, _, rfl, has_bare (bare_rename S _ _) h2, h3⟩
  rw [if_neg h15]
  by_cases h16 : kind = 16
  · subst h16
    rw [if_pos rfl]
    refine (doStat q S fd n off flags path dest _ w L mx hg.wk hM hp hdl hO).mono ?_
    rintro e w' ⟨rfl, h2, h3⟩
    exact ⟨_, _, rfl, has_bare (bare_stat S _ _) h2, h3⟩
  rw [if_neg h16]
  by_cases h17 : kind = 17
  · subst h17
    rw [if_pos rfl]
    refine (doLstat q S fd n off flags path dest _ w L mx hg.wk hM hp hdl hO).mono ?_
    rintro e w' ⟨rfl, h2, h3⟩
    exact ⟨_, _, rfl, has_bare (bare_stat S _ _) h2, h3⟩
  rw [if_neg h17]
  by_cases h18 : kind = 18
  · subst h18
    rw [if_pos rfl]
    exact doReaddir q S fd n off flags path dest _ w L mx hg.wk hM hp hdl hO
  rw [if_neg h18]
  by_cases h19 : kind = 19
  · subst h19
    rw [if_pos rfl]
    refine (doFsync q S fd n off flags path dest _ w L hO).mono ?_
    rintro e w' ⟨rfl, h2, h3⟩
    exact ⟨_, _, rfl, has_bare (bare_lasts S _) h2, h3⟩
  rw [if_neg h19]
  by_cases h20 : kind = 20
  · subst h20
    rw [if_pos rfl]
    refine (doFdatasync q S fd n off flags path dest _ w L hO).mono ?_
    rintro e w' ⟨rfl, h2, h3⟩
    exact ⟨_, _, rfl, has_bare (bare_lasts S _) h2, h3⟩
  rw [if_neg h20]
  by_cases h21 : kind = 21
  · subst h21
    rw [if_pos rfl]
    refine (doSync q S fd n off flags path dest _ w L hO).mono ?_
    rintro e w' ⟨rfl, h2, h3⟩
    exact ⟨_, _, rfl, has_bare (bareE _) h2, h3⟩
  rw [if_neg h21]
  by_cases h22 : kind = 22
  · subst h22
    rw [if_pos rfl]
    refine (doTick q S fd n off flags path dest _ w L hO).mono ?_
    rintro e w' ⟨rfl, h2, h3⟩
    exact ⟨_, _, rfl, has_bare (bare_tick _) h2, h3⟩
  rw [if_neg h22]
  by_cases h23 : kind = 23
  · subst h23
    rw [if_pos rfl]
    refine (doDrop q S fd n off flags path dest _ w L hO).mono ?_
    rintro e w' ⟨rfl, h2, h3⟩
    exact ⟨_, _, rfl, has_bare (bare_tick _) h2, h3⟩
  rw [if_neg h23]
  refine (doOther q S kind fd n off flags path dest _ w L (by omega) hO).mono ?_
  rintro e w' ⟨rfl, h2, h3⟩
  exact ⟨_, _, rfl, has_bare (bareE _) h2, h3⟩
end Go.Proofs.YtonhcefgakmpfaaGreatDoor
/- HOW ARGUMENTS ARE OPENED: from the form's reading to cells. No program in sight. -/
namespace Go.Own
open Go.ChangeShapes Go.WideShapes Go.ChangeAt Go.RowKit
theorem flat_len (n size : Nat) (C : Nat → List Value) (h : ∀ i, i < n → (C i).length = size) : ((List.range n).flatMap C).length = n * size := by
  induction n with
  | zero => simp
  | succ n ih =>
    rw [List.range_succ, List.flatMap_append, List.length_append, ih fun i hi => h i (by omega)]
    simp [h n (by omega), Nat.succ_mul]
theorem flat_drop (n size : Nat) (C : Nat → List Value) (h : ∀ i, i < n → (C i).length = size) (i : Nat) (hi : i < n) :
    ∃ R, ((List.range n).flatMap C).drop (i * size) = C i ++ R := by
  induction n with
  | zero => omega
  | succ n ih =>
    rw [List.range_succ, List.flatMap_append]
    have hl := flat_len n size C fun i hi => h i (by omega)
    by_cases hin : i = n
    · subst hin
      refine ⟨[], ?_⟩
      rw [List.drop_append_of_le_length (by rw [hl]; exact Nat.le_refl _), List.drop_of_length_le (by rw [hl]; exact Nat.le_refl _)]
      simp
    · obtain ⟨R, hR⟩ := ih (fun i hi => h i (by omega)) (by omega)
      refine ⟨R ++ [n].flatMap C, ?_⟩
      rw [List.drop_append_of_le_length (by rw [hl]; exact Nat.mul_le_mul_right _ (by omega)), hR, List.append_assoc]
theorem flat_slice (n size : Nat) (C : Nat → List Value) (h : ∀ i, i < n → (C i).length = size) (i : Nat) (hi : i < n) :
    (((List.range n).flatMap C).drop (i * size)).take size = C i := by
  obtain ⟨R, hR⟩ := flat_drop n size C h i hi
  rw [hR, ← h i hi, List.take_left]
theorem flatO_at (n size : Nat) (C : Nat → List Value) (h : ∀ i, i < n → (C i).length = size) (i : Nat) (hi : i < n) (j : Nat) (hj : j < size) :
    (C i)[j]? = ((List.range n).flatMap C)[i * size + j]? := by
  rw [← flat_slice n size C h i hi, List.getElem?_take, if_pos hj, List.getElem?_drop]
theorem cells?_parts {w : World} {b : Nat} {a : Addr} {n : Nat} {cs : List Value} (h : w.cells? b a n = some cs) : cs.length = n ∧ ∀ j, j < n → w.cell? (a.add j) = cs[j]? := by
  unfold World.cells? at h
  split at h
  · have : ∀ (l : List Nat) (cs : List Value), (l.mapM fun i => w.cell? (a.add i)) = some cs → cs.length = l.length ∧ ∀ (j i : Nat), l[j]? = some i → w.cell? (a.add i) = cs[j]? := by
      intro l
      induction l with
      | nil => intro cs h; simp at h; subst h; simp
      | cons x l ih =>
        intro cs h
        simp only [List.mapM_cons, Option.pure_def, Option.bind_eq_bind] at h
        obtain ⟨y, hy, h⟩ := Option.bind_eq_some_iff.1 h
        obtain ⟨ys, hys, h⟩ := Option.bind_eq_some_iff.1 h
        cases h
        obtain ⟨h1, h2⟩ := ih ys hys
        refine ⟨by simp [h1], fun j i hj => ?_⟩
        cases j with
        | zero => simp at hj; subst hj; simpa using hy
        | succ j => simpa using h2 j i (by simpa using hj)
    obtain ⟨h1, h2⟩ := this _ _ h
    refine ⟨by simpa using h1, fun j hj => h2 j j (by simp [hj])⟩
  · cases h
section
variable {H : Type} {enc : TypeId × Value → H} {P : Program} {W : World} {base : Nat} {spare : Nat → Bool} {held : Bool}
/-- A slice of elements of whatever type: its cells in a list, each element's own cells read on. -/
theorem open_rd {t e size : Nat} {v : Value} {d : DataW H} {ps : List MemPlace} {r : Reach} {b0 : Nat} (ht : P.underlying t = some (.slice e)) (hc : P.cellsOf e = size) (hv : Value.okWide P W r b0 t v)
    (h : DataW.Trod enc P W base spare held t v d ps) :
    ∃ (n fuel : Nat) (xs : List Value), Rd W v size n xs ∧ ∀ i, i < n → ∃ x, DataW.trod enc P W base spare held fuel e ((xs.drop (i * size)).take size) = some x := by
  obtain ⟨p, len, cap, rfl⟩ := okWide_slice ht hv
  obtain ⟨fuel, hf⟩ := h
  rcases Deep.open_slice ht hf with ⟨hcs, _⟩ | ⟨a, len', cap', m, n, D, Pl, hcs, hb, hl, hm, hmm, hx, hel⟩
  · simp [Value.cells] at hcs
    obtain ⟨rfl, rfl, rfl⟩ := hcs
    exact ⟨0, 0, [], ⟨by simp, Nat.zero_le _, none, 0, rfl, Nat.le_refl _, fun h => absurd h (by simp)⟩, fun i hi => absurd hi (by simp)⟩
  · simp [Value.cells] at hcs
    obtain ⟨rfl, rfl, rfl⟩ := hcs
    rw [hc] at hel
    have hlm : len ≤ m := by rw [hmm]; split <;> omega
    obtain ⟨C, hC⟩ := Deep.choose_lt (α := List Value) (p := fun i cs' => W.cells? base (a.add (i * size)) size = some cs' ∧ DataW.trod enc P W base spare held n e cs' = some (D i, Pl i)) (fun i hi => hel i (by omega : i < m))
    have hlen : ∀ i, i < len → (C i).length = size ∧ ∀ j, j < size → W.cell? ((a.add (i * size)).add j) = (C i)[j]? := fun i hi => cells?_parts (hC i (by omega)).1
    refine ⟨len, n, (List.range len).flatMap C, ⟨flat_len len size C fun i hi => (hlen i hi).1, by omega, some a, cap, rfl, hl, fun hp => ?_⟩, fun i hi => ⟨(D i, Pl i), ?_⟩⟩
    · have hs : 0 < size := Nat.pos_of_mul_pos_left hp
      have hl0 : 0 < len := Nat.pos_of_mul_pos_right hp
      have h0 := (hlen 0 hl0).2 0 hs
      have ha : a = ⟨a.block, a.off, none⟩ := by
        refine cell_plain (w := W) (u := (C 0)[0]'(by rw [(hlen 0 hl0).1]; exact hs)) ?_
        rw [List.getElem?_eq_getElem (by rw [(hlen 0 hl0).1]; exact hs)] at h0
        simpa [Addr.add] using h0
      refine ⟨a.block, a.off, by rw [← ha], fun j hj => ?_⟩
      have hq : j / size < len := (Nat.div_lt_iff_lt_mul hs).2 hj
      have hr : j % size < size := Nat.mod_lt _ hs
      have h1 := (hlen (j / size) hq).2 (j % size) hr
      rw [Deep.add_add, ha, add_plain] at h1
      have hj' : j / size * size + j % size = j := Nat.div_add_mod' j size
      rw [hj'] at h1
      rw [h1, flatO_at len size C (fun i hi => (hlen i hi).1) (j / size) hq (j % size) hr, hj']
    · rw [flat_slice len size C (fun i hi => (hlen i hi).1) i hi]
      exact (hC i (by omega)).2
/-- A struct's field, read on. -/
theorem open_field {t fuel : Nat} {cs : List Value} {x : DataW H × List MemPlace} {fs : Array Field} (ht : P.underlying t = some (.struct fs)) (h : DataW.trod enc P W base spare held fuel t cs = some x)
    (i : Nat) (f : Field) (hf : fs[i]? = some f) : ∃ m y, DataW.trod enc P W base spare held m f.type ((cs.drop f.offset).take (P.cellsOf f.type)) = some y := by
  obtain ⟨xs, n, -, -, -, hl, hx⟩ := DataW.trod_struct ht h
  have hi : i < xs.length := by rw [hl]; exact (Array.getElem?_eq_some_iff.1 hf).1
  exact ⟨n, xs[i], by rw [hx i f hf, List.getElem?_eq_getElem hi]⟩
/-- A field that is an int. -/
theorem open_int_field {t fuel : Nat} {cs : List Value} {x : DataW H × List MemPlace} {fs : Array Field} {k : IntKind} (ht : P.underlying t = some (.struct fs)) (h : DataW.trod enc P W base spare held fuel t cs = some x)
    (i : Nat) (f : Field) (hf : fs[i]? = some f) (hk : P.underlying f.type = some (.int k)) (hc : P.cellsOf f.type = 1) : ∃ n, cs[f.offset]? = some (.int k n) ∧ (Lit.int k n).wf = true := by
  obtain ⟨m, y, hy⟩ := open_field ht h i f hf
  rw [hc] at hy
  obtain ⟨n, hn, -, hw⟩ := DataW.trod_int hk hy
  refine ⟨n, ?_, hw⟩
  have := congrArg (fun l : List Value => l[0]?) hn
  simpa using this
end
end Go.Own
/- HOW ARGUMENTS ARE OPENED, further: slices within structs and slices. No program in sight. -/
namespace Go.Own
open Go.ChangeShapes Go.WideShapes Go.ChangeAt Go.RowKit
section
variable {H : Type} {enc : TypeId × Value → H} {P : Program} {W : World} {base : Nat} {spare : Nat → Bool} {held : Bool}
theorem trod_rd {t e size fuel : Nat} {cs : List Value} {x : DataW H × List MemPlace} (ht : P.underlying t = some (.slice e)) (hc : P.cellsOf e = size) (h : DataW.trod enc P W base spare held fuel t cs = some x) :
    ∃ (v : Value) (n fuel : Nat) (xs : List Value), cs = [v] ∧ Rd W v size n xs ∧ ∀ i, i < n → ∃ x, DataW.trod enc P W base spare held fuel e ((xs.drop (i * size)).take size) = some x := by
  rcases Deep.open_slice ht h with ⟨hcs, _⟩ | ⟨a, len, cap, m, n, D, Pl, hcs, hb, hl, hm, hmm, hx, hel⟩
  · exact ⟨.slice none 0 0, 0, 0, [], hcs, ⟨by simp, Nat.zero_le _, none, 0, rfl, Nat.le_refl _, fun h => absurd h (by simp)⟩, fun i hi => absurd hi (by simp)⟩
  · rw [hc] at hel
    have hlm : len ≤ m := by rw [hmm]; split <;> omega
    obtain ⟨C, hC⟩ := Deep.choose_lt (α := List Value) (p := fun i cs' => W.cells? base (a.add (i * size)) size = some cs' ∧ DataW.trod enc P W base spare held n e cs' = some (D i, Pl i)) (fun i hi => hel i (by omega : i < m))
    have hlen : ∀ i, i < len → (C i).length = size ∧ ∀ j, j < size → W.cell? ((a.add (i * size)).add j) = (C i)[j]? := fun i hi => cells?_parts (hC i (by omega)).1
    refine ⟨.slice (some a) len cap, len, n, (List.range len).flatMap C, hcs, ⟨flat_len len size C fun i hi => (hlen i hi).1, by omega, some a, cap, rfl, hl, fun hp => ?_⟩, fun i hi => ⟨(D i, Pl i), ?_⟩⟩
    · have hs : 0 < size := Nat.pos_of_mul_pos_left hp
      have hl0 : 0 < len := Nat.pos_of_mul_pos_right hp
      have h0 := (hlen 0 hl0).2 0 hs
      have ha : a = ⟨a.block, a.off, none⟩ := by
        refine cell_plain (w := W) (u := (C 0)[0]'(by rw [(hlen 0 hl0).1]; exact hs)) ?_
        rw [List.getElem?_eq_getElem (by rw [(hlen 0 hl0).1]; exact hs)] at h0
        simpa [Addr.add] using h0
      refine ⟨a.block, a.off, by rw [← ha], fun j hj => ?_⟩
      have hq : j / size < len := (Nat.div_lt_iff_lt_mul hs).2 hj
      have hr : j % size < size := Nat.mod_lt _ hs
      have h1 := (hlen (j / size) hq).2 (j % size) hr
      rw [Deep.add_add, ha, add_plain] at h1
      have hj' : j / size * size + j % size = j := Nat.div_add_mod' j size
      rw [hj'] at h1
      rw [h1, flatO_at len size C (fun i hi => (hlen i hi).1) (j / size) hq (j % size) hr, hj']
    · rw [flat_slice len size C (fun i hi => (hlen i hi).1) i hi]
      exact (hC i (by omega)).2
theorem all_cells {α : Type} (f : α → Value) (l : List Value) (h : ∀ i (hi : i < l.length), ∃ k, l[i] = f k) : ∃ zs : List α, l = zs.map f := by
  induction l with
  | nil => exact ⟨[], rfl⟩
  | cons y l ih =>
    obtain ⟨k, hk⟩ := h 0 (by simp)
    obtain ⟨zs, hz⟩ := ih fun i hi => h (i + 1) (by simp; omega)
    exact ⟨k :: zs, by simp at hk; simp [hk]; exact hz⟩
theorem drop_one (l : List Value) (i : Nat) (h : i < l.length) : (l.drop i).take 1 = [l[i]] := by
  rw [List.drop_eq_getElem_cons h]; rfl
/-- A slice of integers of one kind. -/
theorem trod_scal {t e fuel : Nat} {k : IntKind} {cs : List Value} {x : DataW H × List MemPlace} (ht : P.underlying t = some (.slice e)) (he : P.underlying e = some (.int k)) (hc : P.cellsOf e = 1) (h : DataW.trod enc P W base spare held fuel t cs = some x) :
    ∃ (v : Value) (xs : List Int), cs = [v] ∧ Rd W v 1 xs.length (xs.map (Value.int k)) := by
  obtain ⟨v, n, fuel, xs, hcs, hr, hx⟩ := trod_rd ht hc h
  have hl : xs.length = n := by simpa using hr.1
  obtain ⟨zs, rfl⟩ := all_cells (Value.int k) xs fun i hi => by
    obtain ⟨x, hx⟩ := hx i (by omega)
    rw [Nat.mul_one, drop_one _ _ hi] at hx
    obtain ⟨k, hk, -⟩ := DataW.trod_int he hx
    exact ⟨k, by simpa using hk⟩
  rw [List.length_map] at hl
  exact ⟨v, zs, hcs, by rw [hl]; exact hr⟩
end
end Go.Own
/- THE WALK of tree.New, Number. -/
namespace Go.Proofs.YtonhcefgakmpfaaGreatDoor
open Go.RowKit Go.Own
def tre0 : Tre := ⟨[(1, ⟨2, [], [], [], 0, 1, 0⟩)], 1, List.replicate 16 Tb.none4⟩
set_option maxRecDepth 100000 in
set_option maxHeartbeats 4000000 in
theorem tNew (w : World) (L : List HP) (hO : Has w L) : Calls Tryz.prog 15 #[] w fun e w' => ∃ q, e = .returned (.pointer (some ⟨q, 0, none⟩)) ∧ Has w' (Trc q tre0 :: L) ∧ Keep w w' := by
  have h1 := (Mk.made (Mk.made hO kInt vPtr) kStr vInt).alloc (.cells #[.int .i64 2, .slice none 0 0, .slice none 0 0, .map (some (w.alloc (.map #[] 0)).heap.size), .int .i64 0, .int .i64 1, .int .i64 0] 83)
  have e1 : (w.alloc (.map #[] 0)).heap.size = w.heap.size + 1 := by show (Array.push _ _).size = _; rw [Array.size_push]
  have e2 : ((w.alloc (.map #[] 0)).alloc (.map #[] 0)).heap.size = w.heap.size + 1 + 1 := by show (Array.push _ _).size = _; rw [Array.size_push, e1]
  rw [e2, e1] at h1
  have HO1 := hid (h1.re 3 [2, 0, 1])
  have HK1 := hid ((((Keep.refl w).alloc (.map #[] 0)).alloc (.map #[] 0)).alloc (.cells #[.int .i64 2, .slice none 0 0, .slice none 0 0, .map (some (w.heap.size + 1)), .int .i64 0, .int .i64 1, .int .i64 0] 83))
  have hmm := @run_makeMap Tryz.prog
  clear h1 hO e1 e2
  go_enter Tryz.func15, Tryz.ntmps15
  go_wp2_with (refine wpList_mkIns HO1.out (by decide) tNo undNo rfl _ _ _ rfl rfl 1 (wf_small 1 (by decide) (by decide)) rfl (some (w.heap.size + 1 + 1)) trivial rfl ?_; intro w2 h2 k2; simp only [Act.put])
  refine (tabNew w2 _ h2).mono ?_
  rintro e w3 ⟨f, rfl, h3, k3⟩
  have HO3 := hid h3
  have HK3 := hid ((HK1.out.trans k2).trans k3)
  clear h2 k2 h3 k3 HO1 HK1
  try dsimp only
  go_wp2_with fail
  go_ret
  refine ⟨w3.heap.size, rfl, ?_, HK3.out.alloc _⟩
  have h4 := (HO3.out.alloc (.cells (treC w.heap.size f 1) 88))
  refine trc_iff.2 ⟨w.heap.size, f, [(1, w.heap.size + 1 + 1, ⟨2, [], [], [], 0, 1, 0⟩)], ⟨rfl, by simp [tre0]⟩, trb_iff.2 ?_⟩
  have h5 := (h4.re 5 [3, 4, 0, 1, 2])
  have h6 := ((h5.row_nil 4 1).row_nil 5 1).re 7 [2, 0, 1, 3, 4, 5, 6]
  have h7 : Has _ (Ndc (w.heap.size + 1 + 1) ⟨2, [], [], [], 0, 1, 0⟩ :: _) := ndc_ofB (by show (2 : Int) ≠ 3; decide) ⟨.slice none 0 0, .slice none 0 0, some (w.heap.size + 1), fun _ => ⟨_, rfl⟩, h6⟩
  exact h7.re 4 [1, 3, 2, 0]
set_option maxRecDepth 100000 in
theorem tNumber (q : Nat) (S : Tre) (p : Str) (mx : Int) (w : World) (L : List HP) (hW : Wk S) (hM : MxL mx L) (hp : p.length ≤ 100000) (hO : Has w (Trc q S :: L)) :
    Calls Tryz.prog 26 #[.pointer (some ⟨q, 0, none⟩), sV p] w fun e w' => e = .returned (.int .i64 (S.find p false).1.node) ∧ Has w' (Trc q S :: L) ∧ Keep w w' := by
  have HF := hid (tFind q S p false mx w L hW hM hp hO)
  generalize S.find p false = R at *
  obtain ⟨s, e⟩ := R
  dsimp only at *
  clear hO hM hW
  go_enter Tryz.func26, Tryz.ntmps26
  go_wp2_with fail
  refine (HF.out).mono ?_
  rintro e w1 ⟨rfl, hO1, hK1⟩
  have HO1 := hid hO1
  have HK1 := hid ((Keep.refl w).trans hK1)
  clear hO1 hK1
  try dsimp only
  unfold spV spC
  have hc := (HO1.out.alloc (.cells (spC s) 93)).cells 0
  go_wp2_with fail
  go_ret
  exact ⟨rfl, (HO1.out.alloc (.cells (spC s) 93)).drop, HK1.out.alloc _⟩
end Go.Proofs.YtonhcefgakmpfaaGreatDoor
/- A tree that may be walked, as a check that is decided. No program in sight. -/
namespace Go.Proofs.YtonhcefgakmpfaaGreatDoor
open Go.RowKit Go.Own
def wkB (S : Tre) : Bool := (fnd S.nodes 1).isSome && S.nodes.all fun p => (p.2.names.all fun e => (fnd S.nodes e.2).isSome) && (decide (p.2.above = 0) || (fnd S.nodes p.2.above).isSome) && decide (p.2.data.length ≤ 100000) && decide (p.2.wr.length ≤ 100000) && decide (p.2.names.length < 1000000)
def wyB (S : Tre) (rk : Int → Nat) : Bool := S.nodes.all fun p => decide (p.1 = 1) || decide (p.2.above = 0) || match fnd S.nodes p.2.above with
  | none => false
  | some y => match y.names.filter fun e => decide (e.2 = p.1) with
    | [e] => decide (rk p.2.above < rk p.1) && decide (e.1.length ≤ 24) && decide (e.2 = p.1)
    | _ => false
def opbB (S : Tre) : Bool := decide (0 ≤ S.last) && decide (S.last < 1000000) && (fnd S.nodes (S.last + 1)).isNone && decide (S.nodes.length < 1000000) && (fnd S.nodes 0).isNone
theorem wk_of {S : Tre} (h : wkB S = true) : Wk S ∧ ∀ n x, fnd S.nodes n = some x → x.data.length ≤ 100000 ∧ x.wr.length ≤ 100000 ∧ x.names.length < 1000000 := by
  unfold wkB at h
  rw [Bool.and_eq_true, List.all_eq_true] at h
  obtain ⟨h1, h2⟩ := h
  have h3 : ∀ n x, fnd S.nodes n = some x → (∀ e ∈ x.names, (fnd S.nodes e.2).isSome = true) ∧ (x.above = 0 ∨ (fnd S.nodes x.above).isSome = true) ∧ x.data.length ≤ 100000 ∧ x.wr.length ≤ 100000 ∧ x.names.length < 1000000 := by
    intro n x hx
    have h4 := h2 _ (fnd_some hx)
    simpa [and_assoc] using h4
  refine ⟨⟨Option.isSome_iff_exists.1 h1, fun n x hx p c hc => ?_, fun n x hx h0 => ?_, fun n x hx _ => (h3 n x hx).2.2.1⟩, fun n x hx => (h3 n x hx).2.2⟩
  · exact Option.isSome_iff_exists.1 ((h3 n x hx).1 _ (fnd_some hc))
  · rcases (h3 n x hx).2.1 with h | h
    · exact absurd h h0
    · exact Option.isSome_iff_exists.1 h
theorem wy_of {S : Tre} {rk : Int → Nat} (h : wyB S rk = true) (hl : ∀ n, rk n ≤ 20) : Wy S rk := by
  refine ⟨fun n x hx h1 h0 => ?_, hl⟩
  unfold wyB at h
  have h4 := (List.all_eq_true.1 h) _ (fnd_some hx)
  dsimp only at h4
  rw [decide_eq_false h1, decide_eq_false h0, Bool.false_or, Bool.false_or] at h4
  split at h4
  · cases h4
  · rename_i y hy
    split at h4
    · rename_i e he
      simp only [Bool.and_eq_true, decide_eq_true_eq] at h4
      exact ⟨y, e.1, hy, by rw [he, ← h4.2], h4.1.1, h4.1.2⟩
    · cases h4
theorem opb_of {S : Tre} (h : opbB S = true) (h2 : wkB S = true) : Opb S := by
  unfold opbB at h
  simp only [Bool.and_eq_true, decide_eq_true_eq, Option.isNone_iff_eq_none] at h
  exact ⟨h.1.1.1.1, h.1.1.1.2, h.1.1.2, h.1.2, h.2, (wk_of h2).2⟩
/-- What stands in the table is there. -/
def opnB (S : Tre) : Bool := S.tab.all fun s => !s.on || ((fnd S.nodes s.node).isSome && decide (0 ≤ s.off) && decide (s.off ≤ 2000000000000) && decide ((S.at_ s.node).kind ≠ 3))
theorem look_in2 {T : List Tb.Slot} {fd : Int} {s : Tb.Slot} (h : Tb.look T fd = some s) : s ∈ T ∧ s.on = true := by
  unfold Tb.look at h
  by_cases hr : 0 ≤ fd ∧ fd < 16
  · rw [if_pos hr] at h
    cases ht : T[fd.toNat]? with
    | none => rw [ht] at h; cases h
    | some t =>
      rw [ht] at h
      dsimp only at h
      by_cases hon : t.on = true
      · rw [if_pos hon] at h
        cases h
        exact ⟨List.mem_of_getElem? ht, hon⟩
      · rw [if_neg hon] at h; cases h
  · rw [if_neg hr] at h; cases h
theorem opn_of {S : Tre} (h : opnB S = true) (h2 : wkB S = true) : Opn S := by
  have h3 : ∀ fd s, Tb.look S.tab fd = some s → (∃ x, fnd S.nodes s.node = some x) ∧ (0 ≤ s.off ∧ s.off ≤ 2000000000000) ∧ (S.at_ s.node).kind ≠ 3 := by
    intro fd s hs
    obtain ⟨h4, h5⟩ := look_in2 hs
    have h6 := (List.all_eq_true.1 h) s h4
    rw [h5] at h6
    simp only [Bool.not_true, Bool.false_or, Bool.and_eq_true, decide_eq_true_eq] at h6
    exact ⟨Option.isSome_iff_exists.1 h6.1.1.1, ⟨h6.1.1.2, h6.1.2⟩, h6.2⟩
  exact ⟨fun fd s hs => (h3 fd s hs).1, fun fd s hs => (h3 fd s hs).2.1, fun n x hx => ((wk_of h2).2 n x hx).1, fun n x hx => ((wk_of h2).2 n x hx).2.1, fun fd s hs => (h3 fd s hs).2.2⟩
end Go.Proofs.YtonhcefgakmpfaaGreatDoor
/- Plain facts of the small trees of the laws: the root alone; one file f. No program in sight. -/
namespace Go.Proofs.YtonhcefgakmpfaaGreatDoor
open Go.RowKit Go.Own
abbrev nF : Str := [102]
abbrev pF : Str := [47, 102]
def root0 : Nod := ⟨2, [], [], [], 0, 1, 0⟩
def rootF : Nod := ⟨2, [], [], [(nF, 2)], 1, 1, 0⟩
def fileF (d : List Int) (wr : List Bool) : Nod := ⟨1, d, wr, [], 0, 1, 0⟩
/-- The root, and a file f. -/
def trF (d : List Int) (wr : List Bool) (T : List Tb.Slot) : Tre := ⟨[(1, rootF), (2, fileF d wr)], 2, T⟩
theorem splitM_root : splitM [47] = ([], 0) := by decide +kernel
theorem find_root (S : Tre) (fo : Bool) : S.find [47] fo = (⟨1, 0, []⟩, 0) := by
  unfold Tre.find
  rw [splitM_root, if_neg (by simp), Tre.walk]
section
variable {d : List Int} {wr : List Bool} {T : List Tb.Slot}
/-- What stands in the table: the file alone, somewhere. -/
def TabF (T : List Tb.Slot) : Prop := ∀ s ∈ T, s.on = true → s.node = 2 ∧ 0 ≤ s.off ∧ s.off ≤ 2000000000000
end
end Go.Proofs.YtonhcefgakmpfaaGreatDoor
/- WHAT IS OWNED BEHIND slices.SortFunc at structs: a row of elements of several cells. No program in sight. -/
namespace Go.Own
open Go.RowKit
theorem flat_at {α : Type} (enc : α → List Value) (k : Nat) (hk : 0 < k) (he : ∀ x, (enc x).length = k) : ∀ (l : List α) (t : Nat) (h : t < l.length * k), (l.flatMap enc)[t]? = (enc (l[t / k]'(Nat.div_lt_of_lt_mul (by rw [Nat.mul_comm]; exact h))))[t % k]?
  | [], t, h => by simp at h
  | x :: l, t, h => by
    rw [List.flatMap_cons]
    by_cases ht : t < k
    · rw [List.getElem?_append_left (by rw [he]; exact ht)]
      have e1 : t / k = 0 := Nat.div_eq_of_lt ht
      have e2 : t % k = t := Nat.mod_eq_of_lt ht
      simp [e1, e2]
    · have hle : k ≤ t := by omega
      rw [List.getElem?_append_right (by rw [he]; exact hle), he]
      have h' : t - k < l.length * k := by
        rw [List.length_cons, Nat.succ_mul] at h
        omega
      rw [flat_at enc k hk he l (t - k) h']
      have e1 : t / k = (t - k) / k + 1 := by
        conv => lhs; rw [show t = t - k + k from by omega]
        rw [Nat.add_div_right _ hk]
      have e2 : t % k = (t - k) % k := by
        conv => lhs; rw [show t = t - k + k from by omega]
        rw [Nat.add_mod_right]
      simp [e1, e2]
theorem flatK_list {α : Type} [Inhabited α] (enc : α → List Value) (k : Nat) (hk : 0 < k) (he : ∀ x, (enc x).length = k) (d : Array α) : (Go.Sort.flatK enc k d).toList = d.toList.flatMap enc := by
  apply List.ext_getElem?
  intro t
  have hl : (d.toList.flatMap enc).length = d.size * k := by
    rw [List.length_flatMap]
    have : (d.toList.map fun x => (enc x).length) = List.replicate d.size k := by
      apply List.ext_getElem
      · simp
      · intro i h1 h2
        simp [he]
    rw [this]
    simp
  by_cases ht : t < d.size * k
  · rw [flat_at enc k hk he d.toList t (by simpa using ht), Array.getElem?_toList, Array.getElem?_eq_getElem (by simpa using ht)]
    have h1 := Go.Sort.get_flatK enc k d t ht
    rw [getElem!_pos _ t (by simpa using ht)] at h1
    have h2 : t / k < d.size := Nat.div_lt_of_lt_mul (by rw [Nat.mul_comm]; exact ht)
    rw [h1, getElem!_pos d (t / k) h2]
    have h3 : t % k < (enc d[t / k]).length := by rw [he]; exact Nat.mod_lt _ hk
    rw [getElem!_pos _ (t % k) h3]
    simp
  · rw [List.getElem?_eq_none (by rw [Array.length_toList]; simp; omega), List.getElem?_eq_none (by rw [hl]; omega)]
section
variable {w : World} {l : List HP} {e : TypeId} {size n : Nat} {xs : List Value}
/-- The row's cells anew. -/
theorem Has.putRowK {α : Type} [Inhabited α] (enc : α → List Value) (hs : 0 < size) (he : ∀ x, (enc x).length = size) {g cap m : Nat} {d : Array α} (h : Has w (row (.slice (some ⟨g, 0, none⟩) m cap) e size n xs :: l)) (hd : d.size = n) :
    Has (Go.Sort.putRowK enc size w g 0 d) (row (.slice (some ⟨g, 0, none⟩) m cap) e size n (d.toList.flatMap enc) :: l) := by
  rw [← flatK_list enc size hs he d]
  have hF : (Go.Sort.flatK enc size d).size = n * size := by simp [hd]
  unfold Go.Sort.putRowK
  generalize Go.Sort.flatK enc size d = F at *
  obtain ⟨hl, h | ⟨g', cap', cur, e1, h1, h2, h3, h4, h5⟩⟩ := h.row_cases
  · exact absurd h.1 (by simp)
  · simp only [Value.slice.injEq, Option.some.injEq, Addr.mk.injEq] at e1
    obtain ⟨⟨rfl, -, -⟩, rfl, rfl⟩ := e1
    have hle : F.size ≤ cap * size := by rw [hF]; exact Nat.mul_le_mul_right size (by omega)
    have hp : Has (Sort.putRow id w g 0 F) (pt g (.cells (Sort.putCells id 0 F cur) e) :: l) := by
      refine h5.turn (fun k _ hk => ?_) ?_
      · simp [Sort.putRow, Sort.mapBlock, Array.getElem?_modify, Ne.symm hk]
      · simp [Sort.putRow, Sort.mapBlock, Array.getElem?_modify, h5.lookup, Sort.onCells]
    refine hp.row_of (by omega) h2 (by simpa [Sort.putCells] using h3) ?_ (by simp [hF])
    apply List.ext_getElem?
    intro k
    by_cases hk : k < F.size
    · have hkc : k < cur.size := by omega
      rw [List.getElem?_take, if_pos (by omega), Array.getElem?_toList, Sort.putCells, Array.getElem?_mapIdx, Array.getElem?_eq_getElem hkc, Option.map_some, if_pos ⟨Nat.zero_le _, by omega⟩, Array.getElem?_toList, Nat.sub_zero,
        Array.getElem?_eq_getElem hk, getElem!_pos F k hk]
      rfl
    · rw [List.getElem?_eq_none (by simp [Sort.putCells]; omega), List.getElem?_eq_none (by simp; omega)]
end
end Go.Own
/- THE WALK of the comparison of tree.Nodes. -/
namespace Go.Proofs.YtonhcefgakmpfaaGreatDoor
open Go.RowKit Go.Own Go.Sort
set_option maxRecDepth 100000 in
theorem tCmp (x y : Sn) (W : World) : Calls Tryz.prog 73 #[.agg x.enc.toArray, .agg y.enc.toArray] W fun e w' => e = .returned (.int .i64 (Lib.compareBytes x.path y.path)) ∧ ∃ q os', w' = grow (W.drewN q) os' := by
  have hcon := fun W' => Tryz.strings_Compare (sB x.path) (sB y.path) W'
  unfold Sn.enc
  go_enter Tryz.func73, Tryz.ntmps73
  go_wp2_with fail
  refine (hcon _).mono ?_
  rintro e w' ⟨rfl, rfl⟩
  try dsimp only
  go_wp2_with fail
  go_ret
  exact ⟨rfl, 0, _, by rw [alloc_eq_grow, alloc_eq_grow, grow_grow]; rfl⟩
end Go.Proofs.YtonhcefgakmpfaaGreatDoor
/- THE WALK of tree.Nodes, out of what slices.SortFunc does. -/
namespace Go.Proofs.YtonhcefgakmpfaaGreatDoor
open Go.RowKit Go.Own
/-- Sorted by their paths. -/
def Srt (os : List Sn) : Prop := os.Pairwise fun a b => ¬ Lib.compareBytes b.path a.path < 0
/-- What is asked of slices.SortFunc. -/
def SortsNd : Prop := ∀ (v : Value) (os : List Sn) (w : World) (L : List HP), os ≠ [] → os.length ≤ 1000000 → Has w (Sns v os :: L) → Calls Tryz.prog 72 #[v, .func (.func 73) #[] #[]] w fun e w' => e = .returned (.tuple #[]) ∧ ∃ os', os'.Perm os ∧ Srt os' ∧ Has w' (Sns v os' :: L) ∧ Keep w w'
set_option maxRecDepth 100000 in
set_option maxHeartbeats 4000000 in
theorem tNodes (hSort : SortsNd) (q : Nat) (S : Tre) (x : Nod) (rk : Int → Nat) (w : World) (L : List HP) (h1 : fnd S.nodes 1 = some x) (hdl : ∀ n x, fnd S.nodes n = some x → x.data.length ≤ 100000) (hlow : ∀ n x, fnd S.nodes n = some x → rk n ≤ 21) (hrk : ∀ n x, fnd S.nodes n = some x → ∀ e ∈ x.names, rk n < rk e.2 ∧ e.1.length ≤ 24 ∧ ∃ y, fnd S.nodes e.2 = some y) (hmany : (seen S.nodes 22 1 []).length ≤ 1000000) (hO : Has w (Trc q S :: L)) :
    Calls Tryz.prog 20 #[.pointer (some ⟨q, 0, none⟩)] w fun e w' => ∃ v os, e = .returned v ∧ (os.map Sn.key).Perm ((seen S.nodes 22 1 []).map keyE) ∧ Srt os ∧ Has w' (Sns v os :: Trc q S :: L) ∧ Keep w w' := by
  obtain ⟨m, f, P, hPT, h⟩ := trc_iff.1 hO
  have hnd := Trb.nodup h
  have hfn : ∀ y ∈ P, fnd S.nodes y.1 = some y.2.2 := by
    intro y hy
    rw [← hPT.1]
    exact fnd_mem (by rw [pnN_keys]; exact hnd) (List.mem_map.2 ⟨y, hy, rfl⟩)
  have h1' := h1
  rw [← hPT.1] at h1'
  obtain ⟨A, b, B, hPe⟩ := pn_split h1'
  have hin : (1, b, x) ∈ P := by rw [hPe]; simp
  have hP : pnN P = S.nodes := hPT.1
  have HSE := hid (fun gt gs go => tSee q m f gt gs go P S.last S.tab rk (fun y hy => hdl _ _ (hfn y hy)) hnd (fun y hy => hlow _ _ (hfn y hy)) (fun y hy e he => by
    obtain ⟨a1, a2, z, hz⟩ := hrk _ _ (hfn y hy) e he
    refine ⟨a1, a2, ?_⟩
    rw [← hP] at hz
    obtain ⟨A', b', B', e'⟩ := pn_split hz
    exact ⟨(e.2, b', z), by rw [e']; simp, rfl⟩) 22 1 b x [] P)
  have HPT := hid hPT
  have HT := hid (show Has w (Trg q m f P S.last S.tab P :: L) from Trg.of h)
  have HIN := hid hin
  have HLOW := hid (hlow _ _ h1)
  have HMANY := hid hmany
  have HSO := hid hSort
  clear hO h hnd hfn h1' hin hPe hdl hlow hrk hmany hSort hPT
  have h2 := ((HT.out.alloc (.cells #[.pointer (some ⟨q, 0, none⟩)] 25)).alloc (.cells #[.slice none 0 0] 37)).alloc (.cells #[.nilFunc] 106)
  have e1 : (w.alloc (.cells #[.pointer (some ⟨q, 0, none⟩)] 25)).heap.size = w.heap.size + 1 := by show (Array.push _ _).size = _; rw [Array.size_push]
  have e2 : ((w.alloc (.cells #[.pointer (some ⟨q, 0, none⟩)] 25)).alloc (.cells #[.slice none 0 0] 37)).heap.size = w.heap.size + 1 + 1 := by show (Array.push _ _).size = _; rw [Array.size_push, e1]
  rw [e2, e1] at h2
  have hcs := (show _ = some Value.nilFunc from h2.cells 0)
  have hts := h2.thaw 0
  have h3 := ((HT.out.alloc (.cells #[.pointer (some ⟨q, 0, none⟩)] 25)).alloc (.cells #[.slice none 0 0] 37)).alloc (.cells #[.func (.func 70) #[] #[.pointer (some ⟨w.heap.size, 0, none⟩), .pointer (some ⟨w.heap.size + 1, 0, none⟩), .pointer (some ⟨w.heap.size + 1 + 1, 0, none⟩)]] 106)
  rw [e2, e1] at h3
  have HO2 := hid h3
  have HK2 := hid ((((Keep.refl w).alloc (.cells #[.pointer (some ⟨q, 0, none⟩)] 25)).alloc (.cells #[.slice none 0 0] 37)).alloc (.cells #[.func (.func 70) #[] #[.pointer (some ⟨w.heap.size, 0, none⟩), .pointer (some ⟨w.heap.size + 1, 0, none⟩), .pointer (some ⟨w.heap.size + 1 + 1, 0, none⟩)]] 106))
  have hsf : ∀ (W : World) (a : Addr) (u v : Array Value), (store a (.func (.func 70) u v)).run Tryz.prog W = stored Tryz.prog W a (.func (.func 70) u v) .plain := fun W a u v => run_store Tryz.prog W a _ .plain rfl
  clear h2 h3 e1 e2
  go_enter Tryz.func20, Tryz.ntmps20
  go_upto_region 6 with fail
  generalize ((w.alloc (.cells #[.pointer (some ⟨q, 0, none⟩)] 25)).alloc (.cells #[.slice none 0 0] 37)).alloc (.cells #[.func (.func 70) #[] #[.pointer (some ⟨w.heap.size, 0, none⟩), .pointer (some ⟨w.heap.size + 1, 0, none⟩), .pointer (some ⟨w.heap.size + 1 + 1, 0, none⟩)]] 106) = w2 at *
  clear hcs hts HT hsf
  generalize hgs : w.heap.size + 1 + 1 = gs at *
  generalize hgo : w.heap.size + 1 = go at *
  generalize w.heap.size = gt at *
  have hgc : w2.cell? ⟨gs, 0, none⟩ = some (.func (.func 70) #[] #[.pointer (some ⟨gt, 0, none⟩), .pointer (some ⟨go, 0, none⟩), .pointer (some ⟨gs, 0, none⟩)]) := HO2.out.cells 0
  have HO3 := hid (show Has w2 (Sns (.slice none 0 0) [] :: pt go (.cells #[.slice none 0 0] 37) :: pt gt (.cells #[.pointer (some ⟨q, 0, none⟩)] 25) :: pt gs (.cells #[.func (.func 70) #[] #[.pointer (some ⟨gt, 0, none⟩), .pointer (some ⟨go, 0, none⟩), .pointer (some ⟨gs, 0, none⟩)]] 106) :: Trg q m f P S.last S.tab P :: L) from sns_iff.2 ((HO2.out.re 4 [1, 2, 0, 3]).row_nil 55 5))
  have HX := hid (HSE.out gt gs go (.slice none 0 0) [] w2 L (by omega) HLOW.out HIN.out (by simp) (fun y hy _ => hy) (by have := HMANY.out; rw [HPT.out.1]; simpa using this) HO3.out)
  rw [HPT.out.1] at HX
  clear HO2 HO3
  go_wp2_with fail
  refine HX.out.mono ?_
  rintro e w4 ⟨rfl, ov, os, hpm, hO4, hK4⟩
  rw [List.nil_append] at hO4
  have HPM := hid hpm
  have HO4 := hid hO4
  have HK4 := hid (HK2.out.trans hK4)
  have HLN := hid (show os.length ≤ 1000000 from by have h1 := hpm.length_eq; rw [List.length_map, List.length_map] at h1; have := HMANY.out; omega)
  have HNE := hid (show os ≠ [] from by
    rintro rfl
    have h1 := hpm.length_eq
    rw [List.length_map, List.length_map, seen] at h1
    simp at h1)
  clear hpm hO4 hK4 HX HK2 hgc
  try dsimp only
  have hov : w4.cell? ⟨go, 0, none⟩ = some ov := HO4.out.p1.cells 0
  have HS5 := hid (HSO.out ov os w4 _ HNE.out HLN.out HO4.out)
  obtain ⟨po, co, rfl, -⟩ := (Has.rd (sns_iff.1 HO4.out)).form
  go_wp2_with fail
  refine HS5.out.mono ?_
  rintro e w5 ⟨rfl, os', hp5, hs5, hO5, hK5⟩
  have hov5 : w5.cell? ⟨go, 0, none⟩ = some (.slice po os.length co) := hO5.p1.cells 0
  try dsimp only
  have HO5 := hid hO5
  have HK5 := hid (HK4.out.trans hK5)
  have HP5 := hid hp5
  have HS6 := hid hs5
  clear hO5 hK5 hp5 hs5 HS5 hov
  go_wp2_with fail
  go_ret
  refine ⟨_, os', rfl, (HP5.out.map _).trans HPM.out, HS6.out, ?_, HK5.out⟩
  have h9 := HO5.out.re 5 [4, 0]
  exact (show Has w5 (Trc q S :: _) from trc_iff.2 ⟨m, f, P, HPT.out, h9⟩).re 2 [1, 0]
end Go.Proofs.YtonhcefgakmpfaaGreatDoor
