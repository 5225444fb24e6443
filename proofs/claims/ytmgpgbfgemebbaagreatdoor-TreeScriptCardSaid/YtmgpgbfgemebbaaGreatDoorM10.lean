/- TEXTS of mine, merged. -/
import Derived.Test.YtmgpgbfgemebbaaGreatDoorM0
import Derived.Test.YtmgpgbfgemebbaaGreatDoorM1
import Derived.Shelf.SlIterI.Nil
import Derived.Maps.OwnIn
import Derived.Test.YtmgpgbfgemebbaaGreatDoorM5
import Derived.Test.YtmgpgbfgemebbaaGreatDoorM9
import Derived.Test.YtmgpgbfgemebbaaGreatDoorM3
import Derived.Test.YtmgpgbfgemebbaaGreatDoorM7
import Derived.Test.YtmgpgbfgemebbaaGreatDoorM4
import Derived.Laws.CopyOwn
import Derived.Laws.IdiomCopy
import Derived.Test.YtmgpgbfgemebbaaGreatDoorM6
set_option linter.all false
set_option maxRecDepth 100000
set_option maxHeartbeats 16000000
namespace Go.Own
open Go.RowKit Go.Maps Go.Sort Go.Shelf Go.Proofs
structure But (w w':World) (row:Option Nat):Prop where
 keep:Keep w w'
 same:∀ k,k<w.heap.size→some k≠row→w'.heap[k]? = w.heap[k]?
theorem But.refl (w:World)(row:Option Nat):But w w row:=⟨Keep.refl w,fun _ _ _=>rfl⟩
theorem But.grown {w w' w'':World}{row r:Option Nat}(h:But w w' row)(hg:w'.grownBy w'' r)(hr:r=row∨r=none∨∃ b,r=some b∧w.heap.size≤b):But w w'' row :=
 ⟨h.keep.grown hg,fun k hk hne=>by
  have h1:=h.keep.size;rw[←h.same k hk hne];refine hg.block k (by omega) fun e=>?_;rcases hr with rfl|rfl|⟨b,rfl,hb⟩
  ·exact hne e
  ·cases e
  ·cases e;omega⟩
theorem But.alloc {w w':World}{row:Option Nat}(h:But w w' row)(o:Obj):But w (w'.alloc o) row :=
 h.grown (World.grownBy_alloc w' o none) (.inr (.inl rfl))
theorem Has.dj {w w':World}{L:List HP}{v v':Value}{e:TypeId}{size n n':Nat}{xs xs':List Value}(h:Has w (row v e size n xs::L))(hb:But w w' v.ownBlock)(ho:w'.ownsRow 0 e size v' n' xs')
  (hv:v'.ownBlock=v.ownBlock∨∃ b,v'.ownBlock=some b∧w.heap.size≤b):Has w' (row v' e size n' xs'::L):=by
 obtain⟨h1,⟨rfl,rfl,-,h2⟩|⟨g,cap,cur,rfl,-,-,-,-,h2⟩⟩:=h.ao
 ·have hs:∀ k,k<w.heap.size→w'.heap[k]? = w.heap[k]? := fun k hk=>hb.same k hk (by simp[Value.ownBlock]);obtain⟨hl,⟨rfl,rfl⟩|⟨g,cap,cur,rfl,-,hg,r1,r2,r3,r4⟩⟩:=ho
  ·have hx:xs' = []:=List.eq_nil_of_length_eq_zero (by simpa using hl);subst hx;exact(h2.frame hs).al e size
  ·rcases hv with hv|⟨b,hv,hle⟩
   ·simp[Value.ownBlock] at hv
   ·simp only[Value.ownBlock,Option.some.injEq] at hv;subst hv;exact(h2.fresh hs hle hg).row_of r1 r2 r3 r4 hl
 ·have hne:∀ k,k<w.heap.size→k≠g→w'.heap[k]? = w.heap[k]? := fun k hk hkg=>hb.same k hk (by simpa[Value.ownBlock] using hkg);obtain⟨o,hog⟩:∃ o,w'.heap[g]? = some o:=⟨_,Array.getElem?_eq_getElem (by have:=h2.lt;have:=hb.keep.size;omega)⟩
  obtain⟨hl,⟨rfl,rfl⟩|⟨g',cap',cur',rfl,-,hg',r1,r2,r3,r4⟩⟩:=ho
  ·have hx:xs' = []:=List.eq_nil_of_length_eq_zero (by simpa using hl);subst hx;exact(h2.turn hne hog).drop.al e size
  ·rcases hv with hv|⟨b,hv,hle⟩
   ·simp only[Value.ownBlock,Option.some.injEq] at hv;subst hv;exact(h2.turn hne hg').row_of r1 r2 r3 r4 hl
   ·simp only[Value.ownBlock,Option.some.injEq] at hv;subst hv;have h3:=(h2.setObj o).drop;refine(h3.fresh (fun k hk=>?_) (by simpa using hle) hg').row_of r1 r2 r3 r4 hl;by_cases e1:k=g
    ·subst e1;rw[hog];have:=h2.lt;simp[this]
    ·have hk':k<w.heap.size:=by simpa using hk
     rw[hne k hk' e1];simp[Ne.symm e1]
section
variable {P:Program} {ρ:Ren}
def IL (ρ:Ren) (v0:Value) (fn:FuncId) (sv:Value) (Bs D:Nat) (st:LoopState) (pend:Option Code):Loop :=
 {AnyZI.apRec ρ fn sv Bs D st pend with tmps:=#[v0,sv,.pointer (some ⟨Bs,0,none⟩),undef,.slice none 0 0,undef,sv,undef,undef,undef,undef,undef,undef]}
structure O6 (ρ:Ren) (w0:World) (v0:Value) (xs:List Int) (fn:FuncId) (sv:Value) (Bs l D:Nat) (ss:List Int) (W:World):Prop where
 box:∃ v,W.heap[Bs]? = some (.cells #[v] (ρ.t 24) (0,0))∧W.ownsRow 0 (ρ.t 26) 1 v (xs.length+ss.length) ((xs++ss).map encZ)∧(v.ownBlock=v0.ownBlock∨∃ b,v.ownBlock=some b∧w0.heap.size≤b)
 L:W.heap[l]? = some (.loop (IL ρ v0 fn sv Bs D .ready none))
 K:W.heap[D]? = some (.deferred (some []))
 but:But w0 W v0.ownBlock
end
end Go.Own
namespace Go.Proofs.YtmgpgbfgemebbaaGreatDoor
open Go.RowKit Go.Own Go.Maps Go.ChangeMaps Go.Shelf Go.Proofs
def gO (l:List Str):List Str:=l.mergeSort fun x y=>decide (x≤y)
theorem wL (a b c:Str)(h1:decide (a≤b)=true)(h2:decide (b≤c)=true):decide (a≤c)=true:=by
 simp only[decide_eq_true_eq] at *;exact List.le_trans h1 h2
theorem wX (a b:Str):(decide (a≤b)||decide (b≤a))=true:=by
 simp only[Bool.or_eq_true,decide_eq_true_eq];exact List.le_total a b
theorem jS (l:List Str):(gO l).Perm l:=List.mergeSort_perm l _
theorem kh (l:List Str):(gO l).Pairwise (fun x y=>decide (x≤y)=true):=List.pairwise_mergeSort wL wX l
theorem l5 {l l':List Str}(h:l.Perm l'):gO l=gO l' :=
 (((jS l).trans h).trans (jS l').symm).eq_of_pairwise (fun a b _ _ h1 h2=>by simp only[decide_eq_true_eq] at *;exact List.le_antisymm h1 h2) (kh l) (kh l')
theorem nS (l:List Str):(gO l).length=l.length:=(jS l).length_eq
abbrev GZ (c:Nat):Value := .func (.func 185) #[] #[.pointer (some ⟨c,0,none⟩)]
theorem Iv (b:Nat)(w:World):zCl 124 #[.map (some b)] w fun e w'=>e=.returned (GZ w.heap.size)∧w'=w.alloc (.cells #[.map (some b)] tNm) :=
 callsIn_wide.1 (AnyZ.keys_in Tryz.cu Fence.wide 9 trivial rfl (some b) w)
theorem yv (m:Nat):AnyZ.SortsIn Tryz.prog Tryz.aX Fence.wide m :=
 ⟨fun blk off cap ss W hH hblk hsz=>callsIn_wide.2 (Tryz.slices_Sort_string blk off cap ss W hH hblk hsz),fun p cap W=>callsIn_wide.2 (Tryz.slices_Sort_string_none p cap W)⟩
theorem tB {W w':World}(h:Below W.heap.size W w'):But W w' none:=⟨⟨h.os,h.tape,h.output,h.size⟩,fun k hk _=>h.block k hk⟩
theorem C5 (b:Nat)(t:List (Str×Int))(w:World)(L:List HP)(hl:t.length≤1000000)(hO:Has w (Mk kStr vInt b t::L)) :
  zCl 123 #[GZ w.heap.size] (w.alloc (.cells #[.map (some b)] tNm)) fun e w'=>∃ v,e=.returned v∧Has w' (row v gx 1 (gO (t.map Prod.fst)).length ((gO (t.map Prod.fst)).map sV)::Mk kStr vInt b t::L)∧Keep w w':=by
 obtain⟨D,h1,h2⟩:=Mk.iff.1 hO;have hs:=AnyZ.keys_gives (ρ:=Tryz.br) {Tryz.cu with} Fence.wide 6 trivial rfl (by omega) w.heap.size b _ D (w.alloc (.cells #[.map (some b)] tNm)) (by simp) (by simp) (h2.alloc' _).owns;rw[h1.size] at hs;have hp:(t.map Prod.fst).Perm (strKeys D):=Collected.perm (left:=fun _=>false) ⟨h1.nodup,fun x=>by rw[show (Lit.string x)=kStr.lk x from rfl,h1.has];simp⟩ h2.owns kStr.law C9 (fun _=>rfl);refine(callsIn_wide (n:=9)).1 ((AnyZ.sorted_in Tryz.cK Fence.wide 9 trivial trivial trivial trivial rfl (by omega) (yv _) (enters_of Tryz.func184 (by kernel_rfl) rfl) 185 #[.pointer (some ⟨w.heap.size,0,none⟩)] trivial (enters_of Tryz.func185 (by kernel_rfl) rfl) _ t.length (eU (by omega)) (by omega) (w.alloc (.cells #[.map (some b)] tNm)) hs).mono ?_);rintro e w' ⟨v,ss,rfl,hS,hrow,hnil,hb⟩;have e1:(ss.mergeSort fun x y=>decide (x≤y))=gO (t.map Prod.fst):=l5 (hS.trans hp.symm);rw[e1] at hrow;have hlen:ss.length=(gO (t.map Prod.fst)).length:=by rw[nS,hS.length_eq,←hp.length_eq]
 rw[hlen] at hrow;refine⟨v,rfl,((hO.alloc' _).al gx 1).dj (tB hb) (ownsRow_base_a hrow (Nat.zero_le _)) ?_,((Keep.refl w).alloc _).trans (tB hb).keep⟩;rcases hrow.2 with ⟨rfl,-⟩|⟨g,cap,cur,rfl,hbase,-⟩
 ·exact .inl rfl
 ·exact .inr ⟨g,rfl,hbase⟩
namespace Tre
variable (S:Tre)
def list (aa:Int)(p:Str):Ans :=
 if (S.find p (aa==18)).2≠0 then eQ (S.find p (aa==18)).2
 else if aa=18∧(S.at_ (S.find p (aa==18)).1.ae).aa≠2 then eQ 7
 else if aa=18 then⟨0,0,0,0,[],gO ((S.at_ (S.find p (aa==18)).1.ae).ab.map Prod.fst)⟩
 else if (S.at_ (S.find p (aa==18)).1.ae).aa≠3 then eQ 2
 else⟨0,0,0,0,(S.at_ (S.find p (aa==18)).1.ae).data,[]⟩
end Tre
variable {S:Tre} {rk:Int→Nat} {k:Nat}
theorem nk {T:List Tb.Slot}(hT:T.length=16){k:Nat}(hk:k<16)(s:Tb.Slot)(fd:Int):Tb.look (T.set k s) fd=if fd=k then(if s.on then some s else none) else Tb.look T fd:=by
 unfold Tb.look;by_cases hb:0≤fd∧fd<16
 ·rw[if_pos hb,if_pos hb,List.getElem?_set];by_cases he:fd=k
  ·have e1:k=fd.toNat:=by omega
   rw[if_pos he,if_pos e1,if_pos (by omega)]
  ·have e1:¬ k=fd.toNat:=by omega
   rw[if_neg he,if_neg e1]
 ·rw[if_neg hb,if_neg hb];by_cases he:fd=k
  ·omega
  ·rw[if_neg he]
theorem Gd.slot (h:Gd S rk k){j:Nat}(hj:j<16)(s:Tb.Slot)(hs:s.on=true→(∃ x,fnd S.ac s.ae=some x∧x.aa≠3)∧0≤s.off∧s.off≤1099511627776):Gd {S with ak:=S.ak.set j s} rk k:=by
 refine h.ak (by rw[List.length_set];exact h.tab16) fun fd u hu=>?_;rw[nk h.tab16 hj] at hu;by_cases he:fd=j
 ·rw[if_pos he] at hu;by_cases hon:s.on=true
  ·rw[if_pos hon] at hu;cases hu;exact hs hon
  ·rw[if_neg hon] at hu;cases hu
 ·rw[if_neg he] at hu;exact h.opn fd u hu
theorem tm {T:List Tb.Slot}{fd:Int}{s:Tb.Slot}(h:Tb.look T fd=some s):0≤fd∧fd<16∧fd.toNat<16:=by
 unfold Tb.look at h;split at h
 ·omega
 ·cases h
theorem Gd.dr (h:Gd S rk k){n:Int}(fl:Int)(hn:∃ x,fnd S.ac n=some x∧x.aa≠3):Gd {S with ak:=(Tb.opn S.ak n fl).2} rk k:=by
 unfold Tb.opn;cases hf:S.ak.findIdx? (fun s => !s.on) with
 | none=>exact h
 | some j =>
  have hj:j<16:=by
   rw[←h.tab16];exact(List.findIdx?_eq_some_iff_getElem.1 hf).1
  exact h.slot hj ⟨n,0,fl,true⟩ fun _=>⟨hn,by show (0:Int)≤0;omega,by show (0:Int)≤_;omega⟩
theorem Gd.eK (h:Gd S rk k)(fd:Int):Gd {S with ak:=(Tb.cls S.ak fd).2} rk k:=by
 unfold Tb.cls;cases hf:Tb.look S.ak fd with
 | none=>exact h
 | some s=>exact h.slot (tm hf).2.2 Tb.none4 fun e=>by cases e
theorem Gd.ef (h:Gd S rk k)(fd off:Int)(ho:off≤1099511627776):Gd {S with ak:=(Tb.aM S.ak fd off).2} rk k:=by
 unfold Tb.aM;cases hf:Tb.look S.ak fd with
 | none=>exact h
 | some s =>
  dsimp only;by_cases h0:off<0
  ·rw[if_pos h0];exact h
  ·rw[if_neg h0];exact h.slot (tm hf).2.2 _ fun _=>⟨(h.opn fd s hf).1,by show 0≤off;omega,ho⟩
theorem Gd.close (h:Gd S rk k)(fd:Int):Gd (S.close fd).2 rk k:=by
 unfold Tre.close;split
 ·exact h
 ·exact(h.eK fd).forget _
theorem Gd.cU (h:Gd S rk k){fd:Int}{wr:Bool}(h0:(S.file fd wr).2=0):∃ s x,Tb.look S.ak fd=some s∧(S.file fd wr).1=s∧fnd S.ac s.ae=some x∧x.aa=1∧0≤s.off∧s.off≤1099511627776:=by
 unfold Tre.file at *;by_cases h1:(Tb.get S.ak fd).2≠0
 ·rw[if_pos h1] at h0;simp at h0
 rw[if_neg h1] at h0 ⊢;by_cases h2:wr=true∧fc (Tb.get S.ak fd).1.af 32=0
 ·rw[if_pos h2] at h0;simp at h0
 rw[if_neg h2] at h0 ⊢;by_cases h3:(S.at_ (Tb.get S.ak fd).1.ae).aa=2
 ·rw[if_pos h3] at h0;simp at h0
 rw[if_neg h3];unfold Tb.get at *;cases hl:Tb.look S.ak fd with
 | none=>rw[hl] at h1;simp at h1
 | some s =>
  rw[hl] at h3;obtain⟨⟨x,hx,h4⟩,h5⟩:=h.opn fd s hl;refine⟨s,x,rfl,rfl,hx,?_,h5⟩;rw[fC hx] at h3;rcases(h.ax hx).aa with e|e|e
  ·exact e
  ·exact absurd e h3
  ·exact absurd e h4
theorem Gd.read (h:Gd S rk k)(aa fd n off:Int):Gd (S.read aa fd n off).2 rk k:=by
 unfold Tre.read;dsimp only;split
 ·exact h
 ·rename_i h1;split
  ·exact h
  ·rename_i h2;dsimp only;by_cases hk:aa=3
   ·rw[if_pos hk];obtain⟨s,x,hl,e,hx,_,h3,h4⟩:=h.cU (Classical.not_not.1 h1);refine h.ef fd _ ?_;rw[if_neg (by rw[hk];decide),e,fC hx];have h5:=(h.ax hx).size.1;simp only[List.length_take,List.length_drop];omega
   ·rw[if_neg hk];exact h
theorem Gd.aG (h:Gd S rk k)(fd n off:Int):Gd (S.aG fd n off).2 rk k:=by
 unfold Tre.aG;dsimp only;split
 ·exact h
 ·generalize (if n=1 then(S.file fd false).1.off else if n=2 then((S.at_ (S.file fd false).1.ae).data.length:Int) else 0)=f;split
  ·exact h
  ·split
   ·exact h
   ·rename_i h3;exact h.ef fd _ (by omega)
theorem iE (x:Nod)(size:Nat):(fw x size).aa=x.aa∧(fw x size).ab=x.ab∧(fw x size).most=x.most∧(fw x size).ah=x.ah∧(fw x size).above=x.above∧(fw x size).data.length=size∧(fw x size).wr.length≤x.wr.length:=by
 unfold fw;split
 ·exact⟨rfl,rfl,rfl,rfl,rfl,by simp;omega,by simp;omega⟩
 ·exact⟨rfl,rfl,rfl,rfl,rfl,by simp;omega,Nat.le_refl _⟩
theorem Gd.resize (h:Gd S rk k){n:Int}{x:Nod}(hx:fnd S.ac n=some x)(h2:x.aa≠2){size:Nat}(hs:size≤100000):Gd (S.resize n size) rk k:=by
 unfold Tre.resize;rw[fC hx];obtain⟨a1,a2,a3,a4,a5,a6,a7⟩:=iE x size;exact h.dat hx h2 _ ⟨a1,a2,a3,a4,a5⟩ ⟨by omega,by have:=(h.ax hx).size.2.1;omega⟩
theorem Gd.trunc (h:Gd S rk k)(fd off:Int):Gd (S.trunc fd off).2 rk k:=by
 unfold Tre.trunc;dsimp only;split
 ·exact h
 ·rename_i h1;split
  ·exact h
  ·split
   ·exact h
   ·obtain⟨s,x,hl,e,hx,hk,_⟩:=h.cU (Classical.not_not.1 h1);rw[e];exact h.resize hx (by rw[hk];decide) (by omega)
theorem nh (n:Nat):fk n≤162:=by unfold fk;split <;> omega
theorem oX (x:Nod)(off:Nat)(ds:List Int):(fE x off ds).aa=x.aa∧(fE x off ds).ab=x.ab∧(fE x off ds).most=x.most∧(fE x off ds).ah=x.ah∧(fE x off ds).above=x.above∧(fE x off ds).data.length=max x.data.length (off+ds.length)∧(fE x off ds).wr.length≤max x.wr.length 162:=by
 obtain⟨a1,a2,a3,a4,a5,a6,a7⟩:=iE x (max x.data.length (off+ds.length));refine⟨a1,a2,a3,a4,a5,?_,?_⟩
 ·show ((fw x _).data.take off++ds++(fw x _).data.drop (off+ds.length)).length=_;simp only[List.length_append,List.length_take,List.length_drop,a6];omega
 ·show (iJ ((fw x _).wr++List.replicate (fk (off+ds.length)-(fw x _).wr.length) false) (off / 128) (fk (off+ds.length))).length≤_;rw[im,List.length_append,List.length_replicate];have:=nh (off+ds.length);omega
theorem Gd.write (h:Gd S rk k)(aa fd off:Int)(ds:List Int):Gd (S.write aa fd off ds).2 rk k:=by
 unfold Tre.write;dsimp only;split
 ·exact h
 ·rename_i h1;split
  ·exact h
  ·rename_i h2;obtain⟨s,x,hl,e,hx,hk,h3,h4⟩:=h.cU (Classical.not_not.1 h1);rw[e,fC hx];generalize ho:(if aa=6 then off else if fc s.af 8≠0 then(x.data.length:Int) else s.off)=o;have ho0:0≤o:=by
    rw[←ho];by_cases hk6:aa=6
    ·rw[if_pos hk6];have:¬ off<0:=fun h=>h2 ⟨hk6,h⟩;omega
    ·rw[if_neg hk6];split <;> omega
   split
   ·exact h
   ·rename_i h5;split
    ·exact h
    ·have hmin:min ds.length 20736=ds.length:=by omega
     rw[hmin] at h5;obtain⟨a1,a2,a3,a4,a5,a6,a7⟩:=oX x o.toNat ds;have hsz:=(h.ax hx).size;have G:=h.dat hx (by rw[hk];decide) (fE x o.toNat ds) ⟨a1,a2,a3,a4,a5⟩ ⟨by omega,by omega⟩;dsimp only;split
     ·exact G.ef fd _ (by omega)
     ·exact G
theorem Gd.aF (h:Gd S rk k)(p:Str):∃ rk',Gd (S.aF p).2 rk' (k+1):=by
 unfold Tre.aF;dsimp only;split
 ·exact zbg
 ·rename_i h0;obtain⟨h1,h2,h3⟩:=ky (Classical.not_not.1 h0);rw[h3];exact⟨_,h.make (h.ay p h1) h2 2 (.inr (.inl rfl)) [] (by simp)⟩
theorem Gd.symlink (h:Gd S rk k)(p q:Str)(hp:p.length≤100000):∃ rk',Gd (S.symlink p q).2 rk' (k+1):=by
 unfold Tre.symlink;split
 ·exact zbg
 ·split
  ·exact zbg
  ·rename_i h0;obtain⟨h1,h2,h3⟩:=ky (Classical.not_not.1 h0);rw[h3];exact⟨_,h.make (h.ay q h1) h2 3 (.inr (.inr rfl)) p hp⟩
theorem Gd.link (h:Gd S rk k)(p q:Str):∃ rk',Gd (S.link p q).2 rk' (k+1):=by
 unfold Tre.link;split
 ·exact zbg
 ·rename_i hf;split
  ·exact zbg
  ·rename_i hk2;split
   ·exact zbg
   ·rename_i h0;obtain⟨h1,h2,h3⟩:=ky (Classical.not_not.1 h0);rw[h3];obtain⟨x,hx,_⟩:=(h.find_ok p false (Classical.not_not.1 hf)).1.ae;rw[fC hx] at hk2;exact⟨_,h.addN (h.ay q h1) h2 hx hk2⟩
theorem Gd.remove (h:Gd S rk k){aa:Int}(hk:aa=10∨aa=11)(p:Str):Gd (S.remove aa p).2 rk k:=by
 unfold Tre.remove;split
 ·exact h
 ·rename_i h0;split
  ·exact h
  ·rename_i hn0;have P:=h.ay p (Classical.not_not.1 h0);generalize (S.place p).1=s at *;obtain⟨d,hd,hd2,_,hc,_⟩:=P.dir;have hc:=hc hn0;obtain⟨_,_,y,hy,_⟩:=(h.ax hd).ai _ (fj hc);have hy':fnd S.ac s.ae=some y:=hy;rw[fC hy'];split
   ·exact h
   ·rename_i h3;split
    ·exact h
    ·rename_i h4;split
     ·exact h
     ·rename_i h5;refine h.take hd hc hy' fun h2=>?_;rcases hk with e|e
      ·have:¬ 0<y.ab.length:=fun h6=>h4 ⟨e,h6⟩;exact List.eq_nil_of_length_eq_zero (by omega)
      ·exact absurd ⟨e,h2⟩ h5
theorem Gd.eD (h:Gd S rk k){s:Spt}{fl:Int}(hg:¬ (fc fl 12≠0∧fc fl 32=0)){x:Nod}(hx:fnd S.ac s.ae=some x)(h3:x.aa≠3)(h4:fc fl 4≠0→fc fl 12≠0):Gd (S.ar s fl).2 rk k:=by
 have hn0:s.ae≠0:=h.aR hx;unfold Tre.ar;split
 ·exact h
 ·rename_i h5;split
  ·exact h
  ·dsimp only;try rw[if_neg hn0]
   try rw[if_neg hn0]
   by_cases ht:fc fl 4≠0
   ·rw[if_pos ht];have h6:x.aa≠2:=by
     intro e;rw[fC hx] at h5;exact h5 ⟨hn0,e,fun e32=>hg ⟨h4 ht,e32⟩⟩
    have G:=h.resize (size:=0) hx h6 (by omega);refine G.dr fl ⟨fw x 0,?_,?_⟩
    ·show fnd (eX S.ac s.ae _) s.ae=_;rw[fnd_putA,if_pos rfl,fC hx]
    ·rw[(iE x 0).1];exact h3
   ·rw[if_neg ht];exact h.dr fl ⟨x,hx,h3⟩
theorem nI (x:Nod)(d:Int):(Tre.nodAdd x d).aa=x.aa:=by
 unfold Tre.nodAdd;by_cases h:x.aa=2
 ·rw[if_pos h]
 ·rw[if_neg h]
theorem sQ (S:Tre)(s:Spt)(c:Int)(ds:Str):∃ x,fnd (S.make s c ds).ac (S.last+1)=some x∧x.aa=c:=by
 refine⟨Tre.nodAdd ⟨c,if c=3 then fF ds else [],[],[],0,0,0⟩ s.dir,?_,?_⟩
 ·unfold Tre.make Tre.add Tre.au;refine(fnd_putA.trans (if_pos rfl)).trans ?_;unfold Tre.at_;dsimp only;rw[fnd_putA,if_pos rfl];rfl
 ·exact nI _ _
theorem Gd.ez (h:Gd S rk k){s:Spt}(P:tc S rk s)(hs0:s.ae=0)(fl:Int):∃ rk',Gd (S.ar s fl).2 rk' (k+1):=by
 unfold Tre.ar;split
 ·exact zbg
 ·split
  ·exact zbg
  ·dsimp only;try rw[if_pos hs0]
   try rw[if_pos hs0]
   have G:=h.make P hs0 1 (.inl rfl) [] (by simp);obtain⟨x,hx,hk⟩:=sQ S s 1 [];by_cases ht:fc fl 4≠0
   ·rw[if_pos ht];have G2:=G.resize (size:=0) hx (by rw[hk];decide) (by omega);refine⟨_,G2.dr fl ⟨fw x 0,?_,?_⟩⟩
    ·show fnd (eX (S.make s 1 []).ac (S.last+1) _) (S.last+1)=_;rw[fnd_putA,if_pos rfl,fC hx]
    ·rw[(iE x 0).1,hk];decide
   ·rw[if_neg ht];exact⟨_,G.dr fl ⟨x,hx,by rw[hk];decide⟩⟩
theorem Gd.aw (h:Gd S rk k)(p:Str)(fl:Int)(h4:fc fl 4≠0→fc fl 12≠0):∃ rk',Gd (S.aw p fl).2 rk' (k+1):=by
 unfold Tre.aw;split
 ·exact zbg
 ·rename_i hg;have hg2:¬ (fc fl 12≠0∧fc fl 32=0):=fun e=>hg (.inr (.inr e));have hfind:(S.find p true).2=0→∃ rk',Gd (S.ar (S.find p true).1 fl).2 rk' (k+1):=by
   intro h0;obtain⟨h1,h2⟩:=h.find_ok p true h0;obtain⟨x,hx,_⟩:=h1.ae;have h3:=h2 rfl;rw[fC hx] at h3;exact⟨rk,(h.eD hg2 hx h3 h4).mono (Nat.le_succ k)⟩
  split
  ·split
   ·exact zbg
   ·rename_i hp;split
    ·exact zbg
    ·split
     ·split
      ·exact zbg
      ·rename_i h0;exact hfind (Classical.not_not.1 h0)
     ·rename_i hno;exact h.ez (h.ay p (Classical.not_not.1 hp)) (Classical.byContradiction fun e=>hno (.inl e)) fl
  ·split
   ·exact zbg
   ·rename_i h0;exact hfind (Classical.not_not.1 h0)
theorem yL (h:Gd S rk k){dir n:Int}{name:Str}{d x:Nod}(hd:fnd S.ac dir=some d)(hf:fnd d.ab name=some n)(hx:fnd S.ac n=some x):Les (S.take dir name).ac S:=by
 intro c u hu;by_cases hc:c=n
 ·subst hc;have hk:S.kid dir name=c:=by unfold Tre.kid;rw[fC hd,hf];rfl
  unfold Tre.take at hu;rw[hk,fC hx] at hu;have h1:fnd ((S.au dir (Tre.dirTake (S.at_ dir) name)).au c (Tre.nodTake x)).ac c=some (Tre.nodTake x):=by rw[j7,if_pos rfl]
  generalize (S.au dir (Tre.dirTake (S.at_ dir) name)).au c (Tre.nodTake x)=S2 at *;unfold Tre.forget at hu;rw[h1] at hu;dsimp only at hu;split at hu
  ·exfalso;have:fnd (gq S2.ac c) c=none:=by
    exact zbk
   rw[show fnd ({S2 with ac:=gq S2.ac c} : Tre).ac c=fnd (gq S2.ac c) c from rfl,this] at hu;cases hu
  ·rw[h1] at hu;cases hu;exact⟨x,hx,rfl,fun e he=>he⟩
 ·rw[mG hd hf c hc] at hu;by_cases he:c=dir
  ·rw[if_pos he] at hu;cases hu;exact⟨d,by rw[he];exact hd,rfl,fun e he=>(List.mem_filter.1 he).1⟩
  ·rw[if_neg he] at hu;exact⟨u,hu,rfl,fun e he=>he⟩
theorem Gd.rename (h:Gd S rk k)(p q:Str):∃ rk',Gd (S.rename p q).2 rk' (k+1):=by
 have hme:∃ rk',Gd S rk' (k+1):=⟨rk,h.mono (Nat.le_succ k)⟩
 unfold Tre.rename;by_cases hl1:(fx p).2.2≠0
 ·rw[if_pos hl1];exact hme
 rw[if_neg hl1];by_cases hl2:(fx q).2.2≠0
 ·rw[if_pos hl2];exact hme
 rw[if_neg hl2];by_cases hp0:(S.place p).2≠0
 ·rw[if_pos hp0];exact hme
 rw[if_neg hp0];by_cases hn0:(S.place p).1.ae=0
 ·rw[if_pos hn0];exact hme
 rw[if_neg hn0];by_cases hq0:(S.place q).2≠0
 ·rw[if_pos hq0];exact hme
 rw[if_neg hq0];have P:=h.ay p (Classical.not_not.1 hp0);have Q:=h.ay q (Classical.not_not.1 hq0);generalize (S.place p).1=s at *;generalize (S.place q).1=t at *;obtain⟨d,hd,hd2,_,hc,_⟩:=P.dir;have hc:=hc hn0;obtain⟨td,htd,oS,Eg,htc,htn⟩:=Q.dir;obtain⟨_,_,x,hx0,hxe⟩:=(h.ax hd).ai _ (fj hc);have hx:fnd S.ac s.ae=some x:=hx0;clear hx0;dsimp only;rw[fC hx];by_cases hw:x.aa=2∧S.within t.dir s.ae=true
 ·rw[if_pos hw];exact hme
 rw[if_neg hw];by_cases hdp:x.aa=2∧S.deep s.ae (S.way t.dir ++ [t.name])=true
 ·rw[if_pos hdp];exact hme
 rw[if_neg hdp];by_cases hne:t.ae=s.ae
 ·rw[if_pos hne];exact hme
 rw[if_neg hne];have og:x.aa=2→S.within t.dir s.ae=false∧S.deep s.ae (S.way t.dir ++ [t.name])=false:=fun h2=>⟨Bool.eq_false_iff.2 fun e=>hw ⟨h2,e⟩,Bool.eq_false_iff.2 fun e=>hdp ⟨h2,e⟩⟩
 have hparts:(S.way t.dir ++ [t.name]).length=rk t.dir+1:=by
  rw[List.length_append,h.cY _ _ _ htd oS Eg rfl];rfl
 have hst:s.ae≠t.dir:=by
  intro e;have hxt:x=td:=by rw[e,htd] at hx;exact(Option.some.inj hx).symm
  have:=(og (by rw[hxt];exact oS)).1;rw[←e,iW] at this;cases this
 by_cases ht0:t.ae≠0
 ·have htc:=htc ht0;obtain⟨_,_,y,hy0,hye⟩:=(h.ax htd).ai _ (fj htc);have hy:fnd S.ac t.ae=some y:=hy0;rw[fC hy];by_cases c1:t.ae≠0∧x.aa=2∧y.aa≠2
  ·rw[if_pos c1];exact hme
  rw[if_neg c1];by_cases c2:t.ae≠0∧x.aa=2∧0<y.ab.length
  ·rw[if_pos c2];exact hme
  rw[if_neg c2];by_cases c3:t.ae≠0∧x.aa≠2∧y.aa=2
  ·rw[if_pos c3];exact hme
  rw[if_neg c3];dsimp only;rw[if_pos ht0];have hemp:y.aa=2→y.ab = []:=by
   intro h2;by_cases hx2:x.aa=2
   ·have:¬ 0<y.ab.length:=fun e=>c2 ⟨ht0,hx2,e⟩;exact List.eq_nil_of_length_eq_zero (by omega)
   ·exact absurd ⟨ht0,hx2,h2⟩ c3
  have G:=h.take htd htc hy hemp;have Ek:=yL h htd htc hy;have htt:t.dir≠t.ae:=by
   exact zb9
  have hsd:s.dir≠t.ae:=by
   exact zcc
  have f1:=mG htd htc;have hx1:fnd (S.take t.dir t.name).ac s.ae=some x:=by rw[f1 _ (fun e=>hne e.symm),if_neg hst];exact hx
  have ht1:fnd (S.take t.dir t.name).ac t.dir=some (Tre.dirTake td t.name):=by rw[f1 _ htt,if_pos rfl]
  have Fh:fnd (Tre.dirTake td t.name).ab t.name=none:=by
   exact zbk
  obtain⟨d1,hd1,hf1⟩:∃ d1,fnd (S.take t.dir t.name).ac s.dir=some d1∧fnd d1.ab s.name=some s.ae:=by
   rw[f1 _ hsd];by_cases e:s.dir=t.dir
   ·rw[if_pos e];refine⟨_,rfl,?_⟩;have hdt:td=d:=by rw[←e,hd] at htd;exact(Option.some.inj htd).symm
    show fnd (gq td.ab t.name) s.name=_;rw[jF,hdt]
    ·exact hc
    ·intro en;rw[hdt,←en,hc] at htc;exact hne (Option.some.inj htc).symm
   ·rw[if_neg e];exact⟨d,hd,hc⟩
  exact G.mv h Ek hd1 hf1 hx1 ht1 oS Eg Q.name Fh Q.low hparts og
 ·rw[if_neg (fun e=>ht0 e.1),if_neg (fun e=>ht0 e.1),if_neg (fun e=>ht0 e.1)];dsimp only;rw[if_neg ht0];exact h.mv h (fun n u hu=>⟨u,hu,rfl,fun e he=>he⟩) hd hc hx htd oS Eg Q.name (htn (Classical.not_not.1 ht0)) Q.low hparts og
end Go.Proofs.YtmgpgbfgemebbaaGreatDoor
namespace Go.Proofs.YtmgpgbfgemebbaaGreatDoor
open Go.RowKit Go.Own
structure SimN (n:Int) (r:Rn) (x:Nod):Prop where
 aa:r.aa=x.aa
 ab:r.ab=x.ah
 ai:r.ai.Perm x.ab
 sorted:r.ai.Pairwise fun a b=>a.1<b.1
 data:r.data=x.data
 there:x.aa=1→r.there=x.wr++List.replicate (fk x.data.length-x.wr.length) false∧x.wr.length≤fk x.data.length
 aq:r.aq=x.most
 root:n=1→r.am=1
 am:x.above≠0→r.am=x.above
 small:x.aa=1→x.data.length≤20736
structure Sim (R:List Rn) (S:Tre):Prop where
 len:S.last+1=(R.length:Int)
 ae:∀ n x,fnd S.ac n=some x→∃ (i:Nat) (r:Rn),n=(i:Int)∧R[i]? = some r∧SimN n r x
 gone:∀ (i:Nat) r,R[i]? = some r→fnd S.ac (i:Int)=none→r.ab=0∧Tb.holds S.ak (i:Int)=false
 alive:∀ n x,fnd S.ac n=some x→n=1∨x.ah≠0∨Tb.holds S.ak n=true
 wopen:∀ fd s x,Tb.look S.ak fd=some s→fnd S.ac s.ae=some x→fc s.af 32≠0→x.aa=1
theorem AT {κ α:Type} [DecidableEq κ] {a b:List (κ×α)} (h:a.Perm b) (hn:(b.map Prod.fst).Nodup) (k:κ):fnd a k=fnd b k:=by
 cases hf:fnd b k with
 | some v =>
  have h1:=fj hf;exact gf ((h.map Prod.fst).nodup_iff.2 hn) (h.mem_iff.2 h1)
 | none =>
  rw[fU] at hf ⊢;intro hm;exact hf ((h.map Prod.fst).mem_iff.1 hm)
section
variable {R:List Rn} {S:Tre} {rk:Int→Nat} {k:Nat}
theorem Sim.aA (h:Sim R S)(g:Gd S rk k):R.length≤k+2:=by
 have h1:=h.len;have h2:=g.last;omega
theorem Sim.aK (h:Sim R S){i:Nat}{x:Nod}(hx:fnd S.ac (i:Int)=some x):∃ r,R[i]? = some r∧SimN (i:Int) r x:=by
 obtain⟨j,r,e,h1,h2⟩:=h.ae _ _ hx;have:i=j:=by omega
 subst this;exact⟨r,h1,h2⟩
theorem SimN.eF {n:Int}{r:Rn}{x:Nod}(h:SimN n r x)(g:Gd S rk k)(hx:fnd S.ac n=some x)(p:Str):fnd r.ai p=fnd x.ab p:=AT h.ai (g.ax hx).uniq p
theorem SimN.few {n:Int}{r:Rn}{x:Nod}(h:SimN n r x)(g:Gd S rk k)(hx:fnd S.ac n=some x):r.ai.length≤k:=by
 rw[h.ai.length_eq];exact(g.ax hx).size.2.2.1
theorem SimN.up {n:Int}{r:Rn}{x:Nod}(h:SimN n r x)(g:Gd S rk k)(hx:fnd S.ac n=some x)(hk:x.aa=2):(if (0:Int)<r.ab then r.am else n)=S.up n:=by
 unfold Tre.up;rw[fC hx,h.ab];have H:=g.ax hx;by_cases h1:n=1
 ·obtain⟨-,h3,h4,-⟩:=H.root h1;rw[h4,h3,if_pos (by decide),if_pos rfl,h.root h1,h1]
 ·by_cases h0:x.above=0
  ·obtain⟨-,h3⟩:=H.loose (by have:=g.aR hx;exact this) hk h1 h0;rw[h3,h0,if_neg (by decide),if_pos rfl]
  ·obtain⟨-,-,h3,-⟩:=H.above (g.aR hx) h0;rw[h3,if_pos (by decide),if_neg h0,h.am h0]
end
def Rts (q:Nat)(S:Tre):HP:=ex fun g:Nat=>ex fun c:Nat=>ex fun R:List Rn=>sep (l0 (Sim R S)) (Rtb q g c R S.ak)
theorem fh {w:World}{L:List HP}{q:Nat}{S:Tre} : Has w (Rts q S::L)↔∃ g c R,Sim R S∧Has w (Rtb q g c R S.ak::L):=by
 unfold Rts;exact zcu
theorem uP {α:Type} (f:α→Bool):∀ (T:List α) (i:Nat) (s s':α),T[i]? = some s→f s'=f s→(T.set i s').any f=T.any f
 | [],i,s,s',h,_=>by simp
 | a::T,0,s,s',h,e=>by
  simp at h;subst h;simp[e]
 | a::T,i+1,s,s',h,e=>by
  rw[List.set_cons_succ,List.any_cons,List.any_cons,uP f T i s s' (by simpa using h) e]
theorem mK {T:List Tb.Slot}{fd:Int}{s:Tb.Slot}(hl:Tb.look T fd=some s):T[fd.toNat]? = some s∧s.on=true:=by
 unfold Tb.look at hl;split at hl
 ·split at hl
  ·rename_i s' h;split at hl
   ·rename_i hon;cases hl;exact⟨h,hon⟩
   ·cases hl
  ·cases hl
 ·cases hl
theorem qw (T:List Tb.Slot)(fd off:Int)(n:Int):Tb.holds (Tb.aM T fd off).2 n=Tb.holds T n:=by
 unfold Tb.aM;cases hl:Tb.look T fd with
 | none=>rfl
 | some s =>
  dsimp only;split
  ·rfl
  ·exact uP _ T _ s _ (mK hl).1 rfl
theorem q9 {T:List Tb.Slot}{fd:Int}{s:Tb.Slot}(hl:Tb.look T fd=some s):0≤fd∧fd<16:=by
 unfold Tb.look at hl;split at hl
 ·assumption
 ·cases hl
theorem yl {T:List Tb.Slot}{fd off fd':Int}{s:Tb.Slot}(h:Tb.look (Tb.aM T fd off).2 fd'=some s):∃ s',Tb.look T fd'=some s'∧s'.ae=s.ae∧s'.af=s.af:=by
 unfold Tb.aM at h;cases hl:Tb.look T fd with
 | none=>rw[hl] at h;exact⟨s,h,rfl,rfl⟩
 | some s0 =>
  rw[hl] at h;dsimp only at h;split at h
  ·exact⟨s,h,rfl,rfl⟩
  ·obtain⟨h1,h2⟩:=mK h;have h3:=q9 h;have h4:=q9 hl;obtain⟨h5,h6⟩:=mK hl;by_cases e:fd'=fd
   ·subst e;rw[List.getElem?_set_self (List.getElem?_eq_some_iff.1 h5).1] at h1;cases h1;exact⟨s0,hl,rfl,rfl⟩
   ·rw[List.getElem?_set_ne (by omega)] at h1;refine⟨s,?_,rfl,rfl⟩;unfold Tb.look;rw[if_pos h3,h1];simp[h2]
theorem Sim.aM {R:List Rn}{S:Tre}(h:Sim R S)(fd off:Int):Sim R {S with ak:=(Tb.aM S.ak fd off).2} where
 len:=h.len
 ae:=h.ae
 gone i r hr hn:=by
  obtain⟨h1,h2⟩:=h.gone i r hr hn;exact⟨h1,by show Tb.holds (Tb.aM S.ak fd off).2 _=_;rw[qw];exact h2⟩
 alive n x hx:=by
  show _∨_∨Tb.holds (Tb.aM S.ak fd off).2 _=_;rw[qw];exact h.alive n x hx
 wopen fd' s x hl hx hf:=by
  obtain⟨s',h1,h2,h3⟩:=yl hl;exact h.wopen fd' s' x h1 (by rw[h2];exact hx) (by rw[h3];exact hf)
theorem perm_in2 {a b:HP}{M L:List HP} : (a::b::(M++L)).Perm (M++(a::b::L)):=((List.perm_middle.trans (.cons _ List.perm_middle)).symm)
section
variable {w:World} {L:List HP} {q g c:Nat} {R:List Rn} {T:List Tb.Slot} {d:Nat} {x:Rn}
theorem Rtb.thaw (h:Has w (Rtb q g c R T::L))(j:Nat):w.frozen? ⟨g,j,none⟩=false:=(fy.1 h).p1.aE.2.2.1 j
theorem pk {y:Rn}(hx:R[d]? = some x):Has w ((R.set d y).map Rnx++L)↔Has w (Rnx y::((R.eraseIdx d).map Rnx++L)):=by
 have hd:d<R.length:=(List.getElem?_eq_some_iff.1 hx).1;have hp:=(o9 R d hd y).map Rnx;exact zcr
theorem Rtb.cX (h:Has w (Rtb q g c R T::L))(hx:R[d]? = some x)(j:Nat)(hj:j<7)(u:Value)(y:Rn)(hy:y.enc=x.enc.set j u) :
  Has (w.setCell ⟨g,d*7+j,none⟩ u) (pt q (.cells (#[.slice (some ⟨g,0,none⟩) (R.set d y).length c]++Tb.cells T) 98)::row (.slice (some ⟨g,0,none⟩) (R.set d y).length c) 90 7 (R.set d y).length (rnC (R.set d y))::Rnx x::((R.eraseIdx d).map Rnx++L)):=by
 have hd:d<R.length:=(List.getElem?_eq_some_iff.1 hx).1;have h1:=((fy.1 h).p1.aJ (d*7+j) (by omega) u).p1;rw[uN R d x hx j hj u y hy] at h1;rw[List.length_set];have h3:=(kD hx).1 (h1.perm perm_in2);exact(h3.perm (.cons _ perm_in2.symm)).re 3 [1,2,0]
theorem Rtb.di (h:Has w (Rtb q g c R T::L))(hx:R[d]? = some x)(j:Nat)(hj:j<7)(u:Value)(y:Rn)(hy:y.enc=x.enc.set j u)(hn:Rnx y=Rnx x) :
  Has (w.setCell ⟨g,d*7+j,none⟩ u) (Rtb q g c (R.set d y) T::L):=by
 have h1:=Rtb.cX h hx j hj u y hy;refine fy.2 ?_;rw[←hn] at h1;exact((pk hx).2 (h1.p2.perm (.cons _ perm_in2))).perm perm_in2.symm
theorem Rtb.bX (h:Has w (Rtb q g c R T::L))(hx:R[d]? = some x)(n:Int):Has (w.setCell ⟨g,d*7+1,none⟩ (.int .i64 n)) (Rtb q g c (R.set d {x with ab:=n}) T::L):=Rtb.di h hx 1 (by omega) _ _ rfl rfl
theorem Rtb.cH (h:Has w (Rtb q g c R T::L))(hx:R[d]? = some x)(n:Int):Has (w.setCell ⟨g,d*7+2,none⟩ (.int .i64 n)) (Rtb q g c (R.set d {x with am:=n}) T::L):=Rtb.di h hx 2 (by omega) _ _ rfl rfl
theorem Rtb.dx (h:Has w (Rtb q g c R T::L))(hx:R[d]? = some x)(n:Int):Has (w.setCell ⟨g,d*7+3,none⟩ (.int .i64 n)) (Rtb q g c (R.set d {x with aq:=n}) T::L):=Rtb.di h hx 3 (by omega) _ _ rfl rfl
theorem Rtb.putRow {y:Rn}{A:HP}(h:Has w (A::Rtb q g c R T::L))(hx:R[d]? = some x)(j:Nat)(hj:j<7)(u:Value)(hy:y.enc=x.enc.set j u)(hn:∀ w' L',Has w' (A::Rnx x::L')→Has w' (Rnx y::L')) :
  Has (w.setCell ⟨g,d*7+j,none⟩ u) (Rtb q g c (R.set d y) T::L):=by
 have h1:=Rtb.cX h.p1 hx j hj u y hy;refine fy.2 ?_;have h2:=hn _ _ (h1.p2.perm (.cons _ (.cons _ (.cons _ List.perm_middle)))).p3;exact((pk hx).2 (h2.perm (.cons _ perm_in2))).perm perm_in2.symm
theorem Rtb.cB {v:Value}{es:List (Str×Int)}(h:Has w (Ents v es::Rtb q g c R T::L))(hx:R[d]? = some x):Has (w.setCell ⟨g,d*7+4,none⟩ v) (Rtb q g c (R.set d {x with ai:=es,ev:=v}) T::L) :=
 Rtb.putRow h hx 4 (by omega) v rfl fun w' L' h'=>gU.2 ((gU.1 h'.p1).re 4 [3,1,2])
theorem Rtb.cF {v:Value}{xs:List Int}(h:Has w (Bytes v xs::Rtb q g c R T::L))(hx:R[d]? = some x):Has (w.setCell ⟨g,d*7+5,none⟩ v) (Rtb q g c (R.set d {x with data:=xs,dv:=v,fz:=false}) T::L) :=
 Rtb.putRow h hx 5 (by omega) v rfl fun w' L' h'=>gU.2 ((gU.1 h'.p1).re 4 [0,3,2])
theorem Rtb.cQ {v:Value}{bs:List Bool}(h:Has w (Bools v bs::Rtb q g c R T::L))(hx:R[d]? = some x):Has (w.setCell ⟨g,d*7+6,none⟩ v) (Rtb q g c (R.set d {x with there:=bs,tv:=v}) T::L) :=
 Rtb.putRow h hx 6 (by omega) v rfl fun w' L' h'=>gU.2 ((gU.1 h'.p1).re 4 [0,1,3])
end
end Go.Proofs.YtmgpgbfgemebbaaGreatDoor
namespace Go.Own
open Go.RowKit
section
variable {w:World} {l:List HP} {e:TypeId} {n cap g off m:Nat} {xs ys:List Value}
theorem Has.dq {P:Program}(hO:Has w (row (.slice (some ⟨g,0,none⟩) n cap) e 1 n xs::l))(dT sT ty:TypeId)(hu:P.underlying dT=some (.slice e))(hsz:(P.info? e).map (·.size)=some 1)
  (dn dc c:Nat) (sp:Option Addr) (hr:Rd w (.slice sp m c) 1 m ys) (h1:∀ u∈ys,u.oneCell'=true) (hfit:off+min m dn≤n) :
  ∃ w',(Builtin.copy_ #[dT,sT] ty #[.slice (some ⟨g,off,none⟩) dn dc,.slice sp m c]).run P w=.ok (goInt ((min m dn:Nat):Int)) w'∧Has w' (row (.slice (some ⟨g,0,none⟩) n cap) e 1 n (xs.take off++ys.take (min m dn)++xs.drop (off+min m dn))::l)∧Keep w w':=by
 obtain⟨hxl,h|⟨g',cap',cur,e1,h2,h3,h4,h5,hp⟩⟩:=hO.ao
 ·exact absurd h.1 (by simp)
 simp only[Value.slice.injEq,Option.some.injEq,Addr.mk.injEq] at e1;obtain⟨⟨rfl,-,-⟩,-,rfl⟩:=e1;obtain⟨hyl,-,p,cap2,e2,-,hcs⟩:=hr;cases e2;rw[Nat.mul_one] at hyl h4 h5 hxl;by_cases hz:min m dn=0
 ·refine⟨w,?_,?_,Keep.refl w⟩
  ·have:=run_copy_none (P:=P) w dT sT ty e (some ⟨g,off,none⟩) sp dn dc m c hu hsz hz;rw[hz];exact this
  ·rw[hz];simpa using hO
 ·obtain⟨g2,o2,rfl,hc2⟩:=hcs (by omega);have hl:(ys.take (min m dn)).length=Nat.min m dn:=by rw[List.length_take,hyl];show min (min m dn) m=min m dn;omega
  have hr:=run_copy_row (P:=P) w dT sT ty e g off dn dc ⟨g2,o2,none⟩ m c cur e (ys.take (min m dn)) hu hsz hp.lookup hl (by
   intro j v hj;have hjl:j<(ys.take (min m dn)).length:=(List.getElem?_eq_some_iff.1 hj).1;rw[hl] at hjl;have hjm:j<min m dn:=hjl;rw[List.getElem?_take,if_pos hjm] at hj;rw[i6,hc2 j (by omega),hj]) (by rw[hl];show off+min m dn≤_;omega) (fun v hv=>h1 v (List.mem_of_mem_take hv))
  refine⟨w.setRow g (cur.toList.take off++ys.take (min m dn)++cur.toList.drop (off+min m dn)).toArray,by rw[hr,hl],?_,⟨rfl,rfl,rfl,by simp[World.setRow]⟩⟩;refine(hp.turn (fun k _ hk=>setRow_other w g k _ hk) (setRow_heap w g cur _ e _ hp.lookup)).row_of h2 h3 ?_ ?_ ?_
  ·simp only[List.size_toArray,List.length_append,List.length_take,List.length_drop,Array.length_toList];omega
  ·rw[Nat.mul_one];show (cur.toList.take off++ys.take (min m dn)++cur.toList.drop (off+min m dn)).take n=_;have hcl:n≤cur.toList.length:=by simp;omega
   have hA:(cur.toList.take off++ys.take (min m dn)).length=off+min m dn:=by
    simp only[List.length_append,List.length_take];omega
   rw[List.take_append,List.take_of_length_le (by rw[hA];exact hfit),hA,←h5,List.take_take,Nat.min_eq_left (show off≤n by omega),List.drop_take]
  ·simp only[List.length_append,List.length_take,List.length_drop];omega
theorem uO {P:Program}{o:Oper}{a:Act}{K:Act→World→Prop}{Q:Exit→Act→World→Prop}(d s:Operand)(dT sT:TypeId)
  (ho:o.op=.call {callee := .builtin .copy,args:=#[d,s],argTypes:=#[dT,sT]}) (hu:P.underlying dT=some (.slice e)) (hsz:(P.info? e).map (·.size)=some 1)
  (hO:Has w (row (.slice (some ⟨g,0,none⟩) n cap) e 1 n xs::l)) (dn dc c:Nat) (sp:Option Addr) (hd:a.eval d=.slice (some ⟨g,off,none⟩) dn dc) (hs:a.eval s=.slice sp m c)
  (hr:Rd w (.slice sp m c) 1 m ys) (h1:∀ u∈ys,u.oneCell'=true) (hfit:off+min m dn≤n)
  (h:∀ w',Has w' (row (.slice (some ⟨g,0,none⟩) n cap) e 1 n (xs.take off++ys.take (min m dn)++xs.drop (off+min m dn))::l)→Keep w w'→K (a.put o.dst (goInt ((min m dn:Nat):Int))) w'):o.wp P a w K Q:=by
 obtain⟨w',hrun,h2,h3⟩:=hO.dq (P:=P) dT sT o.type hu hsz dn dc c sp hr h1 hfit;unfold Oper.wp execOp;simp only[ho,resolve,invoke,builtin,Sem.run_bind,Sem.run_pure,Result.andThen_ok,List.map_toArray,List.map_cons,List.map_nil,hd,hs,hrun];exact h w' h2 h3
theorem sq {P:Program}{ops:Array Oper}{rest:List Oper}{o:Oper}{a:Act}{Q:Exit→Act→World→Prop}(hgd:o.guard=none)(d s:Operand)(dT sT:TypeId)
  (ho:o.op=.call {callee := .builtin .copy,args:=#[d,s],argTypes:=#[dT,sT]}) (hu:P.underlying dT=some (.slice e)) (hsz:(P.info? e).map (·.size)=some 1)
  (hO:Has w (row (.slice (some ⟨g,0,none⟩) n cap) e 1 n xs::l)) (dn dc c:Nat) (sp:Option Addr) (hd:a.eval d=.slice (some ⟨g,off,none⟩) dn dc) (hs:a.eval s=.slice sp m c)
  (hr:Rd w (.slice sp m c) 1 m ys) (h1:∀ u∈ys,u.oneCell'=true) (hfit:off+min m dn≤n)
  (h:∀ w',Has w' (row (.slice (some ⟨g,0,none⟩) n cap) e 1 n (xs.take off++ys.take (min m dn)++xs.drop (off+min m dn))::l)→Keep w w'→wpList P ops Q rest (a.put o.dst (goInt ((min m dn:Nat):Int))) w'):wpList P ops Q (o::rest) a w :=
 wpList_plain hgd fun _ hK=>uO d s dT sT ho hu hsz hO dn dc c sp hd hs hr h1 hfit fun w' h2 h3=>hK _ _ (h w' h2 h3)
end
end Go.Own
namespace Go.Proofs.YtmgpgbfgemebbaaGreatDoor
open Go.RowKit Go.Own
theorem Hj (n:Nat)(w:World)(hn:n≤1000000):zCl 191 #[.int .i64 (n:Int)] w fun e w'=>e=.returned (.int .i64 (fk n:Int))∧w=w':=by
 have hni:(n:Int)≤1000000:=by omega
 have hn0:(0:Int)≤(n:Int):=by omega
 by_cases h1:n<1
 ·have h1i:(n:Int)<1:=by omega
  have HR:=hid (by unfold fk;rw[if_neg (by omega),show n=0 by omega];rfl:(fk n:Int)=0);go_enter Tryz.func191,Tryz.ntmps191
  exact zcS
 ·have h1i:¬ (n:Int)<1:=by omega
  by_cases h2:20736≤n
  ·have OB:(20736:Int)≤(n:Int):=by omega
   have HR:=hid (by unfold fk;rw[if_pos h2];rfl:(fk n:Int)=162);go_enter Tryz.func191,Tryz.ntmps191
   exact zcS
  ·have OB:¬ (20736:Int)≤(n:Int):=by omega
   have HR:=hid (show (fk n:Int)=((n:Int)+128-1) / 128 from by
    unfold fk;rw[if_neg h2];omega)
   go_enter Tryz.func191,Tryz.ntmps191
   exact zcS
def Rn.dat (x:Rn)(xs:List Int)(dv:Value):Rn:={x with data:=xs,dv:=dv,fz:=false}
def kO (xs:List Int)(size:Nat):List Int:=if size≤xs.length then xs.take size else xs++List.replicate (size-xs.length) 0
def mL (bs:List Bool)(m:Nat):List Bool:=bs.take m++List.replicate (m-bs.length) false
theorem jt (xs:List Int)(size:Nat):(kO xs size).length=size:=by
 unfold kO;split
 ·rw[List.length_take];omega
 ·rw[List.length_append,List.length_replicate];omega
theorem pj (bs:List Bool)(m:Nat):(mL bs m).length=m:=by
 unfold mL;rw[List.length_append,List.length_take,List.length_replicate];omega
theorem zH (bs:List Bool)(m:Nat):(mL bs m).map Value.bool=(List.replicate m (Value.bool false)).take 0++(bs.map Value.bool).take (min bs.length m)++(List.replicate m (Value.bool false)).drop (0+min bs.length m):=by
 unfold mL;rw[List.take_zero,List.nil_append,Nat.zero_add,List.drop_replicate,List.map_append,List.map_replicate,List.map_take];congr 1
 ·by_cases h:bs.length≤m
  ·rw[Nat.min_eq_left h,List.take_of_length_le (by simp;omega),List.take_of_length_le (by simp)]
  ·rw[Nat.min_eq_right (by omega)]
 ·congr 1;omega
def Rn.sized (x:Rn)(size:Nat)(dv tv:Value):Rn:={x with data:=kO x.data size,there:=mL x.there (fk size),dv:=dv,tv:=tv,fz:=false}
theorem AJ (xs:List Int)(k:Nat):(bc xs).take k=bc (xs.take k):=by simp[bc,List.map_take]
theorem rV (q g c:Nat)(R:List Rn)(T:List Tb.Slot)(n:Nat)(x:Rn)(size:Nat)(w:World)(L:List HP)(hx:R[n]? = some x)(hd:x.data.length≤100000)(hth:x.there.length≤100000)(hs:size≤100000)(hR:R.length≤100000)(hO:Has w (Rtb q g c R T::L)) :
  zCl 133 #[.pointer (some ⟨q,0,none⟩),.int .i64 (n:Int),.int .i64 (size:Int)] w fun e w'=>e=.returned (.tuple #[])∧(∃ dv tv,Has w' (Rtb q g c (R.set n (x.sized size dv tv)) T::L))∧Keep w w':=by
 have hq:=Rtb.nv hO;obtain⟨-,-,-,-,-,c5,-⟩:=Rtb.at_ hO hx;obtain⟨pd,cd,hdv,hcap,-⟩:=(Rtb.aO hO hx).2.1.form;rw[hdv] at c5;have hnl:n<R.length:=(List.getElem?_eq_some_iff.1 hx).1;have hn0:(0:Int)≤(n:Int):=by omega
 have hn1:(n:Int)<(R.length:Int):=by omega
 have hrl:(R.length:Int)≤100000:=by omega
 have hsi:(size:Int)≤100000:=by omega
 have hs0:(0:Int)≤(size:Int):=by omega
 have hdi:(x.data.length:Int)≤100000:=by omega
 have M5:(x.data.length:Int)≤(cd:Int):=by omega
 have ht:=Rtb.thaw hO (n*7+5);have HX:=hid hx;have HD:=hid hd;have lr:=hid hth;have HS:=hid hs;have HR:=hid hR;have vC:=hid hnl;have HO:=hid hO;have ir:=hid (fun(w:World)(L':List HP)(h:Has w (Rtb q g c R T::L'))=>(by have:=(Rtb.aO h hx).2.1;rw[hdv] at this;exact this:Rd w (.slice pd x.data.length cd) 1 x.data.length (bc x.data)));have HN:=hid (fun w=>Hj size w (by omega));have lg:=hid (by unfold fk;split <;> omega:fk size≤100000);have OM:(fk size:Int)≤100000:=by have:=lg.out;omega
 generalize hnm:fk size=nm at *;have Bd:=hid hnm;clear hnm;have Fg:=hid hdv;clear hx hd hth hs hR hO hdv hcap hnl;go_enter Tryz.func133,Tryz.ntmps133
 go_upto_if 20 with fail
 go_cut [6] (fun v wx=>v=.pointer (some ⟨g,n*7,none⟩)∧∃ (dv:Value) (w2:World),w2=wx∧Hid (Has w2 (Rtb q g c (R.set n (x.dat (kO x.data size) dv)) T::L))∧Hid (Keep w w2))
 case first =>
  by_cases hle:size≤x.data.length
  ·have Ma:(size:Int)≤(x.data.length:Int):=by omega
   have hci:(size:Int)≤(cd:Int):=by omega
   have Fa:=hid (show Rd w (.slice pd size cd) 1 size (bc (x.data.take size)) from by
    have h:=(ir.out w L HO.out).bp size hle;rw[Nat.mul_one,AJ] at h;exact h)
   have yj:=hid hle;have Ad:=hid (by rw[List.length_take];omega:(x.data.take size).length=size);clear hle;go_wp2_with (at_builtin;refine fY rfl _ _ _ rfl Tryz.underlying31 ju rfl (by decide) (HO.out.al 5 1) rfl _ size (bc (x.data.take size)) rfl Fa.out (kA _) (eU (by have:=HS.out;omega)) (by have:=HS.out;omega) ?_;intro v' w' kC hK';have hB:Has w' (Bytes v' (x.data.take size)::Rtb q g c R T::L):=(by unfold Bytes;rw[Ad.out];rw[Nat.zero_add,List.nil_append] at kC;exact kC);obtain⟨pz,cz,D6,-⟩:=(Bytes.rd hB).form;rw[Ad.out] at D6;subst D6;have oc:=hid hB;have qy:=hid ((Keep.refl w).trans hK');have hc':w'.cell? ⟨g,n*7+5,none⟩=some (.slice pd x.data.length cd):=(by have h:=(Rtb.at_ hB.drop HX.out).2.2.2.2.2.1;rw[Fg.out] at h;exact h);have ht':=Rtb.thaw hB.drop (n*7+5);clear kC hB hK')
   go_meet
   have eZ:=hid (Rtb.cF oc.out HX.out);refine⟨rfl,.slice pz size cz,_,rfl,hid ?_,hid (qy.out.set _ _)⟩;unfold Rn.dat kO;rw[if_pos yj.out];exact eZ.out
  ·have hgt:x.data.length<size:=by omega
   have Ma:¬ (size:Int)≤(x.data.length:Int):=by omega
   obtain⟨m,hm⟩:∃ m,size=x.data.length+m:=⟨size-x.data.length,by omega⟩
   have HM:=hid hm;have JZ:IntKind.i64.wrap (m:Int)=(m:Int):=ft _ (by omega);have PD:(size:Int)-(x.data.length:Int)=(m:Int):=by omega
   have yj:=hid hle;clear hle hgt hm;go_upto_region 3 with fail
   have gC:=hid HO.out.drew;have iG:=hid (Keep.refl w).drew;refine fT (fun w'=>w'.cell? ⟨g,n*7+5,none⟩=some (.slice pd x.data.length cd)∧True) (by kernel_rfl) (by kernel_rfl) (by kernel_rfl) (by decide) ⟨c5,trivial⟩ ?_;have FK:=hid (fun(w:World)(L':List HP)(h:Has w (Rtb q g c R T::L'))=>(by have h1:=(Rtb.at_ h HX.out).2.2.2.2.2.1;rw[Fg.out] at h1;exact h1:w.cell? ⟨g,n*7+5,none⟩=some (.slice pd x.data.length cd)));clear hq c5 ht;generalize w.drew=wd at *;repeat (first|refine wr2 ?_|refine wk ?_)
   refine wa fun K hK=>?_;refine fV (.const (.slice none 0 0)) (.tmp 35) 31 rfl Tryz.underlying31 ju rfl (by decide) (gC.out.al 5 1) (by rfl) _ x.data.length _ (by rfl) (ir.out _ _ gC.out) (kA _) (eU (by have:=HD.out;omega)) (by have:=HD.out;omega) fun v5 w5 h5 hk5=>?_;have fi:=hid h5;have ge:=hid (iG.out.trans hk5);clear h5 hk5;refine hK.out _ _ ⟨FK.out _ _ fi.out.drop,trivial⟩ ?_;clear hK K;try simp only[Act.put,zpu]
   repeat (first|refine wr2 ?_|refine wk ?_)
   refine wa fun K hK=>?_;refine pG (.tmp 36) (.tmp 43) 31 3 rfl Tryz.underlying31 Tryz.underlying3 ju rfl rfl fi.out (by rfl) m (by rfl) (eU (by have:=HD.out;have:=HM.out;have:=HS.out;omega)) (by have:=HD.out;have:=HM.out;have:=HS.out;omega) fun v6 w6 h6 hk6=>?_;have fq:=hid (show Has w6 (Bytes v6 (kO x.data size)::Rtb q g c R T::L) from by
    unfold Bytes;rw[jt];unfold kO;rw[if_neg yj.out];rw[Nat.zero_add,List.nil_append] at h6;have e1:size-x.data.length=m:=by have:=HM.out;omega
    rw[e1,HM.out];have e2:bc (x.data++List.replicate m 0)=bc x.data++List.replicate m (.int .u8 0):=by simp[bc]
    rw[e2];exact h6)
   have gu:=hid (ge.out.trans hk6);clear h6 hk6;obtain⟨pz,cz,D6,-⟩:=(Bytes.rd fq.out).form;rw[jt] at D6;subst D6;refine hK.out _ _ ⟨FK.out _ _ fq.out.drop,trivial⟩ ?_;clear hK K;try simp only[Act.put,zpu]
   repeat (first|refine wr2 ?_|refine wk ?_)
   have hc6:=FK.out _ _ fq.out.drop;have Qo:=Rtb.thaw fq.out.drop (n*7+5);refine eR ?_;refine gI rfl (by rfl) ?_;go_simp
   have fP:=hid (Rtb.cF fq.out HX.out);go_wp2_with fail
   go_meet
   exact⟨rfl,.slice pz size cz,_,rfl,fP,hid (gu.out.set _ _)⟩
 case rest =>
  obtain⟨rfl,dv,w2,rfl,eZ,fu⟩:=hcut;clear hq c5 ht HO;obtain⟨x1,hx1⟩:∃ x1,x.dat (kO x.data size) dv=x1:=⟨_,rfl⟩
  obtain⟨R1,hR1⟩:∃ R1,R.set n x1=R1:=⟨_,rfl⟩
  have hxx:R1[n]? = some x1:=by rw[←hR1,List.getElem?_set_self vC.out]
  rw[hx1,hR1] at eZ;have hb1:x1.there=x.there:=by rw[←hx1];rfl
  have Ad:=hid (by rw[hb1];exact lr.out:x1.there.length≤100000);obtain⟨-,-,-,-,-,-,c6⟩:=Rtb.at_ eZ.out hxx;obtain⟨pt,ct,oe,-⟩:=(Rtb.aO eZ.out hxx).2.2.form;rw[oe] at c6;have JL:=hid oe;have KB:=hid hxx;have r6:=hid hx1;have HR1:=hid hR1;have HB1:=hid hb1;clear oe hxx hx1 hR1 hb1;have HC:=hid (fun(w:World)(L':List HP)(h:Has w (Rtb q g c R1 T::L'))=>(by have h1:=(Rtb.at_ h KB.out).2.2.2.2.2.2;rw[JL.out] at h1;exact h1:w.cell? ⟨g,n*7+6,none⟩=some (.slice pt x1.there.length ct)));have Fa:=hid (fun(w:World)(L':List HP)(h:Has w (Rtb q g c R1 T::L'))=>(by have:=(Rtb.aO h KB.out).2.2;rw[JL.out] at this;exact this:Rd w (.slice pt x1.there.length ct) 1 x1.there.length (x1.there.map Value.bool)));have htl:(x1.there.length:Int)≤100000:=by have:=Ad.out;omega
  have hmk:=Go.Own.run_make_row (P:=Tryz.prog) w2 80 Tryz.underlying80 pg rfl .i64 .i64 nm (by have:=lg.out;omega) (eU (by have:=lg.out;omega));go_wp2_with fail
  refine(HN.out w2).mono ?_;rintro e w' ⟨rfl,rfl⟩;try dsimp only
  go_upto_region 5 with fail
  have h3:=eZ.out.cZ (e:=4) (z := .bool false) (k:=nm) (eU (by have:=lg.out;omega));rw[List.toArray_replicate] at h3;have eW:=hid h3;clear h3;have fH:=hid (fu.out.alloc (.cells (Array.replicate nm (Value.bool false)) 4));clear hmk c6 eZ fu;generalize w2.alloc (.cells (Array.replicate nm (Value.bool false)) 4)=w3 at *;generalize w2.heap.size=gt at *;have hc6:=HC.out _ _ eW.out.drop;go_upto_region 6 with (with_reducible refine sq rfl _ _ _ _ rfl Tryz.underlying80 (by kernel_rfl) eW.out nm nm ct pt rfl rfl (Fa.out _ _ eW.out.drop) (Bb _) (by omega) ?_;intro w4 hO4 hK4;have fg:=hid hO4;have fO:=hid (fH.out.trans hK4);clear hO4 hK4)
  have fi:=hid (show Has w4 (Bools (.slice (some ⟨gt,0,none⟩) nm nm) (mL x1.there nm)::Rtb q g c R1 T::L) from by
   unfold Bools;rw[pj,zH];exact fg.out)
  have Qa:=HC.out _ _ fi.out.drop;have P8:=Rtb.thaw fi.out.drop (n*7+6);have fq:=hid (Rtb.cQ fi.out KB.out);go_wp2_with fail
  go_end0
  refine⟨rfl,⟨dv,.slice (some ⟨gt,0,none⟩) nm nm,?_⟩,fO.out.set _ _⟩;have h:=fq.out;rw[←HR1.out,List.set_set,HB1.out,←r6.out] at h;unfold Rn.sized;rw[Bd.out];exact h
theorem tg:∀ (R:List Rn) (d:Nat) (x y:Rn),R[d]? = some x→y.enc=x.enc→rnC (R.set d y)=rnC R
 | e::r,0,x,y,h,hy=>by
  simp at h;subst h;simp[rnC,hy]
 | e::r,d+1,x,y,h,hy=>by
  have:=tg r d x y (by simpa using h) hy;simp[rnC,this]
theorem Rtb.upd {w w':World}{L:List HP}{q g c:Nat}{R:List Rn}{T:List Tb.Slot}{d:Nat}{x y:Rn}(h:Has w (Rtb q g c R T::L))(hx:R[d]? = some x)(hy:y.enc=x.enc)(hw:∀ L',Has w (Rnx x::L')→Has w' (Rnx y::L')):Has w' (Rtb q g c (R.set d y) T::L):=by
 refine fy.2 ?_;rw[tg R d x y hx hy,List.length_set];have h1:=hw _ ((kD hx).1 ((fy.1 h).perm perm_in2));exact((pk hx).2 h1).perm perm_in2.symm
theorem Rtb.du {w:World}{L:List HP}{q g c:Nat}{R:List Rn}{T:List Tb.Slot}{d:Nat}{x:Rn}(h:Has w (Rtb q g c R T::L))(hx:R[d]? = some x)(hz:x.fz=false){gd n cd:Nat}(hd:x.dv=.slice (some ⟨gd,0,none⟩) n cd)(j:Nat)(hj:j<x.data.length)(v:Int) :
  Has (w.setCell ⟨gd,j,none⟩ (.int .u8 v)) (Rtb q g c (R.set d {x with data:=x.data.set j v}) T::L) :=
 Rtb.upd h hx rfl fun L' h'=>by
  have h1:=(gU.1 h').p1;unfold Rdt at h1;rw[hz,if_neg (by decide),hd] at h1;have h2:=Has.aJ h1 j (by omega) (.int .u8 v);refine gU.2 ?_;unfold Rdt;show Has _ (Ents x.ev x.ai::(if x.fz=true then Frz x.dv (x.data.set j v) else Bytes x.dv (x.data.set j v))::Bools x.tv x.there::L');rw[hz,if_neg (by decide),hd];have e:(bc x.data).set j (.int .u8 v)=bc (x.data.set j v):=by simp[bc,List.map_set]
  rw[e] at h2;unfold Bytes;rw[List.length_set];exact Has.p1 h2
theorem Rtb.el {w:World}{L:List HP}{q g c:Nat}{R:List Rn}{T:List Tb.Slot}{d:Nat}{x:Rn}(h:Has w (Rtb q g c R T::L))(hx:R[d]? = some x){gd n cd:Nat}(hd:x.tv=.slice (some ⟨gd,0,none⟩) n cd)(j:Nat)(hj:j<x.there.length)(v:Bool) :
  Has (w.setCell ⟨gd,j,none⟩ (.bool v)) (Rtb q g c (R.set d {x with there:=x.there.set j v}) T::L) :=
 Rtb.upd h hx rfl fun L' h'=>by
  have h1:=(gU.1 h').p2;rw[hd] at h1;have h2:=Has.aJ h1 j (by omega) (.bool v);refine gU.2 ?_;show Has _ (Ents x.ev x.ai::Rdt x.fz x.dv x.data::Bools x.tv (x.there.set j v)::L');rw[hd];have e:(x.there.map Value.bool).set j (.bool v)=(x.there.set j v).map Value.bool:=by simp[List.map_set]
  rw[e] at h2;unfold Bools;rw[List.length_set];exact Has.b2 h2
theorem Rtb.bS {w:World}{L:List HP}{q g c:Nat}{R:List Rn}{T:List Tb.Slot}{d:Nat}{x:Rn}(h:Has w (Rtb q g c R T::L))(hx:R[d]? = some x)(hz:x.fz=false)(h0:0<x.data.length):∃ gd cd,x.dv=.slice (some ⟨gd,0,none⟩) x.data.length cd∧∀ j,w.frozen? ⟨gd,j,none⟩=false∧(∀ hj:j<x.data.length,w.cell? ⟨gd,j,none⟩=some (.int .u8 x.data[j])):=by
 have h1:=(gU.1 ((kD (L:=L) hx).1 ((fy.1 h).drop.drop))).drop;unfold Rdt at h1;rw[hz,if_neg (by decide)] at h1;obtain⟨-,h2|⟨gd,cd,cur,hv,-⟩⟩:=Has.ao h1
 ·exact absurd h2.2.1 (by omega)
 ·refine⟨gd,cd,hv,fun j=>?_⟩;rw[hv] at h1;obtain⟨-,h3,h4,-⟩:=Has.aE h1;refine⟨h4 j,fun hj=>?_⟩;rw[h3 j (by omega)];exact sJ _ _ hj
theorem Rtb.bH {w:World}{L:List HP}{q g c:Nat}{R:List Rn}{T:List Tb.Slot}{d:Nat}{x:Rn}(h:Has w (Rtb q g c R T::L))(hx:R[d]? = some x)(h0:0<x.there.length):∃ gd cd,x.tv=.slice (some ⟨gd,0,none⟩) x.there.length cd∧∀ j,w.frozen? ⟨gd,j,none⟩=false∧(∀ hj:j<x.there.length,w.cell? ⟨gd,j,none⟩=some (.bool x.there[j])):=by
 have h1:=(gU.1 ((kD (L:=L) hx).1 ((fy.1 h).drop.drop))).drop.drop;obtain⟨-,h2|⟨gd,cd,cur,hv,-⟩⟩:=Has.ao h1
 ·exact absurd h2.2.1 (by omega)
 ·refine⟨gd,cd,hv,fun j=>?_⟩;rw[hv] at h1;obtain⟨-,h3,h4,-⟩:=Has.aE h1;refine⟨h4 j,fun hj=>?_⟩;rw[h3 j (by omega)];simp[hj]
def oh (d:List Int)(off:Nat)(bs:List Int):Nat→List Int
 | 0=>d
 | k+1=>(oh d off bs k).set (off+k) (bs[k]?.getD 0)
def om (t:List Bool)(off:Nat):Nat→List Bool
 | 0=>t
 | k+1=>(om t off k).set ((off+k) / 128) true
theorem AK (d:List Int)(off:Nat)(bs:List Int)(k:Nat):(oh d off bs k).length=d.length:=by
 induction k with
 | zero=>rfl
 | succ k ih=>rw[oh,List.length_set,ih]
theorem yH (t:List Bool)(off:Nat)(k:Nat):(om t off k).length=t.length:=by
 induction k with
 | zero=>rfl
 | succ k ih=>rw[om,List.length_set,ih]
def Rn.wrote (x:Rn)(off:Nat)(bs:List Int)(dv tv:Value):Rn:={x with data:=oh (kO x.data (max x.data.length (off+bs.length))) off bs bs.length,there:=om (mL x.there (fk (max x.data.length (off+bs.length)))) off bs.length,dv:=dv,tv:=tv,fz:=false}
def Rn.upTo (y:Rn)(off:Nat)(bs:List Int)(k:Nat):Rn:={y with data:=oh y.data off bs k,there:=om y.there off k}
theorem vK (q g c:Nat)(R:List Rn)(T:List Tb.Slot)(n:Nat)(x:Rn)(off:Nat)(bv:Value)(bs:List Int)(w:World)(L:List HP)(hx:R[n]? = some x)(hd:x.data.length≤20736)(hth:x.there.length≤30000)(hs:off+bs.length≤20736)(h0:0<bs.length)(hR:R.length≤100000)(hb:∀ w',Has w' L→Rd w' bv 1 bs.length (bc bs))(hO:Has w (Rtb q g c R T::L)) :
  zCl 135 #[.pointer (some ⟨q,0,none⟩),.int .i64 (n:Int),.int .i64 (off:Int),bv] w fun e w'=>e=.returned (.tuple #[])∧(∃ dv tv,Has w' (Rtb q g c (R.set n (x.wrote off bs dv tv)) T::L))∧Keep w w':=by
 obtain⟨sz,hsz⟩:∃ sz,max x.data.length (off+bs.length)=sz:=⟨_,rfl⟩
 have hmx:max (x.data.length:Int) ((off:Int)+(bs.length:Int))=(sz:Int):=by omega
 have hsz1:sz≤20736:=by omega
 have hsz0:off+bs.length≤sz:=by omega
 have Ny:off+bs.length≤fk sz*128:=by unfold fk;split <;> omega
 have DC:=hid (rV q g c R T n x sz w L hx (by omega) (by omega) (by omega) hR hO);have hq:=Rtb.nv hO;obtain⟨-,-,-,-,-,c5,-⟩:=Rtb.at_ hO hx;obtain⟨pd,cd,hdv,-⟩:=(Rtb.aO hO hx).2.1.form;rw[hdv] at c5;obtain⟨pb,cb,rfl,-⟩:=(hb w hO.drop).form;have hnl:n<R.length:=(List.getElem?_eq_some_iff.1 hx).1;have hn0:(0:Int)≤(n:Int):=by omega
 have hn1:(n:Int)<(R.length:Int):=by omega
 have hrl:(R.length:Int)≤100000:=by omega
 have hdi:(x.data.length:Int)≤20736:=by omega
 have hoi:(off:Int)+(bs.length:Int)≤20736:=by omega
 have hof:(0:Int)≤(off:Int):=by omega
 have hbl:(bs.length:Int)≤20736:=by omega
 have HX:=hid hx;have ql:=hid hsz;have MZ:=hid Ny;have rG:=hid hsz1;have xZ:=hid hsz0;have HB:=hid hb;have H0:=hid h0;have vC:=hid hnl;clear hx hd hth hs h0 hR hb hO hdv hnl hsz Ny hsz1 hsz0;go_enter Tryz.func135,Tryz.ntmps135
 go_wp2_with fail
 refine st (DC.out) (Keep.refl w) fun w1 eT ff=>?_;try dsimp only
 obtain⟨dv,tv,hO2⟩:=eT.out;obtain⟨y,hy⟩:∃ y,x.sized sz dv tv=y:=⟨_,rfl⟩
 rw[hy] at hO2;have HY:=hid hy;have DU:=hid (by rw[←hy];exact⟨rfl,jt _ _,pj _ _,rfl,rfl⟩:y.fz=false∧y.data.length=sz∧y.there.length=fk sz∧y.dv=dv∧y.tv=tv);have B7:(R.set n y)[n]? = some y:=List.getElem?_set_self vC.out;obtain⟨gd,cd2,hdv,-⟩:=Rtb.bS hO2 B7 DU.out.1 (by have:=DU.out.2.1;have:=xZ.out;have:=H0.out;omega);obtain⟨gt,ct2,oe,-⟩:=Rtb.bH hO2 B7 (by have:=DU.out.2.2.1;have:=MZ.out;have:=H0.out;omega);have Fg:=hid hdv;have JL:=hid oe;have eZ:=hid hO2;clear hq c5 hO2 eT hy B7 hdv oe DC;go_wp2_with fail
 go_loopw [8] (fun i w'=>∃ k:Nat,k≤bs.length∧i=.int .i64 k∧Hid (Has w' (Rtb q g c (R.set n (y.upTo off bs k)) T::L))∧Hid (Keep w w')) (fun i _=>bs.length-(intOf i).toNat)
 case atStart=>exact⟨0,by omega,rfl,eZ,ff⟩
 case round =>
  clear eZ ff;obtain⟨k,hk,rfl,HO,HK⟩:=hrel;have hk0:(0:Int)≤(k:Int):=by omega
  by_cases hlt:k<bs.length
  ·have hki:(k:Int)<(bs.length:Int):=by omega
   obtain⟨z,hz⟩:∃ z,y.upTo off bs k=z:=⟨_,rfl⟩
   have ye:=HO.out;rw[hz] at ye;have hzz:(R.set n z)[n]? = some z:=List.getElem?_set_self vC.out;have hzd:z.dv=.slice (some ⟨gd,0,none⟩) y.data.length cd2:=by rw[←hz];exact Fg.out
   have KC:z.tv=.slice (some ⟨gt,0,none⟩) y.there.length ct2:=by rw[←hz];exact JL.out
   have Lt:z.fz=false:=by rw[←hz];exact DU.out.1
   have hzl:z.data.length=sz:=by rw[←hz];show (oh y.data off bs k).length=sz;rw[AK];exact DU.out.2.1
   have sP:z.there.length=fk sz:=by rw[←hz];show (om y.there off k).length=_;rw[yH];exact DU.out.2.2.1
   rw[DU.out.2.1] at hzd;rw[DU.out.2.2.1] at KC;have hjd:off+k<z.data.length:=by have:=xZ.out;omega
   have hjt:(off+k) / 128<z.there.length:=by have:=MZ.out;rw[sP];omega
   have hq:wr.cell? ⟨q,0,none⟩=some (.slice (some ⟨g,0,none⟩) R.length c):=by have h:=Rtb.nv ye;rw[List.length_set] at h;exact h
   obtain⟨-,-,-,-,-,c5,-⟩:=Rtb.at_ ye hzz;rw[hzd] at c5;obtain⟨pb',cb',e,-,-,hcs⟩:=(HB.out wr ye.drop).form;simp only[Value.slice.injEq,true_and] at e;obtain⟨rfl,rfl⟩:=e;obtain⟨gb,ob,rfl,hcb⟩:=hcs (by omega);have cbk:wr.cell? ⟨gb,ob+k,none⟩=some (.int .u8 bs[k]):=by rw[hcb k (by omega)];exact sJ _ _ hlt
   obtain⟨gd',cd',e1,hfo⟩:=Rtb.bS ye hzz Lt (by omega);rw[hzd] at e1;simp only[Value.slice.injEq,Option.some.injEq,Addr.mk.injEq,and_true] at e1;obtain⟨rfl,-⟩:=e1;have hfr:=(hfo (off+k)).1;have hfc:=(hfo (off+k)).2 hjd;have OU:(off:Int)+(k:Int)<(sz:Int):=by have:=xZ.out;omega
   have hok0:(0:Int)≤(off:Int)+(k:Int):=by omega
   have hwr:IntKind.i64.wrap ((off:Int)+(k:Int))=(off:Int)+(k:Int):=ft _ (by omega);have htn:((off:Int)+(k:Int)).toNat=off+k:=by omega
   have Ob:=hid ye;have HZD:=hid hzd;have N9:=hid KC;have Oz:=hid Lt;have Oe:=hid hzz;have Pt:=hid hjd;have Nc:=hid hjt;have EX:=hid sP;have HZ:=hid hz;have Hc:=hid (by rw[List.getElem?_eq_getElem hlt];rfl:bs[k]?.getD 0=bs[k]);generalize z.data[off+k]=old at *;generalize bs[k]=bk at *;have gW:=hid hlt;clear hzd KC Lt hzz hjd hjt hzl sP hcb hcs hfo ye hz hlt HO hk;go_upto_region 4 with fail
   refine fT (fun w'=>w'.cell? ⟨q,0,none⟩=some (.slice (some ⟨g,0,none⟩) R.length c)∧w'.cell? ⟨g,n*7+5,none⟩=some (.slice (some ⟨gd,0,none⟩) sz cd2)∧w'.cell? ⟨gb,ob+k,none⟩=some (.int .u8 bk)) (by kernel_rfl) (by kernel_rfl) (by kernel_rfl) (by decide) ⟨hq,c5,cbk⟩ ?_;repeat (first|refine wr3 ?_|refine wk ?_)
   refine eR ?_;refine gI rfl (by rfl) ?_;go_simp
   have h3:=(Rtb.du Ob.out Oe.out Oz.out HZD.out (off+k) Pt.out bk).drew;rw[List.set_set] at h3;have fH:=hid ((HK.out.set ⟨gd,off+k,none⟩ (.int .u8 bk)).drew);obtain⟨z2,hz2⟩:∃ z2,{z with data:=z.data.set (off+k) bk} = z2:=⟨_,rfl⟩
   rw[hz2] at h3;have eW:=hid h3;have B4:(R.set n z2)[n]? = some z2:=List.getElem?_set_self vC.out;have Di:z2.tv=.slice (some ⟨gt,0,none⟩) (fk sz) ct2:=by rw[←hz2];exact N9.out
   have sP:z2.there.length=fk sz:=by rw[←hz2];exact EX.out
   have HZ2:=hid hz2;clear hq c5 cbk hfr hfc h3 hz2;generalize (wr.setCell ⟨gd,off+k,none⟩ (.int .u8 bk)).drew=w3 at *;have hq:w3.cell? ⟨q,0,none⟩=some (.slice (some ⟨g,0,none⟩) R.length c):=by have h:=Rtb.nv eW.out;rw[List.length_set] at h;exact h
   obtain⟨-,-,-,-,-,-,c6⟩:=Rtb.at_ eW.out B4;rw[Di] at c6;obtain⟨gt',ct',e1,hfo⟩:=Rtb.bH eW.out B4 (by rw[sP];have:=Nc.out;rw[EX.out] at this;omega);rw[Di] at e1;simp only[Value.slice.injEq,Option.some.injEq,Addr.mk.injEq,and_true] at e1;obtain⟨rfl,-⟩:=e1;obtain⟨jn,hjn⟩:∃ jn,(off+k) / 128=jn:=⟨_,rfl⟩
   have hjl:jn<z2.there.length:=by rw[sP,←hjn];have:=Nc.out;rw[EX.out] at this;exact this
   have hfr:=(hfo jn).1;have hfc:=(hfo jn).2 hjl;have hji:((off:Int)+(k:Int)) / 128=(jn:Int):=by omega
   have hj0:(0:Int)≤(jn:Int):=by omega
   have hj1:(jn:Int)<(fk sz:Int):=by rw[←sP];omega
   have fg:=hid (Rtb.el eW.out B4 Di jn hjl true);have n9:=hid (show {z2 with there:=z2.there.set jn true} = y.upTo off bs (k+1) from by
    rw[←HZ2.out,←HZ.out,←hjn];unfold Rn.upTo;show ({y with data:=(oh y.data off bs k).set (off+k) bk,there:=(om y.there off k).set ((off+k) / 128) true} : Rn)={y with data:=(oh y.data off bs k).set (off+k) (bs[k]?.getD 0),there:=(om y.there off k).set ((off+k) / 128) true};rw[Hc.out])
   generalize z2.there[jn]=oldb at *;clear Di sP hfo hjl hjn B4;generalize fk sz=nm at *;go_wp2_with fail
   exact⟨⟨k+1,by have:=gW.out;omega,by go_num,hid (by rw[←n9.out];have h:=fg.out;rw[List.set_set] at h;exact h),hid (fH.out.set _ _)⟩,by have:=gW.out;simp[intOf];omega⟩
  ·obtain rfl:k=bs.length:=by omega
   have hki:¬ (bs.length:Int)<(bs.length:Int):=by omega
   have HF:=hid (show y.upTo off bs bs.length=x.wrote off bs dv tv from by
    rw[←HY.out];unfold Rn.upTo Rn.wrote Rn.sized;rw[ql.out])
   go_wp2_with fail
   go_end0
   exact⟨rfl,⟨dv,tv,by rw[←HF.out];exact HO.out⟩,HK.out⟩
theorem Sim.au {R:List Rn}{S:Tre}(h:Sim R S){i:Nat}{r r':Rn}{x x':Nod}(hx:fnd S.ac (i:Int)=some x)(hr:R[i]? = some r)(hn:r'.ab=r.ab)(hl:x'.ah=x.ah)(hk:x'.aa=x.aa)(hs:SimN (i:Int) r' x'):Sim (R.set i r') (S.au (i:Int) x') where
 len:=by rw[List.length_set];exact h.len
 ae n y hy:=by
  exact za9
 gone j r2 hj hn2:=by
  exact zbF
 alive n y hy:=by
  have hy2:fnd (eX S.ac (i:Int) x') n=some y:=hy;rw[fnd_putA] at hy2;by_cases e:n=(i:Int)
  ·rw[if_pos e] at hy2;cases hy2;have h9:=h.alive _ _ hx;rw[hl,e];exact h9
  ·rw[if_neg e] at hy2;exact h.alive n y hy2
 wopen fd s y hf hy hw:=by
  exact zbw
theorem jr {a b:Nat}(h:a≤b):fk a≤fk b:=by
 unfold fk;split <;> split <;> omega
theorem jA (x:Nod)(size:Nat):(fw x size).data=kO x.data size:=by
 unfold fw kO;split <;> rfl
theorem xE {ws:List Bool}{N:Nat}(hw:ws.length≤N)(m:Nat)(hm:m≤N):mL (ws++List.replicate (N-ws.length) false) m=ws.take m++List.replicate (m-(ws.take m).length) false:=by
 unfold mL;rw[List.take_append,List.take_replicate,List.length_append,List.length_replicate,List.length_take,show m-(ws.length+(N-ws.length))=0 by omega,List.replicate_zero,List.append_nil];congr 2;omega
theorem uu {ws:List Bool}{N:Nat}(hw:ws.length≤N)(m:Nat)(hm:N≤m):mL (ws++List.replicate (N-ws.length) false) m=ws++List.replicate (m-ws.length) false:=by
 unfold mL;rw[List.take_of_length_le (by rw[List.length_append,List.length_replicate];omega),List.length_append,List.length_replicate,List.append_assoc,List.replicate_append_replicate];congr 2;omega
theorem SimN.sized {n:Int}{r:Rn}{x:Nod}(h:SimN n r x)(hk:x.aa=1)(size:Nat)(hs:size≤20736)(dv tv:Value):SimN n (r.sized size dv tv) (fw x size):=by
 obtain⟨h1,h2⟩:=h.there hk;have hkk:(fw x size).aa=x.aa:=by unfold fw;split <;> rfl
 have hd:(fw x size).data.length=size:=by rw[jA,jt]
 refine⟨?_,?_,?_,h.sorted,?_,?_,?_,h.root,?_,?_⟩
 ·rw[hkk];exact h.aa
 ·show r.ab=_;rw[h.ab];unfold fw;split <;> rfl
 ·show r.ai.Perm _;have:(fw x size).ab=x.ab:=by unfold fw;split <;> rfl
  rw[this];exact h.ai
 ·show kO r.data size=_;rw[jA,h.data]
 ·intro _;rw[hd];show mL r.there (fk size)=_∧_;rw[h1];unfold fw;by_cases hle:size≤x.data.length
  ·rw[if_pos hle];dsimp only;exact⟨xE h2 _ (jr hle),by rw[List.length_take];omega⟩
  ·rw[if_neg hle];dsimp only;have:=jr (show x.data.length≤size by omega);exact⟨uu h2 _ this,by omega⟩
 ·show r.aq=_;rw[h.aq];unfold fw;split <;> rfl
 ·intro ha;have:(fw x size).above=x.above:=by unfold fw;split <;> rfl
  rw[this] at ha ⊢;exact h.am ha
 ·intro _;rw[hd];exact hs
theorem Sim.resize {R:List Rn}{S:Tre}(h:Sim R S){i:Nat}{r:Rn}{x:Nod}(hx:fnd S.ac (i:Int)=some x)(hr:R[i]? = some r)(hsn:SimN (i:Int) r x)(hk:x.aa=1){size:Nat}(hs:size≤20736)(dv tv:Value):Sim (R.set i (r.sized size dv tv)) (S.resize (i:Int) size):=by
 unfold Tre.resize;rw[fC hx];exact h.au hx hr rfl (by unfold fw;split <;> rfl) (by unfold fw;split <;> rfl) (hsn.sized hk size hs dv tv)
end Go.Proofs.YtmgpgbfgemebbaaGreatDoor
