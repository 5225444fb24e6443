/- TEXTS of mine, merged. -/
import Derived.Test.YtmgpgbfgemebbaaGreatDoorM0
import Derived.Test.YtmgpgbfgemebbaaGreatDoorM27
import Derived.Test.YtmgpgbfgemebbaaGreatDoorM24
import Derived.Test.YtmgpgbfgemebbaaGreatDoorM6
import Derived.Test.YtmgpgbfgemebbaaGreatDoorM5
import Derived.Shelf.SlMaps.Clone
import Derived.Test.YtmgpgbfgemebbaaGreatDoorM25
import Derived.Test.YtmgpgbfgemebbaaGreatDoorM26
import Derived.Test.YtmgpgbfgemebbaaGreatDoorM4
import Derived.Deep.DeepCutAuto
set_option linter.all false
set_option maxRecDepth 100000
set_option maxHeartbeats 16000000
namespace Go.Proofs.YtmgpgbfgemebbaaGreatDoor
open Go.RowKit Go.Own
def ia (y:Oq):Bool:=decide (300<y.op.ag.length)||decide (300<y.op.aj.length)||decide (3000<y.data.length)
def il (R:List Oq)(most:Nat):Bool:=decide (most<R.length)||R.any ia
theorem lR {y:Oq}(h:ia y=false):y.op.ag.length≤300∧y.op.aj.length≤300∧y.data.length≤3000:=by
 unfold ia at h;simp only[Bool.or_eq_false_iff,decide_eq_false_iff_not] at h;omega
theorem q8 {R:List Oq}{most:Nat}(h:il R most=false):R.length≤most∧∀ y∈R,ia y=false:=by
 unfold il at h;simp only[Bool.or_eq_false_iff,decide_eq_false_iff_not,List.any_eq_false] at h;exact⟨by omega,fun y hy=>by simpa using h.2 y hy⟩
theorem GR (o:Opm)(p:Option Addr)(n c:Nat)(w:World)(L:List HP)(hO:Has w L) :
  zCl 39 #[opV o (.slice p n c)] w fun e w'=>e=.returned (.bool (decide (300<o.ag.length)||decide (300<o.aj.length)||decide (3000<n)))∧Has w' L∧Keep w w':=by
 have h1:=(hO.alloc (.cells (opC o (.slice p n c)) 33)).drop;have HO:=hid h1;have HK:=hid ((Keep.refl w).alloc (.cells (opC o (.slice p n c)) 33));clear hO h1;obtain⟨aa,fd,nn,off,af,ag,aj⟩:=o;unfold opC at HO HK;dsimp only at HO HK ⊢;unfold opV opC;dsimp only;have e1:(sB ag).size=ag.length:=zQ6 ag;have e2:(sB aj).size=aj.length:=zQ6 aj;by_cases hp:300<ag.length
 ·have hpi:(300:Int)<(ag.length:Int):=by omega
  have HR:=hid (by simp[hp]:(decide (300<ag.length)||decide (300<aj.length)||decide (3000<n))=true);clear hp;exact zbu
 ·have hpi:¬ (300:Int)<(ag.length:Int):=by omega
  by_cases hq:300<aj.length
  ·have hqi:(300:Int)<(aj.length:Int):=by omega
   have HR:=hid (by simp[hq]:(decide (300<ag.length)||decide (300<aj.length)||decide (3000<n))=true);clear hp hq;exact zbu
  ·have hqi:¬ (300:Int)<(aj.length:Int):=by omega
   by_cases hn:3000<n
   ·have hni:(3000:Int)<(n:Int):=by omega
    have HR:=hid (by simp[hn]:(decide (300<ag.length)||decide (300<aj.length)||decide (3000<n))=true);clear hp hq hn;exact zbu
   ·have hni:¬ (3000:Int)<(n:Int):=by omega
    have HR:=hid (by simp[hp,hq,hn]:(decide (300<ag.length)||decide (300<aj.length)||decide (3000<n))=false);clear hp hq hn;exact zbu
theorem RdOps.eight {w:World}{v:Value}{R:List Oq}(h:RdOps w v R)(k:Nat)(hk:k<R.length):∃ g o c p m,v=.slice (some ⟨g,o,none⟩) R.length c∧R[k].dv=.slice p R[k].data.length m ∧
  w.cell? ⟨g,o+k*8,none⟩=some (.int .i64 R[k].op.aa)∧w.cell? ⟨g,o+k*8+1,none⟩=some (.int .i64 R[k].op.fd)∧w.cell? ⟨g,o+k*8+2,none⟩=some (.int .i64 R[k].op.n)∧w.cell? ⟨g,o+k*8+3,none⟩=some (.int .i64 R[k].op.off)∧w.cell? ⟨g,o+k*8+4,none⟩=some (.int .i64 R[k].op.af)∧w.cell? ⟨g,o+k*8+5,none⟩=some (sV R[k].op.ag)∧w.cell? ⟨g,o+k*8+6,none⟩=some (sV R[k].op.aj)∧w.cell? ⟨g,o+k*8+7,none⟩=some (.slice p R[k].data.length m):=by
 obtain⟨g,o,c,rfl,hc⟩:=h.at_ k hk;obtain⟨p,m,hm,-⟩:=(h.2 R[k] (List.getElem_mem hk)).1.form;refine⟨g,o,c,p,m,rfl,hm,hc 0 (by omega),?_,?_,?_,?_,?_,?_,?_⟩
 ·rw[Nat.add_assoc];exact hc 1 (by omega)
 ·rw[Nat.add_assoc];exact hc 2 (by omega)
 ·rw[Nat.add_assoc];exact hc 3 (by omega)
 ·rw[Nat.add_assoc];exact hc 4 (by omega)
 ·rw[Nat.add_assoc];exact hc 5 (by omega)
 ·rw[Nat.add_assoc];exact hc 6 (by omega)
 ·rw[Nat.add_assoc,←hm];exact hc 7 (by omega)
theorem yn (v:Value)(R:List Oq)(most:Nat)(hm:most≤1000)(W w:World)(L:List HP)(hr:RdOps W v R)(hO:Has w (old W::L)) :
  zCl 11 #[v,.int .i64 (most:Int)] w fun e w'=>e=.returned (.bool (il R most))∧Has w' (old W::L)∧Keep w w':=by
 obtain⟨vp,vc,rfl,Oy,hvl⟩:=hr.form;have HR:=hid (show ∀ w',Has w' (old W::L)→RdOps w' (.slice vp R.length vc) R from fun w' h=>hr.start h);have HO:=hid hO;clear hr hO;by_cases hl:R.length≤most
 ·have DA:(R.length:Int)≤(most:Int):=by omega
  have hlj:¬ (most:Int)<(R.length:Int):=by omega
  have hln:¬ most<R.length:=by omega
  have HL:=hid hl;clear hl;go_enter Tryz.func11,Tryz.ntmps11
  go_wp2_with fail
  go_loopw [5] (fun i w'=>∃ (k:Nat) (w0:World),w0=w'∧k≤R.length∧i=.int .i64 k∧Hid ((R.take k).any ia=false)∧Hid (Has w0 (old W::L))∧Hid (Keep w w0)) (fun i _=>R.length-(intOf i).toNat)
  case atStart=>exact⟨0,w,rfl,by omega,rfl,hid rfl,HO,hid (Keep.refl w)⟩
  case round =>
   clear HO;obtain⟨k,w0,rfl,hk,rfl,HN,HO,HK⟩:=hrel;by_cases hlt:k<R.length
   ·have hki:(k:Int)<(R.length:Int):=by omega
    have hk0:(0:Int)≤(k:Int):=by omega
    obtain⟨g,o,c,p,m,hv,hdv,c0,c1,c2,c3,c4,c5,c6,c7⟩:=(HR.out _ HO.out).eight k hlt;simp only[Value.slice.injEq] at hv;obtain⟨rfl,-,rfl⟩:=hv;have hg:(decide (300<R[k].op.ag.length)||decide (300<R[k].op.aj.length)||decide (3000<R[k].data.length))=ia R[k]:=rfl;have hts:(R.take (k+1)).any ia=((R.take k).any ia||ia R[k]):=by
     rw[List.take_succ_eq_append_getElem hlt,List.any_append];simp
    have hin:R[k]∈R:=List.getElem_mem hlt;have ya:=hid hin;have Pg:=hid hts;have HG:=hid hg;clear hts hdv hin hg;generalize R[k]=y at *;obtain⟨⟨aa,fd,nn,off,af,ag,aj⟩,dv,data⟩:=y;dsimp only at c0 c1 c2 c3 c4 c5 c6 c7;go_wp2_with fail
    refine st (GR ⟨aa,fd,nn,off,af,ag,aj⟩ p data.length m w0 _ HO.out) (HK.out) fun w4 fg fO=>?_;try dsimp only
    have Mb:=HG.out;try dsimp only at Mb
    rw[Mb];clear HO HK c0 c1 c2 c3 c4 c5 c6 c7 HG Mb;cases hgr:ia ⟨⟨aa,fd,nn,off,af,ag,aj⟩,dv,data⟩
    ·have HT:=hid (by rw[Pg.out,HN.out,hgr];rfl:(R.take (k+1)).any ia=false);go_wp2_with fail
     go_roundw
     case rel=>exact⟨k+1,_,rfl,by omega,by go_num,HT,fg,fO⟩
     case measure=>simp[intOf];omega
    ·have HRR:=hid (show il R most=true from by
      unfold il;have:R.any ia=true:=List.any_eq_true.2 ⟨_,ya.out,hgr⟩;rw[this,Bool.or_true])
     go_wp2_with fail
     go_ret
     rw[HRR.out];exact⟨rfl,fg.out,fO.out⟩
   ·obtain rfl:k=R.length:=by omega
    have hki:¬ (R.length:Int)<(R.length:Int):=by omega
    have HRR:=hid (show il R most=false from by
     unfold il;have h1:=HN.out;rw[List.take_length] at h1;rw[h1,Bool.or_false,decide_eq_false];have:=HL.out;omega)
    go_wp2_with fail
    go_ret
    rw[HRR.out];exact⟨rfl,HO.out,HK.out⟩
 ·have DA:¬ (R.length:Int)≤(most:Int):=by omega
  have hlj:(most:Int)<(R.length:Int):=by omega
  have hln:most<R.length:=by omega
  have h0:(0:Int)<(R.length:Int):=by omega
  have HRR:=hid (show il R most=true from by
   unfold il;rw[decide_eq_true (by omega),Bool.true_or])
  clear hl;go_enter Tryz.func11,Tryz.ntmps11
  go_wp2_with fail
  go_loopw [5] (fun i w'=>w'=w∧i=.int .i64 0) (fun i _=>0)
  case atStart=>exact⟨rfl,rfl⟩
  case round =>
   obtain⟨rfl,rfl⟩:=hrel;go_wp2_with fail
   go_ret
   rw[HRR.out];exact zcb
def aQ (S:Tre):List Oq→Tre
 | []=>S
 | y::R=>aQ (S.aD y.op y.data).2 R
theorem zk (S:Tre)(A B:List Oq):aQ S (A++B)=aQ (aQ S A) B:=by
 induction A generalizing S with
 | nil=>rfl
 | cons y A ih=>exact ih _
theorem wO (S:Tre)(R:List Oq)(k:Nat)(hk:k<R.length):aQ S (R.take (k+1))=((aQ S (R.take k)).aD R[k].op R[k].data).2:=by
 rw[List.take_succ_eq_append_getElem hk,zk];rfl
theorem uW {S:Tre}{k:Nat}(h:Gdx S k):∀ (R:List Oq),(∀ y∈R,ia y=false)→Gdx (aQ S R) (k+R.length)
 | [],_=>h
 | y::R,hR=>by
  have h1:=h.aD y.op y.data (by have:=lR (hR y List.mem_cons_self);omega);have h2:=uW h1 R fun z hz=>hR z (List.mem_cons_of_mem _ hz);rw[List.length_cons,show k+(R.length+1)=k+1+R.length by omega];exact h2
theorem EL {S:Tre}{k:Nat}(q:Nat)(mx:Int)(w:World)(L:List HP)(h:Gdx S k)(hk:k<100000)(hM:MxL mx L)(o:Opm)(p:Option Addr)(c:Nat)(ds:List Int)(hg:o.ag.length≤300∧o.aj.length≤300∧ds.length≤3000)(hwf:BK o)(hrd:∀ w',Has w' L→Rd w' (.slice p ds.length c) 1 ds.length (bc ds))(hO:Has w (Trc q S::L)) :
  zCl 16 #[.pointer (some ⟨q,0,none⟩),opV o (.slice p ds.length c)] w fun e w'=>∃ a ca b cb,e=.returned (sY (S.aD o ds).1 a ca b cb)∧Gdx (S.aD o ds).2 (k+1)∧Has w' (Bytes (.slice a (S.aD o ds).1.data.length ca) (S.aD o ds).1.data::Strs (.slice b (S.aD o ds).1.ab.length cb) (S.aD o ds).1.ab::Trc q (S.aD o ds).2::L)∧Keep w w' :=
 Ef q mx w L h hk hM o rfl rfl hwf.2.1 (by omega) (by omega) p c ds (by omega) hrd (S.aD o ds).1 (S.aD o ds).2 rfl hO
def DirE (S:Tre):Prop:=∀ n,(S.at_ n).aa=2→(S.at_ n).data = []
theorem Cz (S:Tre)(n m:Int)(x:Nod):(S.au n x).at_ m=if m=n then x else S.at_ m:=by
 unfold Tre.at_ Tre.au;dsimp only;rw[fnd_putA];split <;> rfl
variable {S:Tre}
theorem DirE.au (h:DirE S)(n:Int)(x:Nod)(hx:x.aa=2→x.data = []):DirE (S.au n x):=by
 intro m;rw[Cz];split
 ·exact hx
 ·exact h m
theorem DirE.ak (h:DirE S)(T:List Tb.Slot):DirE {S with ak:=T} := h
theorem DirE.last (h:DirE S)(n:Int):DirE {S with last:=n} := h
theorem DirE.forget (h:DirE S)(n:Int):DirE (S.forget n):=by
 unfold Tre.forget;split
 ·exact h
 ·split
  ·intro m;by_cases e:m=n
   ·subst e;have h0:fnd (gq S.ac m) m=none:=by rw[fU];simp[gq]
    unfold Tre.at_;dsimp only;rw[h0];intro hk;cases hk
   ·have h0:fnd (gq S.ac n) m=fnd S.ac m:=jF e;have h1:=h m;unfold Tre.at_ at h1 ⊢;dsimp only;rw[h0];exact h1
  ·exact h
theorem DirE.add (h:DirE S)(dir:Int)(p:Str)(n:Int):DirE (S.add dir p n):=by
 unfold Tre.add;refine(h.au dir (Tre.dirAdd (S.at_ dir) p n) (h dir)).au n _ ?_;unfold Tre.nodAdd;split
 ·exact h n
 ·exact h n
theorem DirE.make (h:DirE S)(s:Spt)(aa:Int)(p:Str)(hk:aa≠2∨True):DirE (S.make s aa p):=by
 unfold Tre.make;refine DirE.add ?_ _ _ _;refine(h.last (S.last+1)).au (S.last+1) ⟨aa,if aa=3 then fF p else [],[],[],0,0,0⟩ ?_;dsimp only;intro h2;rw[if_neg (by omega)]
theorem nX (x:Nod)(n:Nat):(fw x n).aa=x.aa:=by unfold fw;split <;> rfl
theorem DirE.resize (h:DirE S)(n:Int)(size:Nat)(hn:(S.at_ n).aa≠2∨size=0):DirE (S.resize n size):=by
 unfold Tre.resize;refine h.au n _ ?_;rw[nX];intro hk;rcases hn with h1|rfl
 ·exact absurd hk h1
 ·unfold fw;rw[if_pos (Nat.zero_le _)];rfl
theorem qA (S:Tre)(fd:Int)(b:Bool)(h:(S.file fd b).2=0):(S.at_ (S.file fd b).1.ae).aa≠2:=by
 unfold Tre.file at h ⊢;split at h
 ·cases h
 ·rename_i h1;rw[if_neg h1];split at h
  ·cases h
  ·rename_i h2;rw[if_neg h2];split at h
   ·cases h
   ·rename_i h3;rw[if_neg h3];exact h3
theorem DirE.read (h:DirE S)(aa fd n off:Int):DirE (S.read aa fd n off).2:=by
 unfold Tre.read;dsimp only;split
 ·exact h
 ·split
  ·exact h
  ·dsimp only;split
   ·exact h
   ·exact h
theorem DirE.aG (h:DirE S)(fd n off:Int):DirE (S.aG fd n off).2:=by
 unfold Tre.aG;dsimp only
 repeat' split
 all_goals exact h
theorem DirE.trunc (h:DirE S)(fd off:Int):DirE (S.trunc fd off).2:=by
 unfold Tre.trunc;dsimp only;split
 ·exact h
 ·rename_i h1;split
  ·exact h
  ·split
   ·exact h
   ·exact h.resize _ _ (.inl (qA S fd true (by omega)))
theorem DirE.write (h:DirE S)(aa fd off:Int)(ds:List Int):DirE (S.write aa fd off ds).2:=by
 unfold Tre.write;dsimp only;split
 ·exact h
 ·rename_i h1;have hk:=qA S fd true (by omega);have hs:∀ o,DirE (S.au (S.file fd true).1.ae (fE (S.at_ (S.file fd true).1.ae) o ds)):=fun o=>h.au _ _ (by
   intro h2;refine absurd ?_ hk;rw[←h2];unfold fE;dsimp only;rw[nX])
  repeat' split
  all_goals first|exact h|exact(hs _).ak _|exact hs _
theorem DirE.ar (h:DirE S)(s:Spt)(af:Int):DirE (S.ar s af).2:=by
 unfold Tre.ar;split
 ·exact h
 ·split
  ·exact h
  ·dsimp only;have h1:DirE (if s.ae=0 then S.make s 1 [] else S):=by
    split
    ·exact h.make _ _ _ (.inr trivial)
    ·exact h
   split
   ·exact(h1.resize _ _ (.inr rfl)).ak _
   ·exact h1.ak _
theorem DirE.aw (h:DirE S)(p:Str)(af:Int):DirE (S.aw p af).2:=by
 unfold Tre.aw;split
 ·exact h
 ·split
  ·split
   ·exact h
   ·split
    ·exact h
    ·split
     ·split
      ·exact h
      ·exact h.ar _ _
     ·exact h.ar _ _
  ·split
   ·exact h
   ·exact h.ar _ _
theorem DirE.take (h:DirE S)(dir:Int)(p:Str):DirE (S.take dir p):=by
 unfold Tre.take;exact((h.au dir (Tre.dirTake (S.at_ dir) p) (h dir)).au _ (Tre.nodTake (S.at_ (S.kid dir p))) (h _)).forget _
theorem DirE.bg (h:DirE S)(s t:Spt):DirE (S.bg s t):=by
 unfold Tre.bg;exact((h.au s.dir (Tre.dirTake (S.at_ s.dir) s.name) (h s.dir)).au s.ae {S.at_ s.ae with ah:=(S.at_ s.ae).ah-1} (h s.ae)).add _ _ _
theorem DirE.close (h:DirE S)(fd:Int):DirE (S.close fd).2:=by
 unfold Tre.close;split
 ·exact h
 ·exact(h.ak _).forget _
theorem DirE.aF (h:DirE S)(p:Str):DirE (S.aF p).2:=by
 unfold Tre.aF;dsimp only;split
 ·exact h
 ·exact h.make _ _ _ (.inr trivial)
theorem DirE.remove (h:DirE S)(aa:Int)(p:Str):DirE (S.remove aa p).2:=by
 unfold Tre.remove
 repeat' split
 all_goals first|exact h|exact h.take _ _
theorem DirE.link (h:DirE S)(p q:Str):DirE (S.link p q).2:=by
 unfold Tre.link
 repeat' split
 all_goals first|exact h|exact h.add _ _ _
theorem DirE.symlink (h:DirE S)(p q:Str):DirE (S.symlink p q).2:=by
 unfold Tre.symlink
 repeat' split
 all_goals first|exact h|exact h.make _ _ _ (.inr trivial)
theorem CW {c:Prop} [Decidable c] {a b:Ans×Tre} (ha:DirE a.2) (hb:DirE b.2):DirE (if c then a else b).2:=by
 by_cases h:c
 ·rw[if_pos h];exact ha
 ·rw[if_neg h];exact hb
theorem DirE.rename (h:DirE S)(p q:Str):DirE (S.rename p q).2:=by
 unfold Tre.rename;dsimp only
 iterate 11 refine CW h ?_
 by_cases h1:(S.place q).1.ae≠0
 ·show DirE ((if (S.place q).1.ae≠0 then S.take (S.place q).1.dir (S.place q).1.name else S).bg _ _);rw[if_pos h1];exact(h.take _ _).bg _ _
 ·show DirE ((if (S.place q).1.ae≠0 then S.take (S.place q).1.dir (S.place q).1.name else S).bg _ _);rw[if_neg h1];exact h.bg _ _
theorem DirE.aD (h:DirE S)(o:Opm)(ds:List Int):DirE (S.aD o ds).2:=by
 unfold Tre.aD;by_cases h1:o.aa=1
 ·rw[if_pos h1];exact h.aw _ _
 rw[if_neg h1];clear h1;by_cases h1:o.aa=2
 ·rw[if_pos h1];exact h.close _
 rw[if_neg h1];clear h1;by_cases h1:o.aa=3
 ·rw[if_pos h1];exact h.read _ _ _ _
 rw[if_neg h1];clear h1;by_cases h1:o.aa=4
 ·rw[if_pos h1];exact h.write _ _ _ _
 rw[if_neg h1];clear h1;by_cases h1:o.aa=5
 ·rw[if_pos h1];exact h.read _ _ _ _
 rw[if_neg h1];clear h1;by_cases h1:o.aa=6
 ·rw[if_pos h1];exact h.write _ _ _ _
 rw[if_neg h1];clear h1;by_cases h1:o.aa=7
 ·rw[if_pos h1];exact h.aG _ _ _
 rw[if_neg h1];clear h1;by_cases h1:o.aa=8
 ·rw[if_pos h1];exact h.trunc _ _
 rw[if_neg h1];clear h1;by_cases h1:o.aa=9
 ·rw[if_pos h1];exact h.aF _
 rw[if_neg h1];clear h1;by_cases h1:o.aa=10
 ·rw[if_pos h1];exact h.remove _ _
 rw[if_neg h1];clear h1;by_cases h1:o.aa=11
 ·rw[if_pos h1];exact h.remove _ _
 rw[if_neg h1];clear h1;by_cases h1:o.aa=12
 ·rw[if_pos h1];exact h.link _ _
 rw[if_neg h1];clear h1;by_cases h1:o.aa=13
 ·rw[if_pos h1];exact h.symlink _ _
 rw[if_neg h1];clear h1;by_cases h1:o.aa=14
 ·rw[if_pos h1];exact h
 rw[if_neg h1];clear h1;by_cases h1:o.aa=15
 ·rw[if_pos h1];exact h.rename _ _
 rw[if_neg h1];clear h1;by_cases h1:o.aa=16
 ·rw[if_pos h1];exact h
 rw[if_neg h1];clear h1;by_cases h1:o.aa=17
 ·rw[if_pos h1];exact h
 rw[if_neg h1];clear h1;by_cases h1:o.aa=18
 ·rw[if_pos h1];exact h
 rw[if_neg h1];clear h1;by_cases h1:o.aa=19
 ·rw[if_pos h1];exact h
 rw[if_neg h1];clear h1;by_cases h1:o.aa=20
 ·rw[if_pos h1];exact h
 rw[if_neg h1];clear h1;by_cases h1:o.aa=21
 ·rw[if_pos h1];exact h
 rw[if_neg h1];clear h1;by_cases h1:o.aa=22
 ·rw[if_pos h1];exact h
 rw[if_neg h1];clear h1;by_cases h1:o.aa=23
 ·rw[if_pos h1];exact h
 rw[if_neg h1];clear h1;exact h
theorem Jf:DirE tre0:=by
 intro n;by_cases e:n=1
 ·subst e;intro _;rfl
 ·intro hk;have h0:tre0.at_ n=qb:=by
   unfold Tre.at_;rw[fU.2 (by simp[tre0,e])];rfl
  rw[h0] at hk;cases hk
theorem DirE.aQ:∀ (R:List Oq) {S:Tre},DirE S→DirE (Go.Proofs.YtmgpgbfgemebbaaGreatDoor.aQ S R)
 | [],_,h=>h
 | y::R,_,h=>DirE.aQ R (h.aD y.op y.data)
end Go.Proofs.YtmgpgbfgemebbaaGreatDoor
namespace Go.Own
open Go.RowKit
theorem rU {P:Program}{ops:Array Oper}{rest:List Oper}{o:Oper}{a:Act}{Q:Exit→Act→World→Prop}{w:World}(hgd:o.guard=none)(t:TypeId)(x:Operand)(ho:o.op=.load t x)(v u:Value)(hx:a.eval x=v)
  (hl:(Instr.loadAt t v).run P w=.ok u w) (h:wpList P ops Q rest (a.put o.dst u) w):wpList P ops Q (o::rest) a w:=by
 refine wpList_plain hgd fun K hK=>?_;unfold Oper.wp execOp;simp only[ho,Sem.run_bind,Sem.run_pure,Result.andThen_ok,hx,hl];exact hK _ _ h
section
variable {P:Program} {k e:TypeId} {κ α:Type} [DecidableEq κ] {K:Ky P k κ} {V:El P e α} {D:DataW Unit} {t t':List (κ×α)} {w:World} {L:List HP} {b:Nat}
omit [DecidableEq κ] in
theorem AlK.perm (h:AlK K V D t)(hp:t.Perm t'):AlK K V D t' where
 tidy:=h.tidy
 nodup:=(hp.map Prod.fst).nodup h.nodup
 size:=h.size.trans hp.length_eq
 ok:=fun p hm=>h.ok p (hp.mem_iff.2 hm)
 yes:=fun p hm=>h.yes p (hp.mem_iff.2 hm)
 no:=fun x hx=>h.no x fun hm=>hx ((hp.map Prod.fst).mem_iff.1 hm)
omit [DecidableEq κ] in
theorem Mk.perm (h:Has w (Mk K V b t::L))(hp:t.Perm t'):Has w (Mk K V b t'::L):=by
 obtain⟨D,h1,h2⟩:=Mk.iff.1 h;exact Mk.iff.2 ⟨D,h1.perm hp,h2⟩
end
end Go.Own
namespace Go.Proofs.YtmgpgbfgemebbaaGreatDoor
open Go.RowKit Go.Own
theorem nR {α β:Type} (f:α→β):∀ (m:List β) (l:List α),(l.map f).Perm m→∃ l':List α,l'.Perm l∧l'.map f=m
 | [],l,h=>by
  have:l = []:=by simpa using h.eq_nil
  exact⟨[],by rw[this],rfl⟩
 | b::m,l,h=>by
  have hb:b∈l.map f:=h.mem_iff.2 List.mem_cons_self;obtain⟨a,ha,rfl⟩:=List.mem_map.1 hb;obtain⟨A,B,rfl⟩:=List.append_of_mem ha;have h1:((A++B).map f).Perm m:=by
   rw[List.map_append,List.map_cons] at h;rw[List.map_append];exact(List.perm_cons (f a)).1 (List.perm_middle.symm.trans h)
  obtain⟨l',h2,h3⟩:=nR f m (A++B) h1;exact⟨a::l',(h2.cons a).trans List.perm_middle.symm,by rw[List.map_cons,h3]⟩
section
variable {w:World} {L:List HP} {q m f:Nat} {P:List Pn} {S:Tre}
theorem Aq (hp:(pnN P).Perm S.ac)(h16:S.ak.length=16)(h:Has w (Trb q m f P S.last S.ak::L)):Has w (Trc q S::L):=by
 obtain⟨P',h1,h2⟩:=nR (fun p:Pn=>(p.1,p.2.2)) S.ac P hp;refine eY.2 ⟨m,f,P',⟨h2,h16⟩,fQ.2 ?_⟩;have h3:=(fQ.1 h).re 2 [1,0];have h4:Has w (Mk kInt vPtr m (pnB P')::_):=Mk.perm h3 (show (pnB P).Perm (pnB P') from(h1.symm.map _));refine(h4.re 2 [1,0]).perm (.cons _ (.cons _ (.cons _ ?_)));exact List.Perm.append_right _ (h1.symm.map _)
end
theorem tV (b:Nat)(t:List (Str×Int))(w:World)(L:List HP)(hO:Has w (Mk kStr vInt b t::L)) :
  zCl 92 #[.map (some b)] w fun e w'=>e=.returned (.map (some w.heap.size))∧Has w' (Mk kStr vInt w.heap.size t::Mk kStr vInt b t::L)∧Keep w w':=by
 obtain⟨D,h1,h2⟩:=Mk.iff.1 hO;obtain⟨es,clock,hF,h3⟩:=Mp.iff.1 h2;have hb:w.heap[b]? = some (.map es clock):=h3.lookup;have hq:=fun w=>run_eql_map_nil_sl (P:=Tryz.prog) w 79 _ _ (some b) jg;have HF:=hid (show Has (w.alloc (.map es clock)) (Mk kStr vInt w.heap.size t::Mk kStr vInt b t::L) from by
  have h4:=Mk.iff.2 ⟨D,h1,Mp.iff.2 ⟨es,clock,hF,h3.alloc (.map es clock)⟩⟩;exact(Mk.iff.2 ⟨D,h1,Mp.iff.2 ⟨es,clock,hF,h4.re 2 [1,0]⟩⟩:Has _ (Mk kStr vInt b t::_)).re 2 [1,0])
 have HK:=hid ((Keep.refl w).alloc (.map es clock));clear hO h1 h2 h3 hF;go_enter Tryz.func92,Tryz.ntmps92
 go_wp2
 rw[run_callFunc_extern Tryz.func154 (by kernel_rfl) (by kernel_rfl) (by kernel_rfl) (e:=Extern.MapsClone.clone) (by kernel_rfl),run_maps_clone_sl w 79 hb];simp only[Result.andThen];rw[Oper.upon_value];go_wp2
 rw[run_typeAssert_map_sl _ 79 20 _ _ _ jg];simp only[Result.andThen];rw[Oper.upon_value];go_wp2
 go_ret
 exact⟨rfl,HF.out,HK.out⟩
theorem uK (nm:Option Nat)(t:List (Str×Int))(w:World)(L:List HP)(hO:Has w (Nms nm t::L)) :
  zCl 92 #[.map nm] w fun e w'=>∃ nm':Option Nat,e=.returned (.map nm')∧(∀ m,nm=some m→∃ m',nm'=some m')∧Has w' (Nms nm' t::Nms nm t::L)∧Keep w w':=by
 cases nm with
 | some m =>
  refine(tV m t w L hO).mono ?_;rintro e w' ⟨rfl,h1,h2⟩;exact⟨_,rfl,fun m' _=>⟨_,rfl⟩,h1,h2⟩
 | none =>
  have hq:=fun w=>run_eql_map_nil_sl (P:=Tryz.prog) w 79 _ _ none jg;have HF:=hid (show Has w (Nms none t::Nms none t::L) from by
   have ht:t = []:=(Has.aC.1 hO).1;exact Has.aC.2 ⟨ht,hO⟩)
  clear hO;go_enter Tryz.func92,Tryz.ntmps92
  go_wp2
  go_ret
  exact⟨none,rfl,fun m h=>(by cases h),HF.out,Keep.refl _⟩
theorem sw (v:Value)(xs:List Int)(w:World)(L:List HP)(hO:Has w L)(hr:Rd w v 1 xs.length (bc xs))(hsm:xs.length≤1000000000) :
  zCl 87 #[v] w fun e w'=>∃ v',e=.returned v'∧l4 v'=l4 v∧Has w' (Bytes v' xs::L)∧Keep w w' :=
 (oR v xs w L hO hr hsm).mono fun _ _ ⟨v',h1,h2,h3,h4⟩=>⟨v',h1,h4,h2,h3⟩
theorem xS {w:World}{L:List HP}{k:Int}{v dv:Value}{xs:List Int}(hn:l4 v=l4 dv)(hd:k=3→l4 dv=false)(h:Has w (Bytes v xs::L)):Has w (Dat k v xs::L):=by
 by_cases hk:k=3
 ·unfold Dat;rw[if_pos hk];obtain⟨hl,⟨rfl,-⟩|⟨g,cap,cur,rfl,h1,h2,h3,h4,h5⟩⟩:=h.ao
  ·have:=hd hk;rw[←hn] at this;cases this
  ·rw[Nat.mul_one] at h4;exact lY.2 ⟨g,cap,cur,_,⟨rfl,h1,by omega,h4⟩,h5⟩
 ·rw[nt hk];exact h
theorem Cs {w:World}{L:List HP}{k:Int}{dv:Value}{xs:List Int}(h:Has w (Dat k dv xs::L)):k=3→l4 dv=false:=by
 intro hk;unfold Dat at h;rw[if_pos hk] at h;obtain⟨g,cap,cur,sp,⟨rfl,-⟩,-⟩:=lY.1 h;rfl
theorem Cj (T:List Tb.Slot)(hT:T.length=16)(g:Nat)(w:World)(h:∀ i,w.cell? ⟨g,i,none⟩=(Tb.cells T)[i]?):(Instr.loadAt 127 (.pointer (some ⟨g,0,none⟩))).run Tryz.prog w=.ok (.agg (Tb.cells T)) w:=by
 have hs:(Tb.cells T).size=64:=by have:=Tb.encs_len T;simp[Tb.cells,this,hT]
 have e:=run_loadCells_list (P:=Tryz.prog) w ⟨g,0,none⟩ (Tb.cells T).toList (fun j v hj=>by rw[i6,Nat.zero_add,h j];simpa using hj);simp only[Array.length_toList,hs,Array.toArray_toList] at e;simp[Instr.loadAt,Instr.sureAddr,loadVar,e]
theorem wo (T:List Tb.Slot):∀ v∈(Tb.cells T).toList,v.oneCell'=true:=by
 intro v hv;simp only[Tb.cells,List.toList_toArray] at hv;induction T with
 | nil=>cases hv
 | cons s T ih =>
  rw[Tb.encs] at hv;rcases List.mem_append.1 hv with hv|hv
  ·simp only[Tb.Slot.enc,List.mem_cons,List.not_mem_nil,or_false] at hv;rcases hv with rfl|rfl|rfl|rfl <;> rfl
  ·exact ih hv
def zTab:Array Value:=Tb.cells (List.replicate 16 Tb.none4)
theorem wB (w:World):(zeroValue 127).run Tryz.prog w=.ok (.agg zTab) w:=by unfold zTab;kernel_rfl
theorem mz (T:List Tb.Slot)(hT:T.length=16):(Tb.cells T).size=64:=by have:=Tb.encs_len T;simp[Tb.cells,this,hT]
theorem qF:zTab.size=64:=mz _ (by simp)
theorem xD (T:List Tb.Slot)(hT:T.length=16):(zTab.toList.take 0++(Tb.cells T).toList++zTab.toList.drop (0+(Tb.cells T).size)).toArray=Tb.cells T:=by
 rw[List.take_zero,List.nil_append,List.drop_of_length_le (by rw[mz T hT,Array.length_toList,qF];exact Nat.le_refl _),List.append_nil,Array.toArray_toList]
def jI (P:List Pn)(rem:List Int):List (Int×Nod):=(pnN P).filter fun e => !decide (e.1∈rem)
theorem r9 (P:List Pn)(rem:List Int)(h:∀ p∈P,p.1∈rem):jI P rem = []:=by
 unfold jI;rw[List.filter_eq_nil_iff];intro e he;obtain⟨p,hp,rfl⟩:=List.mem_map.1 he;simp[h p hp]
theorem t8 (P:List Pn):jI P []=pnN P:=by
 unfold jI;rw[List.filter_eq_self];intro e _;simp
theorem tf {P1 P2:List Pn}{rem:List Int}{n:Int}{b:Nat}{x:Nod}(hd:((P1++(n,b,x)::P2).map Prod.fst).Nodup)(hr:n∈rem):(jI (P1++(n,b,x)::P2) (rem.filter fun y => !decide (y=n))).Perm (jI (P1++(n,b,x)::P2) rem ++ [(n,x)]):=by
 unfold jI;have hE:∀ l:List Pn,n∉l.map Prod.fst→(pnN l).filter (fun e => !decide (e.1∈rem.filter fun y => !decide (y=n)))=(pnN l).filter fun e => !decide (e.1∈rem):=by
  intro l hl;refine List.filter_congr fun e he=>?_;obtain⟨p,hp,rfl⟩:=List.mem_map.1 he;have hne:p.1≠n:=fun e=>hl (e ▸ List.mem_map_of_mem hp);simp[hne]
 simp only[List.map_append,List.map_cons] at hd;have h1:=List.nodup_append.1 hd;have hn1:n∉P1.map Prod.fst:=fun hm=>h1.2.2 n hm n (by simp) rfl;have hn2:n∉P2.map Prod.fst:=(List.nodup_cons.1 h1.2.1).1;have e:∀ f,(pnN (P1++(n,b,x)::P2)).filter f=(pnN P1).filter f++([(n,x)]:List (Int×Nod)).filter f++(pnN P2).filter f:=by
  intro f;simp[pnN,List.filter_append,List.filter_cons];split <;> simp
 rw[e,e,hE P1 hn1,hE P2 hn2];rw[List.filter_cons_of_pos (by simp),List.filter_cons_of_neg (by simp[hr])];simp only[List.filter_nil,List.append_nil];rw[List.append_assoc,List.append_assoc];exact(List.perm_append_comm (l₁ := [(n,x)])).append_left _
theorem vZ {w:World}{M:List HP}{A:List HP}{P1 P2:List Pn}{p:Pn} : Has w (A++(pnC (P1++p::P2)++M))↔Has w (Ndc p.2.1 p.2.2::(A++(pnC (P1++P2)++M))):=by
 have h1:(pnC (P1++p::P2)++M).Perm (Ndc p.2.1 p.2.2::(pnC (P1++P2)++M)):=by
  exact zc6
 have e:(A++(pnC (P1++p::P2)++M)).Perm (Ndc p.2.1 p.2.2::(A++(pnC (P1++P2)++M))):=(h1.append_left A).trans List.perm_middle;exact⟨fun h=>h.perm e,fun h=>h.perm e.symm⟩
theorem zC {w:World}{M:List HP}{A:List HP}{P P2:List Pn}{n:Int}{g:Nat}{x:Nod}(h:Has w (Ndc g x::(A++(pnC P++(pnC P2++M))))):Has w (A++(pnC P++(pnC (P2 ++ [(n,g,x)])++M))):=by
 refine h.perm ?_;have e:pnC (P2 ++ [(n,g,x)])++M=pnC P2++(Ndc g x::M):=by
  rw[rO,List.append_assoc];rfl
 rw[e];have h1:(Ndc g x::(pnC P2++M)).Perm (pnC P2++(Ndc g x::M)):=List.perm_middle.symm;have h2:(Ndc g x::(pnC P++(pnC P2++M))).Perm (pnC P++(pnC P2++(Ndc g x::M))):=List.perm_middle.symm.trans (h1.append_left _);exact List.perm_middle.symm.trans (h2.append_left A)
theorem Ee {w:World}{M:List HP}{P P1 P3:List Pn}{n:Int}{b g:Nat}{x:Nod}{dv dv' wv wv':Value}{nm nm':Option Nat}{R1 R2 R3 R4 R5 R6:HP}(hP:P=P1++(n,b,x)::P3)(h2:x.aa=2→∃ m,nm=some m)(h2':x.aa=2→∃ m,nm'=some m)(hn:l4 dv'=l4 dv)(hd:x.aa=3→l4 dv=false)
  (h:Has w (pt g (.cells (gg x dv' wv' nm') 82)::Nms nm' x.ab::Nms nm x.ab::Bools wv' x.wr::Bytes dv' x.data::pt b (.cells (gg x dv wv nm) 82)::Dat x.aa dv x.data::Bools wv x.wr::R1::R2::R3::R4::R5::R6::(pnC (P1++P3)++M))) :
  Has w (Ndc g x::R1::R2::R3::R4::R5::R6::(pnC P++M)):=by
 have h3:=h.re 8 [5,6,7,2,0,4,3,1];have h4:Has w (Ndc b x::_):=fG.2 ⟨dv,wv,nm,h2,h3⟩;have h5:=h4.re 5 [2,1,3,4,0];have h6:=xS (k:=x.aa) hn hd h5;have h7:=h6.re 5 [1,0,2,3,4];have h8:Has w (Ndc g x::_):=fG.2 ⟨dv',wv',nm',h2',h7⟩;have h9:=h8.re 2 [1,0];have h10:=(vZ (p:=(n,b,x)) (P1:=P1) (P2:=P3) (M:=M) (A := [Ndc g x,R1,R2,R3,R4,R5,R6])).2 h9;rw[←hP] at h10;exact h10
theorem Je (q:Nat)(S:Tre)(w:World)(L:List HP)(hb:∀ n x,fnd S.ac n=some x→x.data.length≤100000∧x.wr.length≤100000)(hn:S.ac.length≤100000)(hO:Has w (Trc q S::L)) :
  zCl 29 #[.pointer (some ⟨q,0,none⟩)] w fun e w'=>∃ q',e=.returned (.pointer (some ⟨q',0,none⟩))∧Has w' (Trc q' S::Trc q S::L)∧Keep w w':=by
 obtain⟨m,f,P,hJ,h⟩:=eY.1 hO;have fW:=hid hJ;have h':=fQ.1 h;have pP:=hid (Trb.nodup h);have HO:=hid (show Has w (Mk kInt vPtr m (pnB P)::pt q (.cells (gF m f S.last) 87)::Tab f S.ak::(pnC P++L)) from h'.perm (.swap _ _ _));have hq0:=HO.out.p1.e0;have hq1:=HO.out.p1.e1;have hq2:=HO.out.p1.e2;have yB:=hid (show ∀ p∈P,p.2.2.data.length≤100000∧p.2.2.wr.length≤100000 from by
  intro p hp;have hm:(p.1,p.2.2)∈pnN P:=List.mem_map.2 ⟨p,hp,rfl⟩;have hnd:((pnN P).map Prod.fst).Nodup:=by rw[gr];exact pP.out
  exact hb p.1 p.2.2 (by rw[←hJ.1];exact gf hnd hm))
 have hPl:P.length=S.ac.length:=by rw[←hJ.1];simp[pnN]
 have MK:P.length≤100000:=by omega
 have hmm:=@run_makeMap Tryz.prog;clear hO h h' hJ hb;go_enter Tryz.func29,Tryz.ntmps29
 go_upto_region 3 with fail
 go_upto_region 4 with (first|(with_reducible refine rU rfl 127 _ rfl (.pointer (some ⟨f,0,none⟩)) (.agg (Tb.cells S.ak)) rfl (Cj S.ak fW.out.2 f w HO.out.p2.cells) ?_)|(with_reducible refine oD rfl 127 rfl zTab wB ?_)|(refine oN rfl 127 _ _ rfl w.heap.size 0 zTab (Tb.cells S.ak) 127 (HO.out.alloc (.cells zTab 127)) rfl rfl (fun w=>by rw[mz S.ak fW.out.2];exact Tryz.sizeOf127 w) (wo S.ak) (by rw[mz S.ak fW.out.2,qF];decide) ?_;intro w2 h2 k2))
 rw[xD S.ak fW.out.2] at h2;have eZ:=hid h2;have fu:=hid (((Keep.refl w).alloc (.cells zTab 127)).trans k2);clear h2 k2 hq0 hq1 hq2 HO;generalize w.heap.size=f2 at *;have eW:=hid (show Has (w2.alloc (.map #[] 0)) (Mk kInt vPtr m (pnB P)::Mk kInt vPtr w2.heap.size []::pt q (.cells (gF m f S.last) 87)::Tab f S.ak::Tab f2 S.ak::(pnC P++L)) from(Mk.made eZ.out kInt vPtr).re 5 [2,0,3,4,1]);have fH:=hid (fu.out.alloc (.map #[] 0));have hq0:=eZ.out.p2.e0;have hq1:(w2.alloc (.map #[] 0)).cell? ⟨q,1,none⟩=some (.int .i64 S.last):=eW.out.p2.cells 1;have fg:=hid (show Has ((w2.alloc (.map #[] 0)).alloc (.cells (gF w2.heap.size f2 S.last) 87)) (Mk kInt vPtr m (pnB P)::Mk kInt vPtr w2.heap.size []::pt (w2.heap.size+1) (.cells (gF w2.heap.size f2 S.last) 87)::pt q (.cells (gF m f S.last) 87)::Tab f S.ak::Tab f2 S.ak::(pnC P++(pnC []++L))) from by
  have e1:(w2.alloc (.map #[] 0)).heap.size=w2.heap.size+1:=by show (Array.push _ _).size=_;rw[Array.size_push]
  rw[←e1];exact(eW.out.alloc (.cells (gF w2.heap.size f2 S.last) 87)).re 6 [1,2,0,3,4,5])
 have fO:=hid (fH.out.alloc (.cells (gF w2.heap.size f2 S.last) 87));have hq2:((w2.alloc (.map #[] 0)).alloc (.cells (gF w2.heap.size f2 S.last) 87)).cell? ⟨q,0,none⟩=some (.map (some m)):=fg.out.p3.cells 0;clear eZ fu eW fH;go_upto_region 5 with fail
 unfold gF at fg fO hq2;generalize (w2.alloc (.map #[] 0)).alloc (.cells #[.map (some w2.heap.size),.int .i64 S.last,.pointer (some ⟨f2,0,none⟩)] 87)=w4 at *;generalize w2.heap.size+1=q2 at *;generalize w2.heap.size=m2 at *;clear hq0 hq1;go_wp2_with (at_range;refine gY fg.out tNo lq rfl _ rfl rfl ?_;intro w5 kk hK5 hs5)
 try go_frame
 have fi:=hid kk;have ge:=hid (fO.out.trans hK5);clear kk hK5 hs5 hq2 fg fO;generalize w4.heap.size=r at *;generalize hr0:(pnB P).map Prod.fst=rem0 at *;have xZ:=hid (show jI P rem0 = [] from r9 P rem0 fun p hp=>by rw[←hr0,iv];exact List.mem_map_of_mem hp);clear hr0;generalize (pnB P).length=cnt0 at *;go_loopw [] (fun w'=>∃ (rem:List Int) (cnt:Nat) (P2:List Pn),(pnN P2).Perm (jI P rem)∧Hid (Has w' (Mr kInt vPtr m r (pnB P) rem cnt::Mk kInt vPtr m2 (pnB P2)::pt q2 (.cells (gF m2 f2 S.last) 87)::pt q (.cells (gF m f S.last) 87)::Tab f S.ak::Tab f2 S.ak::(pnC P++(pnC P2++L))))∧Hid (Keep w w')) (fun w'=>w'.rangeLeft m r)
 case atStart=>exact⟨rem0,cnt0,[],by rw[xZ.out];exact List.Perm.refl _,fi,ge⟩
 case round =>
  clear fi ge xZ;obtain⟨rem,cnt,P2,hP2,HO,HK⟩:=hrel;have hleft:=Mr.left HO.out;have A8:=hid hleft;have HP2:=hid hP2;clear hP2;go_wp2_with (at_next;refine ik HO.out rfl _ rfl rfl ?_ ?_)
  ·intro gz;subst gz;have fq:=hid (Mr.end HO.out);clear HO hleft;go_wp2_with fail
   go_ret
   refine⟨q2,rfl,?_,HK.out⟩;have hpm:=HP2.out;rw[t8,fW.out.1] at hpm;have h1:Has wr (pt q (.cells (gF m f S.last) 87)::Mk kInt vPtr m (pnB P)::Tab f S.ak::(pnC P++([pt q2 (.cells (gF m2 f2 S.last) 87),Mk kInt vPtr m2 (pnB P2),Tab f2 S.ak]++(pnC P2++L)))):=by
    have h2:=fq.out.re 6 [3,0,4,2,1,5];exact h2.perm (.cons _ (.cons _ (.cons _ (List.perm_append_comm_assoc [pt q2 (.cells (gF m2 f2 S.last) 87),Mk kInt vPtr m2 (pnB P2),Tab f2 S.ak] (pnC P) (pnC P2++L)))))
   have h2:Has wr (Trc q S::([pt q2 (.cells (gF m2 f2 S.last) 87),Mk kInt vPtr m2 (pnB P2),Tab f2 S.ak]++(pnC P2++L))):=eY.2 ⟨m,f,P,fW.out,fQ.2 h1⟩;have h3:Has wr (pt q2 (.cells (gF m2 f2 S.last) 87)::Mk kInt vPtr m2 (pnB P2)::Tab f2 S.ak::Trc q S::(pnC P2++L)):=h2.re 4 [1,2,3,0];refine Aq hpm fW.out.2 (fQ.2 (h3.perm (.cons _ (.cons _ (.cons _ ?_)))));exact List.perm_middle.symm
  ·rintro n ob w6 cnt' hp hr hky qu G7 hK6 hsz hen;obtain⟨⟨n',b,x⟩,yu,he⟩:=List.mem_map.1 hp;simp only[Prod.mk.injEq] at he;obtain⟨rfl,rfl⟩:=he;simp only[pQ,oZ] at hen ⊢;have tz:=hen;obtain⟨P1,P3,kj⟩:=List.append_of_mem yu;have nZ:=hid kj;have hbx:=yB.out _ yu;have OL:x.data.length≤100000:=hbx.1;have hbx2:x.wr.length≤100000:=hbx.2;clear hbx;have fP:=hid (show Has w6 (Ndc b x::Mr kInt vPtr m r (pnB P) (rem.filter fun y => !decide (y=n')) cnt'::Mk kInt vPtr m2 (pnB P2)::pt q2 (.cells (gF m2 f2 S.last) 87)::pt q (.cells (gF m f S.last) 87)::Tab f S.ak::Tab f2 S.ak::(pnC (P1++P3)++(pnC P2++L))) from(vZ (p:=(n',b,x)) (A := [Mr kInt vPtr m r (pnB P) (rem.filter fun y => !decide (y=n')) cnt',Mk kInt vPtr m2 (pnB P2),pt q2 (.cells (gF m2 f2 S.last) 87),pt q (.cells (gF m f S.last) 87),Tab f S.ak,Tab f2 S.ak])).1 (by rw[←kj];exact qu));have HST:=hid (show (jI P (rem.filter fun y => !decide (y=n'))).Perm (jI P rem ++ [(n',x)]) from by
    rw[kj];exact tf (by rw[←kj];exact pP.out) hr)
   have gZ:=hid (HK.out.trans hK6);have N6:=hid G7;have HR:=hid hr;have Lo:=hid hky;clear hp hr hky qu G7 hK6 hsz kj yu hleft HO HK;obtain⟨dv,wv,nm,hnm,hN⟩:=fG.1 fP.out;have lg:=hid hnm;have HN:=hid hN;clear hnm hN fP;have hc0:=HN.out.e0;have hc1:=HN.out.e1;have hc2:=HN.out.e2;have hc3:=HN.out.e3;have hc4:=HN.out.e4;have hc5:=HN.out.e5;have hc6:=HN.out.e6;have hdr:=Dat.rd HN.out.p1;have rW:=hid (Cs HN.out.p1);have Hg:Rd w6 wv 1 x.wr.length (x.wr.map Value.bool):=Bools.rd HN.out.p2;obtain⟨pd,cd,rfl,-⟩:=hdr.form;obtain⟨pw,cw,rfl,-⟩:=Hg.form;clear hdr Hg;go_upto_region 9 with fail
   have HA:=hid (HN.out.alloc (.cells #[.int .i64 x.aa,.slice pd x.data.length cd,.slice pw x.wr.length cw,.map nm,.int .i64 x.most,.int .i64 x.ah,.int .i64 x.above] 82));have HB:=hid (gZ.out.alloc (.cells #[.int .i64 x.aa,.slice pd x.data.length cd,.slice pw x.wr.length cw,.map nm,.int .i64 x.most,.int .i64 x.ah,.int .i64 x.above] 82));clear HN gZ hc0 hc1 hc2 hc3 hc4 hc5 hc6;generalize w6.alloc (.cells #[.int .i64 x.aa,.slice pd x.data.length cd,.slice pw x.wr.length cw,.map nm,.int .i64 x.most,.int .i64 x.ah,.int .i64 x.above] 82)=y6 at *;generalize w6.heap.size=g7 at *;have FM:=hid HA.out.drew;have Nh:=hid HB.out.drew;clear HA HB;refine eP (fun w'=>w'.cell? ⟨b,1,none⟩=some (.slice pd x.data.length cd)∧w'.cell? ⟨b,2,none⟩=some (.slice pw x.wr.length cw)∧w'.cell? ⟨b,3,none⟩=some (.map nm)) (by kernel_rfl) (by kernel_rfl) ⟨FM.out.p1.cells 1,FM.out.p1.cells 2,FM.out.p1.cells 3⟩ ?_;generalize y6.drew=yd at *;repeat (first|refine wr3 ?_|refine wk ?_)
   refine wa fun K hK=>?_;go_simp
   refine(sw _ x.data yd _ FM.out (Dat.rd FM.out.p2) (by omega)).mono ?_;rintro e w8 ⟨v8,rfl,MY,o0,hK8⟩;have fI:=hid o0;have iI:=hid ((Nh.out).trans hK8);clear o0 hK8;try dsimp only
   refine hK.out _ _ (⟨fI.out.p2.cells 1,fI.out.p2.cells 2,fI.out.p2.cells 3⟩) ?_;clear hK K;try simp only[Act.put,zpu]
   clear FM Nh;repeat (first|refine wr3 ?_|refine wk ?_)
   refine wa fun K hK=>?_;go_simp
   refine(oL _ x.wr w8 _ fI.out (Bools.rd fI.out.p4) (by omega)).mono ?_;rintro e w9 ⟨v9,rfl,mU,hK9⟩;have fJ:=hid mU;have gQ:=hid ((iI.out).trans hK9);clear mU hK9;try dsimp only
   refine hK.out _ _ (⟨fJ.out.p3.cells 1,fJ.out.p3.cells 2,fJ.out.p3.cells 3⟩) ?_;clear hK K;try simp only[Act.put,zpu]
   clear fI iI;repeat (first|refine wr3 ?_|refine wk ?_)
   refine wa fun K hK=>?_;go_simp
   refine(uK nm x.ab w9 _ fJ.out.p6).mono ?_;rintro e w10 ⟨nm',rfl,hnm',sU,hK10⟩;have gJ:=hid sU;have ko:=hid ((gQ.out).trans hK10);clear sU hK10;try dsimp only
   refine hK.out _ _ (⟨(gJ.out.re 6 [5]).cells 1,(gJ.out.re 6 [5]).cells 2,(gJ.out.re 6 [5]).cells 3⟩) ?_;clear hK K;try simp only[Act.put,zpu]
   clear fJ gQ;repeat (first|refine wr3 ?_|refine wk ?_)
   obtain⟨p8,c8,DG,-⟩:=(Bytes.rd gJ.out.p3).form;subst DG;obtain⟨p9,c9,yf,-⟩:=(Bools.rd gJ.out.p2).form;subst yf;have HZ:=hid (gJ.out.re 6 [4,0,1,2,3,5]);clear gJ;have hs1:=HZ.out.cells 1;have ht1:=HZ.out.thaw 1;refine wa fun K hK=>?_;go_simp
   have HZ1:=hid (HZ.out.set 1 (.slice p8 x.data.length c8));refine hK.out _ _ ⟨HZ1.out.p5.cells 1,HZ1.out.p5.cells 2,HZ1.out.p5.cells 3⟩ ?_;clear hK K hs1 ht1 HZ;try simp only[Act.put,zpu]
   generalize hu1:w10.setCell ⟨g7,1,none⟩ (.slice p8 x.data.length c8)=u1 at *;have nj:=hid (by rw[←hu1];exact ko.out.set _ _:Keep w u1);clear hu1 ko;repeat (first|refine wr3 ?_|refine wk ?_)
   have hs2:=HZ1.out.cells 2;have ht2:=HZ1.out.thaw 2;refine wa fun K hK=>?_;go_simp
   have HZ2:=hid (HZ1.out.set 2 (.slice p9 x.wr.length c9));refine hK.out _ _ ⟨HZ2.out.p5.cells 1,HZ2.out.p5.cells 2,HZ2.out.p5.cells 3⟩ ?_;clear hK K hs2 ht2 HZ1;try simp only[Act.put,zpu]
   generalize hu2:u1.setCell ⟨g7,2,none⟩ (.slice p9 x.wr.length c9)=u2 at *;have na:=hid (by rw[←hu2];exact nj.out.set _ _:Keep w u2);clear hu2 nj;repeat (first|refine wr3 ?_|refine wk ?_)
   have hs3:=HZ2.out.cells 3;have ht3:=HZ2.out.thaw 3;refine wa fun K hK=>?_;go_simp
   have HZ3:=hid (HZ2.out.set 3 (.map nm'));refine hK.out _ _ ⟨HZ3.out.p5.cells 1,HZ3.out.p5.cells 2,HZ3.out.p5.cells 3⟩ ?_;clear hK K hs3 ht3 HZ2;try simp only[Act.put,zpu]
   generalize hu3:u2.setCell ⟨g7,3,none⟩ (.map nm')=u3 at *;have qn:=hid (by rw[←hu3];exact na.out.set _ _:Keep w u3);clear hu3 na;refine eR ?_;have HY:=hid (Ee (M:=pnC P2++L) nZ.out lg.out (fun h=>by obtain⟨z,hz⟩:=lg.out h;exact hnm' z hz) MY rW.out HZ3.out);clear HZ3 MY hnm';have hq3:=HY.out.p3.e0;have hlen:P2.length≤P.length:=by
    have h1:=HP2.out.length_eq;have h2:(jI P rem).length≤(pnN P).length:=List.length_filter_le _ _;simp only[pnN,List.length_map] at h1 h2;omega
   have hno:n'∉(pnB P2).map Prod.fst:=by
    rw[iv];intro hm;have h1:n'∈(pnN P2).map Prod.fst:=by rw[gr];exact hm
    obtain⟨e,he,LI⟩:=List.mem_map.1 ((HP2.out.map Prod.fst).mem_iff.1 h1);have h2:=(List.mem_filter.1 he).2;rw[LI] at h2;simp[HR.out] at h2
   have DF:=hid hno;clear hno;go_wp2_with (refine my (HY.out.re 3 [2,0,1]) (by rw[show (pnB P2).length=P2.length by simp[pnB]];omega) tNo lq rfl _ _ _ rfl rfl n' Lo.out rfl (some g7) trivial rfl ?_;intro u4 hO4 hK4;simp only[Act.put])
   have e:eX (pnB P2) n' (some g7)=pnB (P2 ++ [(n',g7,x)]):=by rw[gT _ DF.out];simp[pnB]
   have h5:=hO4.re 3 [1,2,0];rw[e] at h5;have h6:=zC (n:=n') (A := [Mr kInt vPtr m r (pnB P) (rem.filter fun y => !decide (y=n')) cnt',Mk kInt vPtr m2 (pnB (P2 ++ [(n',g7,x)])),pt q2 (.cells (gF m2 f2 S.last) 87),pt q (.cells (gF m f S.last) 87),Tab f S.ak,Tab f2 S.ak]) (P:=P) (P2:=P2) (M:=L) h5;have hl2:=Mr.left h6;refine⟨⟨_,_,_,?_,hid h6,hid (qn.out.trans hK4)⟩,by rw[hl2,A8.out];exact N6.out⟩;have e2:pnN (P2 ++ [(n',g7,x)])=pnN P2 ++ [(n',x)]:=by simp[pnN]
   rw[e2];exact(HP2.out.append_right _).trans HST.out.symm
theorem uA {α:Type} [DecidableEq α] {l:List α} : ∀ {l':List α},l.Nodup→(∀ x∈l,x∈l')→l.length≤l'.length:=by
 induction l with
 | nil=>intro l' _ _;simp
 | cons x l ih =>
  intro l' hn hs;rw[List.nodup_cons] at hn;have hx:x∈l':=hs x (by simp);have h1:=ih (l':=l'.erase x) hn.2 fun y hy=>by
   have hne:y≠x:=by rintro rfl;exact hn.1 hy
   exact(List.mem_erase_of_ne hne).2 (hs y (by simp[hy]))
  rw[List.length_erase_of_mem hx] at h1;have:0<l'.length:=List.length_pos_of_mem hx;simp only[List.length_cons];omega
variable {S:Tre} {rk:Int→Nat} {k:Nat}
theorem Gd.bT (h:Gd S rk k):((iL S).map Prod.fst).Nodup:=by
 obtain⟨x1,hx1⟩:=h.x.has1;unfold List.Nodup;rw[List.pairwise_map];exact h.aU 22 1 x1 [] hx1
def BY (S:Tre):List (List Str) := []::S.ac.flatMap fun p=>p.2.ab.map fun e=>S.way p.1 ++ [e.1]
theorem Gd.cI (h:Gd S rk k){e:List Str×Int×Nod}(he:e∈iL S):e.1∈BY S:=by
 obtain⟨h1,h2⟩:=(h.bh e).1 he;by_cases h0:e.1 = []
 ·rw[h0];exact List.mem_cons_self
 ·obtain⟨qs,p,hq⟩:∃ qs p,e.1=qs ++ [p]:=⟨e.1.dropLast,e.1.getLast h0,(List.dropLast_concat_getLast h0).symm⟩
  rw[hq] at h1 ⊢;obtain⟨d,hd,hf⟩:=tJ h1;obtain⟨x1,hx1⟩:=h.x.has1;obtain⟨y,hy,_⟩:=h.aT qs 1 x1 hx1 d hd;rw[fC hy] at hf;have hk:y.aa=2:=Classical.byContradiction fun h2=>by
   rw[((h.ax hy).file h2).1] at hf;cases hf
  have hw:=h.cP qs.length qs d y rfl hy hk hd;refine List.mem_cons_of_mem _ (List.mem_flatMap.2 ⟨(d,y),fj hy,List.mem_map.2 ⟨_,fj hf,?_⟩⟩);show S.way d ++ [p]=_;rw[hw]
theorem Gd.cJ (h:Gd S rk k):(iL S).length≤1+(k+1)*k:=by
 have h1:=uA h.bT (l':=BY S) fun x hx=>by
  obtain⟨e,he,rfl⟩:=List.mem_map.1 hx;exact h.cI he
 rw[List.length_map] at h1;have h2:(BY S).length≤1+S.ac.length*k:=by
  unfold BY;rw[List.length_cons,List.length_flatMap];have:∀ t:List (Int×Nod),(∀ p∈t,p.2.ab.length≤k)→(t.map fun p=>(p.2.ab.map fun e=>S.way p.1 ++ [e.1]).length).sum≤t.length*k:=by
   intro t;induction t with
   | nil=>intro _;simp
   | cons p t ih =>
    intro hp;have h3:=ih fun q hq=>hp q (List.mem_cons_of_mem _ hq);have h4:=hp p List.mem_cons_self;rw[List.map_cons,List.sum_cons,List.length_map,List.length_cons,Nat.add_mul];omega
  have h5:=this S.ac fun p hp=>(h.ax (gf h.x.keys (show (p.1,p.2)∈S.ac from hp))).size.2.2.1;omega
 have h3:S.ac.length*k≤(k+1)*k:=Nat.mul_le_mul_right _ h.many;omega
theorem Gd.aZ (h:Gd S rk k)(hk:k<900):(iL S).length≤1000000:=by
 have h1:=h.cJ;have h2:(k+1)*k≤900*900:=Nat.mul_le_mul (by omega) (by omega);omega
end Go.Proofs.YtmgpgbfgemebbaaGreatDoor
namespace Go.Proofs.YtmgpgbfgemebbaaGreatDoor
open Go.RowKit Go.Own
theorem zP {R:List Oq}(hR:∀ y∈R,ia y=false)(k:Nat)(hk:k≤R.length):Gdx (aQ tre0 (R.take k)) k:=by
 have h:=uW Mn (R.take k) fun y hy=>hR y (List.mem_of_mem_take hy)
 rwa [List.length_take,Nat.min_eq_left hk,Nat.zero_add] at h
theorem Jk {R:List Oq}(hR:∀ y∈R,ia y=false):Gdx (aQ tre0 R) R.length:=by
 have h:=zP hR R.length (Nat.le_refl _)
 rwa [List.take_length] at h
theorem zq {S:Tre}{k:Nat}(q:Nat)(w:World)(L:List HP)(h:Gdx S k)(hk:k<90000)(hO:Has w (Trc q S::L)) :
  zCl 29 #[.pointer (some ⟨q,0,none⟩)] w fun e w'=>∃ q',e=.returned (.pointer (some ⟨q',0,none⟩))∧Has w' (Trc q' S::Trc q S::L)∧Keep w w':=by
 obtain⟨rk,h⟩:=h;exact Je q S w L (fun n x hx=>⟨(h.ax hx).size.1,(h.ax hx).size.2.1⟩) (by have:=h.many;omega) hO
theorem mc {S:Tre}{k:Nat}(q:Nat)(w:World)(L:List HP)(h:Gdx S k)(hk:k<900)(hO:Has w (Trc q S::L)) :
  zCl 28 #[.pointer (some ⟨q,0,none⟩)] w fun e w'=>∃ p c os,e=.returned (.slice p (os.length) c)∧(os.map Sn.key).Perm ((seen S.ac 22 1 []).map jQ)∧Srt os∧Has w' (Sns (.slice p os.length c) os::Trc q S::L)∧Keep w w':=by
 have hf:(iL S).length≤1000000:=by
  obtain⟨rk,h⟩:=h;exact h.aZ hk
 refine(xy q w L h (by omega) hf hO).mono ?_;rintro e w' ⟨p,c,os,rfl,hl,h1,h2,h3,h4⟩;exact⟨p,c,os,by rw[hl],h1,h2,h3,h4⟩
theorem rL {S:Tre}{k:Nat}(h:Gdx S k){os os':List Sn}(h1:(os.map Sn.key).Perm ((seen S.ac 22 1 []).map jQ))(h2:(os'.map Sn.key).Perm ((seen S.ac 22 1 []).map jQ))(s1:Srt os)(s2:Srt os'):os.map Sn.key=os'.map Sn.key:=by
 obtain⟨rk,h⟩:=h;exact h.cL h1 h2 s1 s2
def snRoot:Sn:=⟨[47],1,2,1,[],.slice none 0 0⟩
theorem EN (q:Nat)(S:Tre)(rk:Int→Nat)(k:Nat)(w:World)(L:List HP)(hk:k<900)(hG:Gd S rk k)(hD:DirE S)(hO:Has w (Rts q S::L)) :
  zCl 31 #[.pointer (some ⟨q,0,none⟩)] w fun e w'=>∃ p c os,e=.returned (.slice p os.length c)∧(os.map Sn.key).Perm ((seen S.ac 22 1 []).map jQ)∧Srt os∧Has w' (Sns (.slice p os.length c) os::Rts q S::L)∧Keep w w':=by
 obtain⟨g,c,R,hS,hO2⟩:=fh.1 hO;obtain⟨x1,hx1⟩:=hG.x.has1;obtain⟨hk2,ha0,hl1,-⟩:=(hG.ax hx1).root rfl;have hd:x1.data = []:=by have:=hD 1;rw[fC hx1] at this;exact this hk2
 obtain⟨FB,JD⟩:∃ FB,FB=(x1.ab.flatMap fun e=>seen S.ac 21 e.2 ([]++47::e.1)):=⟨_,rfl⟩
 have zr:seen S.ac 22 1 []=([47],1,x1)::FB:=by rw[JD,seen,hx1];rfl
 have hfew:FB.length+1≤1000000:=by
  have h1:=hG.aZ hk;have h2:=congrArg List.length (jw S);rw[zr,List.length_cons,List.length_map] at h2;omega
 have HB:=hid (fun(w:World)(L':List HP)(h:Has w (Rtb q g c R S.ak::L'))=>(show zCl 94 #[.pointer (some ⟨q,0,none⟩),.int .i64 1,.string ⟨#[]⟩] w fun e w'=>∃ v os,e=.returned v∧(os.map Sn.key).Perm (FB.map jQ)∧Has w' (Sns v os::Rtb q g c R S.ak::L')∧Keep w w' from by
  have h1:=Ff q g c R S rk k (by omega) hG hS 21 1 x1 [] w L' hx1 (by omega) (by simp) (by rw[←JD];omega) h;rw[←JD] at h1;exact h1))
 have Ic:=hid zr;have HX:=hid (by unfold jQ Sn.key snRoot;dsimp only;rw[hk2,hl1,hd]:jQ ([47],1,x1)=snRoot.key);have Ih:=hid hfew;have E1:=hid hS;have eT:=hid (hO2.alloc (.cells #[sV [47],.int .i64 1,.int .i64 2,.int .i64 1,.slice none 0 0] 57));have ff:=hid ((Keep.refl w).alloc (.cells #[sV [47],.int .i64 1,.int .i64 2,.int .i64 1,.slice none 0 0] 57));clear hS hO hO2 hx1 hk2 ha0 hl1 hd JD zr hfew hG hD hk;go_enter Tryz.func31,Tryz.ntmps31
 go_wp2_with fail
 generalize w.heap.size=gl at *;generalize w.alloc (.cells #[sV [47],.int .i64 1,.int .i64 2,.int .i64 1,.slice none 0 0] 57)=w1 at *;refine(HB.out w1 _ eT.out.p1).mono ?_;rintro e w2 ⟨v,os,rfl,hp,h2,k2⟩;obtain⟨p2,c2,rfl,-⟩:=(Has.rd (fZ.1 h2)).form;have HP:=hid hp;have fu:=hid (ff.out.trans k2);have HL2:=hid (by have h1:=hp.length_eq;rw[List.length_map,List.length_map] at h1;have:=Ih.out;omega:os.length≤1000000);have Jp:=Has.rd (fZ.1 h2);have eZ:=hid ((show Has w2 (pt gl (.cells #[sV [47],.int .i64 1,.int .i64 2,.int .i64 1,.slice none 0 0] 57)::_) from h2.re 3 [2,0,1]).row_of (n:=1) (cap:=1) (size:=5) (xs:=snRoot.enc) (by decide) (by decide) rfl rfl rfl);clear hp k2 h2 eT ff;try dsimp only
 go_wp2_with (at_builtin;refine fY rfl _ _ _ rfl Tryz.underlying48 ie rfl (by decide) eZ.out rfl _ os.length _ rfl Jp (iX _) (eU (by have:=HL2.out;omega)) (by have:=HL2.out;omega) ?_)
 intro v3 w3 h3 k3;obtain⟨p3,c3,rfl,-⟩:=(Has.rd h3).form;have fH:=hid (fu.out.trans k3);have eW:=hid (show Has w3 (Sns (.slice p3 (1+os.length) c3) (snRoot::os)::Rtb q g c R S.ak::L) from by
  refine fZ.2 ?_;have h4:Has w3 (row (.slice p3 (1+os.length) c3) 57 5 (1+os.length) (snRoot.enc++fM os)::(os.map (fun s=>Bytes s.dv s.data)++(Rtb q g c R S.ak::L))):=by
   have h5:=fZ.1 (show Has w3 (Sns (.slice p2 os.length c2) os::_) from h3.p1);have h6:=(h5.perm (show (row (.slice p2 os.length c2) 57 5 os.length (fM os)::(os.map (fun s=>Bytes s.dv s.data)++(row (.slice p3 (1+os.length) c3) 57 5 (1+os.length) (snRoot.enc++fM os)::Rtb q g c R S.ak::L))).Perm _ from .cons _ List.perm_middle)).drop;exact h6
  rw[Nat.add_comm] at h4 ⊢;have h7:=(h4.al 5 1).p1;exact h7)
 have hl3:1+os.length=(snRoot::os).length:=by rw[List.length_cons,Nat.add_comm]
 have Qq:=hid hl3;clear h3 k3 eZ fu Jp hl3;go_wp2_with fail
 refine(CR _ _ w3 _ (by have:=Ih.out;have h1:=HP.out.length_eq;rw[List.length_map,List.length_map] at h1;rw[List.length_cons];omega) eW.out).mono ?_;rintro e w4 ⟨v4,os4,rfl,lP,hs4,h4,k4⟩;obtain⟨p4,c4,rfl,-⟩:=(Has.rd (fZ.1 h4)).form;have FD:=hid lP;have Pr:=hid hs4;have fg:=hid h4;have fO:=hid (fH.out.trans k4);clear lP hs4 h4 k4 eW fH;try dsimp only
 go_wp2_with fail
 go_ret
 refine⟨p4,c4,os4,rfl,?_,Da Pr.out,?_,fO.out⟩
 ·refine(FD.out.map _).trans ?_;rw[Ic.out,List.map_cons,List.map_cons,HX.out];exact .cons _ HP.out
 ·have h5:=fg.out.p1;exact(show Has w4 (Rts q S::_) from fh.2 ⟨g,c,R,E1.out,h5⟩).p1
theorem zF:(Tryz.prog.info? 9).map (fun i=>(i.zero,i.size,i.bytes))=some (some (.string ⟨#[]⟩),1,16):=by kernel_rfl
theorem wJ (v:Value)(xs:List Str)(W:World)(L:List HP)(hO:Has W (Strs v xs::L))(hsm:xs.length≤1000000) :
  zCl 23 #[v] W fun e w'=>e=.returned (.tuple #[])∧Has w' L∧Keep W w':=by
 obtain⟨p,cap,rfl,hcap,hla,hr⟩:=(Strs.rd hO).form;have Hr:=hid hr;have HO:=hid hO;clear hO hr;go_enter Tryz.func23,Tryz.ntmps23
 go_wp2
 go_loopw [2] (fun i w=>∃ k:Nat,k≤xs.length∧i=.int .i64 k∧Hid (∃ ys:List Str,ys.length=xs.length∧Has w (Strs (.slice p xs.length cap) ys::L))∧Hid (Keep W w)) (fun i _=>xs.length-(intOf i).toNat)
 case atStart=>exact⟨0,by omega,rfl,hid ⟨xs,rfl,HO.out⟩,hid (Keep.refl _)⟩
 case round =>
  obtain⟨k,hk,rfl,HY,HK⟩:=hrel;by_cases hlt:k<xs.length
  ·obtain⟨g,o,rfl,-⟩:=Hr.out (by omega);obtain⟨ys,hy,hO⟩:=HY.out;have ho:o=0:=by
    exact zbX
   subst ho;obtain⟨-,hc,ht,-,-⟩:=hO.aE;obtain⟨yk,hc1⟩:∃ yk,wr.cell? ⟨g,k,none⟩=some (sV yk):=⟨ys[k]'(by omega),by
    rw[hc k (by omega),List.getElem?_map,List.getElem?_eq_getElem (by omega)];rfl⟩
   have eT:=hid hO;have Hy:=hid hy;clear hc hO hy;go_wp2
   go_roundw
   case rel =>
    refine⟨k+1,by omega,by go_num,hid ⟨ys.set k [111,118,101,114],by simp[Hy.out],?_⟩,hid (HK.out.set _ _)⟩;have:=eT.out.aJ k (by have:=Hy.out;omega) (sV [111,118,101,114]);unfold Strs;rw[List.length_set,List.map_set];exact this
   case measure=>simp[intOf];omega
  ·obtain⟨ys,hy,hO⟩:=HY.out;have eT:=hid hO;have Hy:=hid hy;clear hO hy;go_wp2_with (at_builtin;refine fS rfl _ _ _ rfl Tryz.underlying36 zF rfl (.string ⟨#[111,118,101,114]⟩) (eT.out.alloc' _) rfl 1 _ rfl (by simp) rfl (eU (by have:=Hy.out;omega)) (by have:=Hy.out;omega) ?_)
   exact zb7
theorem xc (v:Value)(os:List Sn)(W:World)(L:List HP)(hd:∀ s∈os,s.data.length≤1000000)(hsm:os.length≤1000000)(hO:Has W (Sns v os::L)) :
  zCl 32 #[v] W fun e w'=>e=.returned (.tuple #[])∧Has w' L∧Keep W w':=by
 have iq:=fZ.1 hO;obtain⟨p,cap,rfl,hcap,hla,hr⟩:=(Has.rd iq).form;have Hr:=hid hr;have HO:=hid iq;have HD:=hid hd;have hni:(os.length:Int)≤1000000:=by omega
 clear hO iq hr hd;go_enter Tryz.func32,Tryz.ntmps32
 go_wp2_with fail
 go_loopw [2] (fun i w=>∃ k:Nat,k≤os.length∧i=.int .i64 k∧Hid (∃ xs:List Value,(∀ j,k*5≤j→xs[j]? = (fM os)[j]?)∧Has w (row (.slice p os.length cap) 57 5 os.length xs::((os.drop k).map (fun s=>Bytes s.dv s.data)++L)))∧Hid (Keep W w)) (fun i _=>os.length-(intOf i).toNat)
 case atStart=>exact⟨0,by omega,rfl,hid ⟨fM os,fun _ _=>rfl,by rw[List.drop_zero];exact HO.out⟩,hid (Keep.refl _)⟩
 case round =>
  obtain⟨k,hk,rfl,HY,HK⟩:=hrel;by_cases hlt:k<os.length
  ·have hki:(k:Int)<(os.length:Int):=by omega
   have hk0:(0:Int)≤(k:Int):=by omega
   obtain⟨g,o,rfl,-⟩:=Hr.out (by omega);obtain⟨xs,hx,hO⟩:=HY.out;have ho:o=0:=by
    exact zbX
   subst ho;have hdr:os.drop k=os[k]::os.drop (k+1):=List.drop_eq_getElem_cons hlt;rw[hdr,List.map_cons,List.cons_append] at hO;have hsz:=HD.out os[k] (List.getElem_mem hlt);have hat:=fun j hj=>mI os k hlt j hj;generalize os[k]=s at *;obtain⟨ag,num,aa,ah,data,dv⟩:=s;dsimp only at hO hsz;obtain⟨pd,cd,rfl,-⟩:=(Bytes.rd hO.p1).form;obtain⟨-,hc,ht,-,-⟩:=hO.aE;have hc4:wr.cell? ⟨g,k*5+4,none⟩=some (.slice pd data.length cd):=by
    rw[hc _ (by omega),hx _ (by omega),hat 4 (by omega)];rfl
   have HX:=hid hx;have gW:=hid hlt;have I3:=hid hO;have hov:=fun(h:Has wr (Bytes (.slice pd data.length cd) data::row (.slice (some ⟨g,0,none⟩) os.length cap) 57 5 os.length xs::((os.drop (k+1)).map (fun s=>Bytes s.dv s.data)++L)))=>nc (.slice pd data.length cd) data wr _ h hsz;have MC:=hid (hov hO.p1);clear hov hO hc ht hx hat hdr hlt hk;go_wp2_with fail
   refine MC.out.mono ?_;rintro e w2 ⟨rfl,h2,k2⟩;have eZ:=hid h2;have fu:=hid (HK.out.trans k2);have hxl:xs.length=os.length*5:=eZ.out.ao.1;have wm:=hid hxl;obtain⟨-,hc,ht,-,-⟩:=h2.aE;have hcs:∀ j,j<5→∃ u,w2.cell? ⟨g,k*5+j,none⟩=some u:=fun j hj=>by
    have hj2:k*5+j<xs.length:=by have:=gW.out;omega
    exact⟨xs[k*5+j],by rw[hc _ (by have:=gW.out;omega),List.getElem?_eq_getElem hj2]⟩
   obtain⟨u0,hu0⟩:=hcs 0 (by omega);obtain⟨u1,hu1⟩:=hcs 1 (by omega);obtain⟨u2,hu2⟩:=hcs 2 (by omega);obtain⟨u3,hu3⟩:=hcs 3 (by omega);obtain⟨u4,Qm⟩:=hcs 4 (by omega);rw[Nat.add_zero] at hu0;have ht0:=ht (k*5);have ht1:=ht (k*5+1);have ht2:=ht (k*5+2);have ht3:=ht (k*5+3);have MI:=ht (k*5+4);clear hcs hc ht h2 k2 hc4 hxl I3 MC HK;try dsimp only
   go_wp2_with fail
   have h0:=eZ.out.aJ (k*5) (by have:=gW.out;omega) (sV [111,118,101,114]);have h1:=h0.aJ (k*5+1) (by have:=gW.out;omega) (.int .i64 0);have h3:=h1.aJ (k*5+2) (by have:=gW.out;omega) (.int .i64 0);have h4:=h3.aJ (k*5+3) (by have:=gW.out;omega) (.int .i64 0);have h5:=h4.aJ (k*5+4) (by have:=gW.out;omega) (.slice none 0 0);refine⟨⟨k+1,by have:=gW.out;omega,by go_num,hid ⟨_,?_,h5⟩,hid (((((fu.out.set _ _).set _ _).set _ _).set _ _).set _ _)⟩,by have:=gW.out;simp[intOf];omega⟩;intro j hj;rw[List.getElem?_set_ne (by omega),List.getElem?_set_ne (by omega),List.getElem?_set_ne (by omega),List.getElem?_set_ne (by omega),List.getElem?_set_ne (by omega)];exact HX.out j (by omega)
  ·obtain rfl:k=os.length:=by omega
   have hki:¬ (os.length:Int)<(os.length:Int):=by omega
   obtain⟨xs,hx,hO⟩:=HY.out;rw[List.drop_length] at hO;have eT:=hid hO.drop;clear hx hO;go_wp2_with fail
   go_end0
   exact⟨rfl,eT.out,HK.out⟩
theorem A7 (q:Nat)(S:Tre)(rk:Int→Nat)(k:Nat)(p:Str)(w:World)(L:List HP)(hk:k≤900)(hG:Gd S rk k)(hp:p.length≤100000)(hO:Has w (Rts q S::L)) :
  zCl 21 #[.pointer (some ⟨q,0,none⟩),sV p] w fun e w'=>e=.returned (.int .i64 (S.find p false).1.ae)∧Has w' (Rts q S::L)∧Keep w w':=by
 obtain⟨g,c,R,hS,h⟩:=fh.1 hO;refine(CS q g c R S rk k p w L (by omega) hG hS hp h).mono ?_;rintro e w' ⟨h1,h2,h3⟩;exact⟨h1,fh.2 ⟨g,c,R,hS,h2⟩,h3⟩
theorem Cv {S:Tre}{k:Nat}(q:Nat)(mx:Int)(w:World)(L:List HP)(h:Gdx S k)(hk:k<1000)(hM:MxL mx L)(y:Oq)(p:Option Addr)(m:Nat)(hg:ia y=false)(hwf:BK y.op)(hrd:∀ w',Has w' L→Rd w' (.slice p y.data.length m) 1 y.data.length (bc y.data))(a:Ans)(S':Tre)(he:S.aD y.op y.data=(a,S'))(hO:Has w (Trc q S::L)) :
  zCl 16 #[.pointer (some ⟨q,0,none⟩),.agg #[.int .i64 y.op.aa,.int .i64 y.op.fd,.int .i64 y.op.n,.int .i64 y.op.off,.int .i64 y.op.af,sV y.op.ag,sV y.op.aj,.slice p y.data.length m]] w fun e w'=>∃ a1 ca b cb,e=.returned (sY a a1 ca b cb)∧Has w' (Bytes (.slice a1 a.data.length ca) a.data::Strs (.slice b a.ab.length cb) a.ab::Trc q S'::L)∧Keep w w':=by
 refine(EL q mx w L h (by omega) hM y.op p m y.data (lR hg) hwf hrd hO).mono ?_;rw[he];rintro e w' ⟨a1,ca,b,cb,rfl,-,h1,h2⟩;exact⟨a1,ca,b,cb,rfl,h1,h2⟩
theorem Ac {S:Tre}{k:Nat}(q:Nat)(w:World)(L:List HP)(h:Gdx S k)(hk:k<900)(hO:Has w (Trc q S::L)) :
  zCl 24 #[.pointer (some ⟨q,0,none⟩)] w fun e w'=>e=.returned (.tuple #[.int .i64 (fX S.ac),.int .i64 (S.ac.length:Int)])∧Has w' (Trc q S::L)∧Keep w w':=by
 obtain⟨rk,h⟩:=h;refine zL q S w L (fun n x hx=>?_) (by have:=h.many;omega) hO;have h1:=(h.ax hx).size;exact⟨h1.2.2.2.1,by omega,h1.2.1⟩
end Go.Proofs.YtmgpgbfgemebbaaGreatDoor
namespace Go.Own
open Go.RowKit
theorem Has.cj {P:Program}{w:World}{l:List HP}{g n cap:Nat}{cur:Array Value}{e:TypeId}(hO:Has w (pt g (.cells cur e)::l))(C8:cur.size=cap)(t ty:TypeId){z:Value}{bytes:Nat}(ht:P.underlying t=some (.slice e))(hi:(P.info? e).map (fun i=>(i.zero,i.size,i.bytes))=some (some z,1,bytes))
  (x:Value) (m:Nat) (ys:List Value) (hr:Rd w x 1 m ys) (h1:∀ u∈ys,u.oneCell'=true) (hroom:n+m≤cap) (hcm:cap≤maxLen) :
  ∃ w',(Builtin.append_ #[t,t] ty #[.slice (some ⟨g,0,none⟩) n cap,x]).run P w=.ok (.slice (some ⟨g,0,none⟩) (n+m) cap) w'∧Has w' (pt g (.cells (cur.toList.take n++ys++cur.toList.drop (n+m)).toArray e)::l)∧Keep w w':=by
 obtain⟨i,hi,hz,hs,hby⟩:=info_parts hi;obtain⟨hyl,hm,p,xcap,rfl,-,hc⟩:=hr;rw[Nat.mul_one] at hyl;rcases p with _|ad
 ·have hm0:m=0:=by
   rcases Nat.eq_zero_or_pos m with h|h
   ·exact h
   ·obtain⟨g,o,e,-⟩:=hc (by omega);cases e
  subst hm0;have hy:ys = []:=List.eq_nil_of_length_eq_zero hyl;subst hy;have hrow:Has w (row (.slice (some ⟨g,0,none⟩) n cap) e 1 n (cur.toList.take n)::l):=hO.row_of (by omega) hcm (by rw[C8,Nat.mul_one]) (by rw[Nat.mul_one]) (by simp;omega);refine⟨w,by rw[Nat.add_zero];exact hrow.bB t ty ht i hi xcap,?_,Keep.refl w⟩;rw[Nat.add_zero,List.append_nil,List.take_append_drop];exact hO
 ·have hr:=run_append_room (P:=P) w t ty e i ht hi g n cap cur hO.lookup ad m xcap ys (by rw[hs];omega) (by
   intro j y hj;have hjl:j<m:=by rw[←hyl];exact(List.getElem?_eq_some_iff.1 hj).1
   obtain⟨g,o,e2,hc2⟩:=hc (by omega);cases e2;rw[i6,hc2 j (by omega),hj]) h1 hroom (by rw[hs,hyl,C8];omega)
  refine⟨_,hr,?_,⟨rfl,rfl,rfl,by simp⟩⟩;have h:=hO.turn (fun k _ hk=>setRow_other w g k _ hk) (setRow_heap w g cur (cur.toList.take (n*i.size)++ys++cur.toList.drop (n*i.size+ys.length)).toArray e _ hO.lookup);rw[hs,Nat.mul_one,hyl] at h;rw[hs,Nat.mul_one,hyl];exact h
theorem mV {P:Program}{w:World}{l:List HP}{g n cap:Nat}{cur:Array Value}{e:TypeId}{ops:Array Oper}{rest:List Oper}{o:Oper}{a:Act}{Q:Exit→Act→World→Prop}(hgd:o.guard=none)(s x:Operand)(t:TypeId)
  (ho:o.op=.call {callee := .builtin .append,args:=#[s,x],argTypes:=#[t,t]})
  {z:Value} {bytes:Nat} (ht:P.underlying t=some (.slice e)) (hi:(P.info? e).map (fun i=>(i.zero,i.size,i.bytes))=some (some z,1,bytes))
  (hO:Has w (pt g (.cells cur e)::l)) (C8:cur.size=cap) (hs:a.eval s=.slice (some ⟨g,0,none⟩) n cap) (xv:Value) (m:Nat) (ys:List Value) (hx:a.eval x=xv) (hr:Rd w xv 1 m ys) (h1:∀ u∈ys,u.oneCell'=true) (hroom:n+m≤cap) (hcm:cap≤maxLen)
  (h:∀ w',Has w' (pt g (.cells (cur.toList.take n++ys++cur.toList.drop (n+m)).toArray e)::l)→Keep w w'→wpList P ops Q rest (a.put o.dst (.slice (some ⟨g,0,none⟩) (n+m) cap)) w'):wpList P ops Q (o::rest) a w :=
 wpList_plain hgd fun _ hK=>by
  obtain⟨w',hrun,h2,h3⟩:=hO.cj (P:=P) C8 t o.type ht hi xv m ys hr h1 hroom hcm;unfold Oper.wp execOp;simp only[ho,resolve,invoke,builtin,Sem.run_bind,Sem.run_pure,Result.andThen_ok,List.map_toArray,List.map_cons,List.map_nil,hs,hx,hrun];exact hK _ _ (h w' h2 h3)
end Go.Own
namespace Go.Proofs.YtmgpgbfgemebbaaGreatDoor
open Go.RowKit Go.Own
theorem CL {α:Type} (n k:Nat) (a b:α) (h:k<n):(List.replicate k a++List.replicate (n-k) b).set k a=List.replicate (k+1) a++List.replicate (n-(k+1)) b:=by
 obtain⟨m,hm⟩:∃ m,n-k=m+1:=⟨n-k-1,by omega⟩
 rw[hm,show n-(k+1)=m from by omega,List.set_append_right _ _ (by simp),List.replicate_succ,List.replicate_succ'];simp
def Lent (v:Value)(xs:List Int):HP:=ex fun g:Nat=>jd [l0 (v=.slice (some ⟨g,0,none⟩) xs.length (xs.length+3)),pt g (.cells (bc (xs ++ [119,119,119])).toArray 5)]
section
variable {w:World} {L:List HP} {v:Value} {xs:List Int}
theorem mD:Has w (Lent v xs::L)↔∃ g,v=.slice (some ⟨g,0,none⟩) xs.length (xs.length+3)∧Has w (pt g (.cells (bc (xs ++ [119,119,119])).toArray 5)::L):=by
 unfold Lent;exact zb8
theorem Lent.bytes (h:Has w (Lent v xs::L))(hl:xs.length≤1000000000):Has w (Bytes v xs::L):=by
 obtain⟨g,rfl,h2⟩:=mD.1 h;exact h2.row_of (by omega) (eU (by omega)) (by simp[bc]) (by rw[Nat.mul_one];simp[bc]) (by simp[bc])
theorem Lent.rd (h:Has w (Lent v xs::L))(hl:xs.length≤1000000000):Rd w v 1 xs.length (bc xs):=Bytes.rd (Lent.bytes h hl)
end
def kR (n:Nat):Array Value:=(List.replicate (n+3) (Value.int .u8 0)).toArray
theorem ym (n:Nat)(hn:n≤1000000000)(w:World):(Instr.makeSlice 31 (.int .i64 0) (.int .i64 ((n:Int)+3))).run Tryz.prog w=.ok (.slice (some ⟨w.heap.size,0,none⟩) 0 (n+3)) (w.alloc (.cells (kR n) 5)):=by
 obtain⟨i,hi,hz,hsz,hby⟩:=info_parts ju;have hr:=run_make (P:=Tryz.prog) w 31 5 i (.int .u8 0) Tryz.underlying31 hi hz .i64 .i64 0 ((n:Int)+3) (by omega) (by omega) (by rw[hby];omega) (by omega);rw[hr];have e:((n:Int)+3).toNat=n+3:=by omega
 rw[e];congr 3;apply Array.toList_inj.1;rw[hsz,Nat.mul_one];exact toList_madeCells_one _ _
theorem xr (v:Value)(xs:List Int)(W:World)(L:List HP)(hO:Has W L)(hr:Rd W v 1 xs.length (bc xs))(hl:xs.length≤100000000) :
  zCl 15 #[v] W fun e w'=>∃ v',e=.returned v'∧Has w' (Lent v' xs::L)∧Keep W w':=by
 obtain⟨p,c,rfl,-⟩:=hr.form;have HO:=hid (hO.alloc (.cells (kR xs.length) 5));have HK:=hid ((Keep.refl W).alloc (.cells (kR xs.length) 5));have hmk:=ym xs.length (by omega) W;have HR:=hid (hr.alloc (.cells (kR xs.length) 5));clear hO hr;go_enter Tryz.func15,Tryz.ntmps15
 go_upto_region 2 with fail
 clear hmk;generalize W.heap.size=g at *;generalize W.alloc (.cells (kR xs.length) 5)=w1 at *;go_wp2_with (at_builtin;refine mV rfl _ _ _ rfl Tryz.underlying31 ju HO.out (by simp[kR]) rfl _ xs.length _ rfl HR.out (kA _) (by omega) (eU (by omega)) ?_)
 intro w2 h2 hk2;have eZ:=hid (show Has w2 (pt g (.cells (bc (xs++List.replicate 0 119++List.replicate 3 0)).toArray 5)::L) by
  have e:(kR xs.length).toList.take 0++bc xs++(kR xs.length).toList.drop (0+xs.length)=bc (xs++List.replicate 0 119++List.replicate 3 0):=by
   simp[kR,bc,List.drop_replicate]
  rw[←e];simpa using h2)
 have fu:=hid (HK.out.trans hk2);clear h2 hk2 HO HK HR;go_wp2_with fail
 go_loopw [5] (fun i w=>∃ k:Nat,k≤3∧i=.int .i64 k∧Hid (Has w (pt g (.cells (bc (xs++List.replicate k 119++List.replicate (3-k) 0)).toArray 5)::L))∧Hid (Keep W w)) (fun i _=>3-(intOf i).toNat)
 case atStart=>exact⟨0,by omega,rfl,eZ,fu⟩
 case round =>
  clear eZ fu;obtain⟨k,hk,rfl,HO,HK⟩:=hrel;by_cases hlt:k<3
  ·have ht:=HO.out.thaw (xs.length+k);have hc:wr.cell? ⟨g,xs.length+k,none⟩=some (.int .u8 0):=by
    rw[HO.out.cells (xs.length+k)];have:3-k=(3-k-1)+1:=by omega
    rw[this,List.replicate_succ];simp[bc]
   go_wp2_with fail
   refine⟨⟨k+1,by omega,by go_num,hid ?_,hid (HK.out.set _ _)⟩,by simp[intOf];omega⟩;have h:=HO.out.set (xs.length+k) (.int .u8 119);have e:(bc (xs++List.replicate k 119++List.replicate (3-k) 0)).toArray.setIfInBounds (xs.length+k) (.int .u8 119)=(bc (xs++List.replicate (k+1) 119++List.replicate (3-(k+1)) 0)).toArray:=by
    have h2:=CL 3 k (119:Int) 0 hlt;rw[List.append_assoc,List.append_assoc,←h2];simp[bc,List.map_set,List.set_append_right]
   rw[e] at h;exact h
  ·obtain rfl:k=3:=by omega
   go_wp2_with fail
   go_ret
   exact⟨_,rfl,mD.2 ⟨g,rfl,by simpa using HO.out⟩,HK.out⟩
theorem wM (v b:Value)(xs ys:List Int)(w:World)(L:List HP)(hl:xs.length≤100000000)(hO:Has w (Lent v xs::L))(hb:Rd w b 1 ys.length (bc ys)) :
  zCl 19 #[v,b] w fun e w'=>e=.returned (.bool (decide (xs=ys)))∧∃ n,w'=w.drewN n:=by
 have HS:=hid (fun m=>qo v b xs ys (w.drewN m) ((Lent.rd hO (by omega)).drewN m) (hb.drewN m));obtain⟨g,rfl,hP⟩:=mD.1 hO;obtain⟨p,c,rfl,-⟩:=hb.form;have hcs:∀ k,k<3→w.cell? ⟨g,xs.length+k,none⟩=some (.int .u8 119):=by
  intro k hk;rw[hP.cells (xs.length+k)];rcases k with _|_|_|k
  ·simp[bc]
  ·simp[bc]
  ·simp[bc]
  ·omega
 have HC:=hid hcs;clear hO hP hb hcs;go_enter Tryz.func19,Tryz.ntmps19
 go_wp2_with fail
 go_loop [6] (fun i=>∃ k:Nat,k≤3∧i=.int .i64 k) (fun i=>3-(intOf i).toNat)
 case atStart=>exact⟨0,by omega,rfl⟩
 case round =>
  obtain⟨k,hk,rfl⟩:=hrel;by_cases hlt:k<3
  ·have hc:=HC.out k hlt;go_wp2_with fail
   exact⟨⟨k+1,by omega,by go_num⟩,by simp[intOf];omega⟩
  ·obtain rfl:k=3:=by omega
   go_wp2_with fail
   refine(HS.out 0).mono ?_;rintro e w' ⟨rfl,n,rfl⟩;dsimp only;go_wp2_with fail
   go_ret
   exact⟨rfl,n,rfl⟩
end Go.Proofs.YtmgpgbfgemebbaaGreatDoor
