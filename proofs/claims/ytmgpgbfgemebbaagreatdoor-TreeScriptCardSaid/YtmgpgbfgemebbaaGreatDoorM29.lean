/- TEXTS of mine, merged. -/
import Derived.Test.YtmgpgbfgemebbaaGreatDoorM0
import Derived.Test.YtmgpgbfgemebbaaGreatDoorM28
import Derived.Test.YtmgpgbfgemebbaaGreatDoorM26
import Derived.Test.YtmgpgbfgemebbaaGreatDoorRows
import Derived.Lay
import Derived.LaidMore
import Derived.SevenTiedAt
import Derived.HandedShaped
import Derived.Shelf.Vars
import Derived.ProofKit
import Derived.OpenShut
import Derived.Stop.Joined
import Derived.Test.YtmgpgbfgemebbaaGreatDoorM27
import Derived.Laws.IdiomArrays
import Derived.Lib.SmallJoins
set_option linter.all false
set_option maxRecDepth 100000
set_option maxHeartbeats 16000000
namespace Go.Own
open Go.RowKit
theorem zW {P:Program}{qc:Qc}{ops:Array Oper}{S:World→Prop}{Q:Act→World→Prop}{o:Oper}{rest:List Oper}{a a':Act}{w:World}{v:Value}(h:wpL P qc ops S Q rest a' w) (hw:Region.wanted o (yielded ops a.tmps)=true:=by rfl) (hr:fK qc o=true:=by rfl) (hv:∀ w,S w→(execOp a.eval o).run P w=.ok (.value v) w:=by(rintro w ⟨z0,z1,z2,z3,z4,z5,z6,z7,z8,z9,z10,z11,z12,z13,z14,z15⟩;go_simp;with_reducible rfl)) (ha:a.put o.dst v=a':=by(simp only[Act.put,zpu];with_reducible rfl)):wpL P qc ops S Q (o::rest) a w:=by
 exact zbv
end Go.Own
namespace Go.Proofs.YtmgpgbfgemebbaaGreatDoor
open Go.RowKit Go.Own
theorem Br {S:Tre}{k:Nat}(u:Nat)(w:World)(L:List HP)(h:Gdx S k)(hk:k≤900)(y:Oq)(p:Option Addr)(m:Nat)(hg:ia y=false)(hwf:BK y.op)(hrd:∀ w',Has w' L→Rd w' (.slice p y.data.length m) 1 y.data.length (bc y.data))(a:Ans)(S':Tre)(he:S.aD y.op y.data=(a,S'))(hO:Has w (Rts u S::L)) :
  zCl 18 #[.pointer (some ⟨u,0,none⟩),.agg #[.int .i64 y.op.aa,.int .i64 y.op.fd,.int .i64 y.op.n,.int .i64 y.op.off,.int .i64 y.op.af,sV y.op.ag,sV y.op.aj,.slice p y.data.length m]] w fun e w'=>∃ a1 ca b cb,e=.returned (sY a a1 ca b cb)∧Has w' (Bytes (.slice a1 a.data.length ca) a.data::Strs (.slice b a.ab.length cb) a.ab::Rts u S'::L)∧Keep w w':=by
 obtain⟨rk,h⟩:=h;obtain⟨g1,g2,g3⟩:=lR hg;have h1:=rDo u S rk k y.op w L hk h p m y.data (by omega) (by omega) ⟨hwf.2.1,hwf.1⟩ (by omega) hrd hO;rw[he] at h1;refine h1.mono ?_;rintro e w' ⟨dv,nv,rfl,h2,h3⟩;obtain⟨p,c,rfl,-⟩:=(Bytes.rd h2).form;obtain⟨p',c',rfl,-⟩:=(Strs.rd h2.p1).form;exact⟨p,c,p',c',rfl,h2,h3⟩
theorem Cn (v b:Value)(xs:List Int)(w:World)(L:List HP)(hl:xs.length≤100000000)(hO:Has w (Lent v xs::L))(hb:Rd w b 1 xs.length (bc xs)) :
  zCl 19 #[v,b] w fun e w'=>e=.returned (.bool true)∧∃ n,w'=w.drewN n:=by
 refine(wM v b xs xs w L hl hO hb).mono ?_;rintro e w' ⟨rfl,h⟩;exact⟨by simp,h⟩
theorem tZ {S:Tre}{k:Nat}(q:Nat)(p:Str)(mx:Int)(w:World)(L:List HP)(h:Gdx S k)(hM:MxL mx L)(hp:p.length≤300)(hO:Has w (Trc q S::L)) :
  zCl 20 #[.pointer (some ⟨q,0,none⟩),sV p] w fun e w'=>e=.returned (.int .i64 (S.find p false).1.ae)∧Has w' (Trc q S::L)∧Keep w w':=by
 obtain⟨rk,h⟩:=h;exact vP q S p mx w L h.wk hM (by omega) hO
theorem tq {S:Tre}{k:Nat}(u:Nat)(p:Str)(w:World)(L:List HP)(h:Gdx S k)(hk:k≤900)(hp:p.length≤300)(hO:Has w (Rts u S::L)) :
  zCl 21 #[.pointer (some ⟨u,0,none⟩),sV p] w fun e w'=>e=.returned (.int .i64 (S.find p false).1.ae)∧Has w' (Rts u S::L)∧Keep w w':=by
 obtain⟨rk,h⟩:=h;exact A7 u S rk k p w L hk h (by omega) hO
theorem xT {S:Tre}{k:Nat}(u:Nat)(w:World)(L:List HP)(h:Gdx S k)(hk:k≤900)(hO:Has w (Rts u S::L)) :
  zCl 25 #[.pointer (some ⟨u,0,none⟩)] w fun e w'=>e=.returned (.tuple #[.int .i64 (fX S.ac),.int .i64 (S.ac.length:Int)])∧Has w' (Rts u S::L)∧Keep w w':=by
 obtain⟨rk,h⟩:=h;exact Ae u S rk k w L hk h hO
theorem xx {S:Tre}{k:Nat}(q:Nat)(x y z:Int)(w:World)(L:List HP)(h:Gdx S k)(hk:k≤900)(hO:Has w (Trc q S::L)) :
  zCl 26 #[.pointer (some ⟨q,0,none⟩),.agg #[.int .i64 x,.int .i64 y,.int .i64 z]] w fun e w'=>e=.returned (.bool (jc S ⟨x,y,z⟩))∧Has w' (Trc q S::L)∧Keep w w':=by
 obtain⟨rk,h⟩:=h;exact AV q S rk k ⟨x,y,z⟩ w L hk h hO
theorem uf {S:Tre}{k:Nat}(u:Nat)(x y z:Int)(w:World)(L:List HP)(h:Gdx S k)(hk:k≤900)(hO:Has w (Rts u S::L)) :
  zCl 27 #[.pointer (some ⟨u,0,none⟩),.agg #[.int .i64 x,.int .i64 y,.int .i64 z]] w fun e w'=>e=.returned (.bool (jc S ⟨x,y,z⟩))∧Has w' (Rts u S::L)∧Keep w w':=by
 obtain⟨rk,h⟩:=h;exact zD u S rk k ⟨x,y,z⟩ w L hk h hO
theorem oQ {S:Tre}{k:Nat}(u:Nat)(w:World)(L:List HP)(h:Gdx S k)(hk:k<900)(hD:DirE S)(hO:Has w (Rts u S::L)) :
  zCl 31 #[.pointer (some ⟨u,0,none⟩)] w fun e w'=>∃ p c os,e=.returned (.slice p (os.length) c)∧(os.map Sn.key).Perm ((seen S.ac 22 1 []).map jQ)∧Srt os∧Has w' (Sns (.slice p os.length c) os::Rts u S::L)∧Keep w w':=by
 obtain⟨rk,h⟩:=h;exact EN u S rk k w L hk h hD hO
theorem yq {S:Tre}{k:Nat}(h:Gdx S k)(hk:k≤900)(n:Int):(S.at_ n).data.length≤100000∧(S.at_ n).ab.length≤900:=by
 obtain⟨rk,h⟩:=h;unfold Tre.at_;cases hf:fnd S.ac n with
 | none=>simp[qb]
 | some x =>
  have h1:=(h.ax hf).size;exact⟨h1.1,by have:=h1.2.2.1;show x.ab.length≤900;omega⟩
theorem gA {a:Ans}(h:li a):a.data.length≤1000000∧a.ab.length≤1000000:=by rw[h.1,h.2];simp
theorem uZ {S:Tre}{k:Nat}(h:Gdx S k)(hk:k≤900)(kd fd n off:Int):(S.read kd fd n off).1.data.length≤1000000∧(S.read kd fd n off).1.ab.length≤1000000:=by
 rw[le];refine⟨?_,by simp⟩;unfold Tre.read;dsimp only;split
 ·simp[eQ]
 ·split
  ·simp[eQ]
  ·have h1:=(yq h hk (S.file fd false).1.ae).1;dsimp only;rw[List.length_take,List.length_drop];omega
theorem vX {S:Tre}{k:Nat}(h:Gdx S k)(hk:k≤900)(kd:Int)(p:Str):(S.list kd p).data.length≤1000000∧(S.list kd p).ab.length≤1000000:=by
 have h1:=yq h hk (S.find p (kd==18)).1.ae;unfold Tre.list
 repeat' split
 all_goals first|(simp[eQ];done)|skip
 ·refine⟨by simp,?_⟩;show (gO _).length≤_;rw[nS,List.length_map];omega
 ·refine⟨?_,by simp⟩;show (S.at_ (S.find p (kd==18)).1.ae).data.length≤_;omega
theorem D4 {S:Tre}{k:Nat}(h:Gdx S k)(hk:k≤900){o:Opm}{ds:List Int}{a:Ans}{S':Tre}(he:S.aD o ds=(a,S')):a.data.length≤1000000∧a.ab.length≤1000000:=by
 have e:a=(S.aD o ds).1:=by rw[he]
 subst e;clear he;unfold Tre.aD;by_cases h1:o.aa=1
 ·rw[if_pos h1];exact gA (nC _ _ _)
 rw[if_neg h1];clear h1;by_cases h1:o.aa=2
 ·rw[if_pos h1];exact gA (o6 _ _)
 rw[if_neg h1];clear h1;by_cases h1:o.aa=3
 ·rw[if_pos h1];exact uZ h hk _ _ _ _
 rw[if_neg h1];clear h1;by_cases h1:o.aa=4
 ·rw[if_pos h1];exact gA (j9 _ _ _ _ _)
 rw[if_neg h1];clear h1;by_cases h1:o.aa=5
 ·rw[if_pos h1];exact uZ h hk _ _ _ _
 rw[if_neg h1];clear h1;by_cases h1:o.aa=6
 ·rw[if_pos h1];exact gA (j9 _ _ _ _ _)
 rw[if_neg h1];clear h1;by_cases h1:o.aa=7
 ·rw[if_pos h1];exact gA (nH _ _ _ _)
 rw[if_neg h1];clear h1;by_cases h1:o.aa=8
 ·rw[if_pos h1];exact gA (md _ _ _)
 rw[if_neg h1];clear h1;by_cases h1:o.aa=9
 ·rw[if_pos h1];exact gA (mn _ _)
 rw[if_neg h1];clear h1;by_cases h1:o.aa=10
 ·rw[if_pos h1];exact gA (jD _ _ _)
 rw[if_neg h1];clear h1;by_cases h1:o.aa=11
 ·rw[if_pos h1];exact gA (jD _ _ _)
 rw[if_neg h1];clear h1;by_cases h1:o.aa=12
 ·rw[if_pos h1];exact gA (ng _ _ _)
 rw[if_neg h1];clear h1;by_cases h1:o.aa=13
 ·rw[if_pos h1];exact gA (kX _ _ _)
 rw[if_neg h1];clear h1;by_cases h1:o.aa=14
 ·rw[if_pos h1];exact vX h hk _ _
 rw[if_neg h1];clear h1;by_cases h1:o.aa=15
 ·rw[if_pos h1];exact gA (lD _ _ _)
 rw[if_neg h1];clear h1;by_cases h1:o.aa=16
 ·rw[if_pos h1];exact gA (lV _ _ _)
 rw[if_neg h1];clear h1;by_cases h1:o.aa=17
 ·rw[if_pos h1];exact gA (lV _ _ _)
 rw[if_neg h1];clear h1;by_cases h1:o.aa=18
 ·rw[if_pos h1];exact vX h hk _ _
 rw[if_neg h1];clear h1;by_cases h1:o.aa=19
 ·rw[if_pos h1];exact gA (kS _ _)
 rw[if_neg h1];clear h1;by_cases h1:o.aa=20
 ·rw[if_pos h1];exact gA (kS _ _)
 rw[if_neg h1];clear h1;by_cases h1:o.aa=21
 ·rw[if_pos h1];exact gA (gN _)
 rw[if_neg h1];clear h1;by_cases h1:o.aa=22
 ·rw[if_pos h1];exact gA (lN _)
 rw[if_neg h1];clear h1;by_cases h1:o.aa=23
 ·rw[if_pos h1];exact gA (lN _)
 rw[if_neg h1];clear h1;exact gA (gN _)
theorem CN {S:Tre}{k:Nat}(h:Gdx S k)(hk:k<900){os:List Sn}(h1:(os.map Sn.key).Perm ((seen S.ac 22 1 []).map jQ)):(∀ s∈os,s.data.length≤1000000)∧os.length≤1000000:=by
 obtain⟨rk,h⟩:=h;constructor
 ·intro s hs;have h2:=h1.mem_iff.1 (List.mem_map_of_mem (f:=Sn.key) hs);obtain⟨e,he,h3⟩:=List.mem_map.1 h2;rw[jw] at he;obtain⟨e',he',rfl⟩:=List.mem_map.1 he;have h4:=((h.bh e').1 he').2;have h5:=(h.ax h4).size.1;have h6:s.data=e'.2.2.data:=by
   have:=congrArg (fun t=>t.2.2.2.2) h3;exact this.symm
  rw[h6];omega
 ·have h2:=h1.length_eq;have h3:=h.aZ hk;rw[List.length_map,List.length_map,jw,List.length_map] at h2;omega
theorem um (mx:Int)(v:Value)(R:List Oq)(x y z:Int)(W:World)(hmx:W.cell? ⟨0,0,none⟩=some (.int .i64 mx))(hR:RdOps W v R) :
  zCl 3 #[v,.agg #[.int .i64 x,.int .i64 y,.int .i64 z]] W fun e w'=>e=.returned (.bool true)∧Below W.heap.size W w':=by
 obtain⟨vp,vc,rfl,Oy,hvl⟩:=hR.form;have HM:=hid (CG hmx);have HR:=hid (show ∀ w',Has w' [old W]→RdOps w' (.slice vp R.length vc) R from fun w' h=>hR.start h);have HRW:=hid hR;have HP:=hid ((Has.start W).alloc (.cells #[.int .i64 x,.int .i64 y,.int .i64 z] 24));have HQ:=hid ((Keep.refl W).alloc (.cells #[.int .i64 x,.int .i64 y,.int .i64 z] 24));clear hmx hR;go_enter Tryz.func3,Tryz.ntmps3
 go_upto_region 1 with fail
 generalize W.alloc (.cells #[.int .i64 x,.int .i64 y,.int .i64 z] 24)=y0 at *;generalize hg3:W.heap.size=g3 at *;have MN:=hid hg3;clear hg3;go_cut [33] (fun b wx=>∃ (b':Bool) (w0:World),w0=wx∧b=.bool b'∧(b'=false→R.length≤60∧Hid (∀ y∈R,ia y=false))∧Hid (Has w0 [pt g3 (.cells #[.int .i64 x,.int .i64 y,.int .i64 z] 24),old W])∧Hid (Keep W w0))
 case first =>
  go_wp2_with fail
  refine st (yn (.slice vp R.length vc) R 60 (by decide) W y0 [pt g3 (.cells #[.int .i64 x,.int .i64 y,.int .i64 z] 24)] HRW.out (HP.out.re 2 [1,0])) (HQ.out) fun w1 eT ff=>?_;try dsimp only
  clear HP HQ;have h30:=eT.out.p1.e0;have h31:=eT.out.p1.e1;have h32:=eT.out.p1.e2;have rI:=hid eT.out.p1;cases hgo:il R 60
  ·have MW:=hid (q8 hgo);clear hgo eT;by_cases hx:100<x
   ·as_aux_lemma=>exact zbD
   ·by_cases hy:100<y
    ·as_aux_lemma=>exact zbD
    ·by_cases hz:1000<z
     ·as_aux_lemma=>exact zbD
     ·go_wp2_with fail
      go_meet
      exact⟨false,w1,by trivial,rfl,fun _=>⟨MW.out.1,hid MW.out.2⟩,rI,ff⟩
  ·clear hgo eT
   as_aux_lemma=>exact zbD
 case rest =>
  obtain⟨b',w1,hw1,rfl,hbf,eT,ff⟩:=hcut;subst hw1;clear HP HQ HRW;cases b' with
  | true =>
   clear hbf;go_wp2_with fail
   refine st (zQ9 mx w1 _ (HM.out.cons _) eT.out) (ff.out) fun w2 eZ fu=>?_;try dsimp only
   go_wp2_with fail
   go_ret
   have hg0:=MN.out;subst hg0;exact⟨rfl,eZ.out.p1.below fu.out.os fu.out.tape fu.out.output⟩
  | false =>
   obtain⟨ON,KL⟩:=hbf rfl;clear hbf;go_wp2_with fail
   refine(F8 w1 _ eT.out).mono ?_;rintro e w2 ⟨q,rfl,hO2,hK2⟩;have eZ:=hid hO2;have fu:=hid ((ff.out).trans hK2);clear hO2 hK2;try dsimp only
   clear eT ff;go_wp2_with fail
   refine(Kt w2 _ eZ.out).mono ?_;rintro e w3 ⟨u,rfl,hO3,hK3⟩;have eW:=hid hO3;have fH:=hid ((fu.out).trans hK3);clear hO3 hK3;try dsimp only
   clear eZ fu;have rh:=hid (eW.out.re 2 [1,0]);clear eW;go_wp2_with fail
   go_loopw [7] (fun i w=>∃ (k:Nat) (w0:World),w0=w∧k≤R.length∧i=.int .i64 k∧Hid (Has w0 [Trc q (aQ tre0 (R.take k)),Rts u (aQ tre0 (R.take k)),pt g3 (.cells #[.int .i64 x,.int .i64 y,.int .i64 z] 24),old W])∧Hid (Keep W w0)) (fun i _=>R.length-(intOf i).toNat)
   case atStart=>exact⟨0,_,rfl,by omega,rfl,rh,fH⟩
   case round =>
    clear rh fH;obtain⟨k,w0,rfl,hk,rfl,qV,HKw⟩:=hrel;by_cases hlt:k<R.length
    ·have hki:(k:Int)<(R.length:Int):=by omega
     have hk0:(0:Int)≤(k:Int):=by omega
     obtain⟨g,oo,c,pp,mm,hv,hdv,c0,c1,c2,c3,c4,c5,c6,c7⟩:=(HR.out _ (qV.out.drop.drop.drop)).eight k hlt;simp only[Value.slice.injEq] at hv;obtain⟨rfl,-,rfl⟩:=hv;have ET:=(HR.out _ (qV.out.drop.drop.drop)).2 _ (List.getElem_mem hlt);obtain⟨yy,B7⟩:∃ yy,R[k]=yy:=⟨_,rfl⟩
     rw[B7] at hdv c0 c1 c2 c3 c4 c5 c6 c7 ET;have ir:=hid (show ∀ w',Has w' [old W]→Rd w' (.slice pp yy.data.length mm) 1 yy.data.length (bc yy.data) from fun w' h=>by
      have:=(HR.out _ h).2 R[k] (List.getElem_mem hlt);rw[B7] at this;have h2:=this.1;rw[hdv] at h2;exact h2)
     have DN:=hid (show ∀ w',Has w' [old W]→w'.cell? ⟨g,oo+k*8,none⟩=some (.int .i64 yy.op.aa)∧w'.cell? ⟨g,oo+k*8+1,none⟩=some (.int .i64 yy.op.fd)∧w'.cell? ⟨g,oo+k*8+2,none⟩=some (.int .i64 yy.op.n)∧w'.cell? ⟨g,oo+k*8+3,none⟩=some (.int .i64 yy.op.off)∧w'.cell? ⟨g,oo+k*8+4,none⟩=some (.int .i64 yy.op.af)∧w'.cell? ⟨g,oo+k*8+5,none⟩=some (sV yy.op.ag)∧w'.cell? ⟨g,oo+k*8+6,none⟩=some (sV yy.op.aj)∧w'.cell? ⟨g,oo+k*8+7,none⟩=some (.slice pp yy.data.length mm) from fun w' h=>by
      obtain⟨g',o',c',pp',mm',hv',BU,c0',c1',c2',c3',c4',c5',c6',c7'⟩:=(HR.out _ h).eight k hlt;simp only[Value.slice.injEq,Option.some.injEq,Addr.mk.injEq] at hv';obtain⟨⟨rfl,rfl,-⟩,-,rfl⟩:=hv';rw[B7] at BU c0' c1' c2' c3' c4' c5' c6' c7';rw[hdv] at BU;simp only[Value.slice.injEq,true_and] at BU;obtain⟨rfl,rfl⟩:=BU;exact⟨c0',c1',c2',c3',c4',c5',c6',c7'⟩)
     have Mt:=hid B7;have HW:=hid ET.2;clear B7 hdv ET;have Lj:ia yy=false:=by rw[←Mt.out];exact KL.out _ (List.getElem_mem hlt)
     have MB:=hid Lj;have Bk:=hid (lR Lj);have jU:=hid (by rw[wO _ _ _ hlt,Mt.out]:aQ tre0 (R.take (k+1))=((aQ tre0 (R.take k)).aD yy.op yy.data).2);have Jl:=hid (zP KL.out k (by omega));clear Lj Mt;obtain⟨Sk,NG⟩:∃ Sk,aQ tre0 (R.take k)=Sk:=⟨_,rfl⟩
     rw[NG] at qV jU Jl;clear NG;obtain⟨an,S',hans⟩:∃ an S',Sk.aD yy.op yy.data=(an,S'):=⟨_,_,rfl⟩
     have Jz:=hid hans;rw[hans] at jU;dsimp only at jU;have FG:=hid (by have h1:=Jl.out.aD yy.op yy.data (by have:=Bk.out;omega);rw[hans] at h1;exact h1:Gdx S' (k+1));clear hans;have eZ:=hid (qV.out.alloc (.cells #[.int .i64 yy.op.aa,.int .i64 yy.op.fd,.int .i64 yy.op.n,.int .i64 yy.op.off,.int .i64 yy.op.af,sV yy.op.ag,sV yy.op.aj,.slice pp yy.data.length mm] 33));have fu:=hid (HKw.out.alloc (.cells #[.int .i64 yy.op.aa,.int .i64 yy.op.fd,.int .i64 yy.op.n,.int .i64 yy.op.off,.int .i64 yy.op.af,sV yy.op.ag,sV yy.op.aj,.slice pp yy.data.length mm] 33));clear qV HKw;go_upto_region 10 with fail
     clear c0 c1 c2 c3 c4 c5 c6 c7;generalize w0.alloc (.cells #[.int .i64 yy.op.aa,.int .i64 yy.op.fd,.int .i64 yy.op.n,.int .i64 yy.op.off,.int .i64 yy.op.af,sV yy.op.ag,sV yy.op.aj,.slice pp yy.data.length mm] 33)=w2 at *;generalize w0.heap.size=gop at *;have b7:w2.cell? ⟨gop,7,none⟩=some (.slice pp yy.data.length mm):=eZ.out.cells 7;go_wp2_with fail
     refine(xr (.slice pp yy.data.length mm) yy.data w2 _ eZ.out (ir.out _ eZ.out.drop.drop.drop.drop) (by have:=Bk.out;omega)).mono ?_;rintro e w3 ⟨vl,rfl,hO3,hK3⟩;have eW:=hid hO3;have fH:=hid ((fu.out).trans hK3);clear hO3 hK3;try dsimp only
     clear eZ fu b7;obtain⟨gl,rfl,-⟩:=mD.1 eW.out;have b7:w3.cell? ⟨gop,7,none⟩=some (.slice pp yy.data.length mm):=eW.out.p1.cells 7;have bt:=eW.out.p1.thaw 7;go_upto_region 11 with fail
     have fg:=hid (show Has (w3.setCell ⟨gop,7,none⟩ (.slice (some ⟨gl,0,none⟩) yy.data.length (yy.data.length+3))) [pt gop (.cells #[.int .i64 yy.op.aa,.int .i64 yy.op.fd,.int .i64 yy.op.n,.int .i64 yy.op.off,.int .i64 yy.op.af,sV yy.op.ag,sV yy.op.aj,.slice (some ⟨gl,0,none⟩) yy.data.length (yy.data.length+3)] 33),Lent (.slice (some ⟨gl,0,none⟩) yy.data.length (yy.data.length+3)) yy.data,Trc q Sk,Rts u Sk,pt g3 (.cells #[.int .i64 x,.int .i64 y,.int .i64 z] 24),old W] from eW.out.p1.set 7 _);have fO:=hid (fH.out.set ⟨gop,7,none⟩ (.slice (some ⟨gl,0,none⟩) yy.data.length (yy.data.length+3)));clear eW fH b7 bt;generalize w3.setCell ⟨gop,7,none⟩ (.slice (some ⟨gl,0,none⟩) yy.data.length (yy.data.length+3))=w4 at *;have f0:w4.cell? ⟨gop,0,none⟩=some (.int .i64 yy.op.aa):=fg.out.cells 0;have f1:w4.cell? ⟨gop,1,none⟩=some (.int .i64 yy.op.fd):=fg.out.cells 1;have f2:w4.cell? ⟨gop,2,none⟩=some (.int .i64 yy.op.n):=fg.out.cells 2;have f3:w4.cell? ⟨gop,3,none⟩=some (.int .i64 yy.op.off):=fg.out.cells 3;have f4:w4.cell? ⟨gop,4,none⟩=some (.int .i64 yy.op.af):=fg.out.cells 4;have f5:w4.cell? ⟨gop,5,none⟩=some (sV yy.op.ag):=fg.out.cells 5;have f6:w4.cell? ⟨gop,6,none⟩=some (sV yy.op.aj):=fg.out.cells 6;have f7:w4.cell? ⟨gop,7,none⟩=some (.slice (some ⟨gl,0,none⟩) yy.data.length (yy.data.length+3)):=fg.out.cells 7;go_wp2_with fail
     refine(Cv q mx w4 _ Jl.out (by omega) (((((HM.out.cons _).cons _).cons _).cons _)) yy (some ⟨gl,0,none⟩) (yy.data.length+3) MB.out HW.out (fun w' h=>Lent.rd (show Has w' (Lent (.slice (some ⟨gl,0,none⟩) yy.data.length (yy.data.length+3)) yy.data::_) from h.p1) (by have:=Bk.out;omega)) an S' Jz.out (show Has w4 [Trc q Sk,pt gop (.cells #[.int .i64 yy.op.aa,.int .i64 yy.op.fd,.int .i64 yy.op.n,.int .i64 yy.op.off,.int .i64 yy.op.af,sV yy.op.ag,sV yy.op.aj,.slice (some ⟨gl,0,none⟩) yy.data.length (yy.data.length+3)] 33),Lent (.slice (some ⟨gl,0,none⟩) yy.data.length (yy.data.length+3)) yy.data,Rts u Sk,pt g3 (.cells #[.int .i64 x,.int .i64 y,.int .i64 z] 24),old W] from fg.out.re 6 [2,0,1,3,4,5])).mono ?_;rintro e w5 ⟨a5,ca5,b5,cb5,rfl,kk,hK5⟩;have fi:=hid kk;have ge:=hid ((fO.out).trans hK5);clear kk hK5;try dsimp only
     clear fg fO f0 f1 f2 f3 f4 f5 f6 f7;unfold sY;go_upto_region 12 with fail
     have fq:=hid (show Has (w5.alloc (.cells #[.int .i64 an.code,.int .i64 an.n,.int .i64 an.aa,.int .i64 an.ah,.slice a5 an.data.length ca5,.slice b5 an.ab.length cb5] 38)) [Bytes (.slice a5 an.data.length ca5) an.data,Strs (.slice b5 an.ab.length cb5) an.ab,Trc q S',Lent (.slice (some ⟨gl,0,none⟩) yy.data.length (yy.data.length+3)) yy.data,Rts u Sk,pt g3 (.cells #[.int .i64 x,.int .i64 y,.int .i64 z] 24),pt w5.heap.size (.cells #[.int .i64 an.code,.int .i64 an.n,.int .i64 an.aa,.int .i64 an.ah,.slice a5 an.data.length ca5,.slice b5 an.ab.length cb5] 38),pt gop (.cells #[.int .i64 yy.op.aa,.int .i64 yy.op.fd,.int .i64 yy.op.n,.int .i64 yy.op.off,.int .i64 yy.op.af,sV yy.op.ag,sV yy.op.aj,.slice (some ⟨gl,0,none⟩) yy.data.length (yy.data.length+3)] 33),old W] from(fi.out.alloc (.cells #[.int .i64 an.code,.int .i64 an.n,.int .i64 an.aa,.int .i64 an.ah,.slice a5 an.data.length ca5,.slice b5 an.ab.length cb5] 38)).re 9 [1,2,3,5,6,7,0,4,8]);have gu:=hid (ge.out.alloc (.cells #[.int .i64 an.code,.int .i64 an.n,.int .i64 an.aa,.int .i64 an.ah,.slice a5 an.data.length ca5,.slice b5 an.ab.length cb5] 38));clear fi ge;generalize w5.alloc (.cells #[.int .i64 an.code,.int .i64 an.n,.int .i64 an.aa,.int .i64 an.ah,.slice a5 an.data.length ca5,.slice b5 an.ab.length cb5] 38)=w6 at *;generalize w5.heap.size=ga at *;have FJ:=hid (show ∀ w',Has w' [pt ga (.cells #[.int .i64 an.code,.int .i64 an.n,.int .i64 an.aa,.int .i64 an.ah,.slice a5 an.data.length ca5,.slice b5 an.ab.length cb5] 38),pt gop (.cells #[.int .i64 yy.op.aa,.int .i64 yy.op.fd,.int .i64 yy.op.n,.int .i64 yy.op.off,.int .i64 yy.op.af,sV yy.op.ag,sV yy.op.aj,.slice (some ⟨gl,0,none⟩) yy.data.length (yy.data.length+3)] 33),old W]→w'.cell? ⟨ga,0,none⟩=some (.int .i64 an.code)∧w'.cell? ⟨ga,1,none⟩=some (.int .i64 an.n)∧w'.cell? ⟨ga,2,none⟩=some (.int .i64 an.aa)∧w'.cell? ⟨ga,3,none⟩=some (.int .i64 an.ah)∧w'.cell? ⟨ga,4,none⟩=some (.slice a5 an.data.length ca5)∧w'.cell? ⟨ga,5,none⟩=some (.slice b5 an.ab.length cb5)∧w'.cell? ⟨gop,7,none⟩=some (.slice (some ⟨gl,0,none⟩) yy.data.length (yy.data.length+3))∧w'.cell? ⟨gop,5,none⟩=some (sV yy.op.ag)∧w'.cell? ⟨g,oo+k*8,none⟩=some (.int .i64 yy.op.aa)∧w'.cell? ⟨g,oo+k*8+1,none⟩=some (.int .i64 yy.op.fd)∧w'.cell? ⟨g,oo+k*8+2,none⟩=some (.int .i64 yy.op.n)∧w'.cell? ⟨g,oo+k*8+3,none⟩=some (.int .i64 yy.op.off)∧w'.cell? ⟨g,oo+k*8+4,none⟩=some (.int .i64 yy.op.af)∧w'.cell? ⟨g,oo+k*8+5,none⟩=some (sV yy.op.ag)∧w'.cell? ⟨g,oo+k*8+6,none⟩=some (sV yy.op.aj)∧w'.cell? ⟨g,oo+k*8+7,none⟩=some (.slice pp yy.data.length mm) from fun w' h=>⟨h.cells 0,h.cells 1,h.cells 2,h.cells 3,h.cells 4,h.cells 5,h.p1.cells 7,h.p1.cells 5,DN.out _ h.drop.drop⟩);have fP:=hid fq.out.drew;have gZ:=hid gu.out.drew;clear fq gu;refine eP (fun w'=>w'.cell? ⟨ga,0,none⟩=some (.int .i64 an.code)∧w'.cell? ⟨ga,1,none⟩=some (.int .i64 an.n)∧w'.cell? ⟨ga,2,none⟩=some (.int .i64 an.aa)∧w'.cell? ⟨ga,3,none⟩=some (.int .i64 an.ah)∧w'.cell? ⟨ga,4,none⟩=some (.slice a5 an.data.length ca5)∧w'.cell? ⟨ga,5,none⟩=some (.slice b5 an.ab.length cb5)∧w'.cell? ⟨gop,7,none⟩=some (.slice (some ⟨gl,0,none⟩) yy.data.length (yy.data.length+3))∧w'.cell? ⟨gop,5,none⟩=some (sV yy.op.ag)∧w'.cell? ⟨g,oo+k*8,none⟩=some (.int .i64 yy.op.aa)∧w'.cell? ⟨g,oo+k*8+1,none⟩=some (.int .i64 yy.op.fd)∧w'.cell? ⟨g,oo+k*8+2,none⟩=some (.int .i64 yy.op.n)∧w'.cell? ⟨g,oo+k*8+3,none⟩=some (.int .i64 yy.op.off)∧w'.cell? ⟨g,oo+k*8+4,none⟩=some (.int .i64 yy.op.af)∧w'.cell? ⟨g,oo+k*8+5,none⟩=some (sV yy.op.ag)∧w'.cell? ⟨g,oo+k*8+6,none⟩=some (sV yy.op.aj)∧w'.cell? ⟨g,oo+k*8+7,none⟩=some (.slice pp yy.data.length mm)) (by kernel_rfl) (by kernel_rfl) (FJ.out _ fP.out.drop.drop.drop.drop.drop.drop) ?_;generalize w6.drew=w7 at *;repeat (first|refine zW ?_|refine wk ?_)
     refine wa fun K hK=>?_;go_simp
     refine(Br u w7 [Bytes (.slice a5 an.data.length ca5) an.data,Strs (.slice b5 an.ab.length cb5) an.ab,Trc q S',Lent (.slice (some ⟨gl,0,none⟩) yy.data.length (yy.data.length+3)) yy.data,pt g3 (.cells #[.int .i64 x,.int .i64 y,.int .i64 z] 24),pt ga (.cells #[.int .i64 an.code,.int .i64 an.n,.int .i64 an.aa,.int .i64 an.ah,.slice a5 an.data.length ca5,.slice b5 an.ab.length cb5] 38),pt gop (.cells #[.int .i64 yy.op.aa,.int .i64 yy.op.fd,.int .i64 yy.op.n,.int .i64 yy.op.off,.int .i64 yy.op.af,sV yy.op.ag,sV yy.op.aj,.slice (some ⟨gl,0,none⟩) yy.data.length (yy.data.length+3)] 33),old W] Jl.out (by omega) yy pp mm MB.out HW.out (fun w' h=>ir.out w' (h.drop.drop.drop.drop.drop.drop.drop)) an S' Jz.out (fP.out.re 9 [4,0,1,2,3,5,6,7,8])).mono ?_;rintro e w8 ⟨a8,ca8,b8,cb8,rfl,o0,hK8⟩;have fI:=hid o0;have iI:=hid ((gZ.out).trans hK8);clear o0 hK8;try dsimp only
     refine hK.out _ _ ((FJ.out _ (fI.out.drop.drop.drop.drop.drop.drop.drop.drop))) ?_;clear hK K;try simp only[Act.put,zpu]
     clear fP gZ;repeat (first|refine zW ?_|refine wk ?_)
     refine wa fun K hK=>?_;go_simp
     refine st (wI an a5 ca5 b5 cb5 a8 ca8 b8 cb8 w8 _ fI.out (Bytes.rd fI.out.p3) (Bytes.rd fI.out) (Strs.rd fI.out.p4) (Strs.rd fI.out.p1)) (iI.out) fun w9 fJ gQ=>?_;try dsimp only
     refine hK.out _ _ ((FJ.out _ (fJ.out.drop.drop.drop.drop.drop.drop.drop.drop))) ?_;clear hK K;try simp only[Act.put,zpu]
     clear fI iI;repeat (first|refine zW ?_|refine wk ?_)
     have fJ:=hid (show Has w9 [Lent (.slice (some ⟨gl,0,none⟩) yy.data.length (yy.data.length+3)) yy.data,Rts u S',Trc q S',Bytes (.slice a5 an.data.length ca5) an.data,Strs (.slice b5 an.ab.length cb5) an.ab,pt g3 (.cells #[.int .i64 x,.int .i64 y,.int .i64 z] 24),pt ga (.cells #[.int .i64 an.code,.int .i64 an.n,.int .i64 an.aa,.int .i64 an.ah,.slice a5 an.data.length ca5,.slice b5 an.ab.length cb5] 38),pt gop (.cells #[.int .i64 yy.op.aa,.int .i64 yy.op.fd,.int .i64 yy.op.n,.int .i64 yy.op.off,.int .i64 yy.op.af,sV yy.op.ag,sV yy.op.aj,.slice (some ⟨gl,0,none⟩) yy.data.length (yy.data.length+3)] 33),old W] from fJ.out.re 11 [6,2,5,3,4,7,8,9,10]);refine wa fun K hK=>?_;go_simp
     refine(Cn (.slice (some ⟨gl,0,none⟩) yy.data.length (yy.data.length+3)) (.slice pp yy.data.length mm) yy.data w9 _ (by have:=Bk.out;omega) fJ.out (ir.out _ fJ.out.drop.drop.drop.drop.drop.drop.drop.drop)).mono ?_;rintro e w' ⟨rfl,nq10,rfl⟩;have gJ:=hid ((fJ.out).drewN nq10);have ko:=hid ((gQ.out).drewN nq10);try dsimp only
     refine hK.out _ _ ((FJ.out _ (gJ.out.drop.drop.drop.drop.drop.drop))) ?_;clear hK K;try simp only[Act.put,zpu]
     clear fJ gQ;generalize w9.drewN nq10=w10 at *;repeat (first|refine zW ?_|refine wk ?_)
     refine wa fun K hK=>?_;go_simp
     refine st (tZ q yy.op.ag mx w10 _ FG.out (((((((HM.out.cons _).cons _).cons _).cons _).cons _).cons _).cons _) Bk.out.1 (show Has w10 [Trc q S',Lent (.slice (some ⟨gl,0,none⟩) yy.data.length (yy.data.length+3)) yy.data,Rts u S',Bytes (.slice a5 an.data.length ca5) an.data,Strs (.slice b5 an.ab.length cb5) an.ab,pt g3 (.cells #[.int .i64 x,.int .i64 y,.int .i64 z] 24),pt ga (.cells #[.int .i64 an.code,.int .i64 an.n,.int .i64 an.aa,.int .i64 an.ah,.slice a5 an.data.length ca5,.slice b5 an.ab.length cb5] 38),pt gop (.cells #[.int .i64 yy.op.aa,.int .i64 yy.op.fd,.int .i64 yy.op.n,.int .i64 yy.op.off,.int .i64 yy.op.af,sV yy.op.ag,sV yy.op.aj,.slice (some ⟨gl,0,none⟩) yy.data.length (yy.data.length+3)] 33),old W] from gJ.out.re 9 [2,0,1,3,4,5,6,7,8])) (ko.out) fun CK nr nj=>?_;try dsimp only
     refine hK.out _ _ ((FJ.out _ (nr.out.drop.drop.drop.drop.drop.drop))) ?_;clear hK K;try simp only[Act.put,zpu]
     clear gJ ko;repeat (first|refine zW ?_|refine wk ?_)
     refine wa fun K hK=>?_;go_simp
     refine st (tq u yy.op.ag CK _ FG.out (by omega) Bk.out.1 (show Has CK [Rts u S',Trc q S',Lent (.slice (some ⟨gl,0,none⟩) yy.data.length (yy.data.length+3)) yy.data,Bytes (.slice a5 an.data.length ca5) an.data,Strs (.slice b5 an.ab.length cb5) an.ab,pt g3 (.cells #[.int .i64 x,.int .i64 y,.int .i64 z] 24),pt ga (.cells #[.int .i64 an.code,.int .i64 an.n,.int .i64 an.aa,.int .i64 an.ah,.slice a5 an.data.length ca5,.slice b5 an.ab.length cb5] 38),pt gop (.cells #[.int .i64 yy.op.aa,.int .i64 yy.op.fd,.int .i64 yy.op.n,.int .i64 yy.op.off,.int .i64 yy.op.af,sV yy.op.ag,sV yy.op.aj,.slice (some ⟨gl,0,none⟩) yy.data.length (yy.data.length+3)] 33),old W] from nr.out.re 9 [2,0,1,3,4,5,6,7,8])) (nj.out) fun w12 j5 na=>?_;try dsimp only
     refine hK.out _ _ ((FJ.out _ (j5.out.drop.drop.drop.drop.drop.drop))) ?_;clear hK K;try simp only[Act.put,zpu]
     clear nr nj;have hnn:((S'.find yy.op.ag false).1.ae != (S'.find yy.op.ag false).1.ae)=false:=by simp
     repeat (first|refine zW ?_|refine wk ?_)
     refine eR ?_;have f7:w12.cell? ⟨gop,7,none⟩=some (.slice (some ⟨gl,0,none⟩) yy.data.length (yy.data.length+3)):=(j5.out.re 8 [7]).cells 7;go_wp2_with fail
     refine st (nc (.slice (some ⟨gl,0,none⟩) yy.data.length (yy.data.length+3)) yy.data w12 [Rts u S',Trc q S',Bytes (.slice a5 an.data.length ca5) an.data,Strs (.slice b5 an.ab.length cb5) an.ab,pt g3 (.cells #[.int .i64 x,.int .i64 y,.int .i64 z] 24),pt ga (.cells #[.int .i64 an.code,.int .i64 an.n,.int .i64 an.aa,.int .i64 an.ah,.slice a5 an.data.length ca5,.slice b5 an.ab.length cb5] 38),old W] (Lent.bytes (show Has w12 (Lent (.slice (some ⟨gl,0,none⟩) yy.data.length (yy.data.length+3)) yy.data::_) from j5.out.re 9 [2,0,1,3,4,5,6,8]) (by have:=Bk.out;omega)) (by have:=Bk.out;omega)) (na.out) fun FP mB qn=>?_;try dsimp only
     clear j5 na f7;have f4:FP.cell? ⟨ga,4,none⟩=some (.slice a5 an.data.length ca5):=(mB.out.p5).cells 4;have f5:FP.cell? ⟨ga,5,none⟩=some (.slice b5 an.ab.length cb5):=(mB.out.p5).cells 5;have xq:=hid (D4 Jl.out (by omega) Jz.out);go_wp2_with fail
     refine st (nc (.slice a5 an.data.length ca5) an.data FP [pt ga (.cells #[.int .i64 an.code,.int .i64 an.n,.int .i64 an.aa,.int .i64 an.ah,.slice a5 an.data.length ca5,.slice b5 an.ab.length cb5] 38),Rts u S',Trc q S',Strs (.slice b5 an.ab.length cb5) an.ab,pt g3 (.cells #[.int .i64 x,.int .i64 y,.int .i64 z] 24),old W] (show Has FP (Bytes (.slice a5 an.data.length ca5) an.data::_) from mB.out.re 7 [2,5,0,1,3,4,6]) xq.out.1) (qn.out) fun K6 E8 IK=>?_;try dsimp only
     clear mB qn f4 f5;have f5:K6.cell? ⟨ga,5,none⟩=some (.slice b5 an.ab.length cb5):=E8.out.cells 5;go_wp2_with fail
     refine st (wJ (.slice b5 an.ab.length cb5) an.ab K6 [Rts u S',Trc q S',pt g3 (.cells #[.int .i64 x,.int .i64 y,.int .i64 z] 24),old W] (show Has K6 (Strs (.slice b5 an.ab.length cb5) an.ab::_) from E8.out.re 6 [3,1,2,4,5]) xq.out.2) (IK.out) fun Nv Ix Gf=>?_;try dsimp only
     clear E8 IK f5;go_wp2_with fail
     refine st (Ac q Nv _ FG.out (by omega) (show Has Nv [Trc q S',Rts u S',pt g3 (.cells #[.int .i64 x,.int .i64 y,.int .i64 z] 24),old W] from Ix.out.re 4 [1,0,2,3])) (Gf.out) fun w16 Ht IE=>?_;try dsimp only
     clear Ix Gf;go_wp2_with fail
     refine st (xT u w16 _ FG.out (by omega) (show Has w16 [Rts u S',Trc q S',pt g3 (.cells #[.int .i64 x,.int .i64 y,.int .i64 z] 24),old W] from Ht.out.re 4 [1,0,2,3])) (IE.out) fun OY Iu FZ=>?_;try dsimp only
     clear Ht IE;obtain⟨nb,hnb⟩:∃ nb,fX S'.ac=nb:=⟨_,rfl⟩
     obtain⟨ni,hni⟩:∃ ni,(S'.ac.length:Int)=ni:=⟨_,rfl⟩
     rw[hnb,hni];clear hnb hni;have hn1:(nb != nb)=false:=by simp
     have hn2:(ni != ni)=false:=by simp
     obtain⟨cw,hcw⟩:∃ cw,jc S' ⟨x,y,z⟩=cw:=⟨_,rfl⟩
     have Ip:=hid hcw;clear hcw;have hcc:(cw != cw)=false:=by simp
     go_upto_region 19 with fail
     have AL:=hid Iu.out.drew;have IG:=hid FZ.out.drew;clear Iu FZ;refine eP (fun w'=>w'.cell? ⟨g3,0,none⟩=some (.int .i64 x)∧w'.cell? ⟨g3,1,none⟩=some (.int .i64 y)∧w'.cell? ⟨g3,2,none⟩=some (.int .i64 z)) (by kernel_rfl) (by kernel_rfl) ⟨(AL.out.p2).cells 0,(AL.out.p2).cells 1,(AL.out.p2).cells 2⟩ ?_;generalize OY.drew=MU at *;repeat (first|refine wr3 ?_|refine wk ?_)
     refine wa fun K hK=>?_;go_simp
     refine st (xx q x y z MU _ FG.out (by omega) (show Has MU [Trc q S',Rts u S',pt g3 (.cells #[.int .i64 x,.int .i64 y,.int .i64 z] 24),old W] from AL.out.re 4 [1,0,2,3])) (IG.out) fun MD yQ GD=>?_;try dsimp only
     refine hK.out _ _ (⟨(yQ.out.p2).cells 0,(yQ.out.p2).cells 1,(yQ.out.p2).cells 2⟩) ?_;clear hK K;try simp only[Act.put,zpu]
     clear AL IG;rw[Ip.out];repeat (first|refine wr3 ?_|refine wk ?_)
     refine wa fun K hK=>?_;go_simp
     refine st (uf u x y z MD _ FG.out (by omega) (show Has MD [Rts u S',Trc q S',pt g3 (.cells #[.int .i64 x,.int .i64 y,.int .i64 z] 24),old W] from yQ.out.re 4 [1,0,2,3])) (GD.out) fun Qg CI LO=>?_;try dsimp only
     refine hK.out _ _ (⟨(CI.out.p2).cells 0,(CI.out.p2).cells 1,(CI.out.p2).cells 2⟩) ?_;clear hK K;try simp only[Act.put,zpu]
     clear yQ GD;rw[Ip.out];repeat (first|refine wr3 ?_|refine wk ?_)
     refine eR ?_;go_wp2_with fail
     go_roundw
     case rel=>exact⟨k+1,_,rfl,by omega,by go_num,hid (by rw[jU.out];exact CI.out.re 4 [1,0,2,3]),LO⟩
     case measure=>simp[intOf];omega
    ·obtain rfl:k=R.length:=by omega
     have hki:¬ (R.length:Int)<(R.length:Int):=by omega
     have JN:=hid qV.out;rw[List.take_length] at JN;clear qV;have yG:=hid (Jk KL.out);have HD0:=hid (DirE.aQ R Jf);obtain⟨S,hS⟩:∃ S,aQ tre0 R=S:=⟨_,rfl⟩
     rw[hS] at JN yG HD0;clear hS;go_wp2_with fail
     refine(mc q w0 _ yG.out (by omega) JN.out).mono ?_;rintro e w3 ⟨p3,c3,os3,rfl,hp3,hs3,hO3,hK3⟩;have eW:=hid hO3;have fH:=hid ((HKw.out).trans hK3);clear hO3 hK3;try dsimp only
     have rh:=hid hp3;have KI:=hid hs3;clear JN HKw hp3 hs3;go_wp2_with fail
     refine(zq q w3 _ yG.out (by omega) (show Has w3 [Trc q S,Sns (.slice p3 os3.length c3) os3,Rts u S,pt g3 (.cells #[.int .i64 x,.int .i64 y,.int .i64 z] 24),old W] from eW.out.re 5 [1,0,2,3,4])).mono ?_;rintro e w4 ⟨qc,rfl,hO4,hK4⟩;have fg:=hid hO4;have fO:=hid ((fH.out).trans hK4);clear hO4 hK4;try dsimp only
     clear eW fH;go_wp2_with fail
     refine(oQ u w4 _ yG.out (by omega) HD0.out (show Has w4 [Rts u S,Trc qc S,Trc q S,Sns (.slice p3 os3.length c3) os3,pt g3 (.cells #[.int .i64 x,.int .i64 y,.int .i64 z] 24),old W] from fg.out.re 6 [3,0,1,2,4,5])).mono ?_;rintro e w5 ⟨p5,c5,os5,rfl,iK,hs5,kk,hK5⟩;have fi:=hid kk;have ge:=hid ((fO.out).trans hK5);clear kk hK5;try dsimp only
     have fW:=hid (rL yG.out rh.out iK KI.out hs5);clear fg fO iK hs5;go_wp2_with fail
     refine(pu _ _ os3 os5 w5 (lX (fi.out.re 7 [4])) (lX fi.out) fW.out).mono ?_;rintro e w' ⟨rfl,nq6,rfl⟩;have fq:=hid ((fi.out).drewN nq6);have gu:=hid ((ge.out).drewN nq6);try dsimp only
     clear fi ge fW;generalize w5.drewN nq6=w6 at *;go_wp2_with fail
     refine(mc qc w6 _ yG.out (by omega) (show Has w6 [Trc qc S,Sns (.slice p3 os3.length c3) os3,Trc q S,Rts u S,pt g3 (.cells #[.int .i64 x,.int .i64 y,.int .i64 z] 24),old W] from fq.out.re 7 [2,4,3,1,5,6])).mono ?_;rintro e w7 ⟨p7,c7,os7,rfl,lU,hs7,l9,hK7⟩;have fP:=hid l9;have gZ:=hid ((gu.out).trans hK7);clear l9 hK7;try dsimp only
     have fW:=hid (rL yG.out lU rh.out hs7 KI.out);clear fq gu lU hs7;go_wp2_with fail
     refine(pu _ _ os7 os3 w7 (lX fP.out) (lX (fP.out.re 7 [2])) fW.out).mono ?_;rintro e w' ⟨rfl,nq8,rfl⟩;have fI:=hid ((fP.out).drewN nq8);have iI:=hid ((gZ.out).drewN nq8);try dsimp only
     clear fP gZ fW;generalize w7.drewN nq8=w8 at *;have JT:=hid (CN yG.out (by omega) rh.out);go_wp2_with fail
     refine st (xc (.slice p3 os3.length c3) os3 w8 [Trc q S,Rts u S,pt g3 (.cells #[.int .i64 x,.int .i64 y,.int .i64 z] 24),old W] JT.out.1 JT.out.2 (fI.out.re 7 [2,3,4,5,6])) (iI.out) fun w9 fJ gQ=>?_;try dsimp only
     clear fI iI rh KI JT;go_wp2_with fail
     refine(mc q w9 _ yG.out (by omega) fJ.out).mono ?_;rintro e w10 ⟨p10,c10,os10,rfl,xu,hs10,sU,hK10⟩;have gJ:=hid sU;have ko:=hid ((gQ.out).trans hK10);clear sU hK10;try dsimp only
     have Mu:=hid xu;have Kj:=hid hs10;clear fJ gQ xu hs10;go_wp2_with fail
     refine(oQ u w10 _ yG.out (by omega) HD0.out (show Has w10 [Rts u S,Sns (.slice p10 os10.length c10) os10,Trc q S,pt g3 (.cells #[.int .i64 x,.int .i64 y,.int .i64 z] 24),old W] from gJ.out.re 5 [2,0,1,3,4])).mono ?_;rintro e CK ⟨p11,c11,os11,rfl,Ji,hs11,zS,zy⟩;have nr:=hid zS;have nj:=hid ((ko.out).trans zy);clear zS zy;try dsimp only
     have fW:=hid (rL yG.out Mu.out Ji Kj.out hs11);clear gJ ko Ji hs11;go_wp2_with fail
     refine(pu _ _ os10 os11 CK (lX (nr.out.re 6 [2])) (lX nr.out) fW.out).mono ?_;rintro e w' ⟨rfl,nq12,rfl⟩;have j5:=hid ((nr.out).drewN nq12);have na:=hid ((nj.out).drewN nq12);try dsimp only
     clear nr nj fW;generalize CK.drewN nq12=w12 at *;go_wp2_with fail
     refine st (zQ9 mx w12 _ (HM.out.cons _) (show Has w12 [pt g3 (.cells #[.int .i64 x,.int .i64 y,.int .i64 z] 24),old W] from j5.out.re 6 [4,5])) (na.out) fun FP mB qn=>?_;try dsimp only
     clear j5 na;go_wp2_with fail
     go_ret
     have hg0:=MN.out;subst hg0;exact⟨rfl,mB.out.p1.below qn.out.os qn.out.tape qn.out.output⟩
open Go.ChangeShapes Go.WideShapes Go.ChangeAt
variable {H:Type} {enc:TypeId×Value→H}
theorem mS {a:Assume}{C:Checked}{os:Os}{f:FuncId}{fn:Func}{s:ChangeSpec}{conds:List PathCond}{apart fresh handsOn again:Bool}{X:World→Array Value→Prop}
  (hX:∀ (w w':World) (args:Array Value),w.heap=w'.heap→X w args→X w' args)
  (own:ownKnob C.prog.godebug=none) (started:os.Started) (noInit:C.prog.inits.idxOf? f=none) (hfn:C.prog.funcs[f]? = some fn)
  (witness:∃ (w:World) (tape:Tape) (i:Input),w.os=os∧(w.forCall tape i).Shaped C.prog∧i.vars = []∧Input.okWide C.prog (w.forCall tape i) .any w.heap.size f i ∧
   ((s.pre enc C.prog fn conds apart (w.forCall tape i).memory i.args∧X (w.forCall tape i).memory i.args)∧sizedMet enc C.prog fn (OpenSpec.ofChange s) apart (w.forCall tape i).memory i.args)∧a.holds C.prog (lone (Frame.enter C.prog f i.args .normal) [] (w.forCall tape i)))
  (contract:∀ (W:World) (base:Nat) (args:Array Value) (ds gs:List (DataW H)) (before:List MemPlace),
   (∀ (j:Nat) t v,fn.params[j]? = some t→args[j]? = some v→Value.okWide C.prog W .any base t v) →
   DataW.Whole enc C.prog fn.params.toList s.vars apart W args.toList ds gs before →
   conds.all (PathCond.test C.prog ⟨fn.params.toList,ds,s.plain.varTypes C.prog,gs⟩)=true →
   (DataW.weightsEach C.prog (fn.params.toList++s.plain.varTypes C.prog) (ds++gs)).all (·≤reachBytes)=true→X W args→W.ShapedOpen C.prog →
   a.holds C.prog (lone (Frame.enter C.prog f args .normal) [] W) →
   Calls C.prog f args W fun e W'=>∃ v,e=.returned v∧s.post enc C.prog fn apart fresh handsOn again W args v W') :
  ReturnsInHanded a C os f .any (fun w args=>(s.pre enc C.prog fn conds apart w args∧X w args)∧sizedMet enc C.prog fn (OpenSpec.ofChange s) apart w args) (s.post enc C.prog fn apart fresh handsOn again):=by
 refine returnsInHanded_of_calls own started noInit witness ?_;intro w tape i _ hsh _ hok hpre hholds;obtain⟨_,_,_,fn',hfn',_,_,_,_,hval⟩:=hok;have e:fn'=fn:=Option.some.inj (hfn'.symm.trans hfn);subst e;obtain⟨⟨⟨ds,gs,before,hw,hc⟩,hx⟩,hz⟩:=hpre;have hw':=DataW.Whole.of_heap (w':=w.forCall tape i) (by rfl) hw;refine(contract (w.forCall tape i) w.heap.size i.args ds gs before hval hw' hc (hz.weights hw) (hX _ _ _ (by rfl) hx) hsh hholds).mono fun e W' ⟨v,he,hp⟩=>?_;subst he;exact ChangeSpec.post_blind hp
theorem wC {W:World}(h:W.ShapedOpen Tryz.prog):∃ m,W.cell? ⟨0,0,none⟩=some (.int .i64 m) :=
 cell_of_shapedOpen_int (P:=Tryz.prog) (g:=0) (t:=3) (zero:=#[.int .i64 0]) h (of_decide_eq_true (by kernel_rfl)) (by kernel_rfl) rfl (by kernel_rfl) (by kernel_rfl) Tryz.underlying3
end Go.Proofs.YtmgpgbfgemebbaaGreatDoor
namespace Go.Own
open Go.ChangeShapes Go.WideShapes Go.ChangeAt Go.RowKit
section
variable {H:Type} {enc:TypeId×Value→H} {P:Program} {W:World} {base:Nat} {spare:Nat→Bool} {held:Bool}
theorem rA {r:Reach}{b0:Nat}{t:Nat}{f0 f1 f2:Field}{v:Value}{d:DataW H}{ps:List MemPlace}(ht:P.underlying t=some (.struct #[f0,f1,f2]))(h0:P.underlying f0.type=some (.int .i64))(h1:P.underlying f1.type=some (.int .i64))(h2:P.underlying f2.type=some (.int .i64))
  (hone:Deep.oneCellFields P #[f0,f1,f2]=true) (hc:P.cellsOf t=3) (hv:Value.okWide P W r b0 t v)
  (h:DataW.Trod enc P W base spare held t v d ps):∃ x y z,v=.agg #[.int .i64 x,.int .i64 y,.int .i64 z]:=by
 obtain⟨v0,v1,v2,y0,y1,y2,n,rfl,-,-,k0,k1,k2⟩:=Joins.open_agg3 ht hone hc hv h;obtain⟨x0,e0,-⟩:=DataW.trod_int h0 k0;obtain⟨x1,e1,-⟩:=DataW.trod_int h1 k1;obtain⟨x2,e2,-⟩:=DataW.trod_int h2 k2;injection e0 with e0;injection e1 with e1;injection e2 with e2
 subst e0 e1 e2;exact⟨x0,x1,x2,rfl⟩
end
end Go.Own
