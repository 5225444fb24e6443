/- TEXTS of mine, merged. -/
import Derived.Test.YtmgpgbfgemebbaaGreatDoorM0
import Derived.Test.YtmgpgbfgemebbaaGreatDoorM16
import Derived.Test.YtmgpgbfgemebbaaGreatDoorM18
set_option linter.all false
set_option maxRecDepth 100000
set_option maxHeartbeats 16000000
namespace Go.Proofs.YtmgpgbfgemebbaaGreatDoor
open Go.RowKit Go.Own
theorem A1 {α:Type} {a b:List α} (h:a.Perm b) (f:α→Bool):a.any f=b.any f:=by
 rw[Bool.eq_iff_iff,List.any_eq_true,List.any_eq_true];exact⟨fun⟨x,h1,h2⟩=>⟨x,h.mem_iff.1 h1,h2⟩,fun⟨x,h1,h2⟩=>⟨x,h.mem_iff.2 h1,h2⟩⟩
theorem BQ {α:Type} {l:List α} {f:α→Bool} (h:∀ j (hj:j<l.length),f l[j]=false):l.any f=false:=by
 rw[List.any_eq_false];intro x hx;obtain⟨j,hj,rfl⟩:=List.getElem_of_mem hx;simpa using h j hj
theorem Bz {α:Type} {l:List α} {f:α→Bool} {j:Nat} (hj:j<l.length) (h:f l[j]=true):l.any f=true:=List.any_eq_true.2 ⟨_,List.getElem_mem hj,h⟩
theorem Gc (q g c:Nat)(R:List Rn)(S:Tre)(rk:Int→Nat)(k:Nat)(hk:k≤900)(hG:Gd S rk k)(hS:Sim R S):∀ (d:Nat) (n:Int) (x:Nod) (parts:List Str) (B N:Int) (w:World) (L:List HP),21≤rk n+d→fnd S.ac n=some x→B=((fm parts).length:Int)→N=(parts.length:Int)→B≤100000→N≤100000→Has w (Rtb q g c R S.ak::L) →
  zCl 142 #[.pointer (some ⟨q,0,none⟩),.int .i64 n,.int .i64 B,.int .i64 N] w fun e w'=>e=.returned (.bool (x.ab.any fun e=>S.deepF d e.2 (parts ++ [e.1])))∧Has w' (Rtb q g c R S.ak::L)∧Keep w w':=by
 have HG:=hid hG;have HS:=hid hS;have ll:=hid (by have:=hS.aA hG;omega:R.length≤100000);clear hG hS;intro d;induction d with
 | zero=>intro n x parts B N w L h1;have:=HG.out.x.rk20 n;omega
 | succ d ih =>
 intro n x parts B N w L hrk hx hB hN hB1 hN1 hO;obtain⟨i,r,rfl,hr,sn⟩:=HS.out.ae _ _ hx;obtain⟨G,KY⟩:∃ G:Str×Int→Bool,G=fun e=>S.deepF (d+1) e.2 (parts ++ [e.1]):=⟨_,rfl⟩
 have GY:=hid (by rw[KY];exact(A1 sn.ai _).symm:(x.ab.any fun e=>S.deepF (d+1) e.2 (parts ++ [e.1]))=r.ai.any G);generalize (x.ab.any fun e=>S.deepF (d+1) e.2 (parts ++ [e.1]))=RES at *;have OT:=hid (fun e=>show G e=(pD (B+1+(e.1.length:Int)) (N+1)||(S.at_ e.2).ab.any fun e'=>S.deepF d e'.2 (parts ++ [e.1] ++ [e'.1])) from by
  rw[KY];show S.deepF (d+1) e.2 (parts ++ [e.1])=_;rw[Tre.deepF,←tn,hB,hN])
 have HE:=hid (show ∀ e∈r.ai,rk (i:Int)<rk e.2∧e.1.length≤24∧∃ y,fnd S.ac e.2=some y from fun e he=>HG.out.bR _ _ hx e (sn.ai.mem_iff.1 he));have yj:=hid (by have:=sn.few HG.out hx;omega:r.ai.length≤900);have M4:=hid (show B=((fm parts).length:Int)∧N=(parts.length:Int) from⟨hB,hN⟩);have hB0:0≤B:=by omega
 have hN0:0≤N:=by omega
 have hrl:(R.length:Int)≤1000000:=by have:=ll.out;omega
 have hle:(r.ai.length:Int)≤900:=by have:=yj.out;omega
 have hil:(i:Int)<(R.length:Int):=by have:=(List.getElem?_eq_some_iff.1 hr).1;omega
 have hi0:(0:Int)≤(i:Int):=by omega
 have HR:=hid hr;obtain⟨pv,cp,he,-,-⟩:=iC (Rtb.aO hO hr).1;have JK:=hid he;have HQ:=hid (fun(w:World)(L':List HP)(h:Has w (Rtb q g c R S.ak::L'))=>(show w.cell? ⟨q,0,none⟩=some (.slice (some ⟨g,0,none⟩) R.length c)∧w.cell? ⟨g,i*7+4,none⟩=some (.slice pv r.ai.length cp) from by
  obtain⟨-,-,-,-,c4,-,-⟩:=Rtb.at_ h HR.out;rw[JK.out] at c4;exact⟨Rtb.nv h,c4⟩))
 have vz:=hid (fun(w:World)(L':List HP)(h:Has w (Rtb q g c R S.ak::L'))=>(show (0<r.ai.length→∃ a o,pv=some ⟨a,o,none⟩∧∀ i (hi:i<r.ai.length),w.cell? ⟨a,o+i*2,none⟩=some (sV r.ai[i].1)∧w.cell? ⟨a,o+i*2+1,none⟩=some (.int .i64 r.ai[i].2)) from by
  obtain⟨pv',cp',he',-,h1⟩:=iC (Rtb.aO h HR.out).1;rw[JK.out] at he';cases he';exact h1))
 have JG:=hid hrk;have HO:=hid hO;clear hO hx hr sn he hrk hB hN KY;go_enter Tryz.func142,Tryz.ntmps142
 go_wp2_with fail
 go_loopw [9] (fun v w'=>∃ (j:Nat) (w0:World),w0=w'∧j≤r.ai.length∧v=.int .i64 j∧Hid (∀ a (ha:a<r.ai.length),a<j→G r.ai[a]=false)∧Hid (Has w0 (Rtb q g c R S.ak::L))∧Hid (Keep w w0)) (fun v _=>r.ai.length-(intOf v).toNat)
 case atStart=>exact⟨0,w,by trivial,by omega,rfl,hid fun a _ h=>absurd h (by omega),HO,hid (Keep.refl w)⟩
 case round =>
  obtain⟨j,w1,rfl,hj,rfl,HN,eT,ff⟩:=hrel;obtain⟨hq,c4⟩:=HQ.out _ _ eT.out;by_cases hlt:j<r.ai.length
  ·have hji:(j:Int)<(r.ai.length:Int):=by omega
   have hj0:(0:Int)≤(j:Int):=by omega
   obtain⟨a,o,rfl,hce⟩:=vz.out _ _ eT.out (by omega);obtain⟨c0,c1⟩:=hce j hlt;obtain⟨h1,h2,y,hy⟩:=HE.out _ (List.getElem_mem hlt);have yz:=hid (OT.out r.ai[j]);have MJ:=hid (fun h=>GY.out.trans (Bz (f:=G) hlt h));have DF:=hid (show G r.ai[j]=false→∀ a (ha:a<r.ai.length),a<j+1→G r.ai[a]=false from fun h a ha h'=>by
    by_cases e:a=j
    ·subst e;exact h
    ·exact HN.out a ha (by omega))
   generalize r.ai[j]=ej at *;obtain⟨nm,m⟩:=ej;dsimp only at c0 c1 h1 h2 hy yz;obtain⟨ci,r2,rfl,hr2,sn2⟩:=HS.out.ae _ _ hy;have HAT:=hid (fC hy);have HY:=hid hy;have HR2:=hid hr2;have hcl:(ci:Int)<(R.length:Int):=by have:=(List.getElem?_eq_some_iff.1 hr2).1;omega
   have hc0:(0:Int)≤(ci:Int):=by omega
   have hnl:(nm.length:Int)≤24:=by omega
   have sj:=hid (fun(w:World)(L':List HP)(h:Has w (Rtb q g c R S.ak::L'))=>(show w.cell? ⟨q,0,none⟩=some (.slice (some ⟨g,0,none⟩) R.length c)∧w.cell? ⟨g,ci*7,none⟩=some (.int .i64 y.aa) from by
    obtain⟨k0,-⟩:=Rtb.at_ h HR2.out;rw[sn2.aa] at k0;exact⟨Rtb.nv h,k0⟩))
   rw[HAT.out] at yz;have NY:=hid (show y.aa≠2→y.ab = [] from fun h=>((HG.out.ax hy).file h).1);have hw1:IntKind.i64.wrap (B+1)=B+1:=ft _ (by omega);obtain⟨B2,hB2⟩:∃ B2,B+1+(nm.length:Int)=B2:=⟨_,rfl⟩
   obtain⟨N2,Jy⟩:∃ N2,N+1=N2:=⟨_,rfl⟩
   rw[hB2,Jy] at yz;have hw2:IntKind.i64.wrap (B+1+(nm.length:Int))=B2:=by rw[←hB2];exact ft _ (by omega)
   have hw3:IntKind.i64.wrap (N+1)=N2:=by rw[←Jy];exact ft _ (by omega)
   have BT:=hid (fun(hb:pD B2 N2=false)(w:World)(L':List HP)(h:Has w (Rtb q g c R S.ak::L'))=>ih (ci:Int) y (parts ++ [nm]) B2 N2 w L' (by have:=JG.out;omega) HY.out (by have:=M4.out.1;rw[←hB2,this,i7,List.length_append,List.length_cons];omega) (by have:=M4.out.2;rw[←Jy,this,List.length_append];rfl) (by unfold pD at hb;simp at hb;omega) (by unfold pD at hb;simp at hb;omega) h);have gW:=hid hlt;clear hce h1 h2 hy hr2 hlt hj HAT hB2 Jy;go_upto_region 6 with fail
   have eZ:=hid (show Has (w1.alloc (.cells #[.string (sB nm),.int .i64 (ci:Int)] 200)).drew (pt w1.heap.size (.cells #[.string (sB nm),.int .i64 (ci:Int)] 200)::Rtb q g c R S.ak::L) from(eT.out.alloc _).drew);have fu:=hid (ff.out.alloc (.cells #[.string (sB nm),.int .i64 (ci:Int)] 200)).drew;generalize w1.alloc (.cells #[.string (sB nm),.int .i64 (ci:Int)] 200)=wZ9 at *;generalize w1.heap.size=g5 at *;clear eT ff hq c4 c0 c1;cases hb:pD B2 N2
   ·rw[hb,Bool.false_or] at yz;by_cases hk2:y.aa=2
    ·have hkb:(y.aa==2)=true:=by simpa using hk2
     have NJ:=hid (BT.out hb);clear hk2 BT;obtain⟨A,hA⟩:∃ A,(y.ab.any fun e'=>S.deepF d e'.2 (parts ++ [nm] ++ [e'.1]))=A:=⟨_,rfl⟩
     rw[hA] at yz NJ;clear hA;refine eP (fun w'=>w'.cell? ⟨g5,1,none⟩=some (.int .i64 (ci:Int))∧w'.cell? ⟨q,0,none⟩=some (.slice (some ⟨g,0,none⟩) R.length c)∧w'.cell? ⟨g,ci*7,none⟩=some (.int .i64 y.aa)) (by kernel_rfl) (by kernel_rfl) ⟨eZ.out.cells 1,sj.out _ _ eZ.out.p1⟩ ?_;generalize wZ9.drew=w2 at *;repeat (first|refine wr3 ?_|refine wk ?_)
     refine wa fun K hK=>?_;go_simp
     refine(BV B2 N2 w2).mono ?_;rintro e w' ⟨rfl,rfl⟩;rw[hb];try dsimp only
     refine hK.out _ _ ⟨eZ.out.cells 1,sj.out _ _ eZ.out.p1⟩ ?_;clear hK K;try simp only[Act.put,zpu]
     repeat (first|refine wr3 ?_|refine wk ?_)
     refine wa fun K hK=>?_;go_simp
     refine(NJ.out w2 _ (eZ.out.re 2 [1,0])).mono ?_;rintro e w3 ⟨rfl,hO3,hK3⟩;have eW:=hid hO3.vc;have fH:=hid (fu.out.trans hK3);clear hO3 hK3;try dsimp only
     refine hK.out _ _ ⟨eW.out.cells 1,sj.out _ _ eW.out.p1⟩ ?_;clear hK K;try simp only[Act.put,zpu]
     repeat (first|refine wr3 ?_|refine wk ?_)
     cases A with
     | true =>
      refine eR ?_;have Fa:=hid (MJ.out (by rw[yz.out];try rfl));go_wp2_with fail
      go_ret
      rw[Fa.out];exact⟨rfl,eW.out.drop,fH.out⟩
     | false =>
      refine eR ?_;have mZ:=hid (DF.out (by rw[yz.out];try rfl));go_wp2_with fail
      exact⟨⟨j+1,_,by trivial,by have:=gW.out;omega,by go_num,mZ,hid eW.out.drop,fH⟩,by have:=gW.out;simp[intOf];omega⟩
    ·have hkb:(y.aa==2)=false:=by simpa using hk2
     have hnk:=NY.out hk2;rw[hnk] at yz;clear hk2 BT hnk;refine eP (fun w'=>w'.cell? ⟨g5,1,none⟩=some (.int .i64 (ci:Int))∧w'.cell? ⟨q,0,none⟩=some (.slice (some ⟨g,0,none⟩) R.length c)∧w'.cell? ⟨g,ci*7,none⟩=some (.int .i64 y.aa)) (by kernel_rfl) (by kernel_rfl) ⟨eZ.out.cells 1,sj.out _ _ eZ.out.p1⟩ ?_;generalize wZ9.drew=w2 at *;repeat (first|refine wr3 ?_|refine wk ?_)
     refine wa fun K hK=>?_;go_simp
     refine(BV B2 N2 w2).mono ?_;rintro e w' ⟨rfl,rfl⟩;rw[hb];try dsimp only
     refine hK.out _ _ ⟨eZ.out.cells 1,sj.out _ _ eZ.out.p1⟩ ?_;clear hK K;try simp only[Act.put,zpu]
     repeat (first|refine wr3 ?_|refine wk ?_)
     refine eR ?_;have mZ:=hid (DF.out (by rw[yz.out];try rfl));go_wp2_with fail
     exact⟨⟨j+1,_,by trivial,by have:=gW.out;omega,by go_num,mZ,hid eZ.out.drop,fu⟩,by have:=gW.out;simp[intOf];omega⟩
   ·rw[hb,Bool.true_or] at yz;clear BT;refine eP (fun w'=>w'.cell? ⟨g5,1,none⟩=some (.int .i64 (ci:Int))∧w'.cell? ⟨q,0,none⟩=some (.slice (some ⟨g,0,none⟩) R.length c)∧w'.cell? ⟨g,ci*7,none⟩=some (.int .i64 y.aa)) (by kernel_rfl) (by kernel_rfl) ⟨eZ.out.cells 1,sj.out _ _ eZ.out.p1⟩ ?_;generalize wZ9.drew=w2 at *;repeat (first|refine wr3 ?_|refine wk ?_)
    refine wa fun K hK=>?_;go_simp
    refine(BV B2 N2 w2).mono ?_;rintro e w' ⟨rfl,rfl⟩;rw[hb];try dsimp only
    refine hK.out _ _ ⟨eZ.out.cells 1,sj.out _ _ eZ.out.p1⟩ ?_;clear hK K;try simp only[Act.put,zpu]
    repeat (first|refine wr3 ?_|refine wk ?_)
    refine eR ?_;have Fa:=hid (MJ.out (by rw[yz.out];try rfl));go_wp2_with fail
    go_ret
    rw[Fa.out];exact⟨rfl,eZ.out.drop,fu.out⟩
  ·obtain rfl:j=r.ai.length:=by omega
   have hki:¬ (r.ai.length:Int)<(r.ai.length:Int):=by omega
   have HF:=hid (by rw[GY.out];exact BQ fun a ha=>HN.out a ha ha:RES=false);clear hlt hj;go_wp2_with fail
   go_ret
   rw[HF.out];exact⟨rfl,eT.out,ff.out⟩
theorem sM {S:Tre}{p:Str}(h:(S.place p).2=0):Tre.longM (S.way (S.place p).1.dir ++ [(S.place p).1.name])=false:=by
 unfold Tre.place at *;split
 ·rename_i h1;rw[if_pos h1] at h;exact absurd h h1
 ·rename_i h1;rw[if_neg h1] at h;split
  ·rename_i h2;rw[if_pos h2] at h;exact absurd h h2
  ·rename_i h2;rw[if_neg h2] at h;split
   ·rename_i h3;rw[if_pos h3] at h;exact absurd h (by decide)
   ·rename_i h3;rw[if_neg h3] at h;split
    ·rename_i h4;rw[if_pos h4] at h;exact absurd h (by decide)
    ·rename_i h4;simpa using h4
theorem Bn (q:Nat)(S:Tre)(rk:Int→Nat)(k:Nat)(o:Opm)(ov:Value)(w:World)(L:List HP)(hk:k≤900)(hG:Gd S rk k)(hp:o.ag.length≤100000)(ku:o.aj.length≤100000)(hO:Has w (Rts q S::L)) :
  zCl 73 #[.pointer (some ⟨q,0,none⟩),opV o ov] w fun e w'=>e=.returned (fL (S.rename o.ag o.aj).1 eS eS)∧Has w' (Rts q (S.rename o.ag o.aj).2::L)∧Keep w w':=by
 obtain⟨g,c,R,hS,hO2⟩:=fh.1 hO;have HG:=hid hG;have HS:=hid hS;have HO:=hid hO2;have HT:=hid hG.tab16;have hrl:(R.length:Int)≤1000000:=by have:=hS.aA hG;omega
 have ll:=hid (by have:=hS.aA hG;omega:R.length≤100000);clear hO hO2 hG hS;have jj:=hid (show S.rename o.ag o.aj=(if (fx o.ag).2.2≠0 then(eQ (fx o.ag).2.2,S) else if (fx o.aj).2.2≠0 then(eQ (fx o.aj).2.2,S) else if (S.place o.ag).2≠0 then(eQ (S.place o.ag).2,S) else if (S.place o.ag).1.ae=0 then(eQ 5,S) else if (S.place o.aj).2≠0 then(eQ (S.place o.aj).2,S)
  else if (S.at_ (S.place o.ag).1.ae).aa=2∧S.within (S.place o.aj).1.dir (S.place o.ag).1.ae=true then(eQ 2,S) else if (S.at_ (S.place o.ag).1.ae).aa=2∧S.deep (S.place o.ag).1.ae (S.way (S.place o.aj).1.dir ++ [(S.place o.aj).1.name])=true then(eQ 11,S)
  else if (S.place o.aj).1.ae=(S.place o.ag).1.ae then(eQ 0,S) else if (S.place o.aj).1.ae≠0∧(S.at_ (S.place o.ag).1.ae).aa=2∧(S.at_ (S.place o.aj).1.ae).aa≠2 then(eQ 7,S) else if (S.place o.aj).1.ae≠0∧(S.at_ (S.place o.ag).1.ae).aa=2∧0<(S.at_ (S.place o.aj).1.ae).ab.length then(eQ 9,S)
  else if (S.place o.aj).1.ae≠0∧(S.at_ (S.place o.ag).1.ae).aa≠2∧(S.at_ (S.place o.aj).1.ae).aa=2 then(eQ 8,S) else(eQ 0,(if (S.place o.aj).1.ae≠0 then S.take (S.place o.aj).1.dir (S.place o.aj).1.name else S).bg (S.place o.ag).1 (S.place o.aj).1)) from rfl)
 generalize S.rename o.ag o.aj=RR at *;have Gp:=hid (fun(w:World)(L':List HP)(hO:Has w L')=>tU o.ag w L' hp hO);have Ku:=hid (fun(w:World)(L':List HP)(hO:Has w L')=>tU o.aj w L' ku hO);have Ls:=hid (fun(w:World)(L':List HP)(hO:Has w (Rtb q g c R S.ak::L'))=>ml q g c R S rk k o.ag w L' (by omega) HG.out HS.out hp hO);have Mz:=hid (fun(w:World)(L':List HP)(hO:Has w (Rtb q g c R S.ak::L'))=>ml q g c R S rk k o.aj w L' (by omega) HG.out HS.out ku hO);have KK:=hid (fun h=>HG.out.ay o.ag h);have K2:=hid (fun h=>HG.out.ay o.aj h);have Ms:=hid (fun h=>sM (S:=S) (p:=o.aj) h);generalize fx o.ag=A at *;generalize fx o.aj=B at *;generalize S.place o.ag=P at *;generalize S.place o.aj=Q at *;obtain⟨a1,a2,ea⟩:=A;obtain⟨b1,b2,eb⟩:=B;obtain⟨⟨an,ad,anm⟩,pe⟩:=P;obtain⟨⟨bn,bd,bnm⟩,qe⟩:=Q;dsimp only at jj Gp Ku Ls Mz KK K2 Ms;clear hp ku;unfold opV opC;go_enter Tryz.func73,Tryz.ntmps73
 go_upto_region 1 with fail
 obtain⟨w1,g3,g4,ew,e4,e3,eT,ff⟩:=f9 HO.out o ov;rw[ew,e4,e3];clear HO ew e4 e3;have iK:=eT.out.p1.e5;have kI:=eT.out.p1.e6;go_wp2_with fail
 refine st (Gp.out w1 _ eT.out) (ff.out) fun w2 eZ fu=>?_;try dsimp only
 clear eT ff iK kI;have iK:=eZ.out.p1.e5;have kI:=eZ.out.p1.e6;go_wp2_with fail
 refine st (Ku.out w2 _ eZ.out) (fu.out) fun w3 eW fH=>?_;try dsimp only
 clear eZ fu iK kI;have iK:=eW.out.p1.e5;by_cases hea:ea≠0
 ·have HR:=hid (jj.out.trans (if_pos hea));go_wp2_with fail
  have HC:=hid (gk (ea) w3 (pt g4 zA::Rtb q g c R S.ak::L) (eW.out.re 3 [0,2]))
  as_aux_lemma=>exact zaY
 have HR1:=hid (jj.out.trans (if_neg hea));have hea:ea=0:=Classical.byContradiction hea;subst hea;by_cases heb:eb≠0
 ·have HR:=hid (HR1.out.trans (if_pos heb));go_wp2_with fail
  have HC:=hid (gk (eb) w3 (pt g4 zA::Rtb q g c R S.ak::L) (eW.out.re 3 [0,2]))
  as_aux_lemma=>exact zaY
 have HR2:=hid (HR1.out.trans (if_neg heb));have heb:eb=0:=Classical.byContradiction heb;subst heb;have hzz:((0:Int) != 0)=false:=rfl;go_wp2_with fail
 refine st (Ls.out w3 _ (eW.out.re 3 [2,0,1])) (fH.out) fun w4 fg fO=>?_;try dsimp only
 clear eW fH iK;unfold rsV rsC;go_upto_region 8 with fail
 have fi:=hid (show Has (w4.alloc (.cells #[.int .i64 ad,sV anm,.int .i64 an] 72)) (pt w4.heap.size (.cells #[.int .i64 ad,sV anm,.int .i64 an] 72)::pt g4 zA::pt g3 (.cells #[.int .i64 o.aa,.int .i64 o.fd,.int .i64 o.n,.int .i64 o.off,.int .i64 o.af,sV o.ag,sV o.aj,ov] 33)::Rtb q g c R S.ak::L) from(show Has (w4.alloc (.cells #[.int .i64 ad,sV anm,.int .i64 an] 72)) (pt w4.heap.size (.cells #[.int .i64 ad,sV anm,.int .i64 an] 72)::Rtb q g c R S.ak::pt g4 zA::pt g3 (.cells #[.int .i64 o.aa,.int .i64 o.fd,.int .i64 o.n,.int .i64 o.off,.int .i64 o.af,sV o.ag,sV o.aj,ov] 33)::L) from fg.out.alloc _).re 4 [0,2,3,1]);have ge:=hid (fO.out.alloc (.cells #[.int .i64 ad,sV anm,.int .i64 an] 72));clear fg fO;generalize w4.alloc (.cells #[.int .i64 ad,sV anm,.int .i64 an] 72)=w5 at *;generalize w4.heap.size=g5 at *;have kI:=fi.out.p2.e6;by_cases hpe:pe≠0
 ·have HR:=hid (HR2.out.trans (if_pos hpe));go_wp2_with fail
  have HC:=hid (gk (pe) w5 (pt g4 zA::Rtb q g c R S.ak::L) (fi.out.re 4 [1,3]));have kz:=ge;exact lv
 have HR3:=hid (HR2.out.trans (if_neg hpe));have hpe:pe=0:=Classical.byContradiction hpe;subst hpe;have ha2:=fi.out.e2;by_cases DK:an=0
 ·have HR:=hid (HR3.out.trans (if_pos DK));have hnb:(an==0)=true:=by simpa using DK
  clear DK;go_wp2_with fail
  have HC:=hid (gk (5:Int) w5 (pt g4 zA::Rtb q g c R S.ak::L) (fi.out.re 4 [1,3]));have kz:=ge;exact lv
 have HR4:=hid (HR3.out.trans (if_neg DK));have hnb:(an==0)=false:=by simpa using DK
 go_wp2_with fail
 refine st (Mz.out w5 _ (fi.out.re 4 [3,0,1,2])) (ge.out) fun w6 fq gu=>?_;try dsimp only
 clear fi ge kI ha2;unfold rsV rsC;go_upto_region 13 with fail
 have fP:=hid (show Has (w6.alloc (.cells #[.int .i64 bd,sV bnm,.int .i64 bn] 72)) (pt w6.heap.size (.cells #[.int .i64 bd,sV bnm,.int .i64 bn] 72)::pt g5 (.cells #[.int .i64 ad,sV anm,.int .i64 an] 72)::pt g4 zA::pt g3 (.cells #[.int .i64 o.aa,.int .i64 o.fd,.int .i64 o.n,.int .i64 o.off,.int .i64 o.af,sV o.ag,sV o.aj,ov] 33)::Rtb q g c R S.ak::L) from(show Has (w6.alloc (.cells #[.int .i64 bd,sV bnm,.int .i64 bn] 72)) (pt w6.heap.size (.cells #[.int .i64 bd,sV bnm,.int .i64 bn] 72)::Rtb q g c R S.ak::pt g5 (.cells #[.int .i64 ad,sV anm,.int .i64 an] 72)::pt g4 zA::pt g3 (.cells #[.int .i64 o.aa,.int .i64 o.fd,.int .i64 o.n,.int .i64 o.off,.int .i64 o.af,sV o.ag,sV o.aj,ov] 33)::L) from fq.out.alloc _).re 5 [0,2,3,4,1]);have gZ:=hid (gu.out.alloc (.cells #[.int .i64 bd,sV bnm,.int .i64 bn] 72));clear fq gu;generalize w6.alloc (.cells #[.int .i64 bd,sV bnm,.int .i64 bn] 72)=w7 at *;generalize w6.heap.size=g6 at *;by_cases hqe:qe≠0
 ·have HR:=hid (HR4.out.trans (if_pos hqe));go_wp2_with fail
  have HC:=hid (gk (qe) w7 (pt g4 zA::Rtb q g c R S.ak::L) (fP.out.re 5 [2,4]));have kz:=gZ;exact lv
 have xN:=hid (HR4.out.trans (if_neg hqe));have hqe:qe=0:=Classical.byContradiction hqe;subst hqe;clear jj HR1 HR2 HR3 HR4 Gp Ku Ls Mz;have tO:=hid (KK.out (by trivial));have Nu:=hid (K2.out (by trivial));have Eu:=hid (Ms.out (by trivial));clear KK K2 Ms;obtain⟨xd,hxd,I6,-,oK,-⟩:=tO.out.dir;have rZ:fnd xd.ab anm=some an:=oK DK;clear oK;obtain⟨xt,hxt,IT,hat,htc,htn⟩:=Nu.out.dir;dsimp only at hxd hxt hat htc htn;obtain⟨-,-,xn,Gj,-⟩:=(HG.out.ax hxd).ai _ (fj rZ);have kP:fnd S.ac an=some xn:=Gj;clear Gj;obtain⟨d,rd,hdd,hrd,sd⟩:=HS.out.ae _ _ hxd;obtain⟨n,rn,hnn,hrn,sn⟩:=HS.out.ae _ _ kP;obtain⟨e,re,LI,hre,se⟩:=HS.out.ae _ _ hxt;subst hdd;subst hnn;subst LI;have pT:=hid hxd;have Mg:=hid I6;have CB:=hid rZ;have wQ:=hid hxt;have yN:=hid IT;have J0:=hid hat;have Ni:=hid htc;have MF:=hid htn;have vI:=hid kP;have jj:=hid hre;have jl:=hid hrn;have io:=hid sn;have Ii:=hid se;have Jz:=hid DK;have HAT:=hid (fC kP);rw[HAT.out] at xN;have hni:(n:Int)<(R.length:Int):=by have:=(List.getElem?_eq_some_iff.1 hrn).1;omega
 have hn0:(0:Int)≤(n:Int):=by omega
 have Bx:=hid (fun(w:World)(L':List HP)(h:Has w (Rtb q g c R S.ak::L'))=>(show w.cell? ⟨q,0,none⟩=some (.slice (some ⟨g,0,none⟩) R.length c)∧w.cell? ⟨g,n*7,none⟩=some (.int .i64 xn.aa) from by
  obtain⟨k0,-⟩:=Rtb.at_ h jl.out;rw[io.out.aa] at k0;exact⟨Rtb.nv h,k0⟩))
 clear hxd I6 rZ hxt IT hat htc htn kP hrd sd hrn sn hre se DK tO;go_upto_region 15 with fail
 have fI:=hid fP.out.drew;have iI:=hid gZ.out.drew;refine eP (fun w'=>w'.cell? ⟨g5,2,none⟩=some (.int .i64 (n:Int))∧w'.cell? ⟨q,0,none⟩=some (.slice (some ⟨g,0,none⟩) R.length c)∧w'.cell? ⟨g,n*7,none⟩=some (.int .i64 xn.aa)) (by kernel_rfl) (by kernel_rfl) ⟨fI.out.p1.cells 2,Bx.out _ _ fI.out.p4⟩ ?_;clear fP gZ;generalize w7.drew=w8 at *;repeat (first|refine wr3 ?_|refine wk ?_)
 refine eR ?_;obtain⟨kb,hkb⟩:∃ kb,(xn.aa==2)=kb:=⟨_,rfl⟩
 rw[hkb];have HKB:=hid hkb;clear hkb;have t7:=fI.out.p1.e2;have rj:=fI.out.e0;go_upto_region 16 with fail
 go_cut [85] (fun v wx=>v=.bool (kb&&S.within (e:Int) (n:Int))∧w8=wx)
 case first =>
  cases kb with
  | true =>
   go_wp2_with fail
   refine(BF q g c R S rk k (e:Int) (n:Int) xt w8 _ (by omega) HG.out HS.out wQ.out J0.out (fI.out.re 5 [4])).mono ?_;rintro e w' ⟨rfl,rfl⟩;try dsimp only
   as_aux_lemma=>exact zbP
  | false =>
   as_aux_lemma=>exact zbP
 case rest =>
  obtain⟨rfl,rfl⟩:=hcut;obtain⟨wb,hwb⟩:∃ wb,(kb&&S.within (e:Int) (n:Int))=wb:=⟨_,rfl⟩
  rw[hwb];have LK:=hid hwb;clear hwb;cases wb with
  | true =>
   have HR:=hid (xN.out.trans (if_pos (show xn.aa=2∧S.within (e:Int) (n:Int)=true from by
    have h:=LK.out;rw[Bool.and_eq_true] at h;refine⟨?_,h.2⟩;have h2:=HKB.out;rw[h.1] at h2;simpa using h2)))
   go_wp2_with fail
   have HC:=hid (gk (2:Int) w8 (pt g4 zA::Rtb q g c R S.ak::L) (fI.out.re 5 [2,4]));have kz:=iI;exact lv
  | false =>
   have HW:=hid (show ¬ (xn.aa=2∧S.within (e:Int) (n:Int)=true) from by
    rintro⟨h1,h2⟩;have h:=LK.out;have h3:=HKB.out;rw[h1] at h3;rw[←h3,h2] at h;cases h)
   have qG:=hid (xN.out.trans (if_neg HW.out));clear xN LK;have yP:=hid (Dr q g c R S rk k (e:Int) xt w8 _ (by omega) HG.out HS.out wQ.out yN.out (fI.out.re 5 [4]));have hwl:=ot HG.out.wy 20 (e:Int) xt wQ.out (HG.out.wy.low _);have JJ:=lx (lM HG.out.wy 20 (e:Int) xt wQ.out (HG.out.wy.low _));have hbn:(bnm.length:Int)≤24:=by have:=Nu.out.name.2.1;dsimp only at this;omega
   obtain⟨way,zu⟩:∃ way,S.way (e:Int)=way:=⟨_,rfl⟩
   rw[zu] at yP hwl JJ qG Eu;clear zu;have hz1:((fm way).length:Int)≤500:=by omega
   have hz2:(way.length:Int)≤20:=by omega
   clear hwl JJ;go_wp2_with fail
   refine(yP.out).mono ?_;rintro e w' ⟨rfl,rfl⟩;try dsimp only
   have E7:=hid (fun(w:World)(L':List HP)(h:Has w (Rtb q g c R S.ak::L'))=>Gc q g c R S rk k (by omega) HG.out HS.out 21 (n:Int) xn (way ++ [bnm]) ((fm way).length+1+bnm.length) (way.length+1) w L' (by omega) vI.out (by rw[i7,List.length_append,List.length_cons];omega) (by rw[List.length_append];rfl) (by omega) (by omega) h);have Nw:=hid (show S.deep (n:Int) (way ++ [bnm])=xn.ab.any fun e=>S.deepF 21 e.2 (way ++ [bnm] ++ [e.1]) from by
    unfold Tre.deep;rw[Tre.deepF,HAT.out,Eu.out,Bool.false_or])
   generalize (xn.ab.any fun e=>S.deepF 21 e.2 (way ++ [bnm] ++ [e.1]))=DP at *;rw[Nw.out] at qG;clear Nw Eu yP;have hw1:IntKind.i64.wrap ((fm way).length+1:Int)=(fm way).length+1:=ft _ (by omega);have hw2:IntKind.i64.wrap ((fm way).length+1+bnm.length:Int)=(fm way).length+1+bnm.length:=ft _ (by omega);have hw3:IntKind.i64.wrap (way.length+1:Int)=way.length+1:=ft _ (by omega);have t7:=fI.out.p1.e2;have rr:=fI.out.e1;go_upto_region 19 with fail
   go_cut [109] (fun v wx=>∃ w9,w9=wx∧v=.bool (kb&&DP)∧Hid (Has w9 (pt g6 (.cells #[.int .i64 (e:Int),sV bnm,.int .i64 bn] 72)::pt g5 (.cells #[.int .i64 (d:Int),sV anm,.int .i64 (n:Int)] 72)::pt g4 zA::pt g3 (.cells #[.int .i64 o.aa,.int .i64 o.fd,.int .i64 o.n,.int .i64 o.off,.int .i64 o.af,sV o.ag,sV o.aj,ov] 33)::Rtb q g c R S.ak::L))∧Hid (Keep w w9))
   case first =>
    cases kb with
    | true =>
     go_wp2_with fail
     refine st (E7.out w8 _ (fI.out.re 5 [4,0,1,2,3])) (iI.out) fun w9 fJ gQ=>?_;try dsimp only
     have rI:=hid fJ.out.vr;go_wp2_with fail
     go_meet
     exact⟨_,rfl,rfl,rI,gQ⟩
    | false =>
     go_wp2_with fail
     go_meet
     exact⟨_,rfl,rfl,fI,iI⟩
   case rest =>
    obtain⟨w9,rfl,rfl,fJ,gQ⟩:=hcut;clear fI iI t7 rr rj hw1 hw2 hw3 E7;obtain⟨db,xC⟩:∃ db,(kb&&DP)=db:=⟨_,rfl⟩
    rw[xC];have Io:=hid xC;clear xC;cases db with
    | true =>
     have HR:=hid (qG.out.trans (if_pos (show xn.aa=2∧DP=true from by
      have h:=Io.out;rw[Bool.and_eq_true] at h;refine⟨?_,h.2⟩;have h2:=HKB.out;rw[h.1] at h2;simpa using h2)))
     go_wp2_with fail
     have HC:=hid (gk (11:Int) w9 (pt g4 zA::Rtb q g c R S.ak::L) (fJ.out.re 5 [2,4]));have kz:=gQ;exact lv
    | false =>
     have JV:=hid (qG.out.trans (if_neg (show ¬ (xn.aa=2∧DP=true) from by
      rintro⟨h1,h2⟩;have h:=Io.out;have h3:=HKB.out;rw[h1] at h3;rw[←h3,h2] at h;cases h)))
     clear qG Io;have t7:=fJ.out.p1.e2;have tR:=fJ.out.e2;by_cases hsame:bn=(n:Int)
     ·have HR:=hid (JV.out.trans (if_pos hsame));have hsb:((n:Int)==bn)=true:=by rw[hsame];simp
      clear hsame;have rI:=hid fJ.out.vf;obtain⟨hz0,hz1,hz2,hz3,gP,gH,hy0,hy1,hy2,hy3,hy4,gG⟩:=Has.az (rI.out);go_wp2_with fail
      have h1:=(rI.out).ans (eQ 0) (eS) (eS);refine bodyPost_ret (eV rfl rfl h1) rfl ?_;rw[HR.out];exact⟨rfl,fh.2 ⟨g,c,R,HS.out,h1.drop⟩,gQ.out.ans _ _ _ _ _ _ _⟩
     have Fq:=hid (JV.out.trans (if_neg hsame));have hsb:((n:Int)==bn)=false:=by simpa using fun h=>hsame h.symm
     have i8:=hid hsame;have HST:=hid (show (n:Int)≠(e:Int) from by
      intro h;have hxt:xn=xt:=by have h1:=vI.out;rw[h,wQ.out] at h1;exact(Option.some.inj h1).symm
      refine HW.out ⟨by rw[hxt];exact yN.out,?_⟩;rw[h];exact iW S _)
     clear hsame JV;go_upto_if 119 with fail
     go_cut [] (fun wx=>∃ (wt:World) (R1:List Rn) (S1:Tre) (d1 td1:Nod),wt=wx∧Hid (Has wt (pt g6 (.cells #[.int .i64 (e:Int),sV bnm,.int .i64 bn] 72)::pt g5 (.cells #[.int .i64 (d:Int),sV anm,.int .i64 (n:Int)] 72)::pt g4 zA::pt g3 (.cells #[.int .i64 o.aa,.int .i64 o.fd,.int .i64 o.n,.int .i64 o.off,.int .i64 o.af,sV o.ag,sV o.aj,ov] 33)::Rtb q g c R1 S1.ak::L))∧Hid (Keep w wt)∧Hid (Sim R1 S1)∧Hid (Gd S1 rk k)∧Hid (fnd S1.ac (d:Int)=some d1∧fnd d1.ab anm=some (n:Int)∧fnd S1.ac (n:Int)=some xn∧fnd S1.ac (e:Int)=some td1∧td1.aa=2∧fnd td1.ab bnm=none)∧Hid (RR=(eQ 0,S1.bg ⟨(n:Int),(d:Int),anm⟩ ⟨bn,(e:Int),bnm⟩)))
     case first =>
      by_cases hb0:bn=0
      ·have Ep:=hid (Fq.out.trans ((if_neg (fun h=>h.1 hb0)).trans ((if_neg (fun h=>h.1 hb0)).trans (if_neg (fun h=>h.1 hb0)))));rw[if_neg (fun h=>h hb0)] at Ep;have hbb:(bn != 0)=false:=by simpa using hb0
       have HF:=hid (MF.out hb0);clear hb0;go_wp2_with fail
       go_meet
       exact⟨_,R,S,xd,xt,rfl,fJ,gQ,HS,HG,hid ⟨pT.out,CB.out,vI.out,wQ.out,yN.out,HF.out⟩,Ep⟩
      ·have hbb:(bn != 0)=true:=by simpa using hb0
       have htc:=Ni.out hb0;obtain⟨-,-,y,hy0,-⟩:=(HG.out.ax wQ.out).ai _ (fj htc);have hy:fnd S.ac bn=some y:=hy0;clear hy0;obtain⟨m,rm,hmm,hrm,sm⟩:=HS.out.ae _ _ hy;subst hmm;have HY:=hid hy;have IB:=hid hrm;have IM:=hid sm;have zM:=hid htc;have J4:=hid (fC hy);have JZ:(m:Int)<(R.length:Int):=by have:=(List.getElem?_eq_some_iff.1 hrm).1;omega
       have hm0:(0:Int)≤(m:Int):=by omega
       have FL:=hid (show rm.ai.length=y.ab.length from sm.ai.length_eq);have Kv:(rm.ai.length:Int)≤1000:=by have:=sm.few HG.out hy;omega
       obtain⟨pe,ce,hev,-⟩:=(Rtb.aO fJ.out.p4 hrm).1.form;have oJ:=hid (fun(w:World)(L':List HP)(h:Has w (Rtb q g c R S.ak::L'))=>(show w.cell? ⟨q,0,none⟩=some (.slice (some ⟨g,0,none⟩) R.length c)∧w.cell? ⟨g,m*7,none⟩=some (.int .i64 y.aa)∧w.cell? ⟨g,m*7+4,none⟩=some (.slice pe rm.ai.length ce) from by
        obtain⟨k0,-,-,-,k4,-⟩:=Rtb.at_ h IB.out;rw[IM.out.aa] at k0;rw[hev] at k4;exact⟨Rtb.nv h,k0,k4⟩))
       rw[J4.out] at Fq;have HB0:=hid hb0;clear hy hrm sm htc hev hb0 Ni MF;go_upto_region 24 with fail
       have fa:=hid fJ.out.drew;have jk:=hid gQ.out.drew;refine eP (fun w'=>w'.cell? ⟨g6,2,none⟩=some (.int .i64 (m:Int))∧w'.cell? ⟨q,0,none⟩=some (.slice (some ⟨g,0,none⟩) R.length c)∧w'.cell? ⟨g,m*7,none⟩=some (.int .i64 y.aa)∧w'.cell? ⟨g,m*7+4,none⟩=some (.slice pe rm.ai.length ce)) (by kernel_rfl) (by kernel_rfl) ⟨fa.out.cells 2,oJ.out _ _ fa.out.p4⟩ ?_;clear fJ gQ t7 tR;generalize w9.drew=wZ9 at *;repeat (first|refine wr4 ?_|refine wk ?_)
       refine eR ?_;cases kb with
       | true =>
        have vY:=hid (by have h:=HKB.out;simpa using h:xn.aa=2);by_cases hy2:y.aa=2
        ·have hyb:(y.aa==2)=true:=by simpa using hy2
         have D8:=hid hy2;clear hy2;by_cases hps:0<y.ab.length
         ·have HR:=hid (Fq.out.trans ((if_neg (fun h=>h.2.2 D8.out)).trans (if_pos ⟨HB0.out,vY.out,hps⟩)));have hpb:decide ((0:Int)<(rm.ai.length:Int))=true:=by have h9:=FL.out;exact decide_eq_true (by omega)
          have hpc:decide (0<rm.ai.length)=true:=by have h9:=FL.out;exact decide_eq_true (by omega)
          clear hps;go_upto_region 27 with fail
          have kB:=hid fa.out.drew;have yg:=hid jk.out.drew;refine eP (fun w'=>w'.cell? ⟨g6,2,none⟩=some (.int .i64 (m:Int))∧w'.cell? ⟨q,0,none⟩=some (.slice (some ⟨g,0,none⟩) R.length c)∧w'.cell? ⟨g,m*7+4,none⟩=some (.slice pe rm.ai.length ce)) (by kernel_rfl) (by kernel_rfl) ⟨kB.out.cells 2,(oJ.out _ _ kB.out.p4).1,(oJ.out _ _ kB.out.p4).2.2⟩ ?_;clear fa jk;generalize wZ9.drew=wb at *;repeat (first|refine wr3 ?_|refine wk ?_)
          refine eR ?_;go_wp2_with fail
          have HC:=hid (gk (9:Int) wb (pt g4 zA::Rtb q g c R S.ak::L) (kB.out.re 5 [2,4]));have kz:=yg;exact lv
         ·have NP:=hid hps;have hpb:decide ((0:Int)<(rm.ai.length:Int))=false:=by have h9:=FL.out;exact decide_eq_false (by omega)
          have hpc:decide (0<rm.ai.length)=false:=by have h9:=FL.out;exact decide_eq_false (by omega)
          clear hps;go_upto_region 27 with fail
          have kB:=hid fa.out.drew;have yg:=hid jk.out.drew;refine eP (fun w'=>w'.cell? ⟨g6,2,none⟩=some (.int .i64 (m:Int))∧w'.cell? ⟨q,0,none⟩=some (.slice (some ⟨g,0,none⟩) R.length c)∧w'.cell? ⟨g,m*7+4,none⟩=some (.slice pe rm.ai.length ce)) (by kernel_rfl) (by kernel_rfl) ⟨kB.out.cells 2,(oJ.out _ _ kB.out.p4).1,(oJ.out _ _ kB.out.p4).2.2⟩ ?_;clear fa jk;generalize wZ9.drew=wb at *;repeat (first|refine wr3 ?_|refine wk ?_)
          refine eR ?_;have Ep:=hid ((Fq.out.trans ((if_neg (fun h=>h.2.2 D8.out)).trans ((if_neg (fun h=>NP.out h.2.2)).trans (if_neg (fun h=>h.2.1 vY.out))))).trans (by rw[if_pos HB0.out]));have hemp:y.aa=2→y.ab = []:=fun _=>List.eq_nil_of_length_eq_zero (by have:=NP.out;omega)
          as_aux_lemma=>exact zat
        ·have hyb:(y.aa==2)=false:=by simpa using hy2
         have HR:=hid (Fq.out.trans (if_pos ⟨HB0.out,vY.out,hy2⟩));clear hy2;go_wp2_with fail
         have HC:=hid (gk (7:Int) wZ9 (pt g4 zA::Rtb q g c R S.ak::L) (fa.out.re 5 [2,4]));have kz:=jk;exact lv
       | false =>
        have vY:=hid (by have h:=HKB.out;simpa using h:xn.aa≠2);by_cases hy2:y.aa=2
        ·have hyb:(y.aa==2)=true:=by simpa using hy2
         have HR:=hid (Fq.out.trans ((if_neg (fun h=>vY.out h.2.1)).trans ((if_neg (fun h=>vY.out h.2.1)).trans (if_pos ⟨HB0.out,vY.out,hy2⟩))));clear hy2;go_upto_region 27 with fail
         have kB:=hid fa.out.drew;have yg:=hid jk.out.drew;refine eP (fun w'=>w'.cell? ⟨g6,2,none⟩=some (.int .i64 (m:Int))∧w'.cell? ⟨q,0,none⟩=some (.slice (some ⟨g,0,none⟩) R.length c)∧w'.cell? ⟨g,m*7+4,none⟩=some (.slice pe rm.ai.length ce)) (by kernel_rfl) (by kernel_rfl) ⟨kB.out.cells 2,(oJ.out _ _ kB.out.p4).1,(oJ.out _ _ kB.out.p4).2.2⟩ ?_;clear fa jk;generalize wZ9.drew=wb at *;repeat (first|refine wr3 ?_|refine wk ?_)
         refine eR ?_;go_wp2_with fail
         have HC:=hid (gk (8:Int) wb (pt g4 zA::Rtb q g c R S.ak::L) (kB.out.re 5 [2,4]));have kz:=yg;exact lv
        ·have hyb:(y.aa==2)=false:=by simpa using hy2
         have D8:=hid hy2;clear hy2;go_upto_region 27 with fail
         have kB:=hid fa.out.drew;have yg:=hid jk.out.drew;refine eP (fun w'=>w'.cell? ⟨g6,2,none⟩=some (.int .i64 (m:Int))∧w'.cell? ⟨q,0,none⟩=some (.slice (some ⟨g,0,none⟩) R.length c)∧w'.cell? ⟨g,m*7+4,none⟩=some (.slice pe rm.ai.length ce)) (by kernel_rfl) (by kernel_rfl) ⟨kB.out.cells 2,(oJ.out _ _ kB.out.p4).1,(oJ.out _ _ kB.out.p4).2.2⟩ ?_;clear fa jk;generalize wZ9.drew=wb at *;repeat (first|refine wr3 ?_|refine wk ?_)
         refine eR ?_;have Ep:=hid ((Fq.out.trans ((if_neg (fun h=>vY.out h.2.1)).trans ((if_neg (fun h=>vY.out h.2.1)).trans (if_neg (fun h=>D8.out h.2.2))))).trans (by rw[if_pos HB0.out]));have hemp:y.aa=2→y.ab = []:=fun h=>absurd h D8.out
         as_aux_lemma=>exact zat
     case rest =>
      obtain⟨wt,R1,S1,d1,td1,rfl,Dp,NR,rG,Bl,Pu,Ep⟩:=hcut;clear fJ gQ t7 tR;obtain⟨f1,f2,f3,f4,f5,f6⟩:=Pu.out;obtain⟨r1,hr1,s1⟩:=rG.out.aK f1;obtain⟨r2,hr2,s2⟩:=rG.out.aK f3;have M8:=hid (show e≠n from fun h=>HST.out (by rw[h]));have lg:=hid (Bl.out.named f1 f2 f3);have rW:=hid (show d≠n from fun h=>lg.out.2.1 (by rw[h]));have oJ:=hid (fun v=>rG.out.bg Bl.out (s:=⟨(n:Int),(d:Int),anm⟩) (t:=⟨bn,(e:Int),bnm⟩) rfl rfl rfl f1 f2 f3 f4 f5 f6 M8.out hr1 hr2 v);dsimp only at oJ;have Jb:=hid (by have:=rG.out.aA Bl.out;omega:R1.length≤100000);have jU:=hid (fun(w:World)(L':List HP)(h:Has w (Rtb q g c R1 S1.ak::L'))=>zO q g c R1 S1.ak d n r1 r2 anm w L' hr1 hr2 rW.out (s1.ai.mem_iff.2 (fj f2)) ((s1.ai.map Prod.fst).nodup_iff.2 (Bl.out.ax f1).uniq) (by have:=s1.few Bl.out f1;omega) (by rw[s2.ab];have:=(Bl.out.ax f3).size;omega) (by have:=Jb.out;omega) h);clear f1 f2 f3 f4 f5 f6 hr1 s1 hr2 s2;have Kl:=Dp.out.p1.e0;have Kr:=Dp.out.p1.e1;go_wp2_with fail
      refine st (jU.out wt _ (Dp.out.re 5 [4,0,1,2,3])) (NR.out) fun w7 fP gZ=>?_;try dsimp only
      obtain⟨vt,l9⟩:=fP.out;have fI:=hid l9.vr;clear l9 fP Dp NR Kl Kr;obtain⟨rt,m1,m2,m3,m4,m5,m6,m7,m8⟩:=oJ.out vt;have fW:=hid (fun(w:World) (L':List HP) (h:Has w (Rtb q g c ((R1.set n r2.lost).set d {r1 with ai:=jp r1.ai anm,ev:=vt}) S1.ak::L'))=>E3 q g c _ S1.ak e n rt r2.lost bnm w L' m1 m2 M8.out (by omega) (by omega) (by omega) (by rw[List.length_set,List.length_set];have:=Jb.out;omega) h);have Og:=hid m8;clear m1 m2 m3 m4 m5 m6 m7 m8;have rj:=fI.out.e0;have rr:=fI.out.e1;have t7:=fI.out.p1.e2;go_wp2_with fail
      refine(fW.out w7 _ (fI.out.re 5 [4,0,1,2,3])).mono ?_;rintro e w6 ⟨v6,rfl,qu,hK6⟩;have fq:=hid qu;have gu:=hid ((gZ.out).trans hK6);clear qu hK6;try dsimp only
      have rI:=hid (show Has w6 (pt g4 zA::Rtb q g c ((((R1.set n r2.lost).set d {r1 with ai:=jp r1.ai anm,ev:=vt}).set e (rt.aP bnm (n:Int) v6)).set n (r2.lost.named e)) S1.ak::L) from fq.out.re 5 [3,0]);clear fq fI rj rr t7;obtain⟨hz0,hz1,hz2,hz3,gP,gH,hy0,hy1,hy2,hy3,hy4,gG⟩:=Has.az (rI.out);go_wp2_with fail
      have h1:=(rI.out).ans (eQ 0) (eS) (eS);refine bodyPost_ret (eV rfl rfl h1) rfl ?_;rw[Ep.out];exact⟨rfl,fh.2 ⟨g,c,_,Og.out v6,h1.drop⟩,gu.out.ans _ _ _ _ _ _ _⟩
theorem _root_.Go.Own.Has.cg {w:World}{l:List HP}{b:Nat}{a0 a1 a2 a3:Value}(h:Has w (pt b (.cells #[a0,a1,a2,a3] 93)::l))(n o f:Int)(t:Bool):Has ((((w.setCell ⟨b,0,none⟩ (.int .i64 n)).setCell ⟨b,1,none⟩ (.int .i64 o)).setCell ⟨b,2,none⟩ (.int .i64 f)).setCell ⟨b,3,none⟩ (.bool t)) (pt b (.cells #[.int .i64 n,.int .i64 o,.int .i64 f,.bool t] 93)::l) :=
 (((h.set 0 (.int .i64 n)).set 1 (.int .i64 o)).set 2 (.int .i64 f)).set 3 (.bool t)
theorem Rtb.bI {w:World}{L:List HP}{q g c:Nat}{R:List Rn}{T:List Tb.Slot}(h:Has w (Rtb q g c R T::L)){k:Nat}{s:Tb.Slot}(hk:T[k]? = some s)(x:Int):Has (w.setCell ⟨q,1+k*4+1,none⟩ (.int .i64 x)) (Rtb q g c R (T.set k {s with off:=x})::L):=by
 obtain⟨hk2,rfl⟩:=List.getElem?_eq_some_iff.1 hk;exact Rtb.et h hk2 x
theorem rl {T:List Tb.Slot}{fd:Int}{s:Tb.Slot}{kf:Nat}(hl:Tb.look T fd=some s)(hfd:fd=(kf:Int)){off:Int}(ho:0≤off):(Tb.aM T fd off).2=T.set kf {s with off:=off} := by
 unfold Tb.aM;rw[hl];dsimp only;rw[if_neg (by omega),hfd,Int.toNat_natCast]
theorem Ew (q:Nat)(S:Tre)(rk:Int→Nat)(k:Nat)(o:Opm)(ov:Value)(w:World)(L:List HP)(hk:k≤900)(hG:Gd S rk k)(hO:Has w (Rts q S::L)) :
  zCl 69 #[.pointer (some ⟨q,0,none⟩),opV o ov] w fun e w'=>e=.returned (fL (S.aG o.fd o.n o.off).1 eS eS)∧Has w' (Rts q (S.aG o.fd o.n o.off).2::L)∧Keep w w':=by
 obtain⟨g,c,R,hS,hO2⟩:=fh.1 hO;have HG:=hid hG;have HS:=hid hS;have HO:=hid hO2;have HT:=hid hG.tab16;have hrl:(R.length:Int)≤1000000:=by have:=hS.aA hG;omega
 have ll:=hid (by have:=hS.aA hG;omega:R.length≤100000);clear hO hO2 hG hS;rcases hl:Tb.look S.ak o.fd with _|s
 ·have HR:=hid (by unfold Tre.aG Tre.file;simp[Tb.get,hl]:S.aG o.fd o.n o.off=(eQ 10,S));have lr:=hid (by simp[Tb.there,hl]:Tb.there S.ak o.fd=false);clear hl;unfold opV opC;go_enter Tryz.func69,Tryz.ntmps69
  as_aux_lemma=>exact zcV
 ·obtain⟨kf,yh,hfd,yc,hon⟩:=Tb.look_in HT.out hl;have hkn:kf<16:=by have:=HT.out;omega
  have jU:=hid (by rw[List.getElem?_eq_getElem yh,yc]:S.ak[kf]? = some s);have lr:=hid (by rw[←hfd];simp[Tb.there,hl]:Tb.there S.ak (kf:Int)=true);obtain⟨⟨x,hx,hx3⟩,hs0,hs1⟩:=HG.out.opn o.fd s hl;have HL:=hid hl;have HX:=hid hx;have FR:=hid hx3;have py:=hid (by unfold Tb.get;rw[hl]:Tb.get S.ak o.fd=(s,0));have sS:=hid hfd;have hk0:(0:Int)≤(kf:Int):=by omega
  have hk1:(kf:Int)<16:=by omega
  obtain⟨n,r,hn,hr,hsn⟩:=HS.out.ae _ _ hx;have HN:=hid hn;have jl:=hid hr;have io:=hid hsn;have hnl:n<R.length:=(List.getElem?_eq_some_iff.1 hr).1;have hn0:(0:Int)≤(n:Int):=by omega
  have hn1:(n:Int)<(R.length:Int):=by omega
  have Bf:=hid hon;have HAT:=hid (fC hx);clear hfd hl yh yc hon hx hx3 hn hr hsn hnl;by_cases hk2:x.aa=2
  ·have HR:=hid (show S.aG o.fd o.n o.off=(eQ 8,S) from by
    have h9:S.file o.fd false=(Tb.none4,8):=by unfold Tre.file;rw[py.out,if_neg (by simp),if_neg (by simp),HAT.out,if_pos hk2]
    unfold Tre.aG;rw[h9];rfl)
   unfold opV opC;go_enter Tryz.func69,Tryz.ntmps69
   go_upto_region 1 with fail
   obtain⟨w1,g3,g4,ew,e4,e3,eT,ff⟩:=f9 HO.out o ov;rw[ew,e4,e3];clear HO ew e4 e3;have ij:=hid (fun(w:World)(L':List HP)(h:Has w (pt g3 (.cells #[.int .i64 o.aa,.int .i64 o.fd,.int .i64 o.n,.int .i64 o.off,.int .i64 o.af,sV o.ag,sV o.aj,ov] 33)::L'))=>(by rw[←sS.out];exact⟨h.cells 0,h.cells 1,h.cells 2,h.cells 3,h.cells 7⟩:w.cell? ⟨g3,0,none⟩=some (.int .i64 o.aa)∧w.cell? ⟨g3,1,none⟩=some (.int .i64 (kf:Int))∧w.cell? ⟨g3,2,none⟩=some (.int .i64 o.n)∧w.cell? ⟨g3,3,none⟩=some (.int .i64 o.off)∧w.cell? ⟨g3,7,none⟩=some ov));have jN:=hid (fun(w:World)(R':List Rn)(L':List HP)(h:Has w (Rtb q g c R' S.ak::L'))=>(by rw[←HN.out,←Bf.out];exact gK h jU.out:w.cell? ⟨q,1+kf*4,none⟩=some (.int .i64 (n:Int))∧w.cell? ⟨q,1+kf*4+1,none⟩=some (.int .i64 s.off)∧w.cell? ⟨q,1+kf*4+2,none⟩=some (.int .i64 s.af)∧w.cell? ⟨q,1+kf*4+3,none⟩=some (.bool true)));have eZ:=hid eT.out.drew;have fu:=hid ff.out.drew;refine eP (fun w'=>w'.cell? ⟨g3,1,none⟩=some (.int .i64 (kf:Int))∧True) (by kernel_rfl) (by kernel_rfl) ⟨(ij.out _ _ eZ.out.p1).2.1,trivial⟩ ?_;clear eT ff;generalize w1.drew=w2 at *;repeat (first|refine wr2 ?_|refine wk ?_)
   refine wa fun K hK=>?_;go_simp
   refine(gR q _ S.ak (kf:Int) w2 _ HT.out (show Has w2 (RTe q _ S.ak::_) from fy.1 (eZ.out.re 3 [2,0,1]))).mono ?_;rintro e w' ⟨rfl,rfl⟩;rw[lr.out];try dsimp only
   refine hK.out _ _ ⟨(ij.out _ _ eZ.out.p1).2.1,trivial⟩ ?_;clear hK K;try simp only[Act.put,zpu]
   repeat (first|refine wr2 ?_|refine wk ?_)
   refine eR ?_;go_upto_region 3 with fail
   have eW:=hid eZ.out.drew;have fH:=hid fu.out.drew;refine eP (fun w'=>w'.cell? ⟨g3,1,none⟩=some (.int .i64 (kf:Int))∧w'.cell? ⟨q,1+kf*4,none⟩=some (.int .i64 (n:Int))∧w'.cell? ⟨q,1+kf*4+1,none⟩=some (.int .i64 s.off)∧w'.cell? ⟨q,1+kf*4+2,none⟩=some (.int .i64 s.af)∧w'.cell? ⟨q,1+kf*4+3,none⟩=some (.bool true)) (by kernel_rfl) (by kernel_rfl) ⟨(ij.out _ _ (eW.out.p1)).2.1,jN.out _ _ _ (eW.out.p2)⟩ ?_;clear eZ fu;generalize w2.drew=w3 at *;repeat (first|refine wr5 ?_|refine wk ?_)
   refine wa fun K hK=>?_;go_simp
   have fa:=hid (eW.out.alloc (.cells #[.int .i64 0,.int .i64 0,.int .i64 0,.bool false] 93));have jk:=hid (fH.out.alloc (.cells #[.int .i64 0,.int .i64 0,.int .i64 0,.bool false] 93));refine hK.out _ _ ⟨(ij.out _ _ (fa.out.p2)).2.1,jN.out _ _ _ (fa.out.p3)⟩ ?_;clear hK K eW fH;try simp only[Act.put,zpu]
   generalize w3.heap.size=g5 at *;generalize w3.alloc (.cells #[.int .i64 0,.int .i64 0,.int .i64 0,.bool false] 93)=wZ9 at *;repeat (first|refine wr5 ?_|refine wk ?_)
   have ha0:=fa.out.e0;have ha1:=fa.out.e1;have ha2:=fa.out.e2;have mh:=fa.out.e3;have hb0:=fa.out.thaw 0;have hb1:=fa.out.thaw 1;have hb2:=fa.out.thaw 2;have hb3:=fa.out.thaw 3;refine wa fun K hK=>?_;go_simp
   have fg:=hid (fa.out.cg (n:Int) s.off s.af true);have fO:=hid ((((jk.out.set ⟨g5,0,none⟩ (.int .i64 (n:Int))).set ⟨g5,1,none⟩ (.int .i64 s.off)).set ⟨g5,2,none⟩ (.int .i64 s.af)).set ⟨g5,3,none⟩ (.bool true));refine hK.out _ _ ⟨(ij.out _ _ (fg.out.p2)).2.1,jN.out _ _ _ (fg.out.p3)⟩ ?_;clear hK K fa jk ha0 ha1 ha2 mh hb0 hb1 hb2 hb3;try simp only[Act.put,zpu]
   generalize (((wZ9.setCell ⟨g5,0,none⟩ (.int .i64 (n:Int))).setCell ⟨g5,1,none⟩ (.int .i64 s.off)).setCell ⟨g5,2,none⟩ (.int .i64 s.af)).setCell ⟨g5,3,none⟩ (.bool true)=w4 at *;repeat (first|refine wr5 ?_|refine wk ?_)
   refine eR ?_;go_upto_region 4 with fail
   have fi:=hid fg.out.drew;have ge:=hid fO.out.drew;have r8:=hid (fun(w:World)(L':List HP)(h:Has w (Rtb q g c R S.ak::L'))=>(show w.cell? ⟨q,0,none⟩=some (.slice (some ⟨g,0,none⟩) R.length c)∧w.cell? ⟨g,n*7,none⟩=some (.int .i64 x.aa) from⟨Rtb.nv h,by rw[(Rtb.at_ h jl.out).1,io.out.aa]⟩));refine eP (fun w'=>w'.cell? ⟨g5,0,none⟩=some (.int .i64 (n:Int))∧w'.cell? ⟨q,0,none⟩=some (.slice (some ⟨g,0,none⟩) R.length c)∧w'.cell? ⟨g,n*7,none⟩=some (.int .i64 x.aa)) (by kernel_rfl) (by kernel_rfl) ⟨fi.out.cells 0,r8.out _ _ fi.out.p3⟩ ?_;clear fg fO;generalize w4.drew=w5 at *;repeat (first|refine wr3 ?_|refine wk ?_)
   refine eR ?_;go_wp2_with fail
   have HC:=hid (gk (8:Int) w5 (pt g4 zA::Rtb q g c R S.ak::L) (fi.out.re 4 [1,3]));have kz:=ge;exact lv
  ·have tM:=hid (by unfold Tre.file;rw[py.out,if_neg (by simp),if_neg (by simp),HAT.out,if_neg hk2]:S.file o.fd false=(s,0));unfold opV opC;go_enter Tryz.func69,Tryz.ntmps69
   go_upto_region 1 with fail
   obtain⟨w1,g3,g4,ew,e4,e3,eT,ff⟩:=f9 HO.out o ov;rw[ew,e4,e3];clear HO ew e4 e3;have ij:=hid (fun(w:World)(L':List HP)(h:Has w (pt g3 (.cells #[.int .i64 o.aa,.int .i64 o.fd,.int .i64 o.n,.int .i64 o.off,.int .i64 o.af,sV o.ag,sV o.aj,ov] 33)::L'))=>(by rw[←sS.out];exact⟨h.cells 0,h.cells 1,h.cells 2,h.cells 3,h.cells 7⟩:w.cell? ⟨g3,0,none⟩=some (.int .i64 o.aa)∧w.cell? ⟨g3,1,none⟩=some (.int .i64 (kf:Int))∧w.cell? ⟨g3,2,none⟩=some (.int .i64 o.n)∧w.cell? ⟨g3,3,none⟩=some (.int .i64 o.off)∧w.cell? ⟨g3,7,none⟩=some ov));have jN:=hid (fun(w:World)(R':List Rn)(L':List HP)(h:Has w (Rtb q g c R' S.ak::L'))=>(by rw[←HN.out,←Bf.out];exact gK h jU.out:w.cell? ⟨q,1+kf*4,none⟩=some (.int .i64 (n:Int))∧w.cell? ⟨q,1+kf*4+1,none⟩=some (.int .i64 s.off)∧w.cell? ⟨q,1+kf*4+2,none⟩=some (.int .i64 s.af)∧w.cell? ⟨q,1+kf*4+3,none⟩=some (.bool true)));have eZ:=hid eT.out.drew;have fu:=hid ff.out.drew;refine eP (fun w'=>w'.cell? ⟨g3,1,none⟩=some (.int .i64 (kf:Int))∧True) (by kernel_rfl) (by kernel_rfl) ⟨(ij.out _ _ eZ.out.p1).2.1,trivial⟩ ?_;clear eT ff;generalize w1.drew=w2 at *;repeat (first|refine wr2 ?_|refine wk ?_)
   refine wa fun K hK=>?_;go_simp
   refine(gR q _ S.ak (kf:Int) w2 _ HT.out (show Has w2 (RTe q _ S.ak::_) from fy.1 (eZ.out.re 3 [2,0,1]))).mono ?_;rintro e w' ⟨rfl,rfl⟩;rw[lr.out];try dsimp only
   refine hK.out _ _ ⟨(ij.out _ _ eZ.out.p1).2.1,trivial⟩ ?_;clear hK K;try simp only[Act.put,zpu]
   repeat (first|refine wr2 ?_|refine wk ?_)
   refine eR ?_;go_upto_region 3 with fail
   have eW:=hid eZ.out.drew;have fH:=hid fu.out.drew;refine eP (fun w'=>w'.cell? ⟨g3,1,none⟩=some (.int .i64 (kf:Int))∧w'.cell? ⟨q,1+kf*4,none⟩=some (.int .i64 (n:Int))∧w'.cell? ⟨q,1+kf*4+1,none⟩=some (.int .i64 s.off)∧w'.cell? ⟨q,1+kf*4+2,none⟩=some (.int .i64 s.af)∧w'.cell? ⟨q,1+kf*4+3,none⟩=some (.bool true)) (by kernel_rfl) (by kernel_rfl) ⟨(ij.out _ _ (eW.out.p1)).2.1,jN.out _ _ _ (eW.out.p2)⟩ ?_;clear eZ fu;generalize w2.drew=w3 at *;repeat (first|refine wr5 ?_|refine wk ?_)
   refine wa fun K hK=>?_;go_simp
   have fa:=hid (eW.out.alloc (.cells #[.int .i64 0,.int .i64 0,.int .i64 0,.bool false] 93));have jk:=hid (fH.out.alloc (.cells #[.int .i64 0,.int .i64 0,.int .i64 0,.bool false] 93));refine hK.out _ _ ⟨(ij.out _ _ (fa.out.p2)).2.1,jN.out _ _ _ (fa.out.p3)⟩ ?_;clear hK K eW fH;try simp only[Act.put,zpu]
   generalize w3.heap.size=g5 at *;generalize w3.alloc (.cells #[.int .i64 0,.int .i64 0,.int .i64 0,.bool false] 93)=wZ9 at *;repeat (first|refine wr5 ?_|refine wk ?_)
   have ha0:=fa.out.e0;have ha1:=fa.out.e1;have ha2:=fa.out.e2;have mh:=fa.out.e3;have hb0:=fa.out.thaw 0;have hb1:=fa.out.thaw 1;have hb2:=fa.out.thaw 2;have hb3:=fa.out.thaw 3;refine wa fun K hK=>?_;go_simp
   have fg:=hid (fa.out.cg (n:Int) s.off s.af true);have fO:=hid ((((jk.out.set ⟨g5,0,none⟩ (.int .i64 (n:Int))).set ⟨g5,1,none⟩ (.int .i64 s.off)).set ⟨g5,2,none⟩ (.int .i64 s.af)).set ⟨g5,3,none⟩ (.bool true));refine hK.out _ _ ⟨(ij.out _ _ (fg.out.p2)).2.1,jN.out _ _ _ (fg.out.p3)⟩ ?_;clear hK K fa jk ha0 ha1 ha2 mh hb0 hb1 hb2 hb3;try simp only[Act.put,zpu]
   generalize (((wZ9.setCell ⟨g5,0,none⟩ (.int .i64 (n:Int))).setCell ⟨g5,1,none⟩ (.int .i64 s.off)).setCell ⟨g5,2,none⟩ (.int .i64 s.af)).setCell ⟨g5,3,none⟩ (.bool true)=w4 at *;repeat (first|refine wr5 ?_|refine wk ?_)
   refine eR ?_;go_upto_region 4 with fail
   have fi:=hid fg.out.drew;have ge:=hid fO.out.drew;have r8:=hid (fun(w:World)(L':List HP)(h:Has w (Rtb q g c R S.ak::L'))=>(show w.cell? ⟨q,0,none⟩=some (.slice (some ⟨g,0,none⟩) R.length c)∧w.cell? ⟨g,n*7,none⟩=some (.int .i64 x.aa) from⟨Rtb.nv h,by rw[(Rtb.at_ h jl.out).1,io.out.aa]⟩));refine eP (fun w'=>w'.cell? ⟨g5,0,none⟩=some (.int .i64 (n:Int))∧w'.cell? ⟨q,0,none⟩=some (.slice (some ⟨g,0,none⟩) R.length c)∧w'.cell? ⟨g,n*7,none⟩=some (.int .i64 x.aa)) (by kernel_rfl) (by kernel_rfl) ⟨fi.out.cells 0,r8.out _ _ fi.out.p3⟩ ?_;clear fg fO;generalize w4.drew=w5 at *;repeat (first|refine wr3 ?_|refine wk ?_)
   refine eR ?_;have qz:=hid (show x.data.length≤100000 from(HG.out.ax HX.out).size.1);have hdi:(x.data.length:Int)≤100000:=by have:=qz.out;omega
   obtain⟨bs,hbs⟩:∃ bs:Int,(if o.n=1 then s.off else if o.n=2 then(x.data.length:Int) else 0)=bs:=⟨_,rfl⟩
   have Oh:0≤bs:=by rw[←hbs];split;omega;split <;> omega
   have Ox:bs≤1099511627776:=by rw[←hbs];split;omega;split <;> omega
   have Bg:=hid hbs;have ir:=hid (fun(w:World)(L':List HP)(h:Has w (Rtb q g c R S.ak::L'))=>(show ∃ pd cd,w.cell? ⟨g,n*7+5,none⟩=some (.slice pd x.data.length cd) from by
    obtain⟨pd,cd,e,-⟩:=(Rtb.aO h jl.out).2.1.form;refine⟨pd,cd,?_⟩;rw[(Rtb.at_ h jl.out).2.2.2.2.2.1,e,io.out.data]))
   clear hbs;have hp2:w5.cell? ⟨g3,2,none⟩=some (.int .i64 o.n):=(ij.out _ _ fi.out.p2).2.2.1;go_upto_block 0 with fail
   go_cut [6] (fun v wx=>v=.int .i64 bs∧∃ w6,w6=wx∧Hid (Has w6 (pt g5 (.cells #[.int .i64 (n:Int),.int .i64 s.off,.int .i64 s.af,.bool true] 93)::pt g4 zA::pt g3 (.cells #[.int .i64 o.aa,.int .i64 o.fd,.int .i64 o.n,.int .i64 o.off,.int .i64 o.af,sV o.ag,sV o.aj,ov] 33)::Rtb q g c R S.ak::L))∧Hid (Keep w w6))
   case first =>
    have hf1:=fi.out.e1;by_cases h1:o.n=1
    ·have hb1:(o.n==1)=true:=by simpa using h1
     have HE:=hid (by rw[←Bg.out,if_pos h1]:s.off=bs);clear h1;go_wp2_with fail
     go_meet
     exact⟨by rw[HE.out],_,rfl,fi,ge⟩
    ·have hb1:(o.n==1)=false:=by simpa using h1
     by_cases h2:o.n=2
     ·have hb2:(o.n==2)=true:=by simpa using h2
      have HE:=hid (by rw[←Bg.out,if_neg h1,if_pos h2]:(x.data.length:Int)=bs);clear h1 h2 hf1;obtain⟨pd,cd,c5⟩:=ir.out _ _ fi.out.drew.p3;go_upto_region 11 with fail
      have fq:=hid fi.out.drew;have gu:=hid ge.out.drew;refine eP (fun w'=>w'.cell? ⟨g5,0,none⟩=some (.int .i64 (n:Int))∧w'.cell? ⟨q,0,none⟩=some (.slice (some ⟨g,0,none⟩) R.length c)∧w'.cell? ⟨g,n*7+5,none⟩=some (.slice pd x.data.length cd)) (by kernel_rfl) (by kernel_rfl) ⟨fq.out.cells 0,(r8.out _ _ fq.out.p3).1,c5⟩ ?_;clear fi ge;generalize w5.drew=w6 at *
      as_aux_lemma=>exact zcn
     ·have hb2:(o.n==2)=false:=by simpa using h2
      have HE:=hid (by rw[←Bg.out,if_neg h1,if_neg h2]:(0:Int)=bs);clear h1 h2 hf1;go_wp2_with fail
      go_meet
      exact⟨by rw[HE.out],_,rfl,fi,ge⟩
   case rest =>
    obtain⟨rfl,w6,rfl,fq,gu⟩:=hcut;clear fi ge hp2;obtain⟨hp2,hp3⟩:w6.cell? ⟨g3,2,none⟩=some (.int .i64 o.n)∧w6.cell? ⟨g3,3,none⟩=some (.int .i64 o.off):=⟨(ij.out _ _ fq.out.p2).2.2.1,(ij.out _ _ fq.out.p2).2.2.2.1⟩
    have hneg:IntKind.i64.wrap (-bs) = -bs:=ft _ (by omega);have hsub:IntKind.i64.wrap (1099511627776-bs)=1099511627776-bs:=ft _ (by omega);have Jd:=hid (show S.aG o.fd o.n o.off=(if ¬ (o.n=0∨o.n=1∨o.n=2) then(eQ 2,S) else if o.off < - bs∨o.off>1099511627776-bs then(eQ 2,S) else(⟨0,bs+o.off,0,0,[],[]⟩,{S with ak:=(Tb.aM S.ak o.fd (bs+o.off)).2})) from by
     unfold Tre.aG;rw[tM.out];simp only[HAT.out,Bg.out];rfl)
    by_cases h1:o.n<0
    ·have HR:=hid (by rw[Jd.out,if_pos (by omega)]:S.aG o.fd o.n o.off=(eQ 2,S))
     as_aux_lemma=>exact zaZ
    by_cases h2:2<o.n
    ·have HR:=hid (by rw[Jd.out,if_pos (by omega)]:S.aG o.fd o.n o.off=(eQ 2,S))
     as_aux_lemma=>exact zaZ
    by_cases h3:o.off < -bs
    ·have HR:=hid (by rw[Jd.out,if_neg (by omega),if_pos (.inl h3)]:S.aG o.fd o.n o.off=(eQ 2,S))
     as_aux_lemma=>exact zaZ
    by_cases h4:1099511627776-bs<o.off
    ·have HR:=hid (by rw[Jd.out,if_neg (by omega),if_pos (.inr h4)]:S.aG o.fd o.n o.off=(eQ 2,S))
     as_aux_lemma=>exact zaZ
    have HR:=hid (by rw[Jd.out,if_neg (by omega),if_neg (by omega)]:S.aG o.fd o.n o.off=(⟨0,bs+o.off,0,0,[],[]⟩,{S with ak:=(Tb.aM S.ak o.fd (bs+o.off)).2}));have oJ:=hid (show (Tb.aM S.ak o.fd (bs+o.off)).2=S.ak.set kf {s with off:=bs+o.off} from rl HL.out sS.out (by omega));have hadd:IntKind.i64.wrap (bs+o.off)=bs+o.off:=ft _ (by omega);go_upto_region 14 with fail
    have fP:=hid fq.out.drew;have gZ:=hid gu.out.drew;have hc1:=(jN.out _ _ _ fP.out.p3).2.1;have ht1:=(fy.1 fP.out.p3).thaw (1+kf*4+1);refine fT (fun w'=>w'.cell? ⟨g3,1,none⟩=some (.int .i64 (kf:Int))∧w'.cell? ⟨g3,3,none⟩=some (.int .i64 o.off)) (by kernel_rfl) (by kernel_rfl) (by kernel_rfl) (by decide) ⟨(ij.out _ _ fP.out.p2).2.1,(ij.out _ _ fP.out.p2).2.2.2.1⟩ ?_;clear hp2 hp3;repeat (first|refine wr2 ?_|refine wk ?_)
    refine eR ?_;refine gI rfl (by rfl) ?_;go_simp
    have fI:=hid (show Has (w6.setCell ⟨q,1+kf*4+1,none⟩ (.int .i64 (bs+o.off))).drew (pt g4 zA::pt g3 (.cells #[.int .i64 o.aa,.int .i64 o.fd,.int .i64 o.n,.int .i64 o.off,.int .i64 o.af,sV o.ag,sV o.aj,ov] 33)::Rtb q g c R (S.ak.set kf {s with off:=bs+o.off})::L) from((Rtb.bI fq.out.p3 jU.out (bs+o.off)).drew).re 4 [2,3,0]);have iI:=hid ((gu.out.set ⟨q,1+kf*4+1,none⟩ (.int .i64 (bs+o.off))).drew);clear hc1 ht1 fq gu fP gZ;generalize (w6.setCell ⟨q,1+kf*4+1,none⟩ (.int .i64 (bs+o.off))).drew=w8 at *;have hp3:=(ij.out _ _ fI.out.p1).2.2.2.1;have fJ:=hid fI.out.ve;obtain⟨hz0,hz1,hz2,hz3,gP,gH,hy0,hy1,hy2,hy3,hy4,gG⟩:=Has.az (fJ.out);go_wp2_with fail
    have h1:=(fJ.out).ans ((⟨0,bs+o.off,0,0,[],[]⟩:Ans)) (eS) (eS);refine bodyPost_ret (eV rfl rfl h1) rfl ?_;rw[HR.out];refine⟨rfl,fh.2 ⟨g,c,R,HS.out.aM _ _,?_⟩,iI.out.ans _ _ _ _ _ _ _⟩;rw[oJ.out];exact h1.drop
end Go.Proofs.YtmgpgbfgemebbaaGreatDoor
