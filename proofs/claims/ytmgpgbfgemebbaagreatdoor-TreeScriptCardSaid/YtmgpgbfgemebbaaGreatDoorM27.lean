/- TEXTS of mine, merged. -/
import Derived.Test.YtmgpgbfgemebbaaGreatDoorM0
import Derived.Test.YtmgpgbfgemebbaaGreatDoorM26
import Derived.Test.YtmgpgbfgemebbaaGreatDoorM20
import Derived.Test.YtmgpgbfgemebbaaGreatDoorM6
import Derived.Test.YtmgpgbfgemebbaaGreatDoorM1
import Derived.ProofKit
import Derived.OpenShut
import Derived.ShutString
import Derived.ChangeOld
import Derived.Deep.Slices
import Derived.Test.YtmgpgbfgemebbaaGreatDoorM15
set_option linter.all false
set_option maxRecDepth 100000
set_option maxHeartbeats 16000000
namespace Go.Proofs.YtmgpgbfgemebbaaGreatDoor
open Go.RowKit Go.Own
theorem _root_.Go.Own.Has.eN {w:World}{l:List HP}{b:Nat}{a0 a1 a2 a3 a4:Value}(h:Has w (pt b (.cells #[a0,a1,a2,a3,a4] 57)::l))(v0 v1 v2 v3 v4:Value):Has (((((w.setCell ⟨b,0,none⟩ v0).setCell ⟨b,1,none⟩ v1).setCell ⟨b,2,none⟩ v2).setCell ⟨b,3,none⟩ v3).setCell ⟨b,4,none⟩ v4) (pt b (.cells #[v0,v1,v2,v3,v4] 57)::l):=by
 have h0:=h;have h1:Has (w.setCell ⟨b,0,none⟩ v0) (pt b (.cells #[v0,a1,a2,a3,a4] 57)::l):=h0.set 0 v0;have h2:Has ((w.setCell ⟨b,0,none⟩ v0).setCell ⟨b,1,none⟩ v1) (pt b (.cells #[v0,v1,a2,a3,a4] 57)::l):=h1.set 1 v1;have h3:Has (((w.setCell ⟨b,0,none⟩ v0).setCell ⟨b,1,none⟩ v1).setCell ⟨b,2,none⟩ v2) (pt b (.cells #[v0,v1,v2,a3,a4] 57)::l):=h2.set 2 v2;have h4:Has ((((w.setCell ⟨b,0,none⟩ v0).setCell ⟨b,1,none⟩ v1).setCell ⟨b,2,none⟩ v2).setCell ⟨b,3,none⟩ v3) (pt b (.cells #[v0,v1,v2,v3,a4] 57)::l):=h3.set 3 v3;have h5:Has (((((w.setCell ⟨b,0,none⟩ v0).setCell ⟨b,1,none⟩ v1).setCell ⟨b,2,none⟩ v2).setCell ⟨b,3,none⟩ v3).setCell ⟨b,4,none⟩ v4) (pt b (.cells #[v0,v1,v2,v3,v4] 57)::l):=h4.set 4 v4;exact h5
theorem _root_.Go.Own.Keep.eN {w0 w:World}(h:Keep w0 w)(b:Nat)(v0 v1 v2 v3 v4:Value):Keep w0 (((((w.setCell ⟨b,0,none⟩ v0).setCell ⟨b,1,none⟩ v1).setCell ⟨b,2,none⟩ v2).setCell ⟨b,3,none⟩ v3).setCell ⟨b,4,none⟩ v4):=by
 exact((((h.set ⟨b,0,none⟩ v0).set ⟨b,1,none⟩ v1).set ⟨b,2,none⟩ v2).set ⟨b,3,none⟩ v3).set ⟨b,4,none⟩ v4
theorem l6 {α:Type} (l:List α) (i:Nat) (h:i<l.length):l.take (i+1)=l.take i ++ [l[i]]:=by
 rw[List.take_add_one,List.getElem?_eq_getElem h];rfl
theorem By {w:World}{L:List HP}{v:Value}{a b:List Sn}(h:Has w (row v 57 5 (a.length+b.length) (fM a++fM b)::(a.map (fun s=>Bytes s.dv s.data)++(b.map (fun s=>Bytes s.dv s.data)++L)))):Has w (Sns v (a++b)::L):=by
 refine fZ.2 ?_;rw[iZ,List.length_append,List.map_append,List.append_assoc];exact h
theorem BN {w:World}{L:List HP}{v u:Value}{a b:List Sn}(h:Has w (Sns u b::Sns v a::L)):Has w (row v 57 5 a.length (fM a)::(a.map (fun s=>Bytes s.dv s.data)++(row u 57 5 b.length (fM b)::(b.map (fun s=>Bytes s.dv s.data)++L)))):=by
 have h1:=fZ.1 h;have h2:Has w (Sns v a::(row u 57 5 b.length (fM b)::(b.map (fun s=>Bytes s.dv s.data)++L))):=h1.perm (show ((row u 57 5 b.length (fM b)::b.map (fun s=>Bytes s.dv s.data))++Sns v a::L).Perm _ from List.perm_middle);exact fZ.1 h2
theorem xw {w:World}{L:List HP}{v:Value}{os:List Sn}{c1 c2:HP}(s:Sn)(h:Has w (row v 57 5 (os.length+1) (fM os++s.enc)::(os.map (fun s=>Bytes s.dv s.data)++(c1::c2::Bytes s.dv s.data::L)))):Has w (Sns v (os ++ [s])::c1::c2::L):=by
 refine o3 s (h.perm (.cons _ ?_));have h1:((os.map (fun s=>Bytes s.dv s.data) ++ [c1,c2])++Bytes s.dv s.data::L).Perm _:=List.perm_middle;rw[List.append_assoc,List.append_assoc] at h1;exact h1
theorem Ff (q g c:Nat)(R:List Rn)(S:Tre)(rk:Int→Nat)(k:Nat)(hk:k≤900)(hG:Gd S rk k)(hS:Sim R S):∀ (d n:Nat) (x:Nod) (p:Str) (w:World) (L:List HP),fnd S.ac (n:Int)=some x→21≤rk n+d→p.length≤25*rk n→(x.ab.flatMap fun e=>seen S.ac d e.2 (p++47::e.1)).length≤1000000→Has w (Rtb q g c R S.ak::L) →
  zCl 94 #[.pointer (some ⟨q,0,none⟩),.int .i64 (n:Int),sV p] w fun e w'=>∃ v os,e=.returned v∧(os.map Sn.key).Perm ((x.ab.flatMap fun e=>seen S.ac d e.2 (p++47::e.1)).map jQ)∧Has w' (Sns v os::Rtb q g c R S.ak::L)∧Keep w w':=by
 intro d;induction d with
 | zero=>intro n x p w L hx hr;have:=hG.x.rk20 n;omega
 | succ d ih =>
 intro n x p w L hx hr hp hln hO;obtain⟨r,hrx,hsn⟩:=hS.aK hx;have kF:=hsn.ai;obtain⟨F,hF⟩:∃ F:Str×Int→List (Str×Int×Nod),F=fun e=>seen S.ac (d+1) e.2 (p++47::e.1):=⟨_,rfl⟩
 rw[←hF] at hln ⊢;have LA:=kF.flatMap_right F;rw[←LA.length_eq] at hln;have hsub:∀ e∈r.ai,∃ (m:Nat) (y:Nod) (r2:Rn),e.2=(m:Int)∧fnd S.ac (m:Int)=some y∧R[m]? = some r2∧SimN (m:Int) r2 y∧F e=(p++47::e.1,(m:Int),y)::(y.ab.flatMap fun e'=>seen S.ac d e'.2 ((p++47::e.1)++47::e'.1))∧(p++47::e.1).length≤25*rk m∧21≤rk m+d∧(p++47::e.1).length≤10000:=by
  intro e he;have he2:=kF.mem_iff.1 he;obtain⟨h1,h2,y,hy⟩:=hG.bR _ _ hx e he2;obtain⟨m,r2,em,h3,h4⟩:=hS.ae _ _ hy;have h20:=hG.x.rk20 e.2;have hpl:(p++47::e.1).length≤25*rk e.2:=by simp only[List.length_append,List.length_cons];omega
  refine⟨m,y,r2,em,by rw[←em];exact hy,h3,by rw[←em];exact h4,?_,by rw[←em];exact hpl,by rw[←em];omega,by omega⟩;rw[hF];show seen S.ac (d+1) e.2 (p++47::e.1)=_;rw[seen,hy,Option.getD_some,show orM (p++47::e.1)=p++47::e.1 from by unfold orM;rw[if_neg (by simp)],em]
 have vR:∀ (m:Int) (y:Nod),fnd S.ac m=some y→y.aa≠2→y.ab = []:=fun m y hy hk2=>((hG.ax hy).file hk2).1;obtain⟨pv,cp,he,-⟩:=iC (Rtb.aO hO hrx).1;have PU:=hid (fun(w:World)(L':List HP)(h:Has w (Rtb q g c R S.ak::L'))=>(show w.cell? ⟨g,n*7+4,none⟩=some (.slice pv r.ai.length cp)∧(0<r.ai.length→∃ a o,pv=some ⟨a,o,none⟩∧∀ i (hi:i<r.ai.length),w.cell? ⟨a,o+i*2,none⟩=some (sV r.ai[i].1)∧w.cell? ⟨a,o+i*2+1,none⟩=some (.int .i64 r.ai[i].2)) from by
  obtain⟨-,-,-,-,c4,-,-⟩:=Rtb.at_ h hrx;obtain⟨p',c',e',-,hcs⟩:=iC (Rtb.aO h hrx).1;rw[he] at c4 e';simp only[Value.slice.injEq] at e';obtain⟨rfl,-,rfl⟩:=e';exact⟨c4,hcs⟩))
 have LG:=hid (fun(m:Int)(y:Nod)(hy:fnd S.ac m=some y)=>(show y.data.length≤100000 from(hG.ax hy).size.1));have hnl:n<R.length:=(List.getElem?_eq_some_iff.1 hrx).1;have hn0:(0:Int)≤(n:Int):=by omega
 have hn1:(n:Int)<(R.length:Int):=by omega
 have hrl:(R.length:Int)≤902:=by have:=hS.aA hG;omega
 have hel:(r.ai.length:Int)≤900:=by have:=hsn.few hG hx;omega
 have Fx:=hid hsub;have np:=hid hln;have o1:=hid LA;have HIH:=hid ih;have Pa:=hid vR;have HO:=hid hO;clear hsub hln LA ih vR hO kF hsn he hF hr hx hrx hp hnl hk hG hS;go_enter Tryz.func94,Tryz.ntmps94
 go_wp2_with fail
 go_loopw [7,8] (fun a i w'=>∃ (j:Nat) (pa:Option Addr) (ca:Nat) (os:List Sn) (w0:World),w0=w'∧j≤r.ai.length∧a=.slice pa os.length ca∧i=.int .i64 j∧Hid ((os.map Sn.key).Perm (((r.ai.take j).flatMap F).map jQ))∧Hid (Has w0 (Sns (.slice pa os.length ca) os::Rtb q g c R S.ak::L))∧Hid (Keep w w0)) (fun _ i _=>r.ai.length-(intOf i).toNat)
 case atStart=>exact⟨0,none,0,[],w,by trivial,by omega,rfl,rfl,hid (by simp),hid (fZ.2 (HO.out.al 57 5)),hid (Keep.refl w)⟩
 case round =>
  obtain⟨j,pa,ca,os,w0,rfl,hj,rfl,rfl,KQ,eT,ff⟩:=hrel;have xj:Has w0 (Rtb q g c R S.ak::Sns (.slice pa os.length ca) os::L):=eT.out.p1;have hq:=Rtb.nv xj;obtain⟨c4,hcs⟩:=PU.out _ _ xj;have DY:=hid (show os.length≤1000000 from by
   have h1:=KQ.out.length_eq;have h2:=np.out;have h3:r.ai.flatMap F=(r.ai.take j).flatMap F++(r.ai.drop j).flatMap F:=by rw[←List.flatMap_append,List.take_append_drop]
   rw[h3,List.length_append] at h2;rw[List.length_map,List.length_map] at h1;omega)
  by_cases hlt:j<r.ai.length
  ·have hji:(j:Int)<(r.ai.length:Int):=by omega
   have hj0:(0:Int)≤(j:Int):=by omega
   have gW:=hid hlt;obtain⟨a,o,rfl,hce⟩:=hcs (by omega);obtain⟨e0,e1⟩:=hce j hlt;obtain⟨m,y,r2,em,hy,hr2,hs2,Js,hpl,hrm,xu⟩:=Fx.out r.ai[j] (List.getElem_mem hlt);have DV:(r.ai.take (j+1)).flatMap F=(r.ai.take j).flatMap F++F r.ai[j]:=by rw[l6 r.ai j hlt,List.flatMap_append,List.flatMap_singleton];rfl
   have M6:=rC F r.ai r.ai[j] (List.getElem_mem hlt);clear hce hcs;generalize r.ai[j]=ee at *;obtain⟨nm,e2⟩:=ee;dsimp only at e0 e1 em Js hpl xu;subst em;clear hlt;have jU:=hid DV;have MP:=hid Js;have NN:=hid (show (y.ab.flatMap fun e'=>seen S.ac d e'.2 ((p++47::nm)++47::e'.1)).length≤1000000 from by
    have h1:=np.out;have h2:=M6;rw[Js,List.length_cons] at h2;omega)
   have HR2:=hid hr2;have HS2:=hid hs2;have HY:=hid hy;have IB:=hid hrm;have iY:=hid hpl;have hml:m<R.length:=(List.getElem?_eq_some_iff.1 hr2).1;have hm0:(0:Int)≤(m:Int):=by omega
   have hm1:(m:Int)<(R.length:Int):=by omega
   obtain⟨pe,ce,hev,-⟩:=(Rtb.aO xj hr2).1.form;obtain⟨pd,cd,hdv,-⟩:=(Rtb.aO xj hr2).2.1.form;obtain⟨pw,cw,oe,-⟩:=(Rtb.aO xj hr2).2.2.form;have Ln:=hid (fun(w:World)(L':List HP)(h:Has w (Rtb q g c R S.ak::L'))=>(show w.cell? ⟨q,0,none⟩=some (.slice (some ⟨g,0,none⟩) R.length c)∧w.cell? ⟨g,m*7,none⟩=some (.int .i64 r2.aa)∧w.cell? ⟨g,m*7+1,none⟩=some (.int .i64 r2.ab)∧w.cell? ⟨g,m*7+2,none⟩=some (.int .i64 r2.am)∧w.cell? ⟨g,m*7+3,none⟩=some (.int .i64 r2.aq)∧w.cell? ⟨g,m*7+4,none⟩=some (.slice pe r2.ai.length ce)∧w.cell? ⟨g,m*7+5,none⟩=some (.slice pd r2.data.length cd)∧w.cell? ⟨g,m*7+6,none⟩=some (.slice pw r2.there.length cw) from by
    obtain⟨d0,d1,d2,d3,d4,d5,d6⟩:=Rtb.at_ h HR2.out;rw[hev] at d4;rw[hdv] at d5;rw[oe] at d6;exact⟨Rtb.nv h,d0,d1,d2,d3,d4,d5,d6⟩))
   have ir:=hid (fun(w:World)(L':List HP)(h:Has w (Rtb q g c R S.ak::L'))=>(by have:=(Rtb.aO h HR2.out).2.1;rw[hdv] at this;exact this:Rd w (.slice pd r2.data.length cd) 1 r2.data.length (bc r2.data)));have pI:=hid (by rw[HS2.out.data];exact LG.out _ _ hy:r2.data.length≤100000);clear Js DV M6 hr2 hs2 hy hrm hpl hml hev hdv oe;have eZ:=hid (eT.out.alloc (.cells #[sV nm,.int .i64 (m:Int)] 200));have fu:=hid (ff.out.alloc (.cells #[sV nm,.int .i64 (m:Int)] 200));clear xj;go_upto_region 6 with fail
   clear eT ff c4 e0 e1 hq;generalize w0.alloc (.cells #[sV nm,.int .i64 (m:Int)] 200)=w1 at *;generalize w0.heap.size=g9 at *;have eW:=hid eZ.out.drew;have fH:=hid fu.out.drew;clear eZ fu;refine eP (fun w'=>w'.cell? ⟨g9,1,none⟩=some (.int .i64 (m:Int))∧w'.cell? ⟨q,0,none⟩=some (.slice (some ⟨g,0,none⟩) R.length c)∧w'.cell? ⟨g,m*7,none⟩=some (.int .i64 r2.aa)∧w'.cell? ⟨g,m*7+1,none⟩=some (.int .i64 r2.ab)∧w'.cell? ⟨g,m*7+2,none⟩=some (.int .i64 r2.am)∧w'.cell? ⟨g,m*7+3,none⟩=some (.int .i64 r2.aq)∧w'.cell? ⟨g,m*7+4,none⟩=some (.slice pe r2.ai.length ce)∧w'.cell? ⟨g,m*7+5,none⟩=some (.slice pd r2.data.length cd)∧w'.cell? ⟨g,m*7+6,none⟩=some (.slice pw r2.there.length cw)) (by kernel_rfl) (by kernel_rfl) ⟨eW.out.cells 1,Ln.out _ _ eW.out.p2⟩ ?_;generalize w1.drew=w3 at *;repeat (first|refine wr9 ?_|refine wk ?_)
   refine wa fun K hK=>?_;go_simp
   have fa:=hid (eW.out.alloc (.cells #[.int .i64 0,.int .i64 0,.int .i64 0,.int .i64 0,.slice none 0 0,.slice none 0 0,.slice none 0 0] 90));have jk:=hid (fH.out.alloc (.cells #[.int .i64 0,.int .i64 0,.int .i64 0,.int .i64 0,.slice none 0 0,.slice none 0 0,.slice none 0 0] 90));refine hK.out _ _ ⟨fa.out.p1.cells 1,Ln.out _ _ fa.out.p3⟩ ?_;clear hK K eW fH;try simp only[Act.put,zpu]
   generalize w3.heap.size=g10 at *;generalize w3.alloc (.cells #[.int .i64 0,.int .i64 0,.int .i64 0,.int .i64 0,.slice none 0 0,.slice none 0 0,.slice none 0 0] 90)=wZ9 at *;repeat (first|refine wr9 ?_|refine wk ?_)
   have ha0:=fa.out.e0;have hb0:=fa.out.thaw 0;have ha1:=fa.out.e1;have hb1:=fa.out.thaw 1;have ha2:=fa.out.e2;have hb2:=fa.out.thaw 2;have mh:=fa.out.e3;have hb3:=fa.out.thaw 3;have s7:=fa.out.e4;have hb4:=fa.out.thaw 4;have wS:=fa.out.e5;have hb5:=fa.out.thaw 5;have ha6:=fa.out.e6;have hb6:=fa.out.thaw 6;refine wa fun K hK=>?_;go_simp
   have fg:=hid (fa.out.ch (.int .i64 r2.aa) (.int .i64 r2.ab) (.int .i64 r2.am) (.int .i64 r2.aq) (.slice pe r2.ai.length ce) (.slice pd r2.data.length cd) (.slice pw r2.there.length cw));have fO:=hid (jk.out.ch g10 (.int .i64 r2.aa) (.int .i64 r2.ab) (.int .i64 r2.am) (.int .i64 r2.aq) (.slice pe r2.ai.length ce) (.slice pd r2.data.length cd) (.slice pw r2.there.length cw));refine hK.out _ _ ⟨fg.out.p1.cells 1,Ln.out _ _ fg.out.p3⟩ ?_;clear hK K fa jk ha0 hb0 ha1 hb1 ha2 hb2 mh hb3 s7 hb4 wS hb5 ha6 hb6;try simp only[Act.put,zpu]
   generalize ((((((wZ9.setCell ⟨g10,0,none⟩ (.int .i64 r2.aa)).setCell ⟨g10,1,none⟩ (.int .i64 r2.ab)).setCell ⟨g10,2,none⟩ (.int .i64 r2.am)).setCell ⟨g10,3,none⟩ (.int .i64 r2.aq)).setCell ⟨g10,4,none⟩ (.slice pe r2.ai.length ce)).setCell ⟨g10,5,none⟩ (.slice pd r2.data.length cd)).setCell ⟨g10,6,none⟩ (.slice pw r2.there.length cw)=w4 at *;repeat (first|refine wr9 ?_|refine wk ?_)
   refine eR ?_;go_upto_region 7 with fail
   have fi:=hid fg.out.drew;have ge:=hid fO.out.drew;clear fg fO;go_cut [11] (fun p11 wx=>∃ (g11:Nat) (pb:Option Addr) (cb:Nat) (w2:World),w2=wx∧p11=.pointer (some ⟨g11,0,none⟩)∧Hid (Has w2 (pt g11 (.cells #[sV (p++47::nm),.int .i64 (m:Int),.int .i64 r2.aa,.int .i64 r2.ab,.slice pb r2.data.length cb] 57)::Bytes (.slice pb r2.data.length cb) r2.data::pt g10 (.cells #[.int .i64 r2.aa,.int .i64 r2.ab,.int .i64 r2.am,.int .i64 r2.aq,.slice pe r2.ai.length ce,.slice pd r2.data.length cd,.slice pw r2.there.length cw] 90)::pt g9 (.cells #[sV nm,.int .i64 (m:Int)] 200)::Sns (.slice pa os.length ca) os::Rtb q g c R S.ak::L))∧Hid (Keep w w2))
   case first =>
    have uT:p.length+1≤10000:=by simp only[List.length_append,List.length_cons] at xu;omega
    have hs1:¬ 9223372036854775807<p.length+1:=by omega
    have hs2:¬ 9223372036854775807<p.length+1+nm.length:=by simp only[List.length_append,List.length_cons] at xu;omega
    have K5:sB p++(⟨#[47]⟩:ByteArray)++sB nm=sB (p++47::nm):=by rw[show (⟨#[47]⟩:ByteArray)=sB [47] from rfl,nz,nz,List.append_assoc];rfl
    refine rR noQ (fun w'=>w'.cell? ⟨g9,0,none⟩=some (sV nm)∧w'.cell? ⟨g9,1,none⟩=some (.int .i64 (m:Int))∧w'.cell? ⟨g10,0,none⟩=some (.int .i64 r2.aa)∧w'.cell? ⟨g10,1,none⟩=some (.int .i64 r2.ab)∧w'.cell? ⟨g10,5,none⟩=some (.slice pd r2.data.length cd)) 15 16 [_,_,_,_,_,_,_,_,_,_,_,_,_,_,_] [] _ _ (by kernel_rfl) (by kernel_rfl) (by rfl) rfl rfl ⟨(fi.out.re 2 [1]).cells 0,(fi.out.re 2 [1]).cells 1,(fi.out.re 1 [0]).cells 0,(fi.out.re 1 [0]).cells 1,(fi.out.re 1 [0]).cells 5⟩ ?_;generalize w4.drew=w5 at *;repeat (first
     | (refine q3 (by rfl) (by rfl) ?_ ?_ ?_;rotate_left;(rintro w ⟨z0,z1,z2,z3,z4⟩;go_simp;with_reducible rfl);simp only[Act.put,zpu])|(refine qN (by rfl) (by rfl) ?_;simp only[Act.put,zpu]))
    try simp only[K5]
    refine zi (by rfl) (by rfl) ?_ (fun K hK=>?_)
    ·refine wa fun K hK=>?_;go_simp
     have HA1:=hid (fi.out.alloc (.cells #[sV [],.int .i64 0,.int .i64 0,.int .i64 0,.slice none 0 0] 57));have HB1:=hid (ge.out.alloc (.cells #[sV [],.int .i64 0,.int .i64 0,.int .i64 0,.slice none 0 0] 57));refine hK.out _ _ ⟨(HA1.out.re 3 [2]).cells 0,(HA1.out.re 3 [2]).cells 1,(HA1.out.re 2 [1]).cells 0,(HA1.out.re 2 [1]).cells 1,(HA1.out.re 2 [1]).cells 5⟩ ?_;clear hK K;try simp only[Act.put,zpu]
     generalize w5.heap.size=g11 at *;generalize w5.alloc (.cells #[sV [],.int .i64 0,.int .i64 0,.int .i64 0,.slice none 0 0] 57)=y1 at *;repeat (first|refine wr5 ?_|refine wk ?_)
     refine wa fun K hK=>?_;refine fV (.const (.slice none 0 0)) (.tmp 56) 31 rfl Tryz.underlying31 ju rfl (by decide) (HA1.out.al 5 1) (by rfl) _ r2.data.length _ (by rfl) (ir.out _ _ (HA1.out.re 5 [4])) (kA _) (eU (by have:=pI.out;omega)) (by have:=pI.out;omega) fun v6 y2 h6 hk6=>?_;rw[Nat.zero_add,List.nil_append] at h6;obtain⟨pb,cb,rfl,-⟩:=(Has.rd h6).form;have HA2:=hid h6;have HB2:=hid (HB1.out.trans hk6);clear h6 hk6 HA1 HB1;refine hK.out _ _ ⟨(HA2.out.re 4 [3]).cells 0,(HA2.out.re 4 [3]).cells 1,(HA2.out.re 3 [2]).cells 0,(HA2.out.re 3 [2]).cells 1,(HA2.out.re 3 [2]).cells 5⟩ ?_;clear hK K;try simp only[Act.put,zpu]
     repeat (first|refine wr5 ?_|refine wk ?_)
     have HZ:=hid (show Has y2 (pt g11 (.cells #[sV [],.int .i64 0,.int .i64 0,.int .i64 0,.slice none 0 0] 57)::Bytes (.slice pb r2.data.length cb) r2.data::pt g10 (.cells #[.int .i64 r2.aa,.int .i64 r2.ab,.int .i64 r2.am,.int .i64 r2.aq,.slice pe r2.ai.length ce,.slice pd r2.data.length cd,.slice pw r2.there.length cw] 90)::pt g9 (.cells #[sV nm,.int .i64 (m:Int)] 200)::Sns (.slice pa os.length ca) os::Rtb q g c R S.ak::L) from HA2.out.p1)
     as_aux_lemma=>exact zaB
    ·refine fV (.const (.slice none 0 0)) (.tmp 56) 31 rfl Tryz.underlying31 ju rfl (by decide) (fi.out.al 5 1) (by rfl) _ r2.data.length _ (by rfl) (ir.out _ _ (fi.out.re 4 [3])) (kA _) (eU (by have:=pI.out;omega)) (by have:=pI.out;omega) fun v6 y1 h6 hk6=>?_;rw[Nat.zero_add,List.nil_append] at h6;obtain⟨pb,cb,rfl,-⟩:=(Has.rd h6).form;have HA1:=hid h6;have HB1:=hid (ge.out.trans hk6);clear h6 hk6;refine hK.out _ _ ⟨(HA1.out.re 3 [2]).cells 0,(HA1.out.re 3 [2]).cells 1,(HA1.out.re 2 [1]).cells 0,(HA1.out.re 2 [1]).cells 1,(HA1.out.re 2 [1]).cells 5⟩ ?_;clear hK K;try simp only[Act.put,zpu]
     repeat (first
      | (refine q3 (by rfl) (by rfl) ?_ ?_ ?_;rotate_left;(rintro w ⟨z0,z1,z2,z3,z4⟩;go_simp;with_reducible rfl);simp only[Act.put,zpu])|(refine qN (by rfl) (by rfl) ?_;simp only[Act.put,zpu]))
     refine zn ?_;refine wa fun K hK=>?_;go_simp
     have HA2:=hid (HA1.out.alloc (.cells #[sV [],.int .i64 0,.int .i64 0,.int .i64 0,.slice none 0 0] 57));have HB2:=hid (HB1.out.alloc (.cells #[sV [],.int .i64 0,.int .i64 0,.int .i64 0,.slice none 0 0] 57));refine hK.out _ _ ⟨(HA2.out.re 4 [3]).cells 0,(HA2.out.re 4 [3]).cells 1,(HA2.out.re 3 [2]).cells 0,(HA2.out.re 3 [2]).cells 1,(HA2.out.re 3 [2]).cells 5⟩ ?_;clear hK K HA1 HB1;try simp only[Act.put,zpu]
     generalize y1.heap.size=g11 at *;generalize y1.alloc (.cells #[sV [],.int .i64 0,.int .i64 0,.int .i64 0,.slice none 0 0] 57)=y2 at *;repeat (first|refine wr5 ?_|refine wk ?_)
     have HZ:=hid (show Has y2 (pt g11 (.cells #[sV [],.int .i64 0,.int .i64 0,.int .i64 0,.slice none 0 0] 57)::Bytes (.slice pb r2.data.length cb) r2.data::pt g10 (.cells #[.int .i64 r2.aa,.int .i64 r2.ab,.int .i64 r2.am,.int .i64 r2.aq,.slice pe r2.ai.length ce,.slice pd r2.data.length cd,.slice pw r2.there.length cw] 90)::pt g9 (.cells #[sV nm,.int .i64 (m:Int)] 200)::Sns (.slice pa os.length ca) os::Rtb q g c R S.ak::L) from HA2.out)
     as_aux_lemma=>exact zaB
   case rest =>
    obtain⟨g11,pb,cb,w6,rfl,rfl,fq,gu⟩:=hcut;clear fi ge;have ha0:=fq.out.e0;have ha1:=fq.out.e1;have ha2:=fq.out.e2;have mh:=fq.out.e3;have s7:=fq.out.e4;have hk0:=fq.out.p2.e0;have fP:=hid (fq.out.alloc (.cells #[sV (p++47::nm),.int .i64 (m:Int),.int .i64 r2.aa,.int .i64 r2.ab,.slice pb r2.data.length cb] 57));have gZ:=hid (gu.out.alloc (.cells #[sV (p++47::nm),.int .i64 (m:Int),.int .i64 r2.aa,.int .i64 r2.ab,.slice pb r2.data.length cb] 57));have hcx:=fP.out.cells;have HRW:=hid (fZ.1 (show Has _ (Sns (.slice pa os.length ca) os::_) from fP.out.re 7 [5,0,1,2,3,4,6]));go_wp2_with (at_builtin;refine kg rfl _ _ _ rfl Tryz.underlying48 ie rfl [sV (p++47::nm),.int .i64 (m:Int),.int .i64 r2.aa,.int .i64 r2.ab,.slice pb r2.data.length cb] rfl HRW.out rfl 1 _ rfl (fun j=>by rw[hcx j];simp) (by simp[Value.oneCell']) (eU (by have:=DY.out;omega)) (by have:=DY.out;omega) ?_)
    intro v8 w8 h8 k8;obtain⟨p8,c8,rfl,-⟩:=(Has.rd h8).form;have fI:=hid (show Has w8 (Sns (.slice p8 (os ++ [(⟨p++47::nm,(m:Int),r2.aa,r2.ab,r2.data,.slice pb r2.data.length cb⟩:Sn)]).length c8) (os ++ [(⟨p++47::nm,(m:Int),r2.aa,r2.ab,r2.data,.slice pb r2.data.length cb⟩:Sn)])::_) from by
     rw[List.length_append];exact xw ⟨p++47::nm,(m:Int),r2.aa,r2.ab,r2.data,.slice pb r2.data.length cb⟩ h8)
    have iI:=hid (gZ.out.trans k8);clear h8 k8 HRW fP gZ hcx ha0 ha1 ha2 mh s7 hk0 fq gu;have Dn:(os ++ [(⟨p++47::nm,(m:Int),r2.aa,r2.ab,r2.data,.slice pb r2.data.length cb⟩:Sn)]).length=os.length+1:=by simp
    have Nn:=hid (show ((os ++ [(⟨p++47::nm,(m:Int),r2.aa,r2.ab,r2.data,.slice pb r2.data.length cb⟩:Sn)]).map Sn.key).Perm ((((r.ai.take j).flatMap F) ++ [(p++47::nm,(m:Int),y)]).map jQ) from by
     rw[List.map_append,List.map_append];refine KQ.out.append ?_;show [Sn.key _].Perm [jQ _];unfold Sn.key jQ;dsimp only;rw[HS2.out.aa,HS2.out.ab,HS2.out.data])
    have EZ:=hid Dn;rw[Dn] at fI;generalize os ++ [(⟨p++47::nm,(m:Int),r2.aa,r2.ab,r2.data,.slice pb r2.data.length cb⟩:Sn)]=os8 at *;clear Dn;have hx1:=(fI.out.re 5 [4]).e1;have hx0:=(fI.out.re 3 [2]).e0;have hk0:=(fI.out.re 4 [3]).e0;by_cases hd2:r2.aa=2
    ·have hkb:(r2.aa==2)=true:=by rw[hd2];rfl
     clear hd2;have HX:=hid (HIH.out m y (p++47::nm) w8 _ HY.out IB.out iY.out NN.out (fI.out.re 6 [5,0]));generalize (y.ab.flatMap fun e'=>seen S.ac d e'.2 ((p++47::nm)++47::e'.1))=FY at *;go_wp2_with fail
     refine HX.out.mono ?_;rintro e w9 ⟨v9,os9,rfl,uT,h9,k9⟩;obtain⟨p9,c9,rfl,-⟩:=(Has.rd (fZ.1 h9)).form;have Oc:=hid uT;have gQ:=hid (iI.out.trans k9);have sC:=hid (by have h1:=uT.length_eq;rw[List.length_map,List.length_map] at h1;have:=NN.out;omega:os9.length≤1000000);have fJ:=hid (BN (h9.re 3 [0,2,1]));have Ir:=Has.rd (fZ.1 h9);clear h9 k9 uT HX fI iI;try dsimp only
     go_wp2_with (at_builtin;rw[EZ.out] at fJ;refine fY rfl _ _ _ rfl Tryz.underlying48 ie rfl (by decide) fJ.out rfl _ os9.length _ rfl Ir (iX _) (eU (by have:=DY.out;have:=sC.out;omega)) (by have:=DY.out;have:=sC.out;omega) ?_)
     intro v10 w10 h10 k10;obtain⟨p10,c10,rfl,-⟩:=(Has.rd h10).form;have ko:=hid (gQ.out.trans k10);have gJ:=hid (show Has w10 (Sns (.slice p10 (os8++os9).length c10) (os8++os9)::Rtb q g c R S.ak::L) from by
      refine By ?_;rw[List.length_append,EZ.out];have h11:∀ (A B:List HP) (c:HP),(A++c::B).Perm (c::(A++B)):=fun A B c=>List.perm_middle;exact(h10.perm (.cons _ (h11 _ _ _))).p1.drop)
     clear h10 k10 fJ gQ Ir;have Md:os.length+1+os9.length=(os8++os9).length:=by rw[List.length_append,EZ.out]
     go_wp2_with fail
     refine⟨⟨j+1,_,_,os8++os9,w10,by trivial,by have:=gW.out;omega,by rw[Md],by go_num,hid ?_,gJ,ko⟩,by have:=gW.out;simp[intOf];omega⟩;rw[jU.out,MP.out,List.map_append];have h1:=Nn.out.append Oc.out;rw[List.map_append,List.append_assoc] at h1;rw[List.map_append];exact h1
    ·have hkb:(r2.aa==2)=false:=by simpa using hd2
     have Of:=hid (Pa.out _ _ HY.out (by rw[←HS2.out.aa];exact hd2));clear hd2;go_wp2_with fail
     refine⟨⟨j+1,_,_,os8,w8,by trivial,by have:=gW.out;omega,by rw[EZ.out],by go_num,hid ?_,?_,iI⟩,by have:=gW.out;simp[intOf];omega⟩
     ·rw[jU.out,MP.out,Of.out];exact Nn.out
     ·rw[EZ.out];exact hid (fI.out.re 6 [0,5])
  ·obtain rfl:j=r.ai.length:=by omega
   have hki:¬ (r.ai.length:Int)<(r.ai.length:Int):=by omega
   clear hlt hj hcs;go_wp2_with fail
   go_ret
   refine⟨_,rfl,os,?_,eT.out,ff.out⟩;have h1:=KQ.out;rw[List.take_of_length_le (Nat.le_refl _)] at h1;exact h1.trans (o1.out.map _)
theorem xO (v:Value):∃ p n c,qk v=.slice p n c:=by
 unfold qk;split <;> exact⟨_,_,_,rfl⟩
theorem D5 {x y:Str}(h:x<y):(!Op.bytesLess y x && !y==x)=true:=by
 rw[iu,decide_eq_false (fun h2=>List.lt_irrefl _ (List.lt_trans h h2))];have:y≠x:=by rintro rfl;exact List.lt_irrefl _ h
 simpa using this
theorem Hk {x y:Str}(h:¬ x<y):(!Op.bytesLess y x && !y==x)=false:=by
 rw[iu];rcases Std.lt_trichotomy y x with h1|h1|h1
 ·rw[decide_eq_true h1];rfl
 ·subst h1;simp
 ·exact absurd h1 h
theorem CR (v:Value)(os0:List Sn)(w:World)(L:List HP)(hn:os0.length≤1000000)(hO:Has w (Sns v os0::L)) :
  zCl 93 #[v] w fun e w'=>∃ v' os',e=.returned v'∧os'.Perm os0∧ul os'∧Has w' (Sns v' os'::L)∧Keep w w':=by
 have iq:=fZ.1 hO;obtain⟨pv,cv,rfl,-⟩:=(Has.rd iq).form;obtain⟨L0,hL0⟩:∃ L0,L0=os0.map (fun s=>Bytes s.dv s.data)++L:=⟨_,rfl⟩
 rw[←hL0] at iq;have Fr:=hid hL0;have HO:=hid iq;have HN:=hid hn;have hni:(os0.length:Int)≤1000000:=by omega
 have HR0:=hid (fun(w:World)(L':List HP)(h:Has w (row (.slice pv os0.length cv) 57 5 os0.length (fM os0)::L'))=>(show 0<os0.length→∃ a o,pv=some ⟨a,o,none⟩∧∀ i (hi:i<os0.length),w.cell? ⟨a,o+i*5,none⟩=some (sV os0[i].ag)∧w.cell? ⟨a,o+i*5+1,none⟩=some (.int .i64 os0[i].num)∧w.cell? ⟨a,o+i*5+2,none⟩=some (.int .i64 os0[i].aa)∧w.cell? ⟨a,o+i*5+3,none⟩=some (.int .i64 os0[i].ah)∧w.cell? ⟨a,o+i*5+4,none⟩=some (qk os0[i].dv) from by
  obtain⟨p,cp,e,-,h2⟩:=sW (Has.rd h);simp only[Value.slice.injEq] at e;obtain⟨rfl,-,-⟩:=e;exact h2))
 clear iq hO hL0 hn;go_enter Tryz.func93,Tryz.ntmps93
 go_wp2_with fail
 go_loopw [3,4] (fun s j w'=>∃ (i:Nat) (pa:Option Addr) (ca:Nat) (a:List Sn) (w0:World),w0=w'∧i≤os0.length∧s=.slice pa a.length ca∧j=.int .i64 i∧Hid (a.Perm (os0.take i)∧ul a)∧Hid (Has w0 (row (.slice pa a.length ca) 57 5 a.length (fM a)::row (.slice pv os0.length cv) 57 5 os0.length (fM os0)::L0))∧Hid (Keep w w0)) (fun _ j _=>os0.length-(intOf j).toNat)
 case atStart=>exact⟨0,none,0,[],w,by trivial,by omega,rfl,rfl,hid ⟨.refl _,List.Pairwise.nil⟩,hid (HO.out.al 57 5),hid (Keep.refl w)⟩
 case round =>
  obtain⟨i,pa,ca,a,w0,rfl,hi,rfl,rfl,HA,eT,ff⟩:=hrel;have xq:=hid (by rw[HA.out.1.length_eq,List.length_take,Nat.min_eq_left hi]:a.length=i);by_cases hlt:i<os0.length
  ·have hii:(i:Int)<(os0.length:Int):=by omega
   have hi0:(0:Int)≤(i:Int):=by omega
   have gW:=hid hlt;have hal:(a.length:Int)≤1000000:=by have:=xq.out;omega
   have DV:os0.take (i+1)=os0.take i ++ [os0[i]]:=l6 os0 i hlt;have jU:=hid DV;clear DV;obtain⟨gv,ov,hpv,hx⟩:=HR0.out _ _ eT.out.p1 (by omega);subst hpv;have rX:=hid (fun(w:World)(L':List HP)(h:Has w (row (.slice (some ⟨gv,ov,none⟩) os0.length cv) 57 5 os0.length (fM os0)::L'))=>(show w.cell? ⟨gv,ov+i*5,none⟩=some (sV os0[i].ag)∧w.cell? ⟨gv,ov+i*5+1,none⟩=some (.int .i64 os0[i].num)∧w.cell? ⟨gv,ov+i*5+2,none⟩=some (.int .i64 os0[i].aa)∧w.cell? ⟨gv,ov+i*5+3,none⟩=some (.int .i64 os0[i].ah)∧w.cell? ⟨gv,ov+i*5+4,none⟩=some (qk os0[i].dv) from by
    obtain⟨a',o',e,h2⟩:=HR0.out _ _ h (by omega);simp only[Option.some.injEq,Addr.mk.injEq] at e;obtain⟨rfl,rfl,-⟩:=e;exact h2 i hlt))
   clear hx HR0;obtain⟨x,hxe⟩:∃ x,os0[i]=x:=⟨_,rfl⟩
   rw[hxe] at jU;simp only[hxe] at rX;clear hxe hlt;obtain⟨xp,xn,xk,xl,xd,xv⟩:=x;dsimp only at rX;obtain⟨dp,dn,dc,hdv⟩:=xO xv;rw[hdv] at rX;have Fg:=hid hdv;clear hdv;have yi:=hid (fun(w:World)(L':List HP)(h:Has w (row (.slice pa a.length ca) 57 5 a.length (fM a)::L'))=>(show 0<a.length→∃ g o,pa=some ⟨g,o,none⟩∧∀ j (hj:j<a.length),w.cell? ⟨g,o+j*5,none⟩=some (sV a[j].ag) from by
    intro h0;obtain⟨p,cp,e,-,h2⟩:=sW (Has.rd h);simp only[Value.slice.injEq] at e;obtain⟨rfl,-,-⟩:=e;obtain⟨g,o,e2,h3⟩:=h2 h0;exact⟨g,o,e2,fun j hj=>(h3 j hj).1⟩))
   go_upto_block 2 with fail
   go_cut [5] (fun b wx=>∃ (t m:Nat),t≤a.length∧b=.int .i64 t∧wx=w0.drewN m∧Hid ((∀ u (hu:u<a.length),t≤u→xp<a[u].ag)∧(∀ h0:0<t,∀ h1:t-1<a.length,¬ xp<a[t-1].ag)))
   case first =>
    go_wp2_with fail
    go_loopw [5] (fun b wx=>∃ (t m:Nat),t≤a.length∧b=.int .i64 t∧wx=w0.drewN m∧Hid (∀ u (hu:u<a.length),t≤u→xp<a[u].ag)) (fun b _=>(intOf b).toNat)
    case atStart=>exact⟨a.length,0,by omega,rfl,rfl,hid fun u hu h=>absurd h (by omega)⟩
    case round =>
     obtain⟨t,m,ht,rfl,rfl,HT⟩:=hrel;have IS:=hid (eT.out.drewN m).drew;rcases t with _|j
     ·rw[show ((0:Nat):Int)=0 from rfl];go_wp2_with fail
      refine eP (fun w=>True) (by kernel_rfl) (by kernel_rfl) trivial ?_
      iterate 3 (first
       | (refine ig (by rfl) (by rfl) ?_ ?_ ?_;rotate_left;(intro w hS;go_simp;with_reducible rfl);simp only[Act.put,zpu]))
      iterate 12 (refine iB (by rfl) ?_;simp only[Act.put,zpu])
      refine ig (by rfl) (by rfl) (.bool false) ?_ ?_
      ·intro w hS;go_simp
      simp only[Act.put,zpu];refine eR ?_;go_wp2_with fail
      go_meet
      exact⟨0,m+1,by omega,rfl,rfl,hid ⟨HT.out,fun h=>absurd h (by omega)⟩⟩
     ·have hja:j<a.length:=by omega
      have hj0:(0:Int)≤(j:Int):=by omega
      have hj1:(j:Int)<(a.length:Int):=by omega
      have hj3:(j:Int)+1≤1000000:=by omega
      rw[show ((j+1:Nat):Int)=(j:Int)+1 from by omega];obtain⟨ga,oa,hpa,hac⟩:=yi.out _ _ IS.out (by omega);subst hpa;have hc0:=hac j hja;have hc1:=(rX.out _ _ IS.out.p1).1;clear hac;have Qk:=hid hja;by_cases hls:xp<a[j].ag
      ·have hgt:=D5 hls;have HT2:=hid (show ∀ u (hu:u<a.length),j≤u→xp<a[u].ag from fun u hu h=>by
        by_cases e:u=j
        ·subst e;exact hls
        ·exact HT.out u hu (by omega))
       clear hls HT;generalize a[j].ag=ap at *;clear hja;have Jg:=hid hgt;clear hgt;go_wp2_with fail
       have hj2:(0:Int)<(j:Int)+1:=by omega
       have wj:IntKind.i64.wrap (j:Int)=(j:Int):=ft _ (by omega);refine eP (fun w=>w.cell? ⟨ga,oa+j*5,none⟩=some (sV ap)∧w.cell? ⟨gv,ov+i*5,none⟩=some (sV xp)) (by kernel_rfl) (by kernel_rfl) ⟨hc0,hc1⟩ ?_;repeat (first|refine wr2 ?_|refine wk ?_)
       refine eR ?_;clear wj hj2;rw[Jg.out];go_wp2_with fail
       exact⟨⟨j,m+1,by omega,rfl,rfl,HT2⟩,by simp[intOf];try omega⟩
      ·have hgt:=Hk hls;have mZ:=hid (show ∀ h1:j+1-1<a.length,¬ xp<a[j+1-1].ag from fun h1=>hls);clear hls;generalize a[j].ag=ap at *;clear hja;have Jg:=hid hgt;clear hgt;go_wp2_with fail
       have hj2:(0:Int)<(j:Int)+1:=by omega
       have wj:IntKind.i64.wrap (j:Int)=(j:Int):=ft _ (by omega);refine eP (fun w=>w.cell? ⟨ga,oa+j*5,none⟩=some (sV ap)∧w.cell? ⟨gv,ov+i*5,none⟩=some (sV xp)) (by kernel_rfl) (by kernel_rfl) ⟨hc0,hc1⟩ ?_;repeat (first|refine wr2 ?_|refine wk ?_)
       refine eR ?_;clear wj hj2;rw[Jg.out];go_wp2_with fail
       go_meet
       exact⟨j+1,m+1,by omega,by try simp,rfl,hid ⟨HT.out,fun _=>mZ.out⟩⟩
   case rest =>
    obtain⟨k,m,hk,rfl,rfl,HT⟩:=hcut;have Ax:=hid (yS HA.out.2 ⟨xp,xn,xk,xl,xd,xv⟩ hk HT.out.1 (fun h0=>HT.out.2 h0 (by omega)));have PE:=hid ((y7 a (⟨xp,xn,xk,xl,xd,xv⟩:Sn) k).trans (HA.out.1.append_right _));have ka:=hid hk;have eZ:=hid (eT.out.drewN m);have fu:=hid (ff.out.drewN m);have hk0:(0:Int)≤(k:Int):=by omega
    have hka:(k:Int)≤(a.length:Int):=by omega
    clear HT HA eT ff hk yi;generalize w0.drewN m=wr at *;have Dj:=hid (show ∀ (w':World) (L':List HP),Has w' (row (.slice pa a.length ca) 57 5 a.length (fM a)::L')→Rd w' (.slice pa k ca) 5 k (fM (a.take k)) from fun w' L' h=>by
     have h1:=(Has.rd h).bp k ka.out;rw[ua _ _ ka.out] at h1;exact h1)
    have wR:=hid (show ∀ (w':World) (L':List HP),Has w' (row (.slice pa a.length ca) 57 5 a.length (fM a)::L')→Rd w' (.slice (if ca=k then pa else pa.map fun ad=>ad.add (k*5)) (a.length-k) (ca-k)) 5 (a.length-k) (fM (a.drop k)) from fun w' L' h=>by
     have h1:=(Has.rd h).bE k ka.out;rw[uw _ _ ka.out] at h1;exact h1)
    have hcap:a.length≤ca:=by
     obtain⟨_,_,e,hc,_⟩:=(Has.rd eZ.out).form;simp only[Value.slice.injEq] at e;obtain⟨-,-,rfl⟩:=e;exact hc
    have hcl:ca≤9223372036854775807:=by
     rcases eZ.out.ao with ⟨-,h|⟨_,cap,_,e,_,h2,_⟩⟩
     ·have:=h.1;simp only[Value.slice.injEq] at this;omega
     ·simp only[Value.slice.injEq] at e;obtain⟨-,-,rfl⟩:=e;exact h2
    go_upto_region 8 with fail
    obtain⟨pq,hpq,hcq⟩:∃ pq:Option Addr,(pq=if ca=k then pa else pa.map fun ad=>ad.add (k*5))∧∀ (w':World) (L':List HP),Has w' (row (.slice pa a.length ca) 57 5 a.length (fM a)::L')→Rd w' (.slice pq (a.length-k) (ca-k)) 5 (a.length-k) (fM (a.drop k)):=⟨_,rfl,wR.out⟩
    have wR:=hid hcq;clear hcq;by_cases hck:ca=k
    ·rw[if_pos hck] at hpq;subst hpq;have E0:=hck.symm;subst E0;have hlk:a.length=k:=by omega
     have o7:=hid hlk;have wR:=hid (show ∀ (w':World) (L':List HP),Has w' (row (.slice pq a.length k) 57 5 a.length (fM a)::L')→Rd w' (.slice pq 0 0) 5 0 (fM (a.drop k)) from fun w' L' h=>by
      have h1:=wR.out w' L' h;rw[o7.out,Nat.sub_self] at h1;exact h1)
     clear hlk;have gC:=hid eZ.out.drew;have iG:=hid fu.out.drew;refine iF (qc:=noQ) (fun w'=>w'.cell? ⟨gv,ov+i*5,none⟩=some (sV xp)∧w'.cell? ⟨gv,ov+i*5+1,none⟩=some (.int .i64 xn)∧w'.cell? ⟨gv,ov+i*5+2,none⟩=some (.int .i64 xk)∧w'.cell? ⟨gv,ov+i*5+3,none⟩=some (.int .i64 xl)∧w'.cell? ⟨gv,ov+i*5+4,none⟩=some (.slice dp dn dc)) 3 8 [_,_,_] [_,_,_,_] _ _ _ (by kernel_rfl) (by kernel_rfl) (by rfl) rfl rfl rfl (rX.out _ _ gC.out.p1) ?_;simp only[List.cons_append,List.nil_append];generalize wr.drew=wd at *;have hkc:(k:Int)≤(k:Int):=by omega
     have KF:(a.length:Int)≤(k:Int):=by omega
     repeat (first|refine wr5 ?_|refine wk ?_)
     refine eR ⟨?_,?_⟩
     ·refine wa fun K hK=>?_;refine fV (.const (.slice none 0 0)) (.tmp 34) 48 rfl Tryz.underlying48 ie rfl (by decide) (gC.out.al 57 5) (by rfl) _ k _ (by rfl) (Dj.out _ _ gC.out) (iX _) (eU (by have:=ka.out;omega)) (by have:=ka.out;omega) fun v5 w5 h5 hk5=>?_;have fi:=hid h5;have ge:=hid (iG.out.trans hk5);clear h5 hk5;refine hK.out _ _ (rX.out _ _ fi.out.p2) ?_;clear hK K;try simp only[Act.put,zpu]
      refine wa fun K hK=>?_;go_simp
      have fq:=hid (fi.out.alloc (.cells #[sV xp,.int .i64 xn,.int .i64 xk,.int .i64 xl,.slice dp dn dc] 57));have gu:=hid (ge.out.alloc (.cells #[sV xp,.int .i64 xn,.int .i64 xk,.int .i64 xl,.slice dp dn dc] 57));refine hK.out _ _ (rX.out _ _ fq.out.p3) ?_;clear hK K;try simp only[Act.put,zpu]
      generalize w5.heap.size=gb at *;generalize w5.alloc (.cells #[sV xp,.int .i64 xn,.int .i64 xk,.int .i64 xl,.slice dp dn dc] 57)=w6 at *
      as_aux_lemma=>exact zal
     ·refine wa fun K hK=>?_;go_simp
      have fg:=hid (gC.out.alloc (.cells #[sV xp,.int .i64 xn,.int .i64 xk,.int .i64 xl,.slice dp dn dc] 57));have fO:=hid (iG.out.alloc (.cells #[sV xp,.int .i64 xn,.int .i64 xk,.int .i64 xl,.slice dp dn dc] 57));refine hK.out _ _ (rX.out _ _ fg.out.p2) ?_;clear hK K;try simp only[Act.put,zpu]
      generalize wd.heap.size=gb at *;generalize wd.alloc (.cells #[sV xp,.int .i64 xn,.int .i64 xk,.int .i64 xl,.slice dp dn dc] 57)=w5 at *;refine wa fun K hK=>?_;refine fV (.const (.slice none 0 0)) (.tmp 34) 48 rfl Tryz.underlying48 ie rfl (by decide) (fg.out.al 57 5) (by rfl) _ k _ (by rfl) (Dj.out _ _ fg.out.p1) (iX _) (eU (by have:=ka.out;omega)) (by have:=ka.out;omega) fun v5 w6 h5 hk5=>?_;have fq:=hid h5.p1;have gu:=hid (fO.out.trans hk5);clear h5 hk5;refine hK.out _ _ (rX.out _ _ fq.out.p3) ?_;clear hK K;try simp only[Act.put,zpu]
      as_aux_lemma=>exact zal
    ·rw[if_neg hck] at hpq;subst hpq;have gC:=hid eZ.out.drew;have iG:=hid fu.out.drew;refine iF (qc:=noQ) (fun w'=>w'.cell? ⟨gv,ov+i*5,none⟩=some (sV xp)∧w'.cell? ⟨gv,ov+i*5+1,none⟩=some (.int .i64 xn)∧w'.cell? ⟨gv,ov+i*5+2,none⟩=some (.int .i64 xk)∧w'.cell? ⟨gv,ov+i*5+3,none⟩=some (.int .i64 xl)∧w'.cell? ⟨gv,ov+i*5+4,none⟩=some (.slice dp dn dc)) 3 8 [_,_,_] [_,_,_,_] _ _ _ (by kernel_rfl) (by kernel_rfl) (by rfl) rfl rfl rfl (rX.out _ _ gC.out.p1) ?_;simp only[List.cons_append,List.nil_append];generalize wr.drew=wd at *;have hkc:(k:Int)≤(ca:Int):=by have:=ka.out;omega
     have KF:(a.length:Int)≤(ca:Int):=by omega
     repeat (first|refine wr5 ?_|refine wk ?_)
     refine eR ⟨?_,?_⟩
     ·refine wa fun K hK=>?_;refine fV (.const (.slice none 0 0)) (.tmp 34) 48 rfl Tryz.underlying48 ie rfl (by decide) (gC.out.al 57 5) (by rfl) _ k _ (by rfl) (Dj.out _ _ gC.out) (iX _) (eU (by have:=ka.out;omega)) (by have:=ka.out;omega) fun v5 w5 h5 hk5=>?_;have fi:=hid h5;have ge:=hid (iG.out.trans hk5);clear h5 hk5;refine hK.out _ _ (rX.out _ _ fi.out.p2) ?_;clear hK K;try simp only[Act.put,zpu]
      refine wa fun K hK=>?_;go_simp
      have fq:=hid (fi.out.alloc (.cells #[sV xp,.int .i64 xn,.int .i64 xk,.int .i64 xl,.slice dp dn dc] 57));have gu:=hid (ge.out.alloc (.cells #[sV xp,.int .i64 xn,.int .i64 xk,.int .i64 xl,.slice dp dn dc] 57));refine hK.out _ _ (rX.out _ _ fq.out.p3) ?_;clear hK K;try simp only[Act.put,zpu]
      generalize w5.heap.size=gb at *;generalize w5.alloc (.cells #[sV xp,.int .i64 xn,.int .i64 xk,.int .i64 xl,.slice dp dn dc] 57)=w6 at *
      as_aux_lemma=>exact zam
     ·refine wa fun K hK=>?_;go_simp
      have fg:=hid (gC.out.alloc (.cells #[sV xp,.int .i64 xn,.int .i64 xk,.int .i64 xl,.slice dp dn dc] 57));have fO:=hid (iG.out.alloc (.cells #[sV xp,.int .i64 xn,.int .i64 xk,.int .i64 xl,.slice dp dn dc] 57));refine hK.out _ _ (rX.out _ _ fg.out.p2) ?_;clear hK K;try simp only[Act.put,zpu]
      generalize wd.heap.size=gb at *;generalize wd.alloc (.cells #[sV xp,.int .i64 xn,.int .i64 xk,.int .i64 xl,.slice dp dn dc] 57)=w5 at *;refine wa fun K hK=>?_;refine fV (.const (.slice none 0 0)) (.tmp 34) 48 rfl Tryz.underlying48 ie rfl (by decide) (fg.out.al 57 5) (by rfl) _ k _ (by rfl) (Dj.out _ _ fg.out.p1) (iX _) (eU (by have:=ka.out;omega)) (by have:=ka.out;omega) fun v5 w6 h5 hk5=>?_;have fq:=hid h5.p1;have gu:=hid (fO.out.trans hk5);clear h5 hk5;refine hK.out _ _ (rX.out _ _ fq.out.p3) ?_;clear hK K;try simp only[Act.put,zpu]
      as_aux_lemma=>exact zam
  ·obtain rfl:i=os0.length:=by omega
   have hki:¬ (os0.length:Int)<(os0.length:Int):=by omega
   clear hlt hi;go_wp2_with fail
   go_ret
   have hp:=HA.out.1;rw[List.take_of_length_le (Nat.le_refl _)] at hp;refine⟨_,rfl,a,hp,HA.out.2,fZ.2 ?_,ff.out⟩;have h1:=eT.out.p1.drop;rw[Fr.out] at h1;exact h1.perm (.cons _ (List.Perm.append_right L (hp.symm.map _)))
end Go.Proofs.YtmgpgbfgemebbaaGreatDoor
namespace Go.Own
open Go.ChangeShapes Go.WideShapes Go.ChangeAt Go.RowKit
theorem oF (n size:Nat)(C:Nat→List Value)(h:∀ i,i<n→(C i).length=size):((List.range n).flatMap C).length=n*size:=by
 induction n with
 | zero=>simp
 | succ n ih =>
  rw[List.range_succ,List.flatMap_append,List.length_append,ih fun i hi=>h i (by omega)];simp[h n (by omega),Nat.succ_mul]
theorem xJ (n size:Nat)(C:Nat→List Value)(h:∀ i,i<n→(C i).length=size)(i:Nat)(hi:i<n) :
  ∃ R,((List.range n).flatMap C).drop (i*size)=C i++R:=by
 induction n with
 | zero=>omega
 | succ n ih =>
  rw[List.range_succ,List.flatMap_append];have hl:=oF n size C fun i hi=>h i (by omega);by_cases hin:i=n
  ·subst hin;refine⟨[],?_⟩;rw[List.drop_append_of_le_length (by rw[hl];exact Nat.le_refl _),List.drop_of_length_le (by rw[hl];exact Nat.le_refl _)];simp
  ·obtain⟨R,hR⟩:=ih (fun i hi=>h i (by omega)) (by omega);refine⟨R ++ [n].flatMap C,?_⟩;rw[List.drop_append_of_le_length (by rw[hl];exact Nat.mul_le_mul_right _ (by omega)),hR,List.append_assoc]
theorem mo (n size:Nat)(C:Nat→List Value)(h:∀ i,i<n→(C i).length=size)(i:Nat)(hi:i<n) :
  (((List.range n).flatMap C).drop (i*size)).take size=C i:=by
 obtain⟨R,hR⟩:=xJ n size C h i hi;rw[hR,←h i hi,List.take_left]
theorem yo (n size:Nat)(C:Nat→List Value)(h:∀ i,i<n→(C i).length=size)(i:Nat)(hi:i<n)(j:Nat)(hj:j<size) :
  (C i)[j]? = ((List.range n).flatMap C)[i*size+j]? := by
 rw[←mo n size C h i hi,List.getElem?_take,if_pos hj,List.getElem?_drop]
theorem mW {w:World} {b:Nat} {a:Addr} {n:Nat} {cs:List Value} (h:w.cells? b a n=some cs):cs.length=n∧∀ j,j<n→w.cell? (a.add j)=cs[j]? := by
 unfold World.cells? at h;split at h
 ·have:∀ (l:List Nat) (cs:List Value),(l.mapM fun i=>w.cell? (a.add i))=some cs→cs.length=l.length∧∀ (j i:Nat),l[j]? = some i→w.cell? (a.add i)=cs[j]? := by
   intro l;induction l with
   | nil=>intro cs h;simp at h;subst h;simp
   | cons x l ih =>
    intro cs h;simp only[List.mapM_cons,Option.pure_def,Option.bind_eq_bind] at h;obtain⟨y,hy,h⟩:=Option.bind_eq_some_iff.1 h;obtain⟨ys,hys,h⟩:=Option.bind_eq_some_iff.1 h;cases h;obtain⟨h1,h2⟩:=ih ys hys;refine⟨by simp[h1],fun j i hj=>?_⟩;cases j with
    | zero=>simp at hj;subst hj;simpa using hy
    | succ j=>simpa using h2 j i (by simpa using hj)
  obtain⟨h1,h2⟩:=this _ _ h;refine⟨by simpa using h1,fun j hj=>h2 j j (by simp[hj])⟩
 ·cases h
section
variable {H:Type} {enc:TypeId×Value→H} {P:Program} {W:World} {base:Nat} {spare:Nat→Bool} {held:Bool}
theorem CM {t e size:Nat}{v:Value}{d:DataW H}{ps:List MemPlace}{r:Reach}{b0:Nat}(ht:P.underlying t=some (.slice e))(hc:P.cellsOf e=size)(hv:Value.okWide P W r b0 t v)
  (h:DataW.Trod enc P W base spare held t v d ps) :
  ∃ (n fuel:Nat) (xs:List Value),Rd W v size n xs∧∀ i,i<n→∃ x,DataW.trod enc P W base spare held fuel e ((xs.drop (i*size)).take size)=some x:=by
 obtain⟨p,len,cap,rfl⟩:=okWide_slice ht hv;obtain⟨fuel,hf⟩:=h;rcases Deep.open_slice ht hf with ⟨hcs,_⟩|⟨a,len',cap',m,n,D,Pl,hcs,hb,hl,hm,hmm,hx,hel⟩
 ·simp[Value.cells] at hcs;obtain⟨rfl,rfl,rfl⟩:=hcs;exact⟨0,0,[],⟨by simp,Nat.zero_le _,none,0,rfl,Nat.le_refl _,fun h=>absurd h (by simp)⟩,fun i hi=>absurd hi (by simp)⟩
 ·simp[Value.cells] at hcs;obtain⟨rfl,rfl,rfl⟩:=hcs;rw[hc] at hel;have hlm:len≤m:=by rw[hmm];split <;> omega
  obtain⟨C,hC⟩:=Deep.choose_lt (α:=List Value) (p:=fun i cs'=>W.cells? base (a.add (i*size)) size=some cs'∧DataW.trod enc P W base spare held n e cs'=some (D i,Pl i)) (fun i hi=>hel i (by omega:i<m));have hlen:∀ i,i<len→(C i).length=size∧∀ j,j<size→W.cell? ((a.add (i*size)).add j)=(C i)[j]? := fun i hi=>mW (hC i (by omega)).1;refine⟨len,n,(List.range len).flatMap C,⟨oF len size C fun i hi=>(hlen i hi).1,by omega,some a,cap,rfl,hl,fun hp=>?_⟩,fun i hi=>⟨(D i,Pl i),?_⟩⟩
  ·exact zaF
  ·rw[mo len size C (fun i hi=>(hlen i hi).1) i hi];exact(hC i (by omega)).2
theorem mf {t fuel:Nat}{cs:List Value}{x:DataW H×List MemPlace}{fs:Array Field}(ht:P.underlying t=some (.struct fs))(h:DataW.trod enc P W base spare held fuel t cs=some x)
  (i:Nat) (f:Field) (hf:fs[i]? = some f):∃ m y,DataW.trod enc P W base spare held m f.type ((cs.drop f.offset).take (P.cellsOf f.type))=some y:=by
 obtain⟨xs,n,-,-,-,hl,hx⟩:=DataW.trod_struct ht h;have hi:i<xs.length:=by rw[hl];exact(Array.getElem?_eq_some_iff.1 hf).1
 exact⟨n,xs[i],by rw[hx i f hf,List.getElem?_eq_getElem hi]⟩
theorem iw {t fuel:Nat}{cs:List Value}{x:DataW H×List MemPlace}{fs:Array Field}{k:IntKind}(ht:P.underlying t=some (.struct fs))(h:DataW.trod enc P W base spare held fuel t cs=some x)
  (i:Nat) (f:Field) (hf:fs[i]? = some f) (hk:P.underlying f.type=some (.int k)) (hc:P.cellsOf f.type=1):∃ n,cs[f.offset]? = some (.int k n)∧(Lit.int k n).wf=true:=by
 obtain⟨m,y,hy⟩:=mf ht h i f hf;rw[hc] at hy;obtain⟨n,hn,-,hw⟩:=DataW.trod_int hk hy;refine⟨n,?_,hw⟩;have:=congrArg (fun l:List Value=>l[0]?) hn;simpa using this
end
section
variable {H:Type} {enc:TypeId×Value→H} {P:Program} {W:World} {base:Nat} {spare:Nat→Bool} {held:Bool}
theorem CZ {t e size fuel:Nat}{cs:List Value}{x:DataW H×List MemPlace}(ht:P.underlying t=some (.slice e))(hc:P.cellsOf e=size)(h:DataW.trod enc P W base spare held fuel t cs=some x) :
  ∃ (v:Value) (n fuel:Nat) (xs:List Value),cs = [v]∧Rd W v size n xs∧∀ i,i<n→∃ x,DataW.trod enc P W base spare held fuel e ((xs.drop (i*size)).take size)=some x:=by
 rcases Deep.open_slice ht h with ⟨hcs,_⟩|⟨a,len,cap,m,n,D,Pl,hcs,hb,hl,hm,hmm,hx,hel⟩
 ·exact⟨.slice none 0 0,0,0,[],hcs,⟨by simp,Nat.zero_le _,none,0,rfl,Nat.le_refl _,fun h=>absurd h (by simp)⟩,fun i hi=>absurd hi (by simp)⟩
 ·rw[hc] at hel;have hlm:len≤m:=by rw[hmm];split <;> omega
  obtain⟨C,hC⟩:=Deep.choose_lt (α:=List Value) (p:=fun i cs'=>W.cells? base (a.add (i*size)) size=some cs'∧DataW.trod enc P W base spare held n e cs'=some (D i,Pl i)) (fun i hi=>hel i (by omega:i<m));have hlen:∀ i,i<len→(C i).length=size∧∀ j,j<size→W.cell? ((a.add (i*size)).add j)=(C i)[j]? := fun i hi=>mW (hC i (by omega)).1;refine⟨.slice (some a) len cap,len,n,(List.range len).flatMap C,hcs,⟨oF len size C fun i hi=>(hlen i hi).1,by omega,some a,cap,rfl,hl,fun hp=>?_⟩,fun i hi=>⟨(D i,Pl i),?_⟩⟩
  ·exact zaF
  ·rw[mo len size C (fun i hi=>(hlen i hi).1) i hi];exact(hC i (by omega)).2
theorem xM {α:Type} (f:α→Value) (l:List Value) (h:∀ i (hi:i<l.length),∃ k,l[i]=f k):∃ zs:List α,l=zs.map f:=by
 induction l with
 | nil=>exact⟨[],rfl⟩
 | cons y l ih =>
  obtain⟨k,hk⟩:=h 0 (by simp);obtain⟨zs,hz⟩:=ih fun i hi=>h (i+1) (by simp;omega);exact⟨k::zs,by simp at hk;simp[hk];exact hz⟩
theorem AF (l:List Value)(i:Nat)(h:i<l.length):(l.drop i).take 1 = [l[i]]:=by
 rw[List.drop_eq_getElem_cons h];rfl
theorem xg {t e fuel:Nat}{k:IntKind}{cs:List Value}{x:DataW H×List MemPlace}(ht:P.underlying t=some (.slice e))(he:P.underlying e=some (.int k))(hc:P.cellsOf e=1)(h:DataW.trod enc P W base spare held fuel t cs=some x) :
  ∃ (v:Value) (xs:List Int),cs = [v]∧Rd W v 1 xs.length (xs.map (Value.int k)):=by
 obtain⟨v,n,fuel,xs,hcs,hr,hx⟩:=CZ ht hc h;have hl:xs.length=n:=by simpa using hr.1
 obtain⟨zs,rfl⟩:=xM (Value.int k) xs fun i hi=>by
  obtain⟨x,hx⟩:=hx i (by omega);rw[Nat.mul_one,AF _ _ hi] at hx;obtain⟨k,hk,-⟩:=DataW.trod_int he hx;exact⟨k,by simpa using hk⟩
 rw[List.length_map] at hl;exact⟨v,zs,hcs,by rw[hl];exact hr⟩
end
end Go.Own
namespace Go.Proofs.YtmgpgbfgemebbaaGreatDoor
open Go.RowKit Go.Own
theorem zQ6 (s:Str):(sB s).size=s.length:=by
 show (sB s).data.size=_;simp[sB]
structure Oq where
 op:Opm
 dv:Value
 data:List Int
def Oq.cells (y:Oq):List Value:=(opC y.op y.dv).toList
def kY (R:List Oq):List Value:=R.flatMap Oq.cells
theorem sG (R:List Oq):(kY R).length=R.length*8:=by
 induction R with
 | nil=>rfl
 | cons x R ih=>simp only[kY,List.flatMap_cons,List.length_append] at *;rw[ih];simp[Oq.cells,opC];omega
theorem oM (R:List Oq)(k:Nat)(hk:k<R.length)(j:Nat)(hj:j<8):(kY R)[k*8+j]? = (R[k].cells)[j]? := by
 induction R generalizing k with
 | nil=>simp at hk
 | cons x R ih =>
  cases k with
  | zero =>
   simp only[kY,List.flatMap_cons,List.getElem_cons_zero,Nat.zero_mul,Nat.zero_add];rw[List.getElem?_append_left (by simp[Oq.cells,opC];omega)]
  | succ k =>
   simp only[kY,List.flatMap_cons,List.getElem_cons_succ];have hl:x.cells.length=8:=rfl;rw[List.getElem?_append_right (by omega),hl,show (k+1)*8+j-8=k*8+j by omega];exact ih k (by simpa using hk)
def BK (o:Opm):Prop := -9223372036854775808≤o.off∧o.off≤9223372036854775807∧o.ag.length≤9223372036854775807∧o.aj.length≤9223372036854775807
def RdOp (w:World)(y:Oq):Prop:=Rd w y.dv 1 y.data.length (bc y.data)∧BK y.op
def RdOps (w:World)(v:Value)(R:List Oq):Prop:=Rd w v 8 R.length (kY R)∧∀ y∈R,RdOp w y
theorem RdOps.form {w:World}{v:Value}{R:List Oq}(h:RdOps w v R):∃ p c,v=.slice p R.length c∧R.length≤c∧R.length≤9223372036854775807:=by
 obtain⟨p,c,h,h1,h2,-⟩:=h.1.form;exact⟨p,c,h,h1,h2⟩
theorem RdOps.at_ {w:World}{v:Value}{R:List Oq}(h:RdOps w v R)(k:Nat)(hk:k<R.length):∃ g o c,v=.slice (some ⟨g,o,none⟩) R.length c∧∀ j,j<8→w.cell? ⟨g,o+(k*8+j),none⟩=(R[k].cells)[j]? := by
 obtain⟨p,c,rfl,-,-,hr⟩:=h.1.form;obtain⟨g,o,rfl,hc⟩:=hr (by omega);exact⟨g,o,c,rfl,fun j hj=>(hc (k*8+j) (by omega)).trans (oM R k hk j hj)⟩
theorem RdOp.start {W w:World}{L:List HP}{y:Oq}(h:RdOp W y)(hO:Has w (old W::L)):RdOp w y:=⟨uM h.1 hO,h.2⟩
theorem RdOps.start {W w:World}{L:List HP}{v:Value}{R:List Oq}(h:RdOps W v R)(hO:Has w (old W::L)):RdOps w v R:=⟨uM h.1 hO,fun y hy=>(h.2 y hy).start hO⟩
section
variable {H:Type} {enc:TypeId×Value→H} {W:World} {base:Nat} {spare:Nat→Bool} {held:Bool}
theorem kt {P:Program}{t fuel:Nat}{cs:List Value}{x:DataW H×List MemPlace}{fs:Array Field}(ht:P.underlying t=some (.struct fs))(h:DataW.trod enc P W base spare held fuel t cs=some x)
  (i:Nat) (f:Field) (hf:fs[i]? = some f) (hk:P.underlying f.type=some .string) (hc:P.cellsOf f.type=1):∃ s:ByteArray,cs[f.offset]? = some (.string s)∧s.size≤maxLen:=by
 obtain⟨m,y,hy⟩:=mf ht h i f hf;rw[hc] at hy;obtain⟨s,hn,-,hl⟩:=DataW.trod_string hk hy;refine⟨s,?_,hl⟩;have:=congrArg (fun l:List Value=>l[0]?) hn;simpa[List.getElem?_take,List.getElem?_drop] using this
theorem pH {P:Program}{t e fuel:Nat}{cs:List Value}{x:DataW H×List MemPlace}{fs:Array Field}(ht:P.underlying t=some (.struct fs))(h:DataW.trod enc P W base spare held fuel t cs=some x)
  (i:Nat) (f:Field) (hf:fs[i]? = some f) (hk:P.underlying f.type=some (.slice e)) (he:P.underlying e=some (.int .u8)) (hc:P.cellsOf f.type=1) (hce:P.cellsOf e=1):∃ (v:Value) (zs:List Int),cs[f.offset]? = some v∧Rd W v 1 zs.length (bc zs):=by
 obtain⟨m,y,hy⟩:=mf ht h i f hf;rw[hc] at hy;obtain⟨v,zs,hn,hr⟩:=xg hk he hce hy;refine⟨v,zs,?_,hr⟩;have:=congrArg (fun l:List Value=>l[0]?) hn;simpa[List.getElem?_take,List.getElem?_drop] using this
theorem Fn {cs:List Value}{fuel:Nat}{x:DataW H×List MemPlace}(hx:DataW.trod enc Tryz.prog W base spare held fuel 33 cs=some x):∃ y:Oq,(∀ j,j<8→cs[j]? = (y.cells)[j]?)∧RdOp W y:=by
 obtain⟨kd,h0,-⟩:=iw Tryz.underlying33 hx 0 _ rfl Tryz.underlying3 (by kernel_rfl);obtain⟨fd,h1,-⟩:=iw Tryz.underlying33 hx 1 _ rfl Tryz.underlying3 (by kernel_rfl);obtain⟨n,h2,-⟩:=iw Tryz.underlying33 hx 2 _ rfl Tryz.underlying3 (by kernel_rfl);obtain⟨off,h3,hw3⟩:=iw Tryz.underlying33 hx 3 _ rfl Tryz.underlying3 (by kernel_rfl);obtain⟨fl,h4,-⟩:=iw Tryz.underlying33 hx 4 _ rfl Tryz.underlying3 (by kernel_rfl);obtain⟨p,h5,hp⟩:=kt Tryz.underlying33 hx 5 _ rfl Tryz.underlying9 (by kernel_rfl);obtain⟨q,h6,hq⟩:=kt Tryz.underlying33 hx 6 _ rfl Tryz.underlying9 (by kernel_rfl);obtain⟨v,zs,h7,hr⟩:=pH Tryz.underlying33 hx 7 _ rfl Tryz.underlying31 Tryz.underlying5 (by kernel_rfl) (by kernel_rfl);refine⟨⟨⟨kd,fd,n,off,fl,p.data.toList,q.data.toList⟩,v,zs⟩,fun j hj=>?_,hr,?_⟩
 ·have e5:sV p.data.toList=.string p:=congrArg Value.string (D0 p);have e6:sV q.data.toList=.string q:=congrArg Value.string (D0 q);unfold Oq.cells opC;dsimp only;rw[e5,e6];rcases j with _|_|_|_|_|_|_|_|j
  ·exact h0
  ·exact h1
  ·exact h2
  ·exact h3
  ·exact h4
  ·exact h5
  ·exact h6
  ·exact h7
  ·omega
 ·simp only[Lit.wf] at hw3;have hp1:p.data.toList.length=p.size:=by simp
  have hq1:q.data.toList.length=q.size:=by simp
  have hm:maxLen≤9223372036854775807:=by decide
  have hmin:IntKind.i64.min = -9223372036854775808:=by decide +kernel
  have hmax:IntKind.i64.max=9223372036854775807:=by decide +kernel
  simp[hmin,hmax] at hw3;refine⟨?_,?_,?_,?_⟩
  ·show _≤off;omega
  ·show off≤_;omega
  ·show p.data.toList.length≤_;omega
  ·show q.data.toList.length≤_;omega
theorem De {a:Value}{n fuel:Nat}{xs:List Value}(ha:Rd W a 8 n xs)
  (he:∀ i,i<n→∃ x,DataW.trod enc Tryz.prog W base spare held fuel 33 ((xs.drop (i*8)).take 8)=some x):∃ R:List Oq,RdOps W a R:=by
 have h1:∀ i,i<n→∃ y:Oq,(∀ j,j<8→xs[i*8+j]? = (y.cells)[j]?)∧RdOp W y:=by
  intro i hi;obtain⟨x,hx⟩:=he i hi;obtain⟨y,hy,hr⟩:=Fn hx;refine⟨y,fun j hj=>?_,hr⟩;rw[←hy j hj,List.getElem?_take,if_pos hj,List.getElem?_drop]
 haveI:Inhabited Oq:=⟨⟨⟨0,0,0,0,0,[],[]⟩,.slice none 0 0,[]⟩⟩
 obtain⟨f,hf⟩:=Deep.choose_lt h1;refine⟨(List.range n).map f,?_,?_⟩
 ·have e:xs=kY ((List.range n).map f):=by
   apply List.ext_getElem?;intro j;by_cases hj:j<n*8
   ·have hq:j / 8<n:=by omega
    have h2:=(hf (j / 8) hq).1 (j % 8) (by omega);have h3:=oM ((List.range n).map f) (j / 8) (by simpa using hq) (j % 8) (by omega);rw[show j / 8*8+j % 8=j by omega] at h2 h3;rw[h2,h3];simp
   ·rw[List.getElem?_eq_none (by have:=ha.1;omega),List.getElem?_eq_none (by rw[sG];simp;omega)]
  have hl:((List.range n).map f).length=n:=by simp
  rw[←e,hl];exact ha
 ·intro x hx;obtain⟨i,hi,rfl⟩:=List.mem_map.1 hx;exact(hf i (by simpa using hi)).2
end
abbrev NE (c n k l:Int)(p:Option Addr)(cp:Nat)(p':Option Addr)(cp':Nat):Value := .agg #[.int .i64 c,.int .i64 n,.int .i64 k,.int .i64 l,.slice p 0 cp,.slice p' 0 cp']
section
variable {S:Tre} {k:Nat} (q:Nat) (mx:Int) (w:World) (L:List HP)
end
abbrev noB:ByteArray:=⟨#[]⟩
section
variable (q:Nat) (mx:Int) (w:World) (L:List HP) (hM:MxL mx L) {p p' nm nm':Str} {P P':ByteArray} (hP:sB p=P) (hP':sB p'=P') (hp:p.length≤100) (hp':p'.length≤100) {d:List Int} {wr:List Bool} {o:Int}
end
end Go.Proofs.YtmgpgbfgemebbaaGreatDoor
