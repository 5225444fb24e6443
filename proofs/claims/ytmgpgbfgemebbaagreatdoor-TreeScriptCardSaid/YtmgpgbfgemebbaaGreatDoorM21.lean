/- TEXTS of mine, merged. -/
import Derived.Test.YtmgpgbfgemebbaaGreatDoorM0
import Derived.Test.YtmgpgbfgemebbaaGreatDoorM20
import Derived.Test.YtmgpgbfgemebbaaGreatDoorM18
import Derived.Test.YtmgpgbfgemebbaaGreatDoorM10
import Derived.Test.YtmgpgbfgemebbaaGreatDoorM15
import Derived.Test.YtmgpgbfgemebbaaGreatDoorM7
set_option linter.all false
set_option maxRecDepth 100000
set_option maxHeartbeats 16000000
namespace Go.Proofs.YtmgpgbfgemebbaaGreatDoor
open Go.RowKit Go.Own
theorem kW {S:Tre}{rk:Int→Nat}{k:Nat}(g:Gd S rk k){p:Str}{fo:Bool}(h:(S.find p fo).2=0){x:Nod}(hx:fnd S.ac (S.find p fo).1.ae=some x):1≤x.ah:=by
 have h1:=(g.find_ok p fo h).1;generalize (S.find p fo).1=s at *;by_cases hd:s.dir=0
 ·have h2:=h1.none hd;rw[fC hx] at h2;obtain⟨y,hy,h3⟩:=h1.ae;rw[hx] at hy;cases hy;rcases h3 h2 with e|e
  ·rw[((g.ax hx).root e).2.2.1];decide
  ·rw[((g.ax hx).above (g.aR hx) e).2.2.1];decide
 ·obtain⟨-,d,hd1,-,hd3⟩:=h1.dir hd;exact(g.named hd1 hd3 hx).2.2.2.1
theorem uq {es:List (Str×Int)}{ns:List (Str×Int)}(hp:es.Perm ns)(hs:es.Pairwise fun a b=>a.1<b.1):gO (ns.map Prod.fst)=es.map Prod.fst:=by
 rw[←l5 (hp.map Prod.fst)];exact(jS _).eq_of_pairwise (fun a b _ _ h1 h2=>by simp only[decide_eq_true_eq] at *;exact List.le_antisymm h1 h2) (kh _) (List.pairwise_map.2 (hs.imp fun h=>by simp only[decide_eq_true_eq];exact List.le_of_lt h))
theorem wn {w:World}{L:List HP}{v:Value}{n:Nat}{xs:List Str}{k:Str}(h:Has w (row v gx 1 n (xs.map sV ++ [sV k])::L))(hn:n=(xs ++ [k]).length):Has w (Strs v (xs ++ [k])::L):=by
 subst hn;unfold Strs;rw[List.map_append];exact h
theorem He (q:Nat)(S:Tre)(rk:Int→Nat)(k:Nat)(o:Opm)(ov:Value)(w:World)(L:List HP)(hk:k≤900)(hG:Gd S rk k)(hkd:o.aa=16)(hp:o.ag.length≤100000)(hO:Has w (Rts q S::L)) :
  zCl 74 #[.pointer (some ⟨q,0,none⟩),opV o ov] w fun e w'=>∃ dv nv,e=.returned (fL (S.stat o.ag true) dv nv)∧Has w' (Bytes dv (S.stat o.ag true).data::Strs nv (S.stat o.ag true).ab::Rts q S::L)∧Keep w w':=by
 obtain⟨g,c,R,hS,hO2⟩:=fh.1 hO;have HG:=hid hG;have HS:=hid hS;have HO:=hid hO2;have HT:=hid hG.tab16;have hrl:(R.length:Int)≤1000000:=by have:=hS.aA hG;omega
 have ll:=hid (by have:=hS.aA hG;omega:R.length≤100000);clear hO hO2 hG hS;have m0:=hid (fun(w:World)(L':List HP)(hO:Has w (Rtb q g c R S.ak::L'))=>nM q g c R S rk k o.ag false w L' (by omega) HG.out HS.out hp hO);rw[show (!false)=true from rfl] at m0;have oy:=hid (fun h=>gh HG.out.wk o.ag true h);have tP:=hid (fun h x hx=>kW HG.out (p:=o.ag) (fo:=true) h (x:=x) hx);have jj:=hid (by rfl:S.stat o.ag true=(if (S.find o.ag true).2≠0 then eQ (S.find o.ag true).2 else⟨0,(S.at_ (S.find o.ag true).1.ae).data.length+(S.at_ (S.find o.ag true).1.ae).ab.length,(S.at_ (S.find o.ag true).1.ae).aa,(S.at_ (S.find o.ag true).1.ae).ah,[],[]⟩));generalize S.stat o.ag true=RR at *;generalize S.find o.ag true=F at *;obtain⟨⟨pn,sd,pnm⟩,pe⟩:=F;dsimp only at m0 oy tP jj;clear hp;have ks:=kbF hkd 14;have lJ:=kbF hkd 17;exact zab
theorem Ec (q:Nat)(S:Tre)(rk:Int→Nat)(k:Nat)(o:Opm)(ov:Value)(w:World)(L:List HP)(hk:k≤900)(hG:Gd S rk k)(hkd:o.aa=17)(hp:o.ag.length≤100000)(hO:Has w (Rts q S::L)) :
  zCl 74 #[.pointer (some ⟨q,0,none⟩),opV o ov] w fun e w'=>∃ dv nv,e=.returned (fL (S.stat o.ag false) dv nv)∧Has w' (Bytes dv (S.stat o.ag false).data::Strs nv (S.stat o.ag false).ab::Rts q S::L)∧Keep w w':=by
 obtain⟨g,c,R,hS,hO2⟩:=fh.1 hO;have HG:=hid hG;have HS:=hid hS;have HO:=hid hO2;have HT:=hid hG.tab16;have hrl:(R.length:Int)≤1000000:=by have:=hS.aA hG;omega
 have ll:=hid (by have:=hS.aA hG;omega:R.length≤100000);clear hO hO2 hG hS;have m0:=hid (fun(w:World)(L':List HP)(hO:Has w (Rtb q g c R S.ak::L'))=>nM q g c R S rk k o.ag true w L' (by omega) HG.out HS.out hp hO);rw[show (!true)=false from rfl] at m0;have oy:=hid (fun h=>gh HG.out.wk o.ag false h);have tP:=hid (fun h x hx=>kW HG.out (p:=o.ag) (fo:=false) h (x:=x) hx);have jj:=hid (by rfl:S.stat o.ag false=(if (S.find o.ag false).2≠0 then eQ (S.find o.ag false).2 else⟨0,(S.at_ (S.find o.ag false).1.ae).data.length+(S.at_ (S.find o.ag false).1.ae).ab.length,(S.at_ (S.find o.ag false).1.ae).aa,(S.at_ (S.find o.ag false).1.ae).ah,[],[]⟩));generalize S.stat o.ag false=RR at *;generalize S.find o.ag false=F at *;obtain⟨⟨pn,sd,pnm⟩,pe⟩:=F;dsimp only at m0 oy tP jj;clear hp;have ks:=kbF hkd 14;have lJ:=kbT hkd 17;exact zab
theorem zN (q:Nat)(S:Tre)(rk:Int→Nat)(k:Nat)(o:Opm)(ov:Value)(w:World)(L:List HP)(hk:k≤900)(hG:Gd S rk k)(hkd:o.aa=18)(hp:o.ag.length≤100000)(hO:Has w (Rts q S::L)) :
  zCl 74 #[.pointer (some ⟨q,0,none⟩),opV o ov] w fun e w'=>∃ dv nv,e=.returned (fL (S.list 18 o.ag) dv nv)∧Has w' (Bytes dv (S.list 18 o.ag).data::Strs nv (S.list 18 o.ag).ab::Rts q S::L)∧Keep w w':=by
 obtain⟨g,c,R,hS,hO2⟩:=fh.1 hO;have HG:=hid hG;have HS:=hid hS;have HO:=hid hO2;have HT:=hid hG.tab16;have hrl:(R.length:Int)≤1000000:=by have:=hS.aA hG;omega
 have ll:=hid (by have:=hS.aA hG;omega:R.length≤100000);clear hO hO2 hG hS;have m0:=hid (fun(w:World)(L':List HP)(hO:Has w (Rtb q g c R S.ak::L'))=>nM q g c R S rk k o.ag false w L' (by omega) HG.out HS.out hp hO);rw[show (!false)=true from rfl] at m0;have oy:=hid (fun h=>gh HG.out.wk o.ag true h);have tP:=hid (fun h x hx=>kW HG.out (p:=o.ag) (fo:=true) h (x:=x) hx);have jj:=hid (by unfold Tre.list;simp:S.list 18 o.ag=(if (S.find o.ag true).2≠0 then eQ (S.find o.ag true).2 else if (S.at_ (S.find o.ag true).1.ae).aa≠2 then eQ 7 else⟨0,0,0,0,[],gO ((S.at_ (S.find o.ag true).1.ae).ab.map Prod.fst)⟩));generalize S.list 18 o.ag=RR at *;generalize S.find o.ag true=F at *;obtain⟨⟨pn,sd,pnm⟩,pe⟩:=F;dsimp only at m0 oy tP jj;clear hp;have ks:=kbF hkd 14;have lJ:=kbF hkd 17;have mQ:=kbT hkd 18;clear hkd;unfold opV opC;go_enter Tryz.func74,Tryz.ntmps74
 go_upto_region 1 with fail
 obtain⟨w1,g3,g4,ew,e4,e3,eT,ff⟩:=f9 HO.out o ov;rw[ew,e4,e3];clear HO ew e4 e3;have hp0:=eT.out.p1.e0;have iK:=eT.out.p1.e5;go_wp2_with fail
 refine st (m0.out w1 _ (eT.out.re 3 [2,0,1])) (ff.out) fun w2 eZ fu=>?_;try dsimp only
 unfold rsV rsC;go_upto_region 2 with fail
 have eW:=hid (show Has (w2.alloc (.cells #[.int .i64 sd,sV pnm,.int .i64 pn] 72)) (pt w2.heap.size (.cells #[.int .i64 sd,sV pnm,.int .i64 pn] 72)::pt g4 zA::pt g3 (.cells #[.int .i64 o.aa,.int .i64 o.fd,.int .i64 o.n,.int .i64 o.off,.int .i64 o.af,sV o.ag,sV o.aj,ov] 33)::Rtb q g c R S.ak::L) from(show Has (w2.alloc (.cells #[.int .i64 sd,sV pnm,.int .i64 pn] 72)) (pt w2.heap.size (.cells #[.int .i64 sd,sV pnm,.int .i64 pn] 72)::Rtb q g c R S.ak::pt g4 zA::pt g3 (.cells #[.int .i64 o.aa,.int .i64 o.fd,.int .i64 o.n,.int .i64 o.off,.int .i64 o.af,sV o.ag,sV o.aj,ov] 33)::L) from eZ.out.alloc _).re 4 [0,2,3,1]);have fH:=hid (fu.out.alloc (.cells #[.int .i64 sd,sV pnm,.int .i64 pn] 72));clear eT ff eZ fu;generalize w2.alloc (.cells #[.int .i64 sd,sV pnm,.int .i64 pn] 72)=w3 at *;generalize w2.heap.size=g5 at *;by_cases he:pe≠0
 ·have HR:=hid (by rw[jj.out,if_pos he]:RR=eQ pe)
  as_aux_lemma=>exact zaD
 have he:pe=0:=Classical.byContradiction he;subst he;have heb:((0:Int) != 0)=false:=rfl;obtain⟨x,hx⟩:=oy.out (by trivial);have hlk:=tP.out (by trivial) x hx;obtain⟨n,r,hnn,hrn,hsn⟩:=HS.out.ae _ _ hx;subst hnn;have HX:=hid hx;have o7:=hid hlk;have jl:=hid hrn;have io:=hid hsn;have qi:=hid (jj.out.trans (if_neg (by simp)));rw[fC hx] at qi;have hni:(n:Int)<(R.length:Int):=by have:=(List.getElem?_eq_some_iff.1 hrn).1;omega
 have hn0:(0:Int)≤(n:Int):=by omega
 have FE:=hid (by have:=hsn.few HG.out hx;omega:r.ai.length≤900);clear hx hlk hrn hsn oy tP m0 jj;obtain⟨pe,ce,hev,-⟩:=(Rtb.aO eW.out.p3 jl.out).1.form;obtain⟨pd,cd,hdv,hcap,-⟩:=(Rtb.aO eW.out.p3 jl.out).2.1.form;obtain⟨pw,cw,oe,-⟩:=(Rtb.aO eW.out.p3 jl.out).2.2.form;rw[io.out.data] at hdv hcap;have qz:=hid (show x.data.length≤100000 from(HG.out.ax HX.out).size.1);have hdi:(x.data.length:Int)≤100000:=by have:=qz.out;omega
 have hci:(x.data.length:Int)≤(cd:Int):=by omega
 have HCAP:=hid hcap;have BL:=hid (show pd=none→cd=0 from fun e=>Rtb.bu eW.out.p3 jl.out (by rw[hdv,e]));have pW:=hid (fun(w:World)(L':List HP)(h:Has w (Rtb q g c R S.ak::L'))=>(show w.cell? ⟨q,0,none⟩=some (.slice (some ⟨g,0,none⟩) R.length c)∧w.cell? ⟨g,n*7,none⟩=some (.int .i64 x.aa)∧w.cell? ⟨g,n*7+1,none⟩=some (.int .i64 r.ab)∧w.cell? ⟨g,n*7+2,none⟩=some (.int .i64 r.am)∧w.cell? ⟨g,n*7+3,none⟩=some (.int .i64 r.aq)∧w.cell? ⟨g,n*7+4,none⟩=some (.slice pe r.ai.length ce)∧w.cell? ⟨g,n*7+5,none⟩=some (.slice pd x.data.length cd)∧w.cell? ⟨g,n*7+6,none⟩=some (.slice pw r.there.length cw) from by
  have h1:=Rtb.at_ h jl.out;rw[hev,hdv,oe,io.out.aa] at h1;exact⟨Rtb.nv h,h1⟩))
 have ir:=hid (fun(w:World)(L':List HP)(h:Has w (Rtb q g c R S.ak::L'))=>(by have:=(Rtb.aO h jl.out).2.1;rw[hdv,io.out.data] at this;exact this:Rd w (.slice pd x.data.length cd) 1 x.data.length (bc x.data)));clear hev hdv oe hcap;go_upto_region 4 with fail
 have fi:=hid eW.out.drew;have ge:=hid fH.out.drew;refine eP (fun w'=>w'.cell? ⟨g5,2,none⟩=some (.int .i64 (n:Int))∧w'.cell? ⟨q,0,none⟩=some (.slice (some ⟨g,0,none⟩) R.length c)∧w'.cell? ⟨g,n*7,none⟩=some (.int .i64 x.aa)∧w'.cell? ⟨g,n*7+1,none⟩=some (.int .i64 r.ab)∧w'.cell? ⟨g,n*7+2,none⟩=some (.int .i64 r.am)∧w'.cell? ⟨g,n*7+3,none⟩=some (.int .i64 r.aq)∧w'.cell? ⟨g,n*7+4,none⟩=some (.slice pe r.ai.length ce)∧w'.cell? ⟨g,n*7+5,none⟩=some (.slice pd x.data.length cd)∧w'.cell? ⟨g,n*7+6,none⟩=some (.slice pw r.there.length cw)) (by kernel_rfl) (by kernel_rfl) ⟨fi.out.cells 2,pW.out _ _ fi.out.p3⟩ ?_;clear eW fH;generalize w3.drew=w5 at *;repeat (first|refine wr9 ?_|refine wk ?_)
 refine wa fun K hK=>?_;go_simp
 have fa:=hid (fi.out.alloc (.cells #[.int .i64 0,.int .i64 0,.int .i64 0,.int .i64 0,.slice none 0 0,.slice none 0 0,.slice none 0 0] 90));have jk:=hid (ge.out.alloc (.cells #[.int .i64 0,.int .i64 0,.int .i64 0,.int .i64 0,.slice none 0 0,.slice none 0 0,.slice none 0 0] 90));refine hK.out _ _ ⟨fa.out.p1.cells 2,pW.out _ _ fa.out.p4⟩ ?_;clear hK K fi ge;try simp only[Act.put,zpu]
 generalize w5.heap.size=g6 at *;generalize w5.alloc (.cells #[.int .i64 0,.int .i64 0,.int .i64 0,.int .i64 0,.slice none 0 0,.slice none 0 0,.slice none 0 0] 90)=wZ9 at *;repeat (first|refine wr9 ?_|refine wk ?_)
 have ha0:=fa.out.e0;have hb0:=fa.out.thaw 0;have ha1:=fa.out.e1;have hb1:=fa.out.thaw 1;have ha2:=fa.out.e2;have hb2:=fa.out.thaw 2;have mh:=fa.out.e3;have hb3:=fa.out.thaw 3;have s7:=fa.out.e4;have hb4:=fa.out.thaw 4;have wS:=fa.out.e5;have hb5:=fa.out.thaw 5;have ha6:=fa.out.e6;have hb6:=fa.out.thaw 6;refine wa fun K hK=>?_;go_simp
 have fq:=hid (fa.out.ch (.int .i64 x.aa) (.int .i64 r.ab) (.int .i64 r.am) (.int .i64 r.aq) (.slice pe r.ai.length ce) (.slice pd x.data.length cd) (.slice pw r.there.length cw));have gu:=hid (jk.out.ch g6 (.int .i64 x.aa) (.int .i64 r.ab) (.int .i64 r.am) (.int .i64 r.aq) (.slice pe r.ai.length ce) (.slice pd x.data.length cd) (.slice pw r.there.length cw));refine hK.out _ _ ⟨fq.out.p1.cells 2,pW.out _ _ fq.out.p4⟩ ?_;clear hK K fa jk ha0 ha1 ha2 mh s7 wS ha6 hb0 hb1 hb2 hb3 hb4 hb5 hb6;try simp only[Act.put,zpu]
 generalize (((((((wZ9.setCell ⟨g6,0,none⟩ (.int .i64 x.aa)).setCell ⟨g6,1,none⟩ (.int .i64 r.ab)).setCell ⟨g6,2,none⟩ (.int .i64 r.am)).setCell ⟨g6,3,none⟩ (.int .i64 r.aq)).setCell ⟨g6,4,none⟩ (.slice pe r.ai.length ce)).setCell ⟨g6,5,none⟩ (.slice pd x.data.length cd)).setCell ⟨g6,6,none⟩ (.slice pw r.there.length cw))=w6 at *;repeat (first|refine wr9 ?_|refine wk ?_)
 refine eR ?_;have hk0:=fq.out.p3.e0;have hx0:=fq.out.e0;have hx1:=fq.out.e1;have hx4:=fq.out.e4;have hx5:=fq.out.e5;by_cases hk2:x.aa=2
 ·have hkb2:(x.aa != 2)=false:=by simpa using hk2
  have HR:=hid (show RR=⟨0,0,0,0,[],r.ai.map Prod.fst⟩ from(qi.out.trans (if_neg (fun h=>h hk2))).trans (by rw[uq io.out.ai io.out.sorted]));clear hk2;have hle:(r.ai.length:Int)≤900:=by have:=FE.out;omega
  have JK:=hid (show r.ev=.slice pe r.ai.length ce from by
   obtain⟨p',c',e',-⟩:=(Rtb.aO fq.out.p4 jl.out).1.form;have h1:=(pW.out _ _ (fq.out.re 5 [4])).2.2.2.2.2.1;have h2:=(Rtb.at_ (fq.out.re 5 [4]) jl.out).2.2.2.2.1;rw[h2] at h1;exact Option.some.inj h1)
  have vz:=hid (fun(w:World)(L':List HP)(h:Has w (Rtb q g c R S.ak::L'))=>(show (0<r.ai.length→∃ a o,pe=some ⟨a,o,none⟩∧∀ i (hi:i<r.ai.length),w.cell? ⟨a,o+i*2,none⟩=some (sV r.ai[i].1)∧w.cell? ⟨a,o+i*2+1,none⟩=some (.int .i64 r.ai[i].2)) from by
   obtain⟨pv',cp',he',-,h1⟩:=iC (Rtb.aO h jl.out).1;rw[JK.out] at he';cases he';exact h1))
  go_wp2_with fail
  go_loopw [8,9] (fun u v w'=>∃ (j:Nat) (p:Option Addr) (m:Nat) (w0:World),w0=w'∧j≤r.ai.length∧u=.slice p j m∧v=.int .i64 j∧Hid (Has w0 (Strs (.slice p j m) ((r.ai.map Prod.fst).take j)::pt g6 (.cells #[.int .i64 x.aa,.int .i64 r.ab,.int .i64 r.am,.int .i64 r.aq,.slice pe r.ai.length ce,.slice pd x.data.length cd,.slice pw r.there.length cw] 90)::pt g5 (.cells #[.int .i64 sd,sV pnm,.int .i64 (n:Int)] 72)::pt g4 zA::pt g3 (.cells #[.int .i64 o.aa,.int .i64 o.fd,.int .i64 o.n,.int .i64 o.off,.int .i64 o.af,sV o.ag,sV o.aj,ov] 33)::Rtb q g c R S.ak::L))∧Hid (Keep w w0)) (fun _ v _=>r.ai.length-(intOf v).toNat)
  case atStart=>exact⟨0,none,0,w6,by trivial,by omega,rfl,rfl,hid (fq.out.al gx 1),gu⟩
  case round =>
   obtain⟨j,p,m,w0,rfl,hj,rfl,rfl,ID,NS⟩:=hrel;have hx4:=ID.out.p1.e4;by_cases hlt:j<r.ai.length
   ·have hji:(j:Int)<(r.ai.length:Int):=by omega
    have hj0:(0:Int)≤(j:Int):=by omega
    obtain⟨a,o',rfl,hce⟩:=vz.out _ _ (ID.out.re 6 [5]) (by omega);obtain⟨c0,-⟩:=hce j hlt;have jU:=hid (show (r.ai.map Prod.fst).take (j+1)=(r.ai.map Prod.fst).take j ++ [r.ai[j].1] from by
     rw[List.take_succ_eq_append_getElem (by rw[List.length_map];exact hlt),List.getElem_map])
    have Ad:=hid (by rw[List.length_take,List.length_map];omega:((r.ai.map Prod.fst).take j).length=j);generalize r.ai[j].1=nm at *;have gW:=hid hlt;clear hce hlt hj;go_wp2_with (at_builtin;refine fS rfl _ _ 36 rfl Tryz.underlying36 iD rfl (sV nm) (ID.out.alloc' (.cells #[sV nm] gx)) rfl 1 _ rfl (by simp) rfl (eU (by have h1:=gW.out;have h2:=FE.out;have h3:=Ad.out;omega)) (by have h1:=gW.out;have h2:=FE.out;have h3:=Ad.out;omega) ?_;intro v' w9 kC hK')
    have hO2:=wn kC (by rw[List.length_append];rfl);rw[←jU.out] at hO2;obtain⟨p9,c9,yf,-⟩:=(Strs.rd hO2).form;have Cd:((r.ai.map Prod.fst).take (j+1)).length=j+1:=by rw[List.length_take,List.length_map];have:=gW.out;omega
    rw[Cd] at yf;subst yf;have fJ:=hid hO2;have gQ:=hid ((NS.out.alloc _).trans hK');clear kC hK' hO2 Cd;go_wp2_with fail
    exact⟨⟨j+1,p9,c9,w9,by trivial,by have:=gW.out;omega,rfl,by go_num,fJ,gQ⟩,by have:=gW.out;simp[intOf];omega⟩
   ·obtain rfl:j=r.ai.length:=by omega
    have hki:¬ (r.ai.length:Int)<(r.ai.length:Int):=by omega
    have J0:=hid (show (r.ai.map Prod.fst).take r.ai.length=r.ai.map Prod.fst from List.take_of_length_le (by rw[List.length_map];omega));rw[J0.out] at ID;clear hlt hj;have fJ:=hid ID.out.vs;obtain⟨hz0,hz1,hz2,hz3,gP,gH,hy0,hy1,hy2,hy3,hy4,gG⟩:=Has.az (fJ.out);go_wp2_with fail
    have h1:=(fJ.out).ans ((⟨0,0,0,0,[],r.ai.map Prod.fst⟩:Ans)) (eS) ((.slice p r.ai.length m));refine bodyPost_ret (eV rfl rfl h1) rfl ?_;rw[HR.out];exact⟨eS,.slice p r.ai.length m,rfl,((fh.2 ⟨g,c,R,HS.out,h1.drop.p1⟩:Has _ (Rts q S::_)).al 5 1).re 3 [0,2,1],NS.out.ans _ _ _ _ _ _ _⟩
 ·have hkb2:(x.aa != 2)=true:=by simpa using hk2
  have HR:=hid (qi.out.trans (if_pos hk2));clear hk2;go_wp2_with fail
  have HC:=hid (gk (7:Int) w6 (pt g4 zA::Rtb q g c R S.ak::L) (fq.out.re 5 [2,4]));have kz:=gu;exact lv
theorem wF (q:Nat)(S:Tre)(rk:Int→Nat)(k:Nat)(o:Opm)(ov:Value)(w:World)(L:List HP)(hk:k≤900)(hG:Gd S rk k)(hkd:o.aa=14)(hp:o.ag.length≤100000)(hO:Has w (Rts q S::L)) :
  zCl 74 #[.pointer (some ⟨q,0,none⟩),opV o ov] w fun e w'=>∃ dv nv,e=.returned (fL (S.list 14 o.ag) dv nv)∧Has w' (Bytes dv (S.list 14 o.ag).data::Strs nv (S.list 14 o.ag).ab::Rts q S::L)∧Keep w w':=by
 obtain⟨g,c,R,hS,hO2⟩:=fh.1 hO;have HG:=hid hG;have HS:=hid hS;have HO:=hid hO2;have HT:=hid hG.tab16;have hrl:(R.length:Int)≤1000000:=by have:=hS.aA hG;omega
 have ll:=hid (by have:=hS.aA hG;omega:R.length≤100000);clear hO hO2 hG hS;have m0:=hid (fun(w:World)(L':List HP)(hO:Has w (Rtb q g c R S.ak::L'))=>nM q g c R S rk k o.ag true w L' (by omega) HG.out HS.out hp hO);rw[show (!true)=false from rfl] at m0;have oy:=hid (fun h=>gh HG.out.wk o.ag false h);have tP:=hid (fun h x hx=>kW HG.out (p:=o.ag) (fo:=false) h (x:=x) hx);have jj:=hid (by unfold Tre.list;simp:S.list 14 o.ag=(if (S.find o.ag false).2≠0 then eQ (S.find o.ag false).2 else if (S.at_ (S.find o.ag false).1.ae).aa≠3 then eQ 2 else⟨0,0,0,0,(S.at_ (S.find o.ag false).1.ae).data,[]⟩));generalize S.list 14 o.ag=RR at *;generalize S.find o.ag false=F at *;obtain⟨⟨pn,sd,pnm⟩,pe⟩:=F;dsimp only at m0 oy tP jj;clear hp;have ks:=kbT hkd 14;have lJ:=kbF hkd 17;have mQ:=kbF hkd 18;clear hkd;unfold opV opC;go_enter Tryz.func74,Tryz.ntmps74
 go_upto_region 1 with fail
 obtain⟨w1,g3,g4,ew,e4,e3,eT,ff⟩:=f9 HO.out o ov;rw[ew,e4,e3];clear HO ew e4 e3;have hp0:=eT.out.p1.e0;have iK:=eT.out.p1.e5;go_wp2_with fail
 refine st (m0.out w1 _ (eT.out.re 3 [2,0,1])) (ff.out) fun w2 eZ fu=>?_;try dsimp only
 unfold rsV rsC;go_upto_region 2 with fail
 have eW:=hid (show Has (w2.alloc (.cells #[.int .i64 sd,sV pnm,.int .i64 pn] 72)) (pt w2.heap.size (.cells #[.int .i64 sd,sV pnm,.int .i64 pn] 72)::pt g4 zA::pt g3 (.cells #[.int .i64 o.aa,.int .i64 o.fd,.int .i64 o.n,.int .i64 o.off,.int .i64 o.af,sV o.ag,sV o.aj,ov] 33)::Rtb q g c R S.ak::L) from(show Has (w2.alloc (.cells #[.int .i64 sd,sV pnm,.int .i64 pn] 72)) (pt w2.heap.size (.cells #[.int .i64 sd,sV pnm,.int .i64 pn] 72)::Rtb q g c R S.ak::pt g4 zA::pt g3 (.cells #[.int .i64 o.aa,.int .i64 o.fd,.int .i64 o.n,.int .i64 o.off,.int .i64 o.af,sV o.ag,sV o.aj,ov] 33)::L) from eZ.out.alloc _).re 4 [0,2,3,1]);have fH:=hid (fu.out.alloc (.cells #[.int .i64 sd,sV pnm,.int .i64 pn] 72));clear eT ff eZ fu;generalize w2.alloc (.cells #[.int .i64 sd,sV pnm,.int .i64 pn] 72)=w3 at *;generalize w2.heap.size=g5 at *;by_cases he:pe≠0
 ·have HR:=hid (by rw[jj.out,if_pos he]:RR=eQ pe)
  as_aux_lemma=>exact zaD
 have he:pe=0:=Classical.byContradiction he;subst he;have heb:((0:Int) != 0)=false:=rfl;obtain⟨x,hx⟩:=oy.out (by trivial);have hlk:=tP.out (by trivial) x hx;obtain⟨n,r,hnn,hrn,hsn⟩:=HS.out.ae _ _ hx;subst hnn;have HX:=hid hx;have o7:=hid hlk;have jl:=hid hrn;have io:=hid hsn;have qi:=hid (jj.out.trans (if_neg (by simp)));rw[fC hx] at qi;have hni:(n:Int)<(R.length:Int):=by have:=(List.getElem?_eq_some_iff.1 hrn).1;omega
 have hn0:(0:Int)≤(n:Int):=by omega
 have FE:=hid (by have:=hsn.few HG.out hx;omega:r.ai.length≤900);clear hx hlk hrn hsn oy tP m0 jj;obtain⟨pe,ce,hev,-⟩:=(Rtb.aO eW.out.p3 jl.out).1.form;obtain⟨pd,cd,hdv,hcap,-⟩:=(Rtb.aO eW.out.p3 jl.out).2.1.form;obtain⟨pw,cw,oe,-⟩:=(Rtb.aO eW.out.p3 jl.out).2.2.form;rw[io.out.data] at hdv hcap;have qz:=hid (show x.data.length≤100000 from(HG.out.ax HX.out).size.1);have hdi:(x.data.length:Int)≤100000:=by have:=qz.out;omega
 have hci:(x.data.length:Int)≤(cd:Int):=by omega
 have HCAP:=hid hcap;have BL:=hid (show pd=none→cd=0 from fun e=>Rtb.bu eW.out.p3 jl.out (by rw[hdv,e]));have pW:=hid (fun(w:World)(L':List HP)(h:Has w (Rtb q g c R S.ak::L'))=>(show w.cell? ⟨q,0,none⟩=some (.slice (some ⟨g,0,none⟩) R.length c)∧w.cell? ⟨g,n*7,none⟩=some (.int .i64 x.aa)∧w.cell? ⟨g,n*7+1,none⟩=some (.int .i64 r.ab)∧w.cell? ⟨g,n*7+2,none⟩=some (.int .i64 r.am)∧w.cell? ⟨g,n*7+3,none⟩=some (.int .i64 r.aq)∧w.cell? ⟨g,n*7+4,none⟩=some (.slice pe r.ai.length ce)∧w.cell? ⟨g,n*7+5,none⟩=some (.slice pd x.data.length cd)∧w.cell? ⟨g,n*7+6,none⟩=some (.slice pw r.there.length cw) from by
  have h1:=Rtb.at_ h jl.out;rw[hev,hdv,oe,io.out.aa] at h1;exact⟨Rtb.nv h,h1⟩))
 have ir:=hid (fun(w:World)(L':List HP)(h:Has w (Rtb q g c R S.ak::L'))=>(by have:=(Rtb.aO h jl.out).2.1;rw[hdv,io.out.data] at this;exact this:Rd w (.slice pd x.data.length cd) 1 x.data.length (bc x.data)));clear hev hdv oe hcap;go_upto_region 4 with fail
 have fi:=hid eW.out.drew;have ge:=hid fH.out.drew;refine eP (fun w'=>w'.cell? ⟨g5,2,none⟩=some (.int .i64 (n:Int))∧w'.cell? ⟨q,0,none⟩=some (.slice (some ⟨g,0,none⟩) R.length c)∧w'.cell? ⟨g,n*7,none⟩=some (.int .i64 x.aa)∧w'.cell? ⟨g,n*7+1,none⟩=some (.int .i64 r.ab)∧w'.cell? ⟨g,n*7+2,none⟩=some (.int .i64 r.am)∧w'.cell? ⟨g,n*7+3,none⟩=some (.int .i64 r.aq)∧w'.cell? ⟨g,n*7+4,none⟩=some (.slice pe r.ai.length ce)∧w'.cell? ⟨g,n*7+5,none⟩=some (.slice pd x.data.length cd)∧w'.cell? ⟨g,n*7+6,none⟩=some (.slice pw r.there.length cw)) (by kernel_rfl) (by kernel_rfl) ⟨fi.out.cells 2,pW.out _ _ fi.out.p3⟩ ?_;clear eW fH;generalize w3.drew=w5 at *;repeat (first|refine wr9 ?_|refine wk ?_)
 refine wa fun K hK=>?_;go_simp
 have fa:=hid (fi.out.alloc (.cells #[.int .i64 0,.int .i64 0,.int .i64 0,.int .i64 0,.slice none 0 0,.slice none 0 0,.slice none 0 0] 90));have jk:=hid (ge.out.alloc (.cells #[.int .i64 0,.int .i64 0,.int .i64 0,.int .i64 0,.slice none 0 0,.slice none 0 0,.slice none 0 0] 90));refine hK.out _ _ ⟨fa.out.p1.cells 2,pW.out _ _ fa.out.p4⟩ ?_;clear hK K fi ge;try simp only[Act.put,zpu]
 generalize w5.heap.size=g6 at *;generalize w5.alloc (.cells #[.int .i64 0,.int .i64 0,.int .i64 0,.int .i64 0,.slice none 0 0,.slice none 0 0,.slice none 0 0] 90)=wZ9 at *;repeat (first|refine wr9 ?_|refine wk ?_)
 have ha0:=fa.out.e0;have hb0:=fa.out.thaw 0;have ha1:=fa.out.e1;have hb1:=fa.out.thaw 1;have ha2:=fa.out.e2;have hb2:=fa.out.thaw 2;have mh:=fa.out.e3;have hb3:=fa.out.thaw 3;have s7:=fa.out.e4;have hb4:=fa.out.thaw 4;have wS:=fa.out.e5;have hb5:=fa.out.thaw 5;have ha6:=fa.out.e6;have hb6:=fa.out.thaw 6;refine wa fun K hK=>?_;go_simp
 have fq:=hid (fa.out.ch (.int .i64 x.aa) (.int .i64 r.ab) (.int .i64 r.am) (.int .i64 r.aq) (.slice pe r.ai.length ce) (.slice pd x.data.length cd) (.slice pw r.there.length cw));have gu:=hid (jk.out.ch g6 (.int .i64 x.aa) (.int .i64 r.ab) (.int .i64 r.am) (.int .i64 r.aq) (.slice pe r.ai.length ce) (.slice pd x.data.length cd) (.slice pw r.there.length cw));refine hK.out _ _ ⟨fq.out.p1.cells 2,pW.out _ _ fq.out.p4⟩ ?_;clear hK K fa jk ha0 ha1 ha2 mh s7 wS ha6 hb0 hb1 hb2 hb3 hb4 hb5 hb6;try simp only[Act.put,zpu]
 generalize (((((((wZ9.setCell ⟨g6,0,none⟩ (.int .i64 x.aa)).setCell ⟨g6,1,none⟩ (.int .i64 r.ab)).setCell ⟨g6,2,none⟩ (.int .i64 r.am)).setCell ⟨g6,3,none⟩ (.int .i64 r.aq)).setCell ⟨g6,4,none⟩ (.slice pe r.ai.length ce)).setCell ⟨g6,5,none⟩ (.slice pd x.data.length cd)).setCell ⟨g6,6,none⟩ (.slice pw r.there.length cw))=w6 at *;repeat (first|refine wr9 ?_|refine wk ?_)
 refine eR ?_;have hk0:=fq.out.p3.e0;have hx0:=fq.out.e0;have hx1:=fq.out.e1;have hx4:=fq.out.e4;have hx5:=fq.out.e5;by_cases hk3:x.aa=3
 ·have jL:(x.aa != 3)=false:=by simpa using hk3
  have HR:=hid (show RR=⟨0,0,0,0,x.data,[]⟩ from qi.out.trans (if_neg (fun h=>h hk3)));clear hk3;have AO:=hid (ir.out w6 _ (fq.out.re 5 [4,0,1,2,3]));go_wp2_with (at_builtin;refine fY rfl _ _ _ rfl Tryz.underlying31 ju rfl (by decide) (fq.out.al 5 1) rfl _ x.data.length _ rfl AO.out (kA _) (eU (by have:=qz.out;omega)) (by have:=qz.out;omega) ?_;intro v9 w9 h9 k9;have hB:Has w9 (Bytes v9 x.data::pt g6 (.cells #[.int .i64 x.aa,.int .i64 r.ab,.int .i64 r.am,.int .i64 r.aq,.slice pe r.ai.length ce,.slice pd x.data.length cd,.slice pw r.there.length cw] 90)::pt g5 (.cells #[.int .i64 sd,sV pnm,.int .i64 (n:Int)] 72)::pt g4 zA::pt g3 (.cells #[.int .i64 o.aa,.int .i64 o.fd,.int .i64 o.n,.int .i64 o.off,.int .i64 o.af,sV o.ag,sV o.aj,ov] 33)::Rtb q g c R S.ak::L):=(by unfold Bytes;rw[Nat.zero_add,List.nil_append] at h9;exact h9);obtain⟨p9,c9,yf,-⟩:=(Bytes.rd hB).form;subst yf;have fJ:=hid (show Has w9 (pt g4 zA::Bytes (.slice p9 x.data.length c9) x.data::Rtb q g c R S.ak::L) from hB.re 6 [3,0,5]);have gQ:=hid (gu.out.trans k9);clear h9 hB k9;have hz0:w9.cell? ⟨g4,0,none⟩=some (.int .i64 0):=fJ.out.cells 0;have hy0:=fJ.out.thaw 0;have hz1:w9.cell? ⟨g4,1,none⟩=some (.int .i64 0):=fJ.out.cells 1;have hy1:=fJ.out.thaw 1;have hz2:w9.cell? ⟨g4,2,none⟩=some (.int .i64 0):=fJ.out.cells 2;have hy2:=fJ.out.thaw 2;have hz3:w9.cell? ⟨g4,3,none⟩=some (.int .i64 0):=fJ.out.cells 3;have hy3:=fJ.out.thaw 3;have gP:w9.cell? ⟨g4,4,none⟩=some (.slice none 0 0):=fJ.out.cells 4;have hy4:=fJ.out.thaw 4;have gH:w9.cell? ⟨g4,5,none⟩=some (.slice none 0 0):=fJ.out.cells 5;have gG:=fJ.out.thaw 5)
  have h1:=fJ.out.ans (⟨0,0,0,0,x.data,[]⟩:Ans) (.slice p9 x.data.length c9) eS;refine bodyPost_ret (eV rfl rfl h1) rfl ?_;rw[HR.out];exact⟨.slice p9 x.data.length c9,eS,rfl,((fh.2 ⟨g,c,R,HS.out,h1.drop.p1⟩:Has _ (Rts q S::_)).al gx 1).re 3 [2,0,1],gQ.out.ans _ _ _ _ _ _ _⟩
 ·have jL:(x.aa != 3)=true:=by simpa using hk3
  have HR:=hid (qi.out.trans (if_pos hk3));clear hk3
  as_aux_lemma=>exact zba
theorem we (d:List Int)(off:Nat)(bs:List Int)(h:off+bs.length≤d.length):∀ k,k≤bs.length→oh d off bs k=d.take off++bs.take k++d.drop (off+k)
 | 0,_=>by simp[oh]
 | k+1,hk=>by
  rw[oh,we d off bs h k (by omega),List.getElem?_eq_getElem (by omega)];have e1:(d.take off++bs.take k).length=off+k:=by rw[List.length_append,List.length_take,List.length_take];omega
  have e2:d.drop (off+k)=d[off+k]'(by omega)::d.drop (off+(k+1)):=List.drop_eq_getElem_cons (by omega);have e3:bs.take (k+1)=bs.take k ++ [bs[k]'(by omega)]:=List.take_succ_eq_append_getElem (by omega);rw[List.set_append_right _ _ (by omega),e1,Nat.sub_self,e2,List.set_cons_zero,e3];simp only[List.append_assoc,List.cons_append,List.nil_append,Option.getD_some]
theorem xU (ws:List Bool)(i:Nat)(h:ws[i]? = some true):ws.set i true=ws:=by
 obtain⟨h1,h2⟩:=List.getElem?_eq_some_iff.1 h
 conv=>lhs;rw[←h2]
 exact List.set_getElem_self h1
theorem vF (t:List Bool)(off:Nat):∀ k,off+k≤t.length*128→om t off k=iJ t (off / 128) (if k=0 then off / 128 else(off+k-1) / 128+1)
 | 0,_=>by simp[om,pE]
 | k+1,hk=>by
  have e9:(if k+1=0 then off / 128 else(off+(k+1)-1) / 128+1)=(off+k) / 128+1:=by rw[if_neg (by omega),show off+(k+1)-1=off+k by omega]
  rw[om,vF t off k (by omega),e9];by_cases h0:k=0
  ·subst h0;rw[if_pos rfl,Nat.add_zero,mi t _ _ (Nat.le_refl _) (by omega)]
  ·rw[if_neg h0];by_cases h1:(off+k) / 128=(off+k-1) / 128
   ·rw[h1];refine xU _ _ ?_;rw[j6 _ _ _ _ (by omega),decide_eq_true (by omega),decide_eq_true (by omega)];simp
   ·have h2:(off+k) / 128=(off+k-1) / 128+1:=by omega
    rw[←h2,mi t _ _ (by omega) (by omega)]
theorem zR {e:Nat}(h0:0<e)(h1:e≤20736):(e-1) / 128+1=fk e:=by
 unfold fk;split <;> omega
theorem wq (ws:List Bool)(N a m:Nat)(hl:ws.length≤N)(hm:m≤N):iJ (ws++List.replicate (N-ws.length) false) a m=iJ (ws++List.replicate (m-ws.length) false) a m++List.replicate (N-(iJ (ws++List.replicate (m-ws.length) false) a m).length) false:=by
 apply List.ext_getElem?;intro i;have e0:(iJ (ws++List.replicate (m-ws.length) false) a m).length=ws.length+(m-ws.length):=by rw[im,List.length_append,List.length_replicate]
 by_cases h:i<N
 ·rw[j6 _ _ _ _ (by rw[List.length_append,List.length_replicate];omega)];by_cases h2:i<ws.length+(m-ws.length)
  ·rw[List.getElem?_append_left (by rw[e0];exact h2),j6 _ _ _ _ (by rw[List.length_append,List.length_replicate];exact h2)];congr 2;by_cases h3:i<ws.length
   ·rw[List.getElem_append_left h3,List.getElem_append_left h3]
   ·rw[List.getElem_append_right (by omega),List.getElem_append_right (by omega),List.getElem_replicate,List.getElem_replicate]
  ·rw[List.getElem?_append_right (by rw[e0];omega),e0,List.getElem?_replicate,if_pos (by omega),List.getElem_append_right (by omega),List.getElem_replicate,decide_eq_false (show ¬ i<m by omega)];simp
 ·rw[List.getElem?_eq_none (by rw[im,List.length_append,List.length_replicate];omega),List.getElem?_eq_none (by rw[List.length_append,List.length_replicate,e0];omega)]
theorem qm (x:Nod)(off:Nat)(ds:List Int):(fE x off ds).data.length=max x.data.length (off+ds.length):=by
 unfold fE;have:(fw x (max x.data.length (off+ds.length))).data.length=max x.data.length (off+ds.length):=by rw[jA,jt]
 dsimp only;rw[List.length_append,List.length_append,List.length_take,List.length_drop,this];omega
theorem SimN.wrote {n:Int}{r:Rn}{x:Nod}(h:SimN n r x)(hk:x.aa=1)(off:Nat)(ds:List Int)(h0:0<ds.length)(hs:off+ds.length≤20736)(dv tv:Value):SimN n (r.wrote off ds dv tv) (fE x off ds):=by
 have hmx:max r.data.length (off+ds.length)=max x.data.length (off+ds.length):=by rw[h.data]
 have hsm:=h.small hk;have H:=h.sized hk (max x.data.length (off+ds.length)) (by omega) dv tv;have hkk:(fw x (max x.data.length (off+ds.length))).aa=x.aa:=by unfold fw;split <;> rfl
 have hcl:(fw x (max x.data.length (off+ds.length))).data.length=max x.data.length (off+ds.length):=by rw[jA,jt]
 have hwl:=qm x off ds;obtain⟨h1,h2⟩:=H.there (by rw[hkk];exact hk);rw[hcl] at h1 h2;have h1':mL r.there (fk (max x.data.length (off+ds.length)))=_:=h1;have hnl:=jr (show off+ds.length≤max x.data.length (off+ds.length) by omega);refine⟨?_,?_,H.ai,H.sorted,?_,?_,H.aq,H.root,H.am,?_⟩
 ·exact H.aa
 ·exact H.ab
 ·show oh (kO r.data (max r.data.length (off+ds.length))) off ds ds.length=_;rw[hmx,we _ _ _ (by rw[jt];omega) _ (Nat.le_refl _),List.take_length];unfold fE;dsimp only;rw[jA,h.data]
 ·intro _;rw[hwl];show om (mL r.there (fk (max r.data.length (off+ds.length)))) off ds.length=_∧_;rw[hmx,vF _ _ _ (by rw[pj];unfold fk;split <;> omega),if_neg (by omega),zR (by omega) hs,h1'];unfold fE;dsimp only;refine⟨wq _ _ _ _ h2 hnl,?_⟩;rw[im,List.length_append,List.length_replicate];omega
 ·intro _;rw[hwl];omega
theorem Sim.write {R:List Rn}{S:Tre}(h:Sim R S){i:Nat}{r:Rn}{x:Nod}(hx:fnd S.ac (i:Int)=some x)(hr:R[i]? = some r)(hsn:SimN (i:Int) r x)(hk:x.aa=1)(off:Nat)(ds:List Int)(h0:0<ds.length)(hs:off+ds.length≤20736)(dv tv:Value):Sim (R.set i (r.wrote off ds dv tv)) (S.au (i:Int) (fE x off ds)) :=
 h.au hx hr rfl (by show (fw x _).ah=_;unfold fw;split <;> rfl) (by show (fw x _).aa=_;unfold fw;split <;> rfl) (hsn.wrote hk off ds h0 hs dv tv)
end Go.Proofs.YtmgpgbfgemebbaaGreatDoor
