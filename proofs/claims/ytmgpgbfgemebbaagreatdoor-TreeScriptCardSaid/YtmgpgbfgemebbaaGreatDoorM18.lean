/- TEXTS of mine, merged. -/
import Derived.Test.YtmgpgbfgemebbaaGreatDoorM0
import Derived.Test.YtmgpgbfgemebbaaGreatDoorM17
import Derived.Test.YtmgpgbfgemebbaaGreatDoorM15
set_option linter.all false
set_option maxRecDepth 100000
set_option maxHeartbeats 16000000
namespace Go.Proofs.YtmgpgbfgemebbaaGreatDoor
open Go.RowKit Go.Own
theorem oI (S:Tre)(q:Str)(F:Spt→Tre):(if (S.fresh q).2≠0 then(eQ (S.fresh q).2,S) else(eQ 0,F (S.fresh q).1))=(if (S.place q).2≠0 then(eQ (S.place q).2,S) else if (S.place q).1.ae≠0 then(eQ 6,S) else(eQ 0,F (S.place q).1)):=by
 unfold Tre.fresh;by_cases h1:(S.place q).2≠0
 ·simp only[if_pos h1]
 ·simp only[if_neg h1];by_cases h2:(S.place q).1.ae≠0
  ·simp only[if_pos h2];rw[if_pos (by decide)]
  ·simp only[if_neg h2];rw[if_neg (by decide)]
theorem Fl (q:Nat)(S:Tre)(rk:Int→Nat)(k:Nat)(o:Opm)(ov:Value)(w:World)(L:List HP)(hk:k≤900)(hG:Gd S rk k)(hkd:o.aa=9)(hp:o.ag.length≤100000)(hO:Has w (Rts q S::L)) :
  zCl 72 #[.pointer (some ⟨q,0,none⟩),opV o ov] w fun e w'=>e=.returned (fL (S.aF o.ag).1 eS eS)∧Has w' (Rts q (S.aF o.ag).2::L)∧Keep w w':=by
 obtain⟨g,c,R,hS,hO2⟩:=fh.1 hO;have HG:=hid hG;have HS:=hid hS;have HO:=hid hO2;have HT:=hid hG.tab16;have hrl:(R.length:Int)≤1000000:=by have:=hS.aA hG;omega
 have ll:=hid (by have:=hS.aA hG;omega:R.length≤100000);clear hO hO2 hG hS;have jj:=hid (show S.aF o.ag=(if (S.place o.ag).2≠0 then(eQ (S.place o.ag).2,S) else if (S.place o.ag).1.ae≠0 then(eQ 6,S) else(eQ 0,S.make (S.place o.ag).1 2 [])) from oI S o.ag fun s=>S.make s 2 []);generalize S.aF o.ag=RR at *;have iY:=hid (fun(w:World)(L':List HP)(hO:Has w (Rtb q g c R S.ak::L'))=>ml q g c R S rk k o.ag w L' (by omega) HG.out HS.out hp hO);have sD:=hid (fun h=>HG.out.ay o.ag h);generalize S.place o.ag=P at *;obtain⟨⟨pn,pd,pnm⟩,pe⟩:=P;dsimp only at iY sD jj;have lj:=kbT hkd 9;have j0:=kbF hkd 12;clear hkd;clear hp;unfold opV opC;go_enter Tryz.func72,Tryz.ntmps72
 go_upto_region 1 with fail
 obtain⟨w1,g3,g4,ew,e4,e3,eT,ff⟩:=f9 HO.out o ov;rw[ew,e4,e3];clear HO ew e4 e3;have hp0:=eT.out.p1.e0;have iK:=eT.out.p1.e5;have kI:=eT.out.p1.e6;go_wp2_with fail
 refine st (iY.out w1 _ (eT.out.re 3 [2,0,1])) (ff.out) fun w2 eZ fu=>?_;try dsimp only
 unfold rsV rsC;go_upto_region 17 with fail
 have eW:=hid (show Has (w2.alloc (.cells #[.int .i64 pd,sV pnm,.int .i64 pn] 72)) (pt w2.heap.size (.cells #[.int .i64 pd,sV pnm,.int .i64 pn] 72)::pt g4 zA::pt g3 (.cells #[.int .i64 o.aa,.int .i64 o.fd,.int .i64 o.n,.int .i64 o.off,.int .i64 o.af,sV o.ag,sV o.aj,ov] 33)::Rtb q g c R S.ak::L) from(show Has (w2.alloc (.cells #[.int .i64 pd,sV pnm,.int .i64 pn] 72)) (pt w2.heap.size (.cells #[.int .i64 pd,sV pnm,.int .i64 pn] 72)::Rtb q g c R S.ak::pt g4 zA::pt g3 (.cells #[.int .i64 o.aa,.int .i64 o.fd,.int .i64 o.n,.int .i64 o.off,.int .i64 o.af,sV o.ag,sV o.aj,ov] 33)::L) from eZ.out.alloc _).re 4 [0,2,3,1]);have fH:=hid (fu.out.alloc (.cells #[.int .i64 pd,sV pnm,.int .i64 pn] 72));clear eT ff eZ fu;generalize w2.alloc (.cells #[.int .i64 pd,sV pnm,.int .i64 pn] 72)=w3 at *;generalize w2.heap.size=g5 at *;by_cases he:pe≠0
 ·exact zcU
 have he:pe=0:=Classical.byContradiction he;subst he;have heb:((0:Int) != 0)=false:=rfl;have hg2:=eW.out.e2;by_cases hn:pn≠0
 ·exact zaJ
 have hn:pn=0:=Classical.byContradiction hn;subst hn;have tO:=hid (sD.out rfl);obtain⟨xd,hxd,hd2,-,-,oK⟩:=tO.out.dir;have rZ:fnd xd.ab pnm=none:=oK rfl;clear oK;dsimp only at hxd rZ;obtain⟨d,rd,hd,hrd,sd⟩:=HS.out.ae _ _ hxd;subst hd;have r5:=hid sd;have pT:=hid hxd;have ir:=hid hrd;have HD2:=hid hd2;have CB:=hid rZ;clear hxd hd2 rZ hrd sd sD;have hg0:=eW.out.e0;have hg1:=eW.out.e1;have iK:=eW.out.p2.e5;have HR:=hid (by rw[jj.out,if_neg (by simp),if_neg (by simp)]:RR=(eQ 0,S.make ⟨0,(d:Int),pnm⟩ 2 []));have rY:=hid (fun(w:World)(L':List HP)(h:Has w (Rtb q g c R S.ak::L'))=>uI q g c R S.ak d rd 0 pnm 2 [] w L' ir.out (by have:=r5.out.few HG.out pT.out;omega) (by rw[r5.out.aq];have:=(HG.out.ax pT.out).size;omega) ll.out (by simp) h);unfold rsV rsC at rY;go_wp2_with fail
 refine st (rY.out w3 _ (show Has w3 (Rtb q g c R S.ak::pt g5 (.cells #[.int .i64 (d:Int),sV pnm,.int .i64 0] 72)::pt g4 zA::pt g3 (.cells #[.int .i64 o.aa,.int .i64 o.fd,.int .i64 o.n,.int .i64 o.off,.int .i64 o.af,sV o.ag,sV o.aj,ov] 33)::L) from eW.out.re 4 [3,0,1,2])) (fH.out) fun w7 fP gZ=>?_;try dsimp only
 obtain⟨g',c',vt,dv,l9⟩:=fP.out;have fI:=hid l9.va;clear l9 fP;obtain⟨hz0,hz1,hz2,hz3,gP,gH,hy0,hy1,hy2,hy3,hy4,gG⟩:=Has.az (fI.out);go_wp2_with fail
 have h1:=(fI.out).ans (eQ 0) (eS) (eS);refine bodyPost_ret (eV rfl rfl h1) rfl ?_;rw[HR.out];exact⟨rfl,fh.2 ⟨g',c',_,HS.out.make HG.out tO.out rfl rfl ir.out 2 [] (fun _=>rfl) vt dv,h1.drop⟩,gZ.out.ans _ _ _ _ _ _ _⟩
theorem Aj (q:Nat)(S:Tre)(rk:Int→Nat)(k:Nat)(o:Opm)(ov:Value)(w:World)(L:List HP)(hk:k≤900)(hG:Gd S rk k)(hkd:o.aa=13)(hp:o.ag.length≤100000)(ku:o.aj.length≤100000)(hO:Has w (Rts q S::L)) :
  zCl 72 #[.pointer (some ⟨q,0,none⟩),opV o ov] w fun e w'=>e=.returned (fL (S.symlink o.ag o.aj).1 eS eS)∧Has w' (Rts q (S.symlink o.ag o.aj).2::L)∧Keep w w':=by
 obtain⟨g,c,R,hS,hO2⟩:=fh.1 hO;have HG:=hid hG;have HS:=hid hS;have HO:=hid hO2;have HT:=hid hG.tab16;have hrl:(R.length:Int)≤1000000:=by have:=hS.aA hG;omega
 have ll:=hid (by have:=hS.aA hG;omega:R.length≤100000);clear hO hO2 hG hS;have pZ:=hid (show S.symlink o.ag o.aj=(if (fN o.ag).2.2≠0 then(eQ (fN o.ag).2.2,S) else(if (S.place o.aj).2≠0 then(eQ (S.place o.aj).2,S) else if (S.place o.aj).1.ae≠0 then(eQ 6,S) else(eQ 0,S.make (S.place o.aj).1 3 o.ag))) from by
  unfold Tre.symlink;rw[oI S o.aj fun s=>S.make s 3 o.ag])
 generalize S.symlink o.ag o.aj=RR at *;have Gw:=hid (fun(w:World)(L':List HP)(hO:Has w L')=>uV o.ag w L' hp hO);generalize fN o.ag=M at *;obtain⟨tps,tr,te⟩:=M;dsimp only at Gw pZ;have yP:=hid hp;clear hp;have lj:=kbF hkd 9;have j0:=kbF hkd 12;clear hkd;unfold opV opC;go_enter Tryz.func72,Tryz.ntmps72
 go_upto_region 1 with fail
 obtain⟨w1,g3,g4,ew,e4,e3,eT,ff⟩:=f9 HO.out o ov;rw[ew,e4,e3];clear HO ew e4 e3;have hp0:=eT.out.p1.e0;have iK:=eT.out.p1.e5;have kI:=eT.out.p1.e6;go_wp2_with fail
 refine(Gw.out w1 _ eT.out).mono ?_;rintro e w0 ⟨vp,rfl,Hq,hK0⟩;have Ai:=hid Hq;have sj:=hid ((ff.out).trans hK0);clear Hq hK0;try dsimp only
 have fJ:=hid Ai.out.vq;clear Ai eT ff hp0 iK kI;by_cases ht:te≠0
 ·have HR:=hid (by rw[pZ.out,if_pos ht]:RR=(eQ te,S));go_wp2_with fail
  have HC:=hid (gk (te) w0 (pt g4 zA::Rtb q g c R S.ak::L) (fJ.out.re 3 [0,2]));have kz:=sj;exact lv
 have ht:te=0:=Classical.byContradiction ht;subst ht;have htb:((0:Int) != 0)=false:=rfl;have jj:=hid (by rw[pZ.out,if_neg (by simp)]:RR=(if (S.place o.aj).2≠0 then(eQ (S.place o.aj).2,S) else if (S.place o.aj).1.ae≠0 then(eQ 6,S) else(eQ 0,S.make (S.place o.aj).1 3 o.ag)));clear pZ;have iY:=hid (fun(w:World)(L':List HP)(hO:Has w (Rtb q g c R S.ak::L'))=>ml q g c R S rk k o.aj w L' (by omega) HG.out HS.out ku hO);have sD:=hid (fun h=>HG.out.ay o.aj h);generalize S.place o.aj=P at *;obtain⟨⟨pn,pd,pnm⟩,pe⟩:=P;dsimp only at iY sD jj;clear ku;go_wp2_with fail
 refine st (iY.out w0 _ (fJ.out.re 3 [2,0,1])) (sj.out) fun w2 eZ fu=>?_;try dsimp only
 unfold rsV rsC;go_upto_region 17 with fail
 have eW:=hid (show Has (w2.alloc (.cells #[.int .i64 pd,sV pnm,.int .i64 pn] 72)) (pt w2.heap.size (.cells #[.int .i64 pd,sV pnm,.int .i64 pn] 72)::pt g4 zA::pt g3 (.cells #[.int .i64 o.aa,.int .i64 o.fd,.int .i64 o.n,.int .i64 o.off,.int .i64 o.af,sV o.ag,sV o.aj,ov] 33)::Rtb q g c R S.ak::L) from(show Has (w2.alloc (.cells #[.int .i64 pd,sV pnm,.int .i64 pn] 72)) (pt w2.heap.size (.cells #[.int .i64 pd,sV pnm,.int .i64 pn] 72)::Rtb q g c R S.ak::pt g4 zA::pt g3 (.cells #[.int .i64 o.aa,.int .i64 o.fd,.int .i64 o.n,.int .i64 o.off,.int .i64 o.af,sV o.ag,sV o.aj,ov] 33)::L) from eZ.out.alloc _).re 4 [0,2,3,1]);have fH:=hid (fu.out.alloc (.cells #[.int .i64 pd,sV pnm,.int .i64 pn] 72));clear fJ sj eZ fu;generalize w2.alloc (.cells #[.int .i64 pd,sV pnm,.int .i64 pn] 72)=w3 at *;generalize w2.heap.size=g5 at *;by_cases he:pe≠0
 ·exact zcU
 have he:pe=0:=Classical.byContradiction he;subst he;have heb:((0:Int) != 0)=false:=rfl;have hg2:=eW.out.e2;by_cases hn:pn≠0
 ·exact zaJ
 have hn:pn=0:=Classical.byContradiction hn;subst hn;have tO:=hid (sD.out rfl);obtain⟨xd,hxd,hd2,-,-,oK⟩:=tO.out.dir;have rZ:fnd xd.ab pnm=none:=oK rfl;clear oK;dsimp only at hxd rZ;obtain⟨d,rd,hd,hrd,sd⟩:=HS.out.ae _ _ hxd;subst hd;have r5:=hid sd;have pT:=hid hxd;have ir:=hid hrd;have HD2:=hid hd2;have CB:=hid rZ;clear hxd hd2 rZ hrd sd sD;have hg0:=eW.out.e0;have hg1:=eW.out.e1;have iK:=eW.out.p2.e5;have HR:=hid (by rw[jj.out,if_neg (by simp),if_neg (by simp)]:RR=(eQ 0,S.make ⟨0,(d:Int),pnm⟩ 3 o.ag));have rY:=hid (fun(w:World)(L':List HP)(h:Has w (Rtb q g c R S.ak::L'))=>uI q g c R S.ak d rd 0 pnm 3 o.ag w L' ir.out (by have:=r5.out.few HG.out pT.out;omega) (by rw[r5.out.aq];have:=(HG.out.ax pT.out).size;omega) ll.out (by have:=yP.out;omega) h);unfold rsV rsC at rY;go_wp2_with fail
 refine st (rY.out w3 _ (show Has w3 (Rtb q g c R S.ak::pt g5 (.cells #[.int .i64 (d:Int),sV pnm,.int .i64 0] 72)::pt g4 zA::pt g3 (.cells #[.int .i64 o.aa,.int .i64 o.fd,.int .i64 o.n,.int .i64 o.off,.int .i64 o.af,sV o.ag,sV o.aj,ov] 33)::L) from eW.out.re 4 [3,0,1,2])) (fH.out) fun w7 fP gZ=>?_;try dsimp only
 obtain⟨g',c',vt,dv,l9⟩:=fP.out;have fI:=hid l9.va;clear l9 fP;obtain⟨hz0,hz1,hz2,hz3,gP,gH,hy0,hy1,hy2,hy3,hy4,gG⟩:=Has.az (fI.out);go_wp2_with fail
 have h1:=(fI.out).ans (eQ 0) (eS) (eS);refine bodyPost_ret (eV rfl rfl h1) rfl ?_;rw[HR.out];exact⟨rfl,fh.2 ⟨g',c',_,HS.out.make HG.out tO.out rfl rfl ir.out 3 o.ag (fun h=>absurd rfl h) vt dv,h1.drop⟩,gZ.out.ans _ _ _ _ _ _ _⟩
theorem I7 (q:Nat)(S:Tre)(rk:Int→Nat)(k:Nat)(o:Opm)(ov:Value)(w:World)(L:List HP)(hk:k≤900)(hG:Gd S rk k)(hkd:o.aa=12)(hp:o.ag.length≤100000)(ku:o.aj.length≤100000)(hO:Has w (Rts q S::L)) :
  zCl 72 #[.pointer (some ⟨q,0,none⟩),opV o ov] w fun e w'=>e=.returned (fL (S.link o.ag o.aj).1 eS eS)∧Has w' (Rts q (S.link o.ag o.aj).2::L)∧Keep w w':=by
 obtain⟨g,c,R,hS,hO2⟩:=fh.1 hO;have HG:=hid hG;have HS:=hid hS;have HO:=hid hO2;have HT:=hid hG.tab16;have hrl:(R.length:Int)≤1000000:=by have:=hS.aA hG;omega
 have ll:=hid (by have:=hS.aA hG;omega:R.length≤100000);clear hO hO2 hG hS;have pZ:=hid (show S.link o.ag o.aj=(if (S.find o.ag false).2≠0 then(eQ (S.find o.ag false).2,S) else if (S.at_ (S.find o.ag false).1.ae).aa=2 then(eQ 16,S) else(if (S.place o.aj).2≠0 then(eQ (S.place o.aj).2,S) else if (S.place o.aj).1.ae≠0 then(eQ 6,S) else(eQ 0,S.add (S.place o.aj).1.dir (S.place o.aj).1.name (S.find o.ag false).1.ae))) from by
  unfold Tre.link;rw[oI S o.aj fun s=>S.add s.dir s.name (S.find o.ag false).1.ae])
 generalize S.link o.ag o.aj=RR at *;have m0:=hid (fun(w:World)(L':List HP)(hO:Has w (Rtb q g c R S.ak::L'))=>nM q g c R S rk k o.ag true w L' (by omega) HG.out HS.out hp hO);rw[show (!true)=false from rfl] at m0;have oy:=hid (fun h=>gh HG.out.wk o.ag false h);generalize S.find o.ag false=F at *;obtain⟨⟨fn,fdr,fnm⟩,fe⟩:=F;dsimp only at m0 pZ oy;clear hp;have lj:=kbF hkd 9;have j0:=kbT hkd 12;clear hkd;unfold opV opC;go_enter Tryz.func72,Tryz.ntmps72
 go_upto_region 1 with fail
 obtain⟨w1,g3,g4,ew,e4,e3,eT,ff⟩:=f9 HO.out o ov;rw[ew,e4,e3];clear HO ew e4 e3;have hp0:=eT.out.p1.e0;have iK:=eT.out.p1.e5;have kI:=eT.out.p1.e6;go_wp2_with fail
 refine st (m0.out w1 _ (eT.out.re 3 [2,0,1])) (ff.out) fun w0 Ai sj=>?_;try dsimp only
 unfold rsV rsC;go_upto_region 10 with fail
 have fJ:=hid (show Has (w0.alloc (.cells #[.int .i64 fdr,sV fnm,.int .i64 fn] 72)) (pt w0.heap.size (.cells #[.int .i64 fdr,sV fnm,.int .i64 fn] 72)::pt g4 zA::pt g3 (.cells #[.int .i64 o.aa,.int .i64 o.fd,.int .i64 o.n,.int .i64 o.off,.int .i64 o.af,sV o.ag,sV o.aj,ov] 33)::Rtb q g c R S.ak::L) from(show Has (w0.alloc (.cells #[.int .i64 fdr,sV fnm,.int .i64 fn] 72)) (pt w0.heap.size (.cells #[.int .i64 fdr,sV fnm,.int .i64 fn] 72)::Rtb q g c R S.ak::pt g4 zA::pt g3 (.cells #[.int .i64 o.aa,.int .i64 o.fd,.int .i64 o.n,.int .i64 o.off,.int .i64 o.af,sV o.ag,sV o.aj,ov] 33)::L) from Ai.out.alloc _).re 4 [0,2,3,1]);have gQ:=hid (sj.out.alloc (.cells #[.int .i64 fdr,sV fnm,.int .i64 fn] 72));clear eT ff Ai sj hp0 iK kI;generalize w0.alloc (.cells #[.int .i64 fdr,sV fnm,.int .i64 fn] 72)=w9 at *;generalize w0.heap.size=g6 at *;by_cases hf:fe≠0
 ·have HR:=hid (by rw[pZ.out,if_pos hf]:RR=(eQ fe,S));go_wp2_with fail
  have HC:=hid (gk (fe) w9 (pt g4 zA::Rtb q g c R S.ak::L) (fJ.out.re 4 [1,3]));have kz:=gQ;exact lv
 have hf:fe=0:=Classical.byContradiction hf;subst hf;have hfb:((0:Int) != 0)=false:=rfl;obtain⟨xn,kP⟩:=oy.out rfl;obtain⟨n,rn,hnn,hrn,sn⟩:=HS.out.ae _ _ kP;subst hnn;have MQ:=hid (HG.out.aR kP);have PN:((n:Int) != 0)=true:=by have:=MQ.out;simpa using this
 have Pp:((n:Int)==0)=false:=by have:=MQ.out;simpa using this
 have HAT:=hid (fC kP);have io:=hid sn;have vI:=hid kP;have jl:=hid hrn;have hni:(n:Int)<(R.length:Int):=by have:=(List.getElem?_eq_some_iff.1 hrn).1;omega
 have hn0:(0:Int)≤(n:Int):=by omega
 have Bx:=hid (fun(w:World)(L':List HP)(h:Has w (Rtb q g c R S.ak::L'))=>(show w.cell? ⟨q,0,none⟩=some (.slice (some ⟨g,0,none⟩) R.length c)∧w.cell? ⟨g,n*7,none⟩=some (.int .i64 xn.aa) from by
  obtain⟨k0,-⟩:=Rtb.at_ h jl.out;rw[io.out.aa] at k0;exact⟨Rtb.nv h,k0⟩))
 clear kP hrn sn oy;go_upto_region 12 with fail
 have fg:=hid fJ.out.drew;have fO:=hid gQ.out.drew;refine eP (fun w'=>w'.cell? ⟨g6,2,none⟩=some (.int .i64 (n:Int))∧w'.cell? ⟨q,0,none⟩=some (.slice (some ⟨g,0,none⟩) R.length c)∧w'.cell? ⟨g,n*7,none⟩=some (.int .i64 xn.aa)) (by kernel_rfl) (by kernel_rfl) ⟨fg.out.cells 2,Bx.out _ _ fg.out.p3⟩ ?_;clear fJ gQ;generalize w9.drew=w4 at *;repeat (first|refine wr3 ?_|refine wk ?_)
 refine eR ?_;by_cases hk2:xn.aa=2
 ·have HR:=hid (by rw[pZ.out,if_neg (by simp),HAT.out,if_pos hk2]:RR=(eQ 16,S));have hkb:(xn.aa==2)=true:=by simpa using hk2
  clear hk2;go_wp2_with fail
  have HC:=hid (gk (16:Int) w4 (pt g4 zA::Rtb q g c R S.ak::L) (fg.out.re 4 [1,3]))
  as_aux_lemma=>exact zbK
 have jj:=hid (by rw[pZ.out,if_neg (by simp),HAT.out,if_neg hk2]:RR=(if (S.place o.aj).2≠0 then(eQ (S.place o.aj).2,S) else if (S.place o.aj).1.ae≠0 then(eQ 6,S) else(eQ 0,S.add (S.place o.aj).1.dir (S.place o.aj).1.name (n:Int))));have hkb:(xn.aa==2)=false:=by simpa using hk2
 have fu:=hid hk2;clear pZ hk2;have iY:=hid (fun(w:World)(L':List HP)(hO:Has w (Rtb q g c R S.ak::L'))=>ml q g c R S rk k o.aj w L' (by omega) HG.out HS.out ku hO);have sD:=hid (fun h=>HG.out.ay o.aj h);generalize S.place o.aj=P at *;obtain⟨⟨pn,pd,pnm⟩,pe⟩:=P;dsimp only at iY sD jj;clear ku;have LN:=fg.out.e2;have fJ:=hid fg.out.vq;clear fg;go_wp2_with fail
 refine st (iY.out w4 _ (fJ.out.re 3 [2,0,1])) (fO.out) fun w2 eZ fu=>?_;try dsimp only
 unfold rsV rsC;go_upto_region 17 with fail
 have eW:=hid (show Has (w2.alloc (.cells #[.int .i64 pd,sV pnm,.int .i64 pn] 72)) (pt w2.heap.size (.cells #[.int .i64 pd,sV pnm,.int .i64 pn] 72)::pt g4 zA::pt g3 (.cells #[.int .i64 o.aa,.int .i64 o.fd,.int .i64 o.n,.int .i64 o.off,.int .i64 o.af,sV o.ag,sV o.aj,ov] 33)::Rtb q g c R S.ak::L) from(show Has (w2.alloc (.cells #[.int .i64 pd,sV pnm,.int .i64 pn] 72)) (pt w2.heap.size (.cells #[.int .i64 pd,sV pnm,.int .i64 pn] 72)::Rtb q g c R S.ak::pt g4 zA::pt g3 (.cells #[.int .i64 o.aa,.int .i64 o.fd,.int .i64 o.n,.int .i64 o.off,.int .i64 o.af,sV o.ag,sV o.aj,ov] 33)::L) from eZ.out.alloc _).re 4 [0,2,3,1]);have fH:=hid (fu.out.alloc (.cells #[.int .i64 pd,sV pnm,.int .i64 pn] 72));clear fJ fO eZ fu LN;generalize w2.alloc (.cells #[.int .i64 pd,sV pnm,.int .i64 pn] 72)=w3 at *;generalize w2.heap.size=g5 at *;by_cases he:pe≠0
 ·as_aux_lemma=>exact zcU
 have he:pe=0:=Classical.byContradiction he;subst he;have heb:((0:Int) != 0)=false:=rfl;have hg2:=eW.out.e2;by_cases hn:pn≠0
 ·as_aux_lemma=>exact zaJ
 have hn:pn=0:=Classical.byContradiction hn;subst hn;have tO:=hid (sD.out rfl);obtain⟨xd,hxd,hd2,-,-,oK⟩:=tO.out.dir;have rZ:fnd xd.ab pnm=none:=oK rfl;clear oK;dsimp only at hxd rZ;obtain⟨d,rd,hd,hrd,sd⟩:=HS.out.ae _ _ hxd;subst hd;have r5:=hid sd;have pT:=hid hxd;have ir:=hid hrd;have HD2:=hid hd2;have CB:=hid rZ;clear hxd hd2 rZ hrd sd sD;have hg0:=eW.out.e0;have hg1:=eW.out.e1;have iK:=eW.out.p2.e5;have HR:=hid (by rw[jj.out,if_neg (by simp),if_neg (by simp)]:RR=(eQ 0,S.add (d:Int) pnm (n:Int)));have rW:=hid (show d≠n from by
  intro e;have h1:=pT.out;rw[e,vI.out] at h1;cases h1;exact fu.out HD2.out)
 have rY:=hid (fun(w:World)(L':List HP)(h:Has w (Rtb q g c R S.ak::L'))=>E3 q g c R S.ak d n rd rn pnm w L' ir.out jl.out rW.out (by have:=r5.out.few HG.out pT.out;omega) (by rw[r5.out.aq];have:=(HG.out.ax pT.out).size;omega) (by rw[io.out.ab];have:=(HG.out.ax vI.out).size;omega) (by have:=ll.out;omega) h);go_wp2_with fail
 refine(rY.out w3 _ (show Has w3 (Rtb q g c R S.ak::pt g5 (.cells #[.int .i64 (d:Int),sV pnm,.int .i64 0] 72)::pt g4 zA::pt g3 (.cells #[.int .i64 o.aa,.int .i64 o.fd,.int .i64 o.n,.int .i64 o.off,.int .i64 o.af,sV o.ag,sV o.aj,ov] 33)::L) from eW.out.re 4 [3,0,1,2])).mono ?_;rintro e w7 ⟨vt,rfl,l9,hK7⟩;have fP:=hid l9;have gZ:=hid ((fH.out).trans hK7);clear l9 hK7;try dsimp only
 have fI:=hid fP.out.va;clear fP;obtain⟨hz0,hz1,hz2,hz3,gP,gH,hy0,hy1,hy2,hy3,hy4,gG⟩:=Has.az (fI.out);go_wp2_with fail
 have h1:=(fI.out).ans (eQ 0) (eS) (eS);refine bodyPost_ret (eV rfl rfl h1) rfl ?_;rw[HR.out];exact⟨rfl,fh.2 ⟨g,c,_,HS.out.add ir.out jl.out pT.out vI.out HD2.out CB.out vt fu.out (by have:=(HG.out.ax vI.out).size;omega),h1.drop⟩,gZ.out.ans _ _ _ _ _ _ _⟩
theorem y4 {T:List Tb.Slot}(hT:T.length=16)(n fl:Int)(h:(Tb.lst T 16).length≠16):(Tb.opn T n fl).1.2=0:=by
 unfold Tb.opn;cases hf:T.findIdx? (fun s => !s.on) with
 | some j=>rfl
 | none =>
  exfalso;apply h;rw[List.findIdx?_eq_none_iff] at hf;unfold Tb.lst;rw[List.length_map,List.take_of_length_le (by rw[List.length_zipIdx];omega),List.filter_eq_self.2,List.length_zipIdx,hT];intro a ha;have h1:a.1∈T:=by
   have:=List.mem_map_of_mem (f:=Prod.fst) ha
   rwa [List.zipIdx_map_fst] at this
  have:=hf _ h1;simpa using this
def Tre.cS (S:Tre)(n fl:Int):Ans×Tre:=(⟨(Tb.opn S.ak n fl).1.2,(Tb.opn S.ak n fl).1.1,0,0,[],[]⟩,{S with ak:=(Tb.opn S.ak n fl).2})
theorem xK (S:Tre)(s:Spt)(fl:Int)(h:¬ (s.ae≠0∧(S.at_ s.ae).aa=2∧fc fl 32≠0))(h2:(Tb.lst S.ak 16).length<16):S.ar s fl=(if fc fl 4≠0 then(if s.ae=0 then S.make s 1 [] else S).resize (if s.ae=0 then S.last+1 else s.ae) 0 else(if s.ae=0 then S.make s 1 [] else S)).cS (if s.ae=0 then S.last+1 else s.ae) fl:=by
 unfold Tre.ar Tre.cS;rw[if_neg h,if_neg (by omega)]
theorem I9 (q:Nat)(S:Tre)(rk:Int→Nat)(k:Nat)(o:Opm)(ov:Value)(w:World)(L:List HP)(hk:k≤900)(hG:Gd S rk k)(hp:o.ag.length≤100000)(hO:Has w (Rts q S::L)) :
  zCl 64 #[.pointer (some ⟨q,0,none⟩),opV o ov] w fun e w'=>e=.returned (fL (S.aw o.ag o.af).1 eS eS)∧Has w' (Rts q (S.aw o.ag o.af).2::L)∧Keep w w':=by
 obtain⟨g,c,R,hS,hO2⟩:=fh.1 hO;have HG:=hid hG;have HS:=hid hS;have HO:=hid hO2;have HT:=hid hG.tab16;have hrl:(R.length:Int)≤1000000:=by have:=hS.aA hG;omega
 have ll:=hid (by have:=hS.aA hG;omega:R.length≤100000);clear hO hO2 hG hS;have jj:=hid (show S.aw o.ag o.af=(if o.af<0∨64≤o.af∨(fc o.af 12≠0∧fc o.af 32=0) then(eQ 2,S)
  else if fc o.af 1≠0 then
   if (S.place o.ag).2≠0 then(eQ (S.place o.ag).2,S)
   else if (S.place o.ag).1.ae≠0∧fc o.af 2≠0 then(eQ 6,S)
   else if (S.place o.ag).1.ae≠0∨(S.place o.ag).1.dir=0 then
    if (S.find o.ag true).2≠0 then(eQ (S.find o.ag true).2,S) else S.ar (S.find o.ag true).1 o.af
   else S.ar (S.place o.ag).1 o.af
  else if (S.find o.ag true).2≠0 then(eQ (S.find o.ag true).2,S) else S.ar (S.find o.ag true).1 o.af) from rfl)
 generalize S.aw o.ag o.af=RR at *;have iY:=hid (fun(w:World)(L':List HP)(hO:Has w (Rtb q g c R S.ak::L'))=>ml q g c R S rk k o.ag w L' (by omega) HG.out HS.out hp hO);have sD:=hid (fun h=>HG.out.ay o.ag h);generalize S.place o.ag=P at *;obtain⟨s1,e1⟩:=P;have m0:=hid (fun(w:World)(L':List HP)(hO:Has w (Rtb q g c R S.ak::L'))=>nM q g c R S rk k o.ag false w L' (by omega) HG.out HS.out hp hO);rw[show (!false)=true from rfl] at m0;have oy:=hid (fun h=>gh HG.out.wk o.ag true h);have wU:=hid (fun h=>HG.out.find_ok o.ag true h);generalize S.find o.ag true=F at *;obtain⟨s2,e2⟩:=F;dsimp only at iY sD m0 oy wU jj;unfold rsV rsC at iY m0;have JR:=hid hp;clear hp;unfold opV opC;go_enter Tryz.func64,Tryz.ntmps64
 go_upto_region 1 with fail
 obtain⟨w1,g3,g4,ew,e4,e3,eT,ff⟩:=f9 HO.out o ov;rw[ew,e4,e3];clear HO ew e4 e3;have lP:=eT.out.p1.e4;by_cases hlo:o.af<0
 ·have HR:=hid (by rw[jj.out,if_pos (.inl hlo)]:RR=(eQ 2,S))
  as_aux_lemma=>exact zbE
 have hlo0:0≤o.af:=by omega
 by_cases hhi:63<o.af
 ·have HR:=hid (by rw[jj.out,if_pos (.inr (.inl (by omega)))]:RR=(eQ 2,S))
  as_aux_lemma=>exact zbE
 have hhi0:o.af≤63:=by omega
 by_cases hbd:fc o.af 12≠0∧fc o.af 32=0
 ·obtain⟨h12,h32⟩:=hbd;have HR:=hid (by rw[jj.out,if_pos (.inr (.inr ⟨h12,h32⟩))]:RR=(eQ 2,S));have hq12:(bits BinOp.and IntKind.i64 o.af 12 != 0)=true:=by simpa[fc] using h12
  have D1:(bits BinOp.and IntKind.i64 o.af 12==0)=false:=by simpa[fc] using h12
  have Fv:(bits BinOp.and IntKind.i64 o.af 32 != 0)=false:=by simpa[fc] using h32
  have za:(bits BinOp.and IntKind.i64 o.af 32==0)=true:=by simpa[fc] using h32
  clear h12 h32
  as_aux_lemma=>exact zbE
 have Bl:=hid hbd;have Dh:=hid ((if_neg (show ¬ (o.af<0∨64≤o.af∨(fc o.af 12≠0∧fc o.af 32=0)) from by
  rintro(h|h|h)
  ·omega
  ·omega
  ·exact Bl.out h)).symm.trans jj.out.symm)
 clear hbd jj;go_upto_region 2 with fail
 go_cut [28] (fun v wx=>v=.bool false∧w1=wx)
 case first =>
  by_cases h12:fc o.af 12=0
  ·have hq12:(bits BinOp.and IntKind.i64 o.af 12 != 0)=false:=by simpa[fc] using h12
   have D1:(bits BinOp.and IntKind.i64 o.af 12==0)=true:=by simpa[fc] using h12
   clear h12
   as_aux_lemma=>exact zbP
  ·have h32:¬ fc o.af 32=0:=fun h=>Bl.out ⟨h12,h⟩;have hq12:(bits BinOp.and IntKind.i64 o.af 12 != 0)=true:=by simpa[fc] using h12
   have D1:(bits BinOp.and IntKind.i64 o.af 12==0)=false:=by simpa[fc] using h12
   have Fv:(bits BinOp.and IntKind.i64 o.af 32 != 0)=true:=by simpa[fc] using h32
   have za:(bits BinOp.and IntKind.i64 o.af 32==0)=false:=by simpa[fc] using h32
   clear h12 h32
   as_aux_lemma=>exact zbP
 case rest =>
  obtain⟨rfl,rfl⟩:=hcut;go_upto_if 32 with fail
  have eZ:=hid (show Has (w1.alloc (.cells (rsC fp) 72)) (pt w1.heap.size (.cells (rsC fp) 72)::pt g4 zA::pt g3 (.cells #[.int .i64 o.aa,.int .i64 o.fd,.int .i64 o.n,.int .i64 o.off,.int .i64 o.af,sV o.ag,sV o.aj,ov] 33)::Rtb q g c R S.ak::L) from eT.out.alloc _);have fu:=hid (ff.out.alloc (.cells (rsC fp) 72));unfold rsC fp at eZ fu;dsimp only at eZ fu;clear eT ff lP;generalize w1.alloc (.cells #[.int .i64 0,sV [],.int .i64 0] 72)=w2 at *;generalize w1.heap.size=g5 at *;have hc0:=eZ.out.e0;have hc1:=eZ.out.e1;have hc2:=eZ.out.e2;have ht0:=eZ.out.thaw 0;have ht1:=eZ.out.thaw 1;have ht2:=eZ.out.thaw 2;go_cut [6] (fun v wx=>∃ (w4:World) (s:Spt) (mb:Bool),w4=wx∧v=.bool mb∧Hid (Has w4 (pt g5 (.cells (rsC s) 72)::pt g4 zA::pt g3 (.cells #[.int .i64 o.aa,.int .i64 o.fd,.int .i64 o.n,.int .i64 o.off,.int .i64 o.af,sV o.ag,sV o.aj,ov] 33)::Rtb q g c R S.ak::L))∧Hid (Keep w w4)∧Hid (mb=true→s.ae=0∧tc S rk s∧S.ar s o.af=RR)∧Hid (mb=false→(if e2≠0 then(eQ e2,S) else S.ar s2 o.af)=RR))
  case first =>
   by_cases h1:fc o.af 1=0
   ·have hq1:(bits BinOp.and IntKind.i64 o.af 1 != 0)=false:=by simpa[fc] using h1
    have L3:(bits BinOp.and IntKind.i64 o.af 1==0)=true:=by simpa[fc] using h1
    have HR2:=hid ((if_neg (fun h=>h h1)).symm.trans Dh.out);clear h1;go_wp2_with fail
    go_meet
    exact⟨_,fp,false,rfl,rfl,eZ,fu,hid (fun h=>by cases h),hid (fun _=>HR2.out)⟩
   ·have hq1:(bits BinOp.and IntKind.i64 o.af 1 != 0)=true:=by simpa[fc] using h1
    have L3:(bits BinOp.and IntKind.i64 o.af 1==0)=false:=by simpa[fc] using h1
    have HR2:=hid ((if_pos h1).symm.trans Dh.out);clear h1 Dh;have iK:=eZ.out.p2.e5;go_wp2_with fail
    refine st (iY.out w2 _ (eZ.out.re 4 [3,0,1,2])) (fu.out) fun w3 eW fH=>?_;try dsimp only
    have lF:=hid (show Has w3 (pt g5 (.cells (rsC fp) 72)::pt g4 zA::pt g3 (.cells #[.int .i64 o.aa,.int .i64 o.fd,.int .i64 o.n,.int .i64 o.off,.int .i64 o.af,sV o.ag,sV o.aj,ov] 33)::Rtb q g c R S.ak::L) from eW.out.re 4 [1,2,3,0]);clear eW eZ fu hc0 hc1 hc2 ht0 ht1 ht2 iK;have hc0:=lF.out.e0;have hc1:=lF.out.e1;have hc2:=lF.out.e2;have ht0:=lF.out.thaw 0;have ht1:=lF.out.thaw 1;have ht2:=lF.out.thaw 2;go_upto_region 9 with fail
    have fg:=hid (lF.out.cf s1);have fO:=hid (((fH.out.set ⟨g5,0,none⟩ (.int .i64 s1.dir)).set ⟨g5,1,none⟩ (sV s1.name)).set ⟨g5,2,none⟩ (.int .i64 s1.ae));clear lF fH hc0 hc1 hc2 ht0 ht1 ht2;generalize ((w3.setCell ⟨g5,0,none⟩ (.int .i64 s1.dir)).setCell ⟨g5,1,none⟩ (sV s1.name)).setCell ⟨g5,2,none⟩ (.int .i64 s1.ae)=w4 at *;have hc2:=fg.out.e2;by_cases he:e1≠0
    ·have HR:=hid (by rw[←HR2.out,if_pos he]:RR=(eQ e1,S));go_wp2_with fail
     have HC:=hid (gk (e1) w4 (pt g4 zA::Rtb q g c R S.ak::L) (fg.out.re 4 [1,3]))
     as_aux_lemma=>exact zbK
    have he:e1=0:=Classical.byContradiction he;subst he;have heb:((0:Int) != 0)=false:=rfl;by_cases hn:s1.ae=0
    ·have hnb:(s1.ae==0)=true:=by simpa using hn
     have HP:=hid (sD.out rfl);have hd0:s1.dir≠0:=by
      obtain⟨d,hd,-⟩:=HP.out.dir;exact HG.out.aR hd
     have HR3:=hid (show S.ar s1 o.af=RR from by rw[←HR2.out,if_neg (by simp),if_neg (fun h=>h.1 hn),if_neg (by rintro(h|h);exact h hn;exact hd0 h)]);have HN:=hid hn;clear hn hd0;go_wp2_with fail
     go_meet
     exact⟨_,s1,true,rfl,rfl,fg,fO,hid (fun _=>⟨HN.out,HP.out,HR3.out⟩),hid (fun h=>by cases h)⟩
    ·have hnb:(s1.ae==0)=false:=by simpa using hn
     by_cases h2:fc o.af 2=0
     ·have hq2:(bits BinOp.and IntKind.i64 o.af 2 != 0)=false:=by simpa[fc] using h2
      have Lz:(bits BinOp.and IntKind.i64 o.af 2==0)=true:=by simpa[fc] using h2
      have HR3:=hid (by rw[←HR2.out,if_neg (show ¬ ((0:Int)≠0) by simp),if_neg (show ¬ (s1.ae≠0∧fc o.af 2≠0) from fun h=>h.2 h2),if_pos (show s1.ae≠0∨s1.dir=0 from .inl hn)]:(if e2≠0 then(eQ e2,S) else S.ar s2 o.af)=RR);clear hn h2;go_wp2_with fail
      go_meet
      exact⟨_,s1,false,rfl,rfl,fg,fO,hid (fun h=>by cases h),hid (fun _=>HR3.out)⟩
     ·have hq2:(bits BinOp.and IntKind.i64 o.af 2 != 0)=true:=by simpa[fc] using h2
      have Lz:(bits BinOp.and IntKind.i64 o.af 2==0)=false:=by simpa[fc] using h2
      have HR:=hid (by rw[←HR2.out,if_neg (by simp),if_pos ⟨hn,h2⟩]:RR=(eQ 6,S));clear hn h2;go_wp2_with fail
      have HC:=hid (gk (6:Int) w4 (pt g4 zA::Rtb q g c R S.ak::L) (fg.out.re 4 [1,3]))
      as_aux_lemma=>exact zbK
  case rest =>
   obtain⟨w4,s,mb,rfl,rfl,fg,fO,MM,NC⟩:=hcut;clear eZ fu hc0 hc1 hc2 ht0 ht1 ht2 iY sD Dh;unfold rsC at fg;go_upto_if 56 with fail
   go_cut [] (fun wx=>∃ (w5:World) (s':Spt),w5=wx∧Hid (Has w5 (pt g5 (.cells (rsC s') 72)::pt g4 zA::pt g3 (.cells #[.int .i64 o.aa,.int .i64 o.fd,.int .i64 o.n,.int .i64 o.off,.int .i64 o.af,sV o.ag,sV o.aj,ov] 33)::Rtb q g c R S.ak::L))∧Hid (Keep w w5)∧Hid (S.ar s' o.af=RR)∧Hid (¬ (s'.ae≠0∧(S.at_ s'.ae).aa=2∧fc o.af 32≠0))∧Hid (mb=true→s'.ae=0∧tc S rk s')∧Hid (mb=false→∃ x,fnd S.ac s'.ae=some x∧x.aa≠3))
   case first =>
    cases mb with
    | true =>
     obtain⟨hm1,hm2,JH⟩:=MM.out rfl;have HM:=hid (show s.ae=0∧tc S rk s∧S.ar s o.af=RR from⟨hm1,hm2,JH⟩);clear hm1 hm2 JH;go_wp2_with fail
     go_meet
     exact⟨_,s,rfl,fg,fO,hid HM.out.2.2,hid (fun h=>h.1 HM.out.1),hid (fun _=>⟨HM.out.1,HM.out.2.1⟩),hid (fun h=>by cases h)⟩
    | false =>
     have HR2:=hid (NC.out rfl);have iK:=fg.out.p2.e5;go_wp2_with fail
     refine st (m0.out w4 _ (fg.out.re 4 [3,0,1,2])) (fO.out) fun w3 eW fH=>?_;try dsimp only
     have lF:=hid (show Has w3 (pt g5 (.cells (rsC s) 72)::pt g4 zA::pt g3 (.cells #[.int .i64 o.aa,.int .i64 o.fd,.int .i64 o.n,.int .i64 o.off,.int .i64 o.af,sV o.ag,sV o.aj,ov] 33)::Rtb q g c R S.ak::L) from eW.out.re 4 [1,2,3,0]);clear eW fg fO iK m0;have hc0:=lF.out.e0;have hc1:=lF.out.e1;have hc2:=lF.out.e2;have ht0:=lF.out.thaw 0;have ht1:=lF.out.thaw 1;have ht2:=lF.out.thaw 2;go_upto_region 16 with fail
     have fg:=hid (lF.out.cf s2);have fO:=hid (((fH.out.set ⟨g5,0,none⟩ (.int .i64 s2.dir)).set ⟨g5,1,none⟩ (sV s2.name)).set ⟨g5,2,none⟩ (.int .i64 s2.ae));clear lF fH hc0 hc1 hc2 ht0 ht1 ht2;generalize ((w3.setCell ⟨g5,0,none⟩ (.int .i64 s2.dir)).setCell ⟨g5,1,none⟩ (sV s2.name)).setCell ⟨g5,2,none⟩ (.int .i64 s2.ae)=w5 at *;by_cases he:e2≠0
     ·have HR:=hid (by rw[←HR2.out,if_pos he]:RR=(eQ e2,S));go_wp2_with fail
      have HC:=hid (gk (e2) w5 (pt g4 zA::Rtb q g c R S.ak::L) (fg.out.re 4 [1,3]))
      as_aux_lemma=>exact zbK
     have he:e2=0:=Classical.byContradiction he;subst he;have heb:((0:Int) != 0)=false:=rfl;obtain⟨x,hx⟩:=oy.out rfl;have h3:=(wU.out rfl).2 (by trivial);obtain⟨n,r,hn,hr,sn⟩:=HS.out.ae _ _ hx;have HAT:=hid (fC hx);have HN:=hid hn;have HX:=hid hx;have HR3:=hid (by rw[←HR2.out,if_neg (by simp)]:S.ar s2 o.af=RR);have FR:=hid (by rw[←HAT.out];exact h3:x.aa≠3);have jl:=hid hr;have io:=hid sn;have hni:(n:Int)<(R.length:Int):=by have:=(List.getElem?_eq_some_iff.1 hr).1;omega
     have hn0:(0:Int)≤(n:Int):=by omega
     have Bx:=hid (fun(w:World)(L':List HP)(h:Has w (Rtb q g c R S.ak::L'))=>(show w.cell? ⟨q,0,none⟩=some (.slice (some ⟨g,0,none⟩) R.length c)∧w.cell? ⟨g,n*7,none⟩=some (.int .i64 x.aa) from by
      obtain⟨k0,-⟩:=Rtb.at_ h jl.out;rw[io.out.aa] at k0;exact⟨Rtb.nv h,k0⟩))
     have HC2:=hid (fun(w:World)(L':List HP)(h:Has w (pt g5 (.cells (rsC s2) 72)::L'))=>(by rw[←HN.out];exact h.cells 2:w.cell? ⟨g5,2,none⟩=some (.int .i64 (n:Int))));clear hx h3 hn hr sn oy wU;go_upto_region 18 with fail
     have fq:=hid fg.out.drew;have gu:=hid fO.out.drew;have hcs:w5.drew.cell? ⟨g5,2,none⟩=some (.int .i64 (n:Int))∧w5.drew.cell? ⟨q,0,none⟩=some (.slice (some ⟨g,0,none⟩) R.length c)∧w5.drew.cell? ⟨g,n*7,none⟩=some (.int .i64 x.aa):=⟨HC2.out _ _ fq.out,Bx.out _ _ fq.out.p3⟩
     clear fg fO;by_cases hk2:x.aa=2
     ·have hkb:(x.aa==2)=true:=by simpa using hk2
      have fu:=hid hk2;clear hk2;by_cases h32:fc o.af 32=0
      ·have Fv:(bits BinOp.and IntKind.i64 o.af 32 != 0)=false:=by simpa[fc] using h32
       have za:(bits BinOp.and IntKind.i64 o.af 32==0)=true:=by simpa[fc] using h32
       have PZ:=hid h32;clear h32;refine eP (fun w'=>w'.cell? ⟨g5,2,none⟩=some (.int .i64 (n:Int))∧w'.cell? ⟨q,0,none⟩=some (.slice (some ⟨g,0,none⟩) R.length c)∧w'.cell? ⟨g,n*7,none⟩=some (.int .i64 x.aa)) (by kernel_rfl) (by kernel_rfl) hcs ?_;clear hcs;generalize w5.drew=w6 at *;repeat (first|refine wr3 ?_|refine wk ?_)
       refine eR ?_;have HB:=hid (show ¬ (s2.ae≠0∧(S.at_ s2.ae).aa=2∧fc o.af 32≠0) from fun h=>h.2.2 PZ.out)
       as_aux_lemma=>exact zcl
      ·have Fv:(bits BinOp.and IntKind.i64 o.af 32 != 0)=true:=by simpa[fc] using h32
       have za:(bits BinOp.and IntKind.i64 o.af 32==0)=false:=by simpa[fc] using h32
       have HR:=hid (show RR=(eQ 8,S) from by
        rw[←HR3.out];unfold Tre.ar;rw[if_pos ⟨HG.out.aR HX.out,by rw[HAT.out];exact fu.out,h32⟩])
       clear h32;refine eP (fun w'=>w'.cell? ⟨g5,2,none⟩=some (.int .i64 (n:Int))∧w'.cell? ⟨q,0,none⟩=some (.slice (some ⟨g,0,none⟩) R.length c)∧w'.cell? ⟨g,n*7,none⟩=some (.int .i64 x.aa)) (by kernel_rfl) (by kernel_rfl) hcs ?_;clear hcs;generalize w5.drew=w6 at *;repeat (first|refine wr3 ?_|refine wk ?_)
       refine eR ?_;go_wp2_with fail
       have HC:=hid (gk (8:Int) w6 (pt g4 zA::Rtb q g c R S.ak::L) (fq.out.re 4 [1,3]));have kz:=gu;exact lv
     ·have hkb:(x.aa==2)=false:=by simpa using hk2
      have fu:=hid hk2;clear hk2;refine eP (fun w'=>w'.cell? ⟨g5,2,none⟩=some (.int .i64 (n:Int))∧w'.cell? ⟨q,0,none⟩=some (.slice (some ⟨g,0,none⟩) R.length c)∧w'.cell? ⟨g,n*7,none⟩=some (.int .i64 x.aa)) (by kernel_rfl) (by kernel_rfl) hcs ?_;clear hcs;generalize w5.drew=w6 at *;repeat (first|refine wr3 ?_|refine wk ?_)
      refine eR ?_;have HB:=hid (show ¬ (s2.ae≠0∧(S.at_ s2.ae).aa=2∧fc o.af 32≠0) from fun h=>fu.out (by rw[←HAT.out];exact h.2.1))
      as_aux_lemma=>exact zcl
   case rest =>
    obtain⟨w5,s',rfl,fi,ge,HR3,FS,Gu,Is⟩:=hcut;clear fg fO MM NC m0 oy wU;have Ng:=hid (C4 q _ S.ak w5 _ HT.out (show Has w5 (RTe q _ S.ak::_) from fy.1 (fi.out.re 4 [3,0,1,2])));have Mc:=hid (Tb.lst_len S.ak 16 (by rw[HT.out];omega));have hll:((Tb.lst S.ak 16).length:Int)≤16:=by have:=Mc.out;omega
    go_wp2_with fail
    refine(Ng.out).mono ?_;rintro e w6 ⟨vl,rfl,qu,hK6⟩;have fq:=hid qu;have gu:=hid ((ge.out).trans hK6);clear qu hK6;try dsimp only
    obtain⟨pl,cl,rfl,-⟩:=(Ints.rd fq.out).form;have fP:=hid ((fy.2 fq.out.drop:Has w6 (Rtb q g c R S.ak::_))).vi;clear fq fi ge Ng;have HF:=hid (fun h2=>xK S s' o.af FS.out h2);by_cases h16:(Tb.lst S.ak 16).length=16
    ·have HR:=hid (show RR=(eQ 14,S) from by
      rw[←HR3.out];unfold Tre.ar;rw[if_neg FS.out,if_pos (by omega)])
     rw[h16];clear h16 hll;go_wp2_with fail
     have HC:=hid (gk (14:Int) w6 (pt g4 zA::Rtb q g c R S.ak::L) (fP.out.re 4 [1,3]));have kz:=gu;exact lv
    have Ki:=hid h16;have hb16:(((Tb.lst S.ak 16).length:Int)==16)=false:=by simp;omega
    have HR4:=hid (HF.out (by have:=Ki.out;have:=Mc.out;omega));rw[HR3.out] at HR4;have DQ:=hid (y4 HT.out · o.af Ki.out);have LM:=FS;clear h16 HF HR3 FS Mc Ki;unfold rsC at fP;go_upto_if 91 with fail
    go_cut [] (fun wx=>∃ (w9:World) (n:Nat) (vd vn:Value) (g1 c1:Nat) (R1:List Rn) (rk1:Int→Nat) (S1:Tre) (x1:Nod),w9=wx∧Hid (Has w9 (pt g5 (.cells #[vd,vn,.int .i64 (n:Int)] 72)::pt g4 zA::pt g3 (.cells #[.int .i64 o.aa,.int .i64 o.fd,.int .i64 o.n,.int .i64 o.off,.int .i64 o.af,sV o.ag,sV o.aj,ov] 33)::Rtb q g1 c1 R1 S1.ak::L))∧Hid (Keep w w9)∧Hid (Sim R1 S1)∧Hid (Gd S1 rk1 (k+1))∧Hid (fnd S1.ac (n:Int)=some x1∧x1.aa≠3∧(fc o.af 32≠0→x1.aa=1))∧Hid (RR=(if fc o.af 4≠0 then S1.resize (n:Int) 0 else S1).cS (n:Int) o.af)∧Hid (S1.ak=S.ak))
    case first =>
     cases mb with
     | true =>
      obtain⟨hm1,hm2⟩:=Gu.out rfl;obtain⟨nd,sd,nm⟩:=s';dsimp only at hm1 fP HR4;subst hm1;have tO:=hid hm2;obtain⟨xd,hxd,hd2,-⟩:=hm2.dir;dsimp only at hxd;obtain⟨d,rd,hd,hrd,sn⟩:=HS.out.ae _ _ hxd;subst hd;have rY:=hid (fun(w:World)(L':List HP)(h:Has w (Rtb q g c R S.ak::L'))=>uI q g c R S.ak d rd 0 nm 1 [] w L' hrd (by have:=sn.few HG.out hxd;omega) (by rw[sn.aq];have:=(HG.out.ax hxd).size;omega) ll.out (by simp) h);unfold rsV rsC at rY;have ir:=hid hrd;clear hxd hd2 hrd sn hm2;rw[if_pos rfl,if_pos rfl] at HR4;have hc0:=fP.out.e0;have hc1:=fP.out.e1;have hc2:=fP.out.e2;go_wp2_with fail
      refine st (rY.out w6 _ (fP.out.re 4 [3,0,1,2])) (gu.out) fun w8 fI iI=>?_;try dsimp only
      obtain⟨g',c',vt,dv,o0⟩:=fI.out;have EU:=hid (show Has w8 (pt g5 (.cells #[.int .i64 (d:Int),sV nm,.int .i64 0] 72)::pt g4 zA::pt g3 (.cells #[.int .i64 o.aa,.int .i64 o.fd,.int .i64 o.n,.int .i64 o.off,.int .i64 o.af,sV o.ag,sV o.aj,ov] 33)::Rtb q g' c' (((R ++ [od 1 [] dv]).set d (rd.aP nm (R.length:Nat) vt)).set R.length ((od 1 [] dv).named d)) S.ak::L) from o0.re 4 [1,2,3,0]);clear o0 fI fP hc0 hc1 hc2;have ht2:=EU.out.thaw 2;have hc2:=EU.out.e2;have fJ:=hid (EU.out.set 2 (.int .i64 (R.length:Int)));have gQ:=hid (iI.out.set ⟨g5,2,none⟩ (.int .i64 (R.length:Int)));have hlen:S.last+1=(R.length:Int):=HS.out.len;rw[hlen] at HR4;have Bk:=hid (HG.out.make tO.out rfl 1 (.inl rfl) [] (by simp));have MR:=hid (sQ S ⟨0,(d:Int),nm⟩ 1 []);rw[hlen] at MR;have i8:=hid (HS.out.make HG.out tO.out rfl rfl ir.out 1 [] (fun _=>rfl) vt dv);clear hlen;go_wp2_with fail
      go_meet
      obtain⟨x1,hx1,hk1⟩:=MR.out;exact⟨_,R.length,_,_,g',c',_,_,S.make ⟨0,(d:Int),nm⟩ 1 [],x1,rfl,fJ,gQ,i8,Bk,hid ⟨hx1,by rw[hk1];decide,fun _=>hk1⟩,HR4,hid rfl⟩
     | false =>
      obtain⟨x,hx,hx3⟩:=Is.out rfl;obtain⟨n,r,hn,hr,sn⟩:=HS.out.ae _ _ hx;have hn0:s'.ae≠0:=HG.out.aR hx;rw[if_neg hn0,if_neg hn0,hn] at HR4;have HW:=hid (show fc o.af 32≠0→x.aa=1 from fun h=>by
       rcases(HG.out.ax hx).aa with h1|h1|h1
       ·exact h1
       ·exfalso;exact LM.out ⟨hn0,by rw[fC hx];exact h1,h⟩
       ·exact absurd h1 hx3)
      rw[hn] at fP hx;have HX:=hid hx;have FR:=hid hx3;clear hx hx3 hr sn hn hn0;go_wp2_with fail
      go_meet
      exact⟨_,n,_,_,g,c,R,rk,S,x,rfl,fP,gu,HS,hid (HG.out.mono (Nat.le_succ k)),hid ⟨HX.out,FR.out,HW.out⟩,HR4,hid rfl⟩
    case rest =>
     obtain⟨w9,n,vd,vn,g1,c1,R1,rk1,S1,x1,rfl,fJ,gQ,rG,C7,r6,xN,Fe⟩:=hcut;clear fP gu HR4 Gu Is HS;rw[←Fe.out] at HT DQ;clear Fe;obtain⟨r1,hr1,sn1⟩:=rG.out.aK r6.out.1;have jl:=hid hr1;have io:=hid sn1;clear hr1 sn1;have hc2:=fJ.out.e2;go_upto_if 98 with fail
     go_cut [] (fun wx=>∃ (wZ9:World) (R2:List Rn) (S2:Tre) (x2:Nod),wZ9=wx∧Hid (Has wZ9 (pt g5 (.cells #[vd,vn,.int .i64 (n:Int)] 72)::pt g4 zA::pt g3 (.cells #[.int .i64 o.aa,.int .i64 o.fd,.int .i64 o.n,.int .i64 o.off,.int .i64 o.af,sV o.ag,sV o.aj,ov] 33)::Rtb q g1 c1 R2 S2.ak::L))∧Hid (Keep w wZ9)∧Hid (Sim R2 S2)∧Hid (Gd S2 rk1 (k+1))∧Hid (fnd S2.ac (n:Int)=some x2∧x2.aa≠3∧(fc o.af 32≠0→x2.aa=1))∧Hid (RR=S2.cS (n:Int) o.af)∧Hid (S2.ak=S1.ak))
     case first =>
      by_cases h4:fc o.af 4=0
      ·have hq4:(bits BinOp.and IntKind.i64 o.af 4 != 0)=false:=by simpa[fc] using h4
       have LU:(bits BinOp.and IntKind.i64 o.af 4==0)=true:=by simpa[fc] using h4
       have qG:=hid (xN.out.trans (by rw[if_neg (fun h=>h h4)]));clear h4;go_wp2_with fail
       go_meet
       exact⟨_,R1,S1,x1,rfl,fJ,gQ,rG,C7,r6,qG,hid rfl⟩
      ·have hq4:(bits BinOp.and IntKind.i64 o.af 4 != 0)=true:=by simpa[fc] using h4
       have LU:(bits BinOp.and IntKind.i64 o.af 4==0)=false:=by simpa[fc] using h4
       have qG:=hid (xN.out.trans (by rw[if_pos h4]));have ff:=hid (show x1.aa=1 from r6.out.2.2 (fun h=>Bl.out ⟨DM hlo0 (by omega) h4,h⟩));clear h4;obtain⟨ht,htl⟩:=io.out.there ff.out;have DC:=hid (fun(w:World)(L':List HP)(h:Has w (Rtb q g1 c1 R1 S1.ak::L'))=>rV q g1 c1 R1 S1.ak n r1 0 w L' jl.out (by rw[io.out.data];exact(C7.out.ax r6.out.1).size.1) (by rw[ht,List.length_append,List.length_replicate];have:=nh x1.data.length;omega) (by omega) (by have:=rG.out.aA C7.out;omega) h);clear ht htl;go_wp2_with fail
       refine st (DC.out w9 _ (fJ.out.re 4 [3,0,1,2])) (gQ.out) fun w2 eZ fu=>?_;try dsimp only
       obtain⟨dv,tv,hO2⟩:=eZ.out;have eW:=hid hO2.vi;clear hO2 eZ;go_wp2_with fail
       go_meet
       refine⟨_,R1.set n (r1.sized 0 dv tv),S1.resize (n:Int) 0,fw x1 0,rfl,eW,fu,hid (rG.out.resize r6.out.1 jl.out io.out ff.out (by omega) dv tv),hid (C7.out.resize r6.out.1 (by rw[ff.out];decide) (by omega)),hid ⟨?_,?_,?_⟩,qG,hid rfl⟩
       ·unfold Tre.resize;rw[fC r6.out.1];exact lZ _ _
       ·rw[(iE x1 0).1,ff.out];decide
       ·intro _;rw[(iE x1 0).1,ff.out]
     case rest =>
      obtain⟨wZ9,R2,S2,x2,rfl,fa,jk,HS2,HG2,vY,qG,Fe⟩:=hcut;clear fJ gQ hc2 jl io xN;rw[←Fe.out] at HT DQ;clear Fe;go_upto_region 26 with fail
      have kB:=hid fa.out.drew;have yg:=hid jk.out.drew;refine eP (fun w'=>w'.cell? ⟨g5,2,none⟩=some (.int .i64 (n:Int))∧True) (by kernel_rfl) (by kernel_rfl) ⟨kB.out.cells 2,trivial⟩ ?_;clear fa jk;generalize wZ9.drew=wb at *;repeat (first|refine wr2 ?_|refine wk ?_)
      refine wa fun K hK=>?_;go_simp
      refine(BH q _ S2.ak (n:Int) o.af wb _ HT.out (show Has wb (RTe q _ S2.ak::_) from fy.1 (kB.out.re 4 [3,0,1,2]))).mono ?_;rintro e wc ⟨rfl,M9,hKc⟩;have FQ:=hid (show Has wc (Rtb q g1 c1 R2 (Tb.opn S2.ak (n:Int) o.af).2::_) from fy.2 M9).vi;have P7:=hid (yg.out.trans hKc);clear M9 hKc kB yg;try dsimp only
      refine hK.out _ _ ⟨FQ.out.cells 2,trivial⟩ ?_;clear hK K;try simp only[Act.put,zpu]
      repeat (first|refine wr2 ?_|refine wk ?_)
      refine eR ?_;have hr0:=DQ.out (n:Int);have Kw:=hid (HS2.out.opn HG2.out vY.out.1 o.af vY.out.2.2);unfold Tre.cS at qG;rw[hr0] at qG;clear hr0 DQ;obtain⟨ix,hix⟩:∃ ix,(Tb.opn S2.ak (n:Int) o.af).1.1=ix:=⟨_,rfl⟩
      rw[hix] at qG ⊢;generalize (Tb.opn S2.ak (n:Int) o.af).1.2=iz at *;clear hix;have gC:=hid FQ.out.vj;obtain⟨hz0,hz1,hz2,hz3,gP,gH,hy0,hy1,hy2,hy3,hy4,gG⟩:=Has.az (gC.out);go_wp2_with fail
      have h1:=(gC.out).ans ((⟨0,ix,0,0,[],[]⟩:Ans)) (eS) (eS);refine bodyPost_ret (eV rfl rfl h1) rfl ?_;rw[qG.out];exact⟨rfl,fh.2 ⟨g1,c1,R2,Kw.out,h1.drop⟩,P7.out.ans _ _ _ _ _ _ _⟩
variable {R:List Rn} {S:Tre} {rk:Int→Nat} {k:Nat}
theorem pX {t:List (Str×Int)}{p q:Str}(h:fnd t q=none):fnd (gq t p) q=none:=by
 rw[fU] at h ⊢;intro hm;obtain⟨e,he,e2⟩:=List.mem_map.1 hm;exact h (List.mem_map.2 ⟨e,(List.mem_filter.1 he).1,e2⟩)
theorem Gd.named (g:Gd S rk k){d n:Int}{xd xn:Nod}{p:Str}(hd:fnd S.ac d=some xd)(hf:fnd xd.ab p=some n)(hx:fnd S.ac n=some xn):n≠1∧d≠n∧xd.aa=2∧1≤xn.ah∧(xn.aa=2→xn.ah=1):=by
 have H:=g.ax hx;have hcn:1≤cnt S.ac n:=lb hd (fj hf);have h1:n≠1:=by
  intro e;have:=(H.root e).2.2.2;omega
 obtain⟨e1,e2,y,hy,e3⟩:=(g.ax hd).ai _ (fj hf);have hyx:y=xn:=by
  have hy':fnd S.ac n=some y:=hy;rw[hx] at hy';cases hy';rfl
 subst hyx;have hdk:xd.aa=2:=Classical.byContradiction fun h2=>by
  have:=((g.ax hd).file h2).1;rw[this] at hf;cases hf
 have hdn:d≠n:=by
  intro e;have hdy:xd=y:=by rw[e,hx] at hd;exact(Option.some.inj hd).symm
  have:=(e3 (by rw[←hdy];exact hdk)).2;dsimp only at this;rw[←e] at this;omega
 have hl:=H.ah (g.aR hx) h1;refine⟨h1,hdn,hdk,by omega,fun h2=>?_⟩;have ha:y.above≠0:=by rw[(e3 h2).1];exact g.aR hd
 exact(H.above (g.aR hx) ha).2.2.1
theorem Sim.bg (h:Sim R S)(g:Gd S rk k){s t:Spt}{ds n dt:Nat}(e1:s.dir=(ds:Int))(e2:s.ae=(n:Int))(e3:t.dir=(dt:Int)){xd xn xt:Nod}(hd:fnd S.ac (ds:Int)=some xd)(hf:fnd xd.ab s.name=some (n:Int))(hx:fnd S.ac (n:Int)=some xn)(ht:fnd S.ac (dt:Int)=some xt)(ht2:xt.aa=2)(htn:fnd xt.ab t.name=none)(htz:dt≠n){rd rn:Rn}(hrd:R[ds]? = some rd)(hrn:R[n]? = some rn)(v:Value) :
  ∃ rt,((R.set n rn.lost).set ds {rd with ai:=jp rd.ai s.name,ev:=v})[dt]? = some rt∧((R.set n rn.lost).set ds {rd with ai:=jp rd.ai s.name,ev:=v})[n]? = some rn.lost∧rt.ai.length≤k∧0≤rt.aq∧rt.aq≤k∧0≤rn.lost.ab∧rn.lost.ab≤k+1 ∧
   ∀ v2,Sim ((((R.set n rn.lost).set ds {rd with ai:=jp rd.ai s.name,ev:=v}).set dt (rt.aP t.name (n:Int) v2)).set n (rn.lost.named dt)) (S.bg s t):=by
 obtain⟨h1,hdn,hdk,hl1,hl2⟩:=g.named hd hf hx;have Ik:ds≠n:=by omega
 have hsz:=(g.ax hx).size;have L:=SimX.eE h hrd hrn hd hx Ik hdk s.name v xn.above (.inr rfl);have H9:fnd ((S.au (ds:Int) (Tre.dirTake xd s.name)).au (n:Int) {xn with ah:=xn.ah-1,above:=xn.above}).ac (n:Int)=some {xn with ah:=xn.ah-1,above:=xn.above} := lZ _ _;obtain⟨xt',F0,J8,Kf,hes,hmo⟩:∃ xt',fnd ((S.au (ds:Int) (Tre.dirTake xd s.name)).au (n:Int) {xn with ah:=xn.ah-1,above:=xn.above}).ac (dt:Int)=some xt'∧xt'.aa=2∧fnd xt'.ab t.name=none∧xt'.ab.length≤k∧0≤xt'.most∧xt'.most≤k:=by
  by_cases e:dt=ds
  ·subst e;rw[hd] at ht;cases ht;refine⟨Tre.dirTake xd s.name,mM (by omega) (lZ _ _),hdk,pX htn,?_,?_⟩
   ·have:=mA xd.ab s.name;have:=(g.ax hd).size.2.2.1;show (gq xd.ab s.name).length≤k;omega
   ·have:=(g.ax hd).size;exact⟨this.2.2.2.1,this.2.2.2.2.1⟩
  ·have:=(g.ax ht).size;exact⟨xt,mM (by omega) (mM (by omega) ht),ht2,htn,this.2.2.1,this.2.2.2.1,this.2.2.2.2.1⟩
 obtain⟨rt,hrt,st⟩:=L.aK F0;obtain⟨rn',G8,snn⟩:=L.aK H9;have hnl:n<R.length:=(List.getElem?_eq_some_iff.1 hrn).1;have hrl:((R.set n rn.lost).set ds {rd with ai:=jp rd.ai s.name,ev:=v})[n]? = some rn.lost:=by
  rw[List.getElem?_set_ne Ik,List.getElem?_set_self hnl]
 have hnn:rn.lost.ab=xn.ah-1:=by
  rw[hrl] at G8;cases G8;exact snn.ab
 refine⟨rt,hrt,hrl,by rw[st.ai.length_eq];exact hes,by rw[st.aq];exact hmo.1,by rw[st.aq];exact hmo.2,by omega,by omega,fun v2=>?_⟩;obtain⟨A,x',hx',hl'⟩:=L.add hrt hrl F0 H9 htz J8 Kf v2 (fun h2=>⟨by have:=hl2 h2;show xn.ah-1=0;omega,h1⟩) (by show 0≤xn.ah-1;omega);have B:=A.bK hx' hl';have e:S.bg s t=((S.au (ds:Int) (Tre.dirTake xd s.name)).au (n:Int) {xn with ah:=xn.ah-1,above:=xn.above}).add (dt:Int) t.name (n:Int):=by
  unfold Tre.bg;rw[e1,e2,e3,fC hd,fC hx]
 rw[e];exact B
theorem A4 (h:Gd S rk k){s t:Spt}{d td x y:Nod}(hd:fnd S.ac s.dir=some d)(hd2:d.aa=2)(hc:fnd d.ab s.name=some s.ae)(hx:fnd S.ac s.ae=some x)(htd:fnd S.ac t.dir=some td)(oS:td.aa=2)(htc:fnd td.ab t.name=some t.ae)(hy:fnd S.ac t.ae=some y)(hne:t.ae≠s.ae)(hst:s.ae≠t.dir)(hemp:y.aa=2→y.ab = []) :
  ∃ d1 td1,fnd (S.take t.dir t.name).ac s.dir=some d1∧fnd d1.ab s.name=some s.ae∧fnd (S.take t.dir t.name).ac s.ae=some x∧fnd (S.take t.dir t.name).ac t.dir=some td1∧td1.aa=2∧fnd td1.ab t.name=none:=by
 have htt:t.dir≠t.ae:=by
  exact zb9
 have hsd:s.dir≠t.ae:=by
  exact zcc
 have f1:=mG htd htc;refine⟨if s.dir=t.dir then Tre.dirTake td t.name else d,Tre.dirTake td t.name,?_,?_,?_,?_,oS,?_⟩
 ·rw[f1 _ hsd];split
  ·rfl
  ·exact hd
 ·by_cases e:s.dir=t.dir
  ·rw[if_pos e];have hdt:d=td:=by rw[e,htd] at hd;exact(Option.some.inj hd).symm
   have hnn:s.name≠t.name:=by
    intro e2;rw[hdt,e2,htc] at hc;exact hne (Option.some.inj hc)
   show fnd (gq td.ab t.name) s.name=_;rw[jF hnn,←hdt];exact hc
  ·rw[if_neg e];exact hc
 ·rw[f1 _ (fun e=>hne e.symm),if_neg hst];exact hx
 ·rw[f1 _ htt,if_pos rfl]
 ·exact zbk
end Go.Proofs.YtmgpgbfgemebbaaGreatDoor
