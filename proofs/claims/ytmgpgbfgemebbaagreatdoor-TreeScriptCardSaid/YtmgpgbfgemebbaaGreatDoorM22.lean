/- TEXTS of mine, merged. -/
import Derived.Test.YtmgpgbfgemebbaaGreatDoorM0
import Derived.Test.YtmgpgbfgemebbaaGreatDoorM19
import Derived.Test.YtmgpgbfgemebbaaGreatDoorM21
set_option linter.all false
set_option maxRecDepth 100000
set_option maxHeartbeats 16000000
namespace Go.Proofs.YtmgpgbfgemebbaaGreatDoor
open Go.RowKit Go.Own
theorem Sim.ck {R:List Rn}{S:Tre}(h:Sim R S){n:Int}{x:Nod}(hx:fnd S.ac n=some x)(hk:x.aa=1):x.data.length≤20736:=by
 obtain⟨i,r,rfl,-,hs⟩:=h.ae n x hx;exact hs.small hk
theorem uR (q:Nat)(S:Tre)(rk:Int→Nat)(k:Nat)(o:Opm)(ov:Value)(w:World)(L:List HP)(hk:k≤900)(hG:Gd S rk k)(po:Option Addr)(co:Nat)(ds:List Int)(hov:ov=.slice po ds.length co)(hkd:o.aa=4∨o.aa=6)(hof:o.off≤9223372036854775807∧-9223372036854775808≤o.off)(hds:ds.length≤1000000)(hrd:∀ w',Has w' L→Rd w' ov 1 ds.length (bc ds))(hO:Has w (Rts q S::L)) :
  zCl 68 #[.pointer (some ⟨q,0,none⟩),opV o ov] w fun e w'=>e=.returned (fL (S.write o.aa o.fd o.off ds).1 eS eS)∧Has w' (Rts q (S.write o.aa o.fd o.off ds).2::L)∧Keep w w':=by
 subst hov;have Bh:=hid hof;have Be:=hid hds;have NA:=hid hrd;clear hof hds hrd;obtain⟨g,c,R,hS,hO2⟩:=fh.1 hO;have HG:=hid hG;have HS:=hid hS;have HO:=hid hO2;have HT:=hid hG.tab16;have hrl:(R.length:Int)≤1000000:=by have:=hS.aA hG;omega
 have ll:=hid (by have:=hS.aA hG;omega:R.length≤100000);clear hO hO2 hG hS;rcases hl:Tb.look S.ak o.fd with _|s
 ·have HR:=hid (by unfold Tre.write Tre.file;simp[Tb.get,hl]:S.write o.aa o.fd o.off ds=(eQ 10,S));have lr:=hid (by simp[Tb.there,hl]:Tb.there S.ak o.fd=false);clear hl;unfold opV opC;go_enter Tryz.func68,Tryz.ntmps68
  go_upto_region 1 with fail
  obtain⟨w1,g3,g4,ew,e4,e3,eT,ff⟩:=f9 HO.out o (.slice po ds.length co)
  as_aux_lemma=>exact zaj
 ·obtain⟨kf,yh,hfd,yc,hon⟩:=Tb.look_in HT.out hl;have hkn:kf<16:=by have:=HT.out;omega
  have jU:=hid (by rw[List.getElem?_eq_getElem yh,yc]:S.ak[kf]? = some s);have lr:=hid (by rw[←hfd];simp[Tb.there,hl]:Tb.there S.ak (kf:Int)=true);obtain⟨⟨x,hx,hx3⟩,hs0,hs1⟩:=HG.out.opn o.fd s hl;have HL:=hid hl;have HX:=hid hx;have FR:=hid hx3;have py:=hid (by unfold Tb.get;rw[hl]:Tb.get S.ak o.fd=(s,0));have sS:=hid hfd;have hk0:(0:Int)≤(kf:Int):=by omega
  have hk1:(kf:Int)<16:=by omega
  obtain⟨n,r,hn,hr,hsn⟩:=HS.out.ae _ _ hx;have HN:=hid hn;have jl:=hid hr;have io:=hid hsn;have hnl:n<R.length:=(List.getElem?_eq_some_iff.1 hr).1;have hn0:(0:Int)≤(n:Int):=by omega
  have hn1:(n:Int)<(R.length:Int):=by omega
  have Bf:=hid hon;have HAT:=hid (fC hx);clear hfd hl yh yc hon hx hx3 hn hr hsn hnl;by_cases hfl:fc s.af 32=0
  ·have HR:=hid (show S.write o.aa o.fd o.off ds=(eQ 10,S) from by
    have h9:S.file o.fd true=(Tb.none4,10):=by unfold Tre.file;rw[py.out,if_neg (by simp),if_pos ⟨rfl,hfl⟩]
    unfold Tre.write;rw[h9];rfl)
   have hfb:(bits BinOp.and IntKind.i64 s.af 32==0)=true:=by simpa[fc] using hfl
   clear hfl;unfold opV opC;go_enter Tryz.func68,Tryz.ntmps68
   go_upto_region 1 with fail
   obtain⟨w1,g3,g4,ew,e4,e3,eT,ff⟩:=f9 HO.out o (.slice po ds.length co);rw[ew,e4,e3];clear HO ew e4 e3;have ij:=hid (fun(w:World)(L':List HP)(h:Has w (pt g3 (.cells #[.int .i64 o.aa,.int .i64 o.fd,.int .i64 o.n,.int .i64 o.off,.int .i64 o.af,sV o.ag,sV o.aj,(.slice po ds.length co)] 33)::L'))=>(by rw[←sS.out];exact⟨h.cells 0,h.cells 1,h.cells 2,h.cells 3,h.cells 7⟩:w.cell? ⟨g3,0,none⟩=some (.int .i64 o.aa)∧w.cell? ⟨g3,1,none⟩=some (.int .i64 (kf:Int))∧w.cell? ⟨g3,2,none⟩=some (.int .i64 o.n)∧w.cell? ⟨g3,3,none⟩=some (.int .i64 o.off)∧w.cell? ⟨g3,7,none⟩=some (.slice po ds.length co)));have jN:=hid (fun(w:World)(R':List Rn)(L':List HP)(h:Has w (Rtb q g c R' S.ak::L'))=>(by rw[←HN.out,←Bf.out];exact gK h jU.out:w.cell? ⟨q,1+kf*4,none⟩=some (.int .i64 (n:Int))∧w.cell? ⟨q,1+kf*4+1,none⟩=some (.int .i64 s.off)∧w.cell? ⟨q,1+kf*4+2,none⟩=some (.int .i64 s.af)∧w.cell? ⟨q,1+kf*4+3,none⟩=some (.bool true)));have eZ:=hid eT.out.drew;have fu:=hid ff.out.drew;refine eP (fun w'=>w'.cell? ⟨g3,1,none⟩=some (.int .i64 (kf:Int))∧w'.cell? ⟨q,1+kf*4+2,none⟩=some (.int .i64 s.af)) (by kernel_rfl) (by kernel_rfl) ⟨(ij.out _ _ eZ.out.p1).2.1,(jN.out _ _ _ eZ.out.p2).2.2.1⟩ ?_;clear eT ff;generalize w1.drew=w2 at *;repeat (first|refine wr2 ?_|refine wk ?_)
   refine wa fun K hK=>?_;go_simp
   refine(gR q _ S.ak (kf:Int) w2 _ HT.out (show Has w2 (RTe q _ S.ak::_) from fy.1 (eZ.out.re 3 [2,0,1]))).mono ?_;rintro e w' ⟨rfl,rfl⟩;rw[lr.out];try dsimp only
   refine hK.out _ _ ⟨(ij.out _ _ eZ.out.p1).2.1,(jN.out _ _ _ eZ.out.p2).2.2.1⟩ ?_;clear hK K;try simp only[Act.put,zpu]
   repeat (first|refine wr2 ?_|refine wk ?_)
   refine eR ?_;go_wp2_with fail
   have HC:=hid (gk (10:Int) w2 (pt g4 zA::Rtb q g c R S.ak::L) (eZ.out.re 3 [0,2]));have kz:=fu;exact lv
  have hfb:(bits BinOp.and IntKind.i64 s.af 32==0)=false:=by simpa[fc] using hfl
  have uY:=hid (HS.out.wopen o.fd s x HL.out HX.out hfl);have tM:=hid (by unfold Tre.file;rw[py.out,if_neg (by simp),if_neg (by simp[hfl]),HAT.out,if_neg (by rw[uY.out];decide)]:S.file o.fd true=(s,0));clear hfl;have qz:=hid (show x.data.length≤20736 from HS.out.ck HX.out uY.out);have hdi:(x.data.length:Int)≤20736:=by have:=qz.out;omega
  have ir:=hid (fun(w:World)(R':List Rn)(L':List HP)(hr:R'[n]? = some r)(h:Has w (Rtb q g c R' S.ak::L'))=>(show ∃ pd cd,w.cell? ⟨g,n*7+5,none⟩=some (.slice pd x.data.length cd) from by
   obtain⟨pd,cd,e,-⟩:=(Rtb.aO h hr).2.1.form;refine⟨pd,cd,?_⟩;rw[(Rtb.at_ h hr).2.2.2.2.2.1,e,io.out.data]))
  rcases hkd with hkd|hkd
  ·have hkb:(o.aa==6)=false:=by rw[hkd];rfl
   have kp:=kbT hkd 4;have Co:=hid hkd;clear hkd;unfold opV opC;go_enter Tryz.func68,Tryz.ntmps68
   go_upto_region 1 with fail
   obtain⟨w1,g3,g4,ew,e4,e3,eT,ff⟩:=f9 HO.out o (.slice po ds.length co);rw[ew,e4,e3];clear HO ew e4 e3;have ij:=hid (fun(w:World)(L':List HP)(h:Has w (pt g3 (.cells #[.int .i64 o.aa,.int .i64 o.fd,.int .i64 o.n,.int .i64 o.off,.int .i64 o.af,sV o.ag,sV o.aj,(.slice po ds.length co)] 33)::L'))=>(by rw[←sS.out];exact⟨h.cells 0,h.cells 1,h.cells 2,h.cells 3,h.cells 7⟩:w.cell? ⟨g3,0,none⟩=some (.int .i64 o.aa)∧w.cell? ⟨g3,1,none⟩=some (.int .i64 (kf:Int))∧w.cell? ⟨g3,2,none⟩=some (.int .i64 o.n)∧w.cell? ⟨g3,3,none⟩=some (.int .i64 o.off)∧w.cell? ⟨g3,7,none⟩=some (.slice po ds.length co)));have jN:=hid (fun(w:World)(R':List Rn)(L':List HP)(h:Has w (Rtb q g c R' S.ak::L'))=>(by rw[←HN.out,←Bf.out];exact gK h jU.out:w.cell? ⟨q,1+kf*4,none⟩=some (.int .i64 (n:Int))∧w.cell? ⟨q,1+kf*4+1,none⟩=some (.int .i64 s.off)∧w.cell? ⟨q,1+kf*4+2,none⟩=some (.int .i64 s.af)∧w.cell? ⟨q,1+kf*4+3,none⟩=some (.bool true)));have eZ:=hid eT.out.drew;have fu:=hid ff.out.drew;refine eP (fun w'=>w'.cell? ⟨g3,1,none⟩=some (.int .i64 (kf:Int))∧w'.cell? ⟨q,1+kf*4+2,none⟩=some (.int .i64 s.af)) (by kernel_rfl) (by kernel_rfl) ⟨(ij.out _ _ eZ.out.p1).2.1,(jN.out _ _ _ eZ.out.p2).2.2.1⟩ ?_;clear eT ff;generalize w1.drew=w2 at *;repeat (first|refine wr2 ?_|refine wk ?_)
   refine wa fun K hK=>?_;go_simp
   refine(gR q _ S.ak (kf:Int) w2 _ HT.out (show Has w2 (RTe q _ S.ak::_) from fy.1 (eZ.out.re 3 [2,0,1]))).mono ?_;rintro e w' ⟨rfl,rfl⟩;rw[lr.out];try dsimp only
   refine hK.out _ _ ⟨(ij.out _ _ eZ.out.p1).2.1,(jN.out _ _ _ eZ.out.p2).2.2.1⟩ ?_;clear hK K;try simp only[Act.put,zpu]
   repeat (first|refine wr2 ?_|refine wk ?_)
   refine eR ?_;go_upto_region 3 with fail
   have eW:=hid eZ.out.drew;have fH:=hid fu.out.drew;refine eP (fun w'=>w'.cell? ⟨g3,1,none⟩=some (.int .i64 (kf:Int))∧w'.cell? ⟨q,1+kf*4,none⟩=some (.int .i64 (n:Int))∧w'.cell? ⟨q,1+kf*4+1,none⟩=some (.int .i64 s.off)∧w'.cell? ⟨q,1+kf*4+2,none⟩=some (.int .i64 s.af)∧w'.cell? ⟨q,1+kf*4+3,none⟩=some (.bool true)) (by kernel_rfl) (by kernel_rfl) ⟨(ij.out _ _ (eW.out.p1)).2.1,jN.out _ _ _ (eW.out.p2)⟩ ?_;clear eZ fu;generalize w2.drew=w3 at *;repeat (first|refine wr5 ?_|refine wk ?_)
   refine wa fun K hK=>?_;go_simp
   have fa:=hid (eW.out.alloc (.cells #[.int .i64 0,.int .i64 0,.int .i64 0,.bool false] 93));have jk:=hid (fH.out.alloc (.cells #[.int .i64 0,.int .i64 0,.int .i64 0,.bool false] 93));refine hK.out _ _ ⟨(ij.out _ _ (fa.out.p2)).2.1,jN.out _ _ _ (fa.out.p3)⟩ ?_;clear hK K eW fH;try simp only[Act.put,zpu]
   generalize w3.heap.size=g5 at *;generalize w3.alloc (.cells #[.int .i64 0,.int .i64 0,.int .i64 0,.bool false] 93)=wZ9 at *;repeat (first|refine wr5 ?_|refine wk ?_)
   have ha0:=fa.out.e0;have ha1:=fa.out.e1;have ha2:=fa.out.e2;have mh:=fa.out.e3;have hb0:=fa.out.thaw 0;have hb1:=fa.out.thaw 1;have hb2:=fa.out.thaw 2;have hb3:=fa.out.thaw 3;refine wa fun K hK=>?_;go_simp
   have fg:=hid (fa.out.cg (n:Int) s.off s.af true);have fO:=hid ((((jk.out.set ⟨g5,0,none⟩ (.int .i64 (n:Int))).set ⟨g5,1,none⟩ (.int .i64 s.off)).set ⟨g5,2,none⟩ (.int .i64 s.af)).set ⟨g5,3,none⟩ (.bool true));refine hK.out _ _ ⟨(ij.out _ _ (fg.out.p2)).2.1,jN.out _ _ _ (fg.out.p3)⟩ ?_;clear hK K fa jk ha0 ha1 ha2 mh hb0 hb1 hb2 hb3;try simp only[Act.put,zpu]
   generalize (((wZ9.setCell ⟨g5,0,none⟩ (.int .i64 (n:Int))).setCell ⟨g5,1,none⟩ (.int .i64 s.off)).setCell ⟨g5,2,none⟩ (.int .i64 s.af)).setCell ⟨g5,3,none⟩ (.bool true)=w4 at *;repeat (first|refine wr5 ?_|refine wk ?_)
   refine eR ?_;have hf1:=fg.out.e1;have hp0:w4.cell? ⟨g3,0,none⟩=some (.int .i64 o.aa):=(ij.out _ _ fg.out.p2).1;obtain⟨fo,hfo⟩:∃ fo:Int,(if fc s.af 8≠0 then(x.data.length:Int) else s.off)=fo:=⟨_,rfl⟩
   have Eq:0≤fo∧fo≤1099511627776:=by rw[←hfo];split <;> omega
   have wA:=hid (show S.write o.aa o.fd o.off ds=(if fo<0 then(eQ 2,S) else if fo>20736-((min ds.length 20736:Nat):Int)∨20736<ds.length then(eQ 15,S) else if ds.length=0 then(eQ 0,S) else(⟨0,ds.length,0,0,[],[]⟩,{S.au s.ae (fE x fo.toNat ds) with ak:=(Tb.aM (S.au s.ae (fE x fo.toNat ds)).ak o.fd (fo+(ds.length:Int))).2})) from by
    unfold Tre.write;rw[tM.out];simp only[HAT.out];rw[if_neg (by simp),Co.out];simp only[eq_false (show ¬ (4:Int)=6 by decide),eq_false (show ¬ (6:Int)=4 by decide),false_and,true_and,if_false,if_true,hfo];rw[if_neg (show ¬ fo<0 by omega)])
   have wU:=hid hfo;clear hfo;go_upto_block 0 with fail
   go_cut [6] (fun v wx=>v=.int .i64 fo∧∃ w6,w6=wx∧Hid (Has w6 (pt g5 (.cells #[.int .i64 (n:Int),.int .i64 s.off,.int .i64 s.af,.bool true] 93)::pt g4 zA::pt g3 (.cells #[.int .i64 o.aa,.int .i64 o.fd,.int .i64 o.n,.int .i64 o.off,.int .i64 o.af,sV o.ag,sV o.aj,(.slice po ds.length co)] 33)::Rtb q g c R S.ak::L))∧Hid (Keep w w6))
   case first =>
    have hp0:w4.cell? ⟨g3,0,none⟩=some (.int .i64 o.aa):=(ij.out _ _ fg.out.p2).1;have hf2:=fg.out.e2;by_cases h8:fc s.af 8=0
    ·have HE:=hid (by rw[←wU.out,if_neg (by simp[h8])]:s.off=fo);have Lb:(bits BinOp.and IntKind.i64 s.af 8 != 0)=false:=by simpa[fc] using h8
     clear h8;go_wp2_with fail
     go_meet
     exact⟨by rw[HE.out],_,rfl,fg,fO⟩
    ·have HE:=hid (by rw[←wU.out,if_pos h8]:(x.data.length:Int)=fo);have Lb:(bits BinOp.and IntKind.i64 s.af 8 != 0)=true:=by simpa[fc] using h8
     clear h8;obtain⟨pd,cd,c5⟩:=ir.out _ _ _ jl.out fg.out.drew.p3;go_upto_region 8 with fail
     have fq:=hid fg.out.drew;have gu:=hid fO.out.drew;refine eP (fun w'=>w'.cell? ⟨g5,0,none⟩=some (.int .i64 (n:Int))∧w'.cell? ⟨q,0,none⟩=some (.slice (some ⟨g,0,none⟩) R.length c)∧w'.cell? ⟨g,n*7+5,none⟩=some (.slice pd x.data.length cd)) (by kernel_rfl) (by kernel_rfl) ⟨fq.out.cells 0,Rtb.nv fq.out.p3,c5⟩ ?_;clear fg fO hp0 hf2;generalize w4.drew=w6 at *
     as_aux_lemma=>exact zcn
   case rest =>
    obtain⟨rfl,w6,rfl,fq,gu⟩:=hcut;clear fg fO;have lU:w6.cell? ⟨g3,7,none⟩=some (.slice po ds.length co):=(ij.out _ _ fq.out.p2).2.2.2.2;have hf0:0≤fo:=by omega
    have hdl0:(0:Int)≤(ds.length:Int):=by omega
    have LL:(ds.length:Int)≤1000000:=by have:=Be.out;omega
    by_cases h2:(20736:Int)<fo
    ·as_aux_lemma=>exact zaG
    have hsub:IntKind.i64.wrap (20736-fo)=20736-fo:=ft _ (by omega);by_cases h3:20736-fo<(ds.length:Int)
    ·as_aux_lemma=>exact zaG
    by_cases h4:ds.length=0
    ·as_aux_lemma=>exact zaX
    have MS:((ds.length:Int)==0)=false:=by simpa using h4
    obtain⟨off,hoff⟩:∃ off:Nat,fo=(off:Int):=⟨fo.toNat,by omega⟩
    have HR0:=hid (show S.write o.aa o.fd o.off ds=(⟨0,ds.length,0,0,[],[]⟩,{S.au (n:Int) (fE x off ds) with ak:=(Tb.aM S.ak o.fd ((off:Int)+(ds.length:Int))).2}) from by
     rw[wA.out,if_neg (by omega),if_neg (by omega),if_neg h4,hoff,Int.toNat_natCast,HN.out];try rfl)
    have Me:=hid (fun dv tv=>show Sim (R.set n (r.wrote off ds dv tv)) (S.au (n:Int) (fE x off ds)) from HS.out.write (by rw[←HN.out];exact HX.out) jl.out (by rw[←HN.out];exact io.out) uY.out off ds (by omega) (by omega) dv tv);have LR:=hid (fun(w:World)(h:Has w (Rtb q g c R S.ak::pt g5 (.cells #[.int .i64 (n:Int),.int .i64 s.off,.int .i64 s.af,.bool true] 93)::pt g4 zA::pt g3 (.cells #[.int .i64 o.aa,.int .i64 o.fd,.int .i64 o.n,.int .i64 o.off,.int .i64 o.af,sV o.ag,sV o.aj,(.slice po ds.length co)] 33)::L))=>vK q g c R S.ak n r off (.slice po ds.length co) ds w _ jl.out (by rw[io.out.data];exact qz.out) (by rw[(io.out.there uY.out).1,List.length_append,List.length_replicate];have:=(io.out.there uY.out).2;have h9:fk x.data.length≤162:=jr (b:=20736) qz.out;omega) (by omega) (by omega) ll.out (fun w' h'=>NA.out w' h'.drop.drop.drop) h);rw[hoff] at h2 h3 hsub hf0;clear h4 Eq wA wU;have hf0:=fq.out.e0;rw[hoff];clear hoff;go_wp2_with fail
    refine st (LR.out w6 (fq.out.re 4 [3,0,1,2])) (gu.out) fun w7 fP gZ=>?_;try dsimp only
    obtain⟨dv,tv,l9⟩:=fP.out;have fI:=hid l9;clear fP l9 fq gu hf0 lU;have lU:w7.cell? ⟨g3,7,none⟩=some (.slice po ds.length co):=(ij.out _ _ fI.out.p3).2.2.2.2;have hp0:w7.cell? ⟨g3,0,none⟩=some (.int .i64 o.aa):=(ij.out _ _ fI.out.p3).1;have oJ:=hid (show (Tb.aM S.ak o.fd ((off:Int)+(ds.length:Int))).2=S.ak.set kf {s with off:=(off:Int)+(ds.length:Int)} from rl HL.out sS.out (by omega));have hadd:IntKind.i64.wrap ((off:Int)+(ds.length:Int))=(off:Int)+(ds.length:Int):=ft _ (by omega);go_upto_region 17 with fail
    have gC:=hid fI.out.drew;have iG:=hid gZ.out.drew;have hc1:=(jN.out _ _ _ gC.out).2.1;have ht1:=(fy.1 gC.out).thaw (1+kf*4+1);refine fT (fun w'=>w'.cell? ⟨g3,1,none⟩=some (.int .i64 (kf:Int))∧w'.cell? ⟨g3,7,none⟩=some (.slice po ds.length co)) (by kernel_rfl) (by kernel_rfl) (by kernel_rfl) (by decide) ⟨(ij.out _ _ gC.out.p3).2.1,(ij.out _ _ gC.out.p3).2.2.2.2⟩ ?_;clear hp0 lU;repeat (first|refine wr2 ?_|refine wk ?_)
    refine eR ?_;refine gI rfl (by rfl) ?_;go_simp
    have fJ:=hid (show Has (w7.setCell ⟨q,1+kf*4+1,none⟩ (.int .i64 ((off:Int)+(ds.length:Int)))).drew (pt g4 zA::pt g3 (.cells #[.int .i64 o.aa,.int .i64 o.fd,.int .i64 o.n,.int .i64 o.off,.int .i64 o.af,sV o.ag,sV o.aj,(.slice po ds.length co)] 33)::Rtb q g c (R.set n (r.wrote off ds dv tv)) (S.ak.set kf {s with off:=(off:Int)+(ds.length:Int)})::L) from((Rtb.bI fI.out jU.out ((off:Int)+(ds.length:Int))).drew).re 4 [2,3,0]);have gQ:=hid ((gZ.out.set ⟨q,1+kf*4+1,none⟩ (.int .i64 ((off:Int)+(ds.length:Int)))).drew);clear hc1 ht1 gC iG fI gZ;generalize (w7.setCell ⟨q,1+kf*4+1,none⟩ (.int .i64 ((off:Int)+(ds.length:Int)))).drew=w9 at *;have lU:w9.cell? ⟨g3,7,none⟩=some (.slice po ds.length co):=(ij.out _ _ fJ.out.p1).2.2.2.2;have gJ:=hid fJ.out.ve;obtain⟨hz0,hz1,hz2,hz3,gP,gH,hy0,hy1,hy2,hy3,hy4,gG⟩:=Has.az (gJ.out);go_wp2_with fail
    have h1:=(gJ.out).ans ((⟨0,ds.length,0,0,[],[]⟩:Ans)) (eS) (eS);refine bodyPost_ret (eV rfl rfl h1) rfl ?_;rw[HR0.out];refine⟨rfl,fh.2 ⟨g,c,_,(Me.out dv tv).aM o.fd ((off:Int)+(ds.length:Int)),?_⟩,gQ.out.ans _ _ _ _ _ _ _⟩;show Has _ (Rtb q g c _ (Tb.aM S.ak o.fd ((off:Int)+(ds.length:Int))).2::L);rw[oJ.out];exact h1.drop
  ·have hkb:(o.aa==6)=true:=by rw[hkd];rfl
   have kp:=kbF hkd 4;have Co:=hid hkd;clear hkd;unfold opV opC;go_enter Tryz.func68,Tryz.ntmps68
   go_upto_region 1 with fail
   obtain⟨w1,g3,g4,ew,e4,e3,eT,ff⟩:=f9 HO.out o (.slice po ds.length co);rw[ew,e4,e3];clear HO ew e4 e3;have ij:=hid (fun(w:World)(L':List HP)(h:Has w (pt g3 (.cells #[.int .i64 o.aa,.int .i64 o.fd,.int .i64 o.n,.int .i64 o.off,.int .i64 o.af,sV o.ag,sV o.aj,(.slice po ds.length co)] 33)::L'))=>(by rw[←sS.out];exact⟨h.cells 0,h.cells 1,h.cells 2,h.cells 3,h.cells 7⟩:w.cell? ⟨g3,0,none⟩=some (.int .i64 o.aa)∧w.cell? ⟨g3,1,none⟩=some (.int .i64 (kf:Int))∧w.cell? ⟨g3,2,none⟩=some (.int .i64 o.n)∧w.cell? ⟨g3,3,none⟩=some (.int .i64 o.off)∧w.cell? ⟨g3,7,none⟩=some (.slice po ds.length co)));have jN:=hid (fun(w:World)(R':List Rn)(L':List HP)(h:Has w (Rtb q g c R' S.ak::L'))=>(by rw[←HN.out,←Bf.out];exact gK h jU.out:w.cell? ⟨q,1+kf*4,none⟩=some (.int .i64 (n:Int))∧w.cell? ⟨q,1+kf*4+1,none⟩=some (.int .i64 s.off)∧w.cell? ⟨q,1+kf*4+2,none⟩=some (.int .i64 s.af)∧w.cell? ⟨q,1+kf*4+3,none⟩=some (.bool true)));have eZ:=hid eT.out.drew;have fu:=hid ff.out.drew;refine eP (fun w'=>w'.cell? ⟨g3,1,none⟩=some (.int .i64 (kf:Int))∧w'.cell? ⟨q,1+kf*4+2,none⟩=some (.int .i64 s.af)) (by kernel_rfl) (by kernel_rfl) ⟨(ij.out _ _ eZ.out.p1).2.1,(jN.out _ _ _ eZ.out.p2).2.2.1⟩ ?_;clear eT ff;generalize w1.drew=w2 at *;repeat (first|refine wr2 ?_|refine wk ?_)
   refine wa fun K hK=>?_;go_simp
   refine(gR q _ S.ak (kf:Int) w2 _ HT.out (show Has w2 (RTe q _ S.ak::_) from fy.1 (eZ.out.re 3 [2,0,1]))).mono ?_;rintro e w' ⟨rfl,rfl⟩;rw[lr.out];try dsimp only
   refine hK.out _ _ ⟨(ij.out _ _ eZ.out.p1).2.1,(jN.out _ _ _ eZ.out.p2).2.2.1⟩ ?_;clear hK K;try simp only[Act.put,zpu]
   repeat (first|refine wr2 ?_|refine wk ?_)
   refine eR ?_;go_upto_region 3 with fail
   have eW:=hid eZ.out.drew;have fH:=hid fu.out.drew;refine eP (fun w'=>w'.cell? ⟨g3,1,none⟩=some (.int .i64 (kf:Int))∧w'.cell? ⟨q,1+kf*4,none⟩=some (.int .i64 (n:Int))∧w'.cell? ⟨q,1+kf*4+1,none⟩=some (.int .i64 s.off)∧w'.cell? ⟨q,1+kf*4+2,none⟩=some (.int .i64 s.af)∧w'.cell? ⟨q,1+kf*4+3,none⟩=some (.bool true)) (by kernel_rfl) (by kernel_rfl) ⟨(ij.out _ _ (eW.out.p1)).2.1,jN.out _ _ _ (eW.out.p2)⟩ ?_;clear eZ fu;generalize w2.drew=w3 at *;repeat (first|refine wr5 ?_|refine wk ?_)
   refine wa fun K hK=>?_;go_simp
   have fa:=hid (eW.out.alloc (.cells #[.int .i64 0,.int .i64 0,.int .i64 0,.bool false] 93));have jk:=hid (fH.out.alloc (.cells #[.int .i64 0,.int .i64 0,.int .i64 0,.bool false] 93));refine hK.out _ _ ⟨(ij.out _ _ (fa.out.p2)).2.1,jN.out _ _ _ (fa.out.p3)⟩ ?_;clear hK K eW fH;try simp only[Act.put,zpu]
   generalize w3.heap.size=g5 at *;generalize w3.alloc (.cells #[.int .i64 0,.int .i64 0,.int .i64 0,.bool false] 93)=wZ9 at *;repeat (first|refine wr5 ?_|refine wk ?_)
   have ha0:=fa.out.e0;have ha1:=fa.out.e1;have ha2:=fa.out.e2;have mh:=fa.out.e3;have hb0:=fa.out.thaw 0;have hb1:=fa.out.thaw 1;have hb2:=fa.out.thaw 2;have hb3:=fa.out.thaw 3;refine wa fun K hK=>?_;go_simp
   have fg:=hid (fa.out.cg (n:Int) s.off s.af true);have fO:=hid ((((jk.out.set ⟨g5,0,none⟩ (.int .i64 (n:Int))).set ⟨g5,1,none⟩ (.int .i64 s.off)).set ⟨g5,2,none⟩ (.int .i64 s.af)).set ⟨g5,3,none⟩ (.bool true));refine hK.out _ _ ⟨(ij.out _ _ (fg.out.p2)).2.1,jN.out _ _ _ (fg.out.p3)⟩ ?_;clear hK K fa jk ha0 ha1 ha2 mh hb0 hb1 hb2 hb3;try simp only[Act.put,zpu]
   generalize (((wZ9.setCell ⟨g5,0,none⟩ (.int .i64 (n:Int))).setCell ⟨g5,1,none⟩ (.int .i64 s.off)).setCell ⟨g5,2,none⟩ (.int .i64 s.af)).setCell ⟨g5,3,none⟩ (.bool true)=w4 at *;repeat (first|refine wr5 ?_|refine wk ?_)
   refine eR ?_;have hf1:=fg.out.e1;have hp0:w4.cell? ⟨g3,0,none⟩=some (.int .i64 o.aa):=(ij.out _ _ fg.out.p2).1;obtain⟨fo,hfo⟩:∃ fo:Int,o.off=fo:=⟨_,rfl⟩
   have Eq:fo≤9223372036854775807∧-9223372036854775808≤fo:=by rw[←hfo];exact Bh.out
   have wA:=hid (show S.write o.aa o.fd o.off ds=(if fo<0 then(eQ 2,S) else if fo>20736-((min ds.length 20736:Nat):Int)∨20736<ds.length then(eQ 15,S) else if ds.length=0 then(eQ 0,S) else(⟨0,ds.length,0,0,[],[]⟩,S.au s.ae (fE x fo.toNat ds))) from by
    unfold Tre.write;rw[tM.out];simp only[HAT.out];rw[if_neg (by simp),Co.out];simp only[eq_false (show ¬ (4:Int)=6 by decide),eq_false (show ¬ (6:Int)=4 by decide),false_and,true_and,if_false,if_true,hfo];try rfl)
   have wU:=hid hfo;clear hfo;go_upto_block 0 with fail
   go_cut [6] (fun v wx=>v=.int .i64 fo∧∃ w6,w6=wx∧Hid (Has w6 (pt g5 (.cells #[.int .i64 (n:Int),.int .i64 s.off,.int .i64 s.af,.bool true] 93)::pt g4 zA::pt g3 (.cells #[.int .i64 o.aa,.int .i64 o.fd,.int .i64 o.n,.int .i64 o.off,.int .i64 o.af,sV o.ag,sV o.aj,(.slice po ds.length co)] 33)::Rtb q g c R S.ak::L))∧Hid (Keep w w6))
   case first =>
    have HE:=hid (show o.off=fo from wU.out);have hp3:w4.cell? ⟨g3,3,none⟩=some (.int .i64 o.off):=(ij.out _ _ fg.out.p2).2.2.2.1;have hp0:w4.cell? ⟨g3,0,none⟩=some (.int .i64 o.aa):=(ij.out _ _ fg.out.p2).1;go_wp2_with fail
    go_meet
    exact⟨by rw[HE.out],_,rfl,fg,fO⟩
   case rest =>
    obtain⟨rfl,w6,rfl,fq,gu⟩:=hcut;clear fg fO;have lU:w6.cell? ⟨g3,7,none⟩=some (.slice po ds.length co):=(ij.out _ _ fq.out.p2).2.2.2.2;by_cases h1:fo<0
    ·have HR:=hid (by rw[wA.out,if_pos h1]:S.write o.aa o.fd o.off ds=(eQ 2,S))
     as_aux_lemma=>exact zaZ
    have hf0:0≤fo:=by omega
    have hdl0:(0:Int)≤(ds.length:Int):=by omega
    have LL:(ds.length:Int)≤1000000:=by have:=Be.out;omega
    by_cases h2:(20736:Int)<fo
    ·as_aux_lemma=>exact zaG
    have hsub:IntKind.i64.wrap (20736-fo)=20736-fo:=ft _ (by omega);by_cases h3:20736-fo<(ds.length:Int)
    ·as_aux_lemma=>exact zaG
    by_cases h4:ds.length=0
    ·as_aux_lemma=>exact zaX
    have MS:((ds.length:Int)==0)=false:=by simpa using h4
    obtain⟨off,hoff⟩:∃ off:Nat,fo=(off:Int):=⟨fo.toNat,by omega⟩
    have HR0:=hid (show S.write o.aa o.fd o.off ds=(⟨0,ds.length,0,0,[],[]⟩,S.au (n:Int) (fE x off ds)) from by
     rw[wA.out,if_neg (by omega),if_neg (by omega),if_neg h4,hoff,Int.toNat_natCast,HN.out];try rfl)
    have Me:=hid (fun dv tv=>show Sim (R.set n (r.wrote off ds dv tv)) (S.au (n:Int) (fE x off ds)) from HS.out.write (by rw[←HN.out];exact HX.out) jl.out (by rw[←HN.out];exact io.out) uY.out off ds (by omega) (by omega) dv tv);have LR:=hid (fun(w:World)(h:Has w (Rtb q g c R S.ak::pt g5 (.cells #[.int .i64 (n:Int),.int .i64 s.off,.int .i64 s.af,.bool true] 93)::pt g4 zA::pt g3 (.cells #[.int .i64 o.aa,.int .i64 o.fd,.int .i64 o.n,.int .i64 o.off,.int .i64 o.af,sV o.ag,sV o.aj,(.slice po ds.length co)] 33)::L))=>vK q g c R S.ak n r off (.slice po ds.length co) ds w _ jl.out (by rw[io.out.data];exact qz.out) (by rw[(io.out.there uY.out).1,List.length_append,List.length_replicate];have:=(io.out.there uY.out).2;have h9:fk x.data.length≤162:=jr (b:=20736) qz.out;omega) (by omega) (by omega) ll.out (fun w' h'=>NA.out w' h'.drop.drop.drop) h);rw[hoff] at h2 h3 hsub hf0;clear h4 Eq wA wU;have hf0:=fq.out.e0;rw[hoff];clear hoff;go_wp2_with fail
    refine st (LR.out w6 (fq.out.re 4 [3,0,1,2])) (gu.out) fun w7 fP gZ=>?_;try dsimp only
    obtain⟨dv,tv,l9⟩:=fP.out;have fI:=hid l9;clear fP l9 fq gu hf0 lU;have lU:w7.cell? ⟨g3,7,none⟩=some (.slice po ds.length co):=(ij.out _ _ fI.out.p3).2.2.2.2;have hp0:w7.cell? ⟨g3,0,none⟩=some (.int .i64 o.aa):=(ij.out _ _ fI.out.p3).1;have fJ:=hid fI.out.va;obtain⟨hz0,hz1,hz2,hz3,gP,gH,hy0,hy1,hy2,hy3,hy4,gG⟩:=Has.az (fJ.out);go_wp2_with fail
    have h1:=(fJ.out).ans ((⟨0,ds.length,0,0,[],[]⟩:Ans)) (eS) (eS);refine bodyPost_ret (eV rfl rfl h1) rfl ?_;rw[HR0.out];exact⟨rfl,fh.2 ⟨g,c,_,Me.out dv tv,h1.drop⟩,gZ.out.ans _ _ _ _ _ _ _⟩
end Go.Proofs.YtmgpgbfgemebbaaGreatDoor
