/- TEXTS of mine, merged. -/
import Derived.Test.YtmgpgbfgemebbaaGreatDoorM0
import Derived.Test.YtmgpgbfgemebbaaGreatDoorM10
import Derived.Test.YtmgpgbfgemebbaaGreatDoorM9
import Derived.Test.YtmgpgbfgemebbaaGreatDoorM5
import Derived.Test.YtmgpgbfgemebbaaGreatDoorM8
import Derived.Test.YtmgpgbfgemebbaaGreatDoorM7
set_option linter.all false
set_option maxRecDepth 100000
set_option maxHeartbeats 16000000
namespace Go.Proofs.YtmgpgbfgemebbaaGreatDoor
open Go.RowKit Go.Own
theorem DL (q:Nat)(S:Tre)(o:Opm)(ov:Value)(mx:Int)(w:World)(L:List HP)(hk:o.aa=14∨o.aa=18)(hW:Wk S)(hM:MxL mx L)(hp:o.ag.length≤100000)(hdl:∀ n x,fnd S.ac n=some x→x.data.length≤100000∧x.ab.length≤1000000)(hO:Has w (Trc q S::L)) :
  zCl 58 #[.pointer (some ⟨q,0,none⟩),opV o ov] w fun e w'=>∃ dv nv,e=.returned (fL (S.list o.aa o.ag) dv nv)∧Has w' (Bytes dv (S.list o.aa o.ag).data::Strs nv (S.list o.aa o.ag).ab::Trc q S::L)∧Keep w w':=by
 have HF:=hid (fun(w:World)(L':List HP)(hM:MxL mx L')(hO:Has w (Trc q S::L'))=>o4 q S o.ag (o.aa==18) mx w L' hW hM hp hO);have lr:=hid (gh hW o.ag (o.aa==18));generalize hR:S.list o.aa o.ag=R;unfold Tre.list at hR;generalize S.find o.ag (o.aa==18)=F at *;obtain⟨s2,e2⟩:=F;dsimp only at *;have HR:=hid hR;have HM:=hid hM;have pI:=hid hdl;have HO:=hid hO;clear hO hR hW hM hp hdl;unfold opV opC;go_enter Tryz.func58,Tryz.ntmps58
 go_upto_region 1 with fail
 obtain⟨w1,g3,g4,ew,e4,e3,eT,ff⟩:=f9 HO.out o ov;rw[ew,e4,e3];clear HO ew e4 e3;have iK:=eT.out.p1.e5;have kI:=eT.out.p1.e6;have hp0:=eT.out.p1.e0;have BA:=hid (show MxL mx (pt g4 zA::pt g3 (.cells (opC o ov) 33)::L) from(HM.out.cons _).cons _);go_cut [5,6] (fun p5 e6 wx=>∃ (w3:World) (g5:Nat),w3=wx∧e6=.int .i64 e2∧p5=.pointer (some ⟨g5,0,none⟩)∧Hid (Has w3 (Trc q S::pt g5 (.cells (spC s2) 102)::pt g4 zA::pt g3 (.cells (opC o ov) 33)::L))∧Hid (Keep w w3))
 case first =>
  exact zc9
 case rest =>
  obtain⟨w3,g5,rfl,rfl,rfl,eW,fH⟩:=hcut;clear eT ff iK kI hp0 HF;have fa:=hid eW.out.va;by_cases he:e2=0
  ·subst he;obtain⟨x,hx⟩:=lr.out rfl;have hat:S.at_ s2.ae=x:=by unfold Tre.at_;rw[hx];rfl
   have pT:=hid (pI.out _ _ hx);have HR1:=hid (show (if o.aa=18∧x.aa≠2 then eQ 7 else if o.aa=18 then⟨0,0,0,0,[],gO (x.ab.map Prod.fst)⟩ else if x.aa≠3 then eQ 2 else⟨0,0,0,0,x.data,[]⟩)=R from by
    have h:=HR.out;rw[if_neg (fun h=>h rfl),hat] at h;exact h)
   clear HR;obtain⟨m,f,P,hJ,h⟩:=eY.1 eW.out.drew;have fW:=hid hJ;have hx':=hx;rw[←hJ.1] at hx';obtain⟨b,hb,hl⟩:=Trb.look h hx';have hq:=(Trb.cells h).1;have hs0:w3.drew.cell? ⟨g5,0,none⟩=some (.int .i64 s2.ae):=h.p1.cells 0;have fg:=hid h;have fO:=hid fH.out.drew;have HB:=hid hb;clear h hx' hJ eW fH fa hb;go_upto_region 4 with fail
   refine eP (fun w'=>w'.cell? ⟨q,0,none⟩=some (.map (some m))∧w'.cell? ⟨g5,0,none⟩=some (.int .i64 s2.ae)∧(Instr.lookup tNo (.map (some m)) (.int .i64 s2.ae) false).run Tryz.prog w'=.ok (.pointer (some ⟨b,0,none⟩)) w') (by kernel_rfl) (by kernel_rfl) ⟨hq,hs0,hl⟩ ?_;repeat (first|refine wr3 ?_|refine wk ?_)
   refine eR ?_;clear hq hs0 hl;generalize w3.drew=w4 at *;obtain⟨A,B,dv,wv,nm,kj,hnm,hN⟩:=Trb.take fg.out HB.out;have nZ:=hid kj;have lg:=hid hnm;have HN:=hid hN;clear kj hnm hN;have hb0:=HN.out.e0;have hb1:=HN.out.e1;have hb3:=HN.out.e3;have hg0:=fg.out.p3.e0;have fa:=hid (eY.2 ⟨m,f,P,fW.out,fg.out.re 4 [0,2]⟩:Has w4 (Trc q S::pt g4 zA::L)).vc;rcases hk with hk|hk
   ·rw[hk] at hg0;by_cases hx3:x.aa=3
    ·have hxb:(x.aa != 3)=false:=by simp[hx3]
     have HRR:=hid (by rw[←HR1.out,if_neg (fun h=>absurd (hk.symm.trans h.1) (by decide)),if_neg (fun h=>absurd (hk.symm.trans h) (by decide)),if_neg (fun h=>h hx3)]:R=⟨0,0,0,0,x.data,[]⟩);have hrd:=Dat.rd HN.out.p1;obtain⟨pd,cd,rfl,-⟩:=hrd.form;have ir:=hid hrd;clear hrd;go_wp2_with fail
     refine(mX _ x.data w4 _ fa.out ir.out (by have:=pT.out;omega)).mono ?_;rintro e w6 ⟨v6,rfl,qu,hK6⟩;have fq:=hid qu;have gu:=hid ((fO.out).trans hK6);clear qu hK6;try dsimp only
     obtain⟨p6,c6,rfl,-⟩:=(Bytes.rd fq.out).form;clear hb0 hb1 hb3 hg0;have kB:=hid (show Has w6 (pt g4 zA::Bytes (.slice p6 x.data.length c6) x.data::Trc q S::L) from fq.out.p1);obtain⟨hz0,hz1,hz2,hz3,gP,gH,hy0,hy1,hy2,hy3,hy4,gG⟩:=Has.az (kB.out);go_wp2_with fail
     have h1:=kB.out.ans ⟨0,0,0,0,x.data,[]⟩ (.slice p6 x.data.length c6) eS;refine bodyPost_ret (eV rfl rfl h1) rfl ?_;rw[HRR.out];exact⟨_,eS,rfl,(h1.drop.al gx 1).re 3 [1,0,2],gu.out.ans _ _ _ _ _ _ _⟩
    ·have hxb:(x.aa != 3)=true:=by simpa using hx3
     have HRR:=hid (by rw[←HR1.out,if_neg (fun h=>absurd (hk.symm.trans h.1) (by decide)),if_neg (fun h=>absurd (hk.symm.trans h) (by decide)),if_pos hx3]:R=eQ 2);obtain⟨hz0,hz1,hz2,hz3,gP,gH,hy0,hy1,hy2,hy3,hy4,gG⟩:=Has.az (fa.out);go_wp2_with fail
     have HC:=hid (gD (2:Int) w4 (pt g4 zA::Trc q S::L) fa.out);exact zbK
   ·rw[hk] at hg0;by_cases hx2:x.aa=2
    ·have hxb:(x.aa != 2)=false:=by simp[hx2]
     have HRR:=hid (by rw[←HR1.out,if_neg (fun h=>h.2 hx2),if_pos hk]:R=⟨0,0,0,0,[],gO (x.ab.map Prod.fst)⟩);obtain⟨mm,rfl⟩:=lg.out hx2;have IS:=hid HN.out.vh;go_wp2_with fail
     refine(Iv mm w4).mono ?_;rintro e w' ⟨rfl,rfl⟩;try dsimp only
     go_wp2_with fail
     refine(C5 mm x.ab w4 _ pT.out.2 IS.out).mono ?_;rintro e w6 ⟨v6,rfl,qu,hK6⟩;try dsimp only
     have fq:=hid (show Has w6 (pt g4 zA::Strs v6 (gO (x.ab.map Prod.fst))::Trc q S::L) from by
      have h1:=qu.re 9 [2,3,4,1,5,0,7];have h2:=Trb.shut nZ.out (fun _=>⟨mm,rfl⟩) h1;rw[←nZ.out] at h2;have h3:=eY.2 ⟨m,f,P,fW.out,h2⟩;exact h3.re 3 [2,1,0])
     have gu:=hid (fO.out.trans hK6);clear qu hK6 IS HN fg fa hb0 hb1 hb3 hg0;obtain⟨p6,c6,rfl,-⟩:=(Strs.rd fq.out.p1).form;obtain⟨hz0,hz1,hz2,hz3,gP,gH,hy0,hy1,hy2,hy3,hy4,gG⟩:=Has.az (fq.out);go_wp2_with fail
     have h1:=fq.out.ans ⟨0,0,0,0,[],gO (x.ab.map Prod.fst)⟩ eS (.slice p6 (gO (x.ab.map Prod.fst)).length c6);refine bodyPost_ret (eV rfl rfl h1) rfl ?_;rw[HRR.out];exact⟨eS,_,rfl,h1.drop.al 5 1,gu.out.ans _ _ _ _ _ _ _⟩
    ·have hxb:(x.aa != 2)=true:=by simpa using hx2
     have HRR:=hid (by rw[←HR1.out,if_pos ⟨hk,hx2⟩]:R=eQ 7);exact zcY
  ·have heb:(e2 != 0)=true:=by simpa using he
   have HRR:=hid (by rw[←HR.out,if_pos he]:R=eQ e2);exact zcW
theorem tW (q:Nat)(S:Tre)(fd n off af:Int)(ag aj:Str)(ov:Value)(w:World)(L:List HP)(mx:Int)(hW:Wk S)(hM:MxL mx L)(hp:ag.length≤100000)(hdl:∀ n x,fnd S.ac n=some x→x.data.length≤100000∧x.ab.length≤1000000)(hO:Has w (Trc q S::L)) :
  zCl 16 #[.pointer (some ⟨q,0,none⟩),opV ⟨14,fd,n,off,af,ag,aj⟩ (ov)] w fun e w'=>∃ dv nv,e=.returned (fL (S.list 14 ag) dv nv)∧Has w' (Bytes dv (S.list 14 ag).data::Strs nv (S.list 14 ag).ab::Trc q S::L)∧Keep w w':=by
 have HX0:=(fun(w:World)(L':List HP)(hM:MxL mx L')(hO:Has w (Trc q S::L'))=>DL q S ⟨14,fd,n,off,af,ag,aj⟩ ov mx w L' (.inl rfl) hW hM hp hdl hO)
 try dsimp only at HX0
 have HX:=hid HX0;clear HX0;have HM:=hid hM;clear hM;generalize S.list 14 ag=R at *;have HO:=hid hO;clear hO;try unfold opV opC at HX
 unfold opV opC;go_enter Tryz.func16,Tryz.ntmps16
 go_upto_region 1 with fail
 obtain⟨w1,g3,g4,ew,e4,e3,eT,ff⟩:=f9 HO.out ⟨14,fd,n,off,af,ag,aj⟩ ov;rw[ew,e4,e3];clear HO ew e4 e3;have hp0:=eT.out.p1.e0;have hp1:=eT.out.p1.e1;have hp2:=eT.out.p1.e2;have hp3:=eT.out.p1.e3;have lP:=eT.out.p1.e4;have iK:=eT.out.p1.e5;have kI:=eT.out.p1.e6;have lU:=eT.out.p1.e7;go_wp2_with fail
 refine(HX.out w1 _ ((HM.out.cons (pt g3 (.cells #[.int .i64 14,.int .i64 fd,.int .i64 n,.int .i64 off,.int .i64 af,sV ag,sV aj,ov] 33))).cons (pt g4 (.cells #[.int .i64 0,.int .i64 0,.int .i64 0,.int .i64 0,eS,eS] 38))) (eT.out.re 3 [2,0,1])).mono ?_;exact zaK
theorem xA (q:Nat)(S:Tre)(fd n off af:Int)(ag aj:Str)(ov:Value)(w:World)(L:List HP)(mx:Int)(hW:Wk S)(hM:MxL mx L)(hp:ag.length≤100000)(hdl:∀ n x,fnd S.ac n=some x→x.data.length≤100000∧x.ab.length≤1000000)(hO:Has w (Trc q S::L)) :
  zCl 16 #[.pointer (some ⟨q,0,none⟩),opV ⟨18,fd,n,off,af,ag,aj⟩ (ov)] w fun e w'=>∃ dv nv,e=.returned (fL (S.list 18 ag) dv nv)∧Has w' (Bytes dv (S.list 18 ag).data::Strs nv (S.list 18 ag).ab::Trc q S::L)∧Keep w w':=by
 have HX0:=(fun(w:World)(L':List HP)(hM:MxL mx L')(hO:Has w (Trc q S::L'))=>DL q S ⟨18,fd,n,off,af,ag,aj⟩ ov mx w L' (.inr rfl) hW hM hp hdl hO)
 try dsimp only at HX0
 have HX:=hid HX0;clear HX0;have HM:=hid hM;clear hM;generalize S.list 18 ag=R at *;have HO:=hid hO;clear hO;try unfold opV opC at HX
 unfold opV opC;go_enter Tryz.func16,Tryz.ntmps16
 go_upto_region 1 with fail
 obtain⟨w1,g3,g4,ew,e4,e3,eT,ff⟩:=f9 HO.out ⟨18,fd,n,off,af,ag,aj⟩ ov;rw[ew,e4,e3];clear HO ew e4 e3;have hp0:=eT.out.p1.e0;have hp1:=eT.out.p1.e1;have hp2:=eT.out.p1.e2;have hp3:=eT.out.p1.e3;have lP:=eT.out.p1.e4;have iK:=eT.out.p1.e5;have kI:=eT.out.p1.e6;have lU:=eT.out.p1.e7;go_wp2_with fail
 refine(HX.out w1 _ ((HM.out.cons (pt g3 (.cells #[.int .i64 18,.int .i64 fd,.int .i64 n,.int .i64 off,.int .i64 af,sV ag,sV aj,ov] 33))).cons (pt g4 (.cells #[.int .i64 0,.int .i64 0,.int .i64 0,.int .i64 0,eS,eS] 38))) (eT.out.re 3 [2,0,1])).mono ?_;exact zaK
theorem ES (q:Nat)(S:Tre)(fd n off af:Int)(ag aj:Str)(ov:Value)(w:World)(L:List HP)(hO:Has w (Trc q S::L)) :
  zCl 16 #[.pointer (some ⟨q,0,none⟩),opV ⟨21,fd,n,off,af,ag,aj⟩ ov] w fun e w'=>e=.returned (fL (eQ 0) eS eS)∧Has w' (Trc q S::L)∧Keep w w':=by
 have HO:=hid hO;clear hO;unfold opV opC;go_enter Tryz.func16,Tryz.ntmps16
 go_upto_region 1 with fail
 obtain⟨w1,g3,g4,ew,e4,e3,eT,ff⟩:=f9 HO.out ⟨21,fd,n,off,af,ag,aj⟩ ov;rw[ew,e4,e3];clear HO ew e4 e3;have hp0:=eT.out.p1.e0;have hp2:=eT.out.p1.e2;have eW:=hid eT.out.ve;obtain⟨hz0,hz1,hz2,hz3,gP,gH,hy0,hy1,hy2,hy3,hy4,gG⟩:=Has.az (eW.out);go_wp2_with fail
 have h1:=eW.out.ans (eQ 0) eS eS;refine bodyPost_ret (eV rfl rfl h1) rfl ?_;exact⟨rfl,h1.drop,ff.out.ans _ _ _ _ _ _ _⟩
theorem Fb (q:Nat)(S:Tre)(fd n off af:Int)(ag aj:Str)(ov:Value)(w:World)(L:List HP)(hO:Has w (Trc q S::L)) :
  zCl 16 #[.pointer (some ⟨q,0,none⟩),opV ⟨22,fd,n,off,af,ag,aj⟩ ov] w fun e w'=>e=.returned (fL (if 0≤n then eQ 0 else eQ 2) eS eS)∧Has w' (Trc q S::L)∧Keep w w':=by
 generalize hR:(if 0≤n then eQ 0 else eQ 2)=R;have HR:=hid hR;clear hR;have HO:=hid hO;clear hO;unfold opV opC;go_enter Tryz.func16,Tryz.ntmps16
 go_upto_region 1 with fail
 obtain⟨w1,g3,g4,ew,e4,e3,eT,ff⟩:=f9 HO.out ⟨22,fd,n,off,af,ag,aj⟩ ov;exact zaA
theorem Fu (q:Nat)(S:Tre)(fd n off af:Int)(ag aj:Str)(ov:Value)(w:World)(L:List HP)(hO:Has w (Trc q S::L)) :
  zCl 16 #[.pointer (some ⟨q,0,none⟩),opV ⟨23,fd,n,off,af,ag,aj⟩ ov] w fun e w'=>e=.returned (fL (if 0≤n then eQ 0 else eQ 2) eS eS)∧Has w' (Trc q S::L)∧Keep w w':=by
 generalize hR:(if 0≤n then eQ 0 else eQ 2)=R;have HR:=hid hR;clear hR;have HO:=hid hO;clear hO;unfold opV opC;go_enter Tryz.func16,Tryz.ntmps16
 go_upto_region 1 with fail
 obtain⟨w1,g3,g4,ew,e4,e3,eT,ff⟩:=f9 HO.out ⟨23,fd,n,off,af,ag,aj⟩ ov;exact zaA
theorem CJ (q:Nat)(S:Tre)(k fd n off af:Int)(ag aj:Str)(ov:Value)(w:World)(L:List HP)(hk:¬ (1≤k∧k≤23))(hO:Has w (Trc q S::L)) :
  zCl 16 #[.pointer (some ⟨q,0,none⟩),opV ⟨k,fd,n,off,af,ag,aj⟩ ov] w fun e w'=>e=.returned (fL (eQ 2) eS eS)∧Has w' (Trc q S::L)∧Keep w w':=by
 have hk1:(k==1)=false:=by simp;intro h;exact hk (by omega)
 have hk2:(k==2)=false:=by simp;intro h;exact hk (by omega)
 have hk3:(k==3)=false:=by simp;intro h;exact hk (by omega)
 have hk4:(k==4)=false:=by simp;intro h;exact hk (by omega)
 have hk5:(k==5)=false:=by simp;intro h;exact hk (by omega)
 have hk6:(k==6)=false:=by simp;intro h;exact hk (by omega)
 have yb:(k==7)=false:=by simp;intro h;exact hk (by omega)
 have hk8:(k==8)=false:=by simp;intro h;exact hk (by omega)
 have hk9:(k==9)=false:=by simp;intro h;exact hk (by omega)
 have hk10:(k==10)=false:=by simp;intro h;exact hk (by omega)
 have Or:(k==11)=false:=by simp;intro h;exact hk (by omega)
 have hk12:(k==12)=false:=by simp;intro h;exact hk (by omega)
 have Ol:(k==13)=false:=by simp;intro h;exact hk (by omega)
 have OJ:(k==14)=false:=by simp;intro h;exact hk (by omega)
 have PA:(k==15)=false:=by simp;intro h;exact hk (by omega)
 have PK:(k==16)=false:=by simp;intro h;exact hk (by omega)
 have Pi:(k==17)=false:=by simp;intro h;exact hk (by omega)
 have Ov:(k==18)=false:=by simp;intro h;exact hk (by omega)
 have Po:(k==19)=false:=by simp;intro h;exact hk (by omega)
 have PQ:(k==20)=false:=by simp;intro h;exact hk (by omega)
 have O7:(k==21)=false:=by simp;intro h;exact hk (by omega)
 have Pk:(k==22)=false:=by simp;intro h;exact hk (by omega)
 have Pd:(k==23)=false:=by simp;intro h;exact hk (by omega)
 have HO:=hid hO;clear hO;unfold opV opC;go_enter Tryz.func16,Tryz.ntmps16
 go_upto_region 1 with fail
 obtain⟨w1,g3,g4,ew,e4,e3,eT,ff⟩:=f9 HO.out ⟨k,fd,n,off,af,ag,aj⟩ ov;rw[ew,e4,e3];clear HO ew e4 e3;have hp0:=eT.out.p1.e0;have hp2:=eT.out.p1.e2;have eW:=hid eT.out.ve;obtain⟨hz0,hz1,hz2,hz3,gP,gH,hy0,hy1,hy2,hy3,hy4,gG⟩:=Has.az (eW.out);go_wp2_with fail
 refine st (gD (2:Int) w1 _ eW.out) (ff.out) fun w5 fi ge=>?_;unfold fL ji eQ;clear hz0 hz1 hz2 hz3 gP gH hy0 hy1 hy2 hy3 hy4 gG;obtain⟨hz0,hz1,hz2,hz3,gP,gH,hy0,hy1,hy2,hy3,hy4,gG⟩:=Has.az (fi.out);go_wp2_with fail
 have h1:=((show Has w5 (pt g4 zA::Trc q S::L) from fi.out)).ans (eQ (2:Int)) eS eS;refine bodyPost_ret (eV rfl rfl h1) rfl ?_;exact⟨rfl,h1.drop,ge.out.ans _ _ _ _ _ _ _⟩
theorem uk {S:Tre}{s:Spt}{fl:Int}(h1:¬ (s.ae≠0∧(S.at_ s.ae).aa=2∧fc fl 32≠0))(h2:¬ 16≤(Tb.lst S.ak 16).length) :
  S.ar s fl=((⟨(Tb.opn S.ak (if s.ae=0 then S.last+1 else s.ae) fl).1.2,(Tb.opn S.ak (if s.ae=0 then S.last+1 else s.ae) fl).1.1,0,0,[],[]⟩:Ans),{(if fc fl 4≠0 then(if s.ae=0 then S.make s 1 [] else S).resize (if s.ae=0 then S.last+1 else s.ae) 0 else(if s.ae=0 then S.make s 1 [] else S)) with ak:=(Tb.opn S.ak (if s.ae=0 then S.last+1 else s.ae) fl).2}):=by
 unfold Tre.ar;rw[if_neg h1,if_neg h2];by_cases hn:s.ae=0
 ·by_cases h4:fc fl 4=0
  ·simp only[hn,if_true,h4,ne_eq,not_true_eq_false,if_false];rfl
  ·simp only[hn,if_true,h4,ne_eq,not_false_eq_true];rfl
 ·by_cases h4:fc fl 4=0
  ·simp only[hn,if_false,h4,ne_eq,not_true_eq_false]
  ·simp only[hn,if_false,h4,ne_eq,not_false_eq_true,if_true];rfl
theorem yR (S:Tre)(s:Spt):∃ x1,fnd (S.make s 1 []).ac (S.last+1)=some x1∧x1.aa≠3∧x1.data.length≤100000∧x1.wr.length≤100000:=by
 have e:Tre.nodAdd (hZ 1) s.dir=⟨1,[],[],[],0,1,0⟩:=by
  unfold Tre.nodAdd;rw[if_neg (by unfold hZ;decide)];rfl
 refine⟨Tre.nodAdd (hZ 1) s.dir,?_,by rw[e];decide,by rw[e];decide,by rw[e];decide⟩;unfold Tre.make Tre.add;rw[j7,if_pos rfl];congr 2;unfold Tre.at_;rw[fnd_putA,if_pos rfl];rfl
theorem EJ (q:Nat)(S:Tre)(rk:Int→Nat)(o:Opm)(ov:Value)(mx:Int)(w:World)(L:List HP)(hW:Wk S)(hY:Wy S rk)(hB:Opb S)(hM:MxL mx L)(hp:o.ag.length≤100000)(hnl:(S.find o.ag true).2=0→(S.at_ (S.find o.ag true).1.ae).aa≠3)(hO:Has w (Trc q S::L)) :
  zCl 47 #[.pointer (some ⟨q,0,none⟩),opV o ov] w fun e w'=>e=.returned (fL (S.aw o.ag o.af).1 eS eS)∧Has w' (Trc q (S.aw o.ag o.af).2::L)∧Keep w w':=by
 have tM:=hid (fun(w:World)(L':List HP)(hM:MxL mx L')(hO:Has w (Trc q S::L'))=>o4 q S o.ag true mx w L' hW hM hp hO);have iY:=hid (fun(w:World)(L':List HP)(hM:MxL mx L')(hO:Has w (Trc q S::L'))=>m9 q S rk o.ag mx w L' hW hY hM hp hO);have Hz:=hid (gh hW o.ag true);have vC:=hid hnl;clear hnl;have JF:=hid (lp hW o.ag);generalize hR:S.aw o.ag o.af=R;unfold Tre.aw at hR;generalize S.find o.ag true=F at *;generalize S.place o.ag=G at *;obtain⟨s2,e2⟩:=F;obtain⟨s1,e1⟩:=G;dsimp only at *;have HR:=hid hR;have HM:=hid hM;have HB:=hid hB;have HO:=hid hO;clear hO hR hW hM hp hY hB;unfold opV opC;go_enter Tryz.func47,Tryz.ntmps47
 go_upto_region 1 with fail
 have h1:=(HO.out.alloc (.cells (opC o ov) 33)).alloc zA;have ff:=hid (((Keep.refl w).alloc (.cells (opC o ov) 33)).alloc zA);unfold opC zA ji eQ at h1 ff;have e3:(w.alloc (.cells #[.int .i64 o.aa,.int .i64 o.fd,.int .i64 o.n,.int .i64 o.off,.int .i64 o.af,sV o.ag,sV o.aj,ov] 33)).heap.size=w.heap.size+1:=by show (Array.push _ _).size=_;rw[Array.size_push]
 rw[e3] at h1;have eT:=hid h1;clear h1 e3 HO;generalize (w.alloc (.cells #[.int .i64 o.aa,.int .i64 o.fd,.int .i64 o.n,.int .i64 o.off,.int .i64 o.af,sV o.ag,sV o.aj,ov] 33)).alloc (.cells #[.int .i64 0,.int .i64 0,.int .i64 0,.int .i64 0,eS,eS] 38)=w1 at *;generalize (Value.agg #[.int .i64 o.aa,.int .i64 o.fd,.int .i64 o.n,.int .i64 o.off,.int .i64 o.af,sV o.ag,sV o.aj,ov])=av at *;generalize w.heap.size=g3 at *;generalize g3+1=g4 at *;have lP:=eT.out.p1.e4;have fa:=hid eT.out.ve;by_cases hbad:o.af<0∨64≤o.af∨(fc o.af 12≠0∧fc o.af 32=0)
 ·as_aux_lemma=>exact zaz
 ·have HR1:=hid ((if_neg hbad).symm.trans HR.out);go_upto_region 1 with fail
  go_cut [31] (fun a wx=>wx=w1∧a=.bool false)
  case first =>
   as_aux_lemma=>exact zcI
  case rest =>
  obtain⟨hwx,rfl⟩:=hcut;have jK:=hwx.symm;subst jK;clear HR;go_upto_region 4 with fail
  have eW:=hid (show Has (w1.alloc (.cells #[.int .i64 0,.int .i64 0,.string ⟨#[]⟩] 102)) (pt w1.heap.size (.cells (spC fp) 102)::pt g4 zA::pt g3 (.cells (opC o ov) 33)::Trc q S::L) from eT.out.alloc (.cells (spC fp) 102));have fH:=hid (ff.out.alloc (.cells #[.int .i64 0,.int .i64 0,.string ⟨#[]⟩] 102));clear eT ff lP fa;generalize w1.alloc (.cells #[.int .i64 0,.int .i64 0,.string ⟨#[]⟩] 102)=w3 at *;generalize w1.heap.size=g5 at *;have lP:=eW.out.p2.e4;go_upto_if 37 with fail
  go_cut [] (fun wx=>∃ (w4:World) (s:Spt),w4=wx∧Hid (Has w4 (pt g5 (.cells (spC s) 102)::pt g4 zA::pt g3 (.cells (opC o ov) 33)::Trc q S::L))∧Hid (Keep w w4)∧Hid ((if s.ae≠0∨s.dir=0 then(if e2≠0 then(eQ e2,S) else S.ar s2 o.af) else S.ar s o.af)=R)∧Hid (s.ae=0→s.dir≠0→(∃ d,fnd S.ac s.dir=some d∧d.aa=2)∧s.name.length≤24))
  case first =>
   as_aux_lemma=>exact zad
  case rest =>
   obtain⟨w4,s,rfl,fg,fO,HR2,r5⟩:=hcut;clear eW fH HR1 lP iY JF;have k0:w4.cell? ⟨g5,0,none⟩=some (.int .i64 s.ae):=(fg.out).cells 0;have k1:w4.cell? ⟨g5,1,none⟩=some (.int .i64 s.dir):=(fg.out).cells 1;have k2:w4.cell? ⟨g5,2,none⟩=some (sV s.name):=(fg.out).cells 2;have kt0:=(fg.out).thaw 0;have kt1:=(fg.out).thaw 1;have kt2:=(fg.out).thaw 2;go_upto_region 11 with fail
   go_cut [69] (fun a wx=>wx=w4∧a=.bool (decide (s.ae≠0∨s.dir=0)))
   case first =>
    as_aux_lemma=>exact zaC
   case rest =>
   obtain⟨hwx,rfl⟩:=hcut;have jK:=hwx.symm;subst jK;generalize hBc:decide (s.ae≠0∨s.dir=0)=bc0;have JO:=hid hBc;clear hBc;go_upto_if 69 with fail
   go_cut [] (fun wx=>∃ (w5:World) (s':Spt),w5=wx∧Hid (Has w5 (pt g5 (.cells (spC s') 102)::pt g4 zA::pt g3 (.cells (opC o ov) 33)::Trc q S::L))∧Hid (Keep w w5)∧Hid (S.ar s' o.af=R)∧Hid (s'.ae=0→(∃ d,fnd S.ac s'.dir=some d∧d.aa=2)∧s'.name.length≤24)∧Hid (s'.ae≠0→∃ x,fnd S.ac s'.ae=some x∧x.aa≠3))
   case first =>
    by_cases hc:s.ae≠0∨s.dir=0
    ·have HR3:=hid ((if_pos hc).symm.trans HR2.out);have hbt:bc0=true:=by rw[←JO.out];exact decide_eq_true hc
     subst hbt
     skip
     skip
     ·have iK:=fg.out.p2.e5;go_upto_region 12 with fail
      go_cut [8,9] (fun p8 e9 wx=>∃ (w5:World) (g8:Nat),w5=wx∧e9=.int .i64 e2∧p8=.pointer (some ⟨g8,0,none⟩)∧Hid (Has w5 (pt g8 (.cells (spC s2) 102)::pt g5 (.cells (spC s) 102)::pt g4 zA::pt g3 (.cells (opC o ov) 33)::Trc q S::L))∧Hid (Keep w w5))
      case first =>
       as_aux_lemma=>exact zbd
      case rest =>
       obtain⟨w5,g8,rfl,rfl,rfl,fi,ge⟩:=hcut;clear iK k0 k1 k2 kt0 kt1 kt2;by_cases he2:e2=0
       ·subst he2;have v0:w5.cell? ⟨g5,0,none⟩=some (.int .i64 s.ae):=(fi.out.p1).cells 0;have v1:w5.cell? ⟨g5,1,none⟩=some (.int .i64 s.dir):=(fi.out.p1).cells 1;have v2:w5.cell? ⟨g5,2,none⟩=some (sV s.name):=(fi.out.p1).cells 2;have vt0:=(fi.out.p1).thaw 0;have vt1:=(fi.out.p1).thaw 1;have vt2:=(fi.out.p1).thaw 2;have k0:w5.cell? ⟨g8,0,none⟩=some (.int .i64 s2.ae):=(fi.out).cells 0;have k1:w5.cell? ⟨g8,1,none⟩=some (.int .i64 s2.dir):=(fi.out).cells 1;have k2:w5.cell? ⟨g8,2,none⟩=some (sV s2.name):=(fi.out).cells 2;have kt0:=(fi.out).thaw 0;have kt1:=(fi.out).thaw 1;have kt2:=(fi.out).thaw 2;have HR4:=hid ((if_neg (fun h=>h rfl)).symm.trans HR3.out);have Hv:=hid (Hz.out rfl);go_wp2_with fail
        go_meet
        exact⟨_,s2,rfl,hid ((show Has w5 (pt g5 (.cells (spC s) 102)::pt g4 zA::pt g3 (.cells (opC o ov) 33)::Trc q S::L) from fi.out.re 5 [1,2,3,4]).aS s2),hid (ge.out.aS _ _ _ _),HR4,hid fun h0=>absurd Hv.out (by rw[h0,HB.out.zero];rintro⟨_,h⟩;cases h),hid fun _=>(by
         obtain⟨x,hx⟩:=Hv.out;have h9:=vC.out (by first|rfl|trivial);rw[show S.at_ s2.ae=x by unfold Tre.at_;rw[hx];rfl] at h9;exact⟨x,hx,h9⟩)⟩
       ·as_aux_lemma=>exact zbs
    ·as_aux_lemma=>exact za4
   case rest =>
    obtain⟨w5,s',rfl,fi,ge,HR3,Fk,io⟩:=hcut;obtain⟨m,f,P,hJ,hTr⟩:=eY.1 (fi.out.re 4 [3,0,1,2]);have fW:=hid hJ;have wl:=hid hTr;clear hTr hJ k0 k1 k2 kt0 kt1 kt2 fg fO;have hq0:=(Trb.cells wl.out.drew).1;have hg0:w5.drew.cell? ⟨g5,0,none⟩=some (.int .i64 s'.ae):=wl.out.drew.p1.cells 0;have hf4:w5.drew.cell? ⟨g3,4,none⟩=some (.int .i64 o.af):=wl.out.drew.p3.cells 4;go_upto_region 16 with fail
    go_cut [82] (fun a wx=>wx=w5.drew∧a=.bool (decide (s'.ae≠0∧(S.at_ s'.ae).aa=2∧fc o.af 32≠0)))
    case first =>
     by_cases hn:s'.ae=0
     ·as_aux_lemma=>exact za2
     ·have hnb:(s'.ae != 0)=true:=by simpa using hn
      obtain⟨x,hx,-⟩:=io.out hn
      as_aux_lemma=>exact zah
    case rest =>
     obtain⟨hwx,rfl⟩:=hcut;have jK:=hwx.symm;subst jK;have Et:=hid wl.out.drew;have iG:=hid ge.out.drew;clear hq0 hg0 hf4 wl fi ge;generalize w5.drew=w6 at *;have fa:=hid (eY.2 ⟨m,f,P,fW.out,Et.out.re 4 [0,2]⟩:Has w6 (Trc q S::pt g4 zA::L)).vc;by_cases nT:s'.ae≠0∧(S.at_ s'.ae).aa=2∧fc o.af 32≠0
     ·as_aux_lemma=>exact zbn
     ·rw[decide_eq_false nT];have wN:=hid (show Has w6 (Tab f S.ak::Trt q m f P S.last::pt g5 (.cells (spC s') 102)::pt g4 zA::pt g3 (.cells (opC o ov) 33)::L) from Trb.ak.1 Et.out);have hq2:=(Trb.cells Et.out).2.2;go_wp2_with fail
      refine(vV f S.ak w6 _ fW.out.2 wN.out).mono ?_;rintro e w7 ⟨v7,rfl,l9,hK7⟩;have fP:=hid l9;have gZ:=hid ((iG.out).trans hK7);clear l9 hK7;try dsimp only
      clear hq2;obtain⟨p7,c7,rfl,-⟩:=(Ints.rd fP.out).form;have fI:=hid (eY.2 ⟨m,f,P,fW.out,Trb.ak.2 (fP.out.re 6 [1,2,3,4,5])⟩:Has w7 (Trc q S::pt g5 (.cells (spC s') 102)::pt g4 zA::pt g3 (.cells (opC o ov) 33)::L)).vi;by_cases h16:(16:Int)≤((Tb.lst S.ak 16).length:Int)
      ·as_aux_lemma=>exact zbh
      ·have HR4:=hid (show ((⟨(Tb.opn S.ak (if s'.ae=0 then S.last+1 else s'.ae) o.af).1.2,(Tb.opn S.ak (if s'.ae=0 then S.last+1 else s'.ae) o.af).1.1,0,0,[],[]⟩:Ans),{(if fc o.af 4≠0 then(if s'.ae=0 then S.make s' 1 [] else S).resize (if s'.ae=0 then S.last+1 else s'.ae) 0 else(if s'.ae=0 then S.make s' 1 [] else S)) with ak:=(Tb.opn S.ak (if s'.ae=0 then S.last+1 else s'.ae) o.af).2})=R from by
        exact(uk nT (by omega)).symm.trans HR3.out)
       have k0:w7.cell? ⟨g5,0,none⟩=some (.int .i64 s'.ae):=(fI.out).cells 0;have k1:w7.cell? ⟨g5,1,none⟩=some (.int .i64 s'.dir):=(fI.out).cells 1;have k2:w7.cell? ⟨g5,2,none⟩=some (sV s'.name):=(fI.out).cells 2;have kt0:=(fI.out).thaw 0;have kt1:=(fI.out).thaw 1;have kt2:=(fI.out).thaw 2;go_upto_if 117 with fail
       go_cut [] (fun wx=>∃ (w9:World) (n:Int) (S1:Tre),w9=wx∧n=(if s'.ae=0 then S.last+1 else s'.ae)∧S1=(if s'.ae=0 then S.make s' 1 [] else S)∧Hid (Has w9 (pt g5 (.cells (spC ⟨n,s'.dir,s'.name⟩) 102)::pt g4 zA::pt g3 (.cells (opC o ov) 33)::Trc q S1::L))∧Hid (Keep w w9)∧Hid (∃ x1,fnd S1.ac n=some x1∧x1.aa≠3∧x1.data.length≤100000∧x1.wr.length≤100000))
       case first =>
        by_cases hn:s'.ae=0
        ·have hnb:(s'.ae==0)=true:=by simpa using hn
         obtain⟨⟨d,hd,hdk⟩,hln⟩:=Fk.out hn;have Ao:=hid (yF q S s' 1 d w7 (pt g5 (.cells (spC s') 102)::pt g4 zA::pt g3 (.cells (opC o ov) 33)::L) (by decide) hd hdk (by omega) (HB.out.small _ _ hd).2.2 HB.out.last0 HB.out.aW HB.out.free HB.out.many (fI.out.re 4 [3,0,1,2]));unfold spV spC at Ao;have ut:=hid (show (if s'.ae=0 then S.last+1 else s'.ae)=S.last+1∧(if s'.ae=0 then S.make s' 1 [] else S)=S.make s' 1 [] from⟨if_pos hn,if_pos hn⟩);clear hn;go_wp2_with fail
         refine st (Ao.out) (gZ.out) fun w9 fJ gQ=>?_;try dsimp only
         have uD:=hid (show Has w9 (pt g5 (.cells (spC s') 102)::pt g4 zA::pt g3 (.cells (opC o ov) 33)::Trc q (S.make s' 1 [])::L) from fJ.out.re 4 [1,2,3,0]);have hv0:=uD.out.e0;have hvt:=uD.out.thaw 0;go_wp2_with fail
         go_meet
         exact⟨_,S.last+1,S.make s' 1 [],rfl,ut.out.1.symm,ut.out.2.symm,hid (uD.out.set 0 (.int .i64 (S.last+1))),hid (gQ.out.set _ _),hid (yR S s')⟩
        ·have hnb:(s'.ae==0)=false:=by simpa using hn
         have vI:=hid (show ∃ x1,fnd S.ac s'.ae=some x1∧x1.aa≠3∧x1.data.length≤100000∧x1.wr.length≤100000 from by
          obtain⟨x,hx,h3⟩:=io.out hn;exact⟨x,hx,h3,(HB.out.small _ _ hx).1,(HB.out.small _ _ hx).2.1⟩)
         have ut:=hid (show (if s'.ae=0 then S.last+1 else s'.ae)=s'.ae∧(if s'.ae=0 then S.make s' 1 [] else S)=S from⟨if_neg hn,if_neg hn⟩);clear hn;go_wp2_with fail
         go_meet
         exact⟨_,s'.ae,S,rfl,ut.out.1.symm,ut.out.2.symm,fI,gZ,vI⟩
       case rest =>
        obtain⟨w9,n,S0,rfl,hn1,hS1,fJ,gQ,r6⟩:=hcut;rw[←hn1,←hS1] at HR4;have HT0:=hid (by rw[hS1];split <;> rfl:S0.ak=S.ak);clear hn1 hS1 fI gZ k0 k1 k2 kt0 kt1 kt2;have hf4:=fJ.out.p2.e4;go_upto_if 125 with fail
        go_cut [] (fun wx=>∃ (w8:World) (S1:Tre),w8=wx∧S1=(if fc o.af 4≠0 then S0.resize n 0 else S0)∧Hid (Has w8 (pt g5 (.cells (spC ⟨n,s'.dir,s'.name⟩) 102)::pt g4 zA::pt g3 (.cells (opC o ov) 33)::Trc q S1::L))∧Hid (Keep w w8))
        case first =>
         by_cases h4:fc o.af 4=0
         ·have Gh:(bits BinOp.and IntKind.i64 o.af 4 != 0)=false:=by simpa[fc] using h4
          have ut:=hid (show (if fc o.af 4≠0 then S0.resize n 0 else S0)=S0 from if_neg (fun h=>h h4));clear h4;go_wp2_with fail
          go_meet
          exact⟨_,S0,rfl,ut.out.symm,fJ,gQ⟩
         ·have Gh:(bits BinOp.and IntKind.i64 o.af 4 != 0)=true:=by simpa[fc] using h4
          have ut:=hid (show (if fc o.af 4≠0 then S0.resize n 0 else S0)=S0.resize n 0 from if_pos h4);clear h4;obtain⟨x1,hx1,hx3,hxd,hxw⟩:=r6.out;have hs0:=fJ.out.e0;have DC:=hid (show zCl 114 #[.pointer (some ⟨q,0,none⟩),.int .i64 n,.int .i64 0] w9 _ from AD q S0 n x1 0 w9 _ hx1 hxd (by omega) hxw hx3 (fJ.out.re 4 [3,0,1,2]));clear hx1 hx3 hxd hxw;go_wp2_with fail
          refine st (DC.out) (gQ.out) fun w8 fI iI=>?_;try dsimp only
          go_wp2_with fail
          go_meet
          exact⟨_,S0.resize n 0,rfl,ut.out.symm,hid (fI.out.re 4 [1,2,3,0]),iI⟩
        case rest =>
        obtain⟨w8,S1,rfl,hS1,fI,iI⟩:=hcut;rw[←hS1] at HR4;have HT1:=hid (by rw[hS1,←HT0.out];split <;> rfl:S1.ak=S.ak);clear hS1 fJ gQ hf4 HT0 r6;generalize w8=w9 at *;have fJ:=fI;have gQ:=iI
        as_aux_lemma=>exact zas
theorem Cr (q:Nat)(S:Tre)(fd n off af:Int)(ag aj:Str)(ov:Value)(w:World)(L:List HP)(rk:Int→Nat)(mx:Int)(hW:Wk S)(hY:Wy S rk)(hB:Opb S)(hM:MxL mx L)(hp:ag.length≤100000)(hnl:(S.find ag true).2=0→(S.at_ (S.find ag true).1.ae).aa≠3)(hO:Has w (Trc q S::L)) :
  zCl 16 #[.pointer (some ⟨q,0,none⟩),opV ⟨1,fd,n,off,af,ag,aj⟩ (ov)] w fun e w'=>e=.returned (fL (S.aw ag af).1 eS eS)∧Has w' (Trc q (S.aw ag af).2::L)∧Keep w w':=by
 have HX0:=(fun(w:World)(L':List HP)(hM:MxL mx L')(hO:Has w (Trc q S::L'))=>EJ q S rk ⟨1,fd,n,off,af,ag,aj⟩ ov mx w L' hW hY hB hM hp hnl hO)
 try dsimp only at HX0
 have HX:=hid HX0;clear HX0;have HM:=hid hM;clear hM;generalize S.aw ag af=R at *;have HO:=hid hO;clear hO;try unfold opV opC at HX
 unfold opV opC;exact zcD
end Go.Proofs.YtmgpgbfgemebbaaGreatDoor
