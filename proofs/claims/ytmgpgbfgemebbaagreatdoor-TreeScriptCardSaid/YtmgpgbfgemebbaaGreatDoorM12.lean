/- TEXTS of mine, merged. -/
import Derived.Test.YtmgpgbfgemebbaaGreatDoorM0
import Derived.Test.YtmgpgbfgemebbaaGreatDoorM11
import Derived.Test.YtmgpgbfgemebbaaGreatDoorM7
import Derived.Test.YtmgpgbfgemebbaaGreatDoorM8
import Derived.Test.YtmgpgbfgemebbaaGreatDoorM9
import Derived.Test.YtmgpgbfgemebbaaGreatDoorM5
import Derived.Laws.IdiomStrings
import Derived.Test.YtmgpgbfgemebbaaGreatDoorM6
import Derived.Test.YtmgpgbfgemebbaaGreatDoorM1
set_option linter.all false
set_option maxRecDepth 100000
set_option maxHeartbeats 16000000
namespace Go.Proofs.YtmgpgbfgemebbaaGreatDoor
open Go.RowKit Go.Own
theorem ud (q:Nat)(S:Tre)(fd n off af:Int)(ag aj:Str)(ov:Value)(w:World)(L:List HP)(mx:Int)(hW:Wk S)(hM:MxL mx L)(hp:ag.length≤100000)(hdl:∀ n x,fnd S.ac n=some x→x.data.length≤100000∧x.ab.length≤1000000)(hO:Has w (Trc q S::L)) :
  zCl 16 #[.pointer (some ⟨q,0,none⟩),opV ⟨16,fd,n,off,af,ag,aj⟩ (ov)] w fun e w'=>e=.returned (fL (S.stat ag true) eS eS)∧Has w' (Trc q S::L)∧Keep w w':=by
 have HX0:∀ (w:World) (L':List HP),MxL mx L'→Has w (Trc q S::L')→zCl 60 #[.pointer (some ⟨q,0,none⟩),opV ⟨16,fd,n,off,af,ag,aj⟩ ov] w (fun e w'=>e=.returned (fL (S.stat ag true) eS eS)∧Has w' (Trc q S::L')∧Keep w w'):=fun w L' hM hO=>DS q S ⟨16,fd,n,off,af,ag,aj⟩ ov mx w L' (.inl rfl) hW hM hp hdl hO;have HX:=hid HX0;clear HX0;have HM:=hid hM;clear hM;generalize S.stat ag true=R at *;have HO:=hid hO;clear hO;unfold opV opC at HX ⊢;go_enter Tryz.func16,Tryz.ntmps16
 go_upto_region 1 with fail
 obtain⟨w1,g3,g4,ew,e4,e3,eT,ff⟩:=f9 HO.out ⟨16,fd,n,off,af,ag,aj⟩ ov;rw[ew,e4,e3];clear HO ew e4 e3;have hp0:=eT.out.p1.e0;have hp1:=eT.out.p1.e1;have hp2:=eT.out.p1.e2;have hp3:=eT.out.p1.e3;have lP:=eT.out.p1.e4;have iK:=eT.out.p1.e5;have kI:=eT.out.p1.e6;have lU:=eT.out.p1.e7;go_wp2_with fail
 refine st (HX.out w1 _ ((HM.out.cons (pt g3 (.cells #[.int .i64 16,.int .i64 fd,.int .i64 n,.int .i64 off,.int .i64 af,sV ag,sV aj,ov] 33))).cons (pt g4 (.cells #[.int .i64 0,.int .i64 0,.int .i64 0,.int .i64 0,eS,eS] 38))) (eT.out.re 3 [2,0,1])) (ff.out) fun w2 eZ fu=>?_;exact zcE
theorem rM {w:World}{L:List HP}{q m f:Nat}{P:List Pn}{last:Int}{T:List Tb.Slot}{S:Tre}(h:Has w (Tab f T::Trt q m f P last::L))(hN:pnN P=S.ac)(hl:S.last=last)(hT:S.ak=T)(h16:T.length=16):Has w (Trc q S::L):=by
 subst hl hT;exact eY.2 ⟨m,f,P,⟨hN,h16⟩,Trb.ak.2 h⟩
theorem Aa {T:List Tb.Slot}{fd:Int}(h:(Tb.cls T fd).1.2≠0):(Tb.cls T fd).2=T:=by
 unfold Tb.cls at *;cases hl:Tb.look T fd with
 | none=>simp[hl]
 | some s=>simp[hl] at h
theorem E5 (q:Nat)(S:Tre)(fd:Int)(w:World)(L:List HP)(hop:(Tb.cls S.ak fd).1.2=0→∃ x,fnd S.ac (Tb.cls S.ak fd).1.1=some x)(hO:Has w (Trc q S::L)) :
  zCl 48 #[.pointer (some ⟨q,0,none⟩),.int .i64 fd] w fun e w'=>e=.returned (fL (S.close fd).1 eS eS)∧Has w' (Trc q (S.close fd).2::L)∧Keep w w':=by
 have DN:=hid (fun(w:World)(f:Nat)(L':List HP)(hT:S.ak.length=16)(hO:Has w (Tab f S.ak::L'))=>zK f S.ak fd w L' hT hO);have hcl:=Tb.cls_len S.ak fd;generalize hR:S.close fd=R;unfold Tre.close at hR;have hkeep:(Tb.cls S.ak fd).1.2≠0→(Tb.cls S.ak fd).2=S.ak:=fun h=>Aa h;generalize Tb.cls S.ak fd=C at *;obtain⟨⟨n,e⟩,T'⟩:=C;dsimp only at *;have HR:=hid hR;have Mo:=hid hop;have O2:=hid hkeep;obtain⟨m,f,P,hJ,h⟩:=eY.1 hO;have fW:=hid hJ;have LH:=hid (hcl hJ.2);have HO:=hid h;clear hO hR hop h hJ hcl hkeep;go_enter Tryz.func48,Tryz.ntmps48
 go_upto_region 1 with fail
 have eT:=hid (HO.out.alloc zA).p1;have ff:=hid ((Keep.refl w).alloc zA);unfold zA ji eQ at eT ff;dsimp only at eT ff;clear HO;generalize w.alloc (.cells #[.int .i64 0,.int .i64 0,.int .i64 0,.int .i64 0,eS,eS] 38)=w1 at *;generalize w.heap.size=g4 at *;have hq2:=(Trb.cells eT.out).2.2;go_wp2_with fail
 refine st (DN.out w1 f _ fW.out.2 (Trb.ak.1 eT.out)) (ff.out) fun w2 eZ fu=>?_;try dsimp only
 clear eT ff hq2;by_cases he:e=0
 ·subst he;obtain⟨x,hx⟩:=Mo.out rfl;have HRR:=hid (by rw[←HR.out,if_neg (fun h=>h rfl)]:R=(eQ 0,({S with ak:=T'} : Tre).forget n));have eW:=hid (show Has w2 (Trc q {S with ak:=T'} :: pt g4 zA::L) from rM eZ.out fW.out.1 rfl rfl LH.out);go_wp2_with fail
  refine st (Bt q {S with ak:=T'} n x w2 _ hx eW.out) (fu.out) fun w4 fg fO=>?_;try dsimp only
  have fq:=hid fg.out.vc;obtain⟨hz0,hz1,hz2,hz3,gP,gH,hy0,hy1,hy2,hy3,hy4,gG⟩:=Has.az (fq.out);go_wp2_with fail
  have h1:=fq.out.ans (eQ 0) eS eS;refine bodyPost_ret (eV rfl rfl h1) rfl ?_;rw[HRR.out];exact⟨rfl,h1.drop,fO.out.ans _ _ _ _ _ _ _⟩
 ·have HRR:=hid (by rw[←HR.out,if_pos he]:R=(eQ 10,S));have fa:=hid (show Has w2 (pt g4 zA::Trc q S::L) from by
   have h1:=O2.out he;have h2:Has w2 (Tab f S.ak::Trt q m f P S.last::pt g4 zA::L):=by rw[←h1];exact eZ.out
   exact(rM h2 fW.out.1 rfl rfl fW.out.2).re 2 [1,0])
  obtain⟨hz0,hz1,hz2,hz3,gP,gH,hy0,hy1,hy2,hy3,hy4,gG⟩:=Has.az (fa.out);go_wp2_with fail
  have HC:=hid (gD (10:Int) w2 (pt g4 zA::Trc q S::L) fa.out);have kz:=fu;exact lv
theorem zm (q:Nat)(S:Tre)(fd:Int)(w:World)(L:List HP)(hO:Has w (Trc q S::L)) :
  zCl 61 #[.pointer (some ⟨q,0,none⟩),.int .i64 fd] w fun e w'=>e=.returned (fL (S.lasts fd) eS eS)∧Has w' (Trc q S::L)∧Keep w w':=by
 have DN:=hid (fun(w:World)(f:Nat)(L':List HP)(hT:S.ak.length=16)(hO:Has w (Tab f S.ak::L'))=>yA f S.ak fd w L' hT hO);generalize hR:S.lasts fd=R;unfold Tre.lasts at hR;generalize Tb.get S.ak fd=C at *;obtain⟨s,e⟩:=C;dsimp only at *;have HR:=hid hR;obtain⟨m,f,P,hJ,h⟩:=eY.1 hO;have fW:=hid hJ;have HO:=hid h;clear hO hR h hJ;go_enter Tryz.func61,Tryz.ntmps61
 go_upto_region 1 with fail
 have eT:=hid (HO.out.alloc zA).p1;have ff:=hid ((Keep.refl w).alloc zA);unfold zA ji eQ at eT ff;dsimp only at eT ff;clear HO;generalize w.alloc (.cells #[.int .i64 0,.int .i64 0,.int .i64 0,.int .i64 0,eS,eS] 38)=w1 at *;generalize w.heap.size=g4 at *;have hq2:=(Trb.cells eT.out).2.2;go_cut [6] (fun e6 wx=>∃ w3:World,w3=wx∧e6=.int .i64 e∧Hid (Has w3 (pt g4 zA::Trc q S::L))∧Hid (Keep w w3))
 case first =>
  go_wp2_with fail
  refine st (DN.out w1 f _ fW.out.2 (Trb.ak.1 eT.out)) (ff.out) fun w2 eZ fu=>?_;try dsimp only
  go_wp2_with fail
  go_meet
  exact⟨_,rfl,rfl,hid ((rM (eZ.out.alloc _).drop fW.out.1 rfl rfl fW.out.2).re 2 [1,0]),hid (fu.out.alloc _)⟩
 case rest =>
  obtain⟨w3,rfl,rfl,eW,fH⟩:=hcut;clear eT ff hq2;by_cases he:e=0
  ·subst he;have HRR:=hid (by rw[←HR.out,if_neg (fun h=>h rfl)]:R=eQ 0);obtain⟨hz0,hz1,hz2,hz3,gP,gH,hy0,hy1,hy2,hy3,hy4,gG⟩:=Has.az (eW.out);go_wp2_with fail
   have h1:=eW.out.ans (eQ 0) eS eS;refine bodyPost_ret (eV rfl rfl h1) rfl ?_;rw[HRR.out];exact⟨rfl,h1.drop,fH.out.ans _ _ _ _ _ _ _⟩
  ·have HRR:=hid (by rw[←HR.out,if_pos he]:R=eQ 10);obtain⟨hz0,hz1,hz2,hz3,gP,gH,hy0,hy1,hy2,hy3,hy4,gG⟩:=Has.az (eW.out);go_wp2_with fail
   have HC:=hid (gD (10:Int) w3 (pt g4 zA::Trc q S::L) eW.out);exact zaY
theorem BM (q:Nat)(S:Tre)(fd n off af:Int)(ag aj:Str)(ov:Value)(w:World)(L:List HP)(hop:(Tb.cls S.ak fd).1.2=0→∃ x,fnd S.ac (Tb.cls S.ak fd).1.1=some x)(hO:Has w (Trc q S::L)) :
  zCl 16 #[.pointer (some ⟨q,0,none⟩),opV ⟨2,fd,n,off,af,ag,aj⟩ (ov)] w fun e w'=>e=.returned (fL (S.close fd).1 eS eS)∧Has w' (Trc q (S.close fd).2::L)∧Keep w w':=by
 have HX0:=(fun(w:World)(L':List HP)(hO:Has w (Trc q S::L'))=>E5 q S fd w L' hop hO)
 try dsimp only at HX0
 have HX:=hid HX0;clear HX0
 skip
 generalize S.close fd=R at *;have HO:=hid hO;clear hO;try unfold opV opC at HX
 unfold opV opC;go_enter Tryz.func16,Tryz.ntmps16
 go_upto_region 1 with fail
 obtain⟨w1,g3,g4,ew,e4,e3,eT,ff⟩:=f9 HO.out ⟨2,fd,n,off,af,ag,aj⟩ ov;rw[ew,e4,e3];clear HO ew e4 e3;have hp0:=eT.out.p1.e0;have hp1:=eT.out.p1.e1;have hp2:=eT.out.p1.e2;have hp3:=eT.out.p1.e3;have lP:=eT.out.p1.e4;have iK:=eT.out.p1.e5;have kI:=eT.out.p1.e6;have lU:=eT.out.p1.e7;go_wp2_with fail
 refine st (HX.out w1 _ (eT.out.re 3 [2,0,1])) (ff.out) fun w2 eZ fu=>?_;exact zan
theorem Df (q:Nat)(S:Tre)(fd n off af:Int)(ag aj:Str)(ov:Value)(w:World)(L:List HP)(rk:Int→Nat)(mx:Int)(hW:Wk S)(hY:Wy S rk)(hM:MxL mx L)(hp:ag.length≤100000)(Ci:(S.place ag).2=0→(S.place ag).1.ae≠0→mR S (S.place ag).1)(hO:Has w (Trc q S::L)) :
  zCl 16 #[.pointer (some ⟨q,0,none⟩),opV ⟨10,fd,n,off,af,ag,aj⟩ (ov)] w fun e w'=>e=.returned (fL (S.remove 10 ag).1 eS eS)∧Has w' (Trc q (S.remove 10 ag).2::L)∧Keep w w':=by
 have HX0:=(fun(w:World)(L':List HP)(hM:MxL mx L')(hO:Has w (Trc q S::L'))=>vw q S rk ⟨10,fd,n,off,af,ag,aj⟩ ov mx w L' (.inl rfl) hW hY hM hp Ci hO)
 try dsimp only at HX0
 have HX:=hid HX0;clear HX0;have HM:=hid hM;clear hM;generalize S.remove 10 ag=R at *;have HO:=hid hO;clear hO;try unfold opV opC at HX
 unfold opV opC;go_enter Tryz.func16,Tryz.ntmps16
 go_upto_region 1 with fail
 obtain⟨w1,g3,g4,ew,e4,e3,eT,ff⟩:=f9 HO.out ⟨10,fd,n,off,af,ag,aj⟩ ov;rw[ew,e4,e3];clear HO ew e4 e3;have hp0:=eT.out.p1.e0;have hp1:=eT.out.p1.e1;have hp2:=eT.out.p1.e2;have hp3:=eT.out.p1.e3;have lP:=eT.out.p1.e4;have iK:=eT.out.p1.e5;have kI:=eT.out.p1.e6;have lU:=eT.out.p1.e7;go_wp2_with fail
 refine st (HX.out w1 _ ((HM.out.cons (pt g3 (.cells #[.int .i64 10,.int .i64 fd,.int .i64 n,.int .i64 off,.int .i64 af,sV ag,sV aj,ov] 33))).cons (pt g4 (.cells #[.int .i64 0,.int .i64 0,.int .i64 0,.int .i64 0,eS,eS] 38))) (eT.out.re 3 [2,0,1])) (ff.out) fun w2 eZ fu=>?_;exact zan
theorem yT (q:Nat)(S:Tre)(fd n off af:Int)(ag aj:Str)(ov:Value)(w:World)(L:List HP)(rk:Int→Nat)(mx:Int)(hW:Wk S)(hY:Wy S rk)(hM:MxL mx L)(hp:ag.length≤100000)(Ci:(S.place ag).2=0→(S.place ag).1.ae≠0→mR S (S.place ag).1)(hO:Has w (Trc q S::L)) :
  zCl 16 #[.pointer (some ⟨q,0,none⟩),opV ⟨11,fd,n,off,af,ag,aj⟩ (ov)] w fun e w'=>e=.returned (fL (S.remove 11 ag).1 eS eS)∧Has w' (Trc q (S.remove 11 ag).2::L)∧Keep w w':=by
 have HX0:=(fun(w:World)(L':List HP)(hM:MxL mx L')(hO:Has w (Trc q S::L'))=>vw q S rk ⟨11,fd,n,off,af,ag,aj⟩ ov mx w L' (.inr rfl) hW hY hM hp Ci hO)
 try dsimp only at HX0
 have HX:=hid HX0;clear HX0;have HM:=hid hM;clear hM;generalize S.remove 11 ag=R at *;have HO:=hid hO;clear hO;try unfold opV opC at HX
 unfold opV opC;go_enter Tryz.func16,Tryz.ntmps16
 go_upto_region 1 with fail
 obtain⟨w1,g3,g4,ew,e4,e3,eT,ff⟩:=f9 HO.out ⟨11,fd,n,off,af,ag,aj⟩ ov;rw[ew,e4,e3];clear HO ew e4 e3;have hp0:=eT.out.p1.e0;have hp1:=eT.out.p1.e1;have hp2:=eT.out.p1.e2;have hp3:=eT.out.p1.e3;have lP:=eT.out.p1.e4;have iK:=eT.out.p1.e5;have kI:=eT.out.p1.e6;have lU:=eT.out.p1.e7;go_wp2_with fail
 refine st (HX.out w1 _ ((HM.out.cons (pt g3 (.cells #[.int .i64 11,.int .i64 fd,.int .i64 n,.int .i64 off,.int .i64 af,sV ag,sV aj,ov] 33))).cons (pt g4 (.cells #[.int .i64 0,.int .i64 0,.int .i64 0,.int .i64 0,eS,eS] 38))) (eT.out.re 3 [2,0,1])) (ff.out) fun w2 eZ fu=>?_;exact zan
theorem Fj (q:Nat)(S:Tre)(fd n off af:Int)(ag aj:Str)(ov:Value)(w:World)(L:List HP)(rk:Int→Nat)(mx:Int)(hW:Wk S)(hY:Wy S rk)(hM:MxL mx L)(hp:ag.length≤100000)(hd:aj.length≤100000)(hlk:∀ n x,fnd S.ac n=some x→0≤x.ah∧x.ah<1000000)(xY:(S.fresh aj).2=0→nN S (S.fresh aj).1)(hO:Has w (Trc q S::L)) :
  zCl 16 #[.pointer (some ⟨q,0,none⟩),opV ⟨12,fd,n,off,af,ag,aj⟩ (ov)] w fun e w'=>e=.returned (fL (S.link ag aj).1 eS eS)∧Has w' (Trc q (S.link ag aj).2::L)∧Keep w w':=by
 have HX0:=(fun(w:World)(L':List HP)(hM:MxL mx L')(hO:Has w (Trc q S::L'))=>IV q S rk ⟨12,fd,n,off,af,ag,aj⟩ ov mx w L' hW hY hM hp hd hlk xY hO)
 try dsimp only at HX0
 have HX:=hid HX0;clear HX0;have HM:=hid hM;clear hM;generalize S.link ag aj=R at *;have HO:=hid hO;clear hO;try unfold opV opC at HX
 unfold opV opC;go_enter Tryz.func16,Tryz.ntmps16
 go_upto_region 1 with fail
 obtain⟨w1,g3,g4,ew,e4,e3,eT,ff⟩:=f9 HO.out ⟨12,fd,n,off,af,ag,aj⟩ ov;rw[ew,e4,e3];clear HO ew e4 e3;have hp0:=eT.out.p1.e0;have hp1:=eT.out.p1.e1;have hp2:=eT.out.p1.e2;have hp3:=eT.out.p1.e3;have lP:=eT.out.p1.e4;have iK:=eT.out.p1.e5;have kI:=eT.out.p1.e6;have lU:=eT.out.p1.e7;go_wp2_with fail
 refine st (HX.out w1 _ ((HM.out.cons (pt g3 (.cells #[.int .i64 12,.int .i64 fd,.int .i64 n,.int .i64 off,.int .i64 af,sV ag,sV aj,ov] 33))).cons (pt g4 (.cells #[.int .i64 0,.int .i64 0,.int .i64 0,.int .i64 0,eS,eS] 38))) (eT.out.re 3 [2,0,1])) (ff.out) fun w2 eZ fu=>?_;exact zan
def mY (p:Str):Nod:=⟨3,fF p,[],[],0,0,0⟩
theorem s9 {w:World}{L:List HP}(h:Has w L)(p:Str)(hp:p.length≤1000000):∃ v w',(convert 9 31 (sV p)).run Tryz.prog w=.ok v w'∧Has w' (Dat 3 v (fF p)::L)∧Keep w w':=by
 have hrun:=run_bytes_of_string (P:=Tryz.prog) w 9 31 5 (sB p) Tryz.underlying9 Tryz.underlying31 Tryz.underlying5;have hsz:(sB p).size=p.length:=rfl;have hbl:(fF p).length=p.length:=by simp[fF]
 have hcap:=grownCap_ge w (sB p).size 0 5;refine⟨_,_,hrun,?_,(Keep.refl w).drew.alloc _⟩;unfold Dat;rw[if_pos rfl];refine lY.2 ⟨_,grownCap w (sB p).size 0 5,_,_,⟨by rw[hbl,hsz];rfl,by rw[hbl,←hsz];exact hcap,eU (by rw[hbl];omega),?_⟩,h.drew.alloc _⟩;rw[hbl];unfold bytesRow;rw[Array.toList_append,List.take_append,show ((sB p).data.map fun b=>Value.int .u8 b.toNat).toList=bc (fF p) from by simp[bc,fF,sB]];rw[List.take_of_length_le (by simp[bc,fF]),show p.length-(bc (fF p)).length=0 by simp[bc,fF]];simp
theorem EM (q:Nat)(S:Tre)(s:Spt)(p:Str)(d:Nod)(w:World)(L:List HP)(hp:p.length≤1000000)(hd:fnd S.ac s.dir=some d)(hk:d.aa=2)(hl:s.name.length≤1000000)(hm:d.ab.length<1000000)(h0:0≤S.last)(h1:S.last<1000000)(hfree:fnd S.ac (S.last+1)=none)(hS:S.ac.length<1000000)(hO:Has w (Trc q S::L)) :
  zCl 54 #[.pointer (some ⟨q,0,none⟩),spV s,.int .i64 3,sV p] w fun e w'=>e=.returned (.int .i64 (S.last+1))∧Has w' (Trc q (S.make s 3 p)::L)∧Keep w w':=by
 obtain⟨m,f,P,⟨hP,hT⟩,h⟩:=eY.1 hO;have fW:=hid (And.intro hP hT);have h:=fQ.1 h;have HO:=hid (show Has w (pt q (.cells (gF m f S.last) 87)::Mk kInt vPtr m (pnB P)::Tab f S.ak::(pnC P++L)) from h);have hq0:=HO.out.e0;have hq1:=HO.out.e1;have KT:=HO.out.thaw 1;have KX:=HO.out.lt;clear h hO hP hT;unfold spV spC;go_enter Tryz.func54,Tryz.ntmps54
 have hmm:=@run_makeMap Tryz.prog;go_upto_region 3 with fail
 have h2:=((HO.out.set 1 (.int .i64 (S.last+1))).alloc (.cells #[.int .i64 s.ae,.int .i64 s.dir,sV s.name] 102)).alloc (.cells #[.int .i64 3,.slice none 0 0,.slice none 0 0,.map none,.int .i64 0,.int .i64 0,.int .i64 0] 82);have e1:(w.setCell ⟨q,1,none⟩ (.int .i64 (S.last+1))).heap.size=w.heap.size:=by simp
 have e2:((w.setCell ⟨q,1,none⟩ (.int .i64 (S.last+1))).alloc (.cells #[.int .i64 s.ae,.int .i64 s.dir,sV s.name] 102)).heap.size=w.heap.size+1:=by show (Array.push _ _).size=_;rw[Array.size_push,e1]
 rw[e2,e1] at h2;have fu:=hid ((((Keep.refl w).set ⟨q,1,none⟩ (.int .i64 (S.last+1))).alloc (.cells #[.int .i64 s.ae,.int .i64 s.dir,sV s.name] 102)).alloc (.cells #[.int .i64 3,.slice none 0 0,.slice none 0 0,.map none,.int .i64 0,.int .i64 0,.int .i64 0] 82));have eZ:=hid h2;clear h2 e1 e2 KT KX hq0 hq1;generalize ((w.setCell ⟨q,1,none⟩ (.int .i64 (S.last+1))).alloc (.cells #[.int .i64 s.ae,.int .i64 s.dir,sV s.name] 102)).alloc (.cells #[.int .i64 3,.slice none 0 0,.slice none 0 0,.map none,.int .i64 0,.int .i64 0,.int .i64 0] 82)=w2 at *;generalize hgs:w.heap.size=gs at *;generalize hgn:gs+1=gn at *;have hfin:∀ w5:World,Has w5 (Mk kInt vPtr m (eX (pnB P) (S.last+1) (some gn))::pt q (.cells (gF m f (S.last+1)) 87)::Tab f S.ak::Ndc gn (mY p)::pt gs (.cells (spC s) 102)::(pnC P++L))→Has w5 (Trc q {S with last:=S.last+1,ac:=eX S.ac (S.last+1) (mY p)} :: pt gs (.cells (spC s) 102)::L):=by
  intro w5 h5;have hnk:(S.last+1)∉P.map Prod.fst:=by
   have:=fU.1 hfree
   rwa [←fW.out.1,gr] at this
  refine eY.2 ⟨m,f,P ++ [(S.last+1,gn,mY p)],⟨?_,fW.out.2⟩,fQ.2 ?_⟩
  ·show pnN _=eX S.ac (S.last+1) (mY p);rw[gT _ (fU.1 hfree),←fW.out.1];simp[pnN]
  ·rw[gT _ (by rw[iv];exact hnk)] at h5;have e:pnB (P ++ [(S.last+1,gn,mY p)])=pnB P ++ [(S.last+1,some gn)]:=by simp[pnB]
   have e2:pnC (P ++ [(S.last+1,gn,mY p)])=pnC P ++ [Ndc gn (mY p)]:=by simp[pnC]
   exact zbL
 have n9:=hid hfin;have rY:=hid hfree;have hPl:P.length<1000000:=by
  have:(pnN P).length=P.length:=by simp[pnN]
  rw[fW.out.1] at this;omega
 have ya:=hid (show (fnd (eX S.ac (S.last+1) (mY p)) s.dir=some d∧fnd (eX S.ac (S.last+1) (mY p)) (S.last+1)=some (mY p))∧s.dir≠S.last+1 from by
  have hne:s.dir≠S.last+1:=by intro e;rw[e] at hd;rw[hd] at hfree;cases hfree
  rw[gT _ (fU.1 hfree)];refine⟨⟨?_,?_⟩,hne⟩
  ·exact zca
  ·unfold fnd at *;rw[List.find?_append];generalize S.ac.find? (fun p=>decide (p.1=S.last+1))=o at *;cases o with
   | none=>simp
   | some v=>cases hfree)
 have Nt:=hid (show S.make s 3 p=({S with last:=S.last+1,ac:=eX S.ac (S.last+1) (mY p)} : Tre).add s.dir s.name (S.last+1) from by
  unfold Tre.make mY;rw[if_pos rfl])
 clear hfin hfree hd;obtain⟨vd,wd,hrun,FT,If⟩:=s9 eZ.out p hp;obtain⟨pd,cd,rfl,-⟩:=(Dat.rd FT).form;have gC:=hid FT;have iG:=hid (fu.out.trans If);clear FT If eZ fu;have JU:=gC.out.p1.cells 1;have Fh:=gC.out.p1.thaw 1;go_upto_region 8 with fail
 have fg:=hid (show Has (wd.setCell ⟨gn,1,none⟩ (.slice pd (fF p).length cd)) (Mk kInt vPtr m (pnB P)::pt q (.cells (gF m f (S.last+1)) 87)::Tab f S.ak::Ndc gn (mY p)::pt gs (.cells (spC s) 102)::(pnC P++L)) from by
  have h1:=(gC.out.p1).set 1 (.slice pd (fF p).length cd);have h2:Has (wd.setCell ⟨gn,1,none⟩ (.slice pd (fF p).length cd)) (l0 (([]:List (Str×Int)) = [])::_):=Has.aC.2 ⟨rfl,h1⟩;have h3:=(h2.al 4 1).re 4 [2,3,0,1];have h4:Has (wd.setCell ⟨gn,1,none⟩ (.slice pd (fF p).length cd)) (Ndc gn (mY p)::pt gs (.cells (spC s) 102)::pt q (.cells (gF m f (S.last+1)) 87)::Mk kInt vPtr m (pnB P)::Tab f S.ak::(pnC P++L)):=fG.2 ⟨.slice pd (fF p).length cd,.slice none 0 0,none,fun h=>absurd h (by show ¬ (3:Int)=2;decide),h3⟩;exact h4.re 5 [3,2,4,0,1])
 have fO:=hid (iG.out.set ⟨gn,1,none⟩ (.slice pd (fF p).length cd));clear gC iG JU Fh hrun;generalize wd.setCell ⟨gn,1,none⟩ (.slice pd (fF p).length cd)=w4 at *;exact zag
theorem AC (q:Nat)(S:Tre)(rk:Int→Nat)(o:Opm)(ov:Value)(mx:Int)(w:World)(L:List HP)(hW:Wk S)(hY:Wy S rk)(hM:MxL mx L)(hp:o.ag.length≤100000)(hd:o.aj.length≤100000)(hB:Opb S)(xY:(S.fresh o.aj).2=0→nN S (S.fresh o.aj).1)(hO:Has w (Trc q S::L)) :
  zCl 57 #[.pointer (some ⟨q,0,none⟩),opV o ov] w fun e w'=>e=.returned (fL (S.symlink o.ag o.aj).1 eS eS)∧Has w' (Trc q (S.symlink o.ag o.aj).2::L)∧Keep w w':=by
 have HF:=hid (fun(w:World)(L':List HP)(hM:MxL mx L')(hO:Has w L')=>vU o.ag mx w L' hM hp hO);have rY:=hid (fun(w:World)(L':List HP)(hM:MxL mx L')(hO:Has w (Trc q S::L'))=>uL q S rk o.aj mx w L' hW hY hM hd hO);have LP:=hid xY;have HB:=hid hB;have iY:=hid hp;clear xY hB;generalize hR:S.symlink o.ag o.aj=R;unfold Tre.symlink at hR;generalize fN o.ag=F at *;generalize S.fresh o.aj=F3 at *;obtain⟨ms,wh,e2⟩:=F;obtain⟨s3,e3⟩:=F3;dsimp only at *;have HR:=hid hR;have HM:=hid hM;have HO:=hid hO;clear hO hR hW hM hp hd hY;unfold opV opC;go_enter Tryz.func57,Tryz.ntmps57
 go_upto_region 1 with fail
 obtain⟨w1,g3,g4,ew,e4,e3,eT,ff⟩:=f9 HO.out o ov;rw[ew,e4,e3];clear HO ew e4 e3;have iK:=eT.out.p1.e5;have kI:=eT.out.p1.e6;have BA:=hid (show MxL mx (pt g4 zA::pt g3 (.cells (opC o ov) 33)::L) from(HM.out.cons _).cons _);go_cut [7] (fun e7 wx=>∃ (w3:World),w3=wx∧e7=.int .i64 e2∧Hid (Has w3 (Trc q S::pt g4 zA::pt g3 (.cells (opC o ov) 33)::L))∧Hid (Keep w w3))
 case first =>
  go_wp2_with fail
  refine(HF.out w1 _ (BA.out.cons _) (eT.out.re 3 [2,0,1])).mono ?_;rintro e w2 ⟨v2,rfl,hO2,hK2⟩;have eZ:=hid hO2;have fu:=hid ((ff.out).trans hK2);clear hO2 hK2;try dsimp only
  go_wp2_with fail
  go_meet
  exact⟨_,rfl,rfl,hid eZ.out.drop,fu⟩
 case rest =>
  obtain⟨w3,rfl,rfl,eW,fH⟩:=hcut;clear eT ff iK kI HF;have fa:=hid eW.out.vd;by_cases he:e2=0
  ·subst he;have HR2:=hid ((if_neg (fun h=>h rfl)).symm.trans HR.out);clear HR;have kI:=eW.out.p2.e6;go_upto_region 4 with fail
   go_cut [8,9] (fun p7 e6 wx=>∃ (w5:World) (g7:Nat),w5=wx∧e6=.int .i64 e3∧p7=.pointer (some ⟨g7,0,none⟩)∧Hid (Has w5 (Trc q S::pt g7 (.cells (spC s3) 102)::pt g4 zA::pt g3 (.cells (opC o ov) 33)::L))∧Hid (Keep w w5))
   case first =>
    go_wp2_with fail
    refine st (rY.out w3 _ BA.out eW.out) (fH.out) fun w2 eZ fu=>?_;try dsimp only
    unfold spV spC;go_wp2_with fail
    go_meet
    exact⟨_,_,rfl,rfl,rfl,hid ((eZ.out.alloc (.cells (spC s3) 102)).re 4 [1,0,2,3]),hid (fu.out.alloc _)⟩
   case rest =>
    obtain⟨w5,g7,rfl,rfl,rfl,fi,ge⟩:=hcut;clear eW fH kI rY fa;have FQ:=hid fi.out.va;by_cases he3:e3=0
    ·subst he3;obtain⟨d,hd,hdk,hdn,hdl⟩:=LP.out rfl;have HRR:=hid (by rw[←HR2.out,if_neg (fun h=>h rfl)]:R=(eQ 0,S.make s3 3 o.ag));have iK:=fi.out.p3.e5;have k0:w5.cell? ⟨g7,0,none⟩=some (.int .i64 s3.ae):=(fi.out.p1).cells 0;have k1:w5.cell? ⟨g7,1,none⟩=some (.int .i64 s3.dir):=(fi.out.p1).cells 1;have k2:w5.cell? ⟨g7,2,none⟩=some (sV s3.name):=(fi.out.p1).cells 2;have kt0:=(fi.out.p1).thaw 0;have kt1:=(fi.out.p1).thaw 1;have kt2:=(fi.out.p1).thaw 2;have Ao:=hid (EM q S s3 o.ag d w5 (pt g7 (.cells (spC s3) 102)::pt g4 zA::pt g3 (.cells (opC o ov) 33)::L) (by have:=iY.out;omega) hd hdk hdn hdl HB.out.last0 HB.out.aW HB.out.free HB.out.many fi.out);unfold spV spC at Ao;clear hd hdk;go_wp2_with fail
     refine st (Ao.out) (ge.out) fun w8 fI iI=>?_;try dsimp only
     have fJ:=hid fI.out.va;exact zby
    ·exact zbz
  ·exact zcH
theorem xa (q:Nat)(S:Tre)(fd n off af:Int)(ag aj:Str)(ov:Value)(w:World)(L:List HP)(rk:Int→Nat)(mx:Int)(hW:Wk S)(hY:Wy S rk)(hM:MxL mx L)(hp:ag.length≤100000)(hd:aj.length≤100000)(hB:Opb S)(xY:(S.fresh aj).2=0→nN S (S.fresh aj).1)(hO:Has w (Trc q S::L)) :
  zCl 16 #[.pointer (some ⟨q,0,none⟩),opV ⟨13,fd,n,off,af,ag,aj⟩ (ov)] w fun e w'=>e=.returned (fL (S.symlink ag aj).1 eS eS)∧Has w' (Trc q (S.symlink ag aj).2::L)∧Keep w w':=by
 have HX0:=(fun(w:World)(L':List HP)(hM:MxL mx L')(hO:Has w (Trc q S::L'))=>AC q S rk ⟨13,fd,n,off,af,ag,aj⟩ ov mx w L' hW hY hM hp hd hB xY hO)
 try dsimp only at HX0
 have HX:=hid HX0;clear HX0;have HM:=hid hM;clear hM;generalize S.symlink ag aj=R at *;have HO:=hid hO;clear hO;try unfold opV opC at HX
 unfold opV opC;go_enter Tryz.func16,Tryz.ntmps16
 go_upto_region 1 with fail
 obtain⟨w1,g3,g4,ew,e4,e3,eT,ff⟩:=f9 HO.out ⟨13,fd,n,off,af,ag,aj⟩ ov;rw[ew,e4,e3];clear HO ew e4 e3;have hp0:=eT.out.p1.e0;have hp1:=eT.out.p1.e1;have hp2:=eT.out.p1.e2;have hp3:=eT.out.p1.e3;have lP:=eT.out.p1.e4;have iK:=eT.out.p1.e5;have kI:=eT.out.p1.e6;have lU:=eT.out.p1.e7;go_wp2_with fail
 refine st (HX.out w1 _ ((HM.out.cons (pt g3 (.cells #[.int .i64 13,.int .i64 fd,.int .i64 n,.int .i64 off,.int .i64 af,sV ag,sV aj,ov] 33))).cons (pt g4 (.cells #[.int .i64 0,.int .i64 0,.int .i64 0,.int .i64 0,eS,eS] 38))) (eT.out.re 3 [2,0,1])) (ff.out) fun w2 eZ fu=>?_;exact zan
theorem pJ {S:Tre}{rk:Int→Nat}(hup:∀ n x,fnd S.ac n=some x→x.above≠0→(∃ y,fnd S.ac x.above=some y)∧rk x.above<rk n)(d:Int):∀ (k j:Nat) (n:Int) (x:Nod),fnd S.ac n=some x→rk n≤k→rk n≤j→S.withinF k n d=S.withinF j n d:=by
 intro k;induction k with
 | zero =>
  intro j n x hn h1 h2;have hz:rk n=0:=by omega
  cases j with
  | zero=>rfl
  | succ j =>
   have hat:S.at_ n=x:=by unfold Tre.at_;rw[hn];rfl
   show (n==d)=(if n≠d∧(S.at_ n).above≠0 then _ else n==d);rw[if_neg];rintro⟨-,h⟩;rw[hat] at h;have:=(hup n x hn h).2;omega
 | succ k ih =>
  intro j n x hn h1 h2;have hat:S.at_ n=x:=by unfold Tre.at_;rw[hn];rfl
  cases j with
  | zero =>
   show (if n≠d∧(S.at_ n).above≠0 then _ else n==d)=(n==d);rw[if_neg];rintro⟨-,h⟩;rw[hat] at h;have:=(hup n x hn h).2;omega
  | succ j =>
   show (if n≠d∧(S.at_ n).above≠0 then S.withinF k (S.at_ n).above d else n==d)=(if n≠d∧(S.at_ n).above≠0 then S.withinF j (S.at_ n).above d else n==d);by_cases h:n≠d∧(S.at_ n).above≠0
   ·rw[if_pos h,if_pos h,hat];have h3:=h.2;rw[hat] at h3;obtain⟨⟨y,hy⟩,hr⟩:=hup n x hn h3;exact ih j _ y hy (by omega) (by omega)
   ·rw[if_neg h,if_neg h]
theorem Bv (q:Nat)(S:Tre)(rk:Int→Nat)(n d:Int)(x:Nod)(w:World)(L:List HP)(hup:∀ n x,fnd S.ac n=some x→x.above≠0→(∃ y,fnd S.ac x.above=some y)∧rk x.above<rk n)(hn:fnd S.ac n=some x)(hrk:rk n≤20)(hO:Has w (Trc q S::L)) :
  zCl 126 #[.pointer (some ⟨q,0,none⟩),.int .i64 n,.int .i64 d] w fun e w'=>e=.returned (.bool (S.within n d))∧w=w':=by
 obtain⟨m,f,P,hJ,h⟩:=eY.1 hO;have hq:=(Trb.cells h).1;have HL:=hid (show ∀ n x,fnd S.ac n=some x→∃ b,(Instr.lookup tNo (.map (some m)) (.int .i64 n) false).run Tryz.prog w=.ok (.pointer (some ⟨b,0,none⟩)) w∧w.cell? ⟨b,6,none⟩=some (.int .i64 x.above) from fun n x hn=>by
  rw[←hJ.1] at hn;obtain⟨b,hb,hl⟩:=Trb.look h hn;obtain⟨A,B,dv,wv,nm,-,-,hP⟩:=Trb.take h hb;exact⟨b,hl,hP.cells 6⟩)
 have FO:=hid hup;have HST:=hid (fun k j n x=>pJ hup d k j n x);obtain⟨R,hR⟩:∃ R,S.within n d=R:=⟨_,rfl⟩
 have HR0:=hid (by rw[←hR];exact pJ hup d _ _ n x hn (Nat.le_refl _) (by omega):S.withinF (rk n) n d=R);rw[hR];clear h hO hJ hup hR;go_enter Tryz.func126,Tryz.ntmps126
 go_wp2_with fail
 go_loopw [1] (fun v w'=>∃ (n1:Int) (x1:Nod),v=.int .i64 n1∧w'=w∧fnd S.ac n1=some x1∧Hid (S.withinF (rk n1) n1 d=R)) (fun v _=>rk (intOf v))
 case atStart=>exact⟨n,x,rfl,rfl,hn,HR0⟩
 case round =>
  clear HR0 hn hrk;obtain⟨n1,x1,rfl,rfl,hn1,HR1⟩:=hrel;have hat:S.at_ n1=x1:=by unfold Tre.at_;rw[hn1];rfl
  obtain⟨b,hl,hc⟩:=HL.out n1 x1 hn1;by_cases hnd:n1=d
  ·subst hnd;have h1:(n1 != n1)=false:=by simp
   have h2:(n1==n1)=true:=by simp
   have HRR:=hid (show R=true from by
    rw[←HR1.out];cases hk:rk n1 with
    | zero=>show (n1==n1)=true;simp
    | succ k=>show (if n1≠n1∧_ then _ else n1==n1)=true;rw[if_neg (by simp)];simp)
   go_wp2_with fail
   go_ret
   exact⟨by rw[HRR.out];rfl,rfl⟩
  ·have h1:(n1 != d)=true:=by simpa using hnd
   have h2:(n1==d)=false:=by simpa using hnd
   by_cases ha:x1.above=0
   ·have h3:(x1.above != 0)=false:=by simp[ha]
    have HRR:=hid (show R=false from by
     rw[←HR1.out];cases hk:rk n1 with
     | zero=>exact h2
     | succ k=>show (if n1≠d∧(S.at_ n1).above≠0 then _ else n1==d)=false;rw[if_neg (by rw[hat];exact fun h=>h.2 ha)];exact h2)
    go_wp2_with fail
    go_ret
    exact⟨by rw[HRR.out];rfl,rfl⟩
   ·have h3:(x1.above != 0)=true:=by simpa using ha
    obtain⟨⟨y,hy⟩,hr⟩:=FO.out n1 x1 hn1 ha;have HR2:=hid (show S.withinF (rk x1.above) x1.above d=R from by
     rw[←HR1.out];cases hk:rk n1 with
     | zero=>omega
     | succ k =>
      show _=(if n1≠d∧(S.at_ n1).above≠0 then S.withinF k (S.at_ n1).above d else n1==d);rw[if_pos (by rw[hat];exact⟨hnd,ha⟩),hat];exact HST.out _ _ _ y hy (Nat.le_refl _) (by omega))
    have gW:=hid hr;clear HR1 hat;go_wp2_with fail
    go_roundw
    case rel=>exact⟨x1.above,y,rfl,trivial,hy,HR2⟩
    case measure=>exact gW.out
theorem ue (v:Value)(xs:List Str)(w:World)(L:List HP)(hO:Has w L)(hr:Rd w v 1 xs.length (xs.map sV))(hsm:xs.length≤1000000000) :
  zCl 187 #[v] w fun e w'=>∃ v',e=.returned v'∧Has w' (Strs v' xs::L)∧Keep w w'∧l4 v'=l4 v:=by
 obtain⟨p,cap,rfl,hca,hla,hra⟩:=hr.form;have CO:=hid hra;have Hr:=hid hr;have HO:=hid hO;clear hO hra hr;rcases p with _|ad
 ·have hz:xs = []:=by
   exact zbt
  subst hz;have hnil:=Lib.run_eql_slice_nil w 36 gx none 0 cap 0 0 Tryz.underlying36;simp only[Option.isNone] at hnil;go_enter Tryz.func187,Tryz.ntmps187
  exact zcq
 ·have hnil:=Lib.run_eql_slice_nil w 36 gx (some ad) xs.length cap 0 0 Tryz.underlying36;simp only[Option.isNone] at hnil;go_enter Tryz.func187,Tryz.ntmps187
  go_wp2_with (at_builtin;refine jo rfl _ _ _ rfl Tryz.underlying36 iD rfl ((HO.out.alloc (.cells #[] 9)).row_of (n:=0) (cap:=0) (Nat.le_refl _) (Nat.zero_le _) rfl rfl rfl) rfl ad xs.length cap (xs.map sV) rfl (Hr.out.alloc _) (uo xs) (eU (by omega)) (by omega) ?_)
  intro v' w' kC hK' hN;have oc:=hid kC;have qy:=hid hK';have HN:=hid hN;clear kC hK' hN;go_wp2_with fail
  go_ret
  refine⟨_,rfl,?_,((Keep.refl _).alloc _).trans qy.out,?_⟩
  ·have:=oc.out;simpa[Strs] using this
  ·exact oc.out.bz HN.out
theorem wz (v:Value)(xs:List Str)(w:World)(L:List HP)(hO:Has w L)(hr:Rd w v 1 xs.length (xs.map sV))(hsm:xs.length≤1000000000) :
  zCl 187 #[v] w fun e w'=>∃ v',e=.returned v'∧Has w' (Strs v' xs::L)∧Keep w w' :=
 (ue v xs w L hO hr hsm).mono fun _ _ ⟨v',h1,h2,h3,_⟩=>⟨v',h1,h2,h3⟩
theorem tj {w:World}{L:List HP}{v:Value}{n:Nat}{xs:List Str}{k:Str}(h:Has w (row v gx 1 n (xs.map sV ++ [sV k])::L))(hn:n=(xs ++ [k]).length):Has w (Strs v (xs ++ [k])::L):=by
 subst hn;unfold Strs;rw[List.map_append];exact h
theorem yw {α:Type} {t:List (Str×α)} {rem:List Str} {k:Str} {g:Str×α→Bool} {a:α} (hnd:(t.map Prod.fst).Nodup) (hp:(k,a)∈t) (hg:g (k,a)=false) (h:∀ e∈t,e.1∉rem→g e=false):∀ e∈t,e.1∉rem.filter (fun y => !decide (y=k))→g e=false:=by
 intro e he hn;by_cases hk:e.1=k
 ·have:e=(k,a):=by
   obtain⟨e1,e2⟩:=e;dsimp only at hk;subst hk;have h1:=gf hnd he;have h2:=gf hnd hp;rw[h1] at h2;cases h2;rfl
  rw[this];exact hg
 ·refine h e he (fun hr=>hn ?_);rw[List.mem_filter];exact⟨hr,by simpa using hk⟩
theorem Gt (q m f:Nat)(P:List Pn)(last:Int)(T:List Tb.Slot)(rk:Int→Nat)(hnd:(P.map Prod.fst).Nodup)(hlow:∀ y∈P,rk y.1≤21)(hrk:∀ y∈P,∀ e∈y.2.2.ab,rk y.1<rk e.2∧e.1.length≤24∧∃ z∈P,z.1=e.2):∀ (d:Nat) (n:Int) (b:Nat) (x:Nod) (parts:List Str) (PC:List Pn) (v:Value) (w:World) (L:List HP),22≤rk n+d→rk n≤21→(n,b,x)∈P→parts.length≤30→(∀ p∈parts,p.length≤24)→(∀ y∈P,rk n≤rk y.1→y∈PC) →
  Has w (Strs v parts::Trg q m f P last T PC::L) →
  zCl 127 #[.pointer (some ⟨q,0,none⟩),.int .i64 n,v] w fun e w'=>e=.returned (.bool (Tre.deepF ⟨pnN P,last,T⟩ d n parts))∧Has w' (Strs v parts::Trg q m f P last T PC::L)∧Keep w w':=by
 intro d;induction d with
 | zero=>intro n b x parts PC v w L h1 h2;omega
 | succ d ih =>
 intro n b x parts PC v w L hr1 hr2 hin hpl G0 hall hO;obtain⟨A,B,GV⟩:=List.append_of_mem (hall _ hin (Nat.le_refl _));have hat:(⟨pnN P,last,T⟩:Tre).at_ n=x:=by
  unfold Tre.at_;rw[gf (by rw[gr];exact hnd) (show (n,x)∈pnN P from List.mem_map.2 ⟨_,hin,rfl⟩)];rfl
 obtain⟨R,hR⟩:∃ R,Tre.deepF ⟨pnN P,last,T⟩ (d+1) n parts=R:=⟨_,rfl⟩
 have hR2:(Tre.longM parts||x.ab.any fun e=>Tre.deepF ⟨pnN P,last,T⟩ d e.2 (parts ++ [e.1]))=R:=by
  rw[←hR,Tre.deepF,hat]
 rw[hR];have HR:=hid hR2;have HIH:=hid ih;have IF:=hid hall;have Ba:=hid GV;have E2:=hid G0;clear ih hall hat hR hR2 G0;have OP:(kw parts).length≤1000000:=by have:=nD parts E2.out;omega
 obtain⟨pv,cv,rfl,-⟩:=(Strs.rd hO).form;have Fr:=hid (Dl (.slice pv parts.length cv) parts w _ (Strs.rd hO) (by omega) OP hO);cases Du:Tre.longM parts
 ·have Kq:∀ R',(false||R')=R':=fun R'=>rfl;have JP:=hid (by have h:=HR.out;rw[Du] at h;exact h:(x.ab.any fun e=>Tre.deepF ⟨pnN P,last,T⟩ d e.2 (parts ++ [e.1]))=R);rw[Du] at Fr;have np:=hid (show parts.length≤20 from by
   unfold Tre.longM at Du;rw[Bool.or_eq_false_iff] at Du;have:=Du.1;simp only[decide_eq_false_iff_not] at this;omega)
  clear HR Du Kq;go_enter Tryz.func127,Tryz.ntmps127
  go_wp2_with fail
  refine st (Fr.out) (Keep.refl w) fun w1 eT ff=>?_;try dsimp only
  clear Fr hO;have hlk:=Trg.look eT.out.drop hin;have hq0:=(Trg.cells eT.out.drop).1;have h1:Has w1 (Trg q m f P last T (A++(n,b,x)::B)::Strs (.slice pv parts.length cv) parts::L):=by rw[←GV];exact eT.out.re 2 [1,0]
  obtain⟨dv,wv,nm,hnm,h2⟩:=fG.1 (Trg.bL h1);have lg:=hid hnm;have HO:=hid h2;have hc3:=h2.e3;clear h1 h2 hnm;have hback:∀ w',Has w' (pt b (.cells (gg x dv wv nm) 82)::Dat x.aa dv x.data::Bools wv x.wr::Nms nm x.ab::Trg q m f P last T (A++B)::Strs (.slice pv parts.length cv) parts::L)→Has w' (Strs (.slice pv parts.length cv) parts::Trg q m f P last T PC::L):=by
   intro w' h;have h10:=Trg.push n (fG.2 ⟨_,_,_,lg.out,h⟩:Has _ (Ndc b x::_));have h11:=Trg.perm h10 (PC':=PC) (by rw[Ba.out];exact List.perm_middle.symm);exact h11.re 2 [1,0]
  have Hc:=hid hback;have L8:=ff;clear hback eT;cases nm with
  | none =>
   have hrn:=qP;have hnx:=sZ w1.heap.size (w1.alloc (.mapIter none 0 #[] 0)) 0 (by show (Array.push _ _)[_]? = _;simp);have hnn:x.ab = []:=(Has.aC.1 (show Has w1 (l0 (x.ab = [])::_) from HO.out.re 4 [3])).1;go_wp2_with fail
   go_loopw [] (fun w'=>w'=w1.alloc (.mapIter none 0 #[] 0)) (fun _=>0)
   case atStart=>rfl
   case round =>
    subst hrel;go_wp2_with fail
    go_ret
    have Mm:R=false:=by rw[←JP.out,hnn];rfl
    exact⟨by rw[Mm];rfl,Hc.out _ (HO.out.alloc' _),ff.out.alloc _⟩
  | some mm =>
   have fJ:=hid (show Has w1 (Mk kStr vInt mm x.ab::_) from HO.out.re 6 [3,0,1,2,4,5]);have EB:=hid (Mk.nodup fJ.out);clear HO;go_wp2_with (at_range;refine gY fJ.out tNm jg rfl _ rfl rfl ?_;intro w8 o0 hK8 hs8)
   try go_frame
   have fI:=hid o0;have iI:=hid (ff.out.trans hK8);clear o0 hK8 hs8 fJ ff L8 hc3 hlk hq0;generalize w1.heap.size=r at *;go_loopw [] (fun w'=>∃ (rem:List Str) (cnt:Nat),Hid (∀ e∈x.ab,e.1∉rem→Tre.deepF ⟨pnN P,last,T⟩ d e.2 (parts ++ [e.1])=false)∧Hid (Has w' (Mr kStr vInt mm r x.ab rem cnt::pt b (.cells (gg x dv wv (some mm)) 82)::Dat x.aa dv x.data::Bools wv x.wr::Trg q m f P last T (A++B)::Strs (.slice pv parts.length cv) parts::L))∧Hid (Keep w w')) (fun w'=>w'.rangeLeft mm r)
   case atStart=>exact⟨x.ab.map Prod.fst,x.ab.length,hid fun e he hn=>absurd (List.mem_map_of_mem he) hn,fI,iI⟩
   case round =>
    clear fI iI;obtain⟨rem,cnt,HF,HO,HK⟩:=hrel;have hleft:=Mr.left HO.out;have A8:=hid hleft;go_wp2_with (at_next;refine ik HO.out rfl _ rfl rfl ?_ ?_)
    ·intro gz;subst gz;have fi:=hid (Hc.out _ ((Mr.end HO.out).re 6 [1,2,3,0,4,5]));clear HO hleft;go_wp2_with fail
     go_ret
     have Mm:R=false:=by
      rw[←JP.out,List.any_eq_false];intro e he;rw[HF.out e he (by simp)];simp
     exact⟨by rw[Mm];rfl,fi.out,HK.out⟩
    ·rintro k c w9 cnt' uT H8 hky mU zE hK9 hsz hen;simp only[pK,pi] at hen ⊢;have tz:=hen;obtain⟨hk1,hk2,⟨c',b',x'⟩,hz,hzc⟩:=hrk _ hin (k,c) uT;dsimp only at hk1 hk2 hzc;subst hzc;have sg:∀ y∈P,rk c'≤rk y.1→y∈A++B:=by
      exact zbC
     have HX:=hid (fun(v:Value)(w:World)(L:List HP)(h:Has w (Strs v (parts ++ [k])::Trg q m f P last T (A++B)::L))=>HIH.out c' b' x' (parts ++ [k]) (A++B) v w L (by omega) (hlow _ hz) hz (by have h9:=np.out;rw[List.length_append,List.length_singleton];omega) (by
      intro p hp;rcases List.mem_append.1 hp with h|h
      ·exact E2.out p h
      ·rw[List.mem_singleton.1 h];exact hk2) sg h)
     have HST:=hid (fun(hg:Tre.deepF ⟨pnN P,last,T⟩ d c' (parts ++ [k])=false)=>yw (g:=fun e=>Tre.deepF ⟨pnN P,last,T⟩ d e.2 (parts ++ [e.1])) EB.out uT hg HF.out);have KP:=hid (fun(hg:Tre.deepF ⟨pnN P,last,T⟩ d c' (parts ++ [k])=true)=>(by rw[←JP.out,List.any_eq_true];exact⟨_,uT,hg⟩:R=true));have sC:=hid zE;have Qj:=hid hk2;have gQ:=hid (HK.out.trans hK9);have fJ:=hid mU;clear uT H8 hky zE hK9 hsz hleft HO HK sg mU hk2;go_wp2_with fail
     refine(wz (.slice pv parts.length cv) parts w9 _ fJ.out (Strs.rd (fJ.out.re 6 [5])) (by omega)).mono ?_;rintro e w10 ⟨v10,rfl,sU,hK10⟩;have gJ:=hid sU;have ko:=hid ((gQ.out).trans hK10);clear sU hK10;try dsimp only
     clear fJ gQ;go_wp2_with (at_builtin;refine fS rfl _ _ _ rfl Tryz.underlying36 iD rfl (sV k) (gJ.out.alloc' _) rfl 1 _ rfl (by simp) rfl (eU (by omega)) (by omega) ?_)
     intro v11 CK zS zy;have nr:=hid (show Has CK (Strs v11 (parts ++ [k])::Trg q m f P last T (A++B)::Mr kStr vInt mm r x.ab (rem.filter fun y => !decide (y=k)) cnt'::pt b (.cells (gg x dv wv (some mm)) 82)::Dat x.aa dv x.data::Bools wv x.wr::Strs (.slice pv parts.length cv) parts::L) from by
      exact tj (zS.re 7 [0,5,1,2,3,4,6]) (by simp))
     have nj:=hid ((ko.out.alloc _).trans zy);clear zS zy gJ ko;go_wp2_with fail
     refine st (HX.out v11 CK _ nr.out) (nj.out) fun w12 j5 na=>?_;try dsimp only
     clear nr nj;have mB:=hid (show Has w12 (Mr kStr vInt mm r x.ab (rem.filter fun y => !decide (y=k)) cnt'::pt b (.cells (gg x dv wv (some mm)) 82)::Dat x.aa dv x.data::Bools wv x.wr::Trg q m f P last T (A++B)::Strs (.slice pv parts.length cv) parts::L) from j5.out.re 7 [2,3,4,5,1,6]);clear j5;cases hg:Tre.deepF ⟨pnN P,last,T⟩ d c' (parts ++ [k])
     ·have HG:=hid hg;clear hg;have Kd:=Mr.left mB.out;go_wp2_with fail
      exact⟨⟨rem.filter fun y => !decide (y=k),cnt',hid (HST.out HG.out),mB,na⟩,by rw[Kd,A8.out];exact sC.out⟩
     ·have HG:=hid hg;clear hg;go_wp2_with fail
      go_ret
      exact⟨by rw[KP.out HG.out];rfl,Hc.out _ ((Mr.end mB.out).re 6 [1,2,3,0,4,5]),na.out⟩
 ·have HRR:=hid (by rw[←HR.out,Du];rfl:R=true);rw[Du] at Fr;go_enter Tryz.func127,Tryz.ntmps127
  go_wp2_with fail
  refine st (Fr.out) (Keep.refl w) fun w1 eT ff=>?_;try dsimp only
  go_wp2_with fail
  go_ret
  exact⟨by rw[HRR.out];rfl,eT.out,ff.out⟩
end Go.Proofs.YtmgpgbfgemebbaaGreatDoor
namespace Go.Own
open Go.RowKit Go.Maps
section
variable {P:Program} {k e:TypeId} {κ α:Type} [DecidableEq κ] {K:Ky P k κ} {V:El P e α} {w:World} {L:List HP} {b:Nat} {t:List (κ×α)} {o:Oper} {a:Act} {Q:Exit→Act→World→Prop} {R:Act→World→Prop}
theorem zZ (h:Has w (Mk K V b t::L))(T:TypeId)(ht:P.underlying T=some (.map k e))(m kx:Operand) (hop:o.op=Op.call {callee:=Callee.builtin Builtin.delete,args:=#[m,kx],argTypes:=#[T,k]}) (hm:a.eval m=.map (some b)) (x:κ) (hx:K.ok x) (hk:a.eval kx=K.val x)
  (hK:∀ w',Has w' (Mk K V b (gq t x)::L)→Keep w w'→R (a.put o.dst (.tuple #[])) w'):o.wp P a w R Q:=by
 obtain⟨D,h1,h2⟩:=Mk.iff.1 h;obtain⟨w',hrun,r1,r2⟩:=h2.owns.drop K.law ht (K.spell hx) o.type;unfold Oper.wp;simp[execOp,hop,resolve,invoke,builtin,hm,hk,hrun,Result.andThen];have h3:=h2.bb (jV r2.grown fun r e=>by cases e;rfl) r1;exact hK w' (Mk.iff.2 ⟨_,h1.del x,h3⟩) (Mk.keep r2)
end
section
variable {P:Program} {ops:Array Oper} {S:World→Prop} {rd:Nat→Bool} {qc:Qc}
def tT (ops:Array Oper)(rd:Nat→Bool)(p q:Nat):Prop:=∀ {i k:Nat} {oi ok:Oper},ops[i]? = some oi→ops[k]? = some ok→k<i→¬ Anc ops i k→¬ (k=p∧i=q)→ok.apart ops oi=true∧(rd k=true∨rd i=true)
def jT (ops:Array Oper)(rd:Nat→Bool)(p q:Nat):Bool :=
 let A:=ahead ops
 Region.noSelect ops &&
 ((List.range ops.size).all fun i=>match ops[i]? with
  | none=>true
  | some oi=>(oi.after.all fun e => !Region.binds .any e||decide (e.on<i)) &&
   (List.range i).all fun k=>(A.getD i []).contains k||(decide (k=p)&&decide (i=q))||match ops[k]? with
    | none=>true
    | some ok=>ok.apart ops oi&&(rd k||rd i)) &&
 ((List.range ops.size).all fun j => !(decide (p<j)&&decide (j<q))||match ops[p]?,ops[j]? with
  | some op,some oj=>oj.apart ops op&&rd j && !rd p
  | _,_=>false)
theorem rP {p q:Nat}(h:jT ops rd p q=true):tT ops rd p q:=by
 intro i k oi ok hi hk hki hn hne;unfold jT at h;simp only[Bool.and_eq_true,List.all_eq_true,List.mem_range] at h;have hlt:i<ops.size:=(Array.getElem?_eq_some_iff.1 hi).1;have h1:=h.1.2 i hlt;simp only[hi,Bool.and_eq_true,List.all_eq_true,List.mem_range] at h1;have h2:=h1.2 k hki;simp only[hk,Bool.or_eq_true,Bool.and_eq_true,decide_eq_true_eq] at h2;rcases h2 with (h2|h2)|h2
 ·exact absurd (jY ops i k (by simpa using h2)) hn
 ·exact absurd h2 hne
 ·exact h2
theorem qh {p q:Nat}(h:jT ops rd p q=true){i:Nat}{oi:Oper}(hi:ops[i]? = some oi):∀ e∈oi.after,Region.binds .any e=true→e.on<i:=by
 unfold jT at h;simp only[Bool.and_eq_true,List.all_eq_true,List.mem_range] at h;have hlt:i<ops.size:=(Array.getElem?_eq_some_iff.1 hi).1;have h1:=h.1.2 i hlt;exact zcs
theorem sk {p q:Nat}(h:jT ops rd p q=true):Region.noSelect ops=true:=by
 unfold jT at h;simp only[Bool.and_eq_true] at h;exact h.1.1
theorem tC {p q:Nat}(h:jT ops rd p q=true){op:Oper}(hp:ops[p]? = some op){j:Nat}(h1:p<j)(h2:j<q)(h3:j<ops.size):∃ oj,ops[j]? = some oj∧oj.apart ops op=true∧rd j=true:=by
 unfold jT at h;simp only[Bool.and_eq_true,List.all_eq_true,List.mem_range] at h;have h4:=h.2 j h3;have hj:ops[j]? = some ops[j]:=by simp[h3]
 rw[hp,hj] at h4;simp[h1,h2] at h4;exact⟨_,hj,h4.1.1,h4.1.2⟩
theorem qD {Q:Exit→Act→World→Prop}{p q:Nat}(hsel:Region.noSelect ops=true)(hE:∀ {i:Nat} {oi:Oper},ops[i]? = some oi→∀ e∈oi.after,Region.binds .any e=true→e.on<i)(hpq:tT ops rd p q):∀ (fuel:Nat) (listed:Array Bool) (rem:List Nat) (a:Act) (w:World),
  listed.size=ops.size→kQ ops listed→(∀ i,i∈rem↔(i<ops.size∧listed.getD i true=false))→rem.Pairwise (· < ·)→rem.length≤fuel→(p∉rem∨q∉rem)→S w →
  wpT P qc ops S rd (fun a w=>Q .normal a w) rem a w→wpAny P .any ops Q fuel listed a w:=by
 intro fuel;induction fuel with
 | zero =>
  intro listed rem a w hsz hd gz hpw hf hx hS h;exact za1
 | succ fuel ih =>
  intro listed rem a w hsz hd gz hpw hf hx hS h;refine⟨fun hr=>?_,fun j hj=>?_⟩
  ·cases rem with
   | nil=>exact h
   | cons i rest =>
    exfalso;obtain⟨hlt,hu⟩:=(gz i).1 (by simp);obtain⟨o,ho⟩:∃ o,ops[i]? = some o:=⟨ops[i],by simp[hlt]⟩
    have:i∈Region.ready .any ops listed:=by
     refine mem_ready.2 ⟨hu,o,ho,fun e he hbe=>?_⟩;have hlt2:=hE ho e he hbe;exact zaI
    rw[hr] at this;cases this
  ·obtain⟨hu,oj,hoj,hall⟩:=mem_ready.1 hj;have hjlt:=(Array.getElem?_eq_some_iff.1 hoj).1;have hjm:=(gz j).2 ⟨hjlt,hu⟩;obtain⟨r1,r2,rfl⟩:=List.append_of_mem hjm;have oE:=List.pairwise_append.1 hpw;have hb:=iO hoj r2 hsel r1 a w hS (fun k hk=>by
    obtain⟨n8,rz⟩:=(gz k).1 (by simp[hk]);obtain⟨ok,hok'⟩:∃ o,ops[k]? = some o:=⟨ops[k],by simp[n8]⟩
    have hkj:k<j:=oE.2.2 k hk j (by simp);have hn:¬ Anc ops j k:=fun hA=>by
     exact zcT
    obtain⟨h1,h2⟩:=hpq hoj hok' hkj hn (fun hc=>by rcases hx with hx|hx;(exact hx (hc.1 ▸ by simp[hk]));(exact hx (hc.2 ▸ by simp)));exact⟨ok,hok',h1,h2⟩) h
   refine gm hS (fun a' w' hS' h'=>ih (listed.setIfInBounds j true) (r1++r2) a' w' (by simpa using hsz) ?_ ?_ ?_ ?_ (hx.imp (fun h hm=>h (by rcases List.mem_append.1 hm with hm|hm <;> simp[hm])) (fun h hm=>h (by rcases List.mem_append.1 hm with hm|hm <;> simp[hm]))) hS' h') hb
   ·exact zaP
   ·exact zax
   ·exact zbS
   ·simp at hf ⊢;omega
theorem pN {Q:Act→World→Prop}{X Y:List Nat}(h:∀ a w,S w→wpT P qc ops S rd Q X a w→wpT P qc ops S rd Q Y a w):∀ (r:List Nat) (a:Act) (w:World),S w→wpT P qc ops S rd Q (r++X) a w→wpT P qc ops S rd Q (r++Y) a w
 | [],a,w,hS,hh=>h a w hS hh
 | i::r,a,w,hS,hh=>by
  rw[List.cons_append,gL] at hh ⊢;exact gM hS (fun a w hS' h'=>pN h r a w hS' h') hh
theorem kL {Q K:Act→World→Prop}(h:∀ a w,S w→Q a w→K a w):∀ (r:List Nat) (a:Act) (w:World),S w→wpT P qc ops S rd Q r a w→wpT P qc ops S rd K r a w
 | [],a,w,hS,hh=>h a w hS hh
 | i::r,a,w,hS,hh=>by
  rw[gL] at hh ⊢;exact gM hS (fun a w hS' h'=>kL h r a w hS' h') hh
theorem j8 {Q:Act→World→Prop}(m:List Nat):∀ (l:List Nat) (a:Act) (w:World),S w→(wpT P qc ops S rd (wpT P qc ops S rd Q m) l a w↔wpT P qc ops S rd Q (l++m) a w)
 | [],a,w,_=>Iff.rfl
 | i::l,a,w,hS=>by
  rw[List.cons_append,gL,gL];exact⟨gM hS fun a w hS' h=>(j8 m l a w hS').1 h,gM hS fun a w hS' h=>(j8 m l a w hS').2 h⟩
theorem rQ {j:Nat}{oj:Oper}(hj:ops[j]? = some oj)(hr:rd j=true){K K':Act→World→Prop}{a:Act}{w:World}(hS:S w)(h1:stT P qc ops S rd j K a w)(h2:stT P qc ops S rd j K' a w):stT P qc ops S rd j (fun a w=>K a w∧K' a w) a w:=by
 unfold stT at *;simp only[hj,hr,if_true] at *;by_cases hw:Region.wanted oj (yielded ops a.tmps)=true
 ·simp only[hw,if_true] at *;obtain⟨v,a1,a2⟩:=h1;obtain⟨v',b1,b2⟩:=h2;obtain rfl:=nQ hS a1 b1;exact⟨_,a1,a2,b2⟩
 ·simp only[hw,if_false,Bool.false_eq_true] at *;exact⟨h1,h2⟩
theorem wY {Q:Exit→Act→World→Prop}{p q:Nat}{op:Oper}(hp:ops[p]? = some op)(KD:rd p=false)(hlt:p<q)(hsel:Region.noSelect ops=true)(hE:∀ {i:Nat} {oi:Oper},ops[i]? = some oi→∀ e∈oi.after,Region.binds .any e=true→e.on<i)(hpq:tT ops rd p q)
  (hmid:∀ {j:Nat},p<j→j<q→j<ops.size→∃ oj,ops[j]? = some oj∧oj.apart ops op=true∧rd j=true):∀ (fuel:Nat) (listed:Array Bool) (r m s:List Nat) (a:Act) (w:World),
  listed.size=ops.size→kQ ops listed→(∀ i,i∈r++p::(m++q::s)↔(i<ops.size∧listed.getD i true=false))→(r++p::(m++q::s)).Pairwise (· < ·)→(r++p::(m++q::s)).length≤fuel→S w →
  wpT P qc ops S rd (fun a w=>wpT P qc ops S rd (fun a w=>Q .normal a w) (p::q::s) a w∧wpT P qc ops S rd (fun a w=>Q .normal a w) (q::p::s) a w) (r++m) a w→wpAny P .any ops Q fuel listed a w:=by
 intro fuel;induction fuel with
 | zero=>intro listed r m s a w hsz hd gz hpw hf;simp at hf
 | succ fuel ih =>
  intro listed r m s a w hsz hd gz hpw hf hS h;have tD:=List.pairwise_append.1 hpw;have zh:=List.pairwise_cons.1 tD.2.1;have ui:=List.pairwise_append.1 zh.2;have F4:=List.pairwise_cons.1 ui.2.1;refine⟨fun hr=>?_,fun j hj=>?_⟩
  ·exfalso;obtain⟨i,rest,hi⟩:∃ i rest,r++p::(m++q::s)=i::rest:=by cases r <;> exact⟨_,_,rfl⟩
   obtain⟨hlt',hu⟩:=(gz i).1 (by rw[hi];simp);obtain⟨o,ho⟩:∃ o,ops[i]? = some o:=⟨ops[i],by simp[hlt']⟩
   have:i∈Region.ready .any ops listed:=by
    refine mem_ready.2 ⟨hu,o,ho,fun e he hbe=>?_⟩;have hlt2:=hE ho e he hbe;by_cases hl:listed.getD e.on true=true
    ·rw[Array.getD_eq_getD_getElem?] at hl ⊢;have:e.on<listed.size:=by omega
     simp[this] at hl ⊢;exact hl
    ·have hm:=(gz e.on).2 ⟨by omega,by simpa using hl⟩;rw[hi] at hm hpw;rcases List.mem_cons.1 hm with e1|e1
     ·omega
     ·have:=(List.pairwise_cons.1 hpw).1 _ e1;omega
   rw[hr] at this;cases this
  ·obtain⟨hu,oj,hoj,hall⟩:=mem_ready.1 hj;have hjlt:=(Array.getElem?_eq_some_iff.1 hoj).1;have hjm:=(gz j).2 ⟨hjlt,hu⟩;have jM:∀ k,k∈r++p::(m++q::s)→k<j→¬ (k=p∧j=q)→∃ ok,ops[k]? = some ok∧ok.apart ops oj=true∧(rd k=true∨rd j=true):=by
    intro k hk hkj hne;obtain⟨n8,rz⟩:=(gz k).1 hk;obtain⟨ok,hok'⟩:∃ o,ops[k]? = some o:=⟨ops[k],by simp[n8]⟩
    have hn:¬ Anc ops j k:=fun hA=>by
     as_aux_lemma=>exact zcT
    obtain⟨h1,h2⟩:=hpq hoj hok' hkj hn hne;exact⟨ok,hok',h1,h2⟩
   have hsz':(listed.setIfInBounds j true).size=ops.size:=by simpa using hsz
   have hd':kQ ops (listed.setIfInBounds j true):=by
    as_aux_lemma=>exact zaP
   have hnd:(r++p::(m++q::s)).Nodup:=hpw.imp (fun h=>Nat.ne_of_lt h);have mH:∀ X:List Nat,(r++p::(m++q::s)).Perm (j::X)→∀ i,i∈X↔(i<ops.size∧(listed.setIfInBounds j true).getD i true=false):=by
    intro X hX i;have GS:=List.nodup_cons.1 (hX.nodup_iff.1 hnd);by_cases hij:i=j
    ·as_aux_lemma=>exact zcp
    ·rw[getD_set_ne true (Ne.symm hij),←gz i,hX.mem_iff];simp[hij]
   rcases List.mem_append.1 hjm with hc|hc
   ·
    obtain⟨r1,r2,rfl⟩:=List.append_of_mem hc;have hlast:=(List.pairwise_append.1 tD.1).2.2;have hb:=iO hoj (r2++m) hsel r1 a w hS (fun k hk=>jM k (by simp[hk]) (hlast k hk j (by simp)) (fun hne=>by have:=tD.2.2 j (by simp) p (by simp);omega)) (by simpa using h);refine gm hS (fun a' w' hS' h'=>ih (listed.setIfInBounds j true) (r1++r2) m s a' w' hsz' hd' (mH _ (by simp)) ?_ ?_ hS' (by simpa using h')) hb
    ·have:(r1++r2++p::(m++q::s)).Sublist (r1++j::r2++p::(m++q::s)):=by simp
     exact hpw.sublist this
    ·simp at hf ⊢;omega
   ·rcases List.mem_cons.1 hc with rfl|hc
    ·
     rw[hp] at hoj;cases hoj;have h1:=kL (K:=wpT P qc ops S rd (fun a w=>Q .normal a w) (j::q::s)) (fun a w _ h=>h.1) _ a w hS h;rw[j8 _ _ _ _ hS] at h1;have hb:=iO hp (q::s) hsel (r++m) a w hS (fun k hk=>by
      rcases List.mem_append.1 hk with hk|hk
      ·exact jM k (by simp[hk]) (tD.2.2 k hk j (by simp)) (fun hne=>by omega)
      ·have hjk:=zh.1 k (by simp[hk]);obtain⟨ok,e1,e2,e3⟩:=hmid hjk (ui.2.2 k hk q (by simp)) ((gz k).1 (by simp[hk])).1;exact⟨ok,e1,e2,.inl e3⟩) h1
     refine gm hS (fun a' w' hS' h'=>qD hsel hE hpq fuel (listed.setIfInBounds j true) (r++m++q::s) a' w' hsz' hd' (mH _ (by simp)) ?_ ?_ (.inl ?_) hS' h') hb
     ·have:(r++m++q::s).Sublist (r++j::(m++q::s)):=by rw[List.append_assoc];exact List.Sublist.append_left (List.sublist_cons_self _ _) _
      exact hpw.sublist this
     ·simp at hf ⊢;omega
     ·have:=List.nodup_cons.1 ((List.perm_middle.nodup_iff).1 hnd);simpa using this.1
    ·rcases List.mem_append.1 hc with hc|hc
     ·
      obtain⟨m1,m2,rfl⟩:=List.append_of_mem hc;have hlast:=(List.pairwise_append.1 ui.1).2.2;have Qb:=zh.1 j (by simp);have hjq:=ui.2.2 j (by simp) q (by simp);have hb:=iO hoj m2 hsel (r++m1) a w hS (fun k hk=>by
       rcases List.mem_append.1 hk with hk|hk
       ·exact jM k (by simp[hk]) (tD.2.2 k hk j (by simp)) (fun hne=>by omega)
       ·exact jM k (by simp[hk]) (hlast k hk j (by simp)) (fun hne=>by omega)) (by simpa using h)
      refine gm hS (fun a' w' hS' h'=>ih (listed.setIfInBounds j true) r (m1++m2) s a' w' hsz' hd' (mH _ ?_) ?_ ?_ hS' (by simpa using h')) hb
      ·have:=(List.perm_middle (a:=j) (l₁:=r++p::m1) (l₂:=m2++q::s))
       simpa using this
      ·have:(r++p::(m1++m2++q::s)).Sublist (r++p::(m1++j::m2++q::s)):=by simp
       exact hpw.sublist this
      ·simp at hf ⊢;omega
     ·rcases List.mem_cons.1 hc with rfl|hc
      ·
       have h1:=kL (K:=wpT P qc ops S rd (fun a w=>Q .normal a w) (j::p::s)) (fun a w _ h=>h.2) _ a w hS h;rw[j8 _ _ _ _ hS] at h1;have hb:=iO hoj (p::s) hsel (r++m) a w hS (fun k hk=>by
        rcases List.mem_append.1 hk with hk|hk
        ·exact jM k (by simp[hk]) (tD.2.2 k hk j (by simp)) (fun hne=>by have:=tD.2.2 k hk p (by simp);omega)
        ·exact jM k (by simp[hk]) (ui.2.2 k hk j (by simp)) (fun hne=>by have:=zh.1 k (by simp[hk]);omega)) h1
       refine gm hS (fun a' w' hS' h'=>?_) hb;have h2:wpT P qc ops S rd (fun a w=>Q .normal a w) (r++(p::(m++s))) a' w':=by
        refine pN (X:=m++p::s) (fun a w hS h=>?_) r a' w' hS' (by simpa using h');rw[gL];refine iO hp s hsel m a w hS (fun k hk=>?_) h;obtain⟨ok,e1,e2,e3⟩:=hmid (zh.1 k (by simp[hk])) (ui.2.2 k hk j (by simp)) ((gz k).1 (by simp[hk])).1;exact⟨ok,e1,e2,.inl e3⟩
       refine qD hsel hE hpq fuel (listed.setIfInBounds j true) (r++p::(m++s)) a' w' hsz' hd' (mH _ ?_) ?_ ?_ (.inr ?_) hS' h2
       ·have:=(List.perm_middle (a:=j) (l₁:=r++p::m) (l₂:=s))
        simpa using this
       ·have:(r++p::(m++s)).Sublist (r++p::(m++j::s)):=by simp
        exact hpw.sublist this
       ·simp at hf ⊢;omega
       ·have:=(List.perm_middle (a:=j) (l₁:=r++p::m) (l₂:=s))
        have h3:=List.nodup_cons.1 ((this.nodup_iff).1 (by simpa using hnd));simpa using h3.1
      ·
       obtain⟨s1,s2,rfl⟩:=List.append_of_mem hc;have hqj:=F4.1 j (by simp);have hlast:=(List.pairwise_append.1 F4.2).2.2;have Pm:rd j=true:=by
        obtain⟨ok,e1,e2,e3⟩:=jM p (by simp) (by omega) (fun hne=>by omega);rw[KD] at e3;simpa using e3
       have hb1:wpT P qc ops S rd (stT P qc ops S rd j (fun a w=>wpT P qc ops S rd (fun a w=>Q .normal a w) (p::q::(s1++s2)) a w∧wpT P qc ops S rd (fun a w=>Q .normal a w) (q::p::(s1++s2)) a w)) (r++m) a w:=by
        refine kL (fun a w hS h=>rQ hoj Pm hS ?_ ?_) _ a w hS h
        ·exact iO hoj s2 hsel (p::q::s1) a w hS (fun k hk=>by
          simp only[List.mem_cons] at hk;rcases hk with rfl|rfl|hk
          ·as_aux_lemma=>exact zci
          ·as_aux_lemma=>exact zci
          ·exact jM k (by simp[hk]) (hlast k hk j (by simp)) (fun hne=>by omega)) h.1
        ·exact iO hoj s2 hsel (q::p::s1) a w hS (fun k hk=>by
          simp only[List.mem_cons] at hk;rcases hk with rfl|rfl|hk
          ·as_aux_lemma=>exact zci
          ·as_aux_lemma=>exact zci
          ·exact jM k (by simp[hk]) (hlast k hk j (by simp)) (fun hne=>by omega)) h.2
       have hb2:wpT P qc ops S rd (fun a w=>wpT P qc ops S rd (fun a w=>Q .normal a w) (p::q::(s1++s2)) a w∧wpT P qc ops S rd (fun a w=>Q .normal a w) (q::p::(s1++s2)) a w) (r++m++j :: []) a w:=by
        rw[←j8 _ _ _ _ hS];refine kL (fun a w hS h=>?_) _ a w hS hb1;rw[gL];exact gM hS (fun _ _ _ h=>h) h
       have hb:=iO hoj [] hsel (r++m) a w hS (fun k hk=>by
        rcases List.mem_append.1 hk with hk|hk
        ·exact jM k (by simp[hk]) (by have:=tD.2.2 k hk j (by simp);omega) (fun hne=>by omega)
        ·exact jM k (by simp[hk]) (by have:=ui.2.2 k hk j (by simp);omega) (fun hne=>by omega)) hb2
       refine gm hS (fun a' w' hS' h'=>ih (listed.setIfInBounds j true) r m (s1++s2) a' w' hsz' hd' (mH _ ?_) ?_ ?_ hS' (by simpa using h')) hb
       ·have:=(List.perm_middle (a:=j) (l₁:=r++p::(m++q::s1)) (l₂:=s2))
        simpa using this
       ·have:(r++p::(m++q::(s1++s2))).Sublist (r++p::(m++q::(s1++j::s2))):=by simp
        exact hpw.sublist this
       ·simp at hf ⊢;omega
theorem iV {Q:Act→World→Prop} : ∀ (l:List Oper) (ix:List Nat) (a:Act) (w:World),ix.map (fun i=>ops[i]?)=l.map some→jP P qc ops S Q l a w→wpT P qc ops S (jO qc ops) Q ix a w
 | [],ix,a,w,hl,h=>by
  have:ix = []:=by simpa using hl
  subst this;exact h
 | o::l,ix,a,w,hl,h=>by
  cases ix with
  | nil=>simp at hl
  | cons n ix =>
   rw[List.map_cons,List.map_cons,List.cons.injEq] at hl;obtain⟨ho,hl'⟩:=hl;have ih:∀ a w,jP P qc ops S Q l a w→wpT P qc ops S (jO qc ops) Q ix a w:=fun a w h=>iV l ix a w hl' h;rw[gL];unfold stT;simp only[ho];unfold jP at h;have hrd:jO qc ops n=fK qc o:=by simp[jO,ho]
   split
   ·rename_i hw;simp only[hw,if_true] at h;rw[hrd];split
    ·rename_i hr;simp only[hr,if_true] at h;obtain⟨v,h1,h2⟩:=h;exact⟨v,h1,ih _ _ h2⟩
    ·rename_i hr;simp only[hr,if_false,Bool.false_eq_true] at h;exact Oper.wp_mono (fun a w ⟨s1,s2⟩=>⟨s1,ih _ _ s2⟩) h
   ·rename_i hw;simp only[hw,if_false,Bool.false_eq_true] at h;exact ih _ _ h
theorem iF {id:Nat}{a:Act}{w:World}{Q:Exit→Act→World→Prop}(S:World→Prop)(p q:Nat)(A B C:List Oper)(op oq:Oper)(hm:P.follows .mixedOrders=true)(hok:jT ops (jO qc ops) p q=true)(KD:jO qc ops p=false)(hops:ops.toList=A++op::(B++oq::C))(hA:A.length=p)(hB:p+1+B.length=q)(hS:S w.drew)
  (h:wpL P qc ops S (fun a w=>wpL P qc ops S (fun a w=>Q .normal a w) (op::oq::C) a w∧wpL P qc ops S (fun a w=>Q .normal a w) (oq::op::C) a w) (A++B) a w.drew):(Code.region id ops true).wp P Q a w:=by
 have hsz:ops.size=p+1+B.length+1+C.length:=by
  have:=congrArg List.length hops;simp at this;omega
 have at_:∀ i,ops[i]? = (A++op::(B++oq::C))[i]? := fun i=>by rw[←hops,Array.getElem?_toList]
 have hpo:ops[p]? = some op:=by rw[at_,List.getElem?_append_right (by omega)];simp[hA]
 have hqo:ops[q]? = some oq:=by
  rw[at_,List.getElem?_append_right (by omega),show q-A.length=B.length+1 by omega,List.getElem?_cons_succ,List.getElem?_append_right (Nat.le_refl _)];simp
 have ea:(List.range p).map (fun i=>ops[i]?)=A.map some:=by
  apply List.ext_getElem?;intro i;by_cases hi:i<p
  ·exact zb4
  ·exact za5
 have eb:(List.range' (p+1) B.length).map (fun i=>ops[i]?)=B.map some:=by
  apply List.ext_getElem?;intro i;by_cases hi:i<B.length
  ·rw[List.getElem?_map,List.getElem?_range' hi,Option.map_some,at_,List.getElem?_append_right (by omega),show p+1+1*i-A.length=i+1 by omega,List.getElem?_cons_succ,List.getElem?_append_left hi,List.getElem?_map,List.getElem?_eq_getElem hi];simp
  ·exact za5
 have ec:(List.range' (q+1) C.length).map (fun i=>ops[i]?)=C.map some:=by
  apply List.ext_getElem?;intro i;by_cases hi:i<C.length
  ·rw[List.getElem?_map,List.getElem?_range' hi,Option.map_some,at_,List.getElem?_append_right (by omega),show q+1+1*i-A.length=(B.length+1+i)+1 by omega,List.getElem?_cons_succ,List.getElem?_append_right (by omega),show B.length+1+i-B.length=i+1 by omega,List.getElem?_cons_succ,List.getElem?_map,List.getElem?_eq_getElem hi];simp
  ·exact za5
 have er:List.range p++p::(List.range' (p+1) B.length++q::List.range' (q+1) C.length)=List.range ops.size:=by
  rw[hsz,List.range_eq_range',List.range_eq_range',←hB];have h1:=List.range'_append (s:=0) (m:=p) (n:=1+(B.length+(1+C.length))) (step:=1);have h2:=List.range'_append (s:=p+1) (m:=B.length) (n:=1+C.length) (step:=1);have h3:List.range' p (1+(B.length+(1+C.length)))=p::List.range' (p+1) (B.length+(1+C.length)):=by rw[Nat.add_comm 1,List.range'_succ]
  have h4:List.range' (p+1+B.length) (1+C.length)=(p+1+B.length)::List.range' (p+1+B.length+1) C.length:=by rw[Nat.add_comm 1,List.range'_succ]
  simp only[Nat.one_mul,Nat.zero_add] at h1 h2;rw[h3,←h2,h4] at h1;rw[h1];congr 1;omega
 refine wp_region_any hm ?_;refine wY (qc:=qc) (rd:=jO qc ops) (S:=S) hpo KD (show p<q by omega) (sk hok) (fun hi=>qh hok hi) (rP hok) (fun h1 h2 h3=>tC hok hpo h1 h2 h3) ops.size _ (List.range p) (List.range' (p+1) B.length) (List.range' (q+1) C.length) a _ (by simp) ?_ ?_ ?_ ?_ hS ?_
 ·exact zbI
 ·intro i;rw[er];by_cases hlt:i<ops.size <;> simp[hlt]
 ·rw[er];exact List.pairwise_lt_range
 ·rw[er];simp
 ·have h1:=iV (A++B) (List.range p++List.range' (p+1) B.length) a w.drew (by rw[List.map_append,List.map_append,ea,eb]) h.out;refine kL (fun a w _ h=>⟨?_,?_⟩) _ _ _ hS h1
  ·exact iV (op::oq::C) _ a w (by rw[List.map_cons,List.map_cons,List.map_cons,List.map_cons,hpo,hqo,ec]) h.1.out
  ·exact iV (oq::op::C) _ a w (by rw[List.map_cons,List.map_cons,List.map_cons,List.map_cons,hpo,hqo,ec]) h.2.out
end
end Go.Own
