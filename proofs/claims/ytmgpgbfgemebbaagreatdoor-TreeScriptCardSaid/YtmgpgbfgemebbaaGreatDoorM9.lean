/- TEXTS of mine, merged. -/
import Derived.Test.YtmgpgbfgemebbaaGreatDoorM0
import Derived.Test.YtmgpgbfgemebbaaGreatDoorM7
import Derived.Test.YtmgpgbfgemebbaaGreatDoorM5
import Derived.Test.YtmgpgbfgemebbaaGreatDoorM8
import Derived.Shelf.SlIter.Nil
import Derived.Shelf.SlIter.Sorted
import Derived.Shelf.SlIter.Keys
import Derived.Shelf.SlGeneric
import Derived.Ground.GgzProg
import Derived.Test.YtmgpgbfgemebbaaGreatDoorProg
set_option linter.all false
set_option maxRecDepth 100000
set_option maxHeartbeats 16000000
namespace Go.Proofs.YtmgpgbfgemebbaaGreatDoor
open Go.RowKit Go.Own
def mR (S:Tre)(s:Spt):Prop:=∃ d x,fnd S.ac s.dir=some d∧d.aa=2∧fnd d.ab s.name=some s.ae∧fnd S.ac s.ae=some x∧s.dir≠s.ae∧s.name.length≤1000000∧(-1000000≤x.ah∧x.ah<1000000)∧x.ab.length≤1000000
theorem Trc.ae {w:World}{L:List HP}{q:Nat}{S:Tre}{n:Int}{x:Nod}(h:Has w (Trc q S::L))(hn:fnd S.ac n=some x) :
  ∃ (m b:Nat) (nm:Option Nat) (dv:Value),(w.cell? ⟨q,0,none⟩=some (.map (some m))∧(Instr.lookup tNo (.map (some m)) (.int .i64 n) false).run Tryz.prog w=.ok (.pointer (some ⟨b,0,none⟩)) w)∧w.cell? ⟨b,0,none⟩=some (.int .i64 x.aa)∧(w.cell? ⟨b,1,none⟩=some dv∧Rd w dv 1 x.data.length (bc x.data))∧w.cell? ⟨b,3,none⟩=some (.map nm)∧(Builtin.len_ #[tNm] 3 #[.map nm]).run Tryz.prog w=.ok (.int .i64 x.ab.length) w∧w.cell? ⟨b,5,none⟩=some (.int .i64 x.ah)∧w.cell? ⟨b,6,none⟩=some (.int .i64 x.above):=by
 obtain⟨m,f,P,hJ,h⟩:=eY.1 h;rw[←hJ.1] at hn;obtain⟨b,hb,hl⟩:=Trb.look h hn;have hq:=(Trb.cells h).1;obtain⟨A,B,dv,wv,nm,-,-,hP⟩:=Trb.take h hb;refine⟨m,b,nm,dv,⟨hq,hl⟩,hP.cells 0,⟨hP.cells 1,Dat.rd hP.p1⟩,hP.cells 3,?_,hP.cells 5,hP.cells 6⟩;exact zbW
theorem vw (q:Nat)(S:Tre)(rk:Int→Nat)(o:Opm)(ov:Value)(mx:Int)(w:World)(L:List HP)(hk:o.aa=10∨o.aa=11)(hW:Wk S)(hY:Wy S rk)(hM:MxL mx L)(hp:o.ag.length≤100000)(Ci:(S.place o.ag).2=0→(S.place o.ag).1.ae≠0→mR S (S.place o.ag).1)(hO:Has w (Trc q S::L)) :
  zCl 55 #[.pointer (some ⟨q,0,none⟩),opV o ov] w fun e w'=>e=.returned (fL (S.remove o.aa o.ag).1 eS eS)∧Has w' (Trc q (S.remove o.aa o.ag).2::L)∧Keep w w':=by
 have HF:=hid (fun(w:World)(L':List HP)(hM:MxL mx L')(hO:Has w (Trc q S::L'))=>m9 q S rk o.ag mx w L' hW hY hM hp hO);have Jw:=hid Ci;clear Ci;generalize hR:S.remove o.aa o.ag=R;unfold Tre.remove at hR;generalize S.place o.ag=F at *;obtain⟨s2,e2⟩:=F;dsimp only at *;have HR:=hid hR;have HM:=hid hM;have HO:=hid hO;clear hO hR hW hM hp hY;unfold opV opC;go_enter Tryz.func55,Tryz.ntmps55
 go_upto_region 1 with fail
 obtain⟨w1,g3,g4,ew,e4,e3,eT,ff⟩:=f9 HO.out o ov;rw[ew,e4,e3];clear HO ew e4 e3;have hp0:=eT.out.p1.e0;have iK:=eT.out.p1.e5;go_cut [5,6] (fun p5 e6 wx=>∃ (w3:World) (g5:Nat),w3=wx∧e6=.int .i64 e2∧p5=.pointer (some ⟨g5,0,none⟩)∧Hid (Has w3 (Trc q S::pt g5 (.cells (spC s2) 102)::pt g4 zA::pt g3 (.cells (opC o ov) 33)::L))∧Hid (Keep w w3))
 case first =>
  go_wp2_with fail
  refine st (HF.out w1 _ ((HM.out.cons (pt g3 (.cells (opC o ov) 33))).cons (pt g4 zA)) (eT.out.re 3 [2,0,1])) (ff.out) fun w2 eZ fu=>?_;exact zbq
 case rest =>
  obtain⟨w3,g5,rfl,rfl,rfl,eW,fH⟩:=hcut;clear eT ff hp0 iK HF;have fa:=hid eW.out.va;by_cases he:e2=0
  ·subst he;have hs0:=eW.out.p1.e0;by_cases hz:s2.ae=0
   ·have HRR:=hid (by rw[←HR.out,if_neg (fun h=>h rfl),if_pos hz]:R=(eQ 5,S));exact zcX
   ·obtain⟨d,x,hd,hdk,hdn,hx,hne,hln,hlk,hnl⟩:=Jw.out rfl hz;have hat:S.at_ s2.ae=x:=by unfold Tre.at_;rw[hx];rfl
    have HX:=hid hx;have NL:=hid (And.intro hd hdn);have HR1:=hid (show (if o.aa=10∧x.aa≠2 then(eQ 7,S) else if o.aa=10∧0<x.ab.length then(eQ 9,S) else if o.aa=11∧x.aa=2 then(eQ 8,S) else(eQ 0,S.take s2.dir s2.name))=R from by
     have h:=HR.out;rw[if_neg (fun h=>h rfl),if_neg hz,hat] at h;exact h)
    clear HR hat hd hdn;obtain⟨m,b,nm,dv,⟨hq,hl⟩,-⟩:=Trc.ae eW.out.drew hx;have zv:w3.drew.cell? ⟨g5,0,none⟩=some (.int .i64 s2.ae):=hs0;go_upto_region 6 with fail
    refine eP (fun w'=>w'.cell? ⟨q,0,none⟩=some (.map (some m))∧w'.cell? ⟨g5,0,none⟩=some (.int .i64 s2.ae)∧(Instr.lookup tNo (.map (some m)) (.int .i64 s2.ae) false).run Tryz.prog w'=.ok (.pointer (some ⟨b,0,none⟩)) w') (by kernel_rfl) (by kernel_rfl) ⟨hq,zv,hl⟩ ?_;repeat (first|refine wr3 ?_|refine wk ?_)
    refine eR ?_;have fg:=hid eW.out.drew;have fO:=hid fH.out.drew;have Cd:=hl;have Nf:=hq;clear hq hs0 zv hl eW fH fa;generalize w3.drew=w4 at *;have hbb:=Trc.ae fg.out hx;obtain⟨m',b',nm,dv',⟨hq',hl'⟩,hb0,-,hb3,hlen,-,-⟩:=hbb;rw[Nf] at hq';cases hq';rw[Cd] at hl';cases hl';have hg0:=fg.out.p3.e0;clear Cd Nf;have fa:=hid fg.out.va;rcases hk with h10|h10
    ·rw[h10] at hg0;by_cases hx2:x.aa=2
     ·have hx3:(x.aa != 2)=false:=by simp[hx2]
      by_cases hnn:0<x.ab.length
      ·have KJ:(0:Int)<(x.ab.length:Int):=by omega
       have HRR:=hid (by rw[←HR1.out,if_neg (fun h=>h.2 hx2),if_pos ⟨h10,hnn⟩]:R=(eQ 9,S));obtain⟨hz0,hz1,hz2,hz3,gP,gH,hy0,hy1,hy2,hy3,hy4,gG⟩:=Has.az (fa.out);go_wp2_with fail
       have HC:=hid (gD (9:Int) w4 (pt g4 zA::Trc q S::L) fa.out);exact zbK
      ·have KJ:¬ (0:Int)<(x.ab.length:Int):=by omega
       have HRR:=hid (by rw[←HR1.out,if_neg (fun h=>h.2 hx2),if_neg (fun h=>hnn h.2),if_neg (fun h=>absurd (h10.symm.trans h.1) (by decide))]:R=(eQ 0,S.take s2.dir s2.name));exact zaU
     ·have hx3:(x.aa != 2)=true:=by simp[hx2]
      have HRR:=hid (by rw[←HR1.out,if_pos ⟨h10,hx2⟩]:R=(eQ 7,S));exact zcY
    ·rw[h10] at hg0;by_cases hx2:x.aa=2
     ·have hx3:(x.aa==2)=true:=by simp[hx2]
      have HRR:=hid (by rw[←HR1.out,if_neg (fun h=>absurd (h10.symm.trans h.1) (by decide)),if_neg (fun h=>absurd (h10.symm.trans h.1) (by decide)),if_pos ⟨h10,hx2⟩]:R=(eQ 8,S));obtain⟨hz0,hz1,hz2,hz3,gP,gH,hy0,hy1,hy2,hy3,hy4,gG⟩:=Has.az (fa.out);go_wp2_with fail
      have HC:=hid (gD (8:Int) w4 (pt g4 zA::Trc q S::L) fa.out);exact zbK
     ·have hx3:(x.aa==2)=false:=by simp[hx2]
      have HRR:=hid (by rw[←HR1.out,if_neg (fun h=>absurd (h10.symm.trans h.1) (by decide)),if_neg (fun h=>absurd (h10.symm.trans h.1) (by decide)),if_neg (fun h=>hx2 h.2)]:R=(eQ 0,S.take s2.dir s2.name));exact zaU
  ·exact zcH
theorem uL (q:Nat)(S:Tre)(rk:Int→Nat)(p:Str)(mx:Int)(w:World)(L:List HP)(hW:Wk S)(hY:Wy S rk)(hM:MxL mx L)(hp:p.length≤100000)(hO:Has w (Trc q S::L)) :
  zCl 53 #[.pointer (some ⟨q,0,none⟩),sV p] w fun e w'=>e=.returned (.tuple #[spV (S.fresh p).1,.int .i64 (S.fresh p).2])∧Has w' (Trc q S::L)∧Keep w w':=by
 have iY:=hid (fun(w:World)(L':List HP)(hM:MxL mx L')(hO:Has w (Trc q S::L'))=>m9 q S rk p mx w L' hW hY hM hp hO);generalize hR:S.fresh p=R;unfold Tre.fresh at hR;generalize S.place p=F at *;obtain⟨s2,e2⟩:=F;dsimp only at *;have HR:=hid hR;have HM:=hid hM;have HO:=hid hO;clear hM hO hp hW hR hY;go_enter Tryz.func53,Tryz.ntmps53
 go_upto_region 1 with fail
 generalize hg4:w.heap.size=g4 at *;go_cut [6,7] (fun p9 e9 wx=>∃ (w3:World) (g9:Nat),w3=wx∧e9=.int .i64 e2∧p9=.pointer (some ⟨g9,0,none⟩)∧Hid (Has w3 (pt g9 (.cells (spC s2) 102)::pt g4 (.cells (spC fp) 102)::Trc q S::L))∧Hid (Keep w w3))
 case first =>
  subst hg4;go_wp2_with fail
  refine st (iY.out _ _ (HM.out.cons (pt w.heap.size (.cells (spC fp) 102))) ((HO.out.alloc (.cells (spC fp) 102)).re 2 [1,0])) ((Keep.refl w).alloc _) fun w2 eZ fu=>?_;exact zb3
 case rest =>
  obtain⟨w3,g9,rfl,rfl,rfl,eW,fH⟩:=hcut;have iQ:=eW.out.p1.e0;have iP:=eW.out.p1.e1;have iS:=eW.out.p1.e2;have ja:=eW.out.p1.thaw 0;have jf:=eW.out.p1.thaw 1;have jh:=eW.out.p1.thaw 2;have hc90:=eW.out.e0;have hc91:=eW.out.e1;have A9:=eW.out.e2;by_cases he2:e2=0
  ·subst he2;by_cases hn:s2.ae=0
   ·have HRR:=hid (by rw[←HR.out,if_neg (fun h=>h rfl),if_neg (fun h=>h hn)]:R=(s2,0));clear HR;obtain⟨n2,d2,nm2⟩:=s2;dsimp only at *;subst hn;go_wp2_with fail
    have h1:=(show Has w3 (pt g4 (.cells (spC fp) 102)::Trc q S::L) from eW.out.re 3 [1,2]).aS ⟨0,d2,nm2⟩;refine bodyPost_ret (gV ⟨0,d2,nm2⟩ rfl rfl rfl h1) rfl ?_;rw[HRR.out];exact⟨rfl,h1.drop,fH.out.aS _ _ _ _⟩
   ·have HRR:=hid (by rw[←HR.out,if_neg (fun h=>h rfl),if_pos hn]:R=(fp,6));exact za3
  ·have HRR:=hid (by rw[←HR.out,if_pos he2]:R=(fp,e2));exact za3
def nN (S:Tre)(s:Spt):Prop:=∃ d,fnd S.ac s.dir=some d∧d.aa=2∧s.name.length≤1000000∧d.ab.length<1000000
theorem IV (q:Nat)(S:Tre)(rk:Int→Nat)(o:Opm)(ov:Value)(mx:Int)(w:World)(L:List HP)(hW:Wk S)(hY:Wy S rk)(hM:MxL mx L)(hp:o.ag.length≤100000)(hd:o.aj.length≤100000)(hlk:∀ n x,fnd S.ac n=some x→0≤x.ah∧x.ah<1000000)(xY:(S.fresh o.aj).2=0→nN S (S.fresh o.aj).1)(hO:Has w (Trc q S::L)) :
  zCl 56 #[.pointer (some ⟨q,0,none⟩),opV o ov] w fun e w'=>e=.returned (fL (S.link o.ag o.aj).1 eS eS)∧Has w' (Trc q (S.link o.ag o.aj).2::L)∧Keep w w':=by
 have HF:=hid (fun(w:World)(L':List HP)(hM:MxL mx L')(hO:Has w (Trc q S::L'))=>o4 q S o.ag false mx w L' hW hM hp hO);have rY:=hid (fun(w:World)(L':List HP)(hM:MxL mx L')(hO:Has w (Trc q S::L'))=>uL q S rk o.aj mx w L' hW hY hM hd hO);have lr:=hid (gh hW o.ag false);have LP:=hid xY;clear xY;generalize hR:S.link o.ag o.aj=R;unfold Tre.link at hR;generalize S.find o.ag false=F at *;generalize S.fresh o.aj=F3 at *;obtain⟨s2,e2⟩:=F;obtain⟨s3,e3⟩:=F3;dsimp only at *;have HR:=hid hR;have HM:=hid hM;have HO:=hid hO;have o7:=hid hlk;clear hO hR hW hM hp hd hY hlk;unfold opV opC;go_enter Tryz.func56,Tryz.ntmps56
 go_upto_region 1 with fail
 obtain⟨w1,g3,g4,ew,e4,e3,eT,ff⟩:=f9 HO.out o ov;rw[ew,e4,e3];clear HO ew e4 e3;have iK:=eT.out.p1.e5;have kI:=eT.out.p1.e6;have BA:=hid (show MxL mx (pt g4 zA::pt g3 (.cells (opC o ov) 33)::L) from(HM.out.cons _).cons _);go_cut [5,6] (fun p5 e6 wx=>∃ (w3:World) (g5:Nat),w3=wx∧e6=.int .i64 e2∧p5=.pointer (some ⟨g5,0,none⟩)∧Hid (Has w3 (Trc q S::pt g5 (.cells (spC s2) 102)::pt g4 zA::pt g3 (.cells (opC o ov) 33)::L))∧Hid (Keep w w3))
 case first =>
  exact zc9
 case rest =>
  obtain⟨w3,g5,rfl,rfl,rfl,eW,fH⟩:=hcut;clear eT ff iK kI HF;have fa:=hid eW.out.va;by_cases he:e2=0
  ·subst he;obtain⟨x,hx⟩:=lr.out rfl;have hat:S.at_ s2.ae=x:=by unfold Tre.at_;rw[hx];rfl
   have HR1:=hid (show (if x.aa=2 then(eQ 16,S) else if e3≠0 then(eQ e3,S) else(eQ 0,S.add s3.dir s3.name s2.ae))=R from by
    have h:=HR.out;rw[if_neg (fun h=>h rfl),hat] at h;exact h)
   have M7:=hid (o7.out _ _ hx);clear HR o7;obtain⟨m,b,nm,dv,⟨hq,hl⟩,hb0,-⟩:=Trc.ae eW.out.drew hx;have zv:w3.drew.cell? ⟨g5,0,none⟩=some (.int .i64 s2.ae):=eW.out.drew.p1.cells 0;go_upto_region 4 with fail
   refine eP (fun w'=>w'.cell? ⟨q,0,none⟩=some (.map (some m))∧w'.cell? ⟨g5,0,none⟩=some (.int .i64 s2.ae)∧(Instr.lookup tNo (.map (some m)) (.int .i64 s2.ae) false).run Tryz.prog w'=.ok (.pointer (some ⟨b,0,none⟩)) w'∧w'.cell? ⟨b,0,none⟩=some (.int .i64 x.aa)) (by kernel_rfl) (by kernel_rfl) ⟨hq,zv,hl,hb0⟩ ?_;repeat (first|refine wr4 ?_|refine wk ?_)
   have fg:=hid eW.out.drew;have fO:=hid fH.out.drew;clear hq zv hl hb0 eW fH fa;generalize w3.drew=w4 at *;refine eR ?_;have kB:=hid fg.out.va;by_cases hk:x.aa=2
   ·have hk1:(x.aa==2)=true:=by simp[hk]
    have HRR:=hid (by rw[←HR1.out,if_pos hk]:R=(eQ 16,S));obtain⟨hz0,hz1,hz2,hz3,gP,gH,hy0,hy1,hy2,hy3,hy4,gG⟩:=Has.az (kB.out);go_wp2_with fail
    have HC:=hid (gD (16:Int) w4 (pt g4 zA::Trc q S::L) kB.out);exact zbK
   ·have hk1:(x.aa==2)=false:=by simp[hk]
    have HR2:=hid ((if_neg hk).symm.trans HR1.out);clear HR1;have kI:=fg.out.p3.e6;rw[hk1];go_upto_region 6 with fail
    go_cut [6,7] (fun e6 p7 wx=>∃ (w5:World) (g7:Nat),w5=wx∧e6=.int .i64 e3∧p7=.pointer (some ⟨g7,0,none⟩)∧Hid (Has w5 (Trc q S::pt g7 (.cells (spC s3) 102)::pt g5 (.cells (spC s2) 102)::pt g4 zA::L))∧Hid (Keep w w5))
    case first =>
     go_wp2_with fail
     refine st (rY.out w4 _ (BA.out.cons _) fg.out) (fO.out) fun w2 eZ fu=>?_;try dsimp only
     unfold spV spC;go_wp2_with fail
     go_meet
     exact⟨_,_,rfl,rfl,rfl,hid ((eZ.out.alloc (.cells (spC s3) 102)).re 5 [1,0,2,3]),hid (fu.out.alloc _)⟩
    case rest =>
     obtain⟨w5,g7,rfl,rfl,rfl,fi,ge⟩:=hcut;clear fg fO kI rY kB;have FQ:=hid fi.out.vo;by_cases he3:e3=0
     ·subst he3;obtain⟨d,hd,hdk,hdn,hdl⟩:=LP.out rfl;have hne:s3.dir≠s2.ae:=by intro e;rw[e,hx] at hd;cases hd;exact hk hdk
      have HRR:=hid (by rw[←HR2.out,if_neg (fun h=>h rfl)]:R=(eQ 0,S.add s3.dir s3.name s2.ae));have hc1:=fi.out.p1.e1;have hc2:=fi.out.p1.e2;have hc3:=fi.out.p2.e0;go_wp2_with fail
      refine st (EA q S s3.dir s3.name s2.ae d x w5 (pt g4 zA::L) hd hx hne hdk hdn hdl M7.out.1 M7.out.2 (fi.out.re 4 [0,3])) (ge.out) fun w8 fI iI=>?_;try dsimp only
      have fJ:=hid fI.out.vc;exact zby
     ·exact zbz
  ·exact zcH
theorem tE {S:Tre}(hW:Wk S)(p:Str)(h0:(S.fresh p).2=0):(∃ d,fnd S.ac (S.fresh p).1.dir=some d∧d.aa=2)∧(S.fresh p).1.name.length≤24:=by
 unfold Tre.fresh at *;by_cases h1:(S.place p).2≠0
 ·rw[if_pos h1] at h0;exact absurd h0 h1
 ·rw[if_neg h1] at *;by_cases h2:(S.place p).1.ae≠0
  ·rw[if_pos h2] at h0;simp at h0
  ·rw[if_neg h2];have:=lp hW p (by simpa using h1);exact⟨this.1,this.2.1⟩
theorem vO (q:Nat)(S:Tre)(fd n off af:Int)(ag aj:Str)(ov:Value)(w:World)(L:List HP)(rk:Int→Nat)(mx:Int)(hW:Wk S)(hY:Wy S rk)(hB:Opb S)(hM:MxL mx L)(hp:ag.length≤100000)(hO:Has w (Trc q S::L)) :
  zCl 16 #[.pointer (some ⟨q,0,none⟩),opV ⟨9,fd,n,off,af,ag,aj⟩ (ov)] w fun e w'=>e=.returned (fL (S.aF ag).1 eS eS)∧Has w' (Trc q (S.aF ag).2::L)∧Keep w w':=by
 have HX:=hid (fun(w:World)(L':List HP)(hM:MxL mx L')(hO:Has w (Trc q S::L'))=>uL q S rk ag mx w L' hW hY hM hp hO);have Hz:=hid (tE hW ag);have HB:=hid hB;have HM:=hid hM;clear hM;generalize hR:S.aF ag=R at *;unfold Tre.aF at hR;generalize S.fresh ag=F at *;obtain⟨s1,e1⟩:=F;dsimp only at *;have HR:=hid hR;clear hR hW hY hB hp;have HO:=hid hO;clear hO;unfold opV opC;go_enter Tryz.func16,Tryz.ntmps16
 go_upto_region 1 with fail
 obtain⟨w1,g3,g4,ew,e4,e3,eT,ff⟩:=f9 HO.out ⟨9,fd,n,off,af,ag,aj⟩ ov;rw[ew,e4,e3];clear HO ew e4 e3;have hp0:=eT.out.p1.e0;have hp1:=eT.out.p1.e1;have hp2:=eT.out.p1.e2;have hp3:=eT.out.p1.e3;have lP:=eT.out.p1.e4;have iK:=eT.out.p1.e5;have kI:=eT.out.p1.e6;have lU:=eT.out.p1.e7;go_upto_region 19 with fail
 go_cut [5,6] (fun p5 e6 wx=>∃ (w3:World) (g5:Nat),w3=wx∧e6=.int .i64 e1∧p5=.pointer (some ⟨g5,0,none⟩)∧Hid (Has w3 (Trc q S::pt g5 (.cells (spC s1) 102)::pt g4 zA::L))∧Hid (Keep w w3))
 case first =>
  go_wp2_with fail
  refine st (HX.out w1 _ ((HM.out.cons (pt g3 (.cells #[.int .i64 9,.int .i64 fd,.int .i64 n,.int .i64 off,.int .i64 af,sV ag,sV aj,ov] 33))).cons (pt g4 zA)) (eT.out.re 3 [2,0,1])) (ff.out) fun w2 eZ fu=>?_;try dsimp only
  unfold spV spC;go_wp2_with fail
  go_meet
  exact⟨_,_,rfl,rfl,rfl,hid ((eZ.out.alloc (.cells (spC s1) 102)).re 4 [1,0,2]),hid (fu.out.alloc _)⟩
 case rest =>
  obtain⟨w3,g5,rfl,rfl,rfl,eW,fH⟩:=hcut;clear eT ff hp0 hp1 hp2 hp3 lP iK kI lU HX;by_cases he:e1=0
  ·subst he;have HRR:=hid (by rw[←HR.out,if_neg (fun h=>h rfl)]:R=(eQ 0,S.make s1 2 []));obtain⟨⟨d,hd,hdk⟩,hln⟩:=Hz.out rfl;have k0:w3.cell? ⟨g5,0,none⟩=some (.int .i64 s1.ae):=(eW.out.p1).cells 0;have k1:w3.cell? ⟨g5,1,none⟩=some (.int .i64 s1.dir):=(eW.out.p1).cells 1;have k2:w3.cell? ⟨g5,2,none⟩=some (sV s1.name):=(eW.out.p1).cells 2;have kt0:=(eW.out.p1).thaw 0;have kt1:=(eW.out.p1).thaw 1;have kt2:=(eW.out.p1).thaw 2;have Ao:=hid (yF q S s1 2 d w3 (pt g5 (.cells (spC s1) 102)::pt g4 zA::L) (by decide) hd hdk (by omega) (HB.out.small _ _ hd).2.2 HB.out.last0 HB.out.aW HB.out.free HB.out.many eW.out);unfold spV spC at Ao;clear hd hdk;go_wp2_with fail
   refine st (Ao.out) (fH.out) fun w4 fg fO=>?_;try dsimp only
   have fi:=hid fg.out.vl;obtain⟨hz0,hz1,hz2,hz3,gP,gH,hy0,hy1,hy2,hy3,hy4,gG⟩:=Has.az (fi.out);go_wp2_with fail
   have HC:=hid (gD (0:Int) w4 (pt g4 zA::Trc q (S.make s1 2 [])::L) fi.out);exact zbK
  ·have HRR:=hid (by rw[←HR.out,if_pos he]:R=(eQ e1,S));have fi:=hid eW.out.vl;have heb:(e1==0)=false:=by simpa using he
   obtain⟨hz0,hz1,hz2,hz3,gP,gH,hy0,hy1,hy2,hy3,hy4,gG⟩:=Has.az (fi.out);go_wp2_with fail
   have HC:=hid (gD e1 w3 (pt g4 zA::Trc q S::L) fi.out);exact zaY
structure Gd (S:Tre) (rk:Int→Nat) (k:Nat):Prop where
 x:Gx S.ac rk k 0
 num:∀ n x,fnd S.ac n=some x→1≤n∧n≤S.last
 last:S.last≤k+1
 many:S.ac.length≤k+1
 tab16:S.ak.length=16
 opn:∀ fd s,Tb.look S.ak fd=some s→(∃ x,fnd S.ac s.ae=some x∧x.aa≠3)∧0≤s.off∧s.off≤1099511627776
theorem fC {S:Tre}{n:Int}{x:Nod}(h:fnd S.ac n=some x):S.at_ n=x:=by unfold Tre.at_;rw[h];rfl
variable {S:Tre} {rk:Int→Nat} {k:Nat}
theorem Gd.ax (h:Gd S rk k){n:Int}{x:Nod}(hx:fnd S.ac n=some x):Ndo S.ac rk k 0 n x:=h.x.ax n x hx
theorem Gd.aR (h:Gd S rk k){n:Int}{x:Nod}(hx:fnd S.ac n=some x):n≠0:=by rintro rfl;rw[h.x.zero] at hx;cases hx
theorem Gd.aW (h:Gd S rk k):1≤S.last:=by
 obtain⟨x,hx⟩:=h.x.has1;exact(h.num _ _ hx).2
theorem Gd.wk (h:Gd S rk k):Wk S where
 root:=h.x.has1
 child n x hx p c hc:=by
  obtain⟨_,_,y,hy,_⟩:=(h.ax hx).ai (p,c) (fj hc);exact⟨y,hy⟩
 above n x hx ha:=by
  obtain⟨_,_,_,y,_,hy,_⟩:=(h.ax hx).above (h.aR hx) ha;exact⟨y,hy⟩
 data n x hx _:=(h.ax hx).size.1
theorem Gd.one (h:Gd S rk k){n:Int}{x:Nod}(hx:fnd S.ac n=some x)(ha:x.above≠0):∃ y nm,fnd S.ac x.above=some y∧y.ab.filter (fun p=>decide (p.2=n)) = [(nm,n)]∧rk n=rk x.above+1∧(nm,n)∈y.ab∧kZ nm∧y.aa=2∧(x.above=1∨y.above≠0):=by
 have H:=h.ax hx;obtain⟨h1,h2,h3,y,nm,hy,hm⟩:=H.above (h.aR hx) ha;have HY:=h.ax hy;have hl:=H.ah (h.aR hx) h2;have hc:j2 y n≤1:=by
  have:=uX hy n;omega
 have hm2:(nm,n)∈y.ab.filter fun p=>decide (p.2=n):=List.mem_filter.2 ⟨hm,by simp⟩;unfold j2 at hc;obtain⟨e1,e2,u,hu,e3⟩:=HY.ai _ hm;have O5:u=x:=by rw[hx] at hu;cases hu;rfl
 subst O5;have hyk:y.aa=2:=Classical.byContradiction fun h2=>by
  have:=(HY.file h2).1;rw[this] at hm;cases hm
 refine⟨y,nm,hy,?_,(e3 h1).2,hm,e1,hyk,?_⟩
 ·generalize y.ab.filter (fun p=>decide (p.2=n))=q at *
  match q,hm2,hc with
  | [a],hm2,_=>rw[List.mem_singleton.1 hm2]
  | a::b::r,_,hc=>simp at hc
 ·refine Classical.byContradiction fun hno=>?_;simp only[not_or,ne_eq,Classical.not_not] at hno;have:=(HY.loose (h.aR hy) hyk hno.1 hno.2).1;rw[this] at hm;cases hm
theorem Gd.wy (h:Gd S rk k):Wy S rk where
 rank n x hx _ ha:=by
  obtain⟨y,nm,h1,h2,h3,_,h5,_⟩:=h.one hx ha;exact⟨y,nm,h1,h2,by omega,h5.2.1⟩
 low:=h.x.rk20
theorem Gd.eL (h:Gd S rk k)(hk:k<900000):Opb S where
 last0:=by have:=h.aW;omega
 aW:=by have:=h.last;omega
 free:=by
  cases hf:fnd S.ac (S.last+1) with
  | none=>rfl
  | some x=>have:=(h.num _ _ hf).2;omega
 many:=by have:=h.many;omega
 zero:=h.x.zero
 small n x hx:=by
  have:=(h.ax hx).size;exact⟨this.1,this.2.1,by omega⟩
theorem Gd.op (h:Gd S rk k):Opn S where
 there fd s hs:=by
  obtain⟨⟨x,hx,_⟩,_⟩:=h.opn fd s hs;exact⟨x,hx⟩
 off fd s hs:=by
  obtain⟨_,h1,h2⟩:=h.opn fd s hs;exact⟨h1,by omega⟩
 data n x hx:=(h.ax hx).size.1
 wr n x hx:=(h.ax hx).size.2.1
 nolink fd s hs:=by
  obtain⟨⟨x,hx,h3⟩,_⟩:=h.opn fd s hs;rw[fC hx];exact h3
def Att (S:Tre)(n:Int):Prop:=∃ x,fnd S.ac n=some x∧(x.aa=2→n=1∨x.above≠0)
structure ED (S:Tre) (s:Spt):Prop where
 ae:Att S s.ae
 dir:s.dir≠0→Att S s.dir∧∃ d,fnd S.ac s.dir=some d∧d.aa=2∧fnd d.ab s.name=some s.ae
 none:s.dir=0→(S.at_ s.ae).aa=2
theorem Gd.eI (h:Gd S rk k):Att S 1:=by
 obtain⟨x,hx⟩:=h.x.has1;exact⟨x,hx,fun _ => .inl rfl⟩
theorem Gd.cT (h:Gd S rk k):(S.at_ 1).aa=2:=by
 obtain⟨x,hx⟩:=h.x.has1;rw[fC hx];exact((h.ax hx).root rfl).1
theorem Gd.eC (h:Gd S rk k){n:Int}(ha:Att S n)(h2:(S.at_ n).aa=2):Att S (S.up n)∧(S.at_ (S.up n)).aa=2:=by
 obtain⟨x,hx,hat⟩:=ha;unfold Tre.up;rw[fC hx] at h2 ⊢;by_cases h0:x.above=0
 ·rw[if_pos h0];exact⟨⟨x,hx,hat⟩,by rw[fC hx];exact h2⟩
 ·rw[if_neg h0];obtain⟨y,nm,h1,_,_,_,_,h5,h6⟩:=h.one hx h0;exact⟨⟨y,h1,fun _=>h6⟩,by rw[fC h1];exact h5⟩
theorem Gd.dE (h:Gd S rk k)(fo:Bool)(s:Spt)(hops:Nat)(ps:List Str)(hs:ED S s)(hfo:fo=true→(S.at_ s.ae).aa≠3)(h0:(S.walk s hops ps fo).2=0):ED S (S.walk s hops ps fo).1∧(fo=true→(S.at_ (S.walk s hops ps fo).1.ae).aa≠3):=by
 fun_induction Tre.walk S s hops ps fo
 case case1=>exact⟨hs,hfo⟩
 case case2=>simp at h0
 case case3 =>
  rename_i hk ih;have hk2:=Classical.not_not.1 hk;obtain⟨u1,u2⟩:=h.eC hs.ae hk2;exact ih ⟨u1,fun e=>absurd rfl e,fun _=>u2⟩ (fun _=>by show (S.at_ (S.up _)).aa≠3;rw[u2];decide) h0
 case case4=>simp at h0
 case case5=>simp at h0
 case case6 =>
  rename_i s0 _ _ _ hk _ c _ _ _ ih;have hk2:=Classical.not_not.1 hk;have hx:∀ n:Int,n=1∨n=s0.ae→Att S n∧(S.at_ n).aa=2:=by
   rintro n (rfl|rfl)
   ·exact⟨h.eI,h.cT⟩
   ·exact⟨hs.ae,hk2⟩
  obtain⟨u1,u2⟩:=hx (if _h:(fN (iH (S.at_ c).data)).2.1=true then(1:Int) else s0.ae) (by split <;> simp);exact ih ⟨u1,fun e=>absurd rfl e,fun _=>u2⟩ (fun _ e3=>absurd (u2.symm.trans e3) (by decide)) h0
 case case7 =>
  rename_i s0 _ _ _ hk _ c hf hn ih;have hk2:=Classical.not_not.1 hk;obtain⟨x,hx,hat⟩:=hs.ae;rw[fC hx] at hf hk2;obtain⟨e1,e2,y,hy,e3⟩:=(h.ax hx).ai _ (fj hf);refine ih ⟨⟨y,hy,fun hy2 => .inr ?_⟩,fun _=>⟨⟨x,hx,hat⟩,x,hx,hk2,hf⟩,fun e=>absurd e (h.aR hx)⟩ ?_ h0
  ·rw[(e3 hy2).1];exact h.aR hx
  ·intro KS h3;exact hn ⟨h3,.inr KS⟩
theorem Gd.find_ok (h:Gd S rk k)(p:Str)(fo:Bool)(h0:(S.find p fo).2=0):ED S (S.find p fo).1∧(fo=true→(S.at_ (S.find p fo).1.ae).aa≠3):=by
 unfold Tre.find at *;by_cases h1:(fb p).2≠0
 ·rw[if_pos h1] at h0;exact absurd h0 h1
 ·rw[if_neg h1] at h0 ⊢;exact h.dE fo _ _ _ ⟨h.eI,fun e=>absurd rfl e,fun _=>h.cT⟩ (fun _=>by show (S.at_ 1).aa≠3;rw[h.cT];decide) h0
theorem Gd.cY (h:Gd S rk k):∀ (r:Nat) (n:Int) (x:Nod),fnd S.ac n=some x→x.aa=2→(n=1∨x.above≠0)→rk n=r→(S.way n).length=r:=by
 intro r;induction r with
 | zero =>
  intro n x hx h2 hat hr;by_cases h1:n=1
  ·rw[ki (.inl h1)];rfl
  ·obtain⟨y,nm,a1,a2,a3,_⟩:=h.one hx (hat.resolve_left h1);omega
 | succ r ih =>
  intro n x hx h2 hat hr;by_cases h1:n=1
  ·rw[h1,h.x.rk1] at hr;omega
  ·have ha:=hat.resolve_left h1;obtain⟨y,nm,a1,a2,a3,a4,a5,a6,a7⟩:=h.one hx ha;obtain⟨y',nm',b1,b2,b3,b4,e⟩:=ke h.wy hx h1 ha;rw[e,List.length_append,ih _ _ a1 a6 a7 (by omega)];rfl
structure tc (S:Tre) (rk:Int→Nat) (s:Spt):Prop where
 name:kZ s.name
 low:rk s.dir<20
 dir:∃ d,fnd S.ac s.dir=some d∧d.aa=2∧(s.dir=1∨d.above≠0)∧(s.ae≠0→fnd d.ab s.name=some s.ae)∧(s.ae=0→fnd d.ab s.name=none)
theorem Gd.ay (h:Gd S rk k)(p:Str)(h0:(S.place p).2=0):tc S rk (S.place p).1:=by
 unfold Tre.place at *;by_cases h1:(fx p).2.2≠0
 ·rw[if_pos h1] at h0;exact absurd h0 h1
 rw[if_neg h1] at h0 ⊢;by_cases h2:(S.find (fx p).1 true).2≠0
 ·rw[if_pos h2] at h0;exact absurd h0 h2
 rw[if_neg h2] at h0 ⊢;by_cases h3:(S.at_ (S.find (fx p).1 true).1.ae).aa≠2
 ·rw[if_pos h3] at h0;simp at h0
 rw[if_neg h3] at h0 ⊢;by_cases h4:Tre.longM (S.way (S.find (fx p).1 true).1.ae ++ [(fx p).2.1])=true
 ·rw[if_pos h4] at h0;simp at h0
 rw[if_neg h4];have hl:=yK p (Classical.not_not.1 h1);obtain⟨x,hx,hat⟩:=(h.find_ok _ true (Classical.not_not.1 h2)).1.ae;generalize (S.find (fx p).1 true).1.ae=n at *;have hk2:x.aa=2:=by rw[fC hx] at h3;exact Classical.not_not.1 h3
 refine⟨⟨hl.1.1,hl.1.2.2.1,hl.1.2.2.2,hl.2⟩,?_,⟨x,hx,hk2,hat hk2,?_,?_⟩⟩
 ·have:=h.cY _ n x hx hk2 (hat hk2) rfl;unfold Tre.longM at h4;simp only[Bool.or_eq_true,decide_eq_true_eq,not_or,List.length_append,List.length_cons,List.length_nil] at h4;show rk n<20;omega
 ·show (fnd (S.at_ n).ab _).getD 0≠0→fnd x.ab (fx p).2.1=some ((fnd (S.at_ n).ab _).getD 0);rw[fC hx];cases hf:fnd x.ab (fx p).2.1 with
  | none=>intro e;exact absurd rfl e
  | some c=>intro _;rfl
 ·show (fnd (S.at_ n).ab _).getD 0=0→fnd x.ab (fx p).2.1=none;rw[fC hx];cases hf:fnd x.ab (fx p).2.1 with
  | none=>intro _;rfl
  | some c =>
   intro e;have e':c=0:=e;obtain⟨_,_,y,hy,_⟩:=(h.ax hx).ai _ (fj hf);exact absurd e' (h.aR hy)
theorem ky {S:Tre}{p:Str}(h0:(S.fresh p).2=0):(S.place p).2=0∧(S.place p).1.ae=0∧S.fresh p=((S.place p).1,0):=by
 unfold Tre.fresh at *;by_cases h1:(S.place p).2≠0
 ·rw[if_pos h1] at h0;exact absurd h0 h1
 rw[if_neg h1] at h0 ⊢;by_cases h2:(S.place p).1.ae≠0
 ·rw[if_pos h2] at h0;simp at h0
 rw[if_neg h2];exact⟨Classical.not_not.1 h1,Classical.not_not.1 h2,rfl⟩
theorem Gd.cG (h:Gd S rk k)(hk:k<900000)(p:Str)(h0:(S.place p).2=0)(hn:(S.place p).1.ae≠0):mR S (S.place p).1∧∀ x,fnd S.ac (S.place p).1.ae=some x→1≤x.ah:=by
 have P:=h.ay p h0;generalize (S.place p).1=s at *;obtain⟨d,hd,h2,_,hc,_⟩:=P.dir;have hc:=hc hn;obtain⟨e1,e2,y,hy,e3⟩:=(h.ax hd).ai _ (fj hc);have hs:=(h.ax hy).size;have hcn:1≤cnt S.ac s.ae:=lb hd (fj hc);refine⟨⟨d,y,hd,h2,hc,hy,?_,by have:=P.name.2.1;omega,⟨by omega,by omega⟩,by omega⟩,?_⟩
 ·intro e;rw[←e] at hy;rw[hd] at hy;cases hy;have:=(e3 h2).2;dsimp only at this;rw[←e] at this;omega
 ·intro x hx;have hx':fnd S.ac s.ae=some x:=hx;have H:=h.ax hx';by_cases h1:s.ae=1
  ·have:=(H.root h1).2.2.1;omega
  ·have:=H.ah (h.aR hx') h1;omega
theorem Gd.dG (h:Gd S rk k)(hk:k<900000)(p:Str)(h0:(S.place p).2=0):nN S (S.place p).1:=by
 have P:=h.ay p h0;obtain⟨d,hd,h2,_⟩:=P.dir;have hs:=(h.ax hd).size;exact⟨d,hd,h2,by have:=P.name.2.1;omega,by omega⟩
theorem Gd.cy (h:Gd S rk k):∀ n x,fnd S.ac n=some x→x.above≠0→(∃ y,fnd S.ac x.above=some y)∧rk x.above<rk n:=by
 intro n x hx ha;obtain⟨y,nm,h1,_,h3,_⟩:=h.one hx ha;exact⟨⟨y,h1⟩,by omega⟩
theorem Gd.bR (h:Gd S rk k):∀ n x,fnd S.ac n=some x→∀ e∈x.ab,rk n<rk e.2∧e.1.length≤24∧∃ z,fnd S.ac e.2=some z:=by
 intro n x hx e he;obtain⟨e1,e2,y,hy,e3⟩:=(h.ax hx).ai e he;refine⟨?_,e1.2.1,y,hy⟩;by_cases h2:y.aa=2
 ·have:=(e3 h2).2;omega
 ·have:=((h.ax hy).file h2).2.2;omega
end Go.Proofs.YtmgpgbfgemebbaaGreatDoor
namespace Go.Proofs.YtmgpgbfgemebbaaGreatDoor
open Go.RowKit Go.Own
theorem iy {κ α:Type} [DecidableEq κ] {t:List (κ×α)} {x:κ} {a b:α} (h:fnd t x=some b):(eX t x a).length=t.length:=by
 unfold eX;rw[if_pos (List.mem_map.2 ⟨_,fj h,rfl⟩),List.length_map]
theorem xQ {κ α:Type} [DecidableEq κ] (t:List (κ×α)) (x:κ) (a:α):(eX t x a).length≤t.length+1:=by
 unfold eX;split <;> simp
theorem mr {κ α:Type} [DecidableEq κ] {t:List (κ×α)} {x:κ} {b:α} (h:fnd t x=some b):x∈t.map Prod.fst:=List.mem_map.2 ⟨_,fj h,rfl⟩
theorem qX {κ α:Type} [DecidableEq κ] {t:List (κ×α)} {x y:κ} {a b:α} (hxy:x≠y) (hx:x∈t.map Prod.fst) (hy:y∈t.map Prod.fst):eX (eX t x a) y b=eX (eX t y b) x a:=by
 have e1:eX t x a=t.map fun p=>if p.1=x then(x,a) else p:=if_pos hx
 have e2:eX t y b=t.map fun p=>if p.1=y then(y,b) else p:=if_pos hy
 have k1:y∈(eX t x a).map Prod.fst:=by rw[e1,jW t x a hx];exact hy
 have k2:x∈(eX t y b).map Prod.fst:=by rw[e2,jW t y b hy];exact hx
 rw[show eX (eX t x a) y b=(eX t x a).map fun p=>if p.1=y then(y,b) else p from if_pos k1,show eX (eX t y b) x a=(eX t y b).map fun p=>if p.1=x then(x,a) else p from if_pos k2,e1,e2,List.map_map,List.map_map];refine List.map_congr_left fun p _=>?_;simp only[Function.comp];by_cases h1:p.1=x
 ·have h2:¬ x=y:=hxy;simp[h1,h2]
 ·by_cases h2:p.1=y
  ·have h3:¬ y=x:=fun e=>hxy e.symm;simp[h2,h3]
  ·simp[h1,h2]
variable {S:Tre} {rk:Int→Nat} {k:Nat}
theorem Gd.of (h:Gd S rk k){S':Tre}{rk':Int→Nat}{k':Nat}(hx:Gx S'.ac rk' k' 0)(h1:S.last≤S'.last)(h2:S'.last≤k'+1)(h3:S'.ac.length≤k'+1)(ht:S'.ak=S.ak)
  (hn:∀ n x,fnd S'.ac n=some x→(∃ y,fnd S.ac n=some y)∨(1≤n∧n≤S'.last))
  (hk:∀ n x,fnd S.ac n=some x→(∃ fd s,Tb.look S.ak fd=some s∧s.ae=n)→∃ y,fnd S'.ac n=some y∧y.aa=x.aa):Gd S' rk' k' where
 x:=hx
 num n x hx:=by
  rcases hn n x hx with ⟨y,hy⟩|h
  ·have:=h.num n y hy;omega
  ·exact h
 last:=h2
 many:=h3
 tab16:=by rw[ht];exact h.tab16
 opn fd s hs:=by
  rw[ht] at hs;obtain⟨⟨x,hx,h3⟩,h4⟩:=h.opn fd s hs;obtain⟨y,hy,e⟩:=hk _ _ hx ⟨fd,s,hs,rfl⟩;exact⟨⟨y,hy,by rw[e];exact h3⟩,h4⟩
theorem Gd.mono (h:Gd S rk k){k':Nat}(hk:k≤k'):Gd S rk k' where
 x:=h.x.mono hk
 num:=h.num
 last:=by have:=h.last;omega
 many:=by have:=h.many;omega
 tab16:=h.tab16
 opn:=h.opn
theorem Gd.ak (h:Gd S rk k){T:List Tb.Slot}(hl:T.length=16)(ho:∀ fd s,Tb.look T fd=some s→(∃ x,fnd S.ac s.ae=some x∧x.aa≠3)∧0≤s.off∧s.off≤1099511627776):Gd {S with ak:=T} rk k where
 x:=h.x
 num:=h.num
 last:=h.last
 many:=h.many
 tab16:=hl
 opn:=ho
theorem Gd.dat (h:Gd S rk k){n:Int}{x:Nod}(hx:fnd S.ac n=some x)(h2:x.aa≠2)(y:Nod)(hy:y.aa=x.aa∧y.ab=x.ab∧y.most=x.most∧y.ah=x.ah∧y.above=x.above)
  (hs:y.data.length≤100000∧y.wr.length≤100000):Gd (S.au n y) rk k:=by
 have H:=h.ax hx;have hf:=H.file h2;have h1:n≠1:=fun e=>h2 (H.root e).1;obtain⟨G1,hc⟩:=(h.x.opened h1).fix hx y hy.1 hy.2.1 hy.2.2.1 ⟨hs.1,hs.2,by rw[hy.2.2.2.1];exact H.size.2.2.2.2.2.1,by rw[hy.2.2.2.1];exact H.size.2.2.2.2.2.2⟩ (fun _=>by rw[hy.2.2.2.2];exact hf.2.1) (fun e=>absurd e h2);have hnx:fnd (eX S.ac n y) n=some y:=by rw[fnd_putA,if_pos rfl]
 have G2:=G1.closed hnx (by rw[hc,hy.2.2.2.1];exact H.ah (h.aR hx) h1) (fun e=>absurd (by rw[hy.2.2.2.2];exact hf.2.1) e) (fun e=>absurd (by rw[←hy.1];exact e) h2);refine h.of G2 (Int.le_refl _) h.last (by show (eX S.ac n y).length≤_;rw[iy hx];exact h.many) rfl ?_ ?_
 ·intro m u hu;left;have hu':fnd (eX S.ac n y) m=some u:=hu;rw[fnd_putA] at hu';by_cases hm:m=n
  ·exact⟨x,by rw[hm];exact hx⟩
  ·rw[if_neg hm] at hu';exact⟨u,hu'⟩
 ·intro m u hu _;show ∃ v,fnd (eX S.ac n y) m=some v∧_;rw[fnd_putA];by_cases hm:m=n
  ·rw[if_pos hm];rw[hm,hx] at hu;cases hu;exact⟨y,rfl,hy.1⟩
  ·rw[if_neg hm];exact⟨u,hu,rfl⟩
theorem Gd.make (h:Gd S rk k){s:Spt}(P:tc S rk s)(hs0:s.ae=0)(c:Int)(hc:c=1∨c=2∨c=3)(ds:Str)(hds:ds.length≤100000):Gd (S.make s c ds) (fun n=>if n=S.last+1 then(if c=2 then rk s.dir+1 else 20) else rk n) (k+1):=by
 obtain⟨d,hd,hd2,hat,_,hnm⟩:=P.dir;have hnm:=hnm hs0;have hl1:=h.aW;have hnew:fnd S.ac (S.last+1)=none:=by
  cases hf:fnd S.ac (S.last+1) with
  | none=>rfl
  | some x=>have:=(h.num _ _ hf).2;omega
 have hdm:s.dir≠S.last+1:=by intro e;rw[e,hnew] at hd;cases hd
 generalize hm:S.last+1=m at *;generalize hx0:(⟨c,if c=3 then fF ds else [],[],[],0,0,0⟩:Nod)=x0;have hxk:x0.aa=c:=by rw[←hx0]
 have kP:x0.ab = []:=by rw[←hx0]
 have hxl:x0.ah=0:=by rw[←hx0]
 have hxa:x0.above=0:=by rw[←hx0]
 have hxm:x0.most=0:=by rw[←hx0]
 have hxd:x0.data.length≤100000:=by
  rw[←hx0];show (if c=3 then fF ds else []).length≤_;split
  ·simp[fF];exact hds
  ·simp
 have hxw:x0.wr.length≤100000:=by rw[←hx0];simp
 have he:S.make s c ds={S with last:=m,ac:=eX (eX (eX S.ac m x0) s.dir (Tre.dirAdd d s.name m)) m (Tre.nodAdd x0 s.dir)} := by
  unfold Tre.make Tre.add Tre.au;rw[hm,hx0];have e1:(Tre.mk (eX S.ac m x0) m S.ak).at_ s.dir=d:=by
   unfold Tre.at_;dsimp only;rw[fnd_putA,if_neg hdm,hd];rfl
  have e2:(Tre.mk (eX S.ac m x0) m S.ak).at_ m=x0:=by
   unfold Tre.at_;dsimp only;rw[fnd_putA,if_pos rfl];rfl
  dsimp only;rw[e1,e2]
 have hr:(if c=2 then rk s.dir+1 else 20)≤20:=by
  have:=P.low;split <;> omega
 obtain⟨G1,c1,c0⟩:=h.x.eM hnew (by omega) (by omega) x0 kP (by rw[hxk];exact hc) (fun _=>hxa) ⟨hxd,hxw,by omega,by omega,by omega,by omega⟩ _ hr (fun h2=>by rw[hxk] at h2;rw[if_neg h2]);have hm0:fnd (eX S.ac m x0) m=some x0:=by rw[fnd_putA,if_pos rfl]
 have hd0:fnd (eX S.ac m x0) s.dir=some d:=by rw[fnd_putA,if_neg hdm];exact hd
 have hN:(Tre.nodAdd x0 s.dir).aa=c∧(Tre.nodAdd x0 s.dir).ab = []∧(Tre.nodAdd x0 s.dir).most=0∧(Tre.nodAdd x0 s.dir).ah=1∧(Tre.nodAdd x0 s.dir).above=(if c=2 then s.dir else 0)∧(Tre.nodAdd x0 s.dir).data=x0.data∧(Tre.nodAdd x0 s.dir).wr=x0.wr:=by
  unfold Tre.nodAdd;rw[hxk];by_cases h2:c=2
  ·rw[if_pos h2,if_pos h2];exact⟨rfl,kP,hxm,rfl,rfl,rfl,rfl⟩
  ·rw[if_neg h2,if_neg h2];exact⟨rfl,kP,hxm,by show x0.ah+1=1;omega,hxa,rfl,rfl⟩
 obtain⟨n1,n2,n3,n4,n5,n6,n7⟩:=hN;generalize Tre.nodAdd x0 s.dir=x1 at *;obtain⟨G2,c2⟩:=G1.fix hm0 x1 (by rw[n1,hxk]) (by rw[n2,kP]) (by rw[n3,hxm]) ⟨by rw[n6];exact hxd,by rw[n7];exact hxw,by omega,by omega⟩ (fun h2=>by rw[n5,if_neg (by rw[←hxk];exact h2)]) (fun _=>by rw[c1];exact c0);have hd1:fnd (eX (eX S.ac m x0) m x1) s.dir=some d:=by rw[fnd_putA,if_neg hdm];exact hd0
 have hm1:fnd (eX (eX S.ac m x0) m x1) m=some x1:=by rw[fnd_putA,if_pos rfl]
 obtain⟨G3,c3⟩:=G2.aP hd1 hd2 hdm hat P.name hnm (by rw[if_neg hdm];exact P.low) hm1 (fun h2=>by
  rw[n1] at h2;refine⟨by rw[n5,if_pos h2],?_⟩;rw[if_pos rfl,if_neg hdm,if_pos h2])
 rw[←qX hdm (mr hd0) (mr hm0)] at G3 c3;have JH:fnd (eX (eX (eX S.ac m x0) s.dir (Tre.dirAdd d s.name m)) m x1) m=some x1:=by rw[fnd_putA,if_pos rfl]
 have hd3:fnd (eX (eX (eX S.ac m x0) s.dir (Tre.dirAdd d s.name m)) m x1) s.dir=some (Tre.dirAdd d s.name m):=by rw[fnd_putA,if_neg hdm,fnd_putA,if_pos rfl]
 have G4:=G3.closed JH (by rw[c3,c2,c1,c0,if_pos rfl,n4];rfl) (fun h2=>by
  have hc2:c=2:=Classical.byContradiction fun hc2=>h2 (by rw[n5,if_neg hc2]);refine⟨by rw[n1];exact hc2,n4,Tre.dirAdd d s.name m,s.name,?_,?_⟩
  ·rw[n5,if_pos hc2];exact hd3
  ·show (s.name,m)∈eX d.ab s.name m;rw[gT _ (fU.1 hnm)];exact List.mem_append_right _ List.mem_cons_self) (fun h2 h3=>by
  rw[n1] at h2;rw[n5,if_pos h2] at h3;exact absurd h3 (h.aR hd))
 rw[he];refine h.of G4 (by show S.last≤m;omega) (by show m≤_;have:=h.last;omega) ?_ rfl ?_ ?_
 ·show (eX (eX (eX S.ac m x0) s.dir (Tre.dirAdd d s.name m)) m x1).length≤_;have h5:fnd (eX (eX S.ac m x0) s.dir (Tre.dirAdd d s.name m)) m=some x0:=by rw[fnd_putA,if_neg (fun e=>hdm e.symm)];exact hm0
  rw[iy h5,iy hd0];have:=xQ S.ac m x0;have:=h.many;omega
 ·intro n u hu;have hu':fnd (eX (eX (eX S.ac m x0) s.dir (Tre.dirAdd d s.name m)) m x1) n=some u:=hu;rw[fnd_putA] at hu';by_cases h5:n=m
  ·right;show 1≤n∧n≤m;omega
  ·left;rw[if_neg h5,fnd_putA] at hu';by_cases h6:n=s.dir
   ·exact⟨d,by rw[h6];exact hd⟩
   ·rw[if_neg h6,fnd_putA,if_neg h5] at hu';exact⟨u,hu'⟩
 ·intro n u hu _;show ∃ v,fnd (eX (eX (eX S.ac m x0) s.dir (Tre.dirAdd d s.name m)) m x1) n=some v∧_;have Gi:n≠m:=by rintro rfl;rw[hnew] at hu;cases hu
  rw[fnd_putA,if_neg Gi,fnd_putA];by_cases h6:n=s.dir
  ·exact zcy
  ·rw[if_neg h6,fnd_putA,if_neg Gi];exact⟨u,hu,rfl⟩
theorem Gd.addN (h:Gd S rk k){s:Spt}(P:tc S rk s)(hs0:s.ae=0){n:Int}{x:Nod}(hx:fnd S.ac n=some x)(h2:x.aa≠2):Gd (S.add s.dir s.name n) rk (k+1):=by
 obtain⟨d,hd,hd2,hat,_,hnm⟩:=P.dir;have hnm:=hnm hs0;have H:=h.ax hx;have hf:=H.file h2;have h1:n≠1:=fun e=>h2 (H.root e).1;have hdn:s.dir≠n:=by intro e;rw[e,hx] at hd;cases hd;exact h2 hd2
 have he:S.add s.dir s.name n={S with ac:=eX (eX S.ac s.dir (Tre.dirAdd d s.name n)) n {x with ah:=x.ah+1}} := by
  unfold Tre.add Tre.au;rw[fC hd,fC hx];unfold Tre.nodAdd;rw[if_neg h2]
 have hsz:=H.size;obtain⟨G2,c2⟩:=(h.x.opened h1).aP hd hd2 hdn hat P.name hnm P.low hx (fun e=>absurd e h2);have hx1:fnd (eX S.ac s.dir (Tre.dirAdd d s.name n)) n=some x:=by rw[fnd_putA,if_neg (fun e=>hdn e.symm)];exact hx
 obtain⟨G3,c3⟩:=G2.fix hx1 {x with ah:=x.ah+1} rfl rfl rfl ⟨hsz.1,hsz.2.1,by show 0≤x.ah+1;omega,by show x.ah+1≤_;omega⟩ (fun _=>hf.2.1) (fun e=>absurd e h2);have hx3:fnd (eX (eX S.ac s.dir (Tre.dirAdd d s.name n)) n {x with ah:=x.ah+1}) n=some {x with ah:=x.ah+1} := by rw[fnd_putA,if_pos rfl]
 have G4:=G3.closed hx3 (by rw[c3,c2,if_pos rfl];show x.ah+1=_;rw[H.ah (h.aR hx) h1];omega) (fun e=>absurd hf.2.1 e) (fun e=>absurd e h2);rw[he];refine h.of G4 (Int.le_refl _) (by show S.last≤_;have:=h.last;omega) ?_ rfl ?_ ?_
 ·show (eX (eX S.ac s.dir (Tre.dirAdd d s.name n)) n {x with ah:=x.ah+1}).length≤_;rw[iy hx1,iy hd];have:=h.many;omega
 ·intro m u hu;left;have hu':fnd (eX (eX S.ac s.dir (Tre.dirAdd d s.name n)) n {x with ah:=x.ah+1}) m=some u:=hu;rw[fnd_putA] at hu';by_cases h5:m=n
  ·exact⟨x,by rw[h5];exact hx⟩
  ·rw[if_neg h5,fnd_putA] at hu';by_cases h6:m=s.dir
   ·exact⟨d,by rw[h6];exact hd⟩
   ·rw[if_neg h6] at hu';exact⟨u,hu'⟩
 ·intro m u hu _;show ∃ v,fnd (eX (eX S.ac s.dir (Tre.dirAdd d s.name n)) n {x with ah:=x.ah+1}) m=some v∧_;rw[fnd_putA];by_cases h5:m=n
  ·rw[if_pos h5];rw[h5,hx] at hu;cases hu;exact⟨_,rfl,rfl⟩
  ·rw[if_neg h5,fnd_putA];by_cases h6:m=s.dir
   ·exact zcy
   ·rw[if_neg h6];exact⟨u,hu,rfl⟩
end Go.Proofs.YtmgpgbfgemebbaaGreatDoor
namespace Go.Proofs.YtmgpgbfgemebbaaGreatDoor
open Go.RowKit Go.Own
variable {S:Tre} {rk:Int→Nat} {k:Nat}
theorem t6 {T:List Tb.Slot}{n:Int}(h:Tb.holds T n=false){fd:Int}{s:Tb.Slot}(hl:Tb.look T fd=some s):s.ae≠n:=by
 have hm:s∈T∧s.on=true:=by
  unfold Tb.look at hl;split at hl
  ·split at hl
   ·rename_i u hu;split at hl
    ·rename_i hon;cases hl;exact⟨List.mem_of_getElem? hu,hon⟩
    ·cases hl
   ·cases hl
  ·cases hl
 intro e;have:Tb.holds T n=true:=by
  unfold Tb.holds;rw[List.any_eq_true];exact⟨s,hm.1,by simp[hm.2,e]⟩
 rw[h] at this;cases this
theorem Gd.forget (h:Gd S rk k)(n:Int):Gd (S.forget n) rk k:=by
 unfold Tre.forget;cases hx:fnd S.ac n with
 | none=>exact h
 | some x =>
  dsimp only;split
  ·rename_i hc;have hne:∀ m,m≠n→fnd (gq S.ac n) m=fnd S.ac m:=fun m hm=>jF hm;refine h.of (h.x.delN hx hc.2.1 hc.1) (Int.le_refl _) h.last (Nat.le_trans (mA _ _) h.many) rfl ?_ ?_
   ·intro m u hu;left;have hu':fnd (gq S.ac n) m=some u:=hu;by_cases hm:m=n
    ·exact⟨x,by rw[hm];exact hx⟩
    ·rw[hne m hm] at hu';exact⟨u,hu'⟩
   ·rintro m u hu ⟨fd,s,hs,e⟩;have hm:m≠n:=by rw[←e];exact t6 hc.2.2 hs
    exact⟨u,by show fnd (gq S.ac n) m=some u;rw[hne m hm];exact hu,rfl⟩
  ·exact h
theorem Gd.take (h:Gd S rk k){dir n:Int}{name:Str}{d x:Nod}(hd:fnd S.ac dir=some d)(hf:fnd d.ab name=some n)(hx:fnd S.ac n=some x)(hemp:x.aa=2→x.ab = []):Gd (S.take dir name) rk k:=by
 have H:=h.ax hx;have hsz:=H.size;have hcn:1≤cnt S.ac n:=lb hd (fj hf);have h1:n≠1:=by
  intro e;have:=(H.root e).2.2.2;omega
 obtain⟨e1,e2,y,hy,e3⟩:=(h.ax hd).ai _ (fj hf);have hyx:y=x:=by
  have hy':fnd S.ac n=some y:=hy;rw[hx] at hy';cases hy';rfl
 subst hyx;have hdn:dir≠n:=by
  intro e;rw[e,hx] at hd;have hdy:d=y:=(Option.some.inj hd).symm;rw[hdy] at hf;have h2:y.aa=2:=Classical.byContradiction fun h2=>by
   have:=(H.file h2).1;rw[this] at hf;cases hf
  have:=hemp h2;rw[this] at hf;cases hf
 have hl:=H.ah (h.aR hx) h1;have hk:S.kid dir name=n:=by unfold Tre.kid;rw[fC hd,hf];rfl
 have he:S.take dir name=({S with ac:=eX (eX S.ac dir (Tre.dirTake d name)) n (Tre.nodTake y)} : Tre).forget n:=by
  unfold Tre.take Tre.au;rw[hk,fC hd,fC hx]
 obtain⟨G2,c2⟩:=(h.x.opened h1).dz hd hf hdn;have c2n:=c2 n;rw[if_pos rfl] at c2n;have hx1:fnd (eX S.ac dir (Tre.dirTake d name)) n=some y:=by rw[fnd_putA,if_neg (fun e=>hdn e.symm)];exact hx
 have hdl:y.aa=2→y.ah=1:=fun h2=>by
  have ha:y.above≠0:=by rw[(e3 h2).1];exact h.aR hd
  exact(H.above (h.aR hx) ha).2.2.1
 obtain⟨G3,c3⟩:=G2.fix hx1 (Tre.nodTake y) rfl rfl rfl ⟨hsz.1,hsz.2.1,by show 0≤y.ah-1;omega,by show y.ah-1≤_;omega⟩ (fun h2=>by show (if y.aa=2 then 0 else y.above)=0;rw[if_neg h2];exact(H.file h2).2.1) (fun h2=>by have:=hdl h2;omega);have hx3:fnd (eX (eX S.ac dir (Tre.dirTake d name)) n (Tre.nodTake y)) n=some (Tre.nodTake y):=by rw[fnd_putA,if_pos rfl]
 have G4:=G3.closed hx3 (by rw[c3];show y.ah-1=_;omega) (fun e=>by
   exfalso;apply e;show (if y.aa=2 then 0 else y.above)=0;by_cases h2:y.aa=2
   ·rw[if_pos h2]
   ·rw[if_neg h2];exact(H.file h2).2.1) (fun h2 _=>⟨hemp h2,by show y.ah-1=0;have:=hdl h2;omega⟩)
 rw[he];refine Gd.forget (h.of (S':=⟨eX (eX S.ac dir (Tre.dirTake d name)) n (Tre.nodTake y),S.last,S.ak⟩) G4 (Int.le_refl _) h.last ?_ rfl ?_ ?_) n
 ·show (eX (eX S.ac dir (Tre.dirTake d name)) n (Tre.nodTake y)).length≤_;rw[iy hx1,iy hd];exact h.many
 ·intro m u hu;left;have hu':fnd (eX (eX S.ac dir (Tre.dirTake d name)) n (Tre.nodTake y)) m=some u:=hu;rw[fnd_putA] at hu';by_cases h5:m=n
  ·exact⟨y,by rw[h5];exact hx⟩
  ·rw[if_neg h5,fnd_putA] at hu';by_cases h6:m=dir
   ·exact⟨d,by rw[h6];exact hd⟩
   ·rw[if_neg h6] at hu';exact⟨u,hu'⟩
 ·intro m u hu _;show ∃ v,fnd (eX (eX S.ac dir (Tre.dirTake d name)) n (Tre.nodTake y)) m=some v∧_;rw[fnd_putA];by_cases h5:m=n
  ·rw[if_pos h5];rw[h5,hx] at hu;cases hu;exact⟨_,rfl,rfl⟩
  ·rw[if_neg h5,fnd_putA];by_cases h6:m=dir
   ·exact zcy
   ·rw[if_neg h6];exact⟨u,hu,rfl⟩
theorem pY (h:Gd S rk k)(d:Int):∀ (a b:Nat) (n:Int) (x:Nod),fnd S.ac n=some x→rk n<a→rk n<b→S.withinF a n d=S.withinF b n d:=by
 intro a;induction a with
 | zero=>intro b n x _ h;omega
 | succ a ih =>
  intro b n x hn ha hb;rcases b with _|b
  ·omega
  by_cases h1:n≠d∧(S.at_ n).above≠0
  ·simp only[Tre.withinF,if_pos h1];rw[fC hn] at h1 ⊢;obtain⟨⟨y,hy⟩,hr⟩:=h.cy n x hn h1.2;exact ih b _ y hy (by omega) (by omega)
  ·simp only[Tre.withinF,if_neg h1]
theorem Gd.bF (h:Gd S rk k){n d:Int}{x:Nod}(hn:fnd S.ac n=some x)(h1:n≠d)(ha:x.above≠0):S.within n d=S.within x.above d:=by
 have hlow:=h.x.rk20 n;obtain⟨⟨y,hy⟩,hr⟩:=h.cy n x hn ha;show S.withinF (20+1) n d=S.withinF 21 x.above d;rw[Tre.withinF,if_pos (by rw[fC hn];exact⟨h1,ha⟩),fC hn];exact pY h d 20 21 _ y hy (by omega) (by omega)
theorem Gd.ba {n d:Int}{x:Nod}(hn:fnd S.ac n=some x)(h1:n≠d)(ha:x.above=0):S.within n d=false:=by
 show S.withinF (20+1) n d=false;rw[Tre.withinF,if_neg (by rw[fC hn];rintro⟨_,h2⟩;exact h2 ha)];simpa using h1
theorem Gd.aN (h:Gd S rk k)(d:Int):∀ (r:Nat) (n:Int) (x:Nod),fnd S.ac n=some x→rk n=r→S.within n d=true→rk d≤r∧(n≠d→rk d<r∧x.above≠0∧S.within x.above d=true):=by
 intro r;induction r with
 | zero =>
  intro n x hn hr hw;by_cases h1:n=d
  ·exact⟨by rw[←h1];omega,fun e=>absurd h1 e⟩
  ·by_cases ha:x.above=0
   ·rw[Gd.ba hn h1 ha] at hw;cases hw
   ·obtain⟨_,hlt⟩:=h.cy n x hn ha;omega
 | succ r ih =>
  intro n x hn hr hw;by_cases h1:n=d
  ·exact⟨by rw[←h1];omega,fun e=>absurd h1 e⟩
  ·by_cases ha:x.above=0
   ·rw[Gd.ba hn h1 ha] at hw;cases hw
   ·obtain⟨y,nm,hy,_,hr2,_⟩:=h.one hn ha;rw[h.bF hn h1 ha] at hw;have:=(ih _ y hy (by omega) hw).1;exact⟨by omega,fun _=>⟨by omega,ha,hw⟩⟩
theorem Gd.dy (h:Gd S rk k){z:Int}{parts0:List Str}(hd:S.deepF 22 z parts0=false):∀ (r:Nat) (n:Int) (x:Nod),fnd S.ac n=some x→rk n=r→S.within n z=true→∃ parts,S.deepF (22-(rk n-rk z)) n parts=false∧parts.length=parts0.length+(rk n-rk z):=by
 intro r;induction r with
 | zero =>
  intro n x hn hr hw;have h1:n=z:=Classical.byContradiction fun h1=>by
   have:=((h.aN z _ n x hn hr hw).2 h1).1;omega
  subst h1;exact⟨parts0,by rw[Nat.sub_self];exact hd,by omega⟩
 | succ r ih =>
  intro n x hn hr hw;by_cases h1:n=z
  ·subst h1;exact⟨parts0,by rw[Nat.sub_self];exact hd,by omega⟩
  ·obtain⟨h2,ha,hw2⟩:=(h.aN z _ n x hn hr hw).2 h1;obtain⟨y,nm,hy,_,hr2,hm,_⟩:=h.one hn ha;obtain⟨parts,hp,hl⟩:=ih _ y hy (by omega) hw2;have h20:=h.x.rk20 n;have h3:=(h.aN z _ _ y hy rfl hw2).1;refine⟨parts ++ [nm],?_,by simp;omega⟩;obtain⟨f,hf⟩:∃ f,22-(rk x.above-rk z)=f+1:=⟨21-(rk x.above-rk z),by omega⟩
   rw[hf] at hp;have hf2:22-(rk n-rk z)=f:=by omega
   rw[hf2];simp only[Tre.deepF,Bool.or_eq_false_iff] at hp;have:=hp.2;rw[List.any_eq_false,fC hy] at this;have:=this _ hm;simpa using this
theorem Gd.cA (h:Gd S rk k){z:Int}{parts0:List Str}(hd:S.deep z parts0=false){n:Int}{x:Nod}(hn:fnd S.ac n=some x)(hw:S.within n z=true):parts0.length+(rk n-rk z)≤20∧(x.ab≠[]→parts0.length+(rk n-rk z)<20):=by
 obtain⟨parts,hp,hl⟩:=h.dy hd _ n x hn rfl hw;have h20:=h.x.rk20 n;obtain⟨f,hf⟩:∃ f,22-(rk n-rk z)=f+1:=⟨21-(rk n-rk z),by omega⟩
 rw[hf] at hp;simp only[Tre.deepF,Bool.or_eq_false_iff] at hp;have hlong:∀ ps:List Str,Tre.longM ps=false→ps.length≤20:=by
  intro ps hps;unfold Tre.longM at hps;simp only[Bool.or_eq_false_iff,decide_eq_false_iff_not] at hps;omega
 refine⟨by have:=hlong _ hp.1;omega,fun hne=>?_⟩;obtain⟨e,t,he⟩:=List.exists_cons_of_ne_nil hne;have h5:=hp.2;rw[List.any_eq_false,fC hn,he] at h5;have h6:=h5 e List.mem_cons_self;have h7:S.deepF f e.2 (parts ++ [e.1])=false:=by simpa using h6
 have h8:Tre.longM (parts ++ [e.1])=false:=by
  cases f with
  | zero=>exact h7
  | succ f=>simp only[Tre.deepF,Bool.or_eq_false_iff] at h7;exact h7.1
 have:=hlong _ h8;simp at this;omega
end Go.Proofs.YtmgpgbfgemebbaaGreatDoor
namespace Go.Proofs.YtmgpgbfgemebbaaGreatDoor
open Go.RowKit Go.Own
variable {S:Tre} {rk:Int→Nat} {k:Nat}
def Les (t:List (Int×Nod))(S:Tre):Prop:=∀ n x,fnd t n=some x→∃ x0,fnd S.ac n=some x0∧x.aa=x0.aa∧∀ e∈x.ab,e∈x0.ab
theorem Gx.moved {t:List (Int×Nod)}{z:Int}(h:Gx t rk k z)(h0:Gd S rk k)(hle:Les t S)(hc:cnt t z=0){x:Nod}(hx:fnd S.ac z=some x)(hx2:x.aa=2){d:Int}{dn:Nod}(hd:fnd S.ac d=some dn)(hd2:dn.aa=2)(hr:rk d<20){parts:List Str}(hp:parts.length=rk d+1)
  (hw:S.within d z=false) (DD:S.deep z parts=false):∃ rk',Gx t rk' k z∧rk' d=rk d∧rk' z=rk d+1:=by
 have hz1:=h.zne;have hat:∀ n y,fnd S.ac n=some y→(S.at_ n).aa=y.aa:=fun n y hy=>by rw[fC hy]
 refine⟨fun n=>if (S.at_ n).aa=2∧S.within n z=true then rk n+(rk d+1)-rk z else rk n,h.eh _ ?_ ?_ ?_ ?_ ?_,?_,?_⟩
 ·obtain⟨y,hy⟩:=h0.x.has1;have hwf:S.within 1 z=false:=Gd.ba hy (fun e=>hz1 e.symm) ((h0.ax hy).root rfl).2.1;show (if _ then _ else _)=0;rw[if_neg (by rw[hwf];simp)];exact h.rk1
 ·intro n;show (if _ then _ else _)≤20;split
  ·rename_i hcond;cases hn:fnd S.ac n with
   | none =>
    have:(S.at_ n).aa=0:=by unfold Tre.at_;rw[hn];rfl
    rw[this] at hcond;exact absurd hcond.1 (by decide)
   | some y =>
    have h1:=(h0.cA DD hn hcond.2).1;have h2:=(h0.aN z _ n y hn rfl hcond.2).1;have h3:rk n+(rk d+1)-rk z≤20:=by omega
    exact h3
  ·exact h.rk20 n
 ·intro n y hy hk;obtain⟨x0,hx0,hk0,_⟩:=hle n y hy;show (if _ then _ else _)=20;rw[if_neg (by rw[hat n x0 hx0,←hk0];exact fun e=>hk e.1)];exact((h.ax n y hy).file hk).2.2
 ·intro n y hy e he hcond;obtain⟨x0,hx0,hk0,hsub⟩:=hle n y hy;obtain⟨e1,e2,u,hu,e3⟩:=(h0.ax hx0).ai e (hsub e he);have hn2:x0.aa=2:=Classical.byContradiction fun h2=>by
   have:=((h0.ax hx0).file h2).1;have h9:=hsub e he;rw[this] at h9;cases h9
  have Kv:e.2≠z:=by
   intro ee;have:1≤cnt t z:=lb hy (nm:=e.1) (by rw[←ee];exact he);omega
  have hu2:u.aa=2:=by
   obtain⟨_,_,v,hv,_⟩:=(h.ax n y hy).ai e he;obtain⟨v0,hv0,hkv,_⟩:=hle _ _ hv;rw[hu] at hv0;cases hv0;have h9:=hcond.2;unfold Tre.at_ at h9;dsimp only at h9;rw[hv] at h9;rw[←hkv];exact h9
  obtain⟨e4,e5⟩:=e3 hu2;have hwe:S.within e.2 z=S.within n z:=by rw[h0.bF hu Kv (by rw[e4];exact h0.aR hx0),e4]
  show (if _ then _ else _)=(if _ then _ else _)+1;rw[hat _ _ hu,hat _ _ hx0,hwe];by_cases hwn:S.within n z=true
  ·rw[if_pos ⟨hu2,hwn⟩,if_pos ⟨hn2,hwn⟩];have:=(h0.aN z _ n x0 hx0 rfl hwn).1;omega
  ·rw[if_neg (fun e=>hwn e.2),if_neg (fun e=>hwn e.2)];exact e5
 ·intro n y hy hne;obtain⟨x0,hx0,hk0,hsub⟩:=hle n y hy;have hne0:x0.ab≠[]:=by
   intro e0;obtain⟨e,l,he⟩:=List.exists_cons_of_ne_nil hne;have:=hsub e (by rw[he];exact List.mem_cons_self);rw[e0] at this;cases this
  show (if _ then _ else _)<20;split
  ·rename_i hcond;have h1:=(h0.cA DD hx0 hcond.2).2 hne0;have h2:=(h0.aN z _ n x0 hx0 rfl hcond.2).1;have h3:rk n+(rk d+1)-rk z<20:=by omega
   exact h3
  ·obtain⟨e,l,he⟩:=List.exists_cons_of_ne_nil hne;exact((h.ax n y hy).ai e (by rw[he];exact List.mem_cons_self)).2.1
 ·show (if _ then _ else _)=rk d;rw[if_neg (by rw[hw];simp)]
 ·show (if _ then _ else _)=rk d+1;rw[if_pos ⟨by rw[hat _ _ hx];exact hx2,iW S z⟩];omega
theorem Gd.mv {S1:Tre}(h:Gd S1 rk k)(h0:Gd S rk k)(hle:Les S1.ac S){s t:Spt}{d td x:Nod}(hd:fnd S1.ac s.dir=some d)(hf:fnd d.ab s.name=some s.ae)(hx:fnd S1.ac s.ae=some x)
  (ht:fnd S1.ac t.dir=some td) (ht2:td.aa=2) (hat:t.dir=1∨td.above≠0) (hnm:kZ t.name) (htn:fnd td.ab t.name=none) (hr:rk t.dir<20)
  {parts:List Str} (hp:parts.length=rk t.dir+1) (og:x.aa=2→S.within t.dir s.ae=false∧S.deep s.ae parts=false):∃ rk',Gd (S1.bg s t) rk' (k+1):=by
 have H:=h.ax hx;have hsz:=H.size;have hcn:1≤cnt S1.ac s.ae:=lb hd (fj hf);have h1:s.ae≠1:=by
  intro e;have:=(H.root e).2.2.2;omega
 obtain⟨e1,e2,y,hy,e3⟩:=(h.ax hd).ai _ (fj hf);have hyx:y=x:=by
  have hy':fnd S1.ac s.ae=some y:=hy;rw[hx] at hy';cases hy';rfl
 subst hyx;have hdk:d.aa=2:=Classical.byContradiction fun h2=>by
  have:=((h.ax hd).file h2).1;rw[this] at hf;cases hf
 have hdn:s.dir≠s.ae:=by
  intro e;have hdy:d=y:=by rw[e,hx] at hd;exact(Option.some.inj hd).symm
  have:=(e3 (by rw[←hdy];exact hdk)).2;dsimp only at this;rw[←e] at this;omega
 have htz:t.dir≠s.ae:=by
  intro e;have hty:td=y:=by rw[e,hx] at ht;exact(Option.some.inj ht).symm
  have:=(og (by rw[←hty];exact ht2)).1;rw[e,iW] at this;cases this
 have hl:=H.ah (h.aR hx) h1;have hdl:y.aa=2→y.ah=1:=fun h2=>by
  have ha:y.above≠0:=by rw[(e3 h2).1];exact h.aR hd
  exact(H.above (h.aR hx) ha).2.2.1
 generalize hz1:({y with ah:=y.ah-1} : Nod)=z1;have z1k:z1.aa=y.aa:=by rw[←hz1]
 have z1n:z1.ab=y.ab:=by rw[←hz1]
 have z1m:z1.most=y.most:=by rw[←hz1]
 have z1l:z1.ah=y.ah-1:=by rw[←hz1]
 have z1a:z1.above=y.above:=by rw[←hz1]
 have z1d:z1.data.length≤100000∧z1.wr.length≤100000:=by rw[←hz1];exact⟨hsz.1,hsz.2.1⟩
 obtain⟨G1,c1⟩:=(h.x.opened h1).dz hd hf hdn;have c1n:=c1 s.ae;rw[if_pos rfl] at c1n;generalize hA:eX S1.ac s.dir (Tre.dirTake d s.name)=A at *;have fA:∀ n,fnd A n=if n=s.dir then some (Tre.dirTake d s.name) else fnd S1.ac n:=fun n=>by rw[←hA];exact fnd_putA
 have NI:fnd A s.ae=some y:=by rw[fA,if_neg (fun e=>hdn e.symm)];exact hx
 have hc0:y.aa=2→cnt A s.ae=0:=fun h2=>by have:=hdl h2;omega
 obtain⟨G2,c2⟩:=G1.fix NI z1 z1k z1n z1m ⟨z1d.1,z1d.2,by omega,by omega⟩ (fun h2=>by rw[z1a];exact(H.file h2).2.1) hc0;generalize hB:eX A s.ae z1=B at *;have fB:∀ n,fnd B n=if n=s.ae then some z1 else fnd A n:=fun n=>by rw[←hB];exact fnd_putA
 have Jt:fnd B s.ae=some z1:=by rw[fB,if_pos rfl]
 obtain⟨td',JA,td2,tda,tdn,tdsub⟩:∃ td',fnd B t.dir=some td'∧td'.aa=2∧td'.above=td.above∧fnd td'.ab t.name=none∧∀ e∈td'.ab,e∈td.ab:=by
  rw[fB,if_neg htz,fA];by_cases hts:t.dir=s.dir
  ·rw[if_pos hts];have htd:td=d:=by rw[hts,hd] at ht;exact(Option.some.inj ht).symm
   refine⟨_,rfl,hdk,by rw[htd];rfl,?_,fun e he=>by rw[htd];exact(List.mem_filter.1 he).1⟩;show fnd (gq d.ab s.name) t.name=none;rw[htd] at htn;rw[jF,htn];intro e;rw[e,hf] at htn;cases htn
  ·rw[if_neg hts];exact⟨td,ht,ht2,rfl,htn,fun e he=>he⟩
 generalize hz2:Tre.nodAdd z1 t.dir=z2;have hN:z2.aa=y.aa∧z2.ab=y.ab∧z2.most=y.most∧z2.ah=(if y.aa=2 then 1 else y.ah)∧z2.above=(if y.aa=2 then t.dir else 0)∧z2.data.length≤100000∧z2.wr.length≤100000:=by
  rw[←hz2];unfold Tre.nodAdd;rw[z1k];by_cases h2:y.aa=2
  ·rw[if_pos h2,if_pos h2,if_pos h2];exact⟨rfl,z1n,z1m,rfl,rfl,z1d⟩
  ·rw[if_neg h2,if_neg h2,if_neg h2];exact⟨rfl,z1n,z1m,by show z1.ah+1=y.ah;omega,by show z1.above=0;rw[z1a];exact(H.file h2).2.1,z1d⟩
 obtain⟨n1,n2,n3,n4,n5,n6,n7⟩:=hN;obtain⟨G3,c3⟩:=G2.fix Jt z2 (by rw[n1,z1k]) (by rw[n2,z1n]) (by rw[n3,z1m]) ⟨n6,n7,by rw[n4];split <;> omega,by rw[n4];split <;> omega⟩ (fun h2=>by rw[n5,if_neg (by rw[←z1k];exact h2)]) (fun h2=>by rw[c2];exact hc0 (by rw[←z1k];exact h2));have fB2:∀ n,fnd (eX B s.ae z2) n=if n=s.ae then some z2 else fnd B n:=fun n=>fnd_putA
 have Kx:fnd (eX B s.ae z2) s.ae=some z2:=by rw[fB2,if_pos rfl]
 have KZ:fnd (eX B s.ae z2) t.dir=some td':=by rw[fB2,if_neg htz];exact JA
 have Ek:Les (eX B s.ae z2) S:=by
  intro n u hu;rw[fB2] at hu;by_cases hn1:n=s.ae
  ·rw[if_pos hn1] at hu;cases hu;obtain⟨x0,a1,a2,a3⟩:=hle _ _ hx;exact⟨x0,by rw[hn1];exact a1,by rw[n1];exact a2,fun e he=>a3 e (by rw[←n2];exact he)⟩
  ·rw[if_neg hn1,fB,if_neg hn1,fA] at hu;by_cases hn2:n=s.dir
   ·rw[if_pos hn2] at hu;cases hu;obtain⟨x0,a1,a2,a3⟩:=hle _ _ hd;exact⟨x0,by rw[hn2];exact a1,a2,fun e he=>a3 e (List.mem_filter.1 he).1⟩
   ·rw[if_neg hn2] at hu;exact hle _ _ hu
 obtain⟨rk',G4,r1,r2⟩:∃ rk',Gx (eX B s.ae z2) rk' k s.ae∧rk' t.dir<20∧(y.aa=2→rk' s.ae=rk' t.dir+1):=by
  by_cases h2:y.aa=2
  ·obtain⟨x0,a1,a2,_⟩:=hle _ _ hx;obtain⟨t0,b1,b2,_⟩:=hle _ _ ht;obtain⟨rk',g1,g2,g3⟩:=G3.moved h0 Ek (by rw[c3,c2];exact hc0 h2) a1 (by rw[←a2];exact h2) b1 (by rw[←b2];exact ht2) hr hp (og h2).1 (og h2).2;exact⟨rk',g1,by rw[g2];exact hr,fun _=>by rw[g2,g3]⟩
  ·exact⟨rk,G3,hr,fun e=>absurd e h2⟩
 obtain⟨G5,c5⟩:=G4.aP KZ td2 htz (by rw[tda];exact hat) hnm tdn r1 Kx (fun h2=>by
  rw[n1] at h2;exact⟨by rw[n5,if_pos h2],r2 h2⟩)
 rw[←qX htz (mr JA) (mr Jt)] at G5 c5;have gH:fnd (eX (eX B t.dir (Tre.dirAdd td' t.name s.ae)) s.ae z2) s.ae=some z2:=by rw[fnd_putA,if_pos rfl]
 have OS:fnd (eX (eX B t.dir (Tre.dirAdd td' t.name s.ae)) s.ae z2) t.dir=some (Tre.dirAdd td' t.name s.ae):=by rw[fnd_putA,if_neg htz,fnd_putA,if_pos rfl]
 have G6:=G5.closed gH (by
   rw[c5,c3,c2,if_pos rfl,n4];by_cases h2:y.aa=2
   ·rw[if_pos h2,hc0 h2];rfl
   ·rw[if_neg h2];omega) (fun h2=>by
  have hc2:y.aa=2:=Classical.byContradiction fun hc2=>h2 (by rw[n5,if_neg hc2]);refine⟨by rw[n1];exact hc2,by rw[n4,if_pos hc2],Tre.dirAdd td' t.name s.ae,t.name,?_,?_⟩
  ·rw[n5,if_pos hc2];exact OS
  ·show (t.name,s.ae)∈eX td'.ab t.name s.ae;rw[gT _ (fU.1 tdn)];exact List.mem_append_right _ List.mem_cons_self) (fun h2 h3=>by
  rw[n1] at h2;rw[n5,if_pos h2] at h3;exact absurd h3 (h.aR ht))
 have he:S1.bg s t=⟨eX (eX B t.dir (Tre.dirAdd td' t.name s.ae)) s.ae z2,S1.last,S1.ak⟩:=by
  unfold Tre.bg Tre.add Tre.au;rw[fC hd,fC hx];dsimp only;rw[hA,hz1,hB];have q1:(Tre.mk B S1.last S1.ak).at_ t.dir=td':=fC JA;have q2:(Tre.mk B S1.last S1.ak).at_ s.ae=z1:=fC Jt;rw[q1,q2,hz2]
 rw[he];refine⟨rk',h.of G6 (Int.le_refl _) (by show S1.last≤_;have:=h.last;omega) ?_ rfl ?_ ?_⟩
 ·show (eX (eX B t.dir (Tre.dirAdd td' t.name s.ae)) s.ae z2).length≤_;have h5:fnd (eX B t.dir (Tre.dirAdd td' t.name s.ae)) s.ae=some z1:=by rw[fnd_putA,if_neg (fun e=>htz e.symm)];exact Jt
  rw[iy h5,iy JA,←hB,iy NI,←hA,iy hd];have:=h.many;omega
 ·intro n u hu;left;have hu':fnd (eX (eX B t.dir (Tre.dirAdd td' t.name s.ae)) s.ae z2) n=some u:=hu;rw[fnd_putA] at hu';by_cases h5:n=s.ae
  ·exact⟨y,by rw[h5];exact hx⟩
  ·rw[if_neg h5,fnd_putA] at hu';by_cases h6:n=t.dir
   ·exact⟨td,by rw[h6];exact ht⟩
   ·rw[if_neg h6,fB,if_neg h5,fA] at hu';by_cases h7:n=s.dir
    ·exact⟨d,by rw[h7];exact hd⟩
    ·rw[if_neg h7] at hu';exact⟨u,hu'⟩
 ·intro n u hu _;show ∃ v,fnd (eX (eX B t.dir (Tre.dirAdd td' t.name s.ae)) s.ae z2) n=some v∧_;rw[fnd_putA];by_cases h5:n=s.ae
  ·rw[if_pos h5];rw[h5,hx] at hu;cases hu;exact⟨_,rfl,n1⟩
  ·rw[if_neg h5,fnd_putA];by_cases h6:n=t.dir
   ·rw[if_pos h6];rw[h6,ht] at hu;cases hu;exact⟨_,rfl,td2.trans ht2.symm⟩
   ·rw[if_neg h6,fB,if_neg h5,fA];by_cases h7:n=s.dir
    ·rw[if_pos h7];rw[h7,hd] at hu;cases hu;exact⟨_,rfl,rfl⟩
    ·rw[if_neg h7];exact⟨u,hu,rfl⟩
end Go.Proofs.YtmgpgbfgemebbaaGreatDoor
namespace Go.Proofs
open Go.Shelf
def Tryz.br:Go.Shelf.Ren:=⟨fun|7=>124|10=>185|n=>n,fun|23=>79|26=>9|3=>3|28=>183|0=>0|27=>182|33=>241|4=>4|n=>n,fun|n=>n⟩
theorem Tryz.cu:Go.Proofs.SlLaysZ.n7 Tryz.prog Tryz.br:={
 mixed:=by kernel_rfl
 f7:=⟨Tryz.f124.name,by decide,Tryz.func124.trans (congrArg some (by kernel_rfl))⟩
 f10:=⟨Tryz.f185.name,by decide,Tryz.func185.trans (congrArg some (by kernel_rfl))⟩
 t0:=Tryz.underlying0
 a0:=Tryz.isAgg0
 z0:=Tryz.sizeOf0
 v0:=Tryz.zeroValue0
 t4:=Tryz.underlying4
 a4:=Tryz.isAgg4
 z4:=Tryz.sizeOf4
 v4:=Tryz.zeroValue4
 t23:=Tryz.underlying79
 a23:=Tryz.isAgg79
 z23:=Tryz.sizeOf79
 v23:=Tryz.zeroValue79
 t26:=Tryz.underlying9
 a26:=Tryz.isAgg9
 z26:=Tryz.sizeOf9
 v26:=Tryz.zeroValue9
 t27:=Tryz.underlying182
 a27:=Tryz.isAgg182
 z27:=Tryz.sizeOf182
 v27:=Tryz.zeroValue182
 t28:=Tryz.underlying183
 a28:=Tryz.isAgg183
 z28:=Tryz.sizeOf183
 v28:=Tryz.zeroValue183
 t33:=Tryz.underlying241
 a33:=Tryz.isAgg241
 z33:=Tryz.sizeOf241
 v33:=Tryz.zeroValue241}
def Tryz.aX:Go.Shelf.Ren:=⟨fun|6=>123|8=>183|9=>184|11=>234|13=>152|12=>235|23=>207|24=>208|14=>258|15=>259|16=>260|17=>261|18=>262|19=>263|20=>264|21=>265|22=>266|25=>281|26=>239|27=>240|28=>282|29=>283|30=>284|31=>293|n=>n,fun|26=>9|28=>183|24=>36|0=>0|3=>3|37=>171|48=>256|50=>258|4=>4|40=>250|39=>249|45=>146|5=>5|9=>9|51=>278|55=>282|57=>306|58=>45|33=>241|n=>n,fun|n=>n⟩
theorem Tryz.cK:Go.Proofs.SlLaysZ.n6 Tryz.prog Tryz.aX:={
 mixed:=by kernel_rfl
 f6:=⟨Tryz.f123.name,by decide,Tryz.func123.trans (congrArg some (by kernel_rfl))⟩
 f8:=⟨Tryz.f183.name,by decide,Tryz.func183.trans (congrArg some (by kernel_rfl))⟩
 f11:=⟨Tryz.f234.name,by decide,Tryz.func234.trans (congrArg some (by kernel_rfl))⟩
 t0:=Tryz.underlying0
 a0:=Tryz.isAgg0
 z0:=Tryz.sizeOf0
 v0:=Tryz.zeroValue0
 t24:=Tryz.underlying36
 a24:=Tryz.isAgg36
 z24:=Tryz.sizeOf36
 v24:=Tryz.zeroValue36
 t26:=Tryz.underlying9
 a26:=Tryz.isAgg9
 z26:=Tryz.sizeOf9
 v26:=Tryz.zeroValue9
 t28:=Tryz.underlying183
 a28:=Tryz.isAgg183
 z28:=Tryz.sizeOf183
 v28:=Tryz.zeroValue183
 i26:=by kernel_rfl}
end Go.Proofs
