/- TEXTS of mine, merged. -/
import Derived.Test.YtmgpgbfgemebbaaGreatDoorM0
import Derived.Test.YtmgpgbfgemebbaaGreatDoorM9
import Derived.Test.YtmgpgbfgemebbaaGreatDoorM12
import Derived.Test.YtmgpgbfgemebbaaGreatDoorM7
import Derived.Test.YtmgpgbfgemebbaaGreatDoorM8
set_option linter.all false
set_option maxRecDepth 100000
set_option maxHeartbeats 16000000
namespace Go.Proofs.YtmgpgbfgemebbaaGreatDoor
open Go.RowKit Go.Own
theorem CE (q:Nat)(S:Tre)(rk:Int→Nat)(o:Opm)(ov:Value)(mx:Int)(w:World)(L:List HP)(hW:Wk S)(hY:Wy S rk)(hM:MxL mx L)(hp:o.ag.length≤100000)(hd:o.aj.length≤100000)
  (BB:(S.place o.ag).2=0→(S.place o.ag).1.ae≠0→mR S (S.place o.ag).1∧∀ x,fnd S.ac (S.place o.ag).1.ae=some x→1≤x.ah) (CC:(S.place o.aj).2=0→nN S (S.place o.aj).1∧(S.place o.aj).1.name.length≤24∧((S.place o.aj).1.ae≠0→mR S (S.place o.aj).1))
  (hup:∀ n x,fnd S.ac n=some x→x.above≠0→(∃ y,fnd S.ac x.above=some y)∧rk x.above<rk n) (hnm:∀ n x,fnd S.ac n=some x→∀ e∈x.ab,rk n<rk e.2∧e.1.length≤24∧∃ z,fnd S.ac e.2=some z) (hO:Has w (Trc q S::L)) :
  zCl 59 #[.pointer (some ⟨q,0,none⟩),opV o ov] w fun e w'=>e=.returned (fL (S.rename o.ag o.aj).1 eS eS)∧Has w' (Trc q (S.rename o.ag o.aj).2::L)∧Keep w w':=by
 have Np:=hid (fun(w:World)(L':List HP)(hM:MxL mx L')(hO:Has w L')=>ze o.ag mx w L' hM hp (by have:=iU o.ag;omega) (by have:=lc o.ag;omega) hO);have HL2:=hid (fun(w:World)(L':List HP)(hM:MxL mx L')(hO:Has w L')=>ze o.aj mx w L' hM hd (by have:=iU o.aj;omega) (by have:=lc o.aj;omega) hO);have r7:=hid (fun(w:World)(L':List HP)(hM:MxL mx L')(hO:Has w (Trc q S::L'))=>m9 q S rk o.ag mx w L' hW hY hM hp hO);have HP2:=hid (fun(w:World)(L':List HP)(hM:MxL mx L')(hO:Has w (Trc q S::L'))=>m9 q S rk o.aj mx w L' hW hY hM hd hO);have Iz:=hid BB;have Jm:=hid CC;have FO:=hid hup;have L9:=hid hnm;clear BB CC hup hnm;generalize hR:S.rename o.ag o.aj=R;unfold Tre.rename at hR;generalize fx o.ag=M1 at *;generalize fx o.aj=M2 at *;generalize S.place o.ag=F1 at *;generalize S.place o.aj=F2 at *;obtain⟨ah1,nm1,l1⟩:=M1;obtain⟨ah2,nm2,l2⟩:=M2;obtain⟨s,e2⟩:=F1;obtain⟨t,e3⟩:=F2;dsimp only at *;have HR:=hid hR;have HM:=hid hM;have HO:=hid hO;have xB:=hid (And.intro hW hY);clear hO hR hW hM hp hd hY;unfold opV opC;go_enter Tryz.func59,Tryz.ntmps59
 go_upto_region 1 with fail
 obtain⟨w1,g3,g4,ew,e4,e3,eT,ff⟩:=f9 HO.out o ov;rw[ew,e4,e3];clear HO ew e4 e3;have iK:=eT.out.p1.e5;have kI:=eT.out.p1.e6;have BA:=hid (show MxL mx (Trc q S::pt g4 zA::pt g3 (.cells (opC o ov) 33)::L) from((HM.out.cons _).cons _).cons _);have kB:=hid (show Has (w1.alloc (.cells #[sV o.ag,sV o.aj] gx)) (pt w1.heap.size (.cells #[sV o.ag,sV o.aj] gx)::Trc q S::pt g4 zA::pt g3 (.cells (opC o ov) 33)::L) from(eT.out.alloc (.cells #[sV o.ag,sV o.aj] gx)).re 4 [0,3,1,2]);have yg:=hid (ff.out.alloc (.cells #[sV o.ag,sV o.aj] gx));go_wp2_with fail
 go_loopw [22] (fun i w'=>∃ (j:Nat) (w2:World),w2=w'∧j≤2∧i=.int .i64 j∧(1≤j→l1=0)∧(2≤j→l2=0)∧Hid (Has w2 (pt w1.heap.size (.cells #[sV o.ag,sV o.aj] gx)::Trc q S::pt g4 zA::pt g3 (.cells (opC o ov) 33)::L))∧Hid (Keep w w2)) (fun i _=>2-(intOf i).toNat)
 case atStart=>exact⟨0,_,rfl,by omega,rfl,by omega,by omega,kB,yg⟩
 case round =>
  clear kB yg eT ff iK kI;generalize w1.heap.size=ga at *;obtain⟨j,w2,rfl,hj,rfl,hj1,hj2,eZ,fu⟩:=hrel;have HJ:=hid (And.intro hj1 hj2);clear hj1 hj2;rcases(show j=0∨j=1∨j=2 by omega) with rfl|rfl|rfl
  ·rw[show ((0:Nat):Int)=0 from rfl];have hc0:=eZ.out.e0;go_wp2_with fail
   refine st (Np.out w2 _ (BA.out.cons _) eZ.out) (fu.out) fun w3 eW fH=>?_;try dsimp only
   clear eZ fu hc0;by_cases hl1:l1=0
   ·have Pq:(l1 != 0)=false:=by simp[hl1]
    go_wp2_with fail
    go_roundw
    case rel=>exact⟨1,_,rfl,by omega,rfl,fun _=>hl1,by omega,eW,fH⟩
    case measure=>decide
   ·have fa:=hid eW.out.vp;have HRR:=hid (by rw[←HR.out,if_pos hl1]:R=(eQ l1,S));obtain⟨hz0,hz1,hz2,hz3,gP,gH,hy0,hy1,hy2,hy3,hy4,gG⟩:=Has.az (fa.out);go_wp2_with fail
    have HC:=hid (gD (l1:Int) w3 (pt g4 zA::Trc q S::L) fa.out)
    as_aux_lemma=>exact zaY
  ·rw[show ((1:Nat):Int)=1 from rfl];have hl1:=HJ.out.1 (by omega);have hc1:=eZ.out.e1;go_wp2_with fail
   refine st (HL2.out w2 _ (BA.out.cons _) eZ.out) (fu.out) fun w3 eW fH=>?_;try dsimp only
   clear eZ fu hc1;by_cases hl2:l2=0
   ·have PF:(l2 != 0)=false:=by simp[hl2]
    go_wp2_with fail
    go_roundw
    case rel=>exact⟨2,_,rfl,by omega,rfl,fun _=>hl1,fun _=>hl2,eW,fH⟩
    case measure=>decide
   ·have fa:=hid eW.out.vp;have HRR:=hid (by rw[←HR.out,if_neg (fun h=>h hl1),if_pos hl2]:R=(eQ l2,S));obtain⟨hz0,hz1,hz2,hz3,gP,gH,hy0,hy1,hy2,hy3,hy4,gG⟩:=Has.az (fa.out);go_wp2_with fail
    have HC:=hid (gD (l2:Int) w3 (pt g4 zA::Trc q S::L) fa.out)
    as_aux_lemma=>exact zaY
  ·rw[show ((2:Nat):Int)=2 from rfl];have hl1:=HJ.out.1 (by omega);have hl2:=HJ.out.2 (by omega);have HR2:=hid ((if_neg (fun h=>h hl2)).symm.trans ((if_neg (fun h=>h hl1)).symm.trans HR.out));clear HR HJ Np HL2 hl1 hl2;have iK:=eZ.out.p3.e5;go_upto_region 8 with fail
   go_cut [10,11] (fun p10 e11 wx=>∃ (w3:World) (g10:Nat),w3=wx∧e11=.int .i64 e2∧p10=.pointer (some ⟨g10,0,none⟩)∧Hid (Has w3 (Trc q S::pt g10 (.cells (spC s) 102)::pt g4 zA::pt g3 (.cells (opC o ov) 33)::L))∧Hid (Keep w w3))
   case first =>
    go_wp2_with fail
    refine st (r7.out w2 _ ((HM.out.cons _).cons _) eZ.out.drop) (fu.out) fun w3 eW fH=>?_;try dsimp only
    unfold spV spC;go_wp2_with fail
    go_meet
    exact⟨_,_,rfl,rfl,rfl,hid ((eW.out.alloc (.cells (spC s) 102)).p1),hid (fH.out.alloc _)⟩
   case rest =>
    obtain⟨w3,g10,rfl,rfl,rfl,eW,fH⟩:=hcut;clear eZ fu iK r7;have fa:=hid eW.out.va;by_cases he2:e2=0
    ·subst he2;have hs0:=eW.out.p1.e0;by_cases hz:s.ae=0
     ·have hzb:(s.ae==0)=true:=by simp[hz]
      have HRR:=hid (by rw[←HR2.out,if_neg (fun h=>h rfl),if_pos hz]:R=(eQ 5,S))
      as_aux_lemma=>exact zcX
     ·have hzb:(s.ae==0)=false:=by simp[hz]
      have HR3:=hid ((if_neg hz).symm.trans ((if_neg (fun h=>h rfl)).symm.trans HR2.out));have kI:=eW.out.p3.e6;clear HR2;go_upto_region 13 with fail
      go_cut [12,11] (fun p12 e11 wx=>∃ (w5:World) (g12:Nat),w5=wx∧e11=.int .i64 e3∧p12=.pointer (some ⟨g12,0,none⟩)∧Hid (Has w5 (Trc q S::pt g12 (.cells (spC t) 102)::pt g10 (.cells (spC s) 102)::pt g4 zA::L))∧Hid (Keep w w5))
      case first =>
       go_wp2_with fail
       refine st (HP2.out w3 _ (((HM.out.cons _).cons _).cons _) eW.out) (fH.out) fun w4 fg fO=>?_;try dsimp only
       unfold spV spC;go_wp2_with fail
       go_meet
       exact⟨_,_,rfl,rfl,rfl,hid ((fg.out.alloc (.cells (spC t) 102)).re 5 [1,0,2,3]),hid (fO.out.alloc _)⟩
      case rest =>
       obtain⟨w5,g12,rfl,rfl,rfl,fi,ge⟩:=hcut;clear eW fH kI HP2 hs0 fa;have fa:=hid fi.out.vo;by_cases he3:e3=0
       ·subst he3;obtain⟨⟨d,x,hd,hdk,hdn,hx,hne,hln,hlk,hnl⟩,hpos⟩:=Iz.out rfl hz;obtain⟨⟨td,htd,xi,htl,htn⟩,Lx,hKt⟩:=Jm.out rfl;have hat:S.at_ s.ae=x:=by unfold Tre.at_;rw[hx];rfl
        have HR4:=hid (show (if x.aa=2∧S.within t.dir s.ae=true then(eQ 2,S) else if x.aa=2∧S.deep s.ae (S.way t.dir ++ [t.name])=true then(eQ 11,S) else if t.ae=s.ae then(eQ 0,S) else if t.ae≠0∧x.aa=2∧(S.at_ t.ae).aa≠2 then(eQ 7,S) else if t.ae≠0∧x.aa=2∧0<(S.at_ t.ae).ab.length then(eQ 9,S) else if t.ae≠0∧x.aa≠2∧(S.at_ t.ae).aa=2 then(eQ 8,S) else(eQ 0,(if t.ae≠0 then S.take t.dir t.name else S).bg s t))=R from by
         have h:=HR3.out;rw[if_neg (fun h=>h rfl)] at h;try dsimp only at h
         rw[hat] at h;exact h)
        have Oj:=hid hKt;have qv:=hid (show (fnd S.ac s.dir=some d∧fnd d.ab s.name=some s.ae)∧fnd S.ac s.ae=some x∧fnd S.ac t.dir=some td from⟨⟨hd,hdn⟩,hx,htd⟩);have Kp:=hid (hpos x hx);clear HR3 hKt hpos Iz Jm;obtain⟨m,f,P,hJ,h⟩:=eY.1 fi.out.drew;have fW:=hid hJ;have Kz:=hx;rw[←hJ.1] at Kz;obtain⟨b,hb,hl⟩:=Trb.look h Kz;have hq:=(Trb.cells h).1;obtain⟨A0,B0,dv0,Qf,nm0,-,-,hN0⟩:=Trb.take h hb;have hb0:=hN0.cells 0;have hs0:w5.drew.cell? ⟨g10,0,none⟩=some (.int .i64 s.ae):=h.p2.cells 0;have fq:=hid h;have gu:=hid ge.out.drew;have HB:=hid hb;have Gg:=hid (Trb.nodup h);clear h hN0 Kz hJ hd hdn hx htd hat hb fa fi ge;go_upto_region 16 with fail
        refine eP (fun w'=>w'.cell? ⟨q,0,none⟩=some (.map (some m))∧w'.cell? ⟨g10,0,none⟩=some (.int .i64 s.ae)∧(Instr.lookup tNo (.map (some m)) (.int .i64 s.ae) false).run Tryz.prog w'=.ok (.pointer (some ⟨b,0,none⟩)) w'∧w'.cell? ⟨b,0,none⟩=some (.int .i64 x.aa)) (by kernel_rfl) (by kernel_rfl) ⟨hq,hs0,hl,hb0⟩ ?_;repeat (first|refine wr4 ?_|refine wk ?_)
        refine eR ?_;clear hq hs0 hl hb0;generalize w5.drew=w6 at *;obtain⟨mv,hmv⟩:∃ mv,(x.aa==2)=mv:=⟨_,rfl⟩
        rw[hmv];have oJ:=hid hmv;clear hmv;go_upto_block 3 with fail
        go_cut [] (fun wx=>∃ (w7:World),w7=wx∧¬ (x.aa=2∧S.within t.dir s.ae=true)∧¬ (x.aa=2∧S.deep s.ae (S.way t.dir ++ [t.name])=true)∧t.ae≠s.ae∧Hid (Has w7 (Trb q m f P S.last S.ak::pt g12 (.cells (spC t) 102)::pt g10 (.cells (spC s) 102)::pt g4 zA::L))∧Hid (Keep w w7))
        case first=>as_aux_lemma =>
         have ht1:=fq.out.p1.e1;have hs0:=fq.out.p2.e0;cases mv
         ·have hk:x.aa≠2:=by simpa using oJ.out
          go_upto_region 19 with fail
          go_cut [94] (fun c wx=>∃ (w7:World),w7=wx∧c=.bool false∧Hid (Has w7 (Trb q m f P S.last S.ak::pt g12 (.cells (spC t) 102)::pt g10 (.cells (spC s) 102)::pt g4 zA::L))∧Hid (Keep w w7))
          case first =>
           refine iF (qc:=noQ) (fun _=>True) 8 11 [_,_,_,_,_,_,_,_] [_,_] _ _ _ (by kernel_rfl) (by kernel_rfl) (by rfl) rfl rfl rfl trivial ?_;simp only[List.cons_append,List.nil_append];repeat (first
            | (refine ig (by rfl) (by rfl) ?_ ?_ ?_;rotate_left;(intro w hS;go_simp;with_reducible rfl);simp only[Act.put,zpu])|(refine iB (by rfl) ?_;simp only[Act.put,zpu]))
           refine eR ⟨?_,?_⟩
           ·as_aux_lemma=>exact zbo
           ·as_aux_lemma=>exact zbo
          case rest =>
           obtain⟨w7,rfl,rfl,fP,gZ⟩:=hcut;clear fq gu ht1 hs0;have ht0:=fP.out.p1.e0;have hs0:=fP.out.p2.e0;by_cases hts:t.ae=s.ae
           ·have Er:(t.ae==s.ae)=true:=by simp[hts]
            have fa:=hid (eY.2 ⟨m,f,P,fW.out,(fP.out).re 4 [0,3]⟩:Has w7 (Trc q S::pt g4 zA::L)).vc;have HRR:=hid (by rw[←HR4.out,if_neg (fun h=>hk h.1),if_neg (fun h=>hk h.1),if_pos hts]:R=(eQ 0,S))
            as_aux_lemma=>exact zbA
           ·have Er:(t.ae==s.ae)=false:=by simp[hts]
            go_wp2_with fail
            go_meet
            exact⟨_,rfl,fun h=>hk h.1,fun h=>hk h.1,hts,fP,gZ⟩
         ·have hk:x.aa=2:=by simpa using oJ.out
          go_wp2_with fail
          refine(Bv q S rk t.dir s.ae td w6 _ FO.out qv.out.2.2 (xB.out.2.low _) (eY.2 ⟨m,f,P,fW.out,fq.out⟩)).mono ?_;rintro e w' ⟨rfl,rfl⟩;try dsimp only
          cases hwi:S.within t.dir s.ae
          ·have GU:=hid hwi;clear hwi;go_upto_region 19 with fail
           go_cut [94] (fun c wx=>∃ (w7:World),w7=wx∧c=.bool (S.deep s.ae (S.way t.dir ++ [t.name]))∧Hid (Has w7 (Trb q m f P S.last S.ak::pt g12 (.cells (spC t) 102)::pt g10 (.cells (spC s) 102)::pt g4 zA::L))∧Hid (Keep w w7))
           case first =>
            have hnd:=Trb.nodup fq.out;have Fy:=hid (ot xB.out.2 20 _ _ qv.out.2.2 (xB.out.2.low _));have Py:=hid (show ∀ (v:Value) (w:World) (L':List HP),Has w (Strs v (S.way t.dir ++ [t.name])::Trb q m f P S.last S.ak::L')→zCl 127 #[.pointer (some ⟨q,0,none⟩),.int .i64 s.ae,v] w fun e w'=>e=.returned (.bool (S.deep s.ae (S.way t.dir ++ [t.name])))∧Has w' (Strs v (S.way t.dir ++ [t.name])::Trb q m f P S.last S.ak::L')∧Keep w w' from fun v w L' h=>by
             have hmem:∀ y∈P,fnd S.ac y.1=some y.2.2:=fun y hy=>by
              rw[←fW.out.1];exact gf (by rw[gr];exact hnd) (List.mem_map.2 ⟨y,hy,rfl⟩)
             have h9:=Gt q m f P S.last S.ak rk hnd (fun y _=>by have:=xB.out.2.low y.1;omega) (fun y hy e he=>by
              obtain⟨h1,h2,z,h3⟩:=L9.out y.1 y.2.2 (hmem y hy) e he;refine⟨h1,h2,?_⟩;rw[←fW.out.1] at h3;obtain⟨z',hz',hze⟩:=List.mem_map.1 (fj h3);exact⟨z',hz',congrArg Prod.fst hze⟩) 22 s.ae b x (S.way t.dir ++ [t.name]) P v w L' (by omega) (by have:=xB.out.2.low s.ae;omega) HB.out (by have:=Fy.out;rw[List.length_append,List.length_singleton];omega) (fun p' hp'=>(List.mem_append.1 hp').elim (lM xB.out.2 20 _ _ qv.out.2.2 (xB.out.2.low _) p') (fun h=>by rw[List.mem_singleton.1 h];exact Lx)) (fun y hy _=>hy) h
             rw[fW.out.1] at h9;exact h9)
            have gC:=hid fq.out.drew;have iG:=hid gu.out.drew;clear hnd ht1 hs0;refine iF (qc:=noQ) (fun w'=>w'.cell? ⟨g10,0,none⟩=some (.int .i64 s.ae)∧w'.cell? ⟨g12,1,none⟩=some (.int .i64 t.dir)∧w'.cell? ⟨g12,2,none⟩=some (sV t.name)) 8 11 [_,_,_,_,_,_,_,_] [_,_] _ _ _ (by kernel_rfl) (by kernel_rfl) (by rfl) rfl rfl rfl ⟨gC.out.p2.cells 0,gC.out.p1.cells 1,gC.out.p1.cells 2⟩ ?_;simp only[List.cons_append,List.nil_append];repeat (first|refine wr3 ?_|refine wk ?_)
            refine eR ⟨?_,?_⟩
            ·refine wa fun K hK=>?_;go_simp
             refine(Fi q m f P S rk t.dir td _ _ xB.out.2 qv.out.2.2 fW.out gC.out).mono ?_;rintro e w8 ⟨v8,rfl,o0,hK8⟩;have fI:=hid o0;have iI:=hid ((iG.out).trans hK8);clear o0 hK8;try dsimp only
             refine hK.out _ _ (⟨fI.out.p3.cells 0,fI.out.p2.cells 1,fI.out.p2.cells 2⟩) ?_;clear hK K;try simp only[Act.put,zpu]
             obtain⟨p8,c8,rfl,-⟩:=(Strs.rd fI.out).form;refine wa fun K hK=>?_;go_simp
             have fJ:=hid (fI.out.alloc (.cells #[sV t.name] 9)).p1;have gQ:=hid (iI.out.alloc (.cells #[sV t.name] 9));refine hK.out _ _ ⟨fJ.out.p4.cells 0,fJ.out.p3.cells 1,fJ.out.p3.cells 2⟩ ?_;clear hK K;try simp only[Act.put,zpu]
             have fJ:=hid (show Has _ (Strs (.slice p8 (S.way t.dir).length c8) (S.way t.dir)::pt w8.heap.size (.cells #[sV t.name] 9)::Trb q m f P S.last S.ak::pt g12 (.cells (spC t) 102)::pt g10 (.cells (spC s) 102)::pt g4 zA::L) from fJ.out)
             as_aux_lemma=>exact zaw
            ·refine wa fun K hK=>?_;go_simp
             have fP:=hid (gC.out.alloc (.cells #[sV t.name] 9)).p1;have gZ:=hid (iG.out.alloc (.cells #[sV t.name] 9));refine hK.out _ _ ⟨fP.out.p3.cells 0,fP.out.p2.cells 1,fP.out.p2.cells 2⟩ ?_;clear hK K;try simp only[Act.put,zpu]
             refine wa fun K hK=>?_;go_simp
             refine(Fi q m f P S rk t.dir td _ _ xB.out.2 qv.out.2.2 fW.out fP.out).mono ?_;rintro e w8 ⟨v8,rfl,o0,hK8⟩;have fI:=hid o0;have iI:=hid ((gZ.out).trans hK8);clear o0 hK8;try dsimp only
             refine hK.out _ _ (⟨fI.out.p4.cells 0,fI.out.p3.cells 1,fI.out.p3.cells 2⟩) ?_;clear hK K;try simp only[Act.put,zpu]
             obtain⟨p8,c8,rfl,-⟩:=(Strs.rd fI.out).form;have fJ:=hid (fI.out.re 3 [0,2,1]);have gQ:=iI;have fJ:=hid (show Has _ (Strs (.slice p8 (S.way t.dir).length c8) (S.way t.dir)::pt w6.drew.heap.size (.cells #[sV t.name] 9)::Trb q m f P S.last S.ak::pt g12 (.cells (spC t) 102)::pt g10 (.cells (spC s) 102)::pt g4 zA::L) from fI.out.re 3 [0,2,1])
             as_aux_lemma=>exact zaw
           case rest =>
            obtain⟨w7,rfl,rfl,fP,gZ⟩:=hcut;clear fq gu ht1 hs0;have ht0:=fP.out.p1.e0;have hs0:=fP.out.p2.e0;cases hdp:S.deep s.ae (S.way t.dir ++ [t.name])
            ·have E7:=hid hdp;clear hdp;by_cases hts:t.ae=s.ae
             ·have Er:(t.ae==s.ae)=true:=by simp[hts]
              have fa:=hid (eY.2 ⟨m,f,P,fW.out,(fP.out).re 4 [0,3]⟩:Has w7 (Trc q S::pt g4 zA::L)).vc;have HRR:=hid (by rw[←HR4.out,if_neg (fun h=>absurd (GU.out.symm.trans h.2) (by decide)),if_neg (fun h=>absurd (E7.out.symm.trans h.2) (by decide)),if_pos hts]:R=(eQ 0,S))
              as_aux_lemma=>exact zbA
             ·have Er:(t.ae==s.ae)=false:=by simp[hts]
              go_wp2_with fail
              go_meet
              exact⟨_,rfl,fun h=>absurd (GU.out.symm.trans h.2) (by decide),fun h=>absurd (E7.out.symm.trans h.2) (by decide),hts,fP,gZ⟩
            ·have E7:=hid hdp;clear hdp;have fa:=hid (eY.2 ⟨m,f,P,fW.out,(fP.out).re 4 [0,3]⟩:Has w7 (Trc q S::pt g4 zA::L)).vc;have HRR:=hid (by rw[←HR4.out,if_neg (fun h=>absurd (GU.out.symm.trans h.2) (by decide)),if_pos ⟨hk,E7.out⟩]:R=(eQ 11,S));obtain⟨hz0,hz1,hz2,hz3,gP,gH,hy0,hy1,hy2,hy3,hy4,gG⟩:=Has.az (fa.out);go_wp2_with fail
             have HC:=hid (gD (11:Int) w7 (pt g4 zA::Trc q S::L) fa.out);have kz:=gZ;exact lv
          ·have GU:=hid hwi;clear hwi;have fa:=hid (eY.2 ⟨m,f,P,fW.out,(fq.out).re 4 [0,3]⟩:Has w6 (Trc q S::pt g4 zA::L)).vc;have HRR:=hid (by rw[←HR4.out,if_pos ⟨hk,GU.out⟩]:R=(eQ 2,S));obtain⟨hz0,hz1,hz2,hz3,gP,gH,hy0,hy1,hy2,hy3,hy4,gG⟩:=Has.az (fa.out);go_wp2_with fail
           have HC:=hid (gD (2:Int) w6 (pt g4 zA::Trc q S::L) fa.out);have kz:=gu;exact lv
        case rest =>
         obtain⟨w7,rfl,hnw,Iq,hts,fP,gZ⟩:=hcut;clear fq gu;have xN:=hid (show (if t.ae≠0∧x.aa=2∧(S.at_ t.ae).aa≠2 then(eQ 7,S) else if t.ae≠0∧x.aa=2∧0<(S.at_ t.ae).ab.length then(eQ 9,S) else if t.ae≠0∧x.aa≠2∧(S.at_ t.ae).aa=2 then(eQ 8,S) else(eQ 0,(if t.ae≠0 then S.take t.dir t.name else S).bg s t))=R from by
          have h:=HR4.out;rw[if_neg hnw,if_neg Iq,if_neg hts] at h;exact h)
         clear HR4 Iq;obtain⟨S1,hS1⟩:∃ S1,(if t.ae≠0 then S.take t.dir t.name else S)=S1:=⟨_,rfl⟩
         rw[hS1] at xN;have rG:=hid hS1;have No:=hid hnw;clear hS1 hnw;have Ej:=fP.out.p1.e0;go_upto_if 120 with fail
         go_cut [] (fun wx=>∃ (w8:World) (P1:List Pn),w8=wx∧R=(eQ 0,S1.bg s t)∧(pnN P1=S1.ac∧S1.ak.length=16)∧(∀ e∈P1,∃ y,(e.1,e.2.1,y)∈P)∧((∃ d1,fnd S1.ac s.dir=some d1∧d1.aa=2)∧fnd S1.ac s.ae=some x∧∃ td1,fnd S1.ac t.dir=some td1∧td1.aa=2∧td1.ab.length<1000000)∧Hid (Has w8 (Trb q m f P1 S1.last S1.ak::pt g12 (.cells (spC t) 102)::pt g10 (.cells (spC s) 102)::pt g4 zA::L))∧Hid (Keep w w8))
         case first=>as_aux_lemma =>
          by_cases ht:t.ae=0
          ·have htb:(t.ae != 0)=false:=by simp[ht]
           have hS:S1=S:=by rw[←rG.out,if_neg (fun h=>h ht)]
           have hRR:R=(eQ 0,S1.bg s t):=by rw[←xN.out,if_neg (fun h=>h.1 ht),if_neg (fun h=>h.1 ht),if_neg (fun h=>h.1 ht)]
           subst hS;go_wp2_with fail
           go_meet
           exact⟨_,P,rfl,hRR,fW.out,fun e he=>⟨e.2.2,he⟩,⟨⟨d,qv.out.1.1,hdk⟩,qv.out.2.1,td,qv.out.2.2,xi,htn⟩,fP,gZ⟩
          ·have htb:(t.ae != 0)=true:=by simpa using ht
           obtain⟨td',y,Mf,-,htc,hy,hne2,LY,hlk2,OE⟩:=Oj.out ht;have L2:td'=td:=by have h:=qv.out.2.2;rw[Mf] at h;exact Option.some.inj h
           subst L2;have hay:S.at_ t.ae=y:=by unfold Tre.at_;rw[hy];rfl
           have qG:=hid (show (if x.aa=2∧y.aa≠2 then(eQ 7,S) else if x.aa=2∧0<y.ab.length then(eQ 9,S) else if x.aa≠2∧y.aa=2 then(eQ 8,S) else(eQ 0,S1.bg s t))=R from by
            have h:=xN.out;rw[hay] at h;simpa[ht] using h)
           have hS:S1=S.take t.dir t.name:=by rw[←rG.out,if_pos ht]
           have oy:=hid (show s.dir≠t.ae→(∃ d1,fnd S1.ac s.dir=some d1∧d1.aa=2)∧fnd S1.ac s.ae=some x∧∃ td1,fnd S1.ac t.dir=some td1∧td1.aa=2∧td1.ab.length<1000000 from fun hsd=>by
            rw[hS];have h1:=mG qv.out.2.2 htc;refine⟨?_,?_,?_⟩
            ·rw[h1 _ hsd];split
             ·exact⟨_,rfl,xi⟩
             ·exact⟨d,qv.out.1.1,hdk⟩
            ·rw[h1 _ (fun e=>hts e.symm),if_neg]
             ·exact qv.out.2.1
             ·intro e;have h2:=qv.out.2.1;rw[e,qv.out.2.2] at h2;have h3:=Option.some.inj h2;exact No.out ⟨by rw[←h3];exact xi,by rw[e];exact iW _ _⟩
            ·rw[h1 _ hne2,if_pos rfl];exact⟨_,rfl,xi,Nat.lt_of_le_of_lt (mA _ _) htn⟩)
           have Mx:=hy;rw[←fW.out.1] at Mx;obtain⟨by_,hby,NF⟩:=Trb.look fP.out.drew Mx;have Jv:=(Trb.cells fP.out.drew).1;have Dv:w7.drew.cell? ⟨g12,0,none⟩=some (.int .i64 t.ae):=Ej;go_upto_region 24 with fail
           refine eP (fun w'=>w'.cell? ⟨q,0,none⟩=some (.map (some m))∧w'.cell? ⟨g12,0,none⟩=some (.int .i64 t.ae)∧(Instr.lookup tNo (.map (some m)) (.int .i64 t.ae) false).run Tryz.prog w'=.ok (.pointer (some ⟨by_,0,none⟩)) w') (by kernel_rfl) (by kernel_rfl) ⟨Jv,Dv,NF⟩ ?_;repeat (first|refine wr3 ?_|refine wk ?_)
           refine eR ?_;have fI:=hid fP.out.drew;have iI:=hid gZ.out.drew;clear Jv fP gZ Ej Dv NF Mx;generalize w7.drew=w8 at *;obtain⟨nm2,hy0,hy3,Jh,-⟩:=Trb.facts fI.out hby;have BD:=fI.out.p1.e1;have oS:=fI.out.p1.e2;cases mv
           ·have hk:x.aa≠2:=by simpa using oJ.out
            by_cases hyk:y.aa=2
            ·have hyb:(y.aa==2)=true:=by simp[hyk]
             have fa:=hid (eY.2 ⟨m,f,P,fW.out,fI.out.re 4 [0,3]⟩:Has w8 (Trc q S::pt g4 zA::L)).vc;have HRR:=hid (by rw[←qG.out,if_neg (fun h=>hk h.1),if_neg (fun h=>hk h.1),if_pos ⟨hk,hyk⟩]:R=(eQ 8,S));obtain⟨hz0,hz1,hz2,hz3,gP,gH,hy0,hy1,hy2,hy3,hy4,gG⟩:=Has.az (fa.out);go_wp2_with fail
             have HC:=hid (gD (8:Int) w8 (pt g4 zA::Trc q S::L) fa.out);have kz:=iI;exact lv
            ·have hyb:(y.aa==2)=false:=by simp[hyk]
             have r5:s.dir≠t.ae:=by
              intro e;have h2:=qv.out.1.1;rw[e,hy] at h2;rw[Option.some.inj h2] at hyk;exact hyk hdk
             have hRR:R=(eQ 0,S1.bg s t):=by rw[←qG.out,if_neg (fun h=>hk h.1),if_neg (fun h=>hk h.1),if_neg (fun h=>hyk h.2)]
             as_aux_lemma=>exact zbe
           ·have hk:x.aa=2:=by simpa using oJ.out
            by_cases hyk:y.aa=2
            ·have hyb:(y.aa != 2)=false:=by simp[hyk]
             by_cases hyn:0<y.ab.length
             ·have L5:(0:Int)<(y.ab.length:Int):=by omega
              have fa:=hid (eY.2 ⟨m,f,P,fW.out,fI.out.re 4 [0,3]⟩:Has w8 (Trc q S::pt g4 zA::L)).vc;have HRR:=hid (by rw[←qG.out,if_neg (fun h=>h.2 hyk),if_pos ⟨hk,hyn⟩]:R=(eQ 9,S));obtain⟨hz0,hz1,hz2,hz3,gP,gH,hy0,hy1,hy2,hy3,hy4,gG⟩:=Has.az (fa.out);go_wp2_with fail
              have HC:=hid (gD (9:Int) w8 (pt g4 zA::Trc q S::L) fa.out);have kz:=iI;exact lv
             ·have L5:¬ (0:Int)<(y.ab.length:Int):=by omega
              have r5:s.dir≠t.ae:=by
               intro e;have h2:=qv.out.1.1;rw[e,hy] at h2;rw[Option.some.inj h2] at hyn;have h3:=List.length_pos_of_mem (fj qv.out.1.2);omega
              have hRR:R=(eQ 0,S1.bg s t):=by rw[←qG.out,if_neg (fun h=>h.2 hyk),if_neg (fun h=>hyn h.2),if_neg (fun h=>h.1 hk)]
              as_aux_lemma=>exact zbe
            ·have hyb:(y.aa != 2)=true:=by simpa using hyk
             have fa:=hid (eY.2 ⟨m,f,P,fW.out,fI.out.re 4 [0,3]⟩:Has w8 (Trc q S::pt g4 zA::L)).vc;have HRR:=hid (by rw[←qG.out,if_pos ⟨hk,hyk⟩]:R=(eQ 7,S));obtain⟨hz0,hz1,hz2,hz3,gP,gH,hy0,hy1,hy2,hy3,hy4,gG⟩:=Has.az (fa.out);go_wp2_with fail
             have HC:=hid (gD (7:Int) w8 (pt g4 zA::Trc q S::L) fa.out);have kz:=iI;exact lv
         case rest=>as_aux_lemma =>
          obtain⟨w8,P1,rfl,hRR,wW,hsub,⟨⟨d1,hd1,GE⟩,hx1,td1,BD,IC,yM⟩,fI,iI⟩:=hcut;clear fP gZ Ej xN;obtain⟨b1,R1,hperm⟩:∃ b1 R1,P1.Perm ((s.dir,b1,d1)::(s.ae,b,x)::R1):=by
           have h1:=hd1;have h2:=hx1;rw[←wW.1] at h1 h2;obtain⟨b1,b2,R1,hp⟩:=ny h1 h2 hne;obtain⟨y',hy'⟩:=hsub (s.ae,b2,x) (hp.mem_iff.2 (by simp));have h3:=gf Gg.out hy';rw[gf Gg.out HB.out] at h3;have h4:=congrArg Prod.fst (Option.some.inj h3);dsimp only at h4;subst h4;exact⟨b1,R1,hp⟩
          have Ly:=hid (Trb.nodup fI.out);have h1:=(Trg.bD (Trg.of fI.out) hperm).re 2 [1,0];have h2:=Trg.bD h1 (.refl _);obtain⟨dv2,wv2,nm2,oC,h3⟩:=fG.1 h2;obtain⟨dv,wv,nm,hnm,h4⟩:=fG.1 (h3.re 6 [5,0,1,2,3,4]);obtain⟨mm,rfl⟩:=hnm GE;have I3:=hid h4.vh;have zJ:=hid oC;have o1:=hid hperm;have r6:=hid (And.intro hd1 (And.intro hx1 BD));have wu:=hid wW;have My:=hid hRR;have Lg:=hid (show ∀ (w':World) (ns:List (Str×Int)),Has w' (Mk kStr vInt mm ns::pt b1 (.cells (gg d1 dv wv (some mm)) 82)::Dat d1.aa dv d1.data::Bools wv d1.wr::pt b (.cells (gg x dv2 wv2 nm2) 82)::Dat x.aa dv2 x.data::Bools wv2 x.wr::Nms nm2 x.ab::Trg q m f P1 S1.last S1.ak R1::pt g12 (.cells (spC t) 102)::pt g10 (.cells (spC s) 102)::pt g4 zA::L)→w'.cell? ⟨q,0,none⟩=some (.map (some m))∧w'.cell? ⟨g10,1,none⟩=some (.int .i64 s.dir)∧w'.cell? ⟨g10,2,none⟩=some (sV s.name)∧(Instr.lookup tNo (.map (some m)) (.int .i64 s.dir) false).run Tryz.prog w'=.ok (.pointer (some ⟨b1,0,none⟩)) w'∧w'.cell? ⟨b1,3,none⟩=some (.map (some mm)) from fun w' ns h=>⟨(Trg.cells (h.re 9 [8])).1,(h.re 11 [10]).cells 1,(h.re 11 [10]).cells 2,Trg.look (x:=d1) (h.re 9 [8]) (hperm.mem_iff.2 (by simp)),h.p1.cells 3⟩);clear h1 h2 h3 h4 hnm oC hperm hd1 hx1 BD wW hsub hRR;have hsl:s.name.length≤maxLen:=Nat.le_trans hln (eU (by omega));have wx:IntKind.i64.wrap (x.ah-1)=x.ah-1:=ft _ (by have:=hlk;omega);go_upto_region 32 with fail
          refine eP (fun w'=>w'.cell? ⟨q,0,none⟩=some (.map (some m))∧w'.cell? ⟨g10,1,none⟩=some (.int .i64 s.dir)∧w'.cell? ⟨g10,2,none⟩=some (sV s.name)∧(Instr.lookup tNo (.map (some m)) (.int .i64 s.dir) false).run Tryz.prog w'=.ok (.pointer (some ⟨b1,0,none⟩)) w'∧w'.cell? ⟨b1,3,none⟩=some (.map (some mm))) (by kernel_rfl) (by kernel_rfl) (Lg.out _ _ I3.out.drew) ?_;repeat (first|refine wr5 ?_|refine wk ?_)
          refine wa fun K hK=>?_;refine zZ I3.out.drew tNm jg _ _ rfl rfl s.name hsl rfl ?_;intro w9 mU hK9;refine hK.out _ _ (Lg.out _ _ mU) ?_;clear hK K;try simp only[Act.put,zpu]
          have fJ:=hid mU;have gQ:=hid (iI.out.drew.trans hK9);clear mU hK9 I3 fI iI;refine eR ?_;have gG:=(fJ.out.re 5 [4]).e5;have gH:=(fJ.out.re 5 [4]).thaw 5;go_upto_region 34 with fail
          obtain⟨S2,hS2⟩:∃ S2,(S1.au s.dir (Tre.dirTake d1 s.name)).au s.ae {x with ah:=x.ah-1} = S2:=⟨_,rfl⟩
          have gJ:=hid (show Has (w9.setCell ⟨b,5,none⟩ (.int .i64 (x.ah-1))) (Trc q S2::pt g12 (.cells (spC t) 102)::pt g10 (.cells (spC s) 102)::pt g4 zA::L) from by
           have h0:Has (w9.setCell ⟨b,5,none⟩ (.int .i64 (x.ah-1))) (pt b (.cells (gg {x with ah:=x.ah-1} dv2 wv2 nm2) 82)::pt b1 (.cells (gg (Tre.dirTake d1 s.name) dv wv (some mm)) 82)::Mk kStr vInt mm (gq d1.ab s.name)::Dat d1.aa dv d1.data::Bools wv d1.wr::Dat x.aa dv2 x.data::Bools wv2 x.wr::Nms nm2 x.ab::Trg q m f P1 S1.last S1.ak R1::pt g12 (.cells (spC t) 102)::pt g10 (.cells (spC s) 102)::pt g4 zA::L):=(fJ.out.re 5 [4,1,0,2,3]).set 5 (.int .i64 (x.ah-1));have g1:Has _ (Ndc b {x with ah:=x.ah-1} :: pt b1 (.cells (gg (Tre.dirTake d1 s.name) dv wv (some mm)) 82)::Mk kStr vInt mm (gq d1.ab s.name)::Dat d1.aa dv d1.data::Bools wv d1.wr::Trg q m f P1 S1.last S1.ak R1::pt g12 (.cells (spC t) 102)::pt g10 (.cells (spC s) 102)::pt g4 zA::L):=fG.2 ⟨dv2,wv2,nm2,zJ.out,h0.re 8 [0,5,6,7,1,2,3,4]⟩;have g2:Has _ (Ndc b1 (Tre.dirTake d1 s.name)::Ndc b {x with ah:=x.ah-1} :: Trg q m f P1 S1.last S1.ak R1::pt g12 (.cells (spC t) 102)::pt g10 (.cells (spC s) 102)::pt g4 zA::L):=fG.2 ⟨dv,wv,some mm,fun _=>⟨mm,rfl⟩,g1.re 5 [1,3,4,2,0]⟩;have g3:=Trg.push s.ae (g2.re 3 [1,2,0]);have g4:=Trg.push s.dir (g3.re 2 [1,0]);rw[←hS2];refine Trg.close (P:=P1.map (pf s.dir (Tre.dirTake d1 s.name) s.ae {x with ah:=x.ah-1})) g4 (nB o1.out Ly.out hne).symm oY ?_ rfl rfl wu.out.2;rw[o5 (by rw[gr];exact(o1.out.map Prod.fst).mem_iff.2 (by simp)) (by rw[gr];exact(o1.out.map Prod.fst).mem_iff.2 (by simp)),wu.out.1];rfl)
          have ko:=hid (gQ.out.set ⟨b,5,none⟩ (.int .i64 (x.ah-1)));have JY:=hid (show S1.bg s t=S2.add t.dir t.name s.ae from by
           have a1:S1.at_ s.dir=d1:=by unfold Tre.at_;rw[r6.out.1];rfl
           have a2:S1.at_ s.ae=x:=by unfold Tre.at_;rw[r6.out.2.1];rfl
           rw[←hS2];unfold Tre.bg;rw[a1,a2])
          have It:t.dir≠s.ae:=by
           intro e;have h2:=qv.out.2.2;rw[e,qv.out.2.1] at h2;exact No.out ⟨by rw[Option.some.inj h2];exact xi,by rw[e];exact iW _ _⟩
          obtain⟨td2,oS,GO,Ge⟩:∃ td2,fnd S2.ac t.dir=some td2∧td2.aa=2∧td2.ab.length<1000000:=by
           rw[←hS2,j7,if_neg It,j7];by_cases e:t.dir=s.dir
           ·rw[if_pos e];refine⟨_,rfl,GE,?_⟩;have h2:=r6.out.2.2;rw[e,r6.out.1] at h2;rw[←Option.some.inj h2] at yM;exact Nat.lt_of_le_of_lt (mA _ _) yM
           ·rw[if_neg e];exact⟨td1,r6.out.2.2,IC,yM⟩
          have hx2:fnd S2.ac s.ae=some {x with ah:=x.ah-1} := by rw[←hS2,j7,if_pos rfl]
          clear fJ gQ gG gH Lg wx hS2;generalize w9.setCell ⟨b,5,none⟩ (.int .i64 (x.ah-1))=w10 at *;have hc1:=gJ.out.p1.e1;have hc2:=gJ.out.p1.e2;have hc3:=gJ.out.p2.e0;go_wp2_with fail
          refine st (EA q S2 t.dir t.name s.ae td2 _ w10 (pt g4 zA::L) oS hx2 It GO htl Ge (by show 0≤x.ah-1;have:=Kp.out;omega) (by show x.ah-1<1000000;have:=hlk;omega) (gJ.out.re 4 [0,3])) (ko.out) fun CK nr nj=>?_;try dsimp only
          clear gJ ko hc1 hc2 hc3;have HRR:=hid (by rw[My.out,JY.out]:R=(eQ 0,S2.add t.dir t.name s.ae));have ye:=hid nr.out.vc;obtain⟨hz0,hz1,hz2,hz3,gP,gH,hy0,hy1,hy2,hy3,hy4,gG⟩:=Has.az (ye.out);go_wp2_with fail
          have h1:=ye.out.ans (eQ 0) eS eS;refine bodyPost_ret (eV rfl rfl h1) rfl ?_;rw[HRR.out];exact⟨rfl,h1.drop,nj.out.ans _ _ _ _ _ _ _⟩
       ·have Pv:(e3 != 0)=true:=by simpa using he3
        have HRR:=hid (by rw[←HR3.out,if_pos he3]:R=(eQ e3,S));obtain⟨hz0,hz1,hz2,hz3,gP,gH,hy0,hy1,hy2,hy3,hy4,gG⟩:=Has.az (fa.out);go_wp2_with fail
        have HC:=hid (gD (e3:Int) w5 (pt g4 zA::Trc q S::L) fa.out);have kz:=ge;exact lv
    ·have N1:(e2 != 0)=true:=by simpa using he2
     have HRR:=hid (by rw[←HR2.out,if_pos he2]:R=(eQ e2,S))
     as_aux_lemma=>exact zcW
theorem zf (q:Nat)(S:Tre)(fd n off af:Int)(ag aj:Str)(ov:Value)(w:World)(L:List HP)(rk:Int→Nat)(mx:Int)(hW:Wk S)(hY:Wy S rk)(hM:MxL mx L)(hp:ag.length≤100000)(hd:aj.length≤100000)(BB:(S.place ag).2=0→(S.place ag).1.ae≠0→mR S (S.place ag).1∧∀ x,fnd S.ac (S.place ag).1.ae=some x→1≤x.ah)(CC:(S.place aj).2=0→nN S (S.place aj).1∧(S.place aj).1.name.length≤24∧((S.place aj).1.ae≠0→mR S (S.place aj).1))(hup:∀ n x,fnd S.ac n=some x→x.above≠0→(∃ y,fnd S.ac x.above=some y)∧rk x.above<rk n)(hnm:∀ n x,fnd S.ac n=some x→∀ e∈x.ab,rk n<rk e.2∧e.1.length≤24∧∃ z,fnd S.ac e.2=some z)(hO:Has w (Trc q S::L)) :
  zCl 16 #[.pointer (some ⟨q,0,none⟩),opV ⟨15,fd,n,off,af,ag,aj⟩ (ov)] w fun e w'=>e=.returned (fL (S.rename ag aj).1 eS eS)∧Has w' (Trc q (S.rename ag aj).2::L)∧Keep w w':=by
 have HX0:=(fun(w:World)(L':List HP)(hM:MxL mx L')(hO:Has w (Trc q S::L'))=>CE q S rk ⟨15,fd,n,off,af,ag,aj⟩ ov mx w L' hW hY hM hp hd BB CC hup hnm hO)
 try dsimp only at HX0
 have HX:=hid HX0;clear HX0;have HM:=hid hM;clear hM;generalize S.rename ag aj=R at *;have HO:=hid hO;clear hO;try unfold opV opC at HX
 unfold opV opC;go_enter Tryz.func16,Tryz.ntmps16
 go_upto_region 1 with fail
 obtain⟨w1,g3,g4,ew,e4,e3,eT,ff⟩:=f9 HO.out ⟨15,fd,n,off,af,ag,aj⟩ ov;rw[ew,e4,e3];clear HO ew e4 e3;have hp0:=eT.out.p1.e0;have hp1:=eT.out.p1.e1;have hp2:=eT.out.p1.e2;have hp3:=eT.out.p1.e3;have lP:=eT.out.p1.e4;have iK:=eT.out.p1.e5;have kI:=eT.out.p1.e6;have lU:=eT.out.p1.e7;go_wp2_with fail
 refine st (HX.out w1 _ ((HM.out.cons (pt g3 (.cells #[.int .i64 15,.int .i64 fd,.int .i64 n,.int .i64 off,.int .i64 af,sV ag,sV aj,ov] 33))).cons (pt g4 (.cells #[.int .i64 0,.int .i64 0,.int .i64 0,.int .i64 0,eS,eS] 38))) (eT.out.re 3 [2,0,1])) (ff.out) fun w2 eZ fu=>?_;exact zan
theorem B9 (q:Nat)(S:Tre)(fd n off af:Int)(ag aj:Str)(ov:Value)(w:World)(L:List HP)(hO:Has w (Trc q S::L)) :
  zCl 16 #[.pointer (some ⟨q,0,none⟩),opV ⟨19,fd,n,off,af,ag,aj⟩ (ov)] w fun e w'=>e=.returned (fL (S.lasts fd) eS eS)∧Has w' (Trc q S::L)∧Keep w w':=by
 have HX0:=(fun(w:World)(L':List HP)(hO:Has w (Trc q S::L'))=>zm q S fd w L' hO)
 try dsimp only at HX0
 have HX:=hid HX0;clear HX0
 skip
 generalize S.lasts fd=R at *;have HO:=hid hO;clear hO;try unfold opV opC at HX
 unfold opV opC;go_enter Tryz.func16,Tryz.ntmps16
 go_upto_region 1 with fail
 obtain⟨w1,g3,g4,ew,e4,e3,eT,ff⟩:=f9 HO.out ⟨19,fd,n,off,af,ag,aj⟩ ov;exact zdb
theorem sE (q:Nat)(S:Tre)(fd n off af:Int)(ag aj:Str)(ov:Value)(w:World)(L:List HP)(hO:Has w (Trc q S::L)) :
  zCl 16 #[.pointer (some ⟨q,0,none⟩),opV ⟨20,fd,n,off,af,ag,aj⟩ (ov)] w fun e w'=>e=.returned (fL (S.lasts fd) eS eS)∧Has w' (Trc q S::L)∧Keep w w':=by
 have HX0:=(fun(w:World)(L':List HP)(hO:Has w (Trc q S::L'))=>zm q S fd w L' hO)
 try dsimp only at HX0
 have HX:=hid HX0;clear HX0
 skip
 generalize S.lasts fd=R at *;have HO:=hid hO;clear hO;try unfold opV opC at HX
 unfold opV opC;go_enter Tryz.func16,Tryz.ntmps16
 go_upto_region 1 with fail
 obtain⟨w1,g3,g4,ew,e4,e3,eT,ff⟩:=f9 HO.out ⟨20,fd,n,off,af,ag,aj⟩ ov;exact zdb
theorem CX (q:Nat)(S:Tre)(fd n off af:Int)(ag aj:Str)(ov:Value)(w:World)(L:List HP)(mx:Int)(hW:Wk S)(hM:MxL mx L)(hp:ag.length≤100000)(hdl:∀ n x,fnd S.ac n=some x→x.data.length≤100000∧x.ab.length≤1000000)(hO:Has w (Trc q S::L)) :
  zCl 16 #[.pointer (some ⟨q,0,none⟩),opV ⟨17,fd,n,off,af,ag,aj⟩ (ov)] w fun e w'=>e=.returned (fL (S.stat ag false) eS eS)∧Has w' (Trc q S::L)∧Keep w w':=by
 have HX0:∀ (w:World) (L':List HP),MxL mx L'→Has w (Trc q S::L')→zCl 60 #[.pointer (some ⟨q,0,none⟩),opV ⟨17,fd,n,off,af,ag,aj⟩ ov] w (fun e w'=>e=.returned (fL (S.stat ag false) eS eS)∧Has w' (Trc q S::L')∧Keep w w'):=fun w L' hM hO=>DS q S ⟨17,fd,n,off,af,ag,aj⟩ ov mx w L' (.inr rfl) hW hM hp hdl hO;have HX:=hid HX0;clear HX0;have HM:=hid hM;clear hM;generalize S.stat ag false=R at *;have HO:=hid hO;clear hO;try unfold opV opC at HX
 unfold opV opC;go_enter Tryz.func16,Tryz.ntmps16
 go_upto_region 1 with fail
 obtain⟨w1,g3,g4,ew,e4,e3,eT,ff⟩:=f9 HO.out ⟨17,fd,n,off,af,ag,aj⟩ ov;rw[ew,e4,e3];clear HO ew e4 e3;have hp0:=eT.out.p1.e0;have hp1:=eT.out.p1.e1;have hp2:=eT.out.p1.e2;have hp3:=eT.out.p1.e3;have lP:=eT.out.p1.e4;have iK:=eT.out.p1.e5;have kI:=eT.out.p1.e6;have lU:=eT.out.p1.e7;go_wp2_with fail
 refine st (HX.out w1 _ ((HM.out.cons (pt g3 (.cells #[.int .i64 17,.int .i64 fd,.int .i64 n,.int .i64 off,.int .i64 af,sV ag,sV aj,ov] 33))).cons (pt g4 (.cells #[.int .i64 0,.int .i64 0,.int .i64 0,.int .i64 0,eS,eS] 38))) (eT.out.re 3 [2,0,1])) (ff.out) fun w2 eZ fu=>?_;exact zcE
end Go.Proofs.YtmgpgbfgemebbaaGreatDoor
