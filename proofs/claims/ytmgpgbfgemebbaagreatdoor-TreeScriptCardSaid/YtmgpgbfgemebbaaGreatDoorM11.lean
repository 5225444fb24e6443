/- TEXTS of mine, merged. -/
import Derived.Test.YtmgpgbfgemebbaaGreatDoorM0
import Derived.Test.YtmgpgbfgemebbaaGreatDoorM8
import Derived.Test.YtmgpgbfgemebbaaGreatDoorM7
import Derived.Test.YtmgpgbfgemebbaaGreatDoorM10
import Derived.Test.YtmgpgbfgemebbaaGreatDoorM6
set_option linter.all false
set_option maxRecDepth 100000
set_option maxHeartbeats 16000000
namespace Go.Proofs.YtmgpgbfgemebbaaGreatDoor
open Go.RowKit Go.Own
def uc:Option Value→Nat
 | some v=>lH v
 | none=>0
theorem AH (q:Nat)(S:Tre)(o:Opm)(po:Option Addr)(co:Nat)(w:World)(L:List HP)(ds:List Int)(hk:o.aa=4∨o.aa=6)(hop:Opn S)(ho:o.off≤9223372036854775807)(hds:ds.length≤100000)(hrd:∀ w',Has w' L→Rd w' (.slice po ds.length co) 1 ds.length (bc ds))(hO:Has w (Trc q S::L)) :
  zCl 50 #[.pointer (some ⟨q,0,none⟩),opV o (.slice po ds.length co)] w fun e w'=>∃ dv,e=.returned (fL (S.write o.aa o.fd o.off ds).1 dv eS)∧Has w' (Bytes dv (S.write o.aa o.fd o.off ds).1.data::Trc q (S.write o.aa o.fd o.off ds).2::L)∧Keep w w':=by
 obtain⟨m,f,P,hJ,h⟩:=eY.1 hO;have HF:=hid (fun(w:World)(L':List HP)(hO:Has w (Trb q m f P S.last S.ak::L'))=>vv q m f P S o.fd true w L' (fun s hs=>hop.there _ s hs) hJ hO);have Bh:=hid (hop.file o.fd true);have E4:=hid (hop.dF o.fd true);generalize hR:S.write o.aa o.fd o.off ds=R;unfold Tre.write at hR;generalize S.file o.fd true=g at *;obtain⟨s,eg⟩:=g;dsimp only at *;have HR:=hid hR;have fW:=hid hJ;have pI:=hid hop.data;have Fy:=hid hop.wr;have ir:=hid hrd;clear hrd;have HO:=hid h;clear hO hR h hop hJ;unfold opV opC;go_enter Tryz.func50,Tryz.ntmps50
 go_upto_region 1 with fail
 have h1:=(HO.out.alloc (.cells (opC o (.slice po ds.length co)) 33)).alloc zA;have ff:=hid (((Keep.refl w).alloc (.cells (opC o (.slice po ds.length co)) 33)).alloc zA);unfold opC zA ji eQ at h1 ff;have e1:(w.alloc (.cells #[.int .i64 o.aa,.int .i64 o.fd,.int .i64 o.n,.int .i64 o.off,.int .i64 o.af,sV o.ag,sV o.aj,.slice po ds.length co] 33)).heap.size=w.heap.size+1:=by show (Array.push _ _).size=_;rw[Array.size_push]
 rw[e1] at h1;have eT:=hid h1;clear h1 e1 HO;generalize (w.alloc (.cells #[.int .i64 o.aa,.int .i64 o.fd,.int .i64 o.n,.int .i64 o.off,.int .i64 o.af,sV o.ag,sV o.aj,.slice po ds.length co] 33)).alloc (.cells #[.int .i64 0,.int .i64 0,.int .i64 0,.int .i64 0,eS,eS] 38)=w1 at *;generalize w.heap.size=g3 at *;generalize (Value.agg #[.int .i64 o.aa,.int .i64 o.fd,.int .i64 o.n,.int .i64 o.off,.int .i64 o.af,sV o.ag,sV o.aj,.slice po ds.length co])=av at *;generalize g3+1=g4 at *;have hp1:=eT.out.p1.e1;go_cut [5,6,7] (fun p5 p6 e7 wx=>∃ (w3:World) (g5:Nat) (pv:Value),w3=wx∧e7=.int .i64 eg∧p5=.pointer (some ⟨g5,0,none⟩)∧p6=pv∧(eg=0→∃ b x,(s.ae,b,x)∈P∧fnd S.ac s.ae=some x∧x.aa≠2∧pv=.pointer (some ⟨b,0,none⟩))∧Hid (Has w3 (Trb q m f P S.last S.ak::pt g5 (.cells (ib s) 122)::pt g4 zA::pt g3 (.cells (opC o (.slice po ds.length co)) 33)::L))∧Hid (Keep w w3))
 case first =>
  as_aux_lemma=>exact zaE
 case rest =>
  obtain⟨w3,g5,pv,rfl,rfl,rfl,rfl,hpv,eW,fH⟩:=hcut;clear eT ff hp1 HF;have fa:=hid eW.out.va;obtain⟨hz0,hz1,hz2,hz3,gP,gH,hy0,hy1,hy2,hy3,hy4,gG⟩:=Has.az (fa.out);have hp0:=eW.out.p3.e0;have hp1:=eW.out.p3.e1;have hp2:=eW.out.p3.e2;have hp3:=eW.out.p3.e3;have hf1:=eW.out.p1.e1;by_cases he:eg=0
  ·subst he;obtain⟨b,x,hb,hx,hxk,rfl⟩:=hpv rfl;have ti:=hid (Bh.out rfl);have hat:S.at_ s.ae=x:=by unfold Tre.at_;rw[hx];rfl
   have Ca:=hid (show x.aa≠3 by have h:=E4.out rfl;rw[hat] at h;exact h);have wm:=hid (pI.out _ _ hx);replace HR:=hid ((if_neg (fun h=>h rfl)).symm.trans HR.out);rw[hat] at HR;have Ju:=hid (Fy.out _ _ hx);have hf2:=eW.out.p1.e2;have lU:=eW.out.p3.e7;by_cases hbad:o.aa=6∧o.off<0
   ·have HRR:=hid (by rw[←HR.out,if_pos hbad]:R=(eQ 2,S));obtain⟨hbk,M3⟩:=hbad;rw[hbk] at hp0
    as_aux_lemma=>exact zav
   replace HR:=hid ((if_neg hbad).symm.trans HR.out);obtain⟨O,kk⟩:∃ O:Nat,(if o.aa=6 then o.off else if fc s.af 8≠0 then(x.data.length:Int) else s.off)=(O:Int):=by
    have h1:=ti.out;refine⟨(if o.aa=6 then o.off else if fc s.af 8≠0 then(x.data.length:Int) else s.off).toNat,?_⟩;by_cases hk6:o.aa=6
    ·rw[if_pos hk6];have:¬ o.off<0:=fun h=>hbad ⟨hk6,h⟩;omega
    ·rw[if_neg hk6];by_cases hfl:fc s.af 8≠0
     ·rw[if_pos hfl];omega
     ·rw[if_neg hfl];omega
   have mU:(O:Int)≤9223372036854775807:=by
    have h1:=ti.out;have h2:=wm.out;rw[←kk];by_cases hk6:o.aa=6
    ·rw[if_pos hk6];exact ho
    ·rw[if_neg hk6];by_cases hfl:fc s.af 8≠0
     ·rw[if_pos hfl];omega
     ·rw[if_neg hfl];omega
   rw[kk] at HR;obtain⟨A,B,dv,wv,nm,kj,hnm,km⟩:=Trb.take eW.out hb;have nZ:=hid kj;have lg:=hid hnm;have HP:=hid km;have lm:=km.e1;obtain⟨pd,cd,rfl,hcap,-⟩:=(Dat.rd km.p1).form;have Hq:(0:Int)≤(O:Int):=by omega
   have hd0:(0:Int)≤(ds.length:Int):=by omega
   have hd9:(ds.length:Int)≤100000:=by omega
   clear kj hnm km;have HB:=hid hbad;go_upto_region 4 with fail
   go_cut [24] (fun a wx=>wx=w3∧a=.bool false)
   case first =>
    rcases hk with hk|hk
    ·rw[hk] at hp0
     as_aux_lemma=>exact zaH
    ·rw[hk] at hp0;have M3:¬ o.off<0:=fun h=>hbad ⟨hk,h⟩
     as_aux_lemma=>exact zaH
   case rest =>
   obtain⟨hwx,rfl⟩:=hcut;have jK:=hwx.symm;subst jK;go_upto_block 1 with fail
   go_cut [8] (fun a wx=>wx=w3∧a=.int .i64 (O:Int))
   case first =>
    rcases hk with hk|hk
    ·rw[hk] at hp0 kk;rw[if_neg (by decide)] at kk;by_cases hfl:fc s.af 8≠0
     ·rw[if_pos hfl] at kk;have hfb:(bits BinOp.and IntKind.i64 s.af 8 != 0)=true:=by simpa[fc] using hfl
      as_aux_lemma=>exact zaH
     ·rw[if_neg hfl] at kk;have hfb:(bits BinOp.and IntKind.i64 s.af 8 != 0)=false:=by simpa[fc] using hfl
      as_aux_lemma=>exact zaH
    ·rw[hk] at hp0 kk;rw[if_pos rfl] at kk
     as_aux_lemma=>exact zaH
   case rest =>
    obtain⟨hwx,rfl⟩:=hcut;have jK:=hwx.symm;subst jK;have Qh:=hid hcap;have hmin:((min ds.length 20736:Nat):Int)=min (ds.length:Int) 20736:=by omega
    by_cases hb1:(O:Int)>20736-min (ds.length:Int) 20736
    ·have HRR:=hid (by rw[←HR.out,if_pos (.inl (by rw[hmin];exact hb1))]:R=(eQ 15,S))
     as_aux_lemma=>exact zcR
    by_cases hb2:(20736:Int)<(ds.length:Int)
    ·have HRR:=hid (by rw[←HR.out,if_pos (.inr (by omega))]:R=(eQ 15,S))
     as_aux_lemma=>exact zcR
    replace HR:=hid ((if_neg (by rintro(h|h);exact hb1 (by rw[hmin] at h;exact h);exact hb2 (by omega))).symm.trans HR.out);by_cases hz:ds.length=0
    ·have HRR:=hid (by rw[←HR.out,if_pos hz]:R=(eQ 0,S));have hzi:(ds.length:Int)=0:=by omega
     go_wp2_with fail
     have h1:=(show Has w3 (pt g4 zA::Trb q m f P S.last S.ak::L) from fa.out).ans (eQ 0) eS eS;refine bodyPost_ret (eV rfl rfl h1) rfl ?_;rw[HRR.out];exact⟨_,rfl,(eY.2 ⟨m,f,P,fW.out,h1.drop⟩:Has _ (Trc q S::L)).al 5 1,fH.out.ans _ _ _ _ _ _ _⟩
    have HE:=hid (show R=((⟨0,ds.length,0,0,[],[]⟩:Ans),if o.aa=4 then {S.au s.ae (fE x O ds) with ak:=(Tb.aM S.ak o.fd ((O:Int)+ds.length)).2} else S.au s.ae (fE x O ds)) from by
     rw[←HR.out,if_neg hz,Int.toNat_natCast];rfl)
    have hzi:¬ (ds.length:Int)=0:=by omega
    have i8:=hid (by omega:O+ds.length≤20736∧0<ds.length);have hf0:w3.drew.cell? ⟨g5,0,none⟩=some (.int .i64 s.ae):=eW.out.drew.p1.cells 0;have Dx:w3.drew.cell? ⟨b,1,none⟩=some (.slice pd x.data.length cd):=lm;go_upto_region 16 with fail
    rw[show (O:Int)+(ds.length:Int)=((O+ds.length:Nat):Int) from by omega] at HE ⊢;generalize hEe:O+ds.length=E at *;have Bj:=hid hEe;refine fT (fun w'=>w'.cell? ⟨b,1,none⟩=some (.slice pd x.data.length cd)∧w'.cell? ⟨g5,0,none⟩=some (.int .i64 s.ae)) (by kernel_rfl) (by kernel_rfl) (by kernel_rfl) (by decide) ⟨Dx,hf0⟩ ?_;repeat (first|refine wr2 ?_|refine wk ?_)
    rw[show max (x.data.length:Int) (E:Int)=((max x.data.length E:Nat):Int) from by omega];refine eR ?_;refine gI rfl (by rfl) ?_;go_simp
    have DQ:=hid (by rw[←nZ.out];exact eW.out.drew:Has w3.drew (Trb q m f (A++(s.ae,b,x)::B) S.last S.ak::pt g5 (.cells (ib s) 122)::pt g4 zA::pt g3 (.cells (opC o (.slice po ds.length co)) 33)::L));refine(rs q m f A B s.ae b x S.last S.ak (max x.data.length E) _ _ wm.out (by have:=wm.out;have:=i8.out;omega) Ju.out Ca.out DQ.out).mono ?_;rintro e w5 ⟨rfl,kk,hK5⟩;have fi:=hid kk;have ge:=hid (fH.out.drew.trans hK5);have pP:=hid (Trb.nodup DQ.out);clear kk hK5 DQ hf0 Dx lm HP lg eW fH fa hz0 hz1 hz2 hz3 gP gH hy0 hy1 hy2 hy3 hy4 gG hp0 hp1 hp2 hp3 lU hf1 hf2 hb1 hb2 hbad hat;have FH:=hid (show (fw x (max x.data.length E)).data.length=max x.data.length E from by
     unfold fw;split
     ·simp;omega
     ·simp;omega)
    have NH:=hid (by unfold fw;split <;> rfl:(fw x (max x.data.length E)).aa=x.aa);have PX:=hid (show (fw x (max x.data.length E)).wr.length≤100000 from by
     have:=Ju.out;unfold fw;split
     ·simp;omega
     ·exact this)
    have wA:=hid (by unfold fE;rw[Bj.out]:fE x O ds={fw x (max x.data.length E) with data:=(fw x (max x.data.length E)).data.take O++ds++(fw x (max x.data.length E)).data.drop E,wr:=iJ ((fw x (max x.data.length E)).wr++List.replicate (fk E-(fw x (max x.data.length E)).wr.length) false) (O / 128) (fk E)});generalize fw x (max x.data.length E)=y at *;obtain⟨dv1,wv1,nm1,Dk,CU⟩:=fG.1 (Trg.bL (Trg.of fi.out));have HV:y.aa≠3:=by rw[NH.out];exact Ca.out
    rw[nt HV] at CU;have OD:=hid Dk;try dsimp only
    obtain⟨-,hrc⟩:=CU.p1.ao;obtain⟨g1,cap1,cur1,rfl,hn1,-⟩:=hrc.resolve_left (by rintro⟨-,h,-⟩;have:=FH.out;have:=i8.out;omega);have r7:=hid CU;have lm:w5.drew.cell? ⟨b,1,none⟩=some (.slice (some ⟨g1,0,none⟩) y.data.length cap1):=r7.out.drew.cells 1;have lU:w5.drew.cell? ⟨g3,7,none⟩=some (.slice po ds.length co):=fi.out.drew.p3.cells 7;clear CU Dk hrc;have KV:(O:Int)≤(y.data.length:Int):=by have:=FH.out;have:=Bj.out;omega
    have J6:(y.data.length:Int)≤(cap1:Int):=by omega
    have L1:¬ cap1=O:=by have:=FH.out;have:=Bj.out;have:=i8.out;omega
    have LZ:(O:Int)≤(cap1:Int):=by omega
    go_upto_region 17 with fail
    refine fT (fun w'=>w'.cell? ⟨b,1,none⟩=some (.slice (some ⟨g1,0,none⟩) y.data.length cap1)∧w'.cell? ⟨g3,7,none⟩=some (.slice po ds.length co)) (by kernel_rfl) (by kernel_rfl) (by kernel_rfl) (by decide) ⟨lm,lU⟩ ?_;repeat (first|refine wr2 ?_|refine wk ?_)
    refine eR ?_;refine gI rfl (by rfl) ?_;have Nr:=hid (r7.out.drew.re 8 []);have hmn:min ds.length (y.data.length-O)=ds.length:=by have:=FH.out;have:=Bj.out;omega
    refine uO _ _ 31 31 rfl Tryz.underlying31 (by kernel_rfl) (r7.out.drew.re 2 [1,0]) (y.data.length-O) (cap1-O) co po (by rfl) rfl (ir.out _ Nr.out) (kA ds) (by rw[hmn];have:=FH.out;have:=Bj.out;omega) ?_;intro w6 h6 k6;rw[hmn] at h6;have fq:=hid (show Has w6 (pt b (.cells (gg y (.slice (some ⟨g1,0,none⟩) y.data.length cap1) wv1 nm1) 82)::Bytes (.slice (some ⟨g1,0,none⟩) y.data.length cap1) (y.data.take O++ds++y.data.drop E)::Bools wv1 y.wr::Nms nm1 y.ab::Trg q m f (A++(s.ae,b,y)::B) S.last S.ak (A++B)::pt g5 (.cells (ib s) 122)::pt g4 zA::pt g3 (.cells (opC o (.slice po ds.length co)) 33)::L) from by
     have h7:Has w6 (Bytes (.slice (some ⟨g1,0,none⟩) y.data.length cap1) (y.data.take O++ds++y.data.drop E)::pt b (.cells (gg y (.slice (some ⟨g1,0,none⟩) y.data.length cap1) wv1 nm1) 82)::Bools wv1 y.wr::Nms nm1 y.ab::Trg q m f (A++(s.ae,b,y)::B) S.last S.ak (A++B)::pt g5 (.cells (ib s) 122)::pt g4 zA::pt g3 (.cells (opC o (.slice po ds.length co)) 33)::L):=by
      unfold Bytes;have e1:(y.data.take O++ds++y.data.drop E).length=y.data.length:=by
       have:=FH.out;have:=Bj.out;simp;omega
      have e2:bc (y.data.take O++ds++y.data.drop E)=(bc y.data).take O++(bc ds).take ds.length++(bc y.data).drop (O+ds.length):=by
       unfold bc;rw[←Bj.out,List.map_append,List.map_append,List.map_take,List.map_drop,List.take_of_length_le (l:=ds.map _) (by simp)]
      rw[e1,e2];exact h6
     exact h7.re 2 [1,0])
    have gu:=hid (ge.out.drew.trans k6);have KM:=hid (by have h1:=Bj.out;have h2:=i8.out;unfold fk;split <;> omega:fk E≤200);have NB:=hid (by have h1:=Bj.out;have h2:=i8.out;omega:E≤20736);clear h6 k6 r7 fi ge lm lU KV J6 L1 LZ hmn Nr;obtain⟨pw,cw,rfl,-⟩:=(Bools.rd fq.out.p2).form;generalize y.data.length=dl at *;go_wp2_with fail
    go_loopw [] (fun w'=>∃ (ws:List Bool) (p:Option Addr) (c:Nat),ws.length≤200000∧Hid (ws++List.replicate (fk E-ws.length) false=y.wr++List.replicate (fk E-y.wr.length) false)∧Hid (Has w' (pt b (.cells (gg y (.slice (some ⟨g1,0,none⟩) dl cap1) (.slice p ws.length c) nm1) 82)::Bytes (.slice (some ⟨g1,0,none⟩) dl cap1) (y.data.take O++ds++y.data.drop E)::Bools (.slice p ws.length c) ws::Nms nm1 y.ab::Trg q m f (A++(s.ae,b,y)::B) S.last S.ak (A++B)::pt g5 (.cells (ib s) 122)::pt g4 zA::pt g3 (.cells (opC o (.slice po ds.length co)) 33)::L))∧Hid (Keep w w')) (fun w'=>fk E-uc (w'.cell? ⟨b,2,none⟩))
    case atStart=>exact⟨y.wr,pw,cw,by have:=PX.out;omega,hid rfl,fq,gu⟩
    case round =>
     clear fq gu;obtain⟨ws,p,c,NX,K1,fq,gu⟩:=hrel;have hcw:=fq.out.e2;have Ip:=hid hcw;have gC:=hid fq.out.drew;have iG:=hid gu.out.drew;go_upto_region 18 with fail
     refine eP (fun w'=>w'.cell? ⟨b,2,none⟩=some (.slice p ws.length c)∧True) (by kernel_rfl) (by kernel_rfl) ⟨gC.out.cells 2,trivial⟩ ?_;repeat (first|refine wr2 ?_|refine wk ?_)
     refine wa fun K hK=>?_;go_simp
     refine(AY E _ (by have:=NB.out;omega)).mono ?_;rintro e w' ⟨rfl,rfl⟩;try dsimp only
     refine hK.out _ _ ⟨gC.out.cells 2,trivial⟩ ?_;clear hK K;try simp only[Act.put,zpu]
     repeat (first|refine wr2 ?_|refine wk ?_)
     refine eR ?_;clear hcw fq gu;generalize wr.drew=w7 at *;by_cases hlt:(ws.length:Int)<(fk E:Int)
     ·have hcw:=gC.out.e2;have fa:=hid (show Has (w7.alloc (.cells #[.bool false] 4)) (Bools (.slice p ws.length c) ws::pt w7.heap.size (.cells #[.bool false] 4)::pt b (.cells (gg y (.slice (some ⟨g1,0,none⟩) dl cap1) (.slice p ws.length c) nm1) 82)::Bytes (.slice (some ⟨g1,0,none⟩) dl cap1) (y.data.take O++ds++y.data.drop E)::Nms nm1 y.ab::Trg q m f (A++(s.ae,b,y)::B) S.last S.ak (A++B)::pt g5 (.cells (ib s) 122)::pt g4 zA::pt g3 (.cells (opC o (.slice po ds.length co)) 33)::L) from(gC.out.alloc (.cells #[.bool false] 4)).re 9 [3,0,1,2,4,5,6,7,8]);have hcx:=fa.out.p1.cells 0;have jk:=hid (iG.out.alloc (.cells #[.bool false] 4));clear gC iG;go_wp2_with (at_builtin;refine fS rfl _ _ _ rfl Tryz.underlying80 pg rfl (.bool false) fa.out rfl 1 w7.heap.size rfl hcx rfl (eU (by omega)) (by omega) ?_;intro v8 w8 h8 k8;have hcb2:=h8.p2.cells 2;have K3:=h8.p2.thaw 2;obtain⟨p8,c8,rfl,-⟩:=(Has.rd h8).form)
      have e9:(ws ++ [false]).length=ws.length+1:=by simp
      have fJ:=hid (show Has (w8.setCell ⟨b,2,none⟩ (.slice p8 (ws.length+1) c8)) (pt b (.cells (gg y (.slice (some ⟨g1,0,none⟩) dl cap1) (.slice p8 (ws.length+1) c8) nm1) 82)::Bytes (.slice (some ⟨g1,0,none⟩) dl cap1) (y.data.take O++ds++y.data.drop E)::Bools (.slice p8 (ws.length+1) c8) (ws ++ [false])::Nms nm1 y.ab::Trg q m f (A++(s.ae,b,y)::B) S.last S.ak (A++B)::pt g5 (.cells (ib s) 122)::pt g4 zA::pt g3 (.cells (opC o (.slice po ds.length co)) 33)::L) from by
       have h9:Has w8 (Bools (.slice p8 (ws.length+1) c8) (ws ++ [false])::pt w7.heap.size (.cells #[.bool false] 4)::pt b (.cells (gg y (.slice (some ⟨g1,0,none⟩) dl cap1) (.slice p ws.length c) nm1) 82)::Bytes (.slice (some ⟨g1,0,none⟩) dl cap1) (y.data.take O++ds++y.data.drop E)::Nms nm1 y.ab::Trg q m f (A++(s.ae,b,y)::B) S.last S.ak (A++B)::pt g5 (.cells (ib s) 122)::pt g4 zA::pt g3 (.cells (opC o (.slice po ds.length co)) 33)::L):=by
        unfold Bools;rw[e9,List.map_append];exact h8
       exact(show Has w8 (pt b (.cells (gg y (.slice (some ⟨g1,0,none⟩) dl cap1) (.slice p ws.length c) nm1) 82)::_) from h9.re 9 [2,3,0,4,5,6,7,8]).set 2 (.slice p8 (ws.length+1) c8))
      have gQ:=hid ((jk.out.trans k8).set ⟨b,2,none⟩ (.slice p8 (ws.length+1) c8));have KW:=hid (show (ws ++ [false])++List.replicate (fk E-(ws ++ [false]).length) false=y.wr++List.replicate (fk E-y.wr.length) false from by
       rw[←K1.out,e9,List.append_assoc];congr 1;rw[show fk E-ws.length=(fk E-(ws.length+1))+1 from by omega,List.replicate_succ];rfl)
      have OX:uc ((w8.setCell ⟨b,2,none⟩ (.slice p8 (ws.length+1) c8)).cell? ⟨b,2,none⟩)=ws.length+1:=by
       rw[show (w8.setCell ⟨b,2,none⟩ (.slice p8 (ws.length+1) c8)).cell? ⟨b,2,none⟩=some (.slice p8 (ws.length+1) c8) from fJ.out.cells 2];rfl
      have O1:uc (wr.cell? ⟨b,2,none⟩)=ws.length:=by rw[Ip.out];rfl
      clear h8 k8 fa jk hcx hcw;refine⟨⟨ws ++ [false],p8,c8,by simp;have:=KM.out;omega,KW,by rw[e9];exact fJ,gQ⟩,by rw[OX,O1];omega⟩
     ·have Nq:ws=y.wr++List.replicate (fk E-y.wr.length) false:=by
       have:=K1.out;rw[show fk E-ws.length=0 from by omega] at this;simpa using this
      have hwE:fk E≤ws.length:=by omega
      rw[←Nq] at wA;clear K1 Ip Nq;have hq0:(0:Int)≤((O / 128:Nat):Int):=by omega
      have OZ:=hid (show O / 128≤fk E from by
       have h1:=Bj.out;have h2:=i8.out;unfold fk;split <;> omega)
      go_wp2_with fail
      go_loopw [10] (fun k w'=>∃ kn:Nat,k=.int .i64 (kn:Int)∧O / 128≤kn∧kn≤fk E∧Hid (Has w' (pt b (.cells (gg y (.slice (some ⟨g1,0,none⟩) dl cap1) (.slice p ws.length c) nm1) 82)::Bytes (.slice (some ⟨g1,0,none⟩) dl cap1) (y.data.take O++ds++y.data.drop E)::Bools (.slice p ws.length c) (iJ ws (O / 128) kn)::Nms nm1 y.ab::Trg q m f (A++(s.ae,b,y)::B) S.last S.ak (A++B)::pt g5 (.cells (ib s) 122)::pt g4 zA::pt g3 (.cells (opC o (.slice po ds.length co)) 33)::L))∧Hid (Keep w w')) (fun k _=>fk E-(intOf k).toNat)
      case atStart=>exact⟨O / 128,by go_num,Nat.le_refl _,OZ.out,by rw[pE];exact gC,iG⟩
      case round =>
       clear gC iG;obtain⟨kn,rfl,hk1,hk2,fJ,gQ⟩:=hrel;have OV:(0:Int)≤(kn:Int):=by omega
       go_wp2_with fail
       refine(AY E _ (by have:=NB.out;omega)).mono ?_;rintro e w' ⟨rfl,rfl⟩;try dsimp only
       by_cases hlt2:(kn:Int)<(fk E:Int)
       ·have hkl:kn<ws.length:=by omega
        have OC:(kn:Int)<(ws.length:Int):=by omega
        have hwl:=im ws (O / 128) kn;have h0:=fJ.out.p2;obtain⟨-,hrc⟩:=h0.ao;obtain⟨gw,cpw,curw,hpe,-⟩:=hrc.resolve_left (by rintro⟨-,h,-⟩;rw[hwl] at h;omega);simp only[Value.slice.injEq] at hpe;obtain⟨rfl,-,rfl⟩:=hpe;have hcw:=fJ.out.e2;obtain⟨-,hcs,hfz,-⟩:=h0.aE;have Bo:∃ bv:Bool,wr.cell? ⟨gw,kn,none⟩=some (.bool bv):=by
         rw[hcs kn (by rw[hwl];omega),List.getElem?_map,List.getElem?_eq_getElem (by rw[hwl];exact hkl)];exact⟨_,rfl⟩
        obtain⟨bv,Bo⟩:=Bo;have hfk:=hfz kn;have gJ:=hid (show Has (wr.setCell ⟨gw,kn,none⟩ (.bool true)) (pt b (.cells (gg y (.slice (some ⟨g1,0,none⟩) dl cap1) (.slice (some ⟨gw,0,none⟩) ws.length c) nm1) 82)::Bytes (.slice (some ⟨g1,0,none⟩) dl cap1) (y.data.take O++ds++y.data.drop E)::Bools (.slice (some ⟨gw,0,none⟩) ws.length c) (iJ ws (O / 128) (kn+1))::Nms nm1 y.ab::Trg q m f (A++(s.ae,b,y)::B) S.last S.ak (A++B)::pt g5 (.cells (ib s) 122)::pt g4 zA::pt g3 (.cells (opC o (.slice po ds.length co)) 33)::L) from by
         have h1:=(show Has wr (row (.slice (some ⟨gw,0,none⟩) ws.length c) 4 1 (iJ ws (O / 128) kn).length ((iJ ws (O / 128) kn).map Value.bool)::_) from fJ.out.re 8 [2,0,1,3,4,5,6,7]).aJ kn (by rw[hwl];omega) (.bool true);rw[←List.map_set,←mi ws (O / 128) kn hk1 hkl,hwl] at h1;have h2:Has (wr.setCell ⟨gw,kn,none⟩ (.bool true)) (Bools (.slice (some ⟨gw,0,none⟩) ws.length c) (iJ ws (O / 128) (kn+1))::pt b (.cells (gg y (.slice (some ⟨g1,0,none⟩) dl cap1) (.slice (some ⟨gw,0,none⟩) ws.length c) nm1) 82)::Bytes (.slice (some ⟨g1,0,none⟩) dl cap1) (y.data.take O++ds++y.data.drop E)::Nms nm1 y.ab::Trg q m f (A++(s.ae,b,y)::B) S.last S.ak (A++B)::pt g5 (.cells (ib s) 122)::pt g4 zA::pt g3 (.cells (opC o (.slice po ds.length co)) 33)::L):=by
          unfold Bools;rw[im];exact h1
         exact h2.re 8 [1,2,0,3,4,5,6,7])
        clear h0 hrc hcs hfz hwl;go_wp2_with fail
        exact⟨⟨kn+1,by go_num,by omega,by omega,gJ,hid (gQ.out.set _ _)⟩,by simp[intOf];omega⟩
       ·obtain rfl:kn=fk E:=by omega
        have I4:=hid (show Has wr (Trb q m f (A++(s.ae,b,fE x O ds)::B) S.last S.ak::pt g5 (.cells (ib s) 122)::pt g4 zA::pt g3 (.cells (opC o (.slice po ds.length co)) 33)::L) from by
         rw[wA.out];exact Trb.cW (P:=A++(s.ae,b,y)::B) (x:=y) HV rfl (fun h=>absurd (NH.out.symm.trans h) hxk) fJ.out)
        clear fJ;have hp0:=I4.out.p3.e0;rcases hk with hk|hk
        ·rw[hk] at hp0 HE;have wN:=hid (show Has wr.drew (Tab f S.ak::Trt q m f (A++(s.ae,b,fE x O ds)::B) S.last::pt g5 (.cells (ib s) 122)::pt g4 zA::pt g3 (.cells (opC o (.slice po ds.length co)) 33)::L) from Trb.ak.1 I4.out.drew);have hq2:=(Trb.cells I4.out.drew).2.2;have hr1:wr.drew.cell? ⟨g3,1,none⟩=some (.int .i64 o.fd):=I4.out.drew.p3.cells 1;go_upto_region 25 with fail
         refine eP (fun w'=>w'.cell? ⟨q,2,none⟩=some (.pointer (some ⟨f,0,none⟩))∧w'.cell? ⟨g3,1,none⟩=some (.int .i64 o.fd)) (by kernel_rfl) (by kernel_rfl) ⟨hq2,hr1⟩ ?_;repeat (first|refine wr2 ?_|refine wk ?_)
         refine wa fun K hK=>?_;go_simp
         refine st (mO f S.ak o.fd (E:Int) _ _ fW.out.2 wN.out) (gQ.out.drew) fun FP mB qn=>?_;try dsimp only
         refine hK.out _ _ (⟨(Trb.cells (Trb.ak.2 mB.out)).2.2,mB.out.p4.cells 1⟩) ?_;clear hK K;try simp only[Act.put,zpu]
         refine eR ?_;have j5:=hid (Trb.ak.2 mB.out).vk;obtain⟨hz0,hz1,hz2,hz3,gP,gH,hy0,hy1,hy2,hy3,hy4,gG⟩:=Has.az (j5.out);have lU:=j5.out.p1.e7;go_wp2_with fail
         have h1:=j5.out.ans ⟨0,ds.length,0,0,[],[]⟩ eS eS;refine bodyPost_ret (eV rfl rfl h1) rfl ?_;rw[HE.out];refine⟨_,rfl,(show Has _ (Trc q ((if (4:Int)=4 then {S.au s.ae (fE x O ds) with ak:=(Tb.aM S.ak o.fd (E:Int)).2} else S.au s.ae (fE x O ds):Tre))::L) from ?_).al 5 1,qn.out.ans _ _ _ _ _ _ _⟩;refine eY.2 ⟨m,f,_,⟨?_,Tb.mov_len _ _ _ fW.out.2⟩,h1.drop.drop⟩;rw[mw pP.out,←nZ.out,fW.out.1];rfl
        ·rw[hk] at hp0 HE;have j5:=hid I4.out.vk;obtain⟨hz0,hz1,hz2,hz3,gP,gH,hy0,hy1,hy2,hy3,hy4,gG⟩:=Has.az (j5.out);have lU:=j5.out.p1.e7;go_wp2_with fail
         have h1:=j5.out.ans ⟨0,ds.length,0,0,[],[]⟩ eS eS;refine bodyPost_ret (eV rfl rfl h1) rfl ?_;rw[HE.out];refine⟨_,rfl,(show Has _ (Trc q ((if (6:Int)=4 then {S.au s.ae (fE x O ds) with ak:=(Tb.aM S.ak o.fd (E:Int)).2} else S.au s.ae (fE x O ds):Tre))::L) from ?_).al 5 1,gQ.out.ans _ _ _ _ _ _ _⟩;refine eY.2 ⟨m,f,_,⟨?_,fW.out.2⟩,h1.drop.drop⟩;rw[mw pP.out,←nZ.out,fW.out.1];rfl
  ·as_aux_lemma=>exact zaW
theorem EQ (q:Nat)(S:Tre)(o:Opm)(ov:Value)(w:World)(L:List HP)(hop:Opn S)(hO:Has w (Trc q S::L)) :
  zCl 52 #[.pointer (some ⟨q,0,none⟩),opV o ov] w fun e w'=>∃ dv,e=.returned (fL (S.trunc o.fd o.off).1 dv eS)∧Has w' (Bytes dv (S.trunc o.fd o.off).1.data::Trc q (S.trunc o.fd o.off).2::L)∧Keep w w':=by
 obtain⟨m,f,P,hJ,h⟩:=eY.1 hO;have HF:=hid (fun(w:World)(L':List HP)(hO:Has w (Trb q m f P S.last S.ak::L'))=>vv q m f P S o.fd true w L' (fun s hs=>hop.there _ s hs) hJ hO);have Bh:=hid (hop.file o.fd true);have E4:=hid (hop.dF o.fd true);generalize hR:S.trunc o.fd o.off=R;unfold Tre.trunc at hR;generalize S.file o.fd true=g at *;obtain⟨s,eg⟩:=g;dsimp only at *;have HR:=hid hR;have fW:=hid hJ;have pI:=hid hop.data;have Fy:=hid hop.wr;have HO:=hid h;clear hO hR h hop hJ;unfold opV opC;go_enter Tryz.func52,Tryz.ntmps52
 go_upto_region 1 with fail
 obtain⟨w1,g3,g4,ew,e4,e3,eT,ff⟩:=f9 HO.out o ov;rw[ew,e4,e3];clear HO ew e4 e3;have hp1:=eT.out.p1.e1;go_cut [5,6,7] (fun p5 p6 e7 wx=>∃ (w3:World) (g5:Nat) (pv:Value),w3=wx∧e7=.int .i64 eg∧p5=.pointer (some ⟨g5,0,none⟩)∧p6=pv∧(eg=0→∃ b x,(s.ae,b,x)∈P∧fnd S.ac s.ae=some x∧x.aa≠2∧pv=.pointer (some ⟨b,0,none⟩))∧Hid (Has w3 (Trb q m f P S.last S.ak::pt g5 (.cells (ib s) 122)::pt g4 zA::pt g3 (.cells (opC o ov) 33)::L))∧Hid (Keep w w3))
 case first =>
  exact zaE
 case rest =>
  obtain⟨w3,g5,pv,rfl,rfl,rfl,rfl,hpv,eW,fH⟩:=hcut;clear eT ff hp1 HF;have fa:=hid eW.out.va;obtain⟨hz0,hz1,hz2,hz3,gP,gH,hy0,hy1,hy2,hy3,hy4,gG⟩:=Has.az (fa.out);have hp0:=eW.out.p3.e0;have hp1:=eW.out.p3.e1;have hp2:=eW.out.p3.e2;have hp3:=eW.out.p3.e3;have hf1:=eW.out.p1.e1;by_cases he:eg=0
  ·subst he;obtain⟨b,x,hb,hx,hxk,rfl⟩:=hpv rfl;have ti:=hid (Bh.out rfl);have hat:S.at_ s.ae=x:=by unfold Tre.at_;rw[hx];rfl
   have wm:=hid (pI.out _ _ hx);replace HR:=hid ((if_neg (fun h=>h rfl)).symm.trans HR.out);have Ju:=hid (Fy.out _ _ hx);have Ca:=hid (show x.aa≠3 by have h:=E4.out rfl;rw[hat] at h;exact h);have hf0:=eW.out.p1.e0;by_cases ho0:o.off<0
   ·have HRR:=hid (by rw[←HR.out,if_pos ho0]:R=(eQ 2,S));exact zav
   by_cases ho1:o.off>20736
   ·have HRR:=hid (by rw[←HR.out,if_neg ho0,if_pos ho1]:R=(eQ 15,S));exact zcR
   replace HR:=hid ((if_neg ho1).symm.trans ((if_neg ho0).symm.trans HR.out));obtain⟨N,hN⟩:∃ N:Nat,o.off=(N:Int):=⟨o.off.toNat,by omega⟩
   rw[hN] at hp3 HR ho0 ho1;obtain⟨A,B,kj⟩:=List.append_of_mem hb;have nZ:=hid kj;have Ql:N≤20736:=by omega
   rw[kj] at eW;clear hz0 hz1 hz2 hz3 gP gH hy0 hy1 hy2 hy3 hy4 gG kj fa;go_wp2_with fail
   refine st (rs q m f A B s.ae b x S.last S.ak N w3 _ wm.out (by omega) Ju.out Ca.out eW.out) (fH.out) fun w5 fi ge=>?_;try dsimp only
   have fq:=hid fi.out.va;obtain⟨hz0,hz1,hz2,hz3,gP,gH,hy0,hy1,hy2,hy3,hy4,gG⟩:=Has.az (fq.out);go_wp2_with fail
   have h1:=fq.out.ans (eQ 0) eS eS;refine bodyPost_ret (eV rfl rfl h1) rfl ?_;rw[←HR.out,Int.toNat_natCast];refine⟨_,rfl,(show Has _ (Trc q (S.resize s.ae N)::L) from ?_).al 5 1,ge.out.ans _ _ _ _ _ _ _⟩;refine eY.2 ⟨m,f,_,⟨?_,fW.out.2⟩,h1.drop⟩;have hnd:=Trb.nodup eW.out;rw[mw hnd,←nZ.out,fW.out.1];show _=eX S.ac s.ae (fw (S.at_ s.ae) N);rw[hat]
  ·exact zaW
theorem Jo (q:Nat)(S:Tre)(o:Opm)(ov:Value)(w:World)(L:List HP)(hop:Opn S)(hO:Has w (Trc q S::L)) :
  zCl 51 #[.pointer (some ⟨q,0,none⟩),opV o ov] w fun e w'=>∃ dv,e=.returned (fL (S.aG o.fd o.n o.off).1 dv eS)∧Has w' (Bytes dv (S.aG o.fd o.n o.off).1.data::Trc q (S.aG o.fd o.n o.off).2::L)∧Keep w w':=by
 obtain⟨m,f,P,hJ,h⟩:=eY.1 hO;have HF:=hid (fun(w:World)(L':List HP)(hO:Has w (Trb q m f P S.last S.ak::L'))=>vv q m f P S o.fd false w L' (fun s hs=>hop.there _ s hs) hJ hO);have Bh:=hid (hop.file o.fd false);generalize hR:S.aG o.fd o.n o.off=R;unfold Tre.aG at hR;generalize S.file o.fd false=g at *;obtain⟨s,eg⟩:=g;dsimp only at *;have HR:=hid hR;have fW:=hid hJ;have pI:=hid hop.data;have HO:=hid h;clear hO hR h hop hJ;unfold opV opC;go_enter Tryz.func51,Tryz.ntmps51
 go_upto_region 1 with fail
 obtain⟨w1,g3,g4,ew,e4,e3,eT,ff⟩:=f9 HO.out o ov;rw[ew,e4,e3];clear HO ew e4 e3;have hp1:=eT.out.p1.e1;go_cut [5,6,7] (fun p5 p6 e7 wx=>∃ (w3:World) (g5:Nat) (pv:Value),w3=wx∧e7=.int .i64 eg∧p5=.pointer (some ⟨g5,0,none⟩)∧p6=pv∧(eg=0→∃ b x,(s.ae,b,x)∈P∧fnd S.ac s.ae=some x∧x.aa≠2∧pv=.pointer (some ⟨b,0,none⟩))∧Hid (Has w3 (Trb q m f P S.last S.ak::pt g5 (.cells (ib s) 122)::pt g4 zA::pt g3 (.cells (opC o ov) 33)::L))∧Hid (Keep w w3))
 case first =>
  as_aux_lemma=>exact zaE
 case rest =>
  obtain⟨w3,g5,pv,rfl,rfl,rfl,rfl,hpv,eW,fH⟩:=hcut;clear eT ff hp1 HF;have fa:=hid eW.out.va;obtain⟨hz0,hz1,hz2,hz3,gP,gH,hy0,hy1,hy2,hy3,hy4,gG⟩:=Has.az (fa.out);have hp0:=eW.out.p3.e0;have hp1:=eW.out.p3.e1;have hp2:=eW.out.p3.e2;have hp3:=eW.out.p3.e3;have hf1:=eW.out.p1.e1;by_cases he:eg=0
  ·subst he;obtain⟨b,x,hb,hx,hxk,rfl⟩:=hpv rfl;have ti:=hid (Bh.out rfl);have hat:S.at_ s.ae=x:=by unfold Tre.at_;rw[hx];rfl
   have wm:=hid (pI.out _ _ hx);replace HR:=hid ((if_neg (fun h=>h rfl)).symm.trans HR.out);rw[hat] at HR;have ye:=ti.out;have hlz:(x.data.length:Int)≤100000:=by have:=wm.out;omega
   have K8:(0:Int)≤(x.data.length:Int):=by omega
   obtain⟨hs0,hs9⟩:=ye;by_cases hn0:o.n=0
   ·rw[hn0] at HR hp2;replace HR:=hid (show (if o.off < - (0:Int)∨o.off>1099511627776-(0:Int) then(eQ 2,S) else((⟨0,o.off,0,0,[],[]⟩:Ans),{S with ak:=(Tb.aM S.ak o.fd (o.off)).2}))=R from by
     have h0:(if o.off < - (0:Int)∨o.off>1099511627776-(0:Int) then(eQ 2,S) else((⟨0,(0:Int)+o.off,0,0,[],[]⟩:Ans),{S with ak:=(Tb.aM S.ak o.fd ((0:Int)+o.off)).2}))=R:=by rw[←HR.out];rfl
     rwa [Int.zero_add] at h0)
    by_cases hb1:o.off < - (0:Int)
    ·as_aux_lemma=>exact zc0
    by_cases hb2:o.off>1099511627776-(0:Int)
    ·as_aux_lemma=>exact zc1
    replace HR:=hid ((if_neg (by rintro(h|h);exact hb1 h;exact hb2 h)).symm.trans HR.out)
    skip
    clear hz0 hz1 hz2 hz3 gP gH hy0 hy1 hy2 hy3 hy4 gG;have wN:=hid (show Has w3.drew (Tab f S.ak::Trt q m f P S.last::pt g5 (.cells (ib s) 122)::pt g4 zA::pt g3 (.cells (opC o ov) 33)::L) from Trb.ak.1 eW.out.drew);have hq2:=(Trb.cells eW.out.drew).2.2;have hr1:w3.drew.cell? ⟨g3,1,none⟩=some (.int .i64 o.fd):=hp1;have hr3:w3.drew.cell? ⟨g3,3,none⟩=some (.int .i64 o.off):=hp3;go_upto_region 14 with fail
    refine eP (fun w'=>w'.cell? ⟨q,2,none⟩=some (.pointer (some ⟨f,0,none⟩))∧w'.cell? ⟨g3,1,none⟩=some (.int .i64 o.fd)∧w'.cell? ⟨g3,3,none⟩=some (.int .i64 o.off)) (by kernel_rfl) (by kernel_rfl) ⟨hq2,hr1,hr3⟩ ?_;repeat (first|refine wr3 ?_|refine wk ?_)
    try rw[ft (o.off) (by omega)]
    refine wa fun K hK=>?_;go_simp
    refine st (mO f S.ak o.fd (o.off) _ _ fW.out.2 wN.out) (fH.out.drew) fun w8 fI iI=>?_;try dsimp only
    refine hK.out _ _ (⟨(Trb.cells (Trb.ak.2 fI.out)).2.2,fI.out.p4.cells 1,fI.out.p4.cells 3⟩) ?_;clear hK K;try simp only[Act.put,zpu]
    refine eR ?_;have fJ:=hid (Trb.ak.2 fI.out).vk;obtain⟨hz0,hz1,hz2,hz3,gP,gH,hy0,hy1,hy2,hy3,hy4,gG⟩:=Has.az (fJ.out);have hs3:=fJ.out.p1.e3;go_wp2_with fail
    have h1:=fJ.out.ans ⟨0,o.off,0,0,[],[]⟩ eS eS;refine bodyPost_ret (eV rfl rfl h1) rfl ?_;rw[←HR.out];exact⟨_,rfl,(show Has _ (Trc q {S with ak:=(Tb.aM S.ak o.fd (o.off)).2} :: L) from eY.2 ⟨m,f,P,⟨fW.out.1,Tb.mov_len _ _ _ fW.out.2⟩,h1.drop.drop⟩).al 5 1,iI.out.ans _ _ _ _ _ _ _⟩
   by_cases hn1:o.n=1
   ·rw[hn1] at HR hp2;replace HR:=hid (by rw[←HR.out];rfl:(if o.off < - s.off∨o.off>1099511627776-s.off then(eQ 2,S) else((⟨0,s.off+o.off,0,0,[],[]⟩:Ans),{S with ak:=(Tb.aM S.ak o.fd (s.off+o.off)).2}))=R);by_cases hb1:o.off < - s.off
    ·as_aux_lemma=>exact zc0
    by_cases hb2:o.off>1099511627776-s.off
    ·as_aux_lemma=>exact zc1
    replace HR:=hid ((if_neg (by rintro(h|h);exact hb1 h;exact hb2 h)).symm.trans HR.out)
    skip
    clear hz0 hz1 hz2 hz3 gP gH hy0 hy1 hy2 hy3 hy4 gG;have wN:=hid (show Has w3.drew (Tab f S.ak::Trt q m f P S.last::pt g5 (.cells (ib s) 122)::pt g4 zA::pt g3 (.cells (opC o ov) 33)::L) from Trb.ak.1 eW.out.drew);have hq2:=(Trb.cells eW.out.drew).2.2;have hr1:w3.drew.cell? ⟨g3,1,none⟩=some (.int .i64 o.fd):=hp1;have hr3:w3.drew.cell? ⟨g3,3,none⟩=some (.int .i64 o.off):=hp3;go_upto_region 14 with fail
    refine eP (fun w'=>w'.cell? ⟨q,2,none⟩=some (.pointer (some ⟨f,0,none⟩))∧w'.cell? ⟨g3,1,none⟩=some (.int .i64 o.fd)∧w'.cell? ⟨g3,3,none⟩=some (.int .i64 o.off)) (by kernel_rfl) (by kernel_rfl) ⟨hq2,hr1,hr3⟩ ?_;repeat (first|refine wr3 ?_|refine wk ?_)
    try rw[ft (s.off+o.off) (by omega)]
    refine wa fun K hK=>?_;go_simp
    refine st (mO f S.ak o.fd (s.off+o.off) _ _ fW.out.2 wN.out) (fH.out.drew) fun w8 fI iI=>?_;try dsimp only
    refine hK.out _ _ (⟨(Trb.cells (Trb.ak.2 fI.out)).2.2,fI.out.p4.cells 1,fI.out.p4.cells 3⟩) ?_;clear hK K;try simp only[Act.put,zpu]
    refine eR ?_;have fJ:=hid (Trb.ak.2 fI.out).vk;obtain⟨hz0,hz1,hz2,hz3,gP,gH,hy0,hy1,hy2,hy3,hy4,gG⟩:=Has.az (fJ.out);have hs3:=fJ.out.p1.e3;go_wp2_with fail
    have h1:=fJ.out.ans ⟨0,s.off+o.off,0,0,[],[]⟩ eS eS;refine bodyPost_ret (eV rfl rfl h1) rfl ?_;rw[←HR.out];exact⟨_,rfl,(show Has _ (Trc q {S with ak:=(Tb.aM S.ak o.fd (s.off+o.off)).2} :: L) from eY.2 ⟨m,f,P,⟨fW.out.1,Tb.mov_len _ _ _ fW.out.2⟩,h1.drop.drop⟩).al 5 1,iI.out.ans _ _ _ _ _ _ _⟩
   by_cases hn2:o.n=2
   ·rw[hn2] at HR hp2;replace HR:=hid (by rw[←HR.out];rfl:(if o.off < - (x.data.length:Int)∨o.off>1099511627776-(x.data.length:Int) then(eQ 2,S) else((⟨0,(x.data.length:Int)+o.off,0,0,[],[]⟩:Ans),{S with ak:=(Tb.aM S.ak o.fd ((x.data.length:Int)+o.off)).2}))=R);obtain⟨A,B,dv,wv,nm,kj,hnm,km⟩:=Trb.take eW.out hb;have lm:=km.e1;obtain⟨pd,cd,rfl,hcap,-⟩:=(Dat.rd km.p1).form;clear kj hnm km;by_cases hb1:o.off < - (x.data.length:Int)
    ·as_aux_lemma=>exact zc0
    by_cases hb2:o.off>1099511627776-(x.data.length:Int)
    ·as_aux_lemma=>exact zc1
    replace HR:=hid ((if_neg (by rintro(h|h);exact hb1 h;exact hb2 h)).symm.trans HR.out)
    skip
    clear hz0 hz1 hz2 hz3 gP gH hy0 hy1 hy2 hy3 hy4 gG;have wN:=hid (show Has w3.drew (Tab f S.ak::Trt q m f P S.last::pt g5 (.cells (ib s) 122)::pt g4 zA::pt g3 (.cells (opC o ov) 33)::L) from Trb.ak.1 eW.out.drew);have hq2:=(Trb.cells eW.out.drew).2.2;have hr1:w3.drew.cell? ⟨g3,1,none⟩=some (.int .i64 o.fd):=hp1;have hr3:w3.drew.cell? ⟨g3,3,none⟩=some (.int .i64 o.off):=hp3;go_upto_region 14 with fail
    refine eP (fun w'=>w'.cell? ⟨q,2,none⟩=some (.pointer (some ⟨f,0,none⟩))∧w'.cell? ⟨g3,1,none⟩=some (.int .i64 o.fd)∧w'.cell? ⟨g3,3,none⟩=some (.int .i64 o.off)) (by kernel_rfl) (by kernel_rfl) ⟨hq2,hr1,hr3⟩ ?_;repeat (first|refine wr3 ?_|refine wk ?_)
    try rw[ft ((x.data.length:Int)+o.off) (by omega)]
    refine wa fun K hK=>?_;go_simp
    refine st (mO f S.ak o.fd ((x.data.length:Int)+o.off) _ _ fW.out.2 wN.out) (fH.out.drew) fun w8 fI iI=>?_;try dsimp only
    refine hK.out _ _ (⟨(Trb.cells (Trb.ak.2 fI.out)).2.2,fI.out.p4.cells 1,fI.out.p4.cells 3⟩) ?_;clear hK K;try simp only[Act.put,zpu]
    refine eR ?_;have fJ:=hid (Trb.ak.2 fI.out).vk;obtain⟨hz0,hz1,hz2,hz3,gP,gH,hy0,hy1,hy2,hy3,hy4,gG⟩:=Has.az (fJ.out);have hs3:=fJ.out.p1.e3;go_wp2_with fail
    have h1:=fJ.out.ans ⟨0,(x.data.length:Int)+o.off,0,0,[],[]⟩ eS eS;refine bodyPost_ret (eV rfl rfl h1) rfl ?_;rw[←HR.out];exact⟨_,rfl,(show Has _ (Trc q {S with ak:=(Tb.aM S.ak o.fd ((x.data.length:Int)+o.off)).2} :: L) from eY.2 ⟨m,f,P,⟨fW.out.1,Tb.mov_len _ _ _ fW.out.2⟩,h1.drop.drop⟩).al 5 1,iI.out.ans _ _ _ _ _ _ _⟩
   ·have HRR:=hid (show R=(eQ 2,S) from by rw[←HR.out,if_pos (by rintro(h|h|h);exact hn0 h;exact hn1 h;exact hn2 h)]);have hm0:(o.n==0)=false:=by simpa using hn0
    have hm1:(o.n==1)=false:=by simpa using hn1
    have hm2:(o.n==2)=false:=by simpa using hn2
    as_aux_lemma=>exact zav
  ·as_aux_lemma=>exact zaW
theorem CV (q:Nat)(S:Tre)(fd n off af:Int)(ag aj:Str)(ov:Value)(w:World)(L:List HP)(hop:Opn S)(ho:off≤9223372036854775807)(hO:Has w (Trc q S::L)) :
  zCl 16 #[.pointer (some ⟨q,0,none⟩),opV ⟨3,fd,n,off,af,ag,aj⟩ (ov)] w fun e w'=>∃ dv,e=.returned (fL (S.read 3 fd n off).1 dv eS)∧Has w' (Bytes dv ((S.read 3 fd n off).1).data::Trc q (S.read 3 fd n off).2::L)∧Keep w w':=by
 have HX0:=(fun(w:World)(L':List HP)(hO:Has w (Trc q S::L'))=>Dt q S ⟨3,fd,n,off,af,ag,aj⟩ ov w L' (.inl rfl) hop ho hO)
 dsimp only at HX0;have HX:=hid HX0;clear HX0
 skip
 generalize S.read 3 fd n off=R at *;have HO:=hid hO;clear hO;unfold opV opC at HX ⊢;go_enter Tryz.func16,Tryz.ntmps16
 go_upto_region 1 with fail
 obtain⟨w1,g3,g4,ew,e4,e3,eT,ff⟩:=f9 HO.out ⟨3,fd,n,off,af,ag,aj⟩ ov;exact zcC
theorem CQ (q:Nat)(S:Tre)(fd n off af:Int)(ag aj:Str)(ov:Value)(w:World)(L:List HP)(hop:Opn S)(ho:off≤9223372036854775807)(hO:Has w (Trc q S::L)) :
  zCl 16 #[.pointer (some ⟨q,0,none⟩),opV ⟨5,fd,n,off,af,ag,aj⟩ (ov)] w fun e w'=>∃ dv,e=.returned (fL (S.read 5 fd n off).1 dv eS)∧Has w' (Bytes dv ((S.read 5 fd n off).1).data::Trc q (S.read 5 fd n off).2::L)∧Keep w w':=by
 have HX0:=(fun(w:World)(L':List HP)(hO:Has w (Trc q S::L'))=>Dt q S ⟨5,fd,n,off,af,ag,aj⟩ ov w L' (.inr rfl) hop ho hO)
 dsimp only at HX0;have HX:=hid HX0;clear HX0
 skip
 generalize S.read 5 fd n off=R at *;have HO:=hid hO;clear hO;unfold opV opC at HX ⊢;go_enter Tryz.func16,Tryz.ntmps16
 go_upto_region 1 with fail
 obtain⟨w1,g3,g4,ew,e4,e3,eT,ff⟩:=f9 HO.out ⟨5,fd,n,off,af,ag,aj⟩ ov;exact zcC
theorem sA (q:Nat)(S:Tre)(fd n off af:Int)(ag aj:Str)(po:Option Addr)(co:Nat)(ds:List Int)(w:World)(L:List HP)(hop:Opn S)(ho:off≤9223372036854775807)(hds:ds.length≤100000)(hrd:∀ w',Has w' L→Rd w' (.slice po ds.length co) 1 ds.length (bc ds))(hO:Has w (Trc q S::L)) :
  zCl 16 #[.pointer (some ⟨q,0,none⟩),opV ⟨4,fd,n,off,af,ag,aj⟩ (.slice po ds.length co)] w fun e w'=>∃ dv,e=.returned (fL (S.write 4 fd off ds).1 dv eS)∧Has w' (Bytes dv ((S.write 4 fd off ds).1).data::Trc q (S.write 4 fd off ds).2::L)∧Keep w w':=by
 have HX0:=(fun(w:World)(L':List HP)(hrd:∀ w',Has w' L'→Rd w' (.slice po ds.length co) 1 ds.length (bc ds))(hO:Has w (Trc q S::L'))=>AH q S ⟨4,fd,n,off,af,ag,aj⟩ po co w L' ds (.inl rfl) hop ho hds hrd hO)
 dsimp only at HX0;have HX:=hid HX0;clear HX0;have ir:=hid hrd;clear hrd;generalize S.write 4 fd off ds=R at *;have HO:=hid hO;clear hO;unfold opV opC at HX ⊢;go_enter Tryz.func16,Tryz.ntmps16
 go_upto_region 1 with fail
 obtain⟨w1,g3,g4,ew,e4,e3,eT,ff⟩:=f9 HO.out ⟨4,fd,n,off,af,ag,aj⟩ (.slice po ds.length co);exact zcK
theorem zT (q:Nat)(S:Tre)(fd n off af:Int)(ag aj:Str)(po:Option Addr)(co:Nat)(ds:List Int)(w:World)(L:List HP)(hop:Opn S)(ho:off≤9223372036854775807)(hds:ds.length≤100000)(hrd:∀ w',Has w' L→Rd w' (.slice po ds.length co) 1 ds.length (bc ds))(hO:Has w (Trc q S::L)) :
  zCl 16 #[.pointer (some ⟨q,0,none⟩),opV ⟨6,fd,n,off,af,ag,aj⟩ (.slice po ds.length co)] w fun e w'=>∃ dv,e=.returned (fL (S.write 6 fd off ds).1 dv eS)∧Has w' (Bytes dv ((S.write 6 fd off ds).1).data::Trc q (S.write 6 fd off ds).2::L)∧Keep w w':=by
 have HX0:=(fun(w:World)(L':List HP)(hrd:∀ w',Has w' L'→Rd w' (.slice po ds.length co) 1 ds.length (bc ds))(hO:Has w (Trc q S::L'))=>AH q S ⟨6,fd,n,off,af,ag,aj⟩ po co w L' ds (.inr rfl) hop ho hds hrd hO)
 dsimp only at HX0;have HX:=hid HX0;clear HX0;have ir:=hid hrd;clear hrd;generalize S.write 6 fd off ds=R at *;have HO:=hid hO;clear hO;unfold opV opC at HX ⊢;go_enter Tryz.func16,Tryz.ntmps16
 go_upto_region 1 with fail
 obtain⟨w1,g3,g4,ew,e4,e3,eT,ff⟩:=f9 HO.out ⟨6,fd,n,off,af,ag,aj⟩ (.slice po ds.length co);exact zcK
theorem D9 (q:Nat)(S:Tre)(fd n off af:Int)(ag aj:Str)(ov:Value)(w:World)(L:List HP)(hop:Opn S)(hO:Has w (Trc q S::L)) :
  zCl 16 #[.pointer (some ⟨q,0,none⟩),opV ⟨7,fd,n,off,af,ag,aj⟩ (ov)] w fun e w'=>∃ dv,e=.returned (fL (S.aG fd n off).1 dv eS)∧Has w' (Bytes dv ((S.aG fd n off).1).data::Trc q (S.aG fd n off).2::L)∧Keep w w':=by
 have HX0:=(fun(w:World)(L':List HP)(hO:Has w (Trc q S::L'))=>Jo q S ⟨7,fd,n,off,af,ag,aj⟩ ov w L' hop hO)
 dsimp only at HX0;have HX:=hid HX0;clear HX0
 skip
 generalize S.aG fd n off=R at *;have HO:=hid hO;clear hO;unfold opV opC at HX ⊢;go_enter Tryz.func16,Tryz.ntmps16
 go_upto_region 1 with fail
 obtain⟨w1,g3,g4,ew,e4,e3,eT,ff⟩:=f9 HO.out ⟨7,fd,n,off,af,ag,aj⟩ ov;exact zcC
theorem BG (q:Nat)(S:Tre)(fd n off af:Int)(ag aj:Str)(ov:Value)(w:World)(L:List HP)(hop:Opn S)(hO:Has w (Trc q S::L)) :
  zCl 16 #[.pointer (some ⟨q,0,none⟩),opV ⟨8,fd,n,off,af,ag,aj⟩ (ov)] w fun e w'=>∃ dv,e=.returned (fL (S.trunc fd off).1 dv eS)∧Has w' (Bytes dv ((S.trunc fd off).1).data::Trc q (S.trunc fd off).2::L)∧Keep w w':=by
 have HX0:=(fun(w:World)(L':List HP)(hO:Has w (Trc q S::L'))=>EQ q S ⟨8,fd,n,off,af,ag,aj⟩ ov w L' hop hO)
 dsimp only at HX0;have HX:=hid HX0;clear HX0
 skip
 generalize S.trunc fd off=R at *;have HO:=hid hO;clear hO;unfold opV opC at HX ⊢;go_enter Tryz.func16,Tryz.ntmps16
 go_upto_region 1 with fail
 obtain⟨w1,g3,g4,ew,e4,e3,eT,ff⟩:=f9 HO.out ⟨8,fd,n,off,af,ag,aj⟩ ov;exact zcC
end Go.Proofs.YtmgpgbfgemebbaaGreatDoor
