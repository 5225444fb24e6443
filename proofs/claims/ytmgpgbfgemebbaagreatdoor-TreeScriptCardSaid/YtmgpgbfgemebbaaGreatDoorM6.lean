/- TEXTS of mine, merged. -/
import Derived.Test.YtmgpgbfgemebbaaGreatDoorM0
import Derived.Test.YtmgpgbfgemebbaaGreatDoorM5
import Derived.Test.YtmgpgbfgemebbaaGreatDoorM4
import Derived.Test.YtmgpgbfgemebbaaGreatDoorM1
import Derived.Sort.Row
import Derived.Sort.Grow
set_option linter.all false
set_option maxRecDepth 100000
set_option maxHeartbeats 16000000
namespace Go.Proofs.YtmgpgbfgemebbaaGreatDoor
open Go.RowKit Go.Own
theorem qR (xs:List Int)(O N F M:Nat)(hF:F=min O xs.length)(hM:M=min N (xs.length-F)):(xs.take (F+M)).drop F=(xs.drop O).take N:=by
 subst hF hM;rw[List.drop_take,show min O xs.length+min N (xs.length-min O xs.length)-min O xs.length=min N (xs.length-min O xs.length) from by omega];by_cases h:O≤xs.length
 ·rw[Nat.min_eq_left h];by_cases h2:N≤xs.length-O
  ·rw[Nat.min_eq_left h2]
  ·rw[Nat.min_eq_right (by omega),List.take_of_length_le (by simp),List.take_of_length_le (by simp;omega)]
 ·have e:min O xs.length=xs.length:=Nat.min_eq_right (by omega);rw[e,List.drop_of_length_le (Nat.le_refl _),List.drop_of_length_le (i:=O) (by omega)];simp
structure Opn (S:Tre):Prop where
 there:∀ fd s,Tb.look S.ak fd=some s→∃ x,fnd S.ac s.ae=some x
 off:∀ fd s,Tb.look S.ak fd=some s→0≤s.off∧s.off≤2000000000000
 data:∀ n x,fnd S.ac n=some x→x.data.length≤100000
 wr:∀ n x,fnd S.ac n=some x→x.wr.length≤100000
 nolink:∀ fd s,Tb.look S.ak fd=some s→(S.at_ s.ae).aa≠3
theorem Opn.dF {S:Tre}(h:Opn S)(fd:Int)(wr:Bool)(h0:(S.file fd wr).2=0):(S.at_ (S.file fd wr).1.ae).aa≠3:=by
 unfold Tre.file at *;by_cases h1:(Tb.get S.ak fd).2≠0
 ·rw[if_pos h1] at h0;simp at h0
 ·rw[if_neg h1] at *;by_cases h2:wr=true∧fc (Tb.get S.ak fd).1.af 32=0
  ·rw[if_pos h2] at h0;simp at h0
  ·rw[if_neg h2] at *;by_cases h3:(S.at_ (Tb.get S.ak fd).1.ae).aa=2
   ·rw[if_pos h3] at h0;simp at h0
   ·rw[if_neg h3];unfold Tb.get at *;cases hl:Tb.look S.ak fd with
    | none=>simp[hl] at h1
    | some s=>exact h.nolink fd s hl
theorem Opn.file {S:Tre}(h:Opn S)(fd:Int)(wr:Bool)(h0:(S.file fd wr).2=0):0≤(S.file fd wr).1.off∧(S.file fd wr).1.off≤2000000000000:=by
 unfold Tre.file at *;by_cases h1:(Tb.get S.ak fd).2≠0
 ·rw[if_pos h1] at h0;simp at h0
 ·rw[if_neg h1] at *;by_cases h2:wr=true∧fc (Tb.get S.ak fd).1.af 32=0
  ·rw[if_pos h2] at h0;simp at h0
  ·rw[if_neg h2] at *;by_cases h3:(S.at_ (Tb.get S.ak fd).1.ae).aa=2
   ·rw[if_pos h3] at h0;simp at h0
   ·rw[if_neg h3];unfold Tb.get at *;cases hl:Tb.look S.ak fd with
    | none=>simp[hl] at h1
    | some s=>exact h.off fd s hl
theorem ft (n:Int)(h : -9223372036854775808≤n∧n≤9223372036854775807):IntKind.i64.wrap n=n:=by
 simp[IntKind.wrap,IntKind.bits,IntKind.signed];omega
theorem mX (v:Value)(xs:List Int)(w:World)(L:List HP)(hO:Has w L)(hr:Rd w v 1 xs.length (bc xs))(hsm:xs.length≤1000000000) :
  zCl 87 #[v] w fun e w'=>∃ v',e=.returned v'∧Has w' (Bytes v' xs::L)∧Keep w w' :=
 (oR v xs w L hO hr hsm).mono fun _ _ ⟨v',h1,h2,h3,_⟩=>⟨v',h1,h2,h3⟩
theorem Dt (q:Nat)(S:Tre)(o:Opm)(ov:Value)(w:World)(L:List HP)(hk:o.aa=3∨o.aa=5)(hop:Opn S)(ho:o.off≤9223372036854775807)(hO:Has w (Trc q S::L)) :
  zCl 49 #[.pointer (some ⟨q,0,none⟩),opV o ov] w fun e w'=>∃ dv,e=.returned (fL (S.read o.aa o.fd o.n o.off).1 dv eS)∧Has w' (Bytes dv (S.read o.aa o.fd o.n o.off).1.data::Trc q (S.read o.aa o.fd o.n o.off).2::L)∧Keep w w':=by
 obtain⟨m,f,P,hJ,h⟩:=eY.1 hO;have HF:=hid (fun(w:World)(L':List HP)(hO:Has w (Trb q m f P S.last S.ak::L'))=>vv q m f P S o.fd false w L' (fun s hs=>hop.there _ s hs) hJ hO);have Bh:=hid (hop.file o.fd false);generalize hR:S.read o.aa o.fd o.n o.off=R;unfold Tre.read at hR;generalize S.file o.fd false=g at *;obtain⟨s,eg⟩:=g;dsimp only at *;have HR:=hid hR;have fW:=hid hJ;have pI:=hid hop.data;have HO:=hid h;clear hO hR h hop hJ;unfold opV opC;go_enter Tryz.func49,Tryz.ntmps49
 go_upto_region 1 with fail
 obtain⟨w1,g3,g4,ew,e4,e3,eT,ff⟩:=f9 HO.out o ov;rw[ew,e4,e3];clear HO ew e4 e3;have hp1:=eT.out.p1.e1;go_cut [5,6,7] (fun p5 p6 e7 wx=>∃ (w3:World) (g5:Nat) (pv:Value),w3=wx∧e7=.int .i64 eg∧p5=.pointer (some ⟨g5,0,none⟩)∧p6=pv∧(eg=0→∃ b x,(s.ae,b,x)∈P∧fnd S.ac s.ae=some x∧x.aa≠2∧pv=.pointer (some ⟨b,0,none⟩))∧Hid (Has w3 (Trb q m f P S.last S.ak::pt g5 (.cells (ib s) 122)::pt g4 zA::pt g3 (.cells (opC o ov) 33)::L))∧Hid (Keep w w3))
 case first =>
  as_aux_lemma=>exact zaE
 case rest =>
  obtain⟨w3,g5,pv,rfl,rfl,rfl,rfl,hpv,eW,fH⟩:=hcut;clear eT ff hp1 HF;have fa:=hid eW.out.va;obtain⟨hz0,hz1,hz2,hz3,gP,gH,hy0,hy1,hy2,hy3,hy4,gG⟩:=Has.az (fa.out);have hp0:=eW.out.p3.e0;have hp1:=eW.out.p3.e1;have hp2:=eW.out.p3.e2;have hp3:=eW.out.p3.e3;have hf1:=eW.out.p1.e1;by_cases he:eg=0
  ·subst he;obtain⟨b,x,hb,hx,hxk,rfl⟩:=hpv rfl;have ti:=hid (Bh.out rfl);have hat:S.at_ s.ae=x:=by unfold Tre.at_;rw[hx];rfl
   have wm:=hid (pI.out _ _ hx);replace HR:=hid ((if_neg (fun h=>h rfl)).symm.trans HR.out);rw[hat] at HR;by_cases hn0:o.n<0
   ·have HRR:=hid (by rw[←HR.out,if_pos (.inl hn0)]:R=(eQ 2,S))
    as_aux_lemma=>exact zav
   have hn1:¬ o.n<0:=hn0;rcases hk with hk|hk
   ·rw[hk] at hp0 HR;replace HR:=hid ((if_neg (by rintro(h|h);exact hn0 h;exact absurd h.1 (by decide))).symm.trans HR.out);rw[if_neg (by decide)] at HR;obtain⟨N,hN⟩:∃ N:Nat,o.n=(N:Int):=⟨o.n.toNat,by omega⟩
    obtain⟨O,kk⟩:∃ O:Nat,s.off=(O:Int):=⟨s.off.toNat,by have:=ti.out.1;omega⟩
    rw[hN] at hp2;rw[kk] at hf1;obtain⟨A,B,dv,wv,nm,kj,hnm,km⟩:=Trb.take eW.out hb;have nZ:=hid kj;have lg:=hid hnm;have HP:=hid km;have lm:=km.e1;have hrd:=Dat.rd km.p1;obtain⟨pd,cd,rfl,hcap,-⟩:=hrd.form;have ir:=hid hrd;clear hn0 hn1 hrd kj hnm km;have OW:(O:Int)≤2000000000000:=by have:=ti.out.2;omega
    have On:(0:Int)≤(O:Int):=by omega
    go_upto_region 10 with fail
    have J5:min (O:Int) (x.data.length:Int)=((min O x.data.length:Nat):Int):=by omega
    have DT:=hid (show min O x.data.length≤x.data.length from Nat.min_le_right _ _);rw[J5];generalize hF:min O x.data.length=F at *;have hM:∃ M:Nat,M=min N (x.data.length-F):=⟨_,rfl⟩
    obtain⟨M,hM⟩:=hM;have HM:=hid hM;have MT:(F:Int)+min (N:Int) ((x.data.length:Int)-(F:Int))=((F+M:Nat):Int):=by have:=DT.out;omega
    have N8:(0:Int)≤(F:Int):=by omega
    have Ot:(F:Int)≤(x.data.length:Int):=by have:=DT.out;omega
    have I1:(x.data.length:Int)≤100000:=by have:=wm.out;omega
    have hN0:(0:Int)≤(N:Int):=by omega
    have gC:=hid HP.out.drew;have iG:=hid fH.out.drew;have AP:w3.drew.cell? ⟨b,1,none⟩=some (.slice pd x.data.length cd):=lm;have AG:w3.drew.cell? ⟨g3,2,none⟩=some (.int .i64 (N:Int)):=hp2;refine eP (fun w'=>w'.cell? ⟨b,1,none⟩=some (.slice pd x.data.length cd)∧w'.cell? ⟨g3,2,none⟩=some (.int .i64 (N:Int))) (by kernel_rfl) (by kernel_rfl) ⟨AP,AG⟩ ?_;repeat (first|refine wr2 ?_|refine wk ?_)
    have Hi:IntKind.i64.wrap ((F:Int)+min (N:Int) (IntKind.i64.wrap ((x.data.length:Int)-(F:Int))))=((F+M:Nat):Int):=by
     as_aux_lemma=>exact zco
    rw[Hi];have Lc:F+M≤x.data.length:=by have h1:=DT.out;have h2:=HM.out;omega
    have hx1:(0:Int)≤(F:Int):=by omega
    have hx2:(F:Int)≤((F+M:Nat):Int):=by omega
    have hx3:((F+M:Nat):Int)≤(cd:Int):=by omega
    generalize hE:F+M=E at *;repeat (first|refine wr2 ?_|refine wk ?_)
    have Be:=hid (by rw[←hE];exact qR x.data O N F M hF.symm HM.out:((x.data.take E).drop F)=(x.data.drop O).take N);have AO:=hid (show Rd w3.drew (.slice (if cd=F then pd else pd.map fun a=>a.add F) (E-F) (cd-F)) 1 ((x.data.take E).drop F).length (bc ((x.data.take E).drop F)) from by
     have h1:=((Dat.rd gC.out.p1).bp E (by omega)).bE F (by omega);have e:((x.data.take E).drop F).length=E-F:=by simp;omega
     rw[e];unfold bc at h1 ⊢;simpa[List.map_take,List.map_drop] using h1)
    generalize (if cd=F then pd else pd.map fun a=>a.add F)=ad at *;have hdl:((x.data.take E).drop F).length≤100000:=by have:=wm.out;simp;omega
    generalize ((x.data.take E).drop F)=ds at *;refine wa fun K hK=>?_;go_simp
    refine(mX _ ds _ _ gC.out AO.out (by omega)).mono ?_;rintro e w6 ⟨v6,rfl,qu,hK6⟩;have fq:=hid qu;have gu:=hid ((iG.out).trans hK6);clear qu hK6;try dsimp only
    refine hK.out _ _ (⟨fq.out.p1.cells 1,by rw[←hN];exact(fq.out.re 9 [8]).cells 2⟩) ?_;clear hK K;try simp only[Act.put,zpu]
    repeat (first|refine wr2 ?_|refine wk ?_)
    refine eR ?_;have fP:=hid (show Has w6 (Trb q m f P S.last S.ak::Bytes v6 ds::pt g5 (.cells (ib s) 122)::pt g4 zA::pt g3 (.cells (opC o ov) 33)::L) from by
     have h1:=Trb.shut nZ.out lg.out (fq.out.re 9 [1,2,3,4,5,0,6,7,8])
     rwa [←nZ.out] at h1)
    have gZ:=gu;clear fq gu gC iG HP AO ir lm AP AG hp0 hp1 hp2 hp3 hf1 fa eW fH hz0 hz1 hz2 hz3 gP gH hy0 hy1 hy2 hy3 hy4 gG;obtain⟨p6,c6,rfl,-⟩:=(Bytes.rd fP.out.p1).form;have hp0:w6.cell? ⟨g3,0,none⟩=some (.int .i64 3):=by rw[←hk];exact fP.out.p4.cells 0
    have wN:=hid (show Has w6.drew (Tab f S.ak::Trt q m f P S.last::Bytes (.slice p6 ds.length c6) ds::pt g5 (.cells (ib s) 122)::pt g4 zA::pt g3 (.cells (opC o ov) 33)::L) from Trb.ak.1 fP.out.drew);have hq2:=(Trb.cells fP.out.drew).2.2;have hp1:w6.drew.cell? ⟨g3,1,none⟩=some (.int .i64 o.fd):=fP.out.drew.p4.cells 1;go_upto_region 12 with fail
    refine eP (fun w'=>w'.cell? ⟨q,2,none⟩=some (.pointer (some ⟨f,0,none⟩))∧w'.cell? ⟨g3,1,none⟩=some (.int .i64 o.fd)) (by kernel_rfl) (by kernel_rfl) ⟨hq2,hp1⟩ ?_;repeat (first|refine wr2 ?_|refine wk ?_)
    rw[ft ((O:Int)+(ds.length:Int)) (by omega)];refine wa fun K hK=>?_;go_simp
    refine st (mO f S.ak o.fd ((O:Int)+(ds.length:Int)) _ _ fW.out.2 wN.out) (gZ.out.drew) fun w8 fI iI=>?_;try dsimp only
    refine hK.out _ _ (⟨(Trb.cells (Trb.ak.2 fI.out)).2.2,fI.out.p5.cells 1⟩) ?_;clear hK K;try simp only[Act.put,zpu]
    refine eR ?_;have fJ:=hid (Trb.ak.2 fI.out).vn;obtain⟨hz0,hz1,hz2,hz3,gP,gH,hy0,hy1,hy2,hy3,hy4,gG⟩:=Has.az (fJ.out);go_wp2_with fail
    have h1:=fJ.out.ans ⟨0,0,0,0,ds,[]⟩ (.slice p6 ds.length c6) eS;refine bodyPost_ret (eV rfl rfl h1) rfl ?_;rw[←HR.out];refine⟨_,rfl,?_,iI.out.ans _ _ _ _ _ _ _⟩;rw[hN,kk,Int.toNat_natCast,Int.toNat_natCast,if_pos trivial];dsimp only;rw[←Be.out];refine(show Has _ (Trc q {S with ak:=(Tb.aM S.ak o.fd ((O:Int)+(ds.length:Int))).2} :: Bytes (.slice p6 ds.length c6) ds::L) from eY.2 ⟨m,f,P,⟨fW.out.1,Tb.mov_len _ _ _ fW.out.2⟩,h1.drop.re 2 [1,0]⟩).re 2 [1,0]
   ·rw[hk] at hp0 HR;by_cases ho0:o.off<0
    ·have HRR:=hid (by rw[←HR.out,if_pos (.inr ⟨rfl,ho0⟩)]:R=(eQ 2,S))
     as_aux_lemma=>exact zav
    ·replace HR:=hid ((if_neg (by rintro(h|h);exact hn0 h;exact ho0 h.2)).symm.trans HR.out);obtain⟨N,hN⟩:∃ N:Nat,o.n=(N:Int):=⟨o.n.toNat,by omega⟩
     obtain⟨O,kk⟩:∃ O:Nat,o.off=(O:Int):=⟨o.off.toNat,by omega⟩
     rw[hN] at hp2;rw[kk] at hp3;obtain⟨A,B,dv,wv,nm,kj,hnm,km⟩:=Trb.take eW.out hb;have nZ:=hid kj;have lg:=hid hnm;have HP:=hid km;have lm:=km.e1;have hrd:=Dat.rd km.p1;obtain⟨pd,cd,rfl,hcap,-⟩:=hrd.form;have ir:=hid hrd;clear hn0 hn1 hrd kj hnm km;have OW:(O:Int)≤9223372036854775807:=by omega
     have On:(0:Int)≤(O:Int):=by omega
     go_upto_region 10 with fail
     have J5:min (O:Int) (x.data.length:Int)=((min O x.data.length:Nat):Int):=by omega
     have DT:=hid (show min O x.data.length≤x.data.length from Nat.min_le_right _ _);rw[J5];generalize hF:min O x.data.length=F at *;have hM:∃ M:Nat,M=min N (x.data.length-F):=⟨_,rfl⟩
     obtain⟨M,hM⟩:=hM;have HM:=hid hM;have MT:(F:Int)+min (N:Int) ((x.data.length:Int)-(F:Int))=((F+M:Nat):Int):=by have:=DT.out;omega
     have N8:(0:Int)≤(F:Int):=by omega
     have Ot:(F:Int)≤(x.data.length:Int):=by have:=DT.out;omega
     have I1:(x.data.length:Int)≤100000:=by have:=wm.out;omega
     have hN0:(0:Int)≤(N:Int):=by omega
     have gC:=hid HP.out.drew;have iG:=hid fH.out.drew;have AP:w3.drew.cell? ⟨b,1,none⟩=some (.slice pd x.data.length cd):=lm;have AG:w3.drew.cell? ⟨g3,2,none⟩=some (.int .i64 (N:Int)):=hp2;refine eP (fun w'=>w'.cell? ⟨b,1,none⟩=some (.slice pd x.data.length cd)∧w'.cell? ⟨g3,2,none⟩=some (.int .i64 (N:Int))) (by kernel_rfl) (by kernel_rfl) ⟨AP,AG⟩ ?_;repeat (first|refine wr2 ?_|refine wk ?_)
     have Hi:IntKind.i64.wrap ((F:Int)+min (N:Int) (IntKind.i64.wrap ((x.data.length:Int)-(F:Int))))=((F+M:Nat):Int):=by
      as_aux_lemma=>exact zco
     rw[Hi];have Lc:F+M≤x.data.length:=by have h1:=DT.out;have h2:=HM.out;omega
     have hx1:(0:Int)≤(F:Int):=by omega
     have hx2:(F:Int)≤((F+M:Nat):Int):=by omega
     have hx3:((F+M:Nat):Int)≤(cd:Int):=by omega
     generalize hE:F+M=E at *;repeat (first|refine wr2 ?_|refine wk ?_)
     have Be:=hid (by rw[←hE];exact qR x.data O N F M hF.symm HM.out:((x.data.take E).drop F)=(x.data.drop O).take N);have AO:=hid (show Rd w3.drew (.slice (if cd=F then pd else pd.map fun a=>a.add F) (E-F) (cd-F)) 1 ((x.data.take E).drop F).length (bc ((x.data.take E).drop F)) from by
      have h1:=((Dat.rd gC.out.p1).bp E (by omega)).bE F (by omega);have e:((x.data.take E).drop F).length=E-F:=by simp;omega
      rw[e];unfold bc at h1 ⊢;simpa[List.map_take,List.map_drop] using h1)
     generalize (if cd=F then pd else pd.map fun a=>a.add F)=ad at *;have hdl:((x.data.take E).drop F).length≤100000:=by have:=wm.out;simp;omega
     generalize ((x.data.take E).drop F)=ds at *;refine wa fun K hK=>?_;go_simp
     refine(mX _ ds _ _ gC.out AO.out (by omega)).mono ?_;rintro e w6 ⟨v6,rfl,qu,hK6⟩;have fq:=hid qu;have gu:=hid ((iG.out).trans hK6);clear qu hK6;try dsimp only
     refine hK.out _ _ (⟨fq.out.p1.cells 1,by rw[←hN];exact(fq.out.re 9 [8]).cells 2⟩) ?_;clear hK K;try simp only[Act.put,zpu]
     repeat (first|refine wr2 ?_|refine wk ?_)
     refine eR ?_;have fP:=hid (show Has w6 (Trb q m f P S.last S.ak::Bytes v6 ds::pt g5 (.cells (ib s) 122)::pt g4 zA::pt g3 (.cells (opC o ov) 33)::L) from by
      have h1:=Trb.shut nZ.out lg.out (fq.out.re 9 [1,2,3,4,5,0,6,7,8])
      rwa [←nZ.out] at h1)
     have gZ:=gu;clear fq gu gC iG HP AO ir lm AP AG hp0 hp1 hp2 hp3 hf1 fa eW fH hz0 hz1 hz2 hz3 gP gH hy0 hy1 hy2 hy3 hy4 gG;obtain⟨p6,c6,rfl,-⟩:=(Bytes.rd fP.out.p1).form;have hp0:w6.cell? ⟨g3,0,none⟩=some (.int .i64 5):=by rw[←hk];exact fP.out.p4.cells 0
     have fJ:=hid fP.out.vn;obtain⟨hz0,hz1,hz2,hz3,gP,gH,hy0,hy1,hy2,hy3,hy4,gG⟩:=Has.az (fJ.out);go_wp2_with fail
     have h1:=fJ.out.ans ⟨0,0,0,0,ds,[]⟩ (.slice p6 ds.length c6) eS;refine bodyPost_ret (eV rfl rfl h1) rfl ?_;rw[←HR.out];refine⟨_,rfl,?_,gZ.out.ans _ _ _ _ _ _ _⟩;rw[if_pos trivial,hN,kk,Int.toNat_natCast,Int.toNat_natCast,if_neg (by decide)];dsimp only;rw[←Be.out];exact(show Has _ (Trc q S::Bytes (.slice p6 ds.length c6) ds::L) from eY.2 ⟨m,f,P,fW.out,h1.drop.re 2 [1,0]⟩).re 2 [1,0]
  ·as_aux_lemma=>exact zaW
end Go.Proofs.YtmgpgbfgemebbaaGreatDoor
namespace Go.Own
open Go.RowKit
theorem pG {P:Program}{w:World}{l:List HP}{e:TypeId}{n:Nat}{xs:List Value}{v:Value}{o:Oper}{a:Act}{Q:Exit→Act→World→Prop}{R:Act→World→Prop}(s x:Operand)(t it:TypeId)
  (ho:o.op=.call {callee := .builtin .append,args:=#[s,x],argTypes:=#[t,it]})
  {z:Value} {bytes:Nat} (ht:P.underlying t=some (.slice e)) (hit:P.underlying it=some (.int .i64)) (hi:(P.info? e).map (fun i=>(i.zero,i.size,i.bytes))=some (some z,1,bytes)) (hz:z.cells=#[z]) (h1:z.oneCell'=true)
  (hO:Has w (row v e 1 n xs::l)) (hs:a.eval s=v) (m:Nat) (hx:a.eval x=.int .i64 (m:Int)) (h63:n+m≤maxLen) (hbytes:(n+m)*bytes≤140737488355328)
  (h:∀ v' w',Has w' (row v' e 1 (n+m) (xs++List.replicate m z)::l)→Keep w w'→R (a.put o.dst v') w'):o.wp P a w R Q:=by
 obtain⟨v',w',hrun,h2,h3⟩:=hO.cC (P:=P) t it o.type ht hit hi hz h1 h63 hbytes;exact zbV
end Go.Own
namespace Go.Proofs.YtmgpgbfgemebbaaGreatDoor
open Go.RowKit Go.Own
theorem Bb (xs:List Bool):∀ u∈xs.map Value.bool,u.oneCell'=true:=by
 intro u hu;obtain⟨x,-,rfl⟩:=List.mem_map.1 hu;rfl
theorem s6 (v:Value)(xs:List Bool)(w:World)(L:List HP)(hO:Has w L)(hr:Rd w v 1 xs.length (xs.map Value.bool))(hsm:xs.length≤1000000000) :
  zCl 91 #[v] w fun e w'=>∃ v',e=.returned v'∧Has w' (Bools v' xs::L)∧Keep w w'∧l4 v'=l4 v:=by
 obtain⟨p,cap,rfl,hca,hla,hra⟩:=hr.form;have CO:=hid hra;have Hr:=hid hr;have HO:=hid hO;clear hO hra hr;rcases p with _|ad
 ·have hz:xs = []:=by
   exact zbt
  subst hz;have hnil:=Lib.run_eql_slice_nil w 80 4 none 0 cap 0 0 Tryz.underlying80;simp only[Option.isNone] at hnil;go_enter Tryz.func91,Tryz.ntmps91
  exact zcq
 ·have hnil:=Lib.run_eql_slice_nil w 80 4 (some ad) xs.length cap 0 0 Tryz.underlying80;simp only[Option.isNone] at hnil;go_enter Tryz.func91,Tryz.ntmps91
  go_wp2_with (at_builtin;refine jo rfl _ _ _ rfl Tryz.underlying80 pg rfl ((HO.out.alloc (.cells #[] 4)).row_of (n:=0) (cap:=0) (Nat.le_refl _) (Nat.zero_le _) rfl rfl rfl) rfl ad xs.length cap (xs.map Value.bool) rfl (Hr.out.alloc _) (Bb xs) (eU (by omega)) (by omega) ?_)
  intro v' w' kC hK' hN;have oc:=hid kC;have qy:=hid hK';have HN:=hid hN;clear kC hK' hN;go_wp2_with fail
  go_ret
  refine⟨_,rfl,?_,((Keep.refl _).alloc _).trans qy.out,?_⟩
  ·have:=oc.out;simpa[Bools] using this
  ·exact oc.out.bz HN.out
theorem oL (v:Value)(xs:List Bool)(w:World)(L:List HP)(hO:Has w L)(hr:Rd w v 1 xs.length (xs.map Value.bool))(hsm:xs.length≤1000000000) :
  zCl 91 #[v] w fun e w'=>∃ v',e=.returned v'∧Has w' (Bools v' xs::L)∧Keep w w' :=
 (s6 v xs w L hO hr hsm).mono fun _ _ ⟨v',h1,h2,h3,_⟩=>⟨v',h1,h2,h3⟩
theorem AY (n:Nat)(w:World)(hn:n≤1000000):zCl 104 #[.int .i64 (n:Int)] w fun e w'=>e=.returned (.int .i64 (fk n:Int))∧w=w':=by
 have h0:(0:Int)≤(n:Int):=by omega
 have h9:(n:Int)≤1000000:=by omega
 by_cases h1:(n:Int)<1
 ·have HR:=hid (by unfold fk;rw[if_neg (by omega)];omega:fk n=0);go_enter Tryz.func104,Tryz.ntmps104
  exact zcS
 ·by_cases h2:(n:Int) ≥ 20736
  ·have HR:=hid (by unfold fk;rw[if_pos (by omega)]:fk n=162);go_enter Tryz.func104,Tryz.ntmps104
   exact zcS
  ·have HR:=hid (by unfold fk;rw[if_neg (by omega)];omega:(fk n:Int)=((n:Int)+128-1) / 128);go_enter Tryz.func104,Tryz.ntmps104
   exact zcS
def gy (x:Nod):Int:=if x.aa=2 then(x.most+3) / 4 else if x.aa=3 then 1 else((x.wr.filter id).length:Int)
theorem zb (k:Nat)(hk:k<6)(w:World):zCl 147 #[.int .i64 (k:Int)] w fun e w'=>e=.returned (.tuple #[.int .i64 0,.int .i64 k,.int .i64 0])∧w=w':=by
 have h0:(0:Int)≤(k:Int):=by omega
 have h1:¬ (k:Int)<0:=by omega
 have h2:¬ (k:Int) ≥ 162:=by omega
 have h3:(k:Int)<6:=by omega
 go_enter Tryz.func147,Tryz.ntmps147
 go_wp2_with fail
 go_ret3
 exact za6
def xF:Array Value:=#[.bool false,.bool false,.bool false,.bool false,.bool false,.bool false,.bool false,.bool false,.bool false,.bool false,.bool false,.bool false]
theorem Bm (k:Nat)(hk:k<12)(w:World):(Instr.index 205 (.agg xF) (.int .i64 (k:Int))).run Tryz.prog w=.ok (.bool false) w:=by
 have:∀ i:Fin 12,∀ w:World,(Instr.index 205 (.agg xF) (.int .i64 (i.val:Int))).run Tryz.prog w=.ok (.bool false) w:=by
  exact zcf
 exact this ⟨k,hk⟩ w
theorem oT (ws:List Bool)(k:Nat)(hk:k<ws.length):((ws.take (k+1)).filter id).length=((ws.take k).filter id).length+(if ws[k]=true then 1 else 0):=by
 rw[List.take_add_one,List.getElem?_eq_getElem hk,List.filter_append,List.length_append];cases ws[k] <;> simp
theorem B8 (b:Nat)(x:Nod)(w:World)(L:List HP)(hm0:0≤x.most)(hm1:x.most≤1000000)(hw:x.wr.length≤6)(hO:Has w (Ndc b x::L)) :
  zCl 78 #[.pointer (some ⟨b,0,none⟩)] w fun e w'=>e=.returned (.int .i64 (gy x))∧Has w' (Ndc b x::L)∧Keep w w':=by
 obtain⟨dv,wv,nm,hnm,km⟩:=fG.1 hO;have lg:=hid hnm;have HP:=hid km;have hc0:=km.e0;have hc4:=km.e4;have HO:=hid hO;clear hnm km hO;by_cases hk2:x.aa=2
 ·have HB:=hid (by unfold gy;rw[if_pos hk2];congr 1;omega:gy x=(x.most+4-1) / 4);have hq:(0:Int)≤x.most+4-1:=by omega
  exact zbr
 by_cases hk3:x.aa=3
 ·have HB:=hid (by unfold gy;rw[if_neg hk2,if_pos hk3]:gy x=1);exact zbr
 ·have HB:=hid (by unfold gy;rw[if_neg hk2,if_neg hk3,List.take_length]:gy x=(((x.wr.take x.wr.length).filter id).length:Int));obtain⟨pw,cw,rfl,hcap,-,hcs⟩:=(Bools.rd HP.out.p2).form;have hc2:=HP.out.e2;have hw6:(x.wr.length:Int)≤6:=by omega
  have hw0:(0:Int)≤(x.wr.length:Int):=by omega
  clear hcs;have hbl:=HP.out.lt;have r7:=hid (HP.out.alloc (.cells xF 205));go_enter Tryz.func78,Tryz.ntmps78
  go_wp2_with fail
  go_loopw [34,3,4,5] (fun kv cv sv fv w'=>∃ k:Nat,k≤x.wr.length∧kv=.int .i64 (k:Int)∧sv=.int .i64 0∧fv=.int .i64 0∧cv=.int .i64 (((x.wr.take k).filter id).length:Int)∧Hid (Has w' (pt w.heap.size (.cells xF 205)::pt b (.cells (gg x dv (.slice pw x.wr.length cw) nm) 82)::Dat x.aa dv x.data::Bools (.slice pw x.wr.length cw) x.wr::Nms nm x.ab::L))∧Hid (Keep w w')) (fun kv _ _ _ _=>x.wr.length-(intOf kv).toNat)
  case atStart=>exact⟨0,by omega,rfl,rfl,rfl,rfl,r7,hid ((Keep.refl w).alloc _)⟩
  case round =>
   clear r7 HP HO hc0 hc4 hc2;generalize w.heap.size=g6 at *;obtain⟨k,hk,rfl,rfl,rfl,rfl,HO,HK⟩:=hrel;have hk0:(0:Int)≤(k:Int):=by omega
   by_cases hlt:k<x.wr.length
   ·have hki:(k:Int)<(x.wr.length:Int):=by omega
    obtain⟨p',c',e',-,-,hcs⟩:=(Bools.rd HO.out.p3).form;obtain⟨gw,ow,rfl,hcs2⟩:=hcs (by omega);simp only[Value.slice.injEq,true_and] at e';obtain⟨rfl,rfl⟩:=e';have Bo:wr.cell? ⟨gw,ow+k,none⟩=some (.bool x.wr[k]):=by
     rw[hcs2 k (by omega),List.getElem?_map,List.getElem?_eq_getElem hlt];rfl
    have hsc:=oT x.wr k hlt;have hcl:((x.wr.take k).filter id).length≤6:=by
     have h1:=List.length_filter_le id (x.wr.take k);have h2:(x.wr.take k).length≤k:=by simp;omega
     omega
    clear hcs hcs2;generalize x.wr[k]=bv at *;cases bv
    ·have jN:=hid (by rw[hsc];simp:((x.wr.take (k+1)).filter id).length=((x.wr.take k).filter id).length);clear hsc;go_wp2_with fail
     exact⟨⟨k+1,by omega,by go_num,rfl,rfl,by rw[jN.out],HO,HK⟩,by simp[intOf];omega⟩
    ·rw[if_pos rfl] at hsc;have jN:=hid hsc;clear hsc;generalize ((x.wr.take k).filter id).length=cn at *;have Ke:(0:Int)≤(cn:Int):=by omega
     have Mq:(cn:Int)≤6:=by omega
     go_wp2_with fail
     refine(zb k (by omega) _).mono ?_;rintro e w' ⟨rfl,rfl⟩;try dsimp only
     go_wp2_with fail
     exact⟨⟨k+1,by omega,by go_num,rfl,rfl,by rw[jN.out];go_num,HO,HK⟩,by simp[intOf];omega⟩
   ·obtain rfl:k=x.wr.length:=by omega
    have hki:¬ (x.wr.length:Int)<(x.wr.length:Int):=by omega
    have hcl:((x.wr.take x.wr.length).filter id).length≤6:=by
     have h1:=List.length_filter_le id (x.wr.take x.wr.length);have h2:(x.wr.take x.wr.length).length≤x.wr.length:=by simp
     omega
    generalize ((x.wr.take x.wr.length).filter id).length=cn at *;have Ke:(0:Int)≤(cn:Int):=by omega
    have Mq:(cn:Int)≤6:=by omega
    have z0:wr.cell? ⟨g6,0,none⟩=some (.bool false):=HO.out.cells 0;have z1:wr.cell? ⟨g6,1,none⟩=some (.bool false):=HO.out.cells 1;have z2:wr.cell? ⟨g6,2,none⟩=some (.bool false):=HO.out.cells 2;have z3:wr.cell? ⟨g6,3,none⟩=some (.bool false):=HO.out.cells 3;have z4:wr.cell? ⟨g6,4,none⟩=some (.bool false):=HO.out.cells 4;have z5:wr.cell? ⟨g6,5,none⟩=some (.bool false):=HO.out.cells 5;have z6:wr.cell? ⟨g6,6,none⟩=some (.bool false):=HO.out.cells 6;have z7:wr.cell? ⟨g6,7,none⟩=some (.bool false):=HO.out.cells 7;have z8:wr.cell? ⟨g6,8,none⟩=some (.bool false):=HO.out.cells 8;have z9:wr.cell? ⟨g6,9,none⟩=some (.bool false):=HO.out.cells 9;have z10:wr.cell? ⟨g6,10,none⟩=some (.bool false):=HO.out.cells 10;have z11:wr.cell? ⟨g6,11,none⟩=some (.bool false):=HO.out.cells 11;go_wp2_with fail
    clear z0 z1 z2 z3 z4 z5 z6 z7 z8 z9 z10 z11;go_loopw [58,3] (fun kv cv w'=>∃ k:Nat,k≤12∧kv=.int .i64 (k:Int)∧cv=.int .i64 (cn:Int)∧Hid (Has w' (pt g6 (.cells xF 205)::pt b (.cells (gg x dv (.slice pw x.wr.length cw) nm) 82)::Dat x.aa dv x.data::Bools (.slice pw x.wr.length cw) x.wr::Nms nm x.ab::L))∧Hid (Keep w w')) (fun kv _ _=>12-(intOf kv).toNat)
    case atStart=>exact⟨0,by omega,rfl,rfl,HO,HK⟩
    case round =>
     clear HO HK;obtain⟨k,hk12,rfl,rfl,HO,HK⟩:=hrel;have hk0:(0:Int)≤(k:Int):=by omega
     by_cases hlt2:k<12
     ·have L4:(k:Int)<12:=by omega
      have hi:=Bm k hlt2 wr;unfold xF at hi;go_wp2_with fail
      exact⟨⟨k+1,by omega,by go_num,rfl,HO,HK⟩,by simp[intOf];omega⟩
     ·obtain rfl:k=12:=by omega
      rw[show ((12:Nat):Int)=12 from rfl];go_wp2_with fail
      go_ret
      rw[HB.out];exact⟨rfl,fG.2 ⟨_,_,_,lg.out,HO.out.re 5 [1,2,3,4]⟩,HK.out⟩
def plA (k:Nat):Int:=if k<6 then 0 else if k<18 then 1 else if k<162 then 2 else -1
def plB (k:Nat):Int:=if k<6 then(k:Int) else if k<18 then(k:Int)-6 else if k<162 then(((k-18) / 12:Nat):Int) else -1
theorem CY (k:Nat)(hk:k≤1000000)(w:World):zCl 147 #[.int .i64 (k:Int)] w fun e w'=>(∃ c:Int,e=.returned (.tuple #[.int .i64 (plA k),.int .i64 (plB k),.int .i64 c]))∧w=w':=by
 have h0:(0:Int)≤(k:Int):=by omega
 have h1:¬ (k:Int)<0:=by omega
 by_cases ha:k<6
 ·have eA:plA k=0:=by unfold plA;rw[if_pos ha]
  have eB:plB k=k:=by unfold plB;rw[if_pos ha]
  rw[eA,eB];refine(zb k ha w).mono ?_;rintro e w' ⟨rfl,rfl⟩;exact⟨⟨_,rfl⟩,rfl⟩
 by_cases hb:k<18
 ·have eA:plA k=1:=by unfold plA;rw[if_neg ha,if_pos hb]
  have eB:plB k=(k:Int)-6:=by unfold plB;rw[if_neg ha,if_pos hb]
  rw[eA,eB];have h2:¬ (k:Int) ≥ 162:=by omega
  have h3:¬ (k:Int)<6:=by omega
  have h4:(k:Int)<18:=by omega
  go_enter Tryz.func147,Tryz.ntmps147
  go_wp2_with fail
  go_ret3
  first|exact⟨⟨_,rfl⟩,rfl⟩|exact⟨⟨_,by go_num⟩,rfl⟩
 by_cases hc:k<162
 ·have eA:plA k=2:=by unfold plA;rw[if_neg ha,if_neg hb,if_pos hc]
  have eB:plB k=(((k-18) / 12:Nat):Int):=by unfold plB;rw[if_neg ha,if_neg hb,if_pos hc]
  rw[eA,eB];have h2:¬ (k:Int) ≥ 162:=by omega
  have h3:¬ (k:Int)<6:=by omega
  have h4:¬ (k:Int)<18:=by omega
  have h5:(0:Int)≤(k:Int)-18:=by omega
  have hq:((k:Int)-18) / 12=(((k-18) / 12:Nat):Int):=by omega
  go_enter Tryz.func147,Tryz.ntmps147
  exact zbZ
 ·have eA:plA k = -1:=by unfold plA;rw[if_neg ha,if_neg hb,if_neg hc]
  have eB:plB k = -1:=by unfold plB;rw[if_neg ha,if_neg hb,if_neg hc]
  rw[eA,eB];have h2:(k:Int) ≥ 162:=by omega
  go_enter Tryz.func147,Tryz.ntmps147
  exact zbZ
def mT (s:Nat×Int×Int×List Bool)(k:Nat)(b:Bool):Nat×Int×Int×List Bool :=
 if b=true then(s.1+1,if plA k=1 then 1 else s.2.1,if plA k=2 then 1 else s.2.2.1,if plA k=2 then s.2.2.2.set ((k-18) / 12) true else s.2.2.2) else s
def bst (ws:List Bool):Nat→Nat×Int×Int×List Bool
 | 0=>(0,0,0,List.replicate 12 false)
 | k+1=>mT (bst ws k) k (ws.getD k false)
theorem mq (ws:List Bool):∀ k,(bst ws k).1≤k∧((bst ws k).2.1=0∨(bst ws k).2.1=1)∧((bst ws k).2.2.1=0∨(bst ws k).2.2.1=1)∧(bst ws k).2.2.2.length=12
 | 0=>⟨Nat.le_refl 0,.inl rfl,.inl rfl,rfl⟩
 | k+1=>by
  have ih:=mq ws k;rw[bst,mT];split
  ·refine⟨by dsimp only;omega,?_,?_,?_⟩
   ·dsimp only;split
    ·exact .inr rfl
    ·exact ih.2.1
   ·dsimp only;split
    ·exact .inr rfl
    ·exact ih.2.2.1
   ·dsimp only;split
    ·rw[List.length_set];exact ih.2.2.2
    ·exact ih.2.2.2
  ·exact⟨by omega,ih.2⟩
def fD (x:Nod):Int:=if x.aa=2 then(x.most+3) / 4 else if x.aa=3 then 1 else((bst x.wr x.wr.length).1:Int)+(((bst x.wr x.wr.length).2.2.2.filter id).length:Int)+(bst x.wr x.wr.length).2.1+(bst x.wr x.wr.length).2.2.1
def aB (l:List Bool):Array Value:=(l.map Value.bool).toArray
theorem Fw (l:List Bool)(i:Nat)(b:Bool):(aB l).setIfInBounds i (.bool b)=aB (l.set i b):=by
 unfold aB;rw[List.setIfInBounds_toArray,List.map_set]
theorem DW (l:List Bool)(i:Nat)(h:i<l.length):(aB l)[i]? = some (.bool l[i]):=by
 unfold aB;simp[h]
theorem Em (l:List Bool)(hl:l.length=12)(k:Nat)(hk:k<12)(w:World):(Instr.index 205 (.agg (aB l)) (.int .i64 (k:Int))).run Tryz.prog w=.ok (.bool (l.getD k false)) w:=by
 match l,hl with
 | [b0,b1,b2,b3,b4,b5,b6,b7,b8,b9,b10,b11],_ =>
  have:∀ i:Fin 12,∀ w:World,(Instr.index 205 (.agg (aB [b0,b1,b2,b3,b4,b5,b6,b7,b8,b9,b10,b11])) (.int .i64 (i.val:Int))).run Tryz.prog w=.ok (.bool ([b0,b1,b2,b3,b4,b5,b6,b7,b8,b9,b10,b11].getD i.val false)) w:=by
   exact zcf
  exact this ⟨k,hk⟩ w
theorem zV (b:Nat)(x:Nod)(w:World)(L:List HP)(hm0:0≤x.most)(hm1:x.most≤1000000)(hw:x.wr.length≤100000)(hO:Has w (Ndc b x::L)) :
  zCl 78 #[.pointer (some ⟨b,0,none⟩)] w fun e w'=>e=.returned (.int .i64 (fD x))∧Has w' (Ndc b x::L)∧Keep w w':=by
 by_cases hk2:x.aa=2
 ·have h1:fD x=gy {x with wr := []} := by unfold fD gy;simp only[hk2,if_true]
  obtain⟨dv,wv,nm,hnm,km⟩:=fG.1 hO;have HO:=hid hO;have hc0:=km.e0;have hc4:=km.e4;clear hnm km hO h1;have HB:=hid (by unfold fD;rw[if_pos hk2];congr 1;omega:fD x=(x.most+4-1) / 4);have hq:(0:Int)≤x.most+4-1:=by omega
  as_aux_lemma=>exact zbr
 by_cases hk3:x.aa=3
 ·obtain⟨dv,wv,nm,hnm,km⟩:=fG.1 hO;have HO:=hid hO;have hc0:=km.e0;clear hnm km hO;have HB:=hid (by unfold fD;rw[if_neg hk2,if_pos hk3]:fD x=1)
  as_aux_lemma=>exact zbr
 ·obtain⟨dv,wv,nm,hnm,km⟩:=fG.1 hO;have lg:=hid hnm;have HP:=hid km;have hc0:=km.e0;have hc4:=km.e4;have HO:=hid hO;clear hnm km hO;have HB:=hid (by unfold fD;rw[if_neg hk2,if_neg hk3]:fD x=((bst x.wr x.wr.length).1:Int)+(((bst x.wr x.wr.length).2.2.2.filter id).length:Int)+(bst x.wr x.wr.length).2.1+(bst x.wr x.wr.length).2.2.1);obtain⟨pw,cw,rfl,hcap,-,hcs⟩:=(Bools.rd HP.out.p2).form;have hc2:=HP.out.e2;have hw6:(x.wr.length:Int)≤100000:=by omega
  have hw0:(0:Int)≤(x.wr.length:Int):=by omega
  clear hcs;have hbl:=HP.out.lt;have r7:=hid (HP.out.alloc (.cells (aB (List.replicate 12 false)) 205));go_enter Tryz.func78,Tryz.ntmps78
  go_wp2_with fail
  go_loopw [34,3,4,5] (fun kv cv sv fv w'=>∃ (k c:Nat) (s f:Int) (l:List Bool),k≤x.wr.length∧kv=.int .i64 (k:Int)∧cv=.int .i64 (c:Int)∧sv=.int .i64 s∧fv=.int .i64 f∧Hid (bst x.wr k=(c,s,f,l))∧Hid (Has w' (pt w.heap.size (.cells (aB l) 205)::pt b (.cells (gg x dv (.slice pw x.wr.length cw) nm) 82)::Dat x.aa dv x.data::Bools (.slice pw x.wr.length cw) x.wr::Nms nm x.ab::L))∧Hid (Keep w w')) (fun kv _ _ _ _=>x.wr.length-(intOf kv).toNat)
  case atStart=>exact⟨0,0,0,0,_,by omega,rfl,rfl,rfl,rfl,hid rfl,r7,hid ((Keep.refl w).alloc _)⟩
  case round =>
   clear r7 HP HO hc0 hc4 hc2;generalize w.heap.size=g6 at *;obtain⟨k,c,s,f,l,hk,rfl,rfl,rfl,rfl,HS,HO,HK⟩:=hrel;have hk0:(0:Int)≤(k:Int):=by omega
   have hlow:=mq x.wr k;rw[HS.out] at hlow;obtain⟨N7,hs9,JQ,Cd⟩:=hlow;dsimp only at N7 hs9 JQ Cd;have sC:=hid Cd;have NO:=hid (And.intro hs9 JQ);have hci:(c:Int)≤100000:=by omega
   have O9:(0:Int)≤(c:Int):=by omega
   clear hs9 JQ Cd;by_cases hlt:k<x.wr.length
   ·have hki:(k:Int)<(x.wr.length:Int):=by omega
    obtain⟨p',c',e',-,-,hcs⟩:=(Bools.rd HO.out.p3).form;obtain⟨gw,ow,rfl,hcs2⟩:=hcs (by omega);simp only[Value.slice.injEq,true_and] at e';obtain⟨rfl,rfl⟩:=e';have Bo:wr.cell? ⟨gw,ow+k,none⟩=some (.bool x.wr[k]):=by
     rw[hcs2 k (by omega),List.getElem?_map,List.getElem?_eq_getElem hlt];rfl
    have hnx:bst x.wr (k+1)=mT (c,s,f,l) k x.wr[k]:=by
     rw[bst,HS.out,List.getD_eq_getElem?_getD,List.getElem?_eq_getElem hlt];rfl
    clear hcs hcs2;generalize x.wr[k]=bv at *;cases bv
    ·have HN:=hid (show bst x.wr (k+1)=(c,s,f,l) from hnx);clear hnx;go_wp2_with fail
     exact⟨⟨k+1,c,s,f,l,by omega,by go_num,rfl,rfl,rfl,HN,HO,HK⟩,by simp[intOf];omega⟩
    ·have HN:=hid (show bst x.wr (k+1)=(c+1,(if plA k=1 then 1 else s),(if plA k=2 then 1 else f),(if plA k=2 then l.set ((k-18) / 12) true else l)) from hnx);clear hnx;have hAB:plA k=2∧plB k=(((k-18) / 12:Nat):Int)∧(k-18) / 12<12∨plA k≠2:=by
      by_cases h6:k<6
      ·right;unfold plA;rw[if_pos h6];decide
      by_cases h18:k<18
      ·right;unfold plA;rw[if_neg h6,if_pos h18];decide
      by_cases EH:k<162
      ·left;refine⟨?_,?_,by omega⟩
       ·unfold plA;rw[if_neg h6,if_neg h18,if_pos EH]
       ·unfold plB;rw[if_neg h6,if_neg h18,if_pos EH]
      ·right;unfold plA;rw[if_neg h6,if_neg h18,if_neg EH];decide
     go_wp2_with fail
     refine(CY k (by omega) _).mono ?_;rintro e w' ⟨⟨cc,rfl⟩,rfl⟩;try dsimp only
     generalize hpa:plA k=pa at *;generalize hpb:plB k=pb at *;clear hpa hpb;rcases hAB with ⟨rfl,rfl,hj⟩|hne
     ·have hne1:((2:Int)==1)=false:=by decide
      generalize (k-18) / 12=j at *;have hj0:(0:Int)≤(j:Int):=by omega
      have Pe:(j:Int)<12:=by omega
      have hjl:j<l.length:=by have:=sC.out;omega
      have hcj:wr.cell? ⟨g6,j,none⟩=some (.bool l[j]):=(HO.out.cells j).trans (DW l j hjl);have hth:=HO.out.thaw j;go_wp2_with fail
      have mZ:=HN.out;rw[if_neg (by decide),if_pos rfl,if_pos rfl] at mZ;have h9:=HO.out.set j (.bool true);rw[Fw] at h9;exact⟨⟨k+1,c+1,s,1,l.set j true,by omega,by go_num,by go_num,rfl,rfl,hid mZ,hid h9,hid (HK.out.set _ _)⟩,by simp[intOf];omega⟩
     ·have hne2:(pa==2)=false:=by simpa using hne
      by_cases h1:pa=1
      ·subst h1;go_wp2_with fail
       have mZ:=HN.out;rw[if_pos rfl,if_neg (by decide),if_neg (by decide)] at mZ;exact⟨⟨k+1,c+1,1,f,l,by omega,by go_num,by go_num,rfl,rfl,hid mZ,HO,HK⟩,by simp[intOf];omega⟩
      ·have h1':(pa==1)=false:=by simpa using h1
       go_wp2_with fail
       have mZ:=HN.out;rw[if_neg h1,if_neg hne,if_neg hne] at mZ;exact⟨⟨k+1,c+1,s,f,l,by omega,by go_num,by go_num,rfl,rfl,hid mZ,HO,HK⟩,by simp[intOf];omega⟩
   ·obtain rfl:k=x.wr.length:=by omega
    have hki:¬ (x.wr.length:Int)<(x.wr.length:Int):=by omega
    have HB2:=hid (by rw[HB.out,HS.out]:fD x=(c:Int)+((l.filter id).length:Int)+s+f);have HL2:=hid (show ∀ i,i<12→wr.cell? ⟨g6,i,none⟩=some (.bool (l.getD i false)) from fun i hi=>by
     rw[HO.out.cells i,DW l i (by rw[sC.out];exact hi),List.getD_eq_getElem?_getD,List.getElem?_eq_getElem (by rw[sC.out];exact hi)];rfl)
    have z0:=HL2.out 0 (by decide);have z1:=HL2.out 1 (by decide);have z2:=HL2.out 2 (by decide);have z3:=HL2.out 3 (by decide);have z4:=HL2.out 4 (by decide);have z5:=HL2.out 5 (by decide);have z6:=HL2.out 6 (by decide);have z7:=HL2.out 7 (by decide);have z8:=HL2.out 8 (by decide);have z9:=HL2.out 9 (by decide);have z10:=HL2.out 10 (by decide);have z11:=HL2.out 11 (by decide);have hix:=Em l sC.out;have haB:aB l=#[.bool (l.getD 0 false),.bool (l.getD 1 false),.bool (l.getD 2 false),.bool (l.getD 3 false),.bool (l.getD 4 false),.bool (l.getD 5 false),.bool (l.getD 6 false),.bool (l.getD 7 false),.bool (l.getD 8 false),.bool (l.getD 9 false),.bool (l.getD 10 false),.bool (l.getD 11 false)]:=by
     have:=sC.out
     match l,this with
     | [_,_,_,_,_,_,_,_,_,_,_,_],_=>rfl
    rw[haB] at hix;have N3:=hid hix;clear hix haB;generalize l.getD 0 false=b0 at *;generalize l.getD 1 false=b1 at *;generalize l.getD 2 false=b2 at *;generalize l.getD 3 false=b3 at *;generalize l.getD 4 false=b4 at *;generalize l.getD 5 false=b5 at *;generalize l.getD 6 false=b6 at *;generalize l.getD 7 false=b7 at *;generalize l.getD 8 false=b8 at *;generalize l.getD 9 false=b9 at *;generalize l.getD 10 false=b10 at *;generalize l.getD 11 false=b11 at *;go_wp2_with fail
    clear z0 z1 z2 z3 z4 z5 z6 z7 z8 z9 z10 z11;go_loopw [58,3] (fun kv cv w'=>∃ k:Nat,k≤12∧kv=.int .i64 (k:Int)∧cv=.int .i64 ((c+((l.take k).filter id).length:Nat):Int)∧Hid (Has w' (pt g6 (.cells (aB l) 205)::pt b (.cells (gg x dv (.slice pw x.wr.length cw) nm) 82)::Dat x.aa dv x.data::Bools (.slice pw x.wr.length cw) x.wr::Nms nm x.ab::L))∧Hid (Keep w w')) (fun kv _ _=>12-(intOf kv).toNat)
    case atStart=>exact⟨0,by omega,rfl,rfl,HO,HK⟩
    case round =>
     clear HO HK;obtain⟨k,hk12,rfl,rfl,HO,HK⟩:=hrel;have hk0:(0:Int)≤(k:Int):=by omega
     have hfl:((l.take k).filter id).length≤12:=by
      have h1:=List.length_filter_le id (l.take k);have h2:(l.take k).length≤k:=by simp;omega
      omega
     by_cases hlt2:k<12
     ·have L4:(k:Int)<12:=by omega
      have hi:=N3.out k hlt2 wr;have hsc:=oT l k (by rw[sC.out];exact hlt2);have hgd:l.getD k false=l[k]'(by rw[sC.out];exact hlt2):=by
       rw[List.getD_eq_getElem?_getD,List.getElem?_eq_getElem (by rw[sC.out];exact hlt2)];rfl
      rw[hgd] at hi;have jN:=hid hsc;clear hsc hgd;generalize l[k]'(by rw[sC.out];exact hlt2)=bv at *;obtain⟨cn,hcn⟩:∃ cn,((l.take k).filter id).length=cn:=⟨_,rfl⟩
      rw[hcn] at hfl jN;rw[hcn];clear hcn;obtain⟨ct,hct⟩:∃ ct,ct=c+cn:=⟨_,rfl⟩
      rw[←hct];have EF:(0:Int)≤(ct:Int):=by omega
      have JX:(ct:Int)≤200000:=by omega
      cases bv
      ·have HT:=hid (by rw[jN.out,hct];simp:ct=c+((l.take (k+1)).filter id).length);clear hct;go_wp2_with fail
       exact⟨⟨k+1,by omega,by go_num,by rw[HT.out],HO,HK⟩,by simp[intOf];omega⟩
      ·have HT:=hid (by rw[jN.out,hct];simp;omega:ct+1=c+((l.take (k+1)).filter id).length);clear hct;go_wp2_with fail
       exact⟨⟨k+1,by omega,by go_num,by rw[←HT.out];go_num,HO,HK⟩,by simp[intOf];omega⟩
     ·obtain rfl:k=12:=by omega
      rw[show ((12:Nat):Int)=12 from rfl];have HT:=hid (by rw[List.take_of_length_le (by rw[sC.out];exact Nat.le_refl _)]:((l.take 12).filter id).length=(l.filter id).length);generalize ((l.take 12).filter id).length=cn at *;obtain⟨ct,hct⟩:∃ ct,ct=c+cn:=⟨_,rfl⟩
      rw[←hct];have EF:(0:Int)≤(ct:Int):=by omega
      have JX:(ct:Int)≤200000:=by omega
      have HB3:=hid (by rw[HB2.out,←HT.out,hct];push_cast;rfl:fD x=(ct:Int)+s+f);have Oa:0≤s∧s≤1:=by have:=NO.out.1;omega
      have hfr:0≤f∧f≤1:=by have:=NO.out.2;omega
      obtain⟨hs0,hs1⟩:=Oa;obtain⟨hf0,hf1⟩:=hfr;clear hct;go_wp2_with fail
      go_ret
      rw[HB3.out];exact⟨by first|rfl|go_num,fG.2 ⟨_,_,_,lg.out,HO.out.re 5 [1,2,3,4]⟩,HK.out⟩
theorem o4 (q:Nat)(S:Tre)(p:Str)(fo:Bool)(mx:Int)(w:World)(L:List HP)(hW:Wk S)(hM:MxL mx L)(hp:p.length≤100000)(hO:Has w (Trc q S::L)) :
  zCl 76 #[.pointer (some ⟨q,0,none⟩),sV p,.bool fo] w fun e w'=>e=.returned (.tuple #[spV (S.find p fo).1,.int .i64 (S.find p fo).2])∧Has w' (Trc q S::L)∧Keep w w':=by
 have Bi:=hid (fun(w:World)(L':List HP)(hM:MxL mx L')(hO:Has w L')=>AZ p mx w L' hM hp hO);have hl:=iU p;have Gb:=kr p;have HF:=hid (show S.find p fo=if (fb p).2≠0 then(fp,(fb p).2) else S.walk ⟨1,0,[]⟩ 0 (fb p).1 fo from rfl);generalize S.find p fo=R at *;generalize fb p=M at *;obtain⟨ps,me⟩:=M;dsimp only at *;have HM:=hid hM;have HT:=hid (fun(v:Value)(w:World)(L':List HP)(hM:MxL mx L')(hO:Has w (VwS v ps::Trc q S::L'))=>Hu q S 1 v ps fo mx w L' hW hM hW.root (by omega) Gb hO);generalize S.walk ⟨1,0,[]⟩ 0 ps fo=R2 at *;obtain⟨s2,e2⟩:=R2;dsimp only at *;have HO:=hid hO;clear hM hO hl Gb hp;go_enter Tryz.func76,Tryz.ntmps76
 go_wp2_with fail
 refine(Bi.out _ _ ((HM.out.cons _).cons (pt w.heap.size (.cells (spC fp) 102))) (HO.out.alloc _)).mono ?_;rintro e w1 ⟨v1,rfl,iq,hK1⟩;have eT:=hid iq;have ff:=hid (((Keep.refl w).alloc _).trans hK1);clear iq hK1;try dsimp only
 obtain⟨p1,c1,rfl,-⟩:=(Strs.rd eT.out).form;generalize w.heap.size=g8 at *;have iQ:=eT.out.p1.e0;have iP:=eT.out.p1.e1;have iS:=eT.out.p1.e2;have ja:=eT.out.p1.thaw 0;have jf:=eT.out.p1.thaw 1;have jh:=eT.out.p1.thaw 2;by_cases he:me=0
 ·subst he;have HR:=hid (by rw[HF.out,if_neg (by simp)]:R=(s2,e2));go_wp2_with fail
  refine st (HT.out _ w1 _ (HM.out.cons (pt g8 (.cells (spC fp) 102))) (VwS.of (eT.out.re 3 [0,2,1]))) (ff.out) fun w2 eZ fu=>?_;try dsimp only
  clear iQ iP iS ja jf jh;have iQ:=eZ.out.p1.e0;have iP:=eZ.out.p1.e1;have iS:=eZ.out.p1.e2;have ja:=eZ.out.p1.thaw 0;have jf:=eZ.out.p1.thaw 1;have jh:=eZ.out.p1.thaw 2;unfold spV spC;go_wp2_with fail
  have h1:=(show Has w2 (pt g8 (.cells (spC fp) 102)::Trc q S::L) from eZ.out.re 2 [1,0]).aS s2;refine bodyPost_ret (gV s2 rfl rfl rfl h1) rfl ?_;rw[HR.out];exact⟨rfl,h1.drop,fu.out.aS _ _ _ _⟩
 ·have HR:=hid (by rw[HF.out,if_pos he]:R=(fp,me));clear HF;go_wp2_with fail
  have h1:=(show Has w1 (pt g8 (.cells (spC fp) 102)::Trc q S::L) from eT.out.re 3 [1,2]).aS fp;refine bodyPost_ret (gV fp rfl rfl rfl h1) rfl ?_;rw[HR.out];exact⟨rfl,h1.drop,ff.out.aS _ _ _ _⟩
theorem Dl (v:Value)(parts:List Str)(w:World)(L:List HP)(hr:Rd w v 1 parts.length (parts.map sV))(hl:parts.length≤1000)(hj:(kw parts).length≤1000000)(hO:Has w L) :
  zCl 175 #[v] w fun e w'=>e=.returned (.bool (Tre.longM parts))∧Has w' L∧Keep w w':=by
 have HJ:=hid (Dq v parts w L hr (by omega) hj hO);obtain⟨p1,c1,rfl,-⟩:=hr.form;have hm:Tre.longM parts=(decide (20<parts.length)||decide (200<(ii parts).length)):=rfl;have HO:=hid hO;generalize ii parts=js at *;clear hO hr hj;by_cases h20:(20:Int)<(parts.length:Int)
 ·have HR:=hid (by rw[hm,decide_eq_true (by omega)];rfl:Tre.longM parts=true);clear hm;go_enter Tryz.func175,Tryz.ntmps175
  go_wp2_with fail
  go_ret
  rw[HR.out];exact zcb
 ·have HR:=hid (by rw[hm,decide_eq_false (by omega)];simp;omega:Tre.longM parts=decide ((200:Int)<(js.length:Int)));clear hm;go_enter Tryz.func175,Tryz.ntmps175
  go_wp2_with fail
  refine st (HJ.out) (Keep.refl w) fun w1 eT ff=>?_;try dsimp only
  go_wp2_with fail
  go_ret
  rw[HR.out];exact⟨rfl,eT.out,ff.out⟩
def orM (p:Str):Str:=if p = [] then [47] else p
theorem IA (g:Nat)(p:Str)(w:World)(h0:w.cell? ⟨g,0,none⟩=some (sV p))(h1:w.cell? ⟨g,1,none⟩=some (sV [47])):zCl 86 #[.slice (some ⟨g,0,none⟩) 2 2] w fun e w'=>e=.returned (sV (orM p))∧w=w':=by
 go_enter Tryz.func86,Tryz.ntmps86
 go_wp2_with fail
 go_loopw [8] (fun kv w'=>w'=w∧((kv=.int .i64 0)∨(kv=.int .i64 1∧p = []))) (fun kv _=>2-(intOf kv).toNat)
 case atStart=>exact⟨rfl,.inl rfl⟩
 case round =>
  obtain⟨rfl,rfl|⟨rfl,rfl⟩⟩:=hrel
  ·by_cases hp:p = []
   ·subst hp;go_wp2_with fail
    exact⟨⟨trivial,.inr ⟨rfl,trivial⟩⟩,by simp[intOf]⟩
   ·have HR:=hid (show orM p=p from if_neg hp);have he:p.isEmpty=false:=by simpa using hp
    have he2:(p == [])=false:=by simpa using hp
    have he3:(p != [])=true:=by simpa using hp
    clear hp;go_wp2_with fail
    try rw[Exit.noGoto_ret]
    go_ret
    rw[HR.out];exact za6
  ·have HR:=hid (show orM [] = [47] from rfl);go_wp2_with fail
   try rw[Exit.noGoto_ret]
   go_ret
   rw[HR.out];exact za6
theorem qP (w:World):(Instr.range tNm (.map none)).run Tryz.prog w=.ok (.pointer (some ⟨w.heap.size,0,none⟩)) (w.alloc (.mapIter none 0 #[] 0)):=by
 unfold Instr.range;simp only[Sem.run_bind,run_underlying jg,Result.andThen_ok,Sem.run_pure];rfl
theorem sZ (r:Nat)(w:World)(T:TypeId)(h:w.heap[r]? = some (.mapIter none 0 #[] 0)):(Instr.next (.pointer (some ⟨r,0,none⟩)) false T).run Tryz.prog w=.ok (.tuple #[.bool false]) w:=by
 unfold Instr.next;have e:(getObj r).run Tryz.prog w=.ok (.mapIter none 0 #[] 0) w:=by
  simp[getObj,Sem.run,h]
 simp only[Sem.run_bind,e,Result.andThen_ok,Sem.run_pure]
end Go.Proofs.YtmgpgbfgemebbaaGreatDoor
namespace Go.Own
open Go.RowKit
section
variable {w w':World} {l:List HP} {v:Value} {e:TypeId} {size n:Nat} {xs:List Value}
theorem Has.grow (h:Has w l)(os:Array Obj):Has (Sort.grow w os) l:=h.frame fun k hk=>by
 show (w.heap++os)[k]? = _;rw[Array.getElem?_append_left hk]
theorem Has.ahead (h:Has w l)(m:Nat):Has (Sort.ahead w m) l:=h
theorem Has.putRow {α:Type} [Inhabited α] (enc:α→Value) {g cap m:Nat} {d:Array α} (h:Has w (row (.slice (some ⟨g,0,none⟩) m cap) e 1 n xs::l)) (hd:d.size=n) :
  Has (Sort.putRow enc w g 0 d) (row (.slice (some ⟨g,0,none⟩) m cap) e 1 n (d.toList.map enc)::l):=by
 obtain⟨hl,h|⟨g',cap',cur,e1,h1,h2,h3,h4,h5⟩⟩:=h.ao
 ·exact absurd h.1 (by simp)
 ·simp only[Value.slice.injEq,Option.some.injEq,Addr.mk.injEq] at e1;obtain⟨⟨rfl,-,-⟩,rfl,rfl⟩:=e1;subst hd;have hp:Has (Sort.putRow enc w g 0 d) (pt g (.cells (Sort.putCells enc 0 d cur) e)::l):=by
   exact zbU
  refine hp.row_of h1 h2 (by simpa[Sort.putCells] using h3) ?_ (by simp);apply List.ext_getElem?;intro k;rw[Nat.mul_one] at h3;by_cases hk:k<d.size
  ·have hkc:k<cur.size:=by omega
   rw[Nat.mul_one,List.getElem?_take,if_pos hk,Array.getElem?_toList,Sort.putCells,Array.getElem?_mapIdx,Array.getElem?_eq_getElem hkc,Option.map_some,if_pos ⟨Nat.zero_le _,by omega⟩,List.getElem?_map,Array.getElem?_toList,Nat.sub_zero,
    Array.getElem?_eq_getElem hk,Option.map_some,getElem!_pos d k hk]
  ·exact za5
end
end Go.Own
namespace Go.Proofs.YtmgpgbfgemebbaaGreatDoor
open Go.RowKit Go.Own
theorem uE {w:World}{L:List HP}{g cap m:Nat}{l:List Str}(hO:Has w (Strs (.slice (some ⟨g,0,none⟩) m cap) l::L)):Sort.Holds encStr w g 0 l.toArray:=by
 obtain⟨-,hc,hf,-,-⟩:=hO.aE;intro j hj;have hj':j<l.length:=by simpa using hj
 refine⟨?_,by rw[Nat.zero_add];exact hf j⟩;rw[Nat.zero_add,hc j (by omega),List.getElem?_map,List.getElem?_eq_getElem hj',Option.map_some,getElem!_pos _ j hj,List.getElem_toArray]
theorem zt (v:Value)(l:List Str)(w:World)(L:List HP)(hl:l.length≤1000000)(hO:Has w (Strs v l::L)) :
  zCl 188 #[v] w fun e w'=>e=.returned (.tuple #[])∧Has w' (Strs v l.reverse::L)∧Keep w w':=by
 obtain⟨h1,⟨rfl,h2,h3,-⟩|⟨g,cap,cur,rfl,h2,h3,-,-,h4⟩⟩:=Has.ao hO
 ·have hn:l = []:=List.eq_nil_of_length_eq_zero h2;subst hn;refine(Tryz.slices_Reverse_string_empty none 0 w).mono ?_;rintro e w' ⟨rfl,rfl⟩;exact⟨rfl,by simpa using hO,Keep.refl _⟩
 ·refine(Tryz.slices_Reverse_string g 0 cap l w (uE hO) (by omega)).mono ?_;rintro e w' ⟨rfl,m,rfl⟩;have h5:=(Has.ahead hO m).putRow (d:=l.reverse.toArray) encStr (by simp);refine⟨rfl,?_,rfl,rfl,rfl,by simp[Sort.putRow,Sort.mapBlock,Sort.ahead]⟩;unfold Strs;rw[List.length_reverse];exact h5
theorem pK (p:Str):kStr.val p=sV p:=rfl
theorem pi (x:Int):vInt.val x=.int .i64 x:=rfl
def lL (nm:Str)(rem:List Str):List Str:=if nm∈rem then [] else [nm]
theorem s5 {nm:Str}{rem:List Str}(h:nm∈rem):lL nm rem = []:=if_pos h
theorem yY {nm:Str}{rem:List Str}(h:nm∉rem):lL nm rem = [nm]:=if_neg h
theorem Fi (q m f:Nat)(P:List Pn)(S:Tre)(rk:Int→Nat)(n0:Int)(x0:Nod)(w:World)(L:List HP)(hW:Wy S rk)(hn:fnd S.ac n0=some x0)(hJ:pnN P=S.ac∧S.ak.length=16)(hO:Has w (Trb q m f P S.last S.ak::L)) :
  zCl 128 #[.pointer (some ⟨q,0,none⟩),.int .i64 n0] w fun e w'=>∃ v,e=.returned v∧Has w' (Strs v (S.way n0)::Trb q m f P S.last S.ak::L)∧Keep w w':=by
 have HW:=hid hW;have fW:=hid hJ;have HO:=hid hO;have hlow:=hW.low n0;generalize hR:S.way n0=R;have HR:=hid hR;clear hW hO hJ hR;go_enter Tryz.func128,Tryz.ntmps128
 go_wp2_with fail
 go_loopw [1,5] (fun a v w'=>∃ (n:Int) (x:Nod) (out:List Str),a=.int .i64 n∧fnd S.ac n=some x∧out.length+rk n≤20∧Hid (S.way n++out.reverse=R)∧Hid (Has w' (Strs v out::Trb q m f P S.last S.ak::L))∧Hid (Keep w w')) (fun a _ _=>rk (intOf a))
 case atStart=>exact⟨n0,x0,[],rfl,hn,by simpa using hlow,hid (by rw[←HR.out];simp),hid (HO.out.al gx 1),hid (Keep.refl w)⟩
 case round =>
  clear HO hn hlow;obtain⟨n,x,out,rfl,hx,hlen,HRR,HO,HK⟩:=hrel;obtain⟨pv,cv,rfl,-⟩:=(Strs.rd HO.out).form;have HT:=hid (HO.out.re 2 [1,0]);have hx':=hx;rw[←fW.out.1] at hx';obtain⟨b,hb,hl⟩:=Trb.look HT.out hx';obtain⟨dv,wv,nm,-,hc,-⟩:=Trb.ae HT.out hb;have Ld:wr.cell? ⟨b,6,none⟩=some (.int .i64 x.above):=hc 6;have hcq:=(Trb.cells HT.out).1;have hat:S.at_ n=x:=by unfold Tre.at_;rw[hx];rfl
  have HLEN:=hid hlen;clear hc hx' hlen;by_cases hstop:n=1∨x.above=0
  ·have HE:=hid (by rw[←HRR.out,ki (by rw[hat];exact hstop)];rfl:out.reverse=R);have Ps:=hid (show Has wr (Strs (.slice pv out.length cv) out::Trb q m f P S.last S.ak::L) from HO.out);have HL:=hid (by have:=HLEN.out;omega:out.length≤1000000);by_cases h1:n=1
   ·subst h1
    as_aux_lemma=>exact zbT
   ·have h2:x.above=0:=hstop.resolve_left h1
    as_aux_lemma=>exact zbT
  ·simp only[not_or] at hstop;obtain⟨h1,h2⟩:=hstop;have h1b:(n != 1)=true:=by simpa using h1
   have h2b:(x.above != 0)=true:=by simpa using h2
   obtain⟨y,nm2,hy,hf,hrk,hnl,hw2⟩:=ke HW.out hx h1 h2;have hyn:y.ab≠[]:=by intro e;rw[e] at hf;simp at hf
   have hy':=hy;rw[←fW.out.1] at hy';obtain⟨A,b2,B,kj⟩:=jy hy';have nZ:=hid kj;have hl2:=Trg.look (x:=y) (b:=b2) (n:=x.above) (Trg.of HT.out) (by rw[kj];simp);have HG:=HT.out;rw[kj] at HG;obtain⟨dv2,wv2,nmv,oC,HN⟩:=fG.1 (Trg.bL (Trg.of HG));obtain⟨mm,rfl⟩:∃ mm,nmv=some mm:=by
    cases nmv with
    | none=>exact absurd (Has.aC.1 HN.drop.drop.drop).1 hyn
    | some mm=>exact⟨mm,rfl⟩
   have hcb3:=HN.e3;have mZ:=hid (show Has wr (Mk kStr vInt mm y.ab::pt b2 (.cells (gg y dv2 wv2 (some mm)) 82)::Dat y.aa dv2 y.data::Bools wv2 y.wr::Trg q m f (A++(x.above,b2,y)::B) S.last S.ak (A++B)::Strs (.slice pv out.length cv) out::L) from HN.re 6 [3,0,1,2,4,5]);have HX:=hid (show ∀ p∈y.ab,(p.2=n→p=(nm2,n))∧(p.2≠n→p.1≠nm2) from by
    have hin:(nm2,n)∈y.ab:=(List.mem_filter.1 (show (nm2,n)∈y.ab.filter (fun p=>decide (p.2=n)) by rw[hf];simp)).1;rintro⟨p1,p2⟩ hp;refine⟨?_,?_⟩
    ·rintro rfl;have:(p1,p2)∈y.ab.filter (fun p=>decide (p.2=p2)):=List.mem_filter.2 ⟨hp,by simp⟩;rw[hf] at this;exact List.mem_singleton.1 this
    ·rintro h0 rfl;have e1:=gf (Mk.nodup mZ.out) hp;have e2:=gf (Mk.nodup mZ.out) hin;rw[e1] at e2;exact h0 (Option.some.inj e2))
   have HF:=hid hf;have JG:=hid hrk;have P5:=hid oC;have HW2:=hid hw2;clear hf hrk hnl hw2 HG HN oC kj hyn hb HO;go_wp2_with (at_range;refine gY mZ.out tNm jg rfl _ rfl rfl ?_;intro w4 hO4 hK4 hs4)
   try go_frame
   have fg:=hid (show Has w4 (Mr kStr vInt mm wr.heap.size y.ab (y.ab.map Prod.fst) y.ab.length::Strs (.slice pv out.length cv) (out++lL nm2 (y.ab.map Prod.fst))::pt b2 (.cells (gg y dv2 wv2 (some mm)) 82)::Dat y.aa dv2 y.data::Bools wv2 y.wr::Trg q m f (A++(x.above,b2,y)::B) S.last S.ak (A++B)::L) from by
    rw[s5 (by
     have:(nm2,n)∈y.ab.filter (fun p=>decide (p.2=n)):=by rw[HF.out];simp
     exact List.mem_map_of_mem (f:=Prod.fst) (List.mem_filter.1 this).1),List.append_nil]
    exact hO4.re 6 [0,5,1,2,3,4])
   have fO:=hid (HK.out.trans hK4);clear hO4 hK4 hs4 Ld hcq hl hl2 hcb3 HK mZ;generalize wr.heap.size=r at *;generalize y.ab.map Prod.fst=rem0 at *;generalize y.ab.length=cnt0 at *;go_loopw [5] (fun v w4=>∃ (rem:List Str) (cnt:Nat),Hid (Has w4 (Mr kStr vInt mm r y.ab rem cnt::Strs v (out++lL nm2 rem)::pt b2 (.cells (gg y dv2 wv2 (some mm)) 82)::Dat y.aa dv2 y.data::Bools wv2 y.wr::Trg q m f (A++(x.above,b2,y)::B) S.last S.ak (A++B)::L))∧Hid (Keep w w4)) (fun _ w4=>w4.rangeLeft mm r)
   case atStart=>exact⟨_,_,fg,fO⟩
   case round =>
    clear fg fO;obtain⟨rem,cnt,HO,HK⟩:=hrel;have hleft:=Mr.left HO.out;have A8:=hid hleft;obtain⟨pw,cw,rfl,-⟩:=(Strs.rd HO.out.p1).form;generalize (out++lL nm2 rem).length=zl at *;go_wp2_with (at_next;refine ik HO.out rfl _ rfl rfl ?_ ?_)
    ·intro gz;subst gz;have fi:=hid (show Has wr (Strs (.slice pw zl cw) (out ++ [nm2])::Trb q m f P S.last S.ak::L) from by
      have h1:=(Mr.end HO.out).re 6 [2,3,4,0,5,1];have h2:Has wr (Ndc b2 y::Trg q m f (A++(x.above,b2,y)::B) S.last S.ak (A++B)::Strs (.slice pw zl cw) (out ++ [nm2])::L):=fG.2 ⟨dv2,wv2,some mm,P5.out,h1⟩;have h3:=Trg.perm (Trg.push x.above h2) (List.perm_middle (l₁:=A) (l₂:=B) (a:=(x.above,b2,y))).symm;rw[←nZ.out] at h3;exact(show Has wr (Trb q m f P S.last S.ak::_::L) from h3).re 2 [1,0])
     have wA:=hid (by rw[←HRR.out,HW2.out];simp:S.way x.above++(out ++ [nm2]).reverse=R);have Gq:=hid hy;clear HO hleft;go_wp2_with fail
     exact⟨⟨x.above,y,out ++ [nm2],rfl,Gq.out,by have h1:=HLEN.out;have h2:=JG.out;simp;omega,wA,fi,HK⟩,by simpa[intOf] using JG.out⟩
    ·rintro p1 p2 w5 cnt' hp hr hky kk rS hK5 hsz hen;simp only[pK,pi] at hen ⊢;have tz:=hen;have II:=HX.out _ hp;have fi:=hid kk;have ge:=hid (HK.out.trans hK5);have Iw:=hid rS;have hsl:out.length≤20:=by have h1:=HLEN.out;omega
     dsimp only at II hr;by_cases hpn:p2=n
     ·obtain⟨rfl,-⟩:p1=nm2∧p2=n:=by have:=II.1 hpn;simpa using this
      subst hpn;rw[s5 hr,List.append_nil] at fi;have fq:=hid (show Has (w5.alloc (.cells #[sV p1] gx)) (Strs (.slice pw zl cw) out::pt w5.heap.size (.cells #[sV p1] gx)::Mr kStr vInt mm r y.ab (rem.filter fun y => !decide (y=p1)) cnt'::pt b2 (.cells (gg y dv2 wv2 (some mm)) 82)::Dat y.aa dv2 y.data::Bools wv2 y.wr::Trg q m f (A++(x.above,b2,y)::B) S.last S.ak (A++B)::L) from(fi.out.alloc (.cells #[sV p1] gx)).re 7 [2,0,1,3,4,5,6]);have hcx:=fq.out.p1.cells 0;have gu:=hid (ge.out.alloc (.cells #[sV p1] gx));have Ok:=hid (show lL p1 (rem.filter fun y => !decide (y=p1)) = [p1] from yY (by simp));clear hp hr hky rS hK5 hsz hleft HO HK fi ge II;go_wp2_with (at_builtin;refine fS rfl _ _ _ rfl Tryz.underlying36 iD rfl (sV p1) fq.out rfl 1 w5.heap.size rfl hcx rfl (eU (by omega)) (by omega) ?_;intro v7 w7 h7 k7)
      have fP:=hid (show Has w7 (Mr kStr vInt mm r y.ab (rem.filter fun y => !decide (y=p1)) cnt'::Strs v7 (out++lL p1 (rem.filter fun y => !decide (y=p1)))::pt b2 (.cells (gg y dv2 wv2 (some mm)) 82)::Dat y.aa dv2 y.data::Bools wv2 y.wr::Trg q m f (A++(x.above,b2,y)::B) S.last S.ak (A++B)::L) from by
       rw[Ok.out];have h6:Has w7 (Strs v7 (out ++ [p1])::pt w5.heap.size (.cells #[sV p1] gx)::Mr kStr vInt mm r y.ab (rem.filter fun y => !decide (y=p1)) cnt'::pt b2 (.cells (gg y dv2 wv2 (some mm)) 82)::Dat y.aa dv2 y.data::Bools wv2 y.wr::Trg q m f (A++(x.above,b2,y)::B) S.last S.ak (A++B)::L):=by
        unfold Strs;rw[List.map_append,List.length_append];exact h7
       exact h6.re 7 [2,0,3,4,5,6])
      have gZ:=hid (gu.out.trans k7);have hleft:=Mr.left fP.out;clear h7 k7 fq gu hcx hen tz hsl;go_wp2_with fail
      exact⟨⟨_,_,fP,gZ⟩,by rw[hleft,A8.out];exact Iw.out⟩
     ·have hpb:(p2==n)=false:=by simpa using hpn
      have Bd:=hid (show lL nm2 (rem.filter fun y => !decide (y=p1))=lL nm2 rem from by
       have h0:=II.2 hpn;unfold lL;have:nm2∈rem.filter (fun y => !decide (y=p1))↔nm2∈rem:=by simp[List.mem_filter,Ne.symm h0]
       by_cases h3:nm2∈rem
       ·rw[if_pos h3,if_pos (this.2 h3)]
       ·rw[if_neg h3,if_neg (fun h=>h3 (this.1 h))])
      have fP:=hid (by rw[Bd.out];exact fi.out:Has w5 (Mr kStr vInt mm r y.ab (rem.filter fun y => !decide (y=p1)) cnt'::Strs (.slice pw zl cw) (out++lL nm2 (rem.filter fun y => !decide (y=p1)))::pt b2 (.cells (gg y dv2 wv2 (some mm)) 82)::Dat y.aa dv2 y.data::Bools wv2 y.wr::Trg q m f (A++(x.above,b2,y)::B) S.last S.ak (A++B)::L));have hleft:=Mr.left fP.out;clear hp hr hky rS hK5 hsz HO HK fi II hsl hpn;go_wp2_with fail
      exact⟨⟨_,_,fP,ge⟩,by rw[hleft,A8.out];exact Iw.out⟩
end Go.Proofs.YtmgpgbfgemebbaaGreatDoor
namespace Go.Own
open Go.RowKit
theorem kg {P:Program}{w:World}{l:List HP}{v:Value}{e:TypeId}{size n:Nat}{xs:List Value}{ops:Array Oper}{rest:List Oper}{o:Oper}{a:Act}{Q:Exit→Act→World→Prop}(hgd:o.guard=none)(s x:Operand)(t:TypeId)
  (ho:o.op=.call {callee := .builtin .append,args:=#[s,x],argTypes:=#[t,t]})
  {z:Value} {bytes:Nat} (ht:P.underlying t=some (.slice e)) (hi:(P.info? e).map (fun i=>(i.zero,i.size,i.bytes))=some (some z,size,bytes)) (hzs:z.cells.size=size)
  (us:List Value) (hus:us.length=size) (hO:Has w (row v e size n xs::l)) (hs:a.eval s=v) (c:Nat) (b:Nat)
  (hx:a.eval x=.slice (some ⟨b,0,none⟩) 1 c) (hu:∀ j,w.cell? ⟨b,j,none⟩=us[j]?) (h1:∀ u∈us,u.oneCell'=true)
  (h63:n+1≤maxLen) (hbytes:(n+1)*bytes≤140737488355328)
  (h:∀ v' w',Has w' (row v' e size (n+1) (xs++us)::l)→Keep w w'→wpList P ops Q rest (a.put o.dst v') w'):wpList P ops Q (o::rest) a w :=
 wpList_plain hgd fun _ hK=>iM s x t ho ht hi hzs us hus hO hs c b hx hu h1 h63 hbytes fun v' w' h2 h3=>hK _ _ (h v' w' h2 h3)
end Go.Own
