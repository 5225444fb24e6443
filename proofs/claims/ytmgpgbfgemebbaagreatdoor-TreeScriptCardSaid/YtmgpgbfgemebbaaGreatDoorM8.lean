/- TEXTS of mine, merged. -/
import Derived.Test.YtmgpgbfgemebbaaGreatDoorM0
import Derived.Test.YtmgpgbfgemebbaaGreatDoorM6
import Derived.Test.YtmgpgbfgemebbaaGreatDoorM7
import Derived.Test.YtmgpgbfgemebbaaGreatDoorM5
import Derived.Test.YtmgpgbfgemebbaaGreatDoorM4
set_option linter.all false
set_option maxRecDepth 100000
set_option maxHeartbeats 16000000
namespace Go.Proofs.YtmgpgbfgemebbaaGreatDoor
open Go.RowKit Go.Own
theorem rs (q m f:Nat)(A B:List Pn)(n:Int)(b:Nat)(x:Nod)(last:Int)(T:List Tb.Slot)(size:Nat)(w:World)(L:List HP)(hl:x.data.length≤100000)(hs:size≤100000)(hwl:x.wr.length≤100000)(hk3:x.aa≠3)(hO:Has w (Trb q m f (A++(n,b,x)::B) last T::L)) :
  zCl 114 #[.pointer (some ⟨q,0,none⟩),.int .i64 n,.int .i64 (size:Int)] w fun e w'=>e=.returned (.tuple #[])∧Has w' (Trb q m f (A++(n,b,fw x size)::B) last T::L)∧Keep w w':=by
 have hlk:=Trg.look (n:=n) (b:=b) (x:=x) (Trg.of hO) (by simp);have hq0:=(Trb.cells hO).1;obtain⟨dv,wv,nm,hnm,km⟩:=fG.1 (Trg.bL (Trg.of hO));rw[nt hk3] at km;have lg:=hid hnm;have HP:=hid km;have lm:=km.e1;have hcb2:=km.e2;have zI:=km.thaw 1;obtain⟨pd,cd,rfl,hcap,-⟩:=(Bytes.rd km.p1).form;have hsz0:(0:Int)≤(size:Int):=by omega
 have PH:(size:Int)≤100000:=by omega
 have K8:(0:Int)≤(x.data.length:Int):=by omega
 have PJ:(x.data.length:Int)≤100000:=by omega
 clear hnm km hO;go_enter Tryz.func114,Tryz.ntmps114
 by_cases hc:size≤x.data.length
 ·have hci:(size:Int)≤(x.data.length:Int):=by omega
  have hcc:(size:Int)≤(cd:Int):=by omega
  have pP:=hid (show fw x size={x with data:=x.data.take size,wr:=x.wr.take (fk size)} from if_pos hc);have hRs:=((Bytes.rd HP.out.p1).bp size hc)
  have Ig:Rd w (.slice pd size cd) 1 (x.data.take size).length (bc (x.data.take size)):=by
   have e:(x.data.take size).length=size:=by simp;omega
   rw[e];unfold bc at hRs ⊢;simpa[List.map_take] using hRs
  have HRs:=hid Ig;clear hRs Ig;go_wp2_with fail
  refine(mX _ (x.data.take size) _ _ HP.out HRs.out (by simp;omega)).mono ?_;rintro e w1 ⟨v1,rfl,iq,hK1⟩;have eT:=hid iq;have ff:=hid ((Keep.refl w).trans hK1);clear iq hK1;try dsimp only
  obtain⟨p1,c1,rfl,-⟩:=(Bytes.rd eT.out).form;generalize (x.data.take size).length=z1 at *;have r7:=hid (show Has w1 (pt b (.cells (gg x (.slice pd x.data.length cd) wv nm) 82)::Bytes (.slice p1 z1 c1) (x.data.take size)::Bools wv x.wr::Nms nm x.ab::Trg q m f (A++(n,b,x)::B) last T (A++B)::L) from eT.out.re 6 [1,0,3,4,5]);clear lm hcb2 zI eT hlk hq0;have lm:=r7.out.e1;have zI:=r7.out.thaw 1;go_upto_region 3 with fail
  have HP2:=hid (show Has (w1.setCell ⟨b,1,none⟩ (.slice p1 z1 c1)) (pt b (.cells (gg {x with data:=x.data.take size} (.slice p1 z1 c1) wv nm) 82)::Bytes (.slice p1 z1 c1) (x.data.take size)::Bools wv x.wr::Nms nm x.ab::Trg q m f (A++(n,b,x)::B) last T (A++B)::L) from r7.out.set 1 (.slice p1 z1 c1));have fu:=hid (ff.out.set ⟨b,1,none⟩ (.slice p1 z1 c1));clear r7 ff lm zI HP HRs;generalize w1.setCell ⟨b,1,none⟩ (.slice p1 z1 c1)=w2 at *;obtain⟨pw,cw,rfl,M0,-⟩:=(Bools.rd HP2.out.p2).form;have rh:=hid HP2.out.drew;have fH:=hid fu.out.drew;clear HP2 fu;refine fT (fun w'=>w'.cell? ⟨b,2,none⟩=some (.slice pw x.wr.length cw)∧True) (by kernel_rfl) (by kernel_rfl) (by kernel_rfl) (by decide) ⟨rh.out.cells 2,trivial⟩ ?_;generalize w2.drew=w3 at *;repeat (first|refine wr2 ?_|refine wk ?_)
  refine wa fun K hK=>?_;go_simp
  refine(AY size _ (by omega)).mono ?_;rintro e w' ⟨rfl,rfl⟩;try dsimp only
  refine hK.out _ _ ⟨rh.out.cells 2,trivial⟩ ?_;clear hK K;try simp only[Act.put,zpu]
  have hN0:(0:Int)≤(fk size:Int):=by omega
  repeat (first|refine wr2 ?_|refine wk ?_)
  have hmn:min (x.wr.length:Int) (fk size:Int)=((min x.wr.length (fk size):Nat):Int):=by omega
  rw[hmn];have Hi:=hid (show x.wr.take (min x.wr.length (fk size))=x.wr.take (fk size) from by
   by_cases h:fk size≤x.wr.length
   ·rw[Nat.min_eq_right h]
   ·rw[Nat.min_eq_left (by omega),List.take_of_length_le (by omega),List.take_of_length_le (by omega)])
  have hM1:min x.wr.length (fk size)≤x.wr.length:=Nat.min_le_left _ _;generalize min x.wr.length (fk size)=M at *;have hM2:(M:Int)≤(cw:Int):=by omega
  have Qi:(0:Int)≤(M:Int):=by omega
  have PR:=hid (show Rd w3 (.slice pw M cw) 1 (x.wr.take M).length ((x.wr.take M).map Value.bool) from by
   have h1:=(Bools.rd rh.out.p2).bp M hM1;have e:(x.wr.take M).length=M:=by simp;omega
   rw[e];simpa[List.map_take] using h1)
  repeat (first|refine wr2 ?_|refine wk ?_)
  refine wa fun K hK=>?_;go_simp
  refine(oL _ (x.wr.take M) _ _ rh.out PR.out (by simp;omega)).mono ?_;rintro e w4 ⟨v4,rfl,hO4,hK4⟩;have fg:=hid hO4;have fO:=hid ((fH.out).trans hK4);clear hO4 hK4;try dsimp only
  refine hK.out _ _ (⟨fg.out.p1.cells 2,trivial⟩) ?_;clear hK K;try simp only[Act.put,zpu]
  obtain⟨p4,c4,rfl,-⟩:=(Bools.rd fg.out).form;generalize (x.wr.take M).length=z4 at *;repeat (first|refine wr2 ?_|refine wk ?_)
  refine eR ?_;have xX:=hid (show Has w4 (pt b (.cells (gg {x with data:=x.data.take size} (.slice p1 z1 c1) (.slice pw x.wr.length cw) nm) 82)::Bytes (.slice p1 z1 c1) (x.data.take size)::Bools (.slice p4 z4 c4) (x.wr.take M)::Nms nm x.ab::Trg q m f (A++(n,b,x)::B) last T (A++B)::L) from fg.out.re 6 [1,2,0,4,5]);have hcb2:=xX.out.e2;have K3:=xX.out.thaw 2;refine gI rfl (by rfl) ?_;go_simp
  go_wp2_with fail
  refine bodyPost_ret (results_none rfl _ _ _) rfl ?_;refine⟨rfl,?_,fO.out.set _ _⟩;rw[pP.out,←Hi.out];exact Trb.cW hk3 rfl lg.out (xX.out.set 2 (.slice p4 z4 c4))
 ·have pP:=hid (show fw x size={x with data:=x.data++List.replicate (size-x.data.length) 0} from if_neg hc);have hci:¬ (size:Int)≤(x.data.length:Int):=by omega
  go_upto_region 4 with fail
  clear lm hcb2 zI hlk hq0;have HP2:=hid HP.out.drew;have fu:=hid (Keep.refl w).drew;clear HP;refine fT (fun w'=>w'.cell? ⟨b,1,none⟩=some (.slice pd x.data.length cd)∧True) (by kernel_rfl) (by kernel_rfl) (by kernel_rfl) (by decide) ⟨HP2.out.cells 1,trivial⟩ ?_;generalize w.drew=w3 at *;repeat (first|refine wr2 ?_|refine wk ?_)
  rw[show IntKind.i64.wrap ((size:Int)-(x.data.length:Int))=((size-x.data.length:Nat):Int) from by rw[ft _ (by omega)];omega];refine wa fun K hK=>?_;refine pG _ _ _ _ rfl Tryz.underlying31 Tryz.underlying3 ju rfl rfl (HP2.out.re 2 [1,0]) rfl (size-x.data.length) rfl (eU (by omega)) (by omega) ?_;intro v4 w4 h4 k4;refine hK.out _ _ ⟨h4.p1.cells 1,trivial⟩ ?_;clear hK K;try simp only[Act.put,zpu]
  repeat (first|refine wr2 ?_|refine wk ?_)
  refine eR ?_;have xX:=hid (show Has w4 (pt b (.cells (gg x (.slice pd x.data.length cd) wv nm) 82)::Bytes v4 (x.data++List.replicate (size-x.data.length) 0)::Bools wv x.wr::Nms nm x.ab::Trg q m f (A++(n,b,x)::B) last T (A++B)::L) from by
   have h5:Has w4 (Bytes v4 (x.data++List.replicate (size-x.data.length) 0)::pt b (.cells (gg x (.slice pd x.data.length cd) wv nm) 82)::Bools wv x.wr::Nms nm x.ab::Trg q m f (A++(n,b,x)::B) last T (A++B)::L):=by
    unfold Bytes bc;rw[List.map_append,List.length_append,List.map_replicate,List.length_replicate];exact h4
   exact h5.re 2 [1,0])
  have fO:=hid (fu.out.trans k4);obtain⟨p4,c4,hv4,-⟩:=(Bytes.rd xX.out.p1).form;subst hv4;generalize (x.data++List.replicate (size-x.data.length) 0).length=z4 at *;have lm:=xX.out.e1;have zI:=xX.out.thaw 1;clear h4 k4;refine gI rfl (by rfl) ?_;go_simp
  go_wp2_with fail
  go_end0
  refine⟨rfl,?_,fO.out.set _ _⟩;rw[pP.out];exact Trb.cW hk3 rfl lg.out (xX.out.set 1 (.slice p4 z4 c4))
theorem lp {S:Tre}(hW:Wk S)(p:Str)(h0:(S.place p).2=0):(∃ d,fnd S.ac (S.place p).1.dir=some d∧d.aa=2)∧(S.place p).1.name.length≤24∧((S.place p).1.ae≠0→∃ x,fnd S.ac (S.place p).1.ae=some x):=by
 unfold Tre.place at *;have hln:=qY p;split at h0
 ·rename_i h;exact absurd h0 h
 rename_i h1;rw[if_neg h1];split at h0
 ·rename_i h;exact absurd h0 h
 rename_i h2;rw[if_neg h2];obtain⟨d,hd⟩:=gh hW _ true (by simpa using h2);have hat:S.at_ (S.find (fx p).1 true).1.ae=d:=by unfold Tre.at_;rw[hd];rfl
 rw[hat] at h0 ⊢;split at h0
 ·simp at h0
 rename_i h3;rw[if_neg h3];split at h0
 ·simp at h0
 rename_i h4;rw[if_neg h4];refine⟨⟨d,hd,by simpa using h3⟩,hln,?_⟩;intro hne;cases hf:fnd d.ab (fx p).2.1 with
 | none=>rw[hf] at hne;exact absurd rfl hne
 | some c=>exact hW.child _ _ hd _ _ hf
theorem AD (q:Nat)(S:Tre)(n:Int)(x:Nod)(size:Nat)(w:World)(L:List HP)(hn:fnd S.ac n=some x)(hl:x.data.length≤100000)(hs:size≤100000)(hwl:x.wr.length≤100000)(hk3:x.aa≠3)(hO:Has w (Trc q S::L)) :
  zCl 114 #[.pointer (some ⟨q,0,none⟩),.int .i64 n,.int .i64 (size:Int)] w fun e w'=>e=.returned (.tuple #[])∧Has w' (Trc q (S.resize n size)::L)∧Keep w w':=by
 obtain⟨m,f,P,⟨hP,hT⟩,h⟩:=eY.1 hO;have hn':=hn;rw[←hP] at hn';obtain⟨A,b,B,rfl⟩:=jy hn';have hnd:=Trb.nodup h;refine(rs q m f A B n b x S.last S.ak size w L hl hs hwl hk3 h).mono ?_;rintro e w' ⟨rfl,h2,k2⟩;refine⟨rfl,eY.2 ⟨m,f,_,⟨?_,hT⟩,h2⟩,k2⟩;rw[mw hnd,hP];have hat:S.at_ n=x:=by unfold Tre.at_;rw[hn];rfl
 show _=eX S.ac n (fw (S.at_ n) size);rw[hat]
structure Opb (S:Tre):Prop where
 last0:0≤S.last
 aW:S.last<1000000
 free:fnd S.ac (S.last+1)=none
 many:S.ac.length<1000000
 zero:fnd S.ac 0=none
 small:∀ n x,fnd S.ac n=some x→x.data.length≤100000∧x.wr.length≤100000∧x.ab.length<1000000
theorem xW {S:Tre}{s:Spt}{fl:Int}(h1:¬ (s.ae≠0∧(S.at_ s.ae).aa=2∧fc fl 32≠0))(h2:¬ 16≤(Tb.lst S.ak 16).length)(h4:fc fl 4=0) :
  S.ar s fl=((⟨(Tb.opn S.ak (if s.ae=0 then S.last+1 else s.ae) fl).1.2,(Tb.opn S.ak (if s.ae=0 then S.last+1 else s.ae) fl).1.1,0,0,[],[]⟩:Ans),{(if s.ae=0 then S.make s 1 [] else S) with ak:=(Tb.opn S.ak (if s.ae=0 then S.last+1 else s.ae) fl).2}):=by
 unfold Tre.ar;rw[if_neg h1,if_neg h2];by_cases hn:s.ae=0
 ·simp only[hn,if_true,h4,ne_eq,not_true_eq_false,if_false];rfl
 ·simp only[hn,if_false,h4,ne_eq,not_true_eq_false]
theorem IH (q:Nat)(S:Tre)(rk:Int→Nat)(o:Opm)(ov:Value)(mx:Int)(w:World)(L:List HP)(hW:Wk S)(hY:Wy S rk)(hB:Opb S)(hM:MxL mx L)(hp:o.ag.length≤100000)(CP:fc o.af 4=0)(hO:Has w (Trc q S::L)) :
  zCl 47 #[.pointer (some ⟨q,0,none⟩),opV o ov] w fun e w'=>e=.returned (fL (S.aw o.ag o.af).1 eS eS)∧Has w' (Trc q (S.aw o.ag o.af).2::L)∧Keep w w':=by
 have tM:=hid (fun(w:World)(L':List HP)(hM:MxL mx L')(hO:Has w (Trc q S::L'))=>o4 q S o.ag true mx w L' hW hM hp hO);have iY:=hid (fun(w:World)(L':List HP)(hM:MxL mx L')(hO:Has w (Trc q S::L'))=>m9 q S rk o.ag mx w L' hW hY hM hp hO);have Hz:=hid (gh hW o.ag true);have JF:=hid (lp hW o.ag);generalize hR:S.aw o.ag o.af=R;unfold Tre.aw at hR;generalize S.find o.ag true=F at *;generalize S.place o.ag=G at *;obtain⟨s2,e2⟩:=F;obtain⟨s1,e1⟩:=G;dsimp only at *;have HR:=hid hR;have HM:=hid hM;have HB:=hid hB;have HO:=hid hO;clear hO hR hW hM hp hY hB;unfold opV opC;go_enter Tryz.func47,Tryz.ntmps47
 go_upto_region 1 with fail
 have h1:=(HO.out.alloc (.cells (opC o ov) 33)).alloc zA;have ff:=hid (((Keep.refl w).alloc (.cells (opC o ov) 33)).alloc zA);unfold opC zA ji eQ at h1 ff;have e3:(w.alloc (.cells #[.int .i64 o.aa,.int .i64 o.fd,.int .i64 o.n,.int .i64 o.off,.int .i64 o.af,sV o.ag,sV o.aj,ov] 33)).heap.size=w.heap.size+1:=by show (Array.push _ _).size=_;rw[Array.size_push]
 rw[e3] at h1;have eT:=hid h1;clear h1 e3 HO;generalize (w.alloc (.cells #[.int .i64 o.aa,.int .i64 o.fd,.int .i64 o.n,.int .i64 o.off,.int .i64 o.af,sV o.ag,sV o.aj,ov] 33)).alloc (.cells #[.int .i64 0,.int .i64 0,.int .i64 0,.int .i64 0,eS,eS] 38)=w1 at *;generalize (Value.agg #[.int .i64 o.aa,.int .i64 o.fd,.int .i64 o.n,.int .i64 o.off,.int .i64 o.af,sV o.ag,sV o.aj,ov])=av at *;generalize w.heap.size=g3 at *;generalize g3+1=g4 at *;have lP:=eT.out.p1.e4;have fa:=hid eT.out.ve;by_cases hbad:o.af<0∨64≤o.af∨(fc o.af 12≠0∧fc o.af 32=0)
 ·as_aux_lemma=>exact zaz
 ·have HR1:=hid ((if_neg hbad).symm.trans HR.out);go_upto_region 1 with fail
  go_cut [31] (fun a wx=>wx=w1∧a=.bool false)
  case first =>
   as_aux_lemma=>exact zcI
  case rest =>
  obtain⟨hwx,rfl⟩:=hcut;have jK:=hwx.symm;subst jK;clear HR;go_upto_region 4 with fail
  have eW:=hid (show Has (w1.alloc (.cells #[.int .i64 0,.int .i64 0,.string ⟨#[]⟩] 102)) (pt w1.heap.size (.cells (spC fp) 102)::pt g4 zA::pt g3 (.cells (opC o ov) 33)::Trc q S::L) from eT.out.alloc (.cells (spC fp) 102));have fH:=hid (ff.out.alloc (.cells #[.int .i64 0,.int .i64 0,.string ⟨#[]⟩] 102));clear eT ff lP fa;generalize w1.alloc (.cells #[.int .i64 0,.int .i64 0,.string ⟨#[]⟩] 102)=w3 at *;generalize w1.heap.size=g5 at *;have lP:=eW.out.p2.e4;go_upto_if 37 with fail
  go_cut [] (fun wx=>∃ (w4:World) (s:Spt),w4=wx∧Hid (Has w4 (pt g5 (.cells (spC s) 102)::pt g4 zA::pt g3 (.cells (opC o ov) 33)::Trc q S::L))∧Hid (Keep w w4)∧Hid ((if s.ae≠0∨s.dir=0 then(if e2≠0 then(eQ e2,S) else S.ar s2 o.af) else S.ar s o.af)=R)∧Hid (s.ae=0→s.dir≠0→(∃ d,fnd S.ac s.dir=some d∧d.aa=2)∧s.name.length≤24))
  case first =>
   as_aux_lemma=>exact zad
  case rest =>
   obtain⟨w4,s,rfl,fg,fO,HR2,r5⟩:=hcut;clear eW fH HR1 lP iY JF;have k0:w4.cell? ⟨g5,0,none⟩=some (.int .i64 s.ae):=(fg.out).cells 0;have k1:w4.cell? ⟨g5,1,none⟩=some (.int .i64 s.dir):=(fg.out).cells 1;have k2:w4.cell? ⟨g5,2,none⟩=some (sV s.name):=(fg.out).cells 2;have kt0:=(fg.out).thaw 0;have kt1:=(fg.out).thaw 1;have kt2:=(fg.out).thaw 2;go_upto_region 11 with fail
   go_cut [69] (fun a wx=>wx=w4∧a=.bool (decide (s.ae≠0∨s.dir=0)))
   case first =>
    as_aux_lemma=>exact zaC
   case rest =>
   obtain⟨hwx,rfl⟩:=hcut;have jK:=hwx.symm;subst jK;generalize hBc:decide (s.ae≠0∨s.dir=0)=bc0;have JO:=hid hBc;clear hBc;go_upto_if 69 with fail
   go_cut [] (fun wx=>∃ (w5:World) (s':Spt),w5=wx∧Hid (Has w5 (pt g5 (.cells (spC s') 102)::pt g4 zA::pt g3 (.cells (opC o ov) 33)::Trc q S::L))∧Hid (Keep w w5)∧Hid (S.ar s' o.af=R)∧Hid (s'.ae=0→(∃ d,fnd S.ac s'.dir=some d∧d.aa=2)∧s'.name.length≤24)∧Hid (s'.ae≠0→∃ x,fnd S.ac s'.ae=some x))
   case first =>
    by_cases hc:s.ae≠0∨s.dir=0
    ·have HR3:=hid ((if_pos hc).symm.trans HR2.out);have hbt:bc0=true:=by rw[←JO.out];exact decide_eq_true hc
     subst hbt
     skip
     skip
     ·have iK:=fg.out.p2.e5;go_upto_region 12 with fail
      go_cut [8,9] (fun p8 e9 wx=>∃ (w5:World) (g8:Nat),w5=wx∧e9=.int .i64 e2∧p8=.pointer (some ⟨g8,0,none⟩)∧Hid (Has w5 (pt g8 (.cells (spC s2) 102)::pt g5 (.cells (spC s) 102)::pt g4 zA::pt g3 (.cells (opC o ov) 33)::Trc q S::L))∧Hid (Keep w w5))
      case first =>
       as_aux_lemma=>exact zbd
      case rest =>
       obtain⟨w5,g8,rfl,rfl,rfl,fi,ge⟩:=hcut;clear iK k0 k1 k2 kt0 kt1 kt2;by_cases he2:e2=0
       ·subst he2;have v0:w5.cell? ⟨g5,0,none⟩=some (.int .i64 s.ae):=(fi.out.p1).cells 0;have v1:w5.cell? ⟨g5,1,none⟩=some (.int .i64 s.dir):=(fi.out.p1).cells 1;have v2:w5.cell? ⟨g5,2,none⟩=some (sV s.name):=(fi.out.p1).cells 2;have vt0:=(fi.out.p1).thaw 0;have vt1:=(fi.out.p1).thaw 1;have vt2:=(fi.out.p1).thaw 2;have k0:w5.cell? ⟨g8,0,none⟩=some (.int .i64 s2.ae):=(fi.out).cells 0;have k1:w5.cell? ⟨g8,1,none⟩=some (.int .i64 s2.dir):=(fi.out).cells 1;have k2:w5.cell? ⟨g8,2,none⟩=some (sV s2.name):=(fi.out).cells 2;have kt0:=(fi.out).thaw 0;have kt1:=(fi.out).thaw 1;have kt2:=(fi.out).thaw 2;have HR4:=hid ((if_neg (fun h=>h rfl)).symm.trans HR3.out);have Hv:=hid (Hz.out rfl);go_wp2_with fail
        go_meet
        exact⟨_,s2,rfl,hid ((show Has w5 (pt g5 (.cells (spC s) 102)::pt g4 zA::pt g3 (.cells (opC o ov) 33)::Trc q S::L) from fi.out.re 5 [1,2,3,4]).aS s2),hid (ge.out.aS _ _ _ _),HR4,hid fun h0=>absurd Hv.out (by rw[h0,HB.out.zero];rintro⟨_,h⟩;cases h),hid fun _=>Hv.out⟩
       ·as_aux_lemma=>exact zbs
    ·as_aux_lemma=>exact za4
   case rest =>
    obtain⟨w5,s',rfl,fi,ge,HR3,Fk,io⟩:=hcut;obtain⟨m,f,P,hJ,hTr⟩:=eY.1 (fi.out.re 4 [3,0,1,2]);have fW:=hid hJ;have wl:=hid hTr;clear hTr hJ k0 k1 k2 kt0 kt1 kt2 fg fO;have hq0:=(Trb.cells wl.out.drew).1;have hg0:w5.drew.cell? ⟨g5,0,none⟩=some (.int .i64 s'.ae):=wl.out.drew.p1.cells 0;have hf4:w5.drew.cell? ⟨g3,4,none⟩=some (.int .i64 o.af):=wl.out.drew.p3.cells 4;go_upto_region 16 with fail
    go_cut [82] (fun a wx=>wx=w5.drew∧a=.bool (decide (s'.ae≠0∧(S.at_ s'.ae).aa=2∧fc o.af 32≠0)))
    case first =>
     by_cases hn:s'.ae=0
     ·as_aux_lemma=>exact za2
     ·have hnb:(s'.ae != 0)=true:=by simpa using hn
      obtain⟨x,hx⟩:=io.out hn
      as_aux_lemma=>exact zah
    case rest =>
     obtain⟨hwx,rfl⟩:=hcut;have jK:=hwx.symm;subst jK;have Et:=hid wl.out.drew;have iG:=hid ge.out.drew;clear hq0 hg0 hf4 wl fi ge;generalize w5.drew=w6 at *;have fa:=hid (eY.2 ⟨m,f,P,fW.out,Et.out.re 4 [0,2]⟩:Has w6 (Trc q S::pt g4 zA::L)).vc;by_cases nT:s'.ae≠0∧(S.at_ s'.ae).aa=2∧fc o.af 32≠0
     ·as_aux_lemma=>exact zbn
     ·rw[decide_eq_false nT];have wN:=hid (show Has w6 (Tab f S.ak::Trt q m f P S.last::pt g5 (.cells (spC s') 102)::pt g4 zA::pt g3 (.cells (opC o ov) 33)::L) from Trb.ak.1 Et.out);have hq2:=(Trb.cells Et.out).2.2;go_wp2_with fail
      refine(vV f S.ak w6 _ fW.out.2 wN.out).mono ?_;rintro e w7 ⟨v7,rfl,l9,hK7⟩;have fP:=hid l9;have gZ:=hid ((iG.out).trans hK7);clear l9 hK7;try dsimp only
      clear hq2;obtain⟨p7,c7,rfl,-⟩:=(Ints.rd fP.out).form;have fI:=hid (eY.2 ⟨m,f,P,fW.out,Trb.ak.2 (fP.out.re 6 [1,2,3,4,5])⟩:Has w7 (Trc q S::pt g5 (.cells (spC s') 102)::pt g4 zA::pt g3 (.cells (opC o ov) 33)::L)).vi;by_cases h16:(16:Int)≤((Tb.lst S.ak 16).length:Int)
      ·as_aux_lemma=>exact zbh
      ·have HR4:=hid (show ((⟨(Tb.opn S.ak (if s'.ae=0 then S.last+1 else s'.ae) o.af).1.2,(Tb.opn S.ak (if s'.ae=0 then S.last+1 else s'.ae) o.af).1.1,0,0,[],[]⟩:Ans),{(if s'.ae=0 then S.make s' 1 [] else S) with ak:=(Tb.opn S.ak (if s'.ae=0 then S.last+1 else s'.ae) o.af).2})=R from by
        exact(xW nT (by omega) CP).symm.trans HR3.out)
       have k0:w7.cell? ⟨g5,0,none⟩=some (.int .i64 s'.ae):=(fI.out).cells 0;have k1:w7.cell? ⟨g5,1,none⟩=some (.int .i64 s'.dir):=(fI.out).cells 1;have k2:w7.cell? ⟨g5,2,none⟩=some (sV s'.name):=(fI.out).cells 2;have kt0:=(fI.out).thaw 0;have kt1:=(fI.out).thaw 1;have kt2:=(fI.out).thaw 2;go_upto_if 117 with fail
       go_cut [] (fun wx=>∃ (w9:World) (n:Int) (S1:Tre),w9=wx∧n=(if s'.ae=0 then S.last+1 else s'.ae)∧S1=(if s'.ae=0 then S.make s' 1 [] else S)∧Hid (Has w9 (pt g5 (.cells (spC ⟨n,s'.dir,s'.name⟩) 102)::pt g4 zA::pt g3 (.cells (opC o ov) 33)::Trc q S1::L))∧Hid (Keep w w9))
       case first =>
        by_cases hn:s'.ae=0
        ·have hnb:(s'.ae==0)=true:=by simpa using hn
         obtain⟨⟨d,hd,hdk⟩,hln⟩:=Fk.out hn;have Ao:=hid (yF q S s' 1 d w7 (pt g5 (.cells (spC s') 102)::pt g4 zA::pt g3 (.cells (opC o ov) 33)::L) (by decide) hd hdk (by omega) (HB.out.small _ _ hd).2.2 HB.out.last0 HB.out.aW HB.out.free HB.out.many (fI.out.re 4 [3,0,1,2]));unfold spV spC at Ao;have ut:=hid (show (if s'.ae=0 then S.last+1 else s'.ae)=S.last+1∧(if s'.ae=0 then S.make s' 1 [] else S)=S.make s' 1 [] from⟨if_pos hn,if_pos hn⟩);clear hn;go_wp2_with fail
         refine st (Ao.out) (gZ.out) fun w9 fJ gQ=>?_;try dsimp only
         have uD:=hid (show Has w9 (pt g5 (.cells (spC s') 102)::pt g4 zA::pt g3 (.cells (opC o ov) 33)::Trc q (S.make s' 1 [])::L) from fJ.out.re 4 [1,2,3,0]);have hv0:=uD.out.e0;have hvt:=uD.out.thaw 0;go_wp2_with fail
         go_meet
         exact⟨_,S.last+1,S.make s' 1 [],rfl,ut.out.1.symm,ut.out.2.symm,hid (uD.out.set 0 (.int .i64 (S.last+1))),hid (gQ.out.set _ _)⟩
        ·have hnb:(s'.ae==0)=false:=by simpa using hn
         have ut:=hid (show (if s'.ae=0 then S.last+1 else s'.ae)=s'.ae∧(if s'.ae=0 then S.make s' 1 [] else S)=S from⟨if_neg hn,if_neg hn⟩);clear hn;go_wp2_with fail
         go_meet
         exact⟨_,s'.ae,S,rfl,ut.out.1.symm,ut.out.2.symm,fI,gZ⟩
       case rest =>
        obtain⟨w9,n,S1,rfl,hn1,hS1,fJ,gQ⟩:=hcut;rw[←hn1,←hS1] at HR4;have HT1:=hid (by rw[hS1];split <;> rfl:S1.ak=S.ak);clear hn1 hS1 fI gZ k0 k1 k2 kt0 kt1 kt2;have Gh:(bits BinOp.and IntKind.i64 o.af 4 != 0)=false:=by simpa[fc] using CP
        as_aux_lemma=>exact zas
def j2 (x:Nod)(n:Int):Nat:=(x.ab.filter fun e=>decide (e.2=n)).length
def cnt (t:List (Int×Nod))(n:Int):Nat:=(t.map fun p=>j2 p.2 n).sum
def kZ (s:Str):Prop:=s≠[]∧s.length≤24∧(47:UInt8)∉s∧s≠[46,46]
theorem jC {κ α:Type} [DecidableEq κ] (p:κ×α) (t:List (κ×α)) (x:κ):fnd (p::t) x=if p.1=x then some p.2 else fnd t x:=by
 unfold fnd;rw[List.find?_cons];by_cases h:p.1=x
 ·simp[h]
 ·simp[h]
theorem qf (t:List (Int×Nod))(d:Int)(y:Nod)(n:Int)(h:d∉t.map Prod.fst):(t.map fun p=>if p.1=d then(d,y) else p)=t:=by
 have:∀ p∈t,(fun p:Int×Nod=>if p.1=d then(d,y) else p) p=id p:=by
  intro p hp;have:¬ p.1=d:=by rintro rfl;exact h (List.mem_map_of_mem hp)
  simp[this]
 rw[List.map_congr_left this,List.map_id]
theorem q5 {t:List (Int×Nod)}(hk:(t.map Prod.fst).Nodup){d:Int}{x:Nod}(h:fnd t d=some x)(y:Nod)(n:Int):cnt (eX t d y) n+j2 x n=cnt t n+j2 y n:=by
 have hm:d∈t.map Prod.fst:=List.mem_map.2 ⟨_,fj h,rfl⟩;unfold eX;rw[if_pos hm];unfold cnt;clear hm;induction t with
 | nil=>cases h
 | cons p t ih =>
  rw[List.map_cons,List.nodup_cons] at hk;rw[jC] at h;by_cases hp:p.1=d
  ·rw[if_pos hp] at h;cases h;rw[List.map_cons,qf t d y n (by rw[←hp];exact hk.1),if_pos hp];simp only[List.map_cons,List.sum_cons];omega
  ·rw[if_neg hp] at h;have:=ih hk.2 h;simp only[List.map_cons,List.sum_cons,if_neg hp] at this ⊢;omega
theorem Cb {t:List (Int×Nod)}{d:Int}(h:fnd t d=none)(y:Nod)(n:Int):cnt (eX t d y) n=cnt t n+j2 y n:=by
 rw[gT _ (fU.1 h)];unfold cnt;simp
theorem CA {t:List (Int×Nod)}(hk:(t.map Prod.fst).Nodup){d:Int}{x:Nod}(h:fnd t d=some x)(n:Int):cnt (gq t d) n+j2 x n=cnt t n:=by
 unfold cnt gq;induction t with
 | nil=>cases h
 | cons p t ih =>
  rw[List.map_cons,List.nodup_cons] at hk;rw[jC] at h;rw[List.filter_cons];by_cases hp:p.1=d
  ·rw[if_pos hp] at h;cases h;rw[if_neg (by simp[hp])];have:t.filter (fun q=>decide (q.1≠d))=t:=by
    rw[List.filter_eq_self];intro q hq;have:q.1≠d:=by rintro e;exact hk.1 (by rw[hp,←e];exact List.mem_map_of_mem hq)
    simpa using this
   rw[this,List.map_cons,List.sum_cons];omega
  ·rw[if_neg hp] at h;have:=ih hk.2 h;rw[if_pos (by simp[hp])];simp only[List.map_cons,List.sum_cons];omega
theorem uX {t:List (Int×Nod)}{d:Int}{x:Nod}(h:fnd t d=some x)(n:Int):j2 x n≤cnt t n:=by
 unfold cnt;have:=fj h;clear h;induction t with
 | nil=>simp at this
 | cons p t ih =>
  rw[List.map_cons,List.sum_cons];rcases List.mem_cons.1 this with rfl|h
  ·simp
  ·have:=ih h;omega
theorem yE {x:Nod}{nm:Str}{n:Int}(h:(nm,n)∈x.ab):1≤j2 x n:=by
 unfold j2;have:(nm,n)∈x.ab.filter fun e=>decide (e.2=n):=List.mem_filter.2 ⟨h,by simp⟩;exact List.length_pos_of_mem this
theorem Ak {x:Nod}{nm:Str}(hf:fnd x.ab nm=none)(z n:Int):j2 (Tre.dirAdd x nm z) n=j2 x n+if z=n then 1 else 0:=by
 show ((eX x.ab nm z).filter _).length=_;rw[gT _ (fU.1 hf),List.filter_append,List.length_append];unfold j2;congr 1;by_cases h:z=n <;> simp[h]
theorem xH {x:Nod}(hu:(x.ab.map Prod.fst).Nodup){nm:Str}{z:Int}(hf:fnd x.ab nm=some z)(n:Int):j2 (Tre.dirTake x nm) n+(if z=n then 1 else 0)=j2 x n:=by
 show ((gq x.ab nm).filter _).length+_=_;unfold j2;generalize x.ab=t at *;unfold gq;induction t with
 | nil=>cases hf
 | cons p t ih =>
  rw[List.map_cons,List.nodup_cons] at hu;rw[jC] at hf;rw[List.filter_cons];by_cases hp:p.1=nm
  ·rw[if_pos hp] at hf;cases hf;rw[if_neg (by simp[hp])];have:t.filter (fun q=>decide (q.1≠nm))=t:=by
    rw[List.filter_eq_self];intro q hq;have:q.1≠nm:=by rintro e;exact hu.1 (by rw[hp,←e];exact List.mem_map_of_mem hq)
    simpa using this
   rw[this,List.filter_cons];by_cases h:p.2=n <;> simp[h]
  ·rw[if_neg hp] at hf;have:=ih hu.2 hf;rw[if_pos (by simp[hp]),List.filter_cons,List.filter_cons];by_cases h:p.2=n <;> simp[h] at this ⊢ <;> omega
theorem zz {t:List (Int×Nod)}{n:Int}(h:∀ p∈t,∀ e∈p.2.ab,e.2≠n):cnt t n=0:=by
 unfold cnt;induction t with
 | nil=>rfl
 | cons p t ih =>
  rw[List.map_cons,List.sum_cons,ih fun q hq=>h q (List.mem_cons_of_mem _ hq)];have:p.2.ab.filter (fun e=>decide (e.2=n)) = []:=by
   rw[List.filter_eq_nil_iff];intro e he;simpa using h p List.mem_cons_self e he
  unfold j2;rw[this];rfl
theorem lb {t:List (Int×Nod)}{d:Int}{x:Nod}(h:fnd t d=some x){nm:Str}{n:Int}(hm:(nm,n)∈x.ab):1≤cnt t n:=Nat.le_trans (yE hm) (uX h n)
structure Ndo (t:List (Int×Nod)) (rk:Int→Nat) (k:Nat) (z n:Int) (x:Nod):Prop where
 aa:x.aa=1∨x.aa=2∨x.aa=3
 file:x.aa≠2→x.ab = []∧x.above=0∧rk n=20
 ai:∀ e∈x.ab,kZ e.1∧rk n<20∧∃ y,fnd t e.2=some y∧(y.aa=2→y.above=n∧rk e.2=rk n+1)
 uniq:(x.ab.map Prod.fst).Nodup
 size:x.data.length≤100000∧x.wr.length≤100000∧x.ab.length≤k∧0≤x.most∧x.most≤k∧0≤x.ah∧x.ah≤k+1
 root:n=1→x.aa=2∧x.above=0∧x.ah=1∧cnt t n=0
 ah:n≠z→n≠1→x.ah=(cnt t n:Int)
 above:n≠z→x.above≠0→x.aa=2∧n≠1∧x.ah=1∧∃ y nm,fnd t x.above=some y∧(nm,n)∈y.ab
 loose:n≠z→x.aa=2→n≠1→x.above=0→x.ab = []∧x.ah=0
structure Gx (t:List (Int×Nod)) (rk:Int→Nat) (k:Nat) (z:Int):Prop where
 keys:(t.map Prod.fst).Nodup
 has1:∃ x,fnd t 1=some x
 rk1:rk 1=0
 rk20:∀ n,rk n≤20
 ax:∀ n x,fnd t n=some x→Ndo t rk k z n x
 zne:z≠1
 zero:fnd t 0=none
theorem j3 {κ α:Type} [DecidableEq κ] {t:List (κ×α)} (hk:(t.map Prod.fst).Nodup) (x:κ) (a:α):((eX t x a).map Prod.fst).Nodup:=by
 unfold eX;by_cases h:x∈t.map Prod.fst
 ·rw[if_pos h,jW t x a h];exact hk
 ·rw[if_neg h,List.map_append,List.nodup_append];exact⟨hk,by simp,by rintro y hy z hz rfl;simp at hz;subst hz;exact h hy⟩
theorem pL {κ α:Type} [DecidableEq κ] {t:List (κ×α)} (hk:(t.map Prod.fst).Nodup) (x:κ):((gq t x).map Prod.fst).Nodup:=by
 unfold gq;exact hk.sublist (List.Sublist.map _ List.filter_sublist)
variable {t:List (Int×Nod)} {rk:Int→Nat} {k:Nat} {z:Int}
theorem Gx.mono (h:Gx t rk k z){k':Nat}(hk:k≤k'):Gx t rk k' z where
 keys:=h.keys
 has1:=h.has1
 rk1:=h.rk1
 rk20:=h.rk20
 zne:=h.zne
 zero:=h.zero
 ax n x hx:=by
  have H:=h.ax n x hx;have hs:=H.size;exact⟨H.aa,H.file,H.ai,H.uniq,⟨hs.1,hs.2.1,by omega,hs.2.2.2.1,by omega,by omega,by omega⟩,H.root,H.ah,H.above,H.loose⟩
theorem Gx.opened (h:Gx t rk k 0)(hz:z≠1):Gx t rk k z where
 keys:=h.keys
 has1:=h.has1
 rk1:=h.rk1
 rk20:=h.rk20
 zne:=hz
 zero:=h.zero
 ax n x hx:=by
  have H:=h.ax n x hx;have hn:n≠0:=by rintro rfl;rw[h.zero] at hx;cases hx
  exact zcx
theorem Gx.closed (h:Gx t rk k z){y:Nod}(hy:fnd t z=some y)(h1:y.ah=(cnt t z:Int))
  (h2:y.above≠0→y.aa=2∧y.ah=1∧∃ d nm,fnd t y.above=some d∧(nm,z)∈d.ab) (h3:y.aa=2→y.above=0→y.ab = []∧y.ah=0):Gx t rk k 0 where
 keys:=h.keys
 has1:=h.has1
 rk1:=h.rk1
 rk20:=h.rk20
 zne:=by decide
 zero:=h.zero
 ax n x hx:=by
  have H:=h.ax n x hx;by_cases hn:n=z
  ·subst hn;rw[hy] at hx;cases hx;exact⟨H.aa,H.file,H.ai,H.uniq,H.size,H.root,fun _ _=>h1,fun _ ha=>⟨(h2 ha).1,h.zne,(h2 ha).2⟩,fun _ hk _ ha=>h3 hk ha⟩
  ·exact zcx
theorem Gx.fix (h:Gx t rk k z){y:Nod}(hz:fnd t z=some y)(y':Nod)(hk:y'.aa=y.aa)(hn:y'.ab=y.ab)(hm:y'.most=y.most)
  (hs:y'.data.length≤100000∧y'.wr.length≤100000∧0≤y'.ah∧y'.ah≤k+1) (ha:y.aa≠2→y'.above=0) (hc:y.aa=2→cnt t z=0):Gx (eX t z y') rk k z∧∀ n,cnt (eX t z y') n=cnt t n:=by
 have hcn:∀ n,cnt (eX t z y') n=cnt t n:=by
  intro n;have h1:=q5 h.keys hz y' n;have h2:j2 y' n=j2 y n:=by unfold j2;rw[hn]
  omega
 have hf:∀ n,fnd (eX t z y') n=if n=z then some y' else fnd t n:=fun n=>fnd_putA
 refine⟨⟨j3 h.keys _ _,?_,h.rk1,h.rk20,?_,h.zne,?_⟩,hcn⟩
 ·obtain⟨x,hx⟩:=h.has1;exact⟨x,by rw[hf,if_neg (fun e=>h.zne e.symm),hx]⟩
 ·intro n x hx;rw[hf] at hx;have kF:∀ e:Str×Int,∀ m,(∃ y,fnd t e.2=some y∧(y.aa=2→y.above=m∧rk e.2=rk m+1))→(∀ x,fnd t m=some x→e∈x.ab)→(∃ x,fnd t m=some x)→∃ y,fnd (eX t z y') e.2=some y∧(y.aa=2→y.above=m∧rk e.2=rk m+1):=by
   rintro e m ⟨u,hu,hu2⟩ hin ⟨xm,hxm⟩;rw[hf];by_cases he:e.2=z
   ·rw[if_pos he];refine⟨y',rfl,fun h2=>?_⟩;rw[hk] at h2;have h3:=hc h2;have h4:1≤cnt t z:=lb hxm (nm:=e.1) (by rw[←he];exact hin xm hxm);omega
   ·rw[if_neg he];exact⟨u,hu,hu2⟩
  by_cases hnz:n=z
  ·rw[if_pos hnz] at hx;cases hx;subst hnz;have H:=h.ax _ _ hz;have hs2:=H.size;refine⟨by rw[hk];exact H.aa,?_,?_,by rw[hn];exact H.uniq,⟨hs.1,hs.2.1,by rw[hn];exact hs2.2.2.1,by rw[hm];exact hs2.2.2.2.1,by rw[hm];exact hs2.2.2.2.2.1,hs.2.2.1,hs.2.2.2⟩,fun e=>absurd e h.zne,fun e=>absurd rfl e,fun e=>absurd rfl e,fun e=>absurd rfl e⟩
   ·intro h2;rw[hk] at h2;have:=H.file h2;exact⟨by rw[hn];exact this.1,ha h2,this.2.2⟩
   ·intro e he;rw[hn] at he;obtain⟨h1,h2,h3⟩:=H.ai e he;exact⟨h1,h2,kF e _ h3 (fun x hx=>by rw[hz] at hx;cases hx;exact he) ⟨_,hz⟩⟩
  ·rw[if_neg hnz] at hx;have H:=h.ax _ _ hx;refine⟨H.aa,H.file,?_,H.uniq,H.size,?_,?_,?_,H.loose⟩
   ·intro e he;obtain⟨h1,h2,h3⟩:=H.ai e he;exact⟨h1,h2,kF e _ h3 (fun x' hx'=>by rw[hx] at hx';cases hx';exact he) ⟨_,hx⟩⟩
   ·intro e;have:=H.root e;rw[hcn];exact this
   ·intro e1 e2;rw[hcn];exact H.ah e1 e2
   ·intro e1 e2;obtain⟨h1,h2,h3,u,nm,hu,hm2⟩:=H.above e1 e2;refine⟨h1,h2,h3,?_⟩;by_cases he:x.above=z
    ·refine⟨y',nm,by rw[hf,if_pos he],?_⟩;rw[he,hz] at hu;cases hu;rw[hn];exact hm2
    ·exact⟨u,nm,by rw[hf,if_neg he];exact hu,hm2⟩
 ·rw[hf,if_neg ?_,h.zero];rintro rfl;rw[h.zero] at hz;cases hz
theorem Gx.dz (h:Gx t rk k z){d:Int}{x:Nod}(hd:fnd t d=some x){nm:Str}(hf0:fnd x.ab nm=some z)(hdz:d≠z) :
  Gx (eX t d (Tre.dirTake x nm)) rk k z∧∀ n,cnt (eX t d (Tre.dirTake x nm)) n+(if z=n then 1 else 0)=cnt t n:=by
 have HD:=h.ax _ _ hd;have hcn:∀ n,cnt (eX t d (Tre.dirTake x nm)) n+(if z=n then 1 else 0)=cnt t n:=by
  intro n;have h1:=q5 h.keys hd (Tre.dirTake x nm) n;have h2:=xH HD.uniq hf0 n;omega
 have hf:∀ n,fnd (eX t d (Tre.dirTake x nm)) n=if n=d then some (Tre.dirTake x nm) else fnd t n:=fun n=>fnd_putA
 have hsub:∀ e∈(Tre.dirTake x nm).ab,e∈x.ab:=fun e he=>(List.mem_filter.1 he).1;have kF:∀ (c m:Int),(∃ y,fnd t c=some y∧(y.aa=2→y.above=m∧rk c=rk m+1))→∃ y,fnd (eX t d (Tre.dirTake x nm)) c=some y∧(y.aa=2→y.above=m∧rk c=rk m+1):=by
  exact zb1
 have pM:∀ (m:Int) (y:Nod),m≠z→(∃ u nm',fnd t y.above=some u∧(nm',m)∈u.ab)→∃ u nm',fnd (eX t d (Tre.dirTake x nm)) y.above=some u∧(nm',m)∈u.ab:=by
  rintro m y hmz ⟨u,nm',hu,hm⟩;by_cases he:y.above=d
  ·refine⟨_,nm',by rw[hf,if_pos he],?_⟩;rw[he,hd] at hu;cases hu;refine List.mem_filter.2 ⟨hm,?_⟩;have:nm'≠nm:=by
    rintro rfl;rw[gf HD.uniq hm] at hf0;cases hf0;exact hmz rfl
   simpa using this
  ·exact⟨u,nm',by rw[hf,if_neg he];exact hu,hm⟩
 refine⟨⟨j3 h.keys _ _,?_,h.rk1,h.rk20,?_,h.zne,?_⟩,hcn⟩
 ·rw[hf];split
  ·exact⟨_,rfl⟩
  ·exact h.has1
 ·intro n y hy;rw[hf] at hy;by_cases hnd:n=d
  ·rw[if_pos hnd] at hy;cases hy;subst hnd;have hs:=HD.size;refine⟨HD.aa,?_,?_,?_,⟨hs.1,hs.2.1,Nat.le_trans (mA _ _) hs.2.2.1,hs.2.2.2⟩,?_,?_,?_,?_⟩
   ·intro h2;have:=HD.file h2;exact⟨by show gq x.ab nm = [];rw[this.1];rfl,this.2⟩
   ·intro e he;obtain⟨h1,h2,h3⟩:=HD.ai e (hsub e he);exact⟨h1,h2,kF _ _ h3⟩
   ·exact pL HD.uniq nm
   ·intro e;have:=HD.root e;have hc:=hcn n;exact zct
   ·intro e1 e2;have hc:=hcn n;rw[if_neg (fun e=>e1 e.symm)] at hc;have:=HD.ah e1 e2;show x.ah=_;rw[this];omega
   ·intro e1 e2;obtain⟨h1,h2,h3,h4⟩:=HD.above e1 e2;exact⟨h1,h2,h3,pM n x e1 h4⟩
   ·intro e1 e2 e3 e4;have:=HD.loose e1 e2 e3 e4;exact⟨by show gq x.ab nm = [];rw[this.1];rfl,this.2⟩
  ·rw[if_neg hnd] at hy;have H:=h.ax _ _ hy;refine⟨H.aa,H.file,?_,H.uniq,H.size,?_,?_,?_,H.loose⟩
   ·intro e he;obtain⟨h1,h2,h3⟩:=H.ai e he;exact⟨h1,h2,kF _ _ h3⟩
   ·intro e;have:=H.root e;have hc:=hcn n;exact zct
   ·intro e1 e2;have hc:=hcn n;rw[if_neg (fun e=>e1 e.symm)] at hc;rw[H.ah e1 e2];omega
   ·intro e1 e2;obtain⟨h1,h2,h3,h4⟩:=H.above e1 e2;exact⟨h1,h2,h3,pM n y e1 h4⟩
 ·rw[hf,if_neg ?_,h.zero];rintro rfl;rw[h.zero] at hd;cases hd
theorem Gx.aP (h:Gx t rk k z){d:Int}{x:Nod}(hd:fnd t d=some x)(hk2:x.aa=2)(hdz:d≠z)(hat:d=1∨x.above≠0){nm:Str}(hn:kZ nm)(hf0:fnd x.ab nm=none)(hr:rk d<20)
  {y:Nod} (hz:fnd t z=some y) (hy:y.aa=2→y.above=d∧rk z=rk d+1) :
  Gx (eX t d (Tre.dirAdd x nm z)) rk (k+1) z∧∀ n,cnt (eX t d (Tre.dirAdd x nm z)) n=cnt t n+(if z=n then 1 else 0):=by
 have HD:=h.ax _ _ hd;have hcn:∀ n,cnt (eX t d (Tre.dirAdd x nm z)) n=cnt t n+(if z=n then 1 else 0):=by
  intro n;have h1:=q5 h.keys hd (Tre.dirAdd x nm z) n;have h2:=Ak hf0 z n;omega
 have hf:∀ n,fnd (eX t d (Tre.dirAdd x nm z)) n=if n=d then some (Tre.dirAdd x nm z) else fnd t n:=fun n=>fnd_putA
 have uh:(Tre.dirAdd x nm z).ab=x.ab ++ [(nm,z)]:=gT _ (fU.1 hf0);have kF:∀ (c m:Int),(∃ y,fnd t c=some y∧(y.aa=2→y.above=m∧rk c=rk m+1))→∃ y,fnd (eX t d (Tre.dirAdd x nm z)) c=some y∧(y.aa=2→y.above=m∧rk c=rk m+1):=by
  exact zb1
 have pM:∀ (m a:Int),(∃ u nm',fnd t a=some u∧(nm',m)∈u.ab)→∃ u nm',fnd (eX t d (Tre.dirAdd x nm z)) a=some u∧(nm',m)∈u.ab:=by
  rintro m a ⟨u,nm',hu,hm⟩;by_cases he:a=d
  ·refine⟨_,nm',by rw[hf,if_pos he],?_⟩;rw[he,hd] at hu;cases hu;rw[uh];exact List.mem_append_left _ hm
  ·exact⟨u,nm',by rw[hf,if_neg he];exact hu,hm⟩
 have hlen:(Tre.dirAdd x nm z).ab.length=x.ab.length+1:=by rw[uh];simp
 refine⟨⟨j3 h.keys _ _,?_,h.rk1,h.rk20,?_,h.zne,?_⟩,hcn⟩
 ·rw[hf];split
  ·exact⟨_,rfl⟩
  ·exact h.has1
 ·intro n u hu;rw[hf] at hu;by_cases hnd:n=d
  ·rw[if_pos hnd] at hu;cases hu;subst hnd;have hs:=HD.size;refine⟨HD.aa,fun h2=>absurd hk2 h2,?_,?_,⟨hs.1,hs.2.1,by rw[hlen];omega,?_,?_,hs.2.2.2.2.2.1,?_⟩,?_,?_,?_,?_⟩
   ·intro e he;rw[uh] at he;rcases List.mem_append.1 he with he|he
    ·obtain⟨h1,h2,h3⟩:=HD.ai e he;exact⟨h1,h2,kF _ _ h3⟩
    ·rw[List.mem_singleton.1 he];refine⟨hn,hr,kF _ _ ⟨y,hz,hy⟩⟩
   ·exact j3 HD.uniq nm z
   ·show 0≤max x.most ((eX x.ab nm z).length:Int);have:=hs.2.2.2.1;omega
   ·show max x.most ((Tre.dirAdd x nm z).ab.length:Int)≤((k+1:Nat):Int);rw[hlen];have h1:=hs.2.2.2.2.1;have h2:=hs.2.2.1;omega
   ·have:=hs.2.2.2.2.2.2;show x.ah≤_;omega
   ·intro e;have:=HD.root e;have hc:=hcn n;rw[if_neg (fun e'=>h.zne (e'.trans e))] at hc;exact zct
   ·intro e1 e2;have hc:=hcn n;rw[if_neg (fun e=>e1 e.symm)] at hc;rw[hc];exact HD.ah e1 e2
   ·intro e1 e2;obtain⟨h1,h2,h3,h4⟩:=HD.above e1 e2;exact⟨h1,h2,h3,pM _ _ h4⟩
   ·intro e1 e2 e3 e4;exact absurd e4 (hat.resolve_left e3)
  ·rw[if_neg hnd] at hu;have H:=(h.mono (Nat.le_succ k)).ax _ _ hu;refine⟨H.aa,H.file,?_,H.uniq,H.size,?_,?_,?_,H.loose⟩
   ·intro e he;obtain⟨h1,h2,h3⟩:=H.ai e he;exact⟨h1,h2,kF _ _ h3⟩
   ·intro e;have:=H.root e;have hc:=hcn n;rw[if_neg (fun e'=>h.zne (e'.trans e))] at hc;exact zct
   ·intro e1 e2;have hc:=hcn n;rw[if_neg (fun e=>e1 e.symm)] at hc;rw[hc];exact H.ah e1 e2
   ·intro e1 e2;obtain⟨h1,h2,h3,h4⟩:=H.above e1 e2;exact⟨h1,h2,h3,pM _ _ h4⟩
 ·rw[hf,if_neg ?_,h.zero];rintro rfl;rw[h.zero] at hd;cases hd
theorem Gx.eh (h:Gx t rk k z)(rk':Int→Nat)(h1:rk' 1=0)(h20:∀ n,rk' n≤20)(hf:∀ n x,fnd t n=some x→x.aa≠2→rk' n=20)
  (he:∀ n x,fnd t n=some x→∀ e∈x.ab,rk' n<20∧((Tre.mk t 0 []).at_ e.2).aa=2→rk' e.2=rk' n+1) (hl:∀ n x,fnd t n=some x→x.ab≠[]→rk' n<20):Gx t rk' k z where
 keys:=h.keys
 has1:=h.has1
 rk1:=h1
 rk20:=h20
 zne:=h.zne
 zero:=h.zero
 ax n x hx:=by
  have H:=h.ax n x hx;refine⟨H.aa,fun h2=>⟨(H.file h2).1,(H.file h2).2.1,hf n x hx h2⟩,?_,H.uniq,H.size,H.root,H.ah,H.above,H.loose⟩;intro e hm;obtain⟨a1,a2,y,hy,a3⟩:=H.ai e hm;have hlt:rk' n<20:=hl n x hx (fun e0=>by rw[e0] at hm;cases hm);refine⟨a1,hlt,y,hy,fun h2=>⟨(a3 h2).1,he n x hx e hm ⟨hlt,?_⟩⟩⟩;show ((fnd t e.2).getD qb).aa=2;rw[hy];exact h2
theorem Gx.eM (h:Gx t rk k 0)(hz:fnd t z=none)(hz1:z≠1)(hz0:z≠0)(x:Nod)(hn:x.ab = [])(hk:x.aa=1∨x.aa=2∨x.aa=3)(ha:x.aa≠2→x.above=0)
  (hs:x.data.length≤100000∧x.wr.length≤100000∧0≤x.most∧x.most≤k∧0≤x.ah∧x.ah≤k+1) (r:Nat) (hr:r≤20) (hr2:x.aa≠2→r=20) :
  Gx (eX t z x) (fun n=>if n=z then r else rk n) k z∧(∀ n,cnt (eX t z x) n=cnt t n)∧cnt t z=0:=by
 have hcn:∀ n,cnt (eX t z x) n=cnt t n:=by
  intro n;rw[Cb hz];unfold j2;rw[hn];rfl
 have hf:∀ n,fnd (eX t z x) n=if n=z then some x else fnd t n:=fun n=>fnd_putA
 have hne:∀ n y,fnd t n=some y→n≠z:=by rintro n y hy rfl;rw[hz] at hy;cases hy
 have hne0:∀ n y,fnd t n=some y→n≠0:=by rintro n y hy rfl;rw[h.zero] at hy;cases hy
 refine⟨⟨j3 h.keys _ _,?_,?_,?_,?_,hz1,?_⟩,hcn,?_⟩
 ·obtain⟨u,hu⟩:=h.has1;exact⟨u,by rw[hf,if_neg (fun e=>hz1 e.symm),hu]⟩
 ·show (if (1:Int)=z then r else rk 1)=0;rw[if_neg (fun e=>hz1 e.symm)];exact h.rk1
 ·intro n;show (if n=z then r else rk n)≤20;split
  ·exact hr
  ·exact h.rk20 n
 ·intro n u hu;rw[hf] at hu;by_cases hnz:n=z
  ·rw[if_pos hnz] at hu;cases hu;subst hnz;refine⟨hk,fun h2=>⟨hn,ha h2,by rw[if_pos rfl];exact hr2 h2⟩,by rw[hn];simp,by rw[hn];exact List.nodup_nil,⟨hs.1,hs.2.1,by rw[hn];simp,hs.2.2.1,hs.2.2.2.1,hs.2.2.2.2⟩,fun e=>absurd e hz1,fun e=>absurd rfl e,fun e=>absurd rfl e,fun e=>absurd rfl e⟩
  ·rw[if_neg hnz] at hu;have H:=h.ax _ _ hu;have hn0:=hne0 _ _ hu;refine⟨H.aa,fun h2=>⟨(H.file h2).1,(H.file h2).2.1,by rw[if_neg hnz];exact(H.file h2).2.2⟩,?_,H.uniq,H.size,fun e=>by rw[hcn];exact H.root e,fun _ e2=>by rw[hcn];exact H.ah hn0 e2,?_,fun _=>H.loose hn0⟩
   ·intro e he;obtain⟨h1,h2,y,hy,h3⟩:=H.ai e he;rw[if_neg hnz];refine⟨h1,h2,y,by rw[hf,if_neg (hne _ _ hy)];exact hy,?_⟩;rw[if_neg (hne _ _ hy)];exact h3
   ·intro _ e2;obtain⟨h1,h2,h3,y,nm,hy,h4⟩:=H.above hn0 e2;exact⟨h1,h2,h3,y,nm,by rw[hf,if_neg (hne _ _ hy)];exact hy,h4⟩
 ·rw[hf,if_neg (fun e=>hz0 e.symm),h.zero]
 ·refine zz fun p hp e he e0=>?_;obtain⟨_,_,y,hy,_⟩:=(h.ax p.1 p.2 (gf h.keys hp)).ai e he;exact hne _ _ hy e0
theorem Gx.delN (h:Gx t rk k 0){n0:Int}{x0:Nod}(hx0:fnd t n0=some x0)(h1:n0≠1)(hl:x0.ah=0):Gx (gq t n0) rk k 0:=by
 have hn0:n0≠0:=by rintro rfl;rw[h.zero] at hx0;cases hx0
 have H0:=h.ax _ _ hx0;have hnm:x0.ab = []:=by
  by_cases h2:x0.aa=2
  ·by_cases ha:x0.above=0
   ·exact(H0.loose hn0 h2 h1 ha).1
   ·have:=(H0.above hn0 ha).2.2.1;omega
  ·exact(H0.file h2).1
 have hc0:cnt t n0=0:=by
  have:=H0.ah hn0 h1;omega
 have hcn:∀ n,cnt (gq t n0) n=cnt t n:=by
  intro n;have h2:=CA h.keys hx0 n;have:j2 x0 n=0:=by unfold j2;rw[hnm];rfl
  omega
 have hf:∀ n,n≠n0→fnd (gq t n0) n=fnd t n:=fun n hn=>jF hn;have hf0:fnd (gq t n0) n0=none:=by
  exact zbk
 have Ea:∀ d y,fnd t d=some y→∀ e∈y.ab,e.2≠n0:=by
  rintro d y hy e he rfl;have:=lb hy (nm:=e.1) (n:=e.2) he;omega
 refine⟨pL h.keys _,?_,h.rk1,h.rk20,?_,h.zne,?_⟩
 ·obtain⟨u,hu⟩:=h.has1;exact⟨u,by rw[hf _ (fun e=>h1 e.symm)];exact hu⟩
 ·intro n u hu;by_cases hn:n=n0
  ·rw[hn,hf0] at hu;cases hu
  rw[hf _ hn] at hu;have H:=h.ax _ _ hu;refine⟨H.aa,H.file,?_,H.uniq,H.size,fun e=>by rw[hcn];exact H.root e,fun e1 e2=>by rw[hcn];exact H.ah e1 e2,?_,H.loose⟩
  ·intro e he;obtain⟨a1,a2,y,hy,a3⟩:=H.ai e he;exact⟨a1,a2,y,by rw[hf _ (Ea _ _ hu e he)];exact hy,a3⟩
  ·intro e1 e2;obtain⟨a1,a2,a3,y,nm,hy,a4⟩:=H.above e1 e2;refine⟨a1,a2,a3,y,nm,?_,a4⟩;rw[hf]
   ·exact hy
   ·intro e;rw[e,hx0] at hy;cases hy;rw[hnm] at a4;cases a4
 ·rw[hf _ (fun e=>hn0 e.symm),h.zero]
end Go.Proofs.YtmgpgbfgemebbaaGreatDoor
namespace Go.Proofs.YtmgpgbfgemebbaaGreatDoor
open Go.RowKit Go.Own
def spl:Str→List Str
 | [] => [[]]
 | c::l=>if c=47 then []::spl l else match spl l with
  | h::t=>(c::h)::t
  | [] => [[c]]
theorem Av (s:Str):spl s≠[]:=by
 cases s with
 | nil=>simp[spl]
 | cons c l =>
  unfold spl;split
  ·simp
  ·split <;> simp
theorem nK (b:UInt8)(l:List UInt8):Lib.index (b::l) [47]=if b=47 then 0 else if Lib.index l [47] == -1 then -1 else Lib.index l [47]+1:=by
 rw[Lib.index];by_cases h:b=47
 ·subst h;simp[List.isPrefixOf]
 ·have:([47]:List UInt8).isPrefixOf (b::l)=false:=by simp[List.isPrefixOf,Ne.symm h]
  rw[this,if_neg h];simp
theorem pO:∀ s:List UInt8,Lib.splitK [47] 0 (s.count 47) s=spl s
 | []=>rfl
 | b::l=>by
  have ih:=pO l;by_cases h:b=47
  ·subst h;rw[List.count_cons_self];unfold Lib.splitK;rw[nK,if_pos rfl];simp only[spl,if_true];rw[if_neg (by decide)];simp only[Int.toNat_zero,List.take_zero,List.length_cons,List.length_nil,List.drop_succ_cons,List.drop_zero,Nat.zero_add];rw[ih]
  ·rw[List.count_cons_of_ne (by simpa using fun e=>h e)];generalize l.count 47=n at *;have e2:spl (b::l)=match spl l with|h::t=>(b::h)::t|[] => [[b]]:=by rw[spl,if_neg h]
   rw[e2,←ih];cases n with
   | zero=>rfl
   | succ m =>
    unfold Lib.splitK;rw[nK,if_neg h];by_cases hm:Lib.index l [47] = -1
    ·rw[hm];rfl
    ·have hge:=Lib.index_ge l [47];have h1:(Lib.index l [47] == -1)=false:=by simpa using hm
     have h2:(Lib.index l [47]+1 == -1)=false:=by simp;omega
     have h3:(Lib.index l [47]+1).toNat=(Lib.index l [47]).toNat+1:=by omega
     rw[h1];simp only[Bool.false_eq_true,if_false];rw[h2,h3];simp only[Bool.false_eq_true,if_false,Nat.add_zero,List.length_cons,List.length_nil,Nat.zero_add,List.take_succ_cons,List.drop_succ_cons]
theorem jX (s:Str):jx s=spl s:=by
 unfold jx;rw[Lib.splitB_data];have e:(sB s).data.toList=s:=jv s;show Lib.splitK (sB [47]).data.toList 0 (Lib.count (sB s).data.toList (sB [47]).data.toList) (sB s).data.toList=_;rw[e,jv,Lib.count_one];exact pO s
theorem sL:∀ (s:Str),∀ p∈spl s,(47:UInt8)∉p
 | [],p,hp=>by simp[spl] at hp;subst hp;simp
 | c::l,p,hp=>by
  have ih:=sL l;unfold spl at hp;by_cases h:c=47
  ·rw[if_pos h] at hp;rcases List.mem_cons.1 hp with rfl|hp
   ·simp
   ·exact ih p hp
  ·rw[if_neg h] at hp;generalize spl l=q at *;cases q with
   | nil=>simp at hp;subst hp;simp;exact fun e=>h e.symm
   | cons x t =>
    simp only at hp;rcases List.mem_cons.1 hp with rfl|hp
    ·intro hm;rcases List.mem_cons.1 hm with e|hm
     ·exact h e.symm
     ·exact ih x List.mem_cons_self hm
    ·exact ih p (List.mem_cons_of_mem _ hp)
def lw (s:Str):Prop:=s≠[]∧s≠[46]∧s.length≤24∧(47:UInt8)∉s
theorem nu:∀ (ps acc l:List Str),(∀ p∈ps,(47:UInt8)∉p)→(∀ p∈acc,lw p)→fR ps acc=some l→∀ p∈l,lw p
 | [],acc,l,_,ha,h=>by cases h;exact ha
 | q::ps,acc,l,hps,ha,h=>by
  unfold fR at h;have FX:∀ p∈ps,(47:UInt8)∉p:=fun p hp=>hps p (List.mem_cons_of_mem _ hp);by_cases h1:hU q=true
  ·rw[if_pos h1] at h;exact nu ps acc l FX ha h
  ·rw[if_neg h1] at h;by_cases h2:24<q.length
   ·rw[if_pos h2] at h;cases h
   ·rw[if_neg h2] at h;refine nu ps _ l FX ?_ h;intro p hp;rcases List.mem_append.1 hp with hp|hp
    ·exact ha p hp
    ·rw[List.mem_singleton.1 hp];unfold hU at h1;simp only[Bool.or_eq_true,beq_iff_eq,not_or] at h1;exact⟨h1.1,h1.2,by omega,hps q List.mem_cons_self⟩
theorem wP (s:Str):∀ p∈(gj s).1,lw p:=by
 unfold gj;split
 ·simp
 ·rename_i l hl;exact nu _ _ _ (by rw[jX];exact sL s) (by simp) hl
theorem qW (p:Str):∀ q∈(fb p).1,lw q:=by
 unfold fb;split
 ·simp
 ·split
  ·simp
  ·exact wP p
theorem yK (p:Str)(h:(fx p).2.2=0):lw (fx p).2.1∧(fx p).2.1≠[46,46]:=by
 unfold fx at *;by_cases h1:(fb p).2≠0
 ·rw[if_pos h1] at h;exact absurd h h1
 ·rw[if_neg h1] at h ⊢;cases hg:(fb p).1.getLast? with
  | none=>rw[hg] at h;simp at h
  | some x =>
   rw[hg] at h;simp only at h ⊢;by_cases h2:x = [46,46]
   ·rw[if_pos h2] at h;simp at h
   ·rw[if_neg h2];exact⟨qW p x (List.mem_of_getLast? hg),h2⟩
end Go.Proofs.YtmgpgbfgemebbaaGreatDoor
