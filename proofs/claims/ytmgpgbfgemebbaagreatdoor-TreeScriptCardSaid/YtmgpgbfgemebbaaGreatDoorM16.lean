/- TEXTS of mine, merged. -/
import Derived.Test.YtmgpgbfgemebbaaGreatDoorM0
import Derived.Test.YtmgpgbfgemebbaaGreatDoorM10
import Derived.Test.YtmgpgbfgemebbaaGreatDoorM15
import Derived.Test.YtmgpgbfgemebbaaGreatDoorM5
import Derived.Test.YtmgpgbfgemebbaaGreatDoorM6
import Derived.Test.YtmgpgbfgemebbaaGreatDoorM7
import Derived.Test.YtmgpgbfgemebbaaGreatDoorM4
set_option linter.all false
set_option maxRecDepth 100000
set_option maxHeartbeats 16000000
namespace Go.Proofs.YtmgpgbfgemebbaaGreatDoor
open Go.RowKit Go.Own
def rsC (s:Spt):Array Value:=#[.int .i64 s.dir,sV s.name,.int .i64 s.ae]
def rsV (s:Spt):Value := .agg (rsC s)
theorem _root_.Go.Own.Has.cf {w:World}{l:List HP}{b:Nat}{s0:Spt}(h:Has w (pt b (.cells (rsC s0) 72)::l))(s:Spt):Has (((w.setCell ⟨b,0,none⟩ (.int .i64 s.dir)).setCell ⟨b,1,none⟩ (sV s.name)).setCell ⟨b,2,none⟩ (.int .i64 s.ae)) (pt b (.cells (rsC s) 72)::l) :=
 ((h.set 0 (.int .i64 s.dir)).set 1 (sV s.name)).set 2 (.int .i64 s.ae)
theorem _root_.Go.Own.Has.eO {w:World}{l:List HP}{b:Nat}{s0:Spt}(h:Has w (pt b (.cells (rsC s0) 72)::l))(n:Int):Has (w.setCell ⟨b,2,none⟩ (.int .i64 n)) (pt b (.cells (rsC ⟨n,s0.dir,s0.name⟩) 72)::l) :=
 h.set 2 (.int .i64 n)
theorem iN {fn:Func}{p p2:Tmp}{tmps:Array Value}{w:World}{L:List HP}{r:Nat}{e:Value}(s:Spt)(h:fn.results=#[.cell p 72,.tmp p2])(ht:tmps.getD p undef=.pointer (some ⟨r,0,none⟩))(he:tmps.getD p2 undef=e)(hO:Has w (pt r (.cells (rsC s) 72)::L)) :
  (results fn tmps).run Tryz.prog w=.ok (.tuple #[rsV s,e]) w:=by
 have h0:=hO.e0;have h1:=hO.e1;have h2:=hO.e2;unfold results rsV rsC;exact zbY
theorem uS (l:List Str):∀ u∈l.map sV,u.oneCell'=true:=by
 intro u hu;obtain⟨x,-,rfl⟩:=List.mem_map.1 hu;rfl
theorem GF (q g c:Nat)(R:List Rn)(S:Tre)(rk:Int→Nat)(k:Nat)(v:Value)(parts:List Str)(it:Bool)(w:World)(L:List HP)(hk:k≤1000)(hG:Gd S rk k)(hS:Sim R S)(hp:parts.length≤800)(hO:Has w (VwS v parts::Rtb q g c R S.ak::L)) :
  zCl 146 #[.pointer (some ⟨q,0,none⟩),v,.bool it] w fun e w'=>e=.returned (.tuple #[rsV (S.walk ⟨1,0,[]⟩ 0 parts (!it)).1,.int .i64 (S.walk ⟨1,0,[]⟩ 0 parts (!it)).2])∧Has w' (Rtb q g c R S.ak::L)∧Keep w w':=by
 obtain⟨pv,cv,rfl,-⟩:=(VwS.rd hO).form;have HG:=hid hG;have MV:=hid hS;have HW:=hid hG.wk;have Bi:=hid hp;have HO:=hid hO;have HR1:=hid (by have:=hS.aA hG;omega:R.length≤1000000);have hrl:(R.length:Int)≤1000000:=by have:=hS.aA hG;omega
 generalize hfo:(!it)=fo;have wU:=hid hfo;generalize hR:S.walk ⟨1,0,[]⟩ 0 parts fo=RR;have HR:=hid hR;clear hG hS hp hO hR hfo;go_enter Tryz.func146,Tryz.ntmps146
 go_wp2_with fail
 go_loopw [1,9] (fun a i w'=>∃ (s:Spt) (hops:Nat) (ps:List Str),i=.int .i64 hops∧hops≤8∧ps.length≤800+20*hops∧(∃ x,fnd S.ac s.ae=some x)∧lH a=ps.length∧Hid (S.walk s hops ps fo=RR)∧Hid (Has w' (VwS a ps::pt (w.heap.size+1) (.cells (rsC s) 72)::pt w.heap.size (.cells (rsC fp) 72)::Rtb q g c R S.ak::L))∧Hid (Keep w w')) (fun a i _=>(9-(intOf i).toNat)*21+lH a)
 case atStart =>
  refine⟨⟨1,0,[]⟩,0,parts,rfl,by omega,Bi.out,HW.out.root,rfl,HR,hid ?_,hid ?_⟩
  ·have h1:=(HO.out.alloc (.cells (rsC fp) 72)).alloc (.cells (rsC ⟨1,0,[]⟩) 72);have e:(w.alloc (.cells (rsC fp) 72)).heap.size=w.heap.size+1:=Array.size_push _;rw[e] at h1;exact h1.re 3 [2,0,1]
  ·exact((Keep.refl w).alloc _).alloc _
 case round =>
  obtain⟨s,hops,ps,rfl,hh,hpl,⟨x,hx⟩,hsl,HR,HO,HK⟩:=hrel;have hne:w.heap.size+1≠w.heap.size:=by omega
  generalize w.heap.size=g6 at *;generalize g6+1=g8 at *;obtain⟨d,r,hd,hrx,io⟩:=MV.out.ae _ _ hx;obtain⟨sn,sd,snm⟩:=s;dsimp only at hd hx HR;subst hd;have hdl:d<R.length:=(List.getElem?_eq_some_iff.1 hrx).1;have hdi:(d:Int)<(R.length:Int):=by omega
  have hd0:(0:Int)≤(d:Int):=by omega
  have rj:=HO.out.p2.e0;have rr:=HO.out.p2.e1;have tR:=HO.out.p2.e2;have hcs0:=HO.out.p1.e0;have hcs1:=HO.out.p1.e1;have hcs2:=HO.out.p1.e2;have ht0:=HO.out.p1.thaw 0;have ht1:=HO.out.p1.thaw 1;have ht2:=HO.out.p1.thaw 2;have Ct:=HO.out.p2.thaw 0;have Bq:=HO.out.p2.thaw 1;have BR:=HO.out.p2.thaw 2;rcases ps with _|⟨p,ps⟩
  ·have HRR:=hid (by rw[←HR.out,Tre.walk]:RR=(⟨d,sd,snm⟩,0));obtain⟨pp,pc,rfl,-⟩:=(VwS.rd HO.out).form;go_wp2_with fail
   try rw[Exit.noGoto_ret]
   have h1:=(show Has wr (pt g6 (.cells (rsC fp) 72)::Rtb q g c R S.ak::L) from HO.out.re 4 [2,3]).cf ⟨d,sd,snm⟩;refine bodyPost_ret (iN ⟨d,sd,snm⟩ rfl rfl rfl h1) rfl ?_;rw[HRR.out];exact⟨rfl,h1.drop,((HK.out.set _ _).set _ _).set _ _⟩
  ·obtain⟨pp,pc,rfl,-,-,hcs⟩:=(VwS.rd HO.out.drew).form;obtain⟨gv,ov,rfl,Ds⟩:=hcs (by simp);have hcv:wr.drew.cell? ⟨gv,ov,none⟩=some (sV p):=Ds 0 (by simp);have hln:((p::ps).length:Int)=(ps.length:Int)+1:=by simp
   have K7:(0:Int)≤(ps.length:Int):=by omega
   have gC:=hid HO.out.drew;have iG:=hid HK.out.drew;clear hcs Ds;go_upto_region 4 with fail
   refine eP (fun w'=>w'.cell? ⟨gv,ov,none⟩=some (sV p)∧w'.cell? ⟨g8,2,none⟩=some (.int .i64 (d:Int))) (by kernel_rfl) (by kernel_rfl) ⟨hcv,hcs2⟩ ?_;repeat (first|refine wr2 ?_|refine wk ?_)
   refine eR ?_;go_upto_region 5 with fail
   go_cut [1] (fun a wx=>∃ (p2:Option Addr) (c2:Nat),a=.slice p2 ps.length c2∧wx=wr.drew∧Hid (Has wx (VwS (.slice p2 ps.length c2) ps::Rtb q g c R S.ak::pt g8 (.cells (rsC ⟨d,sd,snm⟩) 72)::pt g6 (.cells (rsC fp) 72)::L)))
   case first =>
    as_aux_lemma=>exact zbb
   case rest =>
    obtain⟨p2,c2,rfl,rfl,lh⟩:=hcut;clear hcs0 hcs1 hcs2 ht0 ht1 ht2 rj rr tR Ct Bq BR hcv;have rj:wr.drew.cell? ⟨g6,0,none⟩=some (.int .i64 0):=lh.out.p3.cells 0;have rr:wr.drew.cell? ⟨g6,1,none⟩=some (sV []):=lh.out.p3.cells 1;have tR:wr.drew.cell? ⟨g6,2,none⟩=some (.int .i64 0):=lh.out.p3.cells 2;have hcs0:wr.drew.cell? ⟨g8,0,none⟩=some (.int .i64 sd):=lh.out.p2.cells 0;have hcs1:wr.drew.cell? ⟨g8,1,none⟩=some (sV snm):=lh.out.p2.cells 1;have hcs2:wr.drew.cell? ⟨g8,2,none⟩=some (.int .i64 (d:Int)):=lh.out.p2.cells 2;have ht0:=lh.out.p2.thaw 0;have ht1:=lh.out.p2.thaw 1;have ht2:=lh.out.p2.thaw 2;have Ct:=lh.out.p3.thaw 0;have Bq:=lh.out.p3.thaw 1;have BR:=lh.out.p3.thaw 2;have DZ:Has wr.drew (Rtb q g c R S.ak::VwS (.slice p2 ps.length c2) ps::pt g8 (.cells (rsC ⟨d,sd,snm⟩) 72)::pt g6 (.cells (rsC fp) 72)::L):=lh.out.re 4 [1,0,2,3];have hq:=Rtb.nv DZ;obtain⟨k0,k1,k2,-,-,-,-⟩:=Rtb.at_ DZ hrx;have hat:S.at_ (d:Int)=x:=by unfold Tre.at_;rw[hx];rfl
    have hkk:=io.aa;have FO:=hid (fun hk2=>io.up HG.out hx hk2);have Jx:=hid DZ;clear DZ;generalize wr.drew=w1 at *;have I5:=hid (show ∃ y,fnd S.ac (S.up (d:Int))=some y from by
     unfold Tre.up;rw[hat];by_cases h0:x.above=0
     ·rw[if_pos h0];exact⟨x,hx⟩
     ·rw[if_neg h0];exact HW.out.above _ _ hx h0)
    by_cases hk:x.aa=2
    ·have hrk:r.aa=2:=by rw[hkk];exact hk
     rw[hrk] at k0;clear hkk hrk;by_cases hpp:p = [46,46]
     ·subst hpp;have HR2:=hid (by rw[←HR.out,Tre.walk,if_neg (by show ¬ (S.at_ (d:Int)).aa≠2;rw[hat,hk];simp),if_pos rfl]:S.walk ⟨S.up (d:Int),0,[]⟩ hops ps fo=RR);have hup:=FO.out hk;have h0:=(show Has w1 (pt g8 (.cells (rsC ⟨d,sd,snm⟩) 72)::VwS (.slice p2 ps.length c2) ps::pt g6 (.cells (rsC fp) 72)::Rtb q g c R S.ak::L) from lh.out.re 4 [2,0,3,1]).cf ⟨d,0,[]⟩;have Ai:=hid h0;have sj:=hid (((iG.out.set ⟨g8,0,none⟩ (.int .i64 0)).set ⟨g8,1,none⟩ (sV [])).set ⟨g8,2,none⟩ (.int .i64 (d:Int)));have CD:=hid hup;clear h0 hup FO;go_upto_region 10 with fail
      clear hcs0 hcs1 hcs2 ht0 ht1 ht2 rj rr tR Ct Bq BR hq k0 k1 k2 Jx lh iG;generalize ((w1.setCell ⟨g8,0,none⟩ (.int .i64 0)).setCell ⟨g8,1,none⟩ (sV [])).setCell ⟨g8,2,none⟩ (.int .i64 (d:Int))=w2 at *;have DZ:Has w2 (Rtb q g c R S.ak::L):=Ai.out.re 4 [3];have hq:=Rtb.nv DZ;obtain⟨-,k1,k2,-,-,-,-⟩:=Rtb.at_ DZ hrx;have hcs2:=Ai.out.e2;have ht2:=Ai.out.thaw 2;clear DZ;by_cases hnm:(0:Int)<r.ab
      ·have hup:=CD.out;rw[if_pos hnm] at hup;rw[hup] at k2;have h1:=hid (Ai.out.eO (S.up (d:Int)));clear CD hup;go_wp2_with fail
       refine⟨⟨⟨S.up (d:Int),0,[]⟩,hops,ps,rfl,hh,by simp only[List.length_cons] at hpl;omega,I5.out,rfl,HR2,hid (h1.out.re 4 [1,0,2,3]),hid (sj.out.set _ _)⟩,?_⟩;simp[intOf,lH]
      ·have hup:=CD.out;rw[if_neg hnm] at hup;rw[←hup] at I5 HR2;clear CD hup k2;go_wp2_with fail
       refine⟨⟨⟨(d:Int),0,[]⟩,hops,ps,rfl,hh,by simp only[List.length_cons] at hpl;omega,I5.out,rfl,HR2,hid (Ai.out.re 4 [1,0,2,3]),sj⟩,?_⟩;simp[intOf,lH]
     ·have hpe:(p == [46,46])=false:=by simpa using hpp
      have o7:=hid (D3 q g c R S.ak d r p w1 (VwS (.slice p2 ps.length c2) ps::pt g8 (.cells (rsC ⟨d,sd,snm⟩) 72)::pt g6 (.cells (rsC fp) 72)::L) hrx (by have:=io.few HG.out hx;omega) HR1.out Jx.out);rw[io.eF HG.out hx p] at o7;have og:(S.at_ (⟨(d:Int),sd,snm⟩:Spt).ae).aa=2:=by show (S.at_ (d:Int)).aa=2;rw[hat,hk]
      rcases hf:fnd x.ab p with _|c0
      ·have HRR:=hid (show RR=(fp,5) from by
        rw[←HR.out,Tre.walk,if_neg (by rw[og];simp),if_neg hpp];show (match fnd (S.at_ (d:Int)).ab p with|none=>_|some c=>_)=_;rw[hat,hf])
       rw[hf] at o7;clear k1 k2 og;go_wp2_with fail
       refine(o7.out).mono ?_;rintro e w' ⟨rfl,rfl⟩;try dsimp only
       as_aux_lemma=>exact zaV
      ·rw[hf] at o7;obtain⟨y,hy⟩:=HW.out.child _ _ hx _ _ hf;obtain⟨ci,ry,hci,J1,ME⟩:=MV.out.ae _ _ hy;subst hci;have hc0:(ci:Int)≠0:=HG.out.aR hy;have N4:((ci:Int)==0)=false:=by simpa using hc0
       obtain⟨y0,-,-,-,-,y5,-⟩:=Rtb.at_ Jx.out J1;have hrd:=(Rtb.aO Jx.out J1).2.1;rw[ME.data] at hrd;rw[ME.aa] at y0;have hay:S.at_ (ci:Int)=y:=fC hy;have hcl:ci<R.length:=(List.getElem?_eq_some_iff.1 J1).1;have OR:(ci:Int)<(R.length:Int):=by omega
       have hcl0:(0:Int)≤(ci:Int):=by omega
       have Nz:=hid (show S.walk ⟨(d:Int),sd,snm⟩ hops (p::ps) fo=if y.aa=3∧(ps≠[]∨fo=true) then(if h:8≤hops then(fp,12) else S.walk ⟨if (fN (iH y.data)).2.1=true then 1 else(d:Int),0,[]⟩ (hops+1) ((fN (iH y.data)).1++ps) fo) else S.walk ⟨(ci:Int),(d:Int),p⟩ hops ps fo from by
        rw[Tre.walk,if_neg (by rw[og];simp),if_neg hpp];show (match fnd (S.at_ (d:Int)).ab p with|none=>_|some c=>_)=_;rw[hat,hf];show (if (S.at_ (ci:Int)).aa=3∧(ps≠[]∨fo=true) then _ else _)=_;rw[hay])
       rw[Nz.out] at HR;clear k1 k2 og hc0 Nz hf;go_wp2_with fail
       refine(o7.out).mono ?_;rintro e w' ⟨rfl,rfl⟩;try dsimp only
       clear o7 hpp hpe;go_upto_region 15 with fail
       go_cut [82] (fun a wx=>a=.bool (!decide (y.aa=3∧(ps≠[]∨fo=true)))∧wx=w1)
       case first =>
        by_cases hk3:y.aa=3
        ·rw[hk3] at y0;by_cases hpl0:(0:Int)<(ps.length:Int)
         ·have HB:=hid (by rw[decide_eq_true ⟨hk3,.inl (by rintro rfl;simp at hpl0)⟩];rfl:(!decide (y.aa=3∧(ps≠[]∨fo=true)))=false);have JS:((ps.length:Int)==0)=false:=by simp;intro h;rw[h] at hpl0;simp at hpl0
          cases it
          ·as_aux_lemma=>exact zbl
          ·as_aux_lemma=>exact zbl
         ·have hnil:ps = []:=by
           have:ps.length=0:=by omega
           simpa using this
          have HB:=hid (by rw[←wU.out];subst hnil;cases it <;> simp[hk3]:(!decide (y.aa=3∧(ps≠[]∨fo=true)))=it);subst hnil;cases it
          ·as_aux_lemma=>exact zbl
          ·as_aux_lemma=>exact zbl
        ·have HB:=hid (by rw[decide_eq_false fun h=>hk3 h.1];rfl:(!decide (y.aa=3∧(ps≠[]∨fo=true)))=true)
         as_aux_lemma=>exact zbl
       case rest =>
        obtain⟨rfl,hwx⟩:=hcut;have jK:=hwx.symm;subst jK;by_cases jZ:y.aa=3∧(ps≠[]∨fo=true)
        ·rw[decide_eq_true jZ];have yx:(iH y.data).length≤100000:=by unfold iH;rw[List.length_map];exact HW.out.data _ _ hy jZ.1
         have Fs:=oH hrd;have hml:=Tre.more_len (iH y.data);rw[if_pos jZ] at HR;have Gw:=hid (fun(w:World)(L':List HP)(hO:Has w L')=>uV (iH y.data) w L' yx hO);generalize LC:fN (iH y.data)=TM at *;obtain⟨more,whole,e3⟩:=TM;dsimp only at HR Gw hml;generalize iH y.data=str at *;clear LC yx jZ y0;by_cases GQ:hops=8
         ·have HRR:=hid (by rw[←HR.out,dif_pos (by omega)]:RR=(fp,12));subst GQ;rw[show ((8:Nat):Int)=8 from rfl]
          as_aux_lemma=>exact zaV
         ·have hh7:(hops:Int)<8:=by omega
          have hh0:(0:Int)≤(hops:Int):=by omega
          have HR3:=hid (by rw[←HR.out,dif_neg (by omega)]:S.walk ⟨if whole=true then 1 else(d:Int),0,[]⟩ (hops+1) (more++ps) fo=RR);have Ia:=hid (show ∃ y,fnd S.ac (if whole=true then 1 else(d:Int))=some y from by cases whole <;> first|exact⟨x,hx⟩|exact HW.out.root);have np:=hid (by simp only[List.length_cons,List.length_append] at *;omega:more.length+ps.length≤1000∧(more++ps).length≤800+20*(hops+1)∧hops+1≤8∧(9-(hops+1))*21+(more++ps).length<(9-hops)*21+(ps.length+1));obtain⟨pd,cd,hdv,-⟩:=hrd.form;rw[hdv] at y5 Fs;clear hrd hml GQ HR hdv;go_wp2_with fail
          refine(Gw.out w1 _ lh.out).mono ?_;rintro e w2 ⟨v2,rfl,hO2,hK2⟩;have eZ:=hid hO2;have fu:=hid ((iG.out).trans hK2);clear hO2 hK2;try dsimp only
          obtain⟨pv2,cv2,rfl,-⟩:=(Strs.rd eZ.out).form;clear hcs0 hcs1 hcs2 ht0 ht1 ht2 rj rr tR Ct Bq BR hq y5 Fs;go_upto_region 22 with (at_builtin;first
           | (refine fY rfl _ _ _ rfl Tryz.underlying36 iD rfl (by decide) (eZ.out.al gx 1) rfl _ more.length (more.map sV) rfl (Strs.rd eZ.out) (uS more) (eU (by have:=np.out.1;omega)) (by have:=np.out.1;omega) ?_;intro v3 w3 h3 k3;have eW:=hid h3;have fH:=hid (fu.out.trans k3);clear h3 k3)
           | (refine fY rfl _ _ _ rfl Tryz.underlying36 iD rfl (by decide) eW.out rfl _ ps.length (ps.map sV) rfl (VwS.rd (eW.out.re 3 [2])) (uS ps) (eU (by have:=np.out.1;omega)) (by have:=np.out.1;omega) ?_;intro v4 w4 h4 k4;have fg:=hid (by unfold Strs;rw[List.map_append,List.length_append];rw[Nat.zero_add,List.nil_append] at h4;exact h4:Has w4 (Strs v4 (more++ps)::_));have fO:=hid (fH.out.trans k4);clear h4 k4))
          obtain⟨pv4,cv4,rfl,-⟩:=(Strs.rd fg.out).form;have tx:=hid (VwS.of (fg.out.re 6 [0,4,5,3])).vm;have hcs0:=tx.out.e0;have hcs1:=tx.out.e1;have hcs2:=tx.out.e2;have ht0:=tx.out.thaw 0;have ht1:=tx.out.thaw 1;have ht2:=tx.out.thaw 2;cases whole
          ·go_wp2_with fail
           have h1:=tx.out.cf ⟨(d:Int),0,[]⟩;refine⟨⟨⟨(d:Int),0,[]⟩,hops+1,more++ps,by go_num,np.out.2.2.1,np.out.2.1,Ia.out,rfl,HR3,hid (h1.re 4 [1,0,2,3]),hid (((fO.out.set _ _).set _ _).set _ _)⟩,?_⟩
           as_aux_lemma=>exact zbO
          ·go_wp2_with fail
           have h1:=(tx.out.cf ⟨(d:Int),0,[]⟩).cf ⟨1,0,[]⟩;refine⟨⟨⟨1,0,[]⟩,hops+1,more++ps,by go_num,np.out.2.2.1,np.out.2.1,Ia.out,rfl,HR3,hid (h1.re 4 [1,0,2,3]),hid ((((((fO.out.set _ _).set _ _).set _ _).set _ _).set _ _).set _ _)⟩,?_⟩
           as_aux_lemma=>exact zbO
        ·rw[decide_eq_false jZ];have HR2:=hid (by rw[←HR.out,if_neg jZ]:S.walk ⟨(ci:Int),(d:Int),p⟩ hops ps fo=RR);have Gq:=hid (show ∃ y,fnd S.ac (ci:Int)=some y from⟨y,hy⟩);clear hrd y0 y5 jZ;go_wp2_with fail
         have h1:=(show Has w1 (pt g8 (.cells (rsC ⟨d,sd,snm⟩) 72)::VwS (.slice p2 ps.length c2) ps::pt g6 (.cells (rsC fp) 72)::Rtb q g c R S.ak::L) from lh.out.re 4 [2,0,3,1]).cf ⟨(ci:Int),(d:Int),p⟩;refine⟨⟨⟨(ci:Int),(d:Int),p⟩,hops,ps,rfl,hh,by simp only[List.length_cons] at hpl;omega,Gq.out,rfl,HR2,hid (h1.re 4 [1,0,2,3]),hid (((iG.out.set _ _).set _ _).set _ _)⟩,?_⟩;simp[intOf,lH]
    ·have hrk:¬ r.aa=2:=by rw[hkk];exact hk
     have HRR:=hid (by rw[←HR.out,Tre.walk,if_pos (by show (S.at_ (d:Int)).aa≠2;rw[hat];exact hk)]:RR=(fp,7));clear hkk
     as_aux_lemma=>exact zaV
theorem rD {α:Type} (f:α→Bool) (a:α) : [a].filter f=if f a=true then [a] else []:=by
 rw[List.filter_cons,List.filter_nil]
def pD (b n:Int):Bool:=decide (200<b)||decide (20<n)
theorem BV (b n:Int)(w:World):zCl 189 #[.int .i64 b,.int .i64 n] w fun e w'=>e=.returned (.bool (pD b n))∧w=w':=by
 have HB:=hid (show pD b n=(decide (200<b)||decide (20<n)) from rfl);by_cases h1:(200:Int)<b
 ·rw[decide_eq_true h1] at HB;go_enter Tryz.func189,Tryz.ntmps189
  go_wp2_with fail
  go_ret
  rw[HB.out];exact za6
 ·rw[decide_eq_false h1,Bool.false_or] at HB;go_enter Tryz.func189,Tryz.ntmps189
  go_wp2_with fail
  go_ret
  rw[HB.out];exact za6
section
variable {S:Tre} {rk:Int→Nat} {k:Nat}
theorem Gd.bP (g:Gd S rk k){n:Int}{x:Nod}(hx:fnd S.ac n=some x)(ha:x.above≠0):x.aa=2∧n≠1∧x.ah=1∧∃ y,fnd S.ac x.above=some y∧y.aa=2∧(x.above=1∨y.above≠0):=by
 obtain⟨h1,h2,h3,y,nm,hy,hm⟩:=(g.ax hx).above (g.aR hx) ha;have hk:y.aa=2:=Classical.byContradiction fun hk=>by
  have:=((g.ax hy).file hk).1;rw[this] at hm;cases hm
 refine⟨h1,h2,h3,y,hy,hk,?_⟩;by_cases h:x.above=1
 ·exact .inl h
 ·refine .inr fun h0=>?_;have:=((g.ax hy).loose (g.aR hy) hk h h0).1;rw[this] at hm;cases hm
end
theorem BF (q g c:Nat)(R:List Rn)(S:Tre)(rk:Int→Nat)(k:Nat)(d t:Int)(x:Nod)(w:World)(L:List HP)(hk:k≤1000)(hG:Gd S rk k)(hS:Sim R S)(hx:fnd S.ac d=some x)(hd:d=1∨x.above≠0)(hO:Has w (Rtb q g c R S.ak::L)) :
  zCl 140 #[.pointer (some ⟨q,0,none⟩),.int .i64 d,.int .i64 t] w fun e w'=>e=.returned (.bool (S.within d t))∧w=w':=by
 have xB:=hid hG.wy;have hrl:(R.length:Int)≤1000000:=by have:=hS.aA hG;omega
 have hq:=Rtb.nv hO;have HO:=hid hO;have HG:=hid hG;have HS:=hid hS;obtain⟨N,hN⟩:∃ N:Nat,21=N:=⟨_,rfl⟩
 have hrk:rk d<N:=by rw[←hN];have:=hG.wy.low d;omega
 have HW:=hid (by rw[←hN];rfl:S.withinF N d t=S.within d t);generalize S.within d t=B at *;clear hO hG hS hN;go_enter Tryz.func140,Tryz.ntmps140
 go_wp2_with fail
 go_loopw [1] (fun a w'=>w'=w∧∃ (n:Int) (x:Nod) (N:Nat),a=.int .i64 n∧fnd S.ac n=some x∧(n=1∨x.above≠0)∧rk n<N∧Hid (S.withinF N n t=B)) (fun a _=>rk (intOf a))
 case atStart=>exact⟨rfl,d,x,N,rfl,hx,hd,hrk,HW⟩
 case round =>
  clear hx hd hrk HW;obtain⟨rfl,n,x,N,rfl,hx,hd,hrk,HW⟩:=hrel;obtain⟨M,rfl⟩:∃ M,N=M+1:=⟨N-1,by omega⟩
  have hat:=fC hx;obtain⟨i,r,rfl,qM,hsn⟩:=HS.out.ae _ _ hx;by_cases hnt:(i:Int)=t
  ·subst hnt;have HB:=hid (by rw[←HW.out,Tre.withinF,if_neg (by simp)];simp:B=true);clear hd;go_wp2_with fail
   go_ret
   rw[HB.out];exact za6
  ·have Gy:((i:Int)==t)=false:=by simpa using hnt
   have Kc:((i:Int) != t)=true:=by simpa using hnt
   by_cases h1:(i:Int)=1
   ·have ha:x.above=0:=((HG.out.ax hx).root h1).2.1;have HB:=hid (by rw[←HW.out,Tre.withinF,if_neg (by rw[hat,ha];simp)];exact Gy:B=false);have h1c:((i:Int) != 1)=false:=by simpa using h1
    clear hd;rw[h1] at Gy Kc ⊢;clear hnt h1 qM hsn hx hat h1c hrk HW;go_wp2_with fail
    go_ret
    rw[HB.out];exact za6
   ·have ha:x.above≠0:=hd.resolve_left h1;obtain⟨-,-,-,y,hy,-,hy2⟩:=HG.out.bP hx ha;obtain⟨y2,nm,hy3,-,hlt,-⟩:=xB.out.rank _ _ hx h1 ha;have HW2:=hid (by rw[←HW.out,Tre.withinF,if_pos ⟨hnt,by rw[hat];exact ha⟩,hat]:S.withinF M x.above t=B);obtain⟨-,-,c2,-⟩:=Rtb.at_ HO.out qM;rw[hsn.am ha] at c2;have h1c:((i:Int) != 1)=true:=by simpa using h1
    have hdl:i<R.length:=(List.getElem?_eq_some_iff.1 qM).1;have hdi:(i:Int)<(R.length:Int):=by omega
    have hi0:(0:Int)≤(i:Int):=by omega
    have HY:=hid hy;have D8:=hid hy2;have gW:=hid (by omega:rk x.above<M∧rk x.above<rk i);generalize x.above=u at *;clear hd ha hy hy2 hy3 hlt hat hx hsn qM HW h1 hnt;go_wp2_with fail
    exact⟨⟨trivial,u,y,M,rfl,HY.out,D8.out,gW.out.1,HW2⟩,by simp[intOf];exact gW.out.2⟩
theorem Dr (q g c:Nat)(R:List Rn)(S:Tre)(rk:Int→Nat)(k:Nat)(d:Int)(x:Nod)(w:World)(L:List HP)(hk:k≤1000)(hG:Gd S rk k)(hS:Sim R S)(hx:fnd S.ac d=some x)(hk2:x.aa=2)(hO:Has w (Rtb q g c R S.ak::L)) :
  zCl 141 #[.pointer (some ⟨q,0,none⟩),.int .i64 d] w fun e w'=>e=.returned (.tuple #[sV (fm (S.way d)),.int .i64 ((S.way d).length:Int)])∧w=w':=by
 have xB:=hid hG.wy;have hrl:(R.length:Int)≤1000000:=by have:=hS.aA hG;omega
 have hq:=Rtb.nv hO;have HO:=hid hO;have HG:=hid hG;have HS:=hid hS;have hrk:=hG.wy.low d;generalize zu:S.way d=way at *;have xL:=hid zu;clear hO hG hS zu;go_enter Tryz.func141,Tryz.ntmps141
 go_wp2_with fail
 go_loopw [1,6,7] (fun a s m w'=>w'=w∧∃ (n:Int) (x:Nod) (tl:List Str) (P:ByteArray),a=.int .i64 n∧s=.string P∧m=.int .i64 (tl.length:Int)∧fnd S.ac n=some x∧x.aa=2∧rk n+tl.length≤20∧Hid (sB (fm tl)=P∧(fm tl).length≤25*tl.length)∧Hid (S.way n++tl=way)) (fun a _ _ _=>rk (intOf a))
 case atStart=>exact⟨rfl,d,x,[],_,rfl,rfl,rfl,hx,hk2,by simpa using hrk,hid ⟨rfl,by simp[fm]⟩,hid (by rw[←xL.out];simp)⟩
 case round =>
  clear hx hk2 hrk xL;obtain⟨rfl,n,x,tl,P,rfl,rfl,rfl,hx,hk2,hrk,HP,xL⟩:=hrel;have hat:=fC hx;obtain⟨i,r,rfl,qM,hsn⟩:=HS.out.ae _ _ hx;obtain⟨-,c1,c2,-⟩:=Rtb.at_ HO.out qM;have hdl:i<R.length:=(List.getElem?_eq_some_iff.1 qM).1;have hdi:(i:Int)<(R.length:Int):=by omega
  have hi0:(0:Int)≤(i:Int):=by omega
  have htl:(tl.length:Int)≤20:=by omega
  have Ow:(0:Int)≤(tl.length:Int):=by omega
  rw[hsn.ab] at c1;by_cases hstop:(i:Int)=1∨x.above=0
  ·have HE:=hid (by rw[←xL.out,ki (by rw[hat];exact hstop)];rfl:tl=way);by_cases h1:(i:Int)=1
   ·have h1c:((i:Int) != 1)=false:=by simpa using h1
    rw[h1] at h1c ⊢;clear hstop hsn qM hx hat hrk h1 c1 c2 hdi hi0 h1c;go_wp2_with fail
    go_ret2
    rw[←HE.out];refine⟨?_,rfl⟩;have e:=HP.out.1;subst e;rfl
   ·have h2:x.above=0:=hstop.resolve_left h1;have hl0:=((HG.out.ax hx).loose (HG.out.aR hx) hk2 h1 h2).2;have h1c:((i:Int) != 1)=true:=by simpa using h1
    rw[hl0] at c1;clear hstop hsn qM hx hat hrk h1 c2 hk2 h2 hl0;go_wp2_with fail
    go_ret2
    rw[←HE.out];refine⟨?_,rfl⟩;have e:=HP.out.1;subst e;rfl
  ·simp only[not_or] at hstop;obtain⟨h1,ha⟩:=hstop;obtain⟨-,-,hl1,y,hy,hky,-⟩:=HG.out.bP hx ha;obtain⟨y2,nm,hy2,hfl,hlt,hnl,hw2⟩:=ke xB.out hx h1 ha;rw[hy] at hy2;cases hy2;obtain⟨u,ru,hu,Jr,hsu⟩:=HS.out.ae _ _ hy;obtain⟨-,-,-,-,e4,-⟩:=Rtb.at_ HO.out Jr;obtain⟨pv,cp,he,-,hcs⟩:=iC (Rtb.aO HO.out Jr).1;rw[he] at e4;rw[hl1] at c1;rw[hsn.am ha,hu] at c2;have h1c:((i:Int) != 1)=true:=by simpa using h1
   have Pc:u<R.length:=(List.getElem?_eq_some_iff.1 Jr).1;have Qn:(u:Int)<(R.length:Int):=by omega
   have hu0:(0:Int)≤(u:Int):=by omega
   have hfew:=hsu.few HG.out hy;have hel:(ru.ai.length:Int)≤1000000:=by omega
   have hfp:ru.ai.filter (fun p=>decide (p.2=(i:Int))) = [(nm,(i:Int))]:=by
    have:=hsu.ai.filter (fun p=>decide (p.2=(i:Int)));rw[hfl] at this;exact List.perm_singleton.1 this
   rw[hu] at hy hlt hw2;have HW2:=hid (by rw[←xL.out,hw2];simp:S.way (u:Int)++(nm::tl)=way);have HY:=hid hy;have gW:=hid (by simp only[List.length_cons];omega:rk (u:Int)<rk (i:Int)∧rk (u:Int)+(nm::tl).length≤20);have NT:=hid hfp;have vC:=hid hnl;have vz:=hid hcs;generalize hes:ru.ai=es at *;clear hcs hfp hlt hw2 hy hat hx hsn hsu qM Jr hrk hk2 ha h1 hl1 hes hu hfl hfew hnl xL Pc hdl;go_wp2_with fail
   go_loopw [9,6] (fun a s w'=>w'=wr∧∃ (j:Nat) (Q:ByteArray),a=.int .i64 j∧j≤es.length∧s=.string Q∧Hid (sB (fm (((es.take j).filter (fun p=>decide (p.2=(i:Int)))).map Prod.fst++tl))=Q)) (fun a _ _=>es.length-(intOf a).toNat)
   case atStart=>exact⟨rfl,0,P,rfl,by omega,rfl,hid (by simpa using HP.out.1)⟩
   case round =>
    obtain⟨rfl,j,Q,rfl,hj,rfl,HQ⟩:=hrel;have hj0:(0:Int)≤(j:Int):=by omega
    by_cases hlt:j<es.length
    ·have hji:(j:Int)<(es.length:Int):=by omega
     obtain⟨a,o,rfl,hce⟩:=vz.out (by omega);obtain⟨e0,e1⟩:=hce j hlt;clear hce;have DV:es.take (j+1)=es.take j ++ [es[j]]:=List.take_succ_eq_append_getElem hlt;have Hh:=hid hlt;generalize es[j]=ej at *;have jU:=hid DV;clear DV hlt;by_cases hm:ej.2=(i:Int)
     ·have hone:(es.take j).filter (fun p=>decide (p.2=(i:Int))) = []∧ej=(nm,(i:Int)):=by
       have h:=NT.out
       conv at h=>lhs;rw[←List.take_append_drop (j+1) es]
       rw[jU.out,List.filter_append,List.filter_append,rD,if_pos (decide_eq_true hm)] at h;generalize (es.take j).filter (fun p=>decide (p.2=(i:Int)))=A at *;cases A with
       | nil=>simp at h;exact⟨rfl,h.1⟩
       | cons a A=>simp at h
      rw[hone.2] at e0 e1;have FF:=hid (show sB (fm (((es.take (j+1)).filter (fun p=>decide (p.2=(i:Int)))).map Prod.fst++tl))=⟨#[47]⟩++sB nm++Q from by
       rw[jU.out,List.filter_append,hone.1,rD,if_pos (decide_eq_true hm),hone.2];show sB (47::nm++fm tl)=_;rw[←HQ.out,hone.1];show _=⟨#[47]⟩++sB nm++sB (fm tl);rw[rN,nz])
      have Qe:Q.size≤500:=by
       rw[←HQ.out,hone.1,jE];have:=HP.out.2;show (fm tl).length≤500;omega
      have hnl:(sB nm).size≤24:=by rw[jE];exact vC.out
      clear hm hone;obtain⟨NM,hNM⟩:∃ NM,sB nm=NM:=⟨_,rfl⟩
      rw[show sV nm=.string NM from by rw[←hNM]] at e0;rw[hNM] at FF hnl;clear hNM;have hz1:¬ 9223372036854775807<1+NM.size:=by omega
      have hz2:¬ 9223372036854775807<1+NM.size+Q.size:=by omega
      exact zcj
     ·have hmb:(ej.2==(i:Int))=false:=by simpa using hm
      have FF:=hid (show sB (fm (((es.take (j+1)).filter (fun p=>decide (p.2=(i:Int)))).map Prod.fst++tl))=Q from by
       rw[jU.out,List.filter_append,rD,if_neg (by simpa using hm)];simpa using HQ.out)
      generalize ej.2=m at *;clear hm e0;exact zcj
    ·obtain rfl:j=es.length:=by omega
     have hji:¬ (es.length:Int)<(es.length:Int):=by omega
     have FF:=hid (show sB (fm (nm::tl))=Q from by
      have:=HQ.out;rw[List.take_length,NT.out] at this;exact this)
     have HP2:=hid (show sB (fm (nm::tl))=Q∧(fm (nm::tl)).length≤25*(nm::tl).length from⟨FF.out,by
      have h1:=vC.out;have h2:=HP.out.2;show (47::nm++fm tl).length≤25*(tl.length+1);simp only[List.cons_append,List.length_cons,List.length_append];omega⟩)
     clear hlt HQ FF;go_wp2_with fail
     exact⟨⟨trivial,(u:Int),y,nm::tl,Q,rfl,rfl,by simp,HY.out,hky,gW.out.2,HP2,HW2⟩,by simp[intOf];exact gW.out.1⟩
theorem EO (v:Value)(xs:List Str)(w:World)(L:List HP)(hr:Rd w v 1 xs.length (xs.map sV))(hl:xs.length≤100000)(hj:(fm xs).length≤1000000)(hO:Has w L) :
  zCl 195 #[v] w fun e w'=>e=.returned (sV (ii xs))∧Has w' L∧Keep w w' :=
 (Hm v xs w (by omega) hj hr).mono fun _ _ h=>⟨h.1,h.2 ▸ hO,h.2 ▸ Keep.refl w⟩
theorem IJ (p:Str)(w:World)(L:List HP)(hs:p.length≤100000)(hl:(fb p).1.length≤100000)(hj:(fm (fb p).1.dropLast).length≤1000000)(hO:Has w L) :
  zCl 139 #[sV p] w fun e w'=>e=.returned (.tuple #[sV (fx p).1,sV (fx p).2.1,.int .i64 (fx p).2.2])∧Has w' L∧Keep w w':=by
 have HP:=hid (zG p w L hs hO);have i8:=hid (show fx p=if (fb p).2≠0 then([],[],(fb p).2) else match (fb p).1.getLast? with|none=>([],[],2)|some x=>if x = [46,46] then([],[],2) else(ii (fb p).1.dropLast,x,0) from rfl);generalize fx p=R at *;generalize fb p=M at *;obtain⟨ms,me⟩:=M;dsimp only at HP i8 hj hl;have HJ:=hid hj;have HL:=hid hl;clear hO hj;by_cases he:me=0
 ·subst he;rw[if_neg (by simp)] at i8;rcases List.eq_nil_or_concat ms with rfl|⟨ys,x,rfl⟩
  ·have HR:=hid (by rw[i8.out];rfl:R=([],[],2));go_enter Tryz.func139,Tryz.ntmps139
   exact zcO
  ·rw[List.concat_eq_append] at *;rw[List.getLast?_concat,List.dropLast_concat] at i8;rw[List.dropLast_concat] at HJ;dsimp only at i8;have hlen:((ys ++ [x]).length:Int)=(ys.length:Int)+1:=by simp
   have hal:(ys.length:Int)≤100000:=by have:=HL.out;simp at this;omega
   have ha0:(0:Int)≤(ys.length:Int):=by omega
   have hwr:IntKind.i64.wrap (ys.length:Int)=(ys.length:Int):=ft _ (by omega);have DA:(ys.length:Int)<(ys.length:Int)+1:=by omega
   have hlz:((ys.length:Int)+1==0)=false:=by simp;omega
   by_cases hx:x = [46,46]
   ·have HR:=hid (by rw[i8.out,if_pos hx]:R=([],[],2));subst hx;go_enter Tryz.func139,Tryz.ntmps139
    exact zaQ
   ·have HR:=hid (by rw[i8.out,if_neg hx]:R=(ii ys,x,0));have hxb:(x == [46,46])=false:=by simpa using hx
    go_enter Tryz.func139,Tryz.ntmps139
    go_wp2_with fail
    refine(HP.out).mono ?_;rintro e w1 ⟨v1,rfl,iq,hK1⟩;have eT:=hid iq;have ff:=hid ((Keep.refl w).trans hK1);clear iq hK1;try dsimp only
    obtain⟨p1,c1,e1,hcap,-,hcs⟩:=(Strs.rd eT.out).form;obtain⟨g,o,rfl,hcs2⟩:=hcs (by simp);subst e1;have hc:=hcs2 ys.length (by simp);rw[List.getElem?_map,List.getElem?_concat_length] at hc;have hc1:w1.cell? ⟨g,o+ys.length,none⟩=some (sV x):=hc;have HX:=hid (fun(w':World)(h:Has w' (Strs (.slice (some ⟨g,o,none⟩) (ys ++ [x]).length c1) (ys ++ [x])::L))=>show w'.cell? ⟨g,o+ys.length,none⟩=some (sV x) from by
     obtain⟨p',c',e',-,-,hcs'⟩:=(Strs.rd h).form;obtain⟨g',o',e2,hcs3⟩:=hcs' (by simp);subst e2;simp only[Value.slice.injEq,Option.some.injEq,Addr.mk.injEq,and_true,true_and] at e';obtain⟨⟨rfl,rfl⟩,rfl⟩:=e';have hc:=hcs3 ys.length (by simp);rw[List.getElem?_map,List.getElem?_concat_length] at hc;exact hc)
    have ir:=hid (show Rd w1 (.slice (some ⟨g,o,none⟩) ys.length c1) 1 ys.length (ys.map sV) from
     ⟨by simp,eU (by omega),some ⟨g,o,none⟩,c1,rfl,by simp at hcap;omega,fun _=>⟨g,o,rfl,fun j hj=>by
      rw[hcs2 j (by simp;omega),List.getElem?_map,List.getElem?_append_left (by omega),List.getElem?_map]⟩⟩)
    have hyl:ys.length+1≤c1:=by simpa using hcap
    have hyi:(ys.length:Int)≤(c1:Int):=by omega
    have K9:=hid (show ys.length≤100000 by omega);clear hcs hcs2 hc hcap hx;go_upto_region 7 with fail
    refine eP (fun w'=>w'.cell? ⟨g,o+ys.length,none⟩=some (sV x)∧True) (by kernel_rfl) (by kernel_rfl) ⟨HX.out _ eT.out.drew,trivial⟩ ?_;repeat (first|refine wr2 ?_|refine wk ?_)
    refine wa fun K hK=>?_;go_simp
    refine st (EO (.slice (some ⟨g,o,none⟩) ys.length c1) ys w1.drew _ (ir.out.bf fun k _=>rfl) K9.out HJ.out eT.out.drew) (ff.out.drew) fun w2 eZ fu=>?_;exact zbG
 ·have HR:=hid (by rw[i8.out,if_pos he]:R=([],[],me));go_enter Tryz.func139,Tryz.ntmps139
  exact zcQ
theorem nM (q g c:Nat)(R:List Rn)(S:Tre)(rk:Int→Nat)(k:Nat)(p:Str)(it:Bool)(w:World)(L:List HP)(hk:k≤1000)(hG:Gd S rk k)(hS:Sim R S)(hp:p.length≤100000)(hO:Has w (Rtb q g c R S.ak::L)) :
  zCl 77 #[.pointer (some ⟨q,0,none⟩),sV p,.bool it] w fun e w'=>e=.returned (.tuple #[rsV (S.find p (!it)).1,.int .i64 (S.find p (!it)).2])∧Has w' (Rtb q g c R S.ak::L)∧Keep w w':=by
 have Bi:=hid (fun(w:World)(L':List HP)(hO:Has w L')=>zG p w L' hp hO);have hl:=iU p;have HF:=hid (show S.find p (!it)=if (fb p).2≠0 then(fp,(fb p).2) else S.walk ⟨1,0,[]⟩ 0 (fb p).1 (!it) from rfl);generalize S.find p (!it)=RR at *;generalize fb p=M at *;obtain⟨ps,me⟩:=M;dsimp only at *;have HT:=hid (fun(v:Value)(w:World)(L':List HP)(hO:Has w (VwS v ps::Rtb q g c R S.ak::L'))=>GF q g c R S rk k v ps it w L' hk hG hS (by omega) hO);generalize S.walk ⟨1,0,[]⟩ 0 ps (!it)=R2 at *;obtain⟨s2,e2⟩:=R2;dsimp only at *;have HO:=hid hO;clear hO hl hp hG hS;go_enter Tryz.func77,Tryz.ntmps77
 go_wp2_with fail
 refine(Bi.out _ _ (HO.out.alloc (.cells (rsC fp) 72))).mono ?_;rintro e w1 ⟨v1,rfl,iq,hK1⟩;have eT:=hid iq;have ff:=hid (((Keep.refl w).alloc _).trans hK1);clear iq hK1;try dsimp only
 obtain⟨p1,c1,rfl,-⟩:=(Strs.rd eT.out).form;generalize w.heap.size=g8 at *;have iQ:=eT.out.p1.e0;have iP:=eT.out.p1.e1;have iS:=eT.out.p1.e2;have ja:=eT.out.p1.thaw 0;have jf:=eT.out.p1.thaw 1;have jh:=eT.out.p1.thaw 2;by_cases he:me=0
 ·subst he;have HR:=hid (by rw[HF.out,if_neg (by simp)]:RR=(s2,e2));go_wp2_with fail
  refine st (HT.out _ w1 _ (VwS.of (eT.out.re 3 [0,2,1]))) (ff.out) fun w2 eZ fu=>?_;try dsimp only
  clear iQ iP iS ja jf jh;have iQ:=eZ.out.p1.e0;have iP:=eZ.out.p1.e1;have iS:=eZ.out.p1.e2;have ja:=eZ.out.p1.thaw 0;have jf:=eZ.out.p1.thaw 1;have jh:=eZ.out.p1.thaw 2;unfold rsV rsC;go_wp2_with fail
  have h1:=(show Has w2 (pt g8 (.cells (rsC fp) 72)::Rtb q g c R S.ak::L) from eZ.out.re 2 [1,0]).cf s2;refine bodyPost_ret (iN s2 rfl rfl rfl h1) rfl ?_;rw[HR.out];exact⟨rfl,h1.drop,((fu.out.set _ _).set _ _).set _ _⟩
 ·have HR:=hid (by rw[HF.out,if_pos he]:RR=(fp,me));clear HF;go_wp2_with fail
  have h1:=(show Has w1 (pt g8 (.cells (rsC fp) 72)::Rtb q g c R S.ak::L) from eT.out.re 3 [1,2]).cf fp;exact zcm
theorem CS (q g c:Nat)(R:List Rn)(S:Tre)(rk:Int→Nat)(k:Nat)(p:Str)(w:World)(L:List HP)(hk:k≤1000)(hG:Gd S rk k)(hS:Sim R S)(hp:p.length≤100000)(hO:Has w (Rtb q g c R S.ak::L)) :
  zCl 21 #[.pointer (some ⟨q,0,none⟩),sV p] w fun e w'=>e=.returned (.int .i64 (S.find p false).1.ae)∧Has w' (Rtb q g c R S.ak::L)∧Keep w w':=by
 have HF:=hid (fun(w:World)(L':List HP)(hO:Has w (Rtb q g c R S.ak::L'))=>nM q g c R S rk k p true w L' hk hG hS hp hO);rw[show (!true)=false from rfl] at HF;generalize S.find p false=RR at *;obtain⟨s2,e2⟩:=RR;dsimp only at *;have HO:=hid hO;clear hO hp hG hS;go_enter Tryz.func21,Tryz.ntmps21
 go_wp2_with fail
 refine st (HF.out w L HO.out) (Keep.refl w) fun w1 eT ff=>?_;try dsimp only
 unfold rsV rsC;have hc2:(w1.alloc (.cells (rsC s2) 72)).cell? ⟨w1.heap.size,2,none⟩=some (.int .i64 s2.ae):=(eT.out.alloc (.cells (rsC s2) 72)).cells 2;unfold rsC at hc2;go_wp2_with fail
 go_ret
 exact⟨rfl,eT.out.alloc' _,ff.out.alloc _⟩
theorem lx {ps:List Str}(h:∀ p∈ps,p.length≤24):(fm ps).length≤25*ps.length:=by
 induction ps with
 | nil=>simp[fm]
 | cons a r ih =>
  have h1:=h a List.mem_cons_self;have h2:=ih fun p hp=>h p (List.mem_cons_of_mem _ hp);show (47::a++fm r).length≤25*(r.length+1);simp only[List.cons_append,List.length_cons,List.length_append];omega
theorem tU (p:Str)(w:World)(L:List HP)(hs:p.length≤100000)(hO:Has w L) :
  zCl 139 #[sV p] w fun e w'=>e=.returned (.tuple #[sV (fx p).1,sV (fx p).2.1,.int .i64 (fx p).2.2])∧Has w' L∧Keep w w':=by
 have h1:=iU p;have h2:=kr p;refine IJ p w L hs (by omega) ?_ hO;have h3:=lx (ps:=(fb p).1.dropLast) fun q hq=>h2 q (List.dropLast_subset _ hq);rw[List.length_dropLast] at h3;omega
theorem tn (ps:List Str)(nm:Str):pD ((fm ps).length+1+nm.length:Int) (ps.length+1:Int)=Tre.longM (ps ++ [nm]):=by
 unfold pD Tre.longM;rw[lA (by simp),i7,List.length_append,List.length_append,List.length_cons,List.length_cons,List.length_nil,Bool.or_comm];congr 1
 ·rw[decide_eq_decide];omega
 ·rw[decide_eq_decide];omega
theorem ml (q g c:Nat)(R:List Rn)(S:Tre)(rk:Int→Nat)(k:Nat)(p:Str)(w:World)(L:List HP)(hk:k≤1000)(hG:Gd S rk k)(hS:Sim R S)(hp:p.length≤100000)(hO:Has w (Rtb q g c R S.ak::L)) :
  zCl 130 #[.pointer (some ⟨q,0,none⟩),sV p] w fun e w'=>e=.returned (.tuple #[rsV (S.place p).1,.int .i64 (S.place p).2])∧Has w' (Rtb q g c R S.ak::L)∧Keep w w':=by
 have Bi:=hid (fun(w:World)(L':List HP)(hO:Has w L')=>tU p w L' hp hO);have JC:=hid (fun(r:Str)(hr:r.length≤100000)(w:World)(L':List HP)(hO:Has w (Rtb q g c R S.ak::L'))=>nM q g c R S rk k r false w L' hk hG hS hr hO);rw[show (!false)=true from rfl] at JC;have JE:=hid (fun h=>sN (p:=p) h);have iY:=hid (show S.place p=if (fx p).2.2≠0 then(fp,(fx p).2.2) else if (S.find (fx p).1 true).2≠0 then(fp,(S.find (fx p).1 true).2) else if (S.at_ (S.find (fx p).1 true).1.ae).aa≠2 then(fp,7) else if Tre.longM (S.way (S.find (fx p).1 true).1.ae ++ [(fx p).2.1])=true then(fp,11) else(⟨(fnd (S.at_ (S.find (fx p).1 true).1.ae).ab (fx p).2.1).getD 0,(S.find (fx p).1 true).1.ae,(fx p).2.1⟩,0) from rfl);generalize S.place p=RR at *;generalize fx p=M at *;obtain⟨up,nm,me⟩:=M;dsimp only at Bi JE iY;have HO:=hid hO;have HG:=hid hG;have HS:=hid hS;clear hO hp hG hS;go_enter Tryz.func130,Tryz.ntmps130
 go_wp2_with fail
 refine st (Bi.out _ _ (HO.out.alloc (.cells (rsC fp) 72))) ((Keep.refl w).alloc _) fun w1 eT ff=>?_;try dsimp only
 generalize w.heap.size=g8 at *;have iQ:=eT.out.e0;have iP:=eT.out.e1;have iS:=eT.out.e2;have ja:=eT.out.thaw 0;have jf:=eT.out.thaw 1;have jh:=eT.out.thaw 2;by_cases he:me=0
 ·subst he;obtain⟨qs,nm2,-,-,hlm,hz,-,hjl,-⟩:=JE.out rfl;simp only[Prod.mk.injEq,and_true] at hlm;obtain⟨rfl,rfl⟩:=hlm;have KU:nm.length≤200:=by
   rw[i7,List.length_append,List.length_cons] at hjl;omega
  have GH:(ii qs).length≤100000:=by
   rw[i7,List.length_append,List.length_cons] at hjl;rw[qr];unfold orM;split
   ·simp
   ·omega
  have HF2:=hid (JC.out (ii qs) GH);have lr:=hid (fun h=>gh HG.out.wk (ii qs) true h);rw[if_neg (by simp)] at iY;generalize ii qs=up at *;generalize S.find up true=F at *;obtain⟨s2,e2⟩:=F;dsimp only at HF2 iY lr;clear hz hjl GH JC JE;go_wp2_with fail
  refine st (HF2.out w1 _ (eT.out.re 2 [1,0])) (ff.out) fun w2 eZ fu=>?_;try dsimp only
  clear HF2;unfold rsV rsC;go_upto_region 5 with fail
  have eW:=hid (show Has (w2.alloc (.cells #[.int .i64 s2.dir,sV s2.name,.int .i64 s2.ae] 72)) (pt w2.heap.size (.cells (rsC s2) 72)::Rtb q g c R S.ak::pt g8 (.cells (rsC fp) 72)::L) from eZ.out.alloc _);have fH:=hid (fu.out.alloc (.cells #[.int .i64 s2.dir,sV s2.name,.int .i64 s2.ae] 72));clear eT eZ ff fu iQ iP iS ja jf jh;generalize w2.alloc (.cells #[.int .i64 s2.dir,sV s2.name,.int .i64 s2.ae] 72)=w3 at *;generalize w2.heap.size=g9 at *;have iQ:=eW.out.p2.e0;have iP:=eW.out.p2.e1;have iS:=eW.out.p2.e2;have ja:=eW.out.p2.thaw 0;have jf:=eW.out.p2.thaw 1;have jh:=eW.out.p2.thaw 2;by_cases he2:e2=0
  ·subst he2;obtain⟨x,hx⟩:=lr.out rfl;rw[if_neg (by simp)] at iY;obtain⟨sn,sd,snm⟩:=s2;dsimp only at hx iY eW;obtain⟨d,r,hd,hrx,io⟩:=HS.out.ae _ _ hx;subst hd;rw[fC hx] at iY;have hdl:d<R.length:=(List.getElem?_eq_some_iff.1 hrx).1;have hdi:(d:Int)<(R.length:Int):=by omega
   have hd0:(0:Int)≤(d:Int):=by omega
   have hrl:(R.length:Int)≤1000000:=by have:=HS.out.aA HG.out;omega
   have HR1:=hid (by omega:R.length≤1000000);have hq:=Rtb.nv eW.out.p1;obtain⟨k0,-⟩:=Rtb.at_ eW.out.p1 hrx;have c92:w3.cell? ⟨g9,2,none⟩=some (.int .i64 (d:Int)):=eW.out.cells 2;rw[io.aa] at k0;go_upto_region 7 with fail
   have fg:=hid eW.out.drew;have fO:=hid fH.out.drew;refine eP (fun w'=>w'.cell? ⟨q,0,none⟩=some (.slice (some ⟨g,0,none⟩) R.length c)∧w'.cell? ⟨g9,2,none⟩=some (.int .i64 (d:Int))∧w'.cell? ⟨g,d*7,none⟩=some (.int .i64 x.aa)) (by kernel_rfl) (by kernel_rfl) ⟨hq,c92,k0⟩ ?_;clear iQ iP iS ja jf jh hq k0 c92 eW fH;generalize w3.drew=w4 at *;repeat (first|refine wr3 ?_|refine wk ?_)
   refine eR ?_;have iQ:=fg.out.p2.e0;have iP:=fg.out.p2.e1;have iS:=fg.out.p2.e2;have ja:=fg.out.p2.thaw 0;have jf:=fg.out.p2.thaw 1;have jh:=fg.out.p2.thaw 2;have c92:w4.cell? ⟨g9,2,none⟩=some (.int .i64 (d:Int)):=fg.out.cells 2;by_cases hk2:x.aa=2
   ·rw[if_neg (by simpa using hk2)] at iY;have fW:=hid (Dr q g c R S rk k (d:Int) x w4 _ hk HG.out HS.out hx hk2 (fg.out.re 2 [1,0]));have hwl:=ot HG.out.wy 20 (d:Int) x hx (HG.out.wy.low _);have JJ:=lx (lM HG.out.wy 20 (d:Int) x hx (HG.out.wy.low _));have PI:=hid (tn (S.way (d:Int)) nm);generalize S.way (d:Int)=way at *;have o7:=hid (fun(w:World)(L':List HP)(hO:Has w (Rtb q g c R S.ak::L'))=>D3 q g c R S.ak d r nm w L' hrx (by have:=io.few HG.out hx;omega) HR1.out hO);rw[io.eF HG.out hx nm] at o7;have hz1:((fm way).length:Int)≤500:=by omega
    have hz2:(way.length:Int)≤20:=by omega
    have hz3:(nm.length:Int)≤200:=by omega
    clear hwl JJ KU;go_wp2_with fail
    refine(fW.out).mono ?_;rintro e w' ⟨rfl,rfl⟩;try dsimp only
    clear fW;rw[←PI.out] at iY;go_wp2_with fail
    refine(BV ((fm way).length+1+nm.length:Int) (way.length+1:Int) w4).mono ?_;rintro e w' ⟨rfl,rfl⟩;try dsimp only
    by_cases hb:pD ((fm way).length+1+nm.length:Int) (way.length+1:Int)=true
    ·have HR:=hid (by rw[iY.out,if_pos hb]:RR=(fp,11));rw[hb];clear iY hb
     as_aux_lemma=>exact zbB
    ·have HR:=hid (by rw[iY.out,if_neg hb]:RR=(⟨(fnd x.ab nm).getD 0,(d:Int),nm⟩,0));have hbf:pD ((fm way).length+1+nm.length:Int) (way.length+1:Int)=false:=by simpa using hb
     rw[hbf];clear iY hb hbf;generalize (fnd x.ab nm).getD 0=nx at *;go_upto_region 12 with fail
     have fi:=hid fg.out.drew;have ge:=hid fO.out.drew;refine eP (fun w'=>w'.cell? ⟨g9,2,none⟩=some (.int .i64 (d:Int))∧True) (by kernel_rfl) (by kernel_rfl) ⟨c92,trivial⟩ ?_;clear iQ iP iS ja jf jh c92 fg fO;generalize w4.drew=w5 at *;repeat (first|refine wr2 ?_|refine wk ?_)
     refine wa fun K hK=>?_;go_simp
     refine(o7.out w5 _ (fi.out.re 2 [1,0])).mono ?_;rintro e w' ⟨rfl,rfl⟩;try dsimp only
     refine hK.out _ _ ⟨fi.out.cells 2,trivial⟩ ?_;clear hK K;try simp only[Act.put,zpu]
     repeat (first|refine wr2 ?_|refine wk ?_)
     have iQ:=fi.out.p2.e0;have iP:=fi.out.p2.e1;have iS:=fi.out.p2.e2;have ja:=fi.out.p2.thaw 0;have jf:=fi.out.p2.thaw 1;have jh:=fi.out.p2.thaw 2;refine wa fun K hK=>?_;go_simp
     have fq:=hid ((show Has w5 (pt g8 (.cells (rsC fp) 72)::pt g9 (.cells (rsC ⟨(d:Int),sd,snm⟩) 72)::Rtb q g c R S.ak::L) from fi.out.re 3 [2,0,1]).cf ⟨nx,(d:Int),nm⟩);refine hK.out _ _ ⟨fq.out.p1.cells 2,trivial⟩ ?_;clear hK K;try simp only[Act.put,zpu]
     repeat (first|refine wr2 ?_|refine wk ?_)
     refine eR ?_;go_wp2_with fail
     refine bodyPost_ret (iN ⟨nx,(d:Int),nm⟩ rfl rfl rfl fq.out) rfl ?_;rw[HR.out];exact⟨rfl,fq.out.drop.drop,((ge.out.set _ _).set _ _).set _ _⟩
   ·rw[if_pos hk2] at iY;have HR:=hid (show RR=(fp,7) from iY.out);clear iY
    as_aux_lemma=>exact zbB
  ·have HR:=hid (by rw[iY.out,if_pos he2]:RR=(fp,e2));clear iY;go_wp2_with fail
   have h1:=(show Has w3 (pt g8 (.cells (rsC fp) 72)::Rtb q g c R S.ak::L) from eW.out.re 3 [2,1]).cf fp;refine bodyPost_ret (iN fp rfl rfl rfl h1) rfl ?_;rw[HR.out];exact⟨rfl,h1.drop,((fH.out.set _ _).set _ _).set _ _⟩
 ·have HR:=hid (by rw[iY.out,if_pos he]:RR=(fp,me));clear iY JE JC;go_wp2_with fail
  have h1:=eT.out.cf fp
  as_aux_lemma=>exact zcm
def RTe (b:Nat)(nv:Value)(T:List Tb.Slot):HP:=pt b (.cells (#[nv]++Tb.cells T) 98)
theorem ou (nv:Value)(T:List Tb.Slot)(i:Nat):(#[nv]++Tb.cells T)[1+i]? = (Tb.cells T)[i]? := by
 rw[Array.getElem?_append_right (by simp)];congr 1;simp
theorem mp (nv:Value)(T:List Tb.Slot)(i:Nat)(h:i<T.length) :
  (#[nv]++Tb.cells T)[1+i*4]? = some (.int .i64 T[i].ae)∧(#[nv]++Tb.cells T)[1+i*4+1]? = some (.int .i64 T[i].off)∧(#[nv]++Tb.cells T)[1+i*4+2]? = some (.int .i64 T[i].af)∧(#[nv]++Tb.cells T)[1+i*4+3]? = some (.bool T[i].on):=by
 rw[Nat.add_assoc,Nat.add_assoc,Nat.add_assoc,ou,ou,ou,ou];exact Tb.cells_at T i h
theorem mE (nv:Value)(C:Array Value)(i:Nat)(v:Value):(#[nv]++C).setIfInBounds (1+i) v=#[nv]++C.setIfInBounds i v:=by
 rw[Array.setIfInBounds_append_right (by simp)];congr 2;simp
theorem zQ7 (nv:Value)(T:List Tb.Slot)(i:Nat)(h:i<T.length)(s:Tb.Slot) :
  (((((#[nv]++Tb.cells T).setIfInBounds (1+i*4) (.int .i64 s.ae)).setIfInBounds (1+i*4+1) (.int .i64 s.off)).setIfInBounds (1+i*4+2) (.int .i64 s.af)).setIfInBounds (1+i*4+3) (.bool s.on))=#[nv]++Tb.cells (T.set i s):=by
 rw[Nat.add_assoc,Nat.add_assoc,Nat.add_assoc,mE,mE,mE,mE,Tb.cells_set T i h s]
theorem yV (nv:Value)(T:List Tb.Slot)(i:Nat)(h:i<T.length)(x:Int) :
  (#[nv]++Tb.cells T).setIfInBounds (1+i*4+1) (.int .i64 x)=#[nv]++Tb.cells (T.set i {T[i] with off:=x}):=by
 rw[Nat.add_assoc,mE,Tb.cells_set1 T i h x]
theorem BH (b:Nat)(nv:Value)(T:List Tb.Slot)(n fl:Int)(W:World)(L:List HP)(hT:T.length=16)(hO:Has W (RTe b nv T::L)) :
  zCl 134 #[.pointer (some ⟨b,1,none⟩),.int .i64 n,.int .i64 fl] W fun e w'=>e=.returned (.tuple #[.int .i64 (Tb.opn T n fl).1.1,.int .i64 (Tb.opn T n fl).1.2])∧Has w' (RTe b nv (Tb.opn T n fl).2::L)∧Keep W w':=by
 have hc:=hO.cells;have ht:=hO.thaw;have HO:=hid hO;have HT:=hid hT;clear hO hT;go_enter Tryz.func134,Tryz.ntmps134
 go_wp2
 go_loop [8] (fun i=>∃ k:Nat,k≤16∧i=.int .i64 k∧Hid (∀ j (h:j<T.length),j<k→(!T[j].on)=false)) (fun i=>16-(intOf i).toNat)
 case atStart=>exact⟨0,by omega,rfl,hid (by omega)⟩
 case round =>
  obtain⟨k,hk,rfl,HN⟩:=hrel;by_cases hlt:k<16
  ·have hl:k<T.length:=by rw[HT.out];exact hlt
   obtain⟨c0,c1,c2,c3⟩:=mp nv T k hl;rcases hon:T[k].on with _|_
   ·have HF:=hid (show T.findIdx? (fun s => !s.on)=some k by
     rw[List.findIdx?_eq_some_iff_getElem];exact⟨hl,by simp[hon],fun j hj=>by simpa using HN.out j (by omega) hj⟩)
    go_wp2
    go_ret2
    rw[show Tb.opn T n fl=(((k:Int),0),T.set k ⟨n,0,fl,true⟩) by simp only[Tb.opn,HF.out]];refine⟨rfl,?_,((((Keep.refl _).set _ _).set _ _).set _ _).set _ _⟩;have h:=(((HO.out.set (1+k*4) (.int .i64 n)).set (1+k*4+1) (.int .i64 0)).set (1+k*4+2) (.int .i64 fl)).set (1+k*4+3) (.bool true);rw[zQ7 nv T k hl ⟨n,0,fl,true⟩] at h;exact h
   ·have wZ:=hid hon;go_wp2
    go_round
    case rel =>
     refine⟨k+1,by omega,by go_num,hid fun j hj h=>?_⟩;by_cases hjk:j=k
     ·subst hjk;simp[wZ.out]
     ·exact HN.out j hj (by omega)
    case measure=>simp[intOf];omega
  ·have HF:=hid (show T.findIdx? (fun s => !s.on)=none by
    rw[List.findIdx?_eq_none_iff];intro x hx;obtain⟨j,hj,rfl⟩:=List.getElem_of_mem hx;exact HN.out j hj (by have:=HT.out;omega))
   go_wp2
   go_ret2
   rw[show Tb.opn T n fl=((0,14),T) by simp only[Tb.opn,HF.out]];exact zcb
theorem gR (b:Nat)(nv:Value)(T:List Tb.Slot)(fd:Int)(w:World)(L:List HP)(hT:T.length=16)(hO:Has w (RTe b nv T::L)) :
  zCl 75 #[.pointer (some ⟨b,1,none⟩),.int .i64 fd] w fun e w'=>e=.returned (.bool (Tb.there T fd))∧w=w':=by
 rcases hl:Tb.look T fd with _|s
 ·have HR:=hid (show Tb.there T fd=false by simp[Tb.there,hl]);rcases Tb.look_out hT hl with (h|h)|⟨k,hk,rfl,hon⟩
  ·clear hO hT hl;have h':¬ 0≤fd:=by omega
   exact zbH
  ·clear hO hT hl;have h':0≤fd:=by omega
   have h'':¬ fd<16:=by omega
   exact zbH
  ·have hc:w.cell? ⟨b,1+k*4+3,none⟩=some (.bool false):=by rw[hO.cells,(mp nv T k hk).2.2.2,hon]
   have hk':k<16:=by omega
   clear hO hT hl hon hk;exact zbH
 ·have HR:=hid (show Tb.there T fd=true by simp[Tb.there,hl]);obtain⟨k,hk,rfl,rfl,hon⟩:=Tb.look_in hT hl;have hc:w.cell? ⟨b,1+k*4+3,none⟩=some (.bool true):=by rw[hO.cells,(mp nv T k hk).2.2.2,hon]
  have hk':k<16:=by omega
  clear hO hT hl hon hk;exact zbH
theorem A6 (b:Nat)(nv:Value)(T:List Tb.Slot)(fd:Int)(w:World)(L:List HP)(hT:T.length=16)(hO:Has w (RTe b nv T::L)) :
  zCl 65 #[.pointer (some ⟨b,1,none⟩),.int .i64 fd] w fun e w'=>e=.returned (.tuple #[.int .i64 (Tb.cls T fd).1.1,.int .i64 (Tb.cls T fd).1.2])∧Has w' (RTe b nv (Tb.cls T fd).2::L)∧Keep w w':=by
 have H:=hid (gR b nv T fd w L hT hO);rcases hl:Tb.look T fd with _|s
 ·have HR:=hid (show Tb.there T fd=false by simp[Tb.there,hl]);have Hl:=hid hl;have HO:=hid hO;clear hO hT hl;go_enter Tryz.func65,Tryz.ntmps65
  go_wp2_with fail
  refine H.out.mono ?_;rintro e w' ⟨rfl,rfl⟩;rw[HR.out];go_wp2_with fail
  go_ret2
  rw[show Tb.cls T fd=((0,10),T) by simp only[Tb.cls,Hl.out]];exact zcb
 ·have HR:=hid (show Tb.there T fd=true by simp[Tb.there,hl]);obtain⟨k,hk,rfl,rfl,hon⟩:=Tb.look_in hT hl;have hk':k<16:=by omega
  obtain⟨c0,c1,c2,c3⟩:=mp nv T k hk;have hc:=hO.cells;have ht:=hO.thaw;have HO:=hid hO;have Hl:=hid hl;clear hO hT hl hon;go_enter Tryz.func65,Tryz.ntmps65
  go_wp2_with fail
  refine H.out.mono ?_;rintro e w' ⟨rfl,rfl⟩;rw[HR.out];go_wp2_with fail
  go_ret2
  rw[show Tb.cls T k=((T[k].ae,0),T.set k Tb.none4) by simp only[Tb.cls,Hl.out,Int.toNat_natCast]];refine⟨rfl,?_,((((Keep.refl _).set _ _).set _ _).set _ _).set _ _⟩;have h:=(((HO.out.set (1+k*4) (.int .i64 0)).set (1+k*4+1) (.int .i64 0)).set (1+k*4+2) (.int .i64 0)).set (1+k*4+3) (.bool false);rw[zQ7 nv T k hk ⟨0,0,0,false⟩] at h;exact h
theorem sx (b:Nat)(nv:Value)(T:List Tb.Slot)(n:Int)(w:World)(L:List HP)(hT:T.length=16)(hO:Has w (RTe b nv T::L)) :
  zCl 79 #[.pointer (some ⟨b,1,none⟩),.int .i64 n] w fun e w'=>e=.returned (.bool (Tb.holds T n))∧w=w':=by
 have hc:=hO.cells;have HT:=hid hT;clear hO hT;go_enter Tryz.func79,Tryz.ntmps79
 go_wp2
 go_loop [5] (fun i=>∃ k:Nat,k≤16∧i=.int .i64 k∧Hid (∀ j (h:j<T.length),j<k→(T[j].on&&T[j].ae==n)=false)) (fun i=>16-(intOf i).toNat)
 case atStart=>exact⟨0,by omega,rfl,hid (by omega)⟩
 case round =>
  obtain⟨k,hk,rfl,HN⟩:=hrel;by_cases hlt:k<16
  ·have hl:k<T.length:=by rw[HT.out];exact hlt
   obtain⟨c0,c1,c2,c3⟩:=mp nv T k hl;have step:(T[k].on&&T[k].ae==n)=false→Hid (∀ j (h:j<T.length),j<k+1→(T[j].on&&T[j].ae==n)=false):=fun h0=>hid fun j hj h=>by
    by_cases hjk:j=k
    ·subst hjk;exact h0
    ·exact HN.out j hj (by omega)
   have Step:=hid step;clear step;rcases hon:T[k].on with _|_
   ·have wZ:=hid hon;go_wp2
    go_round
    case rel=>exact⟨k+1,by omega,by go_num,Step.out (by simp[wZ.out])⟩
    case measure=>simp[intOf];omega
   ·rcases hn:(T[k].ae==n) with _|_
    ·have Hn:=hid hn;go_wp2
     go_round
     case rel=>exact⟨k+1,by omega,by go_num,Step.out (by simp[Hn.out])⟩
     case measure=>simp[intOf];omega
    ·have HR:=hid (show Tb.holds T n=true by
      unfold Tb.holds;rw[List.any_eq_true];exact⟨T[k],List.getElem_mem hl,by simp[hon,hn]⟩)
     go_wp2
     go_ret
     exact⟨by rw[HR.out];rfl,rfl⟩
  ·have HR:=hid (show Tb.holds T n=false by
    unfold Tb.holds;rw[List.any_eq_false];intro x hx;obtain⟨j,hj,rfl⟩:=List.getElem_of_mem hx;rw[HN.out j hj (by have:=HT.out;omega)];simp)
   go_wp2
   go_ret
   exact⟨by rw[HR.out];rfl,rfl⟩
theorem C4 (b:Nat)(nv:Value)(T:List Tb.Slot)(W:World)(L:List HP)(hT:T.length=16)(hO:Has W (RTe b nv T::L)) :
  zCl 131 #[.pointer (some ⟨b,1,none⟩)] W fun e w'=>∃ v,e=.returned v∧Has w' (Ints v (Tb.lst T 16)::RTe b nv T::L)∧Keep W w':=by
 have HO:=hid hO;have HT:=hid hT;clear hO hT;go_enter Tryz.func131,Tryz.ntmps131
 go_wp2
 go_loopw [4,3] (fun i v w=>∃ k:Nat,k≤16∧i=.int .i64 k∧Hid (Has w (Ints v (Tb.lst T k)::RTe b nv T::L))∧Hid (Keep W w)) (fun i _ _=>16-(intOf i).toNat)
 case atStart=>exact⟨0,by omega,rfl,hid (HO.out.al _ _),hid (Keep.refl _)⟩
 case round =>
  obtain⟨k,hk,rfl,qV,HK⟩:=hrel;by_cases hlt:k<16
  ·have hl:k<T.length:=by rw[HT.out];exact hlt
   obtain⟨c0,c1,c2,c3⟩:=mp nv T k hl;have hc:=qV.out.drop.cells;have Hll:=hid (Tb.lst_len T k (by omega));have Iy:=hid (Tb.lst_succ T k hl);rcases hon:T[k].on with _|_
   ·have wZ:=hid hon;go_wp2_with fail
    go_roundw
    case rel=>exact⟨k+1,by omega,by go_num,hid (by rw[Iy.out,wZ.out];simpa using qV.out),HK⟩
    case measure=>simp[intOf];omega
   ·have wZ:=hid hon;go_wp2_with (at_builtin;refine fS rfl _ _ _ rfl Tryz.underlying69 vJ rfl (.int .i64 k) (qV.out.alloc' _) rfl 1 _ rfl (by simp) rfl (eU (by have:=Hll.out;omega)) (by have:=Hll.out;omega) ?_)
    intro v' w' kC hK';have oc:=hid kC;have qy:=hid hK';clear kC hK';go_wp2_with fail
    go_roundw
    case rel =>
     refine⟨k+1,by omega,by go_num,hid ?_,hid ((HK.out.alloc _).trans qy.out)⟩;rw[Iy.out,wZ.out];have:=oc.out;simpa[Ints,vu] using this
    case measure=>simp[intOf];omega
  ·obtain rfl:k=16:=by omega
   go_wp2_with fail
   go_ret
   exact⟨_,rfl,qV.out,HK.out⟩
theorem gk (e:Int)(w:World)(L:List HP)(hO:Has w L):zCl 66 #[.int .i64 e] w fun r w'=>r=.returned (fL (eQ e) eS eS)∧Has w' L∧Keep w w':=by
 have HO:=hid hO;clear hO;go_enter Tryz.func66,Tryz.ntmps66
 exact zb0
theorem gK {w:World}{L:List HP}{q g c:Nat}{R:List Rn}{T:List Tb.Slot}(h:Has w (Rtb q g c R T::L)){k:Nat}{s:Tb.Slot}(hk:T[k]? = some s):w.cell? ⟨q,1+k*4,none⟩=some (.int .i64 s.ae)∧w.cell? ⟨q,1+k*4+1,none⟩=some (.int .i64 s.off)∧w.cell? ⟨q,1+k*4+2,none⟩=some (.int .i64 s.af)∧w.cell? ⟨q,1+k*4+3,none⟩=some (.bool s.on):=by
 obtain⟨hk2,rfl⟩:=List.getElem?_eq_some_iff.1 hk;have h1:=mp (.slice (some ⟨g,0,none⟩) R.length c) T k hk2;have h2:=(fy.1 h).cells;rw[h2,h2,h2,h2];exact h1
theorem Rtb.ak {w:World}{L:List HP}{q g c:Nat}{R:List Rn}{T:List Tb.Slot} : Has w (Rtb q g c R T::L)↔Has w (RTe q (.slice (some ⟨g,0,none⟩) R.length c) T::row (.slice (some ⟨g,0,none⟩) R.length c) 90 7 R.length (rnC R)::(R.map Rnx++L)):=fy
theorem Rtb.et {w:World}{L:List HP}{q g c:Nat}{R:List Rn}{T:List Tb.Slot}(h:Has w (Rtb q g c R T::L)){k:Nat}(hk:k<T.length)(x:Int):Has (w.setCell ⟨q,1+k*4+1,none⟩ (.int .i64 x)) (Rtb q g c R (T.set k {T[k] with off:=x})::L):=by
 have h1:=(fy.1 h).set (1+k*4+1) (.int .i64 x);rw[yV _ T k hk x] at h1;exact fy.2 h1
theorem Fm (q:Nat)(S:Tre)(rk:Int→Nat)(k:Nat)(o:Opm)(ov:Value)(w:World)(L:List HP)(hk:k≤900)(hG:Gd S rk k)(hO:Has w (Rts q S::L)) :
  zCl 70 #[.pointer (some ⟨q,0,none⟩),opV o ov] w fun e w'=>e=.returned (fL (S.trunc o.fd o.off).1 eS eS)∧Has w' (Rts q (S.trunc o.fd o.off).2::L)∧Keep w w':=by
 obtain⟨g,c,R,hS,hO2⟩:=fh.1 hO;have HG:=hid hG;have HS:=hid hS;have HO:=hid hO2;have HT:=hid hG.tab16;have hrl:(R.length:Int)≤1000000:=by have:=hS.aA hG;omega
 have ll:=hid (by have:=hS.aA hG;omega:R.length≤100000);clear hO hO2 hG hS;rcases hl:Tb.look S.ak o.fd with _|s
 ·have HR:=hid (by unfold Tre.trunc Tre.file;simp[Tb.get,hl]:S.trunc o.fd o.off=(eQ 10,S));have lr:=hid (by simp[Tb.there,hl]:Tb.there S.ak o.fd=false);clear hl;unfold opV opC;go_enter Tryz.func70,Tryz.ntmps70
  exact zcV
 ·obtain⟨kf,yh,hfd,yc,hon⟩:=Tb.look_in HT.out hl;have HL:=hid hl;have hkn:kf<16:=by have:=HT.out;omega
  have jU:=hid (by rw[List.getElem?_eq_getElem yh,yc]:S.ak[kf]? = some s);have lr:=hid (by rw[←hfd];simp[Tb.there,hl]:Tb.there S.ak (kf:Int)=true);obtain⟨x,hx,hx3⟩:=(HG.out.opn o.fd s hl).1;have HX:=hid hx;have py:=hid (by unfold Tb.get;rw[hl]:Tb.get S.ak o.fd=(s,0));have sS:=hid hfd;clear hfd;have hk0:(0:Int)≤(kf:Int):=by omega
  have hk1:(kf:Int)<16:=by omega
  by_cases hfl:fc s.af 32=0
  ·have HR:=hid (show S.trunc o.fd o.off=(eQ 10,S) from by
    have h9:S.file o.fd true=(Tb.none4,10):=by unfold Tre.file;rw[py.out,if_neg (by simp),if_pos ⟨rfl,hfl⟩]
    unfold Tre.trunc;rw[h9];rfl)
   have hfb:(bits BinOp.and IntKind.i64 s.af 32==0)=true:=by simpa[fc] using hfl
   clear hl yh yc hon hx hfl;unfold opV opC;go_enter Tryz.func70,Tryz.ntmps70
   go_upto_region 1 with fail
   obtain⟨w1,g3,g4,ew,e4,e3,eT,ff⟩:=f9 HO.out o ov;rw[ew,e4,e3];clear HO ew e4 e3;have hp1:=eT.out.p1.e1;have hp3:=eT.out.p1.e3;rw[sS.out] at hp1;have mt:=hid eT.out.drew;have tY:=hid ff.out.drew;have hfc:w1.drew.cell? ⟨q,1+kf*4+2,none⟩=some (.int .i64 s.af):=by
    exact(gK (mt.out.re 3 [2]) jU.out).2.2.1
   refine eP (fun w'=>w'.cell? ⟨g3,1,none⟩=some (.int .i64 (kf:Int))∧w'.cell? ⟨q,1+kf*4+2,none⟩=some (.int .i64 s.af)) (by kernel_rfl) (by kernel_rfl) ⟨hp1,hfc⟩ ?_;have HA:=hid (show w1.drew.cell? ⟨g3,1,none⟩=some (.int .i64 (kf:Int))∧w1.drew.cell? ⟨q,1+kf*4+2,none⟩=some (.int .i64 s.af) from⟨hp1,hfc⟩);clear eT ff hp1 hp3 hfc;generalize w1.drew=w2 at *;repeat (first|refine wr2 ?_|refine wk ?_)
   refine wa fun K hK=>?_;go_simp
   refine(gR q _ S.ak (kf:Int) w2 _ HT.out (show Has w2 (RTe q _ S.ak::_) from fy.1 (mt.out.re 3 [2,0,1]))).mono ?_;rintro e w' ⟨rfl,rfl⟩;rw[lr.out];try dsimp only
   refine hK.out _ _ HA.out ?_;exact zcP
  ·have hk:=HS.out.wopen o.fd s x hl hx hfl;have hfb:(bits BinOp.and IntKind.i64 s.af 32==0)=false:=by simpa[fc] using hfl
   have tM:=hid (show S.file o.fd true=(s,0) from by
    unfold Tre.file;rw[py.out,if_neg (by simp),if_neg (by simp[hfl]),fC hx,if_neg (by omega)])
   have uY:=hid hk;clear hl yh yc hon hx hfl hk;unfold opV opC;go_enter Tryz.func70,Tryz.ntmps70
   go_upto_region 1 with fail
   obtain⟨w1,g3,g4,ew,e4,e3,eT,ff⟩:=f9 HO.out o ov;rw[ew,e4,e3];clear HO ew e4 e3;have hp1:=eT.out.p1.e1;have hp3:=eT.out.p1.e3;rw[sS.out] at hp1;have mt:=hid eT.out.drew;have tY:=hid ff.out.drew;have hfc:w1.drew.cell? ⟨q,1+kf*4+2,none⟩=some (.int .i64 s.af):=by
    exact(gK (mt.out.re 3 [2]) jU.out).2.2.1
   refine eP (fun w'=>w'.cell? ⟨g3,1,none⟩=some (.int .i64 (kf:Int))∧w'.cell? ⟨q,1+kf*4+2,none⟩=some (.int .i64 s.af)) (by kernel_rfl) (by kernel_rfl) ⟨hp1,hfc⟩ ?_;have HA:=hid (show w1.drew.cell? ⟨g3,1,none⟩=some (.int .i64 (kf:Int))∧w1.drew.cell? ⟨q,1+kf*4+2,none⟩=some (.int .i64 s.af) from⟨hp1,hfc⟩);clear eT ff hp1 hp3 hfc;generalize w1.drew=w2 at *;repeat (first|refine wr2 ?_|refine wk ?_)
   refine wa fun K hK=>?_;go_simp
   refine(gR q _ S.ak (kf:Int) w2 _ HT.out (show Has w2 (RTe q _ S.ak::_) from fy.1 (mt.out.re 3 [2,0,1]))).mono ?_;rintro e w' ⟨rfl,rfl⟩;rw[lr.out];try dsimp only
   refine hK.out _ _ HA.out ?_;clear hK K;try simp only[Act.put,zpu]
   repeat (first|refine wr2 ?_|refine wk ?_)
   refine eR ?_;clear hfb;have hp3:=mt.out.p1.e3;by_cases h0:o.off<0
   ·have HR:=hid (by unfold Tre.trunc;rw[tM.out];simp[h0]:S.trunc o.fd o.off=(eQ 2,S));go_wp2_with fail
    have HC:=hid (gk (2:Int) w2 (pt g4 zA::Rtb q g c R S.ak::L) (mt.out.re 3 [0,2]));have kz:=tY;exact lv
   by_cases h2:(20736:Int)<o.off
   ·have HR:=hid (by unfold Tre.trunc;rw[tM.out];simp[h0,h2]:S.trunc o.fd o.off=(eQ 15,S));go_wp2_with fail
    have HC:=hid (gk (15:Int) w2 (pt g4 zA::Rtb q g c R S.ak::L) (mt.out.re 3 [0,2]));have kz:=tY;exact lv
   have HR:=hid (by unfold Tre.trunc;rw[tM.out];simp[h0,h2]:S.trunc o.fd o.off=(eQ 0,S.resize s.ae o.off.toNat));obtain⟨m,hm⟩:∃ m:Nat,o.off=(m:Int):=⟨o.off.toNat,by omega⟩
   obtain⟨n,r,hn,hr,hsn⟩:=HS.out.ae _ _ HX.out;have E1:=hid (fun dv tv=>show Sim (R.set n (r.sized m dv tv)) (S.trunc o.fd o.off).2 from by
    rw[HR.out,hm,hn,Int.toNat_natCast];rw[hn] at hsn;exact HS.out.resize (by rw[←hn];exact HX.out) hr hsn uY.out (by omega) dv tv)
   have Fe:=hid (by rw[HR.out];rfl:(S.trunc o.fd o.off).2.ak=S.ak);have DC:=hid (fun(w:World)(L':List HP)(h:Has w (Rtb q g c R S.ak::L'))=>rV q g c R S.ak n r m w L' hr (by rw[hsn.data];have:=hsn.small uY.out;omega) (by rw[(hsn.there uY.out).1,List.length_append,List.length_replicate];have:=(hsn.there uY.out).2;have h9:fk x.data.length≤162:=jr (b:=20736) (hsn.small uY.out);omega) (by omega) ll.out h);have Nb:=hid (fun(w:World)(R':List Rn)(L':List HP)(h:Has w (Rtb q g c R' S.ak::L'))=>(by rw[←hn];exact(gK h jU.out).1:w.cell? ⟨q,1+kf*4,none⟩=some (.int .i64 (n:Int))));have HM:=hid hm;have rh:=hid (fun(w:World)(L':List HP)(h:Has w (pt g3 (.cells #[.int .i64 o.aa,.int .i64 o.fd,.int .i64 o.n,.int .i64 o.off,.int .i64 o.af,sV o.ag,sV o.aj,ov] 33)::L'))=>(by rw[←HM.out,←sS.out];exact⟨h.cells 1,h.cells 3⟩:w.cell? ⟨g3,1,none⟩=some (.int .i64 (kf:Int))∧w.cell? ⟨g3,3,none⟩=some (.int .i64 (m:Int))));rw[hm] at hp3 h0 h2;clear hm hn hr hsn;go_upto_region 7 with fail
   have eZ:=hid mt.out.drew;have fu:=hid tY.out.drew;refine eP (fun w'=>w'.cell? ⟨g3,1,none⟩=some (.int .i64 (kf:Int))∧w'.cell? ⟨g3,3,none⟩=some (.int .i64 (m:Int))∧w'.cell? ⟨q,1+kf*4,none⟩=some (.int .i64 (n:Int))) (by kernel_rfl) (by kernel_rfl) ⟨(rh.out _ _ eZ.out.p1).1,(rh.out _ _ eZ.out.p1).2,Nb.out _ _ _ eZ.out.p2⟩ ?_;clear hp3 mt tY HA;generalize w2.drew=w3 at *;repeat (first|refine wr3 ?_|refine wk ?_)
   refine wa fun K hK=>?_;go_simp
   refine(DC.out w3 _ eZ.out.p2).mono ?_;rintro e w4 ⟨rfl,hO4,hK4⟩;obtain⟨dv,tv,hO4⟩:=hO4;have fg:=hid hO4;have fO:=hid (fu.out.trans hK4);clear hO4 hK4;try dsimp only
   refine hK.out _ _ ⟨(rh.out _ _ fg.out.p2).1,(rh.out _ _ fg.out.p2).2,Nb.out _ _ _ fg.out⟩ ?_;clear hK K;try simp only[Act.put,zpu]
   repeat (first|refine wr3 ?_|refine wk ?_)
   refine eR ?_;have fi:=hid fg.out.vd;obtain⟨hz0,hz1,hz2,hz3,gP,gH,hy0,hy1,hy2,hy3,hy4,gG⟩:=Has.az (fi.out);go_wp2_with fail
   have h1:=(fi.out).ans (eQ 0) (eS) (eS);refine bodyPost_ret (eV rfl rfl h1) rfl ?_;refine⟨by rw[HR.out],fh.2 ⟨g,c,_,E1.out dv tv,?_⟩,fO.out.ans _ _ _ _ _ _ _⟩;rw[Fe.out];exact h1.drop
def jp (es:List (Str×Int))(p:Str):List (Str×Int):=es.filter fun e => !decide (e.1=p)
theorem qO (es:List (Str×Int))(p:Str)(e:Str×Int):jp (es ++ [e]) p=jp es p++(if e.1=p then [] else [e]):=by
 unfold jp;rw[List.filter_append];by_cases h:e.1=p <;> simp[h]
theorem zU (es:List (Str×Int))(p:Str):(jp es p).length≤es.length:=List.length_filter_le _ _
def Rn.lost (y:Rn):Rn:={y with ab:=y.ab-1}
def nU (R:List Rn)(n:Nat)(y:Rn)(b:Bool):List Rn:=if b=true then R.set n y.lost else R
theorem xz (R:List Rn)(n:Nat)(y:Rn)(b:Bool):(nU R n y b).length=R.length:=by
 unfold nU;cases b <;> simp
theorem zO (q g c:Nat)(R:List Rn)(T:List Tb.Slot)(d n:Nat)(x y:Rn)(p:Str)(w:World)(L:List HP)(hx:R[d]? = some x)(hy:R[n]? = some y)(hdn:d≠n)(hm:(p,(n:Int))∈x.ai)(hnd:(x.ai.map Prod.fst).Nodup)(hl:x.ai.length≤100000)(hnm:0≤y.ab∧y.ab≤100000)(hR:R.length≤1000000)(hO:Has w (Rtb q g c R T::L)) :
  zCl 136 #[.pointer (some ⟨q,0,none⟩),.int .i64 (d:Int),sV p] w fun e w'=>e=.returned (.tuple #[])∧(∃ v,Has w' (Rtb q g c ((R.set n y.lost).set d {x with ai:=jp x.ai p,ev:=v}) T::L))∧Keep w w':=by
 have hdl:d<R.length:=(List.getElem?_eq_some_iff.1 hx).1;have hd0:(0:Int)≤(d:Int):=by omega
 have hd1:(d:Int)<(R.length:Int):=by omega
 have hnl:n<R.length:=(List.getElem?_eq_some_iff.1 hy).1;have hn0:(0:Int)≤(n:Int):=by omega
 have hn1:(n:Int)<(R.length:Int):=by omega
 have hrl:(R.length:Int)≤1000000:=by omega
 have hel:(x.ai.length:Int)≤100000:=by omega
 have KN:0≤y.ab:=hnm.1;have Dk:y.ab≤100000:=hnm.2;have HX:=hid (show ∀ b,(nU R n y b)[d]? = some x from fun b=>by
  unfold nU;cases b
  ·exact hx
  ·rw[if_pos rfl,List.getElem?_set_ne (fun e=>hdn e.symm)];exact hx)
 have HY:=hid hy;have rW:=hid hdn;have HM:=hid hm;have pP:=hid hnd;have HL:=hid hl;have HO:=hid (show Has w (Ents (.slice none 0 0) []::Rtb q g c (nU R n y false) T::L) from Ents.nil hO);clear hdn hl hnm hx hy hO hdl hnl hm hnd;go_enter Tryz.func136,Tryz.ntmps136
 go_wp2_with fail
 go_loopw [6,7] (fun v i w'=>∃ (k:Nat) (b:Bool),k≤x.ai.length∧i=.int .i64 k∧Hid (b=decide (p∈(x.ai.take k).map Prod.fst))∧Hid (Has w' (Ents v (jp (x.ai.take k) p)::Rtb q g c (nU R n y b) T::L))∧Hid (Keep w w')) (fun _ i _=>x.ai.length-(intOf i).toNat)
 case atStart=>exact⟨0,false,by omega,rfl,hid (by simp),HO,hid (Keep.refl w)⟩
 case round =>
  clear HO;obtain⟨k,b,hk,rfl,HB,HO,HK⟩:=hrel;have hk0:(0:Int)≤(k:Int):=by omega
  have hq:wr.cell? ⟨q,0,none⟩=some (.slice (some ⟨g,0,none⟩) R.length c):=by rw[←xz R n y b];exact Rtb.nv HO.out.drop
  obtain⟨-,-,-,-,c4,-,-⟩:=Rtb.at_ HO.out.drop (HX.out b);obtain⟨pv,cp,he,-,hcs⟩:=iC (Rtb.aO HO.out.drop (HX.out b)).1;rw[he] at c4;obtain⟨p6,c6,e6,-⟩:=(Ents.rd HO.out).form;subst e6;by_cases hlt:k<x.ai.length
  ·have hki:(k:Int)<(x.ai.length:Int):=by omega
   obtain⟨a,o,rfl,hce⟩:=hcs (by omega);obtain⟨e0,e1⟩:=hce k hlt;have jU:=hid (show x.ai.take (k+1)=x.ai.take k ++ [x.ai[k]] from List.take_succ_eq_append_getElem hlt);have DY:=hid (show (jp (x.ai.take k) p).length≤k from Nat.le_trans (zU _ _) (by rw[List.length_take];omega));have hkn:=hid (show x.ai[k].1=p→x.ai[k]=(p,(n:Int))∧b=false from fun h=>by
    refine⟨?_,?_⟩
    ·have h1:=gf pP.out HM.out;have h2:=gf pP.out (x:=x.ai[k].1) (a:=x.ai[k].2) (List.getElem_mem hlt);rw[h,h1] at h2;exact Prod.ext h (Option.some.inj h2).symm
    ·rw[HB.out,decide_eq_false_iff_not];intro h3;obtain⟨z,hz,hz2⟩:=List.mem_map.1 h3;obtain⟨j,hj,rfl⟩:=List.getElem_of_mem hz;rw[List.getElem_take] at hz2;rw[List.length_take] at hj;have h4:=List.pairwise_iff_getElem.1 pP.out j k (by simp;omega) (by simpa using hlt) (by omega);rw[List.getElem_map,List.getElem_map] at h4;exact h4 (by rw[hz2,h]))
   clear hce hcs;generalize x.ai[k]=ek at *;obtain⟨nm,m⟩:=ek;dsimp only at e0 e1 hkn;have gW:=hid hlt;clear hlt hk;by_cases hp:nm=p
   ·obtain⟨hme,hbf⟩:=hkn.out hp;simp only[Prod.mk.injEq] at hme;obtain⟨rfl,rfl⟩:=hme;subst hbf;clear hkn hp;have eZ:=hid (show Has wr (Ents (.slice p6 (jp (x.ai.take k) nm).length c6) (jp (x.ai.take k) nm)::Rtb q g c R T::L) from HO.out);have gC:=hid eZ.out.drew;obtain⟨-,k1,-,-,-,-,-⟩:=Rtb.at_ gC.out.drop HY.out;have ht:=Rtb.thaw gC.out.drop (n*7+1);go_upto_region 5 with fail
    refine fT (fun w'=>w'.cell? ⟨q,0,none⟩=some (.slice (some ⟨g,0,none⟩) R.length c)∧w'.cell? ⟨g,d*7+4,none⟩=some (.slice (some ⟨a,o,none⟩) x.ai.length cp)∧w'.cell? ⟨a,o+k*2+1,none⟩=some (.int .i64 (n:Int))∧w'.cell? ⟨g,n*7+1,none⟩=some (.int .i64 y.ab)) (by kernel_rfl) (by kernel_rfl) (by kernel_rfl) (by decide) ⟨hq,c4,e1,k1⟩ ?_;repeat (first|refine wr4 ?_|refine wk ?_)
    refine eR ?_;refine gI rfl (by rfl) ?_;go_simp
    have eW:=hid (show Has (wr.setCell ⟨g,n*7+1,none⟩ (.int .i64 (y.ab-1))).drew (Ents (.slice p6 (jp (x.ai.take k) nm).length c6) (jp (x.ai.take (k+1)) nm)::Rtb q g c (nU R n y true) T::L) from by
     rw[jU.out,qO,if_pos rfl,List.append_nil];exact((Rtb.bX eZ.out.p1 HY.out (y.ab-1)).drew).p1)
    have fH:=hid ((HK.out.set ⟨g,n*7+1,none⟩ (.int .i64 (y.ab-1))).drew);have HB2:=hid (by rw[jU.out];simp:true=decide (nm∈(x.ai.take (k+1)).map Prod.fst));clear hq c4 e0 e1 k1 ht eZ gC HO HK;go_wp2_with fail
    exact⟨⟨k+1,true,by have:=gW.out;omega,by go_num,HB2,eW,fH⟩,by have:=gW.out;simp[intOf];omega⟩
   ·have hnb:(nm==p)=false:=by simpa using hp
    have HB2:=hid (show b=decide (p∈(x.ai.take (k+1)).map Prod.fst) from by
     rw[jU.out,HB.out,decide_eq_decide];simp[Ne.symm hp])
    have Ad:=hid (by rw[jU.out,qO,if_neg hp]:jp (x.ai.take (k+1)) p=jp (x.ai.take k) p ++ [(nm,m)]);clear hp hkn HB jU;generalize jp (x.ai.take k) p=ol at *;have OH:ol.length≤100000:=by have:=DY.out;have:=gW.out;omega
    go_wp2_with (at_builtin;refine kg rfl _ _ _ rfl Tryz.underlying88 jR rfl [sV nm,.int .i64 m] rfl (HO.out.alloc' (.cells #[sV nm,.int .i64 m] 200)) rfl 1 wr.heap.size rfl (fun j=>by have h:=(HO.out.alloc (.cells #[sV nm,.int .i64 m] 200)).cells j;rw[h];simp) (by intro u hu;simp at hu;rcases hu with rfl|rfl <;> rfl) (eU (by omega)) (by omega) ?_;intro v' w' kC hK')
    have oc:=hid (show Has w' (Ents v' (jp (x.ai.take (k+1)) p)::Rtb q g c (nU R n y b) T::L) from by
     rw[Ad.out];unfold Ents;rw[lK,List.length_append];exact kC)
    have qy:=hid ((HK.out.alloc _).trans hK');clear kC hK';go_wp2_with fail
    exact⟨⟨k+1,b,by have:=gW.out;omega,by go_num,HB2,oc,qy⟩,by have:=gW.out;simp[intOf];omega⟩
  ·obtain rfl:k=x.ai.length:=by omega
   have hki:¬ (x.ai.length:Int)<(x.ai.length:Int):=by omega
   have HE:=hid (show b=true from by
    rw[HB.out,List.take_length];exact decide_eq_true (List.mem_map.2 ⟨_,HM.out,rfl⟩))
   have hbt:=HE.out;subst hbt;have ht:=Rtb.thaw HO.out.drop (d*7+4);have eZ:=hid (Rtb.cB HO.out (HX.out true));rw[List.take_length] at eZ;clear hcs HB;go_wp2_with fail
   go_end0
   exact⟨rfl,⟨_,eZ.out⟩,HK.out.set _ _⟩
end Go.Proofs.YtmgpgbfgemebbaaGreatDoor
