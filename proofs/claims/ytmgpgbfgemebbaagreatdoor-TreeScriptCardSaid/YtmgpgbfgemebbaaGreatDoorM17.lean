/- TEXTS of mine, merged. -/
import Derived.Test.YtmgpgbfgemebbaaGreatDoorM0
import Derived.Test.YtmgpgbfgemebbaaGreatDoorM10
import Derived.Test.YtmgpgbfgemebbaaGreatDoorM12
import Derived.Test.YtmgpgbfgemebbaaGreatDoorM4
import Derived.Test.YtmgpgbfgemebbaaGreatDoorM6
import Derived.Test.YtmgpgbfgemebbaaGreatDoorM16
import Derived.Test.YtmgpgbfgemebbaaGreatDoorM9
set_option linter.all false
set_option maxRecDepth 100000
set_option maxHeartbeats 16000000
namespace Go.Proofs.YtmgpgbfgemebbaaGreatDoor
open Go.RowKit Go.Own
def j1 (es:List (Str×Int))(p:Str)(n:Int):List (Str×Int):=es.takeWhile (fun e=>decide (e.1<p))++(p,n)::es.dropWhile (fun e=>decide (e.1<p))
theorem sI {α:Type} {f:α→Bool} : ∀ (l:List α) (k:Nat),k≤l.length→(∀ j (hj:j<l.length),j<k→f l[j]=true)→(∀ hk:k<l.length,f l[k]=false)→l.takeWhile f=l.take k∧l.dropWhile f=l.drop k
 | [],k,hk,_,_=>by simp
 | a::l,0,_,_,h2=>by
  have:f a=false:=h2 (by simp);simp[this]
 | a::l,k+1,hk,h1,h2=>by
  have ha:f a=true:=h1 0 (by simp) (by omega);obtain⟨e1,e2⟩:=sI l k (by simpa using hk) (fun j hj hjk=>h1 (j+1) (by simpa using hj) (by omega)) (fun hk'=>h2 (by simpa using hk'));rw[List.takeWhile_cons_of_pos ha,List.dropWhile_cons_of_pos ha,e1,e2];simp
theorem CF {es:List (Str×Int)}{p:Str}{n:Int}{k:Nat}(hk:k≤es.length)(h1:∀ j (hj:j<es.length),j<k→es[j].1<p)(h2:∀ hk:k<es.length,¬ es[k].1<p):j1 es p n=es.take k ++ [(p,n)]++es.drop k:=by
 obtain⟨e1,e2⟩:=sI (f:=fun e:Str×Int=>decide (e.1<p)) es k hk (fun j hj h=>decide_eq_true (h1 j hj h)) (fun h=>decide_eq_false (h2 h));unfold j1;rw[e1,e2];simp
theorem tk (es:List (Str×Int))(p:Str)(n:Int):(j1 es p n).length=es.length+1:=by
 unfold j1;have:=congrArg List.length (List.takeWhile_append_dropWhile (p:=fun e:Str×Int=>decide (e.1<p)) (l:=es));simp only[List.length_append,List.length_cons] at this ⊢;omega
theorem iu:∀ (x y:List UInt8),Op.bytesLess x y=decide (x<y)
 | [],[]=>by simp[Op.bytesLess]
 | _::_,[]=>by simp[Op.bytesLess]
 | [],_::_=>by simp[Op.bytesLess]
 | a::x,b::y=>by
  rw[Op.bytesLess,iu x y];by_cases h:a<b
  ·simp[h,List.cons_lt_cons_iff]
  ·by_cases h2:a=b
   ·subst h2;simp[List.cons_lt_cons_iff]
   ·simp[h,h2,List.cons_lt_cons_iff]
def Rn.aP (x:Rn)(p:Str)(n:Int)(v:Value):Rn:={x with ai:=j1 x.ai p n,ev:=v,aq:=max x.aq ((j1 x.ai p n).length:Int)}
def Rn.named (y:Rn)(d:Int):Rn:={y with ab:=y.ab+1,am:=if y.aa=2 then d else y.am}
theorem E3 (q g c:Nat)(R:List Rn)(T:List Tb.Slot)(d n:Nat)(x y:Rn)(p:Str)(w:World)(L:List HP)(hx:R[d]? = some x)(hy:R[n]? = some y)(hdn:d≠n)(hl:x.ai.length≤100000)(hpk:0≤x.aq∧x.aq≤100000)(hnm:0≤y.ab∧y.ab≤100000)(hR:R.length≤1000000)(hO:Has w (Rtb q g c R T::L)) :
  zCl 138 #[.pointer (some ⟨q,0,none⟩),.int .i64 (d:Int),sV p,.int .i64 (n:Int)] w fun e w'=>∃ v,e=.returned (.tuple #[])∧Has w' (Rtb q g c ((R.set d (x.aP p n v)).set n (y.named d)) T::L)∧Keep w w':=by
 have hq:=Rtb.nv hO;obtain⟨-,-,-,-,c4,-,-⟩:=Rtb.at_ hO hx;obtain⟨pv,cp,he,hcap,hcs⟩:=iC (Rtb.aO hO hx).1;rw[he] at c4;have hcp:x.ai.length≤cp:=by
  obtain⟨_,_,e,hc,_⟩:=(Rtb.aO hO hx).1.form;rw[he] at e;simp only[Value.slice.injEq] at e;obtain⟨-,-,rfl⟩:=e;exact hc
 have vz:=hid hcs;have hdl:d<R.length:=(List.getElem?_eq_some_iff.1 hx).1;have hd0:(0:Int)≤(d:Int):=by omega
 have hd1:(d:Int)<(R.length:Int):=by omega
 have hnl:n<R.length:=(List.getElem?_eq_some_iff.1 hy).1;have hn0:(0:Int)≤(n:Int):=by omega
 have hn1:(n:Int)<(R.length:Int):=by omega
 have hrl:(R.length:Int)≤1000000:=by omega
 have hel:(x.ai.length:Int)≤100000:=by omega
 have HO:=hid hO;have HX:=hid hx;have HY:=hid hy;have rW:=hid hdn;have tO:=hid hpk;have lg:=hid hnm;have HL:=hid hl;have HE:=hid he;have ir:=hid (fun(w:World)(L':List HP)(h:Has w (Rtb q g c R T::L'))=>(by have:=(Rtb.aO h hx).1;rw[he] at this;exact this:Rd w (.slice pv x.ai.length cp) 2 x.ai.length (iT x.ai)));clear hcs he hcap hdn hl hpk hnm hx hy hO hdl hnl;go_enter Tryz.func138,Tryz.ntmps138
 go_wp2_with fail
 go_loopw [9] (fun i w'=>w'=w∧∃ k:Nat,k≤x.ai.length∧i=.int .i64 k∧Hid (∀ j (hj:j<x.ai.length),j<k→x.ai[j].1<p)) (fun i _=>x.ai.length-(intOf i).toNat)
 case atStart=>exact⟨rfl,0,by omega,rfl,hid fun j _ h=>absurd h (by omega)⟩
 case round =>
  obtain⟨rfl,k,hk,rfl,HN⟩:=hrel;have hk0:(0:Int)≤(k:Int):=by omega
  have hke:(k:Int)≤(x.ai.length:Int):=by omega
  by_cases hgo:∃ h:k<x.ai.length,x.ai[k].1<p
  ·obtain⟨hlt,hls⟩:=hgo;have hki:(k:Int)<(x.ai.length:Int):=by omega
   obtain⟨a,o,rfl,hce⟩:=vz.out (by omega);obtain⟨e0,e1⟩:=hce k hlt;have hb:Op.bytesLess x.ai[k].1 p=true:=by rw[iu];exact decide_eq_true hls
   have mZ:=hid (show ∀ j (hj:j<x.ai.length),j<k+1→x.ai[j].1<p from fun j hj h=>by
    by_cases e:j=k
    ·subst e;exact hls
    ·exact HN.out j hj (by omega))
   have gW:=hid hlt;clear hce e1 hls HN hk;generalize x.ai[k].1=nm at *;clear hlt
   as_aux_lemma=>exact zbc
  ·have Ax:=hid (CF (n:=(n:Int)) hk HN.out (fun h h2=>hgo ⟨h,h2⟩));have ka:=hid hk;have NU:=hid (tk x.ai p (n:Int));go_upto_region 2 with fail
   go_cut [30] (fun v wx=>v=.bool false∧wx=wr)
   case first =>
    by_cases hlt:k<x.ai.length
    ·have hki:(k:Int)<(x.ai.length:Int):=by omega
     obtain⟨a,o,rfl,hce⟩:=vz.out (by omega);obtain⟨e0,e1⟩:=hce k hlt;have hb:Op.bytesLess x.ai[k].1 p=false:=by rw[iu];exact decide_eq_false fun h=>hgo ⟨hlt,h⟩
     clear hce e1 HN hk hgo Ax;generalize x.ai[k].1=nm at *;clear hlt
     as_aux_lemma=>exact zaH
    ·have hki:¬ (k:Int)<(x.ai.length:Int):=by omega
     as_aux_lemma=>exact zaH
   case rest =>
    obtain⟨rfl,hwx⟩:=hcut;have jK:=hwx.symm;subst jK;clear hgo HN hk c4 hq;have Dj:=hid (show ∀ (w':World) (L':List HP),Has w' (Rtb q g c R T::L')→Rd w' (.slice pv k cp) 2 k (iT (x.ai.take k)) from fun w' L' h=>by
     have h1:=(ir.out w' L' h).bp k ka.out;rw[qU] at h1;exact h1)
    have wR:=hid (show ∀ (w':World) (L':List HP),Has w' (Rtb q g c R T::L')→Rd w' (.slice (if cp=k then pv else pv.map fun a=>a.add (k*2)) (x.ai.length-k) (cp-k)) 2 (x.ai.length-k) (iT (x.ai.drop k)) from fun w' L' h=>by
     have h1:=(ir.out w' L' h).bE k ka.out;rw[qH] at h1;exact h1)
    go_upto_region 4 with fail
    go_cut [8] (fun v8 wx=>∃ (p8:Option Addr) (c8:Nat) (w2:World),w2=wx∧v8=.slice p8 (x.ai.length+1) c8∧Hid (Has w2 (Ents (.slice p8 (x.ai.length+1) c8) (j1 x.ai p n)::Rtb q g c R T::L))∧Hid (Keep wr w2))
    case first =>
     have IU:=hid (show ∃ pq:Option Addr,(pq=if cp=k then pv else pv.map fun a=>a.add (k*2))∧∀ (w':World) (L':List HP),Has w' (Rtb q g c R T::L')→Rd w' (.slice pq (x.ai.length-k) (cp-k)) 2 (x.ai.length-k) (iT (x.ai.drop k)) from⟨_,rfl,wR.out⟩);obtain⟨pq,hpq,hcq⟩:=IU.out;have wR:=hid hcq;clear hcq IU;by_cases hck:cp=k
     ·rw[if_pos hck] at hpq;subst hpq;have E0:=hck.symm;subst E0;have hlk:x.ai.length=k:=by omega
      have o7:=hid hlk;have wR:=hid (show ∀ (w':World) (L':List HP),Has w' (Rtb q g c R T::L')→Rd w' (.slice pq 0 0) 2 0 (iT (x.ai.drop k)) from fun w' L' h=>by
       have h1:=wR.out w' L' h;rw[if_pos rfl,o7.out,Nat.sub_self] at h1;exact h1)
      clear hlk;have gC:=hid HO.out.drew;have iG:=hid (Keep.refl wr).drew;refine iF (qc:=noQ) (fun _=>True) 3 7 [_,_,_] [_,_,_] _ _ _ (by kernel_rfl) (by kernel_rfl) (by rfl) rfl rfl rfl trivial ?_;simp only[List.cons_append,List.nil_append];generalize wr.drew=wd at *;have hkc:(k:Int)≤(k:Int):=by have:=ka.out;omega
      have KF:(x.ai.length:Int)≤(k:Int):=by omega
      repeat (first
       | (refine ig (by rfl) (by rfl) ?_ ?_ ?_;rotate_left;(intro w hS;go_simp;with_reducible rfl);simp only[Act.put,zpu])|(refine iB (by rfl) ?_;simp only[Act.put,zpu]))
      refine eR ⟨?_,?_⟩
      ·refine wa fun K hK=>?_;refine fV (.const (.slice none 0 0)) (.tmp 35) 88 rfl Tryz.underlying88 jR rfl (by decide) (gC.out.al 200 2) (by rfl) _ k _ (by rfl) (Dj.out _ _ gC.out) (kE _) (eU (by have:=ka.out;have:=HL.out;omega)) (by have:=ka.out;have:=HL.out;omega) fun v5 w5 h5 hk5=>?_;have fi:=hid h5;have ge:=hid (iG.out.trans hk5);clear h5 hk5;refine hK.out _ _ trivial ?_;clear hK K;try simp only[Act.put,zpu]
       refine wa fun K hK=>?_;go_simp
       have fq:=hid (fi.out.alloc (.cells #[sV p,.int .i64 (n:Int)] 200));have gu:=hid (ge.out.alloc (.cells #[sV p,.int .i64 (n:Int)] 200));refine hK.out _ _ trivial ?_;clear hK K;try simp only[Act.put,zpu]
       generalize w5.heap.size=gb at *;generalize w5.alloc (.cells #[sV p,.int .i64 (n:Int)] 200)=w6 at *
       as_aux_lemma=>exact zar
      ·refine wa fun K hK=>?_;go_simp
       have fg:=hid (gC.out.alloc (.cells #[sV p,.int .i64 (n:Int)] 200));have fO:=hid (iG.out.alloc (.cells #[sV p,.int .i64 (n:Int)] 200));refine hK.out _ _ trivial ?_;clear hK K;try simp only[Act.put,zpu]
       generalize wd.heap.size=gb at *;generalize wd.alloc (.cells #[sV p,.int .i64 (n:Int)] 200)=w5 at *;refine wa fun K hK=>?_;refine fV (.const (.slice none 0 0)) (.tmp 35) 88 rfl Tryz.underlying88 jR rfl (by decide) (fg.out.al 200 2) (by rfl) _ k _ (by rfl) (Dj.out _ _ fg.out.drop) (kE _) (eU (by have:=ka.out;have:=HL.out;omega)) (by have:=ka.out;have:=HL.out;omega) fun v5 w6 h5 hk5=>?_;have fq:=hid h5.p1;have gu:=hid (fO.out.trans hk5);clear h5 hk5;refine hK.out _ _ trivial ?_;clear hK K;try simp only[Act.put,zpu]
       as_aux_lemma=>exact zar
     ·rw[if_neg hck] at hpq;subst hpq;have gC:=hid HO.out.drew;have iG:=hid (Keep.refl wr).drew;refine iF (qc:=noQ) (fun _=>True) 3 7 [_,_,_] [_,_,_] _ _ _ (by kernel_rfl) (by kernel_rfl) (by rfl) rfl rfl rfl trivial ?_;simp only[List.cons_append,List.nil_append];generalize wr.drew=wd at *;have hkc:(k:Int)≤(cp:Int):=by have:=ka.out;omega
      have KF:(x.ai.length:Int)≤(cp:Int):=by omega
      repeat (first
       | (refine ig (by rfl) (by rfl) ?_ ?_ ?_;rotate_left;(intro w hS;go_simp;with_reducible rfl);simp only[Act.put,zpu])|(refine iB (by rfl) ?_;simp only[Act.put,zpu]))
      refine eR ⟨?_,?_⟩
      ·refine wa fun K hK=>?_;refine fV (.const (.slice none 0 0)) (.tmp 35) 88 rfl Tryz.underlying88 jR rfl (by decide) (gC.out.al 200 2) (by rfl) _ k _ (by rfl) (Dj.out _ _ gC.out) (kE _) (eU (by have:=ka.out;have:=HL.out;omega)) (by have:=ka.out;have:=HL.out;omega) fun v5 w5 h5 hk5=>?_;have fi:=hid h5;have ge:=hid (iG.out.trans hk5);clear h5 hk5;refine hK.out _ _ trivial ?_;clear hK K;try simp only[Act.put,zpu]
       refine wa fun K hK=>?_;go_simp
       have fq:=hid (fi.out.alloc (.cells #[sV p,.int .i64 (n:Int)] 200));have gu:=hid (ge.out.alloc (.cells #[sV p,.int .i64 (n:Int)] 200));refine hK.out _ _ trivial ?_;clear hK K;try simp only[Act.put,zpu]
       generalize w5.heap.size=gb at *;generalize w5.alloc (.cells #[sV p,.int .i64 (n:Int)] 200)=w6 at *
       as_aux_lemma=>exact zap
      ·refine wa fun K hK=>?_;go_simp
       have fg:=hid (gC.out.alloc (.cells #[sV p,.int .i64 (n:Int)] 200));have fO:=hid (iG.out.alloc (.cells #[sV p,.int .i64 (n:Int)] 200));refine hK.out _ _ trivial ?_;clear hK K;try simp only[Act.put,zpu]
       generalize wd.heap.size=gb at *;generalize wd.alloc (.cells #[sV p,.int .i64 (n:Int)] 200)=w5 at *;refine wa fun K hK=>?_;refine fV (.const (.slice none 0 0)) (.tmp 35) 88 rfl Tryz.underlying88 jR rfl (by decide) (fg.out.al 200 2) (by rfl) _ k _ (by rfl) (Dj.out _ _ fg.out.drop) (kE _) (eU (by have:=ka.out;have:=HL.out;omega)) (by have:=ka.out;have:=HL.out;omega) fun v5 w6 h5 hk5=>?_;have fq:=hid h5.p1;have gu:=hid (fO.out.trans hk5);clear h5 hk5;refine hK.out _ _ trivial ?_;clear hK K;try simp only[Act.put,zpu]
       as_aux_lemma=>exact zap
    case rest =>
     obtain⟨p8,c8,w2,rfl,rfl,eZ,fu⟩:=hcut;have hxd:=HX.out;have hdl:d<R.length:=(List.getElem?_eq_some_iff.1 hxd).1;have hnl:n<R.length:=(List.getElem?_eq_some_iff.1 HY.out).1;have hq:=Rtb.nv eZ.out.drop;obtain⟨-,-,-,-,c4,-,-⟩:=Rtb.at_ eZ.out.drop hxd;rw[HE.out] at c4;have ht:=Rtb.thaw eZ.out.drop (d*7+4);go_upto_region 6 with fail
     have eW:=hid (Rtb.cB eZ.out hxd);have fH:=hid (fu.out.set ⟨g,d*7+4,none⟩ (.slice p8 (x.ai.length+1) c8));clear hq c4 ht eZ fu;generalize w2.setCell ⟨g,d*7+4,none⟩ (.slice p8 (x.ai.length+1) c8)=w3 at *;obtain⟨R1,hR1⟩:∃ R1,R.set d {x with ai:=j1 x.ai p n,ev := .slice p8 (x.ai.length+1) c8} = R1:=⟨_,rfl⟩
     have hx1:R1[d]? = some {x with ai:=j1 x.ai p n,ev := .slice p8 (x.ai.length+1) c8} := by rw[←hR1,List.getElem?_set_self hdl]
     have hy1:R1[n]? = some y:=by rw[←hR1,List.getElem?_set_ne rW.out];exact HY.out
     have hl1:R1.length=R.length:=by rw[←hR1,List.length_set]
     rw[hR1] at eW;have HR1:=hid hR1;clear hR1;have gC:=hid eW.out.drew;have iG:=hid fH.out.drew;have hq:w3.drew.cell? ⟨q,0,none⟩=some (.slice (some ⟨g,0,none⟩) R.length c):=by rw[←hl1];exact Rtb.nv gC.out
     obtain⟨-,-,-,c3,-,-,-⟩:=Rtb.at_ gC.out hx1;have ht:=Rtb.thaw gC.out (d*7+3);refine fT (fun w'=>w'.cell? ⟨q,0,none⟩=some (.slice (some ⟨g,0,none⟩) R.length c)∧w'.cell? ⟨g,d*7+3,none⟩=some (.int .i64 x.aq)) (by kernel_rfl) (by kernel_rfl) (by kernel_rfl) (by decide) ⟨hq,c3⟩ ?_;repeat (first|refine wr2 ?_|refine wk ?_)
     refine eR ?_;refine gI rfl (by rfl) ?_;go_simp
     have fg:=hid ((Rtb.dx eW.out hx1 (max x.aq ((x.ai.length:Int)+1))).drew);have fO:=hid ((fH.out.set ⟨g,d*7+3,none⟩ (.int .i64 (max x.aq ((x.ai.length:Int)+1)))).drew);clear hq c3 ht eW fH gC iG;generalize (w3.setCell ⟨g,d*7+3,none⟩ (.int .i64 (max x.aq ((x.ai.length:Int)+1)))).drew=w4 at *;obtain⟨R2,hR2⟩:∃ R2,R1.set d {x with ai:=j1 x.ai p n,ev := .slice p8 (x.ai.length+1) c8,aq:=max x.aq ((x.ai.length:Int)+1)} = R2:=⟨_,rfl⟩
     have hy2:R2[n]? = some y:=by rw[←hR2,List.getElem?_set_ne rW.out];exact hy1
     have hl2:R2.length=R.length:=by rw[←hR2,List.length_set];exact hl1
     rw[hR2] at fg;have HR2:=hid (show R2=R.set d (x.aP p n (.slice p8 (x.ai.length+1) c8)) from by
      rw[←hR2,←HR1.out,List.set_set];unfold Rn.aP;rw[NU.out]
      push_cast
      rfl)
     clear hR2 hx1 hy1 hl1 HR1 hxd;have hq:w4.cell? ⟨q,0,none⟩=some (.slice (some ⟨g,0,none⟩) R.length c):=by rw[←hl2];exact Rtb.nv fg.out
     obtain⟨k0,k1,k2,-,-,-,-⟩:=Rtb.at_ fg.out hy2;have ht:=Rtb.thaw fg.out (n*7+1);have KN:0≤y.ab:=lg.out.1;have Dk:y.ab≤100000:=lg.out.2;go_upto_region 8 with fail
     have fi:=hid (Rtb.bX fg.out hy2 (y.ab+1));have ge:=hid (fO.out.set ⟨g,n*7+1,none⟩ (.int .i64 (y.ab+1)));clear hq k0 k1 k2 ht fg fO;generalize w4.setCell ⟨g,n*7+1,none⟩ (.int .i64 (y.ab+1))=w5 at *;obtain⟨R3,GM⟩:∃ R3,R2.set n {y with ab:=y.ab+1} = R3:=⟨_,rfl⟩
     have hy3:R3[n]? = some {y with ab:=y.ab+1} := by rw[←GM,List.getElem?_set_self (by omega)]
     have hl3:R3.length=R.length:=by rw[←GM,List.length_set];exact hl2
     rw[GM] at fi;have HR3:=hid GM;clear GM;have hq:w5.cell? ⟨q,0,none⟩=some (.slice (some ⟨g,0,none⟩) R.length c):=by rw[←hl3];exact Rtb.nv fi.out
     obtain⟨k0,-,k2,-,-,-,-⟩:=Rtb.at_ fi.out hy3;have ht:=Rtb.thaw fi.out (n*7+2);by_cases hk2:y.aa=2
     ·have fq:=hid (Rtb.cH fi.out hy3 (d:Int));have HF:=hid (show R3.set n {y with ab:=y.ab+1,am:=(d:Int)} = (R.set d (x.aP p n (.slice p8 (x.ai.length+1) c8))).set n (y.named d) from by
       rw[←HR3.out,HR2.out,List.set_set];unfold Rn.named;rw[if_pos hk2])
      go_wp2_with fail
      go_end0
      exact⟨rfl,⟨_,by rw[←HF.out];exact fq.out⟩,ge.out.set _ _⟩
     ·have HF:=hid (show R3=(R.set d (x.aP p n (.slice p8 (x.ai.length+1) c8))).set n (y.named d) from by
       rw[←HR3.out,HR2.out];unfold Rn.named;rw[if_neg hk2])
      go_wp2_with fail
      go_end0
      exact⟨rfl,⟨_,by rw[←HF.out];exact fi.out⟩,ge.out⟩
def od (aa:Int)(data:Str)(dv:Value):Rn:=⟨aa,0,0,0,[],fF data,[],.slice none 0 0,dv,.slice none 0 0,true⟩
theorem Rtb.grow {w:World}{L:List HP}{q:Nat}{R:List Rn}{T:List Tb.Slot}{v' u0:Value}{z:Rn}(h:Has w (row v' 90 7 (R.length+1) (rnC R++z.enc)::Rnx z::pt q (.cells (#[u0]++Tb.cells T) 98)::(R.map Rnx++L))) :
  ∃ g' c',v'=.slice (some ⟨g',0,none⟩) (R.length+1) c'∧Has (w.setCell ⟨q,0,none⟩ v') (Rtb q g' c' (R ++ [z]) T::L):=by
 obtain⟨hl,h1|⟨g',cap,cur,hv,-⟩⟩:=h.ao
 ·exact absurd h1.2.1 (by omega)
 refine⟨g',cap,hv,fy.2 ?_⟩;have h2:=(show Has w (pt q (.cells (#[u0]++Tb.cells T) 98)::row v' 90 7 (R.length+1) (rnC R++z.enc)::Rnx z::(R.map Rnx++L)) from h.p2).set 0 v';have e:(#[u0]++Tb.cells T).setIfInBounds 0 v'=#[v']++Tb.cells T:=by
  apply Array.ext';simp
 rw[e,hv] at h2;rw[hv,BE,List.length_append,List.map_append,List.append_assoc];have e2:rnC [z]=z.enc:=by simp[rnC]
 rw[e2];exact h2.perm (.cons _ (.cons _ List.perm_middle.symm))
theorem AN {w:World}{L:List HP}{dv:Value}{data:Str}(aa:Int)(h:Has w (Frz dv (fF data)::L)):Has w (Rnx (od aa data dv)::L) :=
 gU.2 (Ents.nil ((h.al 4 1).p1))
theorem uI (q g c:Nat)(R:List Rn)(T:List Tb.Slot)(d:Nat)(x:Rn)(n0:Int)(nm:Str)(aa:Int)(data:Str)(w:World)(L:List HP)(hx:R[d]? = some x)(hl:x.ai.length≤100000)(hpk:0≤x.aq∧x.aq≤100000)(hR:R.length≤100000)(hd:data.length≤1000000)(hO:Has w (Rtb q g c R T::L)) :
  zCl 132 #[.pointer (some ⟨q,0,none⟩),rsV ⟨n0,(d:Int),nm⟩,.int .i64 aa,sV data] w fun e w'=>e=.returned (.int .i64 (R.length:Int))∧(∃ g' c' v dv,Has w' (Rtb q g' c' (((R ++ [od aa data dv]).set d (x.aP nm (R.length:Nat) v)).set R.length ((od aa data dv).named d)) T::L))∧Keep w w':=by
 have hb:=hO.alloc (.cells #[.int .i64 (d:Int),sV nm,.int .i64 n0] 72);have HB:=hid hb;have HKB:=hid ((Keep.refl w).alloc (.cells #[.int .i64 (d:Int),sV nm,.int .i64 n0] 72));have hrl:(R.length:Int)≤100000:=by omega
 have OF:(0:Int)≤(R.length:Int):=by omega
 have HX:=hid hx;have HL:=hid hl;have tO:=hid hpk;have HR:=hid hR;have qz:=hid hd;clear hO hb hx hl hpk hR hd;unfold rsV rsC;go_enter Tryz.func132,Tryz.ntmps132
 go_upto_region 1 with fail
 generalize w.alloc (.cells #[.int .i64 (d:Int),sV nm,.int .i64 n0] 72)=wb at *;generalize w.heap.size=gs at *;have hq:=Rtb.nv HB.out.drop;have ht0:=(fy.1 HB.out.drop).thaw 0;obtain⟨vd,wd,hrun,FT,If⟩:=s9 HB.out data qz.out;have yt:=FT;unfold Dat at yt;rw[if_pos rfl] at yt;obtain⟨gd,capd,curd,spd,⟨hvd,-⟩,-⟩:=lY.1 yt;have HD:=hid yt;have r8:=hid (HKB.out.trans If);subst hvd;have Jv:=Rtb.nv HD.out.drop.drop;have htd:=(fy.1 HD.out.drop.drop).thaw 0;clear FT yt If;have MH:=hid (fy.1 HD.out.p2);have xq:=hid (MH.out.alloc (.cells #[.int .i64 aa,.int .i64 0,.int .i64 0,.int .i64 0,.slice none 0 0,.slice (some ⟨gd,0,none⟩) (fF data).length capd,.slice none 0 0] 90));have PG:=hid (r8.out.alloc (.cells #[.int .i64 aa,.int .i64 0,.int .i64 0,.int .i64 0,.slice none 0 0,.slice (some ⟨gd,0,none⟩) (fF data).length capd,.slice none 0 0] 90));clear Jv htd;go_upto_region 2 with (at_builtin;refine kg rfl _ _ _ rfl Tryz.underlying91 ER rfl [.int .i64 aa,.int .i64 0,.int .i64 0,.int .i64 0,.slice none 0 0,.slice (some ⟨gd,0,none⟩) (fF data).length capd,.slice none 0 0] rfl xq.out.p2 rfl 1 wd.heap.size rfl (fun j=>by rw[xq.out.cells j];simp) (by intro u hu;simp only[List.mem_cons,List.not_mem_nil,or_false] at hu;rcases hu with rfl|rfl|rfl|rfl|rfl|rfl|rfl <;> rfl) (eU (by have:=HR.out;omega)) (by have:=HR.out;omega) ?_;intro v' w' kC hK';obtain⟨pz,cz,D6,-⟩:=(Has.rd kC).form;subst D6;have oc:=hid kC;have qy:=hid (PG.out.trans hK');have hq':w'.cell? ⟨q,0,none⟩=some (.slice (some ⟨g,0,none⟩) R.length c):=(by rw[oc.out.p2.cells 0,Array.getElem?_append_left (by simp)];rfl);have ht':=oc.out.p2.thaw 0;clear kC hK')
 have HG:=hid (Rtb.grow (z:=od aa data (.slice (some ⟨gd,0,none⟩) (fF data).length capd)) (((AN aa ((oc.out.p1.drop.perm (.cons _ (.cons _ List.perm_middle))).p2)).p1).perm (.cons _ (.refl _))));obtain⟨g',c',hv,hG⟩:=HG.out;simp only[Value.slice.injEq,true_and] at hv;obtain⟨rfl,rfl⟩:=hv;have HG2:=hid hG;have fu:=hid (qy.out.set ⟨q,0,none⟩ (.slice (some ⟨g',0,none⟩) (R.length+1) cz));clear hG HG oc qy hq' ht' xq MH HD HB hq ht0 hrun;generalize w'.setCell ⟨q,0,none⟩ (.slice (some ⟨g',0,none⟩) (R.length+1) cz)=w2 at *;obtain⟨z,hz⟩:∃ z,od aa data (.slice (some ⟨gd,0,none⟩) (fF data).length capd)=z:=⟨_,rfl⟩
 have HZ:=hid hz;have PY:=hid (by rw[←hz];rfl:z.ab=0);rw[hz] at HG2;clear hz;obtain⟨R2,hR2⟩:∃ R2,R ++ [z]=R2:=⟨_,rfl⟩
 have hdl:d<R.length:=(List.getElem?_eq_some_iff.1 HX.out).1;have vY:=hid (by rw[←hR2,List.getElem?_append_left hdl];exact HX.out:R2[d]? = some x);have HZ2:=hid (by rw[←hR2];simp:R2[R.length]? = some z);have HL2:=hid (by rw[←hR2];simp:R2.length=R.length+1);have Bd:=hid (by omega:d≠R.length);have HR2:=hid hR2;rw[hR2] at HG2;clear hR2 hdl;have gC:=hid HG2.out.drew;have iG:=hid fu.out.drew;have hwr:IntKind.i64.wrap (R.length:Int)=(R.length:Int):=ft _ (by omega);refine eP (fun w'=>w'.cell? ⟨gs,0,none⟩=some (.int .i64 (d:Int))∧w'.cell? ⟨gs,1,none⟩=some (sV nm)∧w'.cell? ⟨q,0,none⟩=some (.slice (some ⟨g',0,none⟩) (R.length+1) cz)) (by kernel_rfl) (by kernel_rfl) ⟨gC.out.p1.cells 0,gC.out.p1.cells 1,by rw[←HL2.out];exact Rtb.nv gC.out⟩ ?_;clear HG2 fu;generalize w2.drew=w3 at *;repeat (first|refine wr3 ?_|refine wk ?_)
 refine wa fun K hK=>?_;go_simp
 refine(E3 q g' cz R2 T d R.length x z nm w3 _ vY.out HZ2.out Bd.out HL.out tO.out (by rw[PY.out];omega) (by have:=HL2.out;have:=HR.out;omega) gC.out).mono ?_;rintro e w4 ⟨v,rfl,hO4,hK4⟩;have fg:=hid hO4;have fO:=hid (iG.out.trans hK4);clear hO4 hK4;try dsimp only
 have hq4:w4.cell? ⟨q,0,none⟩=some (.slice (some ⟨g',0,none⟩) (R.length+1) cz):=by
  have h:=Rtb.nv fg.out;rw[List.length_set,List.length_set,HL2.out] at h;exact h
 refine hK.out _ _ ⟨fg.out.p1.cells 0,fg.out.p1.cells 1,hq4⟩ ?_;clear hK K;try simp only[Act.put,zpu]
 repeat (first|refine wr3 ?_|refine wk ?_)
 refine eR ?_;go_wp2_with fail
 go_ret
 refine⟨rfl,⟨g',cz,v,.slice (some ⟨gd,0,none⟩) (fF data).length capd,?_⟩,fO.out⟩;rw[HZ.out,HR2.out];exact fg.out.p1.drop
structure SimX (z:Int) (R:List Rn) (S:Tre):Prop where
 len:S.last+1=(R.length:Int)
 ae:∀ n x,fnd S.ac n=some x→∃ (i:Nat) (r:Rn),n=(i:Int)∧R[i]? = some r∧SimN n r x
 gone:∀ (i:Nat) r,R[i]? = some r→fnd S.ac (i:Int)=none→r.ab=0∧Tb.holds S.ak (i:Int)=false
 alive:∀ n x,fnd S.ac n=some x→n=z∨n=1∨x.ah≠0∨Tb.holds S.ak n=true
 wopen:∀ fd s x,Tb.look S.ak fd=some s→fnd S.ac s.ae=some x→fc s.af 32≠0→x.aa=1
variable {R:List Rn} {S:Tre} {z:Int}
theorem Sim.weak (h:Sim R S)(z:Int):SimX z R S:=⟨h.len,h.ae,h.gone,fun n x hx => .inr (h.alive n x hx),h.wopen⟩
theorem SimX.close (h:SimX z R S)(hz:∀ x,fnd S.ac z=some x→z=1∨x.ah≠0∨Tb.holds S.ak z=true):Sim R S :=
 ⟨h.len,h.ae,h.gone,fun n x hx=>(h.alive n x hx).elim (fun e=>by subst e;exact hz x hx) id,h.wopen⟩
theorem SimX.aK (h:SimX z R S){i:Nat}{x:Nod}(hx:fnd S.ac (i:Int)=some x):∃ r,R[i]? = some r∧SimN (i:Int) r x:=by
 obtain⟨j,r,e,h1,h2⟩:=h.ae _ _ hx;have:i=j:=by omega
 subst this;exact⟨r,h1,h2⟩
theorem ly {κ α:Type} [DecidableEq κ] (t:List (κ×α)) (x:κ):fnd (gq t x) x=none:=by
 rw[fU];intro h;obtain⟨p,h1,h2⟩:=List.mem_map.1 h;have:=(List.mem_filter.1 h1).2;simp at this;exact this h2
theorem SimX.forget (h:SimX z R S):Sim R (S.forget z):=by
 unfold Tre.forget;cases hz:fnd S.ac z with
 | none=>exact h.close (fun x hx=>by rw[hz] at hx;cases hx)
 | some x =>
  dsimp only;by_cases hc:x.ah=0∧z≠1∧Tb.holds S.ak z=false
  ·rw[if_pos hc];have hne:∀ m,m≠z→fnd (gq S.ac z) m=fnd S.ac m:=fun m hm=>jF hm;refine⟨h.len,?_,?_,?_,?_⟩
   ·intro n y hy;have hy':fnd (gq S.ac z) n=some y:=hy;by_cases e:n=z
    ·rw[e,ly] at hy';cases hy'
    ·rw[hne n e] at hy';exact h.ae n y hy'
   ·intro i r hr hn;have hn':fnd (gq S.ac z) (i:Int)=none:=hn;by_cases e:(i:Int)=z
    ·subst e;obtain⟨r',h1,h2⟩:=h.aK hz;rw[hr] at h1;cases h1;exact⟨by rw[h2.ab];exact hc.1,hc.2.2⟩
    ·rw[hne _ e] at hn';exact h.gone i r hr hn'
   ·intro n y hy;have hy':fnd (gq S.ac z) n=some y:=hy;by_cases e:n=z
    ·rw[e,ly] at hy';cases hy'
    ·rw[hne n e] at hy';exact(h.alive n y hy').resolve_left e
   ·intro fd s y hl hy hf;have hy':fnd (gq S.ac z) s.ae=some y:=hy;by_cases e:s.ae=z
    ·rw[e,ly] at hy';cases hy'
    ·rw[hne _ e] at hy';exact h.wopen fd s y hl hy' hf
  ·rw[if_neg hc];refine h.close fun y hy=>?_;rw[hz] at hy;cases hy;by_cases h1:z=1
   ·exact .inl h1
   ·by_cases h2:x.ah=0
    ·right;right;cases h3:Tb.holds S.ak z with
     | true=>rfl
     | false=>exact absurd ⟨h2,h1,h3⟩ hc
    ·exact .inr (.inl h2)
theorem SimX.au (h:SimX z R S){i:Nat}{r r':Rn}{x x':Nod}(hx:fnd S.ac (i:Int)=some x)(hr:R[i]? = some r)(hk:x'.aa=x.aa)(hl:(i:Int)=z∨x'.ah=x.ah∨x'.ah≠0)(hs:SimN (i:Int) r' x'):SimX z (R.set i r') (S.au (i:Int) x') where
 len:=by rw[List.length_set];exact h.len
 ae n y hy:=by
  exact za9
 gone j r2 hj hn2:=by
  exact zbF
 alive n y hy:=by
  have hy2:fnd (eX S.ac (i:Int) x') n=some y:=hy;rw[fnd_putA] at hy2;by_cases e:n=(i:Int)
  ·rw[if_pos e] at hy2;cases hy2;rcases hl with hl|hl|hl
   ·exact .inl (e.trans hl)
   ·have h9:=h.alive _ _ hx;rw[hl,e];exact h9
   ·exact .inr (.inr (.inl hl))
  ·rw[if_neg e] at hy2;exact h.alive n y hy2
 wopen fd s y hf hy hw:=by
  exact zbw
theorem Sim.grow (h:Sim R S){rk:Int→Nat}{k:Nat}(g:Gd S rk k){m:Int}(hm:S.last+1=m)(x:Nod)(r:Rn)(hs:SimN m r x)(hw:x.aa=x.aa):SimX m (R ++ [r]) {S with last:=m,ac:=eX S.ac m x} := by
 have hlen:m=(R.length:Int):=by have:=h.len;omega
 have hnew:fnd S.ac m=none:=by
  cases hf:fnd S.ac m with
  | none=>rfl
  | some x=>have:=(g.num _ _ hf).2;omega
 refine⟨?_,?_,?_,?_,?_⟩
 ·show m+1=_;rw[List.length_append,List.length_singleton];omega
 ·intro n y hy;have hy2:fnd (eX S.ac m x) n=some y:=hy;rw[fnd_putA] at hy2;by_cases e:n=m
  ·rw[if_pos e] at hy2;cases hy2;refine⟨R.length,r,by omega,by simp,by rw[e];exact hs⟩
  ·rw[if_neg e] at hy2;obtain⟨j,r2,e1,e2,e3⟩:=h.ae n y hy2;exact⟨j,r2,e1,by rw[List.getElem?_append_left (List.getElem?_eq_some_iff.1 e2).1];exact e2,e3⟩
 ·intro i r2 hi hn;have hn2:fnd (eX S.ac m x) (i:Int)=none:=hn;rw[fnd_putA] at hn2;by_cases e:(i:Int)=m
  ·rw[if_pos e] at hn2;cases hn2
  ·rw[if_neg e] at hn2;have hil:i<R.length:=by
    have:=(List.getElem?_eq_some_iff.1 hi).1;rw[List.length_append,List.length_singleton] at this;omega
   rw[List.getElem?_append_left hil] at hi;exact h.gone i r2 hi hn2
 ·intro n y hy;have hy2:fnd (eX S.ac m x) n=some y:=hy;rw[fnd_putA] at hy2;by_cases e:n=m
  ·exact .inl e
  ·rw[if_neg e] at hy2;exact .inr (h.alive n y hy2)
 ·intro fd s y hl hy hf;have hy2:fnd (eX S.ac m x) s.ae=some y:=hy;obtain⟨⟨u,hu,-⟩,-⟩:=g.opn fd s hl;have e:s.ae≠m:=by intro e;rw[e,hnew] at hu;cases hu
  rw[fnd_putA,if_neg e] at hy2;exact h.wopen fd s y hl hy2 hf
theorem q4 (es:List (Str×Int))(p:Str)(n:Int):(j1 es p n).Perm (es ++ [(p,n)]):=by
 unfold j1;refine List.perm_middle.trans ?_;rw[List.takeWhile_append_dropWhile];exact(List.perm_append_singleton _ _).symm
theorem sO {es:List (Str×Int)}(h:es.Pairwise fun a b=>a.1<b.1){p:Str}(n:Int)(hp:p∉es.map Prod.fst):(j1 es p n).Pairwise fun a b=>a.1<b.1:=by
 induction es with
 | nil=>simp[j1]
 | cons a es ih =>
  rw[List.pairwise_cons] at h;by_cases ha:a.1<p
  ·have e:j1 (a::es) p n=a::j1 es p n:=by simp[j1,ha]
   rw[e,List.pairwise_cons];refine⟨fun b hb=>?_,ih h.2 (fun hm=>hp (List.mem_cons_of_mem _ hm))⟩;have:=(q4 es p n).mem_iff.1 hb;rcases List.mem_append.1 this with hb|hb
   ·exact h.1 b hb
   ·rw[List.mem_singleton.1 hb];exact ha
  ·have e:j1 (a::es) p n=(p,n)::a::es:=by simp[j1,ha]
   have hpa:p<a.1:=by
    have hne:a.1≠p:=fun e=>hp (by rw[←e];exact List.mem_cons_self);rcases Std.lt_trichotomy a.1 p with h|h|h
    ·exact absurd h ha
    ·exact absurd h hne
    ·exact h
   rw[e,List.pairwise_cons,List.pairwise_cons];refine⟨fun b hb=>?_,h⟩;rcases List.mem_cons.1 hb with rfl|hb
   ·exact hpa
   ·exact List.lt_trans hpa (h.1 b hb)
theorem SimN.aP {n:Int}{r:Rn}{x:Nod}(h:SimN n r x)(hk:x.aa≠1){p:Str}(hp:fnd x.ab p=none)(m:Int)(v:Value):SimN n (r.aP p m v) (Tre.dirAdd x p m):=by
 have hp1:p∉r.ai.map Prod.fst:=fun hm=>fU.1 hp ((h.ai.map Prod.fst).mem_iff.1 hm);have e:eX x.ab p m=x.ab ++ [(p,m)]:=gT _ (fU.1 hp);exact {
     aa:=h.aa,ab:=h.ab,data:=h.data,root:=h.root,am:=h.am
     ai:=by
      show (j1 r.ai p m).Perm (eX x.ab p m);rw[e];exact(q4 _ _ _).trans (h.ai.append_right _)
     sorted:=sO h.sorted m hp1
     there:=fun hk1=>absurd hk1 hk
     aq:=by
      show max r.aq ((j1 r.ai p m).length:Int)=max x.most ((eX x.ab p m).length:Int);rw[e,tk,h.aq,List.length_append,h.ai.length_eq,List.length_singleton]
     small:=fun hk1=>absurd hk1 hk}
theorem SimN.named {n:Int}{r:Rn}{x:Nod}(h:SimN n r x)(d:Int)(h2:x.aa=2→x.ah=0∧n≠1):SimN n (r.named d) (Tre.nodAdd x d):=by
 unfold Tre.nodAdd;by_cases hk:x.aa=2
 ·rw[if_pos hk];obtain⟨h0,h1⟩:=h2 hk;exact {
      aa:=h.aa,ai:=h.ai,sorted:=h.sorted,data:=h.data,there:=h.there,aq:=h.aq,small:=h.small
      ab:=by show r.ab+1=1;rw[h.ab,h0];rfl
      root:=fun e=>absurd e h1
      am:=fun _=>by show (if r.aa=2 then d else r.am)=d;rw[if_pos (by rw[h.aa];exact hk)]}
 ·rw[if_neg hk];have e:(r.named d).am=r.am:=by show (if r.aa=2 then d else r.am)=_;rw[if_neg (by rw[h.aa];exact hk)]
  exact {
      aa:=h.aa,ai:=h.ai,sorted:=h.sorted,data:=h.data,there:=h.there,aq:=h.aq,small:=h.small
      ab:=by show r.ab+1=x.ah+1;rw[h.ab]
      root:=fun e1=>by rw[e];exact h.root e1
      am:=fun e1=>by rw[e];exact h.am e1}
theorem SimN.dz {n:Int}{r:Rn}{x:Nod}(h:SimN n r x)(hk:x.aa≠1)(p:Str)(v:Value):SimN n {r with ai:=jp r.ai p,ev:=v} (Tre.dirTake x p):=by
 have e:gq x.ab p=x.ab.filter fun e => !decide (e.1=p):=by
  unfold gq;congr 1;funext q;simp
 exact {
     aa:=h.aa,ab:=h.ab,data:=h.data,root:=h.root,am:=h.am,aq:=h.aq
     ai:=by
      show (jp r.ai p).Perm (gq x.ab p);rw[e];exact h.ai.filter _
     sorted:=h.sorted.filter _
     there:=fun hk1=>absurd hk1 hk
     small:=fun hk1=>absurd hk1 hk}
theorem SimN.lost {n:Int}{r:Rn}{x:Nod}(h:SimN n r x)(a:Int)(ha:a=0∨a=x.above):SimN n r.lost {x with ah:=x.ah-1,above:=a} where
 aa:=h.aa
 ai:=h.ai
 sorted:=h.sorted
 data:=h.data
 there:=h.there
 aq:=h.aq
 small:=h.small
 ab:=by show r.ab-1=x.ah-1;rw[h.ab]
 root:=h.root
 am e:=by
  have e':a≠0:=e;rcases ha with ha|ha
  ·exact absurd ha e'
  ·show r.am=a;rw[ha];exact h.am (by rw[←ha];exact e')
end Go.Proofs.YtmgpgbfgemebbaaGreatDoor
namespace Go.Proofs.YtmgpgbfgemebbaaGreatDoor
open Go.RowKit Go.Own
variable {R:List Rn} {S:Tre} {rk:Int→Nat} {k:Nat}
theorem mM {S:Tre}{a b:Int}{x y:Nod}(hab:b≠a)(hy:fnd S.ac b=some y):fnd (S.au a x).ac b=some y:=by
 show fnd (eX S.ac a x) b=_;rw[fnd_putA,if_neg hab];exact hy
theorem lZ {S:Tre}(a:Int)(x:Nod):fnd (S.au a x).ac a=some x:=by
 show fnd (eX S.ac a x) a=_;rw[fnd_putA,if_pos rfl]
theorem SimX.add {z:Int}(h:SimX z R S){d n:Nat}{rd rn:Rn}{xd xn:Nod}(hrd:R[d]? = some rd)(hrn:R[n]? = some rn)(hxd:fnd S.ac (d:Int)=some xd)(kP:fnd S.ac (n:Int)=some xn)(hdn:d≠n)(hd2:xd.aa=2){p:Str}(hp:fnd xd.ab p=none)(v:Value)(h2:xn.aa=2→xn.ah=0∧(n:Int)≠1)(hl:0≤xn.ah) :
  SimX z ((R.set d (rd.aP p (n:Int) v)).set n (rn.named d)) (S.add (d:Int) p (n:Int))∧(∃ x',fnd (S.add (d:Int) p (n:Int)).ac (n:Int)=some x'∧x'.ah≠0):=by
 obtain⟨rd',e1,sd⟩:=h.aK hxd;obtain⟨rn',e2,sn⟩:=h.aK kP;rw[hrd] at e1;rw[hrn] at e2;cases e1;cases e2;have hne:(n:Int)≠(d:Int):=by omega
 have hl1:(Tre.nodAdd xn d).ah≠0:=by
  unfold Tre.nodAdd;split
  ·show (1:Int)≠0;decide
  ·show xn.ah+1≠0;omega
 have e:S.add (d:Int) p (n:Int)=(S.au d (Tre.dirAdd xd p n)).au n (Tre.nodAdd xn d):=by
  unfold Tre.add;rw[fC hxd,fC kP]
 rw[e];have FC:(R.set d (rd.aP p (n:Int) v))[n]? = some rn:=by rw[List.getElem?_set_ne (by omega)];exact hrn
 have s1:=h.au (x':=Tre.dirAdd xd p (n:Int)) hxd hrd rfl (.inr (.inl rfl)) (sd.aP (by rw[hd2];decide) hp (n:Int) v);refine⟨s1.au (x':=Tre.nodAdd xn (d:Int)) (mM hne kP) FC (nI _ _) (.inr (.inr hl1)) (sn.named (d:Int) h2),?_⟩;exact⟨_,lZ _ _,hl1⟩
theorem SimX.bK {z:Int}(h:SimX z R S){x:Nod}(hx:fnd S.ac z=some x)(hl:x.ah≠0):Sim R S:=h.close fun y hy=>by rw[hx] at hy;cases hy;exact .inr (.inl hl)
theorem Sim.make (h:Sim R S)(g:Gd S rk k){s:Spt}(P:tc S rk s)(hs0:s.ae=0){d:Nat}(hsd:s.dir=(d:Int)){rd:Rn}(hrd:R[d]? = some rd)(c:Int)(ds:Str)(hds:c≠3→ds = [])(v dv:Value) :
  Sim (((R ++ [od c ds dv]).set d (rd.aP s.name (R.length:Nat) v)).set R.length ((od c ds dv).named d)) (S.make s c ds):=by
 obtain⟨xd,hxd,hd2,-,-,hnm⟩:=P.dir;have hnm:=hnm hs0;have hlen:S.last+1=(R.length:Int):=h.len;have hl1:=g.aW;have hdl:d<R.length:=(List.getElem?_eq_some_iff.1 hrd).1;rw[hsd] at hxd;have xC:fF ds=if c=3 then fF ds else []:=by
  split
  ·rfl
  ·rename_i h3;rw[hds h3];rfl
 have hs:SimN (S.last+1) (od c ds dv) ⟨c,if c=3 then fF ds else [],[],[],0,0,0⟩:=by
  refine⟨rfl,rfl,.nil,.nil,xC,?_,rfl,fun e=>?_,fun e=>absurd rfl e,?_⟩
  ·intro h1;have h1':c=1:=h1;have h3:¬ c=3:=by omega
   rw[if_neg h3];exact⟨by simp[od,fk],by simp⟩
  ·omega
  ·intro h1;have h1':c=1:=h1;have h3:¬ c=3:=by omega
   show (if c=3 then fF ds else []).length≤_;rw[if_neg h3];simp
 have h1:=h.grow g rfl _ _ hs rfl;unfold Tre.make;rw[hlen] at h1 ⊢;rw[hsd];have hm:fnd (eX S.ac (R.length:Int) (⟨c,if c=3 then fF ds else [],[],[],0,0,0⟩:Nod)) (R.length:Int)=some ⟨c,if c=3 then fF ds else [],[],[],0,0,0⟩:=by rw[fnd_putA,if_pos rfl]
 have hd:fnd (eX S.ac (R.length:Int) (⟨c,if c=3 then fF ds else [],[],[],0,0,0⟩:Nod)) (d:Int)=some xd:=by rw[fnd_putA,if_neg (by omega)];exact hxd
 obtain⟨h2,x',h3,h4⟩:=h1.add (d:=d) (n:=R.length) (rd:=rd) (rn:=od c ds dv) (by rw[List.getElem?_append_left hdl];exact hrd) (by simp) hd hm (by omega) hd2 hnm v (fun _=>⟨rfl,by omega⟩) (Int.le_refl _);exact h2.bK h3 h4
theorem Sim.add (h:Sim R S){d n:Nat}{rd rn:Rn}{xd xn:Nod}(hrd:R[d]? = some rd)(hrn:R[n]? = some rn)(hxd:fnd S.ac (d:Int)=some xd)(kP:fnd S.ac (n:Int)=some xn)(hd2:xd.aa=2){p:Str}(hp:fnd xd.ab p=none)(v:Value)(h2:xn.aa≠2)(hl:0≤xn.ah) :
  Sim ((R.set d (rd.aP p (n:Int) v)).set n (rn.named d)) (S.add (d:Int) p (n:Int)):=by
 have hdn:d≠n:=by rintro rfl;rw[hxd] at kP;cases kP;exact h2 hd2
 obtain⟨h2,x',h3,h4⟩:=(h.weak (n:Int)).add hrd hrn hxd kP hdn hd2 hp v (fun e=>absurd e h2) hl;exact h2.bK h3 h4
theorem SimX.eE (h:Sim R S){d n:Nat}{rd rn:Rn}{xd xn:Nod}(hrd:R[d]? = some rd)(hrn:R[n]? = some rn)(hxd:fnd S.ac (d:Int)=some xd)(kP:fnd S.ac (n:Int)=some xn)(hdn:d≠n)(hd2:xd.aa=2)(p:Str)(v:Value)(a:Int)(ha:a=0∨a=xn.above) :
  SimX (n:Int) ((R.set n rn.lost).set d {rd with ai:=jp rd.ai p,ev:=v}) ((S.au (d:Int) (Tre.dirTake xd p)).au (n:Int) {xn with ah:=xn.ah-1,above:=a}):=by
 obtain⟨rd',e1,sd⟩:=h.aK hxd;obtain⟨rn',e2,sn⟩:=h.aK kP;rw[hrd] at e1;rw[hrn] at e2;cases e1;cases e2;have hne:(n:Int)≠(d:Int):=by omega
 rw[List.set_comm _ _ (by omega)];have FC:(R.set d {rd with ai:=jp rd.ai p,ev:=v})[n]? = some rn:=by rw[List.getElem?_set_ne (by omega)];exact hrn
 have s1:=(h.weak (n:Int)).au (x':=Tre.dirTake xd p) hxd hrd rfl (.inr (.inl rfl)) (sd.dz (by rw[hd2];decide) p v);exact s1.au (x':={xn with ah:=xn.ah-1,above:=a}) (mM hne kP) FC rfl (.inl rfl) (sn.lost a ha)
theorem Sim.take (h:Sim R S){d n:Nat}{rd rn:Rn}{xd xn:Nod}(hrd:R[d]? = some rd)(hrn:R[n]? = some rn)(hxd:fnd S.ac (d:Int)=some xd)(kP:fnd S.ac (n:Int)=some xn)(hdn:d≠n)(hd2:xd.aa=2){p:Str}(hp:fnd xd.ab p=some (n:Int))(v:Value) :
  Sim ((R.set n rn.lost).set d {rd with ai:=jp rd.ai p,ev:=v}) (S.take (d:Int) p):=by
 have hk:S.kid (d:Int) p=(n:Int):=by unfold Tre.kid;rw[fC hxd,hp];rfl
 unfold Tre.take;rw[hk,fC hxd,fC kP];exact(SimX.eE h hrd hrn hxd kP hdn hd2 p v (if xn.aa=2 then 0 else xn.above) (by split;exact .inl rfl;exact .inr rfl)).forget
theorem SimX.ak {z:Int}(h:Sim R S)(T:List Tb.Slot)(h1:∀ n x,fnd S.ac n=some x→n≠z→Tb.holds S.ak n=true→Tb.holds T n=true)(h2:∀ n,fnd S.ac n=none→Tb.holds S.ak n=false→Tb.holds T n=false)(h3:∀ fd s x,Tb.look T fd=some s→fnd S.ac s.ae=some x→fc s.af 32≠0→x.aa=1):SimX z R {S with ak:=T} where
 len:=h.len
 ae:=h.ae
 gone i r hr hn:=⟨(h.gone i r hr hn).1,h2 _ hn (h.gone i r hr hn).2⟩
 alive n x hx:=by
  by_cases e:n=z
  ·exact .inl e
  ·rcases h.alive n x hx with h9|h9|h9
   ·exact .inr (.inl h9)
   ·exact .inr (.inr (.inl h9))
   ·exact .inr (.inr (.inr (h1 n x hx e h9)))
 wopen:=h3
theorem qE {T:List Tb.Slot}{j:Nat}(hj:j<T.length)(s:Tb.Slot)(n:Int)(hoff:(T[j].on&&T[j].ae==n)=false):Tb.holds (T.set j s) n=(Tb.holds T n||(s.on&&s.ae==n)):=by
 unfold Tb.holds;rw[Bool.eq_iff_iff,Bool.or_eq_true,List.any_eq_true,List.any_eq_true];constructor
 ·rintro⟨u,hu,h⟩;obtain⟨i,hi,e⟩:=List.getElem_of_mem hu;rw[List.getElem_set] at e;split at e
  ·right;rw[e];exact h
  ·left;exact⟨u,by rw[←e];exact List.getElem_mem _,h⟩
 ·rintro(⟨u,hu,h⟩|h)
  ·obtain⟨i,hi,e⟩:=List.getElem_of_mem hu;refine⟨u,?_,h⟩;have hne:j≠i:=by rintro rfl;rw[e,h] at hoff;cases hoff
   rw[←e];have:(T.set j s)[i]'(by rw[List.length_set];exact hi)=T[i]:=List.getElem_set_ne hne _;rw[←this];exact List.getElem_mem _
  ·exact⟨s,List.mem_set hj s,h⟩
theorem Sim.opn (h:Sim R S)(g:Gd S rk k){n:Int}{x:Nod}(hx:fnd S.ac n=some x)(fl:Int)(hw:fc fl 32≠0→x.aa=1):Sim R {S with ak:=(Tb.opn S.ak n fl).2} := by
 unfold Tb.opn;cases hf:S.ak.findIdx? (fun s => !s.on) with
 | none=>exact h
 | some j =>
  dsimp only;rw[List.findIdx?_eq_some_iff_getElem] at hf;obtain⟨hj,hoff,-⟩:=hf;have hoff:S.ak[j].on=false:=by simpa using hoff
  have hh:∀ m,Tb.holds (S.ak.set j ⟨n,0,fl,true⟩) m=(Tb.holds S.ak m||(true&&n==m)):=fun m=>qE hj _ m (by rw[hoff];rfl);refine(SimX.ak (z:=0) h _ ?_ ?_ ?_).close ?_
  ·intro m y hy _ h1;rw[hh,h1];rfl
  ·intro m hm h1;rw[hh,h1];have:n≠m:=by rintro rfl;rw[hx] at hm;cases hm
   simp[this]
  ·intro fd s y hl hy hfl;rw[nk g.tab16 (by have:=g.tab16;omega)] at hl;split at hl
   ·rw[if_pos rfl] at hl;cases hl;have hy':fnd S.ac n=some y:=hy;rw[hx] at hy';cases hy';exact hw hfl
   ·exact h.wopen fd s y hl hy hfl
  ·intro y hy;exact absurd rfl (g.aR hy)
theorem Sim.close (h:Sim R S)(g:Gd S rk k)(fd:Int):Sim R (S.close fd).2:=by
 unfold Tre.close;unfold Tb.cls;cases hl:Tb.look S.ak fd with
 | none=>exact h
 | some s =>
  dsimp only;rw[if_neg (by simp)];obtain⟨h1,h2⟩:=mK hl;have h3:=q9 hl;obtain⟨hj,e⟩:=List.getElem?_eq_some_iff.1 h1;have hne:∀ m,m≠s.ae→Tb.holds (S.ak.set fd.toNat Tb.none4) m=Tb.holds S.ak m:=fun m hm=>by
   rw[qE hj _ m (by rw[e];have:s.ae≠m:=fun e=>hm e.symm;simp[this])];simp[Tb.none4]
  refine(SimX.ak (z:=s.ae) h _ ?_ ?_ ?_).forget
  ·intro m y hy hm h4;rw[hne m hm];exact h4
  ·intro m hm h4;have hms:m≠s.ae:=by
    obtain⟨⟨u,hu,-⟩,-⟩:=g.opn fd s hl;rintro rfl;rw[hu] at hm;cases hm
   rw[hne m hms];exact h4
  ·intro fd' s' y hl' hy hfl;rw[nk g.tab16 (by have:=g.tab16;omega)] at hl';split at hl'
   ·simp[Tb.none4] at hl'
   ·exact h.wopen fd' s' y hl' hy hfl
end Go.Proofs.YtmgpgbfgemebbaaGreatDoor
namespace Go.Proofs.YtmgpgbfgemebbaaGreatDoor
open Go.RowKit Go.Own
theorem pR (S:Tre)(n:Int):(S.forget n).ak=S.ak:=by
 unfold Tre.forget;split
 ·rfl
 ·split <;> rfl
theorem tG (S:Tre)(d:Int)(p:Str):(S.take d p).ak=S.ak:=by
 unfold Tre.take;rw[pR];rfl
theorem Dw (q:Nat)(S:Tre)(rk:Int→Nat)(k:Nat)(o:Opm)(ov:Value)(w:World)(L:List HP)(hk:k≤900)(hG:Gd S rk k)(hkd:o.aa=10∨o.aa=11)(hp:o.ag.length≤100000)(hO:Has w (Rts q S::L)) :
  zCl 71 #[.pointer (some ⟨q,0,none⟩),opV o ov] w fun e w'=>e=.returned (fL (S.remove o.aa o.ag).1 eS eS)∧Has w' (Rts q (S.remove o.aa o.ag).2::L)∧Keep w w':=by
 obtain⟨g,c,R,hS,hO2⟩:=fh.1 hO;have HG:=hid hG;have HS:=hid hS;have HO:=hid hO2;have HT:=hid hG.tab16;have hrl:(R.length:Int)≤1000000:=by have:=hS.aA hG;omega
 have ll:=hid (by have:=hS.aA hG;omega:R.length≤100000);clear hO hO2 hG hS;have iY:=hid (fun(w:World)(L':List HP)(hO:Has w (Rtb q g c R S.ak::L'))=>ml q g c R S rk k o.ag w L' (by omega) HG.out HS.out hp hO);have sD:=hid (fun h=>HG.out.ay o.ag h);have Jw:=hid (fun h hn=>HG.out.cG (by omega) o.ag h hn);have jj:=hid (show S.remove o.aa o.ag=(if (S.place o.ag).2≠0 then(eQ (S.place o.ag).2,S)
  else if (S.place o.ag).1.ae=0 then(eQ 5,S)
  else if o.aa=10∧(S.at_ (S.place o.ag).1.ae).aa≠2 then(eQ 7,S)
  else if o.aa=10∧0<(S.at_ (S.place o.ag).1.ae).ab.length then(eQ 9,S)
  else if o.aa=11∧(S.at_ (S.place o.ag).1.ae).aa=2 then(eQ 8,S)
  else(eQ 0,S.take (S.place o.ag).1.dir (S.place o.ag).1.name)) from rfl)
 generalize S.remove o.aa o.ag=RR at *;generalize S.place o.ag=P at *;obtain⟨⟨pn,pd,pnm⟩,pe⟩:=P;dsimp only at iY sD Jw jj;clear hp;unfold opV opC;go_enter Tryz.func71,Tryz.ntmps71
 go_upto_region 1 with fail
 obtain⟨w1,g3,g4,ew,e4,e3,eT,ff⟩:=f9 HO.out o ov;rw[ew,e4,e3];clear HO ew e4 e3;have iK:=eT.out.p1.e5;go_wp2_with fail
 refine st (iY.out w1 _ (eT.out.re 3 [2,0,1])) (ff.out) fun w2 eZ fu=>?_;try dsimp only
 unfold rsV rsC;go_upto_region 2 with fail
 have eW:=hid (show Has (w2.alloc (.cells #[.int .i64 pd,sV pnm,.int .i64 pn] 72)) (pt w2.heap.size (.cells #[.int .i64 pd,sV pnm,.int .i64 pn] 72)::pt g4 zA::pt g3 (.cells #[.int .i64 o.aa,.int .i64 o.fd,.int .i64 o.n,.int .i64 o.off,.int .i64 o.af,sV o.ag,sV o.aj,ov] 33)::Rtb q g c R S.ak::L) from(show Has (w2.alloc (.cells #[.int .i64 pd,sV pnm,.int .i64 pn] 72)) (pt w2.heap.size (.cells #[.int .i64 pd,sV pnm,.int .i64 pn] 72)::Rtb q g c R S.ak::pt g4 zA::pt g3 (.cells #[.int .i64 o.aa,.int .i64 o.fd,.int .i64 o.n,.int .i64 o.off,.int .i64 o.af,sV o.ag,sV o.aj,ov] 33)::L) from eZ.out.alloc _).re 4 [0,2,3,1]);have fH:=hid (fu.out.alloc (.cells #[.int .i64 pd,sV pnm,.int .i64 pn] 72));clear eT ff eZ fu;generalize w2.alloc (.cells #[.int .i64 pd,sV pnm,.int .i64 pn] 72)=w3 at *;generalize w2.heap.size=g5 at *;by_cases he:pe≠0
 ·as_aux_lemma=>exact zcU
 have he:pe=0:=Classical.byContradiction he;subst he;by_cases hn:pn=0
 ·have HR:=hid (by rw[jj.out,if_neg (by simp),if_pos hn]:RR=(eQ 5,S));have hnb:(pn != 0)=false:=by simpa using hn
  have Jn:(pn==0)=true:=by simpa using hn
  clear hn;have fg:=hid eW.out.drew;have fO:=hid fH.out.drew;go_upto_region 4 with fail
  refine eP (fun w'=>w'.cell? ⟨g5,2,none⟩=some (.int .i64 pn)∧True) (by kernel_rfl) (by kernel_rfl) ⟨fg.out.cells 2,trivial⟩ ?_;clear eW fH;generalize w3.drew=w4 at *;repeat (first|refine wr2 ?_|refine wk ?_)
  refine eR ?_;have hg2:=fg.out.e2;go_wp2_with fail
  have HC:=hid (gk (5:Int) w4 (pt g4 zA::Rtb q g c R S.ak::L) (fg.out.re 4 [1,3]))
  as_aux_lemma=>exact zbK
 obtain⟨⟨xd,xn,hxd,hd2,rZ,kP,hdn,-,-⟩,hlk⟩:=Jw.out rfl hn;obtain⟨d,rd,hd,hrd,sd⟩:=HS.out.ae _ _ hxd;obtain⟨n,rn,hnn,hrn,sn⟩:=HS.out.ae _ _ kP;have hn1:=hlk xn kP;subst hd;subst hnn;have HAT:=hid (fC kP);have hnb:((n:Int) != 0)=true:=by simpa using hn
 have Jn:((n:Int)==0)=false:=by simpa using hn
 have rW:=hid (show d≠n from fun e=>hdn (by rw[e]));have io:=hid sn;have r5:=hid sd;have pT:=hid hxd;have vI:=hid kP;have ir:=hid hrd;have jl:=hid hrn;have HD2:=hid hd2;have CB:=hid rZ;have hdi:(d:Int)<(R.length:Int):=by have:=(List.getElem?_eq_some_iff.1 hrd).1;omega
 have hni:(n:Int)<(R.length:Int):=by have:=(List.getElem?_eq_some_iff.1 hrn).1;omega
 have hd0:(0:Int)≤(d:Int):=by omega
 have hn0:(0:Int)≤(n:Int):=by omega
 have FL:=hid (show rn.ai.length≤k from sn.few HG.out kP);have Kv:(rn.ai.length:Int)≤1000:=by have:=FL.out;omega
 obtain⟨pe,ce,hev,-⟩:=(Rtb.aO eW.out.p3 hrn).1.form;have Bx:=hid (fun(w:World)(L':List HP)(h:Has w (Rtb q g c R S.ak::L'))=>(show w.cell? ⟨q,0,none⟩=some (.slice (some ⟨g,0,none⟩) R.length c)∧w.cell? ⟨g,n*7,none⟩=some (.int .i64 xn.aa)∧w.cell? ⟨g,n*7+4,none⟩=some (.slice pe rn.ai.length ce) from by
  obtain⟨k0,-,-,-,k4,-⟩:=Rtb.at_ h jl.out;rw[io.out.aa] at k0;rw[hev] at k4;exact⟨Rtb.nv h,k0,k4⟩))
 have vC:=hid (show rn.ai.length=xn.ab.length from io.out.ai.length_eq);have hpos:0<xn.ab.length→0<rn.ai.length:=fun h=>by rw[vC.out];exact h
 clear hlk hxd hd2 rZ kP hdn hrd sd hrn sn hev hn;have fg:=hid eW.out.drew;have fO:=hid fH.out.drew;go_upto_region 4 with fail
 refine eP (fun w'=>w'.cell? ⟨g5,2,none⟩=some (.int .i64 (n:Int))∧w'.cell? ⟨q,0,none⟩=some (.slice (some ⟨g,0,none⟩) R.length c)∧w'.cell? ⟨g,n*7,none⟩=some (.int .i64 xn.aa)∧w'.cell? ⟨g,n*7+4,none⟩=some (.slice pe rn.ai.length ce)) (by kernel_rfl) (by kernel_rfl) ⟨fg.out.cells 2,Bx.out _ _ fg.out.p3⟩ ?_;clear eW fH;generalize w3.drew=w4 at *;repeat (first|refine wr4 ?_|refine wk ?_)
 refine eR ?_;have hg2:=fg.out.e2;have hg0:=fg.out.e0;have hg1:=fg.out.e1;have hk0:=fg.out.p2.e0;by_cases hk2:xn.aa=2
 ·rcases hkd with hkd|hkd
  ·have hkb:(o.aa==11)=false:=by rw[hkd];rfl
   have Fd:=kbT hkd 10;have fu:=hid hk2;clear hk2;have hkb2:(xn.aa==2)=true:=by have:=fu.out;simpa using this
   have r8:=hid hkd;clear hkd;by_cases hps:0<xn.ab.length
   ·have HR:=hid (by rw[jj.out,if_neg (by simp),if_neg (by simpa using hnb),HAT.out];rw[if_neg (fun h=>h.2 fu.out),if_pos ⟨r8.out,hps⟩]:RR=(eQ 9,S));have hpb:decide ((0:Int)<(rn.ai.length:Int))=true:=by have:=hpos hps;simpa using this
    have hpc:decide (0<rn.ai.length)=true:=decide_eq_true (hpos hps);clear hps hpos;go_upto_region 11 with fail
    have fi:=hid fg.out.drew;have ge:=hid fO.out.drew;refine eP (fun w'=>w'.cell? ⟨g5,2,none⟩=some (.int .i64 (n:Int))∧w'.cell? ⟨q,0,none⟩=some (.slice (some ⟨g,0,none⟩) R.length c)∧w'.cell? ⟨g,n*7,none⟩=some (.int .i64 xn.aa)∧w'.cell? ⟨g,n*7+4,none⟩=some (.slice pe rn.ai.length ce)) (by kernel_rfl) (by kernel_rfl) ⟨fi.out.cells 2,Bx.out _ _ fi.out.p3⟩ ?_;clear fg fO hg2 hg0 hg1 hk0;generalize w4.drew=w5 at *;repeat (first|refine wr4 ?_|refine wk ?_)
    refine eR ?_;have hg2:=fi.out.e2;have hg0:=fi.out.e0;have hg1:=fi.out.e1;go_wp2_with fail
    have HC:=hid (gk (9:Int) w5 (pt g4 zA::Rtb q g c R S.ak::L) (fi.out.re 4 [1,3]));have kz:=ge;exact lv
   ·have HR:=hid (by rw[jj.out,if_neg (by simp),if_neg (by simpa using hnb),HAT.out];rw[if_neg (fun h=>h.2 fu.out),if_neg (fun h=>hps h.2),if_neg (by rw[r8.out];intro h;exact absurd h.1 (by decide))]:RR=(eQ 0,S.take (d:Int) pnm));have hpb:decide ((0:Int)<(rn.ai.length:Int))=false:=by have h9:=vC.out;(have:rn.ai.length=0:=by omega);simp[this]
    have hpc:decide (0<rn.ai.length)=false:=by have h9:=vC.out;exact decide_eq_false (by omega)
    clear hps hpos
    as_aux_lemma=>exact zao
  ·have hkb:(o.aa==11)=true:=by rw[hkd];rfl
   have Fd:=kbF hkd 10;have fu:=hid hk2;clear hk2;have hkb2:(xn.aa==2)=true:=by have:=fu.out;simpa using this
   have r8:=hid hkd;clear hkd;have HR:=hid (by rw[jj.out,if_neg (by simp),if_neg (by simpa using hnb),HAT.out];rw[if_neg (by rw[r8.out];intro h;exact absurd h.1 (by decide)),if_neg (by rw[r8.out];intro h;exact absurd h.1 (by decide)),if_pos ⟨r8.out,fu.out⟩]:RR=(eQ 8,S));go_wp2_with fail
   have HC:=hid (gk (8:Int) w4 (pt g4 zA::Rtb q g c R S.ak::L) (fg.out.re 4 [1,3]))
   as_aux_lemma=>exact zbK
 ·rcases hkd with hkd|hkd
  ·have hkb:(o.aa==11)=false:=by rw[hkd];rfl
   have Fd:=kbT hkd 10;have fu:=hid hk2;clear hk2;have hkb2:(xn.aa==2)=false:=by have:=fu.out;simpa using this
   have r8:=hid hkd;clear hkd;have HR:=hid (by rw[jj.out,if_neg (by simp),if_neg (by simpa using hnb),HAT.out];rw[if_pos ⟨r8.out,fu.out⟩]:RR=(eQ 7,S));go_wp2_with fail
   have HC:=hid (gk (7:Int) w4 (pt g4 zA::Rtb q g c R S.ak::L) (fg.out.re 4 [1,3]))
   as_aux_lemma=>exact zbK
  ·have hkb:(o.aa==11)=true:=by rw[hkd];rfl
   have Fd:=kbF hkd 10;have fu:=hid hk2;clear hk2;have hkb2:(xn.aa==2)=false:=by have:=fu.out;simpa using this
   have r8:=hid hkd;clear hkd;have HR:=hid (by rw[jj.out,if_neg (by simp),if_neg (by simpa using hnb),HAT.out];rw[if_neg (by rw[r8.out];intro h;exact absurd h.1 (by decide)),if_neg (by rw[r8.out];intro h;exact absurd h.1 (by decide)),if_neg (fun h=>fu.out h.2)]:RR=(eQ 0,S.take (d:Int) pnm))
   as_aux_lemma=>exact zao
end Go.Proofs.YtmgpgbfgemebbaaGreatDoor
