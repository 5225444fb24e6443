/- TEXTS of mine, merged. -/
import Derived.Test.YtmgpgbfgemebbaaGreatDoorM0
import Derived.Test.YtmgpgbfgemebbaaGreatDoorM23
import Derived.Test.YtmgpgbfgemebbaaGreatDoorM15
import Derived.Test.YtmgpgbfgemebbaaGreatDoorM6
set_option linter.all false
set_option maxRecDepth 100000
set_option maxHeartbeats 16000000
namespace Go.Proofs.YtmgpgbfgemebbaaGreatDoor
open Go.RowKit Go.Own
section
variable {q:Nat} {S:Tre} {rk:Int→Nat} {k:Nat} {o:Opm} {w:World} {L:List HP} {po:Option Addr} {co:Nat} {ds:List Int}
theorem uB (S:Tre)(fd:Int):(S.close fd).1=eQ (Tb.cls S.ak fd).1.2∧(S.close fd).2.ak=(Tb.cls S.ak fd).2:=by
 unfold Tre.close Tb.cls;cases hl:Tb.look S.ak fd with
 | none=>exact⟨rfl,rfl⟩
 | some s =>
  dsimp only;rw[if_neg (by simp)];exact⟨rfl,pR _ _⟩
theorem J9 (hkd:o.aa=2):RDo q S rk k o w L po co ds:=by
 intro hk hG hp ku hof hds hrd hO;obtain⟨g,c,R,hS,hO2⟩:=fh.1 hO;have HG:=hid hG;have HS:=hid hS;have HO:=hid hO2;have HT:=hid hG.tab16;have hrl:(R.length:Int)≤1000000:=by have:=hS.aA hG;omega
 have ll:=hid (by have:=hS.aA hG;omega:R.length≤100000);clear hO hO2 hG hS;have jG:=kbF hkd 1;have hkb2:=kbT hkd 2;have HR:=hid (by unfold Tre.aD;simp[hkd]:S.aD o ds=S.close o.fd);have Nj:=hid (uB S o.fd);have jN:=hid (HS.out.close HG.out o.fd);clear hkd hp ku hof hds;clear hrd;unfold opV opC;go_enter Tryz.func18,Tryz.ntmps18
 go_upto_region 1 with fail
 obtain⟨w1,g3,g4,ew,e4,e3,eT,ff⟩:=f9 HO.out o (.slice po ds.length co);rw[ew,e4,e3];clear HO ew e4 e3;have hp0:=eT.out.p1.e0;have hp1:=eT.out.p1.e1;go_upto_region 5 with fail
 have eZ:=hid eT.out.drew;have fu:=hid ff.out.drew;refine eP (fun w'=>w'.cell? ⟨g3,1,none⟩=some (.int .i64 o.fd)∧True) (by kernel_rfl) (by kernel_rfl) ⟨eZ.out.p1.cells 1,trivial⟩ ?_;clear eT ff hp0 hp1;generalize w1.drew=w2 at *;repeat (first|refine wr2 ?_|refine wk ?_)
 refine wa fun K hK=>?_;go_simp
 refine(A6 q _ S.ak o.fd w2 _ HT.out (show Has w2 (RTe q _ S.ak::_) from fy.1 (eZ.out.re 3 [2,0,1]))).mono ?_;rintro e w3 ⟨rfl,hO3,hK3⟩;have eW:=hid (show Has w3 (pt g4 zA::pt g3 (.cells (opC o (.slice po ds.length co)) 33)::Rtb q g c R (Tb.cls S.ak o.fd).2::L) from(show Has w3 (Rtb q g c R (Tb.cls S.ak o.fd).2::_) from fy.2 hO3).re 3 [1,2,0]);have fH:=hid (fu.out.trans hK3);clear hO3 hK3 eZ fu;try dsimp only
 refine hK.out _ _ ⟨eW.out.p1.cells 1,trivial⟩ ?_;clear hK K;try simp only[Act.put,zpu]
 repeat (first|refine wr2 ?_|refine wk ?_)
 refine eR ?_;have P0:=hid Nj.out.1;generalize (Tb.cls S.ak o.fd).1.2=ec at *;generalize (Tb.cls S.ak o.fd).1.1=en at *;go_wp2_with fail
 refine(gk (ec) w3 _ (eW.out.re 3 [0,2])).mono ?_;rintro e w9 ⟨rfl,mU,hK9⟩;have fJ:=hid (show Has w9 (pt g4 zA::Rtb q g c R (Tb.cls S.ak o.fd).2::L) from mU);have gQ:=hid ((fH.out).trans hK9);clear mU hK9;unfold fL ji eQ;obtain⟨hz0,hz1,hz2,hz3,gP,gH,hy0,hy1,hy2,hy3,hy4,gG⟩:=Has.az (fJ.out);go_wp2_with fail
 have h1:=fJ.out.ans (eQ (ec)) eS eS;refine bodyPost_ret (eV rfl rfl h1) rfl ?_;rw[HR.out,P0.out];refine⟨eS,eS,rfl,hI (gN _) (fh.2 ⟨g,c,R,jN.out,?_⟩),gQ.out.ans _ _ _ _ _ _ _⟩;rw[Nj.out.2];exact h1.drop
theorem Hb (hkd:o.aa=19):RDo q S rk k o w L po co ds:=by
 intro hk hG hp ku hof hds hrd hO;obtain⟨g,c,R,hS,hO2⟩:=fh.1 hO;have HG:=hid hG;have HS:=hid hS;have HO:=hid hO2;have HT:=hid hG.tab16;have hrl:(R.length:Int)≤1000000:=by have:=hS.aA hG;omega
 have ll:=hid (by have:=hS.aA hG;omega:R.length≤100000);clear hO hO2 hG hS;have jG:=kbF hkd 1;have hkb2:=kbF hkd 2;have jL:=kbF hkd 3;have kp:=kbF hkd 4;have kT:=kbF hkd 5;have ln:=kbF hkd 6;have lG:=kbF hkd 7;have l3:=kbF hkd 8;have lj:=kbF hkd 9;have kq:=kbF hkd 10;have kH:=kbF hkd 11;have j0:=kbF hkd 12;have lI:=kbF hkd 13;have ks:=kbF hkd 14;have mC:=kbF hkd 15;have nJ:=kbF hkd 16;have lJ:=kbF hkd 17;have mQ:=kbF hkd 18;have sa:=kbT hkd 19;exact zaf
theorem GT (hkd:o.aa=20):RDo q S rk k o w L po co ds:=by
 intro hk hG hp ku hof hds hrd hO;obtain⟨g,c,R,hS,hO2⟩:=fh.1 hO;have HG:=hid hG;have HS:=hid hS;have HO:=hid hO2;have HT:=hid hG.tab16;have hrl:(R.length:Int)≤1000000:=by have:=hS.aA hG;omega
 have ll:=hid (by have:=hS.aA hG;omega:R.length≤100000);clear hO hO2 hG hS;have jG:=kbF hkd 1;have hkb2:=kbF hkd 2;have jL:=kbF hkd 3;have kp:=kbF hkd 4;have kT:=kbF hkd 5;have ln:=kbF hkd 6;have lG:=kbF hkd 7;have l3:=kbF hkd 8;have lj:=kbF hkd 9;have kq:=kbF hkd 10;have kH:=kbF hkd 11;have j0:=kbF hkd 12;have lI:=kbF hkd 13;have ks:=kbF hkd 14;have mC:=kbF hkd 15;have nJ:=kbF hkd 16;have lJ:=kbF hkd 17;have mQ:=kbF hkd 18;have sa:=kbF hkd 19;have vW:=kbT hkd 20;exact zaf
theorem Gs (hkd:o.aa=21):RDo q S rk k o w L po co ds:=by
 intro hk hG hp ku hof hds hrd hO;obtain⟨g,c,R,hS,hO2⟩:=fh.1 hO;have HG:=hid hG;have HS:=hid hS;have HO:=hid hO2;have HT:=hid hG.tab16;have hrl:(R.length:Int)≤1000000:=by have:=hS.aA hG;omega
 have ll:=hid (by have:=hS.aA hG;omega:R.length≤100000);clear hO hO2 hG hS;have jG:=kbF hkd 1;have hkb2:=kbF hkd 2;have jL:=kbF hkd 3;have kp:=kbF hkd 4;have kT:=kbF hkd 5;have ln:=kbF hkd 6;have lG:=kbF hkd 7;have l3:=kbF hkd 8;have lj:=kbF hkd 9;have kq:=kbF hkd 10;have kH:=kbF hkd 11;have j0:=kbF hkd 12;have lI:=kbF hkd 13;have ks:=kbF hkd 14;have mC:=kbF hkd 15;have nJ:=kbF hkd 16;have lJ:=kbF hkd 17;have mQ:=kbF hkd 18;have sa:=kbF hkd 19;have vW:=kbF hkd 20;have yD:=kbT hkd 21;have HR:=hid (by unfold Tre.aD;simp[hkd]:S.aD o ds=(eQ 0,S));clear hkd hp ku hof hds;clear hrd;unfold opV opC;go_enter Tryz.func18,Tryz.ntmps18
 go_upto_region 1 with fail
 obtain⟨w1,g3,g4,ew,e4,e3,eT,ff⟩:=f9 HO.out o (.slice po ds.length co);rw[ew,e4,e3];clear HO ew e4 e3;have hp0:=eT.out.p1.e0;exact zcJ
theorem Hw (hkd:o.aa=22):RDo q S rk k o w L po co ds:=by
 intro hk hG hp ku hof hds hrd hO;obtain⟨g,c,R,hS,hO2⟩:=fh.1 hO;have HG:=hid hG;have HS:=hid hS;have HO:=hid hO2;have HT:=hid hG.tab16;have hrl:(R.length:Int)≤1000000:=by have:=hS.aA hG;omega
 have ll:=hid (by have:=hS.aA hG;omega:R.length≤100000);clear hO hO2 hG hS;have jG:=kbF hkd 1;have hkb2:=kbF hkd 2;have jL:=kbF hkd 3;have kp:=kbF hkd 4;have kT:=kbF hkd 5;have ln:=kbF hkd 6;have lG:=kbF hkd 7;have l3:=kbF hkd 8;have lj:=kbF hkd 9;have kq:=kbF hkd 10;have kH:=kbF hkd 11;have j0:=kbF hkd 12;have lI:=kbF hkd 13;have ks:=kbF hkd 14;have mC:=kbF hkd 15;have nJ:=kbF hkd 16;have lJ:=kbF hkd 17;have mQ:=kbF hkd 18;have sa:=kbF hkd 19;have vW:=kbF hkd 20;have yD:=kbF hkd 21;have DR:=kbT hkd 22;exact zaq
theorem Jj (hkd:o.aa=23):RDo q S rk k o w L po co ds:=by
 intro hk hG hp ku hof hds hrd hO;obtain⟨g,c,R,hS,hO2⟩:=fh.1 hO;have HG:=hid hG;have HS:=hid hS;have HO:=hid hO2;have HT:=hid hG.tab16;have hrl:(R.length:Int)≤1000000:=by have:=hS.aA hG;omega
 have ll:=hid (by have:=hS.aA hG;omega:R.length≤100000);clear hO hO2 hG hS;have jG:=kbF hkd 1;have hkb2:=kbF hkd 2;have jL:=kbF hkd 3;have kp:=kbF hkd 4;have kT:=kbF hkd 5;have ln:=kbF hkd 6;have lG:=kbF hkd 7;have l3:=kbF hkd 8;have lj:=kbF hkd 9;have kq:=kbF hkd 10;have kH:=kbF hkd 11;have j0:=kbF hkd 12;have lI:=kbF hkd 13;have ks:=kbF hkd 14;have mC:=kbF hkd 15;have nJ:=kbF hkd 16;have lJ:=kbF hkd 17;have mQ:=kbF hkd 18;have sa:=kbF hkd 19;have vW:=kbF hkd 20;have yD:=kbF hkd 21;have DR:=kbF hkd 22;have GX:=kbT hkd 23;exact zaq
theorem La (hkd:∀ i:Int,1≤i→i≤23→¬ o.aa=i):RDo q S rk k o w L po co ds:=by
 intro hk hG hp ku hof hds hrd hO;obtain⟨g,c,R,hS,hO2⟩:=fh.1 hO;have HG:=hid hG;have HS:=hid hS;have HO:=hid hO2;have HT:=hid hG.tab16;have hrl:(R.length:Int)≤1000000:=by have:=hS.aA hG;omega
 have ll:=hid (by have:=hS.aA hG;omega:R.length≤100000);clear hO hO2 hG hS;have HR:=hid (show S.aD o ds=(eQ 2,S) from by
  unfold Tre.aD;have h:=fun i h1 h2=>hkd i h1 h2;rw[if_neg (hkd 1 (by decide) (by decide)),if_neg (hkd 2 (by decide) (by decide)),if_neg (hkd 3 (by decide) (by decide)),if_neg (hkd 4 (by decide) (by decide)),if_neg (hkd 5 (by decide) (by decide)),if_neg (hkd 6 (by decide) (by decide)),if_neg (hkd 7 (by decide) (by decide)),if_neg (hkd 8 (by decide) (by decide)),if_neg (hkd 9 (by decide) (by decide)),if_neg (hkd 10 (by decide) (by decide)),if_neg (hkd 11 (by decide) (by decide)),if_neg (hkd 12 (by decide) (by decide)),if_neg (hkd 13 (by decide) (by decide)),if_neg (hkd 14 (by decide) (by decide)),if_neg (hkd 15 (by decide) (by decide)),if_neg (hkd 16 (by decide) (by decide)),if_neg (hkd 17 (by decide) (by decide)),if_neg (hkd 18 (by decide) (by decide)),if_neg (hkd 19 (by decide) (by decide)),if_neg (hkd 20 (by decide) (by decide)),if_neg (hkd 21 (by decide) (by decide)),if_neg (hkd 22 (by decide) (by decide)),if_neg (hkd 23 (by decide) (by decide))])
 have jG:(o.aa==1)=false:=by simpa using hkd 1 (by decide) (by decide)
 have hkb2:(o.aa==2)=false:=by simpa using hkd 2 (by decide) (by decide)
 have jL:(o.aa==3)=false:=by simpa using hkd 3 (by decide) (by decide)
 have kp:(o.aa==4)=false:=by simpa using hkd 4 (by decide) (by decide)
 have kT:(o.aa==5)=false:=by simpa using hkd 5 (by decide) (by decide)
 have ln:(o.aa==6)=false:=by simpa using hkd 6 (by decide) (by decide)
 have lG:(o.aa==7)=false:=by simpa using hkd 7 (by decide) (by decide)
 have l3:(o.aa==8)=false:=by simpa using hkd 8 (by decide) (by decide)
 have lj:(o.aa==9)=false:=by simpa using hkd 9 (by decide) (by decide)
 have kq:(o.aa==10)=false:=by simpa using hkd 10 (by decide) (by decide)
 have kH:(o.aa==11)=false:=by simpa using hkd 11 (by decide) (by decide)
 have j0:(o.aa==12)=false:=by simpa using hkd 12 (by decide) (by decide)
 have lI:(o.aa==13)=false:=by simpa using hkd 13 (by decide) (by decide)
 have ks:(o.aa==14)=false:=by simpa using hkd 14 (by decide) (by decide)
 have mC:(o.aa==15)=false:=by simpa using hkd 15 (by decide) (by decide)
 have nJ:(o.aa==16)=false:=by simpa using hkd 16 (by decide) (by decide)
 have lJ:(o.aa==17)=false:=by simpa using hkd 17 (by decide) (by decide)
 have mQ:(o.aa==18)=false:=by simpa using hkd 18 (by decide) (by decide)
 have sa:(o.aa==19)=false:=by simpa using hkd 19 (by decide) (by decide)
 have vW:(o.aa==20)=false:=by simpa using hkd 20 (by decide) (by decide)
 have yD:(o.aa==21)=false:=by simpa using hkd 21 (by decide) (by decide)
 have DR:(o.aa==22)=false:=by simpa using hkd 22 (by decide) (by decide)
 have GX:(o.aa==23)=false:=by simpa using hkd 23 (by decide) (by decide)
 clear hkd hp ku hof hds;clear hrd;unfold opV opC;go_enter Tryz.func18,Tryz.ntmps18
 go_upto_region 1 with fail
 obtain⟨w1,g3,g4,ew,e4,e3,eT,ff⟩:=f9 HO.out o (.slice po ds.length co);rw[ew,e4,e3];clear HO ew e4 e3;have hp0:=eT.out.p1.e0;exact zcF
end
theorem rDo (q:Nat)(S:Tre)(rk:Int→Nat)(k:Nat)(o:Opm)(w:World)(L:List HP)(hk:k≤900)(hG:Gd S rk k)(po:Option Addr)(co:Nat)(ds:List Int)(hp:o.ag.length≤100000)(ku:o.aj.length≤100000)(hof:o.off≤9223372036854775807∧-9223372036854775808≤o.off)(hds:ds.length≤100000)(hrd:∀ w',Has w' L→Rd w' (.slice po ds.length co) 1 ds.length (bc ds))(hO:Has w (Rts q S::L)) :
  zCl 18 #[.pointer (some ⟨q,0,none⟩),opV o (.slice po ds.length co)] w fun e w'=>∃ dv nv,e=.returned (fL (S.aD o ds).1 dv nv)∧Has w' (Bytes dv (S.aD o ds).1.data::Strs nv (S.aD o ds).1.ab::Rts q (S.aD o ds).2::L)∧Keep w w':=by
 have H:=fun h:RDo q S rk k o w L po co ds=>h hk hG hp ku hof hds hrd hO;by_cases h1:o.aa=1
 ·exact H (Ml h1)
 by_cases h2:o.aa=2
 ·exact H (J9 h2)
 by_cases h3:o.aa=3
 ·exact H (Lh h3)
 by_cases h4:o.aa=4
 ·exact H (K0 h4)
 by_cases h5:o.aa=5
 ·exact H (Lw h5)
 by_cases h6:o.aa=6
 ·exact H (LF h6)
 by_cases h7:o.aa=7
 ·exact H (Lv h7)
 by_cases h8:o.aa=8
 ·exact H (Kh h8)
 by_cases h9:o.aa=9
 ·exact H (LB h9)
 by_cases h10:o.aa=10
 ·exact H (Gl h10)
 by_cases h11:o.aa=11
 ·exact H (GW h11)
 by_cases h12:o.aa=12
 ·exact H (Hd h12)
 by_cases h13:o.aa=13
 ·exact H (Il h13)
 by_cases JM:o.aa=14
 ·exact H (Im JM)
 by_cases h15:o.aa=15
 ·exact H (F6 h15)
 by_cases h16:o.aa=16
 ·exact H (Ja h16)
 by_cases h17:o.aa=17
 ·exact H (IQ h17)
 by_cases h18:o.aa=18
 ·exact H (GA h18)
 by_cases h19:o.aa=19
 ·exact H (Hb h19)
 by_cases h20:o.aa=20
 ·exact H (GT h20)
 by_cases h21:o.aa=21
 ·exact H (Gs h21)
 by_cases h22:o.aa=22
 ·exact H (Hw h22)
 by_cases h23:o.aa=23
 ·exact H (Jj h23)
 exact H (La (fun i h1 h2=>by
  have:i=1∨i=2∨i=3∨i=4∨i=5∨i=6∨i=7∨i=8∨i=9∨i=10∨i=11∨i=12∨i=13∨i=14∨i=15∨i=16∨i=17∨i=18∨i=19∨i=20∨i=21∨i=22∨i=23:=by omega
  rcases this with rfl|rfl|rfl|rfl|rfl|rfl|rfl|rfl|rfl|rfl|rfl|rfl|rfl|rfl|rfl|rfl|rfl|rfl|rfl|rfl|rfl|rfl|rfl <;> assumption))
def rn00:Rn:=⟨0,0,0,0,[],[],[],eS,eS,eS,false⟩
def rn01:Rn:=⟨2,1,1,0,[],[],[],eS,eS,eS,false⟩
def NZ:Array Value:=(rn00.enc++rn01.enc).toArray
def Nd (g:Nat):Array Value:=#[.slice (some ⟨g,0,none⟩) 2 2]++Tb.cells (List.replicate 16 Tb.none4)
theorem Ko:Sim [rn00,rn01] tre0 where
 len:=rfl
 ae n x h:=by
  have h1:n=1∧x=⟨2,[],[],[],0,1,0⟩:=by
   unfold tre0 at h;rw[jC] at h;split at h
   ·rename_i e;cases h;exact⟨e.symm,rfl⟩
   ·cases h
  obtain⟨rfl,rfl⟩:=h1;exact⟨1,rn01,rfl,rfl,⟨rfl,rfl,.nil,.nil,rfl,fun h=>absurd h (by decide),rfl,fun _=>rfl,fun h=>absurd rfl h,fun h=>absurd h (by decide)⟩⟩
 gone i r hr hn:=by
  match i,hr with
  | 0,hr=>cases hr;exact⟨rfl,by decide⟩
  | 1,hr=>exact absurd hn (by decide)
  | i+2,hr=>simp at hr
 alive n x h:=by
  left;unfold tre0 at h;rw[jC] at h;split at h
  ·rename_i e;exact e.symm
  ·cases h
 wopen fd s x hl:=by
  exfalso;have h1:=mK hl;have:s=Tb.none4:=by
   have h2:=List.mem_of_getElem? h1.1;exact(List.mem_replicate.1 h2).2
  rw[this] at h1;exact absurd h1.2 (by decide)
theorem IZ (v:Value):Tryz.zeroCells98.setIfInBounds 0 v=#[v]++Tb.cells (List.replicate 16 Tb.none4):=by kernel_rfl
theorem Hx {w:World}{L:List HP}(h:Has w L):Has w (Rnx rn00::L):=gU.2 (Ents.nil (((h.al 4 1).al 5 1)))
theorem Gz {w:World}{L:List HP}(h:Has w L):Has w (Rnx rn01::L):=gU.2 (Ents.nil (((h.al 4 1).al 5 1)))
theorem CH {w:World}{L:List HP}{q g:Nat}(h:Has w (pt q (.cells (#[.slice (some ⟨g,0,none⟩) 2 2]++Tb.cells (List.replicate 16 Tb.none4)) 98)::pt g (.cells #[.int .i64 0,.int .i64 0,.int .i64 0,.int .i64 0,.slice none 0 0,.slice none 0 0,.slice none 0 0,.int .i64 2,.int .i64 1,.int .i64 1,.int .i64 0,.slice none 0 0,.slice none 0 0,.slice none 0 0] 90)::L)):Has w (Rts q tre0::L):=by
 refine fh.2 ⟨g,2,[rn00,rn01],Ko,fy.2 ?_⟩;have h2:Has w (row (.slice (some ⟨g,0,none⟩) 2 2) 90 7 2 (rnC [rn00,rn01])::pt q (.cells (#[.slice (some ⟨g,0,none⟩) 2 2]++Tb.cells (List.replicate 16 Tb.none4)) 98)::L):=(h.re 2 [1,0]).row_of (n:=2) (cap:=2) (size:=7) (xs:=rnC [rn00,rn01]) (by decide) (by decide) rfl rfl rfl;exact(Hx (Gz h2)).re 4 [3,2,0,1]
theorem Kt (w:World)(L:List HP)(hO:Has w L):zCl 14 #[] w fun e w'=>∃ q,e=.returned (.pointer (some ⟨q,0,none⟩))∧Has w' (Rts q tre0::L)∧Keep w w':=by
 have h1:=(hO.alloc (.cells #[.int .i64 0,.int .i64 0,.int .i64 0,.int .i64 0,.slice none 0 0,.slice none 0 0,.slice none 0 0,.int .i64 2,.int .i64 1,.int .i64 1,.int .i64 0,.slice none 0 0,.slice none 0 0,.slice none 0 0] 90)).alloc (.cells (Tryz.zeroCells98.setIfInBounds 0 (.slice (some ⟨w.heap.size,0,none⟩) 2 2)) 98);have e1:(w.alloc (.cells #[.int .i64 0,.int .i64 0,.int .i64 0,.int .i64 0,.slice none 0 0,.slice none 0 0,.slice none 0 0,.int .i64 2,.int .i64 1,.int .i64 1,.int .i64 0,.slice none 0 0,.slice none 0 0,.slice none 0 0] 90)).heap.size=w.heap.size+1:=by show (Array.push _ _).size=_;rw[Array.size_push]
 rw[e1] at h1;have HO:=hid h1;have HK:=hid (((Keep.refl w).alloc (.cells #[.int .i64 0,.int .i64 0,.int .i64 0,.int .i64 0,.slice none 0 0,.slice none 0 0,.slice none 0 0,.int .i64 2,.int .i64 1,.int .i64 1,.int .i64 0,.slice none 0 0,.slice none 0 0,.slice none 0 0] 90)).alloc (.cells (Tryz.zeroCells98.setIfInBounds 0 (.slice (some ⟨w.heap.size,0,none⟩) 2 2)) 98));clear h1 hO e1;go_enter Tryz.func14,Tryz.ntmps14
 go_wp2_with fail
 generalize (w.alloc (.cells #[.int .i64 0,.int .i64 0,.int .i64 0,.int .i64 0,.slice none 0 0,.slice none 0 0,.slice none 0 0,.int .i64 2,.int .i64 1,.int .i64 1,.int .i64 0,.slice none 0 0,.slice none 0 0,.slice none 0 0] 90)).alloc (.cells (Tryz.zeroCells98.setIfInBounds 0 (.slice (some ⟨w.heap.size,0,none⟩) 2 2)) 98)=w1 at *;rw[IZ] at HO;go_ret
 exact⟨_,rfl,CH HO.out,HK.out⟩
theorem rc (k:Nat)(hk:k≤1000000)(w:World):zCl 148 #[.int .i64 (k:Int)] w fun e w'=>(∃ c:Int,e=.returned (.tuple #[.int .i64 (plA k),.int .i64 (plB k),.int .i64 c]))∧w=w':=by
 have h0:(0:Int)≤(k:Int):=by omega
 have h1:¬ (k:Int)<0:=by omega
 by_cases ha:k<6
 ·have eA:plA k=0:=by unfold plA;rw[if_pos ha]
  have eB:plB k=k:=by unfold plB;rw[if_pos ha]
  rw[eA,eB];have h2:¬ (k:Int) ≥ 162:=by omega
  have h3:(k:Int)<6:=by omega
  go_enter Tryz.func148,Tryz.ntmps148
  exact zbZ
 by_cases hb:k<18
 ·have eA:plA k=1:=by unfold plA;rw[if_neg ha,if_pos hb]
  have eB:plB k=(k:Int)-6:=by unfold plB;rw[if_neg ha,if_pos hb]
  rw[eA,eB];have h2:¬ (k:Int) ≥ 162:=by omega
  have h3:¬ (k:Int)<6:=by omega
  have h4:(k:Int)<18:=by omega
  go_enter Tryz.func148,Tryz.ntmps148
  go_wp2_with fail
  go_ret3
  first|exact⟨⟨_,rfl⟩,rfl⟩|exact⟨⟨_,by go_num⟩,rfl⟩
 by_cases hc:k<162
 ·have eA:plA k=2:=by unfold plA;rw[if_neg ha,if_neg hb,if_pos hc]
  have eB:plB k=(((k-18) / 12:Nat):Int):=by unfold plB;rw[if_neg ha,if_neg hb,if_pos hc]
  rw[eA,eB];have h2:¬ (k:Int) ≥ 162:=by omega
  have h3:¬ (k:Int)<6:=by omega
  have h4:¬ (k:Int)<18:=by omega
  have h5:(0:Int)≤(k:Int)-6-12:=by omega
  have hq:((k:Int)-6-12) / 12=(((k-18) / 12:Nat):Int):=by omega
  go_enter Tryz.func148,Tryz.ntmps148
  exact zbZ
 ·have eA:plA k = -1:=by unfold plA;rw[if_neg ha,if_neg hb,if_neg hc]
  have eB:plB k = -1:=by unfold plB;rw[if_neg ha,if_neg hb,if_neg hc]
  rw[eA,eB];have h2:(k:Int) ≥ 162:=by omega
  go_enter Tryz.func148,Tryz.ntmps148
  exact zbZ
def aI (l:List Bool):Array Value:=(l.map fun b=>(.int .i64 (if b=true then 1 else 0):Value)).toArray
theorem Dz:aI (List.replicate 12 false)=#[.int .i64 0,.int .i64 0,.int .i64 0,.int .i64 0,.int .i64 0,.int .i64 0,.int .i64 0,.int .i64 0,.int .i64 0,.int .i64 0,.int .i64 0,.int .i64 0]:=rfl
theorem Fc (l:List Bool)(i:Nat)(b:Bool):(aI l).setIfInBounds i (.int .i64 (if b=true then 1 else 0))=aI (l.set i b):=by
 unfold aI;rw[List.setIfInBounds_toArray,←List.map_set]
theorem DX (l:List Bool)(i:Nat)(h:i<l.length):(aI l)[i]? = some (.int .i64 (if l[i]=true then 1 else 0)):=by
 unfold aI;simp[h]
def lT (ws:List Bool):Int:=((bst ws ws.length).1:Int)+(bst ws ws.length).2.1+((((bst ws ws.length).2.2.2.filter id).length:Int)+(if 0<((bst ws ws.length).2.2.2.filter id).length then 1 else 0))
theorem lf:∀ (l:List Bool) (i:Nat),i<l.length→0<((l.set i true).filter id).length
 | b::l,0,_=>by simp
 | b::l,i+1,h=>by
  have:=lf l i (by simpa using h);rw[List.set_cons_succ,List.filter_cons];split
  ·rw[List.length_cons];omega
  ·exact this
theorem vy (ws:List Bool):∀ k,k≤162→(bst ws k).2.2.1=(if 0<((bst ws k).2.2.2.filter id).length then 1 else 0)
 | 0,_=>rfl
 | k+1,hk=>by
  have ih:=vy ws k (by omega);have hl:=(mq ws k).2.2.2;rw[bst,mT];split
  ·dsimp only;by_cases h:plA k=2
   ·rw[if_pos h,if_pos h,if_pos];refine lf _ _ ?_;rw[hl];have:¬ k<18:=by unfold plA at h;intro h18;split at h <;> simp_all
    omega
   ·rw[if_neg h,if_neg h];exact ih
  ·exact ih
theorem vB (ws:List Bool)(m:Nat):∀ j,bst (ws++List.replicate m false) j=bst ws j
 | 0=>rfl
 | j+1=>by
  rw[bst,bst,vB ws m j];congr 1;rw[List.getD_eq_getElem?_getD,List.getD_eq_getElem?_getD];by_cases h:j<ws.length
  ·rw[List.getElem?_append_left h]
  ·rw[List.getElem?_append_right (by omega),List.getElem?_eq_none (l:=ws) (by omega),List.getElem?_replicate];split <;> rfl
theorem tu (ws:List Bool):∀ m,bst ws (ws.length+m)=bst ws ws.length
 | 0=>rfl
 | m+1=>by
  rw[←Nat.add_assoc,bst,tu ws m,mT,List.getD_eq_getElem?_getD,List.getElem?_eq_none (by omega),if_neg (by decide)]
theorem tw {x:Nod}(hk:x.aa=1)(m:Nat)(hm:x.wr.length+m≤162):lT (x.wr++List.replicate m false)=fD x:=by
 unfold lT fD;rw[if_neg (show ¬ x.aa=2 by omega),if_neg (show ¬ x.aa=3 by omega),List.length_append,List.length_replicate,vB,tu,vy x.wr x.wr.length (by omega)];omega
theorem Cp (v:Value)(ws:List Bool)(w:World)(L:List HP)(hl:ws.length≤162)(hrd:∀ w',Has w' L→Rd w' v 1 ws.length (ws.map Value.bool))(hO:Has w L) :
  zCl 80 #[v] w fun e w'=>e=.returned (.int .i64 (lT ws))∧Has w' L∧Keep w w':=by
 obtain⟨p,c,rfl,-⟩:=(hrd w hO).form;have ir:=hid hrd;have HL:=hid hl;have DA:(ws.length:Int)≤162:=by omega
 have HO:=hid hO;clear hrd hO hl;go_enter Tryz.func80,Tryz.ntmps80
 go_wp2_with fail
 have eZ:=hid (show Has (w.alloc (.cells (aI (List.replicate 12 false)) 208)) (pt w.heap.size (.cells (aI (List.replicate 12 false)) 208)::L) from HO.out.alloc _);have fu:=hid ((Keep.refl w).alloc (.cells (aI (List.replicate 12 false)) 208));rw[Dz] at eZ fu;generalize w.alloc (.cells #[.int .i64 0,.int .i64 0,.int .i64 0,.int .i64 0,.int .i64 0,.int .i64 0,.int .i64 0,.int .i64 0,.int .i64 0,.int .i64 0,.int .i64 0,.int .i64 0] 208)=w2 at *;generalize w.heap.size=g at *;rw[←Dz] at eZ;go_loopw [3,4,6] (fun a b v w'=>∃ (j:Nat) (w0:World),w0=w'∧j≤ws.length∧a=.int .i64 (bst ws j).1∧b=.int .i64 (bst ws j).2.1∧v=.int .i64 j∧Hid (Has w0 (pt g (.cells (aI (bst ws j).2.2.2) 208)::L))∧Hid (Keep w w0)) (fun _ _ v _=>ws.length-(intOf v).toNat)
 case atStart=>exact⟨0,w2,by trivial,by omega,rfl,rfl,rfl,eZ,fu⟩
 case round =>
  obtain⟨j,w0,rfl,hj,rfl,rfl,rfl,eW,fH⟩:=hrel;clear eZ fu;obtain⟨hb1,hb2,-,hb4⟩:=mq ws j;by_cases hlt:j<ws.length
  ·have hji:(j:Int)<(ws.length:Int):=by omega
   have hj0:(0:Int)≤(j:Int):=by omega
   have gW:=hid hlt;have hgd:ws.getD j false=ws[j]:=by rw[List.getD_eq_getElem?_getD,List.getElem?_eq_getElem hlt];rfl
   have HST:=hid (by rw[bst,hgd]:bst ws (j+1)=mT (bst ws j) j ws[j]);obtain⟨p',c',e',-,-,hcs⟩:=(ir.out w0 eW.out.drop).form;cases e';obtain⟨a,o,rfl,hc⟩:=hcs (by omega);have hcj:w0.cell? ⟨a,o+j,none⟩=some (.bool ws[j]):=by rw[hc _ (by omega),List.getElem?_map,List.getElem?_eq_getElem hlt];rfl
   generalize ws[j]=bj at *;clear hc hcs hgd hlt hj;generalize bst ws j=B at *;obtain⟨bm,bo,bd,bt⟩:=B;dsimp only at *;have Cw:=hid hb4;have hbm:(bm:Int)≤162:=by have:=HL.out;have:=gW.out;omega
   have EY:(0:Int)≤(bm:Int):=by omega
   cases bj with
   | false =>
    have HS2:=hid (show bst ws (j+1)=(bm,bo,bd,bt) from HST.out);clear hb4 hb2 hb1;go_wp2_with fail
    refine⟨⟨j+1,w0,by trivial,by have:=gW.out;omega,by rw[HS2.out],by rw[HS2.out],by go_num,by rw[HS2.out];exact eW,fH⟩,by have:=gW.out;simp[intOf];omega⟩
   | true =>
    by_cases h6:j<6
    ·have eA:plA j=0:=by unfold plA;rw[if_pos h6]
     have HS2:=hid (show bst ws (j+1)=(bm+1,bo,bd,bt) from HST.out.trans (by unfold mT;rw[if_pos rfl,eA];rfl));have iY:=hid (rc j (by have:=HL.out;have:=gW.out;omega) w0);rw[eA] at iY;clear eA hb4 hb2 hb1 h6;exact zbp
    by_cases h18:j<18
    ·have eA:plA j=1:=by unfold plA;rw[if_neg h6,if_pos h18]
     have HS2:=hid (show bst ws (j+1)=(bm+1,1,bd,bt) from HST.out.trans (by unfold mT;rw[if_pos rfl,eA];rfl));have iY:=hid (rc j (by have:=HL.out;have:=gW.out;omega) w0);rw[eA] at iY;clear eA hb4 hb2 hb1 h6 h18;exact zbp
    ·have zj:j<162:=by have:=HL.out;have:=gW.out;omega
     have eA:plA j=2:=by unfold plA;rw[if_neg h6,if_neg h18,if_pos zj]
     have HS2:=hid (show bst ws (j+1)=(bm+1,bo,1,bt.set ((j-18) / 12) true) from HST.out.trans (by unfold mT;rw[if_pos rfl,eA];rfl));have iY:=hid (rc j (by have:=HL.out;have:=gW.out;omega) w0);rw[eA] at iY;have eB:plB j=(((j-18) / 12:Nat):Int):=by unfold plB;rw[if_neg h6,if_neg h18,if_pos zj]
     rw[eB] at iY;have hq:(j-18) / 12<12:=by omega
     generalize (j-18) / 12=qq at *;have hq0:(0:Int)≤(qq:Int):=by omega
     have hq1:(qq:Int)<12:=by omega
     obtain⟨bq,hcq⟩:∃ bq:Value,w0.cell? ⟨g,qq,none⟩=some bq:=⟨_,by rw[eW.out.cells];exact DX bt qq (by rw[Cw.out];exact hq)⟩
     have Qd:=eW.out.thaw qq;have fg:=hid (show Has (w0.setCell ⟨g,qq,none⟩ (.int .i64 1)) (pt g (.cells (aI (bt.set qq true)) 208)::L) from by
      rw[←Fc];exact eW.out.set qq (.int .i64 1))
     have fO:=hid (fH.out.set ⟨g,qq,none⟩ (.int .i64 1));clear eA eB hb4 hb2 hb1 h6 h18 zj hq;go_wp2_with fail
     refine(iY.out).mono ?_;rintro e w' ⟨⟨c3,rfl⟩,rfl⟩;try dsimp only
     go_wp2_with fail
     refine⟨⟨j+1,_,by trivial,by have:=gW.out;omega,by rw[HS2.out];go_num,by rw[HS2.out],by go_num,by rw[HS2.out];exact fg,fO⟩,by have:=gW.out;simp[intOf];omega⟩
  ·obtain rfl:j=ws.length:=by omega
   have hki:¬ (ws.length:Int)<(ws.length:Int):=by omega
   have Gv:=hid (show lT ws=((bst ws ws.length).1:Int)+(bst ws ws.length).2.1+((((bst ws ws.length).2.2.2.filter id).length:Int)+(if 0<((bst ws ws.length).2.2.2.filter id).length then 1 else 0)) from rfl);generalize bst ws ws.length=B at *;obtain⟨bm,bo,bd,bt⟩:=B;dsimp only at *;have Cw:=hid hb4;have hbm:(bm:Int)≤162:=by have:=HL.out;omega
   have EY:(0:Int)≤(bm:Int):=by omega
   have M3:0≤bo∧bo≤1:=by omega
   clear hlt hj hb1 hb2 hb4;go_wp2_with fail
   go_loopw [10,11] (fun a v w'=>∃ j:Nat,w0=w'∧j≤12∧a=.int .i64 (((bt.take j).filter id).length:Nat)∧v=.int .i64 j) (fun _ v _=>12-(intOf v).toNat)
   case atStart=>exact⟨0,by trivial,by omega,rfl,rfl⟩
   case round =>
    obtain⟨j,rfl,hj,rfl,rfl⟩:=hrel;have hcl:((bt.take j).filter id).length≤j:=by
     have h1:=List.length_filter_le id (bt.take j);rw[List.length_take] at h1;omega
    by_cases hlt:j<12
    ·have hji:(j:Int)<12:=by omega
     have hj0:(0:Int)≤(j:Int):=by omega
     have hjl:j<bt.length:=by rw[Cw.out];exact hlt
     have hcq:w0.cell? ⟨g,j,none⟩=some (.int .i64 (if bt[j]=true then 1 else 0)):=by rw[eW.out.cells];exact DX bt j hjl
     have Kn:=hid (oT bt j hjl);have gW:=hid hlt;generalize bt[j]=bj at *;obtain⟨m,hm⟩:∃ m,((bt.take j).filter id).length=m:=⟨_,rfl⟩
     rw[hm] at hcl Kn ⊢;have JZ:(m:Int)≤12:=by omega
     have hm0:(0:Int)≤(m:Int):=by omega
     clear hm hcl hlt hj hjl;cases bj with
     | false =>
      go_wp2_with fail
      exact⟨⟨j+1,by trivial,by have:=gW.out;omega,by rw[Kn.out];simp,by go_num⟩,by have:=gW.out;simp[intOf];omega⟩
     | true =>
      go_wp2_with fail
      exact⟨⟨j+1,by trivial,by have:=gW.out;omega,by rw[Kn.out];go_num,by go_num⟩,by have:=gW.out;simp[intOf];omega⟩
    ·obtain rfl:j=12:=by omega
     have htk:bt.take 12=bt:=List.take_of_length_le (by rw[Cw.out];omega);rw[htk] at hcl ⊢;obtain⟨m,hm⟩:∃ m,(bt.filter id).length=m:=⟨_,rfl⟩
     rw[hm] at hcl Gv ⊢;have JZ:(m:Int)≤12:=by omega
     have hm0:(0:Int)≤(m:Int):=by omega
     clear hm htk hlt hj;by_cases hz:0<m
     ·have HR:=hid (Gv.out.trans (by rw[if_pos hz]));have hzi:(0:Int)<(m:Int):=by omega
      clear Gv hz;go_wp2_with fail
      go_ret
      refine⟨?_,eW.out.drop,fH.out⟩;rw[HR.out];first|rfl|go_num
     ·have HR:=hid (Gv.out.trans (by rw[if_neg hz]));have hzi:¬ (0:Int)<(m:Int):=by omega
      obtain rfl:m=0:=by omega
      clear Gv hz;go_wp2_with fail
      go_ret
      refine⟨?_,eW.out.drop,fH.out⟩;rw[show lT ws=(bm:Int)+bo from by rw[HR.out];simp];rfl
theorem pQ (x:Int):kInt.val x=.int .i64 x:=rfl
theorem oZ (b:Nat):vPtr.val (some b)=.pointer (some ⟨b,0,none⟩):=rfl
def oB (t:List (Int×Nod)):Int:=(t.map fun p=>gy p.2).sum
def jJ:List Pn→List Int→Int
 | [],_=>0
 | p::P,rem=>(if p.1∈rem then 0 else gy p.2.2)+jJ P rem
theorem sR:∀ P:List Pn,jJ P []=oB (pnN P)
 | []=>rfl
 | p::P=>by
  rw[jJ,sR P,if_neg (by simp)];simp[oB,pnN]
theorem tH:∀ (P:List Pn) (rem:List Int),(∀ p∈P,p.1∈rem)→jJ P rem=0
 | [],_,_=>rfl
 | p::P,rem,h=>by
  rw[jJ,tH P rem (fun q hq=>h q (List.mem_cons_of_mem _ hq)),if_pos (h p List.mem_cons_self)];rfl
theorem sF:∀ (P:List Pn) (rem:List Int) (n:Int),n∉P.map Prod.fst→jJ P (rem.filter fun y => !decide (y=n))=jJ P rem
 | [],_,_,_=>rfl
 | p::P,rem,n,h=>by
  simp only[List.map_cons,List.mem_cons,not_or] at h;rw[jJ,jJ,sF P rem n h.2];exact zbQ
theorem qS:∀ (P1 P2:List Pn) (rem:List Int) (n:Int) (b:Nat) (x:Nod),((P1++(n,b,x)::P2).map Prod.fst).Nodup→n∈rem→jJ (P1++(n,b,x)::P2) (rem.filter fun y => !decide (y=n))=jJ (P1++(n,b,x)::P2) rem+gy x
 | [],P2,rem,n,b,x,hd,hr=>by
  simp only[List.nil_append,List.map_cons,List.nodup_cons] at hd;rw[List.nil_append,jJ,jJ,sF P2 rem n hd.1,if_pos hr,if_neg (by simp)];show gy x+_=0+_+gy x;omega
 | p::P1,P2,rem,n,b,x,hd,hr=>by
  have hd0:=hd;simp only[List.cons_append,List.map_cons,List.nodup_cons] at hd;have hne:p.1≠n:=by
   intro e;exact hd.1 (by rw[e];simp)
  rw[List.cons_append,jJ,jJ,qS P1 P2 rem n b x hd.2 hr];exact zbM
theorem nO (x:Nod)(h0:0≤x.most)(h1:x.most≤1000000)(h2:x.wr.length≤6):0≤gy x∧gy x≤1000000:=by
 unfold gy;split
 ·omega
 ·split
  ·omega
  ·have:=List.length_filter_le id x.wr;omega
theorem sr:∀ (P:List Pn) (rem:List Int),(∀ p∈P,0≤gy p.2.2∧gy p.2.2≤1000000)→0≤jJ P rem∧jJ P rem≤P.length*1000000
 | [],_,_=>by simp[jJ]
 | p::P,rem,h=>by
  have h1:=sr P rem fun q hq=>h q (List.mem_cons_of_mem _ hq);have h2:=h p List.mem_cons_self;rw[jJ,List.length_cons];split <;> omega
theorem qB {w:World}{L:List HP}{A B C:HP}{P1 P2:List Pn}{p:Pn} : Has w (A::B::C::(pnC (P1++p::P2)++L))↔Has w (Ndc p.2.1 p.2.2::A::B::C::(pnC (P1++P2)++L)):=by
 exact zaM
theorem Id (q:Nat)(S:Tre)(w:World)(L:List HP)(hb:∀ n x,fnd S.ac n=some x→0≤x.most∧x.most≤1000000∧x.wr.length≤6)(hn:S.ac.length≤1000)(hO:Has w (Trc q S::L)) :
  zCl 24 #[.pointer (some ⟨q,0,none⟩)] w fun e w'=>e=.returned (.tuple #[.int .i64 (oB S.ac),.int .i64 (S.ac.length:Int)])∧Has w' (Trc q S::L)∧Keep w w':=by
 obtain⟨m,f,P,hJ,h⟩:=eY.1 hO;have fW:=hid hJ;have h':=fQ.1 h;have pP:=hid (Trb.nodup h);have HO:=hid (show Has w (Mk kInt vPtr m (pnB P)::pt q (.cells (gF m f S.last) 87)::Tab f S.ak::(pnC P++L)) from h'.perm (.swap _ _ _));have hq0:=HO.out.p1.e0;have yB:=hid (show ∀ p∈P,0≤p.2.2.most∧p.2.2.most≤1000000∧p.2.2.wr.length≤6 from by
  intro p hp;have hm:(p.1,p.2.2)∈pnN P:=List.mem_map.2 ⟨p,hp,rfl⟩;have hnd:((pnN P).map Prod.fst).Nodup:=by rw[gr];exact pP.out
  exact hb p.1 p.2.2 (by rw[←hJ.1];exact gf hnd hm))
 have Ka:=hid (fun rem=>sr P rem fun p hp=>nO p.2.2 (yB.out p hp).1 (yB.out p hp).2.1 (yB.out p hp).2.2);have hPl:P.length=S.ac.length:=by rw[←hJ.1];simp[pnN]
 have MK:P.length≤1000:=by omega
 clear hO h h' hJ hb;go_enter Tryz.func24,Tryz.ntmps24
 go_wp2_with (at_range;refine gY HO.out tNo lq rfl _ rfl rfl ?_;intro w4 hO4 hK4 hs4)
 try go_frame
 have fg:=hid hO4;have fO:=hid hK4;clear hO4 hK4 hs4 hq0 HO;generalize w.heap.size=r at *;generalize hr0:(pnB P).map Prod.fst=rem0 at *;have xZ:=hid (show jJ P rem0=0 from tH P rem0 fun p hp=>by rw[←hr0,iv];exact List.mem_map_of_mem hp);clear hr0;generalize (pnB P).length=cnt0 at *;go_loopw [4] (fun cv w'=>∃ (rem:List Int) (cnt:Nat),cv=.int .i64 (jJ P rem)∧Hid (Has w' (Mr kInt vPtr m r (pnB P) rem cnt::pt q (.cells (gF m f S.last) 87)::Tab f S.ak::(pnC P++L)))∧Hid (Keep w w')) (fun _ w'=>w'.rangeLeft m r)
 case atStart=>exact⟨rem0,cnt0,by rw[xZ.out],fg,fO⟩
 case round =>
  clear fg fO xZ;obtain⟨rem,cnt,rfl,HO,HK⟩:=hrel;have hleft:=Mr.left HO.out;have A8:=hid hleft;have hlow:=Ka.out rem;go_wp2_with (at_next;refine ik HO.out rfl _ rfl rfl ?_ ?_)
  ·intro gz;subst gz;have io:=hid (sR P);have fi:=hid (Mr.end HO.out);have hq0:=fi.out.p1.e0;have hlen:=Mk.len fi.out lq 3;have hbl:(pnB P).length=S.ac.length:=by rw[←hPl];simp[pnB]
   rw[hbl] at hlen;clear HO hleft;generalize jJ P []=sm at *;exact zch
  ·rintro n ob w5 cnt' hp hr hky kk rS hK5 hsz hen;obtain⟨⟨n',b,x⟩,yu,he⟩:=List.mem_map.1 hp;simp only[Prod.mk.injEq] at he;obtain⟨rfl,rfl⟩:=he;simp only[pQ,oZ] at hen ⊢;have tz:=hen;obtain⟨P1,P2,kj⟩:=List.append_of_mem yu;have nZ:=hid kj;have hbx:=yB.out _ yu;have FA:=nO x hbx.1 hbx.2.1 hbx.2.2;have fq:=hid (show Has w5 (Ndc b x::Mr kInt vPtr m r (pnB P) (rem.filter fun y => !decide (y=n')) cnt'::pt q (.cells (gF m f S.last) 87)::Tab f S.ak::(pnC (P1++P2)++L)) from qB.1 (by rw[←kj];exact kk));have HST:=hid (show jJ P (rem.filter fun y => !decide (y=n'))=jJ P rem+gy x from by
    rw[kj];exact qS P1 P2 rem n' b x (by rw[←kj];exact pP.out) hr)
   have gu:=hid (HK.out.trans hK5);have Iw:=hid rS;clear hp hr hky kk rS hK5 hsz kj yu hleft HO HK;generalize jJ P rem=sm at *;generalize hbm:gy x=bm at *;have Li:sm≤1000000000:=by omega
   obtain⟨hs0,-⟩:=hlow;obtain⟨EY,Lk⟩:=FA;have Lu:=hid hbm;clear hbm;go_wp2_with fail
   refine st (B8 b x w5 _ hbx.1 hbx.2.1 hbx.2.2 fq.out) (gu.out) fun w7 fP gZ=>?_;try dsimp only
   rw[Lu.out];have fI:=hid (show Has w7 (Mr kInt vPtr m r (pnB P) (rem.filter fun y => !decide (y=n')) cnt'::pt q (.cells (gF m f S.last) 87)::Tab f S.ak::(pnC P++L)) from by
    have h1:=qB (p:=(n',b,x)).2 fP.out
    rwa [←nZ.out] at h1)
   exact zb6
def fX (t:List (Int×Nod)):Int:=(t.map fun p=>fD p.2).sum
def jH:List Pn→List Int→Int
 | [],_=>0
 | p::P,rem=>(if p.1∈rem then 0 else fD p.2.2)+jH P rem
theorem tt:∀ P:List Pn,jH P []=fX (pnN P)
 | []=>rfl
 | p::P=>by
  rw[jH,tt P,if_neg (by simp)];simp[fX,pnN]
theorem sc:∀ (P:List Pn) (rem:List Int),(∀ p∈P,p.1∈rem)→jH P rem=0
 | [],_,_=>rfl
 | p::P,rem,h=>by
  rw[jH,sc P rem (fun q hq=>h q (List.mem_cons_of_mem _ hq)),if_pos (h p List.mem_cons_self)];rfl
theorem tA:∀ (P:List Pn) (rem:List Int) (n:Int),n∉P.map Prod.fst→jH P (rem.filter fun y => !decide (y=n))=jH P rem
 | [],_,_,_=>rfl
 | p::P,rem,n,h=>by
  simp only[List.map_cons,List.mem_cons,not_or] at h;rw[jH,jH,tA P rem n h.2];exact zbQ
theorem qp:∀ (P1 P2:List Pn) (rem:List Int) (n:Int) (b:Nat) (x:Nod),((P1++(n,b,x)::P2).map Prod.fst).Nodup→n∈rem→jH (P1++(n,b,x)::P2) (rem.filter fun y => !decide (y=n))=jH (P1++(n,b,x)::P2) rem+fD x
 | [],P2,rem,n,b,x,hd,hr=>by
  simp only[List.nil_append,List.map_cons,List.nodup_cons] at hd;rw[List.nil_append,jH,jH,tA P2 rem n hd.1,if_pos hr,if_neg (by simp)];show fD x+_=0+_+fD x;omega
 | p::P1,P2,rem,n,b,x,hd,hr=>by
  have hd0:=hd;simp only[List.cons_append,List.map_cons,List.nodup_cons] at hd;have hne:p.1≠n:=by
   intro e;exact hd.1 (by rw[e];simp)
  rw[List.cons_append,jH,jH,qp P1 P2 rem n b x hd.2 hr];exact zbM
theorem jB (x:Nod)(h0:0≤x.most)(h1:x.most≤1000000)(h2:x.wr.length≤100000):0≤fD x∧fD x≤1000000:=by
 unfold fD;split
 ·omega
 ·split
  ·omega
  ·have h3:=mq x.wr x.wr.length;have h4:=List.length_filter_le id (bst x.wr x.wr.length).2.2.2;omega
theorem si:∀ (P:List Pn) (rem:List Int),(∀ p∈P,0≤fD p.2.2∧fD p.2.2≤1000000)→0≤jH P rem∧jH P rem≤P.length*1000000
 | [],_,_=>by simp[jH]
 | p::P,rem,h=>by
  have h1:=si P rem fun q hq=>h q (List.mem_cons_of_mem _ hq);have h2:=h p List.mem_cons_self;rw[jH,List.length_cons];split <;> omega
theorem pm {w:World}{L:List HP}{A B C:HP}{P1 P2:List Pn}{p:Pn} : Has w (A::B::C::(pnC (P1++p::P2)++L))↔Has w (Ndc p.2.1 p.2.2::A::B::C::(pnC (P1++P2)++L)):=by
 exact zaM
theorem zL (q:Nat)(S:Tre)(w:World)(L:List HP)(hb:∀ n x,fnd S.ac n=some x→0≤x.most∧x.most≤1000000∧x.wr.length≤100000)(hn:S.ac.length≤1000)(hO:Has w (Trc q S::L)) :
  zCl 24 #[.pointer (some ⟨q,0,none⟩)] w fun e w'=>e=.returned (.tuple #[.int .i64 (fX S.ac),.int .i64 (S.ac.length:Int)])∧Has w' (Trc q S::L)∧Keep w w':=by
 obtain⟨m,f,P,hJ,h⟩:=eY.1 hO;have fW:=hid hJ;have h':=fQ.1 h;have pP:=hid (Trb.nodup h);have HO:=hid (show Has w (Mk kInt vPtr m (pnB P)::pt q (.cells (gF m f S.last) 87)::Tab f S.ak::(pnC P++L)) from h'.perm (.swap _ _ _));have hq0:=HO.out.p1.e0;have yB:=hid (show ∀ p∈P,0≤p.2.2.most∧p.2.2.most≤1000000∧p.2.2.wr.length≤100000 from by
  intro p hp;have hm:(p.1,p.2.2)∈pnN P:=List.mem_map.2 ⟨p,hp,rfl⟩;have hnd:((pnN P).map Prod.fst).Nodup:=by rw[gr];exact pP.out
  exact hb p.1 p.2.2 (by rw[←hJ.1];exact gf hnd hm))
 have Ka:=hid (fun rem=>si P rem fun p hp=>jB p.2.2 (yB.out p hp).1 (yB.out p hp).2.1 (yB.out p hp).2.2);have hPl:P.length=S.ac.length:=by rw[←hJ.1];simp[pnN]
 have MK:P.length≤1000:=by omega
 clear hO h h' hJ hb;go_enter Tryz.func24,Tryz.ntmps24
 go_wp2_with (at_range;refine gY HO.out tNo lq rfl _ rfl rfl ?_;intro w4 hO4 hK4 hs4)
 try go_frame
 have fg:=hid hO4;have fO:=hid hK4;clear hO4 hK4 hs4 hq0 HO;generalize w.heap.size=r at *;generalize hr0:(pnB P).map Prod.fst=rem0 at *;have xZ:=hid (show jH P rem0=0 from sc P rem0 fun p hp=>by rw[←hr0,iv];exact List.mem_map_of_mem hp);clear hr0;generalize (pnB P).length=cnt0 at *;go_loopw [4] (fun cv w'=>∃ (rem:List Int) (cnt:Nat),cv=.int .i64 (jH P rem)∧Hid (Has w' (Mr kInt vPtr m r (pnB P) rem cnt::pt q (.cells (gF m f S.last) 87)::Tab f S.ak::(pnC P++L)))∧Hid (Keep w w')) (fun _ w'=>w'.rangeLeft m r)
 case atStart=>exact⟨rem0,cnt0,by rw[xZ.out],fg,fO⟩
 case round =>
  clear fg fO xZ;obtain⟨rem,cnt,rfl,HO,HK⟩:=hrel;have hleft:=Mr.left HO.out;have A8:=hid hleft;have hlow:=Ka.out rem;go_wp2_with (at_next;refine ik HO.out rfl _ rfl rfl ?_ ?_)
  ·intro gz;subst gz;have io:=hid (tt P);have fi:=hid (Mr.end HO.out);have hq0:=fi.out.p1.e0;have hlen:=Mk.len fi.out lq 3;have hbl:(pnB P).length=S.ac.length:=by rw[←hPl];simp[pnB]
   rw[hbl] at hlen;clear HO hleft;generalize jH P []=sm at *;exact zch
  ·rintro n ob w5 cnt' hp hr hky kk rS hK5 hsz hen;obtain⟨⟨n',b,x⟩,yu,he⟩:=List.mem_map.1 hp;simp only[Prod.mk.injEq] at he;obtain⟨rfl,rfl⟩:=he;simp only[pQ,oZ] at hen ⊢;have tz:=hen;obtain⟨P1,P2,kj⟩:=List.append_of_mem yu;have nZ:=hid kj;have hbx:=yB.out _ yu;have FA:=jB x hbx.1 hbx.2.1 hbx.2.2;have fq:=hid (show Has w5 (Ndc b x::Mr kInt vPtr m r (pnB P) (rem.filter fun y => !decide (y=n')) cnt'::pt q (.cells (gF m f S.last) 87)::Tab f S.ak::(pnC (P1++P2)++L)) from pm.1 (by rw[←kj];exact kk));have HST:=hid (show jH P (rem.filter fun y => !decide (y=n'))=jH P rem+fD x from by
    rw[kj];exact qp P1 P2 rem n' b x (by rw[←kj];exact pP.out) hr)
   have gu:=hid (HK.out.trans hK5);have Iw:=hid rS;clear hp hr hky kk rS hK5 hsz kj yu hleft HO HK;generalize jH P rem=sm at *;generalize hbm:fD x=bm at *;have Li:sm≤1000000000:=by omega
   obtain⟨hs0,-⟩:=hlow;obtain⟨EY,Lk⟩:=FA;have Lu:=hid hbm;clear hbm;go_wp2_with fail
   refine st (zV b x w5 _ hbx.1 hbx.2.1 hbx.2.2 fq.out) (gu.out) fun w7 fP gZ=>?_;try dsimp only
   rw[Lu.out];have fI:=hid (show Has w7 (Mr kInt vPtr m r (pnB P) (rem.filter fun y => !decide (y=n')) cnt'::pt q (.cells (gF m f S.last) 87)::Tab f S.ak::(pnC P++L)) from by
    have h1:=pm (p:=(n',b,x)).2 fP.out
    rwa [←nZ.out] at h1)
   exact zb6
def upTo (t:List (Int×Nod))(h:Nod→Int):Nat→Int
 | 0=>0
 | i+1=>upTo t h i+(match fnd t (i:Int) with|some x=>h x|none=>0)
theorem tL (h:Nod→Int):∀ N,upTo [] h N=0
 | 0=>rfl
 | N+1=>by rw[upTo,tL h N];rfl
theorem qZ (p:Int×Nod)(t:List (Int×Nod))(h:Nod→Int)(hn:fnd t p.1=none):∀ N:Nat,upTo (p::t) h N=upTo t h N+(if 0≤p.1∧p.1<(N:Int) then h p.2 else 0)
 | 0=>by rw[upTo,upTo,if_neg (by omega)];rfl
 | N+1=>by
  rw[upTo,upTo,qZ p t h hn N,jC];by_cases e:p.1=(N:Int)
  ·rw[if_pos e,if_neg (by omega),if_pos (by omega),←e,hn];try simp
  ·rw[if_neg e];by_cases h1:0≤p.1∧p.1<(N:Int)
   ·rw[if_pos h1,if_pos (by omega)];omega
   ·rw[if_neg h1,if_neg (by omega)];omega
theorem px (h:Nod→Int)(N:Nat):∀ t:List (Int×Nod),(t.map Prod.fst).Nodup→(∀ p∈t,0≤p.1∧p.1<(N:Int))→upTo t h N=(t.map fun p=>h p.2).sum
 | [],_,_=>tL h N
 | p::t,hk,hr=>by
  rw[List.map_cons,List.nodup_cons] at hk;rw[qZ p t h (fU.2 hk.1),px h N t hk.2 (fun q hq=>hr q (List.mem_cons_of_mem _ hq)),if_pos (hr p List.mem_cons_self),List.map_cons,List.sum_cons];omega
theorem oP {t:List (Int×Nod)}{h:Nod→Int}{M:Int}(hM:0≤M)(hb:∀ n x,fnd t n=some x→0≤h x∧h x≤M):∀ N:Nat,0≤upTo t h N∧upTo t h N≤N*M
 | 0=>by rw[upTo];simp
 | N+1=>by
  have ih:=oP hM hb N;rw[upTo];have e:((N+1:Nat):Int)*M=N*M+M:=by rw[Int.natCast_add,Int.add_mul];simp
  rw[e];cases hf:fnd t (N:Int) with
  | none=>dsimp only;omega
  | some x=>have:=hb _ _ hf;dsimp only;omega
theorem Bw (t:List (Int×Nod)):(t.map fun _=>(1:Int)).sum=(t.length:Int):=by
 induction t with
 | nil=>rfl
 | cons p t ih=>rw[List.map_cons,List.sum_cons,ih,List.length_cons];omega
theorem wG {S:Tre}{rk:Int→Nat}{k:Nat}(g:Gd S rk k){R:List Rn}(hS:Sim R S):upTo S.ac fD R.length=fX S.ac∧upTo S.ac (fun _=>1) R.length=(S.ac.length:Int):=by
 have hr:∀ p∈S.ac,0≤p.1∧p.1<(R.length:Int):=by
  intro p hp;have h1:=g.num _ _ (gf g.x.keys hp);have h2:=hS.len;omega
 exact⟨px _ _ _ g.x.keys hr,(px _ _ _ g.x.keys hr).trans (Bw _)⟩
theorem Ae (q:Nat)(S:Tre)(rk:Int→Nat)(k:Nat)(w:World)(L:List HP)(hk:k≤900)(hG:Gd S rk k)(hO:Has w (Rts q S::L)) :
  zCl 25 #[.pointer (some ⟨q,0,none⟩)] w fun e w'=>e=.returned (.tuple #[.int .i64 (fX S.ac),.int .i64 (S.ac.length:Int)])∧Has w' (Rts q S::L)∧Keep w w':=by
 obtain⟨g,c,R,hS,hO2⟩:=fh.1 hO;have Nl:=hid (wG hG hS);generalize fX S.ac=RB at *;generalize (S.ac.length:Int)=RM at *;have HT:=hid hG.tab16;have hrl:(R.length:Int)≤902:=by have:=hS.aA hG;omega
 have HR1:=hid (by have:=hS.len;have:=hG.aW;omega:1≤R.length);have HZ:=hid (show fnd S.ac 0=none from hG.x.zero);have C3:=hid (fun N=>oP (t:=S.ac) (h:=fD) (M:=1000000) (by decide) (fun n x hx=>jB x (hG.ax hx).size.2.2.2.1 (by have:=(hG.ax hx).size;omega) (by have:=(hG.ax hx).size;omega)) N);have np:=hid (fun N=>oP (t:=S.ac) (h:=fun _=>1) (M:=1) (by decide) (fun n x hx=>⟨by decide,by decide⟩) N);have HS:=hid hS;have HG:=hid hG;have HO:=hid hO2;clear hS hG hO hO2;go_enter Tryz.func25,Tryz.ntmps25
 go_wp2_with fail
 go_loopw [4,5,6] (fun a b v w'=>∃ (j:Nat) (w0:World),w0=w'∧1≤j∧j≤R.length∧a=.int .i64 (upTo S.ac fD j)∧b=.int .i64 (upTo S.ac (fun _=>1) j)∧v=.int .i64 j∧Hid (Has w0 (Rtb q g c R S.ak::L))∧Hid (Keep w w0)) (fun _ _ v _=>R.length-(intOf v).toNat)
 case atStart=>exact⟨1,w,by trivial,by omega,by have:=HR1.out;omega,by simp[upTo,HZ.out],by simp[upTo,HZ.out],rfl,HO,hid (Keep.refl w)⟩
 case round =>
  obtain⟨j,w0,rfl,hj1,hj,rfl,rfl,rfl,eT,ff⟩:=hrel;have hq:=Rtb.nv eT.out;by_cases hlt:j<R.length
  ·have hji:(j:Int)<(R.length:Int):=by omega
   have hj0:(0:Int)≤(j:Int):=by omega
   obtain⟨hb0,hb1⟩:=C3.out j;obtain⟨hn0,hn1⟩:=np.out j;have gW:=hid hlt;obtain⟨r,hr⟩:∃ r,R[j]? = some r:=⟨_,List.getElem?_eq_getElem hlt⟩
   have hu1:upTo S.ac fD (j+1)=upTo S.ac fD j+(match fnd S.ac (j:Int) with|some x=>fD x|none=>0):=rfl;have hu2:upTo S.ac (fun _=>1) (j+1)=upTo S.ac (fun _=>1) j+(match fnd S.ac (j:Int) with|some x=>1|none=>0):=rfl;generalize upTo S.ac fD j=ub at *;generalize upTo S.ac (fun _=>1) j=un at *;have hub:ub≤902000000:=by omega
   have hun:un≤902:=by omega
   obtain⟨pe,ce,hev,-⟩:=(Rtb.aO eT.out hr).1.form;obtain⟨pd,cd,hdv,-⟩:=(Rtb.aO eT.out hr).2.1.form;obtain⟨pw,cw,oe,-⟩:=(Rtb.aO eT.out hr).2.2.form;obtain⟨c0,c1,c2,c3,c4,c5,c6⟩:=Rtb.at_ eT.out hr;rw[hev] at c4;rw[hdv] at c5;rw[oe] at c6;have ir:=hid (fun(w:World)(L':List HP)(h:Has w (Rtb q g c R S.ak::L'))=>(by have:=(Rtb.aO h hr).2.2;rw[oe] at this;exact this:Rd w (.slice pw r.there.length cw) 1 r.there.length (r.there.map Value.bool)));have HR:=hid hr;clear hev hdv oe hr hlt hj hb1 hn1;have eZ:=hid (show Has (w0.alloc (.cells #[.int .i64 r.aa,.int .i64 r.ab,.int .i64 r.am,.int .i64 r.aq,.slice pe r.ai.length ce,.slice pd r.data.length cd,.slice pw r.there.length cw] 90)) (pt w0.heap.size (.cells #[.int .i64 r.aa,.int .i64 r.ab,.int .i64 r.am,.int .i64 r.aq,.slice pe r.ai.length ce,.slice pd r.data.length cd,.slice pw r.there.length cw] 90)::Rtb q g c R S.ak::L) from eT.out.alloc _);have fu:=hid (ff.out.alloc (.cells #[.int .i64 r.aa,.int .i64 r.ab,.int .i64 r.am,.int .i64 r.aq,.slice pe r.ai.length ce,.slice pd r.data.length cd,.slice pw r.there.length cw] 90));go_upto_region 6 with fail
   clear eT ff c0 c1 c2 c3 c4 c5 c6 hq;generalize w0.alloc (.cells #[.int .i64 r.aa,.int .i64 r.ab,.int .i64 r.am,.int .i64 r.aq,.slice pe r.ai.length ce,.slice pd r.data.length cd,.slice pw r.there.length cw] 90)=w2 at *;generalize w0.heap.size=g5 at *;have x0:w2.cell? ⟨g5,0,none⟩=some (.int .i64 r.aa):=eZ.out.cells 0;have x1:w2.cell? ⟨g5,1,none⟩=some (.int .i64 r.ab):=eZ.out.cells 1;have x3:w2.cell? ⟨g5,3,none⟩=some (.int .i64 r.aq):=eZ.out.cells 3;have x6:w2.cell? ⟨g5,6,none⟩=some (.slice pw r.there.length cw):=eZ.out.cells 6;cases hf:fnd S.ac (j:Int) with
   | none =>
    rw[hf] at hu1 hu2;have Ho:=hid (by rw[hu1];dsimp only;omega:upTo S.ac fD (j+1)=ub);have EK:=hid (by rw[hu2];dsimp only;omega:upTo S.ac (fun _=>1) (j+1)=un);obtain⟨h1,h2⟩:=HS.out.gone j r HR.out hf;have hnb:(r.ab==0)=true:=by rw[h1];rfl
    have Mw:=hid h2;clear h1 h2 hf hu1 hu2;go_wp2_with fail
    refine(sx q _ S.ak (j:Int) w2 _ HT.out (show Has w2 (RTe q _ S.ak::_) from fy.1 (eZ.out.re 2 [1,0]))).mono ?_;rintro e w' ⟨rfl,rfl⟩;rw[Mw.out];try dsimp only
    as_aux_lemma=>exact za7
   | some x =>
    rw[hf] at hu1 hu2;have Ho:=hid (show upTo S.ac fD (j+1)=ub+fD x from hu1);have EK:=hid (show upTo S.ac (fun _=>1) (j+1)=un+1 from hu2);obtain⟨r',hr',sn⟩:=HS.out.aK hf;rw[HR.out] at hr';cases hr';have hsz:=(HG.out.ax hf).size;have PW:0≤r.aq:=by rw[sn.aq];omega
    have OG:r.aq≤1000:=by rw[sn.aq];omega
    have HX:=hid hf;have io:=hid sn;have xq:=hid (HS.out.alive _ _ hf);clear hf hu1 hu2 hsz sn;go_upto_region 6 with fail
    go_cut [34] (fun v wx=>v=.bool false∧w2=wx)
    case first =>
     by_cases hz:r.ab=0
     ·have hnb:(r.ab==0)=true:=by rw[hz];rfl
      have Mw:=hid (show Tb.holds S.ak (j:Int)=true from by
       have h0:x.ah=0:=by rw[←io.out.ab];exact hz
       rcases xq.out with h|h|h
       ·have:=((HG.out.ax HX.out).root h).2.2.1;omega
       ·exact absurd h0 h
       ·exact h)
      clear hz;go_wp2_with fail
      refine(sx q _ S.ak (j:Int) w2 _ HT.out (show Has w2 (RTe q _ S.ak::_) from fy.1 (eZ.out.re 2 [1,0]))).mono ?_;rintro e w' ⟨rfl,rfl⟩;rw[Mw.out];try dsimp only
      as_aux_lemma=>exact zbP
     ·have hnb:(r.ab==0)=false:=by simpa using hz
      clear hz
      as_aux_lemma=>exact zbP
    case rest =>
     obtain⟨rfl,rfl⟩:=hcut;have hk1:r.aa=1∨r.aa=2∨r.aa=3:=by rw[io.out.aa];exact(HG.out.ax HX.out).aa
     rcases hk1 with h1|h1|h1
     ·have hxk:x.aa=1:=by rw[←io.out.aa];exact h1
      obtain⟨ht,htl⟩:=io.out.there hxk;have zd:x.wr.length+(fk x.data.length-x.wr.length)≤162:=by have:=nh x.data.length;omega
      have Bg:=hid (by rw[ht];exact tw hxk _ zd:lT r.there=fD x);have hbl:=jB x (HG.out.ax HX.out).size.2.2.2.1 (by have:=(HG.out.ax HX.out).size;omega) (by have:=(HG.out.ax HX.out).size;omega);have Ad:=hid (by rw[ht,List.length_append,List.length_replicate];exact zd:r.there.length≤162);have jG:(r.aa==1)=true:=by rw[h1];rfl
      generalize fD x=bx at *;clear h1 hxk ht htl zd;go_wp2_with fail
      refine st (Cp (.slice pw r.there.length cw) r.there w2 _ Ad.out (fun w' h'=>ir.out w' _ h'.drop) eZ.out) (fu.out) fun w3 eW fH=>?_;try dsimp only
      rw[Bg.out];go_wp2_with fail
      exact⟨⟨j+1,w3,by trivial,by omega,by have:=gW.out;omega,by rw[Ho.out];try rfl,by rw[EK.out];try rfl,by go_num,hid eW.out.drop,fH⟩,by have:=gW.out;simp[intOf];omega⟩
     ·have jG:(r.aa==1)=false:=by rw[h1];rfl
      have jL:(r.aa==3)=false:=by rw[h1];rfl
      have Bg:=hid (by unfold fD;rw[if_pos (by rw[←io.out.aa];exact h1),io.out.aq]:fD x=(r.aq+3) / 4);rw[Bg.out] at Ho;clear h1
      as_aux_lemma=>exact za7
     ·have jG:(r.aa==1)=false:=by rw[h1];rfl
      have jL:(r.aa==3)=true:=by rw[h1];rfl
      have Bg:=hid (by have h9:x.aa=3:=(by rw[←io.out.aa];exact h1);unfold fD;rw[if_neg (show ¬ x.aa=2 by omega),if_pos h9]:fD x=1);rw[Bg.out] at Ho;clear h1
      as_aux_lemma=>exact za7
  ·obtain rfl:j=R.length:=by omega
   have hki:¬ (R.length:Int)<(R.length:Int):=by omega
   clear hlt hj hj1;rw[Nl.out.1,Nl.out.2];go_wp2_with fail
   go_ret2
   exact⟨rfl,fh.2 ⟨g,c,R,HS.out,eT.out⟩,ff.out⟩
end Go.Proofs.YtmgpgbfgemebbaaGreatDoor
