/- TEXTS of mine, merged. -/
import Derived.Test.YtmgpgbfgemebbaaGreatDoorM0
import Derived.Test.YtmgpgbfgemebbaaGreatDoorM25
import Derived.Test.YtmgpgbfgemebbaaGreatDoorM11
import Derived.Test.YtmgpgbfgemebbaaGreatDoorM12
import Derived.Test.YtmgpgbfgemebbaaGreatDoorM9
import Derived.Lib.SlBytesConst
import Derived.Test.YtmgpgbfgemebbaaGreatDoorM1
import Derived.Test.YtmgpgbfgemebbaaGreatDoorM4
import Derived.Test.YtmgpgbfgemebbaaGreatDoorM17
set_option linter.all false
set_option maxRecDepth 100000
set_option maxHeartbeats 16000000
namespace Go.Proofs.YtmgpgbfgemebbaaGreatDoor
open Go.RowKit Go.Own
section
variable (q:Nat) (mx:Int) (w:World) (L:List HP)
variable {d:List Int} {wr:List Bool} {T:List Tb.Slot} {fd:Int} {s:Tb.Slot} (hd:d.length≤100000) (hw:wr.length≤162)
include hd hw
variable (hT:LJ T) (hl:Tb.look T fd=some s)
include hT hl
variable (hf:fc s.af 32≠0)
include hf
variable (po:Option Addr) (co:Nat) {ds:List Int} (hds:ds.length≤10000)
include hds
def pwD (d:List Int)(o:Nat)(ds:List Int):List Int:=if ds = [] then d else wrD d o ds
end
structure D2 (S:Tre) (t:List (Str×Int)):Prop where
 aa:(S.at_ 1).aa=2
 above:(S.at_ 1).above=0
 ab:(S.at_ 1).ab=t
 kids:∀ nm c,fnd t nm=some c→(S.at_ c).aa=1
abbrev upS:Str := [46,46]
section
variable {S:Tre} {t:List (Str×Int)} (h:D2 S t)
include h
end
structure Rt (p nm:Str):Prop where
 name:kZ nm
 split:∃ j,fb p=(List.replicate j upS ++ [nm],0)∧fx p=(ii (List.replicate j upS),nm,0)∧fb (ii (List.replicate j upS))=(List.replicate j upS,0)
section
variable {S:Tre} {t:List (Str×Int)} (h:D2 S t) {p nm:Str}
include h
end
def trX (t:List (Str×Int))(most ah:Int)(d:List Int)(wr:List Bool)(T:List Tb.Slot):Tre:=⟨[(1,⟨2,[],[],t,most,1,0⟩),(2,⟨1,d,wr,[],0,ah,0⟩)],2,T⟩
abbrev sl0 (n:Int):Tb.Slot:=⟨2,n,35,true⟩
section
variable {nm nm' p p':Str} {d:List Int} {wr:List Bool}
end
section
variable (q:Nat) (mx:Int) (w:World) (L:List HP) (hM:MxL mx L)
include hM
theorem BP (hO:Has w (Trc q tre0::L)):zCl 16 #[.pointer (some ⟨q,0,none⟩),opW 9 0 0 0 0 [47,97] eS] w fun e w'=>e=.returned (fL (eQ 0) eS eS)∧Has w' (Trc q treE1::L)∧Keep w w':=by
 have h:=vO q tre0 0 0 0 0 pA [] eS w L rkA mx (kK GL).1 (Dm LW rv) (y3 F7 GL) hM (by decide) hO;rw[B6] at h;exact h
theorem Eh (hO:Has w (Trc q treE1::L)):zCl 16 #[.pointer (some ⟨q,0,none⟩),opW 1 0 0 0 33 [47,97,47,102] eS] w fun e w'=>e=.returned (fL (eQ 0) eS eS)∧Has w' (Trc q treE2::L)∧Keep w w':=by
 have h:=Ed q treE1 0 0 0 33 pAF [] eS w L rkA mx (kK FV).1 (Dm KA rv) (y3 I2 FV) hM (by decide) (by decide +kernel) hO;rw[Cf] at h;exact h
theorem Cy (hO:Has w (Trc q treE3::L)):zCl 16 #[.pointer (some ⟨q,0,none⟩),opW 16 0 0 0 0 [47,97,47,102] eS] w fun e w'=>e=.returned (fL ⟨0,3,1,1,[],[]⟩ eS eS)∧Has w' (Trc q treE3::L)∧Keep w w':=by
 have h:=ud q treE3 0 0 0 0 pAF [] eS w L mx (kK tK).1 hM (by decide) (fun n x hx=>⟨((kK tK).2 n x hx).1,by have:=((kK tK).2 n x hx).2.2;omega⟩) hO;rw[Cx] at h;exact h
theorem BZ (hO:Has w (Trc q treE3::L)):zCl 16 #[.pointer (some ⟨q,0,none⟩),opW 16 0 0 0 0 [47,98] eS] w fun e w'=>e=.returned (fL (eQ 5) eS eS)∧Has w' (Trc q treE3::L)∧Keep w w':=by
 have h:=ud q treE3 0 0 0 0 pB [] eS w L mx (kK tK).1 hM (by decide) (fun n x hx=>⟨((kK tK).2 n x hx).1,by have:=((kK tK).2 n x hx).2.2;omega⟩) hO;rw[Fp] at h;exact h
theorem Ay (hO:Has w (Trc q treE3::L)):zCl 20 #[.pointer (some ⟨q,0,none⟩),.string ⟨#[47,97]⟩] w fun e w'=>e=.returned (.int .i64 2)∧Has w' (Trc q treE3::L)∧Keep w w':=by
 have h:=vP q treE3 pA mx w L (kK tK).1 hM (by decide) hO;rw[Au] at h;exact h
end
theorem _root_.Go.Own.Has.eH {w:World}{L:List HP}(A:List HP)(h:Has w (A++L)):Has w L:=by
 induction A with
 | nil=>exact h
 | cons a A ih=>exact ih h.drop
theorem BX (q g:Nat)(w:World)(L:List HP)(hO:Has w (Trc q treE2::pt g (.cells #[.int .u8 120,.int .u8 121,.int .u8 122] 5 (3,4))::L)):zCl 16 #[.pointer (some ⟨q,0,none⟩),opW 4 0 0 0 0 [] (.slice (some ⟨g,0,none⟩) 3 3)] w fun e w'=>∃ p c,e=.returned (fL ⟨0,3,0,0,[],[]⟩ (.slice p 0 c) eS)∧Has w' (Trc q treE3::L)∧Keep w w':=by
 have h:=sA q treE2 0 0 0 0 [] [] (some ⟨g,0,none⟩) 3 [120,121,122] w (pt g (.cells #[.int .u8 120,.int .u8 121,.int .u8 122] 5 (3,4))::L) (D7 GN Km) (by decide) (by decide) (fun w' h'=>⟨rfl,by decide,some ⟨g,0,none⟩,3,rfl,by decide,fun _=>⟨g,0,rfl,fun j _=>by rw[Nat.zero_add];exact(h'.cells j).trans (by simp[bc])⟩⟩) hO;rw[A5] at h;refine Calls.mono (show zCl 16 #[.pointer (some ⟨q,0,none⟩),opW 4 0 0 0 0 [] (.slice (some ⟨g,0,none⟩) 3 3)] w _ from h) ?_;rintro e w' ⟨dv,rfl,h1,h2⟩;obtain⟨p,c,rfl,-⟩:=(Bytes.rd h1).form;exact⟨p,c,rfl,(h1.re 3 [1]),h2⟩
theorem EI (q:Nat)(w:World)(L:List HP)(hO:Has w (Trc q treE3::L)):zCl 24 #[.pointer (some ⟨q,0,none⟩)] w fun e w'=>e=.returned (.tuple #[.int .i64 3,.int .i64 3])∧Has w' (Trc q treE3::L)∧Keep w w':=by
 have h:=Id q treE3 w L uv (by decide) hO;rw[EG] at h;exact h
theorem Db (q:Nat)(w:World)(L:List HP)(hO:Has w (Trc q treE3::L)):zCl 28 #[.pointer (some ⟨q,0,none⟩)] w fun e w'=>∃ p c,e=.returned (.slice p 3 c)∧Has w' (Trc q treE3::L)∧Keep w w':=by
 refine(Ap vE q treE3 _ rkA w L rfl (fun n x hx=>((kK tK).2 n x hx).1) GG Lr (by rw[yC];decide) hO).mono ?_;rintro e w' ⟨v,os,rfl,hp,-,h1,h2⟩;have hl:os.length=3:=by
  have h3:=hp.length_eq;rw[List.length_map,List.length_map,yC] at h3;exact h3
 obtain⟨p,c,rfl,-⟩:=(Has.rd (fZ.1 h1)).form;exact⟨p,c,by rw[hl],Has.eH _ (fZ.1 h1).drop,h2⟩
theorem zQ9 (mx:Int)(w:World)(L:List HP)(hM:MxL mx L)(hO:Has w L) :
  zCl 12 #[] w fun e w'=>e=.returned (.bool true)∧Has w' L∧Keep w w':=by
 have HO:=hid hO;have HM:=hid hM;clear hO hM;have kc:=fun(w:World)(C:Array Value)(n c:Nat)=>Lib.run_convert_bytes_const (P:=Tryz.prog) w 31 5 C n c Tryz.underlying31 Tryz.underlying5;go_enter Tryz.func12,Tryz.ntmps12
 go_wp2_with fail
 refine(F8 w L HO.out).mono ?_;rintro e w1 ⟨q,rfl,iq,hK1⟩;have eT:=hid iq;have ff:=hid ((Keep.refl w).trans hK1);clear iq hK1;try dsimp only
 go_wp2_with fail
 refine st (BP q mx w1 _ HM.out eT.out) (ff.out) fun w2 eZ fu=>?_;try dsimp only
 unfold fL ji;try unfold eQ
 go_upto_region 5 with fail
 have HP2:=hid (eZ.out.alloc (.cells #[.int .i64 0,.int .i64 0,.int .i64 0,.int .i64 0,.slice none 0 0,.slice none 0 0] 38)).p1;have fu:=hid (fu.out.alloc (.cells #[.int .i64 0,.int .i64 0,.int .i64 0,.int .i64 0,.slice none 0 0,.slice none 0 0] 38));generalize w2.alloc (.cells #[.int .i64 0,.int .i64 0,.int .i64 0,.int .i64 0,.slice none 0 0,.slice none 0 0] 38)=v2 at *;generalize w2.heap.size=g2 at *;go_wp2_with fail
 refine st (Eh q mx v2 _ (HM.out.cons _) HP2.out) (fu.out) fun w3 eW fH=>?_;try dsimp only
 unfold fL ji;try unfold eQ
 go_upto_region 6 with fail
 have rh:=hid (eW.out.alloc (.cells #[.int .i64 0,.int .i64 0,.int .i64 0,.int .i64 0,.slice none 0 0,.slice none 0 0] 38)).p1;have fH:=hid (fH.out.alloc (.cells #[.int .i64 0,.int .i64 0,.int .i64 0,.int .i64 0,.slice none 0 0,.slice none 0 0] 38));generalize w3.alloc (.cells #[.int .i64 0,.int .i64 0,.int .i64 0,.int .i64 0,.slice none 0 0,.slice none 0 0] 38)=v3 at *;generalize w3.heap.size=g3 at *;have HB3:=hid (rh.out.alloc (.cells #[.int .u8 120,.int .u8 121,.int .u8 122] 5 (3,4))).p1;have O8:=hid (fH.out.alloc (.cells #[.int .u8 120,.int .u8 121,.int .u8 122] 5 (3,4)));go_wp2_with fail
 refine(BX q v3.heap.size _ _ HB3.out).mono ?_;rintro e w4 ⟨p4,c4,rfl,hO4,hK4⟩;have fg:=hid hO4;have fO:=hid ((O8.out).trans hK4);clear hO4 hK4;try dsimp only
 unfold fL ji;try unfold eQ
 go_upto_region 7 with fail
 have FD:=hid (fg.out.alloc (.cells #[.int .i64 0,.int .i64 3,.int .i64 0,.int .i64 0,.slice p4 0 c4,.slice none 0 0] 38)).p1;have fO:=hid (fO.out.alloc (.cells #[.int .i64 0,.int .i64 3,.int .i64 0,.int .i64 0,.slice p4 0 c4,.slice none 0 0] 38));generalize w4.alloc (.cells #[.int .i64 0,.int .i64 3,.int .i64 0,.int .i64 0,.slice p4 0 c4,.slice none 0 0] 38)=v4 at *;generalize w4.heap.size=g4 at *;go_wp2_with fail
 refine st (Cy q mx v4 _ (((HM.out.cons _).cons _).cons _) FD.out) (fO.out) fun w5 fi ge=>?_;try dsimp only
 unfold fL ji;try unfold eQ
 go_upto_region 8 with fail
 have xX:=hid (fi.out.alloc (.cells #[.int .i64 0,.int .i64 3,.int .i64 1,.int .i64 1,.slice none 0 0,.slice none 0 0] 38)).p1;have ge:=hid (ge.out.alloc (.cells #[.int .i64 0,.int .i64 3,.int .i64 1,.int .i64 1,.slice none 0 0,.slice none 0 0] 38));generalize w5.alloc (.cells #[.int .i64 0,.int .i64 3,.int .i64 1,.int .i64 1,.slice none 0 0,.slice none 0 0] 38)=v5 at *;generalize w5.heap.size=g5 at *;go_wp2_with fail
 refine st (BZ q mx v5 _ ((((HM.out.cons _).cons _).cons _).cons _) xX.out) (ge.out) fun w6 fq gu=>?_;try dsimp only
 unfold fL ji;try unfold eQ
 go_upto_region 9 with fail
 have OQ:=hid (fq.out.alloc (.cells #[.int .i64 5,.int .i64 0,.int .i64 0,.int .i64 0,.slice none 0 0,.slice none 0 0] 38)).p1;have gu:=hid (gu.out.alloc (.cells #[.int .i64 5,.int .i64 0,.int .i64 0,.int .i64 0,.slice none 0 0,.slice none 0 0] 38));generalize w6.alloc (.cells #[.int .i64 5,.int .i64 0,.int .i64 0,.int .i64 0,.slice none 0 0,.slice none 0 0] 38)=v6 at *;generalize w6.heap.size=g6 at *;go_wp2_with fail
 refine st (EI q v6 _ OQ.out) (gu.out) fun w7 fP gZ=>?_;try dsimp only
 have HS:=hid (fP.out.re 6 [1,2,3,4,5,0]);have c6:w7.cell? ⟨g6,0,none⟩=some (.int .i64 5):=HS.out.cells 0;have c50:w7.cell? ⟨g5,0,none⟩=some (.int .i64 0):=HS.out.p1.cells 0;have c51:w7.cell? ⟨g5,1,none⟩=some (.int .i64 3):=HS.out.p1.cells 1;have c52:w7.cell? ⟨g5,2,none⟩=some (.int .i64 1):=HS.out.p1.cells 2;have c53:w7.cell? ⟨g5,3,none⟩=some (.int .i64 1):=HS.out.p1.cells 3;have c4:w7.cell? ⟨g4,1,none⟩=some (.int .i64 3):=HS.out.p2.cells 1;have c3:w7.cell? ⟨g3,0,none⟩=some (.int .i64 0):=HS.out.p3.cells 0;have c2:w7.cell? ⟨g2,0,none⟩=some (.int .i64 0):=HS.out.p4.cells 0;go_wp2_with fail
 refine(Db q w7 _ fP.out).mono ?_;rintro e w8 ⟨p8,c8,rfl,o0,hK8⟩;have fI:=hid o0;have iI:=hid ((gZ.out).trans hK8);clear o0 hK8;try dsimp only
 go_wp2_with fail
 refine st (Ay q mx w8 _ (((((HM.out.cons _).cons _).cons _).cons _).cons _) fI.out) (iI.out) fun w9 fJ gQ=>?_;try dsimp only
 go_wp2_with fail
 go_ret
 exact⟨rfl,fJ.out.drop.drop.drop.drop.drop.drop,gQ.out⟩
theorem DE (a b:Value)(xs ys:List Int)(w:World)(h:xs=ys)(ha:Rd w a 1 xs.length (bc xs))(hb:Rd w b 1 ys.length (bc ys)) :
  zCl 62 #[a,b] w fun e w'=>e=.returned (.bool true)∧∃ n,w'=w.drewN n:=by
 refine(qo a b xs ys w ha hb).mono ?_;rintro e w' ⟨rfl,h2⟩;exact⟨by simp[h],h2⟩
theorem uM {W w:World}{L:List HP}{v:Value}{size n:Nat}{xs:List Value}(hr:Rd W v size n xs)(h:Has w (old W::L)):Rd w v size n xs:=hr.bf h.be
theorem CG {W:World}{mx:Int}(h:W.cell? ⟨0,0,none⟩=some (.int .i64 mx)):MxL mx [old W]:=fun w' h'=>(World.cell?_of_block (h'.be 0 (World.block_lt_of_cell? W _ h))).trans h
theorem NV (b:List Int)(K s:Nat)(hK:K≤b.length):b.take K++(b.drop K).take s=b.take (K+((b.drop K).take s).length):=by
 rw[List.length_take,List.length_drop];have h:=List.take_append_drop K (b.take (K+min s (b.length-K)));rw[List.take_take,List.drop_take] at h;rw[←h,show min K (K+min s (b.length-K))=K by omega,show K+min s (b.length-K)-K=min s (b.length-K) by omega];congr 1;apply List.ext_getElem?;intro i;rw[List.getElem?_take,List.getElem?_take];by_cases h1:i<s
 ·by_cases h2:i<min s (b.length-K)
  ·rw[if_pos h1,if_pos h2]
  ·rw[if_pos h1,if_neg h2,List.getElem?_eq_none (by rw[List.length_drop];omega)]
 ·rw[if_neg h1,if_neg (by omega)]
section
variable (q:Nat) (w:World) (L:List HP) {b:List Int} {wr:List Bool} (hd:b.length≤10000) (hw:wr.length≤162) (K:Nat) (hK:K≤b.length)
include hd hw hK
end
abbrev opY (k fd n off fl:Int)(P Q:ByteArray)(dv:Value):Value := .agg #[.int .i64 k,.int .i64 fd,.int .i64 n,.int .i64 off,.int .i64 fl,.string P,.string Q,dv]
def Gdx (S:Tre)(k:Nat):Prop:=∃ rk,Gd S rk k
theorem Mn:Gdx tre0 0:=⟨_,gd0⟩
theorem Gdx.aD {S:Tre}{k:Nat}(h:Gdx S k)(o:Opm)(ds:List Int)(hp:o.ag.length≤100000):Gdx (S.aD o ds).2 (k+1):=by
 obtain⟨rk,h⟩:=h;exact h.aD o ds hp
theorem yp {p:Str}{P:ByteArray}(h:sB p=P):sV p=.string P:=congrArg Value.string h
abbrev sY (a:Ans)(p:Option Addr)(c:Nat)(p':Option Addr)(c':Nat):Value := .agg #[.int .i64 a.code,.int .i64 a.n,.int .i64 a.aa,.int .i64 a.ah,.slice p a.data.length c,.slice p' a.ab.length c']
section
variable {S:Tre} {k:Nat} (q:Nat) (mx:Int) (w:World) (L:List HP)
theorem Ef (h:Gdx S k)(hk:k<100000)(hM:MxL mx L)(o:Opm){P Q:ByteArray}(hP:sB o.ag=P)(hQ:sB o.aj=Q)(ho:o.off≤9223372036854775807)(hp:o.ag.length≤100000)(hq:o.aj.length≤100000)
  (po:Option Addr) (co:Nat) (ds:List Int) (hds:ds.length≤100000) (hrd:∀ w',Has w' L→Rd w' (.slice po ds.length co) 1 ds.length (bc ds)) (a:Ans) (S':Tre) (he:S.aD o ds=(a,S')) (hO:Has w (Trc q S::L)) :
  zCl 16 #[.pointer (some ⟨q,0,none⟩),opY o.aa o.fd o.n o.off o.af P Q (.slice po ds.length co)] w fun e w'=>∃ p c p' c',e=.returned (sY a p c p' c')∧Gdx S' (k+1)∧Has w' (Bytes (.slice p a.data.length c) a.data::Strs (.slice p' a.ab.length c') a.ab::Trc q S'::L)∧Keep w w':=by
 have hg:=h.aD o ds hp;obtain⟨rk,h⟩:=h;have h1:=GK q o po co ds mx w L h hk hM hp hq ho hds hrd hO;rw[he] at h1 hg;have e:opV o (.slice po ds.length co)=opY o.aa o.fd o.n o.off o.af P Q (.slice po ds.length co):=by
  unfold opV opC;rw[yp hP,yp hQ]
 rw[e] at h1;refine h1.mono ?_;rintro e w' ⟨dv,nv,rfl,h2,h3⟩;obtain⟨p,c,rfl,-⟩:=(Bytes.rd h2).form;obtain⟨p',c',rfl,-⟩:=(Strs.rd h2.p1).form;exact⟨p,c,p',c',rfl,hg,h2,h3⟩
theorem xy (h:Gdx S k)(hk:k<1000)(hfew:(iL S).length≤1000000)(hO:Has w (Trc q S::L)) :
  zCl 28 #[.pointer (some ⟨q,0,none⟩)] w fun e w'=>∃ p c os,e=.returned (.slice p (iL S).length c)∧os.length=(iL S).length∧(os.map Sn.key).Perm ((seen S.ac 22 1 []).map jQ)∧Srt os∧Has w' (Sns (.slice p os.length c) os::Trc q S::L)∧Keep w w':=by
 obtain⟨rk,h⟩:=h;obtain⟨x1,hx1⟩:=h.x.has1;refine(Ap vE q S x1 rk w L hx1 (fun n x hx=>(h.ax hx).size.1) (fun n x hx=>by have:=h.x.rk20 n;omega) (fun n x hx e he=>h.bR n x hx e he) (by rw[jw,List.length_map];exact hfew) hO).mono ?_;rintro e w' ⟨v,os,rfl,hp,hs,h1,h2⟩;have hl:=h.cO hp;obtain⟨p,c,rfl,-⟩:=(Has.rd (fZ.1 h1)).form;exact⟨p,c,os,by rw[hl],hl,hp,hs,h1,h2⟩
end
theorem Az (a b:Value)(xs:List Str)(w:World)(ha:Rd w a 1 xs.length (xs.map sV))(hb:Rd w b 1 xs.length (xs.map sV)) :
  zCl 63 #[a,b] w fun e w'=>e=.returned (.bool true)∧∃ n,w'=w.drewN n:=by
 obtain⟨pa,ca,rfl,hca,hla,hra⟩:=ha.form;obtain⟨pb,cb,rfl,hcb,hlb,hrb⟩:=hb.form;have CO:=hid hra;have IR:=hid hrb;clear hra hrb ha hb;have hl:((xs.length:Int) != (xs.length:Int))=false:=by simp
 go_enter Tryz.func63,Tryz.ntmps63
 go_wp2_with fail
 go_loopw [5] (fun i w'=>∃ k m:Nat,k≤xs.length∧i=.int .i64 k∧w'=w.drewN m) (fun i _=>xs.length-(intOf i).toNat)
 case atStart=>exact⟨0,0,by omega,rfl,rfl⟩
 case round =>
  obtain⟨k,m,hk,rfl,rfl⟩:=hrel;by_cases hlt:k<xs.length
  ·have hki:(k:Int)<(xs.length:Int):=by omega
   have hk0:(0:Int)≤(k:Int):=by omega
   obtain⟨ga,oa,rfl,ra⟩:=CO.out (by omega);obtain⟨gb,ob,rfl,rb⟩:=IR.out (by omega);have h1:w.cell? ⟨ga,oa+k,none⟩=some (sV xs[k]):=by rw[ra k (by omega),List.getElem?_map,List.getElem?_eq_getElem hlt];rfl
   have h2:w.cell? ⟨gb,ob+k,none⟩=some (sV xs[k]):=by rw[rb k (by omega),List.getElem?_map,List.getElem?_eq_getElem hlt];rfl
   clear ra rb;generalize xs[k]=x at *;have hx:(x != x)=false:=by simp
   go_upto_region 6 with fail
   refine eP (fun w'=>w'.cell? ⟨ga,oa+k,none⟩=some (sV x)∧w'.cell? ⟨gb,ob+k,none⟩=some (sV x)) (by kernel_rfl) (by kernel_rfl) ⟨h1,h2⟩ ?_;repeat (first|refine wr2 ?_|refine wk ?_)
   refine eR ?_;go_wp2_with fail
   go_roundw
   case rel=>exact⟨k+1,m+1,by omega,by go_num,rfl⟩
   case measure=>simp[intOf];omega
  ·obtain rfl:k=xs.length:=by omega
   have hki:¬ (xs.length:Int)<(xs.length:Int):=by omega
   go_wp2_with fail
   go_ret
   exact⟨rfl,m,rfl⟩
def E9 (w:World)(v:Value)(os:List Sn):Prop:=Rd w v 5 os.length (fM os)∧∀ s∈os,Rd w s.dv 1 s.data.length (bc s.data)
theorem lX {w:World}{L:List HP}{v:Value}{os:List Sn}(h:Has w (Sns v os::L)):E9 w v os:=by
 have h1:=fZ.1 h;refine⟨Has.rd h1,fun s hs=>?_⟩;obtain⟨A,B,rfl⟩:=List.append_of_mem hs;have h2:Has w (Bytes s.dv s.data::(row v 57 5 (A++s::B).length (fM (A++s::B))::((A.map fun s=>Bytes s.dv s.data)++(B.map (fun s=>Bytes s.dv s.data)++L)))):=by
  refine h1.perm ?_;rw[List.map_append,List.map_cons,List.append_assoc,List.cons_append];exact(List.Perm.cons _ List.perm_middle).trans (List.Perm.swap _ _ _)
 exact Bytes.rd h2
theorem qQ (os:List Sn):(fM os).length=os.length*5:=by
 induction os with
 | nil=>rfl
 | cons s os ih=>rw[j4] at ih ⊢;simp only[List.flatMap_cons,List.length_append,ih,List.length_cons];simp[Sn.enc];omega
theorem mI (os:List Sn)(k:Nat)(hk:k<os.length)(j:Nat)(hj:j<5):(fM os)[k*5+j]? = (os[k].enc)[j]? := by
 rw[j4];induction os generalizing k with
 | nil=>simp at hk
 | cons x R ih =>
  cases k with
  | zero =>
   simp only[List.flatMap_cons,List.getElem_cons_zero,Nat.zero_mul,Nat.zero_add];rw[List.getElem?_append_left (by simp[Sn.enc];omega)]
  | succ k =>
   simp only[List.flatMap_cons,List.getElem_cons_succ];have hl:x.enc.length=5:=rfl;rw[List.getElem?_append_right (by omega),hl,show (k+1)*5+j-5=k*5+j by omega];exact ih k (by simpa using hk)
theorem wI (a:Ans)(p1:Option Addr)(c1:Nat)(n1:Option Addr)(m1:Nat)(p2:Option Addr)(c2:Nat)(n2:Option Addr)(m2:Nat)(w:World)(L:List HP)(hO:Has w L)(hd1:Rd w (.slice p1 a.data.length c1) 1 a.data.length (bc a.data))(hd2:Rd w (.slice p2 a.data.length c2) 1 a.data.length (bc a.data))(hn1:Rd w (.slice n1 a.ab.length m1) 1 a.ab.length (a.ab.map sV))(hn2:Rd w (.slice n2 a.ab.length m2) 1 a.ab.length (a.ab.map sV)) :
  zCl 17 #[sY a p1 c1 n1 m1,sY a p2 c2 n2 m2] w fun e w'=>e=.returned (.bool true)∧Has w' L∧Keep w w':=by
 have HD1:=hid hd1;have HD2:=hid hd2;have J2:=hid hn1;have mZ:=hid hn2;clear hd1 hd2 hn1 hn2;obtain⟨code,n,aa,ah,data,ab⟩:=a;dsimp only at HD1 HD2 J2 mZ;unfold sY;dsimp only;have hx0:(code==code)=true:=by simp
 have hx1:(n==n)=true:=by simp
 have hx2:(aa==aa)=true:=by simp
 have hx3:(ah==ah)=true:=by simp
 have h1:=(hO.alloc (.cells #[.int .i64 code,.int .i64 n,.int .i64 aa,.int .i64 ah,.slice p1 data.length c1,.slice n1 ab.length m1] 38)).alloc (.cells #[.int .i64 code,.int .i64 n,.int .i64 aa,.int .i64 ah,.slice p2 data.length c2,.slice n2 ab.length m2] 38);have e1:(w.alloc (.cells #[.int .i64 code,.int .i64 n,.int .i64 aa,.int .i64 ah,.slice p1 data.length c1,.slice n1 ab.length m1] 38)).heap.size=w.heap.size+1:=by show (Array.push _ _).size=_;rw[Array.size_push]
 rw[e1] at h1;have HO:=hid h1;have HK:=hid (((Keep.refl w).alloc (.cells #[.int .i64 code,.int .i64 n,.int .i64 aa,.int .i64 ah,.slice p1 data.length c1,.slice n1 ab.length m1] 38)).alloc (.cells #[.int .i64 code,.int .i64 n,.int .i64 aa,.int .i64 ah,.slice p2 data.length c2,.slice n2 ab.length m2] 38));have GD1:=hid ((HD1.out.alloc (.cells #[.int .i64 code,.int .i64 n,.int .i64 aa,.int .i64 ah,.slice p1 data.length c1,.slice n1 ab.length m1] 38)).alloc (.cells #[.int .i64 code,.int .i64 n,.int .i64 aa,.int .i64 ah,.slice p2 data.length c2,.slice n2 ab.length m2] 38));have GD2:=hid ((HD2.out.alloc (.cells #[.int .i64 code,.int .i64 n,.int .i64 aa,.int .i64 ah,.slice p1 data.length c1,.slice n1 ab.length m1] 38)).alloc (.cells #[.int .i64 code,.int .i64 n,.int .i64 aa,.int .i64 ah,.slice p2 data.length c2,.slice n2 ab.length m2] 38));have GN1:=hid ((J2.out.alloc (.cells #[.int .i64 code,.int .i64 n,.int .i64 aa,.int .i64 ah,.slice p1 data.length c1,.slice n1 ab.length m1] 38)).alloc (.cells #[.int .i64 code,.int .i64 n,.int .i64 aa,.int .i64 ah,.slice p2 data.length c2,.slice n2 ab.length m2] 38));have GN2:=hid ((mZ.out.alloc (.cells #[.int .i64 code,.int .i64 n,.int .i64 aa,.int .i64 ah,.slice p1 data.length c1,.slice n1 ab.length m1] 38)).alloc (.cells #[.int .i64 code,.int .i64 n,.int .i64 aa,.int .i64 ah,.slice p2 data.length c2,.slice n2 ab.length m2] 38));clear hO h1 e1 HD1 HD2 J2 mZ;go_enter Tryz.func17,Tryz.ntmps17
 go_upto_region 1 with fail
 generalize (w.alloc (.cells #[.int .i64 code,.int .i64 n,.int .i64 aa,.int .i64 ah,.slice p1 data.length c1,.slice n1 ab.length m1] 38)).alloc (.cells #[.int .i64 code,.int .i64 n,.int .i64 aa,.int .i64 ah,.slice p2 data.length c2,.slice n2 ab.length m2] 38)=y at *;generalize w.heap.size=g1 at *;generalize g1+1=g2 at *;have a0:y.cell? ⟨g1,0,none⟩=some (.int .i64 code):=HO.out.p1.cells 0;have a1:y.cell? ⟨g1,1,none⟩=some (.int .i64 n):=HO.out.p1.cells 1;have a2:y.cell? ⟨g1,2,none⟩=some (.int .i64 aa):=HO.out.p1.cells 2;have a3:y.cell? ⟨g1,3,none⟩=some (.int .i64 ah):=HO.out.p1.cells 3;have a4:y.cell? ⟨g1,4,none⟩=some (.slice p1 data.length c1):=HO.out.p1.cells 4;have b0:y.cell? ⟨g2,0,none⟩=some (.int .i64 code):=HO.out.cells 0;have b1:y.cell? ⟨g2,1,none⟩=some (.int .i64 n):=HO.out.cells 1;have b2:y.cell? ⟨g2,2,none⟩=some (.int .i64 aa):=HO.out.cells 2;have b3:y.cell? ⟨g2,3,none⟩=some (.int .i64 ah):=HO.out.cells 3;have b4:y.cell? ⟨g2,4,none⟩=some (.slice p2 data.length c2):=HO.out.cells 4;go_wp2_with fail
 refine(DE _ _ data data y rfl GD1.out GD2.out).mono ?_;rintro e w' ⟨rfl,nq5,rfl⟩;have fi:=hid ((HO.out).drewN nq5);have ge:=hid ((HK.out).drewN nq5);try dsimp only
 have GN3:=hid (GN1.out.drewN nq5);have GN4:=hid (GN2.out.drewN nq5);clear GN1 GN2 GD1 GD2 HO HK a0 a1 a2 a3 a4 b0 b1 b2 b3 b4;generalize y.drewN nq5=y5 at *;have a5:y5.cell? ⟨g1,5,none⟩=some (.slice n1 ab.length m1):=fi.out.p1.cells 5;have b5:y5.cell? ⟨g2,5,none⟩=some (.slice n2 ab.length m2):=fi.out.cells 5;go_wp2_with fail
 refine(Az _ _ ab y5 GN3.out GN4.out).mono ?_;rintro e w' ⟨rfl,nq6,rfl⟩;have fq:=hid ((fi.out).drewN nq6);have gu:=hid ((ge.out).drewN nq6);try dsimp only
 generalize y5.drewN nq6=y6 at *;go_wp2_with fail
 go_ret
 exact⟨rfl,fq.out.drop.drop,gu.out⟩
theorem AE {os os':List Sn}(hk:os.map Sn.key=os'.map Sn.key)(k:Nat)(h:k<os.length)(h':k<os'.length):os[k].key=os'[k].key:=by
 have h1:=congrArg (fun l=>l[k]?) hk;simp only[List.getElem?_map,List.getElem?_eq_getElem h,List.getElem?_eq_getElem h',Option.map_some] at h1;exact Option.some.inj h1
theorem pu (v1 v2:Value)(os os':List Sn)(w:World)(h1:E9 w v1 os)(h2:E9 w v2 os')(hk:os.map Sn.key=os'.map Sn.key) :
  zCl 30 #[v1,v2] w fun e w'=>e=.returned (.bool true)∧∃ n,w'=w.drewN n:=by
 obtain⟨pa,ca,rfl,hca,hla,hra⟩:=h1.1.form;obtain⟨pb,cb,rfl,hcb,hlb,hrb⟩:=h2.1.form;have CO:=hid hra;have IR:=hid hrb;have HD1:=hid h1.2;have HD2:=hid h2.2;have Lo:=hid hk;have hlen:os'.length=os.length:=by
  have:=congrArg List.length hk;simpa using this.symm
 clear hra hrb h1 h2 hk;have HL:=hid hlen;have hl:((os.length:Int) != (os'.length:Int))=false:=by simp[hlen]
 clear hlen;go_enter Tryz.func30,Tryz.ntmps30
 go_wp2_with fail
 go_loopw [5] (fun i w'=>∃ k m:Nat,k≤os.length∧i=.int .i64 k∧w'=w.drewN m) (fun i _=>os.length-(intOf i).toNat)
 case atStart=>exact⟨0,0,by omega,rfl,rfl⟩
 case round =>
  obtain⟨k,m,hk,rfl,rfl⟩:=hrel;by_cases hlt:k<os.length
  ·have hlt':k<os'.length:=by have:=HL.out;omega
   have hki:(k:Int)<(os.length:Int):=by omega
   have Od:(k:Int)<(os'.length:Int):=by omega
   have hk0:(0:Int)≤(k:Int):=by omega
   obtain⟨ga,oa,rfl,ra⟩:=CO.out (by omega);obtain⟨gb,ob,rfl,rb⟩:=IR.out (by omega);have hkey:=AE Lo.out k hlt hlt';have FN:=HD1.out os[k] (List.getElem_mem hlt);have xC:=HD2.out os'[k] (List.getElem_mem hlt');obtain⟨ea,ta,hsa,-⟩:=FN.form;obtain⟨eb,tb,hsb,-⟩:=xC.form;have Ra:∀ j,j<5→w.cell? ⟨ga,oa+(k*5+j),none⟩=(os[k].enc)[j]? := fun j hj=>(ra (k*5+j) (by omega)).trans (mI os k hlt j hj);have Rb:∀ j,j<5→w.cell? ⟨gb,ob+(k*5+j),none⟩=(os'[k].enc)[j]? := fun j hj=>(rb (k*5+j) (by omega)).trans (mI os' k hlt' j hj);clear ra rb;generalize os[k]=x at *;generalize os'[k]=x' at *;obtain⟨ag,num,aa,ah,data,dv⟩:=x;obtain⟨path',num',kind',links',data',dv'⟩:=x';simp only[Sn.key,Prod.mk.injEq] at hkey;obtain⟨rfl,rfl,rfl,rfl,rfl⟩:=hkey;dsimp only at FN xC hsa hsb;subst hsa hsb;have a0:w.cell? ⟨ga,oa+k*5,none⟩=some (sV ag):=Ra 0 (by omega);have a1:w.cell? ⟨ga,oa+k*5+1,none⟩=some (.int .i64 num):=by rw[Nat.add_assoc];exact Ra 1 (by omega)
   have a2:w.cell? ⟨ga,oa+k*5+2,none⟩=some (.int .i64 aa):=by rw[Nat.add_assoc];exact Ra 2 (by omega)
   have a3:w.cell? ⟨ga,oa+k*5+3,none⟩=some (.int .i64 ah):=by rw[Nat.add_assoc];exact Ra 3 (by omega)
   have a4:w.cell? ⟨ga,oa+k*5+4,none⟩=some (.slice ea data.length ta):=by rw[Nat.add_assoc];exact Ra 4 (by omega)
   have b0:w.cell? ⟨gb,ob+k*5,none⟩=some (sV ag):=Rb 0 (by omega);have b1:w.cell? ⟨gb,ob+k*5+1,none⟩=some (.int .i64 num):=by rw[Nat.add_assoc];exact Rb 1 (by omega)
   have b2:w.cell? ⟨gb,ob+k*5+2,none⟩=some (.int .i64 aa):=by rw[Nat.add_assoc];exact Rb 2 (by omega)
   have b3:w.cell? ⟨gb,ob+k*5+3,none⟩=some (.int .i64 ah):=by rw[Nat.add_assoc];exact Rb 3 (by omega)
   have b4:w.cell? ⟨gb,ob+k*5+4,none⟩=some (.slice eb data.length tb):=by rw[Nat.add_assoc];exact Rb 4 (by omega)
   have Pj:=hid FN;have Io:=hid xC;clear Ra Rb FN xC;have hx0:(ag != ag)=false:=by simp
   have hx1:(num != num)=false:=by simp
   have hx2:(aa != aa)=false:=by simp
   have hx3:(ah != ah)=false:=by simp
   go_upto_region 6 with fail
   refine eP (fun w'=>w'.cell? ⟨ga,oa+k*5,none⟩=some (sV ag)∧w'.cell? ⟨ga,oa+k*5+1,none⟩=some (.int .i64 num)∧w'.cell? ⟨ga,oa+k*5+2,none⟩=some (.int .i64 aa)∧w'.cell? ⟨ga,oa+k*5+3,none⟩=some (.int .i64 ah)∧w'.cell? ⟨ga,oa+k*5+4,none⟩=some (.slice ea data.length ta)∧w'.cell? ⟨gb,ob+k*5,none⟩=some (sV ag)∧w'.cell? ⟨gb,ob+k*5+1,none⟩=some (.int .i64 num)∧w'.cell? ⟨gb,ob+k*5+2,none⟩=some (.int .i64 aa)∧w'.cell? ⟨gb,ob+k*5+3,none⟩=some (.int .i64 ah)∧w'.cell? ⟨gb,ob+k*5+4,none⟩=some (.slice eb data.length tb)) (by kernel_rfl) (by kernel_rfl) ⟨a0,a1,a2,a3,a4,b0,b1,b2,b3,b4⟩ ?_;repeat (first|refine IY ?_|refine wk ?_)
   refine wa fun K hK=>?_;go_simp
   refine(DE _ _ data data _ rfl (Pj.out.drewN _) (Io.out.drewN _)).mono ?_;rintro e w' ⟨rfl,nq,rfl⟩;try dsimp only
   refine hK.out _ _ ⟨a0,a1,a2,a3,a4,b0,b1,b2,b3,b4⟩ ?_;clear hK K;try simp only[Act.put,zpu]
   repeat (first|refine IY ?_|refine wk ?_)
   refine eR ?_;go_wp2_with fail
   go_roundw
   case rel=>exact⟨k+1,_,by omega,by go_num,rfl⟩
   case measure=>simp[intOf];omega
  ·obtain rfl:k=os.length:=by omega
   have hki:¬ (os.length:Int)<(os.length:Int):=by omega
   go_wp2_with fail
   go_ret
   exact⟨rfl,m,rfl⟩
theorem sW {w:World}{v:Value}{os:List Sn}(h:Rd w v 5 os.length (fM os)):∃ p cp,v=.slice p os.length cp∧os.length≤9223372036854775807∧(0<os.length→∃ a o,p=some ⟨a,o,none⟩∧∀ i (hi:i<os.length),w.cell? ⟨a,o+i*5,none⟩=some (sV os[i].ag)∧w.cell? ⟨a,o+i*5+1,none⟩=some (.int .i64 os[i].num)∧w.cell? ⟨a,o+i*5+2,none⟩=some (.int .i64 os[i].aa)∧w.cell? ⟨a,o+i*5+3,none⟩=some (.int .i64 os[i].ah)∧w.cell? ⟨a,o+i*5+4,none⟩=some (qk os[i].dv)):=by
 obtain⟨p,cp,rfl,-,h2,h3⟩:=h.form;refine⟨p,cp,rfl,h2,fun h0=>?_⟩;obtain⟨a,o,rfl,h4⟩:=h3 (by omega);refine⟨a,o,rfl,fun i hi=>?_⟩;have h5:=fun j hj=>mI os i hi j hj;refine⟨?_,?_,?_,?_,?_⟩
 ·rw[h4 _ (by omega)];exact h5 0 (by omega)
 ·rw[Nat.add_assoc,h4 _ (by omega)];exact h5 1 (by omega)
 ·rw[Nat.add_assoc,h4 _ (by omega)];exact h5 2 (by omega)
 ·rw[Nat.add_assoc,h4 _ (by omega)];exact h5 3 (by omega)
 ·rw[Nat.add_assoc,h4 _ (by omega)];exact h5 4 (by omega)
theorem ua (os:List Sn)(k:Nat)(hk:k≤os.length):(fM os).take (k*5)=fM (os.take k):=by
 have h:=iZ (os.take k) (os.drop k);rw[List.take_append_drop] at h;rw[h,List.take_left'];rw[qQ,List.length_take,Nat.min_eq_left hk]
theorem uw (os:List Sn)(k:Nat)(hk:k≤os.length):(fM os).drop (k*5)=fM (os.drop k):=by
 have h:=iZ (os.take k) (os.drop k);rw[List.take_append_drop] at h;rw[h,List.drop_left'];rw[qQ,List.length_take,Nat.min_eq_left hk]
theorem iX (os:List Sn):∀ u∈fM os,u.oneCell'=true:=by
 induction os with
 | nil=>intro u hu;cases hu
 | cons s r ih =>
  intro u hu;rw[fM,List.mem_append] at hu;rcases hu with hu|hu
  ·simp only[Sn.enc,List.mem_cons,List.not_mem_nil,or_false] at hu;rcases hu with rfl|rfl|rfl|rfl|rfl
   ·rfl
   ·rfl
   ·rfl
   ·rfl
   ·unfold qk;split <;> rfl
  ·exact ih u hu
end Go.Proofs.YtmgpgbfgemebbaaGreatDoor
namespace Go.Own
open Go.RowKit
section
variable {P:Program} {ops:Array Oper} {S:World→Prop} {rd:Nat→Bool} {qc:Qc}
def rE (ops:Array Oper)(rd:Nat→Bool)(j s:Nat):Bool :=
 let A:=ahead ops
 Region.noSelect ops && !rd j&&(match ops[j]? with|some oj=>oj.after.isEmpty|none=>false) &&
 ((List.range ops.size).all fun i=>match ops[i]?,ops[j]? with
  | some oi,some oj=>(oi.after.all fun e => !Region.binds .any e||decide (e.on<i)) &&
   (decide (i=j)||(decide (s≤i)&&(A.getD i []).contains j)||(oi.apart ops oj&&oj.apart ops oi&&(decide (i<s)||rd i))) &&
   (List.range i).all fun k=>decide (i=j)||decide (k=j)||(A.getD i []).contains k||match ops[k]? with
    | none=>true
    | some ok=>ok.apart ops oi&&(rd k||rd i)
  | _,_=>false)
structure OKF (ops:Array Oper) (rd:Nat→Bool) (j s:Nat):Prop where
 sel:Region.noSelect ops=true
 rdj:rd j=false
 oj:∃ oj,ops[j]? = some oj∧oj.after=#[]
 edges:∀ {i:Nat} {oi:Oper},ops[i]? = some oi→∀ e∈oi.after,Region.binds .any e=true→e.on<i
 float:∀ {i:Nat} {oi oj:Oper},ops[i]? = some oi→ops[j]? = some oj→i≠j→¬ Anc ops i j→oi.apart ops oj=true∧oj.apart ops oi=true∧(i<s∨rd i=true)
 low:∀ {i:Nat} {oi oj:Oper},ops[i]? = some oi→ops[j]? = some oj→i≠j→i<s→oi.apart ops oj=true∧oj.apart ops oi=true
 pair:∀ {i k:Nat} {oi ok:Oper},ops[i]? = some oi→ops[k]? = some ok→k<i→¬ Anc ops i k→i≠j→k≠j→ok.apart ops oi=true∧(rd k=true∨rd i=true)
theorem okF {j s:Nat}(h:rE ops rd j s=true):OKF ops rd j s:=by
 unfold rE at h;simp only[Bool.and_eq_true,List.all_eq_true,List.mem_range] at h;obtain⟨⟨⟨h1,h2⟩,h3⟩,h4⟩:=h;obtain⟨oj0,Dd,LX⟩:∃ oj,ops[j]? = some oj∧oj.after=#[]:=by
  cases hj:ops[j]? with
  | none=>rw[hj] at h3;simp at h3
  | some oj=>rw[hj] at h3;exact⟨oj,rfl,by simpa using h3⟩
 have row:∀ {i:Nat} {oi:Oper},ops[i]? = some oi→(∀ e∈oi.after,Region.binds .any e=true→e.on<i)∧((i=j∨(s≤i∧Anc ops i j))∨((oi.apart ops oj0=true∧oj0.apart ops oi=true)∧(i<s∨rd i=true)))∧(∀ k,k<i→((i=j∨k=j)∨Anc ops i k)∨(∀ ok,ops[k]? = some ok→ok.apart ops oi=true∧(rd k=true∨rd i=true))):=by
  intro i oi hi;have hlt:i<ops.size:=(Array.getElem?_eq_some_iff.1 hi).1;have h5:=h4 i hlt;simp only[hi,Dd,Bool.and_eq_true,List.all_eq_true,List.mem_range] at h5;obtain⟨⟨h6,h7⟩,h8⟩:=h5;refine⟨fun e he hb=>?_,?_,fun k hk=>?_⟩
  ·have:=Array.all_eq_true_iff_forall_mem.1 h6 e he;simpa[hb] using this
  ·simp only[Bool.or_eq_true,Bool.and_eq_true,decide_eq_true_eq] at h7;rcases h7 with (h7|h7)|h7
   ·exact .inl (.inl h7)
   ·exact .inl (.inr ⟨h7.1,jY ops i j (by simpa using h7.2)⟩)
   ·exact .inr h7
  ·have h9:=h8 k hk;simp only[Bool.or_eq_true,decide_eq_true_eq] at h9;rcases h9 with ((h9|h9)|h9)|h9
   ·exact .inl (.inl (.inl h9))
   ·exact .inl (.inl (.inr h9))
   ·exact .inl (.inr (jY ops i k (by simpa using h9)))
   ·refine .inr fun ok hok=>?_;rw[hok] at h9;simpa only[Bool.and_eq_true,Bool.or_eq_true] using h9
 refine⟨h1,by simpa using h2,⟨oj0,Dd,LX⟩,fun hi=>(row hi).1,?_,?_,?_⟩
 ·intro i oi oj hi hj hij hn;rw[Dd] at hj;cases hj;rcases(row hi).2.1 with (h|h)|h
  ·exact absurd h hij
  ·exact absurd h.2 hn
  ·exact⟨h.1.1,h.1.2,h.2⟩
 ·intro i oi oj hi hj hij hs;rw[Dd] at hj;cases hj;rcases(row hi).2.1 with (h|h)|h
  ·exact absurd h hij
  ·have:=h.1;omega
  ·exact h.1
 ·intro i k oi ok hi hk hki hn hij hkj;rcases(row hi).2.2 k hki with ((h|h)|h)|h
  ·exact absurd h hij
  ·exact absurd h hkj
  ·exact absurd h hn
  ·exact h ok hk
def wpF (P:Program)(qc:Qc)(ops:Array Oper)(S:World→Prop)(rd:Nat→Bool)(Q:Act→World→Prop)(j:Nat)(C:List Nat):List Nat→Act→World→Prop
 | [],a,w=>wpT P qc ops S rd Q (j::C) a w
 | i::rest,a,w=>(rd i=false→wpT P qc ops S rd Q (j::i::(rest++C)) a w)∧stT P qc ops S rd i (wpF P qc ops S rd Q j C rest) a w
variable {Q:Act→World→Prop} {j s:Nat} {oj:Oper}
theorem qt (hsel:Region.noSelect ops=true)(hj:ops[j]? = some oj)(C:List Nat):∀ (l:List Nat) (a:Act) (w:World),S w→(∀ i∈l,∃ oi,ops[i]? = some oi∧oi.apart ops oj=true)→wpF P qc ops S rd Q j C l a w→wpT P qc ops S rd Q (j::(l++C)) a w
 | [],a,w,_,_,h=>h
 | i::rest,a,w,hS,hl,h=>by
  by_cases hr:rd i=true
  ·obtain⟨oi,hi,hap⟩:=hl i List.mem_cons_self;have h1:stT P qc ops S rd i (stT P qc ops S rd j (wpT P qc ops S rd Q (rest++C))) a w:=gM hS (fun a w hS' h'=>by
    have:=qt hsel hj C rest a w hS' (fun i hi=>hl i (List.mem_cons_of_mem _ hi)) h'
    rwa [gL] at this) h.2
   have h2:=mF hi hj hap (.inl hr) (fun cs b=>Region.noSelect_spec hsel i oi cs b hi) (fun cs b=>Region.noSelect_spec hsel j oj cs b hj) hS h1;rw[gL];refine gM hS (fun a w _ h'=>?_) h2;rw[List.cons_append,gL];exact h'
  ·exact h.1 (by simpa using hr)
theorem s4 (hsel:Region.noSelect ops=true)(hj:ops[j]? = some oj)(C:List Nat){x:Nat}{ox:Oper}(hx:ops[x]? = some ox)(FI:oj.apart ops ox=true)(r2:List Nat):∀ (r1:List Nat) (a:Act) (w:World),S w→(∀ k∈r1,∃ ok,ops[k]? = some ok∧ok.apart ops ox=true∧(rd k=true∨rd x=true))→wpF P qc ops S rd Q j C (r1++x::r2) a w→stT P qc ops S rd x (wpF P qc ops S rd Q j C (r1++r2)) a w
 | [],a,w,_,_,h=>h.2
 | k::r1,a,w,hS,hl,h=>by
  obtain⟨ok,hk,hap,hrd⟩:=hl k List.mem_cons_self;have hl':∀ k∈r1,∃ ok,ops[k]? = some ok∧ok.apart ops ox=true∧(rd k=true∨rd x=true):=fun k hk=>hl k (List.mem_cons_of_mem _ hk);have h1:stT P qc ops S rd k (stT P qc ops S rd x (wpF P qc ops S rd Q j C (r1++r2))) a w:=gM hS (fun a w hS' h'=>s4 hsel hj C hx FI r2 r1 a w hS' hl' h') h.2;have h2:=mF hk hx hap hrd (fun cs b=>Region.noSelect_spec hsel k ok cs b hk) (fun cs b=>Region.noSelect_spec hsel x ox cs b hx) hS h1;by_cases hr:rd k=true
  ·exact gM hS (fun a w _ h'=>⟨fun e=>absurd (hr.symm.trans e) (by decide),h'⟩) h2
  ·have hrx:rd x=true:=by simpa[hr] using hrd
   have h3:=h.1 (by simpa using hr);have h4:=iO (rd:=rd) hx (r2++C) hsel (j::k::r1) a w hS (fun i hi=>by
    rcases List.mem_cons.1 hi with rfl|hi
    ·exact⟨oj,hj,FI,.inr hrx⟩
    ·rcases List.mem_cons.1 hi with rfl|hi
     ·exact⟨ok,hk,hap,.inr hrx⟩
     ·obtain⟨oi,e1,e2,e3⟩:=hl' i hi;exact⟨oi,e1,e2,e3⟩) (by simpa using h3)
   exact gM hS (fun a w _ h'=>⟨fun _=>by simpa using h'.1,h'.2⟩) (rQ hx hrx hS h4 h2)
theorem qK (hsel:Region.noSelect ops=true)(hj:ops[j]? = some oj)(C1 C2:List Nat){x:Nat}{ox:Oper}(hx:ops[x]? = some ox)(hrx:rd x=true)(FI:oj.apart ops ox=true)(hC:∀ k∈C1,∃ ok,ops[k]? = some ok∧ok.apart ops ox=true):∀ (l:List Nat) (a:Act) (w:World),S w→(∀ k∈l,∃ ok,ops[k]? = some ok∧ok.apart ops ox=true)→wpF P qc ops S rd Q j (C1++x::C2) l a w→stT P qc ops S rd x (wpF P qc ops S rd Q j (C1++C2) l) a w
 | [],a,w,hS,_,h=>by
  refine iO hx C2 hsel (j::C1) a w hS (fun i hi=>?_) h;rcases List.mem_cons.1 hi with rfl|hi
  ·exact⟨oj,hj,FI,.inr hrx⟩
  ·obtain⟨oi,e1,e2⟩:=hC i hi;exact⟨oi,e1,e2,.inr hrx⟩
 | k::l,a,w,hS,hl,h=>by
  obtain⟨ok,hk,hap⟩:=hl k List.mem_cons_self;have hl':∀ k∈l,∃ ok,ops[k]? = some ok∧ok.apart ops ox=true:=fun k hk=>hl k (List.mem_cons_of_mem _ hk);have h1:stT P qc ops S rd k (stT P qc ops S rd x (wpF P qc ops S rd Q j (C1++C2) l)) a w:=gM hS (fun a w hS' h'=>qK hsel hj C1 C2 hx hrx FI hC l a w hS' hl' h') h.2;have h2:=mF hk hx hap (.inr hrx) (fun cs b=>Region.noSelect_spec hsel k ok cs b hk) (fun cs b=>Region.noSelect_spec hsel x ox cs b hx) hS h1;by_cases hr:rd k=true
  ·exact gM hS (fun a w _ h'=>⟨fun e=>absurd (hr.symm.trans e) (by decide),h'⟩) h2
  ·have h3:=h.1 (by simpa using hr);have h4:=iO (rd:=rd) hx C2 hsel (j::k::(l++C1)) a w hS (fun i hi=>by
    rcases List.mem_cons.1 hi with rfl|hi
    ·exact⟨oj,hj,FI,.inr hrx⟩
    ·rcases List.mem_cons.1 hi with rfl|hi
     ·exact⟨ok,hk,hap,.inr hrx⟩
     ·rcases List.mem_append.1 hi with hi|hi
      ·obtain⟨oi,e1,e2⟩:=hl' i hi;exact⟨oi,e1,e2,.inr hrx⟩
      ·obtain⟨oi,e1,e2⟩:=hC i hi;exact⟨oi,e1,e2,.inr hrx⟩) (by simpa using h3)
   exact gM hS (fun a w _ h'=>⟨fun _=>by simpa using h'.1,h'.2⟩) (rQ hx hrx hS h4 h2)
theorem xb {Q:Exit→Act→World→Prop}(H:OKF ops rd j s):∀ (fuel:Nat) (listed:Array Bool) (rem:List Nat) (a:Act) (w:World),
  listed.size=ops.size→kQ ops listed→(∀ i,i∈rem↔(i<ops.size∧listed.getD i true=false))→rem.Pairwise (· < ·)→rem.length≤fuel→j∉rem→S w →
  wpT P qc ops S rd (fun a w=>Q .normal a w) rem a w→wpAny P .any ops Q fuel listed a w:=by
 intro fuel;induction fuel with
 | zero =>
  intro listed rem a w hsz hd gz hpw hf hx hS h;exact za1
 | succ fuel ih =>
  intro listed rem a w hsz hd gz hpw hf hx hS h;refine⟨fun hr=>?_,fun x hxr=>?_⟩
  ·cases rem with
   | nil=>exact h
   | cons i rest =>
    exfalso;obtain⟨hlt,hu⟩:=(gz i).1 (by simp);obtain⟨o,ho⟩:∃ o,ops[i]? = some o:=⟨ops[i],by simp[hlt]⟩
    have:i∈Region.ready .any ops listed:=by
     refine mem_ready.2 ⟨hu,o,ho,fun e he hbe=>?_⟩;have hlt2:=H.edges ho e he hbe;exact zaI
    rw[hr] at this;cases this
  ·obtain⟨hu,ox,hox,hall⟩:=mem_ready.1 hxr;have Ei:=(Array.getElem?_eq_some_iff.1 hox).1;have hxm:=(gz x).2 ⟨Ei,hu⟩;obtain⟨r1,r2,rfl⟩:=List.append_of_mem hxm;have oE:=List.pairwise_append.1 hpw;have hb:=iO hox r2 H.sel r1 a w hS (fun k hk=>by
    obtain⟨n8,rz⟩:=(gz k).1 (by simp[hk]);obtain⟨ok,hok'⟩:∃ o,ops[k]? = some o:=⟨ops[k],by simp[n8]⟩
    have hkx:k<x:=oE.2.2 k hk x (by simp);have hn:¬ Anc ops x k:=fun hA=>by
     have:=la hd hA (fun o ho e he hbe=>by
      rw[hox] at ho;cases ho;exact hall e he hbe)
     exact za0
    obtain⟨h1,h2⟩:=H.pair hox hok' hkx hn (fun e=>hx (by rw[←e];simp)) (fun e=>hx (by rw[←e];simp[hk]));exact⟨ok,hok',h1,h2⟩) h
   refine gm hS (fun a' w' hS' h'=>ih (listed.setIfInBounds x true) (r1++r2) a' w' (by simpa using hsz) ?_ ?_ ?_ ?_ (fun hm=>hx (by rcases List.mem_append.1 hm with hm|hm <;> simp[hm])) hS' h') hb
   ·exact zbN
   ·intro i;have hnd:(r1++x::r2).Nodup:=hpw.imp (fun h=>Nat.ne_of_lt h);by_cases hij:i=x
    ·exact zcL
    ·rw[getD_set_ne true (Ne.symm hij),←gz i];simp[hij]
   ·exact zbS
   ·simp at hf ⊢;omega
theorem wD {Q:Exit→Act→World→Prop}(H:OKF ops rd j s):∀ (fuel:Nat) (listed:Array Bool) (l C:List Nat) (a:Act) (w:World),
  listed.size=ops.size→kQ ops listed→(∀ i,i∈j::(l++C)↔(i<ops.size∧listed.getD i true=false))→(l++C).Pairwise (· < ·)→j∉l++C→(j::(l++C)).length≤fuel→(∀ i∈l,i<s)→(∀ i∈C,s≤i)→S w →
  wpF P qc ops S rd (fun a w=>Q .normal a w) j C l a w→wpAny P .any ops Q fuel listed a w:=by
 intro fuel;induction fuel with
 | zero=>intro listed l C a w hsz hd gz hpw hjn hf;simp at hf
 | succ fuel ih =>
  intro listed l C a w hsz hd gz hpw hjn hf hls hCs hS h;obtain⟨oj,hoj,LX⟩:=H.oj;have N5:=(gz j).1 List.mem_cons_self;have oE:=List.pairwise_append.1 hpw;refine⟨fun hr=>?_,fun x hxr=>?_⟩
  ·exfalso;have:j∈Region.ready .any ops listed:=mem_ready.2 ⟨N5.2,oj,hoj,fun e he=>by rw[LX] at he;simp at he⟩;rw[hr] at this;cases this
  ·obtain⟨hu,ox,hox,hall⟩:=mem_ready.1 hxr;have Ei:=(Array.getElem?_eq_some_iff.1 hox).1;have hxm:=(gz x).2 ⟨Ei,hu⟩;have DH:∀ k,k∈j::(l++C)→¬ Anc ops x k:=by
    intro k hk hA;obtain⟨n8,rz⟩:=(gz k).1 hk;have:=la hd hA (fun o ho e he hbe=>by
     rw[hox] at ho;cases ho;exact hall e he hbe)
    exact za0
   have jM:∀ k,k∈l++C→k<x→x≠j→∃ ok,ops[k]? = some ok∧ok.apart ops ox=true∧(rd k=true∨rd x=true):=by
    intro k hk hkx hxj;obtain⟨n8,rz⟩:=(gz k).1 (List.mem_cons_of_mem _ hk);obtain⟨ok,hok'⟩:∃ o,ops[k]? = some o:=⟨ops[k],by simp[n8]⟩
    obtain⟨h1,h2⟩:=H.pair hox hok' hkx (DH k (List.mem_cons_of_mem _ hk)) hxj (fun e=>hjn (by rw[←e];exact hk));exact⟨ok,hok',h1,h2⟩
   have hsz':(listed.setIfInBounds x true).size=ops.size:=by simpa using hsz
   have hd':kQ ops (listed.setIfInBounds x true):=by
    exact zbN
   have hnd:(j::(l++C)).Nodup:=List.nodup_cons.2 ⟨hjn,hpw.imp (fun h=>Nat.ne_of_lt h)⟩;have mH:∀ X:List Nat,(j::(l++C)).Perm (x::X)→∀ i,i∈X↔(i<ops.size∧(listed.setIfInBounds x true).getD i true=false):=by
    intro X hX i;have GS:=List.nodup_cons.1 (hX.nodup_iff.1 hnd);by_cases hij:i=x
    ·exact zcp
    ·rw[getD_set_ne true (Ne.symm hij),←gz i,hX.mem_iff];simp[hij]
   rcases List.mem_cons.1 hxm with rfl|hc
   ·
    rw[hoj] at hox;cases hox;have h1:=qt H.sel hoj C l a w hS (fun i hi=>by
     have hil:=((gz i).1 (List.mem_cons_of_mem _ (List.mem_append_left _ hi))).1;obtain⟨oi,hoi⟩:∃ o,ops[i]? = some o:=⟨ops[i],by simp[hil]⟩
     exact⟨oi,hoi,(H.low hoi hoj (fun e=>hjn (by rw[←e];exact List.mem_append_left _ hi)) (hls i hi)).1⟩) h
    rw[gL] at h1;exact gm hS (fun a' w' hS' h'=>xb H fuel (listed.setIfInBounds x true) (l++C) a' w' hsz' hd' (mH _ (List.Perm.refl _)) hpw (by simp at hf ⊢;omega) hjn hS' h') h1
   ·have hxj:x≠j:=fun e=>hjn (by rw[←e];exact hc);obtain⟨f1,f2,f3⟩:=H.float hox hoj hxj (DH j List.mem_cons_self);rcases List.mem_append.1 hc with hc|hc
    ·obtain⟨r1,r2,rfl⟩:=List.append_of_mem hc;have hb:=s4 H.sel hoj C hox f2 r2 r1 a w hS (fun k hk=>jM k (by simp[hk]) ((List.pairwise_append.1 oE.1).2.2 k hk x (by simp)) hxj) h;refine gm hS (fun a' w' hS' h'=>ih (listed.setIfInBounds x true) (r1++r2) C a' w' hsz' hd' (mH _ ?_) ?_ ?_ ?_ ?_ hCs hS' h') hb
     ·have:=(List.perm_middle (a:=x) (l₁:=j::r1) (l₂:=r2++C))
      simpa using this
     ·have:(r1++r2++C).Sublist (r1++x::r2++C):=by simp
      exact hpw.sublist this
     ·intro hm;exact hjn (by simp at hm ⊢;rcases hm with hm|hm|hm <;> simp[hm])
     ·simp at hf ⊢;omega
     ·intro i hi;exact hls i (by simp at hi ⊢;rcases hi with hi|hi <;> simp[hi])
    ·obtain⟨C1,C2,rfl⟩:=List.append_of_mem hc;have hxs:=hCs x (by simp);have hrx:rd x=true:=f3.resolve_left (by omega);have hb:=qK H.sel hoj C1 C2 hox hrx f2 (fun k hk=>by
      obtain⟨ok,e1,e2,-⟩:=jM k (by simp[hk]) ((List.pairwise_append.1 oE.2.1).2.2 k hk x (by simp)) hxj;exact⟨ok,e1,e2⟩) l a w hS (fun k hk=>by
      obtain⟨ok,e1,e2,-⟩:=jM k (by simp[hk]) (oE.2.2 k hk x (by simp)) hxj;exact⟨ok,e1,e2⟩) h
     refine gm hS (fun a' w' hS' h'=>ih (listed.setIfInBounds x true) l (C1++C2) a' w' hsz' hd' (mH _ ?_) ?_ ?_ ?_ hls ?_ hS' h') hb
     ·have:=(List.perm_middle (a:=x) (l₁:=j::(l++C1)) (l₂:=C2))
      simpa using this
     ·have:(l++(C1++C2)).Sublist (l++(C1++x::C2)):=by simp
      exact hpw.sublist this
     ·intro hm;exact hjn (by simp at hm ⊢;rcases hm with hm|hm|hm <;> simp[hm])
     ·simp at hf ⊢;omega
     ·intro i hi;exact hCs i (by simp at hi ⊢;rcases hi with hi|hi <;> simp[hi])
def stL (P:Program)(qc:Qc)(ops:Array Oper)(S:World→Prop)(o:Oper)(K:Act→World→Prop)(a:Act)(w:World):Prop :=
 if Region.wanted o (yielded ops a.tmps)=true then
  (if fK qc o=true then ∃ v,gX P qc S o a v∧K (a.put o.dst v) w
  else o.wp P a w (fun a' w'=>S w'∧K a' w') (fun _ _ _=>False))
 else K (a.put o.dst undef) w
def zc (P:Program)(qc:Qc)(ops:Array Oper)(S:World→Prop)(Q:Act→World→Prop)(oj:Oper)(C:List Oper):List Oper→Act→World→Prop
 | [],a,w=>jP P qc ops S Q (oj::C) a w
 | o::rest,a,w=>(fK qc o=false→jP P qc ops S Q (oj::o::(rest++C)) a w)∧stL P qc ops S o (zc P qc ops S Q oj C rest) a w
theorem uj {i:Nat}{o:Oper}(hi:ops[i]? = some o){K K':Act→World→Prop}(h:∀ a w,K a w→K' a w){a:Act}{w:World}(hh:stL P qc ops S o K a w):stT P qc ops S (jO qc ops) i K' a w:=by
 have hrd:jO qc ops i=fK qc o:=by simp[jO,hi]
 unfold stT;unfold stL at hh;simp only[hi,hrd];split
 ·rename_i hw;simp only[hw,if_true] at hh;split
  ·rename_i hr;simp only[hr,if_true] at hh;obtain⟨v,h1,h2⟩:=hh;exact⟨v,h1,h _ _ h2⟩
  ·rename_i hr;simp only[hr,if_false,Bool.false_eq_true] at hh;exact Oper.wp_mono (fun a w ⟨s1,s2⟩=>⟨s1,h _ _ s2⟩) hh
 ·rename_i hw;simp only[hw,if_false,Bool.false_eq_true] at hh;exact h _ _ hh
theorem nW {Q:Act→World→Prop}(hj:ops[j]? = some oj)(C:List Oper)(cx:List Nat)(hC:cx.map (fun i=>ops[i]?)=C.map some):∀ (l:List Oper) (ix:List Nat) (a:Act) (w:World),ix.map (fun i=>ops[i]?)=l.map some→zc P qc ops S Q oj C l a w→wpF P qc ops S (jO qc ops) Q j cx ix a w
 | [],ix,a,w,hl,h=>by
  have:ix = []:=by simpa using hl
  subst this;exact iV (oj::C) (j::cx) a w (by rw[List.map_cons,List.map_cons,hj,hC]) h
 | o::l,ix,a,w,hl,h=>by
  cases ix with
  | nil=>simp at hl
  | cons n ix =>
   rw[List.map_cons,List.map_cons,List.cons.injEq] at hl;obtain⟨ho,hl'⟩:=hl;have hrd:jO qc ops n=fK qc o:=by simp[jO,ho]
   refine⟨fun hr=>?_,uj ho (fun a w h=>nW hj C cx hC l ix a w hl' h) h.2⟩;exact iV (oj::o::(l++C)) (j::n::(ix++cx)) a w (by rw[List.map_cons,List.map_cons,List.map_cons,List.map_cons,hj,ho,List.map_append,List.map_append,hl',hC]) (h.1 (by rw[←hrd];exact hr))
structure sK (P:Program) (qc:Qc) (ops:Array Oper) (S:World→Prop) (Q:Act→World→Prop) (oj:Oper) (C l:List Oper) (a:Act) (w:World):Prop where
 out:zc P qc ops S Q oj C l a w
theorem zn {Q:Act→World→Prop}{C:List Oper}{a:Act}{w:World}(h:wpL P qc ops S Q (oj::C) a w):sK P qc ops S Q oj C [] a w:=⟨h.out⟩
theorem qN {Q:Act→World→Prop}{C:List Oper}{o:Oper}{rest:List Oper}{a:Act}{w:World}(hw:Region.wanted o (yielded ops a.tmps)=false)(hr:fK qc o=true)(h:sK P qc ops S Q oj C rest (a.put o.dst undef) w):sK P qc ops S Q oj C (o::rest) a w :=
 ⟨⟨fun e=>by rw[hr] at e;(cases e),by unfold stL;rw[hw,if_neg (by decide)];exact h.out⟩⟩
theorem q3 {Q:Act→World→Prop}{C:List Oper}{o:Oper}{rest:List Oper}{a:Act}{w:World}(hw:Region.wanted o (yielded ops a.tmps)=true)(hr:fK qc o=true)(v:Value)
  (hv:∀ w,S w→(execOp a.eval o).run P w=.ok (.value v) w) (h:sK P qc ops S Q oj C rest (a.put o.dst v) w):sK P qc ops S Q oj C (o::rest) a w :=
 ⟨⟨fun e=>by rw[hr] at e;(cases e),by unfold stL;rw[hw,hr,if_pos rfl,if_pos rfl];exact⟨v,.inl hv,h.out⟩⟩⟩
theorem zi {Q:Act→World→Prop}{C:List Oper}{o:Oper}{rest:List Oper}{a:Act}{w:World}(hw:Region.wanted o (yielded ops a.tmps)=true)(hr:fK qc o=false)
  (hb:wpL P qc ops S Q (oj::o::(rest++C)) a w)
  (h:∀ K:Act→World→Prop,Hid (∀ a w,S w→sK P qc ops S Q oj C rest a w→K a w)→o.wp P a w K (fun _ _ _=>False)):sK P qc ops S Q oj C (o::rest) a w :=
 ⟨⟨fun _=>hb.out,by
  unfold stL;rw[hw,hr,if_pos rfl,if_neg (by decide)];exact h _ (hid fun a w h1 h2=>⟨h1,h2.out⟩)⟩⟩
theorem rR {id:Nat}{a:Act}{w:World}{Q:Exit→Act→World→Prop}(qc:Qc)(S:World→Prop)(j s:Nat)(A B C:List Oper)(oj:Oper)(hm:P.follows .mixedOrders=true)(hok:rE ops (jO qc ops) j s=true)(hops:ops.toList=A++oj::(B++C))(hA:A.length=j)(hB:j+1+B.length=s)(hS:S w.drew)
  (h:sK P qc ops S (fun a w=>Q .normal a w) oj C (A++B) a w.drew):(Code.region id ops true).wp P Q a w:=by
 have H:=okF hok;have hsz:ops.size=j+1+B.length+C.length:=by
  have:=congrArg List.length hops;simp at this;omega
 have at_:∀ i,ops[i]? = (A++oj::(B++C))[i]? := fun i=>by rw[←hops,Array.getElem?_toList]
 have hjo:ops[j]? = some oj:=by rw[at_,List.getElem?_append_right (by omega)];simp[hA]
 have ea:(List.range j).map (fun i=>ops[i]?)=A.map some:=by
  apply List.ext_getElem?;intro i;by_cases hi:i<j
  ·exact zb4
  ·exact za5
 have eb:(List.range' (j+1) B.length).map (fun i=>ops[i]?)=B.map some:=by
  apply List.ext_getElem?;intro i;by_cases hi:i<B.length
  ·rw[List.getElem?_map,List.getElem?_range' hi,Option.map_some,at_,List.getElem?_append_right (by omega),show j+1+1*i-A.length=i+1 by omega,List.getElem?_cons_succ,List.getElem?_append_left hi,List.getElem?_map,List.getElem?_eq_getElem hi];simp
  ·exact za5
 have ec:(List.range' s C.length).map (fun i=>ops[i]?)=C.map some:=by
  apply List.ext_getElem?;intro i;by_cases hi:i<C.length
  ·rw[List.getElem?_map,List.getElem?_range' hi,Option.map_some,at_,List.getElem?_append_right (by omega),show s+1*i-A.length=(B.length+i)+1 by omega,List.getElem?_cons_succ,List.getElem?_append_right (by omega),show B.length+i-B.length=i by omega,List.getElem?_map,List.getElem?_eq_getElem hi];simp
  ·exact za5
 have hmem:∀ i,i∈j::(List.range j++List.range' (j+1) B.length++List.range' s C.length)↔i<ops.size:=by
  intro i;simp only[List.mem_cons,List.mem_append,List.mem_range,List.mem_range'_1];omega
 refine wp_region_any hm ?_;refine wD (qc:=qc) (rd:=jO qc ops) (S:=S) H ops.size _ (List.range j++List.range' (j+1) B.length) (List.range' s C.length) a _ (by simp) ?_ ?_ ?_ ?_ ?_ ?_ ?_ hS ?_
 ·exact zbI
 ·intro i;rw[hmem];by_cases hlt:i<ops.size <;> simp[hlt]
 ·rw[List.pairwise_append,List.pairwise_append];refine⟨⟨List.pairwise_lt_range,List.pairwise_lt_range',fun a ha b hb=>?_⟩,List.pairwise_lt_range',fun a ha b hb=>?_⟩
  ·simp only[List.mem_range,List.mem_range'_1] at ha hb;omega
  ·simp only[List.mem_append,List.mem_range,List.mem_range'_1] at ha hb;omega
 ·simp only[List.mem_append,List.mem_range,List.mem_range'_1];omega
 ·simp;omega
 ·intro i hi;simp only[List.mem_append,List.mem_range,List.mem_range'_1] at hi;omega
 ·intro i hi;simp only[List.mem_range'_1] at hi;omega
 ·exact nW hjo C (List.range' s C.length) ec (A++B) _ a w.drew (by rw[List.map_append,List.map_append,ea,eb]) h.out
end
end Go.Own
