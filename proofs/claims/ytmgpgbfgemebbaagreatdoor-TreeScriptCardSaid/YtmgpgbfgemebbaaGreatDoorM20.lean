/- TEXTS of mine, merged. -/
import Derived.Test.YtmgpgbfgemebbaaGreatDoorM0
import Derived.Test.YtmgpgbfgemebbaaGreatDoorM19
set_option linter.all false
set_option maxRecDepth 100000
set_option maxHeartbeats 16000000
namespace Go.Proofs.YtmgpgbfgemebbaaGreatDoor
open Go.RowKit Go.Own
theorem _root_.Go.Own.Has.ch {w:World}{l:List HP}{b:Nat}{a0 a1 a2 a3 a4 a5 a6:Value}(h:Has w (pt b (.cells #[a0,a1,a2,a3,a4,a5,a6] 90)::l))(v0 v1 v2 v3 v4 v5 v6:Value):Has (((((((w.setCell ⟨b,0,none⟩ v0).setCell ⟨b,1,none⟩ v1).setCell ⟨b,2,none⟩ v2).setCell ⟨b,3,none⟩ v3).setCell ⟨b,4,none⟩ v4).setCell ⟨b,5,none⟩ v5).setCell ⟨b,6,none⟩ v6) (pt b (.cells #[v0,v1,v2,v3,v4,v5,v6] 90)::l):=by
 have h0:=h;have h1:Has (w.setCell ⟨b,0,none⟩ v0) (pt b (.cells #[v0,a1,a2,a3,a4,a5,a6] 90)::l):=h0.set 0 v0;have h2:Has ((w.setCell ⟨b,0,none⟩ v0).setCell ⟨b,1,none⟩ v1) (pt b (.cells #[v0,v1,a2,a3,a4,a5,a6] 90)::l):=h1.set 1 v1;have h3:Has (((w.setCell ⟨b,0,none⟩ v0).setCell ⟨b,1,none⟩ v1).setCell ⟨b,2,none⟩ v2) (pt b (.cells #[v0,v1,v2,a3,a4,a5,a6] 90)::l):=h2.set 2 v2;have h4:Has ((((w.setCell ⟨b,0,none⟩ v0).setCell ⟨b,1,none⟩ v1).setCell ⟨b,2,none⟩ v2).setCell ⟨b,3,none⟩ v3) (pt b (.cells #[v0,v1,v2,v3,a4,a5,a6] 90)::l):=h3.set 3 v3;have h5:Has (((((w.setCell ⟨b,0,none⟩ v0).setCell ⟨b,1,none⟩ v1).setCell ⟨b,2,none⟩ v2).setCell ⟨b,3,none⟩ v3).setCell ⟨b,4,none⟩ v4) (pt b (.cells #[v0,v1,v2,v3,v4,a5,a6] 90)::l):=h4.set 4 v4;have h6:Has ((((((w.setCell ⟨b,0,none⟩ v0).setCell ⟨b,1,none⟩ v1).setCell ⟨b,2,none⟩ v2).setCell ⟨b,3,none⟩ v3).setCell ⟨b,4,none⟩ v4).setCell ⟨b,5,none⟩ v5) (pt b (.cells #[v0,v1,v2,v3,v4,v5,a6] 90)::l):=h5.set 5 v5;have h7:Has (((((((w.setCell ⟨b,0,none⟩ v0).setCell ⟨b,1,none⟩ v1).setCell ⟨b,2,none⟩ v2).setCell ⟨b,3,none⟩ v3).setCell ⟨b,4,none⟩ v4).setCell ⟨b,5,none⟩ v5).setCell ⟨b,6,none⟩ v6) (pt b (.cells #[v0,v1,v2,v3,v4,v5,v6] 90)::l):=h6.set 6 v6;exact h7
theorem _root_.Go.Own.Keep.ch {w0 w:World}(h:Keep w0 w)(b:Nat)(v0 v1 v2 v3 v4 v5 v6:Value):Keep w0 (((((((w.setCell ⟨b,0,none⟩ v0).setCell ⟨b,1,none⟩ v1).setCell ⟨b,2,none⟩ v2).setCell ⟨b,3,none⟩ v3).setCell ⟨b,4,none⟩ v4).setCell ⟨b,5,none⟩ v5).setCell ⟨b,6,none⟩ v6):=by
 have h1:=h.set ⟨b,0,none⟩ v0;have h2:=h1.set ⟨b,1,none⟩ v1;have h3:=h2.set ⟨b,2,none⟩ v2;have h4:=h3.set ⟨b,3,none⟩ v3;have h5:=h4.set ⟨b,4,none⟩ v4;have h6:=h5.set ⟨b,5,none⟩ v5;have h7:=h6.set ⟨b,6,none⟩ v6;exact h7
theorem yW (xs:List Int)(a b:Nat):((bc xs).drop a).take b=bc ((xs.drop a).take b):=by simp[bc,List.map_take,List.map_drop]
theorem Rtb.bu {w:World}{L:List HP}{q g c:Nat}{R:List Rn}{T:List Tb.Slot}{d:Nat}{x:Rn}(h:Has w (Rtb q g c R T::L))(hx:R[d]? = some x){n cd:Nat}(hv:x.dv=.slice none n cd):cd=0:=by
 have h1:=(gU.1 ((kD (L:=L) hx).1 ((fy.1 h).drop.drop))).drop;unfold Rdt at h1;rw[hv] at h1;by_cases hz:x.fz=true
 ·rw[if_pos hz] at h1;obtain⟨g',cap,cur,sp,⟨e,-⟩,-⟩:=lY.1 h1;simp at e
 ·rw[if_neg hz] at h1;obtain⟨-,h2|⟨g',cap,cur,e,-⟩⟩:=Has.ao h1
  ·have:=h2.1;simp only[Value.slice.injEq] at this;exact this.2.2
  ·simp at e
theorem l8 (l:List Int)(o n:Int)(ho:0≤o)(hn:0≤n):(l.drop (min o.toNat l.length)).take (min n.toNat (l.length-min o.toNat l.length))=(l.drop o.toNat).take n.toNat:=by
 by_cases h:o.toNat≤l.length
 ·rw[Nat.min_eq_left h];by_cases h2:n.toNat≤l.length-o.toNat
  ·rw[Nat.min_eq_left h2]
  ·rw[Nat.min_eq_right (by omega),List.take_of_length_le (by rw[List.length_drop];omega),List.take_of_length_le (by rw[List.length_drop];omega)]
 ·have e:min o.toNat l.length=l.length:=Nat.min_eq_right (by omega);rw[e,List.drop_length,List.drop_eq_nil_of_le (i:=o.toNat) (by omega),List.take_nil,List.take_nil]
theorem Bc (q:Nat)(S:Tre)(rk:Int→Nat)(k:Nat)(o:Opm)(ov:Value)(w:World)(L:List HP)(hk:k≤900)(hG:Gd S rk k)(hkd:o.aa=3∨o.aa=5)(hof:o.off≤9223372036854775807)(hO:Has w (Rts q S::L)) :
  zCl 67 #[.pointer (some ⟨q,0,none⟩),opV o ov] w fun e w'=>∃ dv,e=.returned (fL (S.read o.aa o.fd o.n o.off).1 dv eS)∧Has w' (Bytes dv (S.read o.aa o.fd o.n o.off).1.data::Rts q (S.read o.aa o.fd o.n o.off).2::L)∧Keep w w':=by
 obtain⟨g,c,R,hS,hO2⟩:=fh.1 hO;have HG:=hid hG;have HS:=hid hS;have HO:=hid hO2;have HT:=hid hG.tab16;have hrl:(R.length:Int)≤1000000:=by have:=hS.aA hG;omega
 have ll:=hid (by have:=hS.aA hG;omega:R.length≤100000);clear hO hO2 hG hS;have Bh:=hid hof;clear hof;rcases hl:Tb.look S.ak o.fd with _|s
 ·have HR:=hid (by unfold Tre.read Tre.file;simp[Tb.get,hl]:S.read o.aa o.fd o.n o.off=(eQ 10,S));have lr:=hid (by simp[Tb.there,hl]:Tb.there S.ak o.fd=false);clear hl;unfold opV opC;go_enter Tryz.func67,Tryz.ntmps67
  as_aux_lemma=>exact zcV
 ·obtain⟨kf,yh,hfd,yc,hon⟩:=Tb.look_in HT.out hl;have hkn:kf<16:=by have:=HT.out;omega
  have jU:=hid (by rw[List.getElem?_eq_getElem yh,yc]:S.ak[kf]? = some s);have lr:=hid (by rw[←hfd];simp[Tb.there,hl]:Tb.there S.ak (kf:Int)=true);obtain⟨⟨x,hx,hx3⟩,hs0,hs1⟩:=HG.out.opn o.fd s hl;have HL:=hid hl;have HX:=hid hx;have FR:=hid hx3;have py:=hid (by unfold Tb.get;rw[hl]:Tb.get S.ak o.fd=(s,0));have sS:=hid hfd;have hk0:(0:Int)≤(kf:Int):=by omega
  have hk1:(kf:Int)<16:=by omega
  obtain⟨n,r,hn,hr,hsn⟩:=HS.out.ae _ _ hx;have HN:=hid hn;have jl:=hid hr;have io:=hid hsn;have hnl:n<R.length:=(List.getElem?_eq_some_iff.1 hr).1;have hn0:(0:Int)≤(n:Int):=by omega
  have hn1:(n:Int)<(R.length:Int):=by omega
  have Bf:=hid hon;have HAT:=hid (fC hx);clear hfd hl yh yc hon hx hx3 hn hr hsn hnl;obtain⟨pe,ce,hev,-⟩:=(Rtb.aO HO.out jl.out).1.form;obtain⟨pd,cd,hdv,hcap,-⟩:=(Rtb.aO HO.out jl.out).2.1.form;obtain⟨pw,cw,oe,-⟩:=(Rtb.aO HO.out jl.out).2.2.form;rw[io.out.data] at hdv hcap;have qz:=hid (show x.data.length≤100000 from(HG.out.ax HX.out).size.1);have hdi:(x.data.length:Int)≤100000:=by have:=qz.out;omega
  have hci:(x.data.length:Int)≤(cd:Int):=by omega
  have HCAP:=hid hcap;have BL:=hid (show pd=none→cd=0 from fun e=>Rtb.bu HO.out jl.out (by rw[hdv,e]));have pW:=hid (fun(w:World)(L':List HP)(h:Has w (Rtb q g c R S.ak::L'))=>(show w.cell? ⟨q,0,none⟩=some (.slice (some ⟨g,0,none⟩) R.length c)∧w.cell? ⟨g,n*7,none⟩=some (.int .i64 x.aa)∧w.cell? ⟨g,n*7+1,none⟩=some (.int .i64 r.ab)∧w.cell? ⟨g,n*7+2,none⟩=some (.int .i64 r.am)∧w.cell? ⟨g,n*7+3,none⟩=some (.int .i64 r.aq)∧w.cell? ⟨g,n*7+4,none⟩=some (.slice pe r.ai.length ce)∧w.cell? ⟨g,n*7+5,none⟩=some (.slice pd x.data.length cd)∧w.cell? ⟨g,n*7+6,none⟩=some (.slice pw r.there.length cw) from by
   have h1:=Rtb.at_ h jl.out;rw[hev,hdv,oe,io.out.aa] at h1;exact⟨Rtb.nv h,h1⟩))
  have ir:=hid (fun(w:World)(L':List HP)(h:Has w (Rtb q g c R S.ak::L'))=>(by have:=(Rtb.aO h jl.out).2.1;rw[hdv,io.out.data] at this;exact this:Rd w (.slice pd x.data.length cd) 1 x.data.length (bc x.data)));clear hev hdv oe hcap;by_cases hk2:x.aa=2
  ·have HR:=hid (show S.read o.aa o.fd o.n o.off=(eQ 8,S) from by
    have h9:S.file o.fd false=(Tb.none4,8):=by unfold Tre.file;rw[py.out,if_neg (by simp),if_neg (by simp),HAT.out,if_pos hk2]
    unfold Tre.read;rw[h9];rfl)
   have fu:=hid hk2;clear hk2;rcases hkd with hkd|hkd
   ·have hkb:(o.aa==5)=false:=by rw[hkd];rfl
    exact zac
   ·have hkb:(o.aa==5)=true:=by rw[hkd];rfl
    exact zac
  have tM:=hid (by unfold Tre.file;rw[py.out,if_neg (by simp),if_neg (by simp),HAT.out,if_neg hk2]:S.file o.fd false=(s,0));have fu:=hid hk2;clear hk2;rcases hkd with hkd|hkd
  ·have hkb:(o.aa==5)=false:=by rw[hkd];rfl
   have Co:=hid hkd;clear hkd;unfold opV opC;go_enter Tryz.func67,Tryz.ntmps67
   go_upto_region 1 with fail
   obtain⟨w1,g3,g4,ew,e4,e3,eT,ff⟩:=f9 HO.out o ov;rw[ew,e4,e3];clear HO ew e4 e3;have ij:=hid (fun(w:World)(L':List HP)(h:Has w (pt g3 (.cells #[.int .i64 o.aa,.int .i64 o.fd,.int .i64 o.n,.int .i64 o.off,.int .i64 o.af,sV o.ag,sV o.aj,ov] 33)::L'))=>(by rw[←sS.out];exact⟨h.cells 0,h.cells 1,h.cells 2,h.cells 3,h.cells 7⟩:w.cell? ⟨g3,0,none⟩=some (.int .i64 o.aa)∧w.cell? ⟨g3,1,none⟩=some (.int .i64 (kf:Int))∧w.cell? ⟨g3,2,none⟩=some (.int .i64 o.n)∧w.cell? ⟨g3,3,none⟩=some (.int .i64 o.off)∧w.cell? ⟨g3,7,none⟩=some ov));have jN:=hid (fun(w:World)(R':List Rn)(L':List HP)(h:Has w (Rtb q g c R' S.ak::L'))=>(by rw[←HN.out,←Bf.out];exact gK h jU.out:w.cell? ⟨q,1+kf*4,none⟩=some (.int .i64 (n:Int))∧w.cell? ⟨q,1+kf*4+1,none⟩=some (.int .i64 s.off)∧w.cell? ⟨q,1+kf*4+2,none⟩=some (.int .i64 s.af)∧w.cell? ⟨q,1+kf*4+3,none⟩=some (.bool true)));have eZ:=hid eT.out.drew;have fu:=hid ff.out.drew;refine eP (fun w'=>w'.cell? ⟨g3,1,none⟩=some (.int .i64 (kf:Int))∧True) (by kernel_rfl) (by kernel_rfl) ⟨(ij.out _ _ eZ.out.p1).2.1,trivial⟩ ?_;clear eT ff;generalize w1.drew=w2 at *;repeat (first|refine wr2 ?_|refine wk ?_)
   refine wa fun K hK=>?_;go_simp
   refine(gR q _ S.ak (kf:Int) w2 _ HT.out (show Has w2 (RTe q _ S.ak::_) from fy.1 (eZ.out.re 3 [2,0,1]))).mono ?_;rintro e w' ⟨rfl,rfl⟩;rw[lr.out];try dsimp only
   refine hK.out _ _ ⟨(ij.out _ _ eZ.out.p1).2.1,trivial⟩ ?_;clear hK K;try simp only[Act.put,zpu]
   repeat (first|refine wr2 ?_|refine wk ?_)
   refine eR ?_;go_upto_region 3 with fail
   have eW:=hid eZ.out.drew;have fH:=hid fu.out.drew;refine eP (fun w'=>w'.cell? ⟨g3,1,none⟩=some (.int .i64 (kf:Int))∧w'.cell? ⟨q,1+kf*4,none⟩=some (.int .i64 (n:Int))∧w'.cell? ⟨q,1+kf*4+1,none⟩=some (.int .i64 s.off)∧w'.cell? ⟨q,1+kf*4+2,none⟩=some (.int .i64 s.af)∧w'.cell? ⟨q,1+kf*4+3,none⟩=some (.bool true)) (by kernel_rfl) (by kernel_rfl) ⟨(ij.out _ _ (eW.out.p1)).2.1,jN.out _ _ _ (eW.out.p2)⟩ ?_;clear eZ fu;generalize w2.drew=w3 at *;repeat (first|refine wr5 ?_|refine wk ?_)
   refine wa fun K hK=>?_;go_simp
   have fa:=hid (eW.out.alloc (.cells #[.int .i64 0,.int .i64 0,.int .i64 0,.bool false] 93));have jk:=hid (fH.out.alloc (.cells #[.int .i64 0,.int .i64 0,.int .i64 0,.bool false] 93));refine hK.out _ _ ⟨(ij.out _ _ (fa.out.p2)).2.1,jN.out _ _ _ (fa.out.p3)⟩ ?_;clear hK K eW fH;try simp only[Act.put,zpu]
   generalize w3.heap.size=g5 at *;generalize w3.alloc (.cells #[.int .i64 0,.int .i64 0,.int .i64 0,.bool false] 93)=wZ9 at *;repeat (first|refine wr5 ?_|refine wk ?_)
   have ha0:=fa.out.e0;have ha1:=fa.out.e1;have ha2:=fa.out.e2;have mh:=fa.out.e3;have hb0:=fa.out.thaw 0;have hb1:=fa.out.thaw 1;have hb2:=fa.out.thaw 2;have hb3:=fa.out.thaw 3;refine wa fun K hK=>?_;go_simp
   have fg:=hid (fa.out.cg (n:Int) s.off s.af true);have fO:=hid ((((jk.out.set ⟨g5,0,none⟩ (.int .i64 (n:Int))).set ⟨g5,1,none⟩ (.int .i64 s.off)).set ⟨g5,2,none⟩ (.int .i64 s.af)).set ⟨g5,3,none⟩ (.bool true));refine hK.out _ _ ⟨(ij.out _ _ (fg.out.p2)).2.1,jN.out _ _ _ (fg.out.p3)⟩ ?_;clear hK K fa jk ha0 ha1 ha2 mh hb0 hb1 hb2 hb3;try simp only[Act.put,zpu]
   generalize (((wZ9.setCell ⟨g5,0,none⟩ (.int .i64 (n:Int))).setCell ⟨g5,1,none⟩ (.int .i64 s.off)).setCell ⟨g5,2,none⟩ (.int .i64 s.af)).setCell ⟨g5,3,none⟩ (.bool true)=w4 at *;repeat (first|refine wr5 ?_|refine wk ?_)
   refine eR ?_;go_upto_region 4 with fail
   have fi:=hid fg.out.drew;have ge:=hid fO.out.drew;refine eP (fun w'=>w'.cell? ⟨g5,0,none⟩=some (.int .i64 (n:Int))∧w'.cell? ⟨q,0,none⟩=some (.slice (some ⟨g,0,none⟩) R.length c)∧w'.cell? ⟨g,n*7,none⟩=some (.int .i64 x.aa)∧w'.cell? ⟨g,n*7+1,none⟩=some (.int .i64 r.ab)∧w'.cell? ⟨g,n*7+2,none⟩=some (.int .i64 r.am)∧w'.cell? ⟨g,n*7+3,none⟩=some (.int .i64 r.aq)∧w'.cell? ⟨g,n*7+4,none⟩=some (.slice pe r.ai.length ce)∧w'.cell? ⟨g,n*7+5,none⟩=some (.slice pd x.data.length cd)∧w'.cell? ⟨g,n*7+6,none⟩=some (.slice pw r.there.length cw)) (by kernel_rfl) (by kernel_rfl) ⟨fi.out.cells 0,pW.out _ _ fi.out.p3⟩ ?_;clear fg fO;generalize w4.drew=w5 at *;repeat (first|refine wr9 ?_|refine wk ?_)
   refine wa fun K hK=>?_;go_simp
   have fa:=hid (fi.out.alloc (.cells #[.int .i64 0,.int .i64 0,.int .i64 0,.int .i64 0,.slice none 0 0,.slice none 0 0,.slice none 0 0] 90));have jk:=hid (ge.out.alloc (.cells #[.int .i64 0,.int .i64 0,.int .i64 0,.int .i64 0,.slice none 0 0,.slice none 0 0,.slice none 0 0] 90));refine hK.out _ _ ⟨fa.out.p1.cells 0,pW.out _ _ fa.out.p4⟩ ?_;clear hK K fi ge;try simp only[Act.put,zpu]
   generalize w5.heap.size=g6 at *;generalize w5.alloc (.cells #[.int .i64 0,.int .i64 0,.int .i64 0,.int .i64 0,.slice none 0 0,.slice none 0 0,.slice none 0 0] 90)=wZ9 at *;repeat (first|refine wr9 ?_|refine wk ?_)
   have ha0:=fa.out.e0;have hb0:=fa.out.thaw 0;have ha1:=fa.out.e1;have hb1:=fa.out.thaw 1;have ha2:=fa.out.e2;have hb2:=fa.out.thaw 2;have mh:=fa.out.e3;have hb3:=fa.out.thaw 3;have s7:=fa.out.e4;have hb4:=fa.out.thaw 4;have wS:=fa.out.e5;have hb5:=fa.out.thaw 5;have ha6:=fa.out.e6;have hb6:=fa.out.thaw 6;refine wa fun K hK=>?_;go_simp
   have fq:=hid (fa.out.ch (.int .i64 x.aa) (.int .i64 r.ab) (.int .i64 r.am) (.int .i64 r.aq) (.slice pe r.ai.length ce) (.slice pd x.data.length cd) (.slice pw r.there.length cw));have gu:=hid (jk.out.ch g6 (.int .i64 x.aa) (.int .i64 r.ab) (.int .i64 r.am) (.int .i64 r.aq) (.slice pe r.ai.length ce) (.slice pd x.data.length cd) (.slice pw r.there.length cw));refine hK.out _ _ ⟨fq.out.p1.cells 0,pW.out _ _ fq.out.p4⟩ ?_;clear hK K fa jk ha0 ha1 ha2 mh s7 wS ha6 hb0 hb1 hb2 hb3 hb4 hb5 hb6;try simp only[Act.put,zpu]
   generalize (((((((wZ9.setCell ⟨g6,0,none⟩ (.int .i64 x.aa)).setCell ⟨g6,1,none⟩ (.int .i64 r.ab)).setCell ⟨g6,2,none⟩ (.int .i64 r.am)).setCell ⟨g6,3,none⟩ (.int .i64 r.aq)).setCell ⟨g6,4,none⟩ (.slice pe r.ai.length ce)).setCell ⟨g6,5,none⟩ (.slice pd x.data.length cd)).setCell ⟨g6,6,none⟩ (.slice pw r.there.length cw))=w6 at *;repeat (first|refine wr9 ?_|refine wk ?_)
   refine eR ?_;have hp0:=(ij.out _ _ fq.out.p3).1;have hp2:=(ij.out _ _ fq.out.p3).2.2.1;have hp3:=(ij.out _ _ fq.out.p3).2.2.2.1;have hf1:=fq.out.p1.e1;have hx0:=fq.out.e0;have hx5:=fq.out.e5;have hkb2:(x.aa==2)=false:=by have:=fu.out;simpa using this
   have jj:=hid (show S.read o.aa o.fd o.n o.off=(if o.n<0 then(eQ 2,S) else(⟨0,0,0,0,(x.data.drop s.off.toNat).take o.n.toNat,[]⟩,{S with ak:=(Tb.aM S.ak o.fd (s.off+(((x.data.drop s.off.toNat).take o.n.toNat).length:Int))).2})) from by
    unfold Tre.read;rw[tM.out];simp only[HAT.out];rw[if_neg (by simp),Co.out];try simp only[eq_false (show ¬ (3:Int)=5 by decide),eq_false (show ¬ (5:Int)=3 by decide),false_and,true_and,or_false,if_false,if_true])
   by_cases h1:o.n<0
   ·have HR:=hid (by rw[jj.out,if_pos h1]:S.read o.aa o.fd o.n o.off=(eQ 2,S))
    as_aux_lemma=>exact zba
   have L6:(0:Int)≤s.off:=by omega
   obtain⟨fr,hfr⟩:∃ fr:Nat,min s.off.toNat x.data.length=fr:=⟨_,rfl⟩
   obtain⟨ct,hct⟩:∃ ct:Nat,min o.n.toNat (x.data.length-fr)=ct:=⟨_,rfl⟩
   have Be:=hid (by rw[←hct,←hfr];exact l8 _ _ _ L6 (by omega):(x.data.drop fr).take ct=(x.data.drop s.off.toNat).take o.n.toNat);have hm1:min s.off (x.data.length:Int)=(fr:Int):=by omega
   have hm2:min o.n ((x.data.length:Int)-(fr:Int))=(ct:Int):=by omega
   have hfl:fr≤x.data.length:=by omega
   have hcl:ct≤x.data.length-fr:=by omega
   have Mj:(fr:Int)≤(x.data.length:Int):=by omega
   have LV:(fr:Int)+(ct:Int)≤(x.data.length:Int):=by omega
   have LQ:(fr:Int)+(ct:Int)≤(cd:Int):=by omega
   have hfr0:(0:Int)≤(fr:Int):=by omega
   have EF:(0:Int)≤(ct:Int):=by omega
   have Pb:IntKind.i64.wrap ((fr:Int)+(ct:Int))=(fr:Int)+(ct:Int):=ft _ (by omega);have hwd:IntKind.i64.wrap ((x.data.length:Int)-(fr:Int))=(x.data.length:Int)-(fr:Int):=ft _ (by omega);have pI:=hid (by rw[List.length_take,List.length_drop];omega:((x.data.drop fr).take ct).length=ct);have tP:=hid hfl;have DN:=hid hcl;clear hfr hct hfl hcl;go_upto_region 13 with fail
   go_cut [9] (fun v wx=>∃ (p9:Option Addr) (c9:Nat) (w9:World),w9=wx∧v=.slice p9 ct c9∧Hid (Has w9 (Bytes (.slice p9 ct c9) ((x.data.drop fr).take ct)::pt g6 (.cells #[.int .i64 x.aa,.int .i64 r.ab,.int .i64 r.am,.int .i64 r.aq,.slice pe r.ai.length ce,.slice pd x.data.length cd,.slice pw r.there.length cw] 90)::pt g5 (.cells #[.int .i64 (n:Int),.int .i64 s.off,.int .i64 s.af,.bool true] 93)::pt g4 zA::pt g3 (.cells #[.int .i64 o.aa,.int .i64 o.fd,.int .i64 o.n,.int .i64 o.off,.int .i64 o.af,sV o.ag,sV o.aj,ov] 33)::Rtb q g c R S.ak::L))∧Hid (Keep w w9))
   case first =>
    as_aux_lemma=>exact zai
   case rest =>
    obtain⟨p9,c9,w9,rfl,rfl,fJ,gQ⟩:=hcut;clear fq gu hp2 hp3 hf1 hx0 hx5 hp0;have hp0:=(ij.out _ _ (fJ.out.re 6 [4,0,1,2,3,5])).1;rw[Co.out] at hp0;have HR:=hid (by rw[jj.out,if_neg (by omega),←Be.out,pI.out]:S.read o.aa o.fd o.n o.off=((⟨0,0,0,0,(x.data.drop fr).take ct,[]⟩:Ans),{S with ak:=(Tb.aM S.ak o.fd (s.off+(ct:Int))).2}));have oJ:=hid (show (Tb.aM S.ak o.fd (s.off+(ct:Int))).2=S.ak.set kf {s with off:=s.off+(ct:Int)} from rl HL.out sS.out (by omega));have hadd:IntKind.i64.wrap (s.off+(ct:Int))=s.off+(ct:Int):=ft _ (by omega);go_upto_region 15 with fail
    have fP:=hid fJ.out.drew;have gZ:=hid gQ.out.drew;have hc1:=(jN.out _ _ _ (fP.out.re 6 [5,0,1,2,3,4])).2.1;have ht1:=(fy.1 (fP.out.re 6 [5,0,1,2,3,4])).thaw (1+kf*4+1);refine fT (fun w'=>w'.cell? ⟨g3,1,none⟩=some (.int .i64 (kf:Int))∧True) (by kernel_rfl) (by kernel_rfl) (by kernel_rfl) (by decide) ⟨(ij.out _ _ (fP.out.re 6 [4,0,1,2,3,5])).2.1,trivial⟩ ?_;clear hp0;repeat (first|refine wr2 ?_|refine wk ?_)
    refine eR ?_;refine gI rfl (by rfl) ?_;go_simp
    have fI:=hid (show Has (w9.setCell ⟨q,1+kf*4+1,none⟩ (.int .i64 (s.off+(ct:Int)))).drew (pt g4 zA::Bytes (.slice p9 ct c9) ((x.data.drop fr).take ct)::Rtb q g c R (S.ak.set kf {s with off:=s.off+(ct:Int)})::L) from((Rtb.bI (fJ.out.re 6 [5,0,1,2,3,4]) jU.out (s.off+(ct:Int))).drew).re 6 [4,1,0]);have iI:=hid ((gQ.out.set ⟨q,1+kf*4+1,none⟩ (.int .i64 (s.off+(ct:Int)))).drew);clear hc1 ht1 fJ gQ fP gZ;generalize (w9.setCell ⟨q,1+kf*4+1,none⟩ (.int .i64 (s.off+(ct:Int)))).drew=w8 at *;obtain⟨hz0,hz1,hz2,hz3,gP,gH,hy0,hy1,hy2,hy3,hy4,gG⟩:=Has.az (fI.out);go_wp2_with fail
    have h1:=(fI.out).ans ((⟨0,0,0,0,(x.data.drop fr).take ct,[]⟩:Ans)) ((.slice p9 ct c9)) (eS);refine bodyPost_ret (eV rfl rfl h1) rfl ?_;rw[HR.out];refine⟨.slice p9 ct c9,rfl,(fh.2 ⟨g,c,R,HS.out.aM _ _,?_⟩:Has _ (Rts q _::_)).p1,iI.out.ans _ _ _ _ _ _ _⟩;rw[oJ.out];exact h1.drop.p1
  ·have hkb:(o.aa==5)=true:=by rw[hkd];rfl
   have Co:=hid hkd;clear hkd;unfold opV opC;go_enter Tryz.func67,Tryz.ntmps67
   go_upto_region 1 with fail
   obtain⟨w1,g3,g4,ew,e4,e3,eT,ff⟩:=f9 HO.out o ov;rw[ew,e4,e3];clear HO ew e4 e3;have ij:=hid (fun(w:World)(L':List HP)(h:Has w (pt g3 (.cells #[.int .i64 o.aa,.int .i64 o.fd,.int .i64 o.n,.int .i64 o.off,.int .i64 o.af,sV o.ag,sV o.aj,ov] 33)::L'))=>(by rw[←sS.out];exact⟨h.cells 0,h.cells 1,h.cells 2,h.cells 3,h.cells 7⟩:w.cell? ⟨g3,0,none⟩=some (.int .i64 o.aa)∧w.cell? ⟨g3,1,none⟩=some (.int .i64 (kf:Int))∧w.cell? ⟨g3,2,none⟩=some (.int .i64 o.n)∧w.cell? ⟨g3,3,none⟩=some (.int .i64 o.off)∧w.cell? ⟨g3,7,none⟩=some ov));have jN:=hid (fun(w:World)(R':List Rn)(L':List HP)(h:Has w (Rtb q g c R' S.ak::L'))=>(by rw[←HN.out,←Bf.out];exact gK h jU.out:w.cell? ⟨q,1+kf*4,none⟩=some (.int .i64 (n:Int))∧w.cell? ⟨q,1+kf*4+1,none⟩=some (.int .i64 s.off)∧w.cell? ⟨q,1+kf*4+2,none⟩=some (.int .i64 s.af)∧w.cell? ⟨q,1+kf*4+3,none⟩=some (.bool true)));have eZ:=hid eT.out.drew;have fu:=hid ff.out.drew;refine eP (fun w'=>w'.cell? ⟨g3,1,none⟩=some (.int .i64 (kf:Int))∧True) (by kernel_rfl) (by kernel_rfl) ⟨(ij.out _ _ eZ.out.p1).2.1,trivial⟩ ?_;clear eT ff;generalize w1.drew=w2 at *;repeat (first|refine wr2 ?_|refine wk ?_)
   refine wa fun K hK=>?_;go_simp
   refine(gR q _ S.ak (kf:Int) w2 _ HT.out (show Has w2 (RTe q _ S.ak::_) from fy.1 (eZ.out.re 3 [2,0,1]))).mono ?_;rintro e w' ⟨rfl,rfl⟩;rw[lr.out];try dsimp only
   refine hK.out _ _ ⟨(ij.out _ _ eZ.out.p1).2.1,trivial⟩ ?_;clear hK K;try simp only[Act.put,zpu]
   repeat (first|refine wr2 ?_|refine wk ?_)
   refine eR ?_;go_upto_region 3 with fail
   have eW:=hid eZ.out.drew;have fH:=hid fu.out.drew;refine eP (fun w'=>w'.cell? ⟨g3,1,none⟩=some (.int .i64 (kf:Int))∧w'.cell? ⟨q,1+kf*4,none⟩=some (.int .i64 (n:Int))∧w'.cell? ⟨q,1+kf*4+1,none⟩=some (.int .i64 s.off)∧w'.cell? ⟨q,1+kf*4+2,none⟩=some (.int .i64 s.af)∧w'.cell? ⟨q,1+kf*4+3,none⟩=some (.bool true)) (by kernel_rfl) (by kernel_rfl) ⟨(ij.out _ _ (eW.out.p1)).2.1,jN.out _ _ _ (eW.out.p2)⟩ ?_;clear eZ fu;generalize w2.drew=w3 at *;repeat (first|refine wr5 ?_|refine wk ?_)
   refine wa fun K hK=>?_;go_simp
   have fa:=hid (eW.out.alloc (.cells #[.int .i64 0,.int .i64 0,.int .i64 0,.bool false] 93));have jk:=hid (fH.out.alloc (.cells #[.int .i64 0,.int .i64 0,.int .i64 0,.bool false] 93));refine hK.out _ _ ⟨(ij.out _ _ (fa.out.p2)).2.1,jN.out _ _ _ (fa.out.p3)⟩ ?_;clear hK K eW fH;try simp only[Act.put,zpu]
   generalize w3.heap.size=g5 at *;generalize w3.alloc (.cells #[.int .i64 0,.int .i64 0,.int .i64 0,.bool false] 93)=wZ9 at *;repeat (first|refine wr5 ?_|refine wk ?_)
   have ha0:=fa.out.e0;have ha1:=fa.out.e1;have ha2:=fa.out.e2;have mh:=fa.out.e3;have hb0:=fa.out.thaw 0;have hb1:=fa.out.thaw 1;have hb2:=fa.out.thaw 2;have hb3:=fa.out.thaw 3;refine wa fun K hK=>?_;go_simp
   have fg:=hid (fa.out.cg (n:Int) s.off s.af true);have fO:=hid ((((jk.out.set ⟨g5,0,none⟩ (.int .i64 (n:Int))).set ⟨g5,1,none⟩ (.int .i64 s.off)).set ⟨g5,2,none⟩ (.int .i64 s.af)).set ⟨g5,3,none⟩ (.bool true));refine hK.out _ _ ⟨(ij.out _ _ (fg.out.p2)).2.1,jN.out _ _ _ (fg.out.p3)⟩ ?_;clear hK K fa jk ha0 ha1 ha2 mh hb0 hb1 hb2 hb3;try simp only[Act.put,zpu]
   generalize (((wZ9.setCell ⟨g5,0,none⟩ (.int .i64 (n:Int))).setCell ⟨g5,1,none⟩ (.int .i64 s.off)).setCell ⟨g5,2,none⟩ (.int .i64 s.af)).setCell ⟨g5,3,none⟩ (.bool true)=w4 at *;repeat (first|refine wr5 ?_|refine wk ?_)
   refine eR ?_;go_upto_region 4 with fail
   have fi:=hid fg.out.drew;have ge:=hid fO.out.drew;refine eP (fun w'=>w'.cell? ⟨g5,0,none⟩=some (.int .i64 (n:Int))∧w'.cell? ⟨q,0,none⟩=some (.slice (some ⟨g,0,none⟩) R.length c)∧w'.cell? ⟨g,n*7,none⟩=some (.int .i64 x.aa)∧w'.cell? ⟨g,n*7+1,none⟩=some (.int .i64 r.ab)∧w'.cell? ⟨g,n*7+2,none⟩=some (.int .i64 r.am)∧w'.cell? ⟨g,n*7+3,none⟩=some (.int .i64 r.aq)∧w'.cell? ⟨g,n*7+4,none⟩=some (.slice pe r.ai.length ce)∧w'.cell? ⟨g,n*7+5,none⟩=some (.slice pd x.data.length cd)∧w'.cell? ⟨g,n*7+6,none⟩=some (.slice pw r.there.length cw)) (by kernel_rfl) (by kernel_rfl) ⟨fi.out.cells 0,pW.out _ _ fi.out.p3⟩ ?_;clear fg fO;generalize w4.drew=w5 at *;repeat (first|refine wr9 ?_|refine wk ?_)
   refine wa fun K hK=>?_;go_simp
   have fa:=hid (fi.out.alloc (.cells #[.int .i64 0,.int .i64 0,.int .i64 0,.int .i64 0,.slice none 0 0,.slice none 0 0,.slice none 0 0] 90));have jk:=hid (ge.out.alloc (.cells #[.int .i64 0,.int .i64 0,.int .i64 0,.int .i64 0,.slice none 0 0,.slice none 0 0,.slice none 0 0] 90));refine hK.out _ _ ⟨fa.out.p1.cells 0,pW.out _ _ fa.out.p4⟩ ?_;clear hK K fi ge;try simp only[Act.put,zpu]
   generalize w5.heap.size=g6 at *;generalize w5.alloc (.cells #[.int .i64 0,.int .i64 0,.int .i64 0,.int .i64 0,.slice none 0 0,.slice none 0 0,.slice none 0 0] 90)=wZ9 at *;repeat (first|refine wr9 ?_|refine wk ?_)
   have ha0:=fa.out.e0;have hb0:=fa.out.thaw 0;have ha1:=fa.out.e1;have hb1:=fa.out.thaw 1;have ha2:=fa.out.e2;have hb2:=fa.out.thaw 2;have mh:=fa.out.e3;have hb3:=fa.out.thaw 3;have s7:=fa.out.e4;have hb4:=fa.out.thaw 4;have wS:=fa.out.e5;have hb5:=fa.out.thaw 5;have ha6:=fa.out.e6;have hb6:=fa.out.thaw 6;refine wa fun K hK=>?_;go_simp
   have fq:=hid (fa.out.ch (.int .i64 x.aa) (.int .i64 r.ab) (.int .i64 r.am) (.int .i64 r.aq) (.slice pe r.ai.length ce) (.slice pd x.data.length cd) (.slice pw r.there.length cw));have gu:=hid (jk.out.ch g6 (.int .i64 x.aa) (.int .i64 r.ab) (.int .i64 r.am) (.int .i64 r.aq) (.slice pe r.ai.length ce) (.slice pd x.data.length cd) (.slice pw r.there.length cw));refine hK.out _ _ ⟨fq.out.p1.cells 0,pW.out _ _ fq.out.p4⟩ ?_;clear hK K fa jk ha0 ha1 ha2 mh s7 wS ha6 hb0 hb1 hb2 hb3 hb4 hb5 hb6;try simp only[Act.put,zpu]
   generalize (((((((wZ9.setCell ⟨g6,0,none⟩ (.int .i64 x.aa)).setCell ⟨g6,1,none⟩ (.int .i64 r.ab)).setCell ⟨g6,2,none⟩ (.int .i64 r.am)).setCell ⟨g6,3,none⟩ (.int .i64 r.aq)).setCell ⟨g6,4,none⟩ (.slice pe r.ai.length ce)).setCell ⟨g6,5,none⟩ (.slice pd x.data.length cd)).setCell ⟨g6,6,none⟩ (.slice pw r.there.length cw))=w6 at *;repeat (first|refine wr9 ?_|refine wk ?_)
   refine eR ?_;have hp0:=(ij.out _ _ fq.out.p3).1;have hp2:=(ij.out _ _ fq.out.p3).2.2.1;have hp3:=(ij.out _ _ fq.out.p3).2.2.2.1;have hf1:=fq.out.p1.e1;have hx0:=fq.out.e0;have hx5:=fq.out.e5;have hkb2:(x.aa==2)=false:=by have:=fu.out;simpa using this
   have jj:=hid (show S.read o.aa o.fd o.n o.off=(if o.n<0∨o.off<0 then(eQ 2,S) else(⟨0,0,0,0,(x.data.drop o.off.toNat).take o.n.toNat,[]⟩,S)) from by
    unfold Tre.read;rw[tM.out];simp only[HAT.out];rw[if_neg (by simp),Co.out];try simp only[eq_false (show ¬ (3:Int)=5 by decide),eq_false (show ¬ (5:Int)=3 by decide),false_and,true_and,or_false,if_false,if_true])
   by_cases h1:o.n<0
   ·have HR:=hid (by rw[jj.out,if_pos (.inl h1)]:S.read o.aa o.fd o.n o.off=(eQ 2,S))
    as_aux_lemma=>exact zba
   by_cases h2:o.off<0
   ·have HR:=hid (by rw[jj.out,if_pos (.inr h2)]:S.read o.aa o.fd o.n o.off=(eQ 2,S))
    as_aux_lemma=>exact zba
   have L6:(0:Int)≤o.off:=by omega
   obtain⟨fr,hfr⟩:∃ fr:Nat,min o.off.toNat x.data.length=fr:=⟨_,rfl⟩
   obtain⟨ct,hct⟩:∃ ct:Nat,min o.n.toNat (x.data.length-fr)=ct:=⟨_,rfl⟩
   have Be:=hid (by rw[←hct,←hfr];exact l8 _ _ _ L6 (by omega):(x.data.drop fr).take ct=(x.data.drop o.off.toNat).take o.n.toNat);have hm1:min o.off (x.data.length:Int)=(fr:Int):=by omega
   have hm2:min o.n ((x.data.length:Int)-(fr:Int))=(ct:Int):=by omega
   have hfl:fr≤x.data.length:=by omega
   have hcl:ct≤x.data.length-fr:=by omega
   have Mj:(fr:Int)≤(x.data.length:Int):=by omega
   have LV:(fr:Int)+(ct:Int)≤(x.data.length:Int):=by omega
   have LQ:(fr:Int)+(ct:Int)≤(cd:Int):=by omega
   have hfr0:(0:Int)≤(fr:Int):=by omega
   have EF:(0:Int)≤(ct:Int):=by omega
   have Pb:IntKind.i64.wrap ((fr:Int)+(ct:Int))=(fr:Int)+(ct:Int):=ft _ (by omega);have hwd:IntKind.i64.wrap ((x.data.length:Int)-(fr:Int))=(x.data.length:Int)-(fr:Int):=ft _ (by omega);have pI:=hid (by rw[List.length_take,List.length_drop];omega:((x.data.drop fr).take ct).length=ct);have tP:=hid hfl;have DN:=hid hcl;clear hfr hct hfl hcl;go_upto_region 13 with fail
   go_cut [9] (fun v wx=>∃ (p9:Option Addr) (c9:Nat) (w9:World),w9=wx∧v=.slice p9 ct c9∧Hid (Has w9 (Bytes (.slice p9 ct c9) ((x.data.drop fr).take ct)::pt g6 (.cells #[.int .i64 x.aa,.int .i64 r.ab,.int .i64 r.am,.int .i64 r.aq,.slice pe r.ai.length ce,.slice pd x.data.length cd,.slice pw r.there.length cw] 90)::pt g5 (.cells #[.int .i64 (n:Int),.int .i64 s.off,.int .i64 s.af,.bool true] 93)::pt g4 zA::pt g3 (.cells #[.int .i64 o.aa,.int .i64 o.fd,.int .i64 o.n,.int .i64 o.off,.int .i64 o.af,sV o.ag,sV o.aj,ov] 33)::Rtb q g c R S.ak::L))∧Hid (Keep w w9))
   case first =>
    as_aux_lemma=>exact zai
   case rest =>
    obtain⟨p9,c9,w9,rfl,rfl,fJ,gQ⟩:=hcut;clear fq gu hp2 hp3 hf1 hx0 hx5 hp0;have hp0:=(ij.out _ _ (fJ.out.re 6 [4,0,1,2,3,5])).1;rw[Co.out] at hp0;have HR:=hid (by rw[jj.out,if_neg (by omega),Be.out]:S.read o.aa o.fd o.n o.off=((⟨0,0,0,0,(x.data.drop fr).take ct,[]⟩:Ans),S));have gJ:=hid fJ.out.vs;obtain⟨hz0,hz1,hz2,hz3,gP,gH,hy0,hy1,hy2,hy3,hy4,gG⟩:=Has.az (gJ.out);go_wp2_with fail
    have h1:=(gJ.out).ans ((⟨0,0,0,0,(x.data.drop fr).take ct,[]⟩:Ans)) ((.slice p9 ct c9)) (eS);refine bodyPost_ret (eV rfl rfl h1) rfl ?_;rw[HR.out];exact⟨.slice p9 ct c9,rfl,(fh.2 ⟨g,c,R,HS.out,h1.drop.p1⟩:Has _ (Rts q S::_)).p1,gQ.out.ans _ _ _ _ _ _ _⟩
end Go.Proofs.YtmgpgbfgemebbaaGreatDoor
