/- Ends of proofs that occur more than once. -/
import Derived.WalkKit
import Derived.WalkSpells
import Derived.Deep.Quiet
import Derived.Deep.QuietTactic
import Derived.Orders
import Derived.WalkLawsBesides
import Derived.BigQuiet
import Derived.StillTailTactics
import Derived.Deep.DeepCutAuto
import Derived.Deep.CutBlock
import Derived.Maps.RangeWalk
import Derived.Shelf.Strings.Builder1
import Derived.Shelf.Strings.Builder2
import Derived.Shelf.Strings.OnBuilder
import Derived.Shelf.Small.Bits
import Derived.Shelf.Small.Strs
import Derived.Shelf.Strings.BuilderF
import Derived.Shelf.Strings.BuilderK
import Derived.Shelf.Strings.Builder2Cap
import Derived.Shelf.Strconv.Itoa0
import Derived.Shelf.LaysM
import Derived.Shelf.Strconv.Clone
import Derived.Shelf.Strings.Search1
import Derived.Shelf.Strings.Search2
import Derived.Shelf.Strings.Search3
import Derived.Shelf.Strings.Count
import Derived.Shelf.Strings.Shaped
import Derived.Shelf.Sort.Plain
import Derived.Shelf.Strings.Prefix
import Derived.Shelf.Strings.Split
import Derived.Shelf.Strings.SplitShaped
import Derived.Shelf.Unicode.Decode
import Derived.Shelf.Strings.RuneCount
import Derived.Shelf.Strings.Explode
import Derived.Shelf.Unicode.DecodeSlow
import Derived.Shelf.Strings.BuilderCap
import Derived.Shelf.Slices.Reverse
import Derived.Ground.Names2Prog
import Derived.Shelf.Slices.ReverseS
import Derived.Shelf.Slices.Clone
import Derived.Shelf.Slices.Cells
import Derived.Shelf.Slices.In.SortNone
import Derived.Shelf.Bytes.SlSearch0
import Derived.Shelf.Bytes.SlSmallAll
import Derived.Shelf.Bytes.SlEqualAll
import Derived.Shelf.Bytes.Small
import Derived.WalkMore
import Derived.Lib.AppendStr
import Derived.Laws.BytesArg
import Derived.Sort.Row
import Derived.Sort.Grow
import Derived.Shelf.SlIter.Nil
import Derived.Shelf.SlIter.Sorted
import Derived.Shelf.SlIter.Keys
import Derived.Shelf.SlGeneric
import Derived.Ground.GgzProg
import Derived.Shelf.SlIterI.Nil
import Derived.Maps.OwnIn
import Derived.Laws.CopyOwn
import Derived.Laws.IdiomCopy
import Derived.Laws.IdiomStrings
import Derived.Shelf.GgSortFunc.InsertionK
import Derived.Shelf.SlSortCmp.WholeK
import Derived.Ground.SlsfProg
import Derived.Lib.SlBytesConst
import Derived.ProofKit
import Derived.OpenShut
import Derived.ShutString
import Derived.ChangeOld
import Derived.Deep.Slices
import Derived.Shelf.SlMaps.Clone
import Derived.Lay
import Derived.LaidMore
import Derived.SevenTiedAt
import Derived.HandedShaped
import Derived.Shelf.Vars
import Derived.Stop.Joined
import Derived.Laws.IdiomArrays
import Derived.Lib.SmallJoins
import Derived.Test.YtmgpgbfgemebbaaGreatDoorProg
set_option linter.all false
set_option maxRecDepth 100000
set_option maxHeartbeats 16000000
namespace Go
abbrev zCl:=Calls Proofs.Tryz.prog
end Go
theorem zaa {p:Prop} (h:p:=by
 clear hkd hk hG hp ku hof hds hrd;have HO:=hid hO;clear hO;unfold opV opC;go_enter Tryz.func18,Tryz.ntmps18
 go_upto_region 1 with fail
 obtain⟨w1,g3,g4,ew,e4,e3,eT,ff⟩:=f9 HO.out o (.slice po ds.length co);rw[ew,e4,e3];clear HO ew e4 e3;have hp0:=eT.out.p1.e0;have hp1:=eT.out.p1.e1;have hp2:=eT.out.p1.e2;have hp3:=eT.out.p1.e3;have lP:=eT.out.p1.e4;have iK:=eT.out.p1.e5;have kI:=eT.out.p1.e6;have lU:=eT.out.p1.e7;go_wp2_with fail
 refine(tF.out w1 (pt g4 zA::pt g3 (.cells (opC o (.slice po ds.length co)) 33)::L) (fun w' h=>ir.out w' h.drop.drop) (eT.out.re 3 [2,0,1])).mono ?_;rintro e w2 ⟨dv,nv,rfl,hO2,hK2⟩;have eZ:=hid hO2;have fu:=hid ((ff.out).trans hK2);clear hO2 hK2;try dsimp only
 obtain⟨pd,cd,rfl,-⟩:=(Bytes.rd eZ.out).form;obtain⟨pn,cn,rfl,-⟩:=(Strs.rd eZ.out.p1).form;unfold fL ji;have eW:=hid eZ.out.vb;obtain⟨hz0,hz1,hz2,hz3,gP,gH,hy0,hy1,hy2,hy3,hy4,gG⟩:=Has.az (eW.out);go_wp2_with fail
 have h1:=(eW.out).ans (A) ((.slice pd A.data.length cd)) ((.slice pn A.ab.length cn));refine bodyPost_ret (eV rfl rfl h1) rfl ?_;exact⟨_,_,rfl,h1.drop,fu.out.ans _ _ _ _ _ _ _⟩):p:=h
theorem zab {p:Prop} (h:p:=by
 have mQ:=kbF hkd 18;clear hkd;unfold opV opC;go_enter Tryz.func74,Tryz.ntmps74
 go_upto_region 1 with fail
 obtain⟨w1,g3,g4,ew,e4,e3,eT,ff⟩:=f9 HO.out o ov;rw[ew,e4,e3];clear HO ew e4 e3;have hp0:=eT.out.p1.e0;have iK:=eT.out.p1.e5;go_wp2_with fail
 refine st (m0.out w1 _ (eT.out.re 3 [2,0,1])) (ff.out) fun w2 eZ fu=>?_;try dsimp only
 unfold rsV rsC;go_upto_region 2 with fail
 have eW:=hid (show Has (w2.alloc (.cells #[.int .i64 sd,sV pnm,.int .i64 pn] 72)) (pt w2.heap.size (.cells #[.int .i64 sd,sV pnm,.int .i64 pn] 72)::pt g4 zA::pt g3 (.cells #[.int .i64 o.aa,.int .i64 o.fd,.int .i64 o.n,.int .i64 o.off,.int .i64 o.af,sV o.ag,sV o.aj,ov] 33)::Rtb q g c R S.ak::L) from(show Has (w2.alloc (.cells #[.int .i64 sd,sV pnm,.int .i64 pn] 72)) (pt w2.heap.size (.cells #[.int .i64 sd,sV pnm,.int .i64 pn] 72)::Rtb q g c R S.ak::pt g4 zA::pt g3 (.cells #[.int .i64 o.aa,.int .i64 o.fd,.int .i64 o.n,.int .i64 o.off,.int .i64 o.af,sV o.ag,sV o.aj,ov] 33)::L) from eZ.out.alloc _).re 4 [0,2,3,1]);have fH:=hid (fu.out.alloc (.cells #[.int .i64 sd,sV pnm,.int .i64 pn] 72));clear eT ff eZ fu;generalize w2.alloc (.cells #[.int .i64 sd,sV pnm,.int .i64 pn] 72)=w3 at *;generalize w2.heap.size=g5 at *;by_cases he:pe≠0
 ·have HR:=hid (by rw[jj.out,if_pos he]:RR=eQ pe);go_wp2_with fail
  exact zda
 have he:pe=0:=Classical.byContradiction he;subst he;have heb:((0:Int) != 0)=false:=rfl;obtain⟨x,hx⟩:=oy.out (by trivial);have hlk:=tP.out (by trivial) x hx;obtain⟨n,r,hnn,hrn,hsn⟩:=HS.out.ae _ _ hx;subst hnn;have HX:=hid hx;have o7:=hid hlk;have jl:=hid hrn;have io:=hid hsn;have qi:=hid (jj.out.trans (if_neg (by simp)));rw[fC hx] at qi;have hni:(n:Int)<(R.length:Int):=by have:=(List.getElem?_eq_some_iff.1 hrn).1;omega
 have hn0:(0:Int)≤(n:Int):=by omega
 have FE:=hid (by have:=hsn.few HG.out hx;omega:r.ai.length≤900);clear hx hlk hrn hsn oy tP m0 jj;obtain⟨pe,ce,hev,-⟩:=(Rtb.aO eW.out.p3 jl.out).1.form;obtain⟨pd,cd,hdv,hcap,-⟩:=(Rtb.aO eW.out.p3 jl.out).2.1.form;obtain⟨pw,cw,oe,-⟩:=(Rtb.aO eW.out.p3 jl.out).2.2.form;rw[io.out.data] at hdv hcap;have qz:=hid (show x.data.length≤100000 from(HG.out.ax HX.out).size.1);have hdi:(x.data.length:Int)≤100000:=by have:=qz.out;omega
 have hci:(x.data.length:Int)≤(cd:Int):=by omega
 have HCAP:=hid hcap;have BL:=hid (show pd=none→cd=0 from fun e=>Rtb.bu eW.out.p3 jl.out (by rw[hdv,e]));have pW:=hid (fun(w:World) (L':List HP) (h:Has w (Rtb q g c R S.ak::L'))=>(show w.cell? ⟨q,0,none⟩=some (.slice (some ⟨g,0,none⟩) R.length c)∧w.cell? ⟨g,n*7,none⟩=some (.int .i64 x.aa)∧w.cell? ⟨g,n*7+1,none⟩=some (.int .i64 r.ab)∧w.cell? ⟨g,n*7+2,none⟩=some (.int .i64 r.am)∧w.cell? ⟨g,n*7+3,none⟩=some (.int .i64 r.aq)∧w.cell? ⟨g,n*7+4,none⟩=some (.slice pe r.ai.length ce)∧w.cell? ⟨g,n*7+5,none⟩=some (.slice pd x.data.length cd)∧w.cell? ⟨g,n*7+6,none⟩=some (.slice pw r.there.length cw) from by
  have h1:=Rtb.at_ h jl.out;rw[hev,hdv,oe,io.out.aa] at h1;exact⟨Rtb.nv h,h1⟩))
 have ir:=hid (fun(w:World) (L':List HP) (h:Has w (Rtb q g c R S.ak::L'))=>(by have:=(Rtb.aO h jl.out).2.1;rw[hdv,io.out.data] at this;exact this:Rd w (.slice pd x.data.length cd) 1 x.data.length (bc x.data)));clear hev hdv oe hcap;go_upto_region 4 with fail
 have fi:=hid eW.out.drew;have ge:=hid fH.out.drew;refine eP (fun w'=>w'.cell? ⟨g5,2,none⟩=some (.int .i64 (n:Int))∧w'.cell? ⟨q,0,none⟩=some (.slice (some ⟨g,0,none⟩) R.length c)∧w'.cell? ⟨g,n*7,none⟩=some (.int .i64 x.aa)∧w'.cell? ⟨g,n*7+1,none⟩=some (.int .i64 r.ab)∧w'.cell? ⟨g,n*7+2,none⟩=some (.int .i64 r.am)∧w'.cell? ⟨g,n*7+3,none⟩=some (.int .i64 r.aq)∧w'.cell? ⟨g,n*7+4,none⟩=some (.slice pe r.ai.length ce)∧w'.cell? ⟨g,n*7+5,none⟩=some (.slice pd x.data.length cd)∧w'.cell? ⟨g,n*7+6,none⟩=some (.slice pw r.there.length cw)) (by kernel_rfl) (by kernel_rfl) ⟨fi.out.cells 2,pW.out _ _ fi.out.p3⟩ ?_;clear eW fH;generalize w3.drew=w5 at *;repeat (first|refine wr9 ?_|refine wk ?_)
 refine wa fun K hK=>?_;go_simp
 have fa:=hid (fi.out.alloc (.cells #[.int .i64 0,.int .i64 0,.int .i64 0,.int .i64 0,.slice none 0 0,.slice none 0 0,.slice none 0 0] 90));have jk:=hid (ge.out.alloc (.cells #[.int .i64 0,.int .i64 0,.int .i64 0,.int .i64 0,.slice none 0 0,.slice none 0 0,.slice none 0 0] 90));refine hK.out _ _ ⟨fa.out.p1.cells 2,pW.out _ _ fa.out.p4⟩ ?_;clear hK K fi ge;try simp only[Act.put,zpu]
 generalize w5.heap.size=g6 at *;generalize w5.alloc (.cells #[.int .i64 0,.int .i64 0,.int .i64 0,.int .i64 0,.slice none 0 0,.slice none 0 0,.slice none 0 0] 90)=wZ9 at *;repeat (first|refine wr9 ?_|refine wk ?_)
 have ha0:=fa.out.e0;have hb0:=fa.out.thaw 0;have ha1:=fa.out.e1;have hb1:=fa.out.thaw 1;have ha2:=fa.out.e2;have hb2:=fa.out.thaw 2;have mh:=fa.out.e3;have hb3:=fa.out.thaw 3;have s7:=fa.out.e4;have hb4:=fa.out.thaw 4;have wS:=fa.out.e5;have hb5:=fa.out.thaw 5;have ha6:=fa.out.e6;have hb6:=fa.out.thaw 6;refine wa fun K hK=>?_;go_simp
 have fq:=hid (fa.out.ch (.int .i64 x.aa) (.int .i64 r.ab) (.int .i64 r.am) (.int .i64 r.aq) (.slice pe r.ai.length ce) (.slice pd x.data.length cd) (.slice pw r.there.length cw));have gu:=hid (jk.out.ch g6 (.int .i64 x.aa) (.int .i64 r.ab) (.int .i64 r.am) (.int .i64 r.aq) (.slice pe r.ai.length ce) (.slice pd x.data.length cd) (.slice pw r.there.length cw));refine hK.out _ _ ⟨fq.out.p1.cells 2,pW.out _ _ fq.out.p4⟩ ?_;clear hK K fa jk ha0 ha1 ha2 mh s7 wS ha6 hb0 hb1 hb2 hb3 hb4 hb5 hb6;try simp only[Act.put,zpu]
 generalize (((((((wZ9.setCell ⟨g6,0,none⟩ (.int .i64 x.aa)).setCell ⟨g6,1,none⟩ (.int .i64 r.ab)).setCell ⟨g6,2,none⟩ (.int .i64 r.am)).setCell ⟨g6,3,none⟩ (.int .i64 r.aq)).setCell ⟨g6,4,none⟩ (.slice pe r.ai.length ce)).setCell ⟨g6,5,none⟩ (.slice pd x.data.length cd)).setCell ⟨g6,6,none⟩ (.slice pw r.there.length cw))=w6 at *;repeat (first|refine wr9 ?_|refine wk ?_)
 refine eR ?_;have hk0:=fq.out.p3.e0;have hx0:=fq.out.e0;have hx1:=fq.out.e1;have hx4:=fq.out.e4;have hx5:=fq.out.e5;have hle:(r.ai.length:Int)≤900:=by have:=FE.out;omega
 have hwr:IntKind.i64.wrap ((x.data.length:Int)+(r.ai.length:Int))=(x.data.length:Int)+(r.ai.length:Int):=ft _ (by omega);have hmx:max r.ab 1=r.ab:=by have:=o7.out;rw[io.out.ab];omega
 have rI:=hid fq.out.vf;have HR:=hid (by rw[qi.out,io.out.ai.length_eq,io.out.ab]:RR=⟨0,(x.data.length:Int)+(r.ai.length:Int),x.aa,r.ab,[],[]⟩);obtain⟨hz0,hz1,hz2,hz3,gP,gH,hy0,hy1,hy2,hy3,hy4,gG⟩:=Has.az (rI.out);go_wp2_with fail
 have h1:=(rI.out).ans ((⟨0,(x.data.length:Int)+(r.ai.length:Int),x.aa,r.ab,[],[]⟩:Ans)) (eS) (eS);refine bodyPost_ret (eV rfl rfl h1) rfl ?_;rw[HR.out];exact⟨eS,eS,rfl,(((show Has _ (Rts q S::L) from fh.2 ⟨g,c,R,HS.out,h1.drop⟩).al gx 1).al 5 1),gu.out.ans _ _ _ _ _ _ _⟩):p:=h
theorem zac {p:Prop} (h:p:=by
 clear hkd;unfold opV opC;go_enter Tryz.func67,Tryz.ntmps67
 go_upto_region 1 with fail
 obtain⟨w1,g3,g4,ew,e4,e3,eT,ff⟩:=f9 HO.out o ov;rw[ew,e4,e3];clear HO ew e4 e3;have ij:=hid (fun(w:World) (L':List HP) (h:Has w (pt g3 (.cells #[.int .i64 o.aa,.int .i64 o.fd,.int .i64 o.n,.int .i64 o.off,.int .i64 o.af,sV o.ag,sV o.aj,ov] 33)::L'))=>(by rw[←sS.out];exact⟨h.cells 0,h.cells 1,h.cells 2,h.cells 3,h.cells 7⟩:w.cell? ⟨g3,0,none⟩=some (.int .i64 o.aa)∧w.cell? ⟨g3,1,none⟩=some (.int .i64 (kf:Int))∧w.cell? ⟨g3,2,none⟩=some (.int .i64 o.n)∧w.cell? ⟨g3,3,none⟩=some (.int .i64 o.off)∧w.cell? ⟨g3,7,none⟩=some ov));have jN:=hid (fun(w:World) (R':List Rn) (L':List HP) (h:Has w (Rtb q g c R' S.ak::L'))=>(by rw[←HN.out,←Bf.out];exact gK h jU.out:w.cell? ⟨q,1+kf*4,none⟩=some (.int .i64 (n:Int))∧w.cell? ⟨q,1+kf*4+1,none⟩=some (.int .i64 s.off)∧w.cell? ⟨q,1+kf*4+2,none⟩=some (.int .i64 s.af)∧w.cell? ⟨q,1+kf*4+3,none⟩=some (.bool true)));have eZ:=hid eT.out.drew;have fu:=hid ff.out.drew;refine eP (fun w'=>w'.cell? ⟨g3,1,none⟩=some (.int .i64 (kf:Int))∧True) (by kernel_rfl) (by kernel_rfl) ⟨(ij.out _ _ eZ.out.p1).2.1,trivial⟩ ?_;clear eT ff;generalize w1.drew=w2 at *;repeat (first|refine wr2 ?_|refine wk ?_)
 refine wa fun K hK=>?_;go_simp
 refine(gR q _ S.ak (kf:Int) w2 _ HT.out (show Has w2 (RTe q _ S.ak::_) from fy.1 (eZ.out.re 3 [2,0,1]))).mono ?_;rintro e w' ⟨rfl,rfl⟩;rw[lr.out];try dsimp only
 refine hK.out _ _ ⟨(ij.out _ _ eZ.out.p1).2.1,trivial⟩ ?_;clear hK K;try simp only[Act.put,zpu]
 repeat (first|refine wr2 ?_|refine wk ?_)
 refine eR ?_;go_upto_region 3 with fail
 have eW:=hid eZ.out.drew;have fH:=hid fu.out.drew;refine eP (fun w'=>w'.cell? ⟨g3,1,none⟩=some (.int .i64 (kf:Int))∧w'.cell? ⟨q,1+kf*4,none⟩=some (.int .i64 (n:Int))∧w'.cell? ⟨q,1+kf*4+1,none⟩=some (.int .i64 s.off)∧w'.cell? ⟨q,1+kf*4+2,none⟩=some (.int .i64 s.af)∧w'.cell? ⟨q,1+kf*4+3,none⟩=some (.bool true)) (by kernel_rfl) (by kernel_rfl) ⟨(ij.out _ _ (eW.out.p1)).2.1,jN.out _ _ _ (eW.out.p2)⟩ ?_;clear eZ fu;generalize w2.drew=w3 at *;repeat (first|refine wr5 ?_|refine wk ?_)
 refine wa fun K hK=>?_;go_simp
 have fa:=hid (eW.out.alloc (.cells #[.int .i64 0,.int .i64 0,.int .i64 0,.bool false] 93));have jk:=hid (fH.out.alloc (.cells #[.int .i64 0,.int .i64 0,.int .i64 0,.bool false] 93));refine hK.out _ _ ⟨(ij.out _ _ (fa.out.p2)).2.1,jN.out _ _ _ (fa.out.p3)⟩ ?_;clear hK K eW fH;try simp only[Act.put,zpu]
 generalize w3.heap.size=g5 at *;generalize w3.alloc (.cells #[.int .i64 0,.int .i64 0,.int .i64 0,.bool false] 93)=wZ9 at *;repeat (first|refine wr5 ?_|refine wk ?_)
 have ha0:=fa.out.e0;have ha1:=fa.out.e1;have ha2:=fa.out.e2;have mh:=fa.out.e3;have hb0:=fa.out.thaw 0;have hb1:=fa.out.thaw 1;have hb2:=fa.out.thaw 2;have hb3:=fa.out.thaw 3;refine wa fun K hK=>?_;go_simp
 have fg:=hid (fa.out.cg (n:Int) s.off s.af true);have fO:=hid ((((jk.out.set ⟨g5,0,none⟩ (.int .i64 (n:Int))).set ⟨g5,1,none⟩ (.int .i64 s.off)).set ⟨g5,2,none⟩ (.int .i64 s.af)).set ⟨g5,3,none⟩ (.bool true));refine hK.out _ _ ⟨(ij.out _ _ (fg.out.p2)).2.1,jN.out _ _ _ (fg.out.p3)⟩ ?_;clear hK K fa jk ha0 ha1 ha2 mh hb0 hb1 hb2 hb3;try simp only[Act.put,zpu]
 generalize (((wZ9.setCell ⟨g5,0,none⟩ (.int .i64 (n:Int))).setCell ⟨g5,1,none⟩ (.int .i64 s.off)).setCell ⟨g5,2,none⟩ (.int .i64 s.af)).setCell ⟨g5,3,none⟩ (.bool true)=w4 at *;repeat (first|refine wr5 ?_|refine wk ?_)
 refine eR ?_;go_upto_region 4 with fail
 have fi:=hid fg.out.drew;have ge:=hid fO.out.drew;refine eP (fun w'=>w'.cell? ⟨g5,0,none⟩=some (.int .i64 (n:Int))∧w'.cell? ⟨q,0,none⟩=some (.slice (some ⟨g,0,none⟩) R.length c)∧w'.cell? ⟨g,n*7,none⟩=some (.int .i64 x.aa)∧w'.cell? ⟨g,n*7+1,none⟩=some (.int .i64 r.ab)∧w'.cell? ⟨g,n*7+2,none⟩=some (.int .i64 r.am)∧w'.cell? ⟨g,n*7+3,none⟩=some (.int .i64 r.aq)∧w'.cell? ⟨g,n*7+4,none⟩=some (.slice pe r.ai.length ce)∧w'.cell? ⟨g,n*7+5,none⟩=some (.slice pd x.data.length cd)∧w'.cell? ⟨g,n*7+6,none⟩=some (.slice pw r.there.length cw)) (by kernel_rfl) (by kernel_rfl) ⟨fi.out.cells 0,pW.out _ _ fi.out.p3⟩ ?_;clear fg fO;generalize w4.drew=w5 at *;repeat (first|refine wr9 ?_|refine wk ?_)
 refine wa fun K hK=>?_;go_simp
 have fa:=hid (fi.out.alloc (.cells #[.int .i64 0,.int .i64 0,.int .i64 0,.int .i64 0,.slice none 0 0,.slice none 0 0,.slice none 0 0] 90));have jk:=hid (ge.out.alloc (.cells #[.int .i64 0,.int .i64 0,.int .i64 0,.int .i64 0,.slice none 0 0,.slice none 0 0,.slice none 0 0] 90));refine hK.out _ _ ⟨fa.out.p1.cells 0,pW.out _ _ fa.out.p4⟩ ?_;clear hK K fi ge;try simp only[Act.put,zpu]
 generalize w5.heap.size=g6 at *;generalize w5.alloc (.cells #[.int .i64 0,.int .i64 0,.int .i64 0,.int .i64 0,.slice none 0 0,.slice none 0 0,.slice none 0 0] 90)=wZ9 at *;repeat (first|refine wr9 ?_|refine wk ?_)
 have ha0:=fa.out.e0;have hb0:=fa.out.thaw 0;have ha1:=fa.out.e1;have hb1:=fa.out.thaw 1;have ha2:=fa.out.e2;have hb2:=fa.out.thaw 2;have mh:=fa.out.e3;have hb3:=fa.out.thaw 3;have s7:=fa.out.e4;have hb4:=fa.out.thaw 4;have wS:=fa.out.e5;have hb5:=fa.out.thaw 5;have ha6:=fa.out.e6;have hb6:=fa.out.thaw 6;refine wa fun K hK=>?_;go_simp
 have fq:=hid (fa.out.ch (.int .i64 x.aa) (.int .i64 r.ab) (.int .i64 r.am) (.int .i64 r.aq) (.slice pe r.ai.length ce) (.slice pd x.data.length cd) (.slice pw r.there.length cw));have gu:=hid (jk.out.ch g6 (.int .i64 x.aa) (.int .i64 r.ab) (.int .i64 r.am) (.int .i64 r.aq) (.slice pe r.ai.length ce) (.slice pd x.data.length cd) (.slice pw r.there.length cw));refine hK.out _ _ ⟨fq.out.p1.cells 0,pW.out _ _ fq.out.p4⟩ ?_;clear hK K fa jk ha0 ha1 ha2 mh s7 wS ha6 hb0 hb1 hb2 hb3 hb4 hb5 hb6;try simp only[Act.put,zpu]
 generalize (((((((wZ9.setCell ⟨g6,0,none⟩ (.int .i64 x.aa)).setCell ⟨g6,1,none⟩ (.int .i64 r.ab)).setCell ⟨g6,2,none⟩ (.int .i64 r.am)).setCell ⟨g6,3,none⟩ (.int .i64 r.aq)).setCell ⟨g6,4,none⟩ (.slice pe r.ai.length ce)).setCell ⟨g6,5,none⟩ (.slice pd x.data.length cd)).setCell ⟨g6,6,none⟩ (.slice pw r.there.length cw))=w6 at *;repeat (first|refine wr9 ?_|refine wk ?_)
 refine eR ?_;have hp0:=(ij.out _ _ fq.out.p3).1;have hp2:=(ij.out _ _ fq.out.p3).2.2.1;have hp3:=(ij.out _ _ fq.out.p3).2.2.2.1;have hf1:=fq.out.p1.e1;have hx0:=fq.out.e0;have hx5:=fq.out.e5;have hkb2:(x.aa==2)=true:=by rw[fu.out];rfl
 go_wp2_with fail
 have HC:=hid (gk (8:Int) w6 (pt g4 zA::Rtb q g c R S.ak::L) (fq.out.re 5 [2,4]));have kz:=gu;exact lv):p:=h
theorem zad {p:Prop} (h:p:=by
 by_cases hf1:fc o.af 1=0
 ·have hfb:(bits BinOp.and IntKind.i64 o.af 1 != 0)=false:=by simpa[fc] using hf1
  go_wp2_with fail
  go_meet
  exact⟨_,fp,rfl,eW,fH,hid ((if_pos (.inr rfl)).trans ((if_neg (fun h=>h hf1)).symm.trans HR1.out)),hid fun _ h=>absurd rfl h⟩
 ·have hfb:(bits BinOp.and IntKind.i64 o.af 1 != 0)=true:=by simpa[fc] using hf1
  have HR2:=hid ((if_pos hf1).symm.trans HR1.out);have iK:=eW.out.p2.e5;go_upto_region 5 with fail
  go_cut [6,7] (fun p6 e7 wx=>∃ (w4:World) (g6:Nat),w4=wx∧e7=.int .i64 e1∧p6=.pointer (some ⟨g6,0,none⟩)∧Hid (Has w4 (pt g6 (.cells (spC s1) 102)::pt g5 (.cells (spC fp) 102)::pt g4 zA::pt g3 (.cells (opC o ov) 33)::Trc q S::L))∧Hid (Keep w w4))
  case first =>
   go_wp2_with fail
   refine st (iY.out w3 _ (((HM.out.cons (pt g3 (.cells (opC o ov) 33))).cons (pt g4 zA)).cons (pt g5 (.cells (spC fp) 102))) (eW.out.re 4 [3,0,1,2])) (fH.out) fun w4 fg fO=>?_;try dsimp only
   unfold spV spC;go_wp2_with fail
   go_meet
   exact⟨_,_,rfl,rfl,rfl,hid ((fg.out.alloc (.cells (spC s1) 102)).re 5 [0,2,3,4,1]),hid (fO.out.alloc _)⟩
  case rest =>
   obtain⟨w4,g6,rfl,rfl,rfl,fg,fO⟩:=hcut;clear lP iK;have fa:=hid fg.out.vf;obtain⟨hz0,hz1,hz2,hz3,gP,gH,hy0,hy1,hy2,hy3,hy4,gG⟩:=Has.az (fa.out);have lP:=fg.out.p3.e4;have k0:w4.cell? ⟨g6,0,none⟩=some (.int .i64 s1.ae):=(fg.out).cells 0;have k1:w4.cell? ⟨g6,1,none⟩=some (.int .i64 s1.dir):=(fg.out).cells 1;have k2:w4.cell? ⟨g6,2,none⟩=some (sV s1.name):=(fg.out).cells 2;have kt0:=(fg.out).thaw 0;have kt1:=(fg.out).thaw 1;have kt2:=(fg.out).thaw 2;by_cases he1:e1=0
   ·subst he1;have HR3:=hid ((if_neg (fun h=>h rfl)).symm.trans HR2.out);by_cases hx:s1.ae≠0∧fc o.af 2≠0
    ·have HRR:=hid (by rw[←HR3.out,if_pos hx]:R=(eQ 6,S));have hxa:(s1.ae != 0)=true:=by simpa using hx.1
     have hxb:(bits BinOp.and IntKind.i64 o.af 2 != 0)=true:=by simpa[fc] using hx.2
     go_wp2_with fail
     have HC:=hid (gD (6:Int) w4 (pt g4 zA::Trc q S::L) fa.out);have kz:=fO;exact lv
    ·have HR4:=hid ((if_neg hx).symm.trans HR3.out);have HT1:=hid (JF.out rfl);go_upto_region 8 with fail
     go_cut [50] (fun a wx=>wx=w4∧a=.bool false)
     case first =>
      by_cases kP:s1.ae=0
      ·have hxa:(s1.ae != 0)=false:=by simpa using kP
       exact zc5
      ·have hxa:(s1.ae != 0)=true:=by simpa using kP
       have hxb:(bits BinOp.and IntKind.i64 o.af 2 != 0)=false:=by
        have:fc o.af 2=0:=Classical.byContradiction fun h=>hx ⟨kP,h⟩;simpa[fc] using this
       exact zc5
     case rest =>
      obtain⟨hwx,rfl⟩:=hcut;have jK:=hwx.symm;subst jK;have v0:w4.cell? ⟨g5,0,none⟩=some (.int .i64 0):=(fg.out.p1).cells 0;have v1:w4.cell? ⟨g5,1,none⟩=some (.int .i64 0):=(fg.out.p1).cells 1;have v2:w4.cell? ⟨g5,2,none⟩=some (sV []):=(fg.out.p1).cells 2;have vt0:=(fg.out.p1).thaw 0;have vt1:=(fg.out.p1).thaw 1;have vt2:=(fg.out.p1).thaw 2;go_wp2_with fail
      go_meet
      refine⟨_,s1,rfl,hid ((show Has w4 (pt g5 (.cells (spC fp) 102)::pt g4 zA::pt g3 (.cells (opC o ov) 33)::Trc q S::L) from fg.out.re 5 [1,2,3,4]).aS s1),hid (fO.out.aS _ _ _ _),HR4,hid fun _ _=>⟨HT1.out.1,HT1.out.2.1⟩⟩
   ·have HRR:=hid (by rw[←HR2.out,if_pos he1]:R=(eQ e1,S));go_wp2_with fail
    have HC:=hid (gD e1 w4 (pt g4 zA::Trc q S::L) fa.out);have kz:=fO;exact lv):p:=h
theorem zae {p:Prop} (h:p:=by
 go_upto_region 6 with fail
 refine eP (fun w'=>w'.cell? ⟨q,0,none⟩=some (.map (some m))∧w'.cell? ⟨g9,0,none⟩=some (.int .i64 s.ae)∧w'.cell? ⟨b,0,none⟩=some (.int .i64 x.aa)∧(Instr.lookup tNo (.map (some m)) (.int .i64 s.ae) false).run Tryz.prog w'=.ok (.pointer (some ⟨b,0,none⟩)) w') (by kernel_rfl) (by kernel_rfl) ⟨hcq,hd90,hcb0,hl⟩ ?_;repeat (first|refine wr4 ?_|refine wk ?_)
 refine eR ?_;clear iQ iP iS ja jf jh hc90 hc91 A9 eW fH;generalize w3.drew=w4 at *;have iQ:=gC.out.p2.e0;have iP:=gC.out.p2.e1;have iS:=gC.out.p2.e2;have ja:=gC.out.p2.thaw 0;have jf:=gC.out.p2.thaw 1;have jh:=gC.out.p2.thaw 2;have hc91:=gC.out.p1.e1;have A9:=gC.out.p1.e2;by_cases hk:x.aa=2
 ·have HRR:=hid (by rw[←HR2.out,if_pos hk]:R=(Tb.none4,8));go_wp2_with fail
  have h1:=(show Has w4 (pt g6 (.cells (ib Tb.none4) 122)::Trb q m f P S.last S.ak::L) from gC.out.re 3 [2,0]).eJ Tb.none4;refine bodyPost_ret (mg Tb.none4 rfl rfl rfl rfl h1) rfl ?_;rw[HRR.out];exact⟨_,rfl,fun h=>absurd h (by decide),h1.drop,((iG.out.set _ _).set _ _).set _ _⟩
 ·have HRR:=hid (by rw[←HR2.out,if_neg hk]:R=(s,0));have hl2:=Trg.look (n:=s.ae) (b:=b) (x:=x) (Trg.of gC.out.drew) hb;have hq2:=(Trb.cells gC.out.drew).1;have he0:w4.drew.cell? ⟨g9,0,none⟩=some (.int .i64 s.ae):=hd90;have he1:w4.drew.cell? ⟨g9,1,none⟩=some (.int .i64 s.off):=hc91;have he2:w4.drew.cell? ⟨g9,2,none⟩=some (.int .i64 s.af):=A9;have hf0:w4.drew.cell? ⟨g6,0,none⟩=some (.int .i64 0):=iQ;have hf1:w4.drew.cell? ⟨g6,1,none⟩=some (.int .i64 0):=iP;have hf2:w4.drew.cell? ⟨g6,2,none⟩=some (.int .i64 0):=iS;have hg0:=gC.out.drew.p2.thaw 0;have hg1:=gC.out.drew.p2.thaw 1;have hg2:=gC.out.drew.p2.thaw 2;go_upto_region 8 with fail
  refine eP (fun w'=>w'.cell? ⟨q,0,none⟩=some (.map (some m))∧w'.cell? ⟨g9,0,none⟩=some (.int .i64 s.ae)∧w'.cell? ⟨g9,1,none⟩=some (.int .i64 s.off)∧w'.cell? ⟨g9,2,none⟩=some (.int .i64 s.af)∧(Instr.lookup tNo (.map (some m)) (.int .i64 s.ae) false).run Tryz.prog w'=.ok (.pointer (some ⟨b,0,none⟩)) w') (by kernel_rfl) (by kernel_rfl) ⟨hq2,he0,he1,he2,hl2⟩ ?_;repeat (first|refine wr5 ?_|refine wk ?_)
  refine wa fun K hK=>?_;unfold Oper.wp;go_simp
  have fi:=hid (show Has (((w4.setCell ⟨g6,0,none⟩ (.int .i64 s.ae)).setCell ⟨g6,1,none⟩ (.int .i64 s.off)).setCell ⟨g6,2,none⟩ (.int .i64 s.af)).drew (pt g6 (.cells (ib s) 122)::Trb q m f P S.last S.ak::pt g9 (.cells (ib s) 122)::L) from((gC.out.re 3 [2,0,1]).eJ s).drew);have ge:=hid ((((iG.out.set ⟨g6,0,none⟩ (.int .i64 s.ae)).set ⟨g6,1,none⟩ (.int .i64 s.off)).set ⟨g6,2,none⟩ (.int .i64 s.af)).drew);refine hK.out _ _ ⟨(Trb.cells fi.out.drop).1,fi.out.p2.cells 0,fi.out.p2.cells 1,fi.out.p2.cells 2,Trg.look (n:=s.ae) (b:=b) (x:=x) (Trg.of fi.out.drop) hb⟩ ?_;clear hK K;try simp only[Act.put,zpu]
  clear hl2 hq2 he0 he1 he2 hf0 hf1 hf2 hg0 hg1 hg2 gC iG iQ iP iS ja jf jh hc91 A9 hcb0 hcq hd90 hl;generalize (((w4.setCell ⟨g6,0,none⟩ (.int .i64 s.ae)).setCell ⟨g6,1,none⟩ (.int .i64 s.off)).setCell ⟨g6,2,none⟩ (.int .i64 s.af)).drew=w5 at *;repeat (first|refine wr5 ?_|refine wk ?_)
  refine eR ?_;go_wp2_with fail
  refine bodyPost_ret (mg s rfl rfl rfl rfl (fi.out.re 3 [0,1])) rfl ?_;rw[HRR.out];exact⟨_,rfl,fun _=>⟨b,x,hb,hx,hk,rfl⟩,fi.out.re 3 [1],ge.out⟩):p:=h
theorem zaf {p:Prop} (h:p:=by
 have HR0:=hid (by unfold Tre.aD;simp[hkd]:S.aD o ds=(S.lasts o.fd,S));clear hkd hp ku hof hds;rcases hl:Tb.look S.ak o.fd with _|s
 ·have HR:=hid (by rw[HR0.out];unfold Tre.lasts Tb.get;rw[hl];rfl:S.aD o ds=(eQ 10,S));have lr:=hid (by simp[Tb.there,hl]:Tb.there S.ak o.fd=false);clear hl HR0;clear hrd;unfold opV opC;go_enter Tryz.func18,Tryz.ntmps18
  go_upto_region 1 with fail
  obtain⟨w1,g3,g4,ew,e4,e3,eT,ff⟩:=f9 HO.out o (.slice po ds.length co);rw[ew,e4,e3];clear HO ew e4 e3;have hp0:=eT.out.p1.e0;have hp1:=eT.out.p1.e1;go_upto_region 33 with fail
  have eZ:=hid eT.out.drew;have fu:=hid ff.out.drew;refine eP (fun w'=>w'.cell? ⟨g3,1,none⟩=some (.int .i64 o.fd)∧True) (by kernel_rfl) (by kernel_rfl) ⟨eZ.out.p1.cells 1,trivial⟩ ?_;clear eT ff hp0 hp1;generalize w1.drew=w2 at *;repeat (first|refine wr2 ?_|refine wk ?_)
  refine wa fun K hK=>?_;go_simp
  refine(gR q _ S.ak o.fd w2 _ HT.out (show Has w2 (RTe q _ S.ak::_) from fy.1 (eZ.out.re 3 [2,0,1]))).mono ?_;rintro e w' ⟨rfl,rfl⟩;rw[lr.out];try dsimp only
  refine hK.out _ _ ⟨eZ.out.p1.cells 1,trivial⟩ ?_;clear hK K;try simp only[Act.put,zpu]
  repeat (first|refine wr2 ?_|refine wk ?_)
  refine eR ?_;go_wp2_with fail
  refine(gk (10:Int) w2 _ (eZ.out.re 3 [0,2])).mono ?_;rintro e w9 ⟨rfl,mU,hK9⟩;have fJ:=hid (show Has w9 (pt g4 zA::Rtb q g c R S.ak::L) from mU);have gQ:=hid ((fu.out).trans hK9);clear mU hK9;unfold fL ji eQ;obtain⟨hz0,hz1,hz2,hz3,gP,gH,hy0,hy1,hy2,hy3,hy4,gG⟩:=Has.az (fJ.out);go_wp2_with fail
  have h1:=fJ.out.ans (eQ (10:Int)) eS eS;exact zdc
 ·have HR:=hid (by rw[HR0.out];unfold Tre.lasts Tb.get;rw[hl];rfl:S.aD o ds=(eQ 0,S));have lr:=hid (by simp[Tb.there,hl]:Tb.there S.ak o.fd=true);clear hl HR0;clear hrd;unfold opV opC;go_enter Tryz.func18,Tryz.ntmps18
  go_upto_region 1 with fail
  obtain⟨w1,g3,g4,ew,e4,e3,eT,ff⟩:=f9 HO.out o (.slice po ds.length co);rw[ew,e4,e3];clear HO ew e4 e3;have hp0:=eT.out.p1.e0;have hp1:=eT.out.p1.e1;go_upto_region 33 with fail
  have eZ:=hid eT.out.drew;have fu:=hid ff.out.drew;refine eP (fun w'=>w'.cell? ⟨g3,1,none⟩=some (.int .i64 o.fd)∧True) (by kernel_rfl) (by kernel_rfl) ⟨eZ.out.p1.cells 1,trivial⟩ ?_;clear eT ff hp0 hp1;generalize w1.drew=w2 at *;repeat (first|refine wr2 ?_|refine wk ?_)
  refine wa fun K hK=>?_;go_simp
  refine(gR q _ S.ak o.fd w2 _ HT.out (show Has w2 (RTe q _ S.ak::_) from fy.1 (eZ.out.re 3 [2,0,1]))).mono ?_;rintro e w' ⟨rfl,rfl⟩;rw[lr.out];try dsimp only
  refine hK.out _ _ ⟨eZ.out.p1.cells 1,trivial⟩ ?_;clear hK K;try simp only[Act.put,zpu]
  repeat (first|refine wr2 ?_|refine wk ?_)
  refine eR ?_;have rI:=hid eZ.out.ve;obtain⟨hz0,hz1,hz2,hz3,gP,gH,hy0,hy1,hy2,hy3,hy4,gG⟩:=Has.az (rI.out);go_wp2_with fail
  have h1:=(rI.out).ans (eQ 0) (eS) (eS);refine bodyPost_ret (eV rfl rfl h1) rfl ?_;rw[HR.out];exact⟨eS,eS,rfl,hI (gN _) (fh.2 ⟨g,c,R,HS.out,h1.drop⟩),fu.out.ans _ _ _ _ _ _ _⟩):p:=h
theorem zag {p:Prop} (h:p:=by
 have hq0:w4.drew.cell? ⟨q,0,none⟩=some (.map (some m)):=fg.out.p1.cells 0;have hq1:w4.drew.cell? ⟨q,1,none⟩=some (.int .i64 (S.last+1)):=fg.out.p1.cells 1;refine eP (fun w'=>w'.cell? ⟨q,0,none⟩=some (.map (some m))∧w'.cell? ⟨q,1,none⟩=some (.int .i64 (S.last+1))) (by kernel_rfl) (by kernel_rfl) ⟨hq0,hq1⟩ ?_;repeat (first|refine wr2 ?_|refine wk ?_)
 refine wa fun K hK=>?_;refine Af fg.out.drew (by simp only[pnB,List.length_map];exact hPl) tNo lq _ _ _ rfl rfl (S.last+1) (ts _ (by omega) (by omega)) rfl (some gn) trivial rfl ?_;intro w5 kk hK5;refine hK.out _ _ ⟨kk.p1.cells 0,kk.p1.cells 1⟩ ?_;clear hK K;try simp only[Act.put,zpu]
 have fi:=hid (n9.out _ kk);have ge:=hid (fO.out.drew.trans hK5);clear kk hK5 fg fO hq0 hq1;refine eR ?_;go_upto_region 9 with fail
 refine eP (fun w'=>w'.cell? ⟨q,1,none⟩=some (.int .i64 (S.last+1))∧w'.cell? ⟨gs,1,none⟩=some (.int .i64 s.dir)∧w'.cell? ⟨gs,2,none⟩=some (sV s.name)) (by kernel_rfl) (by kernel_rfl) ⟨Trc.last fi.out.drew,fi.out.drew.p1.cells 1,fi.out.drew.p1.cells 2⟩ ?_;repeat (first|refine wr3 ?_|refine wk ?_)
 refine wa fun K hK=>?_;go_simp
 refine st (EA q _ s.dir s.name (S.last+1) d _ _ _ ya.out.1.1 ya.out.1.2 ya.out.2 hk hl hm (by show (0:Int)≤0;decide) (by show (0:Int)<1000000;decide) fi.out.drew) (ge.out.drew) fun w6 fq gu=>?_;try dsimp only
 refine hK.out _ _ (⟨Trc.last fq.out,fq.out.p1.cells 1,fq.out.p1.cells 2⟩) ?_;clear hK K;try simp only[Act.put,zpu]
 refine eR ?_;have hq1:=Trc.last fq.out;go_wp2_with fail
 go_ret
 exact⟨rfl,by rw[Nt.out];exact fq.out.re 2 [0],gu.out⟩):p:=h
theorem zah {p:Prop} (h:p:=by
 have hat:S.at_ s'.ae=x:=by unfold Tre.at_;rw[hx];rfl
 have hx':=hx;rw[←fW.out.1] at hx';obtain⟨b,hb,hl⟩:=Trb.look wl.out.drew hx';obtain⟨dv,wv,nm,-,hc,-⟩:=Trb.ae wl.out.drew hb;have hcb0:w5.drew.cell? ⟨b,0,none⟩=some (.int .i64 x.aa):=hc 0;by_cases hk2:x.aa=2
 ·have hkb:(x.aa==2)=true:=by simpa using hk2
  by_cases hfl:fc o.af 32=0
  ·have hfb:(bits BinOp.and IntKind.i64 o.af 32 != 0)=false:=by simpa[fc] using hfl
   have HB2:=hid (show decide (s'.ae≠0∧(S.at_ s'.ae).aa=2∧fc o.af 32≠0)=false from decide_eq_false (fun h=>h.2.2 hfl));clear hn hc hk2 hfl;exact zcB
  ·have hfb:(bits BinOp.and IntKind.i64 o.af 32 != 0)=true:=by simpa[fc] using hfl
   have HB2:=hid (show decide (s'.ae≠0∧(S.at_ s'.ae).aa=2∧fc o.af 32≠0)=true from decide_eq_true ⟨hn,by rw[hat];exact hk2,hfl⟩);clear hn hc hk2 hfl;exact zcB
 ·have hkb:(x.aa==2)=false:=by simpa using hk2
  have HB2:=hid (show decide (s'.ae≠0∧(S.at_ s'.ae).aa=2∧fc o.af 32≠0)=false from decide_eq_false (fun h=>hk2 (by rw[hat] at h;exact h.2.1)));clear hn hc hk2;exact zcB):p:=h
theorem zai {p:Prop} (h:p:=by
 have hrd:=((ir.out w6 _ (fq.out.re 5 [4,0,1,2,3])).bE fr tP.out).bp ct DN.out;rw[Nat.mul_one,Nat.mul_one,yW] at hrd;have HT1:=hid (by have:=qz.out;omega:ct≤100000);by_cases hcf:cd=fr
 ·rw[if_pos hcf] at hrd;have hct:ct=0:=by omega
  subst hct;have KE:=hcf.symm;subst KE;rw[Nat.sub_self] at hrd;have AO:=hid hrd;clear hrd;go_wp2_with (at_builtin;refine fY rfl _ _ _ rfl Tryz.underlying31 ju rfl (by decide) (fq.out.al 5 1) rfl _ 0 _ rfl AO.out (kA _) (eU (by have:=HT1.out;omega)) (by have:=HT1.out;omega) ?_;intro v9 w9 h9 k9;have hB:Has w9 (Bytes v9 ((x.data.drop fr).take 0)::pt g6 (.cells #[.int .i64 x.aa,.int .i64 r.ab,.int .i64 r.am,.int .i64 r.aq,.slice pe r.ai.length ce,.slice pd x.data.length fr,.slice pw r.there.length cw] 90)::pt g5 (.cells #[.int .i64 (n:Int),.int .i64 s.off,.int .i64 s.af,.bool true] 93)::pt g4 zA::pt g3 (.cells #[.int .i64 o.aa,.int .i64 o.fd,.int .i64 o.n,.int .i64 o.off,.int .i64 o.af,sV o.ag,sV o.aj,ov] 33)::Rtb q g c R S.ak::L):=(by unfold Bytes;rw[pI.out];rw[Nat.zero_add,List.nil_append] at h9;exact h9);obtain⟨p9,c9,yf,-⟩:=(Bytes.rd hB).form;rw[pI.out] at yf;subst yf;have fJ:=hid hB;have gQ:=hid (gu.out.trans k9);clear h9 hB k9)
  go_wp2_with fail
  go_meet
  exact⟨_,_,_,rfl,rfl,fJ,gQ⟩
 ·rw[if_neg hcf] at hrd;obtain⟨ad,rfl⟩:∃ ad,pd=some ad:=by
   cases pd with
   | none=>exact absurd (BL.out rfl) (by omega)
   | some ad=>exact⟨ad,rfl⟩
  rw[Option.map_some] at hrd;have AO:=hid (by rw[Nat.add_sub_cancel_left];exact hrd:Rd w6 (.slice (some (ad.add fr)) (fr+ct-fr) (cd-fr)) 1 (fr+ct-fr) (bc ((x.data.drop fr).take ct)));clear hrd;go_wp2_with (at_builtin;refine fY rfl _ _ _ rfl Tryz.underlying31 ju rfl (by decide) (fq.out.al 5 1) rfl _ (fr+ct-fr) _ rfl AO.out (kA _) (eU (by have:=HT1.out;omega)) (by have:=HT1.out;omega) ?_;intro v9 w9 h9 k9;have hB:Has w9 (Bytes v9 ((x.data.drop fr).take ct)::pt g6 (.cells #[.int .i64 x.aa,.int .i64 r.ab,.int .i64 r.am,.int .i64 r.aq,.slice pe r.ai.length ce,.slice (some ad) x.data.length cd,.slice pw r.there.length cw] 90)::pt g5 (.cells #[.int .i64 (n:Int),.int .i64 s.off,.int .i64 s.af,.bool true] 93)::pt g4 zA::pt g3 (.cells #[.int .i64 o.aa,.int .i64 o.fd,.int .i64 o.n,.int .i64 o.off,.int .i64 o.af,sV o.ag,sV o.aj,ov] 33)::Rtb q g c R S.ak::L):=(by unfold Bytes;rw[pI.out];rw[Nat.zero_add,Nat.add_sub_cancel_left,List.nil_append] at h9;exact h9);obtain⟨p9,c9,yf,-⟩:=(Bytes.rd hB).form;rw[pI.out] at yf;subst yf;have fJ:=hid hB;have gQ:=hid (gu.out.trans k9);clear h9 hB k9)
  go_wp2_with fail
  go_meet
  exact⟨_,_,_,rfl,rfl,fJ,gQ⟩):p:=h
theorem zaj {p:Prop} (h:p:=by
 rw[ew,e4,e3];clear HO ew e4 e3;have hp1:=eT.out.p1.e1;have mt:=hid eT.out.drew;have tY:=hid ff.out.drew;refine eP (fun w'=>w'.cell? ⟨g3,1,none⟩=some (.int .i64 o.fd)∧True) (by kernel_rfl) (by kernel_rfl) ⟨hp1,trivial⟩ ?_;clear eT ff hp1;generalize w1.drew=w2 at *;repeat (first|refine wr2 ?_|refine wk ?_)
 refine wa fun K hK=>?_;go_simp
 refine(gR q _ S.ak o.fd w2 _ HT.out (show Has w2 (RTe q _ S.ak::_) from fy.1 (mt.out.re 3 [2,0,1]))).mono ?_;rintro e w' ⟨rfl,rfl⟩;rw[lr.out];try dsimp only
 refine hK.out _ _ ⟨mt.out.p1.cells 1,trivial⟩ ?_;exact zcP):p:=h
theorem zak {p:Prop} (h:p:=by
 rintro e w2 ⟨dv,rfl,hO2,hK2⟩;have eZ:=hid hO2;have fu:=hid ((ff.out).trans hK2);clear hO2 hK2;try dsimp only
 obtain⟨pd,cd,rfl,-⟩:=(Bytes.rd eZ.out).form;generalize R.1.data.length=dl at *;have eW:=hid eZ.out.vg;obtain⟨hz0,hz1,hz2,hz3,gP,gH,hy0,hy1,hy2,hy3,hy4,gG⟩:=Has.az (eW.out);unfold fL ji;go_wp2_with fail
 have h1:=eW.out.ans R.1 (.slice pd dl cd) eS;refine bodyPost_ret (eV rfl rfl h1) rfl ?_;exact⟨_,rfl,h1.drop,fu.out.ans _ _ _ _ _ _ _⟩):p:=h
theorem zal {p:Prop} (h:p:=by
 refine wa fun K hK=>?_;have hcs:=fq.out.cells;refine iM (.tmp 35) (.tmp 40) 48 rfl Tryz.underlying48 ie rfl [sV xp,.int .i64 xn,.int .i64 xk,.int .i64 xl,.slice dp dn dc] rfl fq.out.p1 (by rfl) 1 gb (by rfl) (fun j=>by rw[hcs j];simp) (by simp[Value.oneCell']) (eU (by have:=ka.out;omega)) (by have:=ka.out;omega) fun v7 w7 h7 yb=>?_;have fP:=hid h7.p1.drop;have gZ:=hid (gu.out.trans yb);clear h7 yb hcs;refine hK.out _ _ (rX.out _ _ fP.out.p2) ?_;clear hK K;try simp only[Act.put,zpu]
 repeat (first|refine wr5 ?_|refine wk ?_)
 refine wa fun K hK=>?_;refine fV (.tmp 41) (.tmp 44) 48 rfl Tryz.underlying48 ie rfl (by decide) fP.out (by rfl) _ 0 _ (by rfl) (wR.out _ _ fP.out.drop) (iX _) (eU (by have:=ka.out;omega)) (by have:=ka.out;omega) fun v8 w8 h8 hk8=>?_;have fI:=hid (show Has w8 (row v8 57 5 (a.length+1) (fM (a.take k ++ [(⟨xp,xn,xk,xl,xd,xv⟩:Sn)]++a.drop k))::row (.slice (some ⟨gv,ov,none⟩) os0.length cv) 57 5 os0.length (fM os0)::L0) from by
  have h:=h8.p1.drop;rw[iZ,iZ,show a.length+1=0+k+1+0 by have:=ka.out;have:=o7.out;omega,show fM [(⟨xp,xn,xk,xl,xd,xv⟩:Sn)] = [sV xp,.int .i64 xn,.int .i64 xk,.int .i64 xl,.slice dp dn dc] from by show (_::_::_::_::qk xv::_)=_;rw[Fg.out];rfl];rw[List.nil_append] at h;exact h)
 have iI:=hid (gZ.out.trans hk8);clear h8 hk8;refine hK.out _ _ (rX.out _ _ fI.out.p1) ?_;clear hK K;try simp only[Act.put,zpu]
 obtain⟨p8,c8,DG,-⟩:=(Has.rd fI.out).form;subst DG;repeat (first|refine wr5 ?_|refine wk ?_)
 refine eR ?_;have Dn:a.length+1=(a.take k ++ [(⟨xp,xn,xk,xl,xd,xv⟩:Sn)]++a.drop k).length:=by have:=ka.out;have:=o7.out;simp;omega
 exact zcN):p:=h
theorem zam {p:Prop} (h:p:=by
 refine wa fun K hK=>?_;have hcs:=fq.out.cells;refine iM (.tmp 35) (.tmp 40) 48 rfl Tryz.underlying48 ie rfl [sV xp,.int .i64 xn,.int .i64 xk,.int .i64 xl,.slice dp dn dc] rfl fq.out.p1 (by rfl) 1 gb (by rfl) (fun j=>by rw[hcs j];simp) (by simp[Value.oneCell']) (eU (by have:=ka.out;omega)) (by have:=ka.out;omega) fun v7 w7 h7 yb=>?_;have fP:=hid h7.p1.drop;have gZ:=hid (gu.out.trans yb);clear h7 yb hcs;refine hK.out _ _ (rX.out _ _ fP.out.p2) ?_;clear hK K;try simp only[Act.put,zpu]
 repeat (first|refine wr5 ?_|refine wk ?_)
 refine wa fun K hK=>?_;refine fV (.tmp 41) (.tmp 44) 48 rfl Tryz.underlying48 ie rfl (by decide) fP.out (by rfl) _ (a.length-k) _ (by rfl) (wR.out _ _ fP.out.drop) (iX _) (eU (by have:=ka.out;omega)) (by have:=ka.out;omega) fun v8 w8 h8 hk8=>?_;have fI:=hid (show Has w8 (row v8 57 5 (a.length+1) (fM (a.take k ++ [(⟨xp,xn,xk,xl,xd,xv⟩:Sn)]++a.drop k))::row (.slice (some ⟨gv,ov,none⟩) os0.length cv) 57 5 os0.length (fM os0)::L0) from by
  have h:=h8.p1.drop;rw[iZ,iZ,show a.length+1=0+k+1+(a.length-k) by have:=ka.out;omega,show fM [(⟨xp,xn,xk,xl,xd,xv⟩:Sn)] = [sV xp,.int .i64 xn,.int .i64 xk,.int .i64 xl,.slice dp dn dc] from by show (_::_::_::_::qk xv::_)=_;rw[Fg.out];rfl];rw[List.nil_append] at h;exact h)
 have iI:=hid (gZ.out.trans hk8);clear h8 hk8;refine hK.out _ _ (rX.out _ _ fI.out.p1) ?_;clear hK K;try simp only[Act.put,zpu]
 obtain⟨p8,c8,DG,-⟩:=(Has.rd fI.out).form;subst DG;repeat (first|refine wr5 ?_|refine wk ?_)
 refine eR ?_;have Dn:a.length+1=(a.take k ++ [(⟨xp,xn,xk,xl,xd,xv⟩:Sn)]++a.drop k).length:=by have:=ka.out;simp;omega
 exact zcN):p:=h
theorem zan {p:Prop} (h:p:=by
 try dsimp only
 have eW:=hid eZ.out.vd;obtain⟨hz0,hz1,hz2,hz3,gP,gH,hy0,hy1,hy2,hy3,hy4,gG⟩:=Has.az (eW.out);unfold fL ji;go_wp2_with fail
 have h1:=eW.out.ans R.1 eS eS;refine bodyPost_ret (eV rfl rfl h1) rfl ?_;exact⟨rfl,h1.drop,fu.out.ans _ _ _ _ _ _ _⟩):p:=h
theorem zao {p:Prop} (h:p:=by
 go_upto_region 11 with fail
 have fi:=hid fg.out.drew;have ge:=hid fO.out.drew;refine eP (fun w'=>w'.cell? ⟨g5,2,none⟩=some (.int .i64 (n:Int))∧w'.cell? ⟨q,0,none⟩=some (.slice (some ⟨g,0,none⟩) R.length c)∧w'.cell? ⟨g,n*7,none⟩=some (.int .i64 xn.aa)∧w'.cell? ⟨g,n*7+4,none⟩=some (.slice pe rn.ai.length ce)) (by kernel_rfl) (by kernel_rfl) ⟨fi.out.cells 2,Bx.out _ _ fi.out.p3⟩ ?_;clear fg fO hg2 hg0 hg1 hk0;generalize w4.drew=w5 at *;repeat (first|refine wr4 ?_|refine wk ?_)
 refine eR ?_;have hg2:=fi.out.e2;have hg0:=fi.out.e0;have hg1:=fi.out.e1;have jU:=hid (fun(w:World) (L':List HP) (h:Has w (Rtb q g c R S.ak::L'))=>zO q g c R S.ak d n rd rn pnm w L' ir.out jl.out rW.out (r5.out.ai.mem_iff.2 (fj CB.out)) ((r5.out.ai.map Prod.fst).nodup_iff.2 (HG.out.ax pT.out).uniq) (by have:=r5.out.few HG.out pT.out;omega) (by rw[io.out.ab];have:=(HG.out.ax vI.out).size;omega) (by have:=ll.out;omega) h);go_wp2_with fail
 refine st (jU.out w5 _ (show Has w5 (Rtb q g c R S.ak::pt g5 (.cells #[.int .i64 (d:Int),sV pnm,.int .i64 (n:Int)] 72)::pt g4 zA::pt g3 (.cells #[.int .i64 o.aa,.int .i64 o.fd,.int .i64 o.n,.int .i64 o.off,.int .i64 o.af,sV o.ag,sV o.aj,ov] 33)::L) from fi.out.re 4 [3,0,1,2])) (ge.out) fun w7 fP gZ=>?_;try dsimp only
 obtain⟨vt,l9⟩:=fP.out;have fI:=hid l9.va;clear l9 fP;obtain⟨hz0,hz1,hz2,hz3,gP,gH,hy0,hy1,hy2,hy3,hy4,gG⟩:=Has.az (fI.out);go_wp2_with fail
 have h1:=(fI.out).ans (eQ 0) (eS) (eS);refine bodyPost_ret (eV rfl rfl h1) rfl ?_;rw[HR.out];refine⟨rfl,fh.2 ⟨g,c,_,HS.out.take ir.out jl.out pT.out vI.out rW.out HD2.out CB.out vt,?_⟩,gZ.out.ans _ _ _ _ _ _ _⟩;show Has _ (Rtb q g c _ (S.take (d:Int) pnm).ak::L);rw[tG];exact h1.drop):p:=h
theorem zap {p:Prop} (h:p:=by
 refine wa fun K hK=>?_;have hcs:=fq.out.cells;refine iM (.tmp 36) (.tmp 40) 88 rfl Tryz.underlying88 jR rfl [sV p,.int .i64 (n:Int)] rfl fq.out.p1 (by rfl) 1 gb (by rfl) (fun j=>by rw[hcs j];simp) (by intro u hu;simp at hu;rcases hu with rfl|rfl <;> rfl) (eU (by have:=ka.out;have:=HL.out;omega)) (by have:=ka.out;have:=HL.out;omega) fun v7 w7 h7 yb=>?_;have fP:=hid h7.p1.drop;have gZ:=hid (gu.out.trans yb);clear h7 yb hcs;refine hK.out _ _ trivial ?_;clear hK K;try simp only[Act.put,zpu]
 repeat (first
  | (refine ig (by rfl) (by rfl) ?_ ?_ ?_;rotate_left;(intro w hS;go_simp;with_reducible rfl);simp only[Act.put,zpu])|(refine iB (by rfl) ?_;simp only[Act.put,zpu]))
 refine wa fun K hK=>?_;refine fV (.tmp 41) (.tmp 44) 88 rfl Tryz.underlying88 jR rfl (by decide) fP.out (by rfl) _ (x.ai.length-k) _ (by rfl) (wR.out _ _ fP.out.drop) (kE _) (eU (by have:=ka.out;have:=HL.out;omega)) (by have:=ka.out;have:=HL.out;omega) fun v8 w8 h8 hk8=>?_;have fI:=hid (show Has w8 (Ents v8 (j1 x.ai p n)::Rtb q g c R T::L) from by
  have h:=h8;unfold Ents;rw[Ax.out,lK,lK,show (x.ai.take k ++ [(p,(n:Int))]++x.ai.drop k).length=0+k+1+(x.ai.length-k) by have:=ka.out;simp;omega];rw[List.nil_append] at h;exact h)
 exact zcG):p:=h
theorem zaq {p:Prop} (h:p:=by
 have HR0:=hid (by unfold Tre.aD;simp[hkd]:S.aD o ds=(if 0≤o.n then eQ 0 else eQ 2,S));clear hkd hp ku hof hds;by_cases hn:0≤o.n
 ·have HR:=hid (by rw[HR0.out,if_pos hn]:S.aD o ds=(eQ 0,S));clear hrd;unfold opV opC;go_enter Tryz.func18,Tryz.ntmps18
  go_upto_region 1 with fail
  obtain⟨w1,g3,g4,ew,e4,e3,eT,ff⟩:=f9 HO.out o (.slice po ds.length co);rw[ew,e4,e3];clear HO ew e4 e3;have hp0:=eT.out.p1.e0;have hp2:=eT.out.p1.e2;exact zcJ
 ·have HR:=hid (by rw[HR0.out,if_neg hn]:S.aD o ds=(eQ 2,S));clear hrd;unfold opV opC;go_enter Tryz.func18,Tryz.ntmps18
  go_upto_region 1 with fail
  obtain⟨w1,g3,g4,ew,e4,e3,eT,ff⟩:=f9 HO.out o (.slice po ds.length co);rw[ew,e4,e3];clear HO ew e4 e3;have hp0:=eT.out.p1.e0;have hp2:=eT.out.p1.e2;exact zcF):p:=h
theorem zar {p:Prop} (h:p:=by
 refine wa fun K hK=>?_;have hcs:=fq.out.cells;refine iM (.tmp 36) (.tmp 40) 88 rfl Tryz.underlying88 jR rfl [sV p,.int .i64 (n:Int)] rfl fq.out.p1 (by rfl) 1 gb (by rfl) (fun j=>by rw[hcs j];simp) (by intro u hu;simp at hu;rcases hu with rfl|rfl <;> rfl) (eU (by have:=ka.out;have:=HL.out;omega)) (by have:=ka.out;have:=HL.out;omega) fun v7 w7 h7 yb=>?_;have fP:=hid h7.p1.drop;have gZ:=hid (gu.out.trans yb);clear h7 yb hcs;refine hK.out _ _ trivial ?_;clear hK K;try simp only[Act.put,zpu]
 repeat (first
  | (refine ig (by rfl) (by rfl) ?_ ?_ ?_;rotate_left;(intro w hS;go_simp;with_reducible rfl);simp only[Act.put,zpu])|(refine iB (by rfl) ?_;simp only[Act.put,zpu]))
 refine wa fun K hK=>?_;refine fV (.tmp 41) (.tmp 44) 88 rfl Tryz.underlying88 jR rfl (by decide) fP.out (by rfl) _ 0 _ (by rfl) (wR.out _ _ fP.out.drop) (kE _) (eU (by have:=ka.out;have:=HL.out;omega)) (by have:=ka.out;have:=HL.out;omega) fun v8 w8 h8 hk8=>?_;have fI:=hid (show Has w8 (Ents v8 (j1 x.ai p n)::Rtb q g c R T::L) from by
  have h:=h8;unfold Ents;rw[Ax.out,lK,lK,show (x.ai.take k ++ [(p,(n:Int))]++x.ai.drop k).length=0+k+1+0 by have:=o7.out;simp;omega];rw[List.nil_append] at h;exact h)
 exact zcG):p:=h
theorem zas {p:Prop} (h:p:=by
 have hf4:=fJ.out.p2.e4;obtain⟨m1,f1,P1,wW,Fo⟩:=eY.1 (fJ.out.re 4 [3,0,1,2]);have wu:=hid wW;have LD:=hid (show Has w9.drew (Tab f1 S1.ak::Trt q m1 f1 P1 S1.last::pt g5 (.cells (spC ⟨n,s'.dir,s'.name⟩) 102)::pt g4 zA::pt g3 (.cells (opC o ov) 33)::L) from Trb.ak.1 Fo.drew);have hq2:=(Trb.cells Fo.drew).2.2;have hs0:w9.drew.cell? ⟨g5,0,none⟩=some (.int .i64 n):=fJ.out.drew.cells 0;have LE:w9.drew.cell? ⟨g3,4,none⟩=some (.int .i64 o.af):=hf4;clear Fo wW;go_upto_region 24 with fail
 refine eP (fun w'=>w'.cell? ⟨q,2,none⟩=some (.pointer (some ⟨f1,0,none⟩))∧w'.cell? ⟨g5,0,none⟩=some (.int .i64 n)∧w'.cell? ⟨g3,4,none⟩=some (.int .i64 o.af)) (by kernel_rfl) (by kernel_rfl) ⟨hq2,hs0,LE⟩ ?_;repeat (first|refine wr3 ?_|refine wk ?_)
 refine wa fun K hK=>?_;go_simp
 refine st (Ch f1 S1.ak n o.af _ _ wu.out.2 LD.out) (gQ.out.drew) fun w10 gJ ko=>?_;try dsimp only
 refine hK.out _ _ (⟨(Trb.cells (Trb.ak.2 gJ.out)).2.2,gJ.out.p2.cells 0,gJ.out.p4.cells 4⟩) ?_;clear hK K;try simp only[Act.put,zpu]
 repeat (first|refine wr3 ?_|refine wk ?_)
 refine eR ?_;have kB:=hid (Trb.ak.2 gJ.out).va;rw[←HT1.out] at HR4;have DY:=hid (Tb.opn_len S1.ak n o.af wu.out.2);generalize Tb.opn S1.ak n o.af=op1 at *;obtain⟨⟨c1,c2⟩,T1⟩:=op1;dsimp only at *;obtain⟨hz0,hz1,hz2,hz3,gP,gH,hy0,hy1,hy2,hy3,hy4,gG⟩:=Has.az (kB.out);go_wp2_with fail
 have h1:=kB.out.ans ⟨c2,c1,0,0,[],[]⟩ eS eS;refine bodyPost_ret (eV rfl rfl h1) rfl ?_;rw[←HR4.out];exact⟨rfl,eY.2 ⟨m1,f1,P1,⟨wu.out.1,DY.out⟩,h1.drop⟩,ko.out.ans _ _ _ _ _ _ _⟩):p:=h
theorem zat {p:Prop} (h:p:=by
 have lg:=hid (HG.out.named wQ.out zM.out HY.out);have N0:=hid (A4 HG.out (s:=⟨(n:Int),(d:Int),anm⟩) (t:=⟨(m:Int),(e:Int),bnm⟩) pT.out Mg.out CB.out vI.out wQ.out yN.out zM.out HY.out i8.out HST.out hemp);have Jg:=hid (HG.out.take wQ.out zM.out HY.out hemp);have Na:=hid (show e≠m from fun h=>lg.out.2.1 (by rw[h]));clear hemp;have rj:=kB.out.e0;have rr:=kB.out.e1;have jU:=hid (fun(w:World) (L':List HP) (h:Has w (Rtb q g c R S.ak::L'))=>zO q g c R S.ak e m re rm bnm w L' jj.out IB.out Na.out (Ii.out.ai.mem_iff.2 (fj zM.out)) ((Ii.out.ai.map Prod.fst).nodup_iff.2 (HG.out.ax wQ.out).uniq) (by have:=Ii.out.few HG.out wQ.out;omega) (by rw[IM.out.ab];have:=(HG.out.ax HY.out).size;omega) (by have:=ll.out;omega) h);go_wp2_with fail
 refine st (jU.out wb _ (kB.out.re 5 [4,0,1,2,3])) (yg.out) fun w7 fP gZ=>?_;try dsimp only
 obtain⟨vt,l9⟩:=fP.out;have fI:=hid (by rw[tG];exact l9.re 5 [1,2,3,4,0]:Has w7 (pt g6 (.cells #[.int .i64 (e:Int),sV bnm,.int .i64 (m:Int)] 72)::pt g5 (.cells #[.int .i64 (d:Int),sV anm,.int .i64 (n:Int)] 72)::pt g4 zA::pt g3 (.cells #[.int .i64 o.aa,.int .i64 o.fd,.int .i64 o.n,.int .i64 o.off,.int .i64 o.af,sV o.ag,sV o.aj,ov] 33)::Rtb q g c ((R.set m rm.lost).set e {re with ai:=jp re.ai bnm,ev:=vt}) (S.take (e:Int) bnm).ak::L));clear l9 fP;go_wp2_with fail
 go_meet
 obtain⟨d1,td1,g1,g2,g3',g4',g5',g6'⟩:=N0.out;exact⟨_,_,S.take (e:Int) bnm,d1,td1,rfl,fI,gZ,hid (HS.out.take jj.out IB.out wQ.out HY.out Na.out yN.out zM.out vt),Jg,hid ⟨g1,g2,g3',g4',g5',g6'⟩,Ep⟩):p:=h
theorem zau {p:Prop} (h:p:=by
 generalize w.alloc (.cells #[.int .i64 y.n,.int .i64 y.i,.int .i64 y.b] 24)=w1 at *;generalize w.heap.size=g3 at *;go_wp2_with fail
 refine st (HN.out w1 _ (eT.out.re 2 [1,0])) (ff.out) fun w2 eZ fu=>?_;try dsimp only
 clear eT ff;have hc0:=eZ.out.p1.e0;have hc1:=eZ.out.p1.e1;have hc2:=eZ.out.p1.e2;have hw1:IntKind.i64.wrap (2*sb)=2*sb:=ft _ (by omega);have hw2:IntKind.i64.wrap (2*sb+16)=2*sb+16:=ft _ (by omega);have hw3:IntKind.i64.wrap (2*sn)=2*sn:=ft _ (by omega);have hw4:IntKind.i64.wrap (2*sn+2)=2*sn+2:=ft _ (by omega);unfold lC at Mv ya;go_wp2_with fail
 refine st (Mv.out w2 _ eZ.out) (fu.out) fun w3 eW fH=>?_;try dsimp only
 clear eZ fu hc0 hc1 hc2;have hc0:=eW.out.p1.e0;have hc1:=eW.out.p1.e1;have hc2:=eW.out.p1.e2;by_cases hb:gb<2*sb+16
 ·have HR:=hid (by rw[HC.out,decide_eq_true hb];rfl:RR=true);clear HC;go_wp2_with fail
  go_ret
  rw[HR.out];exact⟨rfl,eW.out.re 2 [0],fH.out⟩
 ·have HR:=hid (by rw[HC.out,decide_eq_false hb];rfl:RR=decide (gi<2*sn+2));clear HC;go_wp2_with fail
  refine st (ya.out w3 _ eW.out) (fH.out) fun w4 fg fO=>?_;try dsimp only
  go_wp2_with fail
  go_ret
  rw[HR.out];exact⟨rfl,fg.out.re 2 [0],fO.out⟩):p:=h
theorem zav {p:Prop} (h:p:=by
 go_wp2_with fail
 have HC:=hid (gD (2:Int) w3 (pt g4 zA::Trb q m f P S.last S.ak::L) fa.out);have kz:=fH;exact lv):p:=h
theorem zaw {p:Prop} (h:p:=by
 have hcx:=fJ.out.p1.cells;refine wa fun K hK=>?_;refine iM (.tmp 103) (.tmp 106) 36 rfl Tryz.underlying36 iD rfl [sV t.name] rfl fJ.out (by rfl) 1 _ (by rfl) (fun j=>(hcx j).trans (by simp)) (by simp[Value.oneCell']) (eU (by have:=Fy.out;omega)) (by have:=Fy.out;omega) fun v10 w10 h10 hk10=>?_;have gJ:=hid (tj (h10.re 3 [0,2]) (by simp));have ko:=hid (gQ.out.trans hk10);clear h10 hk10 hcx;refine hK.out _ _ ⟨gJ.out.p3.cells 0,gJ.out.p2.cells 1,gJ.out.p2.cells 2⟩ ?_;clear hK K;try simp only[Act.put,zpu]
 obtain⟨p10,c10,rfl,-⟩:=(Strs.rd gJ.out).form;generalize (S.way t.dir ++ [t.name]).length=zl at *;refine wa fun K hK=>?_;go_simp
 refine st (Py.out _ w10 _ gJ.out) (ko.out) fun w12 j5 na=>?_;try dsimp only
 refine hK.out _ _ (⟨j5.out.p3.cells 0,j5.out.p2.cells 1,j5.out.p2.cells 2⟩) ?_;clear hK K;try simp only[Act.put,zpu]
 repeat (first|refine wr3 ?_|refine wk ?_)
 refine eR ?_;go_wp2_with fail
 go_meet
 exact⟨_,rfl,rfl,hid j5.out.drop,na⟩):p:=h
theorem zax {p:Prop} (h:p:=by
 intro i;have hnd:(r1++j::r2).Nodup:=hpw.imp (fun h=>Nat.ne_of_lt h);by_cases hij:i=j
 ·exact zcL
 ·rw[getD_set_ne true (Ne.symm hij),←gz i];simp[hij]):p:=h
theorem zay {p:Prop} (h:p:=by
 refine bodyPost_ret (eV rfl rfl h1) rfl ?_;exact⟨rfl,h1.drop,fu.out.ans _ _ _ _ _ _ _⟩):p:=h
theorem zaz {p:Prop} (h:p:=by
 have HRR:=hid (by rw[←HR.out,if_pos hbad]:R=(eQ 2,S));go_upto_region 1 with fail
 go_cut [31] (fun a wx=>wx=w1∧a=.bool true)
 case first =>
  by_cases hb1:o.af<0
  ·exact zc5
  by_cases hb2:o.af ≥ 64
  ·exact zc5
  ·obtain⟨hb3,hb4⟩:=(hbad.resolve_left hb1).resolve_left hb2;unfold fc at hb3 hb4;have hb5:(bits BinOp.and IntKind.i64 o.af 12 != 0)=true:=by simpa using hb3
   have hb6:(bits BinOp.and IntKind.i64 o.af 32==0)=true:=by simpa using hb4
   exact zc5
 case rest =>
  obtain⟨hwx,rfl⟩:=hcut;have jK:=hwx.symm;subst jK;obtain⟨hz0,hz1,hz2,hz3,gP,gH,hy0,hy1,hy2,hy3,hy4,gG⟩:=Has.az (fa.out);go_wp2_with fail
  have HC:=hid (gD (2:Int) w1 (pt g4 zA::Trc q S::L) fa.out);have kz:=ff;exact lv):p:=h
theorem zaA {p:Prop} (h:p:=by
 rw[ew,e4,e3];clear HO ew e4 e3;have hp0:=eT.out.p1.e0;have hp2:=eT.out.p1.e2;have eW:=hid eT.out.ve;obtain⟨hz0,hz1,hz2,hz3,gP,gH,hy0,hy1,hy2,hy3,hy4,gG⟩:=Has.az (eW.out);by_cases hn:0≤n
 ·go_wp2_with fail
  have h1:=eW.out.ans (eQ 0) eS eS;refine bodyPost_ret (eV rfl rfl h1) rfl ?_;rw[←HR.out,if_pos (by omega)];exact⟨rfl,h1.drop,ff.out.ans _ _ _ _ _ _ _⟩
 ·go_wp2_with fail
  refine st (gD (2:Int) w1 _ eW.out) (ff.out) fun w5 fi ge=>?_;unfold fL ji eQ;clear hz0 hz1 hz2 hz3 gP gH hy0 hy1 hy2 hy3 hy4 gG;obtain⟨hz0,hz1,hz2,hz3,gP,gH,hy0,hy1,hy2,hy3,hy4,gG⟩:=Has.az (fi.out);go_wp2_with fail
  have h1:=((show Has w5 (pt g4 zA::Trc q S::L) from fi.out)).ans (eQ (2:Int)) eS eS;refine bodyPost_ret (eV rfl rfl h1) rfl ?_;rw[←HR.out,if_neg (by omega)];exact⟨rfl,h1.drop,ge.out.ans _ _ _ _ _ _ _⟩):p:=h
theorem zaB {p:Prop} (h:p:=by
 have ha0:=HZ.out.e0;have hb0:=HZ.out.thaw 0;have ha1:=HZ.out.e1;have hb1:=HZ.out.thaw 1;have ha2:=HZ.out.e2;have hb2:=HZ.out.thaw 2;have mh:=HZ.out.e3;have hb3:=HZ.out.thaw 3;have s7:=HZ.out.e4;have hb4:=HZ.out.thaw 4;refine wa fun K hK=>?_;go_simp
 have fq:=hid (HZ.out.eN (sV (p++47::nm)) (.int .i64 (m:Int)) (.int .i64 r2.aa) (.int .i64 r2.ab) (.slice pb r2.data.length cb));have gu:=hid (HB2.out.eN g11 (sV (p++47::nm)) (.int .i64 (m:Int)) (.int .i64 r2.aa) (.int .i64 r2.ab) (.slice pb r2.data.length cb));refine hK.out _ _ ⟨(fq.out.re 4 [3]).cells 0,(fq.out.re 4 [3]).cells 1,(fq.out.re 3 [2]).cells 0,(fq.out.re 3 [2]).cells 1,(fq.out.re 3 [2]).cells 5⟩ ?_;clear hK K HZ HA2 HB2 ha0 hb0 ha1 hb1 ha2 hb2 mh hb3 s7 hb4;try simp only[Act.put,zpu]
 refine eR ?_;go_wp2_with fail
 go_meet
 exact⟨g11,pb,cb,_,rfl,rfl,fq,gu⟩):p:=h
theorem zaC {p:Prop} (h:p:=by
 by_cases hn:s.ae=0
 ·have hnb:(s.ae != 0)=false:=by simpa using hn
  by_cases hd:s.dir=0
  ·have xC:(s.dir==0)=true:=by simpa using hd
   have HB2:=hid (show decide (s.ae≠0∨s.dir=0)=true from decide_eq_true (.inr hd));clear hd hn;exact zcM
  ·have xC:(s.dir==0)=false:=by simpa using hd
   have HB2:=hid (show decide (s.ae≠0∨s.dir=0)=false from decide_eq_false (fun h=>h.elim (fun h=>h hn) hd));clear hd hn;exact zcM
 ·have hnb:(s.ae != 0)=true:=by simpa using hn
  have HB2:=hid (show decide (s.ae≠0∨s.dir=0)=true from decide_eq_true (.inl hn));clear hn;exact zcM):p:=h
theorem zaD {p:Prop} (h:p:=by
 go_wp2_with fail
 exact zda):p:=h
theorem zaE {p:Prop} (h:p:=by
 go_wp2_with fail
 refine(HF.out _ _ (eT.out.re 3 [2,0,1])).mono ?_;rintro e w2 ⟨pv,rfl,hpv,hO2,hK2⟩;unfold ib;go_wp2_with fail
 go_meet
 exact⟨_,_,pv,rfl,rfl,rfl,rfl,hpv,hid ((hO2.alloc (.cells (ib s) 122)).re 4 [1,0,2,3]),hid ((ff.out.trans hK2).alloc _)⟩):p:=h
theorem zaF {p:Prop} (h:p:=by
 have hs:0<size:=Nat.pos_of_mul_pos_left hp;have hl0:0<len:=Nat.pos_of_mul_pos_right hp;have h0:=(hlen 0 hl0).2 0 hs;have ha:a=⟨a.block,a.off,none⟩:=by
  refine tX (w:=W) (u:=(C 0)[0]'(by rw[(hlen 0 hl0).1];exact hs)) ?_;rw[List.getElem?_eq_getElem (by rw[(hlen 0 hl0).1];exact hs)] at h0;simpa[Addr.add] using h0
 refine⟨a.block,a.off,by rw[←ha],fun j hj=>?_⟩;have hq:j / size<len:=(Nat.div_lt_iff_lt_mul hs).2 hj;have hr:j % size<size:=Nat.mod_lt _ hs;have h1:=(hlen (j / size) hq).2 (j % size) hr;rw[Deep.add_add,ha,i6] at h1;have hj':j / size*size+j % size=j:=Nat.div_add_mod' j size;rw[hj'] at h1;rw[h1,yo len size C (fun i hi=>(hlen i hi).1) (j / size) hq (j % size) hr,hj']):p:=h
theorem zaG {p:Prop} (h:p:=by
 have HR:=hid (by rw[wA.out,if_neg (by omega),if_pos (by omega)]:S.write o.aa o.fd o.off ds=(eQ 15,S));go_wp2_with fail
 have HC:=hid (gk (15:Int) w6 (pt g4 zA::Rtb q g c R S.ak::L) (fq.out.re 4 [1,3]));have kz:=gu;exact lv):p:=h
theorem zaH {p:Prop} (h:p:=by
 go_wp2_with fail
 go_meet
 exact⟨rfl,rfl⟩):p:=h
theorem zaI {p:Prop} (h:p:=by
 by_cases hl:listed.getD e.on true=true
 ·rw[Array.getD_eq_getD_getElem?] at hl ⊢;have:e.on<listed.size:=by omega
  simp[this] at hl ⊢;exact hl
 ·have hm:=(gz e.on).2 ⟨by omega,by simpa using hl⟩;rcases List.mem_cons.1 hm with e1|e1
  ·omega
  ·have:=(List.pairwise_cons.1 hpw).1 _ e1;omega):p:=h
theorem zaJ {p:Prop} (h:p:=by
 have HR:=hid (by rw[jj.out,if_neg (by simp),if_pos hn]:RR=(eQ 6,S));have hnb:(pn != 0)=true:=by simpa using hn
 have Jn:(pn==0)=false:=by simpa using hn
 clear hn;go_wp2_with fail
 have HC:=hid (gk (6:Int) w3 (pt g4 zA::Rtb q g c R S.ak::L) (eW.out.re 4 [1,3]));have kz:=fH;exact lv):p:=h
theorem zaK {p:Prop} (h:p:=by
 rintro e w2 ⟨dv,nv,rfl,hO2,hK2⟩;have eZ:=hid hO2;have fu:=hid ((ff.out).trans hK2);clear hO2 hK2;try dsimp only
 obtain⟨pd,cd,rfl,-⟩:=(Bytes.rd eZ.out).form;obtain⟨pn,cn,rfl,-⟩:=(Strs.rd eZ.out.p1).form;generalize R.data.length=dl at *;generalize R.ab.length=nl at *;have eW:=hid eZ.out.vb;obtain⟨hz0,hz1,hz2,hz3,gP,gH,hy0,hy1,hy2,hy3,hy4,gG⟩:=Has.az (eW.out);unfold fL ji;go_wp2_with fail
 have h1:=eW.out.ans R (.slice pd dl cd) (.slice pn nl cn);refine bodyPost_ret (eV rfl rfl h1) rfl ?_;exact⟨_,_,rfl,h1.drop,fu.out.ans _ _ _ _ _ _ _⟩):p:=h
theorem zaL {p:Prop} (h:p:=by
 have Ev:=hid jU.out;rw[Bd] at Ev;go_wp2_with fail
 refine(sl q m f _ _ n _ w3 L Ev.out.2 ⟨eW.out.2,fW.out.2⟩ eW.out.1).mono ?_;rintro e w4 ⟨rfl,P4,lP,hO4,hK4⟩;have FD:=hid lP;have fg:=hid hO4;have fO:=hid (fH.out.trans hK4);clear lP hO4 hK4;try dsimp only
 go_wp2_with fail
 go_end0
 rw[Ev.out.1];refine⟨rfl,P4,⟨FD.out.1,fun e he=>?_⟩,fg.out,fO.out⟩;obtain⟨y,hy⟩:=FD.out.2 e he;obtain⟨p,hp,hpe⟩:=List.mem_map.1 hy;have h1:=congrArg Prod.fst hpe;have h2:=congrArg (fun z:Pn=>z.2.1) hpe;exact⟨p.2.2,by rw[←h1,←h2];exact hp⟩):p:=h
theorem zaM {p:Prop} (h:p:=by
 have e:(A::B::C::(pnC (P1++p::P2)++L)).Perm (Ndc p.2.1 p.2.2::A::B::C::(pnC (P1++P2)++L)):=by
  have h1:(pnC (P1++p::P2)++L).Perm (Ndc p.2.1 p.2.2::(pnC (P1++P2)++L)):=by
   exact zc6
  refine(((h1.cons C).cons B).cons A).trans ?_;refine List.Perm.trans (((List.Perm.swap _ _ _).cons B).cons A) ?_;refine List.Perm.trans ((List.Perm.swap _ _ _).cons A) ?_;exact List.Perm.swap _ _ _
 exact⟨fun h=>h.perm e,fun h=>h.perm e.symm⟩):p:=h
theorem zaN {p:Prop} (h:p:=by
 go_wp2_with fail
 try rw[Exit.noGoto_ret]
 have h1:=(show Has w1 (pt g8 (.cells (spC fp) 102)::Trb q m f P S.last S.ak::L) from lh.out.re 4 [3,1]).aS fp;refine bodyPost_ret (gV fp rfl rfl rfl h1) rfl ?_;rw[HRR.out];exact⟨rfl,eY.2 ⟨m,f,P,fW.out,h1.drop⟩,iG.out.aS _ _ _ _⟩):p:=h
theorem zaO {p:Prop} (h:p:=by
 cases r with
 | ok n w' =>
  cases n <;> simp only[Oper.upon] at this ⊢
  case value u=>exact key _ _ ⟨u,a.defers,rfl⟩ this
  case skip=>exact key _ _ ⟨undef,a.defers,rfl⟩ this
  case defer d=>exact key _ _ ⟨undef,d::a.defers,rfl⟩ this
  case enter f args =>
   refine Calls.mono this fun e w'' he=>?_;exact zc8
  case row row args=>exact Rows.mono this fun u w'' he=>key _ _ ⟨u,a.defers,rfl⟩ he
 | halt x w'=>cases x <;> simp only[Oper.upon] at this ⊢):p:=h
theorem zaP {p:Prop} (h:p:=by
 intro i o ho hl e he hbe;by_cases hij:i=j
 ·subst hij;rw[hoj] at ho;cases ho;exact getD_set_true (hall e he hbe)
 ·rw[getD_set_ne true (Ne.symm hij)] at hl;exact getD_set_true (hd i o ho hl e he hbe)):p:=h
theorem zaQ {p:Prop} (h:p:=by
 go_wp2_with fail
 refine(HP.out).mono ?_;rintro e w1 ⟨v1,rfl,iq,hK1⟩;have eT:=hid iq;have ff:=hid ((Keep.refl w).trans hK1);clear iq hK1;try dsimp only
 obtain⟨p1,c1,e1,-,-,hcs⟩:=(Strs.rd eT.out).form;obtain⟨g,o,rfl,hcs2⟩:=hcs (by simp);subst e1;have hc:=hcs2 ys.length (by simp);rw[List.getElem?_map,List.getElem?_concat_length] at hc;have hc1:w1.cell? ⟨g,o+ys.length,none⟩=some (sV [46,46]):=hc;clear hcs hcs2 hc;have DA:(ys.length:Int)<(ys.length:Int)+1:=by omega
 go_wp2_with fail
 go_ret3
 rw[HR.out];exact⟨rfl,eT.out.drop,ff.out⟩):p:=h
theorem zaR {p:Prop} (h:p:=by
 cases r with
 | ok n w' =>
  cases n <;> simp only[Oper.upon] at h ⊢
  case value u=>exact key _ _ ⟨u,a.defers,rfl⟩ h
  case skip=>exact key _ _ ⟨undef,a.defers,rfl⟩ h
  case defer d=>exact key _ _ ⟨undef,d::a.defers,rfl⟩ h
  case enter f args =>
   refine Calls.mono h fun e w'' he=>?_;exact zc8
  case row row args=>exact Rows.mono h fun u w'' he=>key _ _ ⟨u,a.defers,rfl⟩ he
 | halt x w'=>cases x <;> simp only[Oper.upon] at h ⊢):p:=h
theorem zaS {p:Prop} (h:p:=by
 go_wp2_with fail
 refine st (HC.out _ _ HO.out) (HK.out) fun w2 eZ fu=>?_;try dsimp only
 clear hc;have hc:=eZ.out.cells;cases hm:may g
 ·have H:=hid hm;clear hm;go_wp2_with fail
  go_ret
  exact⟨by rw[inodes,H.out];rfl,eZ.out.drop,fu.out⟩
 ·have H:=hid hm;clear hm;have h1:=je.1 H.out;have h2:=q6 (a:=g.n) (b:=g.i) (by omega) (by omega);have e1:=oz (g.n*g.i) (by omega);have e3:=ft (g.n*g.i) (by omega);clear h1 h2;go_wp2_with fail
  go_ret
  refine⟨?_,eZ.out.drop,fu.out⟩;rw[inodes,H.out];simp[e1,e3]):p:=h
theorem zaT {p:Prop} (h:p:=by
 go_wp2_with fail
 refine st (HC.out _ _ HO.out) (HK.out) fun w2 eZ fu=>?_;try dsimp only
 clear hc;have hc:=eZ.out.cells;cases hm:may g
 ·have H:=hid hm;clear hm;go_wp2_with fail
  go_ret
  exact⟨by rw[blocks,H.out];rfl,eZ.out.drop,fu.out⟩
 ·have H:=hid hm;clear hm;have h1:=je.1 H.out;have h2:=q6 (a:=g.n) (b:=g.b) (by omega) (by omega);have e1:=oz (g.n*g.b) (by omega);have e3:=ft (g.n*g.b) (by omega);clear h1 h2;go_wp2_with fail
  go_ret
  refine⟨?_,eZ.out.drop,fu.out⟩;rw[blocks,H.out];simp[e1,e3]):p:=h
theorem zaU {p:Prop} (h:p:=by
 have hs1:=fg.out.p1.e1;have hs2:=fg.out.p1.e2;go_wp2_with fail
 refine st (F9 q S s2.dir s2.name s2.ae d x w4 (pt g4 zA::L) NL.out.1 NL.out.2 HX.out hne hdk hln hlk.1 hlk.2 (fg.out.re 4 [0,2])) (fO.out) fun w5 fi ge=>?_;try dsimp only
 clear hs1 hs2 hb0 hb3 hlen hg0;have fq:=hid fi.out.vc;obtain⟨hz0,hz1,hz2,hz3,gP,gH,hy0,hy1,hy2,hy3,hy4,gG⟩:=Has.az (fq.out);go_wp2_with fail
 have h1:=fq.out.ans (eQ 0) eS eS;refine bodyPost_ret (eV rfl rfl h1) rfl ?_;rw[HRR.out];exact⟨rfl,h1.drop,ge.out.ans _ _ _ _ _ _ _⟩):p:=h
theorem zaV {p:Prop} (h:p:=by
 go_wp2_with fail
 try rw[Exit.noGoto_ret]
 have h1:=(show Has w1 (pt g6 (.cells (rsC fp) 72)::Rtb q g c R S.ak::L) from lh.out.re 4 [3,1]).cf fp;refine bodyPost_ret (iN fp rfl rfl rfl h1) rfl ?_;rw[HRR.out];exact⟨rfl,h1.drop,((iG.out.set _ _).set _ _).set _ _⟩):p:=h
theorem zaW {p:Prop} (h:p:=by
 have HRR:=hid (by rw[←HR.out,if_pos he]:R=(eQ eg,S));go_wp2_with fail
 have HC:=hid (gD eg w3 (pt g4 zA::Trb q m f P S.last S.ak::L) fa.out);have kz:=fH;exact lv):p:=h
theorem zaX {p:Prop} (h:p:=by
 have HR:=hid (by rw[wA.out,if_neg (by omega),if_neg (by omega),if_pos h4]:S.write o.aa o.fd o.off ds=(eQ 0,S));have MS:((ds.length:Int)==0)=true:=by simpa using h4
 have fP:=hid fq.out.vj;clear h4;obtain⟨hz0,hz1,hz2,hz3,gP,gH,hy0,hy1,hy2,hy3,hy4,gG⟩:=Has.az (fP.out);go_wp2_with fail
 have h1:=(fP.out).ans (eQ 0) (eS) (eS);refine bodyPost_ret (eV rfl rfl h1) rfl ?_;rw[HR.out];exact⟨rfl,fh.2 ⟨g,c,R,HS.out,h1.drop⟩,gu.out.ans _ _ _ _ _ _ _⟩):p:=h
theorem zaY {p:Prop} (h:p:=by
 have kz:=fH;exact lv):p:=h
theorem zaZ {p:Prop} (h:p:=by
 go_wp2_with fail
 have HC:=hid (gk (2:Int) w6 (pt g4 zA::Rtb q g c R S.ak::L) (fq.out.re 4 [1,3]));have kz:=gu;exact lv):p:=h
theorem za0 {p:Prop} (h:p:=by
 rw[Array.getD_eq_getD_getElem?] at this rz;have hk2:k<listed.size:=by omega
 simp[hk2] at this rz;rw[this] at rz;cases rz):p:=h
theorem za1 {p:Prop} (h:p:=by
 obtain rfl:rem = []:=List.eq_nil_of_length_eq_zero (by omega);refine⟨?_,h⟩;rw[List.eq_nil_iff_forall_not_mem];intro j hj;obtain⟨hu,o,ho,-⟩:=mem_ready.1 hj;have:=(gz j).2 ⟨(Array.getElem?_eq_some_iff.1 ho).1,hu⟩;simp at this):p:=h
theorem za2 {p:Prop} (h:p:=by
 have hnb:(s'.ae != 0)=false:=by simpa using hn
 have HB2:=hid (show decide (s'.ae≠0∧(S.at_ s'.ae).aa=2∧fc o.af 32≠0)=false from decide_eq_false (fun h=>h.1 hn));clear hn;refine eP (fun w'=>w'.cell? ⟨g5,0,none⟩=some (.int .i64 s'.ae)∧True) (by kernel_rfl) (by kernel_rfl) ⟨hg0,trivial⟩ ?_;repeat (first|refine wr2 ?_|refine wk ?_)
 refine eR ?_;exact zcM):p:=h
theorem za3 {p:Prop} (h:p:=by
 go_wp2_with fail
 have h1:=(show Has w3 (pt g4 (.cells (spC fp) 102)::Trc q S::L) from eW.out.re 3 [1,2]).aS fp;refine bodyPost_ret (gV fp rfl rfl rfl h1) rfl ?_;rw[HRR.out];exact⟨rfl,h1.drop,fH.out.aS _ _ _ _⟩):p:=h
theorem za4 {p:Prop} (h:p:=by
 have HR3:=hid ((if_neg hc).symm.trans HR2.out);have hbt:bc0=false:=by rw[←JO.out];exact decide_eq_false hc
 subst hbt;have hn:s.ae=0:=Classical.byContradiction fun h=>hc (.inl h);have hd:¬ s.dir=0:=fun h=>hc (.inr h);have hnb:(s.ae != 0)=false:=by simpa using hn
 have xC:(s.dir==0)=false:=by simpa using hd
 go_wp2_with fail
 go_meet
 exact⟨_,s,rfl,fg,fO,HR3,hid fun _=>r5.out hn hd,hid fun h=>absurd hn h⟩):p:=h
theorem za5 {p:Prop} (h:p:=by
 rw[List.getElem?_eq_none (by simp;omega),List.getElem?_eq_none (by simp;omega)]):p:=h
theorem za6 {p:Prop} (h:p:=by
 exact⟨rfl,rfl⟩):p:=h
theorem za7 {p:Prop} (h:p:=by
 go_wp2_with fail
 exact⟨⟨j+1,w2,by trivial,by omega,by have:=gW.out;omega,by rw[Ho.out];try rfl,by rw[EK.out];try rfl,by go_num,hid eZ.out.drop,fu⟩,by have:=gW.out;simp[intOf];omega⟩):p:=h
theorem za8 {p:Prop} (h:p:=by
 rw[HR.out];exact⟨.slice none 0 0,rfl,HO.out.al gx 1,Keep.refl w⟩):p:=h
theorem za9 {p:Prop} (h:p:=by
 have hy2:fnd (eX S.ac (i:Int) x') n=some y:=hy;rw[fnd_putA] at hy2;by_cases e:n=(i:Int)
 ·rw[if_pos e] at hy2;cases hy2;subst e;exact⟨i,r',rfl,List.getElem?_set_self (List.getElem?_eq_some_iff.1 hr).1,hs⟩
 ·rw[if_neg e] at hy2;obtain⟨j,r2,e1,e2,e3⟩:=h.ae n y hy2;refine⟨j,r2,e1,?_,e3⟩;rw[List.getElem?_set_ne (by omega)];exact e2):p:=h
theorem zba {p:Prop} (h:p:=by
 go_wp2_with fail
 have HC:=hid (gk (2:Int) w6 (pt g4 zA::Rtb q g c R S.ak::L) (fq.out.re 5 [2,4]));have kz:=gu;exact lv):p:=h
theorem zbb {p:Prop} (h:p:=by
 have hvt:=hid ((VwS.tail gC.out).re 4 [0,3,1,2]);by_cases hpc:pc=1
 ·subst hpc;go_wp2_with fail
  all_goals go_meet
  all_goals refine⟨_,_,rfl,rfl,hid ?_⟩
  all_goals exact hvt.out
 ·go_wp2_with fail
  all_goals go_meet
  all_goals refine⟨_,_,rfl,rfl,hid ?_⟩
  all_goals have e0:=hvt.out
  all_goals rw[if_neg hpc] at e0
  all_goals exact e0):p:=h
theorem zbc {p:Prop} (h:p:=by
 go_wp2_with fail
 exact⟨⟨trivial,k+1,by have:=gW.out;omega,by go_num,mZ⟩,by have:=gW.out;simp[intOf];omega⟩):p:=h
theorem zbd {p:Prop} (h:p:=by
 go_wp2_with fail
 refine st (tM.out w4 _ (((HM.out.cons (pt g3 (.cells (opC o ov) 33))).cons (pt g4 zA)).cons (pt g5 (.cells (spC s) 102))) (fg.out.re 4 [3,0,1,2])) (fO.out) fun w5 fi ge=>?_;try dsimp only
 unfold spV spC;go_wp2_with fail
 go_meet
 exact⟨_,_,rfl,rfl,rfl,hid ((fi.out.alloc (.cells (spC s2) 102)).re 5 [0,2,3,4,1]),hid (ge.out.alloc _)⟩):p:=h
theorem zbe {p:Prop} (h:p:=by
 go_wp2_with fail
 refine(AX q m f P S t.dir t.name t.ae _ y w8 _ qv.out.2.2 htc hy hne2 xi LY hlk2.1 hlk2.2 fW.out fI.out).mono ?_;rintro e w9 ⟨rfl,P1,hp1,mU,hK9⟩;have gQ:=hid (iI.out.trans hK9);clear BD oS hy0 hy3 Jh;go_wp2_with fail
 go_meet
 rw[←hS] at hp1 mU;exact⟨_,P1,rfl,hRR,hp1.1,hp1.2,oy.out r5,hid mU,gQ⟩):p:=h
theorem zbf {p:Prop} (h:p:=by
 rw[HR.out];exact⟨.slice none 0 0,rfl,eT.out.drop.al gx 1,ff.out⟩):p:=h
theorem zbg {p:Prop} (h:p:=by
 exact⟨rk,h.mono (Nat.le_succ k)⟩):p:=h
theorem zbh {p:Prop} (h:p:=by
 have HRR:=hid (by rw[←HR3.out];exact(if_neg nT).trans (if_pos (by omega)):R=(eQ 14,S));have kB:=hid fI.out.vj;obtain⟨hz0,hz1,hz2,hz3,gP,gH,hy0,hy1,hy2,hy3,hy4,gG⟩:=Has.az (kB.out);go_wp2_with fail
 have HC:=hid (gD (14:Int) w7 (pt g4 zA::Trc q S::L) kB.out);have kz:=gZ;exact lv):p:=h
theorem zbi {p:Prop} (h:p:=by
 go_wp2_with fail
 go_ret3
 rw[HR.out];exact⟨rfl,eT.out.drop,ff.out⟩):p:=h
theorem zbj {p:Prop} (h:p:=by
 go_wp2_with fail
 have h1:=(show Has w3 (pt g6 (.cells (ib Tb.none4) 122)::Trb q m f P S.last S.ak::L) from eW.out.re 3 [2,0]).eJ Tb.none4;refine bodyPost_ret (mg Tb.none4 rfl rfl rfl rfl h1) rfl ?_;rw[HRR.out];exact⟨_,rfl,fun h=>absurd h (by decide),h1.drop,((fH.out.set _ _).set _ _).set _ _⟩):p:=h
theorem zbk {p:Prop} (h:p:=by
 rw[fU];intro hm;obtain⟨p,hp,e⟩:=List.mem_map.1 hm;have:=(List.mem_filter.1 hp).2;simp[e] at this):p:=h
theorem zbl {p:Prop} (h:p:=by
 go_wp2_with fail
 go_meet
 exact⟨by rw[HB.out],rfl⟩):p:=h
theorem zbm {p:Prop} (h:p:=by
 split
 ·simp
 ·split
  ·simp
  ·rename_i h;simp only[Bool.or_eq_true,Bool.not_eq_true',not_or] at h;have h1:(gj t).2=true:=by simpa using h.1
   show (gj t).1.length≤20;unfold gj at h1 ⊢;split
   ·simp
   ·rename_i l hl;rw[hl] at h1;simpa using h1):p:=h
theorem zbn {p:Prop} (h:p:=by
 rw[decide_eq_true nT];have HRR:=hid (by rw[←HR3.out];exact if_pos nT:R=(eQ 8,S));obtain⟨hz0,hz1,hz2,hz3,gP,gH,hy0,hy1,hy2,hy3,hy4,gG⟩:=Has.az (fa.out);go_wp2_with fail
 have HC:=hid (gD (8:Int) w6 (pt g4 zA::Trc q S::L) fa.out);have kz:=iG;exact lv):p:=h
theorem zbo {p:Prop} (h:p:=by
 repeat (first
  | (refine ig (by rfl) (by rfl) ?_ ?_ ?_;rotate_left;(intro w hS;go_simp;with_reducible rfl);simp only[Act.put,zpu])|(refine iB (by rfl) ?_;simp only[Act.put,zpu]))
 refine eR ?_;go_wp2_with fail
 go_meet
 exact⟨_,rfl,rfl,hid fq.out.drew,hid gu.out.drew⟩):p:=h
theorem zbp {p:Prop} (h:p:=by
 go_wp2_with fail
 refine(iY.out).mono ?_;rintro e w' ⟨⟨c3,rfl⟩,rfl⟩;try dsimp only
 go_wp2_with fail
 refine⟨⟨j+1,w0,by trivial,by have:=gW.out;omega,by rw[HS2.out];go_num,by rw[HS2.out],by go_num,by rw[HS2.out];exact eW,fH⟩,by have:=gW.out;simp[intOf];omega⟩):p:=h
theorem zbq {p:Prop} (h:p:=by
 try dsimp only
 unfold spV spC;go_wp2_with fail
 go_meet
 exact⟨_,_,rfl,rfl,rfl,hid ((eZ.out.alloc (.cells (spC s2) 102)).p1),hid (fu.out.alloc _)⟩):p:=h
theorem zbr {p:Prop} (h:p:=by
 go_enter Tryz.func78,Tryz.ntmps78
 go_wp2_with fail
 go_ret
 rw[HB.out];exact⟨rfl,HO.out,Keep.refl w⟩):p:=h
theorem zbs {p:Prop} (h:p:=by
 have HRR:=hid (by rw[←HR3.out,if_pos he2]:R=(eQ e2,S));have fa:=hid fi.out.vf;obtain⟨hz0,hz1,hz2,hz3,gP,gH,hy0,hy1,hy2,hy3,hy4,gG⟩:=Has.az (fa.out);go_wp2_with fail
 have HC:=hid (gD e2 w5 (pt g4 zA::Trc q S::L) fa.out);have kz:=ge;exact lv):p:=h
theorem zbt {p:Prop} (h:p:=by
 rcases Nat.eq_zero_or_pos xs.length with h|h
 ·exact List.eq_nil_of_length_eq_zero h
 ·obtain⟨g,o,h1,-⟩:=CO.out (by omega);cases h1):p:=h
theorem zbu {p:Prop} (h:p:=by
 go_enter Tryz.func39,Tryz.ntmps39
 go_wp2_with fail
 go_ret
 rw[HR.out];exact⟨rfl,HO.out,HK.out⟩):p:=h
theorem zbv {p:Prop} (h:p:=by
 subst ha;exact ig hw hr v hv h):p:=h
theorem zbw {p:Prop} (h:p:=by
 have hy2:fnd (eX S.ac (i:Int) x') s.ae=some y:=hy;rw[fnd_putA] at hy2;by_cases e:s.ae=(i:Int)
 ·rw[if_pos e] at hy2;cases hy2;rw[hk];exact h.wopen fd s x hf (by rw[e];exact hx) hw
 ·rw[if_neg e] at hy2;exact h.wopen fd s y hf hy2 hw):p:=h
theorem zbx {p:Prop} (h:p:=by
 intro n x hn hk;by_cases h1:n=1∨(S.at_ n).above=0
 ·rw[ki h1];simp
 ·have hx:S.at_ n=x:=by unfold Tre.at_;rw[hn];rfl
  simp only[not_or] at h1;obtain⟨y,nm,hy,-,hr,-⟩:=ke hW hn h1.1 (by rw[←hx];exact h1.2);omega):p:=h
theorem zby {p:Prop} (h:p:=by
 obtain⟨hz0,hz1,hz2,hz3,gP,gH,hy0,hy1,hy2,hy3,hy4,gG⟩:=Has.az (fJ.out);go_wp2_with fail
 have h1:=fJ.out.ans (eQ 0) eS eS;refine bodyPost_ret (eV rfl rfl h1) rfl ?_;rw[HRR.out];exact⟨rfl,h1.drop,iI.out.ans _ _ _ _ _ _ _⟩):p:=h
theorem zbz {p:Prop} (h:p:=by
 have HRR:=hid (by rw[←HR2.out,if_pos he3]:R=(eQ e3,S));obtain⟨hz0,hz1,hz2,hz3,gP,gH,hy0,hy1,hy2,hy3,hy4,gG⟩:=Has.az (FQ.out);go_wp2_with fail
 have HC:=hid (gD e3 w5 (pt g4 zA::Trc q S::L) FQ.out);have kz:=ge;exact lv):p:=h
theorem zbA {p:Prop} (h:p:=by
 obtain⟨hz0,hz1,hz2,hz3,gP,gH,hy0,hy1,hy2,hy3,hy4,gG⟩:=Has.az (fa.out);go_wp2_with fail
 have h1:=fa.out.ans (eQ 0) eS eS;refine bodyPost_ret (eV rfl rfl h1) rfl ?_;rw[HRR.out];exact⟨rfl,h1.drop,gZ.out.ans _ _ _ _ _ _ _⟩):p:=h
theorem zbB {p:Prop} (h:p:=by
 go_wp2_with fail
 have h1:=(show Has w4 (pt g8 (.cells (rsC fp) 72)::Rtb q g c R S.ak::L) from fg.out.re 3 [2,1]).cf fp;refine bodyPost_ret (iN fp rfl rfl rfl h1) rfl ?_;rw[HR.out];exact⟨rfl,h1.drop,((fO.out.set _ _).set _ _).set _ _⟩):p:=h
theorem zbC {p:Prop} (h:p:=by
 intro y hy NW;have h1:=IF.out y hy (by omega);rw[Ba.out] at h1;rcases List.mem_append.1 h1 with h|h
 ·exact List.mem_append_left _ h
 ·rcases List.mem_cons.1 h with h|h
  ·rw[h] at NW;dsimp only at NW;omega
  ·exact List.mem_append_right _ h):p:=h
theorem zbD {p:Prop} (h:p:=by
 go_wp2_with fail
 go_meet
 exact⟨true,w1,by trivial,rfl,(fun h=>by cases h),rI,ff⟩):p:=h
theorem zbE {p:Prop} (h:p:=by
 go_wp2_with fail
 have HC:=hid (gk (2:Int) w1 (pt g4 zA::Rtb q g c R S.ak::L) (eT.out.re 3 [0,2]));have kz:=ff;exact lv):p:=h
theorem zbF {p:Prop} (h:p:=by
 have hn3:fnd (eX S.ac (i:Int) x') (j:Int)=none:=hn2;rw[fnd_putA] at hn3;by_cases e:(j:Int)=(i:Int)
 ·rw[if_pos e] at hn3;cases hn3
 ·rw[if_neg e] at hn3;rw[List.getElem?_set_ne (by omega)] at hj;exact h.gone j r2 hj hn3):p:=h
theorem zbG {p:Prop} (h:p:=by
 try dsimp only
 refine hK.out _ _ (⟨HX.out _ eZ.out,trivial⟩) ?_;clear hK K;try simp only[Act.put,zpu]
 repeat (first|refine wr2 ?_|refine wk ?_)
 refine eR ?_;go_wp2_with fail
 go_ret3
 rw[HR.out];exact⟨rfl,eZ.out.drop,fu.out⟩):p:=h
theorem zbH {p:Prop} (h:p:=by
 go_enter Tryz.func75,Tryz.ntmps75
 go_wp2
 go_ret
 exact⟨by rw[HR.out];rfl,rfl⟩):p:=h
theorem zbI {p:Prop} (h:p:=by
 intro i o ho hl;have hlt:=(Array.getElem?_eq_some_iff.1 ho).1;simp[hlt] at hl):p:=h
theorem zbJ {p:Prop} (h:p:=by
 rw[HR.out];exact⟨.slice none 0 0,rfl,HO.out.al gx 1,Keep.refl _⟩):p:=h
theorem zbK {p:Prop} (h:p:=by
 have kz:=fO;exact lv):p:=h
theorem zbL {p:Prop} (h:p:=by
 rw[e,e2];refine h5.perm ?_;refine(List.Perm.swap _ _ _).trans (.cons _ (.cons _ (.cons _ ?_)));rw[List.append_assoc];refine List.Perm.trans ?_ List.perm_middle.symm;refine .cons _ ?_;exact List.perm_middle.symm):p:=h
theorem zbM {p:Prop} (h:p:=by
 have:p.1∈rem.filter (fun y => !decide (y=n))↔p.1∈rem:=by simp[hne]
 by_cases h2:p.1∈rem
 ·rw[if_pos h2,if_pos (this.2 h2)];omega
 ·rw[if_neg h2,if_neg (fun h=>h2 (this.1 h))];omega):p:=h
theorem zbN {p:Prop} (h:p:=by
 intro i o ho hl e he hbe;by_cases hij:i=x
 ·subst hij;rw[hox] at ho;cases ho;exact getD_set_true (hall e he hbe)
 ·rw[getD_set_ne true (Ne.symm hij)] at hl;exact getD_set_true (hd i o ho hl e he hbe)):p:=h
theorem zbO {p:Prop} (h:p:=by
 have:=np.out.2.2.2;rw[List.length_append] at this;simp[intOf,lH];omega):p:=h
theorem zbP {p:Prop} (h:p:=by
 go_wp2_with fail
 go_meet
 exact⟨rfl,by trivial⟩):p:=h
theorem zbQ {p:Prop} (h:p:=by
 have:p.1∈rem.filter (fun y => !decide (y=n))↔p.1∈rem:=by simp[Ne.symm h.1]
 by_cases h2:p.1∈rem
 ·rw[if_pos h2,if_pos (this.2 h2)]
 ·rw[if_neg h2,if_neg (fun h=>h2 (this.1 h))]):p:=h
theorem zbR {p:Prop} (h:p:=by
 clear hsk HI2;go_wp2_with fail
 exact⟨⟨k+1,k+1,acc,by omega,by have:=yj.out;omega,by have:=yi.out;omega,by go_num,by go_num,HI3,HO,HK⟩,by have:=yj.out;simp[intOf];omega⟩):p:=h
theorem zbS {p:Prop} (h:p:=by
 exact hpw.sublist (List.Sublist.append_left (List.sublist_cons_self _ _) _)):p:=h
theorem zbT {p:Prop} (h:p:=by
 clear hstop;go_wp2_with fail
 refine st (zt _ out _ _ HL.out Ps.out) (HK.out) fun w2 eZ fu=>?_;try dsimp only
 go_wp2_with fail
 go_ret
 rw[←HE.out];exact⟨_,rfl,eZ.out,fu.out⟩):p:=h
theorem zbU {p:Prop} (h:p:=by
 refine h5.turn (fun k _ hk=>?_) ?_
 ·simp[Sort.putRow,Sort.mapBlock,Array.getElem?_modify,Ne.symm hk]
 ·simp[Sort.putRow,Sort.mapBlock,Array.getElem?_modify,h5.lookup,Sort.onCells]):p:=h
theorem zbV {p:Prop} (h:p:=by
 unfold Oper.wp execOp;simp only[ho,resolve,invoke,builtin,Sem.run_bind,Sem.run_pure,Result.andThen_ok,List.map_toArray,List.map_cons,List.map_nil,hs,hx,hrun];exact h v' w' h2 h3):p:=h
theorem zbW {p:Prop} (h:p:=by
 cases nm with
 | none =>
  have h1:=(Has.aC.1 hP.drop.drop.drop).1;rw[h1];simp[Builtin.len_,run_underlying jg];rfl
 | some mm=>exact Mk.len hP.drop.drop.drop jg _):p:=h
theorem zbX {p:Prop} (h:p:=by
 obtain⟨_,h|⟨g',c',cur,e,_⟩⟩:=hO.ao
 ·cases h.1
 ·simp at e;exact e.1.2):p:=h
theorem zbY {p:Prop} (h:p:=by
 rw[h];have ht2:tmps[p]?.getD undef=.pointer (some ⟨r,0,none⟩):=by rw[←ht];simp
 have he2:tmps[p2]?.getD undef=e:=by rw[←he];simp
 clear hO h ht he;go_simp):p:=h
theorem zbZ {p:Prop} (h:p:=by
 go_wp2_with fail
 go_ret3
 exact⟨⟨_,rfl⟩,rfl⟩):p:=h
theorem zb0 {p:Prop} (h:p:=by
 go_wp2_with fail
 have h1:=(HO.out.alloc (.cells (ji (eQ e) eS eS) 38))
 refine bodyPost_ret (eV rfl rfl h1) rfl ?_;exact⟨rfl,h1.drop,(Keep.refl w).alloc _⟩):p:=h
theorem zb1 {p:Prop} (h:p:=by
 rintro c m ⟨u,hu,hu2⟩;rw[hf];by_cases hc:c=d
 ·rw[if_pos hc];rw[hc,hd] at hu;cases hu;exact⟨_,rfl,hu2⟩
 ·rw[if_neg hc];exact⟨u,hu,hu2⟩):p:=h
theorem zb2 {p:Prop} (h:p:=by
 rw[if_pos h];exact gN _):p:=h
theorem zb3 {p:Prop} (h:p:=by
 try dsimp only
 unfold spV spC;go_wp2_with fail
 go_meet
 exact⟨_,_,rfl,rfl,rfl,hid ((eZ.out.alloc (.cells (spC s2) 102)).re 3 [0,2,1]),hid (fu.out.alloc _)⟩):p:=h
theorem zb4 {p:Prop} (h:p:=by
 rw[List.getElem?_map,List.getElem?_range hi,Option.map_some,at_,List.getElem?_append_left (by omega),List.getElem?_map,List.getElem?_eq_getElem (by omega)];simp):p:=h
theorem zb5 {p:Prop} (h:p:=by
 go_wp2_with fail
 exact⟨⟨k+1,acc,by have:=gW.out;omega,by have:=yi.out;omega,by go_num,HP2,HO,HK⟩,by have:=gW.out;simp[intOf];omega⟩):p:=h
theorem zb6 {p:Prop} (h:p:=by
 have hleft:=Mr.left fI.out;clear fq gu fP hen tz;go_wp2_with fail
 exact⟨⟨_,_,by rw[HST.out],fI,gZ⟩,by rw[hleft,A8.out];exact Iw.out⟩):p:=h
theorem zb7 {p:Prop} (h:p:=by
 intro v' w' kC hK';have oc:=hid kC;have qy:=hid hK';clear kC hK';go_wp2_with fail
 go_end0
 exact⟨rfl,oc.out.drop,(HK.out.alloc _).trans qy.out⟩):p:=h
theorem zb8 {p:Prop} (h:p:=by
 simp only[Has.aY,Has.aH,List.cons_append,List.nil_append,Has.aC]):p:=h
theorem zb9 {p:Prop} (h:p:=by
 intro e;have Ij:td=y:=by rw[e,hy] at htd;exact(Option.some.inj htd).symm
 have:=hemp (by rw[←Ij];exact oS);rw[Ij,this] at htc;cases htc):p:=h
theorem zca {p:Prop} (h:p:=by
 unfold fnd at *;rw[List.find?_append];generalize S.ac.find? (fun p=>decide (p.1=s.dir))=o at *;cases o with
 | none=>cases hd
 | some v=>exact hd):p:=h
theorem zcb {p:Prop} (h:p:=by
 exact⟨rfl,HO.out,Keep.refl _⟩):p:=h
theorem zcc {p:Prop} (h:p:=by
 intro e;have Ij:d=y:=by rw[e,hy] at hd;exact(Option.some.inj hd).symm
 have:=hemp (by rw[←Ij];exact hd2);rw[Ij,this] at hc;cases hc):p:=h
theorem zcd {p:Prop} (h:p:=by
 refine h.no y (fun hm=>hy ?_) z;obtain⟨p,hp,rfl⟩:=List.mem_map.1 hm;exact List.mem_map_of_mem (List.mem_filter.2 ⟨hp,by simpa using e⟩)):p:=h
theorem zce {p:Prop} (h:p:=by
 go_wp2_with fail
 go_ret
 exact FIN.out _ (by rw[HM.out,H0.out,H1.out,H2.out,H3.out,H4.out,H5.out,H6.out] <;> first|rfl|simp|(simp;omega))):p:=h
theorem zcf {p:Prop} (h:p:=by
 intro i w;rcases i with ⟨i,hi⟩;rcases i with _|_|_|_|_|_|_|_|_|_|_|_|i
 all_goals first|(exfalso;omega)|kernel_rfl):p:=h
theorem zcg {p:Prop} (h:p:=by
 split
 ·exact gN _
 ·split
  ·exact gN _
  ·split <;> exact gN _):p:=h
theorem zch {p:Prop} (h:p:=by
 go_wp2_with fail
 go_ret2
 rw[io.out,fW.out.1];exact⟨rfl,eY.2 ⟨m,f,P,fW.out,fQ.2 (fi.out.perm (.swap _ _ _))⟩,HK.out⟩):p:=h
theorem zci {p:Prop} (h:p:=by
 exact jM k (by simp) (by omega) (fun hne=>by omega)):p:=h
theorem zcj {p:Prop} (h:p:=by
 go_wp2_with fail
 exact⟨⟨trivial,j+1,_,by go_num,by have:=Hh.out;omega,rfl,FF⟩,by have:=Hh.out;simp[intOf];omega⟩):p:=h
theorem zck {p:Prop} (h:p:=by
 rintro e w' ⟨dv,h1,h2,h3⟩;rw[hkd] at h1 h2;exact⟨dv,eS,h1,by rw[le];exact(h2.al gx 1).re 3 [1,0,2],h3⟩):p:=h
theorem zcl {p:Prop} (h:p:=by
 go_wp2_with fail
 go_meet
 exact⟨_,s2,rfl,fq,gu,HR3,HB,hid (fun h=>by cases h),hid (fun _=>⟨x,HX.out,FR.out⟩)⟩):p:=h
theorem zcm {p:Prop} (h:p:=by
 refine bodyPost_ret (iN fp rfl rfl rfl h1) rfl ?_;rw[HR.out];exact⟨rfl,h1.drop,((ff.out.set _ _).set _ _).set _ _⟩):p:=h
theorem zcn {p:Prop} (h:p:=by
 repeat (first|refine wr3 ?_|refine wk ?_)
 refine eR ?_;go_wp2_with fail
 go_meet
 exact⟨by rw[HE.out],_,rfl,fq,gu⟩):p:=h
theorem zco {p:Prop} (h:p:=by
 rw[ft ((x.data.length:Int)-(F:Int)) (by omega),MT];exact ft _ (by have h1:=DT.out;have h2:=HM.out;omega)):p:=h
theorem zcp {p:Prop} (h:p:=by
 subst hij;have hl:(listed.setIfInBounds i true).getD i true=true:=by
  simp[show i<listed.size by omega]
 simp[GS.1,hl]):p:=h
theorem zcq {p:Prop} (h:p:=by
 go_wp2
 go_ret
 exact⟨_,rfl,HO.out.al _ _,Keep.refl _,rfl⟩):p:=h
theorem zcr {p:Prop} (h:p:=by
 constructor
 ·intro h;exact h.perm (List.Perm.append_right L hp)
 ·intro h;exact h.perm (List.Perm.append_right L hp).symm):p:=h
theorem zcs {p:Prop} (h:p:=by
 simp only[hi,Bool.and_eq_true] at h1;intro e he hb;have:=Array.all_eq_true_iff_forall_mem.1 h1.1 e he;simpa[hb] using this):p:=h
theorem zct {p:Prop} (h:p:=by
 exact⟨this.1,this.2.1,this.2.2.1,by omega⟩):p:=h
theorem zcu {p:Prop} (h:p:=by
 simp only[Has.aY,Has.bw,Has.aC]):p:=h
theorem zcv {p:Prop} (h:p:=by
 rw[if_pos (by simp[h3]),if_pos (by simp[h3])]):p:=h
theorem zcw {p:Prop} (h:p:=by
 have:¬ (fc o.af 32=0):=fun h=>hbad (.inr (.inr ⟨by simpa[fc] using hb5,h⟩));simpa[fc] using this):p:=h
theorem zcx {p:Prop} (h:p:=by
 exact⟨H.aa,H.file,H.ai,H.uniq,H.size,H.root,fun _=>H.ah hn,fun _=>H.above hn,fun _=>H.loose hn⟩):p:=h
theorem zcy {p:Prop} (h:p:=by
 rw[if_pos h6];rw[h6,hd] at hu;cases hu;exact⟨_,rfl,rfl⟩):p:=h
theorem zcz {p:Prop} (h:p:=by
 rintro e w' ⟨h1,h2,h3⟩;try rw[hkd] at h1 h2
 exact⟨eS,eS,h1,hI (j9 _ _ _ _ _) h2,h3⟩):p:=h
theorem zcA {p:Prop} (h:p:=by
 rintro e w' ⟨h1,h2,h3⟩;try rw[hkd] at h1 h2
 exact⟨eS,eS,h1,hI (jD _ _ _) h2,h3⟩):p:=h
theorem zcB {p:Prop} (h:p:=by
 refine eP (fun w'=>w'.cell? ⟨q,0,none⟩=some (.map (some m))∧w'.cell? ⟨g5,0,none⟩=some (.int .i64 s'.ae)∧w'.cell? ⟨g3,4,none⟩=some (.int .i64 o.af)∧w'.cell? ⟨b,0,none⟩=some (.int .i64 x.aa)∧(Instr.lookup tNo (.map (some m)) (.int .i64 s'.ae) false).run Tryz.prog w'=.ok (.pointer (some ⟨b,0,none⟩)) w') (by kernel_rfl) (by kernel_rfl) ⟨hq0,hg0,hf4,hcb0,hl⟩ ?_;repeat (first|refine wr5 ?_|refine wk ?_)
 refine eR ?_;go_wp2_with fail
 go_meet
 exact⟨rfl,by rw[HB2.out]⟩):p:=h
theorem zcC {p:Prop} (h:p:=by
 rw[ew,e4,e3];clear HO ew e4 e3;have hp0:=eT.out.p1.e0;have hp1:=eT.out.p1.e1;have hp2:=eT.out.p1.e2;have hp3:=eT.out.p1.e3;have lP:=eT.out.p1.e4;have iK:=eT.out.p1.e5;have kI:=eT.out.p1.e6;have lU:=eT.out.p1.e7;go_wp2_with fail
 refine(HX.out w1 _ (eT.out.re 3 [2,0,1])).mono ?_;exact zak):p:=h
theorem zcD {p:Prop} (h:p:=by
 go_enter Tryz.func16,Tryz.ntmps16
 go_upto_region 1 with fail
 obtain⟨w1,g3,g4,ew,e4,e3,eT,ff⟩:=f9 HO.out ⟨1,fd,n,off,af,ag,aj⟩ ov;rw[ew,e4,e3];clear HO ew e4 e3;have hp0:=eT.out.p1.e0;have hp1:=eT.out.p1.e1;have hp2:=eT.out.p1.e2;have hp3:=eT.out.p1.e3;have lP:=eT.out.p1.e4;have iK:=eT.out.p1.e5;have kI:=eT.out.p1.e6;have lU:=eT.out.p1.e7;go_wp2_with fail
 refine st (HX.out w1 _ ((HM.out.cons (pt g3 (.cells #[.int .i64 1,.int .i64 fd,.int .i64 n,.int .i64 off,.int .i64 af,sV ag,sV aj,ov] 33))).cons (pt g4 (.cells #[.int .i64 0,.int .i64 0,.int .i64 0,.int .i64 0,eS,eS] 38))) (eT.out.re 3 [2,0,1])) (ff.out) fun w2 eZ fu=>?_;exact zan):p:=h
theorem zcE {p:Prop} (h:p:=by
 try dsimp only
 have eW:=hid eZ.out.vd;obtain⟨hz0,hz1,hz2,hz3,gP,gH,hy0,hy1,hy2,hy3,hy4,gG⟩:=Has.az (eW.out);unfold fL ji;go_wp2_with fail
 have h1:=eW.out.ans R eS eS;exact zay):p:=h
theorem zcF {p:Prop} (h:p:=by
 go_wp2_with fail
 refine(gk (2:Int) w1 _ (eT.out.re 3 [0,2])).mono ?_;rintro e w9 ⟨rfl,mU,hK9⟩;have fJ:=hid (show Has w9 (pt g4 zA::Rtb q g c R S.ak::L) from mU);have gQ:=hid ((ff.out).trans hK9);clear mU hK9;unfold fL ji eQ;obtain⟨hz0,hz1,hz2,hz3,gP,gH,hy0,hy1,hy2,hy3,hy4,gG⟩:=Has.az (fJ.out);go_wp2_with fail
 have h1:=fJ.out.ans (eQ (2:Int)) eS eS;exact zdc):p:=h
theorem zcG {p:Prop} (h:p:=by
 have iI:=hid (gZ.out.trans hk8);clear h8 hk8;refine hK.out _ _ trivial ?_;clear hK K;try simp only[Act.put,zpu]
 repeat (first
  | (refine ig (by rfl) (by rfl) ?_ ?_ ?_;rotate_left;(intro w hS;go_simp;with_reducible rfl);simp only[Act.put,zpu])|(refine iB (by rfl) ?_;simp only[Act.put,zpu]))
 refine eR ?_;obtain⟨p8,c8,DG,-⟩:=(Ents.rd fI.out).form;rw[NU.out] at DG;subst DG;go_wp2_with fail
 go_meet
 exact⟨_,_,_,rfl,rfl,fI,iI⟩):p:=h
theorem zcH {p:Prop} (h:p:=by
 have HRR:=hid (by rw[←HR.out,if_pos he]:R=(eQ e2,S));obtain⟨hz0,hz1,hz2,hz3,gP,gH,hy0,hy1,hy2,hy3,hy4,gG⟩:=Has.az (fa.out);go_wp2_with fail
 have HC:=hid (gD e2 w3 (pt g4 zA::Trc q S::L) fa.out);exact zaY):p:=h
theorem zcI {p:Prop} (h:p:=by
 have hb1:¬ o.af<0:=fun h=>hbad (.inl h);have hb2:¬ o.af ≥ 64:=fun h=>hbad (.inr (.inl h));by_cases hb5:(bits BinOp.and IntKind.i64 o.af 12 != 0)=true
 ·have hb6:(bits BinOp.and IntKind.i64 o.af 32==0)=false:=by
   exact zcw
  exact zaH
 ·have Ou:(bits BinOp.and IntKind.i64 o.af 12 != 0)=false:=by simpa using hb5
  exact zaH):p:=h
theorem zcJ {p:Prop} (h:p:=by
 have rI:=hid eT.out.ve;obtain⟨hz0,hz1,hz2,hz3,gP,gH,hy0,hy1,hy2,hy3,hy4,gG⟩:=Has.az (rI.out);go_wp2_with fail
 have h1:=(rI.out).ans (eQ 0) (eS) (eS);refine bodyPost_ret (eV rfl rfl h1) rfl ?_;rw[HR.out];exact⟨eS,eS,rfl,hI (gN _) (fh.2 ⟨g,c,R,HS.out,h1.drop⟩),ff.out.ans _ _ _ _ _ _ _⟩):p:=h
theorem zcK {p:Prop} (h:p:=by
 rw[ew,e4,e3];clear HO ew e4 e3;have hp0:=eT.out.p1.e0;have hp1:=eT.out.p1.e1;have hp2:=eT.out.p1.e2;have hp3:=eT.out.p1.e3;have lP:=eT.out.p1.e4;have iK:=eT.out.p1.e5;have kI:=eT.out.p1.e6;have lU:=eT.out.p1.e7;go_wp2_with fail
 refine(HX.out w1 _ (fun w' h=>ir.out w' h.drop.drop) (eT.out.re 3 [2,0,1])).mono ?_;exact zak):p:=h
theorem zcL {p:Prop} (h:p:=by
 subst hij;have hni:i∉r1++r2:=by
  have:=List.nodup_append.1 hnd;intro hm;rcases List.mem_append.1 hm with hm|hm
  ·exact this.2.2 i hm i (by simp) rfl
  ·exact(List.nodup_cons.1 this.2.1).1 hm
 have hl:(listed.setIfInBounds i true).getD i true=true:=by
  simp[show i<listed.size by omega]
 simp[hni,hl]):p:=h
theorem zcM {p:Prop} (h:p:=by
 go_wp2_with fail
 go_meet
 exact⟨rfl,by rw[HB2.out]⟩):p:=h
theorem zcN {p:Prop} (h:p:=by
 have EZ:=hid Dn;rw[Dn] at fI;clear Dn;go_wp2_with fail
 refine⟨⟨i+1,p8,c8,_,_,by trivial,by have:=gW.out;omega,by rw[←EZ.out],by go_num,hid ⟨?_,Ax.out⟩,fI,iI⟩,by have:=gW.out;simp[intOf];omega⟩;rw[jU.out];exact PE.out):p:=h
theorem zcO {p:Prop} (h:p:=by
 go_wp2_with fail
 refine(HP.out).mono ?_;rintro e w1 ⟨v1,rfl,iq,hK1⟩;have eT:=hid iq;have ff:=hid ((Keep.refl w).trans hK1);clear iq hK1;try dsimp only
 obtain⟨p1,c1,e1,-⟩:=(Strs.rd eT.out).form;subst e1;try dsimp only
 exact zbi):p:=h
theorem zcP {p:Prop} (h:p:=by
 clear hK K;try simp only[Act.put,zpu]
 repeat (first|refine wr2 ?_|refine wk ?_)
 refine eR ?_;go_wp2_with fail
 have HC:=hid (gk (10:Int) w2 (pt g4 zA::Rtb q g c R S.ak::L) (mt.out.re 3 [0,2]));have kz:=tY;exact lv):p:=h
theorem zcQ {p:Prop} (h:p:=by
 go_wp2_with fail
 refine(HP.out).mono ?_;rintro e w1 ⟨v1,rfl,iq,hK1⟩;have eT:=hid iq;have ff:=hid ((Keep.refl w).trans hK1);clear iq hK1;try dsimp only
 obtain⟨p1,c1,e1,-⟩:=(Strs.rd eT.out).form;subst e1;exact zbi):p:=h
theorem zcR {p:Prop} (h:p:=by
 go_wp2_with fail
 have HC:=hid (gD (15:Int) w3 (pt g4 zA::Trb q m f P S.last S.ak::L) fa.out);exact zaY):p:=h
theorem zcS {p:Prop} (h:p:=by
 go_wp2_with fail
 go_ret
 rw[HR.out];exact za6):p:=h
theorem zcT {p:Prop} (h:p:=by
 have:=la hd hA (fun o ho e he hbe=>by
  rw[hoj] at ho;cases ho;exact hall e he hbe)
 exact za0):p:=h
theorem zcU {p:Prop} (h:p:=by
 have HR:=hid (by rw[jj.out,if_pos he]:RR=(eQ pe,S));exact zaD):p:=h
theorem zcV {p:Prop} (h:p:=by
 go_upto_region 1 with fail
 obtain⟨w1,g3,g4,ew,e4,e3,eT,ff⟩:=f9 HO.out o ov;exact zaj):p:=h
theorem zcW {p:Prop} (h:p:=by
 obtain⟨hz0,hz1,hz2,hz3,gP,gH,hy0,hy1,hy2,hy3,hy4,gG⟩:=Has.az (fa.out);go_wp2_with fail
 have HC:=hid (gD (e2:Int) w3 (pt g4 zA::Trc q S::L) fa.out);exact zaY):p:=h
theorem zcX {p:Prop} (h:p:=by
 obtain⟨hz0,hz1,hz2,hz3,gP,gH,hy0,hy1,hy2,hy3,hy4,gG⟩:=Has.az (fa.out);go_wp2_with fail
 have HC:=hid (gD (5:Int) w3 (pt g4 zA::Trc q S::L) fa.out);exact zaY):p:=h
theorem zcY {p:Prop} (h:p:=by
 obtain⟨hz0,hz1,hz2,hz3,gP,gH,hy0,hy1,hy2,hy3,hy4,gG⟩:=Has.az (fa.out);go_wp2_with fail
 have HC:=hid (gD (7:Int) w4 (pt g4 zA::Trc q S::L) fa.out);exact zbK):p:=h
theorem zcZ {p:Prop} (h:p:=by
 go_wp2_with fail
 go_ret
 rw[HF.out];exact za6):p:=h
theorem zc0 {p:Prop} (h:p:=by
 have HRR:=hid (by rw[←HR.out,if_pos (.inl hb1)]:R=(eQ 2,S))
 skip
 exact zav):p:=h
theorem zc1 {p:Prop} (h:p:=by
 have HRR:=hid (by rw[←HR.out,if_pos (.inr hb2)]:R=(eQ 2,S))
 skip
 exact zav):p:=h
theorem zc2 {p:Prop} (h:p:=by
 go_enter Tryz.func178,Tryz.ntmps178
 go_wp2
 go_ret2
 exact za6):p:=h
theorem zc3 {p:Prop} (h:p:=by
 go_enter Tryz.func145,Tryz.ntmps145
 go_wp2_with fail
 refine(HZ.out w).mono ?_;rintro e w' ⟨rfl,rfl⟩;try dsimp only
 go_wp2_with fail
 go_ret2
 exact za8):p:=h
theorem zc4 {p:Prop} (h:p:=by
 go_enter Tryz.func137,Tryz.ntmps137
 go_wp2_with fail
 refine(HZ.out w).mono ?_;rintro e w' ⟨rfl,rfl⟩;try dsimp only
 go_wp2_with fail
 go_ret3
 exact za8):p:=h
theorem zc5 {p:Prop} (h:p:=by
 go_wp2_with fail
 go_meet
 exact⟨rfl,rfl⟩):p:=h
theorem zc6 {p:Prop} (h:p:=by
 unfold pnC;rw[List.map_append,List.map_cons,List.map_append];simp only[List.append_assoc,List.cons_append];exact List.perm_middle):p:=h
theorem zc7 {p:Prop} (h:p:=by
 split
 ·exact gN _
 ·split
  ·exact gN _
  ·exact za6):p:=h
theorem zc8 {p:Prop} (h:p:=by
 cases e with
 | returned u=>exact key _ _ ⟨u,a.defers,rfl⟩ he
 | panicked c=>exact he
 | outgrown=>exact he):p:=h
theorem zc9 {p:Prop} (h:p:=by
 go_wp2_with fail
 refine st (HF.out w1 _ BA.out (eT.out.re 3 [2,0,1])) (ff.out) fun w2 eZ fu=>?_;exact zbq):p:=h
theorem zda {p:Prop} (h:p:=by
 have HC:=hid (gk (pe) w3 (pt g4 zA::Rtb q g c R S.ak::L) (eW.out.re 4 [1,3]));have kz:=fH;exact lv):p:=h
theorem zdb {p:Prop} (h:p:=by
 rw[ew,e4,e3];clear HO ew e4 e3;have hp0:=eT.out.p1.e0;have hp1:=eT.out.p1.e1;have hp2:=eT.out.p1.e2;have hp3:=eT.out.p1.e3;have lP:=eT.out.p1.e4;have iK:=eT.out.p1.e5;have kI:=eT.out.p1.e6;have lU:=eT.out.p1.e7;go_wp2_with fail
 refine st (HX.out w1 _ (eT.out.re 3 [2,0,1])) (ff.out) fun w2 eZ fu=>?_;exact zcE):p:=h
theorem zdc {p:Prop} (h:p:=by
 refine bodyPost_ret (eV rfl rfl h1) rfl ?_;rw[HR.out];exact⟨eS,eS,rfl,hI (gN _) (fh.2 ⟨g,c,R,HS.out,h1.drop⟩),gQ.out.ans _ _ _ _ _ _ _⟩):p:=h
